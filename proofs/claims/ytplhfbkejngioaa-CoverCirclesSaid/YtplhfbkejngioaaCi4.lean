/- Texts of this claim's session, put together: X21, X22, X25, X26, X27a. -/
import Derived.Test.YtplhfbkejngioaaBd0
import Derived.Test.YtplhfbkejngioaaBd4
import Derived.Test.YtplhfbkejngioaaBd13
import Derived.Test.YtplhfbkejngioaaCi1
import Derived.Test.YtplhfbkejngioaaCi2
import Derived.Test.YtplhfbkejngioaaUWords
import Derived.Test.YtplhfbkejngioaaULast
import Derived.Test.YtplhfbkejngioaaUTab
import Derived.Test.YtplhfbkejngioaaURepsOne
namespace Go.Proofs.Ytplhfbkejngioaa.X
open Go.RowKit Go.Proofs.YtplhfbkejngioaaW.PrintWords Go.Proofs.YtplhfbkejngioaaW.PrintLast Go.Proofs.Ytplhfbkejngioaa.S
attribute [local go_sem] max2_int min2_int max_two min_two
set_option linter.unusedVariables false
set_option linter.unusedSimpArgs false
def tickingref01_Point.f (a0_0 : Int) (a0_1 : Int) : Option (Bool) := (tickingref01_Inside.f a0_0).bind fun t480 => (if t480 = true then ((tickingref01_Inside.f a0_1).bind fun t481 => (some t481)) else (some false))
set_option maxHeartbeats 8000000 in
set_option maxRecDepth 100000 in
theorem tickingref01_Point.calls (a0_0 : Int) (a0_1 : Int) (r : Bool) (w : World) (h : tickingref01_Point.f a0_0 a0_1 = some r) :
  Calls Try.prog 32 #[.agg #[.int .i64 a0_0, .int .i64 a0_1]] w fun e w' => e = .returned (.bool r) ∧ Below w.heap.size w w' := by
 have hu28 := Try.underlying28
 have HB := Aside0.mk (Below.refl w.heap.size w)
 have H : ((tickingref01_Inside.f a0_0).bind fun t480 => (if t480 = true then ((tickingref01_Inside.f a0_1).bind fun t481 => (some t481)) else (some false))) = some r := h
 clear h
 replace H := Option.bind_eq_some_iff.mp H
 obtain ⟨t480, A20, H⟩ := H
 replace H : (if t480 = true then ((tickingref01_Inside.f a0_1).bind fun t481 => (some t481)) else (some false)) = some r := H
 have A2 := Aside0.mk A20
 clear A20
 by_cases c3 : t480 = true
 ·subst c3
  have H1 : ((tickingref01_Inside.f a0_1).bind fun t481 => (some t481)) = some r := by rw [if_pos rfl] at H; exact H
  clear H
  have H := H1
  clear H1
  replace H := Option.bind_eq_some_iff.mp H
  obtain ⟨t481, A40, H⟩ := H
  replace H : (some t481) = some r := H
  have A4 := Aside0.mk A40
  clear A40
  obtain rfl := Option.some.inj H
  go_enter Try.func32, Try.ntmps32
  go_wp2_with (first | ((with_reducible refine gate_dst (N := 1) rfl ?_); refine bxE 1 #[.int .i64 a0_0, .int .i64 a0_1] 28 ?_; intro gb479 hg w5 hbox hb; have n0_ := Aside0.mk (below_step HBz hb); have n1_ := Aside0.mk (hbox); have n2_ := Aside0.mk ((by rw [hg]; exact (below_size HBz) : w.heap.size ≤ gb479)); have n3_ := Aside0.mk ((by rw [hg]; exact (below_size HBz) : w.heap.size ≤ gb479)); clear HB; have HB := n0_; have BK479 := n1_; have GW479 := n2_; have GE479 := n3_; clear n0_ n1_ n2_ n3_; clear hb hbox hg; have hcz6_0 : w5.cell? ⟨gb479, 0, none⟩ = some (.int .i64 a0_0) := (blk_cell BK479.out 0).trans rfl; have hcz6_1 : w5.cell? ⟨gb479, 1, none⟩ = some (.int .i64 a0_1) := (blk_cell BK479.out 1).trans rfl; have hfz6_0 := blk_frozen BK479.out 0; have hfz6_1 := blk_frozen BK479.out 1) | ((with_reducible refine gate_callee (f := 60) rfl ?_); refine goesL_ (some 5) rfl rfl Try.func60 (by kernel_rfl) rfl #[.int .i64 a0_0] rfl (by (try simp only [List.map_toArray, List.map_cons, List.map_nil]); first | done | rfl | (simp only [List.length_drop, List.length_take]; rfl)) ?_; (with_reducible refine (tickingref01_Inside.calls a0_0 true _ A2.out).mono ?_); rintro e w' ⟨rfl, ⟨nd, rfl⟩⟩; refine ⟨_, rfl, ?_⟩) | (go_at_call 60; (with_reducible refine (tickingref01_Inside.calls a0_1 t481 _ A4.out).mono ?_); rintro e w' ⟨rfl, ⟨nd, rfl⟩⟩))
  go_ret
  exact ⟨by first | rfl | (simp [errW_none, errW_some] <;> rfl) | (simp [*, errW_none, errW_some] <;> rfl), HBz⟩
 ·replace c3 := Bool.eq_false_iff.mpr c3
  subst c3
  have H1 : (some false) = some r := by rw [if_neg (show ¬ (false = true) by decide)] at H; exact H
  clear H
  have H := H1
  clear H1
  obtain rfl := Option.some.inj H
  go_enter Try.func32, Try.ntmps32
  go_wp2_with (first | ((with_reducible refine gate_dst (N := 1) rfl ?_); refine bxE 1 #[.int .i64 a0_0, .int .i64 a0_1] 28 ?_; intro gb479 hg w7 hbox hb; have n0_ := Aside0.mk (below_step HBz hb); have n1_ := Aside0.mk (hbox); have n2_ := Aside0.mk ((by rw [hg]; exact (below_size HBz) : w.heap.size ≤ gb479)); have n3_ := Aside0.mk ((by rw [hg]; exact (below_size HBz) : w.heap.size ≤ gb479)); clear HB; have HB := n0_; have BK479 := n1_; have GW479 := n2_; have GE479 := n3_; clear n0_ n1_ n2_ n3_; clear hb hbox hg; have hcz8_0 : w7.cell? ⟨gb479, 0, none⟩ = some (.int .i64 a0_0) := (blk_cell BK479.out 0).trans rfl; have hcz8_1 : w7.cell? ⟨gb479, 1, none⟩ = some (.int .i64 a0_1) := (blk_cell BK479.out 1).trans rfl; have hfz8_0 := blk_frozen BK479.out 0; have hfz8_1 := blk_frozen BK479.out 1) | ((with_reducible refine gate_callee (f := 60) rfl ?_); refine goesL_ (some 5) rfl rfl Try.func60 (by kernel_rfl) rfl #[.int .i64 a0_0] rfl (by (try simp only [List.map_toArray, List.map_cons, List.map_nil]); first | done | rfl | (simp only [List.length_drop, List.length_take]; rfl)) ?_; (with_reducible refine (tickingref01_Inside.calls a0_0 false _ A2.out).mono ?_); rintro e w' ⟨rfl, ⟨nd, rfl⟩⟩; refine ⟨_, rfl, ?_⟩))
  go_ret
  exact ⟨by first | rfl | (simp [errW_none, errW_some] <;> rfl) | (simp [*, errW_none, errW_some] <;> rfl), HBz⟩
def tickingref01_Far.f (a0_0 : Int) (a0_1 : Int) (a0_2 : Int) (a0_3 : Int) (a1_0 : Int) (a1_1 : Int) : Option (Int) := some (wrap64 ((wrap64 ((wrap64 ((wrap64 (a1_0 * a0_2)) - a0_0)) * (wrap64 ((wrap64 (a1_0 * a0_2)) - a0_0)))) + (wrap64 ((wrap64 ((wrap64 (a1_1 * a0_2)) - a0_1)) * (wrap64 ((wrap64 (a1_1 * a0_2)) - a0_1))))))
set_option maxHeartbeats 8000000 in
set_option maxRecDepth 100000 in
theorem tickingref01_Far.calls (a0_0 : Int) (a0_1 : Int) (a0_2 : Int) (a0_3 : Int) (a1_0 : Int) (a1_1 : Int) (r : Int) (w : World) (h : tickingref01_Far.f a0_0 a0_1 a0_2 a0_3 a1_0 a1_1 = some r) :
  Calls Try.prog 33 #[.agg #[.int .i64 a0_0, .int .i64 a0_1, .int .i64 a0_2, .int .i64 a0_3], .agg #[.int .i64 a1_0, .int .i64 a1_1]] w fun e w' => e = .returned (.int .i64 r) ∧ Below w.heap.size w w' := by
 have hu40 := Try.underlying40
 have hu28 := Try.underlying28
 have HB := Aside0.mk (Below.refl w.heap.size w)
 have H : (some (wrap64 ((wrap64 ((wrap64 ((wrap64 (a1_0 * a0_2)) - a0_0)) * (wrap64 ((wrap64 (a1_0 * a0_2)) - a0_0)))) + (wrap64 ((wrap64 ((wrap64 (a1_1 * a0_2)) - a0_1)) * (wrap64 ((wrap64 (a1_1 * a0_2)) - a0_1))))))) = some r := h
 clear h
 obtain rfl := Option.some.inj H
 go_enter Try.func33, Try.ntmps33
 go_wp2_with (first | ((with_reducible refine gate_dst (N := 2) rfl ?_); refine bxE 2 #[.int .i64 a0_0, .int .i64 a0_1, .int .i64 a0_2, .int .i64 a0_3] 40 ?_; intro gb482 hg w3 hbox hb; have n0_ := Aside0.mk (below_step HBz hb); have n1_ := Aside0.mk (hbox); have n2_ := Aside0.mk ((by rw [hg]; exact (below_size HBz) : w.heap.size ≤ gb482)); have n3_ := Aside0.mk ((by rw [hg]; exact (below_size HBz) : w.heap.size ≤ gb482)); clear HB; have HB := n0_; have BK482 := n1_; have GW482 := n2_; have GE482 := n3_; clear n0_ n1_ n2_ n3_; clear hb hbox hg) | ((with_reducible refine gate_dst (N := 3) rfl ?_); refine bxE 3 #[.int .i64 a1_0, .int .i64 a1_1] 28 ?_; intro gb483 hg w4 hbox hb; have n0_ := Aside0.mk (blk_below (g := gb482) BKz hb); have n1_ := Aside0.mk (below_step HBz hb); have n2_ := Aside0.mk (hbox); have n3_ := Aside0.mk ((by rw [hg]; exact (below_size HBz) : w.heap.size ≤ gb483)); have n4_ := Aside0.mk ((by rw [hg]; exact (below_size HBz) : w.heap.size ≤ gb483)); have n5_ := Aside0.mk ((by rw [hg]; exact Nat.ne_of_lt (blk_lt (g := gb482) BKz) : gb482 ≠ gb483)); have n6_ := Aside0.mk ((by rw [hg]; exact Nat.ne_of_gt (blk_lt (g := gb482) BKz) : gb483 ≠ gb482)); clear BK482; clear HB; have BK482 := n0_; have HB := n1_; have BK483 := n2_; have GW483 := n3_; have GE483 := n4_; have NB482_483 := n5_; have NB483_482 := n6_; clear n0_ n1_ n2_ n3_ n4_ n5_ n6_; clear hb hbox hg; have hnb5 := NB483_482.out; have hnc5 := NB482_483.out; have hcz6_0 : w4.cell? ⟨gb483, 0, none⟩ = some (.int .i64 a1_0) := (blk_cell BK483.out 0).trans rfl; have hcz6_1 : w4.cell? ⟨gb483, 1, none⟩ = some (.int .i64 a1_1) := (blk_cell BK483.out 1).trans rfl; have hfz6_0 := blk_frozen BK483.out 0; have hfz6_1 := blk_frozen BK483.out 1; have hcz7_0 : w4.cell? ⟨gb482, 0, none⟩ = some (.int .i64 a0_0) := (blk_cell BK482.out 0).trans rfl; have hcz7_1 : w4.cell? ⟨gb482, 1, none⟩ = some (.int .i64 a0_1) := (blk_cell BK482.out 1).trans rfl; have hcz7_2 : w4.cell? ⟨gb482, 2, none⟩ = some (.int .i64 a0_2) := (blk_cell BK482.out 2).trans rfl; have hcz7_3 : w4.cell? ⟨gb482, 3, none⟩ = some (.int .i64 a0_3) := (blk_cell BK482.out 3).trans rfl; have hfz7_0 := blk_frozen BK482.out 0; have hfz7_1 := blk_frozen BK482.out 1; have hfz7_2 := blk_frozen BK482.out 2; have hfz7_3 := blk_frozen BK482.out 3))
 repeat (go_quiet (first | ((with_reducible refine gate_dst (N := 2) rfl ?_); refine bxE 2 #[.int .i64 a0_0, .int .i64 a0_1, .int .i64 a0_2, .int .i64 a0_3] 40 ?_; intro gb482 hg w3 hbox hb; have n0_ := Aside0.mk (below_step HBz hb); have n1_ := Aside0.mk (hbox); have n2_ := Aside0.mk ((by rw [hg]; exact (below_size HBz) : w.heap.size ≤ gb482)); have n3_ := Aside0.mk ((by rw [hg]; exact (below_size HBz) : w.heap.size ≤ gb482)); clear HB; have HB := n0_; have BK482 := n1_; have GW482 := n2_; have GE482 := n3_; clear n0_ n1_ n2_ n3_; clear hb hbox hg) | ((with_reducible refine gate_dst (N := 3) rfl ?_); refine bxE 3 #[.int .i64 a1_0, .int .i64 a1_1] 28 ?_; intro gb483 hg w4 hbox hb; have n0_ := Aside0.mk (blk_below (g := gb482) BKz hb); have n1_ := Aside0.mk (below_step HBz hb); have n2_ := Aside0.mk (hbox); have n3_ := Aside0.mk ((by rw [hg]; exact (below_size HBz) : w.heap.size ≤ gb483)); have n4_ := Aside0.mk ((by rw [hg]; exact (below_size HBz) : w.heap.size ≤ gb483)); have n5_ := Aside0.mk ((by rw [hg]; exact Nat.ne_of_lt (blk_lt (g := gb482) BKz) : gb482 ≠ gb483)); have n6_ := Aside0.mk ((by rw [hg]; exact Nat.ne_of_gt (blk_lt (g := gb482) BKz) : gb483 ≠ gb482)); clear BK482; clear HB; have BK482 := n0_; have HB := n1_; have BK483 := n2_; have GW483 := n3_; have GE483 := n4_; have NB482_483 := n5_; have NB483_482 := n6_; clear n0_ n1_ n2_ n3_ n4_ n5_ n6_; clear hb hbox hg; have hnb5 := NB483_482.out; have hnc5 := NB482_483.out; have hcz6_0 : w4.cell? ⟨gb483, 0, none⟩ = some (.int .i64 a1_0) := (blk_cell BK483.out 0).trans rfl; have hcz6_1 : w4.cell? ⟨gb483, 1, none⟩ = some (.int .i64 a1_1) := (blk_cell BK483.out 1).trans rfl; have hfz6_0 := blk_frozen BK483.out 0; have hfz6_1 := blk_frozen BK483.out 1; have hcz7_0 : w4.cell? ⟨gb482, 0, none⟩ = some (.int .i64 a0_0) := (blk_cell BK482.out 0).trans rfl; have hcz7_1 : w4.cell? ⟨gb482, 1, none⟩ = some (.int .i64 a0_1) := (blk_cell BK482.out 1).trans rfl; have hcz7_2 : w4.cell? ⟨gb482, 2, none⟩ = some (.int .i64 a0_2) := (blk_cell BK482.out 2).trans rfl; have hcz7_3 : w4.cell? ⟨gb482, 3, none⟩ = some (.int .i64 a0_3) := (blk_cell BK482.out 3).trans rfl; have hfz7_0 := blk_frozen BK482.out 0; have hfz7_1 := blk_frozen BK482.out 1; have hfz7_2 := blk_frozen BK482.out 2; have hfz7_3 := blk_frozen BK482.out 3)); try go_wp2_with (first | ((with_reducible refine gate_dst (N := 2) rfl ?_); refine bxE 2 #[.int .i64 a0_0, .int .i64 a0_1, .int .i64 a0_2, .int .i64 a0_3] 40 ?_; intro gb482 hg w3 hbox hb; have n0_ := Aside0.mk (below_step HBz hb); have n1_ := Aside0.mk (hbox); have n2_ := Aside0.mk ((by rw [hg]; exact (below_size HBz) : w.heap.size ≤ gb482)); have n3_ := Aside0.mk ((by rw [hg]; exact (below_size HBz) : w.heap.size ≤ gb482)); clear HB; have HB := n0_; have BK482 := n1_; have GW482 := n2_; have GE482 := n3_; clear n0_ n1_ n2_ n3_; clear hb hbox hg) | ((with_reducible refine gate_dst (N := 3) rfl ?_); refine bxE 3 #[.int .i64 a1_0, .int .i64 a1_1] 28 ?_; intro gb483 hg w4 hbox hb; have n0_ := Aside0.mk (blk_below (g := gb482) BKz hb); have n1_ := Aside0.mk (below_step HBz hb); have n2_ := Aside0.mk (hbox); have n3_ := Aside0.mk ((by rw [hg]; exact (below_size HBz) : w.heap.size ≤ gb483)); have n4_ := Aside0.mk ((by rw [hg]; exact (below_size HBz) : w.heap.size ≤ gb483)); have n5_ := Aside0.mk ((by rw [hg]; exact Nat.ne_of_lt (blk_lt (g := gb482) BKz) : gb482 ≠ gb483)); have n6_ := Aside0.mk ((by rw [hg]; exact Nat.ne_of_gt (blk_lt (g := gb482) BKz) : gb483 ≠ gb482)); clear BK482; clear HB; have BK482 := n0_; have HB := n1_; have BK483 := n2_; have GW483 := n3_; have GE483 := n4_; have NB482_483 := n5_; have NB483_482 := n6_; clear n0_ n1_ n2_ n3_ n4_ n5_ n6_; clear hb hbox hg; have hnb5 := NB483_482.out; have hnc5 := NB482_483.out; have hcz6_0 : w4.cell? ⟨gb483, 0, none⟩ = some (.int .i64 a1_0) := (blk_cell BK483.out 0).trans rfl; have hcz6_1 : w4.cell? ⟨gb483, 1, none⟩ = some (.int .i64 a1_1) := (blk_cell BK483.out 1).trans rfl; have hfz6_0 := blk_frozen BK483.out 0; have hfz6_1 := blk_frozen BK483.out 1; have hcz7_0 : w4.cell? ⟨gb482, 0, none⟩ = some (.int .i64 a0_0) := (blk_cell BK482.out 0).trans rfl; have hcz7_1 : w4.cell? ⟨gb482, 1, none⟩ = some (.int .i64 a0_1) := (blk_cell BK482.out 1).trans rfl; have hcz7_2 : w4.cell? ⟨gb482, 2, none⟩ = some (.int .i64 a0_2) := (blk_cell BK482.out 2).trans rfl; have hcz7_3 : w4.cell? ⟨gb482, 3, none⟩ = some (.int .i64 a0_3) := (blk_cell BK482.out 3).trans rfl; have hfz7_0 := blk_frozen BK482.out 0; have hfz7_1 := blk_frozen BK482.out 1; have hfz7_2 := blk_frozen BK482.out 2; have hfz7_3 := blk_frozen BK482.out 3)))
 go_ret
 exact ⟨by first | rfl | (simp [errW_none, errW_some] <;> rfl) | (simp [*, errW_none, errW_some] <;> rfl), HBz⟩
def tickinglaw01_points.f (l0 : List (S28)) : Option ((List (S28))) := if 0 ≤ (mn (l0.length : Int) 65) then (if (mn (l0.length : Int) 65) ≤ (l0.length : Int) then ((some (l0.take ((mn (l0.length : Int) 65) : Int).toNat : List (S28))).bind fun y495 => (if ([] : List (S28)).length + y495.length < 8796093022208 then (some (([] : List (S28)) ++ y495)) else (none))) else (none)) else (none)
set_option maxHeartbeats 8000000 in
set_option maxRecDepth 100000 in
theorem tickinglaw01_points.calls (A0 : Option Addr) (c0 : Nat) (l0 : List (S28)) (r : List (S28)) (w : World) (hr0 : Kd.C k28 w A0 l0.length l0) (hc0 : l0.length ≤ c0) (h : tickinglaw01_points.f l0 = some r) :
  Calls Try.prog 34 #[.slice A0 l0.length c0] w fun e w' => ∃ v0_ : Value, e = .returned (v0_) ∧ Kd.R k28 28 w' w.heap.size (fun _ => True) v0_ r ∧ Below w.heap.size w w' := by
 have HR0 := Aside0.mk hr0
 have HC0 := Aside0.mk hc0
 clear hr0 hc0
 have HB := Aside0.mk (Below.refl w.heap.size w)
 have H : (if 0 ≤ (mn (l0.length : Int) 65) then (if (mn (l0.length : Int) 65) ≤ (l0.length : Int) then ((some (l0.take ((mn (l0.length : Int) 65) : Int).toNat : List (S28))).bind fun y495 => (if ([] : List (S28)).length + y495.length < 8796093022208 then (some (([] : List (S28)) ++ y495)) else (none))) else (none)) else (none)) = some r := h
 clear h
 obtain ⟨ji2, hji2⟩ : ∃ j_ : Int, (mn (l0.length : Int) 65) = j_ := ⟨_, rfl⟩
 replace H : (if 0 ≤ (ji2) then (if (ji2) ≤ (l0.length : Int) then ((some (l0.take ((ji2) : Int).toNat : List (S28))).bind fun y495 => (if ([] : List (S28)).length + y495.length < 8796093022208 then (some (([] : List (S28)) ++ y495)) else (none))) else (none)) else (none)) = some r := by first | (rw [hji2] at H; exact H) | (simp only [hji2] at H ⊢; exact H)
 (try (have hji2h : ji2 ≤ 65 := by (rw [← hji2]; unfold mn; (repeat' split) <;> omega)))
 (try (have hji2g : ji2 ≤ 64 := by omega))
 (try (have hji2l : 0 ≤ ji2 := by (rw [← hji2]; unfold mn; (repeat' split) <;> omega)))
 (try (have hji2m : 0 ≤ ji2 := by omega))
 have hji2_ : (if 65 < (l0.length : Int) then 65 else (l0.length : Int)) = ji2 := hji2
 by_cases c3 : 0 ≤ (ji2)
 ·rw [if_pos c3] at H
  have c3b0 := eq_true c3
  have c3b1 : decide (0 ≤ (ji2)) = true := decide_eq_true c3
  clear c3
  by_cases c4 : (ji2) ≤ (l0.length : Int)
  ·rw [if_pos c4] at H
   have c4b0 := eq_true c4
   have c4b1 : decide ((ji2) ≤ (l0.length : Int)) = true := decide_eq_true c4
   clear c4
   obtain ⟨y495, hy495⟩ : ∃ y_ : List (S28), y_ = (l0.take ((ji2) : Int).toNat) := ⟨_, rfl⟩
   replace H : (if ([] : List (S28)).length + y495.length < 8796093022208 then (some (([] : List (S28)) ++ y495)) else (none)) = some r := by first | (rw [hy495]; with_reducible exact H) | (have H2_ := (Option.bind_some _ _).symm.trans H; rw [hy495]; with_reducible exact H2_) | (have H2_ := (Option.bind_some _ _).symm.trans H; with_reducible exact H2_) | with_reducible exact H | (rw [hy495]; exact H) | exact H
   have Ny495 := Aside0.mk hy495
   clear hy495
   by_cases c5 : ([] : List (S28)).length + y495.length < 8796093022208
   ·rw [if_pos c5] at H
    have LMc5 := Aside0.mk c5
    clear c5
    obtain ⟨y499, hy499⟩ : ∃ y_ : List (S28), y_ = (([] : List (S28)) ++ y495) := ⟨_, rfl⟩
    replace H : (some y499) = some r := by first | (rw [hy499]; with_reducible exact H) | (have H2_ := (Option.bind_some _ _).symm.trans H; rw [hy499]; with_reducible exact H2_) | (have H2_ := (Option.bind_some _ _).symm.trans H; with_reducible exact H2_) | with_reducible exact H | (rw [hy499]; exact H) | exact H
    have Ny499 := Aside0.mk hy499
    clear hy499
    obtain rfl := Option.some.inj H
    have q6 : ((ji2) : Int) ≤ ((l0.length : Int) : Int) := of_decide_eq_true (by first | (with_reducible assumption) | assumption)
    obtain ⟨i06, hi06, _, hsz6, _⟩ := info_parts info28
    have hroom6 : l0.length ≤ c0 := HC0.out
    have hC6 : Kd.C k28 _ A0 l0.length l0 := HR0.out
    have hcut6 := cut_to (P := Try.prog) 37 28 .i64 Try.underlying37 hi06 A0 l0.length c0 (ji2) (of_decide_eq_true (by first | (with_reducible assumption) | assumption)) q6 hroom6
    have hr6 := Kd.C_take (m := ((ji2) : Int).toNat) hC6 (by omega)
    have hy6 : y495.length = ((ji2) : Int).toNat := (by rw [Ny495.out, List.length_take]; omega)
    rw [← Ny495.out] at hr6
    rw [← hy6] at hcut6
    have HR498 := Aside0.mk hr6
    have HC498 := Aside0.mk (show y495.length ≤ c0 from by omega)
    clear hr6 hC6 hroom6 hi06 hsz6
    have KY6 := Aside0.mk hy6
    clear hy6
    replace q6 := eq_true q6
    go_enter Try.func34, Try.ntmps34
    go_wp2_with (first | ((with_reducible refine gate_builtin (b := .append) (xs := #[.tmp 4, .tmp 9]) rfl ?_); at_builtin; refine Kd.R_append_rows k28 (w0 := w) w.heap.size rfl (.tmp 4) (.tmp 9) 37 28 (.agg #[(.int .i64 0), (.int .i64 0)]) 16 rfl Try.underlying37 info28 rfl (by decide) (by omega) (.slice none 0 0) ([] : List (S28)) y495 _ _ _ (fun _ => True) (fun _ => False) rfl rfl ?aO ?aR (fun _ _ h => h) (fun _ h => h.elim) ?aF ?aB ?aS ?aL ?_; (case aR => repeat (first | exact HR498.out | (with_reducible refine Kd.C_alloc ?_ _) | (with_reducible refine Kd.C_drewN ?_ _) | (with_reducible refine Kd.C_drew ?_))); (case aB => exact HBz); (case aF => exact (fun _ _ => trivial)); (case aO => exact ((Kd.R_nil _ _ _ _ (fun _ => True)))); (case aS => exact (below_size HBz)); (case aL => have := LMc5.out; omega); intro v500 w7 ho hb hg hat; rw [← Ny499.out] at ho; have n0_ := Aside0.mk (hb); have n1_ := Aside0.mk (ho); clear HB; have HB := n0_; have HO501 := n1_; clear n0_ n1_; clear ho hb hg hat))
    go_ret
    exact ⟨_, by first | rfl | (simp [errW_none, errW_some] <;> rfl) | (simp only [← hji2]; first | rfl | (simp [errW_none, errW_some] <;> rfl)) | (simp [*, errW_none, errW_some] <;> rfl), by (with_reducible repeat (first | apply Kd.R_alloc | apply Kd.R_drewN | apply Kd.R_drew)); exact HO501.out, HBz⟩
   ·rw [if_neg c5] at H
    exact absurd H (by simp)
  ·rw [if_neg c4] at H
   exact absurd H (by simp)
 ·rw [if_neg c3] at H
  exact absurd H (by simp)
end Go.Proofs.Ytplhfbkejngioaa.X
namespace Go.Proofs.Ytplhfbkejngioaa.X
open Go.RowKit Go.Proofs.YtplhfbkejngioaaW.PrintWords Go.Proofs.YtplhfbkejngioaaW.PrintLast Go.Proofs.Ytplhfbkejngioaa.S
attribute [local go_sem] max2_int min2_int max_two min_two
set_option linter.unusedVariables false
set_option linter.unusedSimpArgs false
def tickingref01_Points.l0 : Nat → List (S28) → Int → Option (Bool)
 | 0, _, _ => none
 | k + 1, x0, x3 => if x3 < (x0.length : Int) then (if 0 ≤ x3 then ((tickingref01_Point.f ((rd_T28 x0 x3).f0) ((rd_T28 x0 x3).f1)).bind fun t556 => (if t556 = true then (tickingref01_Points.l0 k x0 (wrap64 (x3 + 1))) else (some false))) else (none)) else (if (x0.length : Int) ≥ 1 then (some (decide ((x0.length : Int) ≤ 64))) else (some false))
def tickingref01_Points.f (k : Nat) (l0 : List (S28)) : Option (Bool) := tickingref01_Points.l0 k l0 0
theorem tickingref01_Points.mono_l : ∀ k, (∀ y0 y1, LeO (tickingref01_Points.l0 k y0 y1) (tickingref01_Points.l0 (k + 1) y0 y1))
 | 0 => fun _ _ r h => by simp [tickingref01_Points.l0] at h
 | k + 1 => by
  have ih0 := tickingref01_Points.mono_l k
  ·intro y0 y1
   unfold tickingref01_Points.l0
   repeat' first
   | (with_reducible exact ih0 _ _)
   | (with_reducible exact LeO.refl _)
   | (with_reducible exact LeO.none _)
   | (with_reducible refine LeO.ite ?_ ?_)
   | (with_reducible refine LeO.bind ?_ (fun _ => ?_))
   | exact ih0 _ _
   | exact LeO.none _
   | refine LeO.ite ?_ ?_
   | refine LeO.bind ?_ (fun _ => ?_)
theorem tickingref01_Points.mono : ∀ a0 k, LeO (tickingref01_Points.f k a0) (tickingref01_Points.f (k + 1) a0) := by
 intro a0 k
 have ih0 := tickingref01_Points.mono_l k
 unfold tickingref01_Points.f
 repeat' first
   | (with_reducible exact ih0 _ _)
   | (with_reducible exact LeO.refl _)
   | (with_reducible exact LeO.none _)
   | (with_reducible refine LeO.ite ?_ ?_)
   | (with_reducible refine LeO.bind ?_ (fun _ => ?_))
   | exact ih0 _ _
   | exact LeO.none _
   | refine LeO.ite ?_ ?_
   | refine LeO.bind ?_ (fun _ => ?_)
set_option maxHeartbeats 8000000 in
set_option maxRecDepth 100000 in
theorem tickingref01_Points.calls (k : Nat) (A0 : Option Addr) (c0 : Nat) (l0 : List (S28)) (r : Bool) (w : World) (hr0 : Kd.C k28 w A0 l0.length l0) (hc0 : l0.length ≤ c0) (h : tickingref01_Points.f k l0 = some r) :
  Calls Try.prog 37 #[.slice A0 l0.length c0] w fun e w' => e = .returned (.bool r) ∧ Below w.heap.size w w' := by
 have hu28 := Try.underlying28
 have HR0 := Aside0.mk hr0
 have HC0 := Aside0.mk hc0
 clear hr0 hc0
 have HB := Aside0.mk (Below.refl w.heap.size w)
 have H : (tickingref01_Points.l0 k l0 0) = some r := h
 clear h
 have H' := Aside0.mk H
 clear H
 go_enter Try.func37, Try.ntmps37
 go_wp2
 go_loopg [3] k (fun kq v3 w' => ∃ (x3_1 : Int), v3 = .int .i64 x3_1 ∧ Aside0 (tickingref01_Points.l0 kq l0 x3_1 = some r) ∧ Aside0 (kq ≤ k) ∧ Aside0 (Below w.heap.size w w'))
 case atStart => exact ⟨(0), (by first | rfl | (simp; done) | (simp [*]; done)), H', ⟨Nat.le_refl _⟩, ⟨HBz⟩⟩
 case round =>
  clear H'
  obtain ⟨x3_1, rfl, HA, HK1, HB⟩ := hrel
  cases gk with
  | zero => exact absurd HA.out (by simp [tickingref01_Points.l0])
  | succ k1 =>
   have H := HA.out
   clear HA
   simp only [tickingref01_Points.l0] at H
   by_cases c2 : x3_1 < (l0.length : Int)
   ·rw [if_pos c2] at H
    have c2b0 : decide (x3_1 < (l0.length : Int)) = true := decide_eq_true c2
    clear c2
    by_cases c3 : 0 ≤ x3_1
    ·rw [if_pos c3] at H
     have c3b0 : decide (0 ≤ x3_1) = true := decide_eq_true c3
     clear c3
     replace H := Option.bind_eq_some_iff.mp H
     obtain ⟨t556, A40, H⟩ := H
     replace H : (if t556 = true then (tickingref01_Points.l0 k1 l0 (wrap64 (x3_1 + 1))) else (some false)) = some r := H
     have A4 := Aside0.mk A40
     clear A40
     by_cases c5 : t556 = true
     ·subst c5
      have H1 : (tickingref01_Points.l0 k1 l0 (wrap64 (x3_1 + 1))) = some r := by rw [if_pos rfl] at H; exact H
      clear H
      have H := H1
      clear H1
      have H' := Aside0.mk H
      clear H
      have p555 : 0 ≤ (x3_1 : Int) := of_decide_eq_true (by first | (with_reducible assumption) | assumption)
      have q555 : x3_1 < (l0.length : Int) := of_decide_eq_true (by first | (with_reducible assumption) | assumption)
      obtain ⟨ad555, e555, hx555_0, hx555_1⟩ := at_T28 HR0.out x3_1 p555 q555
      cases e555
      replace hx555_0 := (HB.out.cell (World.block_lt_of_cell? w _ hx555_0)).trans hx555_0
      replace hx555_1 := (HB.out.cell (World.block_lt_of_cell? w _ hx555_1)).trans hx555_1
      replace p555 := eq_true p555
      replace q555 := eq_true q555
      go_wp2_with (first | ((with_reducible refine gate_callee (f := 32) rfl ?_); refine goesL_ (some 14) rfl rfl Try.func32 (by kernel_rfl) rfl #[.agg #[.int .i64 ((rd_T28 l0 x3_1).f0), .int .i64 ((rd_T28 l0 x3_1).f1)]] rfl (by (try simp only [List.map_toArray, List.map_cons, List.map_nil]); first | done | rfl | (simp only [List.length_drop, List.length_take]; rfl)) ?_; (with_reducible refine (tickingref01_Point.calls ((rd_T28 l0 x3_1).f0) ((rd_T28 l0 x3_1).f1) true _ A4.out).mono ?_); rintro e w6 ⟨rfl, hb⟩; refine ⟨_, rfl, ?_⟩; have n0_ := Aside0.mk (below_step HBz hb); clear HB; have HB := n0_; clear n0_; (try clear hb); (try clear hb2); (try clear hk); (try clear hi)))
      go_roundg k1
      case measure => have := HK1.out; omega
      case rel => exact ⟨(wrap64 (x3_1 + 1)), (by first | rfl | (simp; done) | (simp [*]; done)), H', ⟨by have := HK1.out; omega⟩, ⟨HBz⟩⟩
     ·replace c5 := Bool.eq_false_iff.mpr c5
      subst c5
      have H1 : (some false) = some r := by rw [if_neg (show ¬ (false = true) by decide)] at H; exact H
      clear H
      have H := H1
      clear H1
      obtain rfl := Option.some.inj H
      have p555 : 0 ≤ (x3_1 : Int) := of_decide_eq_true (by first | (with_reducible assumption) | assumption)
      have q555 : x3_1 < (l0.length : Int) := of_decide_eq_true (by first | (with_reducible assumption) | assumption)
      obtain ⟨ad555, e555, hx555_0, hx555_1⟩ := at_T28 HR0.out x3_1 p555 q555
      cases e555
      replace hx555_0 := (HB.out.cell (World.block_lt_of_cell? w _ hx555_0)).trans hx555_0
      replace hx555_1 := (HB.out.cell (World.block_lt_of_cell? w _ hx555_1)).trans hx555_1
      replace p555 := eq_true p555
      replace q555 := eq_true q555
      go_wp2_with (first | ((with_reducible refine gate_callee (f := 32) rfl ?_); refine goesL_ (some 14) rfl rfl Try.func32 (by kernel_rfl) rfl #[.agg #[.int .i64 ((rd_T28 l0 x3_1).f0), .int .i64 ((rd_T28 l0 x3_1).f1)]] rfl (by (try simp only [List.map_toArray, List.map_cons, List.map_nil]); first | done | rfl | (simp only [List.length_drop, List.length_take]; rfl)) ?_; (with_reducible refine (tickingref01_Point.calls ((rd_T28 l0 x3_1).f0) ((rd_T28 l0 x3_1).f1) false _ A4.out).mono ?_); rintro e w7 ⟨rfl, hb⟩; refine ⟨_, rfl, ?_⟩; have n0_ := Aside0.mk (below_step HBz hb); clear HB; have HB := n0_; clear n0_; (try clear hb); (try clear hb2); (try clear hk); (try clear hi)))
      go_ret
      exact ⟨by first | rfl | (simp [errW_none, errW_some] <;> rfl) | (simp [*, errW_none, errW_some] <;> rfl), HBz⟩
    ·rw [if_neg c3] at H
     exact absurd H (by simp)
   ·rw [if_neg c2] at H
    have c2b0 : decide (x3_1 < (l0.length : Int)) = false := decide_eq_false c2
    clear c2
    by_cases c8 : (l0.length : Int) ≥ 1
    ·rw [if_pos c8] at H
     have c8b0 : decide (1 ≤ (l0.length : Int)) = true := decide_eq_true c8
     have c8b1 : decide (1 ≤ l0.length) = true := decide_eq_true (by omega)
     clear c8
     obtain rfl := Option.some.inj H
     go_wp2
     go_ret
     exact ⟨by first | rfl | (simp [errW_none, errW_some] <;> rfl) | (simp [*, errW_none, errW_some] <;> rfl), HBz⟩
    ·rw [if_neg c8] at H
     have c8b0 : decide (1 ≤ (l0.length : Int)) = false := decide_eq_false c8
     have c8b1 : decide (1 ≤ l0.length) = false := decide_eq_false (by omega)
     clear c8
     obtain rfl := Option.some.inj H
     go_wp2
     go_ret
     exact ⟨by first | rfl | (simp [errW_none, errW_some] <;> rfl) | (simp [*, errW_none, errW_some] <;> rfl), HBz⟩
end Go.Proofs.Ytplhfbkejngioaa.X
namespace Go.Proofs.Ytplhfbkejngioaa.X
open Go.RowKit Go.Proofs.YtplhfbkejngioaaW.PrintWords Go.Proofs.YtplhfbkejngioaaW.PrintLast Go.Proofs.Ytplhfbkejngioaa.S
attribute [local go_sem] max2_int min2_int max_two min_two
set_option linter.unusedVariables false
set_option linter.unusedSimpArgs false
mutual
def tickingref01_Hull.l0 : Nat → List (S28) → Int → Int → Int → Int → Int → Option (Bool)
 | 0, _, _, _, _, _, _ => none
 | k + 1, x1, x5, x586000, x586001, x586002, x586003 => if x5 < (x1.length : Int) then (tickingref01_Hull.l1 k x1 x5 0 x586000 x586001 x586002 x586003) else (if (x1.length : Int) < 3 then (some false) else (if 0 < (x1.length : Int) then (if 1 < (x1.length : Int) then ((tickingref01_cross.f x586000 x586001 x586002 x586003 ((rd_T28 x1 0).f0) ((rd_T28 x1 0).f1) ((rd_T28 x1 1).f0) ((rd_T28 x1 1).f1)).bind fun t593 => ((tickingref01_sign.f t593).bind fun t594 => (if 2 < (x1.length : Int) then ((tickingref01_cross.f x586000 x586001 x586002 x586003 ((rd_T28 x1 1).f0) ((rd_T28 x1 1).f1) ((rd_T28 x1 2).f0) ((rd_T28 x1 2).f1)).bind fun t597 => ((tickingref01_sign.f t597).bind fun t598 => ((tickingref01_cross.f x586000 x586001 x586002 x586003 ((rd_T28 x1 2).f0) ((rd_T28 x1 2).f1) ((rd_T28 x1 0).f0) ((rd_T28 x1 0).f1)).bind fun t601 => ((tickingref01_sign.f t601).bind fun t602 => (if t594 = 0 then (some false) else (if t594 = t598 then (some (t598 == t602)) else (some false))))))) else (none)))) else (none)) else (none)))
def tickingref01_Hull.l1 : Nat → List (S28) → Int → Int → Int → Int → Int → Int → Option (Bool)
 | 0, _, _, _, _, _, _, _ => none
 | k + 1, x1, x5, x6, x586000, x586001, x586002, x586003 => if x6 ≤ x5 then (if 0 ≤ x5 then (if x5 < (x1.length : Int) then (if 0 ≤ x6 then (if x6 < (x1.length : Int) then ((tickingref01_between.f x586000 x586001 x586002 x586003 ((rd_T28 x1 x5).f0) ((rd_T28 x1 x5).f1) ((rd_T28 x1 x6).f0) ((rd_T28 x1 x6).f1)).bind fun t588 => (if t588 = true then (if x5 = x6 then ((tickingref01_Far.f x586000 x586001 x586002 x586003 ((rd_T28 x1 x5).f0) ((rd_T28 x1 x5).f1)).bind fun t590 => (if t590 = 0 then (some true) else (tickingref01_Hull.l1 k x1 x5 (wrap64 (x6 + 1)) x586000 x586001 x586002 x586003))) else (some true)) else (tickingref01_Hull.l1 k x1 x5 (wrap64 (x6 + 1)) x586000 x586001 x586002 x586003))) else (none)) else (none)) else (none)) else (none)) else (tickingref01_Hull.l0 k x1 (wrap64 (x5 + 1)) x586000 x586001 x586002 x586003)
end
def tickingref01_Hull.f (k : Nat) (a0_0 : Int) (a0_1 : Int) (a0_2 : Int) (a0_3 : Int) (l1 : List (S28)) : Option (Bool) := tickingref01_Hull.l0 k l1 0 a0_0 a0_1 a0_2 a0_3
theorem tickingref01_Hull.mono_l : ∀ k, (∀ y0 y1 y2 y3 y4 y5, LeO (tickingref01_Hull.l0 k y0 y1 y2 y3 y4 y5) (tickingref01_Hull.l0 (k + 1) y0 y1 y2 y3 y4 y5)) ∧ (∀ y0 y1 y2 y3 y4 y5 y6, LeO (tickingref01_Hull.l1 k y0 y1 y2 y3 y4 y5 y6) (tickingref01_Hull.l1 (k + 1) y0 y1 y2 y3 y4 y5 y6))
 | 0 => ⟨fun _ _ _ _ _ _ r h => by simp [tickingref01_Hull.l0] at h, fun _ _ _ _ _ _ _ r h => by simp [tickingref01_Hull.l1] at h⟩
 | k + 1 => by
  obtain ⟨ih0, ih1⟩ := tickingref01_Hull.mono_l k
  refine ⟨?_, ?_⟩
  ·intro y0 y1 y2 y3 y4 y5
   unfold tickingref01_Hull.l0
   repeat' first
   | (with_reducible exact ih0 _ _ _ _ _ _)
   | (with_reducible exact ih1 _ _ _ _ _ _ _)
   | (with_reducible exact LeO.refl _)
   | (with_reducible exact LeO.none _)
   | (with_reducible refine LeO.ite ?_ ?_)
   | (with_reducible refine LeO.bind ?_ (fun _ => ?_))
   | exact ih0 _ _ _ _ _ _
   | exact ih1 _ _ _ _ _ _ _
   | exact LeO.none _
   | refine LeO.ite ?_ ?_
   | refine LeO.bind ?_ (fun _ => ?_)
  ·intro y0 y1 y2 y3 y4 y5 y6
   unfold tickingref01_Hull.l1
   repeat' first
   | (with_reducible exact ih0 _ _ _ _ _ _)
   | (with_reducible exact ih1 _ _ _ _ _ _ _)
   | (with_reducible exact LeO.refl _)
   | (with_reducible exact LeO.none _)
   | (with_reducible refine LeO.ite ?_ ?_)
   | (with_reducible refine LeO.bind ?_ (fun _ => ?_))
   | exact ih0 _ _ _ _ _ _
   | exact ih1 _ _ _ _ _ _ _
   | exact LeO.none _
   | refine LeO.ite ?_ ?_
   | refine LeO.bind ?_ (fun _ => ?_)
theorem tickingref01_Hull.mono : ∀ a0 a1 a2 a3 a4 k, LeO (tickingref01_Hull.f k a0 a1 a2 a3 a4) (tickingref01_Hull.f (k + 1) a0 a1 a2 a3 a4) := by
 intro a0 a1 a2 a3 a4 k
 obtain ⟨ih0, ih1⟩ := tickingref01_Hull.mono_l k
 unfold tickingref01_Hull.f
 repeat' first
   | (with_reducible exact ih0 _ _ _ _ _ _)
   | (with_reducible exact ih1 _ _ _ _ _ _ _)
   | (with_reducible exact LeO.refl _)
   | (with_reducible exact LeO.none _)
   | (with_reducible refine LeO.ite ?_ ?_)
   | (with_reducible refine LeO.bind ?_ (fun _ => ?_))
   | exact ih0 _ _ _ _ _ _
   | exact ih1 _ _ _ _ _ _ _
   | exact LeO.none _
   | refine LeO.ite ?_ ?_
   | refine LeO.bind ?_ (fun _ => ?_)
def tickingref01_Hull.T7 : Bool × List (List Nat × List Nat) := (true, [([], []), ([], []), ([], []), ([1, 2], [1, 2]), ([3], [3]), ([], []), ([], []), ([5, 6], [5, 6]), ([7], [7]), ([0, 4, 8], [0, 4, 8]), ([9, 9], [9]), ([10], [10]), ([10], [10]), ([11, 12, 10], [10, 11, 12]), ([13, 10, 10], [10, 13]), ([14], [14]), ([14], [14]), ([14], [14]), ([16, 17, 14], [14, 16, 17]), ([18, 14], [14, 18]), ([15, 19, 14, 14], [14, 15, 19]), ([20, 14], [14, 20]), ([14, 21, 10], [10, 14, 21]), ([10, 22], [10, 22])])
def tickingref01_Hull.B7 : List Nat := [0, 0, 0, 6, 14, 0, 0, 96, 224, 511, 1023, 2047, 2047, 8191, 16383, 32767, 32767, 32767, 229375, 491519, 1048575, 2097151, 4194303, 8388607]
theorem tickingref01_Hull.tab7 : rtab .any (opsOf Try.f63 7) = tickingref01_Hull.T7 := by kernel_rfl
theorem tickingref01_Hull.bits7 : waitsOk tickingref01_Hull.T7.2 tickingref01_Hull.B7 = true := by kernel_rfl
def tickingref01_Hull.T11 : Bool × List (List Nat × List Nat) := (true, [([], []), ([], []), ([1], [1]), ([2], [2]), ([], []), ([4], [4]), ([5], [5]), ([0, 3, 6], [0, 3, 6]), ([7, 7], [7]), ([], []), ([], []), ([10], [10]), ([11], [11]), ([], []), ([13], [13]), ([14], [14]), ([9, 12, 15, 8], [9, 12, 15]), ([16, 16], [16]), ([], []), ([], []), ([19], [19]), ([20], [20]), ([], []), ([22], [22]), ([23], [23]), ([18, 21, 24, 17], [18, 21, 24]), ([25, 25], [25]), ([8, 26, 0, 1, 2, 3, 4, 5, 6, 7, 8], [8]), ([17, 27, 0, 1, 2, 3, 4, 5, 6, 7, 8, 9, 10, 11, 12, 13, 14, 15, 16, 17, 27], [17]), ([26, 28, 0, 1, 2, 3, 4, 5, 6, 7, 8, 9, 10, 11, 12, 13, 14, 15, 16, 17, 18, 19, 20, 21, 22, 23, 24, 25, 26, 27, 28], [26])])
def tickingref01_Hull.B11 : List Nat := [0, 0, 2, 6, 0, 16, 48, 127, 255, 0, 0, 1024, 3072, 0, 8192, 24576, 65535, 131071, 0, 0, 524288, 1572864, 0, 4194304, 12582912, 33554431, 67108863, 134217727, 268435455, 536870911]
theorem tickingref01_Hull.tab11 : rtab .any (opsOf Try.f63 11) = tickingref01_Hull.T11 := by kernel_rfl
theorem tickingref01_Hull.bits11 : waitsOk tickingref01_Hull.T11.2 tickingref01_Hull.B11 = true := by kernel_rfl
set_option maxHeartbeats 8000000 in
set_option maxRecDepth 100000 in
theorem tickingref01_Hull.calls (k : Nat) (a0_0 : Int) (a0_1 : Int) (a0_2 : Int) (a0_3 : Int) (A1 : Option Addr) (c1 : Nat) (l1 : List (S28)) (r : Bool) (w : World) (hr1 : Kd.C k28 w A1 l1.length l1) (hc1 : l1.length ≤ c1) (h : tickingref01_Hull.f k a0_0 a0_1 a0_2 a0_3 l1 = some r) :
  Calls Try.prog 63 #[.agg #[.int .i64 a0_0, .int .i64 a0_1, .int .i64 a0_2, .int .i64 a0_3], .slice A1 l1.length c1] w fun e w' => e = .returned (.bool r) ∧ Below w.heap.size w w' := by
 have hu40 := Try.underlying40
 have hu28 := Try.underlying28
 have HR1 := Aside0.mk hr1
 have HC1 := Aside0.mk hc1
 clear hr1 hc1
 have HB := Aside0.mk (Below.refl w.heap.size w)
 have H : (tickingref01_Hull.l0 k l1 0 a0_0 a0_1 a0_2 a0_3) = some r := h
 clear h
 have H' := Aside0.mk H
 clear H
 go_enter Try.func63, Try.ntmps63
 go_wp2_with (first | ((with_reducible refine gate_dst (N := 2) rfl ?_); refine bxE 2 #[.int .i64 a0_0, .int .i64 a0_1, .int .i64 a0_2, .int .i64 a0_3] 40 ?_; intro gb585 hg w3 hbox hb; have n0_ := Aside0.mk (below_step HBz hb); have n1_ := Aside0.mk (hbox); have n2_ := Aside0.mk ((by rw [hg]; exact (below_size HBz) : w.heap.size ≤ gb585)); have n3_ := Aside0.mk ((by rw [hg]; exact (below_size HBz) : w.heap.size ≤ gb585)); clear HB; have HB := n0_; have BK585 := n1_; have GW585 := n2_; have GE585 := n3_; clear n0_ n1_ n2_ n3_; clear hb hbox hg))
 go_loopg [5] k (fun kq v5 w' => ∃ (x5_1 : Int), v5 = .int .i64 x5_1 ∧ Aside0 (tickingref01_Hull.l0 kq l1 x5_1 a0_0 a0_1 a0_2 a0_3 = some r) ∧ Aside0 (kq ≤ k) ∧ Aside0 (w'.heap[gb585]? = some (.cells #[.int .i64 a0_0, .int .i64 a0_1, .int .i64 a0_2, .int .i64 a0_3] 40 (0, 0))) ∧ Aside0 (Below w.heap.size w w'))
 case atStart => exact ⟨(0), (by first | rfl | (simp; done) | (simp [*]; done)), H', ⟨Nat.le_refl _⟩, ⟨by (with_reducible repeat (first | refine blk_drewN ?_ _ | refine blk_drew ?_ | refine blk_alloc ?_ _)); exact BK585.out⟩, ⟨HBz⟩⟩
 case round =>
  clear H'
  try clear c1
  try clear p2
  obtain ⟨x5_1, rfl, HA, HK1, BK585, HB⟩ := hrel
  cases gk with
  | zero => exact absurd HA.out (by simp [tickingref01_Hull.l0])
  | succ k1 =>
   have H := HA.out
   clear HA
   simp only [tickingref01_Hull.l0] at H
   by_cases c4 : x5_1 < (l1.length : Int)
   ·rw [if_pos c4] at H
    have c4b0 : decide (x5_1 < (l1.length : Int)) = true := decide_eq_true c4
    clear c4
    have H' := Aside0.mk H
    clear H
    go_wp2
    go_loopg [6] k1 (fun kq v6 w' => ∃ (x6_2 : Int), v6 = .int .i64 x6_2 ∧ Aside0 (tickingref01_Hull.l1 kq l1 x5_1 x6_2 a0_0 a0_1 a0_2 a0_3 = some r) ∧ Aside0 (kq ≤ k1) ∧ Aside0 (w'.heap[gb585]? = some (.cells #[.int .i64 a0_0, .int .i64 a0_1, .int .i64 a0_2, .int .i64 a0_3] 40 (0, 0))) ∧ Aside0 (Below w.heap.size w w'))
    case atStart => exact ⟨(0), (by first | rfl | (simp; done) | (simp [*]; done)), H', ⟨Nat.le_refl _⟩, ⟨by (with_reducible repeat (first | refine blk_drewN ?_ _ | refine blk_drew ?_ | refine blk_alloc ?_ _)); exact BK585.out⟩, ⟨HBz⟩⟩
    case round =>
     clear H'
     try clear c1
     try clear p2
     try clear c4
     try clear c4b0
     try clear p2
     obtain ⟨x6_2, rfl, HA, HK2, BK585, HB⟩ := hrel
     cases gk with
     | zero => exact absurd HA.out (by simp [tickingref01_Hull.l1])
     | succ k2 =>
      have H := HA.out
      clear HA
      simp only [tickingref01_Hull.l1] at H
      by_cases c5 : x6_2 ≤ x5_1
      ·rw [if_pos c5] at H
       have c5b0 : decide (x6_2 ≤ x5_1) = true := decide_eq_true c5
       clear c5
       by_cases c6 : 0 ≤ x5_1
       ·rw [if_pos c6] at H
        have c6b0 : decide (0 ≤ x5_1) = true := decide_eq_true c6
        clear c6
        by_cases c7 : x5_1 < (l1.length : Int)
        ·rw [if_pos c7] at H
         have c7b0 : decide (x5_1 < (l1.length : Int)) = true := decide_eq_true c7
         clear c7
         by_cases c8 : 0 ≤ x6_2
         ·rw [if_pos c8] at H
          have c8b0 : decide (0 ≤ x6_2) = true := decide_eq_true c8
          clear c8
          by_cases c9 : x6_2 < (l1.length : Int)
          ·rw [if_pos c9] at H
           have c9b0 : decide (x6_2 < (l1.length : Int)) = true := decide_eq_true c9
           clear c9
           replace H := Option.bind_eq_some_iff.mp H
           obtain ⟨t588, A100, H⟩ := H
           replace H : (if t588 = true then (if x5_1 = x6_2 then ((tickingref01_Far.f a0_0 a0_1 a0_2 a0_3 ((rd_T28 l1 x5_1).f0) ((rd_T28 l1 x5_1).f1)).bind fun t590 => (if t590 = 0 then (some true) else (tickingref01_Hull.l1 k2 l1 x5_1 (wrap64 (x6_2 + 1)) a0_0 a0_1 a0_2 a0_3))) else (some true)) else (tickingref01_Hull.l1 k2 l1 x5_1 (wrap64 (x6_2 + 1)) a0_0 a0_1 a0_2 a0_3)) = some r := H
           have A10 := Aside0.mk A100
           clear A100
           by_cases c11 : t588 = true
           ·subst c11
            have H1 : (if x5_1 = x6_2 then ((tickingref01_Far.f a0_0 a0_1 a0_2 a0_3 ((rd_T28 l1 x5_1).f0) ((rd_T28 l1 x5_1).f1)).bind fun t590 => (if t590 = 0 then (some true) else (tickingref01_Hull.l1 k2 l1 x5_1 (wrap64 (x6_2 + 1)) a0_0 a0_1 a0_2 a0_3))) else (some true)) = some r := by rw [if_pos rfl] at H; exact H
            clear H
            have H := H1
            clear H1
            by_cases c12 : x5_1 = x6_2
            ·rw [if_pos c12] at H
             have c12b0 : (x5_1 == x6_2) = true := beq_iff_eq.mpr c12
             have c12b1 : (x5_1 != x6_2) = false := bne_eq_false_iff_eq.mpr c12
             clear c12
             replace H := Option.bind_eq_some_iff.mp H
             obtain ⟨t590, A130, H⟩ := H
             replace H : (if t590 = 0 then (some true) else (tickingref01_Hull.l1 k2 l1 x5_1 (wrap64 (x6_2 + 1)) a0_0 a0_1 a0_2 a0_3)) = some r := H
             have A13 := Aside0.mk A130
             clear A130
             by_cases c14 : t590 = 0
             ·rw [if_pos c14] at H
              have c14b0 : (t590 == 0) = true := beq_iff_eq.mpr c14
              have c14b1 : (t590 != 0) = false := bne_eq_false_iff_eq.mpr c14
              clear c14
              obtain rfl := Option.some.inj H
              try go_wp2
              have n0_ := Aside0.mk (blk_drew BK585.out)
              have n1_ := Aside0.mk (below_drew1 HB.out)
              clear BK585
              clear HB
              have BK585 := n0_
              have HB := n1_
              clear n0_ n1_
              have p586 : 0 ≤ (x5_1 : Int) := of_decide_eq_true (by first | (with_reducible assumption) | assumption)
              have q586 : x5_1 < (l1.length : Int) := of_decide_eq_true (by first | (with_reducible assumption) | assumption)
              obtain ⟨ad586, e586, hx586_0, hx586_1⟩ := at_T28 HR1.out x5_1 p586 q586
              have hw586_1 := hx586_1
              have hw586_0 := hx586_0
              cases e586
              replace hx586_0 := (HB.out.cell (World.block_lt_of_cell? w _ hx586_0)).trans hx586_0
              replace hx586_1 := (HB.out.cell (World.block_lt_of_cell? w _ hx586_1)).trans hx586_1
              replace p586 := eq_true p586
              replace q586 := eq_true q586
              have p587 : 0 ≤ (x6_2 : Int) := of_decide_eq_true (by first | (with_reducible assumption) | assumption)
              have q587 : x6_2 < (l1.length : Int) := of_decide_eq_true (by first | (with_reducible assumption) | assumption)
              obtain ⟨ad587, e587, hx587_0, hx587_1⟩ := at_T28 HR1.out x6_2 p587 q587
              have hw587_1 := hx587_1
              have hw587_0 := hx587_0
              obtain rfl : ad586 = ad587 := (by injection e587)
              replace hx587_0 := (HB.out.cell (World.block_lt_of_cell? w _ hx587_0)).trans hx587_0
              replace hx587_1 := (HB.out.cell (World.block_lt_of_cell? w _ hx587_1)).trans hx587_1
              replace p587 := eq_true p587
              replace q587 := eq_true q587
              have p589 : 0 ≤ (x5_1 : Int) := of_decide_eq_true (by first | (with_reducible assumption) | assumption)
              have q589 : x5_1 < (l1.length : Int) := of_decide_eq_true (by first | (with_reducible assumption) | assumption)
              obtain ⟨ad589, e589, hx589_0, hx589_1⟩ := at_T28 HR1.out x5_1 p589 q589
              have hw589_1 := hx589_1
              have hw589_0 := hx589_0
              obtain rfl : ad586 = ad589 := (by injection e589)
              replace hx589_0 := (HB.out.cell (World.block_lt_of_cell? w _ hx589_0)).trans hx589_0
              replace hx589_1 := (HB.out.cell (World.block_lt_of_cell? w _ hx589_1)).trans hx589_1
              replace p589 := eq_true p589
              replace q589 := eq_true q589
              refine stz (fun w' => w'.cell? ⟨gb585, 0, none⟩ = some (.int .i64 a0_0) ∧ w'.cell? ⟨gb585, 1, none⟩ = some (.int .i64 a0_1) ∧ w'.cell? ⟨gb585, 2, none⟩ = some (.int .i64 a0_2) ∧ w'.cell? ⟨gb585, 3, none⟩ = some (.int .i64 a0_3) ∧ w'.cell? (ad586.add ((x5_1).toNat * 2)) = some (.int .i64 ((rd_T28 l1 x5_1).f0)) ∧ w'.cell? ⟨(ad586.add ((x5_1).toNat * 2)).block, (ad586.add ((x5_1).toNat * 2)).off + 1, none⟩ = some (.int .i64 ((rd_T28 l1 x5_1).f1)) ∧ w'.cell? (ad586.add ((x6_2).toNat * 2)) = some (.int .i64 ((rd_T28 l1 x6_2).f0)) ∧ w'.cell? ⟨(ad586.add ((x6_2).toNat * 2)).block, (ad586.add ((x6_2).toNat * 2)).off + 1, none⟩ = some (.int .i64 ((rd_T28 l1 x6_2).f1)) ∧ w'.cell? (ad586.add ((x5_1).toNat * 2)) = some (.int .i64 ((rd_T28 l1 x5_1).f0)) ∧ w'.cell? ⟨(ad586.add ((x5_1).toNat * 2)).block, (ad586.add ((x5_1).toNat * 2)).off + 1, none⟩ = some (.int .i64 ((rd_T28 l1 x5_1).f1))) [] (bn 24 0) ⟨(blk_cell BK585.out 0).trans rfl, (blk_cell BK585.out 1).trans rfl, (blk_cell BK585.out 2).trans rfl, (blk_cell BK585.out 3).trans rfl, ((HB.out.cell (World.block_lt_of_cell? w _ hw586_0)).trans hw586_0), ((HB.out.cell (World.block_lt_of_cell? w _ hw586_1)).trans hw586_1), ((HB.out.cell (World.block_lt_of_cell? w _ hw587_0)).trans hw587_0), ((HB.out.cell (World.block_lt_of_cell? w _ hw587_1)).trans hw587_1), ((HB.out.cell (World.block_lt_of_cell? w _ hw589_0)).trans hw589_0), ((HB.out.cell (World.block_lt_of_cell? w _ hw589_1)).trans hw589_1)⟩ (fun hHeld => ?_); refine with_tabW tickingref01_Hull.tab7 tickingref01_Hull.bits7 (fun HT_ HW_ => ?_)
              generalize wr.drew = w15 at BK585 HB hx586_0 hx586_1 hx587_0 hx587_1 hx589_0 hx589_1 hHeld ⊢
              refine pT HT_.out 1 (some 22) (bn 24 2) ?_
              refine pT HT_.out 2 (some 23) (bn 24 6) ?_
              refine pT HT_.out 3 (some 24) (bn 24 14) ?_
              refine pT HT_.out 5 (some 26) (bn 24 46) ?_
              refine pT HT_.out 6 (some 27) (bn 24 110) ?_
              refine pT HT_.out 7 (some 28) (bn 24 238) ?_
              refine tT HT_.out HW_.out 0 (some 21) (bn 24 239) hHeld ?_
              refine tT HT_.out HW_.out 4 (some 25) (bn 24 255) hHeld ?_
              refine tT HT_.out HW_.out 8 (some 29) (bn 24 511) hHeld ?_
              refine oT HT_.out 9 (some 30) (bn 24 1023) (fun K hK => ?_)
              refine gz Try.func89 #[.agg #[.int .i64 a0_0, .int .i64 a0_1, .int .i64 a0_2, .int .i64 a0_3], .agg #[.int .i64 ((rd_T28 l1 x5_1).f0), .int .i64 ((rd_T28 l1 x5_1).f1)], .agg #[.int .i64 ((rd_T28 l1 x6_2).f0), .int .i64 ((rd_T28 l1 x6_2).f1)]] ?_
              with_reducible refine (tickingref01_between.calls a0_0 a0_1 a0_2 a0_3 ((rd_T28 l1 x5_1).f0) ((rd_T28 l1 x5_1).f1) ((rd_T28 l1 x6_2).f0) ((rd_T28 l1 x6_2).f1) true _ A10.out).mono ?_
              rintro e w16 ⟨rfl, hb⟩
              refine ⟨_, rfl, ?_⟩
              have n0_ := Aside0.mk (blk_below (g := gb585) BKz hb)
              have n1_ := Aside0.mk (below_step HBz hb)
              clear BK585
              clear HB
              have BK585 := n0_
              have HB := n1_
              clear n0_ n1_
              (try clear hb)
              (try clear hb2)
              (try clear hk)
              (try clear hi)
              refine hK.out _ _ ⟨(blk_cell BK585.out 0).trans rfl, (blk_cell BK585.out 1).trans rfl, (blk_cell BK585.out 2).trans rfl, (blk_cell BK585.out 3).trans rfl, ((HB.out.cell (World.block_lt_of_cell? w _ hw586_0)).trans hw586_0), ((HB.out.cell (World.block_lt_of_cell? w _ hw586_1)).trans hw586_1), ((HB.out.cell (World.block_lt_of_cell? w _ hw587_0)).trans hw587_0), ((HB.out.cell (World.block_lt_of_cell? w _ hw587_1)).trans hw587_1), ((HB.out.cell (World.block_lt_of_cell? w _ hw589_0)).trans hw589_0), ((HB.out.cell (World.block_lt_of_cell? w _ hw589_1)).trans hw589_1)⟩ (fun hHeld => ?_)
              clear hK K
              refine nz (some 30) ?_
              refine pT HT_.out 10 (some 31) (bn 24 2047) ?_
              refine pT HT_.out 11 (some 32) (bn 24 4095) ?_
              refine pT HT_.out 12 (some 33) (bn 24 8191) ?_
              refine pT HT_.out 13 (some 34) (bn 24 16383) ?_
              refine pT HT_.out 14 (some 35) (bn 24 32767) ?_
              refine pT HT_.out 16 (some 37) (bn 24 98303) ?_
              refine pT HT_.out 17 (some 38) (bn 24 229375) ?_
              refine pT HT_.out 18 (some 39) (bn 24 491519) ?_
              refine tT HT_.out HW_.out 15 (some 36) (bn 24 524287) hHeld ?_
              refine tT HT_.out HW_.out 19 (some 40) (bn 24 1048575) hHeld ?_
              refine oT HT_.out 20 (some 41) (bn 24 2097151) (fun K hK => ?_)
              refine gz Try.func33 #[.agg #[.int .i64 a0_0, .int .i64 a0_1, .int .i64 a0_2, .int .i64 a0_3], .agg #[.int .i64 ((rd_T28 l1 x5_1).f0), .int .i64 ((rd_T28 l1 x5_1).f1)]] ?_
              with_reducible refine (tickingref01_Far.calls a0_0 a0_1 a0_2 a0_3 ((rd_T28 l1 x5_1).f0) ((rd_T28 l1 x5_1).f1) t590 _ A13.out).mono ?_
              rintro e w17 ⟨rfl, hb⟩
              refine ⟨_, rfl, ?_⟩
              have n0_ := Aside0.mk (blk_below (g := gb585) BKz hb)
              have n1_ := Aside0.mk (below_step HBz hb)
              clear BK585
              clear HB
              have BK585 := n0_
              have HB := n1_
              clear n0_ n1_
              (try clear hb)
              (try clear hb2)
              (try clear hk)
              (try clear hi)
              refine hK.out _ _ ⟨(blk_cell BK585.out 0).trans rfl, (blk_cell BK585.out 1).trans rfl, (blk_cell BK585.out 2).trans rfl, (blk_cell BK585.out 3).trans rfl, ((HB.out.cell (World.block_lt_of_cell? w _ hw586_0)).trans hw586_0), ((HB.out.cell (World.block_lt_of_cell? w _ hw586_1)).trans hw586_1), ((HB.out.cell (World.block_lt_of_cell? w _ hw587_0)).trans hw587_0), ((HB.out.cell (World.block_lt_of_cell? w _ hw587_1)).trans hw587_1), ((HB.out.cell (World.block_lt_of_cell? w _ hw589_0)).trans hw589_0), ((HB.out.cell (World.block_lt_of_cell? w _ hw589_1)).trans hw589_1)⟩ (fun hHeld => ?_)
              clear hK K
              refine nz (some 41) ?_
              refine pT HT_.out 21 (some 42) (bn 24 4194303) ?_
              refine pT HT_.out 22 (some 43) (bn 24 8388607) ?_
              refine pT HT_.out 23 (some 44) (bn 24 16777215) ?_
              refine done_ (done_of HT_.out (by kernel_rfl)) ?_
              try go_wp2
              go_ret
              exact ⟨by first | rfl | (simp [errW_none, errW_some] <;> rfl) | (simp [*, errW_none, errW_some] <;> rfl), HBz⟩
             ·rw [if_neg c14] at H
              have c14b0 : (t590 == 0) = false := beq_eq_false_iff_ne.mpr c14
              have c14b1 : (t590 != 0) = true := bne_iff_ne.mpr c14
              have H' := Aside0.mk H
              clear H
              try go_wp2
              have n0_ := Aside0.mk (blk_drew BK585.out)
              have n1_ := Aside0.mk (below_drew1 HB.out)
              clear BK585
              clear HB
              have BK585 := n0_
              have HB := n1_
              clear n0_ n1_
              have p586 : 0 ≤ (x5_1 : Int) := of_decide_eq_true (by first | (with_reducible assumption) | assumption)
              have q586 : x5_1 < (l1.length : Int) := of_decide_eq_true (by first | (with_reducible assumption) | assumption)
              obtain ⟨ad586, e586, hx586_0, hx586_1⟩ := at_T28 HR1.out x5_1 p586 q586
              have hw586_1 := hx586_1
              have hw586_0 := hx586_0
              cases e586
              replace hx586_0 := (HB.out.cell (World.block_lt_of_cell? w _ hx586_0)).trans hx586_0
              replace hx586_1 := (HB.out.cell (World.block_lt_of_cell? w _ hx586_1)).trans hx586_1
              replace p586 := eq_true p586
              replace q586 := eq_true q586
              have p587 : 0 ≤ (x6_2 : Int) := of_decide_eq_true (by first | (with_reducible assumption) | assumption)
              have q587 : x6_2 < (l1.length : Int) := of_decide_eq_true (by first | (with_reducible assumption) | assumption)
              obtain ⟨ad587, e587, hx587_0, hx587_1⟩ := at_T28 HR1.out x6_2 p587 q587
              have hw587_1 := hx587_1
              have hw587_0 := hx587_0
              obtain rfl : ad586 = ad587 := (by injection e587)
              replace hx587_0 := (HB.out.cell (World.block_lt_of_cell? w _ hx587_0)).trans hx587_0
              replace hx587_1 := (HB.out.cell (World.block_lt_of_cell? w _ hx587_1)).trans hx587_1
              replace p587 := eq_true p587
              replace q587 := eq_true q587
              have p589 : 0 ≤ (x5_1 : Int) := of_decide_eq_true (by first | (with_reducible assumption) | assumption)
              have q589 : x5_1 < (l1.length : Int) := of_decide_eq_true (by first | (with_reducible assumption) | assumption)
              obtain ⟨ad589, e589, hx589_0, hx589_1⟩ := at_T28 HR1.out x5_1 p589 q589
              have hw589_1 := hx589_1
              have hw589_0 := hx589_0
              obtain rfl : ad586 = ad589 := (by injection e589)
              replace hx589_0 := (HB.out.cell (World.block_lt_of_cell? w _ hx589_0)).trans hx589_0
              replace hx589_1 := (HB.out.cell (World.block_lt_of_cell? w _ hx589_1)).trans hx589_1
              replace p589 := eq_true p589
              replace q589 := eq_true q589
              refine stz (fun w' => w'.cell? ⟨gb585, 0, none⟩ = some (.int .i64 a0_0) ∧ w'.cell? ⟨gb585, 1, none⟩ = some (.int .i64 a0_1) ∧ w'.cell? ⟨gb585, 2, none⟩ = some (.int .i64 a0_2) ∧ w'.cell? ⟨gb585, 3, none⟩ = some (.int .i64 a0_3) ∧ w'.cell? (ad586.add ((x5_1).toNat * 2)) = some (.int .i64 ((rd_T28 l1 x5_1).f0)) ∧ w'.cell? ⟨(ad586.add ((x5_1).toNat * 2)).block, (ad586.add ((x5_1).toNat * 2)).off + 1, none⟩ = some (.int .i64 ((rd_T28 l1 x5_1).f1)) ∧ w'.cell? (ad586.add ((x6_2).toNat * 2)) = some (.int .i64 ((rd_T28 l1 x6_2).f0)) ∧ w'.cell? ⟨(ad586.add ((x6_2).toNat * 2)).block, (ad586.add ((x6_2).toNat * 2)).off + 1, none⟩ = some (.int .i64 ((rd_T28 l1 x6_2).f1)) ∧ w'.cell? (ad586.add ((x5_1).toNat * 2)) = some (.int .i64 ((rd_T28 l1 x5_1).f0)) ∧ w'.cell? ⟨(ad586.add ((x5_1).toNat * 2)).block, (ad586.add ((x5_1).toNat * 2)).off + 1, none⟩ = some (.int .i64 ((rd_T28 l1 x5_1).f1))) [] (bn 24 0) ⟨(blk_cell BK585.out 0).trans rfl, (blk_cell BK585.out 1).trans rfl, (blk_cell BK585.out 2).trans rfl, (blk_cell BK585.out 3).trans rfl, ((HB.out.cell (World.block_lt_of_cell? w _ hw586_0)).trans hw586_0), ((HB.out.cell (World.block_lt_of_cell? w _ hw586_1)).trans hw586_1), ((HB.out.cell (World.block_lt_of_cell? w _ hw587_0)).trans hw587_0), ((HB.out.cell (World.block_lt_of_cell? w _ hw587_1)).trans hw587_1), ((HB.out.cell (World.block_lt_of_cell? w _ hw589_0)).trans hw589_0), ((HB.out.cell (World.block_lt_of_cell? w _ hw589_1)).trans hw589_1)⟩ (fun hHeld => ?_); refine with_tabW tickingref01_Hull.tab7 tickingref01_Hull.bits7 (fun HT_ HW_ => ?_)
              generalize wr.drew = w18 at BK585 HB hx586_0 hx586_1 hx587_0 hx587_1 hx589_0 hx589_1 hHeld ⊢
              refine pT HT_.out 1 (some 22) (bn 24 2) ?_
              refine pT HT_.out 2 (some 23) (bn 24 6) ?_
              refine pT HT_.out 3 (some 24) (bn 24 14) ?_
              refine pT HT_.out 5 (some 26) (bn 24 46) ?_
              refine pT HT_.out 6 (some 27) (bn 24 110) ?_
              refine pT HT_.out 7 (some 28) (bn 24 238) ?_
              refine tT HT_.out HW_.out 0 (some 21) (bn 24 239) hHeld ?_
              refine tT HT_.out HW_.out 4 (some 25) (bn 24 255) hHeld ?_
              refine tT HT_.out HW_.out 8 (some 29) (bn 24 511) hHeld ?_
              refine oT HT_.out 9 (some 30) (bn 24 1023) (fun K hK => ?_)
              refine gz Try.func89 #[.agg #[.int .i64 a0_0, .int .i64 a0_1, .int .i64 a0_2, .int .i64 a0_3], .agg #[.int .i64 ((rd_T28 l1 x5_1).f0), .int .i64 ((rd_T28 l1 x5_1).f1)], .agg #[.int .i64 ((rd_T28 l1 x6_2).f0), .int .i64 ((rd_T28 l1 x6_2).f1)]] ?_
              with_reducible refine (tickingref01_between.calls a0_0 a0_1 a0_2 a0_3 ((rd_T28 l1 x5_1).f0) ((rd_T28 l1 x5_1).f1) ((rd_T28 l1 x6_2).f0) ((rd_T28 l1 x6_2).f1) true _ A10.out).mono ?_
              rintro e w19 ⟨rfl, hb⟩
              refine ⟨_, rfl, ?_⟩
              have n0_ := Aside0.mk (blk_below (g := gb585) BKz hb)
              have n1_ := Aside0.mk (below_step HBz hb)
              clear BK585
              clear HB
              have BK585 := n0_
              have HB := n1_
              clear n0_ n1_
              (try clear hb)
              (try clear hb2)
              (try clear hk)
              (try clear hi)
              refine hK.out _ _ ⟨(blk_cell BK585.out 0).trans rfl, (blk_cell BK585.out 1).trans rfl, (blk_cell BK585.out 2).trans rfl, (blk_cell BK585.out 3).trans rfl, ((HB.out.cell (World.block_lt_of_cell? w _ hw586_0)).trans hw586_0), ((HB.out.cell (World.block_lt_of_cell? w _ hw586_1)).trans hw586_1), ((HB.out.cell (World.block_lt_of_cell? w _ hw587_0)).trans hw587_0), ((HB.out.cell (World.block_lt_of_cell? w _ hw587_1)).trans hw587_1), ((HB.out.cell (World.block_lt_of_cell? w _ hw589_0)).trans hw589_0), ((HB.out.cell (World.block_lt_of_cell? w _ hw589_1)).trans hw589_1)⟩ (fun hHeld => ?_)
              clear hK K
              refine nz (some 30) ?_
              refine pT HT_.out 10 (some 31) (bn 24 2047) ?_
              refine pT HT_.out 11 (some 32) (bn 24 4095) ?_
              refine pT HT_.out 12 (some 33) (bn 24 8191) ?_
              refine pT HT_.out 13 (some 34) (bn 24 16383) ?_
              refine pT HT_.out 14 (some 35) (bn 24 32767) ?_
              refine pT HT_.out 16 (some 37) (bn 24 98303) ?_
              refine pT HT_.out 17 (some 38) (bn 24 229375) ?_
              refine pT HT_.out 18 (some 39) (bn 24 491519) ?_
              refine tT HT_.out HW_.out 15 (some 36) (bn 24 524287) hHeld ?_
              refine tT HT_.out HW_.out 19 (some 40) (bn 24 1048575) hHeld ?_
              refine oT HT_.out 20 (some 41) (bn 24 2097151) (fun K hK => ?_)
              refine gz Try.func33 #[.agg #[.int .i64 a0_0, .int .i64 a0_1, .int .i64 a0_2, .int .i64 a0_3], .agg #[.int .i64 ((rd_T28 l1 x5_1).f0), .int .i64 ((rd_T28 l1 x5_1).f1)]] ?_
              with_reducible refine (tickingref01_Far.calls a0_0 a0_1 a0_2 a0_3 ((rd_T28 l1 x5_1).f0) ((rd_T28 l1 x5_1).f1) t590 _ A13.out).mono ?_
              rintro e w20 ⟨rfl, hb⟩
              refine ⟨_, rfl, ?_⟩
              have n0_ := Aside0.mk (blk_below (g := gb585) BKz hb)
              have n1_ := Aside0.mk (below_step HBz hb)
              clear BK585
              clear HB
              have BK585 := n0_
              have HB := n1_
              clear n0_ n1_
              (try clear hb)
              (try clear hb2)
              (try clear hk)
              (try clear hi)
              refine hK.out _ _ ⟨(blk_cell BK585.out 0).trans rfl, (blk_cell BK585.out 1).trans rfl, (blk_cell BK585.out 2).trans rfl, (blk_cell BK585.out 3).trans rfl, ((HB.out.cell (World.block_lt_of_cell? w _ hw586_0)).trans hw586_0), ((HB.out.cell (World.block_lt_of_cell? w _ hw586_1)).trans hw586_1), ((HB.out.cell (World.block_lt_of_cell? w _ hw587_0)).trans hw587_0), ((HB.out.cell (World.block_lt_of_cell? w _ hw587_1)).trans hw587_1), ((HB.out.cell (World.block_lt_of_cell? w _ hw589_0)).trans hw589_0), ((HB.out.cell (World.block_lt_of_cell? w _ hw589_1)).trans hw589_1)⟩ (fun hHeld => ?_)
              clear hK K
              refine nz (some 41) ?_
              refine pT HT_.out 21 (some 42) (bn 24 4194303) ?_
              refine pT HT_.out 22 (some 43) (bn 24 8388607) ?_
              refine pT HT_.out 23 (some 44) (bn 24 16777215) ?_
              refine done_ (done_of HT_.out (by kernel_rfl)) ?_
              try go_wp2
              go_roundg k2
              case measure => have := HK1.out; have := HK2.out; omega
              case rel => exact ⟨(wrap64 (x6_2 + 1)), (by first | rfl | (simp; done) | (simp [*]; done)), H', ⟨by have := HK1.out; have := HK2.out; omega⟩, ⟨by (with_reducible repeat (first | refine blk_drewN ?_ _ | refine blk_drew ?_ | refine blk_alloc ?_ _)); exact BK585.out⟩, ⟨HBz⟩⟩
            ·rw [if_neg c12] at H
             have c12b0 : (x5_1 == x6_2) = false := beq_eq_false_iff_ne.mpr c12
             have c12b1 : (x5_1 != x6_2) = true := bne_iff_ne.mpr c12
             obtain rfl := Option.some.inj H
             try go_wp2
             have n0_ := Aside0.mk (blk_drew BK585.out)
             have n1_ := Aside0.mk (below_drew1 HB.out)
             clear BK585
             clear HB
             have BK585 := n0_
             have HB := n1_
             clear n0_ n1_
             have p586 : 0 ≤ (x5_1 : Int) := of_decide_eq_true (by first | (with_reducible assumption) | assumption)
             have q586 : x5_1 < (l1.length : Int) := of_decide_eq_true (by first | (with_reducible assumption) | assumption)
             obtain ⟨ad586, e586, hx586_0, hx586_1⟩ := at_T28 HR1.out x5_1 p586 q586
             have hw586_1 := hx586_1
             have hw586_0 := hx586_0
             cases e586
             replace hx586_0 := (HB.out.cell (World.block_lt_of_cell? w _ hx586_0)).trans hx586_0
             replace hx586_1 := (HB.out.cell (World.block_lt_of_cell? w _ hx586_1)).trans hx586_1
             replace p586 := eq_true p586
             replace q586 := eq_true q586
             have p587 : 0 ≤ (x6_2 : Int) := of_decide_eq_true (by first | (with_reducible assumption) | assumption)
             have q587 : x6_2 < (l1.length : Int) := of_decide_eq_true (by first | (with_reducible assumption) | assumption)
             obtain ⟨ad587, e587, hx587_0, hx587_1⟩ := at_T28 HR1.out x6_2 p587 q587
             have hw587_1 := hx587_1
             have hw587_0 := hx587_0
             obtain rfl : ad586 = ad587 := (by injection e587)
             replace hx587_0 := (HB.out.cell (World.block_lt_of_cell? w _ hx587_0)).trans hx587_0
             replace hx587_1 := (HB.out.cell (World.block_lt_of_cell? w _ hx587_1)).trans hx587_1
             replace p587 := eq_true p587
             replace q587 := eq_true q587
             refine stz (fun w' => w'.cell? ⟨gb585, 0, none⟩ = some (.int .i64 a0_0) ∧ w'.cell? ⟨gb585, 1, none⟩ = some (.int .i64 a0_1) ∧ w'.cell? ⟨gb585, 2, none⟩ = some (.int .i64 a0_2) ∧ w'.cell? ⟨gb585, 3, none⟩ = some (.int .i64 a0_3) ∧ w'.cell? (ad586.add ((x5_1).toNat * 2)) = some (.int .i64 ((rd_T28 l1 x5_1).f0)) ∧ w'.cell? ⟨(ad586.add ((x5_1).toNat * 2)).block, (ad586.add ((x5_1).toNat * 2)).off + 1, none⟩ = some (.int .i64 ((rd_T28 l1 x5_1).f1)) ∧ w'.cell? (ad586.add ((x6_2).toNat * 2)) = some (.int .i64 ((rd_T28 l1 x6_2).f0)) ∧ w'.cell? ⟨(ad586.add ((x6_2).toNat * 2)).block, (ad586.add ((x6_2).toNat * 2)).off + 1, none⟩ = some (.int .i64 ((rd_T28 l1 x6_2).f1))) [] (bn 24 0) ⟨(blk_cell BK585.out 0).trans rfl, (blk_cell BK585.out 1).trans rfl, (blk_cell BK585.out 2).trans rfl, (blk_cell BK585.out 3).trans rfl, ((HB.out.cell (World.block_lt_of_cell? w _ hw586_0)).trans hw586_0), ((HB.out.cell (World.block_lt_of_cell? w _ hw586_1)).trans hw586_1), ((HB.out.cell (World.block_lt_of_cell? w _ hw587_0)).trans hw587_0), ((HB.out.cell (World.block_lt_of_cell? w _ hw587_1)).trans hw587_1)⟩ (fun hHeld => ?_); refine with_tabW tickingref01_Hull.tab7 tickingref01_Hull.bits7 (fun HT_ HW_ => ?_)
             generalize wr.drew = w21 at BK585 HB hx586_0 hx586_1 hx587_0 hx587_1 hHeld ⊢
             refine pT HT_.out 1 (some 22) (bn 24 2) ?_
             refine pT HT_.out 2 (some 23) (bn 24 6) ?_
             refine pT HT_.out 3 (some 24) (bn 24 14) ?_
             refine pT HT_.out 5 (some 26) (bn 24 46) ?_
             refine pT HT_.out 6 (some 27) (bn 24 110) ?_
             refine pT HT_.out 7 (some 28) (bn 24 238) ?_
             refine tT HT_.out HW_.out 0 (some 21) (bn 24 239) hHeld ?_
             refine tT HT_.out HW_.out 4 (some 25) (bn 24 255) hHeld ?_
             refine tT HT_.out HW_.out 8 (some 29) (bn 24 511) hHeld ?_
             refine oT HT_.out 9 (some 30) (bn 24 1023) (fun K hK => ?_)
             refine gz Try.func89 #[.agg #[.int .i64 a0_0, .int .i64 a0_1, .int .i64 a0_2, .int .i64 a0_3], .agg #[.int .i64 ((rd_T28 l1 x5_1).f0), .int .i64 ((rd_T28 l1 x5_1).f1)], .agg #[.int .i64 ((rd_T28 l1 x6_2).f0), .int .i64 ((rd_T28 l1 x6_2).f1)]] ?_
             with_reducible refine (tickingref01_between.calls a0_0 a0_1 a0_2 a0_3 ((rd_T28 l1 x5_1).f0) ((rd_T28 l1 x5_1).f1) ((rd_T28 l1 x6_2).f0) ((rd_T28 l1 x6_2).f1) true _ A10.out).mono ?_
             rintro e w22 ⟨rfl, hb⟩
             refine ⟨_, rfl, ?_⟩
             have n0_ := Aside0.mk (blk_below (g := gb585) BKz hb)
             have n1_ := Aside0.mk (below_step HBz hb)
             clear BK585
             clear HB
             have BK585 := n0_
             have HB := n1_
             clear n0_ n1_
             (try clear hb)
             (try clear hb2)
             (try clear hk)
             (try clear hi)
             refine hK.out _ _ ⟨(blk_cell BK585.out 0).trans rfl, (blk_cell BK585.out 1).trans rfl, (blk_cell BK585.out 2).trans rfl, (blk_cell BK585.out 3).trans rfl, ((HB.out.cell (World.block_lt_of_cell? w _ hw586_0)).trans hw586_0), ((HB.out.cell (World.block_lt_of_cell? w _ hw586_1)).trans hw586_1), ((HB.out.cell (World.block_lt_of_cell? w _ hw587_0)).trans hw587_0), ((HB.out.cell (World.block_lt_of_cell? w _ hw587_1)).trans hw587_1)⟩ (fun hHeld => ?_)
             clear hK K
             refine nz (some 30) ?_
             refine pT HT_.out 10 (some 31) (bn 24 2047) ?_
             refine pT HT_.out 11 (some 32) (bn 24 4095) ?_
             refine pT HT_.out 12 (some 33) (bn 24 8191) ?_
             refine pT HT_.out 13 (some 34) (bn 24 16383) ?_
             refine pT HT_.out 14 (some 35) (bn 24 32767) ?_
             refine pT0 HT_.out 15 (some 36) (bn 24 65535) ?_
             refine pT0 HT_.out 16 (some 37) (bn 24 131071) ?_
             refine pT0 HT_.out 17 (some 38) (bn 24 262143) ?_
             refine pT0 HT_.out 18 (some 39) (bn 24 524287) ?_
             refine pT0 HT_.out 19 (some 40) (bn 24 1048575) ?_
             refine pT0 HT_.out 20 (some 41) (bn 24 2097151) ?_
             refine pT0 HT_.out 21 (some 42) (bn 24 4194303) ?_
             refine pT HT_.out 22 (some 43) (bn 24 8388607) ?_
             refine pT HT_.out 23 (some 44) (bn 24 16777215) ?_
             refine done_ (done_of HT_.out (by kernel_rfl)) ?_
             try go_wp2
             go_ret
             exact ⟨by first | rfl | (simp [errW_none, errW_some] <;> rfl) | (simp [*, errW_none, errW_some] <;> rfl), HBz⟩
           ·replace c11 := Bool.eq_false_iff.mpr c11
            subst c11
            have H1 : (tickingref01_Hull.l1 k2 l1 x5_1 (wrap64 (x6_2 + 1)) a0_0 a0_1 a0_2 a0_3) = some r := by rw [if_neg (show ¬ (false = true) by decide)] at H; exact H
            clear H
            have H := H1
            clear H1
            have H' := Aside0.mk H
            clear H
            try go_wp2
            have n0_ := Aside0.mk (blk_drew BK585.out)
            have n1_ := Aside0.mk (below_drew1 HB.out)
            clear BK585
            clear HB
            have BK585 := n0_
            have HB := n1_
            clear n0_ n1_
            have p586 : 0 ≤ (x5_1 : Int) := of_decide_eq_true (by first | (with_reducible assumption) | assumption)
            have q586 : x5_1 < (l1.length : Int) := of_decide_eq_true (by first | (with_reducible assumption) | assumption)
            obtain ⟨ad586, e586, hx586_0, hx586_1⟩ := at_T28 HR1.out x5_1 p586 q586
            have hw586_1 := hx586_1
            have hw586_0 := hx586_0
            cases e586
            replace hx586_0 := (HB.out.cell (World.block_lt_of_cell? w _ hx586_0)).trans hx586_0
            replace hx586_1 := (HB.out.cell (World.block_lt_of_cell? w _ hx586_1)).trans hx586_1
            replace p586 := eq_true p586
            replace q586 := eq_true q586
            have p587 : 0 ≤ (x6_2 : Int) := of_decide_eq_true (by first | (with_reducible assumption) | assumption)
            have q587 : x6_2 < (l1.length : Int) := of_decide_eq_true (by first | (with_reducible assumption) | assumption)
            obtain ⟨ad587, e587, hx587_0, hx587_1⟩ := at_T28 HR1.out x6_2 p587 q587
            have hw587_1 := hx587_1
            have hw587_0 := hx587_0
            obtain rfl : ad586 = ad587 := (by injection e587)
            replace hx587_0 := (HB.out.cell (World.block_lt_of_cell? w _ hx587_0)).trans hx587_0
            replace hx587_1 := (HB.out.cell (World.block_lt_of_cell? w _ hx587_1)).trans hx587_1
            replace p587 := eq_true p587
            replace q587 := eq_true q587
            refine stz (fun w' => w'.cell? ⟨gb585, 0, none⟩ = some (.int .i64 a0_0) ∧ w'.cell? ⟨gb585, 1, none⟩ = some (.int .i64 a0_1) ∧ w'.cell? ⟨gb585, 2, none⟩ = some (.int .i64 a0_2) ∧ w'.cell? ⟨gb585, 3, none⟩ = some (.int .i64 a0_3) ∧ w'.cell? (ad586.add ((x5_1).toNat * 2)) = some (.int .i64 ((rd_T28 l1 x5_1).f0)) ∧ w'.cell? ⟨(ad586.add ((x5_1).toNat * 2)).block, (ad586.add ((x5_1).toNat * 2)).off + 1, none⟩ = some (.int .i64 ((rd_T28 l1 x5_1).f1)) ∧ w'.cell? (ad586.add ((x6_2).toNat * 2)) = some (.int .i64 ((rd_T28 l1 x6_2).f0)) ∧ w'.cell? ⟨(ad586.add ((x6_2).toNat * 2)).block, (ad586.add ((x6_2).toNat * 2)).off + 1, none⟩ = some (.int .i64 ((rd_T28 l1 x6_2).f1))) [] (bn 24 0) ⟨(blk_cell BK585.out 0).trans rfl, (blk_cell BK585.out 1).trans rfl, (blk_cell BK585.out 2).trans rfl, (blk_cell BK585.out 3).trans rfl, ((HB.out.cell (World.block_lt_of_cell? w _ hw586_0)).trans hw586_0), ((HB.out.cell (World.block_lt_of_cell? w _ hw586_1)).trans hw586_1), ((HB.out.cell (World.block_lt_of_cell? w _ hw587_0)).trans hw587_0), ((HB.out.cell (World.block_lt_of_cell? w _ hw587_1)).trans hw587_1)⟩ (fun hHeld => ?_); refine with_tabW tickingref01_Hull.tab7 tickingref01_Hull.bits7 (fun HT_ HW_ => ?_)
            generalize wr.drew = w23 at BK585 HB hx586_0 hx586_1 hx587_0 hx587_1 hHeld ⊢
            refine pT HT_.out 1 (some 22) (bn 24 2) ?_
            refine pT HT_.out 2 (some 23) (bn 24 6) ?_
            refine pT HT_.out 3 (some 24) (bn 24 14) ?_
            refine pT HT_.out 5 (some 26) (bn 24 46) ?_
            refine pT HT_.out 6 (some 27) (bn 24 110) ?_
            refine pT HT_.out 7 (some 28) (bn 24 238) ?_
            refine tT HT_.out HW_.out 0 (some 21) (bn 24 239) hHeld ?_
            refine tT HT_.out HW_.out 4 (some 25) (bn 24 255) hHeld ?_
            refine tT HT_.out HW_.out 8 (some 29) (bn 24 511) hHeld ?_
            refine oT HT_.out 9 (some 30) (bn 24 1023) (fun K hK => ?_)
            refine gz Try.func89 #[.agg #[.int .i64 a0_0, .int .i64 a0_1, .int .i64 a0_2, .int .i64 a0_3], .agg #[.int .i64 ((rd_T28 l1 x5_1).f0), .int .i64 ((rd_T28 l1 x5_1).f1)], .agg #[.int .i64 ((rd_T28 l1 x6_2).f0), .int .i64 ((rd_T28 l1 x6_2).f1)]] ?_
            with_reducible refine (tickingref01_between.calls a0_0 a0_1 a0_2 a0_3 ((rd_T28 l1 x5_1).f0) ((rd_T28 l1 x5_1).f1) ((rd_T28 l1 x6_2).f0) ((rd_T28 l1 x6_2).f1) false _ A10.out).mono ?_
            rintro e w24 ⟨rfl, hb⟩
            refine ⟨_, rfl, ?_⟩
            have n0_ := Aside0.mk (blk_below (g := gb585) BKz hb)
            have n1_ := Aside0.mk (below_step HBz hb)
            clear BK585
            clear HB
            have BK585 := n0_
            have HB := n1_
            clear n0_ n1_
            (try clear hb)
            (try clear hb2)
            (try clear hk)
            (try clear hi)
            refine hK.out _ _ ⟨(blk_cell BK585.out 0).trans rfl, (blk_cell BK585.out 1).trans rfl, (blk_cell BK585.out 2).trans rfl, (blk_cell BK585.out 3).trans rfl, ((HB.out.cell (World.block_lt_of_cell? w _ hw586_0)).trans hw586_0), ((HB.out.cell (World.block_lt_of_cell? w _ hw586_1)).trans hw586_1), ((HB.out.cell (World.block_lt_of_cell? w _ hw587_0)).trans hw587_0), ((HB.out.cell (World.block_lt_of_cell? w _ hw587_1)).trans hw587_1)⟩ (fun hHeld => ?_)
            clear hK K
            refine nz (some 30) ?_
            refine pT HT_.out 10 (some 31) (bn 24 2047) ?_
            refine pT0 HT_.out 11 (some 32) (bn 24 4095) ?_
            refine pT0 HT_.out 12 (some 33) (bn 24 8191) ?_
            refine pT0 HT_.out 13 (some 34) (bn 24 16383) ?_
            refine pT0 HT_.out 14 (some 35) (bn 24 32767) ?_
            refine pT0 HT_.out 15 (some 36) (bn 24 65535) ?_
            refine pT0 HT_.out 16 (some 37) (bn 24 131071) ?_
            refine pT0 HT_.out 17 (some 38) (bn 24 262143) ?_
            refine pT0 HT_.out 18 (some 39) (bn 24 524287) ?_
            refine pT0 HT_.out 19 (some 40) (bn 24 1048575) ?_
            refine pT0 HT_.out 20 (some 41) (bn 24 2097151) ?_
            refine pT0 HT_.out 21 (some 42) (bn 24 4194303) ?_
            refine pT0 HT_.out 22 (some 43) (bn 24 8388607) ?_
            refine pT HT_.out 23 (some 44) (bn 24 16777215) ?_
            refine done_ (done_of HT_.out (by kernel_rfl)) ?_
            try go_wp2
            go_roundg k2
            case measure => have := HK1.out; have := HK2.out; omega
            case rel => exact ⟨(wrap64 (x6_2 + 1)), (by first | rfl | (simp; done) | (simp [*]; done)), H', ⟨by have := HK1.out; have := HK2.out; omega⟩, ⟨by (with_reducible repeat (first | refine blk_drewN ?_ _ | refine blk_drew ?_ | refine blk_alloc ?_ _)); exact BK585.out⟩, ⟨HBz⟩⟩
          ·rw [if_neg c9] at H
           exact absurd H (by simp)
         ·rw [if_neg c8] at H
          exact absurd H (by simp)
        ·rw [if_neg c7] at H
         exact absurd H (by simp)
       ·rw [if_neg c6] at H
        exact absurd H (by simp)
      ·rw [if_neg c5] at H
       have c5b0 : decide (x6_2 ≤ x5_1) = false := decide_eq_false c5
       clear c5
       have H' := Aside0.mk H
       clear H
       go_wp2
       go_roundg k2
       case measure => have := HK1.out; have := HK2.out; omega
       case rel => exact ⟨(wrap64 (x5_1 + 1)), (by first | rfl | (simp; done) | (simp [*]; done)), H', ⟨by have := HK1.out; have := HK2.out; omega⟩, ⟨by (with_reducible repeat (first | refine blk_drewN ?_ _ | refine blk_drew ?_ | refine blk_alloc ?_ _)); exact BK585.out⟩, ⟨HBz⟩⟩
   ·rw [if_neg c4] at H
    have c4b0 : decide (x5_1 < (l1.length : Int)) = false := decide_eq_false c4
    clear c4
    by_cases c25 : (l1.length : Int) < 3
    ·rw [if_pos c25] at H
     have c25b0 : decide ((l1.length : Int) < 3) = true := decide_eq_true c25
     have c25b1 : decide (l1.length < 3) = true := decide_eq_true (by omega)
     clear c25
     obtain rfl := Option.some.inj H
     go_wp2
     go_ret
     exact ⟨by first | rfl | (simp [errW_none, errW_some] <;> rfl) | (simp [*, errW_none, errW_some] <;> rfl), HBz⟩
    ·rw [if_neg c25] at H
     have c25b0 : decide ((l1.length : Int) < 3) = false := decide_eq_false c25
     have c25b1 : decide (l1.length < 3) = false := decide_eq_false (by omega)
     clear c25
     by_cases c26 : 0 < (l1.length : Int)
     ·rw [if_pos c26] at H
      have c26b0 : decide (0 < (l1.length : Int)) = true := decide_eq_true c26
      have c26b1 : decide (0 < l1.length) = true := decide_eq_true (by omega)
      clear c26
      by_cases c27 : 1 < (l1.length : Int)
      ·rw [if_pos c27] at H
       have c27b0 : decide (1 < (l1.length : Int)) = true := decide_eq_true c27
       have c27b1 : decide (1 < l1.length) = true := decide_eq_true (by omega)
       clear c27
       replace H := Option.bind_eq_some_iff.mp H
       obtain ⟨t593, A280, H⟩ := H
       replace H : ((tickingref01_sign.f t593).bind fun t594 => (if 2 < (l1.length : Int) then ((tickingref01_cross.f a0_0 a0_1 a0_2 a0_3 ((rd_T28 l1 1).f0) ((rd_T28 l1 1).f1) ((rd_T28 l1 2).f0) ((rd_T28 l1 2).f1)).bind fun t597 => ((tickingref01_sign.f t597).bind fun t598 => ((tickingref01_cross.f a0_0 a0_1 a0_2 a0_3 ((rd_T28 l1 2).f0) ((rd_T28 l1 2).f1) ((rd_T28 l1 0).f0) ((rd_T28 l1 0).f1)).bind fun t601 => ((tickingref01_sign.f t601).bind fun t602 => (if t594 = 0 then (some false) else (if t594 = t598 then (some (t598 == t602)) else (some false))))))) else (none))) = some r := H
       have A28 := Aside0.mk A280
       clear A280
       replace H := Option.bind_eq_some_iff.mp H
       obtain ⟨t594, A290, H⟩ := H
       replace H : (if 2 < (l1.length : Int) then ((tickingref01_cross.f a0_0 a0_1 a0_2 a0_3 ((rd_T28 l1 1).f0) ((rd_T28 l1 1).f1) ((rd_T28 l1 2).f0) ((rd_T28 l1 2).f1)).bind fun t597 => ((tickingref01_sign.f t597).bind fun t598 => ((tickingref01_cross.f a0_0 a0_1 a0_2 a0_3 ((rd_T28 l1 2).f0) ((rd_T28 l1 2).f1) ((rd_T28 l1 0).f0) ((rd_T28 l1 0).f1)).bind fun t601 => ((tickingref01_sign.f t601).bind fun t602 => (if t594 = 0 then (some false) else (if t594 = t598 then (some (t598 == t602)) else (some false))))))) else (none)) = some r := H
       have A29 := Aside0.mk A290
       clear A290
       by_cases c30 : 2 < (l1.length : Int)
       ·rw [if_pos c30] at H
        have c30b0 : decide (2 < (l1.length : Int)) = true := decide_eq_true c30
        have c30b1 : decide (2 < l1.length) = true := decide_eq_true (by omega)
        clear c30
        replace H := Option.bind_eq_some_iff.mp H
        obtain ⟨t597, A310, H⟩ := H
        replace H : ((tickingref01_sign.f t597).bind fun t598 => ((tickingref01_cross.f a0_0 a0_1 a0_2 a0_3 ((rd_T28 l1 2).f0) ((rd_T28 l1 2).f1) ((rd_T28 l1 0).f0) ((rd_T28 l1 0).f1)).bind fun t601 => ((tickingref01_sign.f t601).bind fun t602 => (if t594 = 0 then (some false) else (if t594 = t598 then (some (t598 == t602)) else (some false)))))) = some r := H
        have A31 := Aside0.mk A310
        clear A310
        replace H := Option.bind_eq_some_iff.mp H
        obtain ⟨t598, A320, H⟩ := H
        replace H : ((tickingref01_cross.f a0_0 a0_1 a0_2 a0_3 ((rd_T28 l1 2).f0) ((rd_T28 l1 2).f1) ((rd_T28 l1 0).f0) ((rd_T28 l1 0).f1)).bind fun t601 => ((tickingref01_sign.f t601).bind fun t602 => (if t594 = 0 then (some false) else (if t594 = t598 then (some (t598 == t602)) else (some false))))) = some r := H
        have A32 := Aside0.mk A320
        clear A320
        replace H := Option.bind_eq_some_iff.mp H
        obtain ⟨t601, A330, H⟩ := H
        replace H : ((tickingref01_sign.f t601).bind fun t602 => (if t594 = 0 then (some false) else (if t594 = t598 then (some (t598 == t602)) else (some false)))) = some r := H
        have A33 := Aside0.mk A330
        clear A330
        replace H := Option.bind_eq_some_iff.mp H
        obtain ⟨t602, A340, H⟩ := H
        replace H : (if t594 = 0 then (some false) else (if t594 = t598 then (some (t598 == t602)) else (some false))) = some r := H
        have A34 := Aside0.mk A340
        clear A340
        by_cases c35 : t594 = 0
        ·rw [if_pos c35] at H
         have c35b0 : (t594 == 0) = true := beq_iff_eq.mpr c35
         have c35b1 : (t594 != 0) = false := bne_eq_false_iff_eq.mpr c35
         clear c35
         obtain rfl := Option.some.inj H
         try go_wp2
         have n0_ := Aside0.mk (blk_drew BK585.out)
         have n1_ := Aside0.mk (below_drew1 HB.out)
         clear BK585
         clear HB
         have BK585 := n0_
         have HB := n1_
         clear n0_ n1_
         have p591 : 0 ≤ (0 : Int) := (by omega)
         have q591 : 0 < (l1.length : Int) := of_decide_eq_true (by first | (with_reducible assumption) | assumption)
         obtain ⟨ad591, e591, hx591_0, hx591_1⟩ := at_T28 HR1.out 0 p591 q591
         have hw591_1 := hx591_1
         (try rw [show ((0 : Int)).toNat = 0 from rfl] at hw591_1)
         (try rw [show 0 * 2 = 0 from rfl] at hw591_1)
         (try rw [Addr.add_zero'] at hw591_1)
         have hw591_0 := hx591_0
         (try rw [show ((0 : Int)).toNat = 0 from rfl] at hw591_0)
         (try rw [show 0 * 2 = 0 from rfl] at hw591_0)
         (try rw [Addr.add_zero'] at hw591_0)
         cases e591
         have qi591 : (0 < l1.length) = True := eq_true (by omega)
         (try rw [show ((0 : Int)).toNat = 0 from rfl] at hx591_0)
         (try rw [show 0 * 2 = 0 from rfl] at hx591_0)
         (try rw [Addr.add_zero'] at hx591_0)
         (try rw [show ((0 : Int)).toNat = 0 from rfl] at hx591_1)
         (try rw [show 0 * 2 = 0 from rfl] at hx591_1)
         (try rw [Addr.add_zero'] at hx591_1)
         replace hx591_0 := (HB.out.cell (World.block_lt_of_cell? w _ hx591_0)).trans hx591_0
         replace hx591_1 := (HB.out.cell (World.block_lt_of_cell? w _ hx591_1)).trans hx591_1
         replace p591 := eq_true p591
         replace q591 := eq_true q591
         have p592 : 0 ≤ (1 : Int) := (by omega)
         have q592 : 1 < (l1.length : Int) := of_decide_eq_true (by first | (with_reducible assumption) | assumption)
         obtain ⟨ad592, e592, hx592_0, hx592_1⟩ := at_T28 HR1.out 1 p592 q592
         have hw592_1 := hx592_1
         (try rw [show ((1 : Int)).toNat = 1 from rfl] at hw592_1)
         (try rw [show 1 * 2 = 2 from rfl] at hw592_1)
         (try simp only [Nat.reduceMul, Nat.reduceEqDiff, Go.Addr.add, ↓reduceIte] at hw592_1)
         have hw592_0 := hx592_0
         (try rw [show ((1 : Int)).toNat = 1 from rfl] at hw592_0)
         (try rw [show 1 * 2 = 2 from rfl] at hw592_0)
         (try simp only [Nat.reduceMul, Nat.reduceEqDiff, Go.Addr.add, ↓reduceIte] at hw592_0)
         obtain rfl : ad591 = ad592 := (by injection e592)
         (try simp only [show (1 : Int).toNat = 1 from rfl, Nat.reduceMul, Nat.reduceEqDiff, Go.Addr.add, ↓reduceIte] at hx592_0)
         (try simp only [show (1 : Int).toNat = 1 from rfl, Nat.reduceMul, Nat.reduceEqDiff, Go.Addr.add, ↓reduceIte] at hx592_1)
         have qi592 : (1 < l1.length) = True := eq_true (by omega)
         (try rw [show ((1 : Int)).toNat = 1 from rfl] at hx592_0)
         (try rw [show 1 * 2 = 2 from rfl] at hx592_0)
         (try rw [show ((1 : Int)).toNat = 1 from rfl] at hx592_1)
         (try rw [show 1 * 2 = 2 from rfl] at hx592_1)
         replace hx592_0 := (HB.out.cell (World.block_lt_of_cell? w _ hx592_0)).trans hx592_0
         replace hx592_1 := (HB.out.cell (World.block_lt_of_cell? w _ hx592_1)).trans hx592_1
         replace p592 := eq_true p592
         replace q592 := eq_true q592
         have p595 : 0 ≤ (1 : Int) := (by omega)
         have q595 : 1 < (l1.length : Int) := of_decide_eq_true (by first | (with_reducible assumption) | assumption)
         obtain ⟨ad595, e595, hx595_0, hx595_1⟩ := at_T28 HR1.out 1 p595 q595
         have hw595_1 := hx595_1
         (try rw [show ((1 : Int)).toNat = 1 from rfl] at hw595_1)
         (try rw [show 1 * 2 = 2 from rfl] at hw595_1)
         (try simp only [Nat.reduceMul, Nat.reduceEqDiff, Go.Addr.add, ↓reduceIte] at hw595_1)
         have hw595_0 := hx595_0
         (try rw [show ((1 : Int)).toNat = 1 from rfl] at hw595_0)
         (try rw [show 1 * 2 = 2 from rfl] at hw595_0)
         (try simp only [Nat.reduceMul, Nat.reduceEqDiff, Go.Addr.add, ↓reduceIte] at hw595_0)
         obtain rfl : ad591 = ad595 := (by injection e595)
         (try simp only [show (1 : Int).toNat = 1 from rfl, Nat.reduceMul, Nat.reduceEqDiff, Go.Addr.add, ↓reduceIte] at hx595_0)
         (try simp only [show (1 : Int).toNat = 1 from rfl, Nat.reduceMul, Nat.reduceEqDiff, Go.Addr.add, ↓reduceIte] at hx595_1)
         have qi595 : (1 < l1.length) = True := eq_true (by omega)
         (try rw [show ((1 : Int)).toNat = 1 from rfl] at hx595_0)
         (try rw [show 1 * 2 = 2 from rfl] at hx595_0)
         (try rw [show ((1 : Int)).toNat = 1 from rfl] at hx595_1)
         (try rw [show 1 * 2 = 2 from rfl] at hx595_1)
         replace hx595_0 := (HB.out.cell (World.block_lt_of_cell? w _ hx595_0)).trans hx595_0
         replace hx595_1 := (HB.out.cell (World.block_lt_of_cell? w _ hx595_1)).trans hx595_1
         replace p595 := eq_true p595
         replace q595 := eq_true q595
         have p596 : 0 ≤ (2 : Int) := (by omega)
         have q596 : 2 < (l1.length : Int) := of_decide_eq_true (by first | (with_reducible assumption) | assumption)
         obtain ⟨ad596, e596, hx596_0, hx596_1⟩ := at_T28 HR1.out 2 p596 q596
         have hw596_1 := hx596_1
         (try rw [show ((2 : Int)).toNat = 2 from rfl] at hw596_1)
         (try rw [show 2 * 2 = 4 from rfl] at hw596_1)
         (try simp only [Nat.reduceMul, Nat.reduceEqDiff, Go.Addr.add, ↓reduceIte] at hw596_1)
         have hw596_0 := hx596_0
         (try rw [show ((2 : Int)).toNat = 2 from rfl] at hw596_0)
         (try rw [show 2 * 2 = 4 from rfl] at hw596_0)
         (try simp only [Nat.reduceMul, Nat.reduceEqDiff, Go.Addr.add, ↓reduceIte] at hw596_0)
         obtain rfl : ad591 = ad596 := (by injection e596)
         (try simp only [show (2 : Int).toNat = 2 from rfl, Nat.reduceMul, Nat.reduceEqDiff, Go.Addr.add, ↓reduceIte] at hx596_0)
         (try simp only [show (2 : Int).toNat = 2 from rfl, Nat.reduceMul, Nat.reduceEqDiff, Go.Addr.add, ↓reduceIte] at hx596_1)
         have qi596 : (2 < l1.length) = True := eq_true (by omega)
         (try rw [show ((2 : Int)).toNat = 2 from rfl] at hx596_0)
         (try rw [show 2 * 2 = 4 from rfl] at hx596_0)
         (try rw [show ((2 : Int)).toNat = 2 from rfl] at hx596_1)
         (try rw [show 2 * 2 = 4 from rfl] at hx596_1)
         replace hx596_0 := (HB.out.cell (World.block_lt_of_cell? w _ hx596_0)).trans hx596_0
         replace hx596_1 := (HB.out.cell (World.block_lt_of_cell? w _ hx596_1)).trans hx596_1
         replace p596 := eq_true p596
         replace q596 := eq_true q596
         have p599 : 0 ≤ (2 : Int) := (by omega)
         have q599 : 2 < (l1.length : Int) := of_decide_eq_true (by first | (with_reducible assumption) | assumption)
         obtain ⟨ad599, e599, hx599_0, hx599_1⟩ := at_T28 HR1.out 2 p599 q599
         have hw599_1 := hx599_1
         (try rw [show ((2 : Int)).toNat = 2 from rfl] at hw599_1)
         (try rw [show 2 * 2 = 4 from rfl] at hw599_1)
         (try simp only [Nat.reduceMul, Nat.reduceEqDiff, Go.Addr.add, ↓reduceIte] at hw599_1)
         have hw599_0 := hx599_0
         (try rw [show ((2 : Int)).toNat = 2 from rfl] at hw599_0)
         (try rw [show 2 * 2 = 4 from rfl] at hw599_0)
         (try simp only [Nat.reduceMul, Nat.reduceEqDiff, Go.Addr.add, ↓reduceIte] at hw599_0)
         obtain rfl : ad591 = ad599 := (by injection e599)
         (try simp only [show (2 : Int).toNat = 2 from rfl, Nat.reduceMul, Nat.reduceEqDiff, Go.Addr.add, ↓reduceIte] at hx599_0)
         (try simp only [show (2 : Int).toNat = 2 from rfl, Nat.reduceMul, Nat.reduceEqDiff, Go.Addr.add, ↓reduceIte] at hx599_1)
         have qi599 : (2 < l1.length) = True := eq_true (by omega)
         (try rw [show ((2 : Int)).toNat = 2 from rfl] at hx599_0)
         (try rw [show 2 * 2 = 4 from rfl] at hx599_0)
         (try rw [show ((2 : Int)).toNat = 2 from rfl] at hx599_1)
         (try rw [show 2 * 2 = 4 from rfl] at hx599_1)
         replace hx599_0 := (HB.out.cell (World.block_lt_of_cell? w _ hx599_0)).trans hx599_0
         replace hx599_1 := (HB.out.cell (World.block_lt_of_cell? w _ hx599_1)).trans hx599_1
         replace p599 := eq_true p599
         replace q599 := eq_true q599
         have p600 : 0 ≤ (0 : Int) := (by omega)
         have q600 : 0 < (l1.length : Int) := of_decide_eq_true (by first | (with_reducible assumption) | assumption)
         obtain ⟨ad600, e600, hx600_0, hx600_1⟩ := at_T28 HR1.out 0 p600 q600
         have hw600_1 := hx600_1
         (try rw [show ((0 : Int)).toNat = 0 from rfl] at hw600_1)
         (try rw [show 0 * 2 = 0 from rfl] at hw600_1)
         (try rw [Addr.add_zero'] at hw600_1)
         have hw600_0 := hx600_0
         (try rw [show ((0 : Int)).toNat = 0 from rfl] at hw600_0)
         (try rw [show 0 * 2 = 0 from rfl] at hw600_0)
         (try rw [Addr.add_zero'] at hw600_0)
         obtain rfl : ad591 = ad600 := (by injection e600)
         have qi600 : (0 < l1.length) = True := eq_true (by omega)
         (try rw [show ((0 : Int)).toNat = 0 from rfl] at hx600_0)
         (try rw [show 0 * 2 = 0 from rfl] at hx600_0)
         (try rw [Addr.add_zero'] at hx600_0)
         (try rw [show ((0 : Int)).toNat = 0 from rfl] at hx600_1)
         (try rw [show 0 * 2 = 0 from rfl] at hx600_1)
         (try rw [Addr.add_zero'] at hx600_1)
         replace hx600_0 := (HB.out.cell (World.block_lt_of_cell? w _ hx600_0)).trans hx600_0
         replace hx600_1 := (HB.out.cell (World.block_lt_of_cell? w _ hx600_1)).trans hx600_1
         replace p600 := eq_true p600
         replace q600 := eq_true q600
         refine stz (fun w' => w'.cell? ⟨gb585, 0, none⟩ = some (.int .i64 a0_0) ∧ w'.cell? ⟨gb585, 1, none⟩ = some (.int .i64 a0_1) ∧ w'.cell? ⟨gb585, 2, none⟩ = some (.int .i64 a0_2) ∧ w'.cell? ⟨gb585, 3, none⟩ = some (.int .i64 a0_3) ∧ w'.cell? ad591 = some (.int .i64 ((rd_T28 l1 0).f0)) ∧ w'.cell? ⟨ad591.block, ad591.off + 1, none⟩ = some (.int .i64 ((rd_T28 l1 0).f1)) ∧ w'.cell? ⟨ad591.block, ad591.off + 2, none⟩ = some (.int .i64 ((rd_T28 l1 1).f0)) ∧ w'.cell? ⟨ad591.block, ad591.off + 2 + 1, none⟩ = some (.int .i64 ((rd_T28 l1 1).f1)) ∧ w'.cell? ⟨ad591.block, ad591.off + 2, none⟩ = some (.int .i64 ((rd_T28 l1 1).f0)) ∧ w'.cell? ⟨ad591.block, ad591.off + 2 + 1, none⟩ = some (.int .i64 ((rd_T28 l1 1).f1)) ∧ w'.cell? ⟨ad591.block, ad591.off + 4, none⟩ = some (.int .i64 ((rd_T28 l1 2).f0)) ∧ w'.cell? ⟨ad591.block, ad591.off + 4 + 1, none⟩ = some (.int .i64 ((rd_T28 l1 2).f1)) ∧ w'.cell? ⟨ad591.block, ad591.off + 4, none⟩ = some (.int .i64 ((rd_T28 l1 2).f0)) ∧ w'.cell? ⟨ad591.block, ad591.off + 4 + 1, none⟩ = some (.int .i64 ((rd_T28 l1 2).f1)) ∧ w'.cell? ad591 = some (.int .i64 ((rd_T28 l1 0).f0)) ∧ w'.cell? ⟨ad591.block, ad591.off + 1, none⟩ = some (.int .i64 ((rd_T28 l1 0).f1))) [] (bn 30 0) ⟨(blk_cell BK585.out 0).trans rfl, (blk_cell BK585.out 1).trans rfl, (blk_cell BK585.out 2).trans rfl, (blk_cell BK585.out 3).trans rfl, ((HB.out.cell (World.block_lt_of_cell? w _ hw591_0)).trans hw591_0), ((HB.out.cell (World.block_lt_of_cell? w _ hw591_1)).trans hw591_1), ((HB.out.cell (World.block_lt_of_cell? w _ hw592_0)).trans hw592_0), ((HB.out.cell (World.block_lt_of_cell? w _ hw592_1)).trans hw592_1), ((HB.out.cell (World.block_lt_of_cell? w _ hw595_0)).trans hw595_0), ((HB.out.cell (World.block_lt_of_cell? w _ hw595_1)).trans hw595_1), ((HB.out.cell (World.block_lt_of_cell? w _ hw596_0)).trans hw596_0), ((HB.out.cell (World.block_lt_of_cell? w _ hw596_1)).trans hw596_1), ((HB.out.cell (World.block_lt_of_cell? w _ hw599_0)).trans hw599_0), ((HB.out.cell (World.block_lt_of_cell? w _ hw599_1)).trans hw599_1), ((HB.out.cell (World.block_lt_of_cell? w _ hw600_0)).trans hw600_0), ((HB.out.cell (World.block_lt_of_cell? w _ hw600_1)).trans hw600_1)⟩ (fun hHeld => ?_); refine with_tabW tickingref01_Hull.tab11 tickingref01_Hull.bits11 (fun HT_ HW_ => ?_)
         generalize wr.drew = w36 at BK585 HB hx591_0 hx591_1 hx592_0 hx592_1 hx595_0 hx595_1 hx596_0 hx596_1 hx599_0 hx599_1 hx600_0 hx600_1 hHeld ⊢
         refine pT HT_.out 1 (some 49) (bn 30 2) ?_
         refine pT HT_.out 2 (some 50) (bn 30 6) ?_
         refine pT HT_.out 4 (some 52) (bn 30 22) ?_
         refine pT HT_.out 5 (some 53) (bn 30 54) ?_
         refine pT HT_.out 10 (some 58) (bn 30 1078) ?_
         refine pT HT_.out 11 (some 59) (bn 30 3126) ?_
         refine pT HT_.out 13 (some 61) (bn 30 11318) ?_
         refine pT HT_.out 14 (some 62) (bn 30 27702) ?_
         refine pT HT_.out 19 (some 67) (bn 30 551990) ?_
         refine pT HT_.out 20 (some 68) (bn 30 1600566) ?_
         refine pT HT_.out 22 (some 70) (bn 30 5794870) ?_
         refine pT HT_.out 23 (some 71) (bn 30 14183478) ?_
         refine tT HT_.out HW_.out 0 (some 48) (bn 30 14183479) hHeld ?_
         refine tT HT_.out HW_.out 3 (some 51) (bn 30 14183487) hHeld ?_
         refine tT HT_.out HW_.out 6 (some 54) (bn 30 14183551) hHeld ?_
         refine tT HT_.out HW_.out 9 (some 57) (bn 30 14184063) hHeld ?_
         refine tT HT_.out HW_.out 12 (some 60) (bn 30 14188159) hHeld ?_
         refine tT HT_.out HW_.out 15 (some 63) (bn 30 14220927) hHeld ?_
         refine tT HT_.out HW_.out 18 (some 66) (bn 30 14483071) hHeld ?_
         refine tT HT_.out HW_.out 21 (some 69) (bn 30 16580223) hHeld ?_
         refine tT HT_.out HW_.out 24 (some 72) (bn 30 33357439) hHeld ?_
         refine oT HT_.out 7 (some 55) (bn 30 33357567) (fun K hK => ?_)
         refine gz Try.func91 #[.agg #[.int .i64 a0_0, .int .i64 a0_1, .int .i64 a0_2, .int .i64 a0_3], .agg #[.int .i64 ((rd_T28 l1 0).f0), .int .i64 ((rd_T28 l1 0).f1)], .agg #[.int .i64 ((rd_T28 l1 1).f0), .int .i64 ((rd_T28 l1 1).f1)]] ?_
         with_reducible refine (tickingref01_cross.calls a0_0 a0_1 a0_2 a0_3 ((rd_T28 l1 0).f0) ((rd_T28 l1 0).f1) ((rd_T28 l1 1).f0) ((rd_T28 l1 1).f1) t593 _ A28.out).mono ?_
         rintro e w37 ⟨rfl, hb⟩
         refine ⟨_, rfl, ?_⟩
         have n0_ := Aside0.mk (blk_below (g := gb585) BKz hb)
         have n1_ := Aside0.mk (below_step HBz hb)
         clear BK585
         clear HB
         have BK585 := n0_
         have HB := n1_
         clear n0_ n1_
         (try clear hb)
         (try clear hb2)
         (try clear hk)
         (try clear hi)
         refine hK.out _ _ ⟨(blk_cell BK585.out 0).trans rfl, (blk_cell BK585.out 1).trans rfl, (blk_cell BK585.out 2).trans rfl, (blk_cell BK585.out 3).trans rfl, ((HB.out.cell (World.block_lt_of_cell? w _ hw591_0)).trans hw591_0), ((HB.out.cell (World.block_lt_of_cell? w _ hw591_1)).trans hw591_1), ((HB.out.cell (World.block_lt_of_cell? w _ hw592_0)).trans hw592_0), ((HB.out.cell (World.block_lt_of_cell? w _ hw592_1)).trans hw592_1), ((HB.out.cell (World.block_lt_of_cell? w _ hw595_0)).trans hw595_0), ((HB.out.cell (World.block_lt_of_cell? w _ hw595_1)).trans hw595_1), ((HB.out.cell (World.block_lt_of_cell? w _ hw596_0)).trans hw596_0), ((HB.out.cell (World.block_lt_of_cell? w _ hw596_1)).trans hw596_1), ((HB.out.cell (World.block_lt_of_cell? w _ hw599_0)).trans hw599_0), ((HB.out.cell (World.block_lt_of_cell? w _ hw599_1)).trans hw599_1), ((HB.out.cell (World.block_lt_of_cell? w _ hw600_0)).trans hw600_0), ((HB.out.cell (World.block_lt_of_cell? w _ hw600_1)).trans hw600_1)⟩ (fun hHeld => ?_)
         clear hK K
         refine nz (some 55) ?_
         refine oT HT_.out 8 (some 56) (bn 30 33357823) (fun K hK => ?_)
         refine gz Try.func90 #[.int .i64 t593] ?_
         with_reducible refine (tickingref01_sign.calls t593 t594 _ A29.out).mono ?_
         rintro e w' ⟨rfl, ⟨nd, rfl⟩⟩
         refine ⟨_, rfl, ?_⟩
         refine hK.out _ _ ⟨(blk_cell BK585.out 0).trans rfl, (blk_cell BK585.out 1).trans rfl, (blk_cell BK585.out 2).trans rfl, (blk_cell BK585.out 3).trans rfl, ((HB.out.cell (World.block_lt_of_cell? w _ hw591_0)).trans hw591_0), ((HB.out.cell (World.block_lt_of_cell? w _ hw591_1)).trans hw591_1), ((HB.out.cell (World.block_lt_of_cell? w _ hw592_0)).trans hw592_0), ((HB.out.cell (World.block_lt_of_cell? w _ hw592_1)).trans hw592_1), ((HB.out.cell (World.block_lt_of_cell? w _ hw595_0)).trans hw595_0), ((HB.out.cell (World.block_lt_of_cell? w _ hw595_1)).trans hw595_1), ((HB.out.cell (World.block_lt_of_cell? w _ hw596_0)).trans hw596_0), ((HB.out.cell (World.block_lt_of_cell? w _ hw596_1)).trans hw596_1), ((HB.out.cell (World.block_lt_of_cell? w _ hw599_0)).trans hw599_0), ((HB.out.cell (World.block_lt_of_cell? w _ hw599_1)).trans hw599_1), ((HB.out.cell (World.block_lt_of_cell? w _ hw600_0)).trans hw600_0), ((HB.out.cell (World.block_lt_of_cell? w _ hw600_1)).trans hw600_1)⟩ (fun hHeld => ?_)
         clear hK K
         refine nz (some 56) ?_
         refine oT HT_.out 16 (some 64) (bn 30 33423359) (fun K hK => ?_)
         refine gz Try.func91 #[.agg #[.int .i64 a0_0, .int .i64 a0_1, .int .i64 a0_2, .int .i64 a0_3], .agg #[.int .i64 ((rd_T28 l1 1).f0), .int .i64 ((rd_T28 l1 1).f1)], .agg #[.int .i64 ((rd_T28 l1 2).f0), .int .i64 ((rd_T28 l1 2).f1)]] ?_
         with_reducible refine (tickingref01_cross.calls a0_0 a0_1 a0_2 a0_3 ((rd_T28 l1 1).f0) ((rd_T28 l1 1).f1) ((rd_T28 l1 2).f0) ((rd_T28 l1 2).f1) t597 _ A31.out).mono ?_
         rintro e w38 ⟨rfl, hb⟩
         refine ⟨_, rfl, ?_⟩
         have n0_ := Aside0.mk (blk_below (g := gb585) BKz hb)
         have n1_ := Aside0.mk (below_step HBz hb)
         clear BK585
         clear HB
         have BK585 := n0_
         have HB := n1_
         clear n0_ n1_
         (try clear hb)
         (try clear hb2)
         (try clear hk)
         (try clear hi)
         refine hK.out _ _ ⟨(blk_cell BK585.out 0).trans rfl, (blk_cell BK585.out 1).trans rfl, (blk_cell BK585.out 2).trans rfl, (blk_cell BK585.out 3).trans rfl, ((HB.out.cell (World.block_lt_of_cell? w _ hw591_0)).trans hw591_0), ((HB.out.cell (World.block_lt_of_cell? w _ hw591_1)).trans hw591_1), ((HB.out.cell (World.block_lt_of_cell? w _ hw592_0)).trans hw592_0), ((HB.out.cell (World.block_lt_of_cell? w _ hw592_1)).trans hw592_1), ((HB.out.cell (World.block_lt_of_cell? w _ hw595_0)).trans hw595_0), ((HB.out.cell (World.block_lt_of_cell? w _ hw595_1)).trans hw595_1), ((HB.out.cell (World.block_lt_of_cell? w _ hw596_0)).trans hw596_0), ((HB.out.cell (World.block_lt_of_cell? w _ hw596_1)).trans hw596_1), ((HB.out.cell (World.block_lt_of_cell? w _ hw599_0)).trans hw599_0), ((HB.out.cell (World.block_lt_of_cell? w _ hw599_1)).trans hw599_1), ((HB.out.cell (World.block_lt_of_cell? w _ hw600_0)).trans hw600_0), ((HB.out.cell (World.block_lt_of_cell? w _ hw600_1)).trans hw600_1)⟩ (fun hHeld => ?_)
         clear hK K
         refine nz (some 64) ?_
         refine oT HT_.out 17 (some 65) (bn 30 33554431) (fun K hK => ?_)
         refine gz Try.func90 #[.int .i64 t597] ?_
         with_reducible refine (tickingref01_sign.calls t597 t598 _ A32.out).mono ?_
         rintro e w' ⟨rfl, ⟨nd, rfl⟩⟩
         refine ⟨_, rfl, ?_⟩
         refine hK.out _ _ ⟨(blk_cell BK585.out 0).trans rfl, (blk_cell BK585.out 1).trans rfl, (blk_cell BK585.out 2).trans rfl, (blk_cell BK585.out 3).trans rfl, ((HB.out.cell (World.block_lt_of_cell? w _ hw591_0)).trans hw591_0), ((HB.out.cell (World.block_lt_of_cell? w _ hw591_1)).trans hw591_1), ((HB.out.cell (World.block_lt_of_cell? w _ hw592_0)).trans hw592_0), ((HB.out.cell (World.block_lt_of_cell? w _ hw592_1)).trans hw592_1), ((HB.out.cell (World.block_lt_of_cell? w _ hw595_0)).trans hw595_0), ((HB.out.cell (World.block_lt_of_cell? w _ hw595_1)).trans hw595_1), ((HB.out.cell (World.block_lt_of_cell? w _ hw596_0)).trans hw596_0), ((HB.out.cell (World.block_lt_of_cell? w _ hw596_1)).trans hw596_1), ((HB.out.cell (World.block_lt_of_cell? w _ hw599_0)).trans hw599_0), ((HB.out.cell (World.block_lt_of_cell? w _ hw599_1)).trans hw599_1), ((HB.out.cell (World.block_lt_of_cell? w _ hw600_0)).trans hw600_0), ((HB.out.cell (World.block_lt_of_cell? w _ hw600_1)).trans hw600_1)⟩ (fun hHeld => ?_)
         clear hK K
         refine nz (some 65) ?_
         refine oT HT_.out 25 (some 73) (bn 30 67108863) (fun K hK => ?_)
         refine gz Try.func91 #[.agg #[.int .i64 a0_0, .int .i64 a0_1, .int .i64 a0_2, .int .i64 a0_3], .agg #[.int .i64 ((rd_T28 l1 2).f0), .int .i64 ((rd_T28 l1 2).f1)], .agg #[.int .i64 ((rd_T28 l1 0).f0), .int .i64 ((rd_T28 l1 0).f1)]] ?_
         with_reducible refine (tickingref01_cross.calls a0_0 a0_1 a0_2 a0_3 ((rd_T28 l1 2).f0) ((rd_T28 l1 2).f1) ((rd_T28 l1 0).f0) ((rd_T28 l1 0).f1) t601 _ A33.out).mono ?_
         rintro e w39 ⟨rfl, hb⟩
         refine ⟨_, rfl, ?_⟩
         have n0_ := Aside0.mk (blk_below (g := gb585) BKz hb)
         have n1_ := Aside0.mk (below_step HBz hb)
         clear BK585
         clear HB
         have BK585 := n0_
         have HB := n1_
         clear n0_ n1_
         (try clear hb)
         (try clear hb2)
         (try clear hk)
         (try clear hi)
         refine hK.out _ _ ⟨(blk_cell BK585.out 0).trans rfl, (blk_cell BK585.out 1).trans rfl, (blk_cell BK585.out 2).trans rfl, (blk_cell BK585.out 3).trans rfl, ((HB.out.cell (World.block_lt_of_cell? w _ hw591_0)).trans hw591_0), ((HB.out.cell (World.block_lt_of_cell? w _ hw591_1)).trans hw591_1), ((HB.out.cell (World.block_lt_of_cell? w _ hw592_0)).trans hw592_0), ((HB.out.cell (World.block_lt_of_cell? w _ hw592_1)).trans hw592_1), ((HB.out.cell (World.block_lt_of_cell? w _ hw595_0)).trans hw595_0), ((HB.out.cell (World.block_lt_of_cell? w _ hw595_1)).trans hw595_1), ((HB.out.cell (World.block_lt_of_cell? w _ hw596_0)).trans hw596_0), ((HB.out.cell (World.block_lt_of_cell? w _ hw596_1)).trans hw596_1), ((HB.out.cell (World.block_lt_of_cell? w _ hw599_0)).trans hw599_0), ((HB.out.cell (World.block_lt_of_cell? w _ hw599_1)).trans hw599_1), ((HB.out.cell (World.block_lt_of_cell? w _ hw600_0)).trans hw600_0), ((HB.out.cell (World.block_lt_of_cell? w _ hw600_1)).trans hw600_1)⟩ (fun hHeld => ?_)
         clear hK K
         refine nz (some 73) ?_
         refine oT HT_.out 26 (some 74) (bn 30 134217727) (fun K hK => ?_)
         refine gz Try.func90 #[.int .i64 t601] ?_
         with_reducible refine (tickingref01_sign.calls t601 t602 _ A34.out).mono ?_
         rintro e w' ⟨rfl, ⟨nd, rfl⟩⟩
         refine ⟨_, rfl, ?_⟩
         refine hK.out _ _ ⟨(blk_cell BK585.out 0).trans rfl, (blk_cell BK585.out 1).trans rfl, (blk_cell BK585.out 2).trans rfl, (blk_cell BK585.out 3).trans rfl, ((HB.out.cell (World.block_lt_of_cell? w _ hw591_0)).trans hw591_0), ((HB.out.cell (World.block_lt_of_cell? w _ hw591_1)).trans hw591_1), ((HB.out.cell (World.block_lt_of_cell? w _ hw592_0)).trans hw592_0), ((HB.out.cell (World.block_lt_of_cell? w _ hw592_1)).trans hw592_1), ((HB.out.cell (World.block_lt_of_cell? w _ hw595_0)).trans hw595_0), ((HB.out.cell (World.block_lt_of_cell? w _ hw595_1)).trans hw595_1), ((HB.out.cell (World.block_lt_of_cell? w _ hw596_0)).trans hw596_0), ((HB.out.cell (World.block_lt_of_cell? w _ hw596_1)).trans hw596_1), ((HB.out.cell (World.block_lt_of_cell? w _ hw599_0)).trans hw599_0), ((HB.out.cell (World.block_lt_of_cell? w _ hw599_1)).trans hw599_1), ((HB.out.cell (World.block_lt_of_cell? w _ hw600_0)).trans hw600_0), ((HB.out.cell (World.block_lt_of_cell? w _ hw600_1)).trans hw600_1)⟩ (fun hHeld => ?_)
         clear hK K
         refine nz (some 74) ?_
         refine pT HT_.out 27 (some 7) (bn 30 268435455) ?_
         refine pT HT_.out 28 (some 8) (bn 30 536870911) ?_
         refine pT HT_.out 29 (some 9) (bn 30 1073741823) ?_
         refine done_ (done_of HT_.out (by kernel_rfl)) ?_
         try go_wp2
         go_ret
         exact ⟨by first | rfl | (simp [errW_none, errW_some] <;> rfl) | (simp [*, errW_none, errW_some] <;> rfl), HBz⟩
        ·rw [if_neg c35] at H
         have c35b0 : (t594 == 0) = false := beq_eq_false_iff_ne.mpr c35
         have c35b1 : (t594 != 0) = true := bne_iff_ne.mpr c35
         by_cases c40 : t594 = t598
         ·rw [if_pos c40] at H
          have c40b0 : (t594 == t598) = true := beq_iff_eq.mpr c40
          have c40b1 : (t594 != t598) = false := bne_eq_false_iff_eq.mpr c40
          clear c40
          obtain rfl := Option.some.inj H
          try go_wp2
          have n0_ := Aside0.mk (blk_drew BK585.out)
          have n1_ := Aside0.mk (below_drew1 HB.out)
          clear BK585
          clear HB
          have BK585 := n0_
          have HB := n1_
          clear n0_ n1_
          have p591 : 0 ≤ (0 : Int) := (by omega)
          have q591 : 0 < (l1.length : Int) := of_decide_eq_true (by first | (with_reducible assumption) | assumption)
          obtain ⟨ad591, e591, hx591_0, hx591_1⟩ := at_T28 HR1.out 0 p591 q591
          have hw591_1 := hx591_1
          (try rw [show ((0 : Int)).toNat = 0 from rfl] at hw591_1)
          (try rw [show 0 * 2 = 0 from rfl] at hw591_1)
          (try rw [Addr.add_zero'] at hw591_1)
          have hw591_0 := hx591_0
          (try rw [show ((0 : Int)).toNat = 0 from rfl] at hw591_0)
          (try rw [show 0 * 2 = 0 from rfl] at hw591_0)
          (try rw [Addr.add_zero'] at hw591_0)
          cases e591
          have qi591 : (0 < l1.length) = True := eq_true (by omega)
          (try rw [show ((0 : Int)).toNat = 0 from rfl] at hx591_0)
          (try rw [show 0 * 2 = 0 from rfl] at hx591_0)
          (try rw [Addr.add_zero'] at hx591_0)
          (try rw [show ((0 : Int)).toNat = 0 from rfl] at hx591_1)
          (try rw [show 0 * 2 = 0 from rfl] at hx591_1)
          (try rw [Addr.add_zero'] at hx591_1)
          replace hx591_0 := (HB.out.cell (World.block_lt_of_cell? w _ hx591_0)).trans hx591_0
          replace hx591_1 := (HB.out.cell (World.block_lt_of_cell? w _ hx591_1)).trans hx591_1
          replace p591 := eq_true p591
          replace q591 := eq_true q591
          have p592 : 0 ≤ (1 : Int) := (by omega)
          have q592 : 1 < (l1.length : Int) := of_decide_eq_true (by first | (with_reducible assumption) | assumption)
          obtain ⟨ad592, e592, hx592_0, hx592_1⟩ := at_T28 HR1.out 1 p592 q592
          have hw592_1 := hx592_1
          (try rw [show ((1 : Int)).toNat = 1 from rfl] at hw592_1)
          (try rw [show 1 * 2 = 2 from rfl] at hw592_1)
          (try simp only [Nat.reduceMul, Nat.reduceEqDiff, Go.Addr.add, ↓reduceIte] at hw592_1)
          have hw592_0 := hx592_0
          (try rw [show ((1 : Int)).toNat = 1 from rfl] at hw592_0)
          (try rw [show 1 * 2 = 2 from rfl] at hw592_0)
          (try simp only [Nat.reduceMul, Nat.reduceEqDiff, Go.Addr.add, ↓reduceIte] at hw592_0)
          obtain rfl : ad591 = ad592 := (by injection e592)
          (try simp only [show (1 : Int).toNat = 1 from rfl, Nat.reduceMul, Nat.reduceEqDiff, Go.Addr.add, ↓reduceIte] at hx592_0)
          (try simp only [show (1 : Int).toNat = 1 from rfl, Nat.reduceMul, Nat.reduceEqDiff, Go.Addr.add, ↓reduceIte] at hx592_1)
          have qi592 : (1 < l1.length) = True := eq_true (by omega)
          (try rw [show ((1 : Int)).toNat = 1 from rfl] at hx592_0)
          (try rw [show 1 * 2 = 2 from rfl] at hx592_0)
          (try rw [show ((1 : Int)).toNat = 1 from rfl] at hx592_1)
          (try rw [show 1 * 2 = 2 from rfl] at hx592_1)
          replace hx592_0 := (HB.out.cell (World.block_lt_of_cell? w _ hx592_0)).trans hx592_0
          replace hx592_1 := (HB.out.cell (World.block_lt_of_cell? w _ hx592_1)).trans hx592_1
          replace p592 := eq_true p592
          replace q592 := eq_true q592
          have p595 : 0 ≤ (1 : Int) := (by omega)
          have q595 : 1 < (l1.length : Int) := of_decide_eq_true (by first | (with_reducible assumption) | assumption)
          obtain ⟨ad595, e595, hx595_0, hx595_1⟩ := at_T28 HR1.out 1 p595 q595
          have hw595_1 := hx595_1
          (try rw [show ((1 : Int)).toNat = 1 from rfl] at hw595_1)
          (try rw [show 1 * 2 = 2 from rfl] at hw595_1)
          (try simp only [Nat.reduceMul, Nat.reduceEqDiff, Go.Addr.add, ↓reduceIte] at hw595_1)
          have hw595_0 := hx595_0
          (try rw [show ((1 : Int)).toNat = 1 from rfl] at hw595_0)
          (try rw [show 1 * 2 = 2 from rfl] at hw595_0)
          (try simp only [Nat.reduceMul, Nat.reduceEqDiff, Go.Addr.add, ↓reduceIte] at hw595_0)
          obtain rfl : ad591 = ad595 := (by injection e595)
          (try simp only [show (1 : Int).toNat = 1 from rfl, Nat.reduceMul, Nat.reduceEqDiff, Go.Addr.add, ↓reduceIte] at hx595_0)
          (try simp only [show (1 : Int).toNat = 1 from rfl, Nat.reduceMul, Nat.reduceEqDiff, Go.Addr.add, ↓reduceIte] at hx595_1)
          have qi595 : (1 < l1.length) = True := eq_true (by omega)
          (try rw [show ((1 : Int)).toNat = 1 from rfl] at hx595_0)
          (try rw [show 1 * 2 = 2 from rfl] at hx595_0)
          (try rw [show ((1 : Int)).toNat = 1 from rfl] at hx595_1)
          (try rw [show 1 * 2 = 2 from rfl] at hx595_1)
          replace hx595_0 := (HB.out.cell (World.block_lt_of_cell? w _ hx595_0)).trans hx595_0
          replace hx595_1 := (HB.out.cell (World.block_lt_of_cell? w _ hx595_1)).trans hx595_1
          replace p595 := eq_true p595
          replace q595 := eq_true q595
          have p596 : 0 ≤ (2 : Int) := (by omega)
          have q596 : 2 < (l1.length : Int) := of_decide_eq_true (by first | (with_reducible assumption) | assumption)
          obtain ⟨ad596, e596, hx596_0, hx596_1⟩ := at_T28 HR1.out 2 p596 q596
          have hw596_1 := hx596_1
          (try rw [show ((2 : Int)).toNat = 2 from rfl] at hw596_1)
          (try rw [show 2 * 2 = 4 from rfl] at hw596_1)
          (try simp only [Nat.reduceMul, Nat.reduceEqDiff, Go.Addr.add, ↓reduceIte] at hw596_1)
          have hw596_0 := hx596_0
          (try rw [show ((2 : Int)).toNat = 2 from rfl] at hw596_0)
          (try rw [show 2 * 2 = 4 from rfl] at hw596_0)
          (try simp only [Nat.reduceMul, Nat.reduceEqDiff, Go.Addr.add, ↓reduceIte] at hw596_0)
          obtain rfl : ad591 = ad596 := (by injection e596)
          (try simp only [show (2 : Int).toNat = 2 from rfl, Nat.reduceMul, Nat.reduceEqDiff, Go.Addr.add, ↓reduceIte] at hx596_0)
          (try simp only [show (2 : Int).toNat = 2 from rfl, Nat.reduceMul, Nat.reduceEqDiff, Go.Addr.add, ↓reduceIte] at hx596_1)
          have qi596 : (2 < l1.length) = True := eq_true (by omega)
          (try rw [show ((2 : Int)).toNat = 2 from rfl] at hx596_0)
          (try rw [show 2 * 2 = 4 from rfl] at hx596_0)
          (try rw [show ((2 : Int)).toNat = 2 from rfl] at hx596_1)
          (try rw [show 2 * 2 = 4 from rfl] at hx596_1)
          replace hx596_0 := (HB.out.cell (World.block_lt_of_cell? w _ hx596_0)).trans hx596_0
          replace hx596_1 := (HB.out.cell (World.block_lt_of_cell? w _ hx596_1)).trans hx596_1
          replace p596 := eq_true p596
          replace q596 := eq_true q596
          have p599 : 0 ≤ (2 : Int) := (by omega)
          have q599 : 2 < (l1.length : Int) := of_decide_eq_true (by first | (with_reducible assumption) | assumption)
          obtain ⟨ad599, e599, hx599_0, hx599_1⟩ := at_T28 HR1.out 2 p599 q599
          have hw599_1 := hx599_1
          (try rw [show ((2 : Int)).toNat = 2 from rfl] at hw599_1)
          (try rw [show 2 * 2 = 4 from rfl] at hw599_1)
          (try simp only [Nat.reduceMul, Nat.reduceEqDiff, Go.Addr.add, ↓reduceIte] at hw599_1)
          have hw599_0 := hx599_0
          (try rw [show ((2 : Int)).toNat = 2 from rfl] at hw599_0)
          (try rw [show 2 * 2 = 4 from rfl] at hw599_0)
          (try simp only [Nat.reduceMul, Nat.reduceEqDiff, Go.Addr.add, ↓reduceIte] at hw599_0)
          obtain rfl : ad591 = ad599 := (by injection e599)
          (try simp only [show (2 : Int).toNat = 2 from rfl, Nat.reduceMul, Nat.reduceEqDiff, Go.Addr.add, ↓reduceIte] at hx599_0)
          (try simp only [show (2 : Int).toNat = 2 from rfl, Nat.reduceMul, Nat.reduceEqDiff, Go.Addr.add, ↓reduceIte] at hx599_1)
          have qi599 : (2 < l1.length) = True := eq_true (by omega)
          (try rw [show ((2 : Int)).toNat = 2 from rfl] at hx599_0)
          (try rw [show 2 * 2 = 4 from rfl] at hx599_0)
          (try rw [show ((2 : Int)).toNat = 2 from rfl] at hx599_1)
          (try rw [show 2 * 2 = 4 from rfl] at hx599_1)
          replace hx599_0 := (HB.out.cell (World.block_lt_of_cell? w _ hx599_0)).trans hx599_0
          replace hx599_1 := (HB.out.cell (World.block_lt_of_cell? w _ hx599_1)).trans hx599_1
          replace p599 := eq_true p599
          replace q599 := eq_true q599
          have p600 : 0 ≤ (0 : Int) := (by omega)
          have q600 : 0 < (l1.length : Int) := of_decide_eq_true (by first | (with_reducible assumption) | assumption)
          obtain ⟨ad600, e600, hx600_0, hx600_1⟩ := at_T28 HR1.out 0 p600 q600
          have hw600_1 := hx600_1
          (try rw [show ((0 : Int)).toNat = 0 from rfl] at hw600_1)
          (try rw [show 0 * 2 = 0 from rfl] at hw600_1)
          (try rw [Addr.add_zero'] at hw600_1)
          have hw600_0 := hx600_0
          (try rw [show ((0 : Int)).toNat = 0 from rfl] at hw600_0)
          (try rw [show 0 * 2 = 0 from rfl] at hw600_0)
          (try rw [Addr.add_zero'] at hw600_0)
          obtain rfl : ad591 = ad600 := (by injection e600)
          have qi600 : (0 < l1.length) = True := eq_true (by omega)
          (try rw [show ((0 : Int)).toNat = 0 from rfl] at hx600_0)
          (try rw [show 0 * 2 = 0 from rfl] at hx600_0)
          (try rw [Addr.add_zero'] at hx600_0)
          (try rw [show ((0 : Int)).toNat = 0 from rfl] at hx600_1)
          (try rw [show 0 * 2 = 0 from rfl] at hx600_1)
          (try rw [Addr.add_zero'] at hx600_1)
          replace hx600_0 := (HB.out.cell (World.block_lt_of_cell? w _ hx600_0)).trans hx600_0
          replace hx600_1 := (HB.out.cell (World.block_lt_of_cell? w _ hx600_1)).trans hx600_1
          replace p600 := eq_true p600
          replace q600 := eq_true q600
          refine stz (fun w' => w'.cell? ⟨gb585, 0, none⟩ = some (.int .i64 a0_0) ∧ w'.cell? ⟨gb585, 1, none⟩ = some (.int .i64 a0_1) ∧ w'.cell? ⟨gb585, 2, none⟩ = some (.int .i64 a0_2) ∧ w'.cell? ⟨gb585, 3, none⟩ = some (.int .i64 a0_3) ∧ w'.cell? ad591 = some (.int .i64 ((rd_T28 l1 0).f0)) ∧ w'.cell? ⟨ad591.block, ad591.off + 1, none⟩ = some (.int .i64 ((rd_T28 l1 0).f1)) ∧ w'.cell? ⟨ad591.block, ad591.off + 2, none⟩ = some (.int .i64 ((rd_T28 l1 1).f0)) ∧ w'.cell? ⟨ad591.block, ad591.off + 2 + 1, none⟩ = some (.int .i64 ((rd_T28 l1 1).f1)) ∧ w'.cell? ⟨ad591.block, ad591.off + 2, none⟩ = some (.int .i64 ((rd_T28 l1 1).f0)) ∧ w'.cell? ⟨ad591.block, ad591.off + 2 + 1, none⟩ = some (.int .i64 ((rd_T28 l1 1).f1)) ∧ w'.cell? ⟨ad591.block, ad591.off + 4, none⟩ = some (.int .i64 ((rd_T28 l1 2).f0)) ∧ w'.cell? ⟨ad591.block, ad591.off + 4 + 1, none⟩ = some (.int .i64 ((rd_T28 l1 2).f1)) ∧ w'.cell? ⟨ad591.block, ad591.off + 4, none⟩ = some (.int .i64 ((rd_T28 l1 2).f0)) ∧ w'.cell? ⟨ad591.block, ad591.off + 4 + 1, none⟩ = some (.int .i64 ((rd_T28 l1 2).f1)) ∧ w'.cell? ad591 = some (.int .i64 ((rd_T28 l1 0).f0)) ∧ w'.cell? ⟨ad591.block, ad591.off + 1, none⟩ = some (.int .i64 ((rd_T28 l1 0).f1))) [] (bn 30 0) ⟨(blk_cell BK585.out 0).trans rfl, (blk_cell BK585.out 1).trans rfl, (blk_cell BK585.out 2).trans rfl, (blk_cell BK585.out 3).trans rfl, ((HB.out.cell (World.block_lt_of_cell? w _ hw591_0)).trans hw591_0), ((HB.out.cell (World.block_lt_of_cell? w _ hw591_1)).trans hw591_1), ((HB.out.cell (World.block_lt_of_cell? w _ hw592_0)).trans hw592_0), ((HB.out.cell (World.block_lt_of_cell? w _ hw592_1)).trans hw592_1), ((HB.out.cell (World.block_lt_of_cell? w _ hw595_0)).trans hw595_0), ((HB.out.cell (World.block_lt_of_cell? w _ hw595_1)).trans hw595_1), ((HB.out.cell (World.block_lt_of_cell? w _ hw596_0)).trans hw596_0), ((HB.out.cell (World.block_lt_of_cell? w _ hw596_1)).trans hw596_1), ((HB.out.cell (World.block_lt_of_cell? w _ hw599_0)).trans hw599_0), ((HB.out.cell (World.block_lt_of_cell? w _ hw599_1)).trans hw599_1), ((HB.out.cell (World.block_lt_of_cell? w _ hw600_0)).trans hw600_0), ((HB.out.cell (World.block_lt_of_cell? w _ hw600_1)).trans hw600_1)⟩ (fun hHeld => ?_); refine with_tabW tickingref01_Hull.tab11 tickingref01_Hull.bits11 (fun HT_ HW_ => ?_)
          generalize wr.drew = w41 at BK585 HB hx591_0 hx591_1 hx592_0 hx592_1 hx595_0 hx595_1 hx596_0 hx596_1 hx599_0 hx599_1 hx600_0 hx600_1 hHeld ⊢
          refine pT HT_.out 1 (some 49) (bn 30 2) ?_
          refine pT HT_.out 2 (some 50) (bn 30 6) ?_
          refine pT HT_.out 4 (some 52) (bn 30 22) ?_
          refine pT HT_.out 5 (some 53) (bn 30 54) ?_
          refine pT HT_.out 10 (some 58) (bn 30 1078) ?_
          refine pT HT_.out 11 (some 59) (bn 30 3126) ?_
          refine pT HT_.out 13 (some 61) (bn 30 11318) ?_
          refine pT HT_.out 14 (some 62) (bn 30 27702) ?_
          refine pT HT_.out 19 (some 67) (bn 30 551990) ?_
          refine pT HT_.out 20 (some 68) (bn 30 1600566) ?_
          refine pT HT_.out 22 (some 70) (bn 30 5794870) ?_
          refine pT HT_.out 23 (some 71) (bn 30 14183478) ?_
          refine tT HT_.out HW_.out 0 (some 48) (bn 30 14183479) hHeld ?_
          refine tT HT_.out HW_.out 3 (some 51) (bn 30 14183487) hHeld ?_
          refine tT HT_.out HW_.out 6 (some 54) (bn 30 14183551) hHeld ?_
          refine tT HT_.out HW_.out 9 (some 57) (bn 30 14184063) hHeld ?_
          refine tT HT_.out HW_.out 12 (some 60) (bn 30 14188159) hHeld ?_
          refine tT HT_.out HW_.out 15 (some 63) (bn 30 14220927) hHeld ?_
          refine tT HT_.out HW_.out 18 (some 66) (bn 30 14483071) hHeld ?_
          refine tT HT_.out HW_.out 21 (some 69) (bn 30 16580223) hHeld ?_
          refine tT HT_.out HW_.out 24 (some 72) (bn 30 33357439) hHeld ?_
          refine oT HT_.out 7 (some 55) (bn 30 33357567) (fun K hK => ?_)
          refine gz Try.func91 #[.agg #[.int .i64 a0_0, .int .i64 a0_1, .int .i64 a0_2, .int .i64 a0_3], .agg #[.int .i64 ((rd_T28 l1 0).f0), .int .i64 ((rd_T28 l1 0).f1)], .agg #[.int .i64 ((rd_T28 l1 1).f0), .int .i64 ((rd_T28 l1 1).f1)]] ?_
          with_reducible refine (tickingref01_cross.calls a0_0 a0_1 a0_2 a0_3 ((rd_T28 l1 0).f0) ((rd_T28 l1 0).f1) ((rd_T28 l1 1).f0) ((rd_T28 l1 1).f1) t593 _ A28.out).mono ?_
          rintro e w42 ⟨rfl, hb⟩
          refine ⟨_, rfl, ?_⟩
          have n0_ := Aside0.mk (blk_below (g := gb585) BKz hb)
          have n1_ := Aside0.mk (below_step HBz hb)
          clear BK585
          clear HB
          have BK585 := n0_
          have HB := n1_
          clear n0_ n1_
          (try clear hb)
          (try clear hb2)
          (try clear hk)
          (try clear hi)
          refine hK.out _ _ ⟨(blk_cell BK585.out 0).trans rfl, (blk_cell BK585.out 1).trans rfl, (blk_cell BK585.out 2).trans rfl, (blk_cell BK585.out 3).trans rfl, ((HB.out.cell (World.block_lt_of_cell? w _ hw591_0)).trans hw591_0), ((HB.out.cell (World.block_lt_of_cell? w _ hw591_1)).trans hw591_1), ((HB.out.cell (World.block_lt_of_cell? w _ hw592_0)).trans hw592_0), ((HB.out.cell (World.block_lt_of_cell? w _ hw592_1)).trans hw592_1), ((HB.out.cell (World.block_lt_of_cell? w _ hw595_0)).trans hw595_0), ((HB.out.cell (World.block_lt_of_cell? w _ hw595_1)).trans hw595_1), ((HB.out.cell (World.block_lt_of_cell? w _ hw596_0)).trans hw596_0), ((HB.out.cell (World.block_lt_of_cell? w _ hw596_1)).trans hw596_1), ((HB.out.cell (World.block_lt_of_cell? w _ hw599_0)).trans hw599_0), ((HB.out.cell (World.block_lt_of_cell? w _ hw599_1)).trans hw599_1), ((HB.out.cell (World.block_lt_of_cell? w _ hw600_0)).trans hw600_0), ((HB.out.cell (World.block_lt_of_cell? w _ hw600_1)).trans hw600_1)⟩ (fun hHeld => ?_)
          clear hK K
          refine nz (some 55) ?_
          refine oT HT_.out 8 (some 56) (bn 30 33357823) (fun K hK => ?_)
          refine gz Try.func90 #[.int .i64 t593] ?_
          with_reducible refine (tickingref01_sign.calls t593 t594 _ A29.out).mono ?_
          rintro e w' ⟨rfl, ⟨nd, rfl⟩⟩
          refine ⟨_, rfl, ?_⟩
          refine hK.out _ _ ⟨(blk_cell BK585.out 0).trans rfl, (blk_cell BK585.out 1).trans rfl, (blk_cell BK585.out 2).trans rfl, (blk_cell BK585.out 3).trans rfl, ((HB.out.cell (World.block_lt_of_cell? w _ hw591_0)).trans hw591_0), ((HB.out.cell (World.block_lt_of_cell? w _ hw591_1)).trans hw591_1), ((HB.out.cell (World.block_lt_of_cell? w _ hw592_0)).trans hw592_0), ((HB.out.cell (World.block_lt_of_cell? w _ hw592_1)).trans hw592_1), ((HB.out.cell (World.block_lt_of_cell? w _ hw595_0)).trans hw595_0), ((HB.out.cell (World.block_lt_of_cell? w _ hw595_1)).trans hw595_1), ((HB.out.cell (World.block_lt_of_cell? w _ hw596_0)).trans hw596_0), ((HB.out.cell (World.block_lt_of_cell? w _ hw596_1)).trans hw596_1), ((HB.out.cell (World.block_lt_of_cell? w _ hw599_0)).trans hw599_0), ((HB.out.cell (World.block_lt_of_cell? w _ hw599_1)).trans hw599_1), ((HB.out.cell (World.block_lt_of_cell? w _ hw600_0)).trans hw600_0), ((HB.out.cell (World.block_lt_of_cell? w _ hw600_1)).trans hw600_1)⟩ (fun hHeld => ?_)
          clear hK K
          refine nz (some 56) ?_
          refine oT HT_.out 16 (some 64) (bn 30 33423359) (fun K hK => ?_)
          refine gz Try.func91 #[.agg #[.int .i64 a0_0, .int .i64 a0_1, .int .i64 a0_2, .int .i64 a0_3], .agg #[.int .i64 ((rd_T28 l1 1).f0), .int .i64 ((rd_T28 l1 1).f1)], .agg #[.int .i64 ((rd_T28 l1 2).f0), .int .i64 ((rd_T28 l1 2).f1)]] ?_
          with_reducible refine (tickingref01_cross.calls a0_0 a0_1 a0_2 a0_3 ((rd_T28 l1 1).f0) ((rd_T28 l1 1).f1) ((rd_T28 l1 2).f0) ((rd_T28 l1 2).f1) t597 _ A31.out).mono ?_
          rintro e w43 ⟨rfl, hb⟩
          refine ⟨_, rfl, ?_⟩
          have n0_ := Aside0.mk (blk_below (g := gb585) BKz hb)
          have n1_ := Aside0.mk (below_step HBz hb)
          clear BK585
          clear HB
          have BK585 := n0_
          have HB := n1_
          clear n0_ n1_
          (try clear hb)
          (try clear hb2)
          (try clear hk)
          (try clear hi)
          refine hK.out _ _ ⟨(blk_cell BK585.out 0).trans rfl, (blk_cell BK585.out 1).trans rfl, (blk_cell BK585.out 2).trans rfl, (blk_cell BK585.out 3).trans rfl, ((HB.out.cell (World.block_lt_of_cell? w _ hw591_0)).trans hw591_0), ((HB.out.cell (World.block_lt_of_cell? w _ hw591_1)).trans hw591_1), ((HB.out.cell (World.block_lt_of_cell? w _ hw592_0)).trans hw592_0), ((HB.out.cell (World.block_lt_of_cell? w _ hw592_1)).trans hw592_1), ((HB.out.cell (World.block_lt_of_cell? w _ hw595_0)).trans hw595_0), ((HB.out.cell (World.block_lt_of_cell? w _ hw595_1)).trans hw595_1), ((HB.out.cell (World.block_lt_of_cell? w _ hw596_0)).trans hw596_0), ((HB.out.cell (World.block_lt_of_cell? w _ hw596_1)).trans hw596_1), ((HB.out.cell (World.block_lt_of_cell? w _ hw599_0)).trans hw599_0), ((HB.out.cell (World.block_lt_of_cell? w _ hw599_1)).trans hw599_1), ((HB.out.cell (World.block_lt_of_cell? w _ hw600_0)).trans hw600_0), ((HB.out.cell (World.block_lt_of_cell? w _ hw600_1)).trans hw600_1)⟩ (fun hHeld => ?_)
          clear hK K
          refine nz (some 64) ?_
          refine oT HT_.out 17 (some 65) (bn 30 33554431) (fun K hK => ?_)
          refine gz Try.func90 #[.int .i64 t597] ?_
          with_reducible refine (tickingref01_sign.calls t597 t598 _ A32.out).mono ?_
          rintro e w' ⟨rfl, ⟨nd, rfl⟩⟩
          refine ⟨_, rfl, ?_⟩
          refine hK.out _ _ ⟨(blk_cell BK585.out 0).trans rfl, (blk_cell BK585.out 1).trans rfl, (blk_cell BK585.out 2).trans rfl, (blk_cell BK585.out 3).trans rfl, ((HB.out.cell (World.block_lt_of_cell? w _ hw591_0)).trans hw591_0), ((HB.out.cell (World.block_lt_of_cell? w _ hw591_1)).trans hw591_1), ((HB.out.cell (World.block_lt_of_cell? w _ hw592_0)).trans hw592_0), ((HB.out.cell (World.block_lt_of_cell? w _ hw592_1)).trans hw592_1), ((HB.out.cell (World.block_lt_of_cell? w _ hw595_0)).trans hw595_0), ((HB.out.cell (World.block_lt_of_cell? w _ hw595_1)).trans hw595_1), ((HB.out.cell (World.block_lt_of_cell? w _ hw596_0)).trans hw596_0), ((HB.out.cell (World.block_lt_of_cell? w _ hw596_1)).trans hw596_1), ((HB.out.cell (World.block_lt_of_cell? w _ hw599_0)).trans hw599_0), ((HB.out.cell (World.block_lt_of_cell? w _ hw599_1)).trans hw599_1), ((HB.out.cell (World.block_lt_of_cell? w _ hw600_0)).trans hw600_0), ((HB.out.cell (World.block_lt_of_cell? w _ hw600_1)).trans hw600_1)⟩ (fun hHeld => ?_)
          clear hK K
          refine nz (some 65) ?_
          refine oT HT_.out 25 (some 73) (bn 30 67108863) (fun K hK => ?_)
          refine gz Try.func91 #[.agg #[.int .i64 a0_0, .int .i64 a0_1, .int .i64 a0_2, .int .i64 a0_3], .agg #[.int .i64 ((rd_T28 l1 2).f0), .int .i64 ((rd_T28 l1 2).f1)], .agg #[.int .i64 ((rd_T28 l1 0).f0), .int .i64 ((rd_T28 l1 0).f1)]] ?_
          with_reducible refine (tickingref01_cross.calls a0_0 a0_1 a0_2 a0_3 ((rd_T28 l1 2).f0) ((rd_T28 l1 2).f1) ((rd_T28 l1 0).f0) ((rd_T28 l1 0).f1) t601 _ A33.out).mono ?_
          rintro e w44 ⟨rfl, hb⟩
          refine ⟨_, rfl, ?_⟩
          have n0_ := Aside0.mk (blk_below (g := gb585) BKz hb)
          have n1_ := Aside0.mk (below_step HBz hb)
          clear BK585
          clear HB
          have BK585 := n0_
          have HB := n1_
          clear n0_ n1_
          (try clear hb)
          (try clear hb2)
          (try clear hk)
          (try clear hi)
          refine hK.out _ _ ⟨(blk_cell BK585.out 0).trans rfl, (blk_cell BK585.out 1).trans rfl, (blk_cell BK585.out 2).trans rfl, (blk_cell BK585.out 3).trans rfl, ((HB.out.cell (World.block_lt_of_cell? w _ hw591_0)).trans hw591_0), ((HB.out.cell (World.block_lt_of_cell? w _ hw591_1)).trans hw591_1), ((HB.out.cell (World.block_lt_of_cell? w _ hw592_0)).trans hw592_0), ((HB.out.cell (World.block_lt_of_cell? w _ hw592_1)).trans hw592_1), ((HB.out.cell (World.block_lt_of_cell? w _ hw595_0)).trans hw595_0), ((HB.out.cell (World.block_lt_of_cell? w _ hw595_1)).trans hw595_1), ((HB.out.cell (World.block_lt_of_cell? w _ hw596_0)).trans hw596_0), ((HB.out.cell (World.block_lt_of_cell? w _ hw596_1)).trans hw596_1), ((HB.out.cell (World.block_lt_of_cell? w _ hw599_0)).trans hw599_0), ((HB.out.cell (World.block_lt_of_cell? w _ hw599_1)).trans hw599_1), ((HB.out.cell (World.block_lt_of_cell? w _ hw600_0)).trans hw600_0), ((HB.out.cell (World.block_lt_of_cell? w _ hw600_1)).trans hw600_1)⟩ (fun hHeld => ?_)
          clear hK K
          refine nz (some 73) ?_
          refine oT HT_.out 26 (some 74) (bn 30 134217727) (fun K hK => ?_)
          refine gz Try.func90 #[.int .i64 t601] ?_
          with_reducible refine (tickingref01_sign.calls t601 t602 _ A34.out).mono ?_
          rintro e w' ⟨rfl, ⟨nd, rfl⟩⟩
          refine ⟨_, rfl, ?_⟩
          refine hK.out _ _ ⟨(blk_cell BK585.out 0).trans rfl, (blk_cell BK585.out 1).trans rfl, (blk_cell BK585.out 2).trans rfl, (blk_cell BK585.out 3).trans rfl, ((HB.out.cell (World.block_lt_of_cell? w _ hw591_0)).trans hw591_0), ((HB.out.cell (World.block_lt_of_cell? w _ hw591_1)).trans hw591_1), ((HB.out.cell (World.block_lt_of_cell? w _ hw592_0)).trans hw592_0), ((HB.out.cell (World.block_lt_of_cell? w _ hw592_1)).trans hw592_1), ((HB.out.cell (World.block_lt_of_cell? w _ hw595_0)).trans hw595_0), ((HB.out.cell (World.block_lt_of_cell? w _ hw595_1)).trans hw595_1), ((HB.out.cell (World.block_lt_of_cell? w _ hw596_0)).trans hw596_0), ((HB.out.cell (World.block_lt_of_cell? w _ hw596_1)).trans hw596_1), ((HB.out.cell (World.block_lt_of_cell? w _ hw599_0)).trans hw599_0), ((HB.out.cell (World.block_lt_of_cell? w _ hw599_1)).trans hw599_1), ((HB.out.cell (World.block_lt_of_cell? w _ hw600_0)).trans hw600_0), ((HB.out.cell (World.block_lt_of_cell? w _ hw600_1)).trans hw600_1)⟩ (fun hHeld => ?_)
          clear hK K
          refine nz (some 74) ?_
          refine pT HT_.out 27 (some 7) (bn 30 268435455) ?_
          refine pT HT_.out 28 (some 8) (bn 30 536870911) ?_
          refine pT HT_.out 29 (some 9) (bn 30 1073741823) ?_
          refine done_ (done_of HT_.out (by kernel_rfl)) ?_
          try go_wp2
          go_ret
          exact ⟨by first | rfl | (simp [errW_none, errW_some] <;> rfl) | (simp [*, errW_none, errW_some] <;> rfl), HBz⟩
         ·rw [if_neg c40] at H
          have c40b0 : (t594 == t598) = false := beq_eq_false_iff_ne.mpr c40
          have c40b1 : (t594 != t598) = true := bne_iff_ne.mpr c40
          obtain rfl := Option.some.inj H
          try go_wp2
          have n0_ := Aside0.mk (blk_drew BK585.out)
          have n1_ := Aside0.mk (below_drew1 HB.out)
          clear BK585
          clear HB
          have BK585 := n0_
          have HB := n1_
          clear n0_ n1_
          have p591 : 0 ≤ (0 : Int) := (by omega)
          have q591 : 0 < (l1.length : Int) := of_decide_eq_true (by first | (with_reducible assumption) | assumption)
          obtain ⟨ad591, e591, hx591_0, hx591_1⟩ := at_T28 HR1.out 0 p591 q591
          have hw591_1 := hx591_1
          (try rw [show ((0 : Int)).toNat = 0 from rfl] at hw591_1)
          (try rw [show 0 * 2 = 0 from rfl] at hw591_1)
          (try rw [Addr.add_zero'] at hw591_1)
          have hw591_0 := hx591_0
          (try rw [show ((0 : Int)).toNat = 0 from rfl] at hw591_0)
          (try rw [show 0 * 2 = 0 from rfl] at hw591_0)
          (try rw [Addr.add_zero'] at hw591_0)
          cases e591
          have qi591 : (0 < l1.length) = True := eq_true (by omega)
          (try rw [show ((0 : Int)).toNat = 0 from rfl] at hx591_0)
          (try rw [show 0 * 2 = 0 from rfl] at hx591_0)
          (try rw [Addr.add_zero'] at hx591_0)
          (try rw [show ((0 : Int)).toNat = 0 from rfl] at hx591_1)
          (try rw [show 0 * 2 = 0 from rfl] at hx591_1)
          (try rw [Addr.add_zero'] at hx591_1)
          replace hx591_0 := (HB.out.cell (World.block_lt_of_cell? w _ hx591_0)).trans hx591_0
          replace hx591_1 := (HB.out.cell (World.block_lt_of_cell? w _ hx591_1)).trans hx591_1
          replace p591 := eq_true p591
          replace q591 := eq_true q591
          have p592 : 0 ≤ (1 : Int) := (by omega)
          have q592 : 1 < (l1.length : Int) := of_decide_eq_true (by first | (with_reducible assumption) | assumption)
          obtain ⟨ad592, e592, hx592_0, hx592_1⟩ := at_T28 HR1.out 1 p592 q592
          have hw592_1 := hx592_1
          (try rw [show ((1 : Int)).toNat = 1 from rfl] at hw592_1)
          (try rw [show 1 * 2 = 2 from rfl] at hw592_1)
          (try simp only [Nat.reduceMul, Nat.reduceEqDiff, Go.Addr.add, ↓reduceIte] at hw592_1)
          have hw592_0 := hx592_0
          (try rw [show ((1 : Int)).toNat = 1 from rfl] at hw592_0)
          (try rw [show 1 * 2 = 2 from rfl] at hw592_0)
          (try simp only [Nat.reduceMul, Nat.reduceEqDiff, Go.Addr.add, ↓reduceIte] at hw592_0)
          obtain rfl : ad591 = ad592 := (by injection e592)
          (try simp only [show (1 : Int).toNat = 1 from rfl, Nat.reduceMul, Nat.reduceEqDiff, Go.Addr.add, ↓reduceIte] at hx592_0)
          (try simp only [show (1 : Int).toNat = 1 from rfl, Nat.reduceMul, Nat.reduceEqDiff, Go.Addr.add, ↓reduceIte] at hx592_1)
          have qi592 : (1 < l1.length) = True := eq_true (by omega)
          (try rw [show ((1 : Int)).toNat = 1 from rfl] at hx592_0)
          (try rw [show 1 * 2 = 2 from rfl] at hx592_0)
          (try rw [show ((1 : Int)).toNat = 1 from rfl] at hx592_1)
          (try rw [show 1 * 2 = 2 from rfl] at hx592_1)
          replace hx592_0 := (HB.out.cell (World.block_lt_of_cell? w _ hx592_0)).trans hx592_0
          replace hx592_1 := (HB.out.cell (World.block_lt_of_cell? w _ hx592_1)).trans hx592_1
          replace p592 := eq_true p592
          replace q592 := eq_true q592
          have p595 : 0 ≤ (1 : Int) := (by omega)
          have q595 : 1 < (l1.length : Int) := of_decide_eq_true (by first | (with_reducible assumption) | assumption)
          obtain ⟨ad595, e595, hx595_0, hx595_1⟩ := at_T28 HR1.out 1 p595 q595
          have hw595_1 := hx595_1
          (try rw [show ((1 : Int)).toNat = 1 from rfl] at hw595_1)
          (try rw [show 1 * 2 = 2 from rfl] at hw595_1)
          (try simp only [Nat.reduceMul, Nat.reduceEqDiff, Go.Addr.add, ↓reduceIte] at hw595_1)
          have hw595_0 := hx595_0
          (try rw [show ((1 : Int)).toNat = 1 from rfl] at hw595_0)
          (try rw [show 1 * 2 = 2 from rfl] at hw595_0)
          (try simp only [Nat.reduceMul, Nat.reduceEqDiff, Go.Addr.add, ↓reduceIte] at hw595_0)
          obtain rfl : ad591 = ad595 := (by injection e595)
          (try simp only [show (1 : Int).toNat = 1 from rfl, Nat.reduceMul, Nat.reduceEqDiff, Go.Addr.add, ↓reduceIte] at hx595_0)
          (try simp only [show (1 : Int).toNat = 1 from rfl, Nat.reduceMul, Nat.reduceEqDiff, Go.Addr.add, ↓reduceIte] at hx595_1)
          have qi595 : (1 < l1.length) = True := eq_true (by omega)
          (try rw [show ((1 : Int)).toNat = 1 from rfl] at hx595_0)
          (try rw [show 1 * 2 = 2 from rfl] at hx595_0)
          (try rw [show ((1 : Int)).toNat = 1 from rfl] at hx595_1)
          (try rw [show 1 * 2 = 2 from rfl] at hx595_1)
          replace hx595_0 := (HB.out.cell (World.block_lt_of_cell? w _ hx595_0)).trans hx595_0
          replace hx595_1 := (HB.out.cell (World.block_lt_of_cell? w _ hx595_1)).trans hx595_1
          replace p595 := eq_true p595
          replace q595 := eq_true q595
          have p596 : 0 ≤ (2 : Int) := (by omega)
          have q596 : 2 < (l1.length : Int) := of_decide_eq_true (by first | (with_reducible assumption) | assumption)
          obtain ⟨ad596, e596, hx596_0, hx596_1⟩ := at_T28 HR1.out 2 p596 q596
          have hw596_1 := hx596_1
          (try rw [show ((2 : Int)).toNat = 2 from rfl] at hw596_1)
          (try rw [show 2 * 2 = 4 from rfl] at hw596_1)
          (try simp only [Nat.reduceMul, Nat.reduceEqDiff, Go.Addr.add, ↓reduceIte] at hw596_1)
          have hw596_0 := hx596_0
          (try rw [show ((2 : Int)).toNat = 2 from rfl] at hw596_0)
          (try rw [show 2 * 2 = 4 from rfl] at hw596_0)
          (try simp only [Nat.reduceMul, Nat.reduceEqDiff, Go.Addr.add, ↓reduceIte] at hw596_0)
          obtain rfl : ad591 = ad596 := (by injection e596)
          (try simp only [show (2 : Int).toNat = 2 from rfl, Nat.reduceMul, Nat.reduceEqDiff, Go.Addr.add, ↓reduceIte] at hx596_0)
          (try simp only [show (2 : Int).toNat = 2 from rfl, Nat.reduceMul, Nat.reduceEqDiff, Go.Addr.add, ↓reduceIte] at hx596_1)
          have qi596 : (2 < l1.length) = True := eq_true (by omega)
          (try rw [show ((2 : Int)).toNat = 2 from rfl] at hx596_0)
          (try rw [show 2 * 2 = 4 from rfl] at hx596_0)
          (try rw [show ((2 : Int)).toNat = 2 from rfl] at hx596_1)
          (try rw [show 2 * 2 = 4 from rfl] at hx596_1)
          replace hx596_0 := (HB.out.cell (World.block_lt_of_cell? w _ hx596_0)).trans hx596_0
          replace hx596_1 := (HB.out.cell (World.block_lt_of_cell? w _ hx596_1)).trans hx596_1
          replace p596 := eq_true p596
          replace q596 := eq_true q596
          have p599 : 0 ≤ (2 : Int) := (by omega)
          have q599 : 2 < (l1.length : Int) := of_decide_eq_true (by first | (with_reducible assumption) | assumption)
          obtain ⟨ad599, e599, hx599_0, hx599_1⟩ := at_T28 HR1.out 2 p599 q599
          have hw599_1 := hx599_1
          (try rw [show ((2 : Int)).toNat = 2 from rfl] at hw599_1)
          (try rw [show 2 * 2 = 4 from rfl] at hw599_1)
          (try simp only [Nat.reduceMul, Nat.reduceEqDiff, Go.Addr.add, ↓reduceIte] at hw599_1)
          have hw599_0 := hx599_0
          (try rw [show ((2 : Int)).toNat = 2 from rfl] at hw599_0)
          (try rw [show 2 * 2 = 4 from rfl] at hw599_0)
          (try simp only [Nat.reduceMul, Nat.reduceEqDiff, Go.Addr.add, ↓reduceIte] at hw599_0)
          obtain rfl : ad591 = ad599 := (by injection e599)
          (try simp only [show (2 : Int).toNat = 2 from rfl, Nat.reduceMul, Nat.reduceEqDiff, Go.Addr.add, ↓reduceIte] at hx599_0)
          (try simp only [show (2 : Int).toNat = 2 from rfl, Nat.reduceMul, Nat.reduceEqDiff, Go.Addr.add, ↓reduceIte] at hx599_1)
          have qi599 : (2 < l1.length) = True := eq_true (by omega)
          (try rw [show ((2 : Int)).toNat = 2 from rfl] at hx599_0)
          (try rw [show 2 * 2 = 4 from rfl] at hx599_0)
          (try rw [show ((2 : Int)).toNat = 2 from rfl] at hx599_1)
          (try rw [show 2 * 2 = 4 from rfl] at hx599_1)
          replace hx599_0 := (HB.out.cell (World.block_lt_of_cell? w _ hx599_0)).trans hx599_0
          replace hx599_1 := (HB.out.cell (World.block_lt_of_cell? w _ hx599_1)).trans hx599_1
          replace p599 := eq_true p599
          replace q599 := eq_true q599
          have p600 : 0 ≤ (0 : Int) := (by omega)
          have q600 : 0 < (l1.length : Int) := of_decide_eq_true (by first | (with_reducible assumption) | assumption)
          obtain ⟨ad600, e600, hx600_0, hx600_1⟩ := at_T28 HR1.out 0 p600 q600
          have hw600_1 := hx600_1
          (try rw [show ((0 : Int)).toNat = 0 from rfl] at hw600_1)
          (try rw [show 0 * 2 = 0 from rfl] at hw600_1)
          (try rw [Addr.add_zero'] at hw600_1)
          have hw600_0 := hx600_0
          (try rw [show ((0 : Int)).toNat = 0 from rfl] at hw600_0)
          (try rw [show 0 * 2 = 0 from rfl] at hw600_0)
          (try rw [Addr.add_zero'] at hw600_0)
          obtain rfl : ad591 = ad600 := (by injection e600)
          have qi600 : (0 < l1.length) = True := eq_true (by omega)
          (try rw [show ((0 : Int)).toNat = 0 from rfl] at hx600_0)
          (try rw [show 0 * 2 = 0 from rfl] at hx600_0)
          (try rw [Addr.add_zero'] at hx600_0)
          (try rw [show ((0 : Int)).toNat = 0 from rfl] at hx600_1)
          (try rw [show 0 * 2 = 0 from rfl] at hx600_1)
          (try rw [Addr.add_zero'] at hx600_1)
          replace hx600_0 := (HB.out.cell (World.block_lt_of_cell? w _ hx600_0)).trans hx600_0
          replace hx600_1 := (HB.out.cell (World.block_lt_of_cell? w _ hx600_1)).trans hx600_1
          replace p600 := eq_true p600
          replace q600 := eq_true q600
          refine stz (fun w' => w'.cell? ⟨gb585, 0, none⟩ = some (.int .i64 a0_0) ∧ w'.cell? ⟨gb585, 1, none⟩ = some (.int .i64 a0_1) ∧ w'.cell? ⟨gb585, 2, none⟩ = some (.int .i64 a0_2) ∧ w'.cell? ⟨gb585, 3, none⟩ = some (.int .i64 a0_3) ∧ w'.cell? ad591 = some (.int .i64 ((rd_T28 l1 0).f0)) ∧ w'.cell? ⟨ad591.block, ad591.off + 1, none⟩ = some (.int .i64 ((rd_T28 l1 0).f1)) ∧ w'.cell? ⟨ad591.block, ad591.off + 2, none⟩ = some (.int .i64 ((rd_T28 l1 1).f0)) ∧ w'.cell? ⟨ad591.block, ad591.off + 2 + 1, none⟩ = some (.int .i64 ((rd_T28 l1 1).f1)) ∧ w'.cell? ⟨ad591.block, ad591.off + 2, none⟩ = some (.int .i64 ((rd_T28 l1 1).f0)) ∧ w'.cell? ⟨ad591.block, ad591.off + 2 + 1, none⟩ = some (.int .i64 ((rd_T28 l1 1).f1)) ∧ w'.cell? ⟨ad591.block, ad591.off + 4, none⟩ = some (.int .i64 ((rd_T28 l1 2).f0)) ∧ w'.cell? ⟨ad591.block, ad591.off + 4 + 1, none⟩ = some (.int .i64 ((rd_T28 l1 2).f1)) ∧ w'.cell? ⟨ad591.block, ad591.off + 4, none⟩ = some (.int .i64 ((rd_T28 l1 2).f0)) ∧ w'.cell? ⟨ad591.block, ad591.off + 4 + 1, none⟩ = some (.int .i64 ((rd_T28 l1 2).f1)) ∧ w'.cell? ad591 = some (.int .i64 ((rd_T28 l1 0).f0)) ∧ w'.cell? ⟨ad591.block, ad591.off + 1, none⟩ = some (.int .i64 ((rd_T28 l1 0).f1))) [] (bn 30 0) ⟨(blk_cell BK585.out 0).trans rfl, (blk_cell BK585.out 1).trans rfl, (blk_cell BK585.out 2).trans rfl, (blk_cell BK585.out 3).trans rfl, ((HB.out.cell (World.block_lt_of_cell? w _ hw591_0)).trans hw591_0), ((HB.out.cell (World.block_lt_of_cell? w _ hw591_1)).trans hw591_1), ((HB.out.cell (World.block_lt_of_cell? w _ hw592_0)).trans hw592_0), ((HB.out.cell (World.block_lt_of_cell? w _ hw592_1)).trans hw592_1), ((HB.out.cell (World.block_lt_of_cell? w _ hw595_0)).trans hw595_0), ((HB.out.cell (World.block_lt_of_cell? w _ hw595_1)).trans hw595_1), ((HB.out.cell (World.block_lt_of_cell? w _ hw596_0)).trans hw596_0), ((HB.out.cell (World.block_lt_of_cell? w _ hw596_1)).trans hw596_1), ((HB.out.cell (World.block_lt_of_cell? w _ hw599_0)).trans hw599_0), ((HB.out.cell (World.block_lt_of_cell? w _ hw599_1)).trans hw599_1), ((HB.out.cell (World.block_lt_of_cell? w _ hw600_0)).trans hw600_0), ((HB.out.cell (World.block_lt_of_cell? w _ hw600_1)).trans hw600_1)⟩ (fun hHeld => ?_); refine with_tabW tickingref01_Hull.tab11 tickingref01_Hull.bits11 (fun HT_ HW_ => ?_)
          generalize wr.drew = w45 at BK585 HB hx591_0 hx591_1 hx592_0 hx592_1 hx595_0 hx595_1 hx596_0 hx596_1 hx599_0 hx599_1 hx600_0 hx600_1 hHeld ⊢
          refine pT HT_.out 1 (some 49) (bn 30 2) ?_
          refine pT HT_.out 2 (some 50) (bn 30 6) ?_
          refine pT HT_.out 4 (some 52) (bn 30 22) ?_
          refine pT HT_.out 5 (some 53) (bn 30 54) ?_
          refine pT HT_.out 10 (some 58) (bn 30 1078) ?_
          refine pT HT_.out 11 (some 59) (bn 30 3126) ?_
          refine pT HT_.out 13 (some 61) (bn 30 11318) ?_
          refine pT HT_.out 14 (some 62) (bn 30 27702) ?_
          refine pT HT_.out 19 (some 67) (bn 30 551990) ?_
          refine pT HT_.out 20 (some 68) (bn 30 1600566) ?_
          refine pT HT_.out 22 (some 70) (bn 30 5794870) ?_
          refine pT HT_.out 23 (some 71) (bn 30 14183478) ?_
          refine tT HT_.out HW_.out 0 (some 48) (bn 30 14183479) hHeld ?_
          refine tT HT_.out HW_.out 3 (some 51) (bn 30 14183487) hHeld ?_
          refine tT HT_.out HW_.out 6 (some 54) (bn 30 14183551) hHeld ?_
          refine tT HT_.out HW_.out 9 (some 57) (bn 30 14184063) hHeld ?_
          refine tT HT_.out HW_.out 12 (some 60) (bn 30 14188159) hHeld ?_
          refine tT HT_.out HW_.out 15 (some 63) (bn 30 14220927) hHeld ?_
          refine tT HT_.out HW_.out 18 (some 66) (bn 30 14483071) hHeld ?_
          refine tT HT_.out HW_.out 21 (some 69) (bn 30 16580223) hHeld ?_
          refine tT HT_.out HW_.out 24 (some 72) (bn 30 33357439) hHeld ?_
          refine oT HT_.out 7 (some 55) (bn 30 33357567) (fun K hK => ?_)
          refine gz Try.func91 #[.agg #[.int .i64 a0_0, .int .i64 a0_1, .int .i64 a0_2, .int .i64 a0_3], .agg #[.int .i64 ((rd_T28 l1 0).f0), .int .i64 ((rd_T28 l1 0).f1)], .agg #[.int .i64 ((rd_T28 l1 1).f0), .int .i64 ((rd_T28 l1 1).f1)]] ?_
          with_reducible refine (tickingref01_cross.calls a0_0 a0_1 a0_2 a0_3 ((rd_T28 l1 0).f0) ((rd_T28 l1 0).f1) ((rd_T28 l1 1).f0) ((rd_T28 l1 1).f1) t593 _ A28.out).mono ?_
          rintro e w46 ⟨rfl, hb⟩
          refine ⟨_, rfl, ?_⟩
          have n0_ := Aside0.mk (blk_below (g := gb585) BKz hb)
          have n1_ := Aside0.mk (below_step HBz hb)
          clear BK585
          clear HB
          have BK585 := n0_
          have HB := n1_
          clear n0_ n1_
          (try clear hb)
          (try clear hb2)
          (try clear hk)
          (try clear hi)
          refine hK.out _ _ ⟨(blk_cell BK585.out 0).trans rfl, (blk_cell BK585.out 1).trans rfl, (blk_cell BK585.out 2).trans rfl, (blk_cell BK585.out 3).trans rfl, ((HB.out.cell (World.block_lt_of_cell? w _ hw591_0)).trans hw591_0), ((HB.out.cell (World.block_lt_of_cell? w _ hw591_1)).trans hw591_1), ((HB.out.cell (World.block_lt_of_cell? w _ hw592_0)).trans hw592_0), ((HB.out.cell (World.block_lt_of_cell? w _ hw592_1)).trans hw592_1), ((HB.out.cell (World.block_lt_of_cell? w _ hw595_0)).trans hw595_0), ((HB.out.cell (World.block_lt_of_cell? w _ hw595_1)).trans hw595_1), ((HB.out.cell (World.block_lt_of_cell? w _ hw596_0)).trans hw596_0), ((HB.out.cell (World.block_lt_of_cell? w _ hw596_1)).trans hw596_1), ((HB.out.cell (World.block_lt_of_cell? w _ hw599_0)).trans hw599_0), ((HB.out.cell (World.block_lt_of_cell? w _ hw599_1)).trans hw599_1), ((HB.out.cell (World.block_lt_of_cell? w _ hw600_0)).trans hw600_0), ((HB.out.cell (World.block_lt_of_cell? w _ hw600_1)).trans hw600_1)⟩ (fun hHeld => ?_)
          clear hK K
          refine nz (some 55) ?_
          refine oT HT_.out 8 (some 56) (bn 30 33357823) (fun K hK => ?_)
          refine gz Try.func90 #[.int .i64 t593] ?_
          with_reducible refine (tickingref01_sign.calls t593 t594 _ A29.out).mono ?_
          rintro e w' ⟨rfl, ⟨nd, rfl⟩⟩
          refine ⟨_, rfl, ?_⟩
          refine hK.out _ _ ⟨(blk_cell BK585.out 0).trans rfl, (blk_cell BK585.out 1).trans rfl, (blk_cell BK585.out 2).trans rfl, (blk_cell BK585.out 3).trans rfl, ((HB.out.cell (World.block_lt_of_cell? w _ hw591_0)).trans hw591_0), ((HB.out.cell (World.block_lt_of_cell? w _ hw591_1)).trans hw591_1), ((HB.out.cell (World.block_lt_of_cell? w _ hw592_0)).trans hw592_0), ((HB.out.cell (World.block_lt_of_cell? w _ hw592_1)).trans hw592_1), ((HB.out.cell (World.block_lt_of_cell? w _ hw595_0)).trans hw595_0), ((HB.out.cell (World.block_lt_of_cell? w _ hw595_1)).trans hw595_1), ((HB.out.cell (World.block_lt_of_cell? w _ hw596_0)).trans hw596_0), ((HB.out.cell (World.block_lt_of_cell? w _ hw596_1)).trans hw596_1), ((HB.out.cell (World.block_lt_of_cell? w _ hw599_0)).trans hw599_0), ((HB.out.cell (World.block_lt_of_cell? w _ hw599_1)).trans hw599_1), ((HB.out.cell (World.block_lt_of_cell? w _ hw600_0)).trans hw600_0), ((HB.out.cell (World.block_lt_of_cell? w _ hw600_1)).trans hw600_1)⟩ (fun hHeld => ?_)
          clear hK K
          refine nz (some 56) ?_
          refine oT HT_.out 16 (some 64) (bn 30 33423359) (fun K hK => ?_)
          refine gz Try.func91 #[.agg #[.int .i64 a0_0, .int .i64 a0_1, .int .i64 a0_2, .int .i64 a0_3], .agg #[.int .i64 ((rd_T28 l1 1).f0), .int .i64 ((rd_T28 l1 1).f1)], .agg #[.int .i64 ((rd_T28 l1 2).f0), .int .i64 ((rd_T28 l1 2).f1)]] ?_
          with_reducible refine (tickingref01_cross.calls a0_0 a0_1 a0_2 a0_3 ((rd_T28 l1 1).f0) ((rd_T28 l1 1).f1) ((rd_T28 l1 2).f0) ((rd_T28 l1 2).f1) t597 _ A31.out).mono ?_
          rintro e w47 ⟨rfl, hb⟩
          refine ⟨_, rfl, ?_⟩
          have n0_ := Aside0.mk (blk_below (g := gb585) BKz hb)
          have n1_ := Aside0.mk (below_step HBz hb)
          clear BK585
          clear HB
          have BK585 := n0_
          have HB := n1_
          clear n0_ n1_
          (try clear hb)
          (try clear hb2)
          (try clear hk)
          (try clear hi)
          refine hK.out _ _ ⟨(blk_cell BK585.out 0).trans rfl, (blk_cell BK585.out 1).trans rfl, (blk_cell BK585.out 2).trans rfl, (blk_cell BK585.out 3).trans rfl, ((HB.out.cell (World.block_lt_of_cell? w _ hw591_0)).trans hw591_0), ((HB.out.cell (World.block_lt_of_cell? w _ hw591_1)).trans hw591_1), ((HB.out.cell (World.block_lt_of_cell? w _ hw592_0)).trans hw592_0), ((HB.out.cell (World.block_lt_of_cell? w _ hw592_1)).trans hw592_1), ((HB.out.cell (World.block_lt_of_cell? w _ hw595_0)).trans hw595_0), ((HB.out.cell (World.block_lt_of_cell? w _ hw595_1)).trans hw595_1), ((HB.out.cell (World.block_lt_of_cell? w _ hw596_0)).trans hw596_0), ((HB.out.cell (World.block_lt_of_cell? w _ hw596_1)).trans hw596_1), ((HB.out.cell (World.block_lt_of_cell? w _ hw599_0)).trans hw599_0), ((HB.out.cell (World.block_lt_of_cell? w _ hw599_1)).trans hw599_1), ((HB.out.cell (World.block_lt_of_cell? w _ hw600_0)).trans hw600_0), ((HB.out.cell (World.block_lt_of_cell? w _ hw600_1)).trans hw600_1)⟩ (fun hHeld => ?_)
          clear hK K
          refine nz (some 64) ?_
          refine oT HT_.out 17 (some 65) (bn 30 33554431) (fun K hK => ?_)
          refine gz Try.func90 #[.int .i64 t597] ?_
          with_reducible refine (tickingref01_sign.calls t597 t598 _ A32.out).mono ?_
          rintro e w' ⟨rfl, ⟨nd, rfl⟩⟩
          refine ⟨_, rfl, ?_⟩
          refine hK.out _ _ ⟨(blk_cell BK585.out 0).trans rfl, (blk_cell BK585.out 1).trans rfl, (blk_cell BK585.out 2).trans rfl, (blk_cell BK585.out 3).trans rfl, ((HB.out.cell (World.block_lt_of_cell? w _ hw591_0)).trans hw591_0), ((HB.out.cell (World.block_lt_of_cell? w _ hw591_1)).trans hw591_1), ((HB.out.cell (World.block_lt_of_cell? w _ hw592_0)).trans hw592_0), ((HB.out.cell (World.block_lt_of_cell? w _ hw592_1)).trans hw592_1), ((HB.out.cell (World.block_lt_of_cell? w _ hw595_0)).trans hw595_0), ((HB.out.cell (World.block_lt_of_cell? w _ hw595_1)).trans hw595_1), ((HB.out.cell (World.block_lt_of_cell? w _ hw596_0)).trans hw596_0), ((HB.out.cell (World.block_lt_of_cell? w _ hw596_1)).trans hw596_1), ((HB.out.cell (World.block_lt_of_cell? w _ hw599_0)).trans hw599_0), ((HB.out.cell (World.block_lt_of_cell? w _ hw599_1)).trans hw599_1), ((HB.out.cell (World.block_lt_of_cell? w _ hw600_0)).trans hw600_0), ((HB.out.cell (World.block_lt_of_cell? w _ hw600_1)).trans hw600_1)⟩ (fun hHeld => ?_)
          clear hK K
          refine nz (some 65) ?_
          refine oT HT_.out 25 (some 73) (bn 30 67108863) (fun K hK => ?_)
          refine gz Try.func91 #[.agg #[.int .i64 a0_0, .int .i64 a0_1, .int .i64 a0_2, .int .i64 a0_3], .agg #[.int .i64 ((rd_T28 l1 2).f0), .int .i64 ((rd_T28 l1 2).f1)], .agg #[.int .i64 ((rd_T28 l1 0).f0), .int .i64 ((rd_T28 l1 0).f1)]] ?_
          with_reducible refine (tickingref01_cross.calls a0_0 a0_1 a0_2 a0_3 ((rd_T28 l1 2).f0) ((rd_T28 l1 2).f1) ((rd_T28 l1 0).f0) ((rd_T28 l1 0).f1) t601 _ A33.out).mono ?_
          rintro e w48 ⟨rfl, hb⟩
          refine ⟨_, rfl, ?_⟩
          have n0_ := Aside0.mk (blk_below (g := gb585) BKz hb)
          have n1_ := Aside0.mk (below_step HBz hb)
          clear BK585
          clear HB
          have BK585 := n0_
          have HB := n1_
          clear n0_ n1_
          (try clear hb)
          (try clear hb2)
          (try clear hk)
          (try clear hi)
          refine hK.out _ _ ⟨(blk_cell BK585.out 0).trans rfl, (blk_cell BK585.out 1).trans rfl, (blk_cell BK585.out 2).trans rfl, (blk_cell BK585.out 3).trans rfl, ((HB.out.cell (World.block_lt_of_cell? w _ hw591_0)).trans hw591_0), ((HB.out.cell (World.block_lt_of_cell? w _ hw591_1)).trans hw591_1), ((HB.out.cell (World.block_lt_of_cell? w _ hw592_0)).trans hw592_0), ((HB.out.cell (World.block_lt_of_cell? w _ hw592_1)).trans hw592_1), ((HB.out.cell (World.block_lt_of_cell? w _ hw595_0)).trans hw595_0), ((HB.out.cell (World.block_lt_of_cell? w _ hw595_1)).trans hw595_1), ((HB.out.cell (World.block_lt_of_cell? w _ hw596_0)).trans hw596_0), ((HB.out.cell (World.block_lt_of_cell? w _ hw596_1)).trans hw596_1), ((HB.out.cell (World.block_lt_of_cell? w _ hw599_0)).trans hw599_0), ((HB.out.cell (World.block_lt_of_cell? w _ hw599_1)).trans hw599_1), ((HB.out.cell (World.block_lt_of_cell? w _ hw600_0)).trans hw600_0), ((HB.out.cell (World.block_lt_of_cell? w _ hw600_1)).trans hw600_1)⟩ (fun hHeld => ?_)
          clear hK K
          refine nz (some 73) ?_
          refine oT HT_.out 26 (some 74) (bn 30 134217727) (fun K hK => ?_)
          refine gz Try.func90 #[.int .i64 t601] ?_
          with_reducible refine (tickingref01_sign.calls t601 t602 _ A34.out).mono ?_
          rintro e w' ⟨rfl, ⟨nd, rfl⟩⟩
          refine ⟨_, rfl, ?_⟩
          refine hK.out _ _ ⟨(blk_cell BK585.out 0).trans rfl, (blk_cell BK585.out 1).trans rfl, (blk_cell BK585.out 2).trans rfl, (blk_cell BK585.out 3).trans rfl, ((HB.out.cell (World.block_lt_of_cell? w _ hw591_0)).trans hw591_0), ((HB.out.cell (World.block_lt_of_cell? w _ hw591_1)).trans hw591_1), ((HB.out.cell (World.block_lt_of_cell? w _ hw592_0)).trans hw592_0), ((HB.out.cell (World.block_lt_of_cell? w _ hw592_1)).trans hw592_1), ((HB.out.cell (World.block_lt_of_cell? w _ hw595_0)).trans hw595_0), ((HB.out.cell (World.block_lt_of_cell? w _ hw595_1)).trans hw595_1), ((HB.out.cell (World.block_lt_of_cell? w _ hw596_0)).trans hw596_0), ((HB.out.cell (World.block_lt_of_cell? w _ hw596_1)).trans hw596_1), ((HB.out.cell (World.block_lt_of_cell? w _ hw599_0)).trans hw599_0), ((HB.out.cell (World.block_lt_of_cell? w _ hw599_1)).trans hw599_1), ((HB.out.cell (World.block_lt_of_cell? w _ hw600_0)).trans hw600_0), ((HB.out.cell (World.block_lt_of_cell? w _ hw600_1)).trans hw600_1)⟩ (fun hHeld => ?_)
          clear hK K
          refine nz (some 74) ?_
          refine pT HT_.out 27 (some 7) (bn 30 268435455) ?_
          refine pT HT_.out 28 (some 8) (bn 30 536870911) ?_
          refine pT HT_.out 29 (some 9) (bn 30 1073741823) ?_
          refine done_ (done_of HT_.out (by kernel_rfl)) ?_
          try go_wp2
          go_ret
          exact ⟨by first | rfl | (simp [errW_none, errW_some] <;> rfl) | (simp [*, errW_none, errW_some] <;> rfl), HBz⟩
       ·rw [if_neg c30] at H
        exact absurd H (by simp)
      ·rw [if_neg c27] at H
       exact absurd H (by simp)
     ·rw [if_neg c26] at H
      exact absurd H (by simp)
end Go.Proofs.Ytplhfbkejngioaa.X
namespace Go.Proofs.Ytplhfbkejngioaa.X
open Go.RowKit Go.Proofs.YtplhfbkejngioaaW.PrintWords Go.Proofs.YtplhfbkejngioaaW.PrintLast Go.Proofs.Ytplhfbkejngioaa.S
attribute [local go_sem] max2_int min2_int max_two min_two
set_option linter.unusedVariables false
set_option linter.unusedSimpArgs false
mutual
def tickingref01_Right.j0 : Nat → List (S28) → List Int → Bool → Int → Int → Int → Int → Option (Bool)
 | 0, _, _, _, _, _, _, _ => none
 | k + 1, x0, x2, x23, x604000, x604001, x604002, x604003 => if x23 = true then (some false) else (tickingref01_Right.l0 k x0 x2 0 x604000 x604001 x604002 x604003)
def tickingref01_Right.l0 : Nat → List (S28) → List Int → Int → Int → Int → Int → Int → Option (Bool)
 | 0, _, _, _, _, _, _, _ => none
 | k + 1, x0, x2, x7, x604000, x604001, x604002, x604003 => if x7 < (x0.length : Int) then (if 0 ≤ x7 then ((tickingref01_Far.f x604000 x604001 x604002 x604003 ((rd_T28 x0 x7).f0) ((rd_T28 x0 x7).f1)).bind fun t606 => (if t606 > x604003 then (some false) else (tickingref01_Right.l0 k x0 x2 (wrap64 (x7 + 1)) x604000 x604001 x604002 x604003))) else (none)) else (tickingref01_Right.l1 k x0 x2 ([] : List (S28)) 0 x604000 x604001 x604002 x604003)
def tickingref01_Right.l1 : Nat → List (S28) → List Int → List (S28) → Int → Int → Int → Int → Int → Option (Bool)
 | 0, _, _, _, _, _, _, _, _ => none
 | k + 1, x0, x2, x8, x9, x604000, x604001, x604002, x604003 => if x9 < (x2.length : Int) then (if 0 ≤ x9 then (if (rd x2 x9) < 0 then (some false) else (if (rd x2 x9) ≥ (x0.length : Int) then (some false) else (if x9 > 0 then (if 0 ≤ (wrap64 (x9 - 1)) then (if (wrap64 (x9 - 1)) < (x2.length : Int) then (if (rd x2 (wrap64 (x9 - 1))) ≥ (rd x2 x9) then (some false) else (if 0 ≤ (rd x2 x9) then (if (rd x2 x9) < (x0.length : Int) then ((tickingref01_Far.f x604000 x604001 x604002 x604003 ((rd_T28 x0 (rd x2 x9)).f0) ((rd_T28 x0 (rd x2 x9)).f1)).bind fun t610 => (if t610 = x604003 then (if x8.length < 8796093022208 then (tickingref01_Right.l1 k x0 x2 (x8 ++ [(⟨(rd_T28 x0 (rd x2 x9)).f0, (rd_T28 x0 (rd x2 x9)).f1⟩ : S28)]) (wrap64 (x9 + 1)) x604000 x604001 x604002 x604003) else (none)) else (some false))) else (none)) else (none))) else (none)) else (none)) else (if 0 ≤ (rd x2 x9) then (if (rd x2 x9) < (x0.length : Int) then ((tickingref01_Far.f x604000 x604001 x604002 x604003 ((rd_T28 x0 (rd x2 x9)).f0) ((rd_T28 x0 (rd x2 x9)).f1)).bind fun t616 => (if t616 = x604003 then (if x8.length < 8796093022208 then (tickingref01_Right.l1 k x0 x2 (x8 ++ [(⟨(rd_T28 x0 (rd x2 x9)).f0, (rd_T28 x0 (rd x2 x9)).f1⟩ : S28)]) (wrap64 (x9 + 1)) x604000 x604001 x604002 x604003) else (none)) else (some false))) else (none)) else (none))))) else (none)) else ((tickingref01_Hull.f k x604000 x604001 x604002 x604003 x8).bind fun t621 => (some t621))
end
def tickingref01_Right.f (k : Nat) (l0 : List (S28)) (a1_0 : Int) (a1_1 : Int) (a1_2 : Int) (a1_3 : Int) (l2 : List Int) : Option (Bool) := (tickingref01_Valid.f k a1_0 a1_1 a1_2 a1_3).bind fun t604 => (if t604 = true then (if (l2.length : Int) < 1 then (tickingref01_Right.j0 k l0 l2 true a1_0 a1_1 a1_2 a1_3) else (tickingref01_Right.j0 k l0 l2 (decide ((l2.length : Int) > 3)) a1_0 a1_1 a1_2 a1_3)) else (tickingref01_Right.j0 k l0 l2 true a1_0 a1_1 a1_2 a1_3))
theorem tickingref01_Right.mono_l : ∀ k, (∀ y0 y1 y2 y3 y4 y5 y6, LeO (tickingref01_Right.j0 k y0 y1 y2 y3 y4 y5 y6) (tickingref01_Right.j0 (k + 1) y0 y1 y2 y3 y4 y5 y6)) ∧ (∀ y0 y1 y2 y3 y4 y5 y6, LeO (tickingref01_Right.l0 k y0 y1 y2 y3 y4 y5 y6) (tickingref01_Right.l0 (k + 1) y0 y1 y2 y3 y4 y5 y6)) ∧ (∀ y0 y1 y2 y3 y4 y5 y6 y7, LeO (tickingref01_Right.l1 k y0 y1 y2 y3 y4 y5 y6 y7) (tickingref01_Right.l1 (k + 1) y0 y1 y2 y3 y4 y5 y6 y7))
 | 0 => ⟨fun _ _ _ _ _ _ _ r h => by simp [tickingref01_Right.j0] at h, fun _ _ _ _ _ _ _ r h => by simp [tickingref01_Right.l0] at h, fun _ _ _ _ _ _ _ _ r h => by simp [tickingref01_Right.l1] at h⟩
 | k + 1 => by
  obtain ⟨ih0, ih1, ih2⟩ := tickingref01_Right.mono_l k
  refine ⟨?_, ?_, ?_⟩
  ·intro y0 y1 y2 y3 y4 y5 y6
   unfold tickingref01_Right.j0
   repeat' first
   | (with_reducible exact ih0 _ _ _ _ _ _ _)
   | (with_reducible exact ih1 _ _ _ _ _ _ _)
   | (with_reducible exact ih2 _ _ _ _ _ _ _ _)
   | (with_reducible exact tickingref01_Hull.mono _ _ _ _ _ _)
   | (with_reducible exact tickingref01_Valid.mono _ _ _ _ _)
   | (with_reducible exact LeO.refl _)
   | (with_reducible exact LeO.none _)
   | (with_reducible refine LeO.ite ?_ ?_)
   | (with_reducible refine LeO.bind ?_ (fun _ => ?_))
   | exact ih0 _ _ _ _ _ _ _
   | exact ih1 _ _ _ _ _ _ _
   | exact ih2 _ _ _ _ _ _ _ _
   | exact tickingref01_Hull.mono _ _ _ _ _ _
   | exact tickingref01_Valid.mono _ _ _ _ _
   | exact LeO.none _
   | refine LeO.ite ?_ ?_
   | refine LeO.bind ?_ (fun _ => ?_)
  ·intro y0 y1 y2 y3 y4 y5 y6
   unfold tickingref01_Right.l0
   repeat' first
   | (with_reducible exact ih0 _ _ _ _ _ _ _)
   | (with_reducible exact ih1 _ _ _ _ _ _ _)
   | (with_reducible exact ih2 _ _ _ _ _ _ _ _)
   | (with_reducible exact tickingref01_Hull.mono _ _ _ _ _ _)
   | (with_reducible exact tickingref01_Valid.mono _ _ _ _ _)
   | (with_reducible exact LeO.refl _)
   | (with_reducible exact LeO.none _)
   | (with_reducible refine LeO.ite ?_ ?_)
   | (with_reducible refine LeO.bind ?_ (fun _ => ?_))
   | exact ih0 _ _ _ _ _ _ _
   | exact ih1 _ _ _ _ _ _ _
   | exact ih2 _ _ _ _ _ _ _ _
   | exact tickingref01_Hull.mono _ _ _ _ _ _
   | exact tickingref01_Valid.mono _ _ _ _ _
   | exact LeO.none _
   | refine LeO.ite ?_ ?_
   | refine LeO.bind ?_ (fun _ => ?_)
  ·intro y0 y1 y2 y3 y4 y5 y6 y7
   unfold tickingref01_Right.l1
   repeat' first
   | (with_reducible exact ih0 _ _ _ _ _ _ _)
   | (with_reducible exact ih1 _ _ _ _ _ _ _)
   | (with_reducible exact ih2 _ _ _ _ _ _ _ _)
   | (with_reducible exact tickingref01_Hull.mono _ _ _ _ _ _)
   | (with_reducible exact tickingref01_Valid.mono _ _ _ _ _)
   | (with_reducible exact LeO.refl _)
   | (with_reducible exact LeO.none _)
   | (with_reducible refine LeO.ite ?_ ?_)
   | (with_reducible refine LeO.bind ?_ (fun _ => ?_))
   | exact ih0 _ _ _ _ _ _ _
   | exact ih1 _ _ _ _ _ _ _
   | exact ih2 _ _ _ _ _ _ _ _
   | exact tickingref01_Hull.mono _ _ _ _ _ _
   | exact tickingref01_Valid.mono _ _ _ _ _
   | exact LeO.none _
   | refine LeO.ite ?_ ?_
   | refine LeO.bind ?_ (fun _ => ?_)
theorem tickingref01_Right.mono : ∀ a0 a1 a2 a3 a4 a5 k, LeO (tickingref01_Right.f k a0 a1 a2 a3 a4 a5) (tickingref01_Right.f (k + 1) a0 a1 a2 a3 a4 a5) := by
 intro a0 a1 a2 a3 a4 a5 k
 obtain ⟨ih0, ih1, ih2⟩ := tickingref01_Right.mono_l k
 unfold tickingref01_Right.f
 repeat' first
   | (with_reducible exact ih0 _ _ _ _ _ _ _)
   | (with_reducible exact ih1 _ _ _ _ _ _ _)
   | (with_reducible exact ih2 _ _ _ _ _ _ _ _)
   | (with_reducible exact tickingref01_Hull.mono _ _ _ _ _ _)
   | (with_reducible exact tickingref01_Valid.mono _ _ _ _ _)
   | (with_reducible exact LeO.refl _)
   | (with_reducible exact LeO.none _)
   | (with_reducible refine LeO.ite ?_ ?_)
   | (with_reducible refine LeO.bind ?_ (fun _ => ?_))
   | exact ih0 _ _ _ _ _ _ _
   | exact ih1 _ _ _ _ _ _ _
   | exact ih2 _ _ _ _ _ _ _ _
   | exact tickingref01_Hull.mono _ _ _ _ _ _
   | exact tickingref01_Valid.mono _ _ _ _ _
   | exact LeO.none _
   | refine LeO.ite ?_ ?_
   | refine LeO.bind ?_ (fun _ => ?_)
def tickingref01_Right.T6 : Bool × List (List Nat × List Nat) := (true, [([], []), ([], []), ([], []), ([1, 2], [1, 2]), ([3], [3]), ([0, 4], [0, 4]), ([], []), ([6], [6]), ([5, 7], [5, 7])])
def tickingref01_Right.B6 : List Nat := [0, 0, 0, 6, 14, 31, 0, 64, 255]
theorem tickingref01_Right.tab6 : rtab .any (opsOf Try.f39 6) = tickingref01_Right.T6 := by kernel_rfl
theorem tickingref01_Right.bits6 : waitsOk tickingref01_Right.T6.2 tickingref01_Right.B6 = true := by kernel_rfl
def tickingref01_Right.T13 : Bool × List (List Nat × List Nat) := (true, [([], []), ([0], [0]), ([1], [1]), ([2], [2]), ([2], [2]), ([4, 2], [2, 4]), ([3, 5, 2], [2, 3, 5]), ([2, 6], [2, 6]), ([7, 2], [7]), ([8], [8]), ([9, 8], [8, 9]), ([10, 8, 8], [8, 10]), ([11], [11]), ([11], [11]), ([13, 11], [11, 13]), ([12, 14, 11], [11, 12, 14]), ([15, 11], [11, 15]), ([11], [11]), ([16, 17, 11], [11, 16, 17]), ([11, 18, 8], [8, 11, 18]), ([8, 19], [8, 19]), ([20, 11], [20]), ([21], [21]), ([21], [21]), ([21], [21]), ([23, 24, 21], [21, 23, 24]), ([25, 21], [21, 25]), ([22, 26, 21, 21], [21, 22, 26]), ([21], [21]), ([28, 21], [21, 28]), ([27, 29, 21], [21, 27, 29]), ([21, 30], [21, 30])])
def tickingref01_Right.B13 : List Nat := [0, 1, 3, 7, 7, 23, 63, 127, 255, 511, 1023, 2047, 4095, 4095, 12287, 32767, 65535, 4095, 262143, 524287, 1048575, 2097151, 4194303, 4194303, 4194303, 29360127, 62914559, 134217727, 4194303, 272629759, 1073741823, 2147483647]
theorem tickingref01_Right.tab13 : rtab .any (opsOf Try.f39 13) = tickingref01_Right.T13 := by kernel_rfl
theorem tickingref01_Right.bits13 : waitsOk tickingref01_Right.T13.2 tickingref01_Right.B13 = true := by kernel_rfl
set_option maxHeartbeats 8000000 in
set_option maxRecDepth 100000 in
theorem tickingref01_Right.calls (k : Nat) (A0 : Option Addr) (c0 : Nat) (l0 : List (S28)) (a1_0 : Int) (a1_1 : Int) (a1_2 : Int) (a1_3 : Int) (A2 : Option Addr) (c2 : Nat) (l2 : List Int) (r : Bool) (w : World) (hr0 : Kd.C k28 w A0 l0.length l0) (hc0 : l0.length ≤ c0) (hr2 : Kd.C (Kd.int .i64) w A2 l2.length l2) (hc2 : l2.length ≤ c2) (h : tickingref01_Right.f k l0 a1_0 a1_1 a1_2 a1_3 l2 = some r) :
  Calls Try.prog 39 #[.slice A0 l0.length c0, .agg #[.int .i64 a1_0, .int .i64 a1_1, .int .i64 a1_2, .int .i64 a1_3], .slice A2 l2.length c2] w fun e w' => e = .returned (.bool r) ∧ Below w.heap.size w w' := by
 have hu40 := Try.underlying40
 have hu28 := Try.underlying28
 have HR0 := Aside0.mk hr0
 have HC0 := Aside0.mk hc0
 clear hr0 hc0
 have HR2 := Aside0.mk hr2
 have HC2 := Aside0.mk hc2
 clear hr2 hc2
 have HB := Aside0.mk (Below.refl w.heap.size w)
 have H : ((tickingref01_Valid.f k a1_0 a1_1 a1_2 a1_3).bind fun t604 => (if t604 = true then (if (l2.length : Int) < 1 then (tickingref01_Right.j0 k l0 l2 true a1_0 a1_1 a1_2 a1_3) else (tickingref01_Right.j0 k l0 l2 (decide ((l2.length : Int) > 3)) a1_0 a1_1 a1_2 a1_3)) else (tickingref01_Right.j0 k l0 l2 true a1_0 a1_1 a1_2 a1_3))) = some r := h
 clear h
 have HC4 := Aside0.mk H
 clear H
 go_enter Try.func39, Try.ntmps39
 go_upto_region 1 with (first | ((with_reducible refine gate_dst (N := 4) rfl ?_); (try (refine gate_guard (by rfl) ?_; dsimp only)); refine bxE 4 #[.int .i64 a1_0, .int .i64 a1_1, .int .i64 a1_2, .int .i64 a1_3] 40 ?_; intro gb603 hg w5 hbox hb; have n0_ := Aside0.mk (below_step HBz hb); have n1_ := Aside0.mk (hbox); have n2_ := Aside0.mk ((by rw [hg]; exact (below_size HBz) : w.heap.size ≤ gb603)); have n3_ := Aside0.mk ((by rw [hg]; exact (below_size HBz) : w.heap.size ≤ gb603)); clear HB; have HB := n0_; have BK603 := n1_; have GW603 := n2_; have GE603 := n3_; clear n0_ n1_ n2_ n3_; clear hb hbox hg))
 (try simp only [Act.put, List.setIfInBounds_toArray, List.set_cons_zero, List.set_cons_succ])
 go_cut [23] (fun v23 wc => ∃ (kq : Nat) (x23_3 : Bool), v23 = .bool x23_3 ∧ Aside0 (tickingref01_Right.j0 kq l0 l2 x23_3 a1_0 a1_1 a1_2 a1_3 = some r) ∧ Aside0 (kq ≤ k) ∧ Aside0 (wc.heap[gb603]? = some (.cells #[.int .i64 a1_0, .int .i64 a1_1, .int .i64 a1_2, .int .i64 a1_3] 40 (0, 0))) ∧ Aside0 (Below w.heap.size w wc))
 case first =>
  have H := HC4.out
  clear HC4
  replace H := Option.bind_eq_some_iff.mp H
  obtain ⟨t604, A60, H⟩ := H
  replace H : (if t604 = true then (if (l2.length : Int) < 1 then (tickingref01_Right.j0 k l0 l2 true a1_0 a1_1 a1_2 a1_3) else (tickingref01_Right.j0 k l0 l2 (decide ((l2.length : Int) > 3)) a1_0 a1_1 a1_2 a1_3)) else (tickingref01_Right.j0 k l0 l2 true a1_0 a1_1 a1_2 a1_3)) = some r := H
  have A6 := Aside0.mk A60
  clear A60
  by_cases c7 : t604 = true
  ·subst c7
   have H1 : (if (l2.length : Int) < 1 then (tickingref01_Right.j0 k l0 l2 true a1_0 a1_1 a1_2 a1_3) else (tickingref01_Right.j0 k l0 l2 (decide ((l2.length : Int) > 3)) a1_0 a1_1 a1_2 a1_3)) = some r := by rw [if_pos rfl] at H; exact H
   clear H
   have H := H1
   clear H1
   by_cases c8 : (l2.length : Int) < 1
   ·rw [if_pos c8] at H
    have c8b0 : decide ((l2.length : Int) < 1) = true := decide_eq_true c8
    have c8b1 : decide (l2.length < 1) = true := decide_eq_true (by omega)
    clear c8
    (first | rw [c8b0] | (simp only [i64_w, i32_w]; rw [c8b0]) | skip)
    have H' := Aside0.mk H
    clear H
    have hcz9_0 : w5.cell? ⟨gb603, 0, none⟩ = some (.int .i64 a1_0) := (blk_cell BK603.out 0).trans rfl
    have hcz9_1 : w5.cell? ⟨gb603, 1, none⟩ = some (.int .i64 a1_1) := (blk_cell BK603.out 1).trans rfl
    have hcz9_2 : w5.cell? ⟨gb603, 2, none⟩ = some (.int .i64 a1_2) := (blk_cell BK603.out 2).trans rfl
    have hcz9_3 : w5.cell? ⟨gb603, 3, none⟩ = some (.int .i64 a1_3) := (blk_cell BK603.out 3).trans rfl
    have hfz9_0 := blk_frozen BK603.out 0
    have hfz9_1 := blk_frozen BK603.out 1
    have hfz9_2 := blk_frozen BK603.out 2
    have hfz9_3 := blk_frozen BK603.out 3
    go_wp2_with (first | ((with_reducible refine gate_callee (f := 27) rfl ?_); refine goesL_ (some 12) rfl rfl Try.func27 (by kernel_rfl) rfl #[.agg #[.int .i64 a1_0, .int .i64 a1_1, .int .i64 a1_2, .int .i64 a1_3]] rfl (by (try simp only [List.map_toArray, List.map_cons, List.map_nil]); first | done | rfl | (simp only [List.length_drop, List.length_take]; rfl)) ?_; (with_reducible refine (tickingref01_Valid.calls k a1_0 a1_1 a1_2 a1_3 true _ A6.out).mono ?_); rintro e w10 ⟨rfl, hb⟩; refine ⟨_, rfl, ?_⟩; have n0_ := Aside0.mk (blk_below (g := gb603) BKz hb); have n1_ := Aside0.mk (below_step HBz hb); clear BK603; clear HB; have BK603 := n0_; have HB := n1_; clear n0_ n1_; (try clear hb); (try clear hb2); (try clear hk); (try clear hi)))
    go_meet
    case rel => exact ⟨_, (true), (by first | rfl | (simp; done) | (simp [*]; done)), H', ⟨by first | omega | exact Nat.le_refl _⟩, ⟨by (with_reducible repeat (first | refine blk_drewN ?_ _ | refine blk_drew ?_ | refine blk_alloc ?_ _)); exact BK603.out⟩, ⟨HBz⟩⟩
   ·rw [if_neg c8] at H
    have c8b0 : decide ((l2.length : Int) < 1) = false := decide_eq_false c8
    have c8b1 : decide (l2.length < 1) = false := decide_eq_false (by omega)
    clear c8
    (first | rw [c8b0] | (simp only [i64_w, i32_w]; rw [c8b0]) | skip)
    have H' := Aside0.mk H
    clear H
    have hcz11_0 : w5.cell? ⟨gb603, 0, none⟩ = some (.int .i64 a1_0) := (blk_cell BK603.out 0).trans rfl
    have hcz11_1 : w5.cell? ⟨gb603, 1, none⟩ = some (.int .i64 a1_1) := (blk_cell BK603.out 1).trans rfl
    have hcz11_2 : w5.cell? ⟨gb603, 2, none⟩ = some (.int .i64 a1_2) := (blk_cell BK603.out 2).trans rfl
    have hcz11_3 : w5.cell? ⟨gb603, 3, none⟩ = some (.int .i64 a1_3) := (blk_cell BK603.out 3).trans rfl
    have hfz11_0 := blk_frozen BK603.out 0
    have hfz11_1 := blk_frozen BK603.out 1
    have hfz11_2 := blk_frozen BK603.out 2
    have hfz11_3 := blk_frozen BK603.out 3
    go_wp2_with (first | ((with_reducible refine gate_callee (f := 27) rfl ?_); refine goesL_ (some 12) rfl rfl Try.func27 (by kernel_rfl) rfl #[.agg #[.int .i64 a1_0, .int .i64 a1_1, .int .i64 a1_2, .int .i64 a1_3]] rfl (by (try simp only [List.map_toArray, List.map_cons, List.map_nil]); first | done | rfl | (simp only [List.length_drop, List.length_take]; rfl)) ?_; (with_reducible refine (tickingref01_Valid.calls k a1_0 a1_1 a1_2 a1_3 true _ A6.out).mono ?_); rintro e w12 ⟨rfl, hb⟩; refine ⟨_, rfl, ?_⟩; have n0_ := Aside0.mk (blk_below (g := gb603) BKz hb); have n1_ := Aside0.mk (below_step HBz hb); clear BK603; clear HB; have BK603 := n0_; have HB := n1_; clear n0_ n1_; (try clear hb); (try clear hb2); (try clear hk); (try clear hi)))
    go_meet
    case rel => exact ⟨_, (decide ((l2.length : Int) > 3)), (by first | rfl | (simp; done) | (simp [*]; done)), H', ⟨by first | omega | exact Nat.le_refl _⟩, ⟨by (with_reducible repeat (first | refine blk_drewN ?_ _ | refine blk_drew ?_ | refine blk_alloc ?_ _)); exact BK603.out⟩, ⟨HBz⟩⟩
  ·replace c7 := Bool.eq_false_iff.mpr c7
   subst c7
   have H1 : (tickingref01_Right.j0 k l0 l2 true a1_0 a1_1 a1_2 a1_3) = some r := by rw [if_neg (show ¬ (false = true) by decide)] at H; exact H
   clear H
   have H := H1
   clear H1
   have H' := Aside0.mk H
   clear H
   have hcz13_0 : w5.cell? ⟨gb603, 0, none⟩ = some (.int .i64 a1_0) := (blk_cell BK603.out 0).trans rfl
   have hcz13_1 : w5.cell? ⟨gb603, 1, none⟩ = some (.int .i64 a1_1) := (blk_cell BK603.out 1).trans rfl
   have hcz13_2 : w5.cell? ⟨gb603, 2, none⟩ = some (.int .i64 a1_2) := (blk_cell BK603.out 2).trans rfl
   have hcz13_3 : w5.cell? ⟨gb603, 3, none⟩ = some (.int .i64 a1_3) := (blk_cell BK603.out 3).trans rfl
   have hfz13_0 := blk_frozen BK603.out 0
   have hfz13_1 := blk_frozen BK603.out 1
   have hfz13_2 := blk_frozen BK603.out 2
   have hfz13_3 := blk_frozen BK603.out 3
   go_wp2_with (first | ((with_reducible refine gate_callee (f := 27) rfl ?_); refine goesL_ (some 12) rfl rfl Try.func27 (by kernel_rfl) rfl #[.agg #[.int .i64 a1_0, .int .i64 a1_1, .int .i64 a1_2, .int .i64 a1_3]] rfl (by (try simp only [List.map_toArray, List.map_cons, List.map_nil]); first | done | rfl | (simp only [List.length_drop, List.length_take]; rfl)) ?_; (with_reducible refine (tickingref01_Valid.calls k a1_0 a1_1 a1_2 a1_3 false _ A6.out).mono ?_); rintro e w14 ⟨rfl, hb⟩; refine ⟨_, rfl, ?_⟩; have n0_ := Aside0.mk (blk_below (g := gb603) BKz hb); have n1_ := Aside0.mk (below_step HBz hb); clear BK603; clear HB; have BK603 := n0_; have HB := n1_; clear n0_ n1_; (try clear hb); (try clear hb2); (try clear hk); (try clear hi)))
   go_meet
   case rel => exact ⟨_, (true), (by first | rfl | (simp; done) | (simp [*]; done)), H', ⟨by first | omega | exact Nat.le_refl _⟩, ⟨by (with_reducible repeat (first | refine blk_drewN ?_ _ | refine blk_drew ?_ | refine blk_alloc ?_ _)); exact BK603.out⟩, ⟨HBz⟩⟩
 case rest =>
  clear HC4
  try clear c2
  try clear p2
  try clear c3
  try clear c7
  try clear c8
  try clear c8b0
  try clear c8b1
  try clear hcz11_0
  try clear hcz11_1
  try clear hcz11_2
  try clear hcz11_3
  try clear hcz13_0
  try clear hcz13_1
  try clear hcz13_2
  try clear hcz13_3
  try clear hcz9_0
  try clear hcz9_1
  try clear hcz9_2
  try clear hcz9_3
  try clear hfz11_0
  try clear hfz11_1
  try clear hfz11_2
  try clear hfz11_3
  try clear hfz13_0
  try clear hfz13_1
  try clear hfz13_2
  try clear hfz13_3
  try clear hfz9_0
  try clear hfz9_1
  try clear hfz9_2
  try clear hfz9_3
  obtain ⟨kq, x23_3, rfl, HA, HJ3, BK603, HB⟩ := hcut
  cases kq with
  | zero => exact absurd HA.out (by simp [tickingref01_Right.j0])
  | succ kj3 =>
   have H := HA.out
   clear HA
   simp only [tickingref01_Right.j0] at H
   by_cases c15 : x23_3 = true
   ·subst c15
    have H1 : (some false) = some r := by rw [if_pos rfl] at H; exact H
    clear H
    have H := H1
    clear H1
    obtain rfl := Option.some.inj H
    go_wp2
    go_ret
    exact ⟨by first | rfl | (simp [errW_none, errW_some] <;> rfl) | (simp [*, errW_none, errW_some] <;> rfl), HBz⟩
   ·replace c15 := Bool.eq_false_iff.mpr c15
    subst c15
    have H1 : (tickingref01_Right.l0 kj3 l0 l2 0 a1_0 a1_1 a1_2 a1_3) = some r := by rw [if_neg (show ¬ (false = true) by decide)] at H; exact H
    clear H
    have H := H1
    clear H1
    have H' := Aside0.mk H
    clear H
    go_wp2
    go_loopg [7] kj3 (fun kq v7 w' => ∃ (x7_2 : Int), v7 = .int .i64 x7_2 ∧ Aside0 (tickingref01_Right.l0 kq l0 l2 x7_2 a1_0 a1_1 a1_2 a1_3 = some r) ∧ Aside0 (kq ≤ kj3) ∧ Aside0 (w'.heap[gb603]? = some (.cells #[.int .i64 a1_0, .int .i64 a1_1, .int .i64 a1_2, .int .i64 a1_3] 40 (0, 0))) ∧ Aside0 (Below w.heap.size w w'))
    case atStart => exact ⟨(0), (by first | rfl | (simp; done) | (simp [*]; done)), H', ⟨Nat.le_refl _⟩, ⟨by (with_reducible repeat (first | refine blk_drewN ?_ _ | refine blk_drew ?_ | refine blk_alloc ?_ _)); exact BK603.out⟩, ⟨HBz⟩⟩
    case round =>
     clear H'
     try clear c1
     try clear c2
     try clear p2
     try clear c3
     try clear c7
     try clear c8
     try clear c8b0
     try clear c8b1
     try clear c15
     try clear hcz11_0
     try clear hcz11_1
     try clear hcz11_2
     try clear hcz11_3
     try clear hcz13_0
     try clear hcz13_1
     try clear hcz13_2
     try clear hcz13_3
     try clear hcz9_0
     try clear hcz9_1
     try clear hcz9_2
     try clear hcz9_3
     try clear hfz11_0
     try clear hfz11_1
     try clear hfz11_2
     try clear hfz11_3
     try clear hfz13_0
     try clear hfz13_1
     try clear hfz13_2
     try clear hfz13_3
     try clear hfz9_0
     try clear hfz9_1
     try clear hfz9_2
     try clear hfz9_3
     try clear p2
     obtain ⟨x7_2, rfl, HA, HK2, BK603, HB⟩ := hrel
     cases gk with
     | zero => exact absurd HA.out (by simp [tickingref01_Right.l0])
     | succ k2 =>
      have H := HA.out
      clear HA
      simp only [tickingref01_Right.l0] at H
      by_cases c16 : x7_2 < (l0.length : Int)
      ·rw [if_pos c16] at H
       have c16b0 : decide (x7_2 < (l0.length : Int)) = true := decide_eq_true c16
       clear c16
       by_cases c17 : 0 ≤ x7_2
       ·rw [if_pos c17] at H
        have c17b0 : decide (0 ≤ x7_2) = true := decide_eq_true c17
        clear c17
        replace H := Option.bind_eq_some_iff.mp H
        obtain ⟨t606, A180, H⟩ := H
        replace H : (if t606 > a1_3 then (some false) else (tickingref01_Right.l0 k2 l0 l2 (wrap64 (x7_2 + 1)) a1_0 a1_1 a1_2 a1_3)) = some r := H
        have A18 := Aside0.mk A180
        clear A180
        by_cases c19 : t606 > a1_3
        ·rw [if_pos c19] at H
         have c19b0 : decide (a1_3 < t606) = true := decide_eq_true c19
         clear c19
         obtain rfl := Option.some.inj H
         try go_wp2
         have n0_ := Aside0.mk (blk_drew BK603.out)
         have n1_ := Aside0.mk (below_drew1 HB.out)
         clear BK603
         clear HB
         have BK603 := n0_
         have HB := n1_
         clear n0_ n1_
         have p605 : 0 ≤ (x7_2 : Int) := of_decide_eq_true (by first | (with_reducible assumption) | assumption)
         have q605 : x7_2 < (l0.length : Int) := of_decide_eq_true (by first | (with_reducible assumption) | assumption)
         obtain ⟨ad605, e605, hx605_0, hx605_1⟩ := at_T28 HR0.out x7_2 p605 q605
         have hw605_1 := hx605_1
         have hw605_0 := hx605_0
         cases e605
         replace hx605_0 := (HB.out.cell (World.block_lt_of_cell? w _ hx605_0)).trans hx605_0
         replace hx605_1 := (HB.out.cell (World.block_lt_of_cell? w _ hx605_1)).trans hx605_1
         replace p605 := eq_true p605
         replace q605 := eq_true q605
         refine stz (fun w' => w'.cell? ⟨gb603, 0, none⟩ = some (.int .i64 a1_0) ∧ w'.cell? ⟨gb603, 1, none⟩ = some (.int .i64 a1_1) ∧ w'.cell? ⟨gb603, 2, none⟩ = some (.int .i64 a1_2) ∧ w'.cell? ⟨gb603, 3, none⟩ = some (.int .i64 a1_3) ∧ w'.cell? (ad605.add ((x7_2).toNat * 2)) = some (.int .i64 ((rd_T28 l0 x7_2).f0)) ∧ w'.cell? ⟨(ad605.add ((x7_2).toNat * 2)).block, (ad605.add ((x7_2).toNat * 2)).off + 1, none⟩ = some (.int .i64 ((rd_T28 l0 x7_2).f1))) [] (bn 9 0) ⟨(blk_cell BK603.out 0).trans rfl, (blk_cell BK603.out 1).trans rfl, (blk_cell BK603.out 2).trans rfl, (blk_cell BK603.out 3).trans rfl, ((HB.out.cell (World.block_lt_of_cell? w _ hw605_0)).trans hw605_0), ((HB.out.cell (World.block_lt_of_cell? w _ hw605_1)).trans hw605_1)⟩ (fun hHeld => ?_); refine with_tabW tickingref01_Right.tab6 tickingref01_Right.bits6 (fun HT_ HW_ => ?_)
         generalize wr.drew = w20 at BK603 HB hx605_0 hx605_1 hHeld ⊢
         refine pT HT_.out 1 (some 31) (bn 9 2) ?_
         refine pT HT_.out 2 (some 32) (bn 9 6) ?_
         refine pT HT_.out 3 (some 33) (bn 9 14) ?_
         refine pT HT_.out 6 (some 36) (bn 9 78) ?_
         refine tT HT_.out HW_.out 0 (some 30) (bn 9 79) hHeld ?_
         refine tT HT_.out HW_.out 4 (some 34) (bn 9 95) hHeld ?_
         refine tT HT_.out HW_.out 7 (some 37) (bn 9 223) hHeld ?_
         refine oT HT_.out 5 (some 35) (bn 9 255) (fun K hK => ?_)
         refine gz Try.func33 #[.agg #[.int .i64 a1_0, .int .i64 a1_1, .int .i64 a1_2, .int .i64 a1_3], .agg #[.int .i64 ((rd_T28 l0 x7_2).f0), .int .i64 ((rd_T28 l0 x7_2).f1)]] ?_
         with_reducible refine (tickingref01_Far.calls a1_0 a1_1 a1_2 a1_3 ((rd_T28 l0 x7_2).f0) ((rd_T28 l0 x7_2).f1) t606 _ A18.out).mono ?_
         rintro e w21 ⟨rfl, hb⟩
         refine ⟨_, rfl, ?_⟩
         have n0_ := Aside0.mk (blk_below (g := gb603) BKz hb)
         have n1_ := Aside0.mk (below_step HBz hb)
         clear BK603
         clear HB
         have BK603 := n0_
         have HB := n1_
         clear n0_ n1_
         (try clear hb)
         (try clear hb2)
         (try clear hk)
         (try clear hi)
         refine hK.out _ _ ⟨(blk_cell BK603.out 0).trans rfl, (blk_cell BK603.out 1).trans rfl, (blk_cell BK603.out 2).trans rfl, (blk_cell BK603.out 3).trans rfl, ((HB.out.cell (World.block_lt_of_cell? w _ hw605_0)).trans hw605_0), ((HB.out.cell (World.block_lt_of_cell? w _ hw605_1)).trans hw605_1)⟩ (fun hHeld => ?_)
         clear hK K
         refine nz (some 35) ?_
         refine pT HT_.out 8 (some 38) (bn 9 511) ?_
         refine done_ (done_of HT_.out (by kernel_rfl)) ?_
         try go_wp2
         go_ret
         exact ⟨by first | rfl | (simp [errW_none, errW_some] <;> rfl) | (simp [*, errW_none, errW_some] <;> rfl), HBz⟩
        ·rw [if_neg c19] at H
         have c19b0 : decide (a1_3 < t606) = false := decide_eq_false c19
         clear c19
         have H' := Aside0.mk H
         clear H
         try go_wp2
         have n0_ := Aside0.mk (blk_drew BK603.out)
         have n1_ := Aside0.mk (below_drew1 HB.out)
         clear BK603
         clear HB
         have BK603 := n0_
         have HB := n1_
         clear n0_ n1_
         have p605 : 0 ≤ (x7_2 : Int) := of_decide_eq_true (by first | (with_reducible assumption) | assumption)
         have q605 : x7_2 < (l0.length : Int) := of_decide_eq_true (by first | (with_reducible assumption) | assumption)
         obtain ⟨ad605, e605, hx605_0, hx605_1⟩ := at_T28 HR0.out x7_2 p605 q605
         have hw605_1 := hx605_1
         have hw605_0 := hx605_0
         cases e605
         replace hx605_0 := (HB.out.cell (World.block_lt_of_cell? w _ hx605_0)).trans hx605_0
         replace hx605_1 := (HB.out.cell (World.block_lt_of_cell? w _ hx605_1)).trans hx605_1
         replace p605 := eq_true p605
         replace q605 := eq_true q605
         refine stz (fun w' => w'.cell? ⟨gb603, 0, none⟩ = some (.int .i64 a1_0) ∧ w'.cell? ⟨gb603, 1, none⟩ = some (.int .i64 a1_1) ∧ w'.cell? ⟨gb603, 2, none⟩ = some (.int .i64 a1_2) ∧ w'.cell? ⟨gb603, 3, none⟩ = some (.int .i64 a1_3) ∧ w'.cell? (ad605.add ((x7_2).toNat * 2)) = some (.int .i64 ((rd_T28 l0 x7_2).f0)) ∧ w'.cell? ⟨(ad605.add ((x7_2).toNat * 2)).block, (ad605.add ((x7_2).toNat * 2)).off + 1, none⟩ = some (.int .i64 ((rd_T28 l0 x7_2).f1))) [] (bn 9 0) ⟨(blk_cell BK603.out 0).trans rfl, (blk_cell BK603.out 1).trans rfl, (blk_cell BK603.out 2).trans rfl, (blk_cell BK603.out 3).trans rfl, ((HB.out.cell (World.block_lt_of_cell? w _ hw605_0)).trans hw605_0), ((HB.out.cell (World.block_lt_of_cell? w _ hw605_1)).trans hw605_1)⟩ (fun hHeld => ?_); refine with_tabW tickingref01_Right.tab6 tickingref01_Right.bits6 (fun HT_ HW_ => ?_)
         generalize wr.drew = w22 at BK603 HB hx605_0 hx605_1 hHeld ⊢
         refine pT HT_.out 1 (some 31) (bn 9 2) ?_
         refine pT HT_.out 2 (some 32) (bn 9 6) ?_
         refine pT HT_.out 3 (some 33) (bn 9 14) ?_
         refine pT HT_.out 6 (some 36) (bn 9 78) ?_
         refine tT HT_.out HW_.out 0 (some 30) (bn 9 79) hHeld ?_
         refine tT HT_.out HW_.out 4 (some 34) (bn 9 95) hHeld ?_
         refine tT HT_.out HW_.out 7 (some 37) (bn 9 223) hHeld ?_
         refine oT HT_.out 5 (some 35) (bn 9 255) (fun K hK => ?_)
         refine gz Try.func33 #[.agg #[.int .i64 a1_0, .int .i64 a1_1, .int .i64 a1_2, .int .i64 a1_3], .agg #[.int .i64 ((rd_T28 l0 x7_2).f0), .int .i64 ((rd_T28 l0 x7_2).f1)]] ?_
         with_reducible refine (tickingref01_Far.calls a1_0 a1_1 a1_2 a1_3 ((rd_T28 l0 x7_2).f0) ((rd_T28 l0 x7_2).f1) t606 _ A18.out).mono ?_
         rintro e w23 ⟨rfl, hb⟩
         refine ⟨_, rfl, ?_⟩
         have n0_ := Aside0.mk (blk_below (g := gb603) BKz hb)
         have n1_ := Aside0.mk (below_step HBz hb)
         clear BK603
         clear HB
         have BK603 := n0_
         have HB := n1_
         clear n0_ n1_
         (try clear hb)
         (try clear hb2)
         (try clear hk)
         (try clear hi)
         refine hK.out _ _ ⟨(blk_cell BK603.out 0).trans rfl, (blk_cell BK603.out 1).trans rfl, (blk_cell BK603.out 2).trans rfl, (blk_cell BK603.out 3).trans rfl, ((HB.out.cell (World.block_lt_of_cell? w _ hw605_0)).trans hw605_0), ((HB.out.cell (World.block_lt_of_cell? w _ hw605_1)).trans hw605_1)⟩ (fun hHeld => ?_)
         clear hK K
         refine nz (some 35) ?_
         refine pT HT_.out 8 (some 38) (bn 9 511) ?_
         refine done_ (done_of HT_.out (by kernel_rfl)) ?_
         try go_wp2
         go_roundg k2
         case measure => have := HJ3.out; have := HK2.out; omega
         case rel => exact ⟨(wrap64 (x7_2 + 1)), (by first | rfl | (simp; done) | (simp [*]; done)), H', ⟨by have := HJ3.out; have := HK2.out; omega⟩, ⟨by (with_reducible repeat (first | refine blk_drewN ?_ _ | refine blk_drew ?_ | refine blk_alloc ?_ _)); exact BK603.out⟩, ⟨HBz⟩⟩
       ·rw [if_neg c17] at H
        exact absurd H (by simp)
      ·rw [if_neg c16] at H
       have c16b0 : decide (x7_2 < (l0.length : Int)) = false := decide_eq_false c16
       clear c16
       have H' := Aside0.mk H
       clear H
       go_wp2
       go_loopg [8, 9] k2 (fun kq v8 v9 w' => ∃ (x8_3 : List (S28)) (x9_3 : Int), v9 = .int .i64 x9_3 ∧ Aside0 (tickingref01_Right.l1 kq l0 l2 x8_3 x9_3 a1_0 a1_1 a1_2 a1_3 = some r) ∧ Aside0 (kq ≤ k2) ∧ Aside0 (Kd.R k28 28 w' w.heap.size (fun _ => True) v8 x8_3) ∧ Aside0 (w'.heap[gb603]? = some (.cells #[.int .i64 a1_0, .int .i64 a1_1, .int .i64 a1_2, .int .i64 a1_3] 40 (0, 0))) ∧ Aside0 (Below w.heap.size w w'))
       case atStart => exact ⟨(([] : List (S28))), (0), (by first | rfl | (simp; done) | (simp [*]; done)), H', ⟨Nat.le_refl _⟩, ⟨by first | exact Kd.R_nil _ _ _ _ _ | exact Kd.N_nil _ _ _ _ _ | exact Kd.V_nil _ _ _ _ _ | exact Kd.Q_nil _ _ _ _ _ | exact Kd.S_nil _ _ _ _ _⟩, ⟨by (with_reducible repeat (first | refine blk_drewN ?_ _ | refine blk_drew ?_ | refine blk_alloc ?_ _)); exact BK603.out⟩, ⟨HBz⟩⟩
       case round =>
        clear H'
        try clear c1
        try clear c2
        try clear p2
        try clear c3
        try clear p6
        try clear q6
        try clear hx6
        try clear c7
        try clear c8
        try clear c8b0
        try clear c8b1
        try clear c15
        try clear c16
        try clear c16b0
        try clear c17
        try clear c17b0
        try clear c19
        try clear c19b0
        try clear hcz11_0
        try clear hcz11_1
        try clear hcz11_2
        try clear hcz11_3
        try clear hcz13_0
        try clear hcz13_1
        try clear hcz13_2
        try clear hcz13_3
        try clear hcz9_0
        try clear hcz9_1
        try clear hcz9_2
        try clear hcz9_3
        try clear hfz11_0
        try clear hfz11_1
        try clear hfz11_2
        try clear hfz11_3
        try clear hfz13_0
        try clear hfz13_1
        try clear hfz13_2
        try clear hfz13_3
        try clear hfz9_0
        try clear hfz9_1
        try clear hfz9_2
        try clear hfz9_3
        try clear hx605_0
        try clear hx605_1
        try clear p2
        try clear p605
        try clear q605
        obtain ⟨x8_3, x9_3, rfl, HA, HK3, HO_8, BK603, HB⟩ := hrel
        cases gk with
        | zero => exact absurd HA.out (by simp [tickingref01_Right.l1])
        | succ k3 =>
         have H := HA.out
         clear HA
         simp only [tickingref01_Right.l1] at H
         by_cases c24 : x9_3 < (l2.length : Int)
         ·rw [if_pos c24] at H
          have c24b0 : decide (x9_3 < (l2.length : Int)) = true := decide_eq_true c24
          clear c24
          by_cases c25 : 0 ≤ x9_3
          ·rw [if_pos c25] at H
           have c25b0 : decide (0 ≤ x9_3) = true := decide_eq_true c25
           clear c25
           by_cases c26 : (rd l2 x9_3) < 0
           ·rw [if_pos c26] at H
            have c26b0 : decide ((rd l2 x9_3) < 0) = true := decide_eq_true c26
            clear c26
            obtain rfl := Option.some.inj H
            have p607 : 0 ≤ (x9_3 : Int) := of_decide_eq_true (by first | (with_reducible assumption) | assumption)
            have q607 : x9_3 < (l2.length : Int) := of_decide_eq_true (by first | (with_reducible assumption) | assumption)
            obtain ⟨ad607, e607, hx607_0⟩ := Kd.at_int HR2.out x9_3 p607 q607
            cases e607
            replace hx607_0 := (HB.out.cell (World.block_lt_of_cell? w _ hx607_0)).trans hx607_0
            replace p607 := eq_true p607
            replace q607 := eq_true q607
            try go_wp2
            have n0_ := Aside0.mk (Kd.R_drew HO_8.out)
            have n1_ := Aside0.mk (blk_drew BK603.out)
            have n2_ := Aside0.mk (below_drew1 HB.out)
            clear HO_8
            clear BK603
            clear HB
            have HO_8 := n0_
            have BK603 := n1_
            have HB := n2_
            clear n0_ n1_ n2_
            refine stz (fun w' => True) [] (bn 32 0) trivial (fun hHeld => ?_); refine with_tabW tickingref01_Right.tab13 tickingref01_Right.bits13 (fun HT_ HW_ => ?_)
            generalize wr.drew = w27 at HO_8 BK603 HB hHeld ⊢
            refine pT HT_.out 0 (some 49) (bn 32 1) ?_
            refine pT HT_.out 1 (some 50) (bn 32 3) ?_
            refine pT HT_.out 2 (some 51) (bn 32 7) ?_
            refine pT0 HT_.out 3 (some 52) (bn 32 15) ?_
            refine pT0 HT_.out 4 (some 53) (bn 32 31) ?_
            refine pT0 HT_.out 5 (some 54) (bn 32 63) ?_
            refine pT0 HT_.out 6 (some 55) (bn 32 127) ?_
            refine pT HT_.out 7 (some 56) (bn 32 255) ?_
            refine pT HT_.out 8 (some 57) (bn 32 511) ?_
            refine pT0 HT_.out 9 (some 58) (bn 32 1023) ?_
            refine pT0 HT_.out 10 (some 59) (bn 32 2047) ?_
            refine pT0 HT_.out 11 (some 60) (bn 32 4095) ?_
            refine pT0 HT_.out 12 (some 61) (bn 32 8191) ?_
            refine pT0 HT_.out 13 (some 62) (bn 32 16383) ?_
            refine pT0 HT_.out 14 (some 63) (bn 32 32767) ?_
            refine pT0 HT_.out 15 (some 64) (bn 32 65535) ?_
            refine pT0 HT_.out 16 (some 65) (bn 32 131071) ?_
            refine pT0 HT_.out 17 (some 66) (bn 32 262143) ?_
            refine pT0 HT_.out 18 (some 67) (bn 32 524287) ?_
            refine pT0 HT_.out 19 (some 68) (bn 32 1048575) ?_
            refine pT HT_.out 20 (some 69) (bn 32 2097151) ?_
            refine pT HT_.out 21 (some 70) (bn 32 4194303) ?_
            refine pT0 HT_.out 22 (some 71) (bn 32 8388607) ?_
            refine pT0 HT_.out 23 (some 72) (bn 32 16777215) ?_
            refine pT0 HT_.out 24 (some 73) (bn 32 33554431) ?_
            refine pT0 HT_.out 25 (some 74) (bn 32 67108863) ?_
            refine pT0 HT_.out 26 (some 75) (bn 32 134217727) ?_
            refine pT0 HT_.out 27 (some 76) (bn 32 268435455) ?_
            refine pT0 HT_.out 28 (some 77) (bn 32 536870911) ?_
            refine pT0 HT_.out 29 (some 78) (bn 32 1073741823) ?_
            refine pT0 HT_.out 30 (some 79) (bn 32 2147483647) ?_
            refine pT HT_.out 31 (some 80) (bn 32 4294967295) ?_
            refine done_ (done_of HT_.out (by kernel_rfl)) ?_
            try go_wp2
            go_ret
            exact ⟨by first | rfl | (simp [errW_none, errW_some] <;> rfl) | (simp [*, errW_none, errW_some] <;> rfl), HBz⟩
           ·rw [if_neg c26] at H
            have c26b0 : decide ((rd l2 x9_3) < 0) = false := decide_eq_false c26
            clear c26
            by_cases c28 : (rd l2 x9_3) ≥ (l0.length : Int)
            ·rw [if_pos c28] at H
             have c28b0 : decide ((l0.length : Int) ≤ (rd l2 x9_3)) = true := decide_eq_true c28
             clear c28
             obtain rfl := Option.some.inj H
             have p607 : 0 ≤ (x9_3 : Int) := of_decide_eq_true (by first | (with_reducible assumption) | assumption)
             have q607 : x9_3 < (l2.length : Int) := of_decide_eq_true (by first | (with_reducible assumption) | assumption)
             obtain ⟨ad607, e607, hx607_0⟩ := Kd.at_int HR2.out x9_3 p607 q607
             cases e607
             replace hx607_0 := (HB.out.cell (World.block_lt_of_cell? w _ hx607_0)).trans hx607_0
             replace p607 := eq_true p607
             replace q607 := eq_true q607
             try go_wp2
             have n0_ := Aside0.mk (Kd.R_drew HO_8.out)
             have n1_ := Aside0.mk (blk_drew BK603.out)
             have n2_ := Aside0.mk (below_drew1 HB.out)
             clear HO_8
             clear BK603
             clear HB
             have HO_8 := n0_
             have BK603 := n1_
             have HB := n2_
             clear n0_ n1_ n2_
             refine stz (fun w' => True) [] (bn 32 0) trivial (fun hHeld => ?_); refine with_tabW tickingref01_Right.tab13 tickingref01_Right.bits13 (fun HT_ HW_ => ?_)
             generalize wr.drew = w29 at HO_8 BK603 HB hHeld ⊢
             refine pT HT_.out 0 (some 49) (bn 32 1) ?_
             refine pT HT_.out 1 (some 50) (bn 32 3) ?_
             refine pT HT_.out 2 (some 51) (bn 32 7) ?_
             refine pT HT_.out 3 (some 52) (bn 32 15) ?_
             refine pT HT_.out 4 (some 53) (bn 32 31) ?_
             refine pT HT_.out 5 (some 54) (bn 32 63) ?_
             refine pT HT_.out 6 (some 55) (bn 32 127) ?_
             refine pT HT_.out 7 (some 56) (bn 32 255) ?_
             refine pT HT_.out 8 (some 57) (bn 32 511) ?_
             refine pT0 HT_.out 9 (some 58) (bn 32 1023) ?_
             refine pT0 HT_.out 10 (some 59) (bn 32 2047) ?_
             refine pT0 HT_.out 11 (some 60) (bn 32 4095) ?_
             refine pT0 HT_.out 12 (some 61) (bn 32 8191) ?_
             refine pT0 HT_.out 13 (some 62) (bn 32 16383) ?_
             refine pT0 HT_.out 14 (some 63) (bn 32 32767) ?_
             refine pT0 HT_.out 15 (some 64) (bn 32 65535) ?_
             refine pT0 HT_.out 16 (some 65) (bn 32 131071) ?_
             refine pT0 HT_.out 17 (some 66) (bn 32 262143) ?_
             refine pT0 HT_.out 18 (some 67) (bn 32 524287) ?_
             refine pT0 HT_.out 19 (some 68) (bn 32 1048575) ?_
             refine pT HT_.out 20 (some 69) (bn 32 2097151) ?_
             refine pT HT_.out 21 (some 70) (bn 32 4194303) ?_
             refine pT0 HT_.out 22 (some 71) (bn 32 8388607) ?_
             refine pT0 HT_.out 23 (some 72) (bn 32 16777215) ?_
             refine pT0 HT_.out 24 (some 73) (bn 32 33554431) ?_
             refine pT0 HT_.out 25 (some 74) (bn 32 67108863) ?_
             refine pT0 HT_.out 26 (some 75) (bn 32 134217727) ?_
             refine pT0 HT_.out 27 (some 76) (bn 32 268435455) ?_
             refine pT0 HT_.out 28 (some 77) (bn 32 536870911) ?_
             refine pT0 HT_.out 29 (some 78) (bn 32 1073741823) ?_
             refine pT0 HT_.out 30 (some 79) (bn 32 2147483647) ?_
             refine pT HT_.out 31 (some 80) (bn 32 4294967295) ?_
             refine done_ (done_of HT_.out (by kernel_rfl)) ?_
             try go_wp2
             go_ret
             exact ⟨by first | rfl | (simp [errW_none, errW_some] <;> rfl) | (simp [*, errW_none, errW_some] <;> rfl), HBz⟩
            ·rw [if_neg c28] at H
             have c28b0 : decide ((l0.length : Int) ≤ (rd l2 x9_3)) = false := decide_eq_false c28
             clear c28
             by_cases c30 : x9_3 > 0
             ·rw [if_pos c30] at H
              have c30b0 : decide (0 < x9_3) = true := decide_eq_true c30
              clear c30
              obtain ⟨ji31, hji31⟩ : ∃ j_ : Int, (wrap64 (x9_3 - 1)) = j_ := ⟨_, rfl⟩
              replace H : (if 0 ≤ (ji31) then (if (ji31) < (l2.length : Int) then (if (rd l2 (ji31)) ≥ (rd l2 x9_3) then (some false) else (if 0 ≤ (rd l2 x9_3) then (if (rd l2 x9_3) < (l0.length : Int) then ((tickingref01_Far.f a1_0 a1_1 a1_2 a1_3 ((rd_T28 l0 (rd l2 x9_3)).f0) ((rd_T28 l0 (rd l2 x9_3)).f1)).bind fun t610 => (if t610 = a1_3 then (if x8_3.length < 8796093022208 then (tickingref01_Right.l1 k3 l0 l2 (x8_3 ++ [(⟨(rd_T28 l0 (rd l2 x9_3)).f0, (rd_T28 l0 (rd l2 x9_3)).f1⟩ : S28)]) (wrap64 (x9_3 + 1)) a1_0 a1_1 a1_2 a1_3) else (none)) else (some false))) else (none)) else (none))) else (none)) else (none)) = some r := by first | (rw [hji31] at H; exact H) | (simp only [hji31] at H ⊢; exact H)
              have hji31w : (IntKind.i64.wrap (x9_3 - 1)) = ji31 := (i64_w _).trans hji31
              by_cases c32 : 0 ≤ (ji31)
              ·rw [if_pos c32] at H
               have c32b0 : decide (0 ≤ (ji31)) = true := decide_eq_true c32
               clear c32
               by_cases c33 : (ji31) < (l2.length : Int)
               ·rw [if_pos c33] at H
                have c33b0 : decide ((ji31) < (l2.length : Int)) = true := decide_eq_true c33
                clear c33
                by_cases c34 : (rd l2 (ji31)) ≥ (rd l2 x9_3)
                ·rw [if_pos c34] at H
                 have c34b0 : decide ((rd l2 x9_3) ≤ (rd l2 (ji31))) = true := decide_eq_true c34
                 clear c34
                 obtain rfl := Option.some.inj H
                 have p607 : 0 ≤ (x9_3 : Int) := of_decide_eq_true (by first | (with_reducible assumption) | assumption)
                 have q607 : x9_3 < (l2.length : Int) := of_decide_eq_true (by first | (with_reducible assumption) | assumption)
                 obtain ⟨ad607, e607, hx607_0⟩ := Kd.at_int HR2.out x9_3 p607 q607
                 cases e607
                 replace hx607_0 := (HB.out.cell (World.block_lt_of_cell? w _ hx607_0)).trans hx607_0
                 replace p607 := eq_true p607
                 replace q607 := eq_true q607
                 try go_wp2
                 have n0_ := Aside0.mk (Kd.R_drew HO_8.out)
                 have n1_ := Aside0.mk (blk_drew BK603.out)
                 have n2_ := Aside0.mk (below_drew1 HB.out)
                 clear HO_8
                 clear BK603
                 clear HB
                 have HO_8 := n0_
                 have BK603 := n1_
                 have HB := n2_
                 clear n0_ n1_ n2_
                 have p608 : 0 ≤ ((ji31) : Int) := of_decide_eq_true (by first | (with_reducible assumption) | assumption)
                 have q608 : (ji31) < (l2.length : Int) := of_decide_eq_true (by first | (with_reducible assumption) | assumption)
                 obtain ⟨ad608, e608, hx608_0⟩ := Kd.at_int HR2.out (ji31) p608 q608
                 have hw608_0 := hx608_0
                 obtain rfl : ad607 = ad608 := (by injection e608)
                 replace hx608_0 := (HB.out.cell (World.block_lt_of_cell? w _ hx608_0)).trans hx608_0
                 replace p608 := eq_true p608
                 replace q608 := eq_true q608
                 refine stz (fun w' => w'.cell? (ad607.add ((ji31)).toNat) = some (.int .i64 (rd l2 (ji31)))) [] (bn 32 0) (((HB.out.cell (World.block_lt_of_cell? w _ hw608_0)).trans hw608_0)) (fun hHeld => ?_); refine with_tabW tickingref01_Right.tab13 tickingref01_Right.bits13 (fun HT_ HW_ => ?_)
                 generalize wr.drew = w35 at HO_8 BK603 HB hx608_0 hHeld ⊢
                 refine pT HT_.out 0 (some 49) (bn 32 1) ?_
                 refine pT HT_.out 1 (some 50) (bn 32 3) ?_
                 refine pT HT_.out 2 (some 51) (bn 32 7) ?_
                 refine pT HT_.out 3 (some 52) (bn 32 15) ?_
                 refine pT HT_.out 4 (some 53) (bn 32 31) ?_
                 refine pT HT_.out 5 (some 54) (bn 32 63) ?_
                 refine pT HT_.out 6 (some 55) (bn 32 127) ?_
                 refine pT HT_.out 7 (some 56) (bn 32 255) ?_
                 refine pT HT_.out 8 (some 57) (bn 32 511) ?_
                 refine pT HT_.out 9 (some 58) (bn 32 1023) ?_
                 refine pT HT_.out 10 (some 59) (bn 32 2047) ?_
                 refine pT HT_.out 11 (some 60) (bn 32 4095) ?_
                 refine pT HT_.out 12 (some 61) (bn 32 8191) ?_
                 refine pT HT_.out 13 (some 62) (bn 32 16383) ?_
                 refine pT HT_.out 14 (some 63) (bn 32 32767) ?_
                 refine pT HT_.out 15 (some 64) (bn 32 65535) ?_
                 refine pT HT_.out 17 (some 66) (bn 32 196607) ?_
                 refine tT HT_.out HW_.out 16 (some 65) (bn 32 262143) hHeld ?_
                 refine pT HT_.out 18 (some 67) (bn 32 524287) ?_
                 refine pT HT_.out 19 (some 68) (bn 32 1048575) ?_
                 refine pT HT_.out 20 (some 69) (bn 32 2097151) ?_
                 refine pT HT_.out 21 (some 70) (bn 32 4194303) ?_
                 refine pT0 HT_.out 22 (some 71) (bn 32 8388607) ?_
                 refine pT0 HT_.out 23 (some 72) (bn 32 16777215) ?_
                 refine pT0 HT_.out 24 (some 73) (bn 32 33554431) ?_
                 refine pT0 HT_.out 25 (some 74) (bn 32 67108863) ?_
                 refine pT0 HT_.out 26 (some 75) (bn 32 134217727) ?_
                 refine pT0 HT_.out 27 (some 76) (bn 32 268435455) ?_
                 refine pT0 HT_.out 28 (some 77) (bn 32 536870911) ?_
                 refine pT0 HT_.out 29 (some 78) (bn 32 1073741823) ?_
                 refine pT0 HT_.out 30 (some 79) (bn 32 2147483647) ?_
                 refine pT HT_.out 31 (some 80) (bn 32 4294967295) ?_
                 refine done_ (done_of HT_.out (by kernel_rfl)) ?_
                 try go_wp2
                 go_ret
                 exact ⟨by first | rfl | (simp [errW_none, errW_some] <;> rfl) | (simp only [← hji31]; first | rfl | (simp [errW_none, errW_some] <;> rfl)) | (simp [*, errW_none, errW_some] <;> rfl), HBz⟩
                ·rw [if_neg c34] at H
                 have c34b0 : decide ((rd l2 x9_3) ≤ (rd l2 (ji31))) = false := decide_eq_false c34
                 clear c34
                 by_cases c36 : 0 ≤ (rd l2 x9_3)
                 ·rw [if_pos c36] at H
                  have c36b0 : decide (0 ≤ (rd l2 x9_3)) = true := decide_eq_true c36
                  clear c36
                  by_cases c37 : (rd l2 x9_3) < (l0.length : Int)
                  ·rw [if_pos c37] at H
                   have c37b0 : decide ((rd l2 x9_3) < (l0.length : Int)) = true := decide_eq_true c37
                   clear c37
                   replace H := Option.bind_eq_some_iff.mp H
                   obtain ⟨t610, A380, H⟩ := H
                   replace H : (if t610 = a1_3 then (if x8_3.length < 8796093022208 then (tickingref01_Right.l1 k3 l0 l2 (x8_3 ++ [(⟨(rd_T28 l0 (rd l2 x9_3)).f0, (rd_T28 l0 (rd l2 x9_3)).f1⟩ : S28)]) (wrap64 (x9_3 + 1)) a1_0 a1_1 a1_2 a1_3) else (none)) else (some false)) = some r := H
                   have A38 := Aside0.mk A380
                   clear A380
                   by_cases c39 : t610 = a1_3
                   ·rw [if_pos c39] at H
                    have c39b0 : (t610 == a1_3) = true := beq_iff_eq.mpr c39
                    have c39b1 : (t610 != a1_3) = false := bne_eq_false_iff_eq.mpr c39
                    clear c39
                    by_cases c40 : x8_3.length < 8796093022208
                    ·rw [if_pos c40] at H
                     have LMc40 := Aside0.mk c40
                     clear c40
                     obtain ⟨y612, hy612⟩ : ∃ y_ : List (S28), y_ = (x8_3 ++ [(⟨(rd_T28 l0 (rd l2 x9_3)).f0, (rd_T28 l0 (rd l2 x9_3)).f1⟩ : S28)]) := ⟨_, rfl⟩
                     replace H : (tickingref01_Right.l1 k3 l0 l2 y612 (wrap64 (x9_3 + 1)) a1_0 a1_1 a1_2 a1_3) = some r := by first | (rw [hy612]; with_reducible exact H) | (have H2_ := (Option.bind_some _ _).symm.trans H; rw [hy612]; with_reducible exact H2_) | (have H2_ := (Option.bind_some _ _).symm.trans H; with_reducible exact H2_) | with_reducible exact H | (rw [hy612]; exact H) | exact H
                     have Ny612 := Aside0.mk hy612
                     clear hy612
                     have H' := Aside0.mk H
                     clear H
                     have p607 : 0 ≤ (x9_3 : Int) := of_decide_eq_true (by first | (with_reducible assumption) | assumption)
                     have q607 : x9_3 < (l2.length : Int) := of_decide_eq_true (by first | (with_reducible assumption) | assumption)
                     obtain ⟨ad607, e607, hx607_0⟩ := Kd.at_int HR2.out x9_3 p607 q607
                     cases e607
                     replace hx607_0 := (HB.out.cell (World.block_lt_of_cell? w _ hx607_0)).trans hx607_0
                     replace p607 := eq_true p607
                     replace q607 := eq_true q607
                     try go_wp2
                     have n0_ := Aside0.mk (Kd.R_drew HO_8.out)
                     have n1_ := Aside0.mk (blk_drew BK603.out)
                     have n2_ := Aside0.mk (below_drew1 HB.out)
                     clear HO_8
                     clear BK603
                     clear HB
                     have HO_8 := n0_
                     have BK603 := n1_
                     have HB := n2_
                     clear n0_ n1_ n2_
                     have p608 : 0 ≤ ((ji31) : Int) := of_decide_eq_true (by first | (with_reducible assumption) | assumption)
                     have q608 : (ji31) < (l2.length : Int) := of_decide_eq_true (by first | (with_reducible assumption) | assumption)
                     obtain ⟨ad608, e608, hx608_0⟩ := Kd.at_int HR2.out (ji31) p608 q608
                     have hw608_0 := hx608_0
                     obtain rfl : ad607 = ad608 := (by injection e608)
                     replace hx608_0 := (HB.out.cell (World.block_lt_of_cell? w _ hx608_0)).trans hx608_0
                     replace p608 := eq_true p608
                     replace q608 := eq_true q608
                     have p609 : 0 ≤ ((rd l2 x9_3) : Int) := of_decide_eq_true (by first | (with_reducible assumption) | assumption)
                     have q609 : (rd l2 x9_3) < (l0.length : Int) := of_decide_eq_true (by first | (with_reducible assumption) | assumption)
                     obtain ⟨ad609, e609, hx609_0, hx609_1⟩ := at_T28 HR0.out (rd l2 x9_3) p609 q609
                     have hw609_1 := hx609_1
                     have hw609_0 := hx609_0
                     cases e609
                     replace hx609_0 := (HB.out.cell (World.block_lt_of_cell? w _ hx609_0)).trans hx609_0
                     replace hx609_1 := (HB.out.cell (World.block_lt_of_cell? w _ hx609_1)).trans hx609_1
                     replace p609 := eq_true p609
                     replace q609 := eq_true q609
                     refine stz (fun w' => w'.cell? ⟨gb603, 0, none⟩ = some (.int .i64 a1_0) ∧ w'.cell? ⟨gb603, 1, none⟩ = some (.int .i64 a1_1) ∧ w'.cell? ⟨gb603, 2, none⟩ = some (.int .i64 a1_2) ∧ w'.cell? ⟨gb603, 3, none⟩ = some (.int .i64 a1_3) ∧ w'.cell? (ad607.add ((ji31)).toNat) = some (.int .i64 (rd l2 (ji31))) ∧ w'.cell? (ad609.add (((rd l2 x9_3)).toNat * 2)) = some (.int .i64 ((rd_T28 l0 (rd l2 x9_3)).f0)) ∧ w'.cell? ⟨(ad609.add (((rd l2 x9_3)).toNat * 2)).block, (ad609.add (((rd l2 x9_3)).toNat * 2)).off + 1, none⟩ = some (.int .i64 ((rd_T28 l0 (rd l2 x9_3)).f1))) [] (bn 32 0) ⟨(blk_cell BK603.out 0).trans rfl, (blk_cell BK603.out 1).trans rfl, (blk_cell BK603.out 2).trans rfl, (blk_cell BK603.out 3).trans rfl, ((HB.out.cell (World.block_lt_of_cell? w _ hw608_0)).trans hw608_0), ((HB.out.cell (World.block_lt_of_cell? w _ hw609_0)).trans hw609_0), ((HB.out.cell (World.block_lt_of_cell? w _ hw609_1)).trans hw609_1)⟩ (fun hHeld => ?_); refine with_tabW tickingref01_Right.tab13 tickingref01_Right.bits13 (fun HT_ HW_ => ?_)
                     generalize wr.drew = w41 at HO_8 BK603 HB hx608_0 hx609_0 hx609_1 hHeld ⊢
                     refine pT HT_.out 0 (some 49) (bn 32 1) ?_
                     refine pT HT_.out 1 (some 50) (bn 32 3) ?_
                     refine pT HT_.out 2 (some 51) (bn 32 7) ?_
                     refine pT HT_.out 3 (some 52) (bn 32 15) ?_
                     refine pT HT_.out 4 (some 53) (bn 32 31) ?_
                     refine pT HT_.out 5 (some 54) (bn 32 63) ?_
                     refine pT HT_.out 6 (some 55) (bn 32 127) ?_
                     refine pT HT_.out 7 (some 56) (bn 32 255) ?_
                     refine pT HT_.out 8 (some 57) (bn 32 511) ?_
                     refine pT HT_.out 9 (some 58) (bn 32 1023) ?_
                     refine pT HT_.out 10 (some 59) (bn 32 2047) ?_
                     refine pT HT_.out 11 (some 60) (bn 32 4095) ?_
                     refine pT HT_.out 12 (some 61) (bn 32 8191) ?_
                     refine pT HT_.out 13 (some 62) (bn 32 16383) ?_
                     refine pT HT_.out 14 (some 63) (bn 32 32767) ?_
                     refine pT HT_.out 15 (some 64) (bn 32 65535) ?_
                     refine pT HT_.out 17 (some 66) (bn 32 196607) ?_
                     refine tT HT_.out HW_.out 16 (some 65) (bn 32 262143) hHeld ?_
                     refine pT HT_.out 18 (some 67) (bn 32 524287) ?_
                     refine pT HT_.out 19 (some 68) (bn 32 1048575) ?_
                     refine pT HT_.out 20 (some 69) (bn 32 2097151) ?_
                     refine pT HT_.out 21 (some 70) (bn 32 4194303) ?_
                     refine pT HT_.out 23 (some 72) (bn 32 12582911) ?_
                     refine pT HT_.out 24 (some 73) (bn 32 29360127) ?_
                     refine pT HT_.out 25 (some 74) (bn 32 62914559) ?_
                     refine pT HT_.out 28 (some 77) (bn 32 331350015) ?_
                     refine tT HT_.out HW_.out 22 (some 71) (bn 32 335544319) hHeld ?_
                     refine tT HT_.out HW_.out 26 (some 75) (bn 32 402653183) hHeld ?_
                     refine tT HT_.out HW_.out 29 (some 78) (bn 32 939524095) hHeld ?_
                     refine oT HT_.out 27 (some 76) (bn 32 1073741823) (fun K hK => ?_)
                     refine gz Try.func33 #[.agg #[.int .i64 a1_0, .int .i64 a1_1, .int .i64 a1_2, .int .i64 a1_3], .agg #[.int .i64 ((rd_T28 l0 (rd l2 x9_3)).f0), .int .i64 ((rd_T28 l0 (rd l2 x9_3)).f1)]] ?_
                     with_reducible refine (tickingref01_Far.calls a1_0 a1_1 a1_2 a1_3 ((rd_T28 l0 (rd l2 x9_3)).f0) ((rd_T28 l0 (rd l2 x9_3)).f1) t610 _ A38.out).mono ?_
                     rintro e w42 ⟨rfl, hb⟩
                     refine ⟨_, rfl, ?_⟩
                     have n0_ := Aside0.mk (Kd.R_below (by (with_reducible repeat (first | apply Kd.R_alloc | apply Kd.R_drewN | apply Kd.R_drew)); exact HO_8.out) hb)
                     have n1_ := Aside0.mk (blk_below (g := gb603) BKz hb)
                     have n2_ := Aside0.mk (below_step HBz hb)
                     clear HO_8
                     clear BK603
                     clear HB
                     have HO_8 := n0_
                     have BK603 := n1_
                     have HB := n2_
                     clear n0_ n1_ n2_
                     (try clear hb)
                     (try clear hb2)
                     (try clear hk)
                     (try clear hi)
                     refine hK.out _ _ ⟨(blk_cell BK603.out 0).trans rfl, (blk_cell BK603.out 1).trans rfl, (blk_cell BK603.out 2).trans rfl, (blk_cell BK603.out 3).trans rfl, ((HB.out.cell (World.block_lt_of_cell? w _ hw608_0)).trans hw608_0), ((HB.out.cell (World.block_lt_of_cell? w _ hw609_0)).trans hw609_0), ((HB.out.cell (World.block_lt_of_cell? w _ hw609_1)).trans hw609_1)⟩ (fun hHeld => ?_)
                     clear hK K
                     refine nz (some 76) ?_
                     refine pT HT_.out 30 (some 79) (bn 32 2147483647) ?_
                     refine pT HT_.out 31 (some 80) (bn 32 4294967295) ?_
                     refine done_ (done_of HT_.out (by kernel_rfl)) ?_
                     have p611 : 0 ≤ ((rd l2 x9_3) : Int) := of_decide_eq_true (by first | (with_reducible assumption) | assumption)
                     have q611 : (rd l2 x9_3) < (l0.length : Int) := of_decide_eq_true (by first | (with_reducible assumption) | assumption)
                     obtain ⟨ad611, e611, hx611_0, hx611_1⟩ := at_T28 HR0.out (rd l2 x9_3) p611 q611
                     obtain rfl : ad609 = ad611 := (by injection e611)
                     replace hx611_0 := (HB.out.cell (World.block_lt_of_cell? w _ hx611_0)).trans hx611_0
                     replace hx611_1 := (HB.out.cell (World.block_lt_of_cell? w _ hx611_1)).trans hx611_1
                     replace p611 := eq_true p611
                     replace q611 := eq_true q611
                     try go_wp2_with (first | ((with_reducible refine gate_builtin (b := .append) (xs := #[.tmp 81, .tmp 86]) rfl ?_); (try (refine gate_guard (by rfl) ?_; dsimp only)); at_builtin; refine Kd.R_append k28 (w0 := w) w.heap.size rfl (.tmp 81) (.tmp 86) 37 28 (.agg #[(.int .i64 0), (.int .i64 0)]) 16 rfl Try.underlying37 info28 rfl (by decide) (by omega) u8 x8_3 (⟨(rd_T28 l0 (rd l2 x9_3)).f0, (rd_T28 l0 (rd l2 x9_3)).f1⟩ : S28) [.int .i64 ((rd_T28 l0 (rd l2 x9_3)).f0), .int .i64 ((rd_T28 l0 (rd l2 x9_3)).f1)] (fun _ => True) (fun _ => False) rfl rfl ?aP (fun _ hk => hk.elim) ?aF ?aO ?aB ?aS ?aL ?_; (case aP => exact k28_mkM _ _ _ (⟨(rd_T28 l0 (rd l2 x9_3)).f0, (rd_T28 l0 (rd l2 x9_3)).f1⟩ : S28)); (case aB => exact HBz); (case aF => exact (fun _ _ => trivial)); (case aO => exact (by (with_reducible repeat (first | apply Kd.R_alloc | apply Kd.R_drewN | apply Kd.R_drew)); exact HO_8.out)); (case aS => exact (below_size HBz)); (case aL => have := LMc40.out; omega); intro v613 w43 ho hb hg hat; rw [← Ny612.out] at ho; have n0_ := Aside0.mk (blk_grown (g := gb603) BKz hg (Kd.R_ne HO_8.out BK603.out (by decide))); have n1_ := Aside0.mk (hb); have n2_ := Aside0.mk (ho); clear BK603; clear HB; clear HO_8; have BK603 := n0_; have HB := n1_; have HO614 := n2_; clear n0_ n1_ n2_; clear ho hb hg hat))
                     go_roundg k3
                     case measure => have := HJ3.out; have := HK2.out; have := HK3.out; omega
                     case rel => exact ⟨(y612), (wrap64 (x9_3 + 1)), (by first | rfl | (simp; done) | (simp [*]; done)), H', ⟨by have := HJ3.out; have := HK2.out; have := HK3.out; omega⟩, ⟨by (with_reducible repeat (first | apply Kd.R_alloc | apply Kd.R_drewN | apply Kd.R_drew)); exact HO614.out⟩, ⟨by (with_reducible repeat (first | refine blk_drewN ?_ _ | refine blk_drew ?_ | refine blk_alloc ?_ _)); exact BK603.out⟩, ⟨HBz⟩⟩
                    ·rw [if_neg c40] at H
                     exact absurd H (by simp)
                   ·rw [if_neg c39] at H
                    have c39b0 : (t610 == a1_3) = false := beq_eq_false_iff_ne.mpr c39
                    have c39b1 : (t610 != a1_3) = true := bne_iff_ne.mpr c39
                    obtain rfl := Option.some.inj H
                    have p607 : 0 ≤ (x9_3 : Int) := of_decide_eq_true (by first | (with_reducible assumption) | assumption)
                    have q607 : x9_3 < (l2.length : Int) := of_decide_eq_true (by first | (with_reducible assumption) | assumption)
                    obtain ⟨ad607, e607, hx607_0⟩ := Kd.at_int HR2.out x9_3 p607 q607
                    cases e607
                    replace hx607_0 := (HB.out.cell (World.block_lt_of_cell? w _ hx607_0)).trans hx607_0
                    replace p607 := eq_true p607
                    replace q607 := eq_true q607
                    try go_wp2
                    have n0_ := Aside0.mk (Kd.R_drew HO_8.out)
                    have n1_ := Aside0.mk (blk_drew BK603.out)
                    have n2_ := Aside0.mk (below_drew1 HB.out)
                    clear HO_8
                    clear BK603
                    clear HB
                    have HO_8 := n0_
                    have BK603 := n1_
                    have HB := n2_
                    clear n0_ n1_ n2_
                    have p608 : 0 ≤ ((ji31) : Int) := of_decide_eq_true (by first | (with_reducible assumption) | assumption)
                    have q608 : (ji31) < (l2.length : Int) := of_decide_eq_true (by first | (with_reducible assumption) | assumption)
                    obtain ⟨ad608, e608, hx608_0⟩ := Kd.at_int HR2.out (ji31) p608 q608
                    have hw608_0 := hx608_0
                    obtain rfl : ad607 = ad608 := (by injection e608)
                    replace hx608_0 := (HB.out.cell (World.block_lt_of_cell? w _ hx608_0)).trans hx608_0
                    replace p608 := eq_true p608
                    replace q608 := eq_true q608
                    have p609 : 0 ≤ ((rd l2 x9_3) : Int) := of_decide_eq_true (by first | (with_reducible assumption) | assumption)
                    have q609 : (rd l2 x9_3) < (l0.length : Int) := of_decide_eq_true (by first | (with_reducible assumption) | assumption)
                    obtain ⟨ad609, e609, hx609_0, hx609_1⟩ := at_T28 HR0.out (rd l2 x9_3) p609 q609
                    have hw609_1 := hx609_1
                    have hw609_0 := hx609_0
                    cases e609
                    replace hx609_0 := (HB.out.cell (World.block_lt_of_cell? w _ hx609_0)).trans hx609_0
                    replace hx609_1 := (HB.out.cell (World.block_lt_of_cell? w _ hx609_1)).trans hx609_1
                    replace p609 := eq_true p609
                    replace q609 := eq_true q609
                    refine stz (fun w' => w'.cell? ⟨gb603, 0, none⟩ = some (.int .i64 a1_0) ∧ w'.cell? ⟨gb603, 1, none⟩ = some (.int .i64 a1_1) ∧ w'.cell? ⟨gb603, 2, none⟩ = some (.int .i64 a1_2) ∧ w'.cell? ⟨gb603, 3, none⟩ = some (.int .i64 a1_3) ∧ w'.cell? (ad607.add ((ji31)).toNat) = some (.int .i64 (rd l2 (ji31))) ∧ w'.cell? (ad609.add (((rd l2 x9_3)).toNat * 2)) = some (.int .i64 ((rd_T28 l0 (rd l2 x9_3)).f0)) ∧ w'.cell? ⟨(ad609.add (((rd l2 x9_3)).toNat * 2)).block, (ad609.add (((rd l2 x9_3)).toNat * 2)).off + 1, none⟩ = some (.int .i64 ((rd_T28 l0 (rd l2 x9_3)).f1))) [] (bn 32 0) ⟨(blk_cell BK603.out 0).trans rfl, (blk_cell BK603.out 1).trans rfl, (blk_cell BK603.out 2).trans rfl, (blk_cell BK603.out 3).trans rfl, ((HB.out.cell (World.block_lt_of_cell? w _ hw608_0)).trans hw608_0), ((HB.out.cell (World.block_lt_of_cell? w _ hw609_0)).trans hw609_0), ((HB.out.cell (World.block_lt_of_cell? w _ hw609_1)).trans hw609_1)⟩ (fun hHeld => ?_); refine with_tabW tickingref01_Right.tab13 tickingref01_Right.bits13 (fun HT_ HW_ => ?_)
                    generalize wr.drew = w44 at HO_8 BK603 HB hx608_0 hx609_0 hx609_1 hHeld ⊢
                    refine pT HT_.out 0 (some 49) (bn 32 1) ?_
                    refine pT HT_.out 1 (some 50) (bn 32 3) ?_
                    refine pT HT_.out 2 (some 51) (bn 32 7) ?_
                    refine pT HT_.out 3 (some 52) (bn 32 15) ?_
                    refine pT HT_.out 4 (some 53) (bn 32 31) ?_
                    refine pT HT_.out 5 (some 54) (bn 32 63) ?_
                    refine pT HT_.out 6 (some 55) (bn 32 127) ?_
                    refine pT HT_.out 7 (some 56) (bn 32 255) ?_
                    refine pT HT_.out 8 (some 57) (bn 32 511) ?_
                    refine pT HT_.out 9 (some 58) (bn 32 1023) ?_
                    refine pT HT_.out 10 (some 59) (bn 32 2047) ?_
                    refine pT HT_.out 11 (some 60) (bn 32 4095) ?_
                    refine pT HT_.out 12 (some 61) (bn 32 8191) ?_
                    refine pT HT_.out 13 (some 62) (bn 32 16383) ?_
                    refine pT HT_.out 14 (some 63) (bn 32 32767) ?_
                    refine pT HT_.out 15 (some 64) (bn 32 65535) ?_
                    refine pT HT_.out 17 (some 66) (bn 32 196607) ?_
                    refine tT HT_.out HW_.out 16 (some 65) (bn 32 262143) hHeld ?_
                    refine pT HT_.out 18 (some 67) (bn 32 524287) ?_
                    refine pT HT_.out 19 (some 68) (bn 32 1048575) ?_
                    refine pT HT_.out 20 (some 69) (bn 32 2097151) ?_
                    refine pT HT_.out 21 (some 70) (bn 32 4194303) ?_
                    refine pT HT_.out 23 (some 72) (bn 32 12582911) ?_
                    refine pT HT_.out 24 (some 73) (bn 32 29360127) ?_
                    refine pT HT_.out 25 (some 74) (bn 32 62914559) ?_
                    refine pT HT_.out 28 (some 77) (bn 32 331350015) ?_
                    refine tT HT_.out HW_.out 22 (some 71) (bn 32 335544319) hHeld ?_
                    refine tT HT_.out HW_.out 26 (some 75) (bn 32 402653183) hHeld ?_
                    refine tT HT_.out HW_.out 29 (some 78) (bn 32 939524095) hHeld ?_
                    refine oT HT_.out 27 (some 76) (bn 32 1073741823) (fun K hK => ?_)
                    refine gz Try.func33 #[.agg #[.int .i64 a1_0, .int .i64 a1_1, .int .i64 a1_2, .int .i64 a1_3], .agg #[.int .i64 ((rd_T28 l0 (rd l2 x9_3)).f0), .int .i64 ((rd_T28 l0 (rd l2 x9_3)).f1)]] ?_
                    with_reducible refine (tickingref01_Far.calls a1_0 a1_1 a1_2 a1_3 ((rd_T28 l0 (rd l2 x9_3)).f0) ((rd_T28 l0 (rd l2 x9_3)).f1) t610 _ A38.out).mono ?_
                    rintro e w45 ⟨rfl, hb⟩
                    refine ⟨_, rfl, ?_⟩
                    have n0_ := Aside0.mk (Kd.R_below (by (with_reducible repeat (first | apply Kd.R_alloc | apply Kd.R_drewN | apply Kd.R_drew)); exact HO_8.out) hb)
                    have n1_ := Aside0.mk (blk_below (g := gb603) BKz hb)
                    have n2_ := Aside0.mk (below_step HBz hb)
                    clear HO_8
                    clear BK603
                    clear HB
                    have HO_8 := n0_
                    have BK603 := n1_
                    have HB := n2_
                    clear n0_ n1_ n2_
                    (try clear hb)
                    (try clear hb2)
                    (try clear hk)
                    (try clear hi)
                    refine hK.out _ _ ⟨(blk_cell BK603.out 0).trans rfl, (blk_cell BK603.out 1).trans rfl, (blk_cell BK603.out 2).trans rfl, (blk_cell BK603.out 3).trans rfl, ((HB.out.cell (World.block_lt_of_cell? w _ hw608_0)).trans hw608_0), ((HB.out.cell (World.block_lt_of_cell? w _ hw609_0)).trans hw609_0), ((HB.out.cell (World.block_lt_of_cell? w _ hw609_1)).trans hw609_1)⟩ (fun hHeld => ?_)
                    clear hK K
                    refine nz (some 76) ?_
                    refine pT HT_.out 30 (some 79) (bn 32 2147483647) ?_
                    refine pT HT_.out 31 (some 80) (bn 32 4294967295) ?_
                    refine done_ (done_of HT_.out (by kernel_rfl)) ?_
                    try go_wp2
                    go_ret
                    exact ⟨by first | rfl | (simp [errW_none, errW_some] <;> rfl) | (simp only [← hji31]; first | rfl | (simp [errW_none, errW_some] <;> rfl)) | (simp [*, errW_none, errW_some] <;> rfl), HBz⟩
                  ·rw [if_neg c37] at H
                   exact absurd H (by simp)
                 ·rw [if_neg c36] at H
                  exact absurd H (by simp)
               ·rw [if_neg c33] at H
                exact absurd H (by simp)
              ·rw [if_neg c32] at H
               exact absurd H (by simp)
             ·rw [if_neg c30] at H
              have c30b0 : decide (0 < x9_3) = false := decide_eq_false c30
              clear c30
              by_cases c46 : 0 ≤ (rd l2 x9_3)
              ·rw [if_pos c46] at H
               have c46b0 : decide (0 ≤ (rd l2 x9_3)) = true := decide_eq_true c46
               clear c46
               by_cases c47 : (rd l2 x9_3) < (l0.length : Int)
               ·rw [if_pos c47] at H
                have c47b0 : decide ((rd l2 x9_3) < (l0.length : Int)) = true := decide_eq_true c47
                clear c47
                replace H := Option.bind_eq_some_iff.mp H
                obtain ⟨t616, A480, H⟩ := H
                replace H : (if t616 = a1_3 then (if x8_3.length < 8796093022208 then (tickingref01_Right.l1 k3 l0 l2 (x8_3 ++ [(⟨(rd_T28 l0 (rd l2 x9_3)).f0, (rd_T28 l0 (rd l2 x9_3)).f1⟩ : S28)]) (wrap64 (x9_3 + 1)) a1_0 a1_1 a1_2 a1_3) else (none)) else (some false)) = some r := H
                have A48 := Aside0.mk A480
                clear A480
                by_cases c49 : t616 = a1_3
                ·rw [if_pos c49] at H
                 have c49b0 : (t616 == a1_3) = true := beq_iff_eq.mpr c49
                 have c49b1 : (t616 != a1_3) = false := bne_eq_false_iff_eq.mpr c49
                 clear c49
                 by_cases c50 : x8_3.length < 8796093022208
                 ·rw [if_pos c50] at H
                  have LMc50 := Aside0.mk c50
                  clear c50
                  obtain ⟨y618, hy618⟩ : ∃ y_ : List (S28), y_ = (x8_3 ++ [(⟨(rd_T28 l0 (rd l2 x9_3)).f0, (rd_T28 l0 (rd l2 x9_3)).f1⟩ : S28)]) := ⟨_, rfl⟩
                  replace H : (tickingref01_Right.l1 k3 l0 l2 y618 (wrap64 (x9_3 + 1)) a1_0 a1_1 a1_2 a1_3) = some r := by first | (rw [hy618]; with_reducible exact H) | (have H2_ := (Option.bind_some _ _).symm.trans H; rw [hy618]; with_reducible exact H2_) | (have H2_ := (Option.bind_some _ _).symm.trans H; with_reducible exact H2_) | with_reducible exact H | (rw [hy618]; exact H) | exact H
                  have Ny618 := Aside0.mk hy618
                  clear hy618
                  have H' := Aside0.mk H
                  clear H
                  have p607 : 0 ≤ (x9_3 : Int) := of_decide_eq_true (by first | (with_reducible assumption) | assumption)
                  have q607 : x9_3 < (l2.length : Int) := of_decide_eq_true (by first | (with_reducible assumption) | assumption)
                  obtain ⟨ad607, e607, hx607_0⟩ := Kd.at_int HR2.out x9_3 p607 q607
                  cases e607
                  replace hx607_0 := (HB.out.cell (World.block_lt_of_cell? w _ hx607_0)).trans hx607_0
                  replace p607 := eq_true p607
                  replace q607 := eq_true q607
                  try go_wp2
                  have n0_ := Aside0.mk (Kd.R_drew HO_8.out)
                  have n1_ := Aside0.mk (blk_drew BK603.out)
                  have n2_ := Aside0.mk (below_drew1 HB.out)
                  clear HO_8
                  clear BK603
                  clear HB
                  have HO_8 := n0_
                  have BK603 := n1_
                  have HB := n2_
                  clear n0_ n1_ n2_
                  have p615 : 0 ≤ ((rd l2 x9_3) : Int) := of_decide_eq_true (by first | (with_reducible assumption) | assumption)
                  have q615 : (rd l2 x9_3) < (l0.length : Int) := of_decide_eq_true (by first | (with_reducible assumption) | assumption)
                  obtain ⟨ad615, e615, hx615_0, hx615_1⟩ := at_T28 HR0.out (rd l2 x9_3) p615 q615
                  have hw615_1 := hx615_1
                  have hw615_0 := hx615_0
                  cases e615
                  replace hx615_0 := (HB.out.cell (World.block_lt_of_cell? w _ hx615_0)).trans hx615_0
                  replace hx615_1 := (HB.out.cell (World.block_lt_of_cell? w _ hx615_1)).trans hx615_1
                  replace p615 := eq_true p615
                  replace q615 := eq_true q615
                  refine stz (fun w' => w'.cell? ⟨gb603, 0, none⟩ = some (.int .i64 a1_0) ∧ w'.cell? ⟨gb603, 1, none⟩ = some (.int .i64 a1_1) ∧ w'.cell? ⟨gb603, 2, none⟩ = some (.int .i64 a1_2) ∧ w'.cell? ⟨gb603, 3, none⟩ = some (.int .i64 a1_3) ∧ w'.cell? (ad615.add (((rd l2 x9_3)).toNat * 2)) = some (.int .i64 ((rd_T28 l0 (rd l2 x9_3)).f0)) ∧ w'.cell? ⟨(ad615.add (((rd l2 x9_3)).toNat * 2)).block, (ad615.add (((rd l2 x9_3)).toNat * 2)).off + 1, none⟩ = some (.int .i64 ((rd_T28 l0 (rd l2 x9_3)).f1))) [] (bn 32 0) ⟨(blk_cell BK603.out 0).trans rfl, (blk_cell BK603.out 1).trans rfl, (blk_cell BK603.out 2).trans rfl, (blk_cell BK603.out 3).trans rfl, ((HB.out.cell (World.block_lt_of_cell? w _ hw615_0)).trans hw615_0), ((HB.out.cell (World.block_lt_of_cell? w _ hw615_1)).trans hw615_1)⟩ (fun hHeld => ?_); refine with_tabW tickingref01_Right.tab13 tickingref01_Right.bits13 (fun HT_ HW_ => ?_)
                  generalize wr.drew = w51 at HO_8 BK603 HB hx615_0 hx615_1 hHeld ⊢
                  refine pT HT_.out 0 (some 49) (bn 32 1) ?_
                  refine pT HT_.out 1 (some 50) (bn 32 3) ?_
                  refine pT HT_.out 2 (some 51) (bn 32 7) ?_
                  refine pT HT_.out 3 (some 52) (bn 32 15) ?_
                  refine pT HT_.out 4 (some 53) (bn 32 31) ?_
                  refine pT HT_.out 5 (some 54) (bn 32 63) ?_
                  refine pT HT_.out 6 (some 55) (bn 32 127) ?_
                  refine pT HT_.out 7 (some 56) (bn 32 255) ?_
                  refine pT HT_.out 8 (some 57) (bn 32 511) ?_
                  refine pT HT_.out 9 (some 58) (bn 32 1023) ?_
                  refine pT HT_.out 10 (some 59) (bn 32 2047) ?_
                  refine pT HT_.out 11 (some 60) (bn 32 4095) ?_
                  refine pT0 HT_.out 12 (some 61) (bn 32 8191) ?_
                  refine pT0 HT_.out 13 (some 62) (bn 32 16383) ?_
                  refine pT0 HT_.out 14 (some 63) (bn 32 32767) ?_
                  refine pT0 HT_.out 15 (some 64) (bn 32 65535) ?_
                  refine pT0 HT_.out 16 (some 65) (bn 32 131071) ?_
                  refine pT0 HT_.out 17 (some 66) (bn 32 262143) ?_
                  refine pT0 HT_.out 18 (some 67) (bn 32 524287) ?_
                  refine pT HT_.out 19 (some 68) (bn 32 1048575) ?_
                  refine pT HT_.out 20 (some 69) (bn 32 2097151) ?_
                  refine pT HT_.out 21 (some 70) (bn 32 4194303) ?_
                  refine pT HT_.out 23 (some 72) (bn 32 12582911) ?_
                  refine pT HT_.out 24 (some 73) (bn 32 29360127) ?_
                  refine pT HT_.out 25 (some 74) (bn 32 62914559) ?_
                  refine pT HT_.out 28 (some 77) (bn 32 331350015) ?_
                  refine tT HT_.out HW_.out 22 (some 71) (bn 32 335544319) hHeld ?_
                  refine tT HT_.out HW_.out 26 (some 75) (bn 32 402653183) hHeld ?_
                  refine tT HT_.out HW_.out 29 (some 78) (bn 32 939524095) hHeld ?_
                  refine oT HT_.out 27 (some 76) (bn 32 1073741823) (fun K hK => ?_)
                  refine gz Try.func33 #[.agg #[.int .i64 a1_0, .int .i64 a1_1, .int .i64 a1_2, .int .i64 a1_3], .agg #[.int .i64 ((rd_T28 l0 (rd l2 x9_3)).f0), .int .i64 ((rd_T28 l0 (rd l2 x9_3)).f1)]] ?_
                  with_reducible refine (tickingref01_Far.calls a1_0 a1_1 a1_2 a1_3 ((rd_T28 l0 (rd l2 x9_3)).f0) ((rd_T28 l0 (rd l2 x9_3)).f1) t616 _ A48.out).mono ?_
                  rintro e w52 ⟨rfl, hb⟩
                  refine ⟨_, rfl, ?_⟩
                  have n0_ := Aside0.mk (Kd.R_below (by (with_reducible repeat (first | apply Kd.R_alloc | apply Kd.R_drewN | apply Kd.R_drew)); exact HO_8.out) hb)
                  have n1_ := Aside0.mk (blk_below (g := gb603) BKz hb)
                  have n2_ := Aside0.mk (below_step HBz hb)
                  clear HO_8
                  clear BK603
                  clear HB
                  have HO_8 := n0_
                  have BK603 := n1_
                  have HB := n2_
                  clear n0_ n1_ n2_
                  (try clear hb)
                  (try clear hb2)
                  (try clear hk)
                  (try clear hi)
                  refine hK.out _ _ ⟨(blk_cell BK603.out 0).trans rfl, (blk_cell BK603.out 1).trans rfl, (blk_cell BK603.out 2).trans rfl, (blk_cell BK603.out 3).trans rfl, ((HB.out.cell (World.block_lt_of_cell? w _ hw615_0)).trans hw615_0), ((HB.out.cell (World.block_lt_of_cell? w _ hw615_1)).trans hw615_1)⟩ (fun hHeld => ?_)
                  clear hK K
                  refine nz (some 76) ?_
                  refine pT HT_.out 30 (some 79) (bn 32 2147483647) ?_
                  refine pT HT_.out 31 (some 80) (bn 32 4294967295) ?_
                  refine done_ (done_of HT_.out (by kernel_rfl)) ?_
                  have p617 : 0 ≤ ((rd l2 x9_3) : Int) := of_decide_eq_true (by first | (with_reducible assumption) | assumption)
                  have q617 : (rd l2 x9_3) < (l0.length : Int) := of_decide_eq_true (by first | (with_reducible assumption) | assumption)
                  obtain ⟨ad617, e617, hx617_0, hx617_1⟩ := at_T28 HR0.out (rd l2 x9_3) p617 q617
                  obtain rfl : ad615 = ad617 := (by injection e617)
                  replace hx617_0 := (HB.out.cell (World.block_lt_of_cell? w _ hx617_0)).trans hx617_0
                  replace hx617_1 := (HB.out.cell (World.block_lt_of_cell? w _ hx617_1)).trans hx617_1
                  replace p617 := eq_true p617
                  replace q617 := eq_true q617
                  try go_wp2_with (first | ((with_reducible refine gate_builtin (b := .append) (xs := #[.tmp 81, .tmp 86]) rfl ?_); (try (refine gate_guard (by rfl) ?_; dsimp only)); at_builtin; refine Kd.R_append k28 (w0 := w) w.heap.size rfl (.tmp 81) (.tmp 86) 37 28 (.agg #[(.int .i64 0), (.int .i64 0)]) 16 rfl Try.underlying37 info28 rfl (by decide) (by omega) u8 x8_3 (⟨(rd_T28 l0 (rd l2 x9_3)).f0, (rd_T28 l0 (rd l2 x9_3)).f1⟩ : S28) [.int .i64 ((rd_T28 l0 (rd l2 x9_3)).f0), .int .i64 ((rd_T28 l0 (rd l2 x9_3)).f1)] (fun _ => True) (fun _ => False) rfl rfl ?aP (fun _ hk => hk.elim) ?aF ?aO ?aB ?aS ?aL ?_; (case aP => exact k28_mkM _ _ _ (⟨(rd_T28 l0 (rd l2 x9_3)).f0, (rd_T28 l0 (rd l2 x9_3)).f1⟩ : S28)); (case aB => exact HBz); (case aF => exact (fun _ _ => trivial)); (case aO => exact (by (with_reducible repeat (first | apply Kd.R_alloc | apply Kd.R_drewN | apply Kd.R_drew)); exact HO_8.out)); (case aS => exact (below_size HBz)); (case aL => have := LMc50.out; omega); intro v619 w53 ho hb hg hat; rw [← Ny618.out] at ho; have n0_ := Aside0.mk (blk_grown (g := gb603) BKz hg (Kd.R_ne HO_8.out BK603.out (by decide))); have n1_ := Aside0.mk (hb); have n2_ := Aside0.mk (ho); clear BK603; clear HB; clear HO_8; have BK603 := n0_; have HB := n1_; have HO620 := n2_; clear n0_ n1_ n2_; clear ho hb hg hat))
                  go_roundg k3
                  case measure => have := HJ3.out; have := HK2.out; have := HK3.out; omega
                  case rel => exact ⟨(y618), (wrap64 (x9_3 + 1)), (by first | rfl | (simp; done) | (simp [*]; done)), H', ⟨by have := HJ3.out; have := HK2.out; have := HK3.out; omega⟩, ⟨by (with_reducible repeat (first | apply Kd.R_alloc | apply Kd.R_drewN | apply Kd.R_drew)); exact HO620.out⟩, ⟨by (with_reducible repeat (first | refine blk_drewN ?_ _ | refine blk_drew ?_ | refine blk_alloc ?_ _)); exact BK603.out⟩, ⟨HBz⟩⟩
                 ·rw [if_neg c50] at H
                  exact absurd H (by simp)
                ·rw [if_neg c49] at H
                 have c49b0 : (t616 == a1_3) = false := beq_eq_false_iff_ne.mpr c49
                 have c49b1 : (t616 != a1_3) = true := bne_iff_ne.mpr c49
                 obtain rfl := Option.some.inj H
                 have p607 : 0 ≤ (x9_3 : Int) := of_decide_eq_true (by first | (with_reducible assumption) | assumption)
                 have q607 : x9_3 < (l2.length : Int) := of_decide_eq_true (by first | (with_reducible assumption) | assumption)
                 obtain ⟨ad607, e607, hx607_0⟩ := Kd.at_int HR2.out x9_3 p607 q607
                 cases e607
                 replace hx607_0 := (HB.out.cell (World.block_lt_of_cell? w _ hx607_0)).trans hx607_0
                 replace p607 := eq_true p607
                 replace q607 := eq_true q607
                 try go_wp2
                 have n0_ := Aside0.mk (Kd.R_drew HO_8.out)
                 have n1_ := Aside0.mk (blk_drew BK603.out)
                 have n2_ := Aside0.mk (below_drew1 HB.out)
                 clear HO_8
                 clear BK603
                 clear HB
                 have HO_8 := n0_
                 have BK603 := n1_
                 have HB := n2_
                 clear n0_ n1_ n2_
                 have p615 : 0 ≤ ((rd l2 x9_3) : Int) := of_decide_eq_true (by first | (with_reducible assumption) | assumption)
                 have q615 : (rd l2 x9_3) < (l0.length : Int) := of_decide_eq_true (by first | (with_reducible assumption) | assumption)
                 obtain ⟨ad615, e615, hx615_0, hx615_1⟩ := at_T28 HR0.out (rd l2 x9_3) p615 q615
                 have hw615_1 := hx615_1
                 have hw615_0 := hx615_0
                 cases e615
                 replace hx615_0 := (HB.out.cell (World.block_lt_of_cell? w _ hx615_0)).trans hx615_0
                 replace hx615_1 := (HB.out.cell (World.block_lt_of_cell? w _ hx615_1)).trans hx615_1
                 replace p615 := eq_true p615
                 replace q615 := eq_true q615
                 refine stz (fun w' => w'.cell? ⟨gb603, 0, none⟩ = some (.int .i64 a1_0) ∧ w'.cell? ⟨gb603, 1, none⟩ = some (.int .i64 a1_1) ∧ w'.cell? ⟨gb603, 2, none⟩ = some (.int .i64 a1_2) ∧ w'.cell? ⟨gb603, 3, none⟩ = some (.int .i64 a1_3) ∧ w'.cell? (ad615.add (((rd l2 x9_3)).toNat * 2)) = some (.int .i64 ((rd_T28 l0 (rd l2 x9_3)).f0)) ∧ w'.cell? ⟨(ad615.add (((rd l2 x9_3)).toNat * 2)).block, (ad615.add (((rd l2 x9_3)).toNat * 2)).off + 1, none⟩ = some (.int .i64 ((rd_T28 l0 (rd l2 x9_3)).f1))) [] (bn 32 0) ⟨(blk_cell BK603.out 0).trans rfl, (blk_cell BK603.out 1).trans rfl, (blk_cell BK603.out 2).trans rfl, (blk_cell BK603.out 3).trans rfl, ((HB.out.cell (World.block_lt_of_cell? w _ hw615_0)).trans hw615_0), ((HB.out.cell (World.block_lt_of_cell? w _ hw615_1)).trans hw615_1)⟩ (fun hHeld => ?_); refine with_tabW tickingref01_Right.tab13 tickingref01_Right.bits13 (fun HT_ HW_ => ?_)
                 generalize wr.drew = w54 at HO_8 BK603 HB hx615_0 hx615_1 hHeld ⊢
                 refine pT HT_.out 0 (some 49) (bn 32 1) ?_
                 refine pT HT_.out 1 (some 50) (bn 32 3) ?_
                 refine pT HT_.out 2 (some 51) (bn 32 7) ?_
                 refine pT HT_.out 3 (some 52) (bn 32 15) ?_
                 refine pT HT_.out 4 (some 53) (bn 32 31) ?_
                 refine pT HT_.out 5 (some 54) (bn 32 63) ?_
                 refine pT HT_.out 6 (some 55) (bn 32 127) ?_
                 refine pT HT_.out 7 (some 56) (bn 32 255) ?_
                 refine pT HT_.out 8 (some 57) (bn 32 511) ?_
                 refine pT HT_.out 9 (some 58) (bn 32 1023) ?_
                 refine pT HT_.out 10 (some 59) (bn 32 2047) ?_
                 refine pT HT_.out 11 (some 60) (bn 32 4095) ?_
                 refine pT0 HT_.out 12 (some 61) (bn 32 8191) ?_
                 refine pT0 HT_.out 13 (some 62) (bn 32 16383) ?_
                 refine pT0 HT_.out 14 (some 63) (bn 32 32767) ?_
                 refine pT0 HT_.out 15 (some 64) (bn 32 65535) ?_
                 refine pT0 HT_.out 16 (some 65) (bn 32 131071) ?_
                 refine pT0 HT_.out 17 (some 66) (bn 32 262143) ?_
                 refine pT0 HT_.out 18 (some 67) (bn 32 524287) ?_
                 refine pT HT_.out 19 (some 68) (bn 32 1048575) ?_
                 refine pT HT_.out 20 (some 69) (bn 32 2097151) ?_
                 refine pT HT_.out 21 (some 70) (bn 32 4194303) ?_
                 refine pT HT_.out 23 (some 72) (bn 32 12582911) ?_
                 refine pT HT_.out 24 (some 73) (bn 32 29360127) ?_
                 refine pT HT_.out 25 (some 74) (bn 32 62914559) ?_
                 refine pT HT_.out 28 (some 77) (bn 32 331350015) ?_
                 refine tT HT_.out HW_.out 22 (some 71) (bn 32 335544319) hHeld ?_
                 refine tT HT_.out HW_.out 26 (some 75) (bn 32 402653183) hHeld ?_
                 refine tT HT_.out HW_.out 29 (some 78) (bn 32 939524095) hHeld ?_
                 refine oT HT_.out 27 (some 76) (bn 32 1073741823) (fun K hK => ?_)
                 refine gz Try.func33 #[.agg #[.int .i64 a1_0, .int .i64 a1_1, .int .i64 a1_2, .int .i64 a1_3], .agg #[.int .i64 ((rd_T28 l0 (rd l2 x9_3)).f0), .int .i64 ((rd_T28 l0 (rd l2 x9_3)).f1)]] ?_
                 with_reducible refine (tickingref01_Far.calls a1_0 a1_1 a1_2 a1_3 ((rd_T28 l0 (rd l2 x9_3)).f0) ((rd_T28 l0 (rd l2 x9_3)).f1) t616 _ A48.out).mono ?_
                 rintro e w55 ⟨rfl, hb⟩
                 refine ⟨_, rfl, ?_⟩
                 have n0_ := Aside0.mk (Kd.R_below (by (with_reducible repeat (first | apply Kd.R_alloc | apply Kd.R_drewN | apply Kd.R_drew)); exact HO_8.out) hb)
                 have n1_ := Aside0.mk (blk_below (g := gb603) BKz hb)
                 have n2_ := Aside0.mk (below_step HBz hb)
                 clear HO_8
                 clear BK603
                 clear HB
                 have HO_8 := n0_
                 have BK603 := n1_
                 have HB := n2_
                 clear n0_ n1_ n2_
                 (try clear hb)
                 (try clear hb2)
                 (try clear hk)
                 (try clear hi)
                 refine hK.out _ _ ⟨(blk_cell BK603.out 0).trans rfl, (blk_cell BK603.out 1).trans rfl, (blk_cell BK603.out 2).trans rfl, (blk_cell BK603.out 3).trans rfl, ((HB.out.cell (World.block_lt_of_cell? w _ hw615_0)).trans hw615_0), ((HB.out.cell (World.block_lt_of_cell? w _ hw615_1)).trans hw615_1)⟩ (fun hHeld => ?_)
                 clear hK K
                 refine nz (some 76) ?_
                 refine pT HT_.out 30 (some 79) (bn 32 2147483647) ?_
                 refine pT HT_.out 31 (some 80) (bn 32 4294967295) ?_
                 refine done_ (done_of HT_.out (by kernel_rfl)) ?_
                 try go_wp2
                 go_ret
                 exact ⟨by first | rfl | (simp [errW_none, errW_some] <;> rfl) | (simp [*, errW_none, errW_some] <;> rfl), HBz⟩
               ·rw [if_neg c47] at H
                exact absurd H (by simp)
              ·rw [if_neg c46] at H
               exact absurd H (by simp)
          ·rw [if_neg c25] at H
           exact absurd H (by simp)
         ·rw [if_neg c24] at H
          have c24b0 : decide (x9_3 < (l2.length : Int)) = false := decide_eq_false c24
          clear c24
          replace H := Option.bind_eq_some_iff.mp H
          obtain ⟨t621, A560, H⟩ := H
          replace H : (some t621) = some r := H
          have A56 := Aside0.mk A560
          clear A560
          obtain rfl := Option.some.inj H
          have hcz57_0 : wr.cell? ⟨gb603, 0, none⟩ = some (.int .i64 a1_0) := (blk_cell BK603.out 0).trans rfl
          have hcz57_1 : wr.cell? ⟨gb603, 1, none⟩ = some (.int .i64 a1_1) := (blk_cell BK603.out 1).trans rfl
          have hcz57_2 : wr.cell? ⟨gb603, 2, none⟩ = some (.int .i64 a1_2) := (blk_cell BK603.out 2).trans rfl
          have hcz57_3 : wr.cell? ⟨gb603, 3, none⟩ = some (.int .i64 a1_3) := (blk_cell BK603.out 3).trans rfl
          have hfz57_0 := blk_frozen BK603.out 0
          have hfz57_1 := blk_frozen BK603.out 1
          have hfz57_2 := blk_frozen BK603.out 2
          have hfz57_3 := blk_frozen BK603.out 3
          obtain ⟨Ao58, co58, eo58⟩ := Kd.R_slice HO_8.out
          subst eo58
          go_wp2_with (first | ((with_reducible refine gate_callee (f := 63) rfl ?_); refine goesL_ (some 90) rfl rfl Try.func63 (by kernel_rfl) rfl #[.agg #[.int .i64 a1_0, .int .i64 a1_1, .int .i64 a1_2, .int .i64 a1_3], .slice Ao58 x8_3.length co58] rfl (by (try simp only [List.map_toArray, List.map_cons, List.map_nil]); first | done | rfl | (simp only [List.length_drop, List.length_take]; rfl)) ?_; (with_reducible refine (tickingref01_Hull.calls k3 a1_0 a1_1 a1_2 a1_3 _ _ x8_3 t621 _ ?side1 ?side2 A56.out).mono ?_); (case side1 => repeat (first | exact (Kd.R_reads' HO_8.out).2.2 | (with_reducible refine Kd.C_alloc ?_ _) | (with_reducible refine Kd.C_drewN ?_ _) | (with_reducible refine Kd.C_drew ?_))); (case side2 => exact (Kd.R_reads' HO_8.out).2.1); rintro e w59 ⟨rfl, hb⟩; refine ⟨_, rfl, ?_⟩; have n0_ := Aside0.mk (Kd.R_below (by (with_reducible repeat (first | apply Kd.R_alloc | apply Kd.R_drewN | apply Kd.R_drew)); exact HO_8.out) hb); have n1_ := Aside0.mk (blk_below (g := gb603) BKz hb); have n2_ := Aside0.mk (below_step HBz hb); clear HO_8; clear BK603; clear HB; have HO_8 := n0_; have BK603 := n1_; have HB := n2_; clear n0_ n1_ n2_; (try clear hb); (try clear hb2); (try clear hk); (try clear hi)))
          go_ret
          exact ⟨by first | rfl | (simp [errW_none, errW_some] <;> rfl) | (simp [*, errW_none, errW_some] <;> rfl), HBz⟩
end Go.Proofs.Ytplhfbkejngioaa.X
namespace Go.Proofs.Ytplhfbkejngioaa.X
open Go.RowKit Go.Proofs.YtplhfbkejngioaaW.PrintWords Go.Proofs.YtplhfbkejngioaaW.PrintLast Go.Proofs.Ytplhfbkejngioaa.S
attribute [local go_sem] max2_int min2_int max_two min_two
set_option linter.unusedVariables false
set_option linter.unusedSimpArgs false
attribute [local go_sem high] eqA40
def tickinglaw01_CoverCircles.f (k : Nat) (l0 : List (S28)) : Option (Bool) := (tickinglaw01_points.f l0).bind fun t622 => ((cover_Enclose.f t622).bind fun bt625 => ((tickingref01_Points.f k t622).bind fun t634 => (if t634 = true then (if bt625.2.2.2.2.2 = 0 then ((tickingref01_Right.f k t622 bt625.1 bt625.2.1 bt625.2.2.1 bt625.2.2.2.1 bt625.2.2.2.2.1).bind fun t635 => (if t635 = true then ((cover_Check.f k t622 bt625.1 bt625.2.1 bt625.2.2.1 bt625.2.2.2.1 bt625.2.2.2.2.1).bind fun t636 => (if t636 = 0 then ((tickinglaw01_awake.f k).bind fun t637 => (some t637)) else (some false))) else (some false))) else (some false)) else (if (bt625.1 == 0 && (bt625.2.1 == 0 && (bt625.2.2.1 == 0 && (bt625.2.2.2.1 == 0)))) = true then (if (bt625.2.2.2.2.1.length : Int) = 0 then (if bt625.2.2.2.2.2 = 2 then ((cover_Check.f k t622 bt625.1 bt625.2.1 bt625.2.2.1 bt625.2.2.2.1 bt625.2.2.2.2.1).bind fun t638 => (if t638 = 2 then ((tickinglaw01_awake.f k).bind fun t639 => (some t639)) else (some false))) else (some false)) else (some false)) else (some false)))))
theorem tickinglaw01_CoverCircles.mono : ∀ a0 k, LeO (tickinglaw01_CoverCircles.f k a0) (tickinglaw01_CoverCircles.f (k + 1) a0) := by
 intro a0 k
 unfold tickinglaw01_CoverCircles.f
 repeat' first
   | (with_reducible exact cover_Check.mono _ _ _ _ _ _ _)
   | (with_reducible exact tickinglaw01_awake.mono _)
   | (with_reducible exact tickingref01_Points.mono _ _)
   | (with_reducible exact tickingref01_Right.mono _ _ _ _ _ _ _)
   | (with_reducible exact LeO.refl _)
   | (with_reducible exact LeO.none _)
   | (with_reducible refine LeO.ite ?_ ?_)
   | (with_reducible refine LeO.bind ?_ (fun _ => ?_))
   | exact cover_Check.mono _ _ _ _ _ _ _
   | exact tickinglaw01_awake.mono _
   | exact tickingref01_Points.mono _ _
   | exact tickingref01_Right.mono _ _ _ _ _ _ _
   | exact LeO.none _
   | refine LeO.ite ?_ ?_
   | refine LeO.bind ?_ (fun _ => ?_)
set_option maxHeartbeats 8000000 in
set_option maxRecDepth 100000 in
theorem tickinglaw01_CoverCircles.calls (k : Nat) (A0 : Option Addr) (c0 : Nat) (l0 : List (S28)) (r : Bool) (w : World) (hr0 : Kd.C k28 w A0 l0.length l0) (hc0 : l0.length ≤ c0) (hT : r = true) (h : tickinglaw01_CoverCircles.f k l0 = some r) :
  Calls Try.prog 9 #[.slice A0 l0.length c0] w fun e w' => e = .returned (.bool r) ∧ Below w.heap.size w w' := by
 have HRT := Aside0.mk hT
 clear hT
 have hu40 := Try.underlying40
 have HR0 := Aside0.mk hr0
 have HC0 := Aside0.mk hc0
 clear hr0 hc0
 have HB := Aside0.mk (Below.refl w.heap.size w)
 have H : ((tickinglaw01_points.f l0).bind fun t622 => ((cover_Enclose.f t622).bind fun bt625 => ((tickingref01_Points.f k t622).bind fun t634 => (if t634 = true then (if bt625.2.2.2.2.2 = 0 then ((tickingref01_Right.f k t622 bt625.1 bt625.2.1 bt625.2.2.1 bt625.2.2.2.1 bt625.2.2.2.2.1).bind fun t635 => (if t635 = true then ((cover_Check.f k t622 bt625.1 bt625.2.1 bt625.2.2.1 bt625.2.2.2.1 bt625.2.2.2.2.1).bind fun t636 => (if t636 = 0 then ((tickinglaw01_awake.f k).bind fun t637 => (some t637)) else (some false))) else (some false))) else (some false)) else (if (bt625.1 == 0 && (bt625.2.1 == 0 && (bt625.2.2.1 == 0 && (bt625.2.2.2.1 == 0)))) = true then (if (bt625.2.2.2.2.1.length : Int) = 0 then (if bt625.2.2.2.2.2 = 2 then ((cover_Check.f k t622 bt625.1 bt625.2.1 bt625.2.2.1 bt625.2.2.2.1 bt625.2.2.2.2.1).bind fun t638 => (if t638 = 2 then ((tickinglaw01_awake.f k).bind fun t639 => (some t639)) else (some false))) else (some false)) else (some false)) else (some false)))))) = some r := h
 clear h
 replace H := Option.bind_eq_some_iff.mp H
 obtain ⟨t622, A20, H⟩ := H
 replace H : ((cover_Enclose.f t622).bind fun bt625 => ((tickingref01_Points.f k t622).bind fun t634 => (if t634 = true then (if bt625.2.2.2.2.2 = 0 then ((tickingref01_Right.f k t622 bt625.1 bt625.2.1 bt625.2.2.1 bt625.2.2.2.1 bt625.2.2.2.2.1).bind fun t635 => (if t635 = true then ((cover_Check.f k t622 bt625.1 bt625.2.1 bt625.2.2.1 bt625.2.2.2.1 bt625.2.2.2.2.1).bind fun t636 => (if t636 = 0 then ((tickinglaw01_awake.f k).bind fun t637 => (some t637)) else (some false))) else (some false))) else (some false)) else (if (bt625.1 == 0 && (bt625.2.1 == 0 && (bt625.2.2.1 == 0 && (bt625.2.2.2.1 == 0)))) = true then (if (bt625.2.2.2.2.1.length : Int) = 0 then (if bt625.2.2.2.2.2 = 2 then ((cover_Check.f k t622 bt625.1 bt625.2.1 bt625.2.2.1 bt625.2.2.2.1 bt625.2.2.2.2.1).bind fun t638 => (if t638 = 2 then ((tickinglaw01_awake.f k).bind fun t639 => (some t639)) else (some false))) else (some false)) else (some false)) else (some false))))) = some r := H
 have A2 := Aside0.mk A20
 clear A20
 replace H := Option.bind_eq_some_iff.mp H
 obtain ⟨⟨t625, t626, t627, t628, t629, t632⟩, A30, H⟩ := H
 replace H : ((tickingref01_Points.f k t622).bind fun t634 => (if t634 = true then (if t632 = 0 then ((tickingref01_Right.f k t622 t625 t626 t627 t628 t629).bind fun t635 => (if t635 = true then ((cover_Check.f k t622 t625 t626 t627 t628 t629).bind fun t636 => (if t636 = 0 then ((tickinglaw01_awake.f k).bind fun t637 => (some t637)) else (some false))) else (some false))) else (some false)) else (if (t625 == 0 && (t626 == 0 && (t627 == 0 && (t628 == 0)))) = true then (if (t629.length : Int) = 0 then (if t632 = 2 then ((cover_Check.f k t622 t625 t626 t627 t628 t629).bind fun t638 => (if t638 = 2 then ((tickinglaw01_awake.f k).bind fun t639 => (some t639)) else (some false))) else (some false)) else (some false)) else (some false)))) = some r := H
 have A3 := Aside0.mk A30
 clear A30
 replace H := Option.bind_eq_some_iff.mp H
 obtain ⟨t634, A40, H⟩ := H
 replace H : (if t634 = true then (if t632 = 0 then ((tickingref01_Right.f k t622 t625 t626 t627 t628 t629).bind fun t635 => (if t635 = true then ((cover_Check.f k t622 t625 t626 t627 t628 t629).bind fun t636 => (if t636 = 0 then ((tickinglaw01_awake.f k).bind fun t637 => (some t637)) else (some false))) else (some false))) else (some false)) else (if (t625 == 0 && (t626 == 0 && (t627 == 0 && (t628 == 0)))) = true then (if (t629.length : Int) = 0 then (if t632 = 2 then ((cover_Check.f k t622 t625 t626 t627 t628 t629).bind fun t638 => (if t638 = 2 then ((tickinglaw01_awake.f k).bind fun t639 => (some t639)) else (some false))) else (some false)) else (some false)) else (some false))) = some r := H
 have A4 := Aside0.mk A40
 clear A40
 by_cases c5 : t634 = true
 ·subst c5
  have H1 : (if t632 = 0 then ((tickingref01_Right.f k t622 t625 t626 t627 t628 t629).bind fun t635 => (if t635 = true then ((cover_Check.f k t622 t625 t626 t627 t628 t629).bind fun t636 => (if t636 = 0 then ((tickinglaw01_awake.f k).bind fun t637 => (some t637)) else (some false))) else (some false))) else (some false)) = some r := by rw [if_pos rfl] at H; exact H
  clear H
  have H := H1
  clear H1
  by_cases c6 : t632 = 0
  ·rw [if_pos c6] at H
   have c6b0 : (t632 == 0) = true := beq_iff_eq.mpr c6
   have c6b1 : (t632 != 0) = false := bne_eq_false_iff_eq.mpr c6
   clear c6
   replace H := Option.bind_eq_some_iff.mp H
   obtain ⟨t635, A70, H⟩ := H
   replace H : (if t635 = true then ((cover_Check.f k t622 t625 t626 t627 t628 t629).bind fun t636 => (if t636 = 0 then ((tickinglaw01_awake.f k).bind fun t637 => (some t637)) else (some false))) else (some false)) = some r := H
   have A7 := Aside0.mk A70
   clear A70
   by_cases c8 : t635 = true
   ·subst c8
    have H1 : ((cover_Check.f k t622 t625 t626 t627 t628 t629).bind fun t636 => (if t636 = 0 then ((tickinglaw01_awake.f k).bind fun t637 => (some t637)) else (some false))) = some r := by rw [if_pos rfl] at H; exact H
    clear H
    have H := H1
    clear H1
    replace H := Option.bind_eq_some_iff.mp H
    obtain ⟨t636, A90, H⟩ := H
    replace H : (if t636 = 0 then ((tickinglaw01_awake.f k).bind fun t637 => (some t637)) else (some false)) = some r := H
    have A9 := Aside0.mk A90
    clear A90
    by_cases c10 : t636 = 0
    ·rw [if_pos c10] at H
     have c10b0 : (t636 == 0) = true := beq_iff_eq.mpr c10
     have c10b1 : (t636 != 0) = false := bne_eq_false_iff_eq.mpr c10
     clear c10
     replace H := Option.bind_eq_some_iff.mp H
     obtain ⟨t637, A110, H⟩ := H
     replace H : (some t637) = some r := H
     have A11 := Aside0.mk A110
     clear A110
     obtain rfl := Option.some.inj H
     go_enter Try.func9, Try.ntmps9
     go_wp2_with (first | ((with_reducible refine gate_callee (f := 34) rfl ?_); refine goesL_ (some 8) rfl rfl Try.func34 (by kernel_rfl) rfl #[.slice A0 l0.length c0] rfl (by (try simp only [List.map_toArray, List.map_cons, List.map_nil]); first | done | rfl | (simp only [List.length_drop, List.length_take]; rfl)) ?_; (with_reducible refine (tickinglaw01_points.calls _ _ l0 t622 _ ?side1 ?side2 A2.out).mono ?_); (case side1 => repeat (first | exact HR0.out | (with_reducible refine Kd.C_alloc ?_ _) | (with_reducible refine Kd.C_drewN ?_ _) | (with_reducible refine Kd.C_drew ?_))); (case side2 => exact HC0.out); rintro e w12 ⟨v623, rfl, ho0, hb⟩; refine ⟨_, rfl, ?_⟩; have n0_ := Aside0.mk (Kd.R_lower ho0 (below_size HBz)); have n1_ := Aside0.mk (below_step HBz hb); clear HB; have HO624 := n0_; have HB := n1_; clear n0_ n1_; (try clear hb); (try clear hb2); (try clear hk); (try clear hi); (try clear ho0); obtain ⟨Ao13, co13, eo13⟩ := Kd.R_slice HO624.out; subst eo13) | ((with_reducible refine gate_callee (f := 26) rfl ?_); refine goesL_ (some 11) rfl rfl Try.func26 (by kernel_rfl) rfl #[.slice Ao13 t622.length co13] rfl (by (try simp only [List.map_toArray, List.map_cons, List.map_nil]); first | done | rfl | (simp only [List.length_drop, List.length_take]; rfl)) ?_; (with_reducible refine (cover_Enclose.calls _ _ t622 t625 t626 t627 t628 t629 t632 _ ?side1 ?side2 A3.out).mono ?_); (case side1 => repeat (first | exact (Kd.R_reads' HO624.out).2.2 | (with_reducible refine Kd.C_alloc ?_ _) | (with_reducible refine Kd.C_drewN ?_ _) | (with_reducible refine Kd.C_drew ?_))); (case side2 => exact (Kd.R_reads' HO624.out).2.1); rintro e w14 ⟨v630, rfl, ho0, hb⟩; refine ⟨_, rfl, ?_⟩; have n0_ := Aside0.mk (Kd.R_below (by (with_reducible repeat (first | apply Kd.R_alloc | apply Kd.R_drewN | apply Kd.R_drew)); exact HO624.out) hb); have n1_ := Aside0.mk (Kd.R_lower ho0 (below_size HBz)); have n2_ := Aside0.mk (below_step HBz hb); clear HO624; clear HB; have HO624 := n0_; have HO631 := n1_; have HB := n2_; clear n0_ n1_ n2_; (try clear hb); (try clear hb2); (try clear hk); (try clear hi); (try clear ho0)) | ((with_reducible refine gate_dst (N := 4) rfl ?_); (try (refine gate_guard (by rfl) ?_; dsimp only)); refine bxE 4 #[.int .i64 0, .int .i64 0, .int .i64 0, .int .i64 0] 40 ?_; intro gb633 hg w15 hbox hb; have n0_ := Aside0.mk (Kd.R_below (by (with_reducible repeat (first | apply Kd.R_alloc | apply Kd.R_drewN | apply Kd.R_drew)); exact HO624.out) hb); have n1_ := Aside0.mk (Kd.R_below (by (with_reducible repeat (first | apply Kd.R_alloc | apply Kd.R_drewN | apply Kd.R_drew)); exact HO631.out) hb); have n2_ := Aside0.mk (below_step HBz hb); have n3_ := Aside0.mk (hbox); have n4_ := Aside0.mk ((by rw [hg]; exact (below_size HBz) : w.heap.size ≤ gb633)); have n5_ := Aside0.mk ((by rw [hg]; exact (below_size HBz) : w.heap.size ≤ gb633)); clear HO624; clear HO631; clear HB; have HO624 := n0_; have HO631 := n1_; have HB := n2_; have BK633 := n3_; have GW633 := n4_; have GE633 := n5_; clear n0_ n1_ n2_ n3_ n4_ n5_; clear hb hbox hg; have hcz16_0 : w15.cell? ⟨gb633, 0, none⟩ = some (.int .i64 0) := (blk_cell BK633.out 0).trans rfl; have hcz16_1 : w15.cell? ⟨gb633, 1, none⟩ = some (.int .i64 0) := (blk_cell BK633.out 1).trans rfl; have hcz16_2 : w15.cell? ⟨gb633, 2, none⟩ = some (.int .i64 0) := (blk_cell BK633.out 2).trans rfl; have hcz16_3 : w15.cell? ⟨gb633, 3, none⟩ = some (.int .i64 0) := (blk_cell BK633.out 3).trans rfl; have hfz16_0 := blk_frozen BK633.out 0; have hfz16_1 := blk_frozen BK633.out 1; have hfz16_2 := blk_frozen BK633.out 2; have hfz16_3 := blk_frozen BK633.out 3) | ((with_reducible refine gate_callee (f := 37) rfl ?_); refine goesL_ (some 16) rfl rfl Try.func37 (by kernel_rfl) rfl #[.slice Ao13 t622.length co13] rfl (by (try simp only [List.map_toArray, List.map_cons, List.map_nil]); first | done | rfl | (simp only [List.length_drop, List.length_take]; rfl)) ?_; (with_reducible refine (tickingref01_Points.calls k _ _ t622 true _ ?side1 ?side2 A4.out).mono ?_); (case side1 => refine (Kd.R_reads' (e := 28) (base := w.heap.size) (ok := fun k_ => True) (n := t622.length) (c := co13) ?_).2.2; exact (by (with_reducible repeat (first | apply Kd.R_alloc | apply Kd.R_drewN | apply Kd.R_drew)); exact (Kd.R_mono (Kd.R_far (p := ⟨gb633, 3, none⟩) (Kd.R_far (p := ⟨gb633, 2, none⟩) (Kd.R_far (p := ⟨gb633, 1, none⟩) (Kd.R_far (p := ⟨gb633, 0, none⟩) (Kd.R_types HO624.out BK633.out (by decide)) (fun _ hk => hk.2) (.int .i64 t625)) (fun _ hk => hk.2) (.int .i64 t626)) (fun _ hk => hk.2) (.int .i64 t627)) (fun _ hk => hk.2) (.int .i64 t628)) (fun _ h_ => h_.1)))); (case side2 => exact (Kd.R_reads' HO624.out).2.1); rintro e w17 ⟨rfl, hb⟩; refine ⟨_, rfl, ?_⟩; have n0_ := Aside0.mk (Kd.R_below (by (with_reducible repeat (first | apply Kd.R_alloc | apply Kd.R_drewN | apply Kd.R_drew)); exact (Kd.R_mono (Kd.R_far (p := ⟨gb633, 3, none⟩) (Kd.R_far (p := ⟨gb633, 2, none⟩) (Kd.R_far (p := ⟨gb633, 1, none⟩) (Kd.R_far (p := ⟨gb633, 0, none⟩) (Kd.R_types HO624.out BK633.out (by decide)) (fun _ hk => hk.2) (.int .i64 t625)) (fun _ hk => hk.2) (.int .i64 t626)) (fun _ hk => hk.2) (.int .i64 t627)) (fun _ hk => hk.2) (.int .i64 t628)) (fun _ h_ => h_.1))) hb); have n1_ := Aside0.mk (Kd.R_below (by (with_reducible repeat (first | apply Kd.R_alloc | apply Kd.R_drewN | apply Kd.R_drew)); exact (Kd.R_mono (Kd.R_far (p := ⟨gb633, 3, none⟩) (Kd.R_far (p := ⟨gb633, 2, none⟩) (Kd.R_far (p := ⟨gb633, 1, none⟩) (Kd.R_far (p := ⟨gb633, 0, none⟩) (Kd.R_types HO631.out BK633.out (by decide)) (fun _ hk => hk.2) (.int .i64 t625)) (fun _ hk => hk.2) (.int .i64 t626)) (fun _ hk => hk.2) (.int .i64 t627)) (fun _ hk => hk.2) (.int .i64 t628)) (fun _ h_ => h_.1))) hb); have n2_ := Aside0.mk (blk_below (g := gb633) (o := .cells #[.int .i64 t625, .int .i64 t626, .int .i64 t627, .int .i64 t628] 40 (0, 0)) (by (with_reducible repeat (first | refine blk_drewN ?_ _ | refine blk_drew ?_ | refine blk_alloc ?_ _)); refine blk_put (cs := #[.int .i64 t625, .int .i64 t626, .int .i64 t627, .int .i64 0]) ?_ 3 _ rfl; (with_reducible repeat (first | refine blk_drewN ?_ _ | refine blk_drew ?_ | refine blk_alloc ?_ _)); refine blk_put (cs := #[.int .i64 t625, .int .i64 t626, .int .i64 0, .int .i64 0]) ?_ 2 _ rfl; (with_reducible repeat (first | refine blk_drewN ?_ _ | refine blk_drew ?_ | refine blk_alloc ?_ _)); refine blk_put (cs := #[.int .i64 t625, .int .i64 0, .int .i64 0, .int .i64 0]) ?_ 1 _ rfl; (with_reducible repeat (first | refine blk_drewN ?_ _ | refine blk_drew ?_ | refine blk_alloc ?_ _)); refine blk_put (cs := #[.int .i64 0, .int .i64 0, .int .i64 0, .int .i64 0]) ?_ 0 _ rfl; (with_reducible repeat (first | refine blk_drewN ?_ _ | refine blk_drew ?_ | refine blk_alloc ?_ _)); exact BK633.out) hb); have n3_ := Aside0.mk (below_step HBz hb); clear HO624; clear HO631; clear BK633; clear HB; have HO624 := n0_; have HO631 := n1_; have BK633 := n2_; have HB := n3_; clear n0_ n1_ n2_ n3_; (try clear hb); (try clear hb2); (try clear hk); (try clear hi); have hcz18_0 : w17.cell? ⟨gb633, 0, none⟩ = some (.int .i64 t625) := (blk_cell BK633.out 0).trans rfl; have hcz18_1 : w17.cell? ⟨gb633, 1, none⟩ = some (.int .i64 t626) := (blk_cell BK633.out 1).trans rfl; have hcz18_2 : w17.cell? ⟨gb633, 2, none⟩ = some (.int .i64 t627) := (blk_cell BK633.out 2).trans rfl; have hcz18_3 : w17.cell? ⟨gb633, 3, none⟩ = some (.int .i64 t628) := (blk_cell BK633.out 3).trans rfl; have hfz18_0 := blk_frozen BK633.out 0; have hfz18_1 := blk_frozen BK633.out 1; have hfz18_2 := blk_frozen BK633.out 2; have hfz18_3 := blk_frozen BK633.out 3; obtain ⟨Ao19, co19, eo19⟩ := Kd.R_slice HO631.out; subst eo19) | (go_at_call 39; (with_reducible refine (tickingref01_Right.calls k _ _ t622 t625 t626 t627 t628 _ _ t629 true _ ?side1 ?side2 ?side3 ?side4 A7.out).mono ?_); (case side1 => repeat (first | exact (Kd.R_reads' HO624.out).2.2 | (with_reducible refine Kd.C_alloc ?_ _) | (with_reducible refine Kd.C_drewN ?_ _) | (with_reducible refine Kd.C_drew ?_))); (case side2 => exact (Kd.R_reads' HO624.out).2.1); (case side3 => repeat (first | exact (Kd.R_reads' HO631.out).2.2 | (with_reducible refine Kd.C_alloc ?_ _) | (with_reducible refine Kd.C_drewN ?_ _) | (with_reducible refine Kd.C_drew ?_))); (case side4 => exact (Kd.R_reads' HO631.out).2.1); rintro e w20 ⟨rfl, hb⟩; have n0_ := Aside0.mk (Kd.R_below (by (with_reducible repeat (first | apply Kd.R_alloc | apply Kd.R_drewN | apply Kd.R_drew)); exact HO624.out) hb); have n1_ := Aside0.mk (Kd.R_below (by (with_reducible repeat (first | apply Kd.R_alloc | apply Kd.R_drewN | apply Kd.R_drew)); exact HO631.out) hb); have n2_ := Aside0.mk (blk_below (g := gb633) BKz hb); have n3_ := Aside0.mk (below_step HBz hb); clear HO624; clear HO631; clear BK633; clear HB; have HO624 := n0_; have HO631 := n1_; have BK633 := n2_; have HB := n3_; clear n0_ n1_ n2_ n3_; (try clear hb); (try clear hb2); (try clear hk); (try clear hi); have hcz21_0 : w20.cell? ⟨gb633, 0, none⟩ = some (.int .i64 t625) := (blk_cell BK633.out 0).trans rfl; have hcz21_1 : w20.cell? ⟨gb633, 1, none⟩ = some (.int .i64 t626) := (blk_cell BK633.out 1).trans rfl; have hcz21_2 : w20.cell? ⟨gb633, 2, none⟩ = some (.int .i64 t627) := (blk_cell BK633.out 2).trans rfl; have hcz21_3 : w20.cell? ⟨gb633, 3, none⟩ = some (.int .i64 t628) := (blk_cell BK633.out 3).trans rfl; have hfz21_0 := blk_frozen BK633.out 0; have hfz21_1 := blk_frozen BK633.out 1; have hfz21_2 := blk_frozen BK633.out 2; have hfz21_3 := blk_frozen BK633.out 3) | (go_at_call 38; (with_reducible refine (cover_Check.calls k _ _ t622 t625 t626 t627 t628 _ _ t629 t636 _ ?side1 ?side2 ?side3 ?side4 A9.out).mono ?_); (case side1 => repeat (first | exact (Kd.R_reads' HO624.out).2.2 | (with_reducible refine Kd.C_alloc ?_ _) | (with_reducible refine Kd.C_drewN ?_ _) | (with_reducible refine Kd.C_drew ?_))); (case side2 => exact (Kd.R_reads' HO624.out).2.1); (case side3 => repeat (first | exact (Kd.R_reads' HO631.out).2.2 | (with_reducible refine Kd.C_alloc ?_ _) | (with_reducible refine Kd.C_drewN ?_ _) | (with_reducible refine Kd.C_drew ?_))); (case side4 => exact (Kd.R_reads' HO631.out).2.1); rintro e w22 ⟨rfl, hb⟩; have n0_ := Aside0.mk (Kd.R_below (by (with_reducible repeat (first | apply Kd.R_alloc | apply Kd.R_drewN | apply Kd.R_drew)); exact HO624.out) hb); have n1_ := Aside0.mk (Kd.R_below (by (with_reducible repeat (first | apply Kd.R_alloc | apply Kd.R_drewN | apply Kd.R_drew)); exact HO631.out) hb); have n2_ := Aside0.mk (blk_below (g := gb633) BKz hb); have n3_ := Aside0.mk (below_step HBz hb); clear HO624; clear HO631; clear BK633; clear HB; have HO624 := n0_; have HO631 := n1_; have BK633 := n2_; have HB := n3_; clear n0_ n1_ n2_ n3_; (try clear hb); (try clear hb2); (try clear hk); (try clear hi)) | (go_at_call 21; (with_reducible refine (tickinglaw01_awake.calls k  t637 _ A11.out).mono ?_); rintro e w23 ⟨rfl, hb⟩; have n0_ := Aside0.mk (Kd.R_below (by (with_reducible repeat (first | apply Kd.R_alloc | apply Kd.R_drewN | apply Kd.R_drew)); exact HO624.out) hb); have n1_ := Aside0.mk (Kd.R_below (by (with_reducible repeat (first | apply Kd.R_alloc | apply Kd.R_drewN | apply Kd.R_drew)); exact HO631.out) hb); have n2_ := Aside0.mk (blk_below (g := gb633) BKz hb); have n3_ := Aside0.mk (below_step HBz hb); clear HO624; clear HO631; clear BK633; clear HB; have HO624 := n0_; have HO631 := n1_; have BK633 := n2_; have HB := n3_; clear n0_ n1_ n2_ n3_; (try clear hb); (try clear hb2); (try clear hk); (try clear hi)))
     go_ret
     exact ⟨by first | rfl | (simp [errW_none, errW_some] <;> rfl) | (simp [*, errW_none, errW_some] <;> rfl), HBz⟩
    ·rw [if_neg c10] at H
     have c10b0 : (t636 == 0) = false := beq_eq_false_iff_ne.mpr c10
     have c10b1 : (t636 != 0) = true := bne_iff_ne.mpr c10
     exact absurd (H.trans (congrArg some HRT.out)) (by simp)
   ·replace c8 := Bool.eq_false_iff.mpr c8
    subst c8
    have H1 : (some false) = some r := by rw [if_neg (show ¬ (false = true) by decide)] at H; exact H
    clear H
    have H := H1
    clear H1
    exact absurd (H.trans (congrArg some HRT.out)) (by simp)
  ·rw [if_neg c6] at H
   have c6b0 : (t632 == 0) = false := beq_eq_false_iff_ne.mpr c6
   have c6b1 : (t632 != 0) = true := bne_iff_ne.mpr c6
   exact absurd (H.trans (congrArg some HRT.out)) (by simp)
 ·replace c5 := Bool.eq_false_iff.mpr c5
  subst c5
  have H1 : (if (t625 == 0 && (t626 == 0 && (t627 == 0 && (t628 == 0)))) = true then (if (t629.length : Int) = 0 then (if t632 = 2 then ((cover_Check.f k t622 t625 t626 t627 t628 t629).bind fun t638 => (if t638 = 2 then ((tickinglaw01_awake.f k).bind fun t639 => (some t639)) else (some false))) else (some false)) else (some false)) else (some false)) = some r := by rw [if_neg (show ¬ (false = true) by decide)] at H; exact H
  clear H
  have H := H1
  clear H1
  by_cases c24 : (t625 == 0 && (t626 == 0 && (t627 == 0 && (t628 == 0)))) = true
  ·rw [if_pos c24] at H
   have c24b0 : (t625 == 0 && (t626 == 0 && (t627 == 0 && (t628 == 0)))) = true := c24
   (try (have c24b1 : decide (t625 = 0 && (t626 == 0 && (t627 == 0 && (t628 == 0)))) = true := by simpa using c24))
   (try (have c24b2 : (t625 == 0 && (t626 == 0 && (t627 == 0 && (t628 == 0)))) = true := by simpa using c24))
   clear c24
   by_cases c25 : (t629.length : Int) = 0
   ·rw [if_pos c25] at H
    have c25b0 : ((t629.length : Int) == 0) = true := beq_iff_eq.mpr c25
    have c25b1 : ((t629.length : Int) != 0) = false := bne_eq_false_iff_eq.mpr c25
    clear c25
    by_cases c26 : t632 = 2
    ·rw [if_pos c26] at H
     have c26b0 : (t632 == 2) = true := beq_iff_eq.mpr c26
     have c26b1 : (t632 != 2) = false := bne_eq_false_iff_eq.mpr c26
     clear c26
     replace H := Option.bind_eq_some_iff.mp H
     obtain ⟨t638, A270, H⟩ := H
     replace H : (if t638 = 2 then ((tickinglaw01_awake.f k).bind fun t639 => (some t639)) else (some false)) = some r := H
     have A27 := Aside0.mk A270
     clear A270
     by_cases c28 : t638 = 2
     ·rw [if_pos c28] at H
      have c28b0 : (t638 == 2) = true := beq_iff_eq.mpr c28
      have c28b1 : (t638 != 2) = false := bne_eq_false_iff_eq.mpr c28
      clear c28
      replace H := Option.bind_eq_some_iff.mp H
      obtain ⟨t639, A290, H⟩ := H
      replace H : (some t639) = some r := H
      have A29 := Aside0.mk A290
      clear A290
      obtain rfl := Option.some.inj H
      go_enter Try.func9, Try.ntmps9
      go_wp2_with (first | ((with_reducible refine gate_callee (f := 34) rfl ?_); refine goesL_ (some 8) rfl rfl Try.func34 (by kernel_rfl) rfl #[.slice A0 l0.length c0] rfl (by (try simp only [List.map_toArray, List.map_cons, List.map_nil]); first | done | rfl | (simp only [List.length_drop, List.length_take]; rfl)) ?_; (with_reducible refine (tickinglaw01_points.calls _ _ l0 t622 _ ?side1 ?side2 A2.out).mono ?_); (case side1 => repeat (first | exact HR0.out | (with_reducible refine Kd.C_alloc ?_ _) | (with_reducible refine Kd.C_drewN ?_ _) | (with_reducible refine Kd.C_drew ?_))); (case side2 => exact HC0.out); rintro e w30 ⟨v623, rfl, ho0, hb⟩; refine ⟨_, rfl, ?_⟩; have n0_ := Aside0.mk (Kd.R_lower ho0 (below_size HBz)); have n1_ := Aside0.mk (below_step HBz hb); clear HB; have HO624 := n0_; have HB := n1_; clear n0_ n1_; (try clear hb); (try clear hb2); (try clear hk); (try clear hi); (try clear ho0); obtain ⟨Ao31, co31, eo31⟩ := Kd.R_slice HO624.out; subst eo31) | ((with_reducible refine gate_callee (f := 26) rfl ?_); refine goesL_ (some 11) rfl rfl Try.func26 (by kernel_rfl) rfl #[.slice Ao31 t622.length co31] rfl (by (try simp only [List.map_toArray, List.map_cons, List.map_nil]); first | done | rfl | (simp only [List.length_drop, List.length_take]; rfl)) ?_; (with_reducible refine (cover_Enclose.calls _ _ t622 t625 t626 t627 t628 t629 t632 _ ?side1 ?side2 A3.out).mono ?_); (case side1 => repeat (first | exact (Kd.R_reads' HO624.out).2.2 | (with_reducible refine Kd.C_alloc ?_ _) | (with_reducible refine Kd.C_drewN ?_ _) | (with_reducible refine Kd.C_drew ?_))); (case side2 => exact (Kd.R_reads' HO624.out).2.1); rintro e w32 ⟨v630, rfl, ho0, hb⟩; refine ⟨_, rfl, ?_⟩; have n0_ := Aside0.mk (Kd.R_below (by (with_reducible repeat (first | apply Kd.R_alloc | apply Kd.R_drewN | apply Kd.R_drew)); exact HO624.out) hb); have n1_ := Aside0.mk (Kd.R_lower ho0 (below_size HBz)); have n2_ := Aside0.mk (below_step HBz hb); clear HO624; clear HB; have HO624 := n0_; have HO631 := n1_; have HB := n2_; clear n0_ n1_ n2_; (try clear hb); (try clear hb2); (try clear hk); (try clear hi); (try clear ho0)) | ((with_reducible refine gate_dst (N := 4) rfl ?_); (try (refine gate_guard (by rfl) ?_; dsimp only)); refine bxE 4 #[.int .i64 0, .int .i64 0, .int .i64 0, .int .i64 0] 40 ?_; intro gb633 hg w33 hbox hb; have n0_ := Aside0.mk (Kd.R_below (by (with_reducible repeat (first | apply Kd.R_alloc | apply Kd.R_drewN | apply Kd.R_drew)); exact HO624.out) hb); have n1_ := Aside0.mk (Kd.R_below (by (with_reducible repeat (first | apply Kd.R_alloc | apply Kd.R_drewN | apply Kd.R_drew)); exact HO631.out) hb); have n2_ := Aside0.mk (below_step HBz hb); have n3_ := Aside0.mk (hbox); have n4_ := Aside0.mk ((by rw [hg]; exact (below_size HBz) : w.heap.size ≤ gb633)); have n5_ := Aside0.mk ((by rw [hg]; exact (below_size HBz) : w.heap.size ≤ gb633)); clear HO624; clear HO631; clear HB; have HO624 := n0_; have HO631 := n1_; have HB := n2_; have BK633 := n3_; have GW633 := n4_; have GE633 := n5_; clear n0_ n1_ n2_ n3_ n4_ n5_; clear hb hbox hg; have hcz34_0 : w33.cell? ⟨gb633, 0, none⟩ = some (.int .i64 0) := (blk_cell BK633.out 0).trans rfl; have hcz34_1 : w33.cell? ⟨gb633, 1, none⟩ = some (.int .i64 0) := (blk_cell BK633.out 1).trans rfl; have hcz34_2 : w33.cell? ⟨gb633, 2, none⟩ = some (.int .i64 0) := (blk_cell BK633.out 2).trans rfl; have hcz34_3 : w33.cell? ⟨gb633, 3, none⟩ = some (.int .i64 0) := (blk_cell BK633.out 3).trans rfl; have hfz34_0 := blk_frozen BK633.out 0; have hfz34_1 := blk_frozen BK633.out 1; have hfz34_2 := blk_frozen BK633.out 2; have hfz34_3 := blk_frozen BK633.out 3) | ((with_reducible refine gate_callee (f := 37) rfl ?_); refine goesL_ (some 16) rfl rfl Try.func37 (by kernel_rfl) rfl #[.slice Ao31 t622.length co31] rfl (by (try simp only [List.map_toArray, List.map_cons, List.map_nil]); first | done | rfl | (simp only [List.length_drop, List.length_take]; rfl)) ?_; (with_reducible refine (tickingref01_Points.calls k _ _ t622 false _ ?side1 ?side2 A4.out).mono ?_); (case side1 => refine (Kd.R_reads' (e := 28) (base := w.heap.size) (ok := fun k_ => True) (n := t622.length) (c := co31) ?_).2.2; exact (by (with_reducible repeat (first | apply Kd.R_alloc | apply Kd.R_drewN | apply Kd.R_drew)); exact (Kd.R_mono (Kd.R_far (p := ⟨gb633, 3, none⟩) (Kd.R_far (p := ⟨gb633, 2, none⟩) (Kd.R_far (p := ⟨gb633, 1, none⟩) (Kd.R_far (p := ⟨gb633, 0, none⟩) (Kd.R_types HO624.out BK633.out (by decide)) (fun _ hk => hk.2) (.int .i64 t625)) (fun _ hk => hk.2) (.int .i64 t626)) (fun _ hk => hk.2) (.int .i64 t627)) (fun _ hk => hk.2) (.int .i64 t628)) (fun _ h_ => h_.1)))); (case side2 => exact (Kd.R_reads' HO624.out).2.1); rintro e w35 ⟨rfl, hb⟩; refine ⟨_, rfl, ?_⟩; have n0_ := Aside0.mk (Kd.R_below (by (with_reducible repeat (first | apply Kd.R_alloc | apply Kd.R_drewN | apply Kd.R_drew)); exact (Kd.R_mono (Kd.R_far (p := ⟨gb633, 3, none⟩) (Kd.R_far (p := ⟨gb633, 2, none⟩) (Kd.R_far (p := ⟨gb633, 1, none⟩) (Kd.R_far (p := ⟨gb633, 0, none⟩) (Kd.R_types HO624.out BK633.out (by decide)) (fun _ hk => hk.2) (.int .i64 t625)) (fun _ hk => hk.2) (.int .i64 t626)) (fun _ hk => hk.2) (.int .i64 t627)) (fun _ hk => hk.2) (.int .i64 t628)) (fun _ h_ => h_.1))) hb); have n1_ := Aside0.mk (Kd.R_below (by (with_reducible repeat (first | apply Kd.R_alloc | apply Kd.R_drewN | apply Kd.R_drew)); exact (Kd.R_mono (Kd.R_far (p := ⟨gb633, 3, none⟩) (Kd.R_far (p := ⟨gb633, 2, none⟩) (Kd.R_far (p := ⟨gb633, 1, none⟩) (Kd.R_far (p := ⟨gb633, 0, none⟩) (Kd.R_types HO631.out BK633.out (by decide)) (fun _ hk => hk.2) (.int .i64 t625)) (fun _ hk => hk.2) (.int .i64 t626)) (fun _ hk => hk.2) (.int .i64 t627)) (fun _ hk => hk.2) (.int .i64 t628)) (fun _ h_ => h_.1))) hb); have n2_ := Aside0.mk (blk_below (g := gb633) (o := .cells #[.int .i64 t625, .int .i64 t626, .int .i64 t627, .int .i64 t628] 40 (0, 0)) (by (with_reducible repeat (first | refine blk_drewN ?_ _ | refine blk_drew ?_ | refine blk_alloc ?_ _)); refine blk_put (cs := #[.int .i64 t625, .int .i64 t626, .int .i64 t627, .int .i64 0]) ?_ 3 _ rfl; (with_reducible repeat (first | refine blk_drewN ?_ _ | refine blk_drew ?_ | refine blk_alloc ?_ _)); refine blk_put (cs := #[.int .i64 t625, .int .i64 t626, .int .i64 0, .int .i64 0]) ?_ 2 _ rfl; (with_reducible repeat (first | refine blk_drewN ?_ _ | refine blk_drew ?_ | refine blk_alloc ?_ _)); refine blk_put (cs := #[.int .i64 t625, .int .i64 0, .int .i64 0, .int .i64 0]) ?_ 1 _ rfl; (with_reducible repeat (first | refine blk_drewN ?_ _ | refine blk_drew ?_ | refine blk_alloc ?_ _)); refine blk_put (cs := #[.int .i64 0, .int .i64 0, .int .i64 0, .int .i64 0]) ?_ 0 _ rfl; (with_reducible repeat (first | refine blk_drewN ?_ _ | refine blk_drew ?_ | refine blk_alloc ?_ _)); exact BK633.out) hb); have n3_ := Aside0.mk (below_step HBz hb); clear HO624; clear HO631; clear BK633; clear HB; have HO624 := n0_; have HO631 := n1_; have BK633 := n2_; have HB := n3_; clear n0_ n1_ n2_ n3_; (try clear hb); (try clear hb2); (try clear hk); (try clear hi); have hcz36_0 : w35.cell? ⟨gb633, 0, none⟩ = some (.int .i64 t625) := (blk_cell BK633.out 0).trans rfl; have hcz36_1 : w35.cell? ⟨gb633, 1, none⟩ = some (.int .i64 t626) := (blk_cell BK633.out 1).trans rfl; have hcz36_2 : w35.cell? ⟨gb633, 2, none⟩ = some (.int .i64 t627) := (blk_cell BK633.out 2).trans rfl; have hcz36_3 : w35.cell? ⟨gb633, 3, none⟩ = some (.int .i64 t628) := (blk_cell BK633.out 3).trans rfl; have hfz36_0 := blk_frozen BK633.out 0; have hfz36_1 := blk_frozen BK633.out 1; have hfz36_2 := blk_frozen BK633.out 2; have hfz36_3 := blk_frozen BK633.out 3; obtain ⟨Ao37, co37, eo37⟩ := Kd.R_slice HO631.out; subst eo37) | (go_at_call 38; (with_reducible refine (cover_Check.calls k _ _ t622 t625 t626 t627 t628 _ _ t629 t638 _ ?side1 ?side2 ?side3 ?side4 A27.out).mono ?_); (case side1 => repeat (first | exact (Kd.R_reads' HO624.out).2.2 | (with_reducible refine Kd.C_alloc ?_ _) | (with_reducible refine Kd.C_drewN ?_ _) | (with_reducible refine Kd.C_drew ?_))); (case side2 => exact (Kd.R_reads' HO624.out).2.1); (case side3 => repeat (first | exact (Kd.R_reads' HO631.out).2.2 | (with_reducible refine Kd.C_alloc ?_ _) | (with_reducible refine Kd.C_drewN ?_ _) | (with_reducible refine Kd.C_drew ?_))); (case side4 => exact (Kd.R_reads' HO631.out).2.1); rintro e w38 ⟨rfl, hb⟩; have n0_ := Aside0.mk (Kd.R_below (by (with_reducible repeat (first | apply Kd.R_alloc | apply Kd.R_drewN | apply Kd.R_drew)); exact HO624.out) hb); have n1_ := Aside0.mk (Kd.R_below (by (with_reducible repeat (first | apply Kd.R_alloc | apply Kd.R_drewN | apply Kd.R_drew)); exact HO631.out) hb); have n2_ := Aside0.mk (blk_below (g := gb633) BKz hb); have n3_ := Aside0.mk (below_step HBz hb); clear HO624; clear HO631; clear BK633; clear HB; have HO624 := n0_; have HO631 := n1_; have BK633 := n2_; have HB := n3_; clear n0_ n1_ n2_ n3_; (try clear hb); (try clear hb2); (try clear hk); (try clear hi)) | (go_at_call 21; (with_reducible refine (tickinglaw01_awake.calls k  t639 _ A29.out).mono ?_); rintro e w39 ⟨rfl, hb⟩; have n0_ := Aside0.mk (Kd.R_below (by (with_reducible repeat (first | apply Kd.R_alloc | apply Kd.R_drewN | apply Kd.R_drew)); exact HO624.out) hb); have n1_ := Aside0.mk (Kd.R_below (by (with_reducible repeat (first | apply Kd.R_alloc | apply Kd.R_drewN | apply Kd.R_drew)); exact HO631.out) hb); have n2_ := Aside0.mk (blk_below (g := gb633) BKz hb); have n3_ := Aside0.mk (below_step HBz hb); clear HO624; clear HO631; clear BK633; clear HB; have HO624 := n0_; have HO631 := n1_; have BK633 := n2_; have HB := n3_; clear n0_ n1_ n2_ n3_; (try clear hb); (try clear hb2); (try clear hk); (try clear hi)))
      go_ret
      exact ⟨by first | rfl | (simp [errW_none, errW_some] <;> rfl) | (simp [*, errW_none, errW_some] <;> rfl), HBz⟩
     ·rw [if_neg c28] at H
      have c28b0 : (t638 == 2) = false := beq_eq_false_iff_ne.mpr c28
      have c28b1 : (t638 != 2) = true := bne_iff_ne.mpr c28
      exact absurd (H.trans (congrArg some HRT.out)) (by simp)
    ·rw [if_neg c26] at H
     have c26b0 : (t632 == 2) = false := beq_eq_false_iff_ne.mpr c26
     have c26b1 : (t632 != 2) = true := bne_iff_ne.mpr c26
     exact absurd (H.trans (congrArg some HRT.out)) (by simp)
   ·rw [if_neg c25] at H
    have c25b0 : ((t629.length : Int) == 0) = false := beq_eq_false_iff_ne.mpr c25
    have c25b1 : ((t629.length : Int) != 0) = true := bne_iff_ne.mpr c25
    have c25b2 : ¬ (t629 = []) := fun h_ => c25 (by rw [h_]; rfl)
    exact absurd (H.trans (congrArg some HRT.out)) (by simp)
  ·rw [if_neg c24] at H
   have c24b0 : (t625 == 0 && (t626 == 0 && (t627 == 0 && (t628 == 0)))) = false := by simpa using c24
   (try (have c24b1 : decide (t625 = 0 && (t626 == 0 && (t627 == 0 && (t628 == 0)))) = false := by simpa using c24))
   (try (have c24b2 : (t625 == 0 && (t626 == 0 && (t627 == 0 && (t628 == 0)))) = false := by simpa using c24))
   (try (have c24b3 : ¬ (t625 = 0 && (t626 == 0 && (t627 == 0 && (t628 == 0)))) := by simpa using c24))
   clear c24
   exact absurd (H.trans (congrArg some HRT.out)) (by simp)
end Go.Proofs.Ytplhfbkejngioaa.X
