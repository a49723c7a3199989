/- Texts of this claim's session, put together: X21. -/
import Derived.Test.YtplhfbkejngioaaBa0
import Derived.Test.YtplhfbkejngioaaBa4
import Derived.Test.YtplhfbkejngioaaBa5
import Derived.Test.YtplhfbkejngioaaBa13
import Derived.Test.YtplhfbkejngioaaSi0
import Derived.Test.YtplhfbkejngioaaWWords
import Derived.Test.YtplhfbkejngioaaWLast
import Derived.Test.YtplhfbkejngioaaWRepsOne
namespace Go.Proofs.Ytplhfbkejngioaa.X
open Go.RowKit Go.Proofs.YtplhfbkejngioaaW.PrintWords Go.Proofs.YtplhfbkejngioaaW.PrintLast Go.Proofs.Ytplhfbkejngioaa.S
attribute [local go_sem] max2_int min2_int max_two min_two
set_option linter.unusedVariables false
set_option linter.unusedSimpArgs false
def cover_Side.f (k : Nat) (a0_0 : Int) (a0_1 : Int) (a0_2 : Int) (a0_3 : Int) (a1_0 : Int) (a1_1 : Int) : Option (Int × Int) := (cover_isCircle.f k a0_0 a0_1 a0_2 a0_3).bind fun t476 => (if t476 = true then ((cover_isPoint.f a1_0 a1_1).bind fun t477 => (if t477 = true then ((cover_side.f a0_0 a0_1 a0_2 a0_3 a1_0 a1_1).bind fun t478 => (some (t478, 0))) else (some (0, 2)))) else (some (0, 2)))
theorem cover_Side.mono : ∀ a0 a1 a2 a3 a4 a5 k, LeO (cover_Side.f k a0 a1 a2 a3 a4 a5) (cover_Side.f (k + 1) a0 a1 a2 a3 a4 a5) := by
  intro a0 a1 a2 a3 a4 a5 k
  unfold cover_Side.f
  repeat' first
      | (with_reducible exact cover_isCircle.mono _ _ _ _ _)
      | (with_reducible exact LeO.refl _)
      | (with_reducible exact LeO.none _)
      | (with_reducible refine LeO.ite ?_ ?_)
      | (with_reducible refine LeO.bind ?_ (fun _ => ?_))
      | exact cover_isCircle.mono _ _ _ _ _
      | exact LeO.none _
      | refine LeO.ite ?_ ?_
      | refine LeO.bind ?_ (fun _ => ?_)
set_option maxHeartbeats 8000000 in
set_option maxRecDepth 100000 in
theorem cover_Side.calls (k : Nat) (a0_0 : Int) (a0_1 : Int) (a0_2 : Int) (a0_3 : Int) (a1_0 : Int) (a1_1 : Int) (r1 : Int) (r2 : Int) (w : World) (h : cover_Side.f k a0_0 a0_1 a0_2 a0_3 a1_0 a1_1 = some (r1, r2)) :
    Calls Try.prog 31 #[.agg #[.int .i64 a0_0, .int .i64 a0_1, .int .i64 a0_2, .int .i64 a0_3], .agg #[.int .i64 a1_0, .int .i64 a1_1]] w fun e w' => e = .returned (.tuple #[.int .i64 r1, .int .i64 r2]) ∧ Below w.heap.size w w' := by
  have hu40 := Try.underlying40
  have hu28 := Try.underlying28
  have HB := Aside0.mk (Below.refl w.heap.size w)
  have H : ((cover_isCircle.f k a0_0 a0_1 a0_2 a0_3).bind fun t476 => (if t476 = true then ((cover_isPoint.f a1_0 a1_1).bind fun t477 => (if t477 = true then ((cover_side.f a0_0 a0_1 a0_2 a0_3 a1_0 a1_1).bind fun t478 => (some (t478, 0))) else (some (0, 2)))) else (some (0, 2)))) = some (r1, r2) := h
  clear h
  replace H := Option.bind_eq_some_iff.mp H
  obtain ⟨t476, A30, H⟩ := H
  replace H : (if t476 = true then ((cover_isPoint.f a1_0 a1_1).bind fun t477 => (if t477 = true then ((cover_side.f a0_0 a0_1 a0_2 a0_3 a1_0 a1_1).bind fun t478 => (some (t478, 0))) else (some (0, 2)))) else (some (0, 2))) = some (r1, r2) := H
  have A3 := Aside0.mk A30
  clear A30
  by_cases c4 : t476 = true
  · subst c4
    have H1 : ((cover_isPoint.f a1_0 a1_1).bind fun t477 => (if t477 = true then ((cover_side.f a0_0 a0_1 a0_2 a0_3 a1_0 a1_1).bind fun t478 => (some (t478, 0))) else (some (0, 2)))) = some (r1, r2) := by rw [if_pos rfl] at H; exact H
    clear H
    have H := H1
    clear H1
    replace H := Option.bind_eq_some_iff.mp H
    obtain ⟨t477, A50, H⟩ := H
    replace H : (if t477 = true then ((cover_side.f a0_0 a0_1 a0_2 a0_3 a1_0 a1_1).bind fun t478 => (some (t478, 0))) else (some (0, 2))) = some (r1, r2) := H
    have A5 := Aside0.mk A50
    clear A50
    by_cases c6 : t477 = true
    · subst c6
      have H1 : ((cover_side.f a0_0 a0_1 a0_2 a0_3 a1_0 a1_1).bind fun t478 => (some (t478, 0))) = some (r1, r2) := by rw [if_pos rfl] at H; exact H
      clear H
      have H := H1
      clear H1
      replace H := Option.bind_eq_some_iff.mp H
      obtain ⟨t478, A70, H⟩ := H
      replace H : (some (t478, 0)) = some (r1, r2) := H
      have A7 := Aside0.mk A70
      clear A70
      simp only [Option.some.injEq, Prod.mk.injEq] at H
      obtain ⟨rfl, rfl⟩ := H
      go_enter Try.func31, Try.ntmps31
      go_wp2_with (first | ((with_reducible refine gate_dst (N := 2) rfl ?_); refine bxE 2 #[.int .i64 a0_0, .int .i64 a0_1, .int .i64 a0_2, .int .i64 a0_3] 40 ?_; intro gb474 hg w8 hbox hb; have n0_ := Aside0.mk (below_step HBz hb); have n1_ := Aside0.mk (hbox); have n2_ := Aside0.mk ((by rw [hg]; exact (below_size HBz) : w.heap.size ≤ gb474)); have n3_ := Aside0.mk ((by rw [hg]; exact (below_size HBz) : w.heap.size ≤ gb474)); clear HB; have HB := n0_; have BK474 := n1_; have GW474 := n2_; have GE474 := n3_; clear n0_ n1_ n2_ n3_; clear hb hbox hg) | ((with_reducible refine gate_dst (N := 3) rfl ?_); refine bxE 3 #[.int .i64 a1_0, .int .i64 a1_1] 28 ?_; intro gb475 hg w9 hbox hb; have n0_ := Aside0.mk (blk_below (g := gb474) BKz hb); have n1_ := Aside0.mk (below_step HBz hb); have n2_ := Aside0.mk (hbox); have n3_ := Aside0.mk ((by rw [hg]; exact (below_size HBz) : w.heap.size ≤ gb475)); have n4_ := Aside0.mk ((by rw [hg]; exact (below_size HBz) : w.heap.size ≤ gb475)); have n5_ := Aside0.mk ((by rw [hg]; exact Nat.ne_of_lt (blk_lt (g := gb474) BKz) : gb474 ≠ gb475)); have n6_ := Aside0.mk ((by rw [hg]; exact Nat.ne_of_gt (blk_lt (g := gb474) BKz) : gb475 ≠ gb474)); clear BK474; clear HB; have BK474 := n0_; have HB := n1_; have BK475 := n2_; have GW475 := n3_; have GE475 := n4_; have NB474_475 := n5_; have NB475_474 := n6_; clear n0_ n1_ n2_ n3_ n4_ n5_ n6_; clear hb hbox hg; have hnb10 := NB474_475.out; have hnc10 := NB475_474.out; have hcz11_0 : w9.cell? ⟨gb474, 0, none⟩ = some (.int .i64 a0_0) := (blk_cell BK474.out 0).trans rfl; have hcz11_1 : w9.cell? ⟨gb474, 1, none⟩ = some (.int .i64 a0_1) := (blk_cell BK474.out 1).trans rfl; have hcz11_2 : w9.cell? ⟨gb474, 2, none⟩ = some (.int .i64 a0_2) := (blk_cell BK474.out 2).trans rfl; have hcz11_3 : w9.cell? ⟨gb474, 3, none⟩ = some (.int .i64 a0_3) := (blk_cell BK474.out 3).trans rfl; have hfz11_0 := blk_frozen BK474.out 0; have hfz11_1 := blk_frozen BK474.out 1; have hfz11_2 := blk_frozen BK474.out 2; have hfz11_3 := blk_frozen BK474.out 3) | ((with_reducible refine gate_callee (f := 57) rfl ?_); refine goesL_ (some 7) rfl rfl Try.func57 (by kernel_rfl) rfl #[.agg #[.int .i64 a0_0, .int .i64 a0_1, .int .i64 a0_2, .int .i64 a0_3]] rfl (by (try simp only [List.map_toArray, List.map_cons, List.map_nil]); first | done | rfl | (simp only [List.length_drop, List.length_take]; rfl)) ?_; (with_reducible refine (cover_isCircle.calls k a0_0 a0_1 a0_2 a0_3 true _ A3.out).mono ?_); rintro e w12 ⟨rfl, hb⟩; refine ⟨_, rfl, ?_⟩; have n0_ := Aside0.mk (blk_below (g := gb474) BKz hb); have n1_ := Aside0.mk (blk_below (g := gb475) BKz hb); have n2_ := Aside0.mk (below_step HBz hb); clear BK474; clear BK475; clear HB; have BK474 := n0_; have BK475 := n1_; have HB := n2_; clear n0_ n1_ n2_; (try clear hb); (try clear hb2); (try clear hk); (try clear hi); have hcz13_0 : w12.cell? ⟨gb475, 0, none⟩ = some (.int .i64 a1_0) := (blk_cell BK475.out 0).trans rfl; have hcz13_1 : w12.cell? ⟨gb475, 1, none⟩ = some (.int .i64 a1_1) := (blk_cell BK475.out 1).trans rfl; have hfz13_0 := blk_frozen BK475.out 0; have hfz13_1 := blk_frozen BK475.out 1) | (go_at_call 58; (with_reducible refine (cover_isPoint.calls a1_0 a1_1 true _ A5.out).mono ?_); rintro e w14 ⟨rfl, hb⟩; have n0_ := Aside0.mk (blk_below (g := gb474) BKz hb); have n1_ := Aside0.mk (blk_below (g := gb475) BKz hb); have n2_ := Aside0.mk (below_step HBz hb); clear BK474; clear BK475; clear HB; have BK474 := n0_; have BK475 := n1_; have HB := n2_; clear n0_ n1_ n2_; (try clear hb); (try clear hb2); (try clear hk); (try clear hi); have hcz15_0 : w14.cell? ⟨gb474, 0, none⟩ = some (.int .i64 a0_0) := (blk_cell BK474.out 0).trans rfl; have hcz15_1 : w14.cell? ⟨gb474, 1, none⟩ = some (.int .i64 a0_1) := (blk_cell BK474.out 1).trans rfl; have hcz15_2 : w14.cell? ⟨gb474, 2, none⟩ = some (.int .i64 a0_2) := (blk_cell BK474.out 2).trans rfl; have hcz15_3 : w14.cell? ⟨gb474, 3, none⟩ = some (.int .i64 a0_3) := (blk_cell BK474.out 3).trans rfl; have hfz15_0 := blk_frozen BK474.out 0; have hfz15_1 := blk_frozen BK474.out 1; have hfz15_2 := blk_frozen BK474.out 2; have hfz15_3 := blk_frozen BK474.out 3; have hcz16_0 : w14.cell? ⟨gb475, 0, none⟩ = some (.int .i64 a1_0) := (blk_cell BK475.out 0).trans rfl; have hcz16_1 : w14.cell? ⟨gb475, 1, none⟩ = some (.int .i64 a1_1) := (blk_cell BK475.out 1).trans rfl; have hfz16_0 := blk_frozen BK475.out 0; have hfz16_1 := blk_frozen BK475.out 1) | ((with_reducible refine gate_callee (f := 59) rfl ?_); refine goesL_ (some 16) rfl rfl Try.func59 (by kernel_rfl) rfl #[.agg #[.int .i64 a0_0, .int .i64 a0_1, .int .i64 a0_2, .int .i64 a0_3], .agg #[.int .i64 a1_0, .int .i64 a1_1]] rfl (by (try simp only [List.map_toArray, List.map_cons, List.map_nil]); first | done | rfl | (simp only [List.length_drop, List.length_take]; rfl)) ?_; (with_reducible refine (cover_side.calls a0_0 a0_1 a0_2 a0_3 a1_0 a1_1 t478 _ A7.out).mono ?_); rintro e w17 ⟨rfl, hb⟩; refine ⟨_, rfl, ?_⟩; have n0_ := Aside0.mk (blk_below (g := gb474) BKz hb); have n1_ := Aside0.mk (blk_below (g := gb475) BKz hb); have n2_ := Aside0.mk (below_step HBz hb); clear BK474; clear BK475; clear HB; have BK474 := n0_; have BK475 := n1_; have HB := n2_; clear n0_ n1_ n2_; (try clear hb); (try clear hb2); (try clear hk); (try clear hi)))
      go_ret2
      exact ⟨by first | rfl | (simp [errW_none, errW_some] <;> rfl) | (simp [*, errW_none, errW_some] <;> rfl), HBz⟩
    · replace c6 := Bool.eq_false_iff.mpr c6
      subst c6
      have H1 : (some (0, 2)) = some (r1, r2) := by rw [if_neg (show ¬ (false = true) by decide)] at H; exact H
      clear H
      have H := H1
      clear H1
      simp only [Option.some.injEq, Prod.mk.injEq] at H
      obtain ⟨rfl, rfl⟩ := H
      go_enter Try.func31, Try.ntmps31
      go_wp2_with (first | ((with_reducible refine gate_dst (N := 2) rfl ?_); refine bxE 2 #[.int .i64 a0_0, .int .i64 a0_1, .int .i64 a0_2, .int .i64 a0_3] 40 ?_; intro gb474 hg w18 hbox hb; have n0_ := Aside0.mk (below_step HBz hb); have n1_ := Aside0.mk (hbox); have n2_ := Aside0.mk ((by rw [hg]; exact (below_size HBz) : w.heap.size ≤ gb474)); have n3_ := Aside0.mk ((by rw [hg]; exact (below_size HBz) : w.heap.size ≤ gb474)); clear HB; have HB := n0_; have BK474 := n1_; have GW474 := n2_; have GE474 := n3_; clear n0_ n1_ n2_ n3_; clear hb hbox hg) | ((with_reducible refine gate_dst (N := 3) rfl ?_); refine bxE 3 #[.int .i64 a1_0, .int .i64 a1_1] 28 ?_; intro gb475 hg w19 hbox hb; have n0_ := Aside0.mk (blk_below (g := gb474) BKz hb); have n1_ := Aside0.mk (below_step HBz hb); have n2_ := Aside0.mk (hbox); have n3_ := Aside0.mk ((by rw [hg]; exact (below_size HBz) : w.heap.size ≤ gb475)); have n4_ := Aside0.mk ((by rw [hg]; exact (below_size HBz) : w.heap.size ≤ gb475)); have n5_ := Aside0.mk ((by rw [hg]; exact Nat.ne_of_lt (blk_lt (g := gb474) BKz) : gb474 ≠ gb475)); have n6_ := Aside0.mk ((by rw [hg]; exact Nat.ne_of_gt (blk_lt (g := gb474) BKz) : gb475 ≠ gb474)); clear BK474; clear HB; have BK474 := n0_; have HB := n1_; have BK475 := n2_; have GW475 := n3_; have GE475 := n4_; have NB474_475 := n5_; have NB475_474 := n6_; clear n0_ n1_ n2_ n3_ n4_ n5_ n6_; clear hb hbox hg; have hnb20 := NB474_475.out; have hnc20 := NB475_474.out; have hcz21_0 : w19.cell? ⟨gb474, 0, none⟩ = some (.int .i64 a0_0) := (blk_cell BK474.out 0).trans rfl; have hcz21_1 : w19.cell? ⟨gb474, 1, none⟩ = some (.int .i64 a0_1) := (blk_cell BK474.out 1).trans rfl; have hcz21_2 : w19.cell? ⟨gb474, 2, none⟩ = some (.int .i64 a0_2) := (blk_cell BK474.out 2).trans rfl; have hcz21_3 : w19.cell? ⟨gb474, 3, none⟩ = some (.int .i64 a0_3) := (blk_cell BK474.out 3).trans rfl; have hfz21_0 := blk_frozen BK474.out 0; have hfz21_1 := blk_frozen BK474.out 1; have hfz21_2 := blk_frozen BK474.out 2; have hfz21_3 := blk_frozen BK474.out 3) | ((with_reducible refine gate_callee (f := 57) rfl ?_); refine goesL_ (some 7) rfl rfl Try.func57 (by kernel_rfl) rfl #[.agg #[.int .i64 a0_0, .int .i64 a0_1, .int .i64 a0_2, .int .i64 a0_3]] rfl (by (try simp only [List.map_toArray, List.map_cons, List.map_nil]); first | done | rfl | (simp only [List.length_drop, List.length_take]; rfl)) ?_; (with_reducible refine (cover_isCircle.calls k a0_0 a0_1 a0_2 a0_3 true _ A3.out).mono ?_); rintro e w22 ⟨rfl, hb⟩; refine ⟨_, rfl, ?_⟩; have n0_ := Aside0.mk (blk_below (g := gb474) BKz hb); have n1_ := Aside0.mk (blk_below (g := gb475) BKz hb); have n2_ := Aside0.mk (below_step HBz hb); clear BK474; clear BK475; clear HB; have BK474 := n0_; have BK475 := n1_; have HB := n2_; clear n0_ n1_ n2_; (try clear hb); (try clear hb2); (try clear hk); (try clear hi); have hcz23_0 : w22.cell? ⟨gb475, 0, none⟩ = some (.int .i64 a1_0) := (blk_cell BK475.out 0).trans rfl; have hcz23_1 : w22.cell? ⟨gb475, 1, none⟩ = some (.int .i64 a1_1) := (blk_cell BK475.out 1).trans rfl; have hfz23_0 := blk_frozen BK475.out 0; have hfz23_1 := blk_frozen BK475.out 1) | (go_at_call 58; (with_reducible refine (cover_isPoint.calls a1_0 a1_1 false _ A5.out).mono ?_); rintro e w24 ⟨rfl, hb⟩; have n0_ := Aside0.mk (blk_below (g := gb474) BKz hb); have n1_ := Aside0.mk (blk_below (g := gb475) BKz hb); have n2_ := Aside0.mk (below_step HBz hb); clear BK474; clear BK475; clear HB; have BK474 := n0_; have BK475 := n1_; have HB := n2_; clear n0_ n1_ n2_; (try clear hb); (try clear hb2); (try clear hk); (try clear hi)))
      go_ret2
      exact ⟨by first | rfl | (simp [errW_none, errW_some] <;> rfl) | (simp [*, errW_none, errW_some] <;> rfl), HBz⟩
  · replace c4 := Bool.eq_false_iff.mpr c4
    subst c4
    have H1 : (some (0, 2)) = some (r1, r2) := by rw [if_neg (show ¬ (false = true) by decide)] at H; exact H
    clear H
    have H := H1
    clear H1
    simp only [Option.some.injEq, Prod.mk.injEq] at H
    obtain ⟨rfl, rfl⟩ := H
    go_enter Try.func31, Try.ntmps31
    go_wp2_with (first | ((with_reducible refine gate_dst (N := 2) rfl ?_); refine bxE 2 #[.int .i64 a0_0, .int .i64 a0_1, .int .i64 a0_2, .int .i64 a0_3] 40 ?_; intro gb474 hg w25 hbox hb; have n0_ := Aside0.mk (below_step HBz hb); have n1_ := Aside0.mk (hbox); have n2_ := Aside0.mk ((by rw [hg]; exact (below_size HBz) : w.heap.size ≤ gb474)); have n3_ := Aside0.mk ((by rw [hg]; exact (below_size HBz) : w.heap.size ≤ gb474)); clear HB; have HB := n0_; have BK474 := n1_; have GW474 := n2_; have GE474 := n3_; clear n0_ n1_ n2_ n3_; clear hb hbox hg) | ((with_reducible refine gate_dst (N := 3) rfl ?_); refine bxE 3 #[.int .i64 a1_0, .int .i64 a1_1] 28 ?_; intro gb475 hg w26 hbox hb; have n0_ := Aside0.mk (blk_below (g := gb474) BKz hb); have n1_ := Aside0.mk (below_step HBz hb); have n2_ := Aside0.mk (hbox); have n3_ := Aside0.mk ((by rw [hg]; exact (below_size HBz) : w.heap.size ≤ gb475)); have n4_ := Aside0.mk ((by rw [hg]; exact (below_size HBz) : w.heap.size ≤ gb475)); have n5_ := Aside0.mk ((by rw [hg]; exact Nat.ne_of_lt (blk_lt (g := gb474) BKz) : gb474 ≠ gb475)); have n6_ := Aside0.mk ((by rw [hg]; exact Nat.ne_of_gt (blk_lt (g := gb474) BKz) : gb475 ≠ gb474)); clear BK474; clear HB; have BK474 := n0_; have HB := n1_; have BK475 := n2_; have GW475 := n3_; have GE475 := n4_; have NB474_475 := n5_; have NB475_474 := n6_; clear n0_ n1_ n2_ n3_ n4_ n5_ n6_; clear hb hbox hg; have hnb27 := NB474_475.out; have hnc27 := NB475_474.out; have hcz28_0 : w26.cell? ⟨gb474, 0, none⟩ = some (.int .i64 a0_0) := (blk_cell BK474.out 0).trans rfl; have hcz28_1 : w26.cell? ⟨gb474, 1, none⟩ = some (.int .i64 a0_1) := (blk_cell BK474.out 1).trans rfl; have hcz28_2 : w26.cell? ⟨gb474, 2, none⟩ = some (.int .i64 a0_2) := (blk_cell BK474.out 2).trans rfl; have hcz28_3 : w26.cell? ⟨gb474, 3, none⟩ = some (.int .i64 a0_3) := (blk_cell BK474.out 3).trans rfl; have hfz28_0 := blk_frozen BK474.out 0; have hfz28_1 := blk_frozen BK474.out 1; have hfz28_2 := blk_frozen BK474.out 2; have hfz28_3 := blk_frozen BK474.out 3) | ((with_reducible refine gate_callee (f := 57) rfl ?_); refine goesL_ (some 7) rfl rfl Try.func57 (by kernel_rfl) rfl #[.agg #[.int .i64 a0_0, .int .i64 a0_1, .int .i64 a0_2, .int .i64 a0_3]] rfl (by (try simp only [List.map_toArray, List.map_cons, List.map_nil]); first | done | rfl | (simp only [List.length_drop, List.length_take]; rfl)) ?_; (with_reducible refine (cover_isCircle.calls k a0_0 a0_1 a0_2 a0_3 false _ A3.out).mono ?_); rintro e w29 ⟨rfl, hb⟩; refine ⟨_, rfl, ?_⟩; have n0_ := Aside0.mk (blk_below (g := gb474) BKz hb); have n1_ := Aside0.mk (blk_below (g := gb475) BKz hb); have n2_ := Aside0.mk (below_step HBz hb); clear BK474; clear BK475; clear HB; have BK474 := n0_; have BK475 := n1_; have HB := n2_; clear n0_ n1_ n2_; (try clear hb); (try clear hb2); (try clear hk); (try clear hi)))
    go_ret2
    exact ⟨by first | rfl | (simp [errW_none, errW_some] <;> rfl) | (simp [*, errW_none, errW_some] <;> rfl), HBz⟩
def tickingref01_Point.f (a0_0 : Int) (a0_1 : Int) : Option (Bool) := (tickingref01_Inside.f a0_0).bind fun t480 => (if t480 = true then ((tickingref01_Inside.f a0_1).bind fun t481 => (some t481)) else (some false))
set_option maxHeartbeats 8000000 in
set_option maxRecDepth 100000 in
theorem tickingref01_Point.calls (a0_0 : Int) (a0_1 : Int) (r : Bool) (w : World) (h : tickingref01_Point.f a0_0 a0_1 = some r) :
    Calls Try.prog 32 #[.agg #[.int .i64 a0_0, .int .i64 a0_1]] w fun e w' => e = .returned (.bool r) ∧ Below w.heap.size w w' := by
  have hu28 := Try.underlying28
  have HB := Aside0.mk (Below.refl w.heap.size w)
  have H : ((tickingref01_Inside.f a0_0).bind fun t480 => (if t480 = true then ((tickingref01_Inside.f a0_1).bind fun t481 => (some t481)) else (some false))) = some r := h
  clear h
  replace H := Option.bind_eq_some_iff.mp H
  obtain ⟨t480, A20, H⟩ := H
  replace H : (if t480 = true then ((tickingref01_Inside.f a0_1).bind fun t481 => (some t481)) else (some false)) = some r := H
  have A2 := Aside0.mk A20
  clear A20
  by_cases c3 : t480 = true
  · subst c3
    have H1 : ((tickingref01_Inside.f a0_1).bind fun t481 => (some t481)) = some r := by rw [if_pos rfl] at H; exact H
    clear H
    have H := H1
    clear H1
    replace H := Option.bind_eq_some_iff.mp H
    obtain ⟨t481, A40, H⟩ := H
    replace H : (some t481) = some r := H
    have A4 := Aside0.mk A40
    clear A40
    obtain rfl := Option.some.inj H
    go_enter Try.func32, Try.ntmps32
    go_wp2_with (first | ((with_reducible refine gate_dst (N := 1) rfl ?_); refine bxE 1 #[.int .i64 a0_0, .int .i64 a0_1] 28 ?_; intro gb479 hg w5 hbox hb; have n0_ := Aside0.mk (below_step HBz hb); have n1_ := Aside0.mk (hbox); have n2_ := Aside0.mk ((by rw [hg]; exact (below_size HBz) : w.heap.size ≤ gb479)); have n3_ := Aside0.mk ((by rw [hg]; exact (below_size HBz) : w.heap.size ≤ gb479)); clear HB; have HB := n0_; have BK479 := n1_; have GW479 := n2_; have GE479 := n3_; clear n0_ n1_ n2_ n3_; clear hb hbox hg; have hcz6_0 : w5.cell? ⟨gb479, 0, none⟩ = some (.int .i64 a0_0) := (blk_cell BK479.out 0).trans rfl; have hcz6_1 : w5.cell? ⟨gb479, 1, none⟩ = some (.int .i64 a0_1) := (blk_cell BK479.out 1).trans rfl; have hfz6_0 := blk_frozen BK479.out 0; have hfz6_1 := blk_frozen BK479.out 1) | ((with_reducible refine gate_callee (f := 60) rfl ?_); refine goesL_ (some 5) rfl rfl Try.func60 (by kernel_rfl) rfl #[.int .i64 a0_0] rfl (by (try simp only [List.map_toArray, List.map_cons, List.map_nil]); first | done | rfl | (simp only [List.length_drop, List.length_take]; rfl)) ?_; (with_reducible refine (tickingref01_Inside.calls a0_0 true _ A2.out).mono ?_); rintro e w' ⟨rfl, ⟨nd, rfl⟩⟩; refine ⟨_, rfl, ?_⟩) | (go_at_call 60; (with_reducible refine (tickingref01_Inside.calls a0_1 t481 _ A4.out).mono ?_); rintro e w' ⟨rfl, ⟨nd, rfl⟩⟩))
    go_ret
    exact ⟨by first | rfl | (simp [errW_none, errW_some] <;> rfl) | (simp [*, errW_none, errW_some] <;> rfl), HBz⟩
  · replace c3 := Bool.eq_false_iff.mpr c3
    subst c3
    have H1 : (some false) = some r := by rw [if_neg (show ¬ (false = true) by decide)] at H; exact H
    clear H
    have H := H1
    clear H1
    obtain rfl := Option.some.inj H
    go_enter Try.func32, Try.ntmps32
    go_wp2_with (first | ((with_reducible refine gate_dst (N := 1) rfl ?_); refine bxE 1 #[.int .i64 a0_0, .int .i64 a0_1] 28 ?_; intro gb479 hg w7 hbox hb; have n0_ := Aside0.mk (below_step HBz hb); have n1_ := Aside0.mk (hbox); have n2_ := Aside0.mk ((by rw [hg]; exact (below_size HBz) : w.heap.size ≤ gb479)); have n3_ := Aside0.mk ((by rw [hg]; exact (below_size HBz) : w.heap.size ≤ gb479)); clear HB; have HB := n0_; have BK479 := n1_; have GW479 := n2_; have GE479 := n3_; clear n0_ n1_ n2_ n3_; clear hb hbox hg; have hcz8_0 : w7.cell? ⟨gb479, 0, none⟩ = some (.int .i64 a0_0) := (blk_cell BK479.out 0).trans rfl; have hcz8_1 : w7.cell? ⟨gb479, 1, none⟩ = some (.int .i64 a0_1) := (blk_cell BK479.out 1).trans rfl; have hfz8_0 := blk_frozen BK479.out 0; have hfz8_1 := blk_frozen BK479.out 1) | ((with_reducible refine gate_callee (f := 60) rfl ?_); refine goesL_ (some 5) rfl rfl Try.func60 (by kernel_rfl) rfl #[.int .i64 a0_0] rfl (by (try simp only [List.map_toArray, List.map_cons, List.map_nil]); first | done | rfl | (simp only [List.length_drop, List.length_take]; rfl)) ?_; (with_reducible refine (tickingref01_Inside.calls a0_0 false _ A2.out).mono ?_); rintro e w' ⟨rfl, ⟨nd, rfl⟩⟩; refine ⟨_, rfl, ?_⟩))
    go_ret
    exact ⟨by first | rfl | (simp [errW_none, errW_some] <;> rfl) | (simp [*, errW_none, errW_some] <;> rfl), HBz⟩
def tickingref01_Far.f (a0_0 : Int) (a0_1 : Int) (a0_2 : Int) (a0_3 : Int) (a1_0 : Int) (a1_1 : Int) : Option (Int) := some (wrap64 ((wrap64 ((wrap64 ((wrap64 (a1_0 * a0_2)) - a0_0)) * (wrap64 ((wrap64 (a1_0 * a0_2)) - a0_0)))) + (wrap64 ((wrap64 ((wrap64 (a1_1 * a0_2)) - a0_1)) * (wrap64 ((wrap64 (a1_1 * a0_2)) - a0_1))))))
set_option maxHeartbeats 8000000 in
set_option maxRecDepth 100000 in
theorem tickingref01_Far.calls (a0_0 : Int) (a0_1 : Int) (a0_2 : Int) (a0_3 : Int) (a1_0 : Int) (a1_1 : Int) (r : Int) (w : World) (h : tickingref01_Far.f a0_0 a0_1 a0_2 a0_3 a1_0 a1_1 = some r) :
    Calls Try.prog 33 #[.agg #[.int .i64 a0_0, .int .i64 a0_1, .int .i64 a0_2, .int .i64 a0_3], .agg #[.int .i64 a1_0, .int .i64 a1_1]] w fun e w' => e = .returned (.int .i64 r) ∧ Below w.heap.size w w' := by
  have hu40 := Try.underlying40
  have hu28 := Try.underlying28
  have HB := Aside0.mk (Below.refl w.heap.size w)
  have H : (some (wrap64 ((wrap64 ((wrap64 ((wrap64 (a1_0 * a0_2)) - a0_0)) * (wrap64 ((wrap64 (a1_0 * a0_2)) - a0_0)))) + (wrap64 ((wrap64 ((wrap64 (a1_1 * a0_2)) - a0_1)) * (wrap64 ((wrap64 (a1_1 * a0_2)) - a0_1))))))) = some r := h
  clear h
  obtain rfl := Option.some.inj H
  go_enter Try.func33, Try.ntmps33
  go_wp2_with (first | ((with_reducible refine gate_dst (N := 2) rfl ?_); refine bxE 2 #[.int .i64 a0_0, .int .i64 a0_1, .int .i64 a0_2, .int .i64 a0_3] 40 ?_; intro gb482 hg w3 hbox hb; have n0_ := Aside0.mk (below_step HBz hb); have n1_ := Aside0.mk (hbox); have n2_ := Aside0.mk ((by rw [hg]; exact (below_size HBz) : w.heap.size ≤ gb482)); have n3_ := Aside0.mk ((by rw [hg]; exact (below_size HBz) : w.heap.size ≤ gb482)); clear HB; have HB := n0_; have BK482 := n1_; have GW482 := n2_; have GE482 := n3_; clear n0_ n1_ n2_ n3_; clear hb hbox hg) | ((with_reducible refine gate_dst (N := 3) rfl ?_); refine bxE 3 #[.int .i64 a1_0, .int .i64 a1_1] 28 ?_; intro gb483 hg w4 hbox hb; have n0_ := Aside0.mk (blk_below (g := gb482) BKz hb); have n1_ := Aside0.mk (below_step HBz hb); have n2_ := Aside0.mk (hbox); have n3_ := Aside0.mk ((by rw [hg]; exact (below_size HBz) : w.heap.size ≤ gb483)); have n4_ := Aside0.mk ((by rw [hg]; exact (below_size HBz) : w.heap.size ≤ gb483)); have n5_ := Aside0.mk ((by rw [hg]; exact Nat.ne_of_lt (blk_lt (g := gb482) BKz) : gb482 ≠ gb483)); have n6_ := Aside0.mk ((by rw [hg]; exact Nat.ne_of_gt (blk_lt (g := gb482) BKz) : gb483 ≠ gb482)); clear BK482; clear HB; have BK482 := n0_; have HB := n1_; have BK483 := n2_; have GW483 := n3_; have GE483 := n4_; have NB482_483 := n5_; have NB483_482 := n6_; clear n0_ n1_ n2_ n3_ n4_ n5_ n6_; clear hb hbox hg; have hnb5 := NB483_482.out; have hnc5 := NB482_483.out; have hcz6_0 : w4.cell? ⟨gb483, 0, none⟩ = some (.int .i64 a1_0) := (blk_cell BK483.out 0).trans rfl; have hcz6_1 : w4.cell? ⟨gb483, 1, none⟩ = some (.int .i64 a1_1) := (blk_cell BK483.out 1).trans rfl; have hfz6_0 := blk_frozen BK483.out 0; have hfz6_1 := blk_frozen BK483.out 1; have hcz7_0 : w4.cell? ⟨gb482, 0, none⟩ = some (.int .i64 a0_0) := (blk_cell BK482.out 0).trans rfl; have hcz7_1 : w4.cell? ⟨gb482, 1, none⟩ = some (.int .i64 a0_1) := (blk_cell BK482.out 1).trans rfl; have hcz7_2 : w4.cell? ⟨gb482, 2, none⟩ = some (.int .i64 a0_2) := (blk_cell BK482.out 2).trans rfl; have hcz7_3 : w4.cell? ⟨gb482, 3, none⟩ = some (.int .i64 a0_3) := (blk_cell BK482.out 3).trans rfl; have hfz7_0 := blk_frozen BK482.out 0; have hfz7_1 := blk_frozen BK482.out 1; have hfz7_2 := blk_frozen BK482.out 2; have hfz7_3 := blk_frozen BK482.out 3))
  repeat (go_quiet (first | ((with_reducible refine gate_dst (N := 2) rfl ?_); refine bxE 2 #[.int .i64 a0_0, .int .i64 a0_1, .int .i64 a0_2, .int .i64 a0_3] 40 ?_; intro gb482 hg w3 hbox hb; have n0_ := Aside0.mk (below_step HBz hb); have n1_ := Aside0.mk (hbox); have n2_ := Aside0.mk ((by rw [hg]; exact (below_size HBz) : w.heap.size ≤ gb482)); have n3_ := Aside0.mk ((by rw [hg]; exact (below_size HBz) : w.heap.size ≤ gb482)); clear HB; have HB := n0_; have BK482 := n1_; have GW482 := n2_; have GE482 := n3_; clear n0_ n1_ n2_ n3_; clear hb hbox hg) | ((with_reducible refine gate_dst (N := 3) rfl ?_); refine bxE 3 #[.int .i64 a1_0, .int .i64 a1_1] 28 ?_; intro gb483 hg w4 hbox hb; have n0_ := Aside0.mk (blk_below (g := gb482) BKz hb); have n1_ := Aside0.mk (below_step HBz hb); have n2_ := Aside0.mk (hbox); have n3_ := Aside0.mk ((by rw [hg]; exact (below_size HBz) : w.heap.size ≤ gb483)); have n4_ := Aside0.mk ((by rw [hg]; exact (below_size HBz) : w.heap.size ≤ gb483)); have n5_ := Aside0.mk ((by rw [hg]; exact Nat.ne_of_lt (blk_lt (g := gb482) BKz) : gb482 ≠ gb483)); have n6_ := Aside0.mk ((by rw [hg]; exact Nat.ne_of_gt (blk_lt (g := gb482) BKz) : gb483 ≠ gb482)); clear BK482; clear HB; have BK482 := n0_; have HB := n1_; have BK483 := n2_; have GW483 := n3_; have GE483 := n4_; have NB482_483 := n5_; have NB483_482 := n6_; clear n0_ n1_ n2_ n3_ n4_ n5_ n6_; clear hb hbox hg; have hnb5 := NB483_482.out; have hnc5 := NB482_483.out; have hcz6_0 : w4.cell? ⟨gb483, 0, none⟩ = some (.int .i64 a1_0) := (blk_cell BK483.out 0).trans rfl; have hcz6_1 : w4.cell? ⟨gb483, 1, none⟩ = some (.int .i64 a1_1) := (blk_cell BK483.out 1).trans rfl; have hfz6_0 := blk_frozen BK483.out 0; have hfz6_1 := blk_frozen BK483.out 1; have hcz7_0 : w4.cell? ⟨gb482, 0, none⟩ = some (.int .i64 a0_0) := (blk_cell BK482.out 0).trans rfl; have hcz7_1 : w4.cell? ⟨gb482, 1, none⟩ = some (.int .i64 a0_1) := (blk_cell BK482.out 1).trans rfl; have hcz7_2 : w4.cell? ⟨gb482, 2, none⟩ = some (.int .i64 a0_2) := (blk_cell BK482.out 2).trans rfl; have hcz7_3 : w4.cell? ⟨gb482, 3, none⟩ = some (.int .i64 a0_3) := (blk_cell BK482.out 3).trans rfl; have hfz7_0 := blk_frozen BK482.out 0; have hfz7_1 := blk_frozen BK482.out 1; have hfz7_2 := blk_frozen BK482.out 2; have hfz7_3 := blk_frozen BK482.out 3)); try go_wp2_with (first | ((with_reducible refine gate_dst (N := 2) rfl ?_); refine bxE 2 #[.int .i64 a0_0, .int .i64 a0_1, .int .i64 a0_2, .int .i64 a0_3] 40 ?_; intro gb482 hg w3 hbox hb; have n0_ := Aside0.mk (below_step HBz hb); have n1_ := Aside0.mk (hbox); have n2_ := Aside0.mk ((by rw [hg]; exact (below_size HBz) : w.heap.size ≤ gb482)); have n3_ := Aside0.mk ((by rw [hg]; exact (below_size HBz) : w.heap.size ≤ gb482)); clear HB; have HB := n0_; have BK482 := n1_; have GW482 := n2_; have GE482 := n3_; clear n0_ n1_ n2_ n3_; clear hb hbox hg) | ((with_reducible refine gate_dst (N := 3) rfl ?_); refine bxE 3 #[.int .i64 a1_0, .int .i64 a1_1] 28 ?_; intro gb483 hg w4 hbox hb; have n0_ := Aside0.mk (blk_below (g := gb482) BKz hb); have n1_ := Aside0.mk (below_step HBz hb); have n2_ := Aside0.mk (hbox); have n3_ := Aside0.mk ((by rw [hg]; exact (below_size HBz) : w.heap.size ≤ gb483)); have n4_ := Aside0.mk ((by rw [hg]; exact (below_size HBz) : w.heap.size ≤ gb483)); have n5_ := Aside0.mk ((by rw [hg]; exact Nat.ne_of_lt (blk_lt (g := gb482) BKz) : gb482 ≠ gb483)); have n6_ := Aside0.mk ((by rw [hg]; exact Nat.ne_of_gt (blk_lt (g := gb482) BKz) : gb483 ≠ gb482)); clear BK482; clear HB; have BK482 := n0_; have HB := n1_; have BK483 := n2_; have GW483 := n3_; have GE483 := n4_; have NB482_483 := n5_; have NB483_482 := n6_; clear n0_ n1_ n2_ n3_ n4_ n5_ n6_; clear hb hbox hg; have hnb5 := NB483_482.out; have hnc5 := NB482_483.out; have hcz6_0 : w4.cell? ⟨gb483, 0, none⟩ = some (.int .i64 a1_0) := (blk_cell BK483.out 0).trans rfl; have hcz6_1 : w4.cell? ⟨gb483, 1, none⟩ = some (.int .i64 a1_1) := (blk_cell BK483.out 1).trans rfl; have hfz6_0 := blk_frozen BK483.out 0; have hfz6_1 := blk_frozen BK483.out 1; have hcz7_0 : w4.cell? ⟨gb482, 0, none⟩ = some (.int .i64 a0_0) := (blk_cell BK482.out 0).trans rfl; have hcz7_1 : w4.cell? ⟨gb482, 1, none⟩ = some (.int .i64 a0_1) := (blk_cell BK482.out 1).trans rfl; have hcz7_2 : w4.cell? ⟨gb482, 2, none⟩ = some (.int .i64 a0_2) := (blk_cell BK482.out 2).trans rfl; have hcz7_3 : w4.cell? ⟨gb482, 3, none⟩ = some (.int .i64 a0_3) := (blk_cell BK482.out 3).trans rfl; have hfz7_0 := blk_frozen BK482.out 0; have hfz7_1 := blk_frozen BK482.out 1; have hfz7_2 := blk_frozen BK482.out 2; have hfz7_3 := blk_frozen BK482.out 3)))
  go_ret
  exact ⟨by first | rfl | (simp [errW_none, errW_some] <;> rfl) | (simp [*, errW_none, errW_some] <;> rfl), HBz⟩
mutual
def tickinglaw01_CoverSides.j0 : Nat → Int → Int → Bool → Int → Int → Int → Int → Int → Int → Option (Bool)
  | 0, _, _, _, _, _, _, _, _, _ => none
  | k + 1, x5, x6, x21, x485000, x485001, x485002, x485003, x486000, x486001 => if x21 = true then (if x5 = 0 then (if x6 = 2 then ((tickinglaw01_awake.f k).bind fun t490 => (some t490)) else (some false)) else (some false)) else ((tickingref01_Far.f x485000 x485001 x485002 x485003 x486000 x486001).bind fun t491 => (if t491 < x485003 then (tickinglaw01_CoverSides.j1 k x5 x6 (-1) x485000 x485001 x485002 x485003 x486000 x486001) else (tickinglaw01_CoverSides.j1 k x5 x6 0 x485000 x485001 x485002 x485003 x486000 x486001)))
def tickinglaw01_CoverSides.j1 : Nat → Int → Int → Int → Int → Int → Int → Int → Int → Int → Option (Bool)
  | 0, _, _, _, _, _, _, _, _, _ => none
  | k + 1, x5, x6, x7, x485000, x485001, x485002, x485003, x486000, x486001 => (tickingref01_Far.f x485000 x485001 x485002 x485003 x486000 x486001).bind fun t492 => (if t492 > x485003 then (if x5 = 1 then (if x6 = 0 then ((tickinglaw01_awake.f k).bind fun t493 => (some t493)) else (some false)) else (some false)) else (if x5 = x7 then (if x6 = 0 then ((tickinglaw01_awake.f k).bind fun t494 => (some t494)) else (some false)) else (some false)))
end
def tickinglaw01_CoverSides.f (k : Nat) (a0_0 : Int) (a0_1 : Int) (a0_2 : Int) (a0_3 : Int) (a1_0 : Int) (a1_1 : Int) : Option (Bool) := (cover_Side.f k a0_0 a0_1 a0_2 a0_3 a1_0 a1_1).bind fun bt486 => ((tickingref01_Valid.f k a0_0 a0_1 a0_2 a0_3).bind fun t488 => (if t488 = true then ((tickingref01_Point.f a1_0 a1_1).bind fun t489 => (tickinglaw01_CoverSides.j0 k bt486.1 bt486.2 (!t489) a0_0 a0_1 a0_2 a0_3 a1_0 a1_1)) else (tickinglaw01_CoverSides.j0 k bt486.1 bt486.2 true a0_0 a0_1 a0_2 a0_3 a1_0 a1_1)))
theorem tickinglaw01_CoverSides.mono_l : ∀ k, (∀ y0 y1 y2 y3 y4 y5 y6 y7 y8, LeO (tickinglaw01_CoverSides.j0 k y0 y1 y2 y3 y4 y5 y6 y7 y8) (tickinglaw01_CoverSides.j0 (k + 1) y0 y1 y2 y3 y4 y5 y6 y7 y8)) ∧ (∀ y0 y1 y2 y3 y4 y5 y6 y7 y8, LeO (tickinglaw01_CoverSides.j1 k y0 y1 y2 y3 y4 y5 y6 y7 y8) (tickinglaw01_CoverSides.j1 (k + 1) y0 y1 y2 y3 y4 y5 y6 y7 y8))
  | 0 => ⟨fun _ _ _ _ _ _ _ _ _ r h => by simp [tickinglaw01_CoverSides.j0] at h, fun _ _ _ _ _ _ _ _ _ r h => by simp [tickinglaw01_CoverSides.j1] at h⟩
  | k + 1 => by
    obtain ⟨ih0, ih1⟩ := tickinglaw01_CoverSides.mono_l k
    refine ⟨?_, ?_⟩
    · intro y0 y1 y2 y3 y4 y5 y6 y7 y8
      unfold tickinglaw01_CoverSides.j0
      repeat' first
      | (with_reducible exact ih0 _ _ _ _ _ _ _ _ _)
      | (with_reducible exact ih1 _ _ _ _ _ _ _ _ _)
      | (with_reducible exact cover_Side.mono _ _ _ _ _ _ _)
      | (with_reducible exact tickinglaw01_awake.mono _)
      | (with_reducible exact tickingref01_Valid.mono _ _ _ _ _)
      | (with_reducible exact LeO.refl _)
      | (with_reducible exact LeO.none _)
      | (with_reducible refine LeO.ite ?_ ?_)
      | (with_reducible refine LeO.bind ?_ (fun _ => ?_))
      | exact ih0 _ _ _ _ _ _ _ _ _
      | exact ih1 _ _ _ _ _ _ _ _ _
      | exact cover_Side.mono _ _ _ _ _ _ _
      | exact tickinglaw01_awake.mono _
      | exact tickingref01_Valid.mono _ _ _ _ _
      | exact LeO.none _
      | refine LeO.ite ?_ ?_
      | refine LeO.bind ?_ (fun _ => ?_)
    · intro y0 y1 y2 y3 y4 y5 y6 y7 y8
      unfold tickinglaw01_CoverSides.j1
      repeat' first
      | (with_reducible exact ih0 _ _ _ _ _ _ _ _ _)
      | (with_reducible exact ih1 _ _ _ _ _ _ _ _ _)
      | (with_reducible exact cover_Side.mono _ _ _ _ _ _ _)
      | (with_reducible exact tickinglaw01_awake.mono _)
      | (with_reducible exact tickingref01_Valid.mono _ _ _ _ _)
      | (with_reducible exact LeO.refl _)
      | (with_reducible exact LeO.none _)
      | (with_reducible refine LeO.ite ?_ ?_)
      | (with_reducible refine LeO.bind ?_ (fun _ => ?_))
      | exact ih0 _ _ _ _ _ _ _ _ _
      | exact ih1 _ _ _ _ _ _ _ _ _
      | exact cover_Side.mono _ _ _ _ _ _ _
      | exact tickinglaw01_awake.mono _
      | exact tickingref01_Valid.mono _ _ _ _ _
      | exact LeO.none _
      | refine LeO.ite ?_ ?_
      | refine LeO.bind ?_ (fun _ => ?_)
theorem tickinglaw01_CoverSides.mono : ∀ a0 a1 a2 a3 a4 a5 k, LeO (tickinglaw01_CoverSides.f k a0 a1 a2 a3 a4 a5) (tickinglaw01_CoverSides.f (k + 1) a0 a1 a2 a3 a4 a5) := by
  intro a0 a1 a2 a3 a4 a5 k
  obtain ⟨ih0, ih1⟩ := tickinglaw01_CoverSides.mono_l k
  unfold tickinglaw01_CoverSides.f
  repeat' first
      | (with_reducible exact ih0 _ _ _ _ _ _ _ _ _)
      | (with_reducible exact ih1 _ _ _ _ _ _ _ _ _)
      | (with_reducible exact cover_Side.mono _ _ _ _ _ _ _)
      | (with_reducible exact tickinglaw01_awake.mono _)
      | (with_reducible exact tickingref01_Valid.mono _ _ _ _ _)
      | (with_reducible exact LeO.refl _)
      | (with_reducible exact LeO.none _)
      | (with_reducible refine LeO.ite ?_ ?_)
      | (with_reducible refine LeO.bind ?_ (fun _ => ?_))
      | exact ih0 _ _ _ _ _ _ _ _ _
      | exact ih1 _ _ _ _ _ _ _ _ _
      | exact cover_Side.mono _ _ _ _ _ _ _
      | exact tickinglaw01_awake.mono _
      | exact tickingref01_Valid.mono _ _ _ _ _
      | exact LeO.none _
      | refine LeO.ite ?_ ?_
      | refine LeO.bind ?_ (fun _ => ?_)
set_option maxHeartbeats 8000000 in
set_option maxRecDepth 100000 in
theorem tickinglaw01_CoverSides.calls (k : Nat) (a0_0 : Int) (a0_1 : Int) (a0_2 : Int) (a0_3 : Int) (a1_0 : Int) (a1_1 : Int) (r : Bool) (w : World) (hT : r = true) (h : tickinglaw01_CoverSides.f k a0_0 a0_1 a0_2 a0_3 a1_0 a1_1 = some r) :
    Calls Try.prog 7 #[.agg #[.int .i64 a0_0, .int .i64 a0_1, .int .i64 a0_2, .int .i64 a0_3], .agg #[.int .i64 a1_0, .int .i64 a1_1]] w fun e w' => e = .returned (.bool r) ∧ Below w.heap.size w w' := by
  have HRT := Aside0.mk hT
  clear hT
  have hu40 := Try.underlying40
  have hu28 := Try.underlying28
  have HB := Aside0.mk (Below.refl w.heap.size w)
  have H : ((cover_Side.f k a0_0 a0_1 a0_2 a0_3 a1_0 a1_1).bind fun bt486 => ((tickingref01_Valid.f k a0_0 a0_1 a0_2 a0_3).bind fun t488 => (if t488 = true then ((tickingref01_Point.f a1_0 a1_1).bind fun t489 => (tickinglaw01_CoverSides.j0 k bt486.1 bt486.2 (!t489) a0_0 a0_1 a0_2 a0_3 a1_0 a1_1)) else (tickinglaw01_CoverSides.j0 k bt486.1 bt486.2 true a0_0 a0_1 a0_2 a0_3 a1_0 a1_1)))) = some r := h
  clear h
  replace H := Option.bind_eq_some_iff.mp H
  obtain ⟨⟨t486, t487⟩, A30, H⟩ := H
  replace H : ((tickingref01_Valid.f k a0_0 a0_1 a0_2 a0_3).bind fun t488 => (if t488 = true then ((tickingref01_Point.f a1_0 a1_1).bind fun t489 => (tickinglaw01_CoverSides.j0 k t486 t487 (!t489) a0_0 a0_1 a0_2 a0_3 a1_0 a1_1)) else (tickinglaw01_CoverSides.j0 k t486 t487 true a0_0 a0_1 a0_2 a0_3 a1_0 a1_1))) = some r := H
  have A3 := Aside0.mk A30
  clear A30
  have HC4 := Aside0.mk H
  clear H
  go_enter Try.func7, Try.ntmps7
  go_upto_region 2 with (first | ((with_reducible refine gate_dst (N := 2) rfl ?_); refine bxE 2 #[.int .i64 a0_0, .int .i64 a0_1, .int .i64 a0_2, .int .i64 a0_3] 40 ?_; intro gb484 hg w5 hbox hb; have n0_ := Aside0.mk (below_step HBz hb); have n1_ := Aside0.mk (hbox); have n2_ := Aside0.mk ((by rw [hg]; exact (below_size HBz) : w.heap.size ≤ gb484)); have n3_ := Aside0.mk ((by rw [hg]; exact (below_size HBz) : w.heap.size ≤ gb484)); clear HB; have HB := n0_; have BK484 := n1_; have GW484 := n2_; have GE484 := n3_; clear n0_ n1_ n2_ n3_; clear hb hbox hg) | ((with_reducible refine gate_dst (N := 3) rfl ?_); refine bxE 3 #[.int .i64 a1_0, .int .i64 a1_1] 28 ?_; intro gb485 hg w6 hbox hb; have n0_ := Aside0.mk (blk_below (g := gb484) BKz hb); have n1_ := Aside0.mk (below_step HBz hb); have n2_ := Aside0.mk (hbox); have n3_ := Aside0.mk ((by rw [hg]; exact (below_size HBz) : w.heap.size ≤ gb485)); have n4_ := Aside0.mk ((by rw [hg]; exact (below_size HBz) : w.heap.size ≤ gb485)); have n5_ := Aside0.mk ((by rw [hg]; exact Nat.ne_of_lt (blk_lt (g := gb484) BKz) : gb484 ≠ gb485)); have n6_ := Aside0.mk ((by rw [hg]; exact Nat.ne_of_gt (blk_lt (g := gb484) BKz) : gb485 ≠ gb484)); clear BK484; clear HB; have BK484 := n0_; have HB := n1_; have BK485 := n2_; have GW485 := n3_; have GE485 := n4_; have NB484_485 := n5_; have NB485_484 := n6_; clear n0_ n1_ n2_ n3_ n4_ n5_ n6_; clear hb hbox hg; have hnb7 := NB484_485.out; have hnc7 := NB485_484.out; have hcz8_0 : w6.cell? ⟨gb484, 0, none⟩ = some (.int .i64 a0_0) := (blk_cell BK484.out 0).trans rfl; have hcz8_1 : w6.cell? ⟨gb484, 1, none⟩ = some (.int .i64 a0_1) := (blk_cell BK484.out 1).trans rfl; have hcz8_2 : w6.cell? ⟨gb484, 2, none⟩ = some (.int .i64 a0_2) := (blk_cell BK484.out 2).trans rfl; have hcz8_3 : w6.cell? ⟨gb484, 3, none⟩ = some (.int .i64 a0_3) := (blk_cell BK484.out 3).trans rfl; have hfz8_0 := blk_frozen BK484.out 0; have hfz8_1 := blk_frozen BK484.out 1; have hfz8_2 := blk_frozen BK484.out 2; have hfz8_3 := blk_frozen BK484.out 3; have hcz9_0 : w6.cell? ⟨gb485, 0, none⟩ = some (.int .i64 a1_0) := (blk_cell BK485.out 0).trans rfl; have hcz9_1 : w6.cell? ⟨gb485, 1, none⟩ = some (.int .i64 a1_1) := (blk_cell BK485.out 1).trans rfl; have hfz9_0 := blk_frozen BK485.out 0; have hfz9_1 := blk_frozen BK485.out 1) | ((with_reducible refine gate_callee (f := 31) rfl ?_); refine goesL_ (some 11) rfl rfl Try.func31 (by kernel_rfl) rfl #[.agg #[.int .i64 a0_0, .int .i64 a0_1, .int .i64 a0_2, .int .i64 a0_3], .agg #[.int .i64 a1_0, .int .i64 a1_1]] rfl (by (try simp only [List.map_toArray, List.map_cons, List.map_nil]); first | done | rfl | (simp only [List.length_drop, List.length_take]; rfl)) ?_; (with_reducible refine (cover_Side.calls k a0_0 a0_1 a0_2 a0_3 a1_0 a1_1 t486 t487 _ A3.out).mono ?_); rintro e w10 ⟨rfl, hb⟩; refine ⟨_, rfl, ?_⟩; have n0_ := Aside0.mk (blk_below (g := gb484) BKz hb); have n1_ := Aside0.mk (blk_below (g := gb485) BKz hb); have n2_ := Aside0.mk (below_step HBz hb); clear BK484; clear BK485; clear HB; have BK484 := n0_; have BK485 := n1_; have HB := n2_; clear n0_ n1_ n2_; (try clear hb); (try clear hb2); (try clear hk); (try clear hi)))
  (try simp only [Act.put, List.setIfInBounds_toArray, List.set_cons_zero, List.set_cons_succ])
  go_cut [21] (fun v21 wc => ∃ (kq : Nat) (x21_3 : Bool), v21 = .bool x21_3 ∧ Aside0 (tickinglaw01_CoverSides.j0 kq t486 t487 x21_3 a0_0 a0_1 a0_2 a0_3 a1_0 a1_1 = some r) ∧ Aside0 (kq ≤ k) ∧ Aside0 (wc.heap[gb484]? = some (.cells #[.int .i64 a0_0, .int .i64 a0_1, .int .i64 a0_2, .int .i64 a0_3] 40 (0, 0))) ∧ Aside0 (wc.heap[gb485]? = some (.cells #[.int .i64 a1_0, .int .i64 a1_1] 28 (0, 0))) ∧ Aside0 (Below w.heap.size w wc))
  case first =>
    have H := HC4.out
    clear HC4
    replace H := Option.bind_eq_some_iff.mp H
    obtain ⟨t488, A110, H⟩ := H
    replace H : (if t488 = true then ((tickingref01_Point.f a1_0 a1_1).bind fun t489 => (tickinglaw01_CoverSides.j0 k t486 t487 (!t489) a0_0 a0_1 a0_2 a0_3 a1_0 a1_1)) else (tickinglaw01_CoverSides.j0 k t486 t487 true a0_0 a0_1 a0_2 a0_3 a1_0 a1_1)) = some r := H
    have A11 := Aside0.mk A110
    clear A110
    by_cases c12 : t488 = true
    · subst c12
      have H1 : ((tickingref01_Point.f a1_0 a1_1).bind fun t489 => (tickinglaw01_CoverSides.j0 k t486 t487 (!t489) a0_0 a0_1 a0_2 a0_3 a1_0 a1_1)) = some r := by rw [if_pos rfl] at H; exact H
      clear H
      have H := H1
      clear H1
      replace H := Option.bind_eq_some_iff.mp H
      obtain ⟨t489, A130, H⟩ := H
      replace H : (tickinglaw01_CoverSides.j0 k t486 t487 (!t489) a0_0 a0_1 a0_2 a0_3 a1_0 a1_1) = some r := H
      have A13 := Aside0.mk A130
      clear A130
      have H' := Aside0.mk H
      clear H
      have hnb14 := NB484_485.out
      have hnc14 := NB485_484.out
      have hcz15_0 : w10.cell? ⟨gb484, 0, none⟩ = some (.int .i64 a0_0) := (blk_cell BK484.out 0).trans rfl
      have hcz15_1 : w10.cell? ⟨gb484, 1, none⟩ = some (.int .i64 a0_1) := (blk_cell BK484.out 1).trans rfl
      have hcz15_2 : w10.cell? ⟨gb484, 2, none⟩ = some (.int .i64 a0_2) := (blk_cell BK484.out 2).trans rfl
      have hcz15_3 : w10.cell? ⟨gb484, 3, none⟩ = some (.int .i64 a0_3) := (blk_cell BK484.out 3).trans rfl
      have hfz15_0 := blk_frozen BK484.out 0
      have hfz15_1 := blk_frozen BK484.out 1
      have hfz15_2 := blk_frozen BK484.out 2
      have hfz15_3 := blk_frozen BK484.out 3
      go_wp2_with (first | ((with_reducible refine gate_callee (f := 27) rfl ?_); refine goesL_ (some 15) rfl rfl Try.func27 (by kernel_rfl) rfl #[.agg #[.int .i64 a0_0, .int .i64 a0_1, .int .i64 a0_2, .int .i64 a0_3]] rfl (by (try simp only [List.map_toArray, List.map_cons, List.map_nil]); first | done | rfl | (simp only [List.length_drop, List.length_take]; rfl)) ?_; (with_reducible refine (tickingref01_Valid.calls k a0_0 a0_1 a0_2 a0_3 true _ A11.out).mono ?_); rintro e w16 ⟨rfl, hb⟩; refine ⟨_, rfl, ?_⟩; have n0_ := Aside0.mk (blk_below (g := gb484) BKz hb); have n1_ := Aside0.mk (blk_below (g := gb485) BKz hb); have n2_ := Aside0.mk (below_step HBz hb); clear BK484; clear BK485; clear HB; have BK484 := n0_; have BK485 := n1_; have HB := n2_; clear n0_ n1_ n2_; (try clear hb); (try clear hb2); (try clear hk); (try clear hi); have hcz17_0 : w16.cell? ⟨gb485, 0, none⟩ = some (.int .i64 a1_0) := (blk_cell BK485.out 0).trans rfl; have hcz17_1 : w16.cell? ⟨gb485, 1, none⟩ = some (.int .i64 a1_1) := (blk_cell BK485.out 1).trans rfl; have hfz17_0 := blk_frozen BK485.out 0; have hfz17_1 := blk_frozen BK485.out 1) | (go_at_call 32; (with_reducible refine (tickingref01_Point.calls a1_0 a1_1 t489 _ A13.out).mono ?_); rintro e w18 ⟨rfl, hb⟩; have n0_ := Aside0.mk (blk_below (g := gb484) BKz hb); have n1_ := Aside0.mk (blk_below (g := gb485) BKz hb); have n2_ := Aside0.mk (below_step HBz hb); clear BK484; clear BK485; clear HB; have BK484 := n0_; have BK485 := n1_; have HB := n2_; clear n0_ n1_ n2_; (try clear hb); (try clear hb2); (try clear hk); (try clear hi)))
      go_meet
      case rel => exact ⟨_, (!t489), (by first | rfl | (simp; done) | (simp [*]; done)), H', ⟨by first | omega | exact Nat.le_refl _⟩, ⟨by (with_reducible repeat (first | refine blk_drewN ?_ _ | refine blk_drew ?_ | refine blk_alloc ?_ _)); exact BK484.out⟩, ⟨by (with_reducible repeat (first | refine blk_drewN ?_ _ | refine blk_drew ?_ | refine blk_alloc ?_ _)); exact BK485.out⟩, ⟨HBz⟩⟩
    · replace c12 := Bool.eq_false_iff.mpr c12
      subst c12
      have H1 : (tickinglaw01_CoverSides.j0 k t486 t487 true a0_0 a0_1 a0_2 a0_3 a1_0 a1_1) = some r := by rw [if_neg (show ¬ (false = true) by decide)] at H; exact H
      clear H
      have H := H1
      clear H1
      have H' := Aside0.mk H
      clear H
      have hnb19 := NB484_485.out
      have hnc19 := NB485_484.out
      have hcz20_0 : w10.cell? ⟨gb484, 0, none⟩ = some (.int .i64 a0_0) := (blk_cell BK484.out 0).trans rfl
      have hcz20_1 : w10.cell? ⟨gb484, 1, none⟩ = some (.int .i64 a0_1) := (blk_cell BK484.out 1).trans rfl
      have hcz20_2 : w10.cell? ⟨gb484, 2, none⟩ = some (.int .i64 a0_2) := (blk_cell BK484.out 2).trans rfl
      have hcz20_3 : w10.cell? ⟨gb484, 3, none⟩ = some (.int .i64 a0_3) := (blk_cell BK484.out 3).trans rfl
      have hfz20_0 := blk_frozen BK484.out 0
      have hfz20_1 := blk_frozen BK484.out 1
      have hfz20_2 := blk_frozen BK484.out 2
      have hfz20_3 := blk_frozen BK484.out 3
      go_wp2_with (first | ((with_reducible refine gate_callee (f := 27) rfl ?_); refine goesL_ (some 15) rfl rfl Try.func27 (by kernel_rfl) rfl #[.agg #[.int .i64 a0_0, .int .i64 a0_1, .int .i64 a0_2, .int .i64 a0_3]] rfl (by (try simp only [List.map_toArray, List.map_cons, List.map_nil]); first | done | rfl | (simp only [List.length_drop, List.length_take]; rfl)) ?_; (with_reducible refine (tickingref01_Valid.calls k a0_0 a0_1 a0_2 a0_3 false _ A11.out).mono ?_); rintro e w21 ⟨rfl, hb⟩; refine ⟨_, rfl, ?_⟩; have n0_ := Aside0.mk (blk_below (g := gb484) BKz hb); have n1_ := Aside0.mk (blk_below (g := gb485) BKz hb); have n2_ := Aside0.mk (below_step HBz hb); clear BK484; clear BK485; clear HB; have BK484 := n0_; have BK485 := n1_; have HB := n2_; clear n0_ n1_ n2_; (try clear hb); (try clear hb2); (try clear hk); (try clear hi)))
      go_meet
      case rel => exact ⟨_, (true), (by first | rfl | (simp; done) | (simp [*]; done)), H', ⟨by first | omega | exact Nat.le_refl _⟩, ⟨by (with_reducible repeat (first | refine blk_drewN ?_ _ | refine blk_drew ?_ | refine blk_alloc ?_ _)); exact BK484.out⟩, ⟨by (with_reducible repeat (first | refine blk_drewN ?_ _ | refine blk_drew ?_ | refine blk_alloc ?_ _)); exact BK485.out⟩, ⟨HBz⟩⟩
  case rest =>
    clear HC4
    try clear c1
    try clear c2
    try clear p2
    try clear c3
    try clear c7
    try clear c12
    try clear c14
    try clear c19
    try clear hcz15_0
    try clear hcz15_1
    try clear hcz15_2
    try clear hcz15_3
    try clear hcz17_0
    try clear hcz17_1
    try clear hcz20_0
    try clear hcz20_1
    try clear hcz20_2
    try clear hcz20_3
    try clear hcz8_0
    try clear hcz8_1
    try clear hcz8_2
    try clear hcz8_3
    try clear hcz9_0
    try clear hcz9_1
    try clear hfz15_0
    try clear hfz15_1
    try clear hfz15_2
    try clear hfz15_3
    try clear hfz17_0
    try clear hfz17_1
    try clear hfz20_0
    try clear hfz20_1
    try clear hfz20_2
    try clear hfz20_3
    try clear hfz8_0
    try clear hfz8_1
    try clear hfz8_2
    try clear hfz8_3
    try clear hfz9_0
    try clear hfz9_1
    obtain ⟨kq, x21_3, rfl, HA, HJ3, BK484, BK485, HB⟩ := hcut
    cases kq with
    | zero => exact absurd HA.out (by simp [tickinglaw01_CoverSides.j0])
    | succ kj3 =>
      have H := HA.out
      clear HA
      simp only [tickinglaw01_CoverSides.j0] at H
      by_cases c22 : x21_3 = true
      · subst c22
        have H1 : (if t486 = 0 then (if t487 = 2 then ((tickinglaw01_awake.f kj3).bind fun t490 => (some t490)) else (some false)) else (some false)) = some r := by rw [if_pos rfl] at H; exact H
        clear H
        have H := H1
        clear H1
        by_cases c23 : t486 = 0
        · rw [if_pos c23] at H
          have c23b0 : (t486 == 0) = true := beq_iff_eq.mpr c23
          have c23b1 : (t486 != 0) = false := bne_eq_false_iff_eq.mpr c23
          clear c23
          by_cases c24 : t487 = 2
          · rw [if_pos c24] at H
            have c24b0 : (t487 == 2) = true := beq_iff_eq.mpr c24
            have c24b1 : (t487 != 2) = false := bne_eq_false_iff_eq.mpr c24
            clear c24
            replace H := Option.bind_eq_some_iff.mp H
            obtain ⟨t490, A250, H⟩ := H
            replace H : (some t490) = some r := H
            have A25 := Aside0.mk A250
            clear A250
            obtain rfl := Option.some.inj H
            go_wp2_with (first | (go_at_call 21; (with_reducible refine (tickinglaw01_awake.calls kj3  t490 _ A25.out).mono ?_); rintro e w26 ⟨rfl, hb⟩; have n0_ := Aside0.mk (blk_below (g := gb484) BKz hb); have n1_ := Aside0.mk (blk_below (g := gb485) BKz hb); have n2_ := Aside0.mk (below_step HBz hb); clear BK484; clear BK485; clear HB; have BK484 := n0_; have BK485 := n1_; have HB := n2_; clear n0_ n1_ n2_; (try clear hb); (try clear hb2); (try clear hk); (try clear hi)))
            go_ret
            exact ⟨by first | rfl | (simp [errW_none, errW_some] <;> rfl) | (simp [*, errW_none, errW_some] <;> rfl), HBz⟩
          · rw [if_neg c24] at H
            have c24b0 : (t487 == 2) = false := beq_eq_false_iff_ne.mpr c24
            have c24b1 : (t487 != 2) = true := bne_iff_ne.mpr c24
            exact absurd (H.trans (congrArg some HRT.out)) (by simp)
        · rw [if_neg c23] at H
          have c23b0 : (t486 == 0) = false := beq_eq_false_iff_ne.mpr c23
          have c23b1 : (t486 != 0) = true := bne_iff_ne.mpr c23
          exact absurd (H.trans (congrArg some HRT.out)) (by simp)
      · replace c22 := Bool.eq_false_iff.mpr c22
        subst c22
        have H1 : ((tickingref01_Far.f a0_0 a0_1 a0_2 a0_3 a1_0 a1_1).bind fun t491 => (if t491 < a0_3 then (tickinglaw01_CoverSides.j1 kj3 t486 t487 (-1) a0_0 a0_1 a0_2 a0_3 a1_0 a1_1) else (tickinglaw01_CoverSides.j1 kj3 t486 t487 0 a0_0 a0_1 a0_2 a0_3 a1_0 a1_1))) = some r := by rw [if_neg (show ¬ (false = true) by decide)] at H; exact H
        clear H
        have H := H1
        clear H1
        replace H := Option.bind_eq_some_iff.mp H
        obtain ⟨t491, A270, H⟩ := H
        replace H : (if t491 < a0_3 then (tickinglaw01_CoverSides.j1 kj3 t486 t487 (-1) a0_0 a0_1 a0_2 a0_3 a1_0 a1_1) else (tickinglaw01_CoverSides.j1 kj3 t486 t487 0 a0_0 a0_1 a0_2 a0_3 a1_0 a1_1)) = some r := H
        have A27 := Aside0.mk A270
        clear A270
        have HC28 := Aside0.mk H
        clear H
        try go_wp2
        have n0_ := Aside0.mk (blk_drew BK484.out)
        have n1_ := Aside0.mk (blk_drew BK485.out)
        have n2_ := Aside0.mk (below_drew1 HB.out)
        clear BK484
        clear BK485
        clear HB
        have BK484 := n0_
        have BK485 := n1_
        have HB := n2_
        clear n0_ n1_ n2_
        refine stz (fun w' => w'.cell? ⟨gb484, 0, none⟩ = some (.int .i64 a0_0) ∧ w'.cell? ⟨gb484, 1, none⟩ = some (.int .i64 a0_1) ∧ w'.cell? ⟨gb484, 2, none⟩ = some (.int .i64 a0_2) ∧ w'.cell? ⟨gb484, 3, none⟩ = some (.int .i64 a0_3) ∧ w'.cell? ⟨gb485, 0, none⟩ = some (.int .i64 a1_0) ∧ w'.cell? ⟨gb485, 1, none⟩ = some (.int .i64 a1_1)) [] (bn 6 0) ⟨(blk_cell BK484.out 0).trans rfl, (blk_cell BK484.out 1).trans rfl, (blk_cell BK484.out 2).trans rfl, (blk_cell BK484.out 3).trans rfl, (blk_cell BK485.out 0).trans rfl, (blk_cell BK485.out 1).trans rfl⟩ (fun hHeld => ?_)
        generalize wc.drew = w29 at BK484 BK485 HB hHeld ⊢
        refine pz 3 (some 34) (bn 6 8) ?_
        refine tz 0 (some 31) (bn 6 9) hHeld ?_
        refine tz 1 (some 32) (bn 6 11) hHeld ?_
        refine tz 4 (some 35) (bn 6 27) hHeld ?_
        refine oz 2 (some 33) (bn 6 31) (fun K hK => ?_)
        refine gz Try.func33 #[.agg #[.int .i64 a0_0, .int .i64 a0_1, .int .i64 a0_2, .int .i64 a0_3], .agg #[.int .i64 a1_0, .int .i64 a1_1]] ?_
        with_reducible refine (tickingref01_Far.calls a0_0 a0_1 a0_2 a0_3 a1_0 a1_1 t491 _ A27.out).mono ?_
        rintro e w30 ⟨rfl, hb⟩
        refine ⟨_, rfl, ?_⟩
        have n0_ := Aside0.mk (blk_below (g := gb484) BKz hb)
        have n1_ := Aside0.mk (blk_below (g := gb485) BKz hb)
        have n2_ := Aside0.mk (below_step HBz hb)
        clear BK484
        clear BK485
        clear HB
        have BK484 := n0_
        have BK485 := n1_
        have HB := n2_
        clear n0_ n1_ n2_
        (try clear hb)
        (try clear hb2)
        (try clear hk)
        (try clear hi)
        refine hK.out _ _ ⟨(blk_cell BK484.out 0).trans rfl, (blk_cell BK484.out 1).trans rfl, (blk_cell BK484.out 2).trans rfl, (blk_cell BK484.out 3).trans rfl, (blk_cell BK485.out 0).trans rfl, (blk_cell BK485.out 1).trans rfl⟩ (fun hHeld => ?_)
        clear hK K
        refine nz (some 33) ?_
        refine pz 5 (some 36) (bn 6 63) ?_
        refine done_ (by kernel_rfl) ?_
        go_upto_if 36 with (fail)
        go_cut [7] (fun v7 wc => ∃ (kq : Nat) (x7_27 : Int), v7 = .int .i64 x7_27 ∧ Aside0 (tickinglaw01_CoverSides.j1 kq t486 t487 x7_27 a0_0 a0_1 a0_2 a0_3 a1_0 a1_1 = some r) ∧ Aside0 (kq ≤ kj3) ∧ Aside0 (wc.heap[gb484]? = some (.cells #[.int .i64 a0_0, .int .i64 a0_1, .int .i64 a0_2, .int .i64 a0_3] 40 (0, 0))) ∧ Aside0 (wc.heap[gb485]? = some (.cells #[.int .i64 a1_0, .int .i64 a1_1] 28 (0, 0))) ∧ Aside0 (Below w.heap.size w wc))
        case first =>
          have H := HC28.out
          clear HC28
          by_cases c31 : t491 < a0_3
          · rw [if_pos c31] at H
            have c31b0 : decide (t491 < a0_3) = true := decide_eq_true c31
            clear c31
            (first | rw [c31b0] | (simp only [i64_w, i32_w]; rw [c31b0]) | skip)
            have H' := Aside0.mk H
            clear H
            go_wp2
            go_meet
            case rel => exact ⟨_, ((-1)), (by first | rfl | (simp; done) | (simp [*]; done)), H', ⟨by have := HJ3.out; first | omega | exact Nat.le_refl _⟩, ⟨by (with_reducible repeat (first | refine blk_drewN ?_ _ | refine blk_drew ?_ | refine blk_alloc ?_ _)); exact BK484.out⟩, ⟨by (with_reducible repeat (first | refine blk_drewN ?_ _ | refine blk_drew ?_ | refine blk_alloc ?_ _)); exact BK485.out⟩, ⟨HBz⟩⟩
          · rw [if_neg c31] at H
            have c31b0 : decide (t491 < a0_3) = false := decide_eq_false c31
            clear c31
            (first | rw [c31b0] | (simp only [i64_w, i32_w]; rw [c31b0]) | skip)
            have H' := Aside0.mk H
            clear H
            go_wp2
            go_meet
            case rel => exact ⟨_, (0), (by first | rfl | (simp; done) | (simp [*]; done)), H', ⟨by have := HJ3.out; first | omega | exact Nat.le_refl _⟩, ⟨by (with_reducible repeat (first | refine blk_drewN ?_ _ | refine blk_drew ?_ | refine blk_alloc ?_ _)); exact BK484.out⟩, ⟨by (with_reducible repeat (first | refine blk_drewN ?_ _ | refine blk_drew ?_ | refine blk_alloc ?_ _)); exact BK485.out⟩, ⟨HBz⟩⟩
        case rest =>
          clear HC28
          try clear c1
          try clear c2
          try clear p2
          try clear c3
          try clear c7
          try clear c12
          try clear c14
          try clear c19
          try clear c22
          try clear c23
          try clear c23b0
          try clear c23b1
          try clear c24
          try clear c24b0
          try clear c24b1
          try clear c27
          try clear c31
          try clear c31b0
          try clear hcz15_0
          try clear hcz15_1
          try clear hcz15_2
          try clear hcz15_3
          try clear hcz17_0
          try clear hcz17_1
          try clear hcz20_0
          try clear hcz20_1
          try clear hcz20_2
          try clear hcz20_3
          try clear hcz8_0
          try clear hcz8_1
          try clear hcz8_2
          try clear hcz8_3
          try clear hcz9_0
          try clear hcz9_1
          try clear hfz15_0
          try clear hfz15_1
          try clear hfz15_2
          try clear hfz15_3
          try clear hfz17_0
          try clear hfz17_1
          try clear hfz20_0
          try clear hfz20_1
          try clear hfz20_2
          try clear hfz20_3
          try clear hfz8_0
          try clear hfz8_1
          try clear hfz8_2
          try clear hfz8_3
          try clear hfz9_0
          try clear hfz9_1
          try clear p2
          obtain ⟨kq, x7_27, rfl, HA, HJ27, BK484, BK485, HB⟩ := hcut
          cases kq with
          | zero => exact absurd HA.out (by simp [tickinglaw01_CoverSides.j1])
          | succ kj27 =>
            have H := HA.out
            clear HA
            simp only [tickinglaw01_CoverSides.j1] at H
            replace H := Option.bind_eq_some_iff.mp H
            obtain ⟨t492, A320, H⟩ := H
            replace H : (if t492 > a0_3 then (if t486 = 1 then (if t487 = 0 then ((tickinglaw01_awake.f kj27).bind fun t493 => (some t493)) else (some false)) else (some false)) else (if t486 = x7_27 then (if t487 = 0 then ((tickinglaw01_awake.f kj27).bind fun t494 => (some t494)) else (some false)) else (some false))) = some r := H
            have A32 := Aside0.mk A320
            clear A320
            by_cases c33 : t492 > a0_3
            · rw [if_pos c33] at H
              have c33b0 : decide (a0_3 < t492) = true := decide_eq_true c33
              clear c33
              by_cases c34 : t486 = 1
              · rw [if_pos c34] at H
                have c34b0 : (t486 == 1) = true := beq_iff_eq.mpr c34
                have c34b1 : (t486 != 1) = false := bne_eq_false_iff_eq.mpr c34
                clear c34
                by_cases c35 : t487 = 0
                · rw [if_pos c35] at H
                  have c35b0 : (t487 == 0) = true := beq_iff_eq.mpr c35
                  have c35b1 : (t487 != 0) = false := bne_eq_false_iff_eq.mpr c35
                  clear c35
                  replace H := Option.bind_eq_some_iff.mp H
                  obtain ⟨t493, A360, H⟩ := H
                  replace H : (some t493) = some r := H
                  have A36 := Aside0.mk A360
                  clear A360
                  obtain rfl := Option.some.inj H
                  try go_wp2
                  have n0_ := Aside0.mk (blk_drew BK484.out)
                  have n1_ := Aside0.mk (blk_drew BK485.out)
                  have n2_ := Aside0.mk (below_drew1 HB.out)
                  clear BK484
                  clear BK485
                  clear HB
                  have BK484 := n0_
                  have BK485 := n1_
                  have HB := n2_
                  clear n0_ n1_ n2_
                  refine stz (fun w' => w'.cell? ⟨gb484, 0, none⟩ = some (.int .i64 a0_0) ∧ w'.cell? ⟨gb484, 1, none⟩ = some (.int .i64 a0_1) ∧ w'.cell? ⟨gb484, 2, none⟩ = some (.int .i64 a0_2) ∧ w'.cell? ⟨gb484, 3, none⟩ = some (.int .i64 a0_3) ∧ w'.cell? ⟨gb485, 0, none⟩ = some (.int .i64 a1_0) ∧ w'.cell? ⟨gb485, 1, none⟩ = some (.int .i64 a1_1)) [] (bn 6 0) ⟨(blk_cell BK484.out 0).trans rfl, (blk_cell BK484.out 1).trans rfl, (blk_cell BK484.out 2).trans rfl, (blk_cell BK484.out 3).trans rfl, (blk_cell BK485.out 0).trans rfl, (blk_cell BK485.out 1).trans rfl⟩ (fun hHeld => ?_)
                  generalize wc.drew = w37 at BK484 BK485 HB hHeld ⊢
                  refine pz 3 (some 40) (bn 6 8) ?_
                  refine tz 0 (some 37) (bn 6 9) hHeld ?_
                  refine tz 1 (some 38) (bn 6 11) hHeld ?_
                  refine tz 4 (some 41) (bn 6 27) hHeld ?_
                  refine oz 2 (some 39) (bn 6 31) (fun K hK => ?_)
                  refine gz Try.func33 #[.agg #[.int .i64 a0_0, .int .i64 a0_1, .int .i64 a0_2, .int .i64 a0_3], .agg #[.int .i64 a1_0, .int .i64 a1_1]] ?_
                  with_reducible refine (tickingref01_Far.calls a0_0 a0_1 a0_2 a0_3 a1_0 a1_1 t492 _ A32.out).mono ?_
                  rintro e w38 ⟨rfl, hb⟩
                  refine ⟨_, rfl, ?_⟩
                  have n0_ := Aside0.mk (blk_below (g := gb484) BKz hb)
                  have n1_ := Aside0.mk (blk_below (g := gb485) BKz hb)
                  have n2_ := Aside0.mk (below_step HBz hb)
                  clear BK484
                  clear BK485
                  clear HB
                  have BK484 := n0_
                  have BK485 := n1_
                  have HB := n2_
                  clear n0_ n1_ n2_
                  (try clear hb)
                  (try clear hb2)
                  (try clear hk)
                  (try clear hi)
                  refine hK.out _ _ ⟨(blk_cell BK484.out 0).trans rfl, (blk_cell BK484.out 1).trans rfl, (blk_cell BK484.out 2).trans rfl, (blk_cell BK484.out 3).trans rfl, (blk_cell BK485.out 0).trans rfl, (blk_cell BK485.out 1).trans rfl⟩ (fun hHeld => ?_)
                  clear hK K
                  refine nz (some 39) ?_
                  refine pz 5 (some 42) (bn 6 63) ?_
                  refine done_ (by kernel_rfl) ?_
                  try go_wp2_with (first | (go_at_call 21; (with_reducible refine (tickinglaw01_awake.calls kj27  t493 _ A36.out).mono ?_); rintro e w39 ⟨rfl, hb⟩; have n0_ := Aside0.mk (blk_below (g := gb484) BKz hb); have n1_ := Aside0.mk (blk_below (g := gb485) BKz hb); have n2_ := Aside0.mk (below_step HBz hb); clear BK484; clear BK485; clear HB; have BK484 := n0_; have BK485 := n1_; have HB := n2_; clear n0_ n1_ n2_; (try clear hb); (try clear hb2); (try clear hk); (try clear hi)))
                  go_ret
                  exact ⟨by first | rfl | (simp [errW_none, errW_some] <;> rfl) | (simp [*, errW_none, errW_some] <;> rfl), HBz⟩
                · rw [if_neg c35] at H
                  have c35b0 : (t487 == 0) = false := beq_eq_false_iff_ne.mpr c35
                  have c35b1 : (t487 != 0) = true := bne_iff_ne.mpr c35
                  exact absurd (H.trans (congrArg some HRT.out)) (by simp)
              · rw [if_neg c34] at H
                have c34b0 : (t486 == 1) = false := beq_eq_false_iff_ne.mpr c34
                have c34b1 : (t486 != 1) = true := bne_iff_ne.mpr c34
                exact absurd (H.trans (congrArg some HRT.out)) (by simp)
            · rw [if_neg c33] at H
              have c33b0 : decide (a0_3 < t492) = false := decide_eq_false c33
              clear c33
              by_cases c40 : t486 = x7_27
              · rw [if_pos c40] at H
                have c40b0 : (t486 == x7_27) = true := beq_iff_eq.mpr c40
                have c40b1 : (t486 != x7_27) = false := bne_eq_false_iff_eq.mpr c40
                clear c40
                by_cases c41 : t487 = 0
                · rw [if_pos c41] at H
                  have c41b0 : (t487 == 0) = true := beq_iff_eq.mpr c41
                  have c41b1 : (t487 != 0) = false := bne_eq_false_iff_eq.mpr c41
                  clear c41
                  replace H := Option.bind_eq_some_iff.mp H
                  obtain ⟨t494, A420, H⟩ := H
                  replace H : (some t494) = some r := H
                  have A42 := Aside0.mk A420
                  clear A420
                  obtain rfl := Option.some.inj H
                  try go_wp2
                  have n0_ := Aside0.mk (blk_drew BK484.out)
                  have n1_ := Aside0.mk (blk_drew BK485.out)
                  have n2_ := Aside0.mk (below_drew1 HB.out)
                  clear BK484
                  clear BK485
                  clear HB
                  have BK484 := n0_
                  have BK485 := n1_
                  have HB := n2_
                  clear n0_ n1_ n2_
                  refine stz (fun w' => w'.cell? ⟨gb484, 0, none⟩ = some (.int .i64 a0_0) ∧ w'.cell? ⟨gb484, 1, none⟩ = some (.int .i64 a0_1) ∧ w'.cell? ⟨gb484, 2, none⟩ = some (.int .i64 a0_2) ∧ w'.cell? ⟨gb484, 3, none⟩ = some (.int .i64 a0_3) ∧ w'.cell? ⟨gb485, 0, none⟩ = some (.int .i64 a1_0) ∧ w'.cell? ⟨gb485, 1, none⟩ = some (.int .i64 a1_1)) [] (bn 6 0) ⟨(blk_cell BK484.out 0).trans rfl, (blk_cell BK484.out 1).trans rfl, (blk_cell BK484.out 2).trans rfl, (blk_cell BK484.out 3).trans rfl, (blk_cell BK485.out 0).trans rfl, (blk_cell BK485.out 1).trans rfl⟩ (fun hHeld => ?_)
                  generalize wc.drew = w43 at BK484 BK485 HB hHeld ⊢
                  refine pz 3 (some 40) (bn 6 8) ?_
                  refine tz 0 (some 37) (bn 6 9) hHeld ?_
                  refine tz 1 (some 38) (bn 6 11) hHeld ?_
                  refine tz 4 (some 41) (bn 6 27) hHeld ?_
                  refine oz 2 (some 39) (bn 6 31) (fun K hK => ?_)
                  refine gz Try.func33 #[.agg #[.int .i64 a0_0, .int .i64 a0_1, .int .i64 a0_2, .int .i64 a0_3], .agg #[.int .i64 a1_0, .int .i64 a1_1]] ?_
                  with_reducible refine (tickingref01_Far.calls a0_0 a0_1 a0_2 a0_3 a1_0 a1_1 t492 _ A32.out).mono ?_
                  rintro e w44 ⟨rfl, hb⟩
                  refine ⟨_, rfl, ?_⟩
                  have n0_ := Aside0.mk (blk_below (g := gb484) BKz hb)
                  have n1_ := Aside0.mk (blk_below (g := gb485) BKz hb)
                  have n2_ := Aside0.mk (below_step HBz hb)
                  clear BK484
                  clear BK485
                  clear HB
                  have BK484 := n0_
                  have BK485 := n1_
                  have HB := n2_
                  clear n0_ n1_ n2_
                  (try clear hb)
                  (try clear hb2)
                  (try clear hk)
                  (try clear hi)
                  refine hK.out _ _ ⟨(blk_cell BK484.out 0).trans rfl, (blk_cell BK484.out 1).trans rfl, (blk_cell BK484.out 2).trans rfl, (blk_cell BK484.out 3).trans rfl, (blk_cell BK485.out 0).trans rfl, (blk_cell BK485.out 1).trans rfl⟩ (fun hHeld => ?_)
                  clear hK K
                  refine nz (some 39) ?_
                  refine pz 5 (some 42) (bn 6 63) ?_
                  refine done_ (by kernel_rfl) ?_
                  try go_wp2_with (first | (go_at_call 21; (with_reducible refine (tickinglaw01_awake.calls kj27  t494 _ A42.out).mono ?_); rintro e w45 ⟨rfl, hb⟩; have n0_ := Aside0.mk (blk_below (g := gb484) BKz hb); have n1_ := Aside0.mk (blk_below (g := gb485) BKz hb); have n2_ := Aside0.mk (below_step HBz hb); clear BK484; clear BK485; clear HB; have BK484 := n0_; have BK485 := n1_; have HB := n2_; clear n0_ n1_ n2_; (try clear hb); (try clear hb2); (try clear hk); (try clear hi)))
                  go_ret
                  exact ⟨by first | rfl | (simp [errW_none, errW_some] <;> rfl) | (simp [*, errW_none, errW_some] <;> rfl), HBz⟩
                · rw [if_neg c41] at H
                  have c41b0 : (t487 == 0) = false := beq_eq_false_iff_ne.mpr c41
                  have c41b1 : (t487 != 0) = true := bne_iff_ne.mpr c41
                  exact absurd (H.trans (congrArg some HRT.out)) (by simp)
              · rw [if_neg c40] at H
                have c40b0 : (t486 == x7_27) = false := beq_eq_false_iff_ne.mpr c40
                have c40b1 : (t486 != x7_27) = true := bne_iff_ne.mpr c40
                exact absurd (H.trans (congrArg some HRT.out)) (by simp)
def tickinglaw01_points.f (l0 : List (S28)) : Option ((List (S28))) := if 0 ≤ (mn (l0.length : Int) 65) then (if (mn (l0.length : Int) 65) ≤ (l0.length : Int) then ((some (l0.take ((mn (l0.length : Int) 65) : Int).toNat : List (S28))).bind fun y495 => (if ([] : List (S28)).length + y495.length < 8796093022208 then (some (([] : List (S28)) ++ y495)) else (none))) else (none)) else (none)
set_option maxHeartbeats 8000000 in
set_option maxRecDepth 100000 in
theorem tickinglaw01_points.calls (A0 : Option Addr) (c0 : Nat) (l0 : List (S28)) (r : List (S28)) (w : World) (hr0 : Kd.C k28 w A0 l0.length l0) (hc0 : l0.length ≤ c0) (h : tickinglaw01_points.f l0 = some r) :
    Calls Try.prog 34 #[.slice A0 l0.length c0] w fun e w' => ∃ v0_ : Value, e = .returned (v0_) ∧ Kd.R k28 28 w' w.heap.size (fun _ => True) v0_ r ∧ Below w.heap.size w w' := by
  have HR0 := Aside0.mk hr0
  have HC0 := Aside0.mk hc0
  clear hr0 hc0
  have HB := Aside0.mk (Below.refl w.heap.size w)
  have H : (if 0 ≤ (mn (l0.length : Int) 65) then (if (mn (l0.length : Int) 65) ≤ (l0.length : Int) then ((some (l0.take ((mn (l0.length : Int) 65) : Int).toNat : List (S28))).bind fun y495 => (if ([] : List (S28)).length + y495.length < 8796093022208 then (some (([] : List (S28)) ++ y495)) else (none))) else (none)) else (none)) = some r := h
  clear h
  obtain ⟨ji2, hji2⟩ : ∃ j_ : Int, (mn (l0.length : Int) 65) = j_ := ⟨_, rfl⟩
  replace H : (if 0 ≤ (ji2) then (if (ji2) ≤ (l0.length : Int) then ((some (l0.take ((ji2) : Int).toNat : List (S28))).bind fun y495 => (if ([] : List (S28)).length + y495.length < 8796093022208 then (some (([] : List (S28)) ++ y495)) else (none))) else (none)) else (none)) = some r := by first | (rw [hji2] at H; exact H) | (simp only [hji2] at H ⊢; exact H)
  (try (have hji2h : ji2 ≤ 65 := by (rw [← hji2]; unfold mn; (repeat' split) <;> omega)))
  (try (have hji2g : ji2 ≤ 64 := by omega))
  (try (have hji2l : 0 ≤ ji2 := by (rw [← hji2]; unfold mn; (repeat' split) <;> omega)))
  (try (have hji2m : 0 ≤ ji2 := by omega))
  have hji2_ : (if 65 < (l0.length : Int) then 65 else (l0.length : Int)) = ji2 := hji2
  by_cases c3 : 0 ≤ (ji2)
  · rw [if_pos c3] at H
    have c3b0 := eq_true c3
    have c3b1 : decide (0 ≤ (ji2)) = true := decide_eq_true c3
    clear c3
    by_cases c4 : (ji2) ≤ (l0.length : Int)
    · rw [if_pos c4] at H
      have c4b0 := eq_true c4
      have c4b1 : decide ((ji2) ≤ (l0.length : Int)) = true := decide_eq_true c4
      clear c4
      obtain ⟨y495, hy495⟩ : ∃ y_ : List (S28), y_ = (l0.take ((ji2) : Int).toNat) := ⟨_, rfl⟩
      replace H : (if ([] : List (S28)).length + y495.length < 8796093022208 then (some (([] : List (S28)) ++ y495)) else (none)) = some r := by first | (rw [hy495]; with_reducible exact H) | (have H2_ := (Option.bind_some _ _).symm.trans H; rw [hy495]; with_reducible exact H2_) | (have H2_ := (Option.bind_some _ _).symm.trans H; with_reducible exact H2_) | with_reducible exact H | (rw [hy495]; exact H) | exact H
      have Ny495 := Aside0.mk hy495
      clear hy495
      by_cases c5 : ([] : List (S28)).length + y495.length < 8796093022208
      · rw [if_pos c5] at H
        have LMc5 := Aside0.mk c5
        clear c5
        obtain ⟨y499, hy499⟩ : ∃ y_ : List (S28), y_ = (([] : List (S28)) ++ y495) := ⟨_, rfl⟩
        replace H : (some y499) = some r := by first | (rw [hy499]; with_reducible exact H) | (have H2_ := (Option.bind_some _ _).symm.trans H; rw [hy499]; with_reducible exact H2_) | (have H2_ := (Option.bind_some _ _).symm.trans H; with_reducible exact H2_) | with_reducible exact H | (rw [hy499]; exact H) | exact H
        have Ny499 := Aside0.mk hy499
        clear hy499
        obtain rfl := Option.some.inj H
        have q6 : ((ji2) : Int) ≤ ((l0.length : Int) : Int) := of_decide_eq_true (by first | (with_reducible assumption) | assumption)
        obtain ⟨i06, hi06, _, hsz6, _⟩ := info_parts info28
        have hroom6 : l0.length ≤ c0 := HC0.out
        have hC6 : Kd.C k28 _ A0 l0.length l0 := HR0.out
        have hcut6 := cut_to (P := Try.prog) 37 28 .i64 Try.underlying37 hi06 A0 l0.length c0 (ji2) (of_decide_eq_true (by first | (with_reducible assumption) | assumption)) q6 hroom6
        have hr6 := Kd.C_take (m := ((ji2) : Int).toNat) hC6 (by omega)
        have hy6 : y495.length = ((ji2) : Int).toNat := (by rw [Ny495.out, List.length_take]; omega)
        rw [← Ny495.out] at hr6
        rw [← hy6] at hcut6
        have HR498 := Aside0.mk hr6
        have HC498 := Aside0.mk (show y495.length ≤ c0 from by omega)
        clear hr6 hC6 hroom6 hi06 hsz6
        have KY6 := Aside0.mk hy6
        clear hy6
        replace q6 := eq_true q6
        go_enter Try.func34, Try.ntmps34
        go_wp2_with (first | ((with_reducible refine gate_builtin (b := .append) (xs := #[.tmp 4, .tmp 9]) rfl ?_); at_builtin; refine Kd.R_append_rows k28 (w0 := w) w.heap.size rfl (.tmp 4) (.tmp 9) 37 28 (.agg #[(.int .i64 0), (.int .i64 0)]) 16 rfl Try.underlying37 info28 rfl (by decide) (by omega) (.slice none 0 0) ([] : List (S28)) y495 _ _ _ (fun _ => True) (fun _ => False) rfl rfl ?aO ?aR (fun _ _ h => h) (fun _ h => h.elim) ?aF ?aB ?aS ?aL ?_; (case aR => repeat (first | exact HR498.out | (with_reducible refine Kd.C_alloc ?_ _) | (with_reducible refine Kd.C_drewN ?_ _) | (with_reducible refine Kd.C_drew ?_))); (case aB => exact HBz); (case aF => exact (fun _ _ => trivial)); (case aO => exact ((Kd.R_nil _ _ _ _ (fun _ => True)))); (case aS => exact (below_size HBz)); (case aL => have := LMc5.out; omega); intro v500 w7 ho hb hg hat; rw [← Ny499.out] at ho; have n0_ := Aside0.mk (hb); have n1_ := Aside0.mk (ho); clear HB; have HB := n0_; have HO501 := n1_; clear n0_ n1_; clear ho hb hg hat))
        go_ret
        exact ⟨_, by first | rfl | (simp [errW_none, errW_some] <;> rfl) | (simp only [← hji2]; first | rfl | (simp [errW_none, errW_some] <;> rfl)) | (simp [*, errW_none, errW_some] <;> rfl), by (with_reducible repeat (first | apply Kd.R_alloc | apply Kd.R_drewN | apply Kd.R_drew)); exact HO501.out, HBz⟩
      · rw [if_neg c5] at H
        exact absurd H (by simp)
    · rw [if_neg c4] at H
      exact absurd H (by simp)
  · rw [if_neg c3] at H
    exact absurd H (by simp)
end Go.Proofs.Ytplhfbkejngioaa.X
