/- Texts of this claim's session, put together: X23. -/
import Derived.Test.YtplhfbkejngioaaBd0
import Derived.Test.YtplhfbkejngioaaBd4
import Derived.Test.YtplhfbkejngioaaBd5
import Derived.Test.YtplhfbkejngioaaCi1
import Derived.Test.YtplhfbkejngioaaBd6
import Derived.Test.YtplhfbkejngioaaUWords
import Derived.Test.YtplhfbkejngioaaULast
import Derived.Test.YtplhfbkejngioaaUTab
import Derived.Test.YtplhfbkejngioaaURepsOne
namespace Go.Proofs.Ytplhfbkejngioaa.X
open Go.RowKit Go.Proofs.YtplhfbkejngioaaW.PrintWords Go.Proofs.YtplhfbkejngioaaW.PrintLast Go.Proofs.Ytplhfbkejngioaa.S
attribute [local go_sem] max2_int min2_int max_two min_two
set_option linter.unusedVariables false
set_option linter.unusedSimpArgs false
mutual
def cover_Check.j0 : Nat → List (S28) → List Int → Bool → Int → Int → Int → Int → Option (Int)
 | 0, _, _, _, _, _, _, _ => none
 | k + 1, x0, x2, x27, x558000, x558001, x558002, x558003 => if x27 = true then (some 10) else (cover_Check.l0 k x0 x2 ([] : List (S28)) x2 (x2.length : Int) 0 x558000 x558001 x558002 x558003)
def cover_Check.l0 : Nat → List (S28) → List Int → List (S28) → List Int → Int → Int → Int → Int → Int → Int → Option (Int)
 | 0, _, _, _, _, _, _, _, _, _, _ => none
 | k + 1, x0, x2, x7, x28, x29, x30, x558000, x558001, x558002, x558003 => if x30 < x29 then (if 0 ≤ x30 then (if x30 < (x28.length : Int) then ((cover_within.f (rd x28 x30) 0 (wrap64 ((x0.length : Int) - 1))).bind fun t564 => (if t564 = true then (if x30 > 0 then (if 0 ≤ (wrap64 (x30 - 1)) then (if (wrap64 (x30 - 1)) < (x2.length : Int) then (if (rd x2 (wrap64 (x30 - 1))) ≥ (rd x28 x30) then (some 10) else (if 0 ≤ (rd x28 x30) then (if (rd x28 x30) < (x0.length : Int) then ((cover_side.f x558000 x558001 x558002 x558003 ((rd_T28 x0 (rd x28 x30)).f0) ((rd_T28 x0 (rd x28 x30)).f1)).bind fun t567 => (if t567 = 0 then (if x7.length < 8796093022208 then (cover_Check.l0 k x0 x2 (x7 ++ [(⟨(rd_T28 x0 (rd x28 x30)).f0, (rd_T28 x0 (rd x28 x30)).f1⟩ : S28)]) x28 x29 (wrap64 (x30 + 1)) x558000 x558001 x558002 x558003) else (none)) else (some 10))) else (none)) else (none))) else (none)) else (none)) else (if 0 ≤ (rd x28 x30) then (if (rd x28 x30) < (x0.length : Int) then ((cover_side.f x558000 x558001 x558002 x558003 ((rd_T28 x0 (rd x28 x30)).f0) ((rd_T28 x0 (rd x28 x30)).f1)).bind fun t573 => (if t573 = 0 then (if x7.length < 8796093022208 then (cover_Check.l0 k x0 x2 (x7 ++ [(⟨(rd_T28 x0 (rd x28 x30)).f0, (rd_T28 x0 (rd x28 x30)).f1⟩ : S28)]) x28 x29 (wrap64 (x30 + 1)) x558000 x558001 x558002 x558003) else (none)) else (some 10))) else (none)) else (none))) else (some 10))) else (none)) else (none)) else ((cover_isInside.f k x558000 x558001 x558002 x558003 x7).bind fun t562 => (if t562 = true then (some 0) else (some 10)))
end
def cover_Check.f (k : Nat) (l0 : List (S28)) (a1_0 : Int) (a1_1 : Int) (a1_2 : Int) (a1_3 : Int) (l2 : List Int) : Option (Int) := (cover_arePoints.f l0).bind fun t558 => (if t558 = true then ((cover_isCircle.f k a1_0 a1_1 a1_2 a1_3).bind fun t559 => (if t559 = true then ((cover_encloses.f a1_0 a1_1 a1_2 a1_3 l0).bind fun t560 => (if t560 = true then ((cover_within.f (l2.length : Int) 1 3).bind fun t561 => (cover_Check.j0 k l0 l2 (!t561) a1_0 a1_1 a1_2 a1_3)) else (cover_Check.j0 k l0 l2 true a1_0 a1_1 a1_2 a1_3))) else (cover_Check.j0 k l0 l2 true a1_0 a1_1 a1_2 a1_3))) else (some 2))
theorem cover_Check.mono_l : ∀ k, (∀ y0 y1 y2 y3 y4 y5 y6, LeO (cover_Check.j0 k y0 y1 y2 y3 y4 y5 y6) (cover_Check.j0 (k + 1) y0 y1 y2 y3 y4 y5 y6)) ∧ (∀ y0 y1 y2 y3 y4 y5 y6 y7 y8 y9, LeO (cover_Check.l0 k y0 y1 y2 y3 y4 y5 y6 y7 y8 y9) (cover_Check.l0 (k + 1) y0 y1 y2 y3 y4 y5 y6 y7 y8 y9))
 | 0 => ⟨fun _ _ _ _ _ _ _ r h => by simp [cover_Check.j0] at h, fun _ _ _ _ _ _ _ _ _ _ r h => by simp [cover_Check.l0] at h⟩
 | k + 1 => by
  obtain ⟨ih0, ih1⟩ := cover_Check.mono_l k
  refine ⟨?_, ?_⟩
  ·intro y0 y1 y2 y3 y4 y5 y6
   unfold cover_Check.j0
   repeat' first
   | (with_reducible exact ih0 _ _ _ _ _ _ _)
   | (with_reducible exact ih1 _ _ _ _ _ _ _ _ _ _)
   | (with_reducible exact cover_isCircle.mono _ _ _ _ _)
   | (with_reducible exact cover_isInside.mono _ _ _ _ _ _)
   | (with_reducible exact LeO.refl _)
   | (with_reducible exact LeO.none _)
   | (with_reducible refine LeO.ite ?_ ?_)
   | (with_reducible refine LeO.bind ?_ (fun _ => ?_))
   | exact ih0 _ _ _ _ _ _ _
   | exact ih1 _ _ _ _ _ _ _ _ _ _
   | exact cover_isCircle.mono _ _ _ _ _
   | exact cover_isInside.mono _ _ _ _ _ _
   | exact LeO.none _
   | refine LeO.ite ?_ ?_
   | refine LeO.bind ?_ (fun _ => ?_)
  ·intro y0 y1 y2 y3 y4 y5 y6 y7 y8 y9
   unfold cover_Check.l0
   repeat' first
   | (with_reducible exact ih0 _ _ _ _ _ _ _)
   | (with_reducible exact ih1 _ _ _ _ _ _ _ _ _ _)
   | (with_reducible exact cover_isCircle.mono _ _ _ _ _)
   | (with_reducible exact cover_isInside.mono _ _ _ _ _ _)
   | (with_reducible exact LeO.refl _)
   | (with_reducible exact LeO.none _)
   | (with_reducible refine LeO.ite ?_ ?_)
   | (with_reducible refine LeO.bind ?_ (fun _ => ?_))
   | exact ih0 _ _ _ _ _ _ _
   | exact ih1 _ _ _ _ _ _ _ _ _ _
   | exact cover_isCircle.mono _ _ _ _ _
   | exact cover_isInside.mono _ _ _ _ _ _
   | exact LeO.none _
   | refine LeO.ite ?_ ?_
   | refine LeO.bind ?_ (fun _ => ?_)
theorem cover_Check.mono : ∀ a0 a1 a2 a3 a4 a5 k, LeO (cover_Check.f k a0 a1 a2 a3 a4 a5) (cover_Check.f (k + 1) a0 a1 a2 a3 a4 a5) := by
 intro a0 a1 a2 a3 a4 a5 k
 obtain ⟨ih0, ih1⟩ := cover_Check.mono_l k
 unfold cover_Check.f
 repeat' first
   | (with_reducible exact ih0 _ _ _ _ _ _ _)
   | (with_reducible exact ih1 _ _ _ _ _ _ _ _ _ _)
   | (with_reducible exact cover_isCircle.mono _ _ _ _ _)
   | (with_reducible exact cover_isInside.mono _ _ _ _ _ _)
   | (with_reducible exact LeO.refl _)
   | (with_reducible exact LeO.none _)
   | (with_reducible refine LeO.ite ?_ ?_)
   | (with_reducible refine LeO.bind ?_ (fun _ => ?_))
   | exact ih0 _ _ _ _ _ _ _
   | exact ih1 _ _ _ _ _ _ _ _ _ _
   | exact cover_isCircle.mono _ _ _ _ _
   | exact cover_isInside.mono _ _ _ _ _ _
   | exact LeO.none _
   | refine LeO.ite ?_ ?_
   | refine LeO.bind ?_ (fun _ => ?_)
def cover_Check.T9 : Bool × List (List Nat × List Nat) := (true, [([], []), ([], []), ([1], [1]), ([2], [2]), ([0, 3], [0, 3]), ([4], [4]), ([5, 4], [5]), ([6], [6]), ([7, 6], [6, 7]), ([8, 6, 6], [6, 8]), ([9], [9]), ([9], [9]), ([11, 9], [9, 11]), ([10, 12, 9], [9, 10, 12]), ([13, 9], [9, 13]), ([9], [9]), ([14, 15, 9], [9, 14, 15]), ([9, 16, 6], [6, 9, 16]), ([6, 17], [6, 17]), ([18, 9], [18]), ([19], [19]), ([19], [19]), ([19], [19]), ([21, 22, 19], [19, 21, 22]), ([23, 19], [19, 23]), ([20, 24, 19, 19], [19, 20, 24]), ([25, 19], [19, 25]), ([19, 26], [19, 26])])
def cover_Check.B9 : List Nat := [0, 0, 2, 6, 15, 31, 63, 127, 255, 511, 1023, 1023, 3071, 8191, 16383, 1023, 65535, 131071, 262143, 524287, 1048575, 1048575, 1048575, 7340031, 15728639, 33554431, 67108863, 134217727]
theorem cover_Check.tab9 : rtab .any (opsOf Try.f38 9) = cover_Check.T9 := by kernel_rfl
theorem cover_Check.bits9 : waitsOk cover_Check.T9.2 cover_Check.B9 = true := by kernel_rfl
set_option maxHeartbeats 8000000 in
set_option maxRecDepth 100000 in
theorem cover_Check.calls (k : Nat) (A0 : Option Addr) (c0 : Nat) (l0 : List (S28)) (a1_0 : Int) (a1_1 : Int) (a1_2 : Int) (a1_3 : Int) (A2 : Option Addr) (c2 : Nat) (l2 : List Int) (r : Int) (w : World) (hr0 : Kd.C k28 w A0 l0.length l0) (hc0 : l0.length ≤ c0) (hr2 : Kd.C (Kd.int .i64) w A2 l2.length l2) (hc2 : l2.length ≤ c2) (h : cover_Check.f k l0 a1_0 a1_1 a1_2 a1_3 l2 = some r) :
  Calls Try.prog 38 #[.slice A0 l0.length c0, .agg #[.int .i64 a1_0, .int .i64 a1_1, .int .i64 a1_2, .int .i64 a1_3], .slice A2 l2.length c2] w fun e w' => e = .returned (.int .i64 r) ∧ Below w.heap.size w w' := by
 have hu40 := Try.underlying40
 have hu28 := Try.underlying28
 have HR0 := Aside0.mk hr0
 have HC0 := Aside0.mk hc0
 clear hr0 hc0
 have HR2 := Aside0.mk hr2
 have HC2 := Aside0.mk hc2
 clear hr2 hc2
 have HB := Aside0.mk (Below.refl w.heap.size w)
 have H : ((cover_arePoints.f l0).bind fun t558 => (if t558 = true then ((cover_isCircle.f k a1_0 a1_1 a1_2 a1_3).bind fun t559 => (if t559 = true then ((cover_encloses.f a1_0 a1_1 a1_2 a1_3 l0).bind fun t560 => (if t560 = true then ((cover_within.f (l2.length : Int) 1 3).bind fun t561 => (cover_Check.j0 k l0 l2 (!t561) a1_0 a1_1 a1_2 a1_3)) else (cover_Check.j0 k l0 l2 true a1_0 a1_1 a1_2 a1_3))) else (cover_Check.j0 k l0 l2 true a1_0 a1_1 a1_2 a1_3))) else (some 2))) = some r := h
 clear h
 replace H := Option.bind_eq_some_iff.mp H
 obtain ⟨t558, A40, H⟩ := H
 replace H : (if t558 = true then ((cover_isCircle.f k a1_0 a1_1 a1_2 a1_3).bind fun t559 => (if t559 = true then ((cover_encloses.f a1_0 a1_1 a1_2 a1_3 l0).bind fun t560 => (if t560 = true then ((cover_within.f (l2.length : Int) 1 3).bind fun t561 => (cover_Check.j0 k l0 l2 (!t561) a1_0 a1_1 a1_2 a1_3)) else (cover_Check.j0 k l0 l2 true a1_0 a1_1 a1_2 a1_3))) else (cover_Check.j0 k l0 l2 true a1_0 a1_1 a1_2 a1_3))) else (some 2)) = some r := H
 have A4 := Aside0.mk A40
 clear A40
 by_cases c5 : t558 = true
 ·subst c5
  have H1 : ((cover_isCircle.f k a1_0 a1_1 a1_2 a1_3).bind fun t559 => (if t559 = true then ((cover_encloses.f a1_0 a1_1 a1_2 a1_3 l0).bind fun t560 => (if t560 = true then ((cover_within.f (l2.length : Int) 1 3).bind fun t561 => (cover_Check.j0 k l0 l2 (!t561) a1_0 a1_1 a1_2 a1_3)) else (cover_Check.j0 k l0 l2 true a1_0 a1_1 a1_2 a1_3))) else (cover_Check.j0 k l0 l2 true a1_0 a1_1 a1_2 a1_3))) = some r := by rw [if_pos rfl] at H; exact H
  clear H
  have H := H1
  clear H1
  have HC6 := Aside0.mk H
  clear H
  go_enter Try.func38, Try.ntmps38
  go_upto_region 3 with (first | ((with_reducible refine gate_dst (N := 4) rfl ?_); (try (refine gate_guard (by rfl) ?_; dsimp only)); refine bxE 4 #[.int .i64 a1_0, .int .i64 a1_1, .int .i64 a1_2, .int .i64 a1_3] 40 ?_; intro gb557 hg w7 hbox hb; have n0_ := Aside0.mk (below_step HBz hb); have n1_ := Aside0.mk (hbox); have n2_ := Aside0.mk ((by rw [hg]; exact (below_size HBz) : w.heap.size ≤ gb557)); have n3_ := Aside0.mk ((by rw [hg]; exact (below_size HBz) : w.heap.size ≤ gb557)); clear HB; have HB := n0_; have BK557 := n1_; have GW557 := n2_; have GE557 := n3_; clear n0_ n1_ n2_ n3_; clear hb hbox hg) | ((with_reducible refine gate_callee (f := 52) rfl ?_); refine goesL_ (some 11) rfl rfl Try.func52 (by kernel_rfl) rfl #[.slice A0 l0.length c0] rfl (by (try simp only [List.map_toArray, List.map_cons, List.map_nil]); first | done | rfl | (simp only [List.length_drop, List.length_take]; rfl)) ?_; (with_reducible refine (cover_arePoints.calls _ _ l0 true _ ?side1 ?side2 A4.out).mono ?_); (case side1 => repeat (first | exact (Kd.C_below HR0.out HB.out) | (with_reducible refine Kd.C_alloc ?_ _) | (with_reducible refine Kd.C_drewN ?_ _) | (with_reducible refine Kd.C_drew ?_))); (case side2 => exact HC0.out); rintro e w8 ⟨rfl, hb⟩; refine ⟨_, rfl, ?_⟩; have n0_ := Aside0.mk (blk_below (g := gb557) BKz hb); have n1_ := Aside0.mk (below_step HBz hb); clear BK557; clear HB; have BK557 := n0_; have HB := n1_; clear n0_ n1_; (try clear hb); (try clear hb2); (try clear hk); (try clear hi)))
  (try simp only [Act.put, List.setIfInBounds_toArray, List.set_cons_zero, List.set_cons_succ])
  go_cut [27] (fun v27 wc => ∃ (kq : Nat) (x27_5 : Bool), v27 = .bool x27_5 ∧ Aside0 (cover_Check.j0 kq l0 l2 x27_5 a1_0 a1_1 a1_2 a1_3 = some r) ∧ Aside0 (kq ≤ k) ∧ Aside0 (wc.heap[gb557]? = some (.cells #[.int .i64 a1_0, .int .i64 a1_1, .int .i64 a1_2, .int .i64 a1_3] 40 (0, 0))) ∧ Aside0 (Below w.heap.size w wc))
  case first =>
   have H := HC6.out
   clear HC6
   replace H := Option.bind_eq_some_iff.mp H
   obtain ⟨t559, A90, H⟩ := H
   replace H : (if t559 = true then ((cover_encloses.f a1_0 a1_1 a1_2 a1_3 l0).bind fun t560 => (if t560 = true then ((cover_within.f (l2.length : Int) 1 3).bind fun t561 => (cover_Check.j0 k l0 l2 (!t561) a1_0 a1_1 a1_2 a1_3)) else (cover_Check.j0 k l0 l2 true a1_0 a1_1 a1_2 a1_3))) else (cover_Check.j0 k l0 l2 true a1_0 a1_1 a1_2 a1_3)) = some r := H
   have A9 := Aside0.mk A90
   clear A90
   by_cases c10 : t559 = true
   ·subst c10
    have H1 : ((cover_encloses.f a1_0 a1_1 a1_2 a1_3 l0).bind fun t560 => (if t560 = true then ((cover_within.f (l2.length : Int) 1 3).bind fun t561 => (cover_Check.j0 k l0 l2 (!t561) a1_0 a1_1 a1_2 a1_3)) else (cover_Check.j0 k l0 l2 true a1_0 a1_1 a1_2 a1_3))) = some r := by rw [if_pos rfl] at H; exact H
    clear H
    have H := H1
    clear H1
    replace H := Option.bind_eq_some_iff.mp H
    obtain ⟨t560, A110, H⟩ := H
    replace H : (if t560 = true then ((cover_within.f (l2.length : Int) 1 3).bind fun t561 => (cover_Check.j0 k l0 l2 (!t561) a1_0 a1_1 a1_2 a1_3)) else (cover_Check.j0 k l0 l2 true a1_0 a1_1 a1_2 a1_3)) = some r := H
    have A11 := Aside0.mk A110
    clear A110
    by_cases c12 : t560 = true
    ·subst c12
     have H1 : ((cover_within.f (l2.length : Int) 1 3).bind fun t561 => (cover_Check.j0 k l0 l2 (!t561) a1_0 a1_1 a1_2 a1_3)) = some r := by rw [if_pos rfl] at H; exact H
     clear H
     have H := H1
     clear H1
     replace H := Option.bind_eq_some_iff.mp H
     obtain ⟨t561, A130, H⟩ := H
     replace H : (cover_Check.j0 k l0 l2 (!t561) a1_0 a1_1 a1_2 a1_3) = some r := H
     have A13 := Aside0.mk A130
     clear A130
     have H' := Aside0.mk H
     clear H
     have hcz14_0 : w8.cell? ⟨gb557, 0, none⟩ = some (.int .i64 a1_0) := (blk_cell BK557.out 0).trans rfl
     have hcz14_1 : w8.cell? ⟨gb557, 1, none⟩ = some (.int .i64 a1_1) := (blk_cell BK557.out 1).trans rfl
     have hcz14_2 : w8.cell? ⟨gb557, 2, none⟩ = some (.int .i64 a1_2) := (blk_cell BK557.out 2).trans rfl
     have hcz14_3 : w8.cell? ⟨gb557, 3, none⟩ = some (.int .i64 a1_3) := (blk_cell BK557.out 3).trans rfl
     have hfz14_0 := blk_frozen BK557.out 0
     have hfz14_1 := blk_frozen BK557.out 1
     have hfz14_2 := blk_frozen BK557.out 2
     have hfz14_3 := blk_frozen BK557.out 3
     go_wp2_with (first | ((with_reducible refine gate_callee (f := 57) rfl ?_); refine goesL_ (some 14) rfl rfl Try.func57 (by kernel_rfl) rfl #[.agg #[.int .i64 a1_0, .int .i64 a1_1, .int .i64 a1_2, .int .i64 a1_3]] rfl (by (try simp only [List.map_toArray, List.map_cons, List.map_nil]); first | done | rfl | (simp only [List.length_drop, List.length_take]; rfl)) ?_; (with_reducible refine (cover_isCircle.calls k a1_0 a1_1 a1_2 a1_3 true _ A9.out).mono ?_); rintro e w15 ⟨rfl, hb⟩; refine ⟨_, rfl, ?_⟩; have n0_ := Aside0.mk (blk_below (g := gb557) BKz hb); have n1_ := Aside0.mk (below_step HBz hb); clear BK557; clear HB; have BK557 := n0_; have HB := n1_; clear n0_ n1_; (try clear hb); (try clear hb2); (try clear hk); (try clear hi); have hcz16_0 : w15.cell? ⟨gb557, 0, none⟩ = some (.int .i64 a1_0) := (blk_cell BK557.out 0).trans rfl; have hcz16_1 : w15.cell? ⟨gb557, 1, none⟩ = some (.int .i64 a1_1) := (blk_cell BK557.out 1).trans rfl; have hcz16_2 : w15.cell? ⟨gb557, 2, none⟩ = some (.int .i64 a1_2) := (blk_cell BK557.out 2).trans rfl; have hcz16_3 : w15.cell? ⟨gb557, 3, none⟩ = some (.int .i64 a1_3) := (blk_cell BK557.out 3).trans rfl; have hfz16_0 := blk_frozen BK557.out 0; have hfz16_1 := blk_frozen BK557.out 1; have hfz16_2 := blk_frozen BK557.out 2; have hfz16_3 := blk_frozen BK557.out 3) | (go_at_call 54; (with_reducible refine (cover_encloses.calls a1_0 a1_1 a1_2 a1_3 _ _ l0 true _ ?side1 ?side2 A11.out).mono ?_); (case side1 => repeat (first | exact (Kd.C_below HR0.out HB.out) | (with_reducible refine Kd.C_alloc ?_ _) | (with_reducible refine Kd.C_drewN ?_ _) | (with_reducible refine Kd.C_drew ?_))); (case side2 => exact HC0.out); rintro e w17 ⟨rfl, hb⟩; have n0_ := Aside0.mk (blk_below (g := gb557) BKz hb); have n1_ := Aside0.mk (below_step HBz hb); clear BK557; clear HB; have BK557 := n0_; have HB := n1_; clear n0_ n1_; (try clear hb); (try clear hb2); (try clear hk); (try clear hi)) | (go_at_call 61; (with_reducible refine (cover_within.calls (l2.length : Int) 1 3 t561 _ A13.out).mono ?_); rintro e w' ⟨rfl, ⟨nd, rfl⟩⟩))
     go_meet
     case rel => exact ⟨_, (!t561), (by first | rfl | (simp; done) | (simp [*]; done)), H', ⟨by first | omega | exact Nat.le_refl _⟩, ⟨by (with_reducible repeat (first | refine blk_drewN ?_ _ | refine blk_drew ?_ | refine blk_alloc ?_ _)); exact BK557.out⟩, ⟨HBz⟩⟩
    ·replace c12 := Bool.eq_false_iff.mpr c12
     subst c12
     have H1 : (cover_Check.j0 k l0 l2 true a1_0 a1_1 a1_2 a1_3) = some r := by rw [if_neg (show ¬ (false = true) by decide)] at H; exact H
     clear H
     have H := H1
     clear H1
     have H' := Aside0.mk H
     clear H
     have hcz18_0 : w8.cell? ⟨gb557, 0, none⟩ = some (.int .i64 a1_0) := (blk_cell BK557.out 0).trans rfl
     have hcz18_1 : w8.cell? ⟨gb557, 1, none⟩ = some (.int .i64 a1_1) := (blk_cell BK557.out 1).trans rfl
     have hcz18_2 : w8.cell? ⟨gb557, 2, none⟩ = some (.int .i64 a1_2) := (blk_cell BK557.out 2).trans rfl
     have hcz18_3 : w8.cell? ⟨gb557, 3, none⟩ = some (.int .i64 a1_3) := (blk_cell BK557.out 3).trans rfl
     have hfz18_0 := blk_frozen BK557.out 0
     have hfz18_1 := blk_frozen BK557.out 1
     have hfz18_2 := blk_frozen BK557.out 2
     have hfz18_3 := blk_frozen BK557.out 3
     go_wp2_with (first | ((with_reducible refine gate_callee (f := 57) rfl ?_); refine goesL_ (some 14) rfl rfl Try.func57 (by kernel_rfl) rfl #[.agg #[.int .i64 a1_0, .int .i64 a1_1, .int .i64 a1_2, .int .i64 a1_3]] rfl (by (try simp only [List.map_toArray, List.map_cons, List.map_nil]); first | done | rfl | (simp only [List.length_drop, List.length_take]; rfl)) ?_; (with_reducible refine (cover_isCircle.calls k a1_0 a1_1 a1_2 a1_3 true _ A9.out).mono ?_); rintro e w19 ⟨rfl, hb⟩; refine ⟨_, rfl, ?_⟩; have n0_ := Aside0.mk (blk_below (g := gb557) BKz hb); have n1_ := Aside0.mk (below_step HBz hb); clear BK557; clear HB; have BK557 := n0_; have HB := n1_; clear n0_ n1_; (try clear hb); (try clear hb2); (try clear hk); (try clear hi); have hcz20_0 : w19.cell? ⟨gb557, 0, none⟩ = some (.int .i64 a1_0) := (blk_cell BK557.out 0).trans rfl; have hcz20_1 : w19.cell? ⟨gb557, 1, none⟩ = some (.int .i64 a1_1) := (blk_cell BK557.out 1).trans rfl; have hcz20_2 : w19.cell? ⟨gb557, 2, none⟩ = some (.int .i64 a1_2) := (blk_cell BK557.out 2).trans rfl; have hcz20_3 : w19.cell? ⟨gb557, 3, none⟩ = some (.int .i64 a1_3) := (blk_cell BK557.out 3).trans rfl; have hfz20_0 := blk_frozen BK557.out 0; have hfz20_1 := blk_frozen BK557.out 1; have hfz20_2 := blk_frozen BK557.out 2; have hfz20_3 := blk_frozen BK557.out 3) | (go_at_call 54; (with_reducible refine (cover_encloses.calls a1_0 a1_1 a1_2 a1_3 _ _ l0 false _ ?side1 ?side2 A11.out).mono ?_); (case side1 => repeat (first | exact (Kd.C_below HR0.out HB.out) | (with_reducible refine Kd.C_alloc ?_ _) | (with_reducible refine Kd.C_drewN ?_ _) | (with_reducible refine Kd.C_drew ?_))); (case side2 => exact HC0.out); rintro e w21 ⟨rfl, hb⟩; have n0_ := Aside0.mk (blk_below (g := gb557) BKz hb); have n1_ := Aside0.mk (below_step HBz hb); clear BK557; clear HB; have BK557 := n0_; have HB := n1_; clear n0_ n1_; (try clear hb); (try clear hb2); (try clear hk); (try clear hi)))
     go_meet
     case rel => exact ⟨_, (true), (by first | rfl | (simp; done) | (simp [*]; done)), H', ⟨by first | omega | exact Nat.le_refl _⟩, ⟨by (with_reducible repeat (first | refine blk_drewN ?_ _ | refine blk_drew ?_ | refine blk_alloc ?_ _)); exact BK557.out⟩, ⟨HBz⟩⟩
   ·replace c10 := Bool.eq_false_iff.mpr c10
    subst c10
    have H1 : (cover_Check.j0 k l0 l2 true a1_0 a1_1 a1_2 a1_3) = some r := by rw [if_neg (show ¬ (false = true) by decide)] at H; exact H
    clear H
    have H := H1
    clear H1
    have H' := Aside0.mk H
    clear H
    have hcz22_0 : w8.cell? ⟨gb557, 0, none⟩ = some (.int .i64 a1_0) := (blk_cell BK557.out 0).trans rfl
    have hcz22_1 : w8.cell? ⟨gb557, 1, none⟩ = some (.int .i64 a1_1) := (blk_cell BK557.out 1).trans rfl
    have hcz22_2 : w8.cell? ⟨gb557, 2, none⟩ = some (.int .i64 a1_2) := (blk_cell BK557.out 2).trans rfl
    have hcz22_3 : w8.cell? ⟨gb557, 3, none⟩ = some (.int .i64 a1_3) := (blk_cell BK557.out 3).trans rfl
    have hfz22_0 := blk_frozen BK557.out 0
    have hfz22_1 := blk_frozen BK557.out 1
    have hfz22_2 := blk_frozen BK557.out 2
    have hfz22_3 := blk_frozen BK557.out 3
    go_wp2_with (first | ((with_reducible refine gate_callee (f := 57) rfl ?_); refine goesL_ (some 14) rfl rfl Try.func57 (by kernel_rfl) rfl #[.agg #[.int .i64 a1_0, .int .i64 a1_1, .int .i64 a1_2, .int .i64 a1_3]] rfl (by (try simp only [List.map_toArray, List.map_cons, List.map_nil]); first | done | rfl | (simp only [List.length_drop, List.length_take]; rfl)) ?_; (with_reducible refine (cover_isCircle.calls k a1_0 a1_1 a1_2 a1_3 false _ A9.out).mono ?_); rintro e w23 ⟨rfl, hb⟩; refine ⟨_, rfl, ?_⟩; have n0_ := Aside0.mk (blk_below (g := gb557) BKz hb); have n1_ := Aside0.mk (below_step HBz hb); clear BK557; clear HB; have BK557 := n0_; have HB := n1_; clear n0_ n1_; (try clear hb); (try clear hb2); (try clear hk); (try clear hi)))
    go_meet
    case rel => exact ⟨_, (true), (by first | rfl | (simp; done) | (simp [*]; done)), H', ⟨by first | omega | exact Nat.le_refl _⟩, ⟨by (with_reducible repeat (first | refine blk_drewN ?_ _ | refine blk_drew ?_ | refine blk_alloc ?_ _)); exact BK557.out⟩, ⟨HBz⟩⟩
  case rest =>
   clear HC6
   try clear c1
   try clear c2
   try clear p2
   try clear c3
   try clear c5
   try clear c10
   try clear c12
   try clear hcz14_0
   try clear hcz14_1
   try clear hcz14_2
   try clear hcz14_3
   try clear hcz16_0
   try clear hcz16_1
   try clear hcz16_2
   try clear hcz16_3
   try clear hcz18_0
   try clear hcz18_1
   try clear hcz18_2
   try clear hcz18_3
   try clear hcz20_0
   try clear hcz20_1
   try clear hcz20_2
   try clear hcz20_3
   try clear hcz22_0
   try clear hcz22_1
   try clear hcz22_2
   try clear hcz22_3
   try clear hfz14_0
   try clear hfz14_1
   try clear hfz14_2
   try clear hfz14_3
   try clear hfz16_0
   try clear hfz16_1
   try clear hfz16_2
   try clear hfz16_3
   try clear hfz18_0
   try clear hfz18_1
   try clear hfz18_2
   try clear hfz18_3
   try clear hfz20_0
   try clear hfz20_1
   try clear hfz20_2
   try clear hfz20_3
   try clear hfz22_0
   try clear hfz22_1
   try clear hfz22_2
   try clear hfz22_3
   obtain ⟨kq, x27_5, rfl, HA, HJ5, BK557, HB⟩ := hcut
   cases kq with
   | zero => exact absurd HA.out (by simp [cover_Check.j0])
   | succ kj5 =>
    have H := HA.out
    clear HA
    simp only [cover_Check.j0] at H
    by_cases c24 : x27_5 = true
    ·subst c24
     have H1 : (some 10) = some r := by rw [if_pos rfl] at H; exact H
     clear H
     have H := H1
     clear H1
     obtain rfl := Option.some.inj H
     go_wp2
     go_ret
     exact ⟨by first | rfl | (simp [errW_none, errW_some] <;> rfl) | (simp [*, errW_none, errW_some] <;> rfl), HBz⟩
    ·replace c24 := Bool.eq_false_iff.mpr c24
     subst c24
     have H1 : (cover_Check.l0 kj5 l0 l2 ([] : List (S28)) l2 (l2.length : Int) 0 a1_0 a1_1 a1_2 a1_3) = some r := by rw [if_neg (show ¬ (false = true) by decide)] at H; exact H
     clear H
     have H := H1
     clear H1
     have H' := Aside0.mk H
     clear H
     go_wp2
     go_loopg [7, 30] kj5 (fun kq v7 v30 w' => ∃ (x7_2 : List (S28)) (x30_2 : Int), v30 = .int .i64 x30_2 ∧ Aside0 (cover_Check.l0 kq l0 l2 x7_2 l2 (l2.length : Int) x30_2 a1_0 a1_1 a1_2 a1_3 = some r) ∧ Aside0 (kq ≤ kj5) ∧ Aside0 (Kd.R k28 28 w' w.heap.size (fun _ => True) v7 x7_2) ∧ Aside0 (w'.heap[gb557]? = some (.cells #[.int .i64 a1_0, .int .i64 a1_1, .int .i64 a1_2, .int .i64 a1_3] 40 (0, 0))) ∧ Aside0 (Below w.heap.size w w'))
     case atStart => exact ⟨(([] : List (S28))), (0), (by first | rfl | (simp; done) | (simp [*]; done)), H', ⟨Nat.le_refl _⟩, ⟨by first | exact Kd.R_nil _ _ _ _ _ | exact Kd.N_nil _ _ _ _ _ | exact Kd.V_nil _ _ _ _ _ | exact Kd.Q_nil _ _ _ _ _ | exact Kd.S_nil _ _ _ _ _⟩, ⟨by (with_reducible repeat (first | refine blk_drewN ?_ _ | refine blk_drew ?_ | refine blk_alloc ?_ _)); exact BK557.out⟩, ⟨HBz⟩⟩
     case round =>
      clear H'
      try clear c1
      try clear c2
      try clear p2
      try clear c3
      try clear c5
      try clear c10
      try clear c12
      try clear c24
      try clear hcz14_0
      try clear hcz14_1
      try clear hcz14_2
      try clear hcz14_3
      try clear hcz16_0
      try clear hcz16_1
      try clear hcz16_2
      try clear hcz16_3
      try clear hcz18_0
      try clear hcz18_1
      try clear hcz18_2
      try clear hcz18_3
      try clear hcz20_0
      try clear hcz20_1
      try clear hcz20_2
      try clear hcz20_3
      try clear hcz22_0
      try clear hcz22_1
      try clear hcz22_2
      try clear hcz22_3
      try clear hfz14_0
      try clear hfz14_1
      try clear hfz14_2
      try clear hfz14_3
      try clear hfz16_0
      try clear hfz16_1
      try clear hfz16_2
      try clear hfz16_3
      try clear hfz18_0
      try clear hfz18_1
      try clear hfz18_2
      try clear hfz18_3
      try clear hfz20_0
      try clear hfz20_1
      try clear hfz20_2
      try clear hfz20_3
      try clear hfz22_0
      try clear hfz22_1
      try clear hfz22_2
      try clear hfz22_3
      try clear p2
      obtain ⟨x7_2, x30_2, rfl, HA, HK2, HO_7, BK557, HB⟩ := hrel
      cases gk with
      | zero => exact absurd HA.out (by simp [cover_Check.l0])
      | succ k2 =>
       have H := HA.out
       clear HA
       simp only [cover_Check.l0] at H
       by_cases c25 : x30_2 < (l2.length : Int)
       ·rw [if_pos c25] at H
        have c25b0 : decide (x30_2 < (l2.length : Int)) = true := decide_eq_true c25
        clear c25
        by_cases c26 : 0 ≤ x30_2
        ·rw [if_pos c26] at H
         have c26b0 : decide (0 ≤ x30_2) = true := decide_eq_true c26
         clear c26
         by_cases c27 : x30_2 < (l2.length : Int)
         ·rw [if_pos c27] at H
          have c27b0 : decide (x30_2 < (l2.length : Int)) = true := decide_eq_true c27
          clear c27
          replace H := Option.bind_eq_some_iff.mp H
          obtain ⟨t564, A280, H⟩ := H
          replace H : (if t564 = true then (if x30_2 > 0 then (if 0 ≤ (wrap64 (x30_2 - 1)) then (if (wrap64 (x30_2 - 1)) < (l2.length : Int) then (if (rd l2 (wrap64 (x30_2 - 1))) ≥ (rd l2 x30_2) then (some 10) else (if 0 ≤ (rd l2 x30_2) then (if (rd l2 x30_2) < (l0.length : Int) then ((cover_side.f a1_0 a1_1 a1_2 a1_3 ((rd_T28 l0 (rd l2 x30_2)).f0) ((rd_T28 l0 (rd l2 x30_2)).f1)).bind fun t567 => (if t567 = 0 then (if x7_2.length < 8796093022208 then (cover_Check.l0 k2 l0 l2 (x7_2 ++ [(⟨(rd_T28 l0 (rd l2 x30_2)).f0, (rd_T28 l0 (rd l2 x30_2)).f1⟩ : S28)]) l2 (l2.length : Int) (wrap64 (x30_2 + 1)) a1_0 a1_1 a1_2 a1_3) else (none)) else (some 10))) else (none)) else (none))) else (none)) else (none)) else (if 0 ≤ (rd l2 x30_2) then (if (rd l2 x30_2) < (l0.length : Int) then ((cover_side.f a1_0 a1_1 a1_2 a1_3 ((rd_T28 l0 (rd l2 x30_2)).f0) ((rd_T28 l0 (rd l2 x30_2)).f1)).bind fun t573 => (if t573 = 0 then (if x7_2.length < 8796093022208 then (cover_Check.l0 k2 l0 l2 (x7_2 ++ [(⟨(rd_T28 l0 (rd l2 x30_2)).f0, (rd_T28 l0 (rd l2 x30_2)).f1⟩ : S28)]) l2 (l2.length : Int) (wrap64 (x30_2 + 1)) a1_0 a1_1 a1_2 a1_3) else (none)) else (some 10))) else (none)) else (none))) else (some 10)) = some r := H
          have A28 := Aside0.mk A280
          clear A280
          by_cases c29 : t564 = true
          ·subst c29
           have H1 : (if x30_2 > 0 then (if 0 ≤ (wrap64 (x30_2 - 1)) then (if (wrap64 (x30_2 - 1)) < (l2.length : Int) then (if (rd l2 (wrap64 (x30_2 - 1))) ≥ (rd l2 x30_2) then (some 10) else (if 0 ≤ (rd l2 x30_2) then (if (rd l2 x30_2) < (l0.length : Int) then ((cover_side.f a1_0 a1_1 a1_2 a1_3 ((rd_T28 l0 (rd l2 x30_2)).f0) ((rd_T28 l0 (rd l2 x30_2)).f1)).bind fun t567 => (if t567 = 0 then (if x7_2.length < 8796093022208 then (cover_Check.l0 k2 l0 l2 (x7_2 ++ [(⟨(rd_T28 l0 (rd l2 x30_2)).f0, (rd_T28 l0 (rd l2 x30_2)).f1⟩ : S28)]) l2 (l2.length : Int) (wrap64 (x30_2 + 1)) a1_0 a1_1 a1_2 a1_3) else (none)) else (some 10))) else (none)) else (none))) else (none)) else (none)) else (if 0 ≤ (rd l2 x30_2) then (if (rd l2 x30_2) < (l0.length : Int) then ((cover_side.f a1_0 a1_1 a1_2 a1_3 ((rd_T28 l0 (rd l2 x30_2)).f0) ((rd_T28 l0 (rd l2 x30_2)).f1)).bind fun t573 => (if t573 = 0 then (if x7_2.length < 8796093022208 then (cover_Check.l0 k2 l0 l2 (x7_2 ++ [(⟨(rd_T28 l0 (rd l2 x30_2)).f0, (rd_T28 l0 (rd l2 x30_2)).f1⟩ : S28)]) l2 (l2.length : Int) (wrap64 (x30_2 + 1)) a1_0 a1_1 a1_2 a1_3) else (none)) else (some 10))) else (none)) else (none))) = some r := by rw [if_pos rfl] at H; exact H
           clear H
           have H := H1
           clear H1
           by_cases c30 : x30_2 > 0
           ·rw [if_pos c30] at H
            have c30b0 : decide (0 < x30_2) = true := decide_eq_true c30
            clear c30
            obtain ⟨ji31, hji31⟩ : ∃ j_ : Int, (wrap64 (x30_2 - 1)) = j_ := ⟨_, rfl⟩
            replace H : (if 0 ≤ (ji31) then (if (ji31) < (l2.length : Int) then (if (rd l2 (ji31)) ≥ (rd l2 x30_2) then (some 10) else (if 0 ≤ (rd l2 x30_2) then (if (rd l2 x30_2) < (l0.length : Int) then ((cover_side.f a1_0 a1_1 a1_2 a1_3 ((rd_T28 l0 (rd l2 x30_2)).f0) ((rd_T28 l0 (rd l2 x30_2)).f1)).bind fun t567 => (if t567 = 0 then (if x7_2.length < 8796093022208 then (cover_Check.l0 k2 l0 l2 (x7_2 ++ [(⟨(rd_T28 l0 (rd l2 x30_2)).f0, (rd_T28 l0 (rd l2 x30_2)).f1⟩ : S28)]) l2 (l2.length : Int) (wrap64 (x30_2 + 1)) a1_0 a1_1 a1_2 a1_3) else (none)) else (some 10))) else (none)) else (none))) else (none)) else (none)) = some r := by first | (rw [hji31] at H; exact H) | (simp only [hji31] at H ⊢; exact H)
            (try rw [hji31] at A28)
            have hji31w : (IntKind.i64.wrap (x30_2 - 1)) = ji31 := (i64_w _).trans hji31
            by_cases c32 : 0 ≤ (ji31)
            ·rw [if_pos c32] at H
             have c32b0 : decide (0 ≤ (ji31)) = true := decide_eq_true c32
             clear c32
             by_cases c33 : (ji31) < (l2.length : Int)
             ·rw [if_pos c33] at H
              have c33b0 : decide ((ji31) < (l2.length : Int)) = true := decide_eq_true c33
              clear c33
              by_cases c34 : (rd l2 (ji31)) ≥ (rd l2 x30_2)
              ·rw [if_pos c34] at H
               have c34b0 : decide ((rd l2 x30_2) ≤ (rd l2 (ji31))) = true := decide_eq_true c34
               clear c34
               obtain rfl := Option.some.inj H
               have p563 : 0 ≤ (x30_2 : Int) := of_decide_eq_true (by first | (with_reducible assumption) | assumption)
               have q563 : x30_2 < (l2.length : Int) := of_decide_eq_true (by first | (with_reducible assumption) | assumption)
               obtain ⟨ad563, e563, hx563_0⟩ := Kd.at_int HR2.out x30_2 p563 q563
               cases e563
               replace hx563_0 := (HB.out.cell (World.block_lt_of_cell? w _ hx563_0)).trans hx563_0
               replace p563 := eq_true p563
               replace q563 := eq_true q563
               try go_wp2
               have n0_ := Aside0.mk (Kd.R_drew HO_7.out)
               have n1_ := Aside0.mk (blk_drew BK557.out)
               have n2_ := Aside0.mk (below_drew1 HB.out)
               clear HO_7
               clear BK557
               clear HB
               have HO_7 := n0_
               have BK557 := n1_
               have HB := n2_
               clear n0_ n1_ n2_
               have p565 : 0 ≤ ((ji31) : Int) := of_decide_eq_true (by first | (with_reducible assumption) | assumption)
               have q565 : (ji31) < (l2.length : Int) := of_decide_eq_true (by first | (with_reducible assumption) | assumption)
               obtain ⟨ad565, e565, hx565_0⟩ := Kd.at_int HR2.out (ji31) p565 q565
               have hw565_0 := hx565_0
               obtain rfl : ad563 = ad565 := (by injection e565)
               replace hx565_0 := (HB.out.cell (World.block_lt_of_cell? w _ hx565_0)).trans hx565_0
               replace p565 := eq_true p565
               replace q565 := eq_true q565
               refine stz (fun w' => w'.cell? (ad563.add ((ji31)).toNat) = some (.int .i64 (rd l2 (ji31)))) [] (bn 28 0) (((HB.out.cell (World.block_lt_of_cell? w _ hw565_0)).trans hw565_0)) (fun hHeld => ?_); refine with_tabW cover_Check.tab9 cover_Check.bits9 (fun HT_ HW_ => ?_)
               generalize wr.drew = w35 at HO_7 BK557 HB hx565_0 hHeld ⊢
               refine pT HT_.out 0 (some 35) (bn 28 1) ?_
               refine pT HT_.out 1 (some 36) (bn 28 3) ?_
               refine pT HT_.out 2 (some 37) (bn 28 7) ?_
               refine pT HT_.out 3 (some 38) (bn 28 15) ?_
               refine oT HT_.out 4 (some 39) (bn 28 31) (fun K hK => ?_)
               refine gz Try.func61 #[.int .i64 (rd l2 x30_2), .int .i64 0, .int .i64 (wrap64 ((l0.length : Int) - 1))] ?_
               with_reducible refine (cover_within.calls (rd l2 x30_2) 0 (wrap64 ((l0.length : Int) - 1)) true _ A28.out).mono ?_
               rintro e w' ⟨rfl, ⟨nd, rfl⟩⟩
               refine ⟨_, rfl, ?_⟩
               refine hK.out _ _ (((HB.out.cell (World.block_lt_of_cell? w _ hw565_0)).trans hw565_0)) (fun hHeld => ?_)
               clear hK K
               refine nz (some 39) ?_
               refine pT HT_.out 5 (some 40) (bn 28 63) ?_
               refine pT HT_.out 6 (some 41) (bn 28 127) ?_
               refine pT HT_.out 7 (some 42) (bn 28 255) ?_
               refine pT HT_.out 8 (some 43) (bn 28 511) ?_
               refine pT HT_.out 9 (some 44) (bn 28 1023) ?_
               refine pT HT_.out 10 (some 45) (bn 28 2047) ?_
               refine pT HT_.out 11 (some 46) (bn 28 4095) ?_
               refine pT HT_.out 12 (some 47) (bn 28 8191) ?_
               refine pT HT_.out 13 (some 48) (bn 28 16383) ?_
               refine pT HT_.out 15 (some 50) (bn 28 49151) ?_
               refine tT HT_.out HW_.out 14 (some 49) (bn 28 65535) hHeld ?_
               refine pT HT_.out 16 (some 51) (bn 28 131071) ?_
               refine pT HT_.out 17 (some 52) (bn 28 262143) ?_
               refine pT HT_.out 18 (some 53) (bn 28 524287) ?_
               refine pT HT_.out 19 (some 54) (bn 28 1048575) ?_
               refine pT0 HT_.out 20 (some 55) (bn 28 2097151) ?_
               refine pT0 HT_.out 21 (some 56) (bn 28 4194303) ?_
               refine pT0 HT_.out 22 (some 57) (bn 28 8388607) ?_
               refine pT0 HT_.out 23 (some 58) (bn 28 16777215) ?_
               refine pT0 HT_.out 24 (some 59) (bn 28 33554431) ?_
               refine pT0 HT_.out 25 (some 60) (bn 28 67108863) ?_
               refine pT0 HT_.out 26 (some 61) (bn 28 134217727) ?_
               refine pT HT_.out 27 (some 62) (bn 28 268435455) ?_
               refine done_ (done_of HT_.out (by kernel_rfl)) ?_
               try go_wp2
               go_ret
               exact ⟨by first | rfl | (simp [errW_none, errW_some] <;> rfl) | (simp only [← hji31]; first | rfl | (simp [errW_none, errW_some] <;> rfl)) | (simp [*, errW_none, errW_some] <;> rfl), HBz⟩
              ·rw [if_neg c34] at H
               have c34b0 : decide ((rd l2 x30_2) ≤ (rd l2 (ji31))) = false := decide_eq_false c34
               clear c34
               by_cases c36 : 0 ≤ (rd l2 x30_2)
               ·rw [if_pos c36] at H
                have c36b0 : decide (0 ≤ (rd l2 x30_2)) = true := decide_eq_true c36
                clear c36
                by_cases c37 : (rd l2 x30_2) < (l0.length : Int)
                ·rw [if_pos c37] at H
                 have c37b0 : decide ((rd l2 x30_2) < (l0.length : Int)) = true := decide_eq_true c37
                 clear c37
                 replace H := Option.bind_eq_some_iff.mp H
                 obtain ⟨t567, A380, H⟩ := H
                 replace H : (if t567 = 0 then (if x7_2.length < 8796093022208 then (cover_Check.l0 k2 l0 l2 (x7_2 ++ [(⟨(rd_T28 l0 (rd l2 x30_2)).f0, (rd_T28 l0 (rd l2 x30_2)).f1⟩ : S28)]) l2 (l2.length : Int) (wrap64 (x30_2 + 1)) a1_0 a1_1 a1_2 a1_3) else (none)) else (some 10)) = some r := H
                 have A38 := Aside0.mk A380
                 clear A380
                 by_cases c39 : t567 = 0
                 ·rw [if_pos c39] at H
                  have c39b0 : (t567 == 0) = true := beq_iff_eq.mpr c39
                  have c39b1 : (t567 != 0) = false := bne_eq_false_iff_eq.mpr c39
                  clear c39
                  by_cases c40 : x7_2.length < 8796093022208
                  ·rw [if_pos c40] at H
                   have LMc40 := Aside0.mk c40
                   clear c40
                   obtain ⟨y569, hy569⟩ : ∃ y_ : List (S28), y_ = (x7_2 ++ [(⟨(rd_T28 l0 (rd l2 x30_2)).f0, (rd_T28 l0 (rd l2 x30_2)).f1⟩ : S28)]) := ⟨_, rfl⟩
                   replace H : (cover_Check.l0 k2 l0 l2 y569 l2 (l2.length : Int) (wrap64 (x30_2 + 1)) a1_0 a1_1 a1_2 a1_3) = some r := by first | (rw [hy569]; with_reducible exact H) | (have H2_ := (Option.bind_some _ _).symm.trans H; rw [hy569]; with_reducible exact H2_) | (have H2_ := (Option.bind_some _ _).symm.trans H; with_reducible exact H2_) | with_reducible exact H | (rw [hy569]; exact H) | exact H
                   have Ny569 := Aside0.mk hy569
                   clear hy569
                   have H' := Aside0.mk H
                   clear H
                   have p563 : 0 ≤ (x30_2 : Int) := of_decide_eq_true (by first | (with_reducible assumption) | assumption)
                   have q563 : x30_2 < (l2.length : Int) := of_decide_eq_true (by first | (with_reducible assumption) | assumption)
                   obtain ⟨ad563, e563, hx563_0⟩ := Kd.at_int HR2.out x30_2 p563 q563
                   cases e563
                   replace hx563_0 := (HB.out.cell (World.block_lt_of_cell? w _ hx563_0)).trans hx563_0
                   replace p563 := eq_true p563
                   replace q563 := eq_true q563
                   try go_wp2
                   have n0_ := Aside0.mk (Kd.R_drew HO_7.out)
                   have n1_ := Aside0.mk (blk_drew BK557.out)
                   have n2_ := Aside0.mk (below_drew1 HB.out)
                   clear HO_7
                   clear BK557
                   clear HB
                   have HO_7 := n0_
                   have BK557 := n1_
                   have HB := n2_
                   clear n0_ n1_ n2_
                   have p565 : 0 ≤ ((ji31) : Int) := of_decide_eq_true (by first | (with_reducible assumption) | assumption)
                   have q565 : (ji31) < (l2.length : Int) := of_decide_eq_true (by first | (with_reducible assumption) | assumption)
                   obtain ⟨ad565, e565, hx565_0⟩ := Kd.at_int HR2.out (ji31) p565 q565
                   have hw565_0 := hx565_0
                   obtain rfl : ad563 = ad565 := (by injection e565)
                   replace hx565_0 := (HB.out.cell (World.block_lt_of_cell? w _ hx565_0)).trans hx565_0
                   replace p565 := eq_true p565
                   replace q565 := eq_true q565
                   have p566 : 0 ≤ ((rd l2 x30_2) : Int) := of_decide_eq_true (by first | (with_reducible assumption) | assumption)
                   have q566 : (rd l2 x30_2) < (l0.length : Int) := of_decide_eq_true (by first | (with_reducible assumption) | assumption)
                   obtain ⟨ad566, e566, hx566_0, hx566_1⟩ := at_T28 HR0.out (rd l2 x30_2) p566 q566
                   have hw566_1 := hx566_1
                   have hw566_0 := hx566_0
                   cases e566
                   replace hx566_0 := (HB.out.cell (World.block_lt_of_cell? w _ hx566_0)).trans hx566_0
                   replace hx566_1 := (HB.out.cell (World.block_lt_of_cell? w _ hx566_1)).trans hx566_1
                   replace p566 := eq_true p566
                   replace q566 := eq_true q566
                   refine stz (fun w' => w'.cell? ⟨gb557, 0, none⟩ = some (.int .i64 a1_0) ∧ w'.cell? ⟨gb557, 1, none⟩ = some (.int .i64 a1_1) ∧ w'.cell? ⟨gb557, 2, none⟩ = some (.int .i64 a1_2) ∧ w'.cell? ⟨gb557, 3, none⟩ = some (.int .i64 a1_3) ∧ w'.cell? (ad563.add ((ji31)).toNat) = some (.int .i64 (rd l2 (ji31))) ∧ w'.cell? (ad566.add (((rd l2 x30_2)).toNat * 2)) = some (.int .i64 ((rd_T28 l0 (rd l2 x30_2)).f0)) ∧ w'.cell? ⟨(ad566.add (((rd l2 x30_2)).toNat * 2)).block, (ad566.add (((rd l2 x30_2)).toNat * 2)).off + 1, none⟩ = some (.int .i64 ((rd_T28 l0 (rd l2 x30_2)).f1))) [] (bn 28 0) ⟨(blk_cell BK557.out 0).trans rfl, (blk_cell BK557.out 1).trans rfl, (blk_cell BK557.out 2).trans rfl, (blk_cell BK557.out 3).trans rfl, ((HB.out.cell (World.block_lt_of_cell? w _ hw565_0)).trans hw565_0), ((HB.out.cell (World.block_lt_of_cell? w _ hw566_0)).trans hw566_0), ((HB.out.cell (World.block_lt_of_cell? w _ hw566_1)).trans hw566_1)⟩ (fun hHeld => ?_); refine with_tabW cover_Check.tab9 cover_Check.bits9 (fun HT_ HW_ => ?_)
                   generalize wr.drew = w41 at HO_7 BK557 HB hx565_0 hx566_0 hx566_1 hHeld ⊢
                   refine pT HT_.out 0 (some 35) (bn 28 1) ?_
                   refine pT HT_.out 1 (some 36) (bn 28 3) ?_
                   refine pT HT_.out 2 (some 37) (bn 28 7) ?_
                   refine pT HT_.out 3 (some 38) (bn 28 15) ?_
                   refine oT HT_.out 4 (some 39) (bn 28 31) (fun K hK => ?_)
                   refine gz Try.func61 #[.int .i64 (rd l2 x30_2), .int .i64 0, .int .i64 (wrap64 ((l0.length : Int) - 1))] ?_
                   with_reducible refine (cover_within.calls (rd l2 x30_2) 0 (wrap64 ((l0.length : Int) - 1)) true _ A28.out).mono ?_
                   rintro e w' ⟨rfl, ⟨nd, rfl⟩⟩
                   refine ⟨_, rfl, ?_⟩
                   refine hK.out _ _ ⟨(blk_cell BK557.out 0).trans rfl, (blk_cell BK557.out 1).trans rfl, (blk_cell BK557.out 2).trans rfl, (blk_cell BK557.out 3).trans rfl, ((HB.out.cell (World.block_lt_of_cell? w _ hw565_0)).trans hw565_0), ((HB.out.cell (World.block_lt_of_cell? w _ hw566_0)).trans hw566_0), ((HB.out.cell (World.block_lt_of_cell? w _ hw566_1)).trans hw566_1)⟩ (fun hHeld => ?_)
                   clear hK K
                   refine nz (some 39) ?_
                   refine pT HT_.out 5 (some 40) (bn 28 63) ?_
                   refine pT HT_.out 6 (some 41) (bn 28 127) ?_
                   refine pT HT_.out 7 (some 42) (bn 28 255) ?_
                   refine pT HT_.out 8 (some 43) (bn 28 511) ?_
                   refine pT HT_.out 9 (some 44) (bn 28 1023) ?_
                   refine pT HT_.out 10 (some 45) (bn 28 2047) ?_
                   refine pT HT_.out 11 (some 46) (bn 28 4095) ?_
                   refine pT HT_.out 12 (some 47) (bn 28 8191) ?_
                   refine pT HT_.out 13 (some 48) (bn 28 16383) ?_
                   refine pT HT_.out 15 (some 50) (bn 28 49151) ?_
                   refine tT HT_.out HW_.out 14 (some 49) (bn 28 65535) hHeld ?_
                   refine pT HT_.out 16 (some 51) (bn 28 131071) ?_
                   refine pT HT_.out 17 (some 52) (bn 28 262143) ?_
                   refine pT HT_.out 18 (some 53) (bn 28 524287) ?_
                   refine pT HT_.out 19 (some 54) (bn 28 1048575) ?_
                   refine pT HT_.out 21 (some 56) (bn 28 3145727) ?_
                   refine pT HT_.out 22 (some 57) (bn 28 7340031) ?_
                   refine pT HT_.out 23 (some 58) (bn 28 15728639) ?_
                   refine tT HT_.out HW_.out 20 (some 55) (bn 28 16777215) hHeld ?_
                   refine tT HT_.out HW_.out 24 (some 59) (bn 28 33554431) hHeld ?_
                   refine oT HT_.out 25 (some 60) (bn 28 67108863) (fun K hK => ?_)
                   refine gz Try.func59 #[.agg #[.int .i64 a1_0, .int .i64 a1_1, .int .i64 a1_2, .int .i64 a1_3], .agg #[.int .i64 ((rd_T28 l0 (rd l2 x30_2)).f0), .int .i64 ((rd_T28 l0 (rd l2 x30_2)).f1)]] ?_
                   with_reducible refine (cover_side.calls a1_0 a1_1 a1_2 a1_3 ((rd_T28 l0 (rd l2 x30_2)).f0) ((rd_T28 l0 (rd l2 x30_2)).f1) t567 _ A38.out).mono ?_
                   rintro e w42 ⟨rfl, hb⟩
                   refine ⟨_, rfl, ?_⟩
                   have n0_ := Aside0.mk (Kd.R_below (by (with_reducible repeat (first | apply Kd.R_alloc | apply Kd.R_drewN | apply Kd.R_drew)); exact HO_7.out) hb)
                   have n1_ := Aside0.mk (blk_below (g := gb557) BKz hb)
                   have n2_ := Aside0.mk (below_step HBz hb)
                   clear HO_7
                   clear BK557
                   clear HB
                   have HO_7 := n0_
                   have BK557 := n1_
                   have HB := n2_
                   clear n0_ n1_ n2_
                   (try clear hb)
                   (try clear hb2)
                   (try clear hk)
                   (try clear hi)
                   refine hK.out _ _ ⟨(blk_cell BK557.out 0).trans rfl, (blk_cell BK557.out 1).trans rfl, (blk_cell BK557.out 2).trans rfl, (blk_cell BK557.out 3).trans rfl, ((HB.out.cell (World.block_lt_of_cell? w _ hw565_0)).trans hw565_0), ((HB.out.cell (World.block_lt_of_cell? w _ hw566_0)).trans hw566_0), ((HB.out.cell (World.block_lt_of_cell? w _ hw566_1)).trans hw566_1)⟩ (fun hHeld => ?_)
                   clear hK K
                   refine nz (some 60) ?_
                   refine pT HT_.out 26 (some 61) (bn 28 134217727) ?_
                   refine pT HT_.out 27 (some 62) (bn 28 268435455) ?_
                   refine done_ (done_of HT_.out (by kernel_rfl)) ?_
                   have p568 : 0 ≤ ((rd l2 x30_2) : Int) := of_decide_eq_true (by first | (with_reducible assumption) | assumption)
                   have q568 : (rd l2 x30_2) < (l0.length : Int) := of_decide_eq_true (by first | (with_reducible assumption) | assumption)
                   obtain ⟨ad568, e568, hx568_0, hx568_1⟩ := at_T28 HR0.out (rd l2 x30_2) p568 q568
                   obtain rfl : ad566 = ad568 := (by injection e568)
                   replace hx568_0 := (HB.out.cell (World.block_lt_of_cell? w _ hx568_0)).trans hx568_0
                   replace hx568_1 := (HB.out.cell (World.block_lt_of_cell? w _ hx568_1)).trans hx568_1
                   replace p568 := eq_true p568
                   replace q568 := eq_true q568
                   try go_wp2_with (first | ((with_reducible refine gate_builtin (b := .append) (xs := #[.tmp 63, .tmp 68]) rfl ?_); (try (refine gate_guard (by rfl) ?_; dsimp only)); at_builtin; refine Kd.R_append k28 (w0 := w) w.heap.size rfl (.tmp 63) (.tmp 68) 37 28 (.agg #[(.int .i64 0), (.int .i64 0)]) 16 rfl Try.underlying37 info28 rfl (by decide) (by omega) u7 x7_2 (⟨(rd_T28 l0 (rd l2 x30_2)).f0, (rd_T28 l0 (rd l2 x30_2)).f1⟩ : S28) [.int .i64 ((rd_T28 l0 (rd l2 x30_2)).f0), .int .i64 ((rd_T28 l0 (rd l2 x30_2)).f1)] (fun _ => True) (fun _ => False) rfl rfl ?aP (fun _ hk => hk.elim) ?aF ?aO ?aB ?aS ?aL ?_; (case aP => exact k28_mkM _ _ _ (⟨(rd_T28 l0 (rd l2 x30_2)).f0, (rd_T28 l0 (rd l2 x30_2)).f1⟩ : S28)); (case aB => exact HBz); (case aF => exact (fun _ _ => trivial)); (case aO => exact (by (with_reducible repeat (first | apply Kd.R_alloc | apply Kd.R_drewN | apply Kd.R_drew)); exact HO_7.out)); (case aS => exact (below_size HBz)); (case aL => have := LMc40.out; omega); intro v570 w43 ho hb hg hat; rw [← Ny569.out] at ho; have n0_ := Aside0.mk (blk_grown (g := gb557) BKz hg (Kd.R_ne HO_7.out BK557.out (by decide))); have n1_ := Aside0.mk (hb); have n2_ := Aside0.mk (ho); clear BK557; clear HB; clear HO_7; have BK557 := n0_; have HB := n1_; have HO571 := n2_; clear n0_ n1_ n2_; clear ho hb hg hat))
                   go_roundg k2
                   case measure => have := HJ5.out; have := HK2.out; omega
                   case rel => exact ⟨(y569), (wrap64 (x30_2 + 1)), (by first | rfl | (simp; done) | (simp [*]; done)), H', ⟨by have := HJ5.out; have := HK2.out; omega⟩, ⟨by (with_reducible repeat (first | apply Kd.R_alloc | apply Kd.R_drewN | apply Kd.R_drew)); exact HO571.out⟩, ⟨by (with_reducible repeat (first | refine blk_drewN ?_ _ | refine blk_drew ?_ | refine blk_alloc ?_ _)); exact BK557.out⟩, ⟨HBz⟩⟩
                  ·rw [if_neg c40] at H
                   exact absurd H (by simp)
                 ·rw [if_neg c39] at H
                  have c39b0 : (t567 == 0) = false := beq_eq_false_iff_ne.mpr c39
                  have c39b1 : (t567 != 0) = true := bne_iff_ne.mpr c39
                  obtain rfl := Option.some.inj H
                  have p563 : 0 ≤ (x30_2 : Int) := of_decide_eq_true (by first | (with_reducible assumption) | assumption)
                  have q563 : x30_2 < (l2.length : Int) := of_decide_eq_true (by first | (with_reducible assumption) | assumption)
                  obtain ⟨ad563, e563, hx563_0⟩ := Kd.at_int HR2.out x30_2 p563 q563
                  cases e563
                  replace hx563_0 := (HB.out.cell (World.block_lt_of_cell? w _ hx563_0)).trans hx563_0
                  replace p563 := eq_true p563
                  replace q563 := eq_true q563
                  try go_wp2
                  have n0_ := Aside0.mk (Kd.R_drew HO_7.out)
                  have n1_ := Aside0.mk (blk_drew BK557.out)
                  have n2_ := Aside0.mk (below_drew1 HB.out)
                  clear HO_7
                  clear BK557
                  clear HB
                  have HO_7 := n0_
                  have BK557 := n1_
                  have HB := n2_
                  clear n0_ n1_ n2_
                  have p565 : 0 ≤ ((ji31) : Int) := of_decide_eq_true (by first | (with_reducible assumption) | assumption)
                  have q565 : (ji31) < (l2.length : Int) := of_decide_eq_true (by first | (with_reducible assumption) | assumption)
                  obtain ⟨ad565, e565, hx565_0⟩ := Kd.at_int HR2.out (ji31) p565 q565
                  have hw565_0 := hx565_0
                  obtain rfl : ad563 = ad565 := (by injection e565)
                  replace hx565_0 := (HB.out.cell (World.block_lt_of_cell? w _ hx565_0)).trans hx565_0
                  replace p565 := eq_true p565
                  replace q565 := eq_true q565
                  have p566 : 0 ≤ ((rd l2 x30_2) : Int) := of_decide_eq_true (by first | (with_reducible assumption) | assumption)
                  have q566 : (rd l2 x30_2) < (l0.length : Int) := of_decide_eq_true (by first | (with_reducible assumption) | assumption)
                  obtain ⟨ad566, e566, hx566_0, hx566_1⟩ := at_T28 HR0.out (rd l2 x30_2) p566 q566
                  have hw566_1 := hx566_1
                  have hw566_0 := hx566_0
                  cases e566
                  replace hx566_0 := (HB.out.cell (World.block_lt_of_cell? w _ hx566_0)).trans hx566_0
                  replace hx566_1 := (HB.out.cell (World.block_lt_of_cell? w _ hx566_1)).trans hx566_1
                  replace p566 := eq_true p566
                  replace q566 := eq_true q566
                  refine stz (fun w' => w'.cell? ⟨gb557, 0, none⟩ = some (.int .i64 a1_0) ∧ w'.cell? ⟨gb557, 1, none⟩ = some (.int .i64 a1_1) ∧ w'.cell? ⟨gb557, 2, none⟩ = some (.int .i64 a1_2) ∧ w'.cell? ⟨gb557, 3, none⟩ = some (.int .i64 a1_3) ∧ w'.cell? (ad563.add ((ji31)).toNat) = some (.int .i64 (rd l2 (ji31))) ∧ w'.cell? (ad566.add (((rd l2 x30_2)).toNat * 2)) = some (.int .i64 ((rd_T28 l0 (rd l2 x30_2)).f0)) ∧ w'.cell? ⟨(ad566.add (((rd l2 x30_2)).toNat * 2)).block, (ad566.add (((rd l2 x30_2)).toNat * 2)).off + 1, none⟩ = some (.int .i64 ((rd_T28 l0 (rd l2 x30_2)).f1))) [] (bn 28 0) ⟨(blk_cell BK557.out 0).trans rfl, (blk_cell BK557.out 1).trans rfl, (blk_cell BK557.out 2).trans rfl, (blk_cell BK557.out 3).trans rfl, ((HB.out.cell (World.block_lt_of_cell? w _ hw565_0)).trans hw565_0), ((HB.out.cell (World.block_lt_of_cell? w _ hw566_0)).trans hw566_0), ((HB.out.cell (World.block_lt_of_cell? w _ hw566_1)).trans hw566_1)⟩ (fun hHeld => ?_); refine with_tabW cover_Check.tab9 cover_Check.bits9 (fun HT_ HW_ => ?_)
                  generalize wr.drew = w44 at HO_7 BK557 HB hx565_0 hx566_0 hx566_1 hHeld ⊢
                  refine pT HT_.out 0 (some 35) (bn 28 1) ?_
                  refine pT HT_.out 1 (some 36) (bn 28 3) ?_
                  refine pT HT_.out 2 (some 37) (bn 28 7) ?_
                  refine pT HT_.out 3 (some 38) (bn 28 15) ?_
                  refine oT HT_.out 4 (some 39) (bn 28 31) (fun K hK => ?_)
                  refine gz Try.func61 #[.int .i64 (rd l2 x30_2), .int .i64 0, .int .i64 (wrap64 ((l0.length : Int) - 1))] ?_
                  with_reducible refine (cover_within.calls (rd l2 x30_2) 0 (wrap64 ((l0.length : Int) - 1)) true _ A28.out).mono ?_
                  rintro e w' ⟨rfl, ⟨nd, rfl⟩⟩
                  refine ⟨_, rfl, ?_⟩
                  refine hK.out _ _ ⟨(blk_cell BK557.out 0).trans rfl, (blk_cell BK557.out 1).trans rfl, (blk_cell BK557.out 2).trans rfl, (blk_cell BK557.out 3).trans rfl, ((HB.out.cell (World.block_lt_of_cell? w _ hw565_0)).trans hw565_0), ((HB.out.cell (World.block_lt_of_cell? w _ hw566_0)).trans hw566_0), ((HB.out.cell (World.block_lt_of_cell? w _ hw566_1)).trans hw566_1)⟩ (fun hHeld => ?_)
                  clear hK K
                  refine nz (some 39) ?_
                  refine pT HT_.out 5 (some 40) (bn 28 63) ?_
                  refine pT HT_.out 6 (some 41) (bn 28 127) ?_
                  refine pT HT_.out 7 (some 42) (bn 28 255) ?_
                  refine pT HT_.out 8 (some 43) (bn 28 511) ?_
                  refine pT HT_.out 9 (some 44) (bn 28 1023) ?_
                  refine pT HT_.out 10 (some 45) (bn 28 2047) ?_
                  refine pT HT_.out 11 (some 46) (bn 28 4095) ?_
                  refine pT HT_.out 12 (some 47) (bn 28 8191) ?_
                  refine pT HT_.out 13 (some 48) (bn 28 16383) ?_
                  refine pT HT_.out 15 (some 50) (bn 28 49151) ?_
                  refine tT HT_.out HW_.out 14 (some 49) (bn 28 65535) hHeld ?_
                  refine pT HT_.out 16 (some 51) (bn 28 131071) ?_
                  refine pT HT_.out 17 (some 52) (bn 28 262143) ?_
                  refine pT HT_.out 18 (some 53) (bn 28 524287) ?_
                  refine pT HT_.out 19 (some 54) (bn 28 1048575) ?_
                  refine pT HT_.out 21 (some 56) (bn 28 3145727) ?_
                  refine pT HT_.out 22 (some 57) (bn 28 7340031) ?_
                  refine pT HT_.out 23 (some 58) (bn 28 15728639) ?_
                  refine tT HT_.out HW_.out 20 (some 55) (bn 28 16777215) hHeld ?_
                  refine tT HT_.out HW_.out 24 (some 59) (bn 28 33554431) hHeld ?_
                  refine oT HT_.out 25 (some 60) (bn 28 67108863) (fun K hK => ?_)
                  refine gz Try.func59 #[.agg #[.int .i64 a1_0, .int .i64 a1_1, .int .i64 a1_2, .int .i64 a1_3], .agg #[.int .i64 ((rd_T28 l0 (rd l2 x30_2)).f0), .int .i64 ((rd_T28 l0 (rd l2 x30_2)).f1)]] ?_
                  with_reducible refine (cover_side.calls a1_0 a1_1 a1_2 a1_3 ((rd_T28 l0 (rd l2 x30_2)).f0) ((rd_T28 l0 (rd l2 x30_2)).f1) t567 _ A38.out).mono ?_
                  rintro e w45 ⟨rfl, hb⟩
                  refine ⟨_, rfl, ?_⟩
                  have n0_ := Aside0.mk (Kd.R_below (by (with_reducible repeat (first | apply Kd.R_alloc | apply Kd.R_drewN | apply Kd.R_drew)); exact HO_7.out) hb)
                  have n1_ := Aside0.mk (blk_below (g := gb557) BKz hb)
                  have n2_ := Aside0.mk (below_step HBz hb)
                  clear HO_7
                  clear BK557
                  clear HB
                  have HO_7 := n0_
                  have BK557 := n1_
                  have HB := n2_
                  clear n0_ n1_ n2_
                  (try clear hb)
                  (try clear hb2)
                  (try clear hk)
                  (try clear hi)
                  refine hK.out _ _ ⟨(blk_cell BK557.out 0).trans rfl, (blk_cell BK557.out 1).trans rfl, (blk_cell BK557.out 2).trans rfl, (blk_cell BK557.out 3).trans rfl, ((HB.out.cell (World.block_lt_of_cell? w _ hw565_0)).trans hw565_0), ((HB.out.cell (World.block_lt_of_cell? w _ hw566_0)).trans hw566_0), ((HB.out.cell (World.block_lt_of_cell? w _ hw566_1)).trans hw566_1)⟩ (fun hHeld => ?_)
                  clear hK K
                  refine nz (some 60) ?_
                  refine pT HT_.out 26 (some 61) (bn 28 134217727) ?_
                  refine pT HT_.out 27 (some 62) (bn 28 268435455) ?_
                  refine done_ (done_of HT_.out (by kernel_rfl)) ?_
                  try go_wp2
                  go_ret
                  exact ⟨by first | rfl | (simp [errW_none, errW_some] <;> rfl) | (simp only [← hji31]; first | rfl | (simp [errW_none, errW_some] <;> rfl)) | (simp [*, errW_none, errW_some] <;> rfl), HBz⟩
                ·rw [if_neg c37] at H
                 exact absurd H (by simp)
               ·rw [if_neg c36] at H
                exact absurd H (by simp)
             ·rw [if_neg c33] at H
              exact absurd H (by simp)
            ·rw [if_neg c32] at H
             exact absurd H (by simp)
           ·rw [if_neg c30] at H
            have c30b0 : decide (0 < x30_2) = false := decide_eq_false c30
            clear c30
            by_cases c46 : 0 ≤ (rd l2 x30_2)
            ·rw [if_pos c46] at H
             have c46b0 : decide (0 ≤ (rd l2 x30_2)) = true := decide_eq_true c46
             clear c46
             by_cases c47 : (rd l2 x30_2) < (l0.length : Int)
             ·rw [if_pos c47] at H
              have c47b0 : decide ((rd l2 x30_2) < (l0.length : Int)) = true := decide_eq_true c47
              clear c47
              replace H := Option.bind_eq_some_iff.mp H
              obtain ⟨t573, A480, H⟩ := H
              replace H : (if t573 = 0 then (if x7_2.length < 8796093022208 then (cover_Check.l0 k2 l0 l2 (x7_2 ++ [(⟨(rd_T28 l0 (rd l2 x30_2)).f0, (rd_T28 l0 (rd l2 x30_2)).f1⟩ : S28)]) l2 (l2.length : Int) (wrap64 (x30_2 + 1)) a1_0 a1_1 a1_2 a1_3) else (none)) else (some 10)) = some r := H
              have A48 := Aside0.mk A480
              clear A480
              by_cases c49 : t573 = 0
              ·rw [if_pos c49] at H
               have c49b0 : (t573 == 0) = true := beq_iff_eq.mpr c49
               have c49b1 : (t573 != 0) = false := bne_eq_false_iff_eq.mpr c49
               clear c49
               by_cases c50 : x7_2.length < 8796093022208
               ·rw [if_pos c50] at H
                have LMc50 := Aside0.mk c50
                clear c50
                obtain ⟨y575, hy575⟩ : ∃ y_ : List (S28), y_ = (x7_2 ++ [(⟨(rd_T28 l0 (rd l2 x30_2)).f0, (rd_T28 l0 (rd l2 x30_2)).f1⟩ : S28)]) := ⟨_, rfl⟩
                replace H : (cover_Check.l0 k2 l0 l2 y575 l2 (l2.length : Int) (wrap64 (x30_2 + 1)) a1_0 a1_1 a1_2 a1_3) = some r := by first | (rw [hy575]; with_reducible exact H) | (have H2_ := (Option.bind_some _ _).symm.trans H; rw [hy575]; with_reducible exact H2_) | (have H2_ := (Option.bind_some _ _).symm.trans H; with_reducible exact H2_) | with_reducible exact H | (rw [hy575]; exact H) | exact H
                have Ny575 := Aside0.mk hy575
                clear hy575
                have H' := Aside0.mk H
                clear H
                have p563 : 0 ≤ (x30_2 : Int) := of_decide_eq_true (by first | (with_reducible assumption) | assumption)
                have q563 : x30_2 < (l2.length : Int) := of_decide_eq_true (by first | (with_reducible assumption) | assumption)
                obtain ⟨ad563, e563, hx563_0⟩ := Kd.at_int HR2.out x30_2 p563 q563
                cases e563
                replace hx563_0 := (HB.out.cell (World.block_lt_of_cell? w _ hx563_0)).trans hx563_0
                replace p563 := eq_true p563
                replace q563 := eq_true q563
                try go_wp2
                have n0_ := Aside0.mk (Kd.R_drew HO_7.out)
                have n1_ := Aside0.mk (blk_drew BK557.out)
                have n2_ := Aside0.mk (below_drew1 HB.out)
                clear HO_7
                clear BK557
                clear HB
                have HO_7 := n0_
                have BK557 := n1_
                have HB := n2_
                clear n0_ n1_ n2_
                have p572 : 0 ≤ ((rd l2 x30_2) : Int) := of_decide_eq_true (by first | (with_reducible assumption) | assumption)
                have q572 : (rd l2 x30_2) < (l0.length : Int) := of_decide_eq_true (by first | (with_reducible assumption) | assumption)
                obtain ⟨ad572, e572, hx572_0, hx572_1⟩ := at_T28 HR0.out (rd l2 x30_2) p572 q572
                have hw572_1 := hx572_1
                have hw572_0 := hx572_0
                cases e572
                replace hx572_0 := (HB.out.cell (World.block_lt_of_cell? w _ hx572_0)).trans hx572_0
                replace hx572_1 := (HB.out.cell (World.block_lt_of_cell? w _ hx572_1)).trans hx572_1
                replace p572 := eq_true p572
                replace q572 := eq_true q572
                refine stz (fun w' => w'.cell? ⟨gb557, 0, none⟩ = some (.int .i64 a1_0) ∧ w'.cell? ⟨gb557, 1, none⟩ = some (.int .i64 a1_1) ∧ w'.cell? ⟨gb557, 2, none⟩ = some (.int .i64 a1_2) ∧ w'.cell? ⟨gb557, 3, none⟩ = some (.int .i64 a1_3) ∧ w'.cell? (ad572.add (((rd l2 x30_2)).toNat * 2)) = some (.int .i64 ((rd_T28 l0 (rd l2 x30_2)).f0)) ∧ w'.cell? ⟨(ad572.add (((rd l2 x30_2)).toNat * 2)).block, (ad572.add (((rd l2 x30_2)).toNat * 2)).off + 1, none⟩ = some (.int .i64 ((rd_T28 l0 (rd l2 x30_2)).f1))) [] (bn 28 0) ⟨(blk_cell BK557.out 0).trans rfl, (blk_cell BK557.out 1).trans rfl, (blk_cell BK557.out 2).trans rfl, (blk_cell BK557.out 3).trans rfl, ((HB.out.cell (World.block_lt_of_cell? w _ hw572_0)).trans hw572_0), ((HB.out.cell (World.block_lt_of_cell? w _ hw572_1)).trans hw572_1)⟩ (fun hHeld => ?_); refine with_tabW cover_Check.tab9 cover_Check.bits9 (fun HT_ HW_ => ?_)
                generalize wr.drew = w51 at HO_7 BK557 HB hx572_0 hx572_1 hHeld ⊢
                refine pT HT_.out 0 (some 35) (bn 28 1) ?_
                refine pT HT_.out 1 (some 36) (bn 28 3) ?_
                refine pT HT_.out 2 (some 37) (bn 28 7) ?_
                refine pT HT_.out 3 (some 38) (bn 28 15) ?_
                refine oT HT_.out 4 (some 39) (bn 28 31) (fun K hK => ?_)
                refine gz Try.func61 #[.int .i64 (rd l2 x30_2), .int .i64 0, .int .i64 (wrap64 ((l0.length : Int) - 1))] ?_
                with_reducible refine (cover_within.calls (rd l2 x30_2) 0 (wrap64 ((l0.length : Int) - 1)) true _ A28.out).mono ?_
                rintro e w' ⟨rfl, ⟨nd, rfl⟩⟩
                refine ⟨_, rfl, ?_⟩
                refine hK.out _ _ ⟨(blk_cell BK557.out 0).trans rfl, (blk_cell BK557.out 1).trans rfl, (blk_cell BK557.out 2).trans rfl, (blk_cell BK557.out 3).trans rfl, ((HB.out.cell (World.block_lt_of_cell? w _ hw572_0)).trans hw572_0), ((HB.out.cell (World.block_lt_of_cell? w _ hw572_1)).trans hw572_1)⟩ (fun hHeld => ?_)
                clear hK K
                refine nz (some 39) ?_
                refine pT HT_.out 5 (some 40) (bn 28 63) ?_
                refine pT HT_.out 6 (some 41) (bn 28 127) ?_
                refine pT HT_.out 7 (some 42) (bn 28 255) ?_
                refine pT HT_.out 8 (some 43) (bn 28 511) ?_
                refine pT HT_.out 9 (some 44) (bn 28 1023) ?_
                refine pT0 HT_.out 10 (some 45) (bn 28 2047) ?_
                refine pT0 HT_.out 11 (some 46) (bn 28 4095) ?_
                refine pT0 HT_.out 12 (some 47) (bn 28 8191) ?_
                refine pT0 HT_.out 13 (some 48) (bn 28 16383) ?_
                refine pT0 HT_.out 14 (some 49) (bn 28 32767) ?_
                refine pT0 HT_.out 15 (some 50) (bn 28 65535) ?_
                refine pT0 HT_.out 16 (some 51) (bn 28 131071) ?_
                refine pT HT_.out 17 (some 52) (bn 28 262143) ?_
                refine pT HT_.out 18 (some 53) (bn 28 524287) ?_
                refine pT HT_.out 19 (some 54) (bn 28 1048575) ?_
                refine pT HT_.out 21 (some 56) (bn 28 3145727) ?_
                refine pT HT_.out 22 (some 57) (bn 28 7340031) ?_
                refine pT HT_.out 23 (some 58) (bn 28 15728639) ?_
                refine tT HT_.out HW_.out 20 (some 55) (bn 28 16777215) hHeld ?_
                refine tT HT_.out HW_.out 24 (some 59) (bn 28 33554431) hHeld ?_
                refine oT HT_.out 25 (some 60) (bn 28 67108863) (fun K hK => ?_)
                refine gz Try.func59 #[.agg #[.int .i64 a1_0, .int .i64 a1_1, .int .i64 a1_2, .int .i64 a1_3], .agg #[.int .i64 ((rd_T28 l0 (rd l2 x30_2)).f0), .int .i64 ((rd_T28 l0 (rd l2 x30_2)).f1)]] ?_
                with_reducible refine (cover_side.calls a1_0 a1_1 a1_2 a1_3 ((rd_T28 l0 (rd l2 x30_2)).f0) ((rd_T28 l0 (rd l2 x30_2)).f1) t573 _ A48.out).mono ?_
                rintro e w52 ⟨rfl, hb⟩
                refine ⟨_, rfl, ?_⟩
                have n0_ := Aside0.mk (Kd.R_below (by (with_reducible repeat (first | apply Kd.R_alloc | apply Kd.R_drewN | apply Kd.R_drew)); exact HO_7.out) hb)
                have n1_ := Aside0.mk (blk_below (g := gb557) BKz hb)
                have n2_ := Aside0.mk (below_step HBz hb)
                clear HO_7
                clear BK557
                clear HB
                have HO_7 := n0_
                have BK557 := n1_
                have HB := n2_
                clear n0_ n1_ n2_
                (try clear hb)
                (try clear hb2)
                (try clear hk)
                (try clear hi)
                refine hK.out _ _ ⟨(blk_cell BK557.out 0).trans rfl, (blk_cell BK557.out 1).trans rfl, (blk_cell BK557.out 2).trans rfl, (blk_cell BK557.out 3).trans rfl, ((HB.out.cell (World.block_lt_of_cell? w _ hw572_0)).trans hw572_0), ((HB.out.cell (World.block_lt_of_cell? w _ hw572_1)).trans hw572_1)⟩ (fun hHeld => ?_)
                clear hK K
                refine nz (some 60) ?_
                refine pT HT_.out 26 (some 61) (bn 28 134217727) ?_
                refine pT HT_.out 27 (some 62) (bn 28 268435455) ?_
                refine done_ (done_of HT_.out (by kernel_rfl)) ?_
                have p574 : 0 ≤ ((rd l2 x30_2) : Int) := of_decide_eq_true (by first | (with_reducible assumption) | assumption)
                have q574 : (rd l2 x30_2) < (l0.length : Int) := of_decide_eq_true (by first | (with_reducible assumption) | assumption)
                obtain ⟨ad574, e574, hx574_0, hx574_1⟩ := at_T28 HR0.out (rd l2 x30_2) p574 q574
                obtain rfl : ad572 = ad574 := (by injection e574)
                replace hx574_0 := (HB.out.cell (World.block_lt_of_cell? w _ hx574_0)).trans hx574_0
                replace hx574_1 := (HB.out.cell (World.block_lt_of_cell? w _ hx574_1)).trans hx574_1
                replace p574 := eq_true p574
                replace q574 := eq_true q574
                try go_wp2_with (first | ((with_reducible refine gate_builtin (b := .append) (xs := #[.tmp 63, .tmp 68]) rfl ?_); (try (refine gate_guard (by rfl) ?_; dsimp only)); at_builtin; refine Kd.R_append k28 (w0 := w) w.heap.size rfl (.tmp 63) (.tmp 68) 37 28 (.agg #[(.int .i64 0), (.int .i64 0)]) 16 rfl Try.underlying37 info28 rfl (by decide) (by omega) u7 x7_2 (⟨(rd_T28 l0 (rd l2 x30_2)).f0, (rd_T28 l0 (rd l2 x30_2)).f1⟩ : S28) [.int .i64 ((rd_T28 l0 (rd l2 x30_2)).f0), .int .i64 ((rd_T28 l0 (rd l2 x30_2)).f1)] (fun _ => True) (fun _ => False) rfl rfl ?aP (fun _ hk => hk.elim) ?aF ?aO ?aB ?aS ?aL ?_; (case aP => exact k28_mkM _ _ _ (⟨(rd_T28 l0 (rd l2 x30_2)).f0, (rd_T28 l0 (rd l2 x30_2)).f1⟩ : S28)); (case aB => exact HBz); (case aF => exact (fun _ _ => trivial)); (case aO => exact (by (with_reducible repeat (first | apply Kd.R_alloc | apply Kd.R_drewN | apply Kd.R_drew)); exact HO_7.out)); (case aS => exact (below_size HBz)); (case aL => have := LMc50.out; omega); intro v576 w53 ho hb hg hat; rw [← Ny575.out] at ho; have n0_ := Aside0.mk (blk_grown (g := gb557) BKz hg (Kd.R_ne HO_7.out BK557.out (by decide))); have n1_ := Aside0.mk (hb); have n2_ := Aside0.mk (ho); clear BK557; clear HB; clear HO_7; have BK557 := n0_; have HB := n1_; have HO577 := n2_; clear n0_ n1_ n2_; clear ho hb hg hat))
                go_roundg k2
                case measure => have := HJ5.out; have := HK2.out; omega
                case rel => exact ⟨(y575), (wrap64 (x30_2 + 1)), (by first | rfl | (simp; done) | (simp [*]; done)), H', ⟨by have := HJ5.out; have := HK2.out; omega⟩, ⟨by (with_reducible repeat (first | apply Kd.R_alloc | apply Kd.R_drewN | apply Kd.R_drew)); exact HO577.out⟩, ⟨by (with_reducible repeat (first | refine blk_drewN ?_ _ | refine blk_drew ?_ | refine blk_alloc ?_ _)); exact BK557.out⟩, ⟨HBz⟩⟩
               ·rw [if_neg c50] at H
                exact absurd H (by simp)
              ·rw [if_neg c49] at H
               have c49b0 : (t573 == 0) = false := beq_eq_false_iff_ne.mpr c49
               have c49b1 : (t573 != 0) = true := bne_iff_ne.mpr c49
               obtain rfl := Option.some.inj H
               have p563 : 0 ≤ (x30_2 : Int) := of_decide_eq_true (by first | (with_reducible assumption) | assumption)
               have q563 : x30_2 < (l2.length : Int) := of_decide_eq_true (by first | (with_reducible assumption) | assumption)
               obtain ⟨ad563, e563, hx563_0⟩ := Kd.at_int HR2.out x30_2 p563 q563
               cases e563
               replace hx563_0 := (HB.out.cell (World.block_lt_of_cell? w _ hx563_0)).trans hx563_0
               replace p563 := eq_true p563
               replace q563 := eq_true q563
               try go_wp2
               have n0_ := Aside0.mk (Kd.R_drew HO_7.out)
               have n1_ := Aside0.mk (blk_drew BK557.out)
               have n2_ := Aside0.mk (below_drew1 HB.out)
               clear HO_7
               clear BK557
               clear HB
               have HO_7 := n0_
               have BK557 := n1_
               have HB := n2_
               clear n0_ n1_ n2_
               have p572 : 0 ≤ ((rd l2 x30_2) : Int) := of_decide_eq_true (by first | (with_reducible assumption) | assumption)
               have q572 : (rd l2 x30_2) < (l0.length : Int) := of_decide_eq_true (by first | (with_reducible assumption) | assumption)
               obtain ⟨ad572, e572, hx572_0, hx572_1⟩ := at_T28 HR0.out (rd l2 x30_2) p572 q572
               have hw572_1 := hx572_1
               have hw572_0 := hx572_0
               cases e572
               replace hx572_0 := (HB.out.cell (World.block_lt_of_cell? w _ hx572_0)).trans hx572_0
               replace hx572_1 := (HB.out.cell (World.block_lt_of_cell? w _ hx572_1)).trans hx572_1
               replace p572 := eq_true p572
               replace q572 := eq_true q572
               refine stz (fun w' => w'.cell? ⟨gb557, 0, none⟩ = some (.int .i64 a1_0) ∧ w'.cell? ⟨gb557, 1, none⟩ = some (.int .i64 a1_1) ∧ w'.cell? ⟨gb557, 2, none⟩ = some (.int .i64 a1_2) ∧ w'.cell? ⟨gb557, 3, none⟩ = some (.int .i64 a1_3) ∧ w'.cell? (ad572.add (((rd l2 x30_2)).toNat * 2)) = some (.int .i64 ((rd_T28 l0 (rd l2 x30_2)).f0)) ∧ w'.cell? ⟨(ad572.add (((rd l2 x30_2)).toNat * 2)).block, (ad572.add (((rd l2 x30_2)).toNat * 2)).off + 1, none⟩ = some (.int .i64 ((rd_T28 l0 (rd l2 x30_2)).f1))) [] (bn 28 0) ⟨(blk_cell BK557.out 0).trans rfl, (blk_cell BK557.out 1).trans rfl, (blk_cell BK557.out 2).trans rfl, (blk_cell BK557.out 3).trans rfl, ((HB.out.cell (World.block_lt_of_cell? w _ hw572_0)).trans hw572_0), ((HB.out.cell (World.block_lt_of_cell? w _ hw572_1)).trans hw572_1)⟩ (fun hHeld => ?_); refine with_tabW cover_Check.tab9 cover_Check.bits9 (fun HT_ HW_ => ?_)
               generalize wr.drew = w54 at HO_7 BK557 HB hx572_0 hx572_1 hHeld ⊢
               refine pT HT_.out 0 (some 35) (bn 28 1) ?_
               refine pT HT_.out 1 (some 36) (bn 28 3) ?_
               refine pT HT_.out 2 (some 37) (bn 28 7) ?_
               refine pT HT_.out 3 (some 38) (bn 28 15) ?_
               refine oT HT_.out 4 (some 39) (bn 28 31) (fun K hK => ?_)
               refine gz Try.func61 #[.int .i64 (rd l2 x30_2), .int .i64 0, .int .i64 (wrap64 ((l0.length : Int) - 1))] ?_
               with_reducible refine (cover_within.calls (rd l2 x30_2) 0 (wrap64 ((l0.length : Int) - 1)) true _ A28.out).mono ?_
               rintro e w' ⟨rfl, ⟨nd, rfl⟩⟩
               refine ⟨_, rfl, ?_⟩
               refine hK.out _ _ ⟨(blk_cell BK557.out 0).trans rfl, (blk_cell BK557.out 1).trans rfl, (blk_cell BK557.out 2).trans rfl, (blk_cell BK557.out 3).trans rfl, ((HB.out.cell (World.block_lt_of_cell? w _ hw572_0)).trans hw572_0), ((HB.out.cell (World.block_lt_of_cell? w _ hw572_1)).trans hw572_1)⟩ (fun hHeld => ?_)
               clear hK K
               refine nz (some 39) ?_
               refine pT HT_.out 5 (some 40) (bn 28 63) ?_
               refine pT HT_.out 6 (some 41) (bn 28 127) ?_
               refine pT HT_.out 7 (some 42) (bn 28 255) ?_
               refine pT HT_.out 8 (some 43) (bn 28 511) ?_
               refine pT HT_.out 9 (some 44) (bn 28 1023) ?_
               refine pT0 HT_.out 10 (some 45) (bn 28 2047) ?_
               refine pT0 HT_.out 11 (some 46) (bn 28 4095) ?_
               refine pT0 HT_.out 12 (some 47) (bn 28 8191) ?_
               refine pT0 HT_.out 13 (some 48) (bn 28 16383) ?_
               refine pT0 HT_.out 14 (some 49) (bn 28 32767) ?_
               refine pT0 HT_.out 15 (some 50) (bn 28 65535) ?_
               refine pT0 HT_.out 16 (some 51) (bn 28 131071) ?_
               refine pT HT_.out 17 (some 52) (bn 28 262143) ?_
               refine pT HT_.out 18 (some 53) (bn 28 524287) ?_
               refine pT HT_.out 19 (some 54) (bn 28 1048575) ?_
               refine pT HT_.out 21 (some 56) (bn 28 3145727) ?_
               refine pT HT_.out 22 (some 57) (bn 28 7340031) ?_
               refine pT HT_.out 23 (some 58) (bn 28 15728639) ?_
               refine tT HT_.out HW_.out 20 (some 55) (bn 28 16777215) hHeld ?_
               refine tT HT_.out HW_.out 24 (some 59) (bn 28 33554431) hHeld ?_
               refine oT HT_.out 25 (some 60) (bn 28 67108863) (fun K hK => ?_)
               refine gz Try.func59 #[.agg #[.int .i64 a1_0, .int .i64 a1_1, .int .i64 a1_2, .int .i64 a1_3], .agg #[.int .i64 ((rd_T28 l0 (rd l2 x30_2)).f0), .int .i64 ((rd_T28 l0 (rd l2 x30_2)).f1)]] ?_
               with_reducible refine (cover_side.calls a1_0 a1_1 a1_2 a1_3 ((rd_T28 l0 (rd l2 x30_2)).f0) ((rd_T28 l0 (rd l2 x30_2)).f1) t573 _ A48.out).mono ?_
               rintro e w55 ⟨rfl, hb⟩
               refine ⟨_, rfl, ?_⟩
               have n0_ := Aside0.mk (Kd.R_below (by (with_reducible repeat (first | apply Kd.R_alloc | apply Kd.R_drewN | apply Kd.R_drew)); exact HO_7.out) hb)
               have n1_ := Aside0.mk (blk_below (g := gb557) BKz hb)
               have n2_ := Aside0.mk (below_step HBz hb)
               clear HO_7
               clear BK557
               clear HB
               have HO_7 := n0_
               have BK557 := n1_
               have HB := n2_
               clear n0_ n1_ n2_
               (try clear hb)
               (try clear hb2)
               (try clear hk)
               (try clear hi)
               refine hK.out _ _ ⟨(blk_cell BK557.out 0).trans rfl, (blk_cell BK557.out 1).trans rfl, (blk_cell BK557.out 2).trans rfl, (blk_cell BK557.out 3).trans rfl, ((HB.out.cell (World.block_lt_of_cell? w _ hw572_0)).trans hw572_0), ((HB.out.cell (World.block_lt_of_cell? w _ hw572_1)).trans hw572_1)⟩ (fun hHeld => ?_)
               clear hK K
               refine nz (some 60) ?_
               refine pT HT_.out 26 (some 61) (bn 28 134217727) ?_
               refine pT HT_.out 27 (some 62) (bn 28 268435455) ?_
               refine done_ (done_of HT_.out (by kernel_rfl)) ?_
               try go_wp2
               go_ret
               exact ⟨by first | rfl | (simp [errW_none, errW_some] <;> rfl) | (simp [*, errW_none, errW_some] <;> rfl), HBz⟩
             ·rw [if_neg c47] at H
              exact absurd H (by simp)
            ·rw [if_neg c46] at H
             exact absurd H (by simp)
          ·replace c29 := Bool.eq_false_iff.mpr c29
           subst c29
           have H1 : (some 10) = some r := by rw [if_neg (show ¬ (false = true) by decide)] at H; exact H
           clear H
           have H := H1
           clear H1
           obtain rfl := Option.some.inj H
           have p563 : 0 ≤ (x30_2 : Int) := of_decide_eq_true (by first | (with_reducible assumption) | assumption)
           have q563 : x30_2 < (l2.length : Int) := of_decide_eq_true (by first | (with_reducible assumption) | assumption)
           obtain ⟨ad563, e563, hx563_0⟩ := Kd.at_int HR2.out x30_2 p563 q563
           cases e563
           replace hx563_0 := (HB.out.cell (World.block_lt_of_cell? w _ hx563_0)).trans hx563_0
           replace p563 := eq_true p563
           replace q563 := eq_true q563
           try go_wp2
           have n0_ := Aside0.mk (Kd.R_drew HO_7.out)
           have n1_ := Aside0.mk (blk_drew BK557.out)
           have n2_ := Aside0.mk (below_drew1 HB.out)
           clear HO_7
           clear BK557
           clear HB
           have HO_7 := n0_
           have BK557 := n1_
           have HB := n2_
           clear n0_ n1_ n2_
           refine stz (fun w' => True) [] (bn 28 0) trivial (fun hHeld => ?_); refine with_tabW cover_Check.tab9 cover_Check.bits9 (fun HT_ HW_ => ?_)
           generalize wr.drew = w56 at HO_7 BK557 HB hHeld ⊢
           refine pT HT_.out 0 (some 35) (bn 28 1) ?_
           refine pT HT_.out 1 (some 36) (bn 28 3) ?_
           refine pT HT_.out 2 (some 37) (bn 28 7) ?_
           refine pT HT_.out 3 (some 38) (bn 28 15) ?_
           refine oT HT_.out 4 (some 39) (bn 28 31) (fun K hK => ?_)
           refine gz Try.func61 #[.int .i64 (rd l2 x30_2), .int .i64 0, .int .i64 (wrap64 ((l0.length : Int) - 1))] ?_
           with_reducible refine (cover_within.calls (rd l2 x30_2) 0 (wrap64 ((l0.length : Int) - 1)) false _ A28.out).mono ?_
           rintro e w' ⟨rfl, ⟨nd, rfl⟩⟩
           refine ⟨_, rfl, ?_⟩
           refine hK.out _ _ trivial (fun hHeld => ?_)
           clear hK K
           refine nz (some 39) ?_
           refine pT HT_.out 5 (some 40) (bn 28 63) ?_
           refine pT HT_.out 6 (some 41) (bn 28 127) ?_
           refine pT0 HT_.out 7 (some 42) (bn 28 255) ?_
           refine pT0 HT_.out 8 (some 43) (bn 28 511) ?_
           refine pT0 HT_.out 9 (some 44) (bn 28 1023) ?_
           refine pT0 HT_.out 10 (some 45) (bn 28 2047) ?_
           refine pT0 HT_.out 11 (some 46) (bn 28 4095) ?_
           refine pT0 HT_.out 12 (some 47) (bn 28 8191) ?_
           refine pT0 HT_.out 13 (some 48) (bn 28 16383) ?_
           refine pT0 HT_.out 14 (some 49) (bn 28 32767) ?_
           refine pT0 HT_.out 15 (some 50) (bn 28 65535) ?_
           refine pT0 HT_.out 16 (some 51) (bn 28 131071) ?_
           refine pT0 HT_.out 17 (some 52) (bn 28 262143) ?_
           refine pT HT_.out 18 (some 53) (bn 28 524287) ?_
           refine pT HT_.out 19 (some 54) (bn 28 1048575) ?_
           refine pT0 HT_.out 20 (some 55) (bn 28 2097151) ?_
           refine pT0 HT_.out 21 (some 56) (bn 28 4194303) ?_
           refine pT0 HT_.out 22 (some 57) (bn 28 8388607) ?_
           refine pT0 HT_.out 23 (some 58) (bn 28 16777215) ?_
           refine pT0 HT_.out 24 (some 59) (bn 28 33554431) ?_
           refine pT0 HT_.out 25 (some 60) (bn 28 67108863) ?_
           refine pT0 HT_.out 26 (some 61) (bn 28 134217727) ?_
           refine pT HT_.out 27 (some 62) (bn 28 268435455) ?_
           refine done_ (done_of HT_.out (by kernel_rfl)) ?_
           try go_wp2
           go_ret
           exact ⟨by first | rfl | (simp [errW_none, errW_some] <;> rfl) | (simp [*, errW_none, errW_some] <;> rfl), HBz⟩
         ·rw [if_neg c27] at H
          exact absurd H (by simp)
        ·rw [if_neg c26] at H
         exact absurd H (by simp)
       ·rw [if_neg c25] at H
        have c25b0 : decide (x30_2 < (l2.length : Int)) = false := decide_eq_false c25
        clear c25
        replace H := Option.bind_eq_some_iff.mp H
        obtain ⟨t562, A570, H⟩ := H
        replace H : (if t562 = true then (some 0) else (some 10)) = some r := H
        have A57 := Aside0.mk A570
        clear A570
        by_cases c58 : t562 = true
        ·subst c58
         have H1 : (some 0) = some r := by rw [if_pos rfl] at H; exact H
         clear H
         have H := H1
         clear H1
         obtain rfl := Option.some.inj H
         have hcz59_0 : wr.cell? ⟨gb557, 0, none⟩ = some (.int .i64 a1_0) := (blk_cell BK557.out 0).trans rfl
         have hcz59_1 : wr.cell? ⟨gb557, 1, none⟩ = some (.int .i64 a1_1) := (blk_cell BK557.out 1).trans rfl
         have hcz59_2 : wr.cell? ⟨gb557, 2, none⟩ = some (.int .i64 a1_2) := (blk_cell BK557.out 2).trans rfl
         have hcz59_3 : wr.cell? ⟨gb557, 3, none⟩ = some (.int .i64 a1_3) := (blk_cell BK557.out 3).trans rfl
         have hfz59_0 := blk_frozen BK557.out 0
         have hfz59_1 := blk_frozen BK557.out 1
         have hfz59_2 := blk_frozen BK557.out 2
         have hfz59_3 := blk_frozen BK557.out 3
         obtain ⟨Ao60, co60, eo60⟩ := Kd.R_slice HO_7.out
         subst eo60
         go_wp2_with (first | ((with_reducible refine gate_callee (f := 62) rfl ?_); refine goesL_ (some 73) rfl rfl Try.func62 (by kernel_rfl) rfl #[.agg #[.int .i64 a1_0, .int .i64 a1_1, .int .i64 a1_2, .int .i64 a1_3], .slice Ao60 x7_2.length co60] rfl (by (try simp only [List.map_toArray, List.map_cons, List.map_nil]); first | done | rfl | (simp only [List.length_drop, List.length_take]; rfl)) ?_; (with_reducible refine (cover_isInside.calls k2 a1_0 a1_1 a1_2 a1_3 _ _ x7_2 true _ ?side1 ?side2 A57.out).mono ?_); (case side1 => repeat (first | exact (Kd.R_reads' HO_7.out).2.2 | (with_reducible refine Kd.C_alloc ?_ _) | (with_reducible refine Kd.C_drewN ?_ _) | (with_reducible refine Kd.C_drew ?_))); (case side2 => exact (Kd.R_reads' HO_7.out).2.1); rintro e w61 ⟨rfl, hb⟩; refine ⟨_, rfl, ?_⟩; have n0_ := Aside0.mk (Kd.R_below (by (with_reducible repeat (first | apply Kd.R_alloc | apply Kd.R_drewN | apply Kd.R_drew)); exact HO_7.out) hb); have n1_ := Aside0.mk (blk_below (g := gb557) BKz hb); have n2_ := Aside0.mk (below_step HBz hb); clear HO_7; clear BK557; clear HB; have HO_7 := n0_; have BK557 := n1_; have HB := n2_; clear n0_ n1_ n2_; (try clear hb); (try clear hb2); (try clear hk); (try clear hi)))
         go_ret
         exact ⟨by first | rfl | (simp [errW_none, errW_some] <;> rfl) | (simp [*, errW_none, errW_some] <;> rfl), HBz⟩
        ·replace c58 := Bool.eq_false_iff.mpr c58
         subst c58
         have H1 : (some 10) = some r := by rw [if_neg (show ¬ (false = true) by decide)] at H; exact H
         clear H
         have H := H1
         clear H1
         obtain rfl := Option.some.inj H
         have hcz62_0 : wr.cell? ⟨gb557, 0, none⟩ = some (.int .i64 a1_0) := (blk_cell BK557.out 0).trans rfl
         have hcz62_1 : wr.cell? ⟨gb557, 1, none⟩ = some (.int .i64 a1_1) := (blk_cell BK557.out 1).trans rfl
         have hcz62_2 : wr.cell? ⟨gb557, 2, none⟩ = some (.int .i64 a1_2) := (blk_cell BK557.out 2).trans rfl
         have hcz62_3 : wr.cell? ⟨gb557, 3, none⟩ = some (.int .i64 a1_3) := (blk_cell BK557.out 3).trans rfl
         have hfz62_0 := blk_frozen BK557.out 0
         have hfz62_1 := blk_frozen BK557.out 1
         have hfz62_2 := blk_frozen BK557.out 2
         have hfz62_3 := blk_frozen BK557.out 3
         obtain ⟨Ao63, co63, eo63⟩ := Kd.R_slice HO_7.out
         subst eo63
         go_wp2_with (first | ((with_reducible refine gate_callee (f := 62) rfl ?_); refine goesL_ (some 73) rfl rfl Try.func62 (by kernel_rfl) rfl #[.agg #[.int .i64 a1_0, .int .i64 a1_1, .int .i64 a1_2, .int .i64 a1_3], .slice Ao63 x7_2.length co63] rfl (by (try simp only [List.map_toArray, List.map_cons, List.map_nil]); first | done | rfl | (simp only [List.length_drop, List.length_take]; rfl)) ?_; (with_reducible refine (cover_isInside.calls k2 a1_0 a1_1 a1_2 a1_3 _ _ x7_2 false _ ?side1 ?side2 A57.out).mono ?_); (case side1 => repeat (first | exact (Kd.R_reads' HO_7.out).2.2 | (with_reducible refine Kd.C_alloc ?_ _) | (with_reducible refine Kd.C_drewN ?_ _) | (with_reducible refine Kd.C_drew ?_))); (case side2 => exact (Kd.R_reads' HO_7.out).2.1); rintro e w64 ⟨rfl, hb⟩; refine ⟨_, rfl, ?_⟩; have n0_ := Aside0.mk (Kd.R_below (by (with_reducible repeat (first | apply Kd.R_alloc | apply Kd.R_drewN | apply Kd.R_drew)); exact HO_7.out) hb); have n1_ := Aside0.mk (blk_below (g := gb557) BKz hb); have n2_ := Aside0.mk (below_step HBz hb); clear HO_7; clear BK557; clear HB; have HO_7 := n0_; have BK557 := n1_; have HB := n2_; clear n0_ n1_ n2_; (try clear hb); (try clear hb2); (try clear hk); (try clear hi)))
         go_ret
         exact ⟨by first | rfl | (simp [errW_none, errW_some] <;> rfl) | (simp [*, errW_none, errW_some] <;> rfl), HBz⟩
 ·replace c5 := Bool.eq_false_iff.mpr c5
  subst c5
  have H1 : (some 2) = some r := by rw [if_neg (show ¬ (false = true) by decide)] at H; exact H
  clear H
  have H := H1
  clear H1
  obtain rfl := Option.some.inj H
  go_enter Try.func38, Try.ntmps38
  go_wp2_with (first | ((with_reducible refine gate_dst (N := 4) rfl ?_); (try (refine gate_guard (by rfl) ?_; dsimp only)); refine bxE 4 #[.int .i64 a1_0, .int .i64 a1_1, .int .i64 a1_2, .int .i64 a1_3] 40 ?_; intro gb557 hg w65 hbox hb; have n0_ := Aside0.mk (below_step HBz hb); have n1_ := Aside0.mk (hbox); have n2_ := Aside0.mk ((by rw [hg]; exact (below_size HBz) : w.heap.size ≤ gb557)); have n3_ := Aside0.mk ((by rw [hg]; exact (below_size HBz) : w.heap.size ≤ gb557)); clear HB; have HB := n0_; have BK557 := n1_; have GW557 := n2_; have GE557 := n3_; clear n0_ n1_ n2_ n3_; clear hb hbox hg) | ((with_reducible refine gate_callee (f := 52) rfl ?_); refine goesL_ (some 11) rfl rfl Try.func52 (by kernel_rfl) rfl #[.slice A0 l0.length c0] rfl (by (try simp only [List.map_toArray, List.map_cons, List.map_nil]); first | done | rfl | (simp only [List.length_drop, List.length_take]; rfl)) ?_; (with_reducible refine (cover_arePoints.calls _ _ l0 false _ ?side1 ?side2 A4.out).mono ?_); (case side1 => repeat (first | exact (Kd.C_below HR0.out HB.out) | (with_reducible refine Kd.C_alloc ?_ _) | (with_reducible refine Kd.C_drewN ?_ _) | (with_reducible refine Kd.C_drew ?_))); (case side2 => exact HC0.out); rintro e w66 ⟨rfl, hb⟩; refine ⟨_, rfl, ?_⟩; have n0_ := Aside0.mk (blk_below (g := gb557) BKz hb); have n1_ := Aside0.mk (below_step HBz hb); clear BK557; clear HB; have BK557 := n0_; have HB := n1_; clear n0_ n1_; (try clear hb); (try clear hb2); (try clear hk); (try clear hi)))
  go_ret
  exact ⟨by first | rfl | (simp [errW_none, errW_some] <;> rfl) | (simp [*, errW_none, errW_some] <;> rfl), HBz⟩
end Go.Proofs.Ytplhfbkejngioaa.X
