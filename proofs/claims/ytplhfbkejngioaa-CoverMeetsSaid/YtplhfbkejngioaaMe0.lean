/- Texts of this claim's session, put together: X8, X29, X30. -/
import Derived.Test.YtplhfbkejngioaaBb0
import Derived.Test.YtplhfbkejngioaaBb4
import Derived.Test.YtplhfbkejngioaaWWords
import Derived.Test.YtplhfbkejngioaaWLast
import Derived.Test.YtplhfbkejngioaaWTab
import Derived.Test.YtplhfbkejngioaaWRepsOne
namespace Go.Proofs.Ytplhfbkejngioaa.X
open Go.RowKit Go.Proofs.YtplhfbkejngioaaW.PrintWords Go.Proofs.YtplhfbkejngioaaW.PrintLast Go.Proofs.Ytplhfbkejngioaa.S
attribute [local go_sem] max2_int min2_int max_two min_two
set_option linter.unusedVariables false
set_option linter.unusedSimpArgs false
def tickinglaw01_rects.f (l0 : List (S48)) (a1 : Int) : Option ((List (S48))) := if 0 ≤ (mn (l0.length : Int) a1) then (if (mn (l0.length : Int) a1) ≤ (l0.length : Int) then ((some (l0.take ((mn (l0.length : Int) a1) : Int).toNat : List (S48))).bind fun y172 => (if ([] : List (S48)).length + y172.length < 4398046511104 then (some (([] : List (S48)) ++ y172)) else (none))) else (none)) else (none)
set_option maxHeartbeats 8000000 in
set_option maxRecDepth 100000 in
theorem tickinglaw01_rects.calls (A0 : Option Addr) (c0 : Nat) (l0 : List (S48)) (a1 : Int) (r : List (S48)) (w : World) (hr0 : Kd.C k48 w A0 l0.length l0) (hc0 : l0.length ≤ c0) (h : tickinglaw01_rects.f l0 a1 = some r) :
  Calls Try.prog 16 #[.slice A0 l0.length c0, .int .i64 a1] w fun e w' => ∃ v0_ : Value, e = .returned (v0_) ∧ Kd.R k48 48 w' w.heap.size (fun _ => True) v0_ r ∧ Below w.heap.size w w' := by
 have HR0 := Aside0.mk hr0
 have HC0 := Aside0.mk hc0
 clear hr0 hc0
 have HB := Aside0.mk (Below.refl w.heap.size w)
 have H : (if 0 ≤ (mn (l0.length : Int) a1) then (if (mn (l0.length : Int) a1) ≤ (l0.length : Int) then ((some (l0.take ((mn (l0.length : Int) a1) : Int).toNat : List (S48))).bind fun y172 => (if ([] : List (S48)).length + y172.length < 4398046511104 then (some (([] : List (S48)) ++ y172)) else (none))) else (none)) else (none)) = some r := h
 clear h
 obtain ⟨ji3, hji3⟩ : ∃ j_ : Int, (mn (l0.length : Int) a1) = j_ := ⟨_, rfl⟩
 replace H : (if 0 ≤ (ji3) then (if (ji3) ≤ (l0.length : Int) then ((some (l0.take ((ji3) : Int).toNat : List (S48))).bind fun y172 => (if ([] : List (S48)).length + y172.length < 4398046511104 then (some (([] : List (S48)) ++ y172)) else (none))) else (none)) else (none)) = some r := by first | (rw [hji3] at H; exact H) | (simp only [hji3] at H ⊢; exact H)
 have hji3_ : (if a1 < (l0.length : Int) then a1 else (l0.length : Int)) = ji3 := hji3
 by_cases c4 : 0 ≤ (ji3)
 ·rw [if_pos c4] at H
  have c4b0 := eq_true c4
  have c4b1 : decide (0 ≤ (ji3)) = true := decide_eq_true c4
  clear c4
  by_cases c5 : (ji3) ≤ (l0.length : Int)
  ·rw [if_pos c5] at H
   have c5b0 := eq_true c5
   have c5b1 : decide ((ji3) ≤ (l0.length : Int)) = true := decide_eq_true c5
   clear c5
   obtain ⟨y172, hy172⟩ : ∃ y_ : List (S48), y_ = (l0.take ((ji3) : Int).toNat) := ⟨_, rfl⟩
   replace H : (if ([] : List (S48)).length + y172.length < 4398046511104 then (some (([] : List (S48)) ++ y172)) else (none)) = some r := by first | (rw [hy172]; with_reducible exact H) | (have H2_ := (Option.bind_some _ _).symm.trans H; rw [hy172]; with_reducible exact H2_) | (have H2_ := (Option.bind_some _ _).symm.trans H; with_reducible exact H2_) | with_reducible exact H | (rw [hy172]; exact H) | exact H
   have Ny172 := Aside0.mk hy172
   clear hy172
   by_cases c6 : ([] : List (S48)).length + y172.length < 4398046511104
   ·rw [if_pos c6] at H
    have LMc6 := Aside0.mk c6
    clear c6
    obtain ⟨y176, hy176⟩ : ∃ y_ : List (S48), y_ = (([] : List (S48)) ++ y172) := ⟨_, rfl⟩
    replace H : (some y176) = some r := by first | (rw [hy176]; with_reducible exact H) | (have H2_ := (Option.bind_some _ _).symm.trans H; rw [hy176]; with_reducible exact H2_) | (have H2_ := (Option.bind_some _ _).symm.trans H; with_reducible exact H2_) | with_reducible exact H | (rw [hy176]; exact H) | exact H
    have Ny176 := Aside0.mk hy176
    clear hy176
    obtain rfl := Option.some.inj H
    have q7 : ((ji3) : Int) ≤ ((l0.length : Int) : Int) := of_decide_eq_true (by first | (with_reducible assumption) | assumption)
    obtain ⟨i07, hi07, _, hsz7, _⟩ := info_parts info48
    have hroom7 : l0.length ≤ c0 := HC0.out
    have hC7 : Kd.C k48 _ A0 l0.length l0 := HR0.out
    have hcut7 := cut_to (P := Try.prog) 22 48 .i64 Try.underlying22 hi07 A0 l0.length c0 (ji3) (of_decide_eq_true (by first | (with_reducible assumption) | assumption)) q7 hroom7
    have hr7 := Kd.C_take (m := ((ji3) : Int).toNat) hC7 (by omega)
    have hy7 : y172.length = ((ji3) : Int).toNat := (by rw [Ny172.out, List.length_take]; omega)
    rw [← Ny172.out] at hr7
    rw [← hy7] at hcut7
    have HR175 := Aside0.mk hr7
    have HC175 := Aside0.mk (show y172.length ≤ c0 from by omega)
    clear hr7 hC7 hroom7 hi07 hsz7
    have KY7 := Aside0.mk hy7
    clear hy7
    replace q7 := eq_true q7
    go_enter Try.func16, Try.ntmps16
    go_wp2_with (first | ((with_reducible refine gate_builtin (b := .append) (xs := #[.tmp 6, .tmp 12]) rfl ?_); at_builtin; refine Kd.R_append_rows k48 (w0 := w) w.heap.size rfl (.tmp 6) (.tmp 12) 22 48 (.agg #[(.int .i64 0), (.int .i64 0), (.int .i64 0), (.int .i64 0)]) 32 rfl Try.underlying22 info48 rfl (by decide) (by omega) (.slice none 0 0) ([] : List (S48)) y172 _ _ _ (fun _ => True) (fun _ => False) rfl rfl ?aO ?aR (fun _ _ h => h) (fun _ h => h.elim) ?aF ?aB ?aS ?aL ?_; (case aR => repeat (first | exact HR175.out | (with_reducible refine Kd.C_alloc ?_ _) | (with_reducible refine Kd.C_drewN ?_ _) | (with_reducible refine Kd.C_drew ?_))); (case aB => exact HBz); (case aF => exact (fun _ _ => trivial)); (case aO => exact ((Kd.R_nil _ _ _ _ (fun _ => True)))); (case aS => exact (below_size HBz)); (case aL => have := LMc6.out; omega); intro v177 w8 ho hb hg hat; rw [← Ny176.out] at ho; have n0_ := Aside0.mk (hb); have n1_ := Aside0.mk (ho); clear HB; have HB := n0_; have HO178 := n1_; clear n0_ n1_; clear ho hb hg hat))
    go_ret
    exact ⟨_, by first | rfl | (simp [errW_none, errW_some] <;> rfl) | (simp only [← hji3]; first | rfl | (simp [errW_none, errW_some] <;> rfl)) | (simp [*, errW_none, errW_some] <;> rfl), by (with_reducible repeat (first | apply Kd.R_alloc | apply Kd.R_drewN | apply Kd.R_drew)); exact HO178.out, HBz⟩
   ·rw [if_neg c6] at H
    exact absurd H (by simp)
  ·rw [if_neg c5] at H
   exact absurd H (by simp)
 ·rw [if_neg c4] at H
  exact absurd H (by simp)
end Go.Proofs.Ytplhfbkejngioaa.X
namespace Go.Proofs.Ytplhfbkejngioaa.X
open Go.RowKit Go.Proofs.YtplhfbkejngioaaW.PrintWords Go.Proofs.YtplhfbkejngioaaW.PrintLast Go.Proofs.Ytplhfbkejngioaa.S
attribute [local go_sem] max2_int min2_int max_two min_two
set_option linter.unusedVariables false
set_option linter.unusedSimpArgs false
mutual
def tickingref01_Common.l0 : Nat → List (S48) → Int → Int → Int → Option (Int × Int × Bool)
 | 0, _, _, _, _ => none
 | k + 1, x0, x5, x679000, x679001 => if x5 < (x0.length : Int) then (if 0 ≤ x5 then (tickingref01_Common.l0 k x0 (wrap64 (x5 + 1)) (mx x679000 ((rd_T48 x0 x5).f0)) (mx x679001 ((rd_T48 x0 x5).f1))) else (none)) else (tickingref01_Common.l1 k x0 0 x679000 x679001)
def tickingref01_Common.l1 : Nat → List (S48) → Int → Int → Int → Option (Int × Int × Bool)
 | 0, _, _, _, _ => none
 | k + 1, x0, x6, x679000, x679001 => if x6 < (x0.length : Int) then (if 0 ≤ x6 then (if ((rd_T48 x0 x6).f2) < x679000 then (some (0, 0, false)) else (if ((rd_T48 x0 x6).f3) < x679001 then (some (0, 0, false)) else (tickingref01_Common.l1 k x0 (wrap64 (x6 + 1)) x679000 x679001))) else (none)) else (some (x679000, x679001, true))
end
def tickingref01_Common.f (k : Nat) (l0 : List (S48)) : Option (Int × Int × Bool) := if (l0.length : Int) = 0 then (some (0, 0, true)) else (if 0 < (l0.length : Int) then (tickingref01_Common.l0 k l0 1 ((rd_T48 l0 0).f0) ((rd_T48 l0 0).f1)) else (none))
theorem tickingref01_Common.mono_l : ∀ k, (∀ y0 y1 y2 y3, LeO (tickingref01_Common.l0 k y0 y1 y2 y3) (tickingref01_Common.l0 (k + 1) y0 y1 y2 y3)) ∧ (∀ y0 y1 y2 y3, LeO (tickingref01_Common.l1 k y0 y1 y2 y3) (tickingref01_Common.l1 (k + 1) y0 y1 y2 y3))
 | 0 => ⟨fun _ _ _ _ r h => by simp [tickingref01_Common.l0] at h, fun _ _ _ _ r h => by simp [tickingref01_Common.l1] at h⟩
 | k + 1 => by
  obtain ⟨ih0, ih1⟩ := tickingref01_Common.mono_l k
  refine ⟨?_, ?_⟩
  ·intro y0 y1 y2 y3
   unfold tickingref01_Common.l0
   repeat' first
   | (with_reducible exact ih0 _ _ _ _)
   | (with_reducible exact ih1 _ _ _ _)
   | (with_reducible exact LeO.refl _)
   | (with_reducible exact LeO.none _)
   | (with_reducible refine LeO.ite ?_ ?_)
   | (with_reducible refine LeO.bind ?_ (fun _ => ?_))
   | exact ih0 _ _ _ _
   | exact ih1 _ _ _ _
   | exact LeO.none _
   | refine LeO.ite ?_ ?_
   | refine LeO.bind ?_ (fun _ => ?_)
  ·intro y0 y1 y2 y3
   unfold tickingref01_Common.l1
   repeat' first
   | (with_reducible exact ih0 _ _ _ _)
   | (with_reducible exact ih1 _ _ _ _)
   | (with_reducible exact LeO.refl _)
   | (with_reducible exact LeO.none _)
   | (with_reducible refine LeO.ite ?_ ?_)
   | (with_reducible refine LeO.bind ?_ (fun _ => ?_))
   | exact ih0 _ _ _ _
   | exact ih1 _ _ _ _
   | exact LeO.none _
   | refine LeO.ite ?_ ?_
   | refine LeO.bind ?_ (fun _ => ?_)
theorem tickingref01_Common.mono : ∀ a0 k, LeO (tickingref01_Common.f k a0) (tickingref01_Common.f (k + 1) a0) := by
 intro a0 k
 obtain ⟨ih0, ih1⟩ := tickingref01_Common.mono_l k
 unfold tickingref01_Common.f
 repeat' first
   | (with_reducible exact ih0 _ _ _ _)
   | (with_reducible exact ih1 _ _ _ _)
   | (with_reducible exact LeO.refl _)
   | (with_reducible exact LeO.none _)
   | (with_reducible refine LeO.ite ?_ ?_)
   | (with_reducible refine LeO.bind ?_ (fun _ => ?_))
   | exact ih0 _ _ _ _
   | exact ih1 _ _ _ _
   | exact LeO.none _
   | refine LeO.ite ?_ ?_
   | refine LeO.bind ?_ (fun _ => ?_)
def tickingref01_Common.T3 : Bool × List (List Nat × List Nat) := (true, [([], []), ([0], [0]), ([1], [1]), ([2], [2]), ([], []), ([4], [4]), ([5], [5]), ([6], [6]), ([3, 7], [3, 7]), ([], []), ([9, 8, 0, 1, 2, 3, 4, 5, 6, 7, 8, 9], [8, 9])])
def tickingref01_Common.B3 : List Nat := [0, 1, 3, 7, 0, 16, 48, 112, 255, 0, 1023]
theorem tickingref01_Common.tab3 : rtab .any (opsOf Try.f41 3) = tickingref01_Common.T3 := by kernel_rfl
theorem tickingref01_Common.bits3 : waitsOk tickingref01_Common.T3.2 tickingref01_Common.B3 = true := by kernel_rfl
def tickingref01_Common.T7 : Bool × List (List Nat × List Nat) := (true, [([], []), ([0], [0]), ([], []), ([], []), ([2, 3], [2, 3]), ([4], [4]), ([5], [5]), ([1, 6], [1, 6]), ([], []), ([8], [8]), ([], []), ([], []), ([10, 11], [10, 11]), ([12], [12]), ([13], [13]), ([9, 14], [9, 14]), ([7, 15], [7, 15]), ([16, 0, 1, 2, 3, 4, 5, 6, 7, 8, 9, 10, 11, 12, 13, 14, 15, 16], [16])])
def tickingref01_Common.B7 : List Nat := [0, 1, 0, 0, 12, 28, 60, 127, 0, 256, 0, 0, 3072, 7168, 15360, 32512, 65535, 131071]
theorem tickingref01_Common.tab7 : rtab .any (opsOf Try.f41 7) = tickingref01_Common.T7 := by kernel_rfl
theorem tickingref01_Common.bits7 : waitsOk tickingref01_Common.T7.2 tickingref01_Common.B7 = true := by kernel_rfl
def tickingref01_Common.T11 : Bool × List (List Nat × List Nat) := (true, [([], []), ([], []), ([0, 1], [0, 1]), ([2], [2]), ([3], [3]), ([], []), ([5], [5]), ([4, 6], [4, 6]), ([7], [7]), ([8], [8]), ([8], [8]), ([9, 10, 8], [8, 9, 10]), ([11, 8], [8, 11]), ([12, 8], [8, 12]), ([8], [8]), ([14, 8], [8, 14]), ([13, 15, 8], [8, 13, 15]), ([8, 16], [8, 16])])
def tickingref01_Common.B11 : List Nat := [0, 0, 3, 7, 15, 0, 32, 127, 255, 511, 511, 2047, 4095, 8191, 511, 16895, 65535, 131071]
theorem tickingref01_Common.tab11 : rtab .any (opsOf Try.f41 11) = tickingref01_Common.T11 := by kernel_rfl
theorem tickingref01_Common.bits11 : waitsOk tickingref01_Common.T11.2 tickingref01_Common.B11 = true := by kernel_rfl
set_option maxHeartbeats 8000000 in
set_option maxRecDepth 100000 in
theorem tickingref01_Common.calls (k : Nat) (A0 : Option Addr) (c0 : Nat) (l0 : List (S48)) (r1 : Int) (r2 : Int) (r3 : Bool) (w : World) (hr0 : Kd.C k48 w A0 l0.length l0) (hc0 : l0.length ≤ c0) (h : tickingref01_Common.f k l0 = some (r1, r2, r3)) :
  Calls Try.prog 41 #[.slice A0 l0.length c0] w fun e w' => e = .returned (.tuple #[.agg #[.int .i64 r1, .int .i64 r2], .bool r3]) ∧ Below w.heap.size w w' := by
 have hu28 := Try.underlying28
 have HR0 := Aside0.mk hr0
 have HC0 := Aside0.mk hc0
 clear hr0 hc0
 have HB := Aside0.mk (Below.refl w.heap.size w)
 have H : (if (l0.length : Int) = 0 then (some (0, 0, true)) else (if 0 < (l0.length : Int) then (tickingref01_Common.l0 k l0 1 ((rd_T48 l0 0).f0) ((rd_T48 l0 0).f1)) else (none))) = some (r1, r2, r3) := h
 clear h
 by_cases c2 : (l0.length : Int) = 0
 ·rw [if_pos c2] at H
  have c2b0 : ((l0.length : Int) == 0) = true := beq_iff_eq.mpr c2
  have c2b1 : ((l0.length : Int) != 0) = false := bne_eq_false_iff_eq.mpr c2
  clear c2
  simp only [Option.some.injEq, Prod.mk.injEq] at H
  obtain ⟨rfl, rfl, rfl⟩ := H
  go_enter Try.func41, Try.ntmps41
  go_wp2_with (first | ((with_reducible refine gate_dst (N := 2) rfl ?_); refine bxE 2 #[.int .i64 0, .int .i64 0] 28 ?_; intro gb675 hg w3 hbox hb; have n0_ := Aside0.mk (below_step HBz hb); have n1_ := Aside0.mk (hbox); have n2_ := Aside0.mk ((by rw [hg]; exact (below_size HBz) : w.heap.size ≤ gb675)); have n3_ := Aside0.mk ((by rw [hg]; exact (below_size HBz) : w.heap.size ≤ gb675)); clear HB; have HB := n0_; have BK675 := n1_; have GW675 := n2_; have GE675 := n3_; clear n0_ n1_ n2_ n3_; clear hb hbox hg; have hcz4_0 : w3.cell? ⟨gb675, 0, none⟩ = some (.int .i64 0) := (blk_cell BK675.out 0).trans rfl; have hcz4_1 : w3.cell? ⟨gb675, 1, none⟩ = some (.int .i64 0) := (blk_cell BK675.out 1).trans rfl; have hfz4_0 := blk_frozen BK675.out 0; have hfz4_1 := blk_frozen BK675.out 1))
  refine bodyPost_ret (results_ct rfl _ _ gb675 28 #[.int .i64 0, .int .i64 0] (0, 0) _ rfl (by (with_reducible repeat (first | refine blk_drewN ?_ _ | refine blk_drew ?_ | refine blk_alloc ?_ _)); refine blk_put (cs := #[.int .i64 0, .int .i64 0]) ?_ 1 _ rfl; (with_reducible repeat (first | refine blk_drewN ?_ _ | refine blk_drew ?_ | refine blk_alloc ?_ _)); refine blk_put (cs := #[.int .i64 0, .int .i64 0]) ?_ 0 _ rfl; (with_reducible repeat (first | refine blk_drewN ?_ _ | refine blk_drew ?_ | refine blk_alloc ?_ _)); exact BK675.out) Try.underlying28 rfl (by kernel_rfl)) rfl ?_
  exact ⟨by first | rfl | (simp [errW_none, errW_some] <;> rfl) | (simp [*, errW_none, errW_some] <;> rfl), HBz⟩
 ·rw [if_neg c2] at H
  have c2b0 : ((l0.length : Int) == 0) = false := beq_eq_false_iff_ne.mpr c2
  have c2b1 : ((l0.length : Int) != 0) = true := bne_iff_ne.mpr c2
  have c2b2 : ¬ (l0 = []) := fun h_ => c2 (by rw [h_]; rfl)
  by_cases c5 : 0 < (l0.length : Int)
  ·rw [if_pos c5] at H
   have c5b0 : decide (0 < (l0.length : Int)) = true := decide_eq_true c5
   have c5b1 : decide (0 < l0.length) = true := decide_eq_true (by omega)
   clear c5
   have H' := Aside0.mk H
   clear H
   go_enter Try.func41, Try.ntmps41
   try go_wp2_with (first | ((with_reducible refine gate_dst (N := 2) rfl ?_); refine bxE 2 #[.int .i64 0, .int .i64 0] 28 ?_; intro gb675 hg w6 hbox hb; have n0_ := Aside0.mk (below_step HBz hb); have n1_ := Aside0.mk (hbox); have n2_ := Aside0.mk ((by rw [hg]; exact (below_size HBz) : w.heap.size ≤ gb675)); have n3_ := Aside0.mk ((by rw [hg]; exact (below_size HBz) : w.heap.size ≤ gb675)); clear HB; have HB := n0_; have BK675 := n1_; have GW675 := n2_; have GE675 := n3_; clear n0_ n1_ n2_ n3_; clear hb hbox hg))
   have n0_ := Aside0.mk (blk_drew BK675.out)
   have n1_ := Aside0.mk (below_drew1 HB.out)
   clear BK675
   clear HB
   have BK675 := n0_
   have HB := n1_
   clear n0_ n1_
   have p676 : 0 ≤ (0 : Int) := (by omega)
   have q676 : 0 < (l0.length : Int) := of_decide_eq_true (by first | (with_reducible assumption) | assumption)
   obtain ⟨ad676, e676, hx676_0, hx676_1, hx676_2, hx676_3⟩ := at_T48 HR0.out 0 p676 q676
   have hw676_3 := hx676_3
   (try rw [show ((0 : Int)).toNat = 0 from rfl] at hw676_3)
   (try rw [show 0 * 4 = 0 from rfl] at hw676_3)
   (try rw [Addr.add_zero'] at hw676_3)
   have hw676_2 := hx676_2
   (try rw [show ((0 : Int)).toNat = 0 from rfl] at hw676_2)
   (try rw [show 0 * 4 = 0 from rfl] at hw676_2)
   (try rw [Addr.add_zero'] at hw676_2)
   have hw676_1 := hx676_1
   (try rw [show ((0 : Int)).toNat = 0 from rfl] at hw676_1)
   (try rw [show 0 * 4 = 0 from rfl] at hw676_1)
   (try rw [Addr.add_zero'] at hw676_1)
   have hw676_0 := hx676_0
   (try rw [show ((0 : Int)).toNat = 0 from rfl] at hw676_0)
   (try rw [show 0 * 4 = 0 from rfl] at hw676_0)
   (try rw [Addr.add_zero'] at hw676_0)
   cases e676
   have qi676 : (0 < l0.length) = True := eq_true (by omega)
   (try rw [show ((0 : Int)).toNat = 0 from rfl] at hx676_0)
   (try rw [show 0 * 4 = 0 from rfl] at hx676_0)
   (try rw [Addr.add_zero'] at hx676_0)
   (try rw [show ((0 : Int)).toNat = 0 from rfl] at hx676_1)
   (try rw [show 0 * 4 = 0 from rfl] at hx676_1)
   (try rw [Addr.add_zero'] at hx676_1)
   (try rw [show ((0 : Int)).toNat = 0 from rfl] at hx676_2)
   (try rw [show 0 * 4 = 0 from rfl] at hx676_2)
   (try rw [Addr.add_zero'] at hx676_2)
   (try rw [show ((0 : Int)).toNat = 0 from rfl] at hx676_3)
   (try rw [show 0 * 4 = 0 from rfl] at hx676_3)
   (try rw [Addr.add_zero'] at hx676_3)
   replace hx676_0 := (HB.out.cell (World.block_lt_of_cell? w _ hx676_0)).trans hx676_0
   replace hx676_1 := (HB.out.cell (World.block_lt_of_cell? w _ hx676_1)).trans hx676_1
   replace hx676_2 := (HB.out.cell (World.block_lt_of_cell? w _ hx676_2)).trans hx676_2
   replace hx676_3 := (HB.out.cell (World.block_lt_of_cell? w _ hx676_3)).trans hx676_3
   replace p676 := eq_true p676
   replace q676 := eq_true q676
   have p677 : 0 ≤ (0 : Int) := (by omega)
   have q677 : 0 < (l0.length : Int) := of_decide_eq_true (by first | (with_reducible assumption) | assumption)
   obtain ⟨ad677, e677, hx677_0, hx677_1, hx677_2, hx677_3⟩ := at_T48 HR0.out 0 p677 q677
   have hw677_3 := hx677_3
   (try rw [show ((0 : Int)).toNat = 0 from rfl] at hw677_3)
   (try rw [show 0 * 4 = 0 from rfl] at hw677_3)
   (try rw [Addr.add_zero'] at hw677_3)
   have hw677_2 := hx677_2
   (try rw [show ((0 : Int)).toNat = 0 from rfl] at hw677_2)
   (try rw [show 0 * 4 = 0 from rfl] at hw677_2)
   (try rw [Addr.add_zero'] at hw677_2)
   have hw677_1 := hx677_1
   (try rw [show ((0 : Int)).toNat = 0 from rfl] at hw677_1)
   (try rw [show 0 * 4 = 0 from rfl] at hw677_1)
   (try rw [Addr.add_zero'] at hw677_1)
   have hw677_0 := hx677_0
   (try rw [show ((0 : Int)).toNat = 0 from rfl] at hw677_0)
   (try rw [show 0 * 4 = 0 from rfl] at hw677_0)
   (try rw [Addr.add_zero'] at hw677_0)
   obtain rfl : ad676 = ad677 := (by injection e677)
   have qi677 : (0 < l0.length) = True := eq_true (by omega)
   (try rw [show ((0 : Int)).toNat = 0 from rfl] at hx677_0)
   (try rw [show 0 * 4 = 0 from rfl] at hx677_0)
   (try rw [Addr.add_zero'] at hx677_0)
   (try rw [show ((0 : Int)).toNat = 0 from rfl] at hx677_1)
   (try rw [show 0 * 4 = 0 from rfl] at hx677_1)
   (try rw [Addr.add_zero'] at hx677_1)
   (try rw [show ((0 : Int)).toNat = 0 from rfl] at hx677_2)
   (try rw [show 0 * 4 = 0 from rfl] at hx677_2)
   (try rw [Addr.add_zero'] at hx677_2)
   (try rw [show ((0 : Int)).toNat = 0 from rfl] at hx677_3)
   (try rw [show 0 * 4 = 0 from rfl] at hx677_3)
   (try rw [Addr.add_zero'] at hx677_3)
   replace hx677_0 := (HB.out.cell (World.block_lt_of_cell? w _ hx677_0)).trans hx677_0
   replace hx677_1 := (HB.out.cell (World.block_lt_of_cell? w _ hx677_1)).trans hx677_1
   replace hx677_2 := (HB.out.cell (World.block_lt_of_cell? w _ hx677_2)).trans hx677_2
   replace hx677_3 := (HB.out.cell (World.block_lt_of_cell? w _ hx677_3)).trans hx677_3
   replace p677 := eq_true p677
   replace q677 := eq_true q677
   refine stz (fun w' => w'.cell? ad676 = some (.int .i64 ((rd_T48 l0 0).f0)) ∧ w'.cell? ⟨ad676.block, ad676.off + 1, none⟩ = some (.int .i64 ((rd_T48 l0 0).f1)) ∧ w'.cell? ⟨ad676.block, ad676.off + 2, none⟩ = some (.int .i64 ((rd_T48 l0 0).f2)) ∧ w'.cell? ⟨ad676.block, ad676.off + 3, none⟩ = some (.int .i64 ((rd_T48 l0 0).f3)) ∧ w'.cell? ad676 = some (.int .i64 ((rd_T48 l0 0).f0)) ∧ w'.cell? ⟨ad676.block, ad676.off + 1, none⟩ = some (.int .i64 ((rd_T48 l0 0).f1)) ∧ w'.cell? ⟨ad676.block, ad676.off + 2, none⟩ = some (.int .i64 ((rd_T48 l0 0).f2)) ∧ w'.cell? ⟨ad676.block, ad676.off + 3, none⟩ = some (.int .i64 ((rd_T48 l0 0).f3))) [] (bn 11 0) ⟨((HB.out.cell (World.block_lt_of_cell? w _ hw676_0)).trans hw676_0), ((HB.out.cell (World.block_lt_of_cell? w _ hw676_1)).trans hw676_1), ((HB.out.cell (World.block_lt_of_cell? w _ hw676_2)).trans hw676_2), ((HB.out.cell (World.block_lt_of_cell? w _ hw676_3)).trans hw676_3), ((HB.out.cell (World.block_lt_of_cell? w _ hw677_0)).trans hw677_0), ((HB.out.cell (World.block_lt_of_cell? w _ hw677_1)).trans hw677_1), ((HB.out.cell (World.block_lt_of_cell? w _ hw677_2)).trans hw677_2), ((HB.out.cell (World.block_lt_of_cell? w _ hw677_3)).trans hw677_3)⟩ (fun hHeld => ?_); refine with_tabW tickingref01_Common.tab3 tickingref01_Common.bits3 (fun HT_ HW_ => ?_)
   generalize w6.drew = w7 at BK675 HB hx676_0 hx676_1 hx676_2 hx676_3 hx677_0 hx677_1 hx677_2 hx677_3 hHeld ⊢
   refine pT HT_.out 0 (some 11) (bn 11 1) ?_
   refine pT HT_.out 1 (some 12) (bn 11 3) ?_
   refine pT HT_.out 2 (some 13) (bn 11 7) ?_
   refine pT HT_.out 4 (some 15) (bn 11 23) ?_
   refine pT HT_.out 5 (some 16) (bn 11 55) ?_
   refine pT HT_.out 6 (some 17) (bn 11 119) ?_
   refine tT HT_.out HW_.out 3 (some 14) (bn 11 127) hHeld ?_
   refine tT HT_.out HW_.out 7 (some 18) (bn 11 255) hHeld ?_
   refine pT HT_.out 8 (some 19) (bn 11 511) ?_
   refine oT HT_.out 9 (some 4) (bn 11 1023) (fun K hK => ?_)
   refine bxS 4 #[.int .i64 0, .int .i64 0] 28 ?_
   intro gb678 hg w8 hbox hb
   have n0_ := Aside0.mk (blk_below (g := gb675) BKz hb)
   have n1_ := Aside0.mk (below_step HBz hb)
   have n2_ := Aside0.mk (hbox)
   have n3_ := Aside0.mk ((by rw [hg]; exact (below_size HBz) : w.heap.size ≤ gb678))
   have n4_ := Aside0.mk ((by rw [hg]; exact (below_size HBz) : w.heap.size ≤ gb678))
   have n5_ := Aside0.mk ((by rw [hg]; exact Nat.ne_of_lt (blk_lt (g := gb675) BKz) : gb675 ≠ gb678))
   have n6_ := Aside0.mk ((by rw [hg]; exact Nat.ne_of_gt (blk_lt (g := gb675) BKz) : gb678 ≠ gb675))
   clear BK675
   clear HB
   have BK675 := n0_
   have HB := n1_
   have BK678 := n2_
   have GW678 := n3_
   have GE678 := n4_
   have NB675_678 := n5_
   have NB678_675 := n6_
   clear n0_ n1_ n2_ n3_ n4_ n5_ n6_
   clear hb hbox hg
   refine hK.out _ _ ⟨((HB.out.cell (World.block_lt_of_cell? w _ hw676_0)).trans hw676_0), ((HB.out.cell (World.block_lt_of_cell? w _ hw676_1)).trans hw676_1), ((HB.out.cell (World.block_lt_of_cell? w _ hw676_2)).trans hw676_2), ((HB.out.cell (World.block_lt_of_cell? w _ hw676_3)).trans hw676_3), ((HB.out.cell (World.block_lt_of_cell? w _ hw677_0)).trans hw677_0), ((HB.out.cell (World.block_lt_of_cell? w _ hw677_1)).trans hw677_1), ((HB.out.cell (World.block_lt_of_cell? w _ hw677_2)).trans hw677_2), ((HB.out.cell (World.block_lt_of_cell? w _ hw677_3)).trans hw677_3)⟩ (fun hHeld => ?_)
   clear hK K
   refine nz (some 4) ?_
   refine oT HT_.out 10 none (bn 11 2047) (fun K hK => ?_)
   have hs9 : w8.cell? ⟨gb678, 0, none⟩ = some (.int .i64 0) := (blk_cell BK678.out 0).trans rfl
   have hfs9 := blk_frozen BK678.out 0
   have hns9_0 := NB675_678.out
   have hms9_0 := NB678_675.out
   have hs10 : w8.cell? ⟨gb678, 1, none⟩ = some (.int .i64 0) := (blk_cell BK678.out 1).trans rfl
   have hfs10 := blk_frozen BK678.out 1
   have hns10_0 := NB675_678.out
   have hms10_0 := NB678_675.out
   refine sz ?_
   refine hK.out _ _ ⟨((cell_far (p := ⟨gb678, _, none⟩) (by first | exact Nat.ne_of_lt (Nat.lt_of_lt_of_le (by have := World.block_lt_of_cell? _ _ hw676_0; first | rwa [add_block] at this | exact this) GW678.out) | (rw [add_block]; exact Nat.ne_of_lt (Nat.lt_of_lt_of_le (by have := World.block_lt_of_cell? _ _ hw676_0; first | rwa [add_block] at this | exact this) GW678.out)) | (show (Addr.add _ _).block ≠ _; rw [add_block]; exact Nat.ne_of_lt (Nat.lt_of_lt_of_le (by have := World.block_lt_of_cell? _ _ hw676_0; first | rwa [add_block] at this | exact this) GW678.out)) | (dsimp only; exact Nat.ne_of_lt (Nat.lt_of_lt_of_le (by have := World.block_lt_of_cell? _ _ hw676_0; first | rwa [add_block] at this | exact this) GW678.out))) _).trans (((cell_far (p := ⟨gb678, _, none⟩) (by first | exact Nat.ne_of_lt (Nat.lt_of_lt_of_le (by have := World.block_lt_of_cell? _ _ hw676_0; first | rwa [add_block] at this | exact this) GW678.out) | (rw [add_block]; exact Nat.ne_of_lt (Nat.lt_of_lt_of_le (by have := World.block_lt_of_cell? _ _ hw676_0; first | rwa [add_block] at this | exact this) GW678.out)) | (show (Addr.add _ _).block ≠ _; rw [add_block]; exact Nat.ne_of_lt (Nat.lt_of_lt_of_le (by have := World.block_lt_of_cell? _ _ hw676_0; first | rwa [add_block] at this | exact this) GW678.out)) | (dsimp only; exact Nat.ne_of_lt (Nat.lt_of_lt_of_le (by have := World.block_lt_of_cell? _ _ hw676_0; first | rwa [add_block] at this | exact this) GW678.out))) _).trans (hHeld.1)))), ((cell_far (p := ⟨gb678, _, none⟩) (by first | exact Nat.ne_of_lt (Nat.lt_of_lt_of_le (by have := World.block_lt_of_cell? _ _ hw676_1; first | rwa [add_block] at this | exact this) GW678.out) | (rw [add_block]; exact Nat.ne_of_lt (Nat.lt_of_lt_of_le (by have := World.block_lt_of_cell? _ _ hw676_1; first | rwa [add_block] at this | exact this) GW678.out)) | (show (Addr.add _ _).block ≠ _; rw [add_block]; exact Nat.ne_of_lt (Nat.lt_of_lt_of_le (by have := World.block_lt_of_cell? _ _ hw676_1; first | rwa [add_block] at this | exact this) GW678.out)) | (dsimp only; exact Nat.ne_of_lt (Nat.lt_of_lt_of_le (by have := World.block_lt_of_cell? _ _ hw676_1; first | rwa [add_block] at this | exact this) GW678.out))) _).trans (((cell_far (p := ⟨gb678, _, none⟩) (by first | exact Nat.ne_of_lt (Nat.lt_of_lt_of_le (by have := World.block_lt_of_cell? _ _ hw676_1; first | rwa [add_block] at this | exact this) GW678.out) | (rw [add_block]; exact Nat.ne_of_lt (Nat.lt_of_lt_of_le (by have := World.block_lt_of_cell? _ _ hw676_1; first | rwa [add_block] at this | exact this) GW678.out)) | (show (Addr.add _ _).block ≠ _; rw [add_block]; exact Nat.ne_of_lt (Nat.lt_of_lt_of_le (by have := World.block_lt_of_cell? _ _ hw676_1; first | rwa [add_block] at this | exact this) GW678.out)) | (dsimp only; exact Nat.ne_of_lt (Nat.lt_of_lt_of_le (by have := World.block_lt_of_cell? _ _ hw676_1; first | rwa [add_block] at this | exact this) GW678.out))) _).trans (hHeld.2.1)))), ((cell_far (p := ⟨gb678, _, none⟩) (by first | exact Nat.ne_of_lt (Nat.lt_of_lt_of_le (by have := World.block_lt_of_cell? _ _ hw676_2; first | rwa [add_block] at this | exact this) GW678.out) | (rw [add_block]; exact Nat.ne_of_lt (Nat.lt_of_lt_of_le (by have := World.block_lt_of_cell? _ _ hw676_2; first | rwa [add_block] at this | exact this) GW678.out)) | (show (Addr.add _ _).block ≠ _; rw [add_block]; exact Nat.ne_of_lt (Nat.lt_of_lt_of_le (by have := World.block_lt_of_cell? _ _ hw676_2; first | rwa [add_block] at this | exact this) GW678.out)) | (dsimp only; exact Nat.ne_of_lt (Nat.lt_of_lt_of_le (by have := World.block_lt_of_cell? _ _ hw676_2; first | rwa [add_block] at this | exact this) GW678.out))) _).trans (((cell_far (p := ⟨gb678, _, none⟩) (by first | exact Nat.ne_of_lt (Nat.lt_of_lt_of_le (by have := World.block_lt_of_cell? _ _ hw676_2; first | rwa [add_block] at this | exact this) GW678.out) | (rw [add_block]; exact Nat.ne_of_lt (Nat.lt_of_lt_of_le (by have := World.block_lt_of_cell? _ _ hw676_2; first | rwa [add_block] at this | exact this) GW678.out)) | (show (Addr.add _ _).block ≠ _; rw [add_block]; exact Nat.ne_of_lt (Nat.lt_of_lt_of_le (by have := World.block_lt_of_cell? _ _ hw676_2; first | rwa [add_block] at this | exact this) GW678.out)) | (dsimp only; exact Nat.ne_of_lt (Nat.lt_of_lt_of_le (by have := World.block_lt_of_cell? _ _ hw676_2; first | rwa [add_block] at this | exact this) GW678.out))) _).trans (hHeld.2.2.1)))), ((cell_far (p := ⟨gb678, _, none⟩) (by first | exact Nat.ne_of_lt (Nat.lt_of_lt_of_le (by have := World.block_lt_of_cell? _ _ hw676_3; first | rwa [add_block] at this | exact this) GW678.out) | (rw [add_block]; exact Nat.ne_of_lt (Nat.lt_of_lt_of_le (by have := World.block_lt_of_cell? _ _ hw676_3; first | rwa [add_block] at this | exact this) GW678.out)) | (show (Addr.add _ _).block ≠ _; rw [add_block]; exact Nat.ne_of_lt (Nat.lt_of_lt_of_le (by have := World.block_lt_of_cell? _ _ hw676_3; first | rwa [add_block] at this | exact this) GW678.out)) | (dsimp only; exact Nat.ne_of_lt (Nat.lt_of_lt_of_le (by have := World.block_lt_of_cell? _ _ hw676_3; first | rwa [add_block] at this | exact this) GW678.out))) _).trans (((cell_far (p := ⟨gb678, _, none⟩) (by first | exact Nat.ne_of_lt (Nat.lt_of_lt_of_le (by have := World.block_lt_of_cell? _ _ hw676_3; first | rwa [add_block] at this | exact this) GW678.out) | (rw [add_block]; exact Nat.ne_of_lt (Nat.lt_of_lt_of_le (by have := World.block_lt_of_cell? _ _ hw676_3; first | rwa [add_block] at this | exact this) GW678.out)) | (show (Addr.add _ _).block ≠ _; rw [add_block]; exact Nat.ne_of_lt (Nat.lt_of_lt_of_le (by have := World.block_lt_of_cell? _ _ hw676_3; first | rwa [add_block] at this | exact this) GW678.out)) | (dsimp only; exact Nat.ne_of_lt (Nat.lt_of_lt_of_le (by have := World.block_lt_of_cell? _ _ hw676_3; first | rwa [add_block] at this | exact this) GW678.out))) _).trans (hHeld.2.2.2.1)))), ((cell_far (p := ⟨gb678, _, none⟩) (by first | exact Nat.ne_of_lt (Nat.lt_of_lt_of_le (by have := World.block_lt_of_cell? _ _ hw677_0; first | rwa [add_block] at this | exact this) GW678.out) | (rw [add_block]; exact Nat.ne_of_lt (Nat.lt_of_lt_of_le (by have := World.block_lt_of_cell? _ _ hw677_0; first | rwa [add_block] at this | exact this) GW678.out)) | (show (Addr.add _ _).block ≠ _; rw [add_block]; exact Nat.ne_of_lt (Nat.lt_of_lt_of_le (by have := World.block_lt_of_cell? _ _ hw677_0; first | rwa [add_block] at this | exact this) GW678.out)) | (dsimp only; exact Nat.ne_of_lt (Nat.lt_of_lt_of_le (by have := World.block_lt_of_cell? _ _ hw677_0; first | rwa [add_block] at this | exact this) GW678.out))) _).trans (((cell_far (p := ⟨gb678, _, none⟩) (by first | exact Nat.ne_of_lt (Nat.lt_of_lt_of_le (by have := World.block_lt_of_cell? _ _ hw677_0; first | rwa [add_block] at this | exact this) GW678.out) | (rw [add_block]; exact Nat.ne_of_lt (Nat.lt_of_lt_of_le (by have := World.block_lt_of_cell? _ _ hw677_0; first | rwa [add_block] at this | exact this) GW678.out)) | (show (Addr.add _ _).block ≠ _; rw [add_block]; exact Nat.ne_of_lt (Nat.lt_of_lt_of_le (by have := World.block_lt_of_cell? _ _ hw677_0; first | rwa [add_block] at this | exact this) GW678.out)) | (dsimp only; exact Nat.ne_of_lt (Nat.lt_of_lt_of_le (by have := World.block_lt_of_cell? _ _ hw677_0; first | rwa [add_block] at this | exact this) GW678.out))) _).trans (hHeld.2.2.2.2.1)))), ((cell_far (p := ⟨gb678, _, none⟩) (by first | exact Nat.ne_of_lt (Nat.lt_of_lt_of_le (by have := World.block_lt_of_cell? _ _ hw677_1; first | rwa [add_block] at this | exact this) GW678.out) | (rw [add_block]; exact Nat.ne_of_lt (Nat.lt_of_lt_of_le (by have := World.block_lt_of_cell? _ _ hw677_1; first | rwa [add_block] at this | exact this) GW678.out)) | (show (Addr.add _ _).block ≠ _; rw [add_block]; exact Nat.ne_of_lt (Nat.lt_of_lt_of_le (by have := World.block_lt_of_cell? _ _ hw677_1; first | rwa [add_block] at this | exact this) GW678.out)) | (dsimp only; exact Nat.ne_of_lt (Nat.lt_of_lt_of_le (by have := World.block_lt_of_cell? _ _ hw677_1; first | rwa [add_block] at this | exact this) GW678.out))) _).trans (((cell_far (p := ⟨gb678, _, none⟩) (by first | exact Nat.ne_of_lt (Nat.lt_of_lt_of_le (by have := World.block_lt_of_cell? _ _ hw677_1; first | rwa [add_block] at this | exact this) GW678.out) | (rw [add_block]; exact Nat.ne_of_lt (Nat.lt_of_lt_of_le (by have := World.block_lt_of_cell? _ _ hw677_1; first | rwa [add_block] at this | exact this) GW678.out)) | (show (Addr.add _ _).block ≠ _; rw [add_block]; exact Nat.ne_of_lt (Nat.lt_of_lt_of_le (by have := World.block_lt_of_cell? _ _ hw677_1; first | rwa [add_block] at this | exact this) GW678.out)) | (dsimp only; exact Nat.ne_of_lt (Nat.lt_of_lt_of_le (by have := World.block_lt_of_cell? _ _ hw677_1; first | rwa [add_block] at this | exact this) GW678.out))) _).trans (hHeld.2.2.2.2.2.1)))), ((cell_far (p := ⟨gb678, _, none⟩) (by first | exact Nat.ne_of_lt (Nat.lt_of_lt_of_le (by have := World.block_lt_of_cell? _ _ hw677_2; first | rwa [add_block] at this | exact this) GW678.out) | (rw [add_block]; exact Nat.ne_of_lt (Nat.lt_of_lt_of_le (by have := World.block_lt_of_cell? _ _ hw677_2; first | rwa [add_block] at this | exact this) GW678.out)) | (show (Addr.add _ _).block ≠ _; rw [add_block]; exact Nat.ne_of_lt (Nat.lt_of_lt_of_le (by have := World.block_lt_of_cell? _ _ hw677_2; first | rwa [add_block] at this | exact this) GW678.out)) | (dsimp only; exact Nat.ne_of_lt (Nat.lt_of_lt_of_le (by have := World.block_lt_of_cell? _ _ hw677_2; first | rwa [add_block] at this | exact this) GW678.out))) _).trans (((cell_far (p := ⟨gb678, _, none⟩) (by first | exact Nat.ne_of_lt (Nat.lt_of_lt_of_le (by have := World.block_lt_of_cell? _ _ hw677_2; first | rwa [add_block] at this | exact this) GW678.out) | (rw [add_block]; exact Nat.ne_of_lt (Nat.lt_of_lt_of_le (by have := World.block_lt_of_cell? _ _ hw677_2; first | rwa [add_block] at this | exact this) GW678.out)) | (show (Addr.add _ _).block ≠ _; rw [add_block]; exact Nat.ne_of_lt (Nat.lt_of_lt_of_le (by have := World.block_lt_of_cell? _ _ hw677_2; first | rwa [add_block] at this | exact this) GW678.out)) | (dsimp only; exact Nat.ne_of_lt (Nat.lt_of_lt_of_le (by have := World.block_lt_of_cell? _ _ hw677_2; first | rwa [add_block] at this | exact this) GW678.out))) _).trans (hHeld.2.2.2.2.2.2.1)))), ((cell_far (p := ⟨gb678, _, none⟩) (by first | exact Nat.ne_of_lt (Nat.lt_of_lt_of_le (by have := World.block_lt_of_cell? _ _ hw677_3; first | rwa [add_block] at this | exact this) GW678.out) | (rw [add_block]; exact Nat.ne_of_lt (Nat.lt_of_lt_of_le (by have := World.block_lt_of_cell? _ _ hw677_3; first | rwa [add_block] at this | exact this) GW678.out)) | (show (Addr.add _ _).block ≠ _; rw [add_block]; exact Nat.ne_of_lt (Nat.lt_of_lt_of_le (by have := World.block_lt_of_cell? _ _ hw677_3; first | rwa [add_block] at this | exact this) GW678.out)) | (dsimp only; exact Nat.ne_of_lt (Nat.lt_of_lt_of_le (by have := World.block_lt_of_cell? _ _ hw677_3; first | rwa [add_block] at this | exact this) GW678.out))) _).trans (((cell_far (p := ⟨gb678, _, none⟩) (by first | exact Nat.ne_of_lt (Nat.lt_of_lt_of_le (by have := World.block_lt_of_cell? _ _ hw677_3; first | rwa [add_block] at this | exact this) GW678.out) | (rw [add_block]; exact Nat.ne_of_lt (Nat.lt_of_lt_of_le (by have := World.block_lt_of_cell? _ _ hw677_3; first | rwa [add_block] at this | exact this) GW678.out)) | (show (Addr.add _ _).block ≠ _; rw [add_block]; exact Nat.ne_of_lt (Nat.lt_of_lt_of_le (by have := World.block_lt_of_cell? _ _ hw677_3; first | rwa [add_block] at this | exact this) GW678.out)) | (dsimp only; exact Nat.ne_of_lt (Nat.lt_of_lt_of_le (by have := World.block_lt_of_cell? _ _ hw677_3; first | rwa [add_block] at this | exact this) GW678.out))) _).trans (hHeld.2.2.2.2.2.2.2))))⟩ (fun hHeld => ?_)
   clear hK K
   refine done_ (done_of HT_.out (by kernel_rfl)) ?_
   try go_wp2
   go_loopg [5] k (fun kq v5 w' => ∃ (x5_1 : Int) (x679000_1 : Int) (x679001_1 : Int), v5 = .int .i64 x5_1 ∧ Aside0 (tickingref01_Common.l0 kq l0 x5_1 x679000_1 x679001_1 = some (r1, r2, r3)) ∧ Aside0 (kq ≤ k) ∧ Aside0 (w'.heap[gb675]? = some (.cells #[.int .i64 0, .int .i64 0] 28 (0, 0))) ∧ Aside0 (w'.heap[gb678]? = some (.cells #[.int .i64 x679000_1, .int .i64 x679001_1] 28 (0, 0))) ∧ Aside0 (Below w.heap.size w w'))
   case atStart => exact ⟨(1), ((rd_T48 l0 0).f0), ((rd_T48 l0 0).f1), (by first | rfl | (simp; done) | (simp [*]; done)), H', ⟨Nat.le_refl _⟩, ⟨by (with_reducible repeat (first | refine blk_drewN ?_ _ | refine blk_drew ?_ | refine blk_alloc ?_ _)); refine blk_far ?_ NB675_678.out _; (with_reducible repeat (first | refine blk_drewN ?_ _ | refine blk_drew ?_ | refine blk_alloc ?_ _)); refine blk_far ?_ NB675_678.out _; (with_reducible repeat (first | refine blk_drewN ?_ _ | refine blk_drew ?_ | refine blk_alloc ?_ _)); exact BK675.out⟩, ⟨by (with_reducible repeat (first | refine blk_drewN ?_ _ | refine blk_drew ?_ | refine blk_alloc ?_ _)); refine blk_put (cs := #[.int .i64 ((rd_T48 l0 0).f0), .int .i64 0]) ?_ 1 _ rfl; (with_reducible repeat (first | refine blk_drewN ?_ _ | refine blk_drew ?_ | refine blk_alloc ?_ _)); refine blk_put (cs := #[.int .i64 0, .int .i64 0]) ?_ 0 _ rfl; (with_reducible repeat (first | refine blk_drewN ?_ _ | refine blk_drew ?_ | refine blk_alloc ?_ _)); exact BK678.out⟩, ⟨HBz⟩⟩
   case round =>
    clear H'
    try clear c2
    try clear c2b0
    try clear c2b1
    try clear c2b2
    try clear p2
    try clear c4
    try clear c5
    try clear c5b0
    try clear c5b1
    try clear p6
    try clear q6
    try clear hx6
    try clear qi6
    try clear hcz4_0
    try clear hcz4_1
    try clear hfz4_0
    try clear hfz4_1
    try clear hx676_0
    try clear hx676_1
    try clear hx676_2
    try clear hx676_3
    try clear hx677_0
    try clear hx677_1
    try clear hx677_2
    try clear hx677_3
    try clear p676
    try clear p677
    try clear q676
    try clear q677
    obtain ⟨x5_1, x679000_1, x679001_1, rfl, HA, HK1, BK675, BK678, HB⟩ := hrel
    cases gk with
    | zero => exact absurd HA.out (by simp [tickingref01_Common.l0])
    | succ k1 =>
     have H := HA.out
     clear HA
     simp only [tickingref01_Common.l0] at H
     by_cases c11 : x5_1 < (l0.length : Int)
     ·rw [if_pos c11] at H
      have c11b0 : decide (x5_1 < (l0.length : Int)) = true := decide_eq_true c11
      clear c11
      by_cases c12 : 0 ≤ x5_1
      ·rw [if_pos c12] at H
       have c12b0 : decide (0 ≤ x5_1) = true := decide_eq_true c12
       clear c12
       obtain ⟨ji13, hji13⟩ : ∃ j_ : Int, (mx x679000_1 ((rd_T48 l0 x5_1).f0)) = j_ := ⟨_, rfl⟩
       replace H : (tickingref01_Common.l0 k1 l0 (wrap64 (x5_1 + 1)) ji13 (mx x679001_1 ((rd_T48 l0 x5_1).f1))) = some (r1, r2, r3) := by first | (rw [hji13] at H; exact H) | (simp only [hji13] at H ⊢; exact H)
       have hji13_ : (if x679000_1 < ((rd_T48 l0 x5_1).f0) then ((rd_T48 l0 x5_1).f0) else x679000_1) = ji13 := hji13
       obtain ⟨ji14, hji14⟩ : ∃ j_ : Int, (mx x679001_1 ((rd_T48 l0 x5_1).f1)) = j_ := ⟨_, rfl⟩
       replace H : (tickingref01_Common.l0 k1 l0 (wrap64 (x5_1 + 1)) ji13 ji14) = some (r1, r2, r3) := by first | (rw [hji14] at H; exact H) | (simp only [hji14] at H ⊢; exact H)
       have hji14_ : (if x679001_1 < ((rd_T48 l0 x5_1).f1) then ((rd_T48 l0 x5_1).f1) else x679001_1) = ji14 := hji14
       have H' := Aside0.mk H
       clear H
       try go_wp2
       have n0_ := Aside0.mk (blk_drew BK675.out)
       have n1_ := Aside0.mk (blk_drew BK678.out)
       have n2_ := Aside0.mk (below_drew1 HB.out)
       clear BK675
       clear BK678
       clear HB
       have BK675 := n0_
       have BK678 := n1_
       have HB := n2_
       clear n0_ n1_ n2_
       have p679 : 0 ≤ (x5_1 : Int) := of_decide_eq_true (by first | (with_reducible assumption) | assumption)
       have q679 : x5_1 < (l0.length : Int) := of_decide_eq_true (by first | (with_reducible assumption) | assumption)
       obtain ⟨ad679, e679, hx679_0, hx679_1, hx679_2, hx679_3⟩ := at_T48 HR0.out x5_1 p679 q679
       have hw679_3 := hx679_3
       have hw679_2 := hx679_2
       have hw679_1 := hx679_1
       have hw679_0 := hx679_0
       obtain rfl : ad676 = ad679 := (by injection e679)
       replace hx679_0 := (HB.out.cell (World.block_lt_of_cell? w _ hx679_0)).trans hx679_0
       replace hx679_1 := (HB.out.cell (World.block_lt_of_cell? w _ hx679_1)).trans hx679_1
       replace hx679_2 := (HB.out.cell (World.block_lt_of_cell? w _ hx679_2)).trans hx679_2
       replace hx679_3 := (HB.out.cell (World.block_lt_of_cell? w _ hx679_3)).trans hx679_3
       replace p679 := eq_true p679
       replace q679 := eq_true q679
       have p680 : 0 ≤ (x5_1 : Int) := of_decide_eq_true (by first | (with_reducible assumption) | assumption)
       have q680 : x5_1 < (l0.length : Int) := of_decide_eq_true (by first | (with_reducible assumption) | assumption)
       obtain ⟨ad680, e680, hx680_0, hx680_1, hx680_2, hx680_3⟩ := at_T48 HR0.out x5_1 p680 q680
       have hw680_3 := hx680_3
       have hw680_2 := hx680_2
       have hw680_1 := hx680_1
       have hw680_0 := hx680_0
       obtain rfl : ad676 = ad680 := (by injection e680)
       replace hx680_0 := (HB.out.cell (World.block_lt_of_cell? w _ hx680_0)).trans hx680_0
       replace hx680_1 := (HB.out.cell (World.block_lt_of_cell? w _ hx680_1)).trans hx680_1
       replace hx680_2 := (HB.out.cell (World.block_lt_of_cell? w _ hx680_2)).trans hx680_2
       replace hx680_3 := (HB.out.cell (World.block_lt_of_cell? w _ hx680_3)).trans hx680_3
       replace p680 := eq_true p680
       replace q680 := eq_true q680
       refine stz (fun w' => w'.cell? ⟨gb678, 0, none⟩ = some (.int .i64 x679000_1) ∧ w'.cell? ⟨gb678, 1, none⟩ = some (.int .i64 x679001_1) ∧ w'.cell? (ad676.add ((x5_1).toNat * 4)) = some (.int .i64 ((rd_T48 l0 x5_1).f0)) ∧ w'.cell? ⟨(ad676.add ((x5_1).toNat * 4)).block, (ad676.add ((x5_1).toNat * 4)).off + 1, none⟩ = some (.int .i64 ((rd_T48 l0 x5_1).f1)) ∧ w'.cell? ⟨(ad676.add ((x5_1).toNat * 4)).block, (ad676.add ((x5_1).toNat * 4)).off + 2, none⟩ = some (.int .i64 ((rd_T48 l0 x5_1).f2)) ∧ w'.cell? ⟨(ad676.add ((x5_1).toNat * 4)).block, (ad676.add ((x5_1).toNat * 4)).off + 3, none⟩ = some (.int .i64 ((rd_T48 l0 x5_1).f3)) ∧ w'.cell? (ad676.add ((x5_1).toNat * 4)) = some (.int .i64 ((rd_T48 l0 x5_1).f0)) ∧ w'.cell? ⟨(ad676.add ((x5_1).toNat * 4)).block, (ad676.add ((x5_1).toNat * 4)).off + 1, none⟩ = some (.int .i64 ((rd_T48 l0 x5_1).f1)) ∧ w'.cell? ⟨(ad676.add ((x5_1).toNat * 4)).block, (ad676.add ((x5_1).toNat * 4)).off + 2, none⟩ = some (.int .i64 ((rd_T48 l0 x5_1).f2)) ∧ w'.cell? ⟨(ad676.add ((x5_1).toNat * 4)).block, (ad676.add ((x5_1).toNat * 4)).off + 3, none⟩ = some (.int .i64 ((rd_T48 l0 x5_1).f3))) [17] (bn 18 0) ⟨(blk_cell BK678.out 0).trans rfl, (blk_cell BK678.out 1).trans rfl, ((HB.out.cell (World.block_lt_of_cell? w _ hw679_0)).trans hw679_0), ((HB.out.cell (World.block_lt_of_cell? w _ hw679_1)).trans hw679_1), ((HB.out.cell (World.block_lt_of_cell? w _ hw679_2)).trans hw679_2), ((HB.out.cell (World.block_lt_of_cell? w _ hw679_3)).trans hw679_3), ((HB.out.cell (World.block_lt_of_cell? w _ hw680_0)).trans hw680_0), ((HB.out.cell (World.block_lt_of_cell? w _ hw680_1)).trans hw680_1), ((HB.out.cell (World.block_lt_of_cell? w _ hw680_2)).trans hw680_2), ((HB.out.cell (World.block_lt_of_cell? w _ hw680_3)).trans hw680_3)⟩ (fun hHeld => ?_); refine with_tabW tickingref01_Common.tab7 tickingref01_Common.bits7 (fun HT_ HW_ => ?_)
       generalize wr.drew = w15 at BK675 BK678 HB hx679_0 hx679_1 hx679_2 hx679_3 hx680_0 hx680_1 hx680_2 hx680_3 hHeld ⊢
       refine pT HT_.out 0 (some 26) (bn 18 1) ?_
       refine pT HT_.out 2 (some 28) (bn 18 5) ?_
       refine pT HT_.out 3 (some 29) (bn 18 13) ?_
       refine pT HT_.out 4 (some 30) (bn 18 29) ?_
       refine pT HT_.out 5 (some 31) (bn 18 61) ?_
       refine pT HT_.out 8 (some 34) (bn 18 317) ?_
       refine pT HT_.out 10 (some 36) (bn 18 1341) ?_
       refine pT HT_.out 11 (some 37) (bn 18 3389) ?_
       refine pT HT_.out 12 (some 38) (bn 18 7485) ?_
       refine pT HT_.out 13 (some 39) (bn 18 15677) ?_
       refine tT HT_.out HW_.out 1 (some 27) (bn 18 15679) hHeld ?_
       refine tT HT_.out HW_.out 6 (some 32) (bn 18 15743) hHeld ?_
       refine pT HT_.out 7 (some 33) (bn 18 15871) ?_
       refine tT HT_.out HW_.out 9 (some 35) (bn 18 16383) hHeld ?_
       refine tT HT_.out HW_.out 14 (some 40) (bn 18 32767) hHeld ?_
       refine pT HT_.out 15 (some 41) (bn 18 65535) ?_
       refine pT HT_.out 16 (some 42) (bn 18 131071) ?_
       refine last_ (i := 17) (N := none) #[true, true, true, true, true, true, true, true, true, true, true, true, true, true, true, true, true, true] rfl rfl (one_of HT_.out (by kernel_rfl)) (by decide) (fun K hK => ?_)
       have hs16 : w15.cell? ⟨gb678, 0, none⟩ = some (.int .i64 x679000_1) := (blk_cell BK678.out 0).trans rfl
       have hfs16 := blk_frozen BK678.out 0
       have hns16_0 := NB675_678.out
       have hms16_0 := NB678_675.out
       have hs17 : w15.cell? ⟨gb678, 1, none⟩ = some (.int .i64 x679001_1) := (blk_cell BK678.out 1).trans rfl
       have hfs17 := blk_frozen BK678.out 1
       have hns17_0 := NB675_678.out
       have hms17_0 := NB678_675.out
       refine sz ?_
       refine hK.out _ _ ?_
       clear hK K
       refine done_ (done_of HT_.out (by kernel_rfl)) ?_
       try go_wp2
       go_roundg k1
       case measure => have := HK1.out; omega
       case rel => exact ⟨(wrap64 (x5_1 + 1)), (ji13), (ji14), (by first | rfl | (simp; done) | (simp [*]; done)), H', ⟨by have := HK1.out; omega⟩, ⟨by (with_reducible repeat (first | refine blk_drewN ?_ _ | refine blk_drew ?_ | refine blk_alloc ?_ _)); refine blk_far ?_ NB675_678.out _; (with_reducible repeat (first | refine blk_drewN ?_ _ | refine blk_drew ?_ | refine blk_alloc ?_ _)); refine blk_far ?_ NB675_678.out _; (with_reducible repeat (first | refine blk_drewN ?_ _ | refine blk_drew ?_ | refine blk_alloc ?_ _)); exact BK675.out⟩, ⟨by (with_reducible repeat (first | refine blk_drewN ?_ _ | refine blk_drew ?_ | refine blk_alloc ?_ _)); refine blk_put (cs := #[.int .i64 ji13, .int .i64 x679001_1]) ?_ 1 _ rfl; (with_reducible repeat (first | refine blk_drewN ?_ _ | refine blk_drew ?_ | refine blk_alloc ?_ _)); refine blk_put (cs := #[.int .i64 x679000_1, .int .i64 x679001_1]) ?_ 0 _ rfl; (with_reducible repeat (first | refine blk_drewN ?_ _ | refine blk_drew ?_ | refine blk_alloc ?_ _)); exact BK678.out⟩, ⟨HBz⟩⟩
      ·rw [if_neg c12] at H
       exact absurd H (by simp)
     ·rw [if_neg c11] at H
      have c11b0 : decide (x5_1 < (l0.length : Int)) = false := decide_eq_false c11
      clear c11
      have H' := Aside0.mk H
      clear H
      go_wp2
      go_loopg [6] k1 (fun kq v6 w' => ∃ (x6_2 : Int) (x676000_2 : Int) (x676001_2 : Int), v6 = .int .i64 x6_2 ∧ Aside0 (tickingref01_Common.l1 kq l0 x6_2 x679000_1 x679001_1 = some (r1, r2, r3)) ∧ Aside0 (kq ≤ k1) ∧ Aside0 (w'.heap[gb675]? = some (.cells #[.int .i64 x676000_2, .int .i64 x676001_2] 28 (0, 0))) ∧ Aside0 (w'.heap[gb678]? = some (.cells #[.int .i64 x679000_1, .int .i64 x679001_1] 28 (0, 0))) ∧ Aside0 (Below w.heap.size w w'))
      case atStart => exact ⟨(0), (0), (0), (by first | rfl | (simp; done) | (simp [*]; done)), H', ⟨Nat.le_refl _⟩, ⟨by (with_reducible repeat (first | refine blk_drewN ?_ _ | refine blk_drew ?_ | refine blk_alloc ?_ _)); exact BK675.out⟩, ⟨by (with_reducible repeat (first | refine blk_drewN ?_ _ | refine blk_drew ?_ | refine blk_alloc ?_ _)); exact BK678.out⟩, ⟨HBz⟩⟩
      case round =>
       clear H'
       try clear c1
       try clear c2
       try clear c2b0
       try clear c2b1
       try clear c2b2
       try clear p2
       try clear c4
       try clear c5
       try clear c5b0
       try clear c5b1
       try clear p6
       try clear q6
       try clear hx6
       try clear qi6
       try clear c11
       try clear c11b0
       try clear c12
       try clear c12b0
       try clear hcz4_0
       try clear hcz4_1
       try clear hfz4_0
       try clear hfz4_1
       try clear hx676_0
       try clear hx676_1
       try clear hx676_2
       try clear hx676_3
       try clear hx677_0
       try clear hx677_1
       try clear hx677_2
       try clear hx677_3
       try clear hx679_0
       try clear hx679_1
       try clear hx679_2
       try clear hx679_3
       try clear hx680_0
       try clear hx680_1
       try clear hx680_2
       try clear hx680_3
       try clear p2
       try clear p6
       try clear p676
       try clear p677
       try clear p679
       try clear p680
       try clear q6
       try clear q676
       try clear q677
       try clear q679
       try clear q680
       obtain ⟨x6_2, x676000_2, x676001_2, rfl, HA, HK2, BK675, BK678, HB⟩ := hrel
       cases gk with
       | zero => exact absurd HA.out (by simp [tickingref01_Common.l1])
       | succ k2 =>
        have H := HA.out
        clear HA
        simp only [tickingref01_Common.l1] at H
        by_cases c18 : x6_2 < (l0.length : Int)
        ·rw [if_pos c18] at H
         have c18b0 : decide (x6_2 < (l0.length : Int)) = true := decide_eq_true c18
         clear c18
         by_cases c19 : 0 ≤ x6_2
         ·rw [if_pos c19] at H
          have c19b0 : decide (0 ≤ x6_2) = true := decide_eq_true c19
          clear c19
          by_cases c20 : ((rd_T48 l0 x6_2).f2) < x679000_1
          ·rw [if_pos c20] at H
           have c20b0 : decide (((rd_T48 l0 x6_2).f2) < x679000_1) = true := decide_eq_true c20
           clear c20
           simp only [Option.some.injEq, Prod.mk.injEq] at H
           obtain ⟨rfl, rfl, rfl⟩ := H
           try go_wp2
           have n0_ := Aside0.mk (blk_drew BK675.out)
           have n1_ := Aside0.mk (blk_drew BK678.out)
           have n2_ := Aside0.mk (below_drew1 HB.out)
           clear BK675
           clear BK678
           clear HB
           have BK675 := n0_
           have BK678 := n1_
           have HB := n2_
           clear n0_ n1_ n2_
           have p681 : 0 ≤ (x6_2 : Int) := of_decide_eq_true (by first | (with_reducible assumption) | assumption)
           have q681 : x6_2 < (l0.length : Int) := of_decide_eq_true (by first | (with_reducible assumption) | assumption)
           obtain ⟨ad681, e681, hx681_0, hx681_1, hx681_2, hx681_3⟩ := at_T48 HR0.out x6_2 p681 q681
           have hw681_3 := hx681_3
           have hw681_2 := hx681_2
           have hw681_1 := hx681_1
           have hw681_0 := hx681_0
           obtain rfl : ad676 = ad681 := (by injection e681)
           replace hx681_0 := (HB.out.cell (World.block_lt_of_cell? w _ hx681_0)).trans hx681_0
           replace hx681_1 := (HB.out.cell (World.block_lt_of_cell? w _ hx681_1)).trans hx681_1
           replace hx681_2 := (HB.out.cell (World.block_lt_of_cell? w _ hx681_2)).trans hx681_2
           replace hx681_3 := (HB.out.cell (World.block_lt_of_cell? w _ hx681_3)).trans hx681_3
           replace p681 := eq_true p681
           replace q681 := eq_true q681
           refine stz (fun w' => w'.cell? ⟨gb678, 0, none⟩ = some (.int .i64 x679000_1) ∧ w'.cell? ⟨gb678, 1, none⟩ = some (.int .i64 x679001_1) ∧ w'.cell? (ad676.add ((x6_2).toNat * 4)) = some (.int .i64 ((rd_T48 l0 x6_2).f0)) ∧ w'.cell? ⟨(ad676.add ((x6_2).toNat * 4)).block, (ad676.add ((x6_2).toNat * 4)).off + 1, none⟩ = some (.int .i64 ((rd_T48 l0 x6_2).f1)) ∧ w'.cell? ⟨(ad676.add ((x6_2).toNat * 4)).block, (ad676.add ((x6_2).toNat * 4)).off + 2, none⟩ = some (.int .i64 ((rd_T48 l0 x6_2).f2)) ∧ w'.cell? ⟨(ad676.add ((x6_2).toNat * 4)).block, (ad676.add ((x6_2).toNat * 4)).off + 3, none⟩ = some (.int .i64 ((rd_T48 l0 x6_2).f3))) [] (bn 18 0) ⟨(blk_cell BK678.out 0).trans rfl, (blk_cell BK678.out 1).trans rfl, ((HB.out.cell (World.block_lt_of_cell? w _ hw681_0)).trans hw681_0), ((HB.out.cell (World.block_lt_of_cell? w _ hw681_1)).trans hw681_1), ((HB.out.cell (World.block_lt_of_cell? w _ hw681_2)).trans hw681_2), ((HB.out.cell (World.block_lt_of_cell? w _ hw681_3)).trans hw681_3)⟩ (fun hHeld => ?_); refine with_tabW tickingref01_Common.tab11 tickingref01_Common.bits11 (fun HT_ HW_ => ?_)
           generalize wr.drew = w21 at BK675 BK678 HB hx681_0 hx681_1 hx681_2 hx681_3 hHeld ⊢
           refine pT HT_.out 0 (some 49) (bn 18 1) ?_
           refine pT HT_.out 1 (some 50) (bn 18 3) ?_
           refine pT HT_.out 2 (some 51) (bn 18 7) ?_
           refine pT HT_.out 3 (some 52) (bn 18 15) ?_
           refine pT HT_.out 5 (some 54) (bn 18 47) ?_
           refine tT HT_.out HW_.out 4 (some 53) (bn 18 63) hHeld ?_
           refine tT HT_.out HW_.out 6 (some 55) (bn 18 127) hHeld ?_
           refine pT HT_.out 7 (some 56) (bn 18 255) ?_
           refine pT HT_.out 8 (some 57) (bn 18 511) ?_
           refine pT0 HT_.out 9 (some 58) (bn 18 1023) ?_
           refine pT0 HT_.out 10 (some 59) (bn 18 2047) ?_
           refine pT0 HT_.out 11 (some 60) (bn 18 4095) ?_
           refine pT0 HT_.out 12 (some 61) (bn 18 8191) ?_
           refine pT0 HT_.out 13 (some 62) (bn 18 16383) ?_
           refine pT0 HT_.out 14 (some 63) (bn 18 32767) ?_
           refine pT0 HT_.out 15 (some 64) (bn 18 65535) ?_
           refine pT0 HT_.out 16 (some 65) (bn 18 131071) ?_
           refine pT HT_.out 17 (some 66) (bn 18 262143) ?_
           refine done_ (done_of HT_.out (by kernel_rfl)) ?_
           have hnb22 := NB675_678.out
           have hnc22 := NB678_675.out
           have hcz23_0 : w21.cell? ⟨gb675, 0, none⟩ = some (.int .i64 x676000_2) := (blk_cell BK675.out 0).trans rfl
           have hcz23_1 : w21.cell? ⟨gb675, 1, none⟩ = some (.int .i64 x676001_2) := (blk_cell BK675.out 1).trans rfl
           have hfz23_0 := blk_frozen BK675.out 0
           have hfz23_1 := blk_frozen BK675.out 1
           try go_wp2
           refine bodyPost_ret (results_ct rfl _ _ gb675 28 #[.int .i64 0, .int .i64 0] (0, 0) _ rfl (by (with_reducible repeat (first | refine blk_drewN ?_ _ | refine blk_drew ?_ | refine blk_alloc ?_ _)); refine blk_put (cs := #[.int .i64 0, .int .i64 x676001_2]) ?_ 1 _ rfl; (with_reducible repeat (first | refine blk_drewN ?_ _ | refine blk_drew ?_ | refine blk_alloc ?_ _)); refine blk_put (cs := #[.int .i64 x676000_2, .int .i64 x676001_2]) ?_ 0 _ rfl; (with_reducible repeat (first | refine blk_drewN ?_ _ | refine blk_drew ?_ | refine blk_alloc ?_ _)); exact BK675.out) Try.underlying28 rfl (by kernel_rfl)) rfl ?_
           exact ⟨by first | rfl | (simp [errW_none, errW_some] <;> rfl) | (simp [*, errW_none, errW_some] <;> rfl), HBz⟩
          ·rw [if_neg c20] at H
           have c20b0 : decide (((rd_T48 l0 x6_2).f2) < x679000_1) = false := decide_eq_false c20
           clear c20
           by_cases c24 : ((rd_T48 l0 x6_2).f3) < x679001_1
           ·rw [if_pos c24] at H
            have c24b0 : decide (((rd_T48 l0 x6_2).f3) < x679001_1) = true := decide_eq_true c24
            clear c24
            simp only [Option.some.injEq, Prod.mk.injEq] at H
            obtain ⟨rfl, rfl, rfl⟩ := H
            try go_wp2
            have n0_ := Aside0.mk (blk_drew BK675.out)
            have n1_ := Aside0.mk (blk_drew BK678.out)
            have n2_ := Aside0.mk (below_drew1 HB.out)
            clear BK675
            clear BK678
            clear HB
            have BK675 := n0_
            have BK678 := n1_
            have HB := n2_
            clear n0_ n1_ n2_
            have p681 : 0 ≤ (x6_2 : Int) := of_decide_eq_true (by first | (with_reducible assumption) | assumption)
            have q681 : x6_2 < (l0.length : Int) := of_decide_eq_true (by first | (with_reducible assumption) | assumption)
            obtain ⟨ad681, e681, hx681_0, hx681_1, hx681_2, hx681_3⟩ := at_T48 HR0.out x6_2 p681 q681
            have hw681_3 := hx681_3
            have hw681_2 := hx681_2
            have hw681_1 := hx681_1
            have hw681_0 := hx681_0
            obtain rfl : ad676 = ad681 := (by injection e681)
            replace hx681_0 := (HB.out.cell (World.block_lt_of_cell? w _ hx681_0)).trans hx681_0
            replace hx681_1 := (HB.out.cell (World.block_lt_of_cell? w _ hx681_1)).trans hx681_1
            replace hx681_2 := (HB.out.cell (World.block_lt_of_cell? w _ hx681_2)).trans hx681_2
            replace hx681_3 := (HB.out.cell (World.block_lt_of_cell? w _ hx681_3)).trans hx681_3
            replace p681 := eq_true p681
            replace q681 := eq_true q681
            have p682 : 0 ≤ (x6_2 : Int) := of_decide_eq_true (by first | (with_reducible assumption) | assumption)
            have q682 : x6_2 < (l0.length : Int) := of_decide_eq_true (by first | (with_reducible assumption) | assumption)
            obtain ⟨ad682, e682, hx682_0, hx682_1, hx682_2, hx682_3⟩ := at_T48 HR0.out x6_2 p682 q682
            have hw682_3 := hx682_3
            have hw682_2 := hx682_2
            have hw682_1 := hx682_1
            have hw682_0 := hx682_0
            obtain rfl : ad676 = ad682 := (by injection e682)
            replace hx682_0 := (HB.out.cell (World.block_lt_of_cell? w _ hx682_0)).trans hx682_0
            replace hx682_1 := (HB.out.cell (World.block_lt_of_cell? w _ hx682_1)).trans hx682_1
            replace hx682_2 := (HB.out.cell (World.block_lt_of_cell? w _ hx682_2)).trans hx682_2
            replace hx682_3 := (HB.out.cell (World.block_lt_of_cell? w _ hx682_3)).trans hx682_3
            replace p682 := eq_true p682
            replace q682 := eq_true q682
            refine stz (fun w' => w'.cell? ⟨gb678, 0, none⟩ = some (.int .i64 x679000_1) ∧ w'.cell? ⟨gb678, 1, none⟩ = some (.int .i64 x679001_1) ∧ w'.cell? (ad676.add ((x6_2).toNat * 4)) = some (.int .i64 ((rd_T48 l0 x6_2).f0)) ∧ w'.cell? ⟨(ad676.add ((x6_2).toNat * 4)).block, (ad676.add ((x6_2).toNat * 4)).off + 1, none⟩ = some (.int .i64 ((rd_T48 l0 x6_2).f1)) ∧ w'.cell? ⟨(ad676.add ((x6_2).toNat * 4)).block, (ad676.add ((x6_2).toNat * 4)).off + 2, none⟩ = some (.int .i64 ((rd_T48 l0 x6_2).f2)) ∧ w'.cell? ⟨(ad676.add ((x6_2).toNat * 4)).block, (ad676.add ((x6_2).toNat * 4)).off + 3, none⟩ = some (.int .i64 ((rd_T48 l0 x6_2).f3)) ∧ w'.cell? (ad676.add ((x6_2).toNat * 4)) = some (.int .i64 ((rd_T48 l0 x6_2).f0)) ∧ w'.cell? ⟨(ad676.add ((x6_2).toNat * 4)).block, (ad676.add ((x6_2).toNat * 4)).off + 1, none⟩ = some (.int .i64 ((rd_T48 l0 x6_2).f1)) ∧ w'.cell? ⟨(ad676.add ((x6_2).toNat * 4)).block, (ad676.add ((x6_2).toNat * 4)).off + 2, none⟩ = some (.int .i64 ((rd_T48 l0 x6_2).f2)) ∧ w'.cell? ⟨(ad676.add ((x6_2).toNat * 4)).block, (ad676.add ((x6_2).toNat * 4)).off + 3, none⟩ = some (.int .i64 ((rd_T48 l0 x6_2).f3))) [] (bn 18 0) ⟨(blk_cell BK678.out 0).trans rfl, (blk_cell BK678.out 1).trans rfl, ((HB.out.cell (World.block_lt_of_cell? w _ hw681_0)).trans hw681_0), ((HB.out.cell (World.block_lt_of_cell? w _ hw681_1)).trans hw681_1), ((HB.out.cell (World.block_lt_of_cell? w _ hw681_2)).trans hw681_2), ((HB.out.cell (World.block_lt_of_cell? w _ hw681_3)).trans hw681_3), ((HB.out.cell (World.block_lt_of_cell? w _ hw682_0)).trans hw682_0), ((HB.out.cell (World.block_lt_of_cell? w _ hw682_1)).trans hw682_1), ((HB.out.cell (World.block_lt_of_cell? w _ hw682_2)).trans hw682_2), ((HB.out.cell (World.block_lt_of_cell? w _ hw682_3)).trans hw682_3)⟩ (fun hHeld => ?_); refine with_tabW tickingref01_Common.tab11 tickingref01_Common.bits11 (fun HT_ HW_ => ?_)
            generalize wr.drew = w25 at BK675 BK678 HB hx681_0 hx681_1 hx681_2 hx681_3 hx682_0 hx682_1 hx682_2 hx682_3 hHeld ⊢
            refine pT HT_.out 0 (some 49) (bn 18 1) ?_
            refine pT HT_.out 1 (some 50) (bn 18 3) ?_
            refine pT HT_.out 2 (some 51) (bn 18 7) ?_
            refine pT HT_.out 3 (some 52) (bn 18 15) ?_
            refine pT HT_.out 5 (some 54) (bn 18 47) ?_
            refine tT HT_.out HW_.out 4 (some 53) (bn 18 63) hHeld ?_
            refine tT HT_.out HW_.out 6 (some 55) (bn 18 127) hHeld ?_
            refine pT HT_.out 7 (some 56) (bn 18 255) ?_
            refine pT HT_.out 8 (some 57) (bn 18 511) ?_
            refine pT HT_.out 9 (some 58) (bn 18 1023) ?_
            refine pT HT_.out 10 (some 59) (bn 18 2047) ?_
            refine pT HT_.out 11 (some 60) (bn 18 4095) ?_
            refine pT HT_.out 12 (some 61) (bn 18 8191) ?_
            refine pT HT_.out 14 (some 63) (bn 18 24575) ?_
            refine tT HT_.out HW_.out 13 (some 62) (bn 18 32767) hHeld ?_
            refine tT HT_.out HW_.out 15 (some 64) (bn 18 65535) hHeld ?_
            refine pT HT_.out 16 (some 65) (bn 18 131071) ?_
            refine pT HT_.out 17 (some 66) (bn 18 262143) ?_
            refine done_ (done_of HT_.out (by kernel_rfl)) ?_
            have hnb26 := NB675_678.out
            have hnc26 := NB678_675.out
            have hcz27_0 : w25.cell? ⟨gb675, 0, none⟩ = some (.int .i64 x676000_2) := (blk_cell BK675.out 0).trans rfl
            have hcz27_1 : w25.cell? ⟨gb675, 1, none⟩ = some (.int .i64 x676001_2) := (blk_cell BK675.out 1).trans rfl
            have hfz27_0 := blk_frozen BK675.out 0
            have hfz27_1 := blk_frozen BK675.out 1
            try go_wp2
            refine bodyPost_ret (results_ct rfl _ _ gb675 28 #[.int .i64 0, .int .i64 0] (0, 0) _ rfl (by (with_reducible repeat (first | refine blk_drewN ?_ _ | refine blk_drew ?_ | refine blk_alloc ?_ _)); refine blk_put (cs := #[.int .i64 0, .int .i64 x676001_2]) ?_ 1 _ rfl; (with_reducible repeat (first | refine blk_drewN ?_ _ | refine blk_drew ?_ | refine blk_alloc ?_ _)); refine blk_put (cs := #[.int .i64 x676000_2, .int .i64 x676001_2]) ?_ 0 _ rfl; (with_reducible repeat (first | refine blk_drewN ?_ _ | refine blk_drew ?_ | refine blk_alloc ?_ _)); exact BK675.out) Try.underlying28 rfl (by kernel_rfl)) rfl ?_
            exact ⟨by first | rfl | (simp [errW_none, errW_some] <;> rfl) | (simp [*, errW_none, errW_some] <;> rfl), HBz⟩
           ·rw [if_neg c24] at H
            have c24b0 : decide (((rd_T48 l0 x6_2).f3) < x679001_1) = false := decide_eq_false c24
            clear c24
            have H' := Aside0.mk H
            clear H
            try go_wp2
            have n0_ := Aside0.mk (blk_drew BK675.out)
            have n1_ := Aside0.mk (blk_drew BK678.out)
            have n2_ := Aside0.mk (below_drew1 HB.out)
            clear BK675
            clear BK678
            clear HB
            have BK675 := n0_
            have BK678 := n1_
            have HB := n2_
            clear n0_ n1_ n2_
            have p681 : 0 ≤ (x6_2 : Int) := of_decide_eq_true (by first | (with_reducible assumption) | assumption)
            have q681 : x6_2 < (l0.length : Int) := of_decide_eq_true (by first | (with_reducible assumption) | assumption)
            obtain ⟨ad681, e681, hx681_0, hx681_1, hx681_2, hx681_3⟩ := at_T48 HR0.out x6_2 p681 q681
            have hw681_3 := hx681_3
            have hw681_2 := hx681_2
            have hw681_1 := hx681_1
            have hw681_0 := hx681_0
            obtain rfl : ad676 = ad681 := (by injection e681)
            replace hx681_0 := (HB.out.cell (World.block_lt_of_cell? w _ hx681_0)).trans hx681_0
            replace hx681_1 := (HB.out.cell (World.block_lt_of_cell? w _ hx681_1)).trans hx681_1
            replace hx681_2 := (HB.out.cell (World.block_lt_of_cell? w _ hx681_2)).trans hx681_2
            replace hx681_3 := (HB.out.cell (World.block_lt_of_cell? w _ hx681_3)).trans hx681_3
            replace p681 := eq_true p681
            replace q681 := eq_true q681
            have p682 : 0 ≤ (x6_2 : Int) := of_decide_eq_true (by first | (with_reducible assumption) | assumption)
            have q682 : x6_2 < (l0.length : Int) := of_decide_eq_true (by first | (with_reducible assumption) | assumption)
            obtain ⟨ad682, e682, hx682_0, hx682_1, hx682_2, hx682_3⟩ := at_T48 HR0.out x6_2 p682 q682
            have hw682_3 := hx682_3
            have hw682_2 := hx682_2
            have hw682_1 := hx682_1
            have hw682_0 := hx682_0
            obtain rfl : ad676 = ad682 := (by injection e682)
            replace hx682_0 := (HB.out.cell (World.block_lt_of_cell? w _ hx682_0)).trans hx682_0
            replace hx682_1 := (HB.out.cell (World.block_lt_of_cell? w _ hx682_1)).trans hx682_1
            replace hx682_2 := (HB.out.cell (World.block_lt_of_cell? w _ hx682_2)).trans hx682_2
            replace hx682_3 := (HB.out.cell (World.block_lt_of_cell? w _ hx682_3)).trans hx682_3
            replace p682 := eq_true p682
            replace q682 := eq_true q682
            refine stz (fun w' => w'.cell? ⟨gb678, 0, none⟩ = some (.int .i64 x679000_1) ∧ w'.cell? ⟨gb678, 1, none⟩ = some (.int .i64 x679001_1) ∧ w'.cell? (ad676.add ((x6_2).toNat * 4)) = some (.int .i64 ((rd_T48 l0 x6_2).f0)) ∧ w'.cell? ⟨(ad676.add ((x6_2).toNat * 4)).block, (ad676.add ((x6_2).toNat * 4)).off + 1, none⟩ = some (.int .i64 ((rd_T48 l0 x6_2).f1)) ∧ w'.cell? ⟨(ad676.add ((x6_2).toNat * 4)).block, (ad676.add ((x6_2).toNat * 4)).off + 2, none⟩ = some (.int .i64 ((rd_T48 l0 x6_2).f2)) ∧ w'.cell? ⟨(ad676.add ((x6_2).toNat * 4)).block, (ad676.add ((x6_2).toNat * 4)).off + 3, none⟩ = some (.int .i64 ((rd_T48 l0 x6_2).f3)) ∧ w'.cell? (ad676.add ((x6_2).toNat * 4)) = some (.int .i64 ((rd_T48 l0 x6_2).f0)) ∧ w'.cell? ⟨(ad676.add ((x6_2).toNat * 4)).block, (ad676.add ((x6_2).toNat * 4)).off + 1, none⟩ = some (.int .i64 ((rd_T48 l0 x6_2).f1)) ∧ w'.cell? ⟨(ad676.add ((x6_2).toNat * 4)).block, (ad676.add ((x6_2).toNat * 4)).off + 2, none⟩ = some (.int .i64 ((rd_T48 l0 x6_2).f2)) ∧ w'.cell? ⟨(ad676.add ((x6_2).toNat * 4)).block, (ad676.add ((x6_2).toNat * 4)).off + 3, none⟩ = some (.int .i64 ((rd_T48 l0 x6_2).f3))) [] (bn 18 0) ⟨(blk_cell BK678.out 0).trans rfl, (blk_cell BK678.out 1).trans rfl, ((HB.out.cell (World.block_lt_of_cell? w _ hw681_0)).trans hw681_0), ((HB.out.cell (World.block_lt_of_cell? w _ hw681_1)).trans hw681_1), ((HB.out.cell (World.block_lt_of_cell? w _ hw681_2)).trans hw681_2), ((HB.out.cell (World.block_lt_of_cell? w _ hw681_3)).trans hw681_3), ((HB.out.cell (World.block_lt_of_cell? w _ hw682_0)).trans hw682_0), ((HB.out.cell (World.block_lt_of_cell? w _ hw682_1)).trans hw682_1), ((HB.out.cell (World.block_lt_of_cell? w _ hw682_2)).trans hw682_2), ((HB.out.cell (World.block_lt_of_cell? w _ hw682_3)).trans hw682_3)⟩ (fun hHeld => ?_); refine with_tabW tickingref01_Common.tab11 tickingref01_Common.bits11 (fun HT_ HW_ => ?_)
            generalize wr.drew = w28 at BK675 BK678 HB hx681_0 hx681_1 hx681_2 hx681_3 hx682_0 hx682_1 hx682_2 hx682_3 hHeld ⊢
            refine pT HT_.out 0 (some 49) (bn 18 1) ?_
            refine pT HT_.out 1 (some 50) (bn 18 3) ?_
            refine pT HT_.out 2 (some 51) (bn 18 7) ?_
            refine pT HT_.out 3 (some 52) (bn 18 15) ?_
            refine pT HT_.out 5 (some 54) (bn 18 47) ?_
            refine tT HT_.out HW_.out 4 (some 53) (bn 18 63) hHeld ?_
            refine tT HT_.out HW_.out 6 (some 55) (bn 18 127) hHeld ?_
            refine pT HT_.out 7 (some 56) (bn 18 255) ?_
            refine pT HT_.out 8 (some 57) (bn 18 511) ?_
            refine pT HT_.out 9 (some 58) (bn 18 1023) ?_
            refine pT HT_.out 10 (some 59) (bn 18 2047) ?_
            refine pT HT_.out 11 (some 60) (bn 18 4095) ?_
            refine pT HT_.out 12 (some 61) (bn 18 8191) ?_
            refine pT HT_.out 14 (some 63) (bn 18 24575) ?_
            refine tT HT_.out HW_.out 13 (some 62) (bn 18 32767) hHeld ?_
            refine tT HT_.out HW_.out 15 (some 64) (bn 18 65535) hHeld ?_
            refine pT HT_.out 16 (some 65) (bn 18 131071) ?_
            refine pT HT_.out 17 (some 66) (bn 18 262143) ?_
            refine done_ (done_of HT_.out (by kernel_rfl)) ?_
            try go_wp2
            go_roundg k2
            case measure => have := HK1.out; have := HK2.out; omega
            case rel => exact ⟨(wrap64 (x6_2 + 1)), (x676000_2), (x676001_2), (by first | rfl | (simp; done) | (simp [*]; done)), H', ⟨by have := HK1.out; have := HK2.out; omega⟩, ⟨by (with_reducible repeat (first | refine blk_drewN ?_ _ | refine blk_drew ?_ | refine blk_alloc ?_ _)); exact BK675.out⟩, ⟨by (with_reducible repeat (first | refine blk_drewN ?_ _ | refine blk_drew ?_ | refine blk_alloc ?_ _)); exact BK678.out⟩, ⟨HBz⟩⟩
         ·rw [if_neg c19] at H
          exact absurd H (by simp)
        ·rw [if_neg c18] at H
         have c18b0 : decide (x6_2 < (l0.length : Int)) = false := decide_eq_false c18
         clear c18
         simp only [Option.some.injEq, Prod.mk.injEq] at H
         obtain ⟨rfl, rfl, rfl⟩ := H
         have hnb29 := NB678_675.out
         have hnc29 := NB675_678.out
         have hcz30_0 : wr.cell? ⟨gb678, 0, none⟩ = some (.int .i64 x679000_1) := (blk_cell BK678.out 0).trans rfl
         have hcz30_1 : wr.cell? ⟨gb678, 1, none⟩ = some (.int .i64 x679001_1) := (blk_cell BK678.out 1).trans rfl
         have hfz30_0 := blk_frozen BK678.out 0
         have hfz30_1 := blk_frozen BK678.out 1
         have hcz31_0 : wr.cell? ⟨gb675, 0, none⟩ = some (.int .i64 x676000_2) := (blk_cell BK675.out 0).trans rfl
         have hcz31_1 : wr.cell? ⟨gb675, 1, none⟩ = some (.int .i64 x676001_2) := (blk_cell BK675.out 1).trans rfl
         have hfz31_0 := blk_frozen BK675.out 0
         have hfz31_1 := blk_frozen BK675.out 1
         go_wp2
         refine bodyPost_ret (results_ct rfl _ _ gb675 28 #[.int .i64 x679000_1, .int .i64 x679001_1] (0, 0) _ rfl (by (with_reducible repeat (first | refine blk_drewN ?_ _ | refine blk_drew ?_ | refine blk_alloc ?_ _)); refine blk_put (cs := #[.int .i64 x679000_1, .int .i64 x676001_2]) ?_ 1 _ rfl; (with_reducible repeat (first | refine blk_drewN ?_ _ | refine blk_drew ?_ | refine blk_alloc ?_ _)); refine blk_put (cs := #[.int .i64 x676000_2, .int .i64 x676001_2]) ?_ 0 _ rfl; (with_reducible repeat (first | refine blk_drewN ?_ _ | refine blk_drew ?_ | refine blk_alloc ?_ _)); exact BK675.out) Try.underlying28 rfl (by kernel_rfl)) rfl ?_
         exact ⟨by first | rfl | (simp [errW_none, errW_some] <;> rfl) | (simp [*, errW_none, errW_some] <;> rfl), HBz⟩
  ·rw [if_neg c5] at H
   exact absurd H (by simp)
end Go.Proofs.Ytplhfbkejngioaa.X
namespace Go.Proofs.Ytplhfbkejngioaa.X
open Go.RowKit Go.Proofs.YtplhfbkejngioaaW.PrintWords Go.Proofs.YtplhfbkejngioaaW.PrintLast Go.Proofs.Ytplhfbkejngioaa.S
attribute [local go_sem] max2_int min2_int max_two min_two
set_option linter.unusedVariables false
set_option linter.unusedSimpArgs false
def tickingref01_Meets.f (a0_0 : Int) (a0_1 : Int) (a0_2 : Int) (a0_3 : Int) (a1_0 : Int) (a1_1 : Int) (a1_2 : Int) (a1_3 : Int) : Option (Bool) := if a0_0 ≤ a1_2 then (if a1_0 ≤ a0_2 then (if a0_1 ≤ a1_3 then (some (decide (a1_1 ≤ a0_3))) else (some false)) else (some false)) else (some false)
set_option maxHeartbeats 8000000 in
set_option maxRecDepth 100000 in
theorem tickingref01_Meets.calls (a0_0 : Int) (a0_1 : Int) (a0_2 : Int) (a0_3 : Int) (a1_0 : Int) (a1_1 : Int) (a1_2 : Int) (a1_3 : Int) (r : Bool) (w : World) (h : tickingref01_Meets.f a0_0 a0_1 a0_2 a0_3 a1_0 a1_1 a1_2 a1_3 = some r) :
  Calls Try.prog 42 #[.agg #[.int .i64 a0_0, .int .i64 a0_1, .int .i64 a0_2, .int .i64 a0_3], .agg #[.int .i64 a1_0, .int .i64 a1_1, .int .i64 a1_2, .int .i64 a1_3]] w fun e w' => e = .returned (.bool r) ∧ Below w.heap.size w w' := by
 have hu48 := Try.underlying48
 have HB := Aside0.mk (Below.refl w.heap.size w)
 have H : (if a0_0 ≤ a1_2 then (if a1_0 ≤ a0_2 then (if a0_1 ≤ a1_3 then (some (decide (a1_1 ≤ a0_3))) else (some false)) else (some false)) else (some false)) = some r := h
 clear h
 by_cases c3 : a0_0 ≤ a1_2
 ·rw [if_pos c3] at H
  have c3b0 : decide (a0_0 ≤ a1_2) = true := decide_eq_true c3
  clear c3
  by_cases c4 : a1_0 ≤ a0_2
  ·rw [if_pos c4] at H
   have c4b0 : decide (a1_0 ≤ a0_2) = true := decide_eq_true c4
   clear c4
   by_cases c5 : a0_1 ≤ a1_3
   ·rw [if_pos c5] at H
    have c5b0 : decide (a0_1 ≤ a1_3) = true := decide_eq_true c5
    clear c5
    obtain rfl := Option.some.inj H
    go_enter Try.func42, Try.ntmps42
    go_wp2_with (first | ((with_reducible refine gate_dst (N := 2) rfl ?_); refine bxE 2 #[.int .i64 a0_0, .int .i64 a0_1, .int .i64 a0_2, .int .i64 a0_3] 48 ?_; intro gb683 hg w6 hbox hb; have n0_ := Aside0.mk (below_step HBz hb); have n1_ := Aside0.mk (hbox); have n2_ := Aside0.mk ((by rw [hg]; exact (below_size HBz) : w.heap.size ≤ gb683)); have n3_ := Aside0.mk ((by rw [hg]; exact (below_size HBz) : w.heap.size ≤ gb683)); clear HB; have HB := n0_; have BK683 := n1_; have GW683 := n2_; have GE683 := n3_; clear n0_ n1_ n2_ n3_; clear hb hbox hg) | ((with_reducible refine gate_dst (N := 3) rfl ?_); refine bxE 3 #[.int .i64 a1_0, .int .i64 a1_1, .int .i64 a1_2, .int .i64 a1_3] 48 ?_; intro gb684 hg w7 hbox hb; have n0_ := Aside0.mk (blk_below (g := gb683) BKz hb); have n1_ := Aside0.mk (below_step HBz hb); have n2_ := Aside0.mk (hbox); have n3_ := Aside0.mk ((by rw [hg]; exact (below_size HBz) : w.heap.size ≤ gb684)); have n4_ := Aside0.mk ((by rw [hg]; exact (below_size HBz) : w.heap.size ≤ gb684)); have n5_ := Aside0.mk ((by rw [hg]; exact Nat.ne_of_lt (blk_lt (g := gb683) BKz) : gb683 ≠ gb684)); have n6_ := Aside0.mk ((by rw [hg]; exact Nat.ne_of_gt (blk_lt (g := gb683) BKz) : gb684 ≠ gb683)); clear BK683; clear HB; have BK683 := n0_; have HB := n1_; have BK684 := n2_; have GW684 := n3_; have GE684 := n4_; have NB683_684 := n5_; have NB684_683 := n6_; clear n0_ n1_ n2_ n3_ n4_ n5_ n6_; clear hb hbox hg; have hnb8 := NB683_684.out; have hnc8 := NB684_683.out; have hcz9_0 : w7.cell? ⟨gb683, 0, none⟩ = some (.int .i64 a0_0) := (blk_cell BK683.out 0).trans rfl; have hcz9_1 : w7.cell? ⟨gb683, 1, none⟩ = some (.int .i64 a0_1) := (blk_cell BK683.out 1).trans rfl; have hcz9_2 : w7.cell? ⟨gb683, 2, none⟩ = some (.int .i64 a0_2) := (blk_cell BK683.out 2).trans rfl; have hcz9_3 : w7.cell? ⟨gb683, 3, none⟩ = some (.int .i64 a0_3) := (blk_cell BK683.out 3).trans rfl; have hfz9_0 := blk_frozen BK683.out 0; have hfz9_1 := blk_frozen BK683.out 1; have hfz9_2 := blk_frozen BK683.out 2; have hfz9_3 := blk_frozen BK683.out 3; have hcz10_0 : w7.cell? ⟨gb684, 0, none⟩ = some (.int .i64 a1_0) := (blk_cell BK684.out 0).trans rfl; have hcz10_1 : w7.cell? ⟨gb684, 1, none⟩ = some (.int .i64 a1_1) := (blk_cell BK684.out 1).trans rfl; have hcz10_2 : w7.cell? ⟨gb684, 2, none⟩ = some (.int .i64 a1_2) := (blk_cell BK684.out 2).trans rfl; have hcz10_3 : w7.cell? ⟨gb684, 3, none⟩ = some (.int .i64 a1_3) := (blk_cell BK684.out 3).trans rfl; have hfz10_0 := blk_frozen BK684.out 0; have hfz10_1 := blk_frozen BK684.out 1; have hfz10_2 := blk_frozen BK684.out 2; have hfz10_3 := blk_frozen BK684.out 3))
    go_ret
    exact ⟨by first | rfl | (simp [errW_none, errW_some] <;> rfl) | (simp [*, errW_none, errW_some] <;> rfl), HBz⟩
   ·rw [if_neg c5] at H
    have c5b0 : decide (a0_1 ≤ a1_3) = false := decide_eq_false c5
    clear c5
    obtain rfl := Option.some.inj H
    go_enter Try.func42, Try.ntmps42
    go_wp2_with (first | ((with_reducible refine gate_dst (N := 2) rfl ?_); refine bxE 2 #[.int .i64 a0_0, .int .i64 a0_1, .int .i64 a0_2, .int .i64 a0_3] 48 ?_; intro gb683 hg w11 hbox hb; have n0_ := Aside0.mk (below_step HBz hb); have n1_ := Aside0.mk (hbox); have n2_ := Aside0.mk ((by rw [hg]; exact (below_size HBz) : w.heap.size ≤ gb683)); have n3_ := Aside0.mk ((by rw [hg]; exact (below_size HBz) : w.heap.size ≤ gb683)); clear HB; have HB := n0_; have BK683 := n1_; have GW683 := n2_; have GE683 := n3_; clear n0_ n1_ n2_ n3_; clear hb hbox hg) | ((with_reducible refine gate_dst (N := 3) rfl ?_); refine bxE 3 #[.int .i64 a1_0, .int .i64 a1_1, .int .i64 a1_2, .int .i64 a1_3] 48 ?_; intro gb684 hg w12 hbox hb; have n0_ := Aside0.mk (blk_below (g := gb683) BKz hb); have n1_ := Aside0.mk (below_step HBz hb); have n2_ := Aside0.mk (hbox); have n3_ := Aside0.mk ((by rw [hg]; exact (below_size HBz) : w.heap.size ≤ gb684)); have n4_ := Aside0.mk ((by rw [hg]; exact (below_size HBz) : w.heap.size ≤ gb684)); have n5_ := Aside0.mk ((by rw [hg]; exact Nat.ne_of_lt (blk_lt (g := gb683) BKz) : gb683 ≠ gb684)); have n6_ := Aside0.mk ((by rw [hg]; exact Nat.ne_of_gt (blk_lt (g := gb683) BKz) : gb684 ≠ gb683)); clear BK683; clear HB; have BK683 := n0_; have HB := n1_; have BK684 := n2_; have GW684 := n3_; have GE684 := n4_; have NB683_684 := n5_; have NB684_683 := n6_; clear n0_ n1_ n2_ n3_ n4_ n5_ n6_; clear hb hbox hg; have hnb13 := NB683_684.out; have hnc13 := NB684_683.out; have hcz14_0 : w12.cell? ⟨gb683, 0, none⟩ = some (.int .i64 a0_0) := (blk_cell BK683.out 0).trans rfl; have hcz14_1 : w12.cell? ⟨gb683, 1, none⟩ = some (.int .i64 a0_1) := (blk_cell BK683.out 1).trans rfl; have hcz14_2 : w12.cell? ⟨gb683, 2, none⟩ = some (.int .i64 a0_2) := (blk_cell BK683.out 2).trans rfl; have hcz14_3 : w12.cell? ⟨gb683, 3, none⟩ = some (.int .i64 a0_3) := (blk_cell BK683.out 3).trans rfl; have hfz14_0 := blk_frozen BK683.out 0; have hfz14_1 := blk_frozen BK683.out 1; have hfz14_2 := blk_frozen BK683.out 2; have hfz14_3 := blk_frozen BK683.out 3; have hcz15_0 : w12.cell? ⟨gb684, 0, none⟩ = some (.int .i64 a1_0) := (blk_cell BK684.out 0).trans rfl; have hcz15_1 : w12.cell? ⟨gb684, 1, none⟩ = some (.int .i64 a1_1) := (blk_cell BK684.out 1).trans rfl; have hcz15_2 : w12.cell? ⟨gb684, 2, none⟩ = some (.int .i64 a1_2) := (blk_cell BK684.out 2).trans rfl; have hcz15_3 : w12.cell? ⟨gb684, 3, none⟩ = some (.int .i64 a1_3) := (blk_cell BK684.out 3).trans rfl; have hfz15_0 := blk_frozen BK684.out 0; have hfz15_1 := blk_frozen BK684.out 1; have hfz15_2 := blk_frozen BK684.out 2; have hfz15_3 := blk_frozen BK684.out 3))
    go_ret
    exact ⟨by first | rfl | (simp [errW_none, errW_some] <;> rfl) | (simp [*, errW_none, errW_some] <;> rfl), HBz⟩
  ·rw [if_neg c4] at H
   have c4b0 : decide (a1_0 ≤ a0_2) = false := decide_eq_false c4
   clear c4
   obtain rfl := Option.some.inj H
   go_enter Try.func42, Try.ntmps42
   go_wp2_with (first | ((with_reducible refine gate_dst (N := 2) rfl ?_); refine bxE 2 #[.int .i64 a0_0, .int .i64 a0_1, .int .i64 a0_2, .int .i64 a0_3] 48 ?_; intro gb683 hg w16 hbox hb; have n0_ := Aside0.mk (below_step HBz hb); have n1_ := Aside0.mk (hbox); have n2_ := Aside0.mk ((by rw [hg]; exact (below_size HBz) : w.heap.size ≤ gb683)); have n3_ := Aside0.mk ((by rw [hg]; exact (below_size HBz) : w.heap.size ≤ gb683)); clear HB; have HB := n0_; have BK683 := n1_; have GW683 := n2_; have GE683 := n3_; clear n0_ n1_ n2_ n3_; clear hb hbox hg) | ((with_reducible refine gate_dst (N := 3) rfl ?_); refine bxE 3 #[.int .i64 a1_0, .int .i64 a1_1, .int .i64 a1_2, .int .i64 a1_3] 48 ?_; intro gb684 hg w17 hbox hb; have n0_ := Aside0.mk (blk_below (g := gb683) BKz hb); have n1_ := Aside0.mk (below_step HBz hb); have n2_ := Aside0.mk (hbox); have n3_ := Aside0.mk ((by rw [hg]; exact (below_size HBz) : w.heap.size ≤ gb684)); have n4_ := Aside0.mk ((by rw [hg]; exact (below_size HBz) : w.heap.size ≤ gb684)); have n5_ := Aside0.mk ((by rw [hg]; exact Nat.ne_of_lt (blk_lt (g := gb683) BKz) : gb683 ≠ gb684)); have n6_ := Aside0.mk ((by rw [hg]; exact Nat.ne_of_gt (blk_lt (g := gb683) BKz) : gb684 ≠ gb683)); clear BK683; clear HB; have BK683 := n0_; have HB := n1_; have BK684 := n2_; have GW684 := n3_; have GE684 := n4_; have NB683_684 := n5_; have NB684_683 := n6_; clear n0_ n1_ n2_ n3_ n4_ n5_ n6_; clear hb hbox hg; have hnb18 := NB683_684.out; have hnc18 := NB684_683.out; have hcz19_0 : w17.cell? ⟨gb683, 0, none⟩ = some (.int .i64 a0_0) := (blk_cell BK683.out 0).trans rfl; have hcz19_1 : w17.cell? ⟨gb683, 1, none⟩ = some (.int .i64 a0_1) := (blk_cell BK683.out 1).trans rfl; have hcz19_2 : w17.cell? ⟨gb683, 2, none⟩ = some (.int .i64 a0_2) := (blk_cell BK683.out 2).trans rfl; have hcz19_3 : w17.cell? ⟨gb683, 3, none⟩ = some (.int .i64 a0_3) := (blk_cell BK683.out 3).trans rfl; have hfz19_0 := blk_frozen BK683.out 0; have hfz19_1 := blk_frozen BK683.out 1; have hfz19_2 := blk_frozen BK683.out 2; have hfz19_3 := blk_frozen BK683.out 3; have hcz20_0 : w17.cell? ⟨gb684, 0, none⟩ = some (.int .i64 a1_0) := (blk_cell BK684.out 0).trans rfl; have hcz20_1 : w17.cell? ⟨gb684, 1, none⟩ = some (.int .i64 a1_1) := (blk_cell BK684.out 1).trans rfl; have hcz20_2 : w17.cell? ⟨gb684, 2, none⟩ = some (.int .i64 a1_2) := (blk_cell BK684.out 2).trans rfl; have hcz20_3 : w17.cell? ⟨gb684, 3, none⟩ = some (.int .i64 a1_3) := (blk_cell BK684.out 3).trans rfl; have hfz20_0 := blk_frozen BK684.out 0; have hfz20_1 := blk_frozen BK684.out 1; have hfz20_2 := blk_frozen BK684.out 2; have hfz20_3 := blk_frozen BK684.out 3))
   go_ret
   exact ⟨by first | rfl | (simp [errW_none, errW_some] <;> rfl) | (simp [*, errW_none, errW_some] <;> rfl), HBz⟩
 ·rw [if_neg c3] at H
  have c3b0 : decide (a0_0 ≤ a1_2) = false := decide_eq_false c3
  clear c3
  obtain rfl := Option.some.inj H
  go_enter Try.func42, Try.ntmps42
  go_wp2_with (first | ((with_reducible refine gate_dst (N := 2) rfl ?_); refine bxE 2 #[.int .i64 a0_0, .int .i64 a0_1, .int .i64 a0_2, .int .i64 a0_3] 48 ?_; intro gb683 hg w21 hbox hb; have n0_ := Aside0.mk (below_step HBz hb); have n1_ := Aside0.mk (hbox); have n2_ := Aside0.mk ((by rw [hg]; exact (below_size HBz) : w.heap.size ≤ gb683)); have n3_ := Aside0.mk ((by rw [hg]; exact (below_size HBz) : w.heap.size ≤ gb683)); clear HB; have HB := n0_; have BK683 := n1_; have GW683 := n2_; have GE683 := n3_; clear n0_ n1_ n2_ n3_; clear hb hbox hg) | ((with_reducible refine gate_dst (N := 3) rfl ?_); refine bxE 3 #[.int .i64 a1_0, .int .i64 a1_1, .int .i64 a1_2, .int .i64 a1_3] 48 ?_; intro gb684 hg w22 hbox hb; have n0_ := Aside0.mk (blk_below (g := gb683) BKz hb); have n1_ := Aside0.mk (below_step HBz hb); have n2_ := Aside0.mk (hbox); have n3_ := Aside0.mk ((by rw [hg]; exact (below_size HBz) : w.heap.size ≤ gb684)); have n4_ := Aside0.mk ((by rw [hg]; exact (below_size HBz) : w.heap.size ≤ gb684)); have n5_ := Aside0.mk ((by rw [hg]; exact Nat.ne_of_lt (blk_lt (g := gb683) BKz) : gb683 ≠ gb684)); have n6_ := Aside0.mk ((by rw [hg]; exact Nat.ne_of_gt (blk_lt (g := gb683) BKz) : gb684 ≠ gb683)); clear BK683; clear HB; have BK683 := n0_; have HB := n1_; have BK684 := n2_; have GW684 := n3_; have GE684 := n4_; have NB683_684 := n5_; have NB684_683 := n6_; clear n0_ n1_ n2_ n3_ n4_ n5_ n6_; clear hb hbox hg; have hnb23 := NB683_684.out; have hnc23 := NB684_683.out; have hcz24_0 : w22.cell? ⟨gb683, 0, none⟩ = some (.int .i64 a0_0) := (blk_cell BK683.out 0).trans rfl; have hcz24_1 : w22.cell? ⟨gb683, 1, none⟩ = some (.int .i64 a0_1) := (blk_cell BK683.out 1).trans rfl; have hcz24_2 : w22.cell? ⟨gb683, 2, none⟩ = some (.int .i64 a0_2) := (blk_cell BK683.out 2).trans rfl; have hcz24_3 : w22.cell? ⟨gb683, 3, none⟩ = some (.int .i64 a0_3) := (blk_cell BK683.out 3).trans rfl; have hfz24_0 := blk_frozen BK683.out 0; have hfz24_1 := blk_frozen BK683.out 1; have hfz24_2 := blk_frozen BK683.out 2; have hfz24_3 := blk_frozen BK683.out 3; have hcz25_0 : w22.cell? ⟨gb684, 0, none⟩ = some (.int .i64 a1_0) := (blk_cell BK684.out 0).trans rfl; have hcz25_1 : w22.cell? ⟨gb684, 1, none⟩ = some (.int .i64 a1_1) := (blk_cell BK684.out 1).trans rfl; have hcz25_2 : w22.cell? ⟨gb684, 2, none⟩ = some (.int .i64 a1_2) := (blk_cell BK684.out 2).trans rfl; have hcz25_3 : w22.cell? ⟨gb684, 3, none⟩ = some (.int .i64 a1_3) := (blk_cell BK684.out 3).trans rfl; have hfz25_0 := blk_frozen BK684.out 0; have hfz25_1 := blk_frozen BK684.out 1; have hfz25_2 := blk_frozen BK684.out 2; have hfz25_3 := blk_frozen BK684.out 3))
  go_ret
  exact ⟨by first | rfl | (simp [errW_none, errW_some] <;> rfl) | (simp [*, errW_none, errW_some] <;> rfl), HBz⟩
end Go.Proofs.Ytplhfbkejngioaa.X
