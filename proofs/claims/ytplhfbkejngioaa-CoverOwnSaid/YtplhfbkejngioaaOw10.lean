/- Texts of this claim's session, put together: X12, X13, X14, X15, X21, XRTiles, X22. -/
import Derived.Test.YtplhfbkejngioaaBc0
import Derived.Test.YtplhfbkejngioaaBc4
import Derived.Test.YtplhfbkejngioaaBc13
import Derived.Test.YtplhfbkejngioaaOw2
import Derived.Test.YtplhfbkejngioaaBc12
import Derived.Test.YtplhfbkejngioaaVWords
import Derived.Test.YtplhfbkejngioaaVLast
import Derived.Test.YtplhfbkejngioaaVTab
import Derived.Test.YtplhfbkejngioaaVRepsOne
namespace Go.Proofs.Ytplhfbkejngioaa.X
open Go.RowKit Go.Proofs.YtplhfbkejngioaaW.PrintWords Go.Proofs.YtplhfbkejngioaaW.PrintLast Go.Proofs.Ytplhfbkejngioaa.S
attribute [local go_sem] max2_int min2_int max_two min_two
set_option linter.unusedVariables false
set_option linter.unusedSimpArgs false
mutual
def tickingref01_Area.l0 : Nat → List (S48) → List Int → List Int → Int → Int → Option (Int)
 | 0, _, _, _, _, _ => none
 | k + 1, x0, x3, x4, x5, x6 => if (wrap64 (x6 + 1)) < (x3.length : Int) then (tickingref01_Area.l1 k x0 x3 x4 x5 x6 0) else (some x5)
def tickingref01_Area.l1 : Nat → List (S48) → List Int → List Int → Int → Int → Int → Option (Int)
 | 0, _, _, _, _, _, _ => none
 | k + 1, x0, x3, x4, x5, x6, x7 => if (wrap64 (x7 + 1)) < (x4.length : Int) then (if 0 ≤ x6 then (if x6 < (x3.length : Int) then (if 0 ≤ x7 then (if x7 < (x4.length : Int) then ((tickingref01_Depth.f k x0 (rd x3 x6) (rd x4 x7)).bind fun t274 => (if t274 > 0 then (if 0 ≤ (wrap64 (x6 + 1)) then (if (wrap64 (x6 + 1)) < (x3.length : Int) then (if 0 ≤ (wrap64 (x7 + 1)) then (tickingref01_Area.l1 k x0 x3 x4 (wrap64 (x5 + (wrap64 ((wrap64 ((rd x3 (wrap64 (x6 + 1))) - (rd x3 x6))) * (wrap64 ((rd x4 (wrap64 (x7 + 1))) - (rd x4 x7))))))) x6 (wrap64 (x7 + 1))) else (none)) else (none)) else (none)) else (tickingref01_Area.l1 k x0 x3 x4 x5 x6 (wrap64 (x7 + 1))))) else (none)) else (none)) else (none)) else (none)) else (tickingref01_Area.l0 k x0 x3 x4 x5 (wrap64 (x6 + 1)))
end
def tickingref01_Area.f (k : Nat) (l0 : List (S48)) : Option (Int) := (tickingref01_lines.f k l0 true).bind fun t266 => ((tickingref01_lines.f k l0 false).bind fun t269 => (tickingref01_Area.l0 k l0 t266 t269 0 0))
theorem tickingref01_Area.mono_l : ∀ k, (∀ y0 y1 y2 y3 y4, LeO (tickingref01_Area.l0 k y0 y1 y2 y3 y4) (tickingref01_Area.l0 (k + 1) y0 y1 y2 y3 y4)) ∧ (∀ y0 y1 y2 y3 y4 y5, LeO (tickingref01_Area.l1 k y0 y1 y2 y3 y4 y5) (tickingref01_Area.l1 (k + 1) y0 y1 y2 y3 y4 y5))
 | 0 => ⟨fun _ _ _ _ _ r h => by simp [tickingref01_Area.l0] at h, fun _ _ _ _ _ _ r h => by simp [tickingref01_Area.l1] at h⟩
 | k + 1 => by
  obtain ⟨ih0, ih1⟩ := tickingref01_Area.mono_l k
  refine ⟨?_, ?_⟩
  ·intro y0 y1 y2 y3 y4
   unfold tickingref01_Area.l0
   repeat' first
   | (with_reducible exact ih0 _ _ _ _ _)
   | (with_reducible exact ih1 _ _ _ _ _ _)
   | (with_reducible exact tickingref01_Depth.mono _ _ _ _)
   | (with_reducible exact tickingref01_lines.mono _ _ _)
   | (with_reducible exact LeO.refl _)
   | (with_reducible exact LeO.none _)
   | (with_reducible refine LeO.ite ?_ ?_)
   | (with_reducible refine LeO.bind ?_ (fun _ => ?_))
   | exact ih0 _ _ _ _ _
   | exact ih1 _ _ _ _ _ _
   | exact tickingref01_Depth.mono _ _ _ _
   | exact tickingref01_lines.mono _ _ _
   | exact LeO.none _
   | refine LeO.ite ?_ ?_
   | refine LeO.bind ?_ (fun _ => ?_)
  ·intro y0 y1 y2 y3 y4 y5
   unfold tickingref01_Area.l1
   repeat' first
   | (with_reducible exact ih0 _ _ _ _ _)
   | (with_reducible exact ih1 _ _ _ _ _ _)
   | (with_reducible exact tickingref01_Depth.mono _ _ _ _)
   | (with_reducible exact tickingref01_lines.mono _ _ _)
   | (with_reducible exact LeO.refl _)
   | (with_reducible exact LeO.none _)
   | (with_reducible refine LeO.ite ?_ ?_)
   | (with_reducible refine LeO.bind ?_ (fun _ => ?_))
   | exact ih0 _ _ _ _ _
   | exact ih1 _ _ _ _ _ _
   | exact tickingref01_Depth.mono _ _ _ _
   | exact tickingref01_lines.mono _ _ _
   | exact LeO.none _
   | refine LeO.ite ?_ ?_
   | refine LeO.bind ?_ (fun _ => ?_)
theorem tickingref01_Area.mono : ∀ a0 k, LeO (tickingref01_Area.f k a0) (tickingref01_Area.f (k + 1) a0) := by
 intro a0 k
 obtain ⟨ih0, ih1⟩ := tickingref01_Area.mono_l k
 unfold tickingref01_Area.f
 repeat' first
   | (with_reducible exact ih0 _ _ _ _ _)
   | (with_reducible exact ih1 _ _ _ _ _ _)
   | (with_reducible exact tickingref01_Depth.mono _ _ _ _)
   | (with_reducible exact tickingref01_lines.mono _ _ _)
   | (with_reducible exact LeO.refl _)
   | (with_reducible exact LeO.none _)
   | (with_reducible refine LeO.ite ?_ ?_)
   | (with_reducible refine LeO.bind ?_ (fun _ => ?_))
   | exact ih0 _ _ _ _ _
   | exact ih1 _ _ _ _ _ _
   | exact tickingref01_Depth.mono _ _ _ _
   | exact tickingref01_lines.mono _ _ _
   | exact LeO.none _
   | refine LeO.ite ?_ ?_
   | refine LeO.bind ?_ (fun _ => ?_)
set_option maxHeartbeats 8000000 in
set_option maxRecDepth 100000 in
theorem tickingref01_Area.calls (k : Nat) (A0 : Option Addr) (c0 : Nat) (l0 : List (S48)) (r : Int) (w : World) (hr0 : Kd.C k48 w A0 l0.length l0) (hc0 : l0.length ≤ c0) (h : tickingref01_Area.f k l0 = some r) :
  Calls Try.prog 22 #[.slice A0 l0.length c0] w fun e w' => e = .returned (.int .i64 r) ∧ Below w.heap.size w w' := by
 have HR0 := Aside0.mk hr0
 have HC0 := Aside0.mk hc0
 clear hr0 hc0
 have HB := Aside0.mk (Below.refl w.heap.size w)
 have H : ((tickingref01_lines.f k l0 true).bind fun t266 => ((tickingref01_lines.f k l0 false).bind fun t269 => (tickingref01_Area.l0 k l0 t266 t269 0 0))) = some r := h
 clear h
 replace H := Option.bind_eq_some_iff.mp H
 obtain ⟨t266, A20, H⟩ := H
 replace H : ((tickingref01_lines.f k l0 false).bind fun t269 => (tickingref01_Area.l0 k l0 t266 t269 0 0)) = some r := H
 have A2 := Aside0.mk A20
 clear A20
 replace H := Option.bind_eq_some_iff.mp H
 obtain ⟨t269, A30, H⟩ := H
 replace H : (tickingref01_Area.l0 k l0 t266 t269 0 0) = some r := H
 have A3 := Aside0.mk A30
 clear A30
 have H' := Aside0.mk H
 clear H
 go_enter Try.func22, Try.ntmps22
 go_wp2_with (first | (go_at_call 51; (with_reducible refine (tickingref01_lines.calls k _ _ l0 true t266 _ ?side1 ?side2 A2.out).mono ?_); (case side1 => repeat (first | exact HR0.out | (with_reducible refine Kd.C_alloc ?_ _) | (with_reducible refine Kd.C_drewN ?_ _) | (with_reducible refine Kd.C_drew ?_))); (case side2 => exact HC0.out); rintro e w4 ⟨v267, rfl, ho0, hb⟩; have n0_ := Aside0.mk (Kd.R_lower ho0 (below_size HBz)); have n1_ := Aside0.mk (below_step HBz hb); clear HB; have HO268 := n0_; have HB := n1_; clear n0_ n1_; (try clear hb); (try clear hb2); (try clear hk); (try clear hi); (try clear ho0)) | (go_at_call 51; (with_reducible refine (tickingref01_lines.calls k _ _ l0 false t269 _ ?side1 ?side2 A3.out).mono ?_); (case side1 => repeat (first | exact (Kd.C_below HR0.out HB.out) | (with_reducible refine Kd.C_alloc ?_ _) | (with_reducible refine Kd.C_drewN ?_ _) | (with_reducible refine Kd.C_drew ?_))); (case side2 => exact HC0.out); rintro e w5 ⟨v270, rfl, ho0, hb⟩; have n0_ := Aside0.mk (Kd.R_elder' (by (with_reducible repeat (first | apply Kd.R_alloc | apply Kd.R_drewN | apply Kd.R_drew)); exact HO268.out) (Kd.R_base ho0) hb); have n1_ := Aside0.mk (Kd.R_lower (Kd.R_new' ho0 (Kd.R_lt (by (with_reducible repeat (first | apply Kd.R_alloc | apply Kd.R_drewN | apply Kd.R_drew)); exact HO268.out))) (below_size HBz)); have n2_ := Aside0.mk (below_step HBz hb); clear HO268; clear HB; have HO268 := n0_; have HO271 := n1_; have HB := n2_; clear n0_ n1_ n2_; (try clear hb); (try clear hb2); (try clear hk); (try clear hi); (try clear ho0)))
 repeat (go_quiet (first | (go_at_call 51; (with_reducible refine (tickingref01_lines.calls k _ _ l0 true t266 _ ?side1 ?side2 A2.out).mono ?_); (case side1 => repeat (first | exact HR0.out | (with_reducible refine Kd.C_alloc ?_ _) | (with_reducible refine Kd.C_drewN ?_ _) | (with_reducible refine Kd.C_drew ?_))); (case side2 => exact HC0.out); rintro e w4 ⟨v267, rfl, ho0, hb⟩; have n0_ := Aside0.mk (Kd.R_lower ho0 (below_size HBz)); have n1_ := Aside0.mk (below_step HBz hb); clear HB; have HO268 := n0_; have HB := n1_; clear n0_ n1_; (try clear hb); (try clear hb2); (try clear hk); (try clear hi); (try clear ho0)) | (go_at_call 51; (with_reducible refine (tickingref01_lines.calls k _ _ l0 false t269 _ ?side1 ?side2 A3.out).mono ?_); (case side1 => repeat (first | exact (Kd.C_below HR0.out HB.out) | (with_reducible refine Kd.C_alloc ?_ _) | (with_reducible refine Kd.C_drewN ?_ _) | (with_reducible refine Kd.C_drew ?_))); (case side2 => exact HC0.out); rintro e w5 ⟨v270, rfl, ho0, hb⟩; have n0_ := Aside0.mk (Kd.R_elder' (by (with_reducible repeat (first | apply Kd.R_alloc | apply Kd.R_drewN | apply Kd.R_drew)); exact HO268.out) (Kd.R_base ho0) hb); have n1_ := Aside0.mk (Kd.R_lower (Kd.R_new' ho0 (Kd.R_lt (by (with_reducible repeat (first | apply Kd.R_alloc | apply Kd.R_drewN | apply Kd.R_drew)); exact HO268.out))) (below_size HBz)); have n2_ := Aside0.mk (below_step HBz hb); clear HO268; clear HB; have HO268 := n0_; have HO271 := n1_; have HB := n2_; clear n0_ n1_ n2_; (try clear hb); (try clear hb2); (try clear hk); (try clear hi); (try clear ho0))); try go_wp2_with (first | (go_at_call 51; (with_reducible refine (tickingref01_lines.calls k _ _ l0 true t266 _ ?side1 ?side2 A2.out).mono ?_); (case side1 => repeat (first | exact HR0.out | (with_reducible refine Kd.C_alloc ?_ _) | (with_reducible refine Kd.C_drewN ?_ _) | (with_reducible refine Kd.C_drew ?_))); (case side2 => exact HC0.out); rintro e w4 ⟨v267, rfl, ho0, hb⟩; have n0_ := Aside0.mk (Kd.R_lower ho0 (below_size HBz)); have n1_ := Aside0.mk (below_step HBz hb); clear HB; have HO268 := n0_; have HB := n1_; clear n0_ n1_; (try clear hb); (try clear hb2); (try clear hk); (try clear hi); (try clear ho0)) | (go_at_call 51; (with_reducible refine (tickingref01_lines.calls k _ _ l0 false t269 _ ?side1 ?side2 A3.out).mono ?_); (case side1 => repeat (first | exact (Kd.C_below HR0.out HB.out) | (with_reducible refine Kd.C_alloc ?_ _) | (with_reducible refine Kd.C_drewN ?_ _) | (with_reducible refine Kd.C_drew ?_))); (case side2 => exact HC0.out); rintro e w5 ⟨v270, rfl, ho0, hb⟩; have n0_ := Aside0.mk (Kd.R_elder' (by (with_reducible repeat (first | apply Kd.R_alloc | apply Kd.R_drewN | apply Kd.R_drew)); exact HO268.out) (Kd.R_base ho0) hb); have n1_ := Aside0.mk (Kd.R_lower (Kd.R_new' ho0 (Kd.R_lt (by (with_reducible repeat (first | apply Kd.R_alloc | apply Kd.R_drewN | apply Kd.R_drew)); exact HO268.out))) (below_size HBz)); have n2_ := Aside0.mk (below_step HBz hb); clear HO268; clear HB; have HO268 := n0_; have HO271 := n1_; have HB := n2_; clear n0_ n1_ n2_; (try clear hb); (try clear hb2); (try clear hk); (try clear hi); (try clear ho0))))
 go_loopg [5, 6] k (fun kq v5 v6 w' => ∃ (x5_1 : Int) (x6_1 : Int), v5 = .int .i64 x5_1 ∧ v6 = .int .i64 x6_1 ∧ Aside0 (tickingref01_Area.l0 kq l0 t266 t269 x5_1 x6_1 = some r) ∧ Aside0 (kq ≤ k) ∧ Aside0 (Kd.R (Kd.int .i64) 3 w' w.heap.size (fun k_ => some k_ ≠ (v270 : Value).ownBlock) v267 t266) ∧ Aside0 (Kd.R (Kd.int .i64) 3 w' w.heap.size (fun k_ => some k_ ≠ (v267 : Value).ownBlock) v270 t269) ∧ Aside0 (Below w.heap.size w w'))
 case atStart => exact ⟨(0), (0), (by first | rfl | (simp; done) | (simp [*]; done)), (by first | rfl | (simp; done) | (simp [*]; done)), H', ⟨Nat.le_refl _⟩, ⟨by (with_reducible repeat (first | apply Kd.R_alloc | apply Kd.R_drewN | apply Kd.R_drew)); exact Kd.R_mono HO268.out (fun _ hk => hk.2)⟩, ⟨by (with_reducible repeat (first | apply Kd.R_alloc | apply Kd.R_drewN | apply Kd.R_drew)); exact Kd.R_mono HO271.out (fun _ hk => hk.2)⟩, ⟨HBz⟩⟩
 case round =>
  clear H'
  try clear c2
  try clear p2
  obtain ⟨x5_1, x6_1, rfl, rfl, HA, HK1, HO_3, HO_4, HB⟩ := hrel
  cases gk with
  | zero => exact absurd HA.out (by simp [tickingref01_Area.l0])
  | succ k1 =>
   have H := HA.out
   clear HA
   simp only [tickingref01_Area.l0] at H
   by_cases c6 : (wrap64 (x6_1 + 1)) < (t266.length : Int)
   ·rw [if_pos c6] at H
    have c6b0 : decide ((wrap64 (x6_1 + 1)) < (t266.length : Int)) = true := decide_eq_true c6
    clear c6
    have H' := Aside0.mk H
    clear H
    obtain ⟨Ao7, co7, eo7⟩ := Kd.R_slice HO_3.out
    subst eo7
    go_wp2
    repeat (go_quiet (fail); try go_wp2)
    go_loopg [5, 7] k1 (fun kq v5 v7 w' => ∃ (x5_2 : Int) (x7_2 : Int), v5 = .int .i64 x5_2 ∧ v7 = .int .i64 x7_2 ∧ Aside0 (tickingref01_Area.l1 kq l0 t266 t269 x5_2 x6_1 x7_2 = some r) ∧ Aside0 (kq ≤ k1) ∧ Aside0 (Kd.R (Kd.int .i64) 3 w' w.heap.size (fun k_ => some k_ ≠ (v270 : Value).ownBlock) (.slice Ao7 t266.length co7) t266) ∧ Aside0 (Kd.R (Kd.int .i64) 3 w' w.heap.size (fun k_ => some k_ ≠ ((.slice Ao7 t266.length co7) : Value).ownBlock) v270 t269) ∧ Aside0 (Below w.heap.size w w'))
    case atStart => exact ⟨(x5_1), (0), (by first | rfl | (simp; done) | (simp [*]; done)), (by first | rfl | (simp; done) | (simp [*]; done)), H', ⟨Nat.le_refl _⟩, ⟨by (with_reducible repeat (first | apply Kd.R_alloc | apply Kd.R_drewN | apply Kd.R_drew)); exact HO_3.out⟩, ⟨by (with_reducible repeat (first | apply Kd.R_alloc | apply Kd.R_drewN | apply Kd.R_drew)); exact HO_4.out⟩, ⟨HBz⟩⟩
    case round =>
     clear H'
     try clear c2
     try clear p2
     try clear c6
     try clear c6b0
     try clear p6
     try clear p2
     obtain ⟨x5_2, x7_2, rfl, rfl, HA, HK2, HO_3, HO_4, HB⟩ := hrel
     cases gk with
     | zero => exact absurd HA.out (by simp [tickingref01_Area.l1])
     | succ k2 =>
      have H := HA.out
      clear HA
      simp only [tickingref01_Area.l1] at H
      by_cases c8 : (wrap64 (x7_2 + 1)) < (t269.length : Int)
      ·rw [if_pos c8] at H
       have c8b0 : decide ((wrap64 (x7_2 + 1)) < (t269.length : Int)) = true := decide_eq_true c8
       clear c8
       by_cases c9 : 0 ≤ x6_1
       ·rw [if_pos c9] at H
        have c9b0 : decide (0 ≤ x6_1) = true := decide_eq_true c9
        clear c9
        by_cases c10 : x6_1 < (t266.length : Int)
        ·rw [if_pos c10] at H
         have c10b0 : decide (x6_1 < (t266.length : Int)) = true := decide_eq_true c10
         clear c10
         by_cases c11 : 0 ≤ x7_2
         ·rw [if_pos c11] at H
          have c11b0 : decide (0 ≤ x7_2) = true := decide_eq_true c11
          clear c11
          by_cases c12 : x7_2 < (t269.length : Int)
          ·rw [if_pos c12] at H
           have c12b0 : decide (x7_2 < (t269.length : Int)) = true := decide_eq_true c12
           clear c12
           replace H := Option.bind_eq_some_iff.mp H
           obtain ⟨t274, A130, H⟩ := H
           replace H : (if t274 > 0 then (if 0 ≤ (wrap64 (x6_1 + 1)) then (if (wrap64 (x6_1 + 1)) < (t266.length : Int) then (if 0 ≤ (wrap64 (x7_2 + 1)) then (tickingref01_Area.l1 k2 l0 t266 t269 (wrap64 (x5_2 + (wrap64 ((wrap64 ((rd t266 (wrap64 (x6_1 + 1))) - (rd t266 x6_1))) * (wrap64 ((rd t269 (wrap64 (x7_2 + 1))) - (rd t269 x7_2))))))) x6_1 (wrap64 (x7_2 + 1))) else (none)) else (none)) else (none)) else (tickingref01_Area.l1 k2 l0 t266 t269 x5_2 x6_1 (wrap64 (x7_2 + 1)))) = some r := H
           have A13 := Aside0.mk A130
           clear A130
           by_cases c14 : t274 > 0
           ·rw [if_pos c14] at H
            have c14b0 : decide (0 < t274) = true := decide_eq_true c14
            clear c14
            by_cases c15 : 0 ≤ (wrap64 (x6_1 + 1))
            ·rw [if_pos c15] at H
             have c15b0 : decide (0 ≤ (wrap64 (x6_1 + 1))) = true := decide_eq_true c15
             clear c15
             by_cases c16 : (wrap64 (x6_1 + 1)) < (t266.length : Int)
             ·rw [if_pos c16] at H
              have c16b0 : decide ((wrap64 (x6_1 + 1)) < (t266.length : Int)) = true := decide_eq_true c16
              clear c16
              by_cases c17 : 0 ≤ (wrap64 (x7_2 + 1))
              ·rw [if_pos c17] at H
               have c17b0 : decide (0 ≤ (wrap64 (x7_2 + 1))) = true := decide_eq_true c17
               clear c17
               have H' := Aside0.mk H
               clear H
               obtain ⟨Ao18, co18, eo18⟩ := Kd.R_slice HO_4.out
               subst eo18
               have p272 : 0 ≤ (x6_1 : Int) := of_decide_eq_true (by first | (with_reducible assumption) | assumption)
               have q272 : x6_1 < (t266.length : Int) := of_decide_eq_true (by first | (with_reducible assumption) | assumption)
               obtain ⟨ad272, e272, hx272_0⟩ := Kd.at_int (Kd.R_reads' HO_3.out).2.2 x6_1 p272 q272
               cases e272
               replace p272 := eq_true p272
               replace q272 := eq_true q272
               have p273 : 0 ≤ (x7_2 : Int) := of_decide_eq_true (by first | (with_reducible assumption) | assumption)
               have q273 : x7_2 < (t269.length : Int) := of_decide_eq_true (by first | (with_reducible assumption) | assumption)
               obtain ⟨ad273, e273, hx273_0⟩ := Kd.at_int (Kd.R_reads' HO_4.out).2.2 x7_2 p273 q273
               cases e273
               replace p273 := eq_true p273
               replace q273 := eq_true q273
               go_wp2_with (first | (go_at_call 30; (with_reducible refine (tickingref01_Depth.calls k2 _ _ l0 (rd t266 x6_1) (rd t269 x7_2) t274 _ ?side1 ?side2 A13.out).mono ?_); (case side1 => repeat (first | exact (Kd.C_below HR0.out HB.out) | (with_reducible refine Kd.C_alloc ?_ _) | (with_reducible refine Kd.C_drewN ?_ _) | (with_reducible refine Kd.C_drew ?_))); (case side2 => exact HC0.out); rintro e w' ⟨rfl, ⟨nd, rfl⟩⟩; (try first | exact ⟨rfl, _, World.drewN_drewN _ _ _⟩ | exact ⟨rfl, _, Eq.trans (World.drewN_drewN _ _ _) (congrArg (World.drewN _) (Nat.add_assoc _ _ _))⟩); have p275 : 0 ≤ ((wrap64 (x6_1 + 1)) : Int) := of_decide_eq_true (by first | (with_reducible assumption) | assumption); have q275 : (wrap64 (x6_1 + 1)) < (t266.length : Int) := of_decide_eq_true (by first | (with_reducible assumption) | assumption); obtain ⟨ad275, e275, hx275_0⟩ := Kd.at_int (Kd.R_reads' HO_3.out).2.2 (wrap64 (x6_1 + 1)) p275 q275; obtain rfl : ad272 = ad275 := (by injection e275); replace p275 := eq_true p275; replace q275 := eq_true q275; have p276 : 0 ≤ (x6_1 : Int) := of_decide_eq_true (by first | (with_reducible assumption) | assumption); have q276 : x6_1 < (t266.length : Int) := of_decide_eq_true (by first | (with_reducible assumption) | assumption); obtain ⟨ad276, e276, hx276_0⟩ := Kd.at_int (Kd.R_reads' HO_3.out).2.2 x6_1 p276 q276; obtain rfl : ad272 = ad276 := (by injection e276); replace p276 := eq_true p276; replace q276 := eq_true q276; have p277 : 0 ≤ ((wrap64 (x7_2 + 1)) : Int) := of_decide_eq_true (by first | (with_reducible assumption) | assumption); have q277 : (wrap64 (x7_2 + 1)) < (t269.length : Int) := of_decide_eq_true (by first | (with_reducible assumption) | assumption); obtain ⟨ad277, e277, hx277_0⟩ := Kd.at_int (Kd.R_reads' HO_4.out).2.2 (wrap64 (x7_2 + 1)) p277 q277; obtain rfl : ad273 = ad277 := (by injection e277); replace p277 := eq_true p277; replace q277 := eq_true q277; have p278 : 0 ≤ (x7_2 : Int) := of_decide_eq_true (by first | (with_reducible assumption) | assumption); have q278 : x7_2 < (t269.length : Int) := of_decide_eq_true (by first | (with_reducible assumption) | assumption); obtain ⟨ad278, e278, hx278_0⟩ := Kd.at_int (Kd.R_reads' HO_4.out).2.2 x7_2 p278 q278; obtain rfl : ad273 = ad278 := (by injection e278); replace p278 := eq_true p278; replace q278 := eq_true q278))
               repeat (go_quiet (first | (go_at_call 30; (with_reducible refine (tickingref01_Depth.calls k2 _ _ l0 (rd t266 x6_1) (rd t269 x7_2) t274 _ ?side1 ?side2 A13.out).mono ?_); (case side1 => repeat (first | exact (Kd.C_below HR0.out HB.out) | (with_reducible refine Kd.C_alloc ?_ _) | (with_reducible refine Kd.C_drewN ?_ _) | (with_reducible refine Kd.C_drew ?_))); (case side2 => exact HC0.out); rintro e w' ⟨rfl, ⟨nd, rfl⟩⟩; (try first | exact ⟨rfl, _, World.drewN_drewN _ _ _⟩ | exact ⟨rfl, _, Eq.trans (World.drewN_drewN _ _ _) (congrArg (World.drewN _) (Nat.add_assoc _ _ _))⟩); have p275 : 0 ≤ ((wrap64 (x6_1 + 1)) : Int) := of_decide_eq_true (by first | (with_reducible assumption) | assumption); have q275 : (wrap64 (x6_1 + 1)) < (t266.length : Int) := of_decide_eq_true (by first | (with_reducible assumption) | assumption); obtain ⟨ad275, e275, hx275_0⟩ := Kd.at_int (Kd.R_reads' HO_3.out).2.2 (wrap64 (x6_1 + 1)) p275 q275; obtain rfl : ad272 = ad275 := (by injection e275); replace p275 := eq_true p275; replace q275 := eq_true q275; have p276 : 0 ≤ (x6_1 : Int) := of_decide_eq_true (by first | (with_reducible assumption) | assumption); have q276 : x6_1 < (t266.length : Int) := of_decide_eq_true (by first | (with_reducible assumption) | assumption); obtain ⟨ad276, e276, hx276_0⟩ := Kd.at_int (Kd.R_reads' HO_3.out).2.2 x6_1 p276 q276; obtain rfl : ad272 = ad276 := (by injection e276); replace p276 := eq_true p276; replace q276 := eq_true q276; have p277 : 0 ≤ ((wrap64 (x7_2 + 1)) : Int) := of_decide_eq_true (by first | (with_reducible assumption) | assumption); have q277 : (wrap64 (x7_2 + 1)) < (t269.length : Int) := of_decide_eq_true (by first | (with_reducible assumption) | assumption); obtain ⟨ad277, e277, hx277_0⟩ := Kd.at_int (Kd.R_reads' HO_4.out).2.2 (wrap64 (x7_2 + 1)) p277 q277; obtain rfl : ad273 = ad277 := (by injection e277); replace p277 := eq_true p277; replace q277 := eq_true q277; have p278 : 0 ≤ (x7_2 : Int) := of_decide_eq_true (by first | (with_reducible assumption) | assumption); have q278 : x7_2 < (t269.length : Int) := of_decide_eq_true (by first | (with_reducible assumption) | assumption); obtain ⟨ad278, e278, hx278_0⟩ := Kd.at_int (Kd.R_reads' HO_4.out).2.2 x7_2 p278 q278; obtain rfl : ad273 = ad278 := (by injection e278); replace p278 := eq_true p278; replace q278 := eq_true q278)); try go_wp2_with (first | (go_at_call 30; (with_reducible refine (tickingref01_Depth.calls k2 _ _ l0 (rd t266 x6_1) (rd t269 x7_2) t274 _ ?side1 ?side2 A13.out).mono ?_); (case side1 => repeat (first | exact (Kd.C_below HR0.out HB.out) | (with_reducible refine Kd.C_alloc ?_ _) | (with_reducible refine Kd.C_drewN ?_ _) | (with_reducible refine Kd.C_drew ?_))); (case side2 => exact HC0.out); rintro e w' ⟨rfl, ⟨nd, rfl⟩⟩; (try first | exact ⟨rfl, _, World.drewN_drewN _ _ _⟩ | exact ⟨rfl, _, Eq.trans (World.drewN_drewN _ _ _) (congrArg (World.drewN _) (Nat.add_assoc _ _ _))⟩); have p275 : 0 ≤ ((wrap64 (x6_1 + 1)) : Int) := of_decide_eq_true (by first | (with_reducible assumption) | assumption); have q275 : (wrap64 (x6_1 + 1)) < (t266.length : Int) := of_decide_eq_true (by first | (with_reducible assumption) | assumption); obtain ⟨ad275, e275, hx275_0⟩ := Kd.at_int (Kd.R_reads' HO_3.out).2.2 (wrap64 (x6_1 + 1)) p275 q275; obtain rfl : ad272 = ad275 := (by injection e275); replace p275 := eq_true p275; replace q275 := eq_true q275; have p276 : 0 ≤ (x6_1 : Int) := of_decide_eq_true (by first | (with_reducible assumption) | assumption); have q276 : x6_1 < (t266.length : Int) := of_decide_eq_true (by first | (with_reducible assumption) | assumption); obtain ⟨ad276, e276, hx276_0⟩ := Kd.at_int (Kd.R_reads' HO_3.out).2.2 x6_1 p276 q276; obtain rfl : ad272 = ad276 := (by injection e276); replace p276 := eq_true p276; replace q276 := eq_true q276; have p277 : 0 ≤ ((wrap64 (x7_2 + 1)) : Int) := of_decide_eq_true (by first | (with_reducible assumption) | assumption); have q277 : (wrap64 (x7_2 + 1)) < (t269.length : Int) := of_decide_eq_true (by first | (with_reducible assumption) | assumption); obtain ⟨ad277, e277, hx277_0⟩ := Kd.at_int (Kd.R_reads' HO_4.out).2.2 (wrap64 (x7_2 + 1)) p277 q277; obtain rfl : ad273 = ad277 := (by injection e277); replace p277 := eq_true p277; replace q277 := eq_true q277; have p278 : 0 ≤ (x7_2 : Int) := of_decide_eq_true (by first | (with_reducible assumption) | assumption); have q278 : x7_2 < (t269.length : Int) := of_decide_eq_true (by first | (with_reducible assumption) | assumption); obtain ⟨ad278, e278, hx278_0⟩ := Kd.at_int (Kd.R_reads' HO_4.out).2.2 x7_2 p278 q278; obtain rfl : ad273 = ad278 := (by injection e278); replace p278 := eq_true p278; replace q278 := eq_true q278)))
               go_roundg k2
               case measure => have := HK1.out; have := HK2.out; omega
               case rel => exact ⟨(wrap64 (x5_2 + (wrap64 ((wrap64 ((rd t266 (wrap64 (x6_1 + 1))) - (rd t266 x6_1))) * (wrap64 ((rd t269 (wrap64 (x7_2 + 1))) - (rd t269 x7_2))))))), (wrap64 (x7_2 + 1)), (by first | rfl | (simp; done) | (simp [*]; done)), (by first | rfl | (simp; done) | (simp [*]; done)), H', ⟨by have := HK1.out; have := HK2.out; omega⟩, ⟨by (with_reducible repeat (first | apply Kd.R_alloc | apply Kd.R_drewN | apply Kd.R_drew)); exact HO_3.out⟩, ⟨by (with_reducible repeat (first | apply Kd.R_alloc | apply Kd.R_drewN | apply Kd.R_drew)); exact HO_4.out⟩, ⟨HBz⟩⟩
              ·rw [if_neg c17] at H
               exact absurd H (by simp)
             ·rw [if_neg c16] at H
              exact absurd H (by simp)
            ·rw [if_neg c15] at H
             exact absurd H (by simp)
           ·rw [if_neg c14] at H
            have c14b0 : decide (0 < t274) = false := decide_eq_false c14
            clear c14
            have H' := Aside0.mk H
            clear H
            obtain ⟨Ao19, co19, eo19⟩ := Kd.R_slice HO_4.out
            subst eo19
            have p272 : 0 ≤ (x6_1 : Int) := of_decide_eq_true (by first | (with_reducible assumption) | assumption)
            have q272 : x6_1 < (t266.length : Int) := of_decide_eq_true (by first | (with_reducible assumption) | assumption)
            obtain ⟨ad272, e272, hx272_0⟩ := Kd.at_int (Kd.R_reads' HO_3.out).2.2 x6_1 p272 q272
            cases e272
            replace p272 := eq_true p272
            replace q272 := eq_true q272
            have p273 : 0 ≤ (x7_2 : Int) := of_decide_eq_true (by first | (with_reducible assumption) | assumption)
            have q273 : x7_2 < (t269.length : Int) := of_decide_eq_true (by first | (with_reducible assumption) | assumption)
            obtain ⟨ad273, e273, hx273_0⟩ := Kd.at_int (Kd.R_reads' HO_4.out).2.2 x7_2 p273 q273
            cases e273
            replace p273 := eq_true p273
            replace q273 := eq_true q273
            go_wp2_with (first | (go_at_call 30; (with_reducible refine (tickingref01_Depth.calls k2 _ _ l0 (rd t266 x6_1) (rd t269 x7_2) t274 _ ?side1 ?side2 A13.out).mono ?_); (case side1 => repeat (first | exact (Kd.C_below HR0.out HB.out) | (with_reducible refine Kd.C_alloc ?_ _) | (with_reducible refine Kd.C_drewN ?_ _) | (with_reducible refine Kd.C_drew ?_))); (case side2 => exact HC0.out); rintro e w' ⟨rfl, ⟨nd, rfl⟩⟩; (try first | exact ⟨rfl, _, World.drewN_drewN _ _ _⟩ | exact ⟨rfl, _, Eq.trans (World.drewN_drewN _ _ _) (congrArg (World.drewN _) (Nat.add_assoc _ _ _))⟩)))
            repeat (go_quiet (first | (go_at_call 30; (with_reducible refine (tickingref01_Depth.calls k2 _ _ l0 (rd t266 x6_1) (rd t269 x7_2) t274 _ ?side1 ?side2 A13.out).mono ?_); (case side1 => repeat (first | exact (Kd.C_below HR0.out HB.out) | (with_reducible refine Kd.C_alloc ?_ _) | (with_reducible refine Kd.C_drewN ?_ _) | (with_reducible refine Kd.C_drew ?_))); (case side2 => exact HC0.out); rintro e w' ⟨rfl, ⟨nd, rfl⟩⟩; (try first | exact ⟨rfl, _, World.drewN_drewN _ _ _⟩ | exact ⟨rfl, _, Eq.trans (World.drewN_drewN _ _ _) (congrArg (World.drewN _) (Nat.add_assoc _ _ _))⟩))); try go_wp2_with (first | (go_at_call 30; (with_reducible refine (tickingref01_Depth.calls k2 _ _ l0 (rd t266 x6_1) (rd t269 x7_2) t274 _ ?side1 ?side2 A13.out).mono ?_); (case side1 => repeat (first | exact (Kd.C_below HR0.out HB.out) | (with_reducible refine Kd.C_alloc ?_ _) | (with_reducible refine Kd.C_drewN ?_ _) | (with_reducible refine Kd.C_drew ?_))); (case side2 => exact HC0.out); rintro e w' ⟨rfl, ⟨nd, rfl⟩⟩; (try first | exact ⟨rfl, _, World.drewN_drewN _ _ _⟩ | exact ⟨rfl, _, Eq.trans (World.drewN_drewN _ _ _) (congrArg (World.drewN _) (Nat.add_assoc _ _ _))⟩))))
            go_roundg k2
            case measure => have := HK1.out; have := HK2.out; omega
            case rel => exact ⟨(x5_2), (wrap64 (x7_2 + 1)), (by first | rfl | (simp; done) | (simp [*]; done)), (by first | rfl | (simp; done) | (simp [*]; done)), H', ⟨by have := HK1.out; have := HK2.out; omega⟩, ⟨by (with_reducible repeat (first | apply Kd.R_alloc | apply Kd.R_drewN | apply Kd.R_drew)); exact HO_3.out⟩, ⟨by (with_reducible repeat (first | apply Kd.R_alloc | apply Kd.R_drewN | apply Kd.R_drew)); exact HO_4.out⟩, ⟨HBz⟩⟩
          ·rw [if_neg c12] at H
           exact absurd H (by simp)
         ·rw [if_neg c11] at H
          exact absurd H (by simp)
        ·rw [if_neg c10] at H
         exact absurd H (by simp)
       ·rw [if_neg c9] at H
        exact absurd H (by simp)
      ·rw [if_neg c8] at H
       have c8b0 : decide ((wrap64 (x7_2 + 1)) < (t269.length : Int)) = false := decide_eq_false c8
       clear c8
       have H' := Aside0.mk H
       clear H
       obtain ⟨Ao20, co20, eo20⟩ := Kd.R_slice HO_4.out
       subst eo20
       go_wp2
       repeat (go_quiet (fail); try go_wp2)
       go_roundg k2
       case measure => have := HK1.out; have := HK2.out; omega
       case rel => exact ⟨(x5_2), (wrap64 (x6_1 + 1)), (by first | rfl | (simp; done) | (simp [*]; done)), (by first | rfl | (simp; done) | (simp [*]; done)), H', ⟨by have := HK1.out; have := HK2.out; omega⟩, ⟨by (with_reducible repeat (first | apply Kd.R_alloc | apply Kd.R_drewN | apply Kd.R_drew)); exact HO_3.out⟩, ⟨by (with_reducible repeat (first | apply Kd.R_alloc | apply Kd.R_drewN | apply Kd.R_drew)); exact HO_4.out⟩, ⟨HBz⟩⟩
   ·rw [if_neg c6] at H
    have c6b0 : decide ((wrap64 (x6_1 + 1)) < (t266.length : Int)) = false := decide_eq_false c6
    clear c6
    obtain rfl := Option.some.inj H
    obtain ⟨Ao21, co21, eo21⟩ := Kd.R_slice HO_3.out
    subst eo21
    go_wp2
    repeat (go_quiet (fail); try go_wp2)
    go_ret
    exact ⟨by first | rfl | (simp [errW_none, errW_some] <;> rfl) | (simp [*, errW_none, errW_some] <;> rfl), HBz⟩
end Go.Proofs.Ytplhfbkejngioaa.X
namespace Go.Proofs.Ytplhfbkejngioaa.X
open Go.RowKit Go.Proofs.YtplhfbkejngioaaW.PrintWords Go.Proofs.YtplhfbkejngioaaW.PrintLast Go.Proofs.Ytplhfbkejngioaa.S
attribute [local go_sem] max2_int min2_int max_two min_two
set_option linter.unusedVariables false
set_option linter.unusedSimpArgs false
end Go.Proofs.Ytplhfbkejngioaa.X
namespace Go.Proofs.Ytplhfbkejngioaa.X
open Go.RowKit Go.Proofs.YtplhfbkejngioaaW.PrintWords Go.Proofs.YtplhfbkejngioaaW.PrintLast Go.Proofs.Ytplhfbkejngioaa.S
attribute [local go_sem] max2_int min2_int max_two min_two
set_option linter.unusedVariables false
set_option linter.unusedSimpArgs false
end Go.Proofs.Ytplhfbkejngioaa.X
namespace Go.Proofs.Ytplhfbkejngioaa.X
open Go.RowKit Go.Proofs.YtplhfbkejngioaaW.PrintWords Go.Proofs.YtplhfbkejngioaaW.PrintLast Go.Proofs.Ytplhfbkejngioaa.S
attribute [local go_sem] max2_int min2_int max_two min_two
set_option linter.unusedVariables false
set_option linter.unusedSimpArgs false
attribute [local go_sem high] eqA28
def tickinglaw01_mod.f (a0 : Int) (a1 : Int) : Option (Int) := if (IntKind.u64.wrap (a1)) = 0 then (none) else (some (wrap64 (Int.tmod (IntKind.u64.wrap (a0)) (IntKind.u64.wrap (a1)))))
set_option maxHeartbeats 8000000 in
set_option maxRecDepth 100000 in
theorem tickinglaw01_mod.calls (a0 : Int) (a1 : Int) (r : Int) (w : World) (h : tickinglaw01_mod.f a0 a1 = some r) :
  Calls Try.prog 29 #[.int .i64 a0, .int .i64 a1] w fun e w' => e = .returned (.int .i64 r) ∧ Drawn0 w w' := by
 have H : (if (IntKind.u64.wrap (a1)) = 0 then (none) else (some (wrap64 (Int.tmod (IntKind.u64.wrap (a0)) (IntKind.u64.wrap (a1)))))) = some r := h
 clear h
 by_cases c3 : (IntKind.u64.wrap (a1)) = 0
 ·rw [if_pos c3] at H
  exact absurd H (by simp)
 ·rw [if_neg c3] at H
  have c3b0 : ((IntKind.u64.wrap (a1)) == 0) = false := beq_eq_false_iff_ne.mpr c3
  have c3b1 : ((IntKind.u64.wrap (a1)) != 0) = true := bne_iff_ne.mpr c3
  obtain rfl := Option.some.inj H
  go_enter Try.func29, Try.ntmps29
  go_wp2
  go_ret
  exact ⟨by first | rfl | (simp; done) | (simp [*]; done), by repeat (first | exact Drawn0.refl _ | apply Drawn0.step)⟩
def tickinglaw01_near.f (a0 : Int) (a1 : Int) : Option (Int) := if a0 < (wrap64 (-a1)) then ((tickinglaw01_mod.f a0 (wrap64 ((wrap64 (2 * a1)) + 1))).bind fun t342 => (some (wrap64 (t342 - a1)))) else (if a0 > a1 then ((tickinglaw01_mod.f a0 (wrap64 ((wrap64 (2 * a1)) + 1))).bind fun t343 => (some (wrap64 (t343 - a1)))) else (some a0))
set_option maxHeartbeats 8000000 in
set_option maxRecDepth 100000 in
theorem tickinglaw01_near.calls (a0 : Int) (a1 : Int) (r : Int) (w : World) (h : tickinglaw01_near.f a0 a1 = some r) :
  Calls Try.prog 35 #[.int .i64 a0, .int .i64 a1] w fun e w' => e = .returned (.int .i64 r) ∧ Drawn0 w w' := by
 have H : (if a0 < (wrap64 (-a1)) then ((tickinglaw01_mod.f a0 (wrap64 ((wrap64 (2 * a1)) + 1))).bind fun t342 => (some (wrap64 (t342 - a1)))) else (if a0 > a1 then ((tickinglaw01_mod.f a0 (wrap64 ((wrap64 (2 * a1)) + 1))).bind fun t343 => (some (wrap64 (t343 - a1)))) else (some a0))) = some r := h
 clear h
 by_cases c3 : a0 < (wrap64 (-a1))
 ·rw [if_pos c3] at H
  have c3b0 : decide (a0 < (wrap64 (-a1))) = true := decide_eq_true c3
  clear c3
  replace H := Option.bind_eq_some_iff.mp H
  obtain ⟨t342, A40, H⟩ := H
  replace H : (some (wrap64 (t342 - a1))) = some r := H
  have A4 := Aside0.mk A40
  clear A40
  obtain rfl := Option.some.inj H
  go_enter Try.func35, Try.ntmps35
  go_wp2_with (first | ((with_reducible refine gate_callee (f := 29) rfl ?_); refine goesL_ (some 18) rfl rfl Try.func29 (by kernel_rfl) rfl #[.int .i64 a0, .int .i64 (wrap64 ((wrap64 (2 * a1)) + 1))] rfl (by (try simp only [List.map_toArray, List.map_cons, List.map_nil]); first | done | rfl | (simp only [List.length_drop, List.length_take]; rfl)) ?_; (with_reducible refine (tickinglaw01_mod.calls a0 (wrap64 ((wrap64 (2 * a1)) + 1)) t342 _ A4.out).mono ?_); rintro e w' ⟨rfl, ⟨nd, rfl⟩⟩; refine ⟨_, rfl, ?_⟩))
  go_ret
  exact ⟨by first | rfl | (simp; done) | (simp [*]; done), by repeat (first | exact Drawn0.refl _ | apply Drawn0.step)⟩
 ·rw [if_neg c3] at H
  have c3b0 : decide (a0 < (wrap64 (-a1))) = false := decide_eq_false c3
  clear c3
  by_cases c5 : a0 > a1
  ·rw [if_pos c5] at H
   have c5b0 : decide (a1 < a0) = true := decide_eq_true c5
   clear c5
   replace H := Option.bind_eq_some_iff.mp H
   obtain ⟨t343, A60, H⟩ := H
   replace H : (some (wrap64 (t343 - a1))) = some r := H
   have A6 := Aside0.mk A60
   clear A60
   obtain rfl := Option.some.inj H
   go_enter Try.func35, Try.ntmps35
   go_wp2_with (first | ((with_reducible refine gate_callee (f := 29) rfl ?_); refine goesL_ (some 18) rfl rfl Try.func29 (by kernel_rfl) rfl #[.int .i64 a0, .int .i64 (wrap64 ((wrap64 (2 * a1)) + 1))] rfl (by (try simp only [List.map_toArray, List.map_cons, List.map_nil]); first | done | rfl | (simp only [List.length_drop, List.length_take]; rfl)) ?_; (with_reducible refine (tickinglaw01_mod.calls a0 (wrap64 ((wrap64 (2 * a1)) + 1)) t343 _ A6.out).mono ?_); rintro e w' ⟨rfl, ⟨nd, rfl⟩⟩; refine ⟨_, rfl, ?_⟩))
   go_ret
   exact ⟨by first | rfl | (simp; done) | (simp [*]; done), by repeat (first | exact Drawn0.refl _ | apply Drawn0.step)⟩
  ·rw [if_neg c5] at H
   have c5b0 : decide (a1 < a0) = false := decide_eq_false c5
   clear c5
   obtain rfl := Option.some.inj H
   go_enter Try.func35, Try.ntmps35
   go_wp2
   go_ret
   exact ⟨by first | rfl | (simp; done) | (simp [*]; done), by repeat (first | exact Drawn0.refl _ | apply Drawn0.step)⟩
mutual
def tickinglaw01_tame.l0 : Nat → List (S28) → Int → Int → List (S28) → Int → Option ((List (S28)))
 | 0, _, _, _, _, _ => none
 | k + 1, x0, x1, x2, x7, x8 => if x8 < (x0.length : Int) then (tickinglaw01_tame.j1 k x0 x1 x2 x7 x8 (decide (x8 < x1))) else (tickinglaw01_tame.j1 k x0 x1 x2 x7 x8 false)
def tickinglaw01_tame.j1 : Nat → List (S28) → Int → Int → List (S28) → Int → Bool → Option ((List (S28)))
 | 0, _, _, _, _, _, _ => none
 | k + 1, x0, x1, x2, x7, x8, x17 => if x17 = true then (if 0 ≤ x8 then (if x8 < (x0.length : Int) then ((tickinglaw01_near.f ((rd_T28 x0 x8).f0) x2).bind fun t345 => ((tickinglaw01_near.f ((rd_T28 x0 x8).f1) x2).bind fun t347 => (if x7.length < 8796093022208 then (tickinglaw01_tame.l0 k x0 x1 x2 (x7 ++ [(⟨t345, t347⟩ : S28)]) (wrap64 (x8 + 1))) else (none)))) else (none)) else (none)) else (if (x7.length : Int) = 0 then (if x7.length < 8796093022208 then (some (x7 ++ [(⟨0, 0⟩ : S28)])) else (none)) else (some x7))
end
def tickinglaw01_tame.f (k : Nat) (l0 : List (S28)) (a1 : Int) (a2 : Int) : Option ((List (S28))) := tickinglaw01_tame.l0 k l0 a1 a2 ([] : List (S28)) 0
theorem tickinglaw01_tame.mono_l : ∀ k, (∀ y0 y1 y2 y3 y4, LeO (tickinglaw01_tame.l0 k y0 y1 y2 y3 y4) (tickinglaw01_tame.l0 (k + 1) y0 y1 y2 y3 y4)) ∧ (∀ y0 y1 y2 y3 y4 y5, LeO (tickinglaw01_tame.j1 k y0 y1 y2 y3 y4 y5) (tickinglaw01_tame.j1 (k + 1) y0 y1 y2 y3 y4 y5))
 | 0 => ⟨fun _ _ _ _ _ r h => by simp [tickinglaw01_tame.l0] at h, fun _ _ _ _ _ _ r h => by simp [tickinglaw01_tame.j1] at h⟩
 | k + 1 => by
  obtain ⟨ih0, ih1⟩ := tickinglaw01_tame.mono_l k
  refine ⟨?_, ?_⟩
  ·intro y0 y1 y2 y3 y4
   unfold tickinglaw01_tame.l0
   repeat' first
   | (with_reducible exact ih0 _ _ _ _ _)
   | (with_reducible exact ih1 _ _ _ _ _ _)
   | (with_reducible exact LeO.refl _)
   | (with_reducible exact LeO.none _)
   | (with_reducible refine LeO.ite ?_ ?_)
   | (with_reducible refine LeO.bind ?_ (fun _ => ?_))
   | exact ih0 _ _ _ _ _
   | exact ih1 _ _ _ _ _ _
   | exact LeO.none _
   | refine LeO.ite ?_ ?_
   | refine LeO.bind ?_ (fun _ => ?_)
  ·intro y0 y1 y2 y3 y4 y5
   unfold tickinglaw01_tame.j1
   repeat' first
   | (with_reducible exact ih0 _ _ _ _ _)
   | (with_reducible exact ih1 _ _ _ _ _ _)
   | (with_reducible exact LeO.refl _)
   | (with_reducible exact LeO.none _)
   | (with_reducible refine LeO.ite ?_ ?_)
   | (with_reducible refine LeO.bind ?_ (fun _ => ?_))
   | exact ih0 _ _ _ _ _
   | exact ih1 _ _ _ _ _ _
   | exact LeO.none _
   | refine LeO.ite ?_ ?_
   | refine LeO.bind ?_ (fun _ => ?_)
theorem tickinglaw01_tame.mono : ∀ a0 a1 a2 k, LeO (tickinglaw01_tame.f k a0 a1 a2) (tickinglaw01_tame.f (k + 1) a0 a1 a2) := by
 intro a0 a1 a2 k
 obtain ⟨ih0, ih1⟩ := tickinglaw01_tame.mono_l k
 unfold tickinglaw01_tame.f
 repeat' first
   | (with_reducible exact ih0 _ _ _ _ _)
   | (with_reducible exact ih1 _ _ _ _ _ _)
   | (with_reducible exact LeO.refl _)
   | (with_reducible exact LeO.none _)
   | (with_reducible refine LeO.ite ?_ ?_)
   | (with_reducible refine LeO.bind ?_ (fun _ => ?_))
   | exact ih0 _ _ _ _ _
   | exact ih1 _ _ _ _ _ _
   | exact LeO.none _
   | refine LeO.ite ?_ ?_
   | refine LeO.bind ?_ (fun _ => ?_)
def tickinglaw01_tame.T5 : Bool × List (List Nat × List Nat) := (true, [([], []), ([], []), ([], []), ([1, 2], [1, 2]), ([3], [3]), ([4], [4]), ([], []), ([5, 6], [5, 6]), ([], []), ([], []), ([8, 9], [8, 9]), ([10], [10]), ([11], [11]), ([], []), ([12, 13, 7], [12, 13]), ([7, 14], [7, 14]), ([15], [15]), ([0, 16, 14], [0, 16]), ([17, 17, 0, 1, 2, 3, 4, 5, 6, 7, 8, 9, 10, 11, 12, 13, 14, 15, 16, 17], [0, 17])])
def tickinglaw01_tame.B5 : List Nat := [0, 0, 0, 6, 14, 30, 0, 126, 0, 0, 768, 1792, 3840, 0, 16382, 32766, 65534, 131071, 262143]
theorem tickinglaw01_tame.tab5 : rtab .any (opsOf Try.f25 5) = tickinglaw01_tame.T5 := by kernel_rfl
theorem tickinglaw01_tame.bits5 : waitsOk tickinglaw01_tame.T5.2 tickinglaw01_tame.B5 = true := by kernel_rfl
set_option maxHeartbeats 8000000 in
set_option maxRecDepth 100000 in
theorem tickinglaw01_tame.calls (k : Nat) (A0 : Option Addr) (c0 : Nat) (l0 : List (S28)) (a1 : Int) (a2 : Int) (r : List (S28)) (w : World) (hr0 : Kd.C k28 w A0 l0.length l0) (hc0 : l0.length ≤ c0) (h : tickinglaw01_tame.f k l0 a1 a2 = some r) :
  Calls Try.prog 25 #[.slice A0 l0.length c0, .int .i64 a1, .int .i64 a2] w fun e w' => ∃ v0_ : Value, e = .returned (v0_) ∧ Kd.R k28 28 w' w.heap.size (fun _ => True) v0_ r ∧ Below w.heap.size w w' := by
 have hu28 := Try.underlying28
 have HR0 := Aside0.mk hr0
 have HC0 := Aside0.mk hc0
 clear hr0 hc0
 have HB := Aside0.mk (Below.refl w.heap.size w)
 have H : (tickinglaw01_tame.l0 k l0 a1 a2 ([] : List (S28)) 0) = some r := h
 clear h
 have H' := Aside0.mk H
 clear H
 go_enter Try.func25, Try.ntmps25
 go_wp2
 go_loopg [7, 8] k (fun kq v7 v8 w' => ∃ (x7_1 : List (S28)) (x8_1 : Int), v8 = .int .i64 x8_1 ∧ Aside0 (tickinglaw01_tame.l0 kq l0 a1 a2 x7_1 x8_1 = some r) ∧ Aside0 (kq ≤ k) ∧ Aside0 (Kd.R k28 28 w' w.heap.size (fun _ => True) v7 x7_1) ∧ Aside0 (Below w.heap.size w w'))
 case atStart => exact ⟨(([] : List (S28))), (0), (by first | rfl | (simp; done) | (simp [*]; done)), H', ⟨Nat.le_refl _⟩, ⟨by first | exact Kd.R_nil _ _ _ _ _ | exact Kd.N_nil _ _ _ _ _ | exact Kd.V_nil _ _ _ _ _ | exact Kd.Q_nil _ _ _ _ _ | exact Kd.S_nil _ _ _ _ _⟩, ⟨HBz⟩⟩
 case round =>
  clear H'
  try clear c2
  try clear p2
  obtain ⟨x7_1, x8_1, rfl, HA, HK1, HO_7, HB⟩ := hrel
  cases gk with
  | zero => exact absurd HA.out (by simp [tickinglaw01_tame.l0])
  | succ k1 =>
   have H := HA.out
   clear HA
   simp only [tickinglaw01_tame.l0] at H
   have HC4 := Aside0.mk H
   clear H
   go_upto_region 3 with (fail)
   go_cut [17] (fun v17 wc => ∃ (kq : Nat) (x17_3 : Bool), v17 = .bool x17_3 ∧ Aside0 (tickinglaw01_tame.j1 kq l0 a1 a2 x7_1 x8_1 x17_3 = some r) ∧ Aside0 (kq ≤ k1) ∧ Aside0 (Kd.R k28 28 wc w.heap.size (fun _ => True) u7 x7_1) ∧ Aside0 (Below w.heap.size w wc))
   case first =>
    have H := HC4.out
    clear HC4
    by_cases c5 : x8_1 < (l0.length : Int)
    ·rw [if_pos c5] at H
     have c5b0 : decide (x8_1 < (l0.length : Int)) = true := decide_eq_true c5
     clear c5
     (first | rw [c5b0] | (simp only [i64_w, i32_w]; rw [c5b0]) | skip)
     have H' := Aside0.mk H
     clear H
     go_wp2
     go_meet
     case rel => exact ⟨_, (decide (x8_1 < a1)), (by first | rfl | (simp; done) | (simp [*]; done)), H', ⟨by have := HK1.out; first | omega | exact Nat.le_refl _⟩, ⟨by (with_reducible repeat (first | apply Kd.R_alloc | apply Kd.R_drewN | apply Kd.R_drew)); exact HO_7.out⟩, ⟨HBz⟩⟩
    ·rw [if_neg c5] at H
     have c5b0 : decide (x8_1 < (l0.length : Int)) = false := decide_eq_false c5
     clear c5
     (first | rw [c5b0] | (simp only [i64_w, i32_w]; rw [c5b0]) | skip)
     have H' := Aside0.mk H
     clear H
     go_wp2
     go_meet
     case rel => exact ⟨_, (false), (by first | rfl | (simp; done) | (simp [*]; done)), H', ⟨by have := HK1.out; first | omega | exact Nat.le_refl _⟩, ⟨by (with_reducible repeat (first | apply Kd.R_alloc | apply Kd.R_drewN | apply Kd.R_drew)); exact HO_7.out⟩, ⟨HBz⟩⟩
   case rest =>
    clear HC4
    try clear c2
    try clear p2
    try clear c5
    try clear c5b0
    try clear p2
    obtain ⟨kq, x17_3, rfl, HA, HJ3, HO_7, HB⟩ := hcut
    cases kq with
    | zero => exact absurd HA.out (by simp [tickinglaw01_tame.j1])
    | succ kj3 =>
     have H := HA.out
     clear HA
     simp only [tickinglaw01_tame.j1] at H
     by_cases c6 : x17_3 = true
     ·subst c6
      have H1 : (if 0 ≤ x8_1 then (if x8_1 < (l0.length : Int) then ((tickinglaw01_near.f ((rd_T28 l0 x8_1).f0) a2).bind fun t345 => ((tickinglaw01_near.f ((rd_T28 l0 x8_1).f1) a2).bind fun t347 => (if x7_1.length < 8796093022208 then (tickinglaw01_tame.l0 kj3 l0 a1 a2 (x7_1 ++ [(⟨t345, t347⟩ : S28)]) (wrap64 (x8_1 + 1))) else (none)))) else (none)) else (none)) = some r := by rw [if_pos rfl] at H; exact H
      clear H
      have H := H1
      clear H1
      by_cases c7 : 0 ≤ x8_1
      ·rw [if_pos c7] at H
       have c7b0 : decide (0 ≤ x8_1) = true := decide_eq_true c7
       clear c7
       by_cases c8 : x8_1 < (l0.length : Int)
       ·rw [if_pos c8] at H
        have c8b0 : decide (x8_1 < (l0.length : Int)) = true := decide_eq_true c8
        clear c8
        replace H := Option.bind_eq_some_iff.mp H
        obtain ⟨t345, A90, H⟩ := H
        replace H : ((tickinglaw01_near.f ((rd_T28 l0 x8_1).f1) a2).bind fun t347 => (if x7_1.length < 8796093022208 then (tickinglaw01_tame.l0 kj3 l0 a1 a2 (x7_1 ++ [(⟨t345, t347⟩ : S28)]) (wrap64 (x8_1 + 1))) else (none))) = some r := H
        have A9 := Aside0.mk A90
        clear A90
        replace H := Option.bind_eq_some_iff.mp H
        obtain ⟨t347, A100, H⟩ := H
        replace H : (if x7_1.length < 8796093022208 then (tickinglaw01_tame.l0 kj3 l0 a1 a2 (x7_1 ++ [(⟨t345, t347⟩ : S28)]) (wrap64 (x8_1 + 1))) else (none)) = some r := H
        have A10 := Aside0.mk A100
        clear A100
        by_cases c11 : x7_1.length < 8796093022208
        ·rw [if_pos c11] at H
         have LMc11 := Aside0.mk c11
         clear c11
         obtain ⟨y348, hy348⟩ : ∃ y_ : List (S28), y_ = (x7_1 ++ [(⟨t345, t347⟩ : S28)]) := ⟨_, rfl⟩
         replace H : (tickinglaw01_tame.l0 kj3 l0 a1 a2 y348 (wrap64 (x8_1 + 1))) = some r := by first | (rw [hy348]; with_reducible exact H) | (have H2_ := (Option.bind_some _ _).symm.trans H; rw [hy348]; with_reducible exact H2_) | (have H2_ := (Option.bind_some _ _).symm.trans H; with_reducible exact H2_) | with_reducible exact H | (rw [hy348]; exact H) | exact H
         have Ny348 := Aside0.mk hy348
         clear hy348
         have H' := Aside0.mk H
         clear H
         try go_wp2
         have n0_ := Aside0.mk (Kd.R_drew HO_7.out)
         have n1_ := Aside0.mk (below_drew1 HB.out)
         clear HO_7
         clear HB
         have HO_7 := n0_
         have HB := n1_
         clear n0_ n1_
         have p344 : 0 ≤ (x8_1 : Int) := of_decide_eq_true (by first | (with_reducible assumption) | assumption)
         have q344 : x8_1 < (l0.length : Int) := of_decide_eq_true (by first | (with_reducible assumption) | assumption)
         obtain ⟨ad344, e344, hx344_0, hx344_1⟩ := at_T28 HR0.out x8_1 p344 q344
         have hw344_1 := hx344_1
         have hw344_0 := hx344_0
         cases e344
         replace hx344_0 := (HB.out.cell (World.block_lt_of_cell? w _ hx344_0)).trans hx344_0
         replace hx344_1 := (HB.out.cell (World.block_lt_of_cell? w _ hx344_1)).trans hx344_1
         replace p344 := eq_true p344
         replace q344 := eq_true q344
         have p346 : 0 ≤ (x8_1 : Int) := of_decide_eq_true (by first | (with_reducible assumption) | assumption)
         have q346 : x8_1 < (l0.length : Int) := of_decide_eq_true (by first | (with_reducible assumption) | assumption)
         obtain ⟨ad346, e346, hx346_0, hx346_1⟩ := at_T28 HR0.out x8_1 p346 q346
         have hw346_1 := hx346_1
         have hw346_0 := hx346_0
         obtain rfl : ad344 = ad346 := (by injection e346)
         replace hx346_0 := (HB.out.cell (World.block_lt_of_cell? w _ hx346_0)).trans hx346_0
         replace hx346_1 := (HB.out.cell (World.block_lt_of_cell? w _ hx346_1)).trans hx346_1
         replace p346 := eq_true p346
         replace q346 := eq_true q346
         refine stz (fun w' => w'.cell? (ad344.add ((x8_1).toNat * 2)) = some (.int .i64 ((rd_T28 l0 x8_1).f0)) ∧ w'.cell? ⟨(ad344.add ((x8_1).toNat * 2)).block, (ad344.add ((x8_1).toNat * 2)).off + 1, none⟩ = some (.int .i64 ((rd_T28 l0 x8_1).f1)) ∧ w'.cell? (ad344.add ((x8_1).toNat * 2)) = some (.int .i64 ((rd_T28 l0 x8_1).f0)) ∧ w'.cell? ⟨(ad344.add ((x8_1).toNat * 2)).block, (ad344.add ((x8_1).toNat * 2)).off + 1, none⟩ = some (.int .i64 ((rd_T28 l0 x8_1).f1))) [] (bn 19 0) ⟨((HB.out.cell (World.block_lt_of_cell? w _ hw344_0)).trans hw344_0), ((HB.out.cell (World.block_lt_of_cell? w _ hw344_1)).trans hw344_1), ((HB.out.cell (World.block_lt_of_cell? w _ hw346_0)).trans hw346_0), ((HB.out.cell (World.block_lt_of_cell? w _ hw346_1)).trans hw346_1)⟩ (fun hHeld => ?_); refine with_tabW tickinglaw01_tame.tab5 tickinglaw01_tame.bits5 (fun HT_ HW_ => ?_)
         generalize wc.drew = w12 at HO_7 HB hx344_0 hx344_1 hx346_0 hx346_1 hHeld ⊢
         refine pT HT_.out 0 (some 20) (bn 19 1) ?_
         refine pT HT_.out 1 (some 21) (bn 19 3) ?_
         refine pT HT_.out 2 (some 22) (bn 19 7) ?_
         refine pT HT_.out 3 (some 23) (bn 19 15) ?_
         refine pT HT_.out 4 (some 24) (bn 19 31) ?_
         refine pT HT_.out 6 (some 26) (bn 19 95) ?_
         refine pT HT_.out 8 (some 28) (bn 19 351) ?_
         refine pT HT_.out 9 (some 29) (bn 19 863) ?_
         refine pT HT_.out 10 (some 30) (bn 19 1887) ?_
         refine pT HT_.out 11 (some 31) (bn 19 3935) ?_
         refine pT HT_.out 13 (some 33) (bn 19 12127) ?_
         refine tT HT_.out HW_.out 5 (some 25) (bn 19 12159) hHeld ?_
         refine tT HT_.out HW_.out 12 (some 32) (bn 19 16255) hHeld ?_
         refine oT HT_.out 7 (some 27) (bn 19 16383) (fun K hK => ?_)
         refine gz Try.func35 #[.int .i64 ((rd_T28 l0 x8_1).f0), .int .i64 a2] ?_
         with_reducible refine (tickinglaw01_near.calls ((rd_T28 l0 x8_1).f0) a2 t345 _ A9.out).mono ?_
         rintro e w' ⟨rfl, ⟨nd, rfl⟩⟩
         refine ⟨_, rfl, ?_⟩
         refine hK.out _ _ ⟨((HB.out.cell (World.block_lt_of_cell? w _ hw344_0)).trans hw344_0), ((HB.out.cell (World.block_lt_of_cell? w _ hw344_1)).trans hw344_1), ((HB.out.cell (World.block_lt_of_cell? w _ hw346_0)).trans hw346_0), ((HB.out.cell (World.block_lt_of_cell? w _ hw346_1)).trans hw346_1)⟩ (fun hHeld => ?_)
         clear hK K
         refine nz (some 27) ?_
         refine oT HT_.out 14 (some 34) (bn 19 32767) (fun K hK => ?_)
         refine gz Try.func35 #[.int .i64 ((rd_T28 l0 x8_1).f1), .int .i64 a2] ?_
         with_reducible refine (tickinglaw01_near.calls ((rd_T28 l0 x8_1).f1) a2 t347 _ A10.out).mono ?_
         rintro e w' ⟨rfl, ⟨nd, rfl⟩⟩
         refine ⟨_, rfl, ?_⟩
         refine hK.out _ _ ⟨((HB.out.cell (World.block_lt_of_cell? w _ hw344_0)).trans hw344_0), ((HB.out.cell (World.block_lt_of_cell? w _ hw344_1)).trans hw344_1), ((HB.out.cell (World.block_lt_of_cell? w _ hw346_0)).trans hw346_0), ((HB.out.cell (World.block_lt_of_cell? w _ hw346_1)).trans hw346_1)⟩ (fun hHeld => ?_)
         clear hK K
         refine nz (some 34) ?_
         refine pT HT_.out 15 (some 35) (bn 19 65535) ?_
         refine oT HT_.out 16 (some 36) (bn 19 131071) (fun K hK => ?_)
         refine vz ?_
         refine hK.out _ _ ⟨(World.cell?_alloc_lt _ _ _ (World.block_lt_of_cell? _ _ (((HB.out.cell (World.block_lt_of_cell? w _ hw344_0)).trans hw344_0)))).trans (((HB.out.cell (World.block_lt_of_cell? w _ hw344_0)).trans hw344_0)), (World.cell?_alloc_lt _ _ _ (World.block_lt_of_cell? _ _ (((HB.out.cell (World.block_lt_of_cell? w _ hw344_1)).trans hw344_1)))).trans (((HB.out.cell (World.block_lt_of_cell? w _ hw344_1)).trans hw344_1)), (World.cell?_alloc_lt _ _ _ (World.block_lt_of_cell? _ _ (((HB.out.cell (World.block_lt_of_cell? w _ hw346_0)).trans hw346_0)))).trans (((HB.out.cell (World.block_lt_of_cell? w _ hw346_0)).trans hw346_0)), (World.cell?_alloc_lt _ _ _ (World.block_lt_of_cell? _ _ (((HB.out.cell (World.block_lt_of_cell? w _ hw346_1)).trans hw346_1)))).trans (((HB.out.cell (World.block_lt_of_cell? w _ hw346_1)).trans hw346_1))⟩ (fun hHeld => ?_)
         clear hK K
         refine nz (some 36) ?_
         refine oT HT_.out 17 (some 37) (bn 19 262143) (fun K hK => ?_)
         refine Kd.R_append_step k28 (w0 := w) w.heap.size (by rfl) (.tmp 20) (.tmp 36) 37 28 (.agg #[(.int .i64 0), (.int .i64 0)]) 16 rfl Try.underlying37 info28 rfl (by decide) (by omega) u7 x7_1 (⟨t345, t347⟩ : S28) [.int .i64 t345, .int .i64 t347] (fun _ => True) (fun _ => False) rfl rfl ?aP (fun _ hk => hk.elim) ?aF ?aO ?aB ?aS ?aL ?_
         (case aP => exact k28_mkM _ _ _ (⟨t345, t347⟩ : S28))
         (case aB => exact HBz)
         (case aF => exact (fun _ _ => trivial))
         (case aO => exact (by (with_reducible repeat (first | apply Kd.R_alloc | apply Kd.R_drewN | apply Kd.R_drew)); exact HO_7.out))
         (case aS => exact (below_size HBz))
         (case aL => have := LMc11.out; omega)
         intro v349 w13 ho hb hg hat
         rw [← Ny348.out] at ho
         have n0_ := Aside0.mk (hb)
         have n1_ := Aside0.mk (ho)
         clear HB
         clear HO_7
         have HB := n0_
         have HO350 := n1_
         clear n0_ n1_
         clear ho hb hg hat
         refine hK.out _ _ ⟨((HB.out.cell (World.block_lt_of_cell? w _ hw344_0)).trans hw344_0), ((HB.out.cell (World.block_lt_of_cell? w _ hw344_1)).trans hw344_1), ((HB.out.cell (World.block_lt_of_cell? w _ hw346_0)).trans hw346_0), ((HB.out.cell (World.block_lt_of_cell? w _ hw346_1)).trans hw346_1)⟩ (fun hHeld => ?_)
         clear hK K
         refine nz (some 37) ?_
         refine pT HT_.out 18 (some 7) (bn 19 524287) ?_
         refine done_ (done_of HT_.out (by kernel_rfl)) ?_
         try go_wp2
         go_roundg kj3
         case measure => have := HK1.out; have := HJ3.out; omega
         case rel => exact ⟨(y348), (wrap64 (x8_1 + 1)), (by first | rfl | (simp; done) | (simp [*]; done)), H', ⟨by have := HK1.out; have := HJ3.out; omega⟩, ⟨by (with_reducible repeat (first | apply Kd.R_alloc | apply Kd.R_drewN | apply Kd.R_drew)); exact HO350.out⟩, ⟨HBz⟩⟩
        ·rw [if_neg c11] at H
         exact absurd H (by simp)
       ·rw [if_neg c8] at H
        exact absurd H (by simp)
      ·rw [if_neg c7] at H
       exact absurd H (by simp)
     ·replace c6 := Bool.eq_false_iff.mpr c6
      subst c6
      have H1 : (if (x7_1.length : Int) = 0 then (if x7_1.length < 8796093022208 then (some (x7_1 ++ [(⟨0, 0⟩ : S28)])) else (none)) else (some x7_1)) = some r := by rw [if_neg (show ¬ (false = true) by decide)] at H; exact H
      clear H
      have H := H1
      clear H1
      by_cases c14 : (x7_1.length : Int) = 0
      ·rw [if_pos c14] at H
       have c14b0 : ((x7_1.length : Int) == 0) = true := beq_iff_eq.mpr c14
       have c14b1 : ((x7_1.length : Int) != 0) = false := bne_eq_false_iff_eq.mpr c14
       clear c14
       by_cases c15 : x7_1.length < 8796093022208
       ·rw [if_pos c15] at H
        have LMc15 := Aside0.mk c15
        clear c15
        obtain ⟨y351, hy351⟩ : ∃ y_ : List (S28), y_ = (x7_1 ++ [(⟨0, 0⟩ : S28)]) := ⟨_, rfl⟩
        replace H : (some y351) = some r := by first | (rw [hy351]; with_reducible exact H) | (have H2_ := (Option.bind_some _ _).symm.trans H; rw [hy351]; with_reducible exact H2_) | (have H2_ := (Option.bind_some _ _).symm.trans H; with_reducible exact H2_) | with_reducible exact H | (rw [hy351]; exact H) | exact H
        have Ny351 := Aside0.mk hy351
        clear hy351
        obtain rfl := Option.some.inj H
        obtain ⟨Ao16, co16, eo16⟩ := Kd.R_slice HO_7.out
        subst eo16
        go_wp2_with (first | ((with_reducible refine gate_builtin (b := .append) (xs := #[.tmp 41, .tmp 43]) rfl ?_); at_builtin; refine Kd.R_append k28 (w0 := w) w.heap.size rfl (.tmp 41) (.tmp 43) 37 28 (.agg #[(.int .i64 0), (.int .i64 0)]) 16 rfl Try.underlying37 info28 rfl (by decide) (by omega) (.slice Ao16 x7_1.length co16) x7_1 (⟨0, 0⟩ : S28) [.int .i64 0, .int .i64 0] (fun _ => True) (fun _ => False) rfl rfl ?aP (fun _ hk => hk.elim) ?aF ?aO ?aB ?aS ?aL ?_; (case aP => exact k28_mkM _ _ _ (⟨0, 0⟩ : S28)); (case aB => exact HBz); (case aF => exact (fun _ _ => trivial)); (case aO => exact (by (with_reducible repeat (first | apply Kd.R_alloc | apply Kd.R_drewN | apply Kd.R_drew)); exact HO_7.out)); (case aS => exact (below_size HBz)); (case aL => have := LMc15.out; omega); intro v352 w17 ho hb hg hat; rw [← Ny351.out] at ho; have n0_ := Aside0.mk (hb); have n1_ := Aside0.mk (ho); clear HB; clear HO_7; have HB := n0_; have HO353 := n1_; clear n0_ n1_; clear ho hb hg hat))
        go_ret
        exact ⟨_, by first | rfl | (simp [errW_none, errW_some] <;> rfl) | (simp [*, errW_none, errW_some] <;> rfl), by (with_reducible repeat (first | apply Kd.R_alloc | apply Kd.R_drewN | apply Kd.R_drew)); exact HO353.out, HBz⟩
       ·rw [if_neg c15] at H
        exact absurd H (by simp)
      ·rw [if_neg c14] at H
       have c14b0 : ((x7_1.length : Int) == 0) = false := beq_eq_false_iff_ne.mpr c14
       have c14b1 : ((x7_1.length : Int) != 0) = true := bne_iff_ne.mpr c14
       have c14b2 : ¬ (x7_1 = []) := fun h_ => c14 (by rw [h_]; rfl)
       obtain rfl := Option.some.inj H
       obtain ⟨Ao18, co18, eo18⟩ := Kd.R_slice HO_7.out
       subst eo18
       go_wp2
       go_ret
       exact ⟨_, by first | rfl | (simp [errW_none, errW_some] <;> rfl) | (simp [*, errW_none, errW_some] <;> rfl), by (with_reducible repeat (first | apply Kd.R_alloc | apply Kd.R_drewN | apply Kd.R_drew)); exact HO_7.out, HBz⟩
end Go.Proofs.Ytplhfbkejngioaa.X
namespace Go.Proofs.Ytplhfbkejngioaa.X
open Go.RowKit Go.Proofs.YtplhfbkejngioaaW.PrintWords Go.Proofs.YtplhfbkejngioaaW.PrintLast Go.Proofs.Ytplhfbkejngioaa.S
attribute [local go_sem] max2_int min2_int max_two min_two
set_option linter.unusedVariables false
set_option linter.unusedSimpArgs false
def tickinglaw01_points.f (l0 : List (S28)) : Option ((List (S28))) := if 0 ≤ (mn (l0.length : Int) 65) then (if (mn (l0.length : Int) 65) ≤ (l0.length : Int) then ((some (l0.take ((mn (l0.length : Int) 65) : Int).toNat : List (S28))).bind fun y495 => (if ([] : List (S28)).length + y495.length < 8796093022208 then (some (([] : List (S28)) ++ y495)) else (none))) else (none)) else (none)
set_option maxHeartbeats 8000000 in
set_option maxRecDepth 100000 in
theorem tickinglaw01_points.calls (A0 : Option Addr) (c0 : Nat) (l0 : List (S28)) (r : List (S28)) (w : World) (hr0 : Kd.C k28 w A0 l0.length l0) (hc0 : l0.length ≤ c0) (h : tickinglaw01_points.f l0 = some r) :
  Calls Try.prog 34 #[.slice A0 l0.length c0] w fun e w' => ∃ v0_ : Value, e = .returned (v0_) ∧ Kd.R k28 28 w' w.heap.size (fun _ => True) v0_ r ∧ Below w.heap.size w w' := by
 have HR0 := Aside0.mk hr0
 have HC0 := Aside0.mk hc0
 clear hr0 hc0
 have HB := Aside0.mk (Below.refl w.heap.size w)
 have H : (if 0 ≤ (mn (l0.length : Int) 65) then (if (mn (l0.length : Int) 65) ≤ (l0.length : Int) then ((some (l0.take ((mn (l0.length : Int) 65) : Int).toNat : List (S28))).bind fun y495 => (if ([] : List (S28)).length + y495.length < 8796093022208 then (some (([] : List (S28)) ++ y495)) else (none))) else (none)) else (none)) = some r := h
 clear h
 obtain ⟨ji2, hji2⟩ : ∃ j_ : Int, (mn (l0.length : Int) 65) = j_ := ⟨_, rfl⟩
 replace H : (if 0 ≤ (ji2) then (if (ji2) ≤ (l0.length : Int) then ((some (l0.take ((ji2) : Int).toNat : List (S28))).bind fun y495 => (if ([] : List (S28)).length + y495.length < 8796093022208 then (some (([] : List (S28)) ++ y495)) else (none))) else (none)) else (none)) = some r := by first | (rw [hji2] at H; exact H) | (simp only [hji2] at H ⊢; exact H)
 (try (have hji2h : ji2 ≤ 65 := by (rw [← hji2]; unfold mn; (repeat' split) <;> omega)))
 (try (have hji2g : ji2 ≤ 64 := by omega))
 (try (have hji2l : 0 ≤ ji2 := by (rw [← hji2]; unfold mn; (repeat' split) <;> omega)))
 (try (have hji2m : 0 ≤ ji2 := by omega))
 have hji2_ : (if 65 < (l0.length : Int) then 65 else (l0.length : Int)) = ji2 := hji2
 by_cases c3 : 0 ≤ (ji2)
 ·rw [if_pos c3] at H
  have c3b0 := eq_true c3
  have c3b1 : decide (0 ≤ (ji2)) = true := decide_eq_true c3
  clear c3
  by_cases c4 : (ji2) ≤ (l0.length : Int)
  ·rw [if_pos c4] at H
   have c4b0 := eq_true c4
   have c4b1 : decide ((ji2) ≤ (l0.length : Int)) = true := decide_eq_true c4
   clear c4
   obtain ⟨y495, hy495⟩ : ∃ y_ : List (S28), y_ = (l0.take ((ji2) : Int).toNat) := ⟨_, rfl⟩
   replace H : (if ([] : List (S28)).length + y495.length < 8796093022208 then (some (([] : List (S28)) ++ y495)) else (none)) = some r := by first | (rw [hy495]; with_reducible exact H) | (have H2_ := (Option.bind_some _ _).symm.trans H; rw [hy495]; with_reducible exact H2_) | (have H2_ := (Option.bind_some _ _).symm.trans H; with_reducible exact H2_) | with_reducible exact H | (rw [hy495]; exact H) | exact H
   have Ny495 := Aside0.mk hy495
   clear hy495
   by_cases c5 : ([] : List (S28)).length + y495.length < 8796093022208
   ·rw [if_pos c5] at H
    have LMc5 := Aside0.mk c5
    clear c5
    obtain ⟨y499, hy499⟩ : ∃ y_ : List (S28), y_ = (([] : List (S28)) ++ y495) := ⟨_, rfl⟩
    replace H : (some y499) = some r := by first | (rw [hy499]; with_reducible exact H) | (have H2_ := (Option.bind_some _ _).symm.trans H; rw [hy499]; with_reducible exact H2_) | (have H2_ := (Option.bind_some _ _).symm.trans H; with_reducible exact H2_) | with_reducible exact H | (rw [hy499]; exact H) | exact H
    have Ny499 := Aside0.mk hy499
    clear hy499
    obtain rfl := Option.some.inj H
    have q6 : ((ji2) : Int) ≤ ((l0.length : Int) : Int) := of_decide_eq_true (by first | (with_reducible assumption) | assumption)
    obtain ⟨i06, hi06, _, hsz6, _⟩ := info_parts info28
    have hroom6 : l0.length ≤ c0 := HC0.out
    have hC6 : Kd.C k28 _ A0 l0.length l0 := HR0.out
    have hcut6 := cut_to (P := Try.prog) 37 28 .i64 Try.underlying37 hi06 A0 l0.length c0 (ji2) (of_decide_eq_true (by first | (with_reducible assumption) | assumption)) q6 hroom6
    have hr6 := Kd.C_take (m := ((ji2) : Int).toNat) hC6 (by omega)
    have hy6 : y495.length = ((ji2) : Int).toNat := (by rw [Ny495.out, List.length_take]; omega)
    rw [← Ny495.out] at hr6
    rw [← hy6] at hcut6
    have HR498 := Aside0.mk hr6
    have HC498 := Aside0.mk (show y495.length ≤ c0 from by omega)
    clear hr6 hC6 hroom6 hi06 hsz6
    have KY6 := Aside0.mk hy6
    clear hy6
    replace q6 := eq_true q6
    go_enter Try.func34, Try.ntmps34
    go_wp2_with (first | ((with_reducible refine gate_builtin (b := .append) (xs := #[.tmp 4, .tmp 9]) rfl ?_); at_builtin; refine Kd.R_append_rows k28 (w0 := w) w.heap.size rfl (.tmp 4) (.tmp 9) 37 28 (.agg #[(.int .i64 0), (.int .i64 0)]) 16 rfl Try.underlying37 info28 rfl (by decide) (by omega) (.slice none 0 0) ([] : List (S28)) y495 _ _ _ (fun _ => True) (fun _ => False) rfl rfl ?aO ?aR (fun _ _ h => h) (fun _ h => h.elim) ?aF ?aB ?aS ?aL ?_; (case aR => repeat (first | exact HR498.out | (with_reducible refine Kd.C_alloc ?_ _) | (with_reducible refine Kd.C_drewN ?_ _) | (with_reducible refine Kd.C_drew ?_))); (case aB => exact HBz); (case aF => exact (fun _ _ => trivial)); (case aO => exact ((Kd.R_nil _ _ _ _ (fun _ => True)))); (case aS => exact (below_size HBz)); (case aL => have := LMc5.out; omega); intro v500 w7 ho hb hg hat; rw [← Ny499.out] at ho; have n0_ := Aside0.mk (hb); have n1_ := Aside0.mk (ho); clear HB; have HB := n0_; have HO501 := n1_; clear n0_ n1_; clear ho hb hg hat))
    go_ret
    exact ⟨_, by first | rfl | (simp [errW_none, errW_some] <;> rfl) | (simp only [← hji2]; first | rfl | (simp [errW_none, errW_some] <;> rfl)) | (simp [*, errW_none, errW_some] <;> rfl), by (with_reducible repeat (first | apply Kd.R_alloc | apply Kd.R_drewN | apply Kd.R_drew)); exact HO501.out, HBz⟩
   ·rw [if_neg c5] at H
    exact absurd H (by simp)
  ·rw [if_neg c4] at H
   exact absurd H (by simp)
 ·rw [if_neg c3] at H
  exact absurd H (by simp)
end Go.Proofs.Ytplhfbkejngioaa.X
namespace Go.Proofs.Ytplhfbkejngioaa.X
open Go.RowKit Go.Proofs.YtplhfbkejngioaaW.PrintWords Go.Proofs.YtplhfbkejngioaaW.PrintLast Go.Proofs.Ytplhfbkejngioaa.S
attribute [local go_sem] max2_int min2_int max_two min_two
set_option linter.unusedVariables false
set_option linter.unusedSimpArgs false
mutual
def tickingref01_Tiles.l0 : Nat → List (S48) → List (S48) → Int → Int → Option (Bool)
 | 0, _, _, _, _ => none
 | k + 1, x0, x1, x5, x6 => if x6 < (x1.length : Int) then (if 0 ≤ x6 then (tickingref01_Tiles.l1 k x0 x1 (wrap64 (x5 + (wrap64 ((wrap64 (((rd_T48 x1 x6).f2) - ((rd_T48 x1 x6).f0))) * (wrap64 (((rd_T48 x1 x6).f3) - ((rd_T48 x1 x6).f1))))))) x6 0 ((rd_T48 x1 x6).f0) ((rd_T48 x1 x6).f1) ((rd_T48 x1 x6).f2) ((rd_T48 x1 x6).f3)) else (none)) else ((tickingref01_Area.f k x0).bind fun t741 => (some (x5 == t741)))
def tickingref01_Tiles.l1 : Nat → List (S48) → List (S48) → Int → Int → Int → Int → Int → Int → Int → Option (Bool)
 | 0, _, _, _, _, _, _, _, _, _ => none
 | k + 1, x0, x1, x5, x6, x8, x744000, x744001, x744002, x744003 => if x8 < x6 then (if 0 ≤ x8 then (if x8 < (x1.length : Int) then (if (mx x744000 ((rd_T48 x1 x8).f0)) < (mn x744002 ((rd_T48 x1 x8).f2)) then (if (mx x744001 ((rd_T48 x1 x8).f1)) < (mn x744003 ((rd_T48 x1 x8).f3)) then (some false) else (tickingref01_Tiles.l1 k x0 x1 x5 x6 (wrap64 (x8 + 1)) x744000 x744001 x744002 x744003)) else (tickingref01_Tiles.l1 k x0 x1 x5 x6 (wrap64 (x8 + 1)) x744000 x744001 x744002 x744003)) else (none)) else (none)) else ((tickingref01_lines.f k x0 true).bind fun t746 => ((tickingref01_insert.f k t746 x744000).bind fun t749 => ((tickingref01_lines.f k x0 false).bind fun t752 => ((tickingref01_insert.f k t752 x744001).bind fun t755 => (tickingref01_Tiles.l2 k x0 x1 x5 x6 t749 t755 0 x744000 x744001 x744002 x744003)))))
def tickingref01_Tiles.l2 : Nat → List (S48) → List (S48) → Int → Int → List Int → List Int → Int → Int → Int → Int → Int → Option (Bool)
 | 0, _, _, _, _, _, _, _, _, _, _, _ => none
 | k + 1, x0, x1, x5, x6, x10, x11, x12, x744000, x744001, x744002, x744003 => if x12 < (x10.length : Int) then (tickingref01_Tiles.l3 k x0 x1 x5 x6 x10 x11 x12 0 x744000 x744001 x744002 x744003) else (tickingref01_Tiles.l0 k x0 x1 x5 (wrap64 (x6 + 1)))
def tickingref01_Tiles.l3 : Nat → List (S48) → List (S48) → Int → Int → List Int → List Int → Int → Int → Int → Int → Int → Int → Option (Bool)
 | 0, _, _, _, _, _, _, _, _, _, _, _, _ => none
 | k + 1, x0, x1, x5, x6, x10, x11, x12, x13, x744000, x744001, x744002, x744003 => if x13 < (x11.length : Int) then (if 0 ≤ x12 then (if x12 < (x10.length : Int) then (if (rd x10 x12) ≥ x744000 then (if (rd x10 x12) < x744002 then (if 0 ≤ x13 then (if (rd x11 x13) ≥ x744001 then (if (rd x11 x13) < x744003 then ((tickingref01_Depth.f k x0 (rd x10 x12) (rd x11 x13)).bind fun t764 => (if t764 = 0 then (some false) else (tickingref01_Tiles.l3 k x0 x1 x5 x6 x10 x11 x12 (wrap64 (x13 + 1)) x744000 x744001 x744002 x744003))) else (tickingref01_Tiles.l3 k x0 x1 x5 x6 x10 x11 x12 (wrap64 (x13 + 1)) x744000 x744001 x744002 x744003)) else (tickingref01_Tiles.l3 k x0 x1 x5 x6 x10 x11 x12 (wrap64 (x13 + 1)) x744000 x744001 x744002 x744003)) else (none)) else (tickingref01_Tiles.l3 k x0 x1 x5 x6 x10 x11 x12 (wrap64 (x13 + 1)) x744000 x744001 x744002 x744003)) else (tickingref01_Tiles.l3 k x0 x1 x5 x6 x10 x11 x12 (wrap64 (x13 + 1)) x744000 x744001 x744002 x744003)) else (none)) else (none)) else (tickingref01_Tiles.l2 k x0 x1 x5 x6 x10 x11 (wrap64 (x12 + 1)) x744000 x744001 x744002 x744003)
end
def tickingref01_Tiles.f (k : Nat) (l0 : List (S48)) (l1 : List (S48)) : Option (Bool) := (tickingref01_Rects.f k l1 1024).bind fun t740 => (if t740 = true then (tickingref01_Tiles.l0 k l0 l1 0 0) else (some false))
theorem tickingref01_Tiles.mono_l : ∀ k, (∀ y0 y1 y2 y3, LeO (tickingref01_Tiles.l0 k y0 y1 y2 y3) (tickingref01_Tiles.l0 (k + 1) y0 y1 y2 y3)) ∧ (∀ y0 y1 y2 y3 y4 y5 y6 y7 y8, LeO (tickingref01_Tiles.l1 k y0 y1 y2 y3 y4 y5 y6 y7 y8) (tickingref01_Tiles.l1 (k + 1) y0 y1 y2 y3 y4 y5 y6 y7 y8)) ∧ (∀ y0 y1 y2 y3 y4 y5 y6 y7 y8 y9 y10, LeO (tickingref01_Tiles.l2 k y0 y1 y2 y3 y4 y5 y6 y7 y8 y9 y10) (tickingref01_Tiles.l2 (k + 1) y0 y1 y2 y3 y4 y5 y6 y7 y8 y9 y10)) ∧ (∀ y0 y1 y2 y3 y4 y5 y6 y7 y8 y9 y10 y11, LeO (tickingref01_Tiles.l3 k y0 y1 y2 y3 y4 y5 y6 y7 y8 y9 y10 y11) (tickingref01_Tiles.l3 (k + 1) y0 y1 y2 y3 y4 y5 y6 y7 y8 y9 y10 y11))
 | 0 => ⟨fun _ _ _ _ r h => by simp [tickingref01_Tiles.l0] at h, fun _ _ _ _ _ _ _ _ _ r h => by simp [tickingref01_Tiles.l1] at h, fun _ _ _ _ _ _ _ _ _ _ _ r h => by simp [tickingref01_Tiles.l2] at h, fun _ _ _ _ _ _ _ _ _ _ _ _ r h => by simp [tickingref01_Tiles.l3] at h⟩
 | k + 1 => by
  obtain ⟨ih0, ih1, ih2, ih3⟩ := tickingref01_Tiles.mono_l k
  refine ⟨?_, ?_, ?_, ?_⟩
  ·intro y0 y1 y2 y3
   unfold tickingref01_Tiles.l0
   repeat' first
   | (with_reducible exact ih0 _ _ _ _)
   | (with_reducible exact ih1 _ _ _ _ _ _ _ _ _)
   | (with_reducible exact ih2 _ _ _ _ _ _ _ _ _ _ _)
   | (with_reducible exact ih3 _ _ _ _ _ _ _ _ _ _ _ _)
   | (with_reducible exact tickingref01_Area.mono _ _)
   | (with_reducible exact tickingref01_Depth.mono _ _ _ _)
   | (with_reducible exact tickingref01_Rects.mono _ _ _)
   | (with_reducible exact tickingref01_insert.mono _ _ _)
   | (with_reducible exact tickingref01_lines.mono _ _ _)
   | (with_reducible exact LeO.refl _)
   | (with_reducible exact LeO.none _)
   | (with_reducible refine LeO.ite ?_ ?_)
   | (with_reducible refine LeO.bind ?_ (fun _ => ?_))
   | exact ih0 _ _ _ _
   | exact ih1 _ _ _ _ _ _ _ _ _
   | exact ih2 _ _ _ _ _ _ _ _ _ _ _
   | exact ih3 _ _ _ _ _ _ _ _ _ _ _ _
   | exact tickingref01_Area.mono _ _
   | exact tickingref01_Depth.mono _ _ _ _
   | exact tickingref01_Rects.mono _ _ _
   | exact tickingref01_insert.mono _ _ _
   | exact tickingref01_lines.mono _ _ _
   | exact LeO.none _
   | refine LeO.ite ?_ ?_
   | refine LeO.bind ?_ (fun _ => ?_)
  ·intro y0 y1 y2 y3 y4 y5 y6 y7 y8
   unfold tickingref01_Tiles.l1
   repeat' first
   | (with_reducible exact ih0 _ _ _ _)
   | (with_reducible exact ih1 _ _ _ _ _ _ _ _ _)
   | (with_reducible exact ih2 _ _ _ _ _ _ _ _ _ _ _)
   | (with_reducible exact ih3 _ _ _ _ _ _ _ _ _ _ _ _)
   | (with_reducible exact tickingref01_Area.mono _ _)
   | (with_reducible exact tickingref01_Depth.mono _ _ _ _)
   | (with_reducible exact tickingref01_Rects.mono _ _ _)
   | (with_reducible exact tickingref01_insert.mono _ _ _)
   | (with_reducible exact tickingref01_lines.mono _ _ _)
   | (with_reducible exact LeO.refl _)
   | (with_reducible exact LeO.none _)
   | (with_reducible refine LeO.ite ?_ ?_)
   | (with_reducible refine LeO.bind ?_ (fun _ => ?_))
   | exact ih0 _ _ _ _
   | exact ih1 _ _ _ _ _ _ _ _ _
   | exact ih2 _ _ _ _ _ _ _ _ _ _ _
   | exact ih3 _ _ _ _ _ _ _ _ _ _ _ _
   | exact tickingref01_Area.mono _ _
   | exact tickingref01_Depth.mono _ _ _ _
   | exact tickingref01_Rects.mono _ _ _
   | exact tickingref01_insert.mono _ _ _
   | exact tickingref01_lines.mono _ _ _
   | exact LeO.none _
   | refine LeO.ite ?_ ?_
   | refine LeO.bind ?_ (fun _ => ?_)
  ·intro y0 y1 y2 y3 y4 y5 y6 y7 y8 y9 y10
   unfold tickingref01_Tiles.l2
   repeat' first
   | (with_reducible exact ih0 _ _ _ _)
   | (with_reducible exact ih1 _ _ _ _ _ _ _ _ _)
   | (with_reducible exact ih2 _ _ _ _ _ _ _ _ _ _ _)
   | (with_reducible exact ih3 _ _ _ _ _ _ _ _ _ _ _ _)
   | (with_reducible exact tickingref01_Area.mono _ _)
   | (with_reducible exact tickingref01_Depth.mono _ _ _ _)
   | (with_reducible exact tickingref01_Rects.mono _ _ _)
   | (with_reducible exact tickingref01_insert.mono _ _ _)
   | (with_reducible exact tickingref01_lines.mono _ _ _)
   | (with_reducible exact LeO.refl _)
   | (with_reducible exact LeO.none _)
   | (with_reducible refine LeO.ite ?_ ?_)
   | (with_reducible refine LeO.bind ?_ (fun _ => ?_))
   | exact ih0 _ _ _ _
   | exact ih1 _ _ _ _ _ _ _ _ _
   | exact ih2 _ _ _ _ _ _ _ _ _ _ _
   | exact ih3 _ _ _ _ _ _ _ _ _ _ _ _
   | exact tickingref01_Area.mono _ _
   | exact tickingref01_Depth.mono _ _ _ _
   | exact tickingref01_Rects.mono _ _ _
   | exact tickingref01_insert.mono _ _ _
   | exact tickingref01_lines.mono _ _ _
   | exact LeO.none _
   | refine LeO.ite ?_ ?_
   | refine LeO.bind ?_ (fun _ => ?_)
  ·intro y0 y1 y2 y3 y4 y5 y6 y7 y8 y9 y10 y11
   unfold tickingref01_Tiles.l3
   repeat' first
   | (with_reducible exact ih0 _ _ _ _)
   | (with_reducible exact ih1 _ _ _ _ _ _ _ _ _)
   | (with_reducible exact ih2 _ _ _ _ _ _ _ _ _ _ _)
   | (with_reducible exact ih3 _ _ _ _ _ _ _ _ _ _ _ _)
   | (with_reducible exact tickingref01_Area.mono _ _)
   | (with_reducible exact tickingref01_Depth.mono _ _ _ _)
   | (with_reducible exact tickingref01_Rects.mono _ _ _)
   | (with_reducible exact tickingref01_insert.mono _ _ _)
   | (with_reducible exact tickingref01_lines.mono _ _ _)
   | (with_reducible exact LeO.refl _)
   | (with_reducible exact LeO.none _)
   | (with_reducible refine LeO.ite ?_ ?_)
   | (with_reducible refine LeO.bind ?_ (fun _ => ?_))
   | exact ih0 _ _ _ _
   | exact ih1 _ _ _ _ _ _ _ _ _
   | exact ih2 _ _ _ _ _ _ _ _ _ _ _
   | exact ih3 _ _ _ _ _ _ _ _ _ _ _ _
   | exact tickingref01_Area.mono _ _
   | exact tickingref01_Depth.mono _ _ _ _
   | exact tickingref01_Rects.mono _ _ _
   | exact tickingref01_insert.mono _ _ _
   | exact tickingref01_lines.mono _ _ _
   | exact LeO.none _
   | refine LeO.ite ?_ ?_
   | refine LeO.bind ?_ (fun _ => ?_)
theorem tickingref01_Tiles.mono : ∀ a0 a1 k, LeO (tickingref01_Tiles.f k a0 a1) (tickingref01_Tiles.f (k + 1) a0 a1) := by
 intro a0 a1 k
 obtain ⟨ih0, ih1, ih2, ih3⟩ := tickingref01_Tiles.mono_l k
 unfold tickingref01_Tiles.f
 repeat' first
   | (with_reducible exact ih0 _ _ _ _)
   | (with_reducible exact ih1 _ _ _ _ _ _ _ _ _)
   | (with_reducible exact ih2 _ _ _ _ _ _ _ _ _ _ _)
   | (with_reducible exact ih3 _ _ _ _ _ _ _ _ _ _ _ _)
   | (with_reducible exact tickingref01_Area.mono _ _)
   | (with_reducible exact tickingref01_Depth.mono _ _ _ _)
   | (with_reducible exact tickingref01_Rects.mono _ _ _)
   | (with_reducible exact tickingref01_insert.mono _ _ _)
   | (with_reducible exact tickingref01_lines.mono _ _ _)
   | (with_reducible exact LeO.refl _)
   | (with_reducible exact LeO.none _)
   | (with_reducible refine LeO.ite ?_ ?_)
   | (with_reducible refine LeO.bind ?_ (fun _ => ?_))
   | exact ih0 _ _ _ _
   | exact ih1 _ _ _ _ _ _ _ _ _
   | exact ih2 _ _ _ _ _ _ _ _ _ _ _
   | exact ih3 _ _ _ _ _ _ _ _ _ _ _ _
   | exact tickingref01_Area.mono _ _
   | exact tickingref01_Depth.mono _ _ _ _
   | exact tickingref01_Rects.mono _ _ _
   | exact tickingref01_insert.mono _ _ _
   | exact tickingref01_lines.mono _ _ _
   | exact LeO.none _
   | refine LeO.ite ?_ ?_
   | refine LeO.bind ?_ (fun _ => ?_)
def tickingref01_Tiles.T15 : Bool × List (List Nat × List Nat) := (true, [([], []), ([0], [0]), ([], []), ([2], [2]), ([1, 3, 1], [1, 3]), ([], []), ([5, 4], [5]), ([], []), ([7], [7]), ([6, 8, 6], [6, 8]), ([4, 9, 0, 1, 2, 3, 4], [4]), ([9, 10, 0, 1, 2, 3, 4, 5, 6, 7, 8, 9, 10], [9])])
def tickingref01_Tiles.B15 : List Nat := [0, 1, 0, 4, 15, 0, 63, 0, 128, 511, 1023, 2047]
theorem tickingref01_Tiles.tab15 : rtab .any (opsOf Try.f44 15) = tickingref01_Tiles.T15 := by kernel_rfl
theorem tickingref01_Tiles.bits15 : waitsOk tickingref01_Tiles.T15.2 tickingref01_Tiles.B15 = true := by kernel_rfl
def tickingref01_Tiles.T22 : Bool × List (List Nat × List Nat) := (true, [([], []), ([], []), ([0, 1], [0, 1]), ([2], [2]), ([], []), ([4], [4]), ([3, 5], [3, 5]), ([6], [6]), ([7], [7]), ([7], [7]), ([8, 9, 7], [7, 8, 9]), ([10, 7], [7, 10]), ([7], [7]), ([12, 7], [7, 12]), ([11, 13, 7], [7, 11, 13]), ([7, 14], [7, 14]), ([15, 7], [15]), ([16], [16]), ([16], [16]), ([17, 18, 16], [16, 17, 18]), ([19, 16], [16, 19]), ([16], [16]), ([21, 16], [16, 21]), ([20, 22, 16], [16, 20, 22]), ([16, 23], [16, 23]), ([24, 16], [24]), ([25], [25]), ([25], [25]), ([26, 27, 25], [25, 26, 27]), ([28, 25], [25, 28]), ([25], [25]), ([30, 25], [25, 30]), ([29, 31, 25], [25, 29, 31]), ([25, 32], [25, 32]), ([33, 25], [33]), ([34], [34]), ([34], [34]), ([34], [34]), ([36, 37, 34], [34, 36, 37]), ([38, 34], [34, 38]), ([34], [34]), ([34], [34]), ([40, 41, 34], [34, 40, 41]), ([42, 34], [34, 42]), ([35, 39, 43, 34, 34], [34, 35, 39, 43]), ([44, 34], [34, 44]), ([34, 45], [34, 45])])
def tickingref01_Tiles.B22 : List Nat := [0, 0, 3, 7, 0, 16, 63, 127, 255, 255, 1023, 2047, 255, 4351, 16383, 32767, 65535, 131071, 131071, 524287, 1048575, 131071, 2228223, 8388607, 16777215, 33554431, 67108863, 67108863, 268435455, 536870911, 67108863, 1140850687, 4294967295, 8589934591, 17179869183, 34359738367, 34359738367, 34359738367, 240518168575, 515396075519, 34359738367, 34359738367, 3332894621695, 7730941132799, 17592186044415, 35184372088831, 70368744177663]
theorem tickingref01_Tiles.tab22 : rtab .any (opsOf Try.f44 22) = tickingref01_Tiles.T22 := by kernel_rfl
theorem tickingref01_Tiles.bits22 : waitsOk tickingref01_Tiles.T22.2 tickingref01_Tiles.B22 = true := by kernel_rfl
set_option maxHeartbeats 8000000 in
set_option maxRecDepth 100000 in
theorem tickingref01_Tiles.calls (k : Nat) (A0 : Option Addr) (c0 : Nat) (l0 : List (S48)) (A1 : Option Addr) (c1 : Nat) (l1 : List (S48)) (r : Bool) (w : World) (hr0 : Kd.C k48 w A0 l0.length l0) (hc0 : l0.length ≤ c0) (hr1 : Kd.C k48 w A1 l1.length l1) (hc1 : l1.length ≤ c1) (h : tickingref01_Tiles.f k l0 l1 = some r) :
  Calls Try.prog 44 #[.slice A0 l0.length c0, .slice A1 l1.length c1] w fun e w' => e = .returned (.bool r) ∧ Below w.heap.size w w' := by
 have hu48 := Try.underlying48
 have HR0 := Aside0.mk hr0
 have HC0 := Aside0.mk hc0
 clear hr0 hc0
 have HR1 := Aside0.mk hr1
 have HC1 := Aside0.mk hc1
 clear hr1 hc1
 have HB := Aside0.mk (Below.refl w.heap.size w)
 have H : ((tickingref01_Rects.f k l1 1024).bind fun t740 => (if t740 = true then (tickingref01_Tiles.l0 k l0 l1 0 0) else (some false))) = some r := h
 clear h
 replace H := Option.bind_eq_some_iff.mp H
 obtain ⟨t740, A30, H⟩ := H
 replace H : (if t740 = true then (tickingref01_Tiles.l0 k l0 l1 0 0) else (some false)) = some r := H
 have A3 := Aside0.mk A30
 clear A30
 by_cases c4 : t740 = true
 ·subst c4
  have H1 : (tickingref01_Tiles.l0 k l0 l1 0 0) = some r := by rw [if_pos rfl] at H; exact H
  clear H
  have H := H1
  clear H1
  have H' := Aside0.mk H
  clear H
  go_enter Try.func44, Try.ntmps44
  go_wp2_with (first | ((with_reducible refine gate_callee (f := 20) rfl ?_); refine goesL_ (some 15) rfl rfl Try.func20 (by kernel_rfl) rfl #[.slice A1 l1.length c1, .int .i64 1024] rfl (by (try simp only [List.map_toArray, List.map_cons, List.map_nil]); first | done | rfl | (simp only [List.length_drop, List.length_take]; rfl)) ?_; (with_reducible refine (tickingref01_Rects.calls k _ _ l1 1024 true _ ?side1 ?side2 A3.out).mono ?_); (case side1 => repeat (first | exact HR1.out | (with_reducible refine Kd.C_alloc ?_ _) | (with_reducible refine Kd.C_drewN ?_ _) | (with_reducible refine Kd.C_drew ?_))); (case side2 => exact HC1.out); rintro e w5 ⟨rfl, hb⟩; refine ⟨_, rfl, ?_⟩; have n0_ := Aside0.mk (below_step HBz hb); clear HB; have HB := n0_; clear n0_; (try clear hb); (try clear hb2); (try clear hk); (try clear hi)))
  go_loopg [5, 6] k (fun kq v5 v6 w' => ∃ (x5_1 : Int) (x6_1 : Int), v5 = .int .i64 x5_1 ∧ v6 = .int .i64 x6_1 ∧ Aside0 (tickingref01_Tiles.l0 kq l0 l1 x5_1 x6_1 = some r) ∧ Aside0 (kq ≤ k) ∧ Aside0 (Below w.heap.size w w'))
  case atStart => exact ⟨(0), (0), (by first | rfl | (simp; done) | (simp [*]; done)), (by first | rfl | (simp; done) | (simp [*]; done)), H', ⟨Nat.le_refl _⟩, ⟨HBz⟩⟩
  case round =>
   clear H'
   try clear c1
   try clear c2
   try clear p2
   try clear c4
   obtain ⟨x5_1, x6_1, rfl, rfl, HA, HK1, HB⟩ := hrel
   cases gk with
   | zero => exact absurd HA.out (by simp [tickingref01_Tiles.l0])
   | succ k1 =>
    have H := HA.out
    clear HA
    simp only [tickingref01_Tiles.l0] at H
    by_cases c6 : x6_1 < (l1.length : Int)
    ·rw [if_pos c6] at H
     have c6b0 : decide (x6_1 < (l1.length : Int)) = true := decide_eq_true c6
     clear c6
     by_cases c7 : 0 ≤ x6_1
     ·rw [if_pos c7] at H
      have c7b0 : decide (0 ≤ x6_1) = true := decide_eq_true c7
      clear c7
      have H' := Aside0.mk H
      clear H
      have p742 : 0 ≤ (x6_1 : Int) := of_decide_eq_true (by first | (with_reducible assumption) | assumption)
      have q742 : x6_1 < (l1.length : Int) := of_decide_eq_true (by first | (with_reducible assumption) | assumption)
      obtain ⟨ad742, e742, hx742_0, hx742_1, hx742_2, hx742_3⟩ := at_T48 HR1.out x6_1 p742 q742
      cases e742
      replace hx742_0 := (HB.out.cell (World.block_lt_of_cell? w _ hx742_0)).trans hx742_0
      replace hx742_1 := (HB.out.cell (World.block_lt_of_cell? w _ hx742_1)).trans hx742_1
      replace hx742_2 := (HB.out.cell (World.block_lt_of_cell? w _ hx742_2)).trans hx742_2
      replace hx742_3 := (HB.out.cell (World.block_lt_of_cell? w _ hx742_3)).trans hx742_3
      replace p742 := eq_true p742
      replace q742 := eq_true q742
      go_wp2_with (first | ((with_reducible refine gate_dst (N := 7) rfl ?_); (try (refine gate_guard (by rfl) ?_; dsimp only)); refine bxE 7 #[.int .i64 0, .int .i64 0, .int .i64 0, .int .i64 0] 48 ?_; intro gb743 hg w8 hbox hb; have n0_ := Aside0.mk (below_step HBz hb); have n1_ := Aside0.mk (hbox); have n2_ := Aside0.mk ((by rw [hg]; exact (below_size HBz) : w.heap.size ≤ gb743)); have n3_ := Aside0.mk ((by rw [hg]; exact (below_size HBz) : w.heap.size ≤ gb743)); clear HB; have HB := n0_; have BK743 := n1_; have GW743 := n2_; have GE743 := n3_; clear n0_ n1_ n2_ n3_; clear hb hbox hg; have hcz9_0 : w8.cell? ⟨gb743, 0, none⟩ = some (.int .i64 0) := (blk_cell BK743.out 0).trans rfl; have hcz9_1 : w8.cell? ⟨gb743, 1, none⟩ = some (.int .i64 0) := (blk_cell BK743.out 1).trans rfl; have hcz9_2 : w8.cell? ⟨gb743, 2, none⟩ = some (.int .i64 0) := (blk_cell BK743.out 2).trans rfl; have hcz9_3 : w8.cell? ⟨gb743, 3, none⟩ = some (.int .i64 0) := (blk_cell BK743.out 3).trans rfl; have hfz9_0 := blk_frozen BK743.out 0; have hfz9_1 := blk_frozen BK743.out 1; have hfz9_2 := blk_frozen BK743.out 2; have hfz9_3 := blk_frozen BK743.out 3))
      go_loopg [8] k1 (fun kq v8 w' => ∃ (x8_2 : Int), v8 = .int .i64 x8_2 ∧ Aside0 (tickingref01_Tiles.l1 kq l0 l1 (wrap64 (x5_1 + (wrap64 ((wrap64 (((rd_T48 l1 x6_1).f2) - ((rd_T48 l1 x6_1).f0))) * (wrap64 (((rd_T48 l1 x6_1).f3) - ((rd_T48 l1 x6_1).f1))))))) x6_1 x8_2 ((rd_T48 l1 x6_1).f0) ((rd_T48 l1 x6_1).f1) ((rd_T48 l1 x6_1).f2) ((rd_T48 l1 x6_1).f3) = some r) ∧ Aside0 (kq ≤ k1) ∧ Aside0 (w'.heap[gb743]? = some (.cells #[.int .i64 ((rd_T48 l1 x6_1).f0), .int .i64 ((rd_T48 l1 x6_1).f1), .int .i64 ((rd_T48 l1 x6_1).f2), .int .i64 ((rd_T48 l1 x6_1).f3)] 48 (0, 0))) ∧ Aside0 (Below w.heap.size w w'))
      case atStart => exact ⟨(0), (by first | rfl | (simp; done) | (simp [*]; done)), H', ⟨Nat.le_refl _⟩, ⟨by (with_reducible repeat (first | refine blk_drewN ?_ _ | refine blk_drew ?_ | refine blk_alloc ?_ _)); refine blk_put (cs := #[.int .i64 ((rd_T48 l1 x6_1).f0), .int .i64 ((rd_T48 l1 x6_1).f1), .int .i64 ((rd_T48 l1 x6_1).f2), .int .i64 0]) ?_ 3 _ rfl; (with_reducible repeat (first | refine blk_drewN ?_ _ | refine blk_drew ?_ | refine blk_alloc ?_ _)); refine blk_put (cs := #[.int .i64 ((rd_T48 l1 x6_1).f0), .int .i64 ((rd_T48 l1 x6_1).f1), .int .i64 0, .int .i64 0]) ?_ 2 _ rfl; (with_reducible repeat (first | refine blk_drewN ?_ _ | refine blk_drew ?_ | refine blk_alloc ?_ _)); refine blk_put (cs := #[.int .i64 ((rd_T48 l1 x6_1).f0), .int .i64 0, .int .i64 0, .int .i64 0]) ?_ 1 _ rfl; (with_reducible repeat (first | refine blk_drewN ?_ _ | refine blk_drew ?_ | refine blk_alloc ?_ _)); refine blk_put (cs := #[.int .i64 0, .int .i64 0, .int .i64 0, .int .i64 0]) ?_ 0 _ rfl; (with_reducible repeat (first | refine blk_drewN ?_ _ | refine blk_drew ?_ | refine blk_alloc ?_ _)); exact BK743.out⟩, ⟨HBz⟩⟩
      case round =>
       clear H'
       try clear c1
       try clear c2
       try clear p2
       try clear c4
       try clear c6
       try clear c6b0
       try clear p6
       try clear c7
       try clear c7b0
       try clear p7
       try clear q7
       try clear hx7
       try clear hcz9_0
       try clear hcz9_1
       try clear hcz9_2
       try clear hcz9_3
       try clear hfz9_0
       try clear hfz9_1
       try clear hfz9_2
       try clear hfz9_3
       try clear hx742_0
       try clear hx742_1
       try clear hx742_2
       try clear hx742_3
       try clear p2
       try clear p742
       try clear q742
       obtain ⟨x8_2, rfl, HA, HK2, BK743, HB⟩ := hrel
       cases gk with
       | zero => exact absurd HA.out (by simp [tickingref01_Tiles.l1])
       | succ k2 =>
        have H := HA.out
        clear HA
        simp only [tickingref01_Tiles.l1] at H
        by_cases c10 : x8_2 < x6_1
        ·rw [if_pos c10] at H
         have c10b0 : decide (x8_2 < x6_1) = true := decide_eq_true c10
         clear c10
         by_cases c11 : 0 ≤ x8_2
         ·rw [if_pos c11] at H
          have c11b0 : decide (0 ≤ x8_2) = true := decide_eq_true c11
          clear c11
          by_cases c12 : x8_2 < (l1.length : Int)
          ·rw [if_pos c12] at H
           have c12b0 : decide (x8_2 < (l1.length : Int)) = true := decide_eq_true c12
           clear c12
           obtain ⟨ji13, hji13⟩ : ∃ j_ : Int, (mx ((rd_T48 l1 x6_1).f0) ((rd_T48 l1 x8_2).f0)) = j_ := ⟨_, rfl⟩
           replace H : (if (ji13) < (mn ((rd_T48 l1 x6_1).f2) ((rd_T48 l1 x8_2).f2)) then (if (mx ((rd_T48 l1 x6_1).f1) ((rd_T48 l1 x8_2).f1)) < (mn ((rd_T48 l1 x6_1).f3) ((rd_T48 l1 x8_2).f3)) then (some false) else (tickingref01_Tiles.l1 k2 l0 l1 (wrap64 (x5_1 + (wrap64 ((wrap64 (((rd_T48 l1 x6_1).f2) - ((rd_T48 l1 x6_1).f0))) * (wrap64 (((rd_T48 l1 x6_1).f3) - ((rd_T48 l1 x6_1).f1))))))) x6_1 (wrap64 (x8_2 + 1)) ((rd_T48 l1 x6_1).f0) ((rd_T48 l1 x6_1).f1) ((rd_T48 l1 x6_1).f2) ((rd_T48 l1 x6_1).f3))) else (tickingref01_Tiles.l1 k2 l0 l1 (wrap64 (x5_1 + (wrap64 ((wrap64 (((rd_T48 l1 x6_1).f2) - ((rd_T48 l1 x6_1).f0))) * (wrap64 (((rd_T48 l1 x6_1).f3) - ((rd_T48 l1 x6_1).f1))))))) x6_1 (wrap64 (x8_2 + 1)) ((rd_T48 l1 x6_1).f0) ((rd_T48 l1 x6_1).f1) ((rd_T48 l1 x6_1).f2) ((rd_T48 l1 x6_1).f3))) = some r := by first | (rw [hji13] at H; exact H) | (simp only [hji13] at H ⊢; exact H)
           have hji13_ : (if ((rd_T48 l1 x6_1).f0) < ((rd_T48 l1 x8_2).f0) then ((rd_T48 l1 x8_2).f0) else ((rd_T48 l1 x6_1).f0)) = ji13 := hji13
           obtain ⟨ji14, hji14⟩ : ∃ j_ : Int, (mn ((rd_T48 l1 x6_1).f2) ((rd_T48 l1 x8_2).f2)) = j_ := ⟨_, rfl⟩
           replace H : (if (ji13) < (ji14) then (if (mx ((rd_T48 l1 x6_1).f1) ((rd_T48 l1 x8_2).f1)) < (mn ((rd_T48 l1 x6_1).f3) ((rd_T48 l1 x8_2).f3)) then (some false) else (tickingref01_Tiles.l1 k2 l0 l1 (wrap64 (x5_1 + (wrap64 ((wrap64 (((rd_T48 l1 x6_1).f2) - ((rd_T48 l1 x6_1).f0))) * (wrap64 (((rd_T48 l1 x6_1).f3) - ((rd_T48 l1 x6_1).f1))))))) x6_1 (wrap64 (x8_2 + 1)) ((rd_T48 l1 x6_1).f0) ((rd_T48 l1 x6_1).f1) ((rd_T48 l1 x6_1).f2) ((rd_T48 l1 x6_1).f3))) else (tickingref01_Tiles.l1 k2 l0 l1 (wrap64 (x5_1 + (wrap64 ((wrap64 (((rd_T48 l1 x6_1).f2) - ((rd_T48 l1 x6_1).f0))) * (wrap64 (((rd_T48 l1 x6_1).f3) - ((rd_T48 l1 x6_1).f1))))))) x6_1 (wrap64 (x8_2 + 1)) ((rd_T48 l1 x6_1).f0) ((rd_T48 l1 x6_1).f1) ((rd_T48 l1 x6_1).f2) ((rd_T48 l1 x6_1).f3))) = some r := by first | (rw [hji14] at H; exact H) | (simp only [hji14] at H ⊢; exact H)
           have hji14_ : (if ((rd_T48 l1 x8_2).f2) < ((rd_T48 l1 x6_1).f2) then ((rd_T48 l1 x8_2).f2) else ((rd_T48 l1 x6_1).f2)) = ji14 := hji14
           by_cases c15 : (ji13) < (ji14)
           ·rw [if_pos c15] at H
            have c15b0 : decide ((ji13) < (ji14)) = true := decide_eq_true c15
            clear c15
            obtain ⟨ji16, hji16⟩ : ∃ j_ : Int, (mx ((rd_T48 l1 x6_1).f1) ((rd_T48 l1 x8_2).f1)) = j_ := ⟨_, rfl⟩
            replace H : (if (ji16) < (mn ((rd_T48 l1 x6_1).f3) ((rd_T48 l1 x8_2).f3)) then (some false) else (tickingref01_Tiles.l1 k2 l0 l1 (wrap64 (x5_1 + (wrap64 ((wrap64 (((rd_T48 l1 x6_1).f2) - ((rd_T48 l1 x6_1).f0))) * (wrap64 (((rd_T48 l1 x6_1).f3) - ((rd_T48 l1 x6_1).f1))))))) x6_1 (wrap64 (x8_2 + 1)) ((rd_T48 l1 x6_1).f0) ((rd_T48 l1 x6_1).f1) ((rd_T48 l1 x6_1).f2) ((rd_T48 l1 x6_1).f3))) = some r := by first | (rw [hji16] at H; exact H) | (simp only [hji16] at H ⊢; exact H)
            have hji16_ : (if ((rd_T48 l1 x6_1).f1) < ((rd_T48 l1 x8_2).f1) then ((rd_T48 l1 x8_2).f1) else ((rd_T48 l1 x6_1).f1)) = ji16 := hji16
            obtain ⟨ji17, hji17⟩ : ∃ j_ : Int, (mn ((rd_T48 l1 x6_1).f3) ((rd_T48 l1 x8_2).f3)) = j_ := ⟨_, rfl⟩
            replace H : (if (ji16) < (ji17) then (some false) else (tickingref01_Tiles.l1 k2 l0 l1 (wrap64 (x5_1 + (wrap64 ((wrap64 (((rd_T48 l1 x6_1).f2) - ((rd_T48 l1 x6_1).f0))) * (wrap64 (((rd_T48 l1 x6_1).f3) - ((rd_T48 l1 x6_1).f1))))))) x6_1 (wrap64 (x8_2 + 1)) ((rd_T48 l1 x6_1).f0) ((rd_T48 l1 x6_1).f1) ((rd_T48 l1 x6_1).f2) ((rd_T48 l1 x6_1).f3))) = some r := by first | (rw [hji17] at H; exact H) | (simp only [hji17] at H ⊢; exact H)
            have hji17_ : (if ((rd_T48 l1 x8_2).f3) < ((rd_T48 l1 x6_1).f3) then ((rd_T48 l1 x8_2).f3) else ((rd_T48 l1 x6_1).f3)) = ji17 := hji17
            by_cases c18 : (ji16) < (ji17)
            ·rw [if_pos c18] at H
             have c18b0 : decide ((ji16) < (ji17)) = true := decide_eq_true c18
             clear c18
             obtain rfl := Option.some.inj H
             have p744 : 0 ≤ (x8_2 : Int) := of_decide_eq_true (by first | (with_reducible assumption) | assumption)
             have q744 : x8_2 < (l1.length : Int) := of_decide_eq_true (by first | (with_reducible assumption) | assumption)
             obtain ⟨ad744, e744, hx744_0, hx744_1, hx744_2, hx744_3⟩ := at_T48 HR1.out x8_2 p744 q744
             obtain rfl : ad742 = ad744 := (by injection e744)
             replace hx744_0 := (HB.out.cell (World.block_lt_of_cell? w _ hx744_0)).trans hx744_0
             replace hx744_1 := (HB.out.cell (World.block_lt_of_cell? w _ hx744_1)).trans hx744_1
             replace hx744_2 := (HB.out.cell (World.block_lt_of_cell? w _ hx744_2)).trans hx744_2
             replace hx744_3 := (HB.out.cell (World.block_lt_of_cell? w _ hx744_3)).trans hx744_3
             replace p744 := eq_true p744
             replace q744 := eq_true q744
             go_wp2_with (first | ((with_reducible refine gate_dst (N := 9) rfl ?_); (try (refine gate_guard (by rfl) ?_; dsimp only)); refine bxE 9 #[.int .i64 0, .int .i64 0, .int .i64 0, .int .i64 0] 48 ?_; intro gb745 hg w19 hbox hb; have n0_ := Aside0.mk (blk_below (g := gb743) BKz hb); have n1_ := Aside0.mk (below_step HBz hb); have n2_ := Aside0.mk (hbox); have n3_ := Aside0.mk ((by rw [hg]; exact (below_size HBz) : w.heap.size ≤ gb745)); have n4_ := Aside0.mk ((by rw [hg]; exact (below_size HBz) : w.heap.size ≤ gb745)); have n5_ := Aside0.mk ((by rw [hg]; exact Nat.ne_of_lt (blk_lt (g := gb743) BKz) : gb743 ≠ gb745)); have n6_ := Aside0.mk ((by rw [hg]; exact Nat.ne_of_gt (blk_lt (g := gb743) BKz) : gb745 ≠ gb743)); clear BK743; clear HB; have BK743 := n0_; have HB := n1_; have BK745 := n2_; have GW745 := n3_; have GE745 := n4_; have NB743_745 := n5_; have NB745_743 := n6_; clear n0_ n1_ n2_ n3_ n4_ n5_ n6_; clear hb hbox hg; have hnb20 := NB745_743.out; have hnc20 := NB743_745.out; have hcz21_0 : w19.cell? ⟨gb745, 0, none⟩ = some (.int .i64 0) := (blk_cell BK745.out 0).trans rfl; have hcz21_1 : w19.cell? ⟨gb745, 1, none⟩ = some (.int .i64 0) := (blk_cell BK745.out 1).trans rfl; have hcz21_2 : w19.cell? ⟨gb745, 2, none⟩ = some (.int .i64 0) := (blk_cell BK745.out 2).trans rfl; have hcz21_3 : w19.cell? ⟨gb745, 3, none⟩ = some (.int .i64 0) := (blk_cell BK745.out 3).trans rfl; have hfz21_0 := blk_frozen BK745.out 0; have hfz21_1 := blk_frozen BK745.out 1; have hfz21_2 := blk_frozen BK745.out 2; have hfz21_3 := blk_frozen BK745.out 3; have hcz22_0 : w19.cell? ⟨gb743, 0, none⟩ = some (.int .i64 ((rd_T48 l1 x6_1).f0)) := (blk_cell BK743.out 0).trans rfl; have hcz22_1 : w19.cell? ⟨gb743, 1, none⟩ = some (.int .i64 ((rd_T48 l1 x6_1).f1)) := (blk_cell BK743.out 1).trans rfl; have hcz22_2 : w19.cell? ⟨gb743, 2, none⟩ = some (.int .i64 ((rd_T48 l1 x6_1).f2)) := (blk_cell BK743.out 2).trans rfl; have hcz22_3 : w19.cell? ⟨gb743, 3, none⟩ = some (.int .i64 ((rd_T48 l1 x6_1).f3)) := (blk_cell BK743.out 3).trans rfl; have hfz22_0 := blk_frozen BK743.out 0; have hfz22_1 := blk_frozen BK743.out 1; have hfz22_2 := blk_frozen BK743.out 2; have hfz22_3 := blk_frozen BK743.out 3))
             go_ret
             exact ⟨by first | rfl | (simp [errW_none, errW_some] <;> rfl) | (simp only [← hji13, ← hji14, ← hji16, ← hji17]; first | rfl | (simp [errW_none, errW_some] <;> rfl)) | (simp [*, errW_none, errW_some] <;> rfl), HBz⟩
            ·rw [if_neg c18] at H
             have c18b0 : decide ((ji16) < (ji17)) = false := decide_eq_false c18
             clear c18
             have H' := Aside0.mk H
             clear H
             have p744 : 0 ≤ (x8_2 : Int) := of_decide_eq_true (by first | (with_reducible assumption) | assumption)
             have q744 : x8_2 < (l1.length : Int) := of_decide_eq_true (by first | (with_reducible assumption) | assumption)
             obtain ⟨ad744, e744, hx744_0, hx744_1, hx744_2, hx744_3⟩ := at_T48 HR1.out x8_2 p744 q744
             obtain rfl : ad742 = ad744 := (by injection e744)
             replace hx744_0 := (HB.out.cell (World.block_lt_of_cell? w _ hx744_0)).trans hx744_0
             replace hx744_1 := (HB.out.cell (World.block_lt_of_cell? w _ hx744_1)).trans hx744_1
             replace hx744_2 := (HB.out.cell (World.block_lt_of_cell? w _ hx744_2)).trans hx744_2
             replace hx744_3 := (HB.out.cell (World.block_lt_of_cell? w _ hx744_3)).trans hx744_3
             replace p744 := eq_true p744
             replace q744 := eq_true q744
             go_wp2_with (first | ((with_reducible refine gate_dst (N := 9) rfl ?_); (try (refine gate_guard (by rfl) ?_; dsimp only)); refine bxE 9 #[.int .i64 0, .int .i64 0, .int .i64 0, .int .i64 0] 48 ?_; intro gb745 hg w23 hbox hb; have n0_ := Aside0.mk (blk_below (g := gb743) BKz hb); have n1_ := Aside0.mk (below_step HBz hb); have n2_ := Aside0.mk (hbox); have n3_ := Aside0.mk ((by rw [hg]; exact (below_size HBz) : w.heap.size ≤ gb745)); have n4_ := Aside0.mk ((by rw [hg]; exact (below_size HBz) : w.heap.size ≤ gb745)); have n5_ := Aside0.mk ((by rw [hg]; exact Nat.ne_of_lt (blk_lt (g := gb743) BKz) : gb743 ≠ gb745)); have n6_ := Aside0.mk ((by rw [hg]; exact Nat.ne_of_gt (blk_lt (g := gb743) BKz) : gb745 ≠ gb743)); clear BK743; clear HB; have BK743 := n0_; have HB := n1_; have BK745 := n2_; have GW745 := n3_; have GE745 := n4_; have NB743_745 := n5_; have NB745_743 := n6_; clear n0_ n1_ n2_ n3_ n4_ n5_ n6_; clear hb hbox hg; have hnb24 := NB745_743.out; have hnc24 := NB743_745.out; have hcz25_0 : w23.cell? ⟨gb745, 0, none⟩ = some (.int .i64 0) := (blk_cell BK745.out 0).trans rfl; have hcz25_1 : w23.cell? ⟨gb745, 1, none⟩ = some (.int .i64 0) := (blk_cell BK745.out 1).trans rfl; have hcz25_2 : w23.cell? ⟨gb745, 2, none⟩ = some (.int .i64 0) := (blk_cell BK745.out 2).trans rfl; have hcz25_3 : w23.cell? ⟨gb745, 3, none⟩ = some (.int .i64 0) := (blk_cell BK745.out 3).trans rfl; have hfz25_0 := blk_frozen BK745.out 0; have hfz25_1 := blk_frozen BK745.out 1; have hfz25_2 := blk_frozen BK745.out 2; have hfz25_3 := blk_frozen BK745.out 3; have hcz26_0 : w23.cell? ⟨gb743, 0, none⟩ = some (.int .i64 ((rd_T48 l1 x6_1).f0)) := (blk_cell BK743.out 0).trans rfl; have hcz26_1 : w23.cell? ⟨gb743, 1, none⟩ = some (.int .i64 ((rd_T48 l1 x6_1).f1)) := (blk_cell BK743.out 1).trans rfl; have hcz26_2 : w23.cell? ⟨gb743, 2, none⟩ = some (.int .i64 ((rd_T48 l1 x6_1).f2)) := (blk_cell BK743.out 2).trans rfl; have hcz26_3 : w23.cell? ⟨gb743, 3, none⟩ = some (.int .i64 ((rd_T48 l1 x6_1).f3)) := (blk_cell BK743.out 3).trans rfl; have hfz26_0 := blk_frozen BK743.out 0; have hfz26_1 := blk_frozen BK743.out 1; have hfz26_2 := blk_frozen BK743.out 2; have hfz26_3 := blk_frozen BK743.out 3))
             go_roundg k2
             case measure => have := HK1.out; have := HK2.out; omega
             case rel => exact ⟨(wrap64 (x8_2 + 1)), (by first | rfl | (simp; done) | (simp [*]; done)), H', ⟨by have := HK1.out; have := HK2.out; omega⟩, ⟨by (with_reducible repeat (first | refine blk_drewN ?_ _ | refine blk_drew ?_ | refine blk_alloc ?_ _)); refine blk_far ?_ NB743_745.out _; (with_reducible repeat (first | refine blk_drewN ?_ _ | refine blk_drew ?_ | refine blk_alloc ?_ _)); refine blk_far ?_ NB743_745.out _; (with_reducible repeat (first | refine blk_drewN ?_ _ | refine blk_drew ?_ | refine blk_alloc ?_ _)); refine blk_far ?_ NB743_745.out _; (with_reducible repeat (first | refine blk_drewN ?_ _ | refine blk_drew ?_ | refine blk_alloc ?_ _)); refine blk_far ?_ NB743_745.out _; (with_reducible repeat (first | refine blk_drewN ?_ _ | refine blk_drew ?_ | refine blk_alloc ?_ _)); exact BK743.out⟩, ⟨HBz⟩⟩
           ·rw [if_neg c15] at H
            have c15b0 : decide ((ji13) < (ji14)) = false := decide_eq_false c15
            clear c15
            have H' := Aside0.mk H
            clear H
            have p744 : 0 ≤ (x8_2 : Int) := of_decide_eq_true (by first | (with_reducible assumption) | assumption)
            have q744 : x8_2 < (l1.length : Int) := of_decide_eq_true (by first | (with_reducible assumption) | assumption)
            obtain ⟨ad744, e744, hx744_0, hx744_1, hx744_2, hx744_3⟩ := at_T48 HR1.out x8_2 p744 q744
            obtain rfl : ad742 = ad744 := (by injection e744)
            replace hx744_0 := (HB.out.cell (World.block_lt_of_cell? w _ hx744_0)).trans hx744_0
            replace hx744_1 := (HB.out.cell (World.block_lt_of_cell? w _ hx744_1)).trans hx744_1
            replace hx744_2 := (HB.out.cell (World.block_lt_of_cell? w _ hx744_2)).trans hx744_2
            replace hx744_3 := (HB.out.cell (World.block_lt_of_cell? w _ hx744_3)).trans hx744_3
            replace p744 := eq_true p744
            replace q744 := eq_true q744
            go_wp2_with (first | ((with_reducible refine gate_dst (N := 9) rfl ?_); (try (refine gate_guard (by rfl) ?_; dsimp only)); refine bxE 9 #[.int .i64 0, .int .i64 0, .int .i64 0, .int .i64 0] 48 ?_; intro gb745 hg w27 hbox hb; have n0_ := Aside0.mk (blk_below (g := gb743) BKz hb); have n1_ := Aside0.mk (below_step HBz hb); have n2_ := Aside0.mk (hbox); have n3_ := Aside0.mk ((by rw [hg]; exact (below_size HBz) : w.heap.size ≤ gb745)); have n4_ := Aside0.mk ((by rw [hg]; exact (below_size HBz) : w.heap.size ≤ gb745)); have n5_ := Aside0.mk ((by rw [hg]; exact Nat.ne_of_lt (blk_lt (g := gb743) BKz) : gb743 ≠ gb745)); have n6_ := Aside0.mk ((by rw [hg]; exact Nat.ne_of_gt (blk_lt (g := gb743) BKz) : gb745 ≠ gb743)); clear BK743; clear HB; have BK743 := n0_; have HB := n1_; have BK745 := n2_; have GW745 := n3_; have GE745 := n4_; have NB743_745 := n5_; have NB745_743 := n6_; clear n0_ n1_ n2_ n3_ n4_ n5_ n6_; clear hb hbox hg; have hnb28 := NB745_743.out; have hnc28 := NB743_745.out; have hcz29_0 : w27.cell? ⟨gb745, 0, none⟩ = some (.int .i64 0) := (blk_cell BK745.out 0).trans rfl; have hcz29_1 : w27.cell? ⟨gb745, 1, none⟩ = some (.int .i64 0) := (blk_cell BK745.out 1).trans rfl; have hcz29_2 : w27.cell? ⟨gb745, 2, none⟩ = some (.int .i64 0) := (blk_cell BK745.out 2).trans rfl; have hcz29_3 : w27.cell? ⟨gb745, 3, none⟩ = some (.int .i64 0) := (blk_cell BK745.out 3).trans rfl; have hfz29_0 := blk_frozen BK745.out 0; have hfz29_1 := blk_frozen BK745.out 1; have hfz29_2 := blk_frozen BK745.out 2; have hfz29_3 := blk_frozen BK745.out 3; have hcz30_0 : w27.cell? ⟨gb743, 0, none⟩ = some (.int .i64 ((rd_T48 l1 x6_1).f0)) := (blk_cell BK743.out 0).trans rfl; have hcz30_1 : w27.cell? ⟨gb743, 1, none⟩ = some (.int .i64 ((rd_T48 l1 x6_1).f1)) := (blk_cell BK743.out 1).trans rfl; have hcz30_2 : w27.cell? ⟨gb743, 2, none⟩ = some (.int .i64 ((rd_T48 l1 x6_1).f2)) := (blk_cell BK743.out 2).trans rfl; have hcz30_3 : w27.cell? ⟨gb743, 3, none⟩ = some (.int .i64 ((rd_T48 l1 x6_1).f3)) := (blk_cell BK743.out 3).trans rfl; have hfz30_0 := blk_frozen BK743.out 0; have hfz30_1 := blk_frozen BK743.out 1; have hfz30_2 := blk_frozen BK743.out 2; have hfz30_3 := blk_frozen BK743.out 3))
            go_roundg k2
            case measure => have := HK1.out; have := HK2.out; omega
            case rel => exact ⟨(wrap64 (x8_2 + 1)), (by first | rfl | (simp; done) | (simp [*]; done)), H', ⟨by have := HK1.out; have := HK2.out; omega⟩, ⟨by (with_reducible repeat (first | refine blk_drewN ?_ _ | refine blk_drew ?_ | refine blk_alloc ?_ _)); refine blk_far ?_ NB743_745.out _; (with_reducible repeat (first | refine blk_drewN ?_ _ | refine blk_drew ?_ | refine blk_alloc ?_ _)); refine blk_far ?_ NB743_745.out _; (with_reducible repeat (first | refine blk_drewN ?_ _ | refine blk_drew ?_ | refine blk_alloc ?_ _)); refine blk_far ?_ NB743_745.out _; (with_reducible repeat (first | refine blk_drewN ?_ _ | refine blk_drew ?_ | refine blk_alloc ?_ _)); refine blk_far ?_ NB743_745.out _; (with_reducible repeat (first | refine blk_drewN ?_ _ | refine blk_drew ?_ | refine blk_alloc ?_ _)); exact BK743.out⟩, ⟨HBz⟩⟩
          ·rw [if_neg c12] at H
           exact absurd H (by simp)
         ·rw [if_neg c11] at H
          exact absurd H (by simp)
        ·rw [if_neg c10] at H
         have c10b0 : decide (x8_2 < x6_1) = false := decide_eq_false c10
         clear c10
         replace H := Option.bind_eq_some_iff.mp H
         obtain ⟨t746, A310, H⟩ := H
         replace H : ((tickingref01_insert.f k2 t746 ((rd_T48 l1 x6_1).f0)).bind fun t749 => ((tickingref01_lines.f k2 l0 false).bind fun t752 => ((tickingref01_insert.f k2 t752 ((rd_T48 l1 x6_1).f1)).bind fun t755 => (tickingref01_Tiles.l2 k2 l0 l1 (wrap64 (x5_1 + (wrap64 ((wrap64 (((rd_T48 l1 x6_1).f2) - ((rd_T48 l1 x6_1).f0))) * (wrap64 (((rd_T48 l1 x6_1).f3) - ((rd_T48 l1 x6_1).f1))))))) x6_1 t749 t755 0 ((rd_T48 l1 x6_1).f0) ((rd_T48 l1 x6_1).f1) ((rd_T48 l1 x6_1).f2) ((rd_T48 l1 x6_1).f3))))) = some r := H
         have A31 := Aside0.mk A310
         clear A310
         replace H := Option.bind_eq_some_iff.mp H
         obtain ⟨t749, A320, H⟩ := H
         replace H : ((tickingref01_lines.f k2 l0 false).bind fun t752 => ((tickingref01_insert.f k2 t752 ((rd_T48 l1 x6_1).f1)).bind fun t755 => (tickingref01_Tiles.l2 k2 l0 l1 (wrap64 (x5_1 + (wrap64 ((wrap64 (((rd_T48 l1 x6_1).f2) - ((rd_T48 l1 x6_1).f0))) * (wrap64 (((rd_T48 l1 x6_1).f3) - ((rd_T48 l1 x6_1).f1))))))) x6_1 t749 t755 0 ((rd_T48 l1 x6_1).f0) ((rd_T48 l1 x6_1).f1) ((rd_T48 l1 x6_1).f2) ((rd_T48 l1 x6_1).f3)))) = some r := H
         have A32 := Aside0.mk A320
         clear A320
         replace H := Option.bind_eq_some_iff.mp H
         obtain ⟨t752, A330, H⟩ := H
         replace H : ((tickingref01_insert.f k2 t752 ((rd_T48 l1 x6_1).f1)).bind fun t755 => (tickingref01_Tiles.l2 k2 l0 l1 (wrap64 (x5_1 + (wrap64 ((wrap64 (((rd_T48 l1 x6_1).f2) - ((rd_T48 l1 x6_1).f0))) * (wrap64 (((rd_T48 l1 x6_1).f3) - ((rd_T48 l1 x6_1).f1))))))) x6_1 t749 t755 0 ((rd_T48 l1 x6_1).f0) ((rd_T48 l1 x6_1).f1) ((rd_T48 l1 x6_1).f2) ((rd_T48 l1 x6_1).f3))) = some r := H
         have A33 := Aside0.mk A330
         clear A330
         replace H := Option.bind_eq_some_iff.mp H
         obtain ⟨t755, A340, H⟩ := H
         replace H : (tickingref01_Tiles.l2 k2 l0 l1 (wrap64 (x5_1 + (wrap64 ((wrap64 (((rd_T48 l1 x6_1).f2) - ((rd_T48 l1 x6_1).f0))) * (wrap64 (((rd_T48 l1 x6_1).f3) - ((rd_T48 l1 x6_1).f1))))))) x6_1 t749 t755 0 ((rd_T48 l1 x6_1).f0) ((rd_T48 l1 x6_1).f1) ((rd_T48 l1 x6_1).f2) ((rd_T48 l1 x6_1).f3)) = some r := H
         have A34 := Aside0.mk A340
         clear A340
         have H' := Aside0.mk H
         clear H
         try go_wp2
         have n0_ := Aside0.mk (blk_drew BK743.out)
         have n1_ := Aside0.mk (below_drew1 HB.out)
         clear BK743
         clear HB
         have BK743 := n0_
         have HB := n1_
         clear n0_ n1_
         refine stz (fun w' => w'.cell? ⟨gb743, 0, none⟩ = some (.int .i64 ((rd_T48 l1 x6_1).f0)) ∧ w'.cell? ⟨gb743, 1, none⟩ = some (.int .i64 ((rd_T48 l1 x6_1).f1)) ∧ w'.cell? ⟨gb743, 2, none⟩ = some (.int .i64 ((rd_T48 l1 x6_1).f2)) ∧ w'.cell? ⟨gb743, 3, none⟩ = some (.int .i64 ((rd_T48 l1 x6_1).f3))) [] (bn 12 0) ⟨(blk_cell BK743.out 0).trans rfl, (blk_cell BK743.out 1).trans rfl, (blk_cell BK743.out 2).trans rfl, (blk_cell BK743.out 3).trans rfl⟩ (fun hHeld => ?_); refine with_tabW tickingref01_Tiles.tab15 tickingref01_Tiles.bits15 (fun HT_ HW_ => ?_)
         generalize wr.drew = w35 at BK743 HB hHeld ⊢
         refine pT HT_.out 0 (some 73) (bn 12 1) ?_
         refine pT HT_.out 2 (some 75) (bn 12 5) ?_
         refine pT HT_.out 5 (some 78) (bn 12 37) ?_
         refine pT HT_.out 7 (some 80) (bn 12 165) ?_
         refine tT HT_.out HW_.out 3 (some 76) (bn 12 173) hHeld ?_
         refine tT HT_.out HW_.out 8 (some 81) (bn 12 429) hHeld ?_
         refine oT HT_.out 1 (some 74) (bn 12 431) (fun K hK => ?_)
         refine gz Try.func51 #[.slice A0 l0.length c0, .bool true] ?_
         with_reducible refine (tickingref01_lines.calls k2 _ _ l0 true t746 _ ?side1 ?side2 A31.out).mono ?_
         (case side1 => repeat (first | exact (Kd.C_below HR0.out HB.out) | (with_reducible refine Kd.C_alloc ?_ _) | (with_reducible refine Kd.C_drewN ?_ _) | (with_reducible refine Kd.C_drew ?_)))
         (case side2 => exact HC0.out)
         rintro e w36 ⟨v747, rfl, ho0, hb⟩
         refine ⟨_, rfl, ?_⟩
         have n0_ := Aside0.mk (Kd.R_lower ho0 (below_size HBz))
         have n1_ := Aside0.mk (blk_below (g := gb743) BKz hb)
         have n2_ := Aside0.mk (below_step HBz hb)
         clear BK743
         clear HB
         have HO748 := n0_
         have BK743 := n1_
         have HB := n2_
         clear n0_ n1_ n2_
         (try clear hb)
         (try clear hb2)
         (try clear hk)
         (try clear hi)
         (try clear ho0)
         obtain ⟨Ao37, co37, eo37⟩ := Kd.R_slice HO748.out
         (first | subst eo37 | (injection eo37 with f1_ f2_ f3_; have f4_ := f1_.symm; have f5_ := f3_.symm; clear f1_ f2_ f3_; subst f4_; subst f5_))
         refine hK.out _ _ ⟨(blk_cell BK743.out 0).trans rfl, (blk_cell BK743.out 1).trans rfl, (blk_cell BK743.out 2).trans rfl, (blk_cell BK743.out 3).trans rfl⟩ (fun hHeld => ?_)
         clear hK K
         refine nz (some 74) ?_
         refine oT HT_.out 4 (some 77) (bn 12 447) (fun K hK => ?_)
         refine gz Try.func67 #[.slice Ao37 t746.length co37, .int .i64 ((rd_T48 l1 x6_1).f0)] ?_
         with_reducible refine (tickingref01_insert.calls k2 (fun k_ => some k_ = (.slice Ao37 t746.length co37 : Value).ownBlock) (.slice Ao37 t746.length co37) t746 ((rd_T48 l1 x6_1).f0) t749 w _ ?side1 ?side2 A32.out).mono ?_
         (case side1 => repeat (first | (with_reducible first | exact HB.out | apply below_alloc | apply pw_below_drewN | apply below_drew1 | refine below_set ?_ GE743.out) | exact HB.out))
         (case side2 => exact Kd.R_tight rfl HO748.out)
         rintro e w38 ⟨v750, rfl, ho0, hb, hkp⟩
         refine ⟨_, rfl, ?_⟩
         have n0_ := Aside0.mk (blk_kept BKz hkp (fun hs_ => (fun e_ => (Kd.R_ne HO748.out BK743.out (by decide)) e_) hs_))
         have n1_ := Aside0.mk (Kd.R_mono (ok' := fun k_ => True) ho0 (fun k_ hk_ => trivial))
         have n2_ := Aside0.mk (hb)
         clear BK743
         clear HB
         clear HO748
         have BK743 := n0_
         have HO751 := n1_
         have HB := n2_
         clear n0_ n1_ n2_
         (try clear hb)
         (try clear hkp)
         (try clear ho0)
         refine hK.out _ _ ⟨(blk_cell BK743.out 0).trans rfl, (blk_cell BK743.out 1).trans rfl, (blk_cell BK743.out 2).trans rfl, (blk_cell BK743.out 3).trans rfl⟩ (fun hHeld => ?_)
         clear hK K
         refine nz (some 77) ?_
         refine oT HT_.out 6 (some 79) (bn 12 511) (fun K hK => ?_)
         refine gz Try.func51 #[.slice A0 l0.length c0, .bool false] ?_
         with_reducible refine (tickingref01_lines.calls k2 _ _ l0 false t752 _ ?side1 ?side2 A33.out).mono ?_
         (case side1 => repeat (first | exact (Kd.C_below HR0.out HB.out) | (with_reducible refine Kd.C_alloc ?_ _) | (with_reducible refine Kd.C_drewN ?_ _) | (with_reducible refine Kd.C_drew ?_)))
         (case side2 => exact HC0.out)
         rintro e w39 ⟨v753, rfl, ho0, hb⟩
         refine ⟨_, rfl, ?_⟩
         have n0_ := Aside0.mk (Kd.R_elder' (by (with_reducible repeat (first | apply Kd.R_alloc | apply Kd.R_drewN | apply Kd.R_drew)); exact HO751.out) (Kd.R_base ho0) hb)
         have n1_ := Aside0.mk (Kd.R_lower (Kd.R_new' ho0 (Kd.R_lt (by (with_reducible repeat (first | apply Kd.R_alloc | apply Kd.R_drewN | apply Kd.R_drew)); exact HO751.out))) (below_size HBz))
         have n2_ := Aside0.mk (blk_below (g := gb743) BKz hb)
         have n3_ := Aside0.mk (below_step HBz hb)
         clear HO751
         clear BK743
         clear HB
         have HO751 := n0_
         have HO754 := n1_
         have BK743 := n2_
         have HB := n3_
         clear n0_ n1_ n2_ n3_
         (try clear hb)
         (try clear hb2)
         (try clear hk)
         (try clear hi)
         (try clear ho0)
         obtain ⟨Ao40, co40, eo40⟩ := Kd.R_slice HO754.out
         (first | subst eo40 | (injection eo40 with f1_ f2_ f3_; have f4_ := f1_.symm; have f5_ := f3_.symm; clear f1_ f2_ f3_; subst f4_; subst f5_))
         refine hK.out _ _ ⟨(blk_cell BK743.out 0).trans rfl, (blk_cell BK743.out 1).trans rfl, (blk_cell BK743.out 2).trans rfl, (blk_cell BK743.out 3).trans rfl⟩ (fun hHeld => ?_)
         clear hK K
         refine nz (some 79) ?_
         refine oT HT_.out 9 (some 82) (bn 12 1023) (fun K hK => ?_)
         refine gz Try.func67 #[.slice Ao40 t752.length co40, .int .i64 ((rd_T48 l1 x6_1).f1)] ?_
         with_reducible refine (tickingref01_insert.calls k2 (fun k_ => some k_ = (.slice Ao40 t752.length co40 : Value).ownBlock) (.slice Ao40 t752.length co40) t752 ((rd_T48 l1 x6_1).f1) t755 w _ ?side1 ?side2 A34.out).mono ?_
         (case side1 => repeat (first | (with_reducible first | exact HB.out | apply below_alloc | apply pw_below_drewN | apply below_drew1 | refine below_set ?_ GE743.out) | exact HB.out))
         (case side2 => exact Kd.R_tight rfl HO754.out)
         rintro e w41 ⟨v756, rfl, ho0, hb, hkp⟩
         refine ⟨_, rfl, ?_⟩
         have n0_ := Aside0.mk (blk_kept BKz hkp (fun hs_ => (fun e_ => (Kd.R_ne HO754.out BK743.out (by decide)) e_) hs_))
         have n1_ := Aside0.mk (Kd.R_mono (ok' := fun k_ => some k_ ≠ (v756 : Value).ownBlock) (Kd.R_keptB (HO751.out) hkp (fun k_ hk_ hs_ => (hk_.2) hs_)) (fun k_ hk_ => fun e_ => Or.elim (ho0.1 k_ e_.symm) (fun hs_ => hk_.2.1 hs_) (fun hn_ => Nat.not_le.2 hk_.2.2 hn_)))
         have n2_ := Aside0.mk (Kd.R_mono (ok' := fun k_ => some k_ ≠ (v750 : Value).ownBlock) ho0 (fun k_ hk_ => Or.elim hk_ (fun hs_ => fun e_ => (((HO751.out).1 k_ e_.symm).2) hs_) (fun hn_ => (Kd.fresh' (Kd.R_lt (by (with_reducible repeat (first | apply Kd.R_alloc | apply Kd.R_drewN | apply Kd.R_drew)); exact HO751.out)) k_ hn_))))
         have n3_ := Aside0.mk (hb)
         clear BK743
         clear HO751
         clear HB
         clear HO754
         have BK743 := n0_
         have HO751 := n1_
         have HO757 := n2_
         have HB := n3_
         clear n0_ n1_ n2_ n3_
         (try clear hb)
         (try clear hkp)
         (try clear ho0)
         refine hK.out _ _ ⟨(blk_cell BK743.out 0).trans rfl, (blk_cell BK743.out 1).trans rfl, (blk_cell BK743.out 2).trans rfl, (blk_cell BK743.out 3).trans rfl⟩ (fun hHeld => ?_)
         clear hK K
         refine nz (some 82) ?_
         refine pT HT_.out 10 (some 10) (bn 12 2047) ?_
         refine pT HT_.out 11 (some 11) (bn 12 4095) ?_
         refine done_ (done_of HT_.out (by kernel_rfl)) ?_
         try go_wp2
         go_loopg [12] k2 (fun kq v12 w' => ∃ (x12_3 : Int), v12 = .int .i64 x12_3 ∧ Aside0 (tickingref01_Tiles.l2 kq l0 l1 (wrap64 (x5_1 + (wrap64 ((wrap64 (((rd_T48 l1 x6_1).f2) - ((rd_T48 l1 x6_1).f0))) * (wrap64 (((rd_T48 l1 x6_1).f3) - ((rd_T48 l1 x6_1).f1))))))) x6_1 t749 t755 x12_3 ((rd_T48 l1 x6_1).f0) ((rd_T48 l1 x6_1).f1) ((rd_T48 l1 x6_1).f2) ((rd_T48 l1 x6_1).f3) = some r) ∧ Aside0 (kq ≤ k2) ∧ Aside0 (Kd.R (Kd.int .i64) 3 w' w.heap.size (fun k_ => some k_ ≠ (v756 : Value).ownBlock) v750 t749) ∧ Aside0 (Kd.R (Kd.int .i64) 3 w' w.heap.size (fun k_ => some k_ ≠ (v750 : Value).ownBlock) v756 t755) ∧ Aside0 (w'.heap[gb743]? = some (.cells #[.int .i64 ((rd_T48 l1 x6_1).f0), .int .i64 ((rd_T48 l1 x6_1).f1), .int .i64 ((rd_T48 l1 x6_1).f2), .int .i64 ((rd_T48 l1 x6_1).f3)] 48 (0, 0))) ∧ Aside0 (Below w.heap.size w w'))
         case atStart => exact ⟨(0), (by first | rfl | (simp; done) | (simp [*]; done)), H', ⟨Nat.le_refl _⟩, ⟨by (with_reducible repeat (first | apply Kd.R_alloc | apply Kd.R_drewN | apply Kd.R_drew)); exact HO751.out⟩, ⟨by (with_reducible repeat (first | apply Kd.R_alloc | apply Kd.R_drewN | apply Kd.R_drew)); exact HO757.out⟩, ⟨by (with_reducible repeat (first | refine blk_drewN ?_ _ | refine blk_drew ?_ | refine blk_alloc ?_ _)); exact BK743.out⟩, ⟨HBz⟩⟩
         case round =>
          clear H'
          try clear c1
          try clear c2
          try clear p2
          try clear c4
          try clear c5
          try clear c6
          try clear c6b0
          try clear p6
          try clear c7
          try clear c7b0
          try clear p7
          try clear q7
          try clear hx7
          try clear c10
          try clear c10b0
          try clear c11
          try clear c11b0
          try clear c12
          try clear c12b0
          try clear c15
          try clear c15b0
          try clear c18
          try clear c18b0
          try clear c20
          try clear c24
          try clear c28
          try clear hcz21_0
          try clear hcz21_1
          try clear hcz21_2
          try clear hcz21_3
          try clear hcz22_0
          try clear hcz22_1
          try clear hcz22_2
          try clear hcz22_3
          try clear hcz25_0
          try clear hcz25_1
          try clear hcz25_2
          try clear hcz25_3
          try clear hcz26_0
          try clear hcz26_1
          try clear hcz26_2
          try clear hcz26_3
          try clear hcz29_0
          try clear hcz29_1
          try clear hcz29_2
          try clear hcz29_3
          try clear hcz30_0
          try clear hcz30_1
          try clear hcz30_2
          try clear hcz30_3
          try clear hcz9_0
          try clear hcz9_1
          try clear hcz9_2
          try clear hcz9_3
          try clear hfz21_0
          try clear hfz21_1
          try clear hfz21_2
          try clear hfz21_3
          try clear hfz22_0
          try clear hfz22_1
          try clear hfz22_2
          try clear hfz22_3
          try clear hfz25_0
          try clear hfz25_1
          try clear hfz25_2
          try clear hfz25_3
          try clear hfz26_0
          try clear hfz26_1
          try clear hfz26_2
          try clear hfz26_3
          try clear hfz29_0
          try clear hfz29_1
          try clear hfz29_2
          try clear hfz29_3
          try clear hfz30_0
          try clear hfz30_1
          try clear hfz30_2
          try clear hfz30_3
          try clear hfz9_0
          try clear hfz9_1
          try clear hfz9_2
          try clear hfz9_3
          try clear hx742_0
          try clear hx742_1
          try clear hx742_2
          try clear hx742_3
          try clear hx744_0
          try clear hx744_1
          try clear hx744_2
          try clear hx744_3
          try clear p2
          try clear p6
          try clear p7
          try clear p742
          try clear p744
          try clear q7
          try clear q742
          try clear q744
          obtain ⟨x12_3, rfl, HA, HK3, HO_10, HO_11, BK743, HB⟩ := hrel
          cases gk with
          | zero => exact absurd HA.out (by simp [tickingref01_Tiles.l2])
          | succ k3 =>
           have H := HA.out
           clear HA
           simp only [tickingref01_Tiles.l2] at H
           by_cases c42 : x12_3 < (t749.length : Int)
           ·rw [if_pos c42] at H
            have c42b0 : decide (x12_3 < (t749.length : Int)) = true := decide_eq_true c42
            clear c42
            have H' := Aside0.mk H
            clear H
            obtain ⟨Ao43, co43, eo43⟩ := Kd.R_slice HO_10.out
            subst eo43
            go_wp2
            go_loopg [13] k3 (fun kq v13 w' => ∃ (x13_4 : Int), v13 = .int .i64 x13_4 ∧ Aside0 (tickingref01_Tiles.l3 kq l0 l1 (wrap64 (x5_1 + (wrap64 ((wrap64 (((rd_T48 l1 x6_1).f2) - ((rd_T48 l1 x6_1).f0))) * (wrap64 (((rd_T48 l1 x6_1).f3) - ((rd_T48 l1 x6_1).f1))))))) x6_1 t749 t755 x12_3 x13_4 ((rd_T48 l1 x6_1).f0) ((rd_T48 l1 x6_1).f1) ((rd_T48 l1 x6_1).f2) ((rd_T48 l1 x6_1).f3) = some r) ∧ Aside0 (kq ≤ k3) ∧ Aside0 (Kd.R (Kd.int .i64) 3 w' w.heap.size (fun k_ => some k_ ≠ (v756 : Value).ownBlock) (.slice Ao43 t749.length co43) t749) ∧ Aside0 (Kd.R (Kd.int .i64) 3 w' w.heap.size (fun k_ => some k_ ≠ ((.slice Ao43 t749.length co43) : Value).ownBlock) v756 t755) ∧ Aside0 (w'.heap[gb743]? = some (.cells #[.int .i64 ((rd_T48 l1 x6_1).f0), .int .i64 ((rd_T48 l1 x6_1).f1), .int .i64 ((rd_T48 l1 x6_1).f2), .int .i64 ((rd_T48 l1 x6_1).f3)] 48 (0, 0))) ∧ Aside0 (Below w.heap.size w w'))
            case atStart => exact ⟨(0), (by first | rfl | (simp; done) | (simp [*]; done)), H', ⟨Nat.le_refl _⟩, ⟨by (with_reducible repeat (first | apply Kd.R_alloc | apply Kd.R_drewN | apply Kd.R_drew)); exact HO_10.out⟩, ⟨by (with_reducible repeat (first | apply Kd.R_alloc | apply Kd.R_drewN | apply Kd.R_drew)); exact HO_11.out⟩, ⟨by (with_reducible repeat (first | refine blk_drewN ?_ _ | refine blk_drew ?_ | refine blk_alloc ?_ _)); exact BK743.out⟩, ⟨HBz⟩⟩
            case round =>
             clear H'
             try clear c1
             try clear c2
             try clear p2
             try clear c4
             try clear c5
             try clear c6
             try clear c6b0
             try clear p6
             try clear c7
             try clear c7b0
             try clear p7
             try clear q7
             try clear hx7
             try clear c10
             try clear c10b0
             try clear c11
             try clear c11b0
             try clear c12
             try clear c12b0
             try clear c15
             try clear c15b0
             try clear c18
             try clear c18b0
             try clear c20
             try clear c24
             try clear c28
             try clear c42
             try clear c42b0
             try clear hcz21_0
             try clear hcz21_1
             try clear hcz21_2
             try clear hcz21_3
             try clear hcz22_0
             try clear hcz22_1
             try clear hcz22_2
             try clear hcz22_3
             try clear hcz25_0
             try clear hcz25_1
             try clear hcz25_2
             try clear hcz25_3
             try clear hcz26_0
             try clear hcz26_1
             try clear hcz26_2
             try clear hcz26_3
             try clear hcz29_0
             try clear hcz29_1
             try clear hcz29_2
             try clear hcz29_3
             try clear hcz30_0
             try clear hcz30_1
             try clear hcz30_2
             try clear hcz30_3
             try clear hcz9_0
             try clear hcz9_1
             try clear hcz9_2
             try clear hcz9_3
             try clear hfz21_0
             try clear hfz21_1
             try clear hfz21_2
             try clear hfz21_3
             try clear hfz22_0
             try clear hfz22_1
             try clear hfz22_2
             try clear hfz22_3
             try clear hfz25_0
             try clear hfz25_1
             try clear hfz25_2
             try clear hfz25_3
             try clear hfz26_0
             try clear hfz26_1
             try clear hfz26_2
             try clear hfz26_3
             try clear hfz29_0
             try clear hfz29_1
             try clear hfz29_2
             try clear hfz29_3
             try clear hfz30_0
             try clear hfz30_1
             try clear hfz30_2
             try clear hfz30_3
             try clear hfz9_0
             try clear hfz9_1
             try clear hfz9_2
             try clear hfz9_3
             try clear hx742_0
             try clear hx742_1
             try clear hx742_2
             try clear hx742_3
             try clear hx744_0
             try clear hx744_1
             try clear hx744_2
             try clear hx744_3
             try clear p2
             try clear p6
             try clear p7
             try clear p742
             try clear p744
             try clear q7
             try clear q742
             try clear q744
             obtain ⟨x13_4, rfl, HA, HK4, HO_10, HO_11, BK743, HB⟩ := hrel
             cases gk with
             | zero => exact absurd HA.out (by simp [tickingref01_Tiles.l3])
             | succ k4 =>
              have H := HA.out
              clear HA
              simp only [tickingref01_Tiles.l3] at H
              by_cases c44 : x13_4 < (t755.length : Int)
              ·rw [if_pos c44] at H
               have c44b0 : decide (x13_4 < (t755.length : Int)) = true := decide_eq_true c44
               clear c44
               by_cases c45 : 0 ≤ x12_3
               ·rw [if_pos c45] at H
                have c45b0 : decide (0 ≤ x12_3) = true := decide_eq_true c45
                clear c45
                by_cases c46 : x12_3 < (t749.length : Int)
                ·rw [if_pos c46] at H
                 have c46b0 : decide (x12_3 < (t749.length : Int)) = true := decide_eq_true c46
                 clear c46
                 by_cases c47 : (rd t749 x12_3) ≥ ((rd_T48 l1 x6_1).f0)
                 ·rw [if_pos c47] at H
                  have c47b0 : decide (((rd_T48 l1 x6_1).f0) ≤ (rd t749 x12_3)) = true := decide_eq_true c47
                  clear c47
                  by_cases c48 : (rd t749 x12_3) < ((rd_T48 l1 x6_1).f2)
                  ·rw [if_pos c48] at H
                   have c48b0 : decide ((rd t749 x12_3) < ((rd_T48 l1 x6_1).f2)) = true := decide_eq_true c48
                   clear c48
                   by_cases c49 : 0 ≤ x13_4
                   ·rw [if_pos c49] at H
                    have c49b0 : decide (0 ≤ x13_4) = true := decide_eq_true c49
                    clear c49
                    by_cases c50 : (rd t755 x13_4) ≥ ((rd_T48 l1 x6_1).f1)
                    ·rw [if_pos c50] at H
                     have c50b0 : decide (((rd_T48 l1 x6_1).f1) ≤ (rd t755 x13_4)) = true := decide_eq_true c50
                     clear c50
                     by_cases c51 : (rd t755 x13_4) < ((rd_T48 l1 x6_1).f3)
                     ·rw [if_pos c51] at H
                      have c51b0 : decide ((rd t755 x13_4) < ((rd_T48 l1 x6_1).f3)) = true := decide_eq_true c51
                      clear c51
                      replace H := Option.bind_eq_some_iff.mp H
                      obtain ⟨t764, A520, H⟩ := H
                      replace H : (if t764 = 0 then (some false) else (tickingref01_Tiles.l3 k4 l0 l1 (wrap64 (x5_1 + (wrap64 ((wrap64 (((rd_T48 l1 x6_1).f2) - ((rd_T48 l1 x6_1).f0))) * (wrap64 (((rd_T48 l1 x6_1).f3) - ((rd_T48 l1 x6_1).f1))))))) x6_1 t749 t755 x12_3 (wrap64 (x13_4 + 1)) ((rd_T48 l1 x6_1).f0) ((rd_T48 l1 x6_1).f1) ((rd_T48 l1 x6_1).f2) ((rd_T48 l1 x6_1).f3))) = some r := H
                      have A52 := Aside0.mk A520
                      clear A520
                      by_cases c53 : t764 = 0
                      ·rw [if_pos c53] at H
                       have c53b0 : (t764 == 0) = true := beq_iff_eq.mpr c53
                       have c53b1 : (t764 != 0) = false := bne_eq_false_iff_eq.mpr c53
                       clear c53
                       obtain rfl := Option.some.inj H
                       obtain ⟨Ao54, co54, eo54⟩ := Kd.R_slice HO_11.out
                       subst eo54
                       try go_wp2
                       have n0_ := Aside0.mk (Kd.R_drew HO_10.out)
                       have n1_ := Aside0.mk (Kd.R_drew HO_11.out)
                       have n2_ := Aside0.mk (blk_drew BK743.out)
                       have n3_ := Aside0.mk (below_drew1 HB.out)
                       clear HO_10
                       clear HO_11
                       clear BK743
                       clear HB
                       have HO_10 := n0_
                       have HO_11 := n1_
                       have BK743 := n2_
                       have HB := n3_
                       clear n0_ n1_ n2_ n3_
                       have p758 : 0 ≤ (x12_3 : Int) := of_decide_eq_true (by first | (with_reducible assumption) | assumption)
                       have q758 : x12_3 < (t749.length : Int) := of_decide_eq_true (by first | (with_reducible assumption) | assumption)
                       obtain ⟨ad758, e758, hx758_0⟩ := Kd.at_int (Kd.R_reads' HO_10.out).2.2 x12_3 p758 q758
                       cases e758
                       replace p758 := eq_true p758
                       replace q758 := eq_true q758
                       have p759 : 0 ≤ (x12_3 : Int) := of_decide_eq_true (by first | (with_reducible assumption) | assumption)
                       have q759 : x12_3 < (t749.length : Int) := of_decide_eq_true (by first | (with_reducible assumption) | assumption)
                       obtain ⟨ad759, e759, hx759_0⟩ := Kd.at_int (Kd.R_reads' HO_10.out).2.2 x12_3 p759 q759
                       obtain rfl : ad758 = ad759 := (by injection e759)
                       replace p759 := eq_true p759
                       replace q759 := eq_true q759
                       have p760 : 0 ≤ (x13_4 : Int) := of_decide_eq_true (by first | (with_reducible assumption) | assumption)
                       have q760 : x13_4 < (t755.length : Int) := of_decide_eq_true (by first | (with_reducible assumption) | assumption)
                       obtain ⟨ad760, e760, hx760_0⟩ := Kd.at_int (Kd.R_reads' HO_11.out).2.2 x13_4 p760 q760
                       cases e760
                       replace p760 := eq_true p760
                       replace q760 := eq_true q760
                       have p761 : 0 ≤ (x13_4 : Int) := of_decide_eq_true (by first | (with_reducible assumption) | assumption)
                       have q761 : x13_4 < (t755.length : Int) := of_decide_eq_true (by first | (with_reducible assumption) | assumption)
                       obtain ⟨ad761, e761, hx761_0⟩ := Kd.at_int (Kd.R_reads' HO_11.out).2.2 x13_4 p761 q761
                       obtain rfl : ad760 = ad761 := (by injection e761)
                       replace p761 := eq_true p761
                       replace q761 := eq_true q761
                       have p762 : 0 ≤ (x12_3 : Int) := of_decide_eq_true (by first | (with_reducible assumption) | assumption)
                       have q762 : x12_3 < (t749.length : Int) := of_decide_eq_true (by first | (with_reducible assumption) | assumption)
                       obtain ⟨ad762, e762, hx762_0⟩ := Kd.at_int (Kd.R_reads' HO_10.out).2.2 x12_3 p762 q762
                       obtain rfl : ad758 = ad762 := (by injection e762)
                       replace p762 := eq_true p762
                       replace q762 := eq_true q762
                       have p763 : 0 ≤ (x13_4 : Int) := of_decide_eq_true (by first | (with_reducible assumption) | assumption)
                       have q763 : x13_4 < (t755.length : Int) := of_decide_eq_true (by first | (with_reducible assumption) | assumption)
                       obtain ⟨ad763, e763, hx763_0⟩ := Kd.at_int (Kd.R_reads' HO_11.out).2.2 x13_4 p763 q763
                       obtain rfl : ad760 = ad763 := (by injection e763)
                       replace p763 := eq_true p763
                       replace q763 := eq_true q763
                       refine stz (fun w' => w'.cell? ⟨gb743, 0, none⟩ = some (.int .i64 ((rd_T48 l1 x6_1).f0)) ∧ w'.cell? ⟨gb743, 1, none⟩ = some (.int .i64 ((rd_T48 l1 x6_1).f1)) ∧ w'.cell? ⟨gb743, 2, none⟩ = some (.int .i64 ((rd_T48 l1 x6_1).f2)) ∧ w'.cell? ⟨gb743, 3, none⟩ = some (.int .i64 ((rd_T48 l1 x6_1).f3)) ∧ w'.cell? (ad758.add (x12_3).toNat) = some (.int .i64 (rd t749 x12_3)) ∧ w'.cell? (ad758.add (x12_3).toNat) = some (.int .i64 (rd t749 x12_3)) ∧ w'.cell? (ad760.add (x13_4).toNat) = some (.int .i64 (rd t755 x13_4)) ∧ w'.cell? (ad760.add (x13_4).toNat) = some (.int .i64 (rd t755 x13_4)) ∧ w'.cell? (ad758.add (x12_3).toNat) = some (.int .i64 (rd t749 x12_3)) ∧ w'.cell? (ad760.add (x13_4).toNat) = some (.int .i64 (rd t755 x13_4))) [] (bn 47 0) ⟨(blk_cell BK743.out 0).trans rfl, (blk_cell BK743.out 1).trans rfl, (blk_cell BK743.out 2).trans rfl, (blk_cell BK743.out 3).trans rfl, hx758_0, hx759_0, hx760_0, hx761_0, hx762_0, hx763_0⟩ (fun hHeld => ?_); refine with_tabW tickingref01_Tiles.tab22 tickingref01_Tiles.bits22 (fun HT_ HW_ => ?_)
                       generalize wr.drew = w55 at HO_10 HO_11 BK743 HB hx758_0 hx759_0 hx760_0 hx761_0 hx762_0 hx763_0 hHeld ⊢
                       refine pT HT_.out 0 (some 95) (bn 47 1) ?_
                       refine pT HT_.out 1 (some 96) (bn 47 3) ?_
                       refine pT HT_.out 2 (some 97) (bn 47 7) ?_
                       refine pT HT_.out 4 (some 99) (bn 47 23) ?_
                       refine tT HT_.out HW_.out 3 (some 98) (bn 47 31) hHeld ?_
                       refine tT HT_.out HW_.out 5 (some 100) (bn 47 63) hHeld ?_
                       refine pT HT_.out 6 (some 101) (bn 47 127) ?_
                       refine pT HT_.out 7 (some 102) (bn 47 255) ?_
                       refine pT HT_.out 8 (some 103) (bn 47 511) ?_
                       refine pT HT_.out 9 (some 104) (bn 47 1023) ?_
                       refine pT HT_.out 10 (some 105) (bn 47 2047) ?_
                       refine pT HT_.out 12 (some 107) (bn 47 6143) ?_
                       refine tT HT_.out HW_.out 11 (some 106) (bn 47 8191) hHeld ?_
                       refine tT HT_.out HW_.out 13 (some 108) (bn 47 16383) hHeld ?_
                       refine pT HT_.out 14 (some 109) (bn 47 32767) ?_
                       refine pT HT_.out 15 (some 110) (bn 47 65535) ?_
                       refine pT HT_.out 16 (some 111) (bn 47 131071) ?_
                       refine pT HT_.out 17 (some 112) (bn 47 262143) ?_
                       refine pT HT_.out 18 (some 113) (bn 47 524287) ?_
                       refine pT HT_.out 19 (some 114) (bn 47 1048575) ?_
                       refine pT HT_.out 21 (some 116) (bn 47 3145727) ?_
                       refine tT HT_.out HW_.out 20 (some 115) (bn 47 4194303) hHeld ?_
                       refine tT HT_.out HW_.out 22 (some 117) (bn 47 8388607) hHeld ?_
                       refine pT HT_.out 23 (some 118) (bn 47 16777215) ?_
                       refine pT HT_.out 24 (some 119) (bn 47 33554431) ?_
                       refine pT HT_.out 25 (some 120) (bn 47 67108863) ?_
                       refine pT HT_.out 26 (some 121) (bn 47 134217727) ?_
                       refine pT HT_.out 27 (some 122) (bn 47 268435455) ?_
                       refine pT HT_.out 28 (some 123) (bn 47 536870911) ?_
                       refine pT HT_.out 30 (some 125) (bn 47 1610612735) ?_
                       refine tT HT_.out HW_.out 29 (some 124) (bn 47 2147483647) hHeld ?_
                       refine tT HT_.out HW_.out 31 (some 126) (bn 47 4294967295) hHeld ?_
                       refine pT HT_.out 32 (some 127) (bn 47 8589934591) ?_
                       refine pT HT_.out 33 (some 128) (bn 47 17179869183) ?_
                       refine pT HT_.out 34 (some 129) (bn 47 34359738367) ?_
                       refine pT HT_.out 35 (some 130) (bn 47 68719476735) ?_
                       refine pT HT_.out 36 (some 131) (bn 47 137438953471) ?_
                       refine pT HT_.out 37 (some 132) (bn 47 274877906943) ?_
                       refine pT HT_.out 38 (some 133) (bn 47 549755813887) ?_
                       refine pT HT_.out 40 (some 135) (bn 47 1649267441663) ?_
                       refine pT HT_.out 41 (some 136) (bn 47 3848290697215) ?_
                       refine pT HT_.out 42 (some 137) (bn 47 8246337208319) ?_
                       refine tT HT_.out HW_.out 39 (some 134) (bn 47 8796093022207) hHeld ?_
                       refine tT HT_.out HW_.out 43 (some 138) (bn 47 17592186044415) hHeld ?_
                       refine oT HT_.out 44 (some 139) (bn 47 35184372088831) (fun K hK => ?_)
                       refine gz Try.func30 #[.slice A0 l0.length c0, .int .i64 (rd t749 x12_3), .int .i64 (rd t755 x13_4)] ?_
                       with_reducible refine (tickingref01_Depth.calls k4 _ _ l0 (rd t749 x12_3) (rd t755 x13_4) t764 _ ?side1 ?side2 A52.out).mono ?_
                       (case side1 => repeat (first | exact (Kd.C_below HR0.out HB.out) | (with_reducible refine Kd.C_alloc ?_ _) | (with_reducible refine Kd.C_drewN ?_ _) | (with_reducible refine Kd.C_drew ?_)))
                       (case side2 => exact HC0.out)
                       rintro e w' ⟨rfl, ⟨nd, rfl⟩⟩
                       refine ⟨_, rfl, ?_⟩
                       refine hK.out _ _ ⟨(blk_cell BK743.out 0).trans rfl, (blk_cell BK743.out 1).trans rfl, (blk_cell BK743.out 2).trans rfl, (blk_cell BK743.out 3).trans rfl, hHeld.2.2.2.2.1, hHeld.2.2.2.2.2.1, hHeld.2.2.2.2.2.2.1, hHeld.2.2.2.2.2.2.2.1, hHeld.2.2.2.2.2.2.2.2.1, hHeld.2.2.2.2.2.2.2.2.2⟩ (fun hHeld => ?_)
                       clear hK K
                       refine nz (some 139) ?_
                       refine pT HT_.out 45 (some 140) (bn 47 70368744177663) ?_
                       refine pT HT_.out 46 (some 141) (bn 47 140737488355327) ?_
                       refine done_ (done_of HT_.out (by kernel_rfl)) ?_
                       try go_wp2
                       go_ret
                       exact ⟨by first | rfl | (simp [errW_none, errW_some] <;> rfl) | (simp [*, errW_none, errW_some] <;> rfl), HBz⟩
                      ·rw [if_neg c53] at H
                       have c53b0 : (t764 == 0) = false := beq_eq_false_iff_ne.mpr c53
                       have c53b1 : (t764 != 0) = true := bne_iff_ne.mpr c53
                       have H' := Aside0.mk H
                       clear H
                       obtain ⟨Ao56, co56, eo56⟩ := Kd.R_slice HO_11.out
                       subst eo56
                       try go_wp2
                       have n0_ := Aside0.mk (Kd.R_drew HO_10.out)
                       have n1_ := Aside0.mk (Kd.R_drew HO_11.out)
                       have n2_ := Aside0.mk (blk_drew BK743.out)
                       have n3_ := Aside0.mk (below_drew1 HB.out)
                       clear HO_10
                       clear HO_11
                       clear BK743
                       clear HB
                       have HO_10 := n0_
                       have HO_11 := n1_
                       have BK743 := n2_
                       have HB := n3_
                       clear n0_ n1_ n2_ n3_
                       have p758 : 0 ≤ (x12_3 : Int) := of_decide_eq_true (by first | (with_reducible assumption) | assumption)
                       have q758 : x12_3 < (t749.length : Int) := of_decide_eq_true (by first | (with_reducible assumption) | assumption)
                       obtain ⟨ad758, e758, hx758_0⟩ := Kd.at_int (Kd.R_reads' HO_10.out).2.2 x12_3 p758 q758
                       cases e758
                       replace p758 := eq_true p758
                       replace q758 := eq_true q758
                       have p759 : 0 ≤ (x12_3 : Int) := of_decide_eq_true (by first | (with_reducible assumption) | assumption)
                       have q759 : x12_3 < (t749.length : Int) := of_decide_eq_true (by first | (with_reducible assumption) | assumption)
                       obtain ⟨ad759, e759, hx759_0⟩ := Kd.at_int (Kd.R_reads' HO_10.out).2.2 x12_3 p759 q759
                       obtain rfl : ad758 = ad759 := (by injection e759)
                       replace p759 := eq_true p759
                       replace q759 := eq_true q759
                       have p760 : 0 ≤ (x13_4 : Int) := of_decide_eq_true (by first | (with_reducible assumption) | assumption)
                       have q760 : x13_4 < (t755.length : Int) := of_decide_eq_true (by first | (with_reducible assumption) | assumption)
                       obtain ⟨ad760, e760, hx760_0⟩ := Kd.at_int (Kd.R_reads' HO_11.out).2.2 x13_4 p760 q760
                       cases e760
                       replace p760 := eq_true p760
                       replace q760 := eq_true q760
                       have p761 : 0 ≤ (x13_4 : Int) := of_decide_eq_true (by first | (with_reducible assumption) | assumption)
                       have q761 : x13_4 < (t755.length : Int) := of_decide_eq_true (by first | (with_reducible assumption) | assumption)
                       obtain ⟨ad761, e761, hx761_0⟩ := Kd.at_int (Kd.R_reads' HO_11.out).2.2 x13_4 p761 q761
                       obtain rfl : ad760 = ad761 := (by injection e761)
                       replace p761 := eq_true p761
                       replace q761 := eq_true q761
                       have p762 : 0 ≤ (x12_3 : Int) := of_decide_eq_true (by first | (with_reducible assumption) | assumption)
                       have q762 : x12_3 < (t749.length : Int) := of_decide_eq_true (by first | (with_reducible assumption) | assumption)
                       obtain ⟨ad762, e762, hx762_0⟩ := Kd.at_int (Kd.R_reads' HO_10.out).2.2 x12_3 p762 q762
                       obtain rfl : ad758 = ad762 := (by injection e762)
                       replace p762 := eq_true p762
                       replace q762 := eq_true q762
                       have p763 : 0 ≤ (x13_4 : Int) := of_decide_eq_true (by first | (with_reducible assumption) | assumption)
                       have q763 : x13_4 < (t755.length : Int) := of_decide_eq_true (by first | (with_reducible assumption) | assumption)
                       obtain ⟨ad763, e763, hx763_0⟩ := Kd.at_int (Kd.R_reads' HO_11.out).2.2 x13_4 p763 q763
                       obtain rfl : ad760 = ad763 := (by injection e763)
                       replace p763 := eq_true p763
                       replace q763 := eq_true q763
                       refine stz (fun w' => w'.cell? ⟨gb743, 0, none⟩ = some (.int .i64 ((rd_T48 l1 x6_1).f0)) ∧ w'.cell? ⟨gb743, 1, none⟩ = some (.int .i64 ((rd_T48 l1 x6_1).f1)) ∧ w'.cell? ⟨gb743, 2, none⟩ = some (.int .i64 ((rd_T48 l1 x6_1).f2)) ∧ w'.cell? ⟨gb743, 3, none⟩ = some (.int .i64 ((rd_T48 l1 x6_1).f3)) ∧ w'.cell? (ad758.add (x12_3).toNat) = some (.int .i64 (rd t749 x12_3)) ∧ w'.cell? (ad758.add (x12_3).toNat) = some (.int .i64 (rd t749 x12_3)) ∧ w'.cell? (ad760.add (x13_4).toNat) = some (.int .i64 (rd t755 x13_4)) ∧ w'.cell? (ad760.add (x13_4).toNat) = some (.int .i64 (rd t755 x13_4)) ∧ w'.cell? (ad758.add (x12_3).toNat) = some (.int .i64 (rd t749 x12_3)) ∧ w'.cell? (ad760.add (x13_4).toNat) = some (.int .i64 (rd t755 x13_4))) [] (bn 47 0) ⟨(blk_cell BK743.out 0).trans rfl, (blk_cell BK743.out 1).trans rfl, (blk_cell BK743.out 2).trans rfl, (blk_cell BK743.out 3).trans rfl, hx758_0, hx759_0, hx760_0, hx761_0, hx762_0, hx763_0⟩ (fun hHeld => ?_); refine with_tabW tickingref01_Tiles.tab22 tickingref01_Tiles.bits22 (fun HT_ HW_ => ?_)
                       generalize wr.drew = w57 at HO_10 HO_11 BK743 HB hx758_0 hx759_0 hx760_0 hx761_0 hx762_0 hx763_0 hHeld ⊢
                       refine pT HT_.out 0 (some 95) (bn 47 1) ?_
                       refine pT HT_.out 1 (some 96) (bn 47 3) ?_
                       refine pT HT_.out 2 (some 97) (bn 47 7) ?_
                       refine pT HT_.out 4 (some 99) (bn 47 23) ?_
                       refine tT HT_.out HW_.out 3 (some 98) (bn 47 31) hHeld ?_
                       refine tT HT_.out HW_.out 5 (some 100) (bn 47 63) hHeld ?_
                       refine pT HT_.out 6 (some 101) (bn 47 127) ?_
                       refine pT HT_.out 7 (some 102) (bn 47 255) ?_
                       refine pT HT_.out 8 (some 103) (bn 47 511) ?_
                       refine pT HT_.out 9 (some 104) (bn 47 1023) ?_
                       refine pT HT_.out 10 (some 105) (bn 47 2047) ?_
                       refine pT HT_.out 12 (some 107) (bn 47 6143) ?_
                       refine tT HT_.out HW_.out 11 (some 106) (bn 47 8191) hHeld ?_
                       refine tT HT_.out HW_.out 13 (some 108) (bn 47 16383) hHeld ?_
                       refine pT HT_.out 14 (some 109) (bn 47 32767) ?_
                       refine pT HT_.out 15 (some 110) (bn 47 65535) ?_
                       refine pT HT_.out 16 (some 111) (bn 47 131071) ?_
                       refine pT HT_.out 17 (some 112) (bn 47 262143) ?_
                       refine pT HT_.out 18 (some 113) (bn 47 524287) ?_
                       refine pT HT_.out 19 (some 114) (bn 47 1048575) ?_
                       refine pT HT_.out 21 (some 116) (bn 47 3145727) ?_
                       refine tT HT_.out HW_.out 20 (some 115) (bn 47 4194303) hHeld ?_
                       refine tT HT_.out HW_.out 22 (some 117) (bn 47 8388607) hHeld ?_
                       refine pT HT_.out 23 (some 118) (bn 47 16777215) ?_
                       refine pT HT_.out 24 (some 119) (bn 47 33554431) ?_
                       refine pT HT_.out 25 (some 120) (bn 47 67108863) ?_
                       refine pT HT_.out 26 (some 121) (bn 47 134217727) ?_
                       refine pT HT_.out 27 (some 122) (bn 47 268435455) ?_
                       refine pT HT_.out 28 (some 123) (bn 47 536870911) ?_
                       refine pT HT_.out 30 (some 125) (bn 47 1610612735) ?_
                       refine tT HT_.out HW_.out 29 (some 124) (bn 47 2147483647) hHeld ?_
                       refine tT HT_.out HW_.out 31 (some 126) (bn 47 4294967295) hHeld ?_
                       refine pT HT_.out 32 (some 127) (bn 47 8589934591) ?_
                       refine pT HT_.out 33 (some 128) (bn 47 17179869183) ?_
                       refine pT HT_.out 34 (some 129) (bn 47 34359738367) ?_
                       refine pT HT_.out 35 (some 130) (bn 47 68719476735) ?_
                       refine pT HT_.out 36 (some 131) (bn 47 137438953471) ?_
                       refine pT HT_.out 37 (some 132) (bn 47 274877906943) ?_
                       refine pT HT_.out 38 (some 133) (bn 47 549755813887) ?_
                       refine pT HT_.out 40 (some 135) (bn 47 1649267441663) ?_
                       refine pT HT_.out 41 (some 136) (bn 47 3848290697215) ?_
                       refine pT HT_.out 42 (some 137) (bn 47 8246337208319) ?_
                       refine tT HT_.out HW_.out 39 (some 134) (bn 47 8796093022207) hHeld ?_
                       refine tT HT_.out HW_.out 43 (some 138) (bn 47 17592186044415) hHeld ?_
                       refine oT HT_.out 44 (some 139) (bn 47 35184372088831) (fun K hK => ?_)
                       refine gz Try.func30 #[.slice A0 l0.length c0, .int .i64 (rd t749 x12_3), .int .i64 (rd t755 x13_4)] ?_
                       with_reducible refine (tickingref01_Depth.calls k4 _ _ l0 (rd t749 x12_3) (rd t755 x13_4) t764 _ ?side1 ?side2 A52.out).mono ?_
                       (case side1 => repeat (first | exact (Kd.C_below HR0.out HB.out) | (with_reducible refine Kd.C_alloc ?_ _) | (with_reducible refine Kd.C_drewN ?_ _) | (with_reducible refine Kd.C_drew ?_)))
                       (case side2 => exact HC0.out)
                       rintro e w' ⟨rfl, ⟨nd, rfl⟩⟩
                       refine ⟨_, rfl, ?_⟩
                       refine hK.out _ _ ⟨(blk_cell BK743.out 0).trans rfl, (blk_cell BK743.out 1).trans rfl, (blk_cell BK743.out 2).trans rfl, (blk_cell BK743.out 3).trans rfl, hHeld.2.2.2.2.1, hHeld.2.2.2.2.2.1, hHeld.2.2.2.2.2.2.1, hHeld.2.2.2.2.2.2.2.1, hHeld.2.2.2.2.2.2.2.2.1, hHeld.2.2.2.2.2.2.2.2.2⟩ (fun hHeld => ?_)
                       clear hK K
                       refine nz (some 139) ?_
                       refine pT HT_.out 45 (some 140) (bn 47 70368744177663) ?_
                       refine pT HT_.out 46 (some 141) (bn 47 140737488355327) ?_
                       refine done_ (done_of HT_.out (by kernel_rfl)) ?_
                       try go_wp2
                       go_roundg k4
                       case measure => have := HK1.out; have := HK2.out; have := HK3.out; have := HK4.out; omega
                       case rel => exact ⟨(wrap64 (x13_4 + 1)), (by first | rfl | (simp; done) | (simp [*]; done)), H', ⟨by have := HK1.out; have := HK2.out; have := HK3.out; have := HK4.out; omega⟩, ⟨by (with_reducible repeat (first | apply Kd.R_alloc | apply Kd.R_drewN | apply Kd.R_drew)); exact HO_10.out⟩, ⟨by (with_reducible repeat (first | apply Kd.R_alloc | apply Kd.R_drewN | apply Kd.R_drew)); exact HO_11.out⟩, ⟨by (with_reducible repeat (first | refine blk_drewN ?_ _ | refine blk_drew ?_ | refine blk_alloc ?_ _)); exact BK743.out⟩, ⟨HBz⟩⟩
                     ·rw [if_neg c51] at H
                      have c51b0 : decide ((rd t755 x13_4) < ((rd_T48 l1 x6_1).f3)) = false := decide_eq_false c51
                      clear c51
                      have H' := Aside0.mk H
                      clear H
                      obtain ⟨Ao58, co58, eo58⟩ := Kd.R_slice HO_11.out
                      subst eo58
                      try go_wp2
                      have n0_ := Aside0.mk (Kd.R_drew HO_10.out)
                      have n1_ := Aside0.mk (Kd.R_drew HO_11.out)
                      have n2_ := Aside0.mk (blk_drew BK743.out)
                      have n3_ := Aside0.mk (below_drew1 HB.out)
                      clear HO_10
                      clear HO_11
                      clear BK743
                      clear HB
                      have HO_10 := n0_
                      have HO_11 := n1_
                      have BK743 := n2_
                      have HB := n3_
                      clear n0_ n1_ n2_ n3_
                      have p758 : 0 ≤ (x12_3 : Int) := of_decide_eq_true (by first | (with_reducible assumption) | assumption)
                      have q758 : x12_3 < (t749.length : Int) := of_decide_eq_true (by first | (with_reducible assumption) | assumption)
                      obtain ⟨ad758, e758, hx758_0⟩ := Kd.at_int (Kd.R_reads' HO_10.out).2.2 x12_3 p758 q758
                      cases e758
                      replace p758 := eq_true p758
                      replace q758 := eq_true q758
                      have p759 : 0 ≤ (x12_3 : Int) := of_decide_eq_true (by first | (with_reducible assumption) | assumption)
                      have q759 : x12_3 < (t749.length : Int) := of_decide_eq_true (by first | (with_reducible assumption) | assumption)
                      obtain ⟨ad759, e759, hx759_0⟩ := Kd.at_int (Kd.R_reads' HO_10.out).2.2 x12_3 p759 q759
                      obtain rfl : ad758 = ad759 := (by injection e759)
                      replace p759 := eq_true p759
                      replace q759 := eq_true q759
                      have p760 : 0 ≤ (x13_4 : Int) := of_decide_eq_true (by first | (with_reducible assumption) | assumption)
                      have q760 : x13_4 < (t755.length : Int) := of_decide_eq_true (by first | (with_reducible assumption) | assumption)
                      obtain ⟨ad760, e760, hx760_0⟩ := Kd.at_int (Kd.R_reads' HO_11.out).2.2 x13_4 p760 q760
                      cases e760
                      replace p760 := eq_true p760
                      replace q760 := eq_true q760
                      have p761 : 0 ≤ (x13_4 : Int) := of_decide_eq_true (by first | (with_reducible assumption) | assumption)
                      have q761 : x13_4 < (t755.length : Int) := of_decide_eq_true (by first | (with_reducible assumption) | assumption)
                      obtain ⟨ad761, e761, hx761_0⟩ := Kd.at_int (Kd.R_reads' HO_11.out).2.2 x13_4 p761 q761
                      obtain rfl : ad760 = ad761 := (by injection e761)
                      replace p761 := eq_true p761
                      replace q761 := eq_true q761
                      refine stz (fun w' => w'.cell? ⟨gb743, 0, none⟩ = some (.int .i64 ((rd_T48 l1 x6_1).f0)) ∧ w'.cell? ⟨gb743, 1, none⟩ = some (.int .i64 ((rd_T48 l1 x6_1).f1)) ∧ w'.cell? ⟨gb743, 2, none⟩ = some (.int .i64 ((rd_T48 l1 x6_1).f2)) ∧ w'.cell? ⟨gb743, 3, none⟩ = some (.int .i64 ((rd_T48 l1 x6_1).f3)) ∧ w'.cell? (ad758.add (x12_3).toNat) = some (.int .i64 (rd t749 x12_3)) ∧ w'.cell? (ad758.add (x12_3).toNat) = some (.int .i64 (rd t749 x12_3)) ∧ w'.cell? (ad760.add (x13_4).toNat) = some (.int .i64 (rd t755 x13_4)) ∧ w'.cell? (ad760.add (x13_4).toNat) = some (.int .i64 (rd t755 x13_4))) [] (bn 47 0) ⟨(blk_cell BK743.out 0).trans rfl, (blk_cell BK743.out 1).trans rfl, (blk_cell BK743.out 2).trans rfl, (blk_cell BK743.out 3).trans rfl, hx758_0, hx759_0, hx760_0, hx761_0⟩ (fun hHeld => ?_); refine with_tabW tickingref01_Tiles.tab22 tickingref01_Tiles.bits22 (fun HT_ HW_ => ?_)
                      generalize wr.drew = w59 at HO_10 HO_11 BK743 HB hx758_0 hx759_0 hx760_0 hx761_0 hHeld ⊢
                      refine pT HT_.out 0 (some 95) (bn 47 1) ?_
                      refine pT HT_.out 1 (some 96) (bn 47 3) ?_
                      refine pT HT_.out 2 (some 97) (bn 47 7) ?_
                      refine pT HT_.out 4 (some 99) (bn 47 23) ?_
                      refine tT HT_.out HW_.out 3 (some 98) (bn 47 31) hHeld ?_
                      refine tT HT_.out HW_.out 5 (some 100) (bn 47 63) hHeld ?_
                      refine pT HT_.out 6 (some 101) (bn 47 127) ?_
                      refine pT HT_.out 7 (some 102) (bn 47 255) ?_
                      refine pT HT_.out 8 (some 103) (bn 47 511) ?_
                      refine pT HT_.out 9 (some 104) (bn 47 1023) ?_
                      refine pT HT_.out 10 (some 105) (bn 47 2047) ?_
                      refine pT HT_.out 12 (some 107) (bn 47 6143) ?_
                      refine tT HT_.out HW_.out 11 (some 106) (bn 47 8191) hHeld ?_
                      refine tT HT_.out HW_.out 13 (some 108) (bn 47 16383) hHeld ?_
                      refine pT HT_.out 14 (some 109) (bn 47 32767) ?_
                      refine pT HT_.out 15 (some 110) (bn 47 65535) ?_
                      refine pT HT_.out 16 (some 111) (bn 47 131071) ?_
                      refine pT HT_.out 17 (some 112) (bn 47 262143) ?_
                      refine pT HT_.out 18 (some 113) (bn 47 524287) ?_
                      refine pT HT_.out 19 (some 114) (bn 47 1048575) ?_
                      refine pT HT_.out 21 (some 116) (bn 47 3145727) ?_
                      refine tT HT_.out HW_.out 20 (some 115) (bn 47 4194303) hHeld ?_
                      refine tT HT_.out HW_.out 22 (some 117) (bn 47 8388607) hHeld ?_
                      refine pT HT_.out 23 (some 118) (bn 47 16777215) ?_
                      refine pT HT_.out 24 (some 119) (bn 47 33554431) ?_
                      refine pT HT_.out 25 (some 120) (bn 47 67108863) ?_
                      refine pT HT_.out 26 (some 121) (bn 47 134217727) ?_
                      refine pT HT_.out 27 (some 122) (bn 47 268435455) ?_
                      refine pT HT_.out 28 (some 123) (bn 47 536870911) ?_
                      refine pT HT_.out 30 (some 125) (bn 47 1610612735) ?_
                      refine tT HT_.out HW_.out 29 (some 124) (bn 47 2147483647) hHeld ?_
                      refine tT HT_.out HW_.out 31 (some 126) (bn 47 4294967295) hHeld ?_
                      refine pT HT_.out 32 (some 127) (bn 47 8589934591) ?_
                      refine pT HT_.out 33 (some 128) (bn 47 17179869183) ?_
                      refine pT HT_.out 34 (some 129) (bn 47 34359738367) ?_
                      refine pT0 HT_.out 35 (some 130) (bn 47 68719476735) ?_
                      refine pT0 HT_.out 36 (some 131) (bn 47 137438953471) ?_
                      refine pT0 HT_.out 37 (some 132) (bn 47 274877906943) ?_
                      refine pT0 HT_.out 38 (some 133) (bn 47 549755813887) ?_
                      refine pT0 HT_.out 39 (some 134) (bn 47 1099511627775) ?_
                      refine pT0 HT_.out 40 (some 135) (bn 47 2199023255551) ?_
                      refine pT0 HT_.out 41 (some 136) (bn 47 4398046511103) ?_
                      refine pT0 HT_.out 42 (some 137) (bn 47 8796093022207) ?_
                      refine pT0 HT_.out 43 (some 138) (bn 47 17592186044415) ?_
                      refine pT0 HT_.out 44 (some 139) (bn 47 35184372088831) ?_
                      refine pT0 HT_.out 45 (some 140) (bn 47 70368744177663) ?_
                      refine pT HT_.out 46 (some 141) (bn 47 140737488355327) ?_
                      refine done_ (done_of HT_.out (by kernel_rfl)) ?_
                      try go_wp2
                      go_roundg k4
                      case measure => have := HK1.out; have := HK2.out; have := HK3.out; have := HK4.out; omega
                      case rel => exact ⟨(wrap64 (x13_4 + 1)), (by first | rfl | (simp; done) | (simp [*]; done)), H', ⟨by have := HK1.out; have := HK2.out; have := HK3.out; have := HK4.out; omega⟩, ⟨by (with_reducible repeat (first | apply Kd.R_alloc | apply Kd.R_drewN | apply Kd.R_drew)); exact HO_10.out⟩, ⟨by (with_reducible repeat (first | apply Kd.R_alloc | apply Kd.R_drewN | apply Kd.R_drew)); exact HO_11.out⟩, ⟨by (with_reducible repeat (first | refine blk_drewN ?_ _ | refine blk_drew ?_ | refine blk_alloc ?_ _)); exact BK743.out⟩, ⟨HBz⟩⟩
                    ·rw [if_neg c50] at H
                     have c50b0 : decide (((rd_T48 l1 x6_1).f1) ≤ (rd t755 x13_4)) = false := decide_eq_false c50
                     clear c50
                     have H' := Aside0.mk H
                     clear H
                     obtain ⟨Ao60, co60, eo60⟩ := Kd.R_slice HO_11.out
                     subst eo60
                     try go_wp2
                     have n0_ := Aside0.mk (Kd.R_drew HO_10.out)
                     have n1_ := Aside0.mk (Kd.R_drew HO_11.out)
                     have n2_ := Aside0.mk (blk_drew BK743.out)
                     have n3_ := Aside0.mk (below_drew1 HB.out)
                     clear HO_10
                     clear HO_11
                     clear BK743
                     clear HB
                     have HO_10 := n0_
                     have HO_11 := n1_
                     have BK743 := n2_
                     have HB := n3_
                     clear n0_ n1_ n2_ n3_
                     have p758 : 0 ≤ (x12_3 : Int) := of_decide_eq_true (by first | (with_reducible assumption) | assumption)
                     have q758 : x12_3 < (t749.length : Int) := of_decide_eq_true (by first | (with_reducible assumption) | assumption)
                     obtain ⟨ad758, e758, hx758_0⟩ := Kd.at_int (Kd.R_reads' HO_10.out).2.2 x12_3 p758 q758
                     cases e758
                     replace p758 := eq_true p758
                     replace q758 := eq_true q758
                     have p759 : 0 ≤ (x12_3 : Int) := of_decide_eq_true (by first | (with_reducible assumption) | assumption)
                     have q759 : x12_3 < (t749.length : Int) := of_decide_eq_true (by first | (with_reducible assumption) | assumption)
                     obtain ⟨ad759, e759, hx759_0⟩ := Kd.at_int (Kd.R_reads' HO_10.out).2.2 x12_3 p759 q759
                     obtain rfl : ad758 = ad759 := (by injection e759)
                     replace p759 := eq_true p759
                     replace q759 := eq_true q759
                     have p760 : 0 ≤ (x13_4 : Int) := of_decide_eq_true (by first | (with_reducible assumption) | assumption)
                     have q760 : x13_4 < (t755.length : Int) := of_decide_eq_true (by first | (with_reducible assumption) | assumption)
                     obtain ⟨ad760, e760, hx760_0⟩ := Kd.at_int (Kd.R_reads' HO_11.out).2.2 x13_4 p760 q760
                     cases e760
                     replace p760 := eq_true p760
                     replace q760 := eq_true q760
                     refine stz (fun w' => w'.cell? ⟨gb743, 0, none⟩ = some (.int .i64 ((rd_T48 l1 x6_1).f0)) ∧ w'.cell? ⟨gb743, 1, none⟩ = some (.int .i64 ((rd_T48 l1 x6_1).f1)) ∧ w'.cell? ⟨gb743, 2, none⟩ = some (.int .i64 ((rd_T48 l1 x6_1).f2)) ∧ w'.cell? ⟨gb743, 3, none⟩ = some (.int .i64 ((rd_T48 l1 x6_1).f3)) ∧ w'.cell? (ad758.add (x12_3).toNat) = some (.int .i64 (rd t749 x12_3)) ∧ w'.cell? (ad758.add (x12_3).toNat) = some (.int .i64 (rd t749 x12_3)) ∧ w'.cell? (ad760.add (x13_4).toNat) = some (.int .i64 (rd t755 x13_4))) [] (bn 47 0) ⟨(blk_cell BK743.out 0).trans rfl, (blk_cell BK743.out 1).trans rfl, (blk_cell BK743.out 2).trans rfl, (blk_cell BK743.out 3).trans rfl, hx758_0, hx759_0, hx760_0⟩ (fun hHeld => ?_); refine with_tabW tickingref01_Tiles.tab22 tickingref01_Tiles.bits22 (fun HT_ HW_ => ?_)
                     generalize wr.drew = w61 at HO_10 HO_11 BK743 HB hx758_0 hx759_0 hx760_0 hHeld ⊢
                     refine pT HT_.out 0 (some 95) (bn 47 1) ?_
                     refine pT HT_.out 1 (some 96) (bn 47 3) ?_
                     refine pT HT_.out 2 (some 97) (bn 47 7) ?_
                     refine pT HT_.out 4 (some 99) (bn 47 23) ?_
                     refine tT HT_.out HW_.out 3 (some 98) (bn 47 31) hHeld ?_
                     refine tT HT_.out HW_.out 5 (some 100) (bn 47 63) hHeld ?_
                     refine pT HT_.out 6 (some 101) (bn 47 127) ?_
                     refine pT HT_.out 7 (some 102) (bn 47 255) ?_
                     refine pT HT_.out 8 (some 103) (bn 47 511) ?_
                     refine pT HT_.out 9 (some 104) (bn 47 1023) ?_
                     refine pT HT_.out 10 (some 105) (bn 47 2047) ?_
                     refine pT HT_.out 12 (some 107) (bn 47 6143) ?_
                     refine tT HT_.out HW_.out 11 (some 106) (bn 47 8191) hHeld ?_
                     refine tT HT_.out HW_.out 13 (some 108) (bn 47 16383) hHeld ?_
                     refine pT HT_.out 14 (some 109) (bn 47 32767) ?_
                     refine pT HT_.out 15 (some 110) (bn 47 65535) ?_
                     refine pT HT_.out 16 (some 111) (bn 47 131071) ?_
                     refine pT HT_.out 17 (some 112) (bn 47 262143) ?_
                     refine pT HT_.out 18 (some 113) (bn 47 524287) ?_
                     refine pT HT_.out 19 (some 114) (bn 47 1048575) ?_
                     refine pT HT_.out 21 (some 116) (bn 47 3145727) ?_
                     refine tT HT_.out HW_.out 20 (some 115) (bn 47 4194303) hHeld ?_
                     refine tT HT_.out HW_.out 22 (some 117) (bn 47 8388607) hHeld ?_
                     refine pT HT_.out 23 (some 118) (bn 47 16777215) ?_
                     refine pT HT_.out 24 (some 119) (bn 47 33554431) ?_
                     refine pT HT_.out 25 (some 120) (bn 47 67108863) ?_
                     refine pT0 HT_.out 26 (some 121) (bn 47 134217727) ?_
                     refine pT0 HT_.out 27 (some 122) (bn 47 268435455) ?_
                     refine pT0 HT_.out 28 (some 123) (bn 47 536870911) ?_
                     refine pT0 HT_.out 29 (some 124) (bn 47 1073741823) ?_
                     refine pT0 HT_.out 30 (some 125) (bn 47 2147483647) ?_
                     refine pT0 HT_.out 31 (some 126) (bn 47 4294967295) ?_
                     refine pT0 HT_.out 32 (some 127) (bn 47 8589934591) ?_
                     refine pT HT_.out 33 (some 128) (bn 47 17179869183) ?_
                     refine pT HT_.out 34 (some 129) (bn 47 34359738367) ?_
                     refine pT0 HT_.out 35 (some 130) (bn 47 68719476735) ?_
                     refine pT0 HT_.out 36 (some 131) (bn 47 137438953471) ?_
                     refine pT0 HT_.out 37 (some 132) (bn 47 274877906943) ?_
                     refine pT0 HT_.out 38 (some 133) (bn 47 549755813887) ?_
                     refine pT0 HT_.out 39 (some 134) (bn 47 1099511627775) ?_
                     refine pT0 HT_.out 40 (some 135) (bn 47 2199023255551) ?_
                     refine pT0 HT_.out 41 (some 136) (bn 47 4398046511103) ?_
                     refine pT0 HT_.out 42 (some 137) (bn 47 8796093022207) ?_
                     refine pT0 HT_.out 43 (some 138) (bn 47 17592186044415) ?_
                     refine pT0 HT_.out 44 (some 139) (bn 47 35184372088831) ?_
                     refine pT0 HT_.out 45 (some 140) (bn 47 70368744177663) ?_
                     refine pT HT_.out 46 (some 141) (bn 47 140737488355327) ?_
                     refine done_ (done_of HT_.out (by kernel_rfl)) ?_
                     try go_wp2
                     go_roundg k4
                     case measure => have := HK1.out; have := HK2.out; have := HK3.out; have := HK4.out; omega
                     case rel => exact ⟨(wrap64 (x13_4 + 1)), (by first | rfl | (simp; done) | (simp [*]; done)), H', ⟨by have := HK1.out; have := HK2.out; have := HK3.out; have := HK4.out; omega⟩, ⟨by (with_reducible repeat (first | apply Kd.R_alloc | apply Kd.R_drewN | apply Kd.R_drew)); exact HO_10.out⟩, ⟨by (with_reducible repeat (first | apply Kd.R_alloc | apply Kd.R_drewN | apply Kd.R_drew)); exact HO_11.out⟩, ⟨by (with_reducible repeat (first | refine blk_drewN ?_ _ | refine blk_drew ?_ | refine blk_alloc ?_ _)); exact BK743.out⟩, ⟨HBz⟩⟩
                   ·rw [if_neg c49] at H
                    exact absurd H (by simp)
                  ·rw [if_neg c48] at H
                   have c48b0 : decide ((rd t749 x12_3) < ((rd_T48 l1 x6_1).f2)) = false := decide_eq_false c48
                   clear c48
                   have H' := Aside0.mk H
                   clear H
                   obtain ⟨Ao62, co62, eo62⟩ := Kd.R_slice HO_11.out
                   subst eo62
                   try go_wp2
                   have n0_ := Aside0.mk (Kd.R_drew HO_10.out)
                   have n1_ := Aside0.mk (Kd.R_drew HO_11.out)
                   have n2_ := Aside0.mk (blk_drew BK743.out)
                   have n3_ := Aside0.mk (below_drew1 HB.out)
                   clear HO_10
                   clear HO_11
                   clear BK743
                   clear HB
                   have HO_10 := n0_
                   have HO_11 := n1_
                   have BK743 := n2_
                   have HB := n3_
                   clear n0_ n1_ n2_ n3_
                   have p758 : 0 ≤ (x12_3 : Int) := of_decide_eq_true (by first | (with_reducible assumption) | assumption)
                   have q758 : x12_3 < (t749.length : Int) := of_decide_eq_true (by first | (with_reducible assumption) | assumption)
                   obtain ⟨ad758, e758, hx758_0⟩ := Kd.at_int (Kd.R_reads' HO_10.out).2.2 x12_3 p758 q758
                   cases e758
                   replace p758 := eq_true p758
                   replace q758 := eq_true q758
                   have p759 : 0 ≤ (x12_3 : Int) := of_decide_eq_true (by first | (with_reducible assumption) | assumption)
                   have q759 : x12_3 < (t749.length : Int) := of_decide_eq_true (by first | (with_reducible assumption) | assumption)
                   obtain ⟨ad759, e759, hx759_0⟩ := Kd.at_int (Kd.R_reads' HO_10.out).2.2 x12_3 p759 q759
                   obtain rfl : ad758 = ad759 := (by injection e759)
                   replace p759 := eq_true p759
                   replace q759 := eq_true q759
                   refine stz (fun w' => w'.cell? ⟨gb743, 0, none⟩ = some (.int .i64 ((rd_T48 l1 x6_1).f0)) ∧ w'.cell? ⟨gb743, 1, none⟩ = some (.int .i64 ((rd_T48 l1 x6_1).f1)) ∧ w'.cell? ⟨gb743, 2, none⟩ = some (.int .i64 ((rd_T48 l1 x6_1).f2)) ∧ w'.cell? ⟨gb743, 3, none⟩ = some (.int .i64 ((rd_T48 l1 x6_1).f3)) ∧ w'.cell? (ad758.add (x12_3).toNat) = some (.int .i64 (rd t749 x12_3)) ∧ w'.cell? (ad758.add (x12_3).toNat) = some (.int .i64 (rd t749 x12_3))) [] (bn 47 0) ⟨(blk_cell BK743.out 0).trans rfl, (blk_cell BK743.out 1).trans rfl, (blk_cell BK743.out 2).trans rfl, (blk_cell BK743.out 3).trans rfl, hx758_0, hx759_0⟩ (fun hHeld => ?_); refine with_tabW tickingref01_Tiles.tab22 tickingref01_Tiles.bits22 (fun HT_ HW_ => ?_)
                   generalize wr.drew = w63 at HO_10 HO_11 BK743 HB hx758_0 hx759_0 hHeld ⊢
                   refine pT HT_.out 0 (some 95) (bn 47 1) ?_
                   refine pT HT_.out 1 (some 96) (bn 47 3) ?_
                   refine pT HT_.out 2 (some 97) (bn 47 7) ?_
                   refine pT HT_.out 4 (some 99) (bn 47 23) ?_
                   refine tT HT_.out HW_.out 3 (some 98) (bn 47 31) hHeld ?_
                   refine tT HT_.out HW_.out 5 (some 100) (bn 47 63) hHeld ?_
                   refine pT HT_.out 6 (some 101) (bn 47 127) ?_
                   refine pT HT_.out 7 (some 102) (bn 47 255) ?_
                   refine pT HT_.out 8 (some 103) (bn 47 511) ?_
                   refine pT HT_.out 9 (some 104) (bn 47 1023) ?_
                   refine pT HT_.out 10 (some 105) (bn 47 2047) ?_
                   refine pT HT_.out 12 (some 107) (bn 47 6143) ?_
                   refine tT HT_.out HW_.out 11 (some 106) (bn 47 8191) hHeld ?_
                   refine tT HT_.out HW_.out 13 (some 108) (bn 47 16383) hHeld ?_
                   refine pT HT_.out 14 (some 109) (bn 47 32767) ?_
                   refine pT HT_.out 15 (some 110) (bn 47 65535) ?_
                   refine pT HT_.out 16 (some 111) (bn 47 131071) ?_
                   refine pT0 HT_.out 17 (some 112) (bn 47 262143) ?_
                   refine pT0 HT_.out 18 (some 113) (bn 47 524287) ?_
                   refine pT0 HT_.out 19 (some 114) (bn 47 1048575) ?_
                   refine pT0 HT_.out 20 (some 115) (bn 47 2097151) ?_
                   refine pT0 HT_.out 21 (some 116) (bn 47 4194303) ?_
                   refine pT0 HT_.out 22 (some 117) (bn 47 8388607) ?_
                   refine pT0 HT_.out 23 (some 118) (bn 47 16777215) ?_
                   refine pT HT_.out 24 (some 119) (bn 47 33554431) ?_
                   refine pT HT_.out 25 (some 120) (bn 47 67108863) ?_
                   refine pT0 HT_.out 26 (some 121) (bn 47 134217727) ?_
                   refine pT0 HT_.out 27 (some 122) (bn 47 268435455) ?_
                   refine pT0 HT_.out 28 (some 123) (bn 47 536870911) ?_
                   refine pT0 HT_.out 29 (some 124) (bn 47 1073741823) ?_
                   refine pT0 HT_.out 30 (some 125) (bn 47 2147483647) ?_
                   refine pT0 HT_.out 31 (some 126) (bn 47 4294967295) ?_
                   refine pT0 HT_.out 32 (some 127) (bn 47 8589934591) ?_
                   refine pT HT_.out 33 (some 128) (bn 47 17179869183) ?_
                   refine pT HT_.out 34 (some 129) (bn 47 34359738367) ?_
                   refine pT0 HT_.out 35 (some 130) (bn 47 68719476735) ?_
                   refine pT0 HT_.out 36 (some 131) (bn 47 137438953471) ?_
                   refine pT0 HT_.out 37 (some 132) (bn 47 274877906943) ?_
                   refine pT0 HT_.out 38 (some 133) (bn 47 549755813887) ?_
                   refine pT0 HT_.out 39 (some 134) (bn 47 1099511627775) ?_
                   refine pT0 HT_.out 40 (some 135) (bn 47 2199023255551) ?_
                   refine pT0 HT_.out 41 (some 136) (bn 47 4398046511103) ?_
                   refine pT0 HT_.out 42 (some 137) (bn 47 8796093022207) ?_
                   refine pT0 HT_.out 43 (some 138) (bn 47 17592186044415) ?_
                   refine pT0 HT_.out 44 (some 139) (bn 47 35184372088831) ?_
                   refine pT0 HT_.out 45 (some 140) (bn 47 70368744177663) ?_
                   refine pT HT_.out 46 (some 141) (bn 47 140737488355327) ?_
                   refine done_ (done_of HT_.out (by kernel_rfl)) ?_
                   try go_wp2
                   go_roundg k4
                   case measure => have := HK1.out; have := HK2.out; have := HK3.out; have := HK4.out; omega
                   case rel => exact ⟨(wrap64 (x13_4 + 1)), (by first | rfl | (simp; done) | (simp [*]; done)), H', ⟨by have := HK1.out; have := HK2.out; have := HK3.out; have := HK4.out; omega⟩, ⟨by (with_reducible repeat (first | apply Kd.R_alloc | apply Kd.R_drewN | apply Kd.R_drew)); exact HO_10.out⟩, ⟨by (with_reducible repeat (first | apply Kd.R_alloc | apply Kd.R_drewN | apply Kd.R_drew)); exact HO_11.out⟩, ⟨by (with_reducible repeat (first | refine blk_drewN ?_ _ | refine blk_drew ?_ | refine blk_alloc ?_ _)); exact BK743.out⟩, ⟨HBz⟩⟩
                 ·rw [if_neg c47] at H
                  have c47b0 : decide (((rd_T48 l1 x6_1).f0) ≤ (rd t749 x12_3)) = false := decide_eq_false c47
                  clear c47
                  have H' := Aside0.mk H
                  clear H
                  obtain ⟨Ao64, co64, eo64⟩ := Kd.R_slice HO_11.out
                  subst eo64
                  try go_wp2
                  have n0_ := Aside0.mk (Kd.R_drew HO_10.out)
                  have n1_ := Aside0.mk (Kd.R_drew HO_11.out)
                  have n2_ := Aside0.mk (blk_drew BK743.out)
                  have n3_ := Aside0.mk (below_drew1 HB.out)
                  clear HO_10
                  clear HO_11
                  clear BK743
                  clear HB
                  have HO_10 := n0_
                  have HO_11 := n1_
                  have BK743 := n2_
                  have HB := n3_
                  clear n0_ n1_ n2_ n3_
                  have p758 : 0 ≤ (x12_3 : Int) := of_decide_eq_true (by first | (with_reducible assumption) | assumption)
                  have q758 : x12_3 < (t749.length : Int) := of_decide_eq_true (by first | (with_reducible assumption) | assumption)
                  obtain ⟨ad758, e758, hx758_0⟩ := Kd.at_int (Kd.R_reads' HO_10.out).2.2 x12_3 p758 q758
                  cases e758
                  replace p758 := eq_true p758
                  replace q758 := eq_true q758
                  refine stz (fun w' => w'.cell? ⟨gb743, 0, none⟩ = some (.int .i64 ((rd_T48 l1 x6_1).f0)) ∧ w'.cell? ⟨gb743, 1, none⟩ = some (.int .i64 ((rd_T48 l1 x6_1).f1)) ∧ w'.cell? ⟨gb743, 2, none⟩ = some (.int .i64 ((rd_T48 l1 x6_1).f2)) ∧ w'.cell? ⟨gb743, 3, none⟩ = some (.int .i64 ((rd_T48 l1 x6_1).f3)) ∧ w'.cell? (ad758.add (x12_3).toNat) = some (.int .i64 (rd t749 x12_3))) [] (bn 47 0) ⟨(blk_cell BK743.out 0).trans rfl, (blk_cell BK743.out 1).trans rfl, (blk_cell BK743.out 2).trans rfl, (blk_cell BK743.out 3).trans rfl, hx758_0⟩ (fun hHeld => ?_); refine with_tabW tickingref01_Tiles.tab22 tickingref01_Tiles.bits22 (fun HT_ HW_ => ?_)
                  generalize wr.drew = w65 at HO_10 HO_11 BK743 HB hx758_0 hHeld ⊢
                  refine pT HT_.out 0 (some 95) (bn 47 1) ?_
                  refine pT HT_.out 1 (some 96) (bn 47 3) ?_
                  refine pT HT_.out 2 (some 97) (bn 47 7) ?_
                  refine pT HT_.out 4 (some 99) (bn 47 23) ?_
                  refine tT HT_.out HW_.out 3 (some 98) (bn 47 31) hHeld ?_
                  refine tT HT_.out HW_.out 5 (some 100) (bn 47 63) hHeld ?_
                  refine pT HT_.out 6 (some 101) (bn 47 127) ?_
                  refine pT HT_.out 7 (some 102) (bn 47 255) ?_
                  refine pT0 HT_.out 8 (some 103) (bn 47 511) ?_
                  refine pT0 HT_.out 9 (some 104) (bn 47 1023) ?_
                  refine pT0 HT_.out 10 (some 105) (bn 47 2047) ?_
                  refine pT0 HT_.out 11 (some 106) (bn 47 4095) ?_
                  refine pT0 HT_.out 12 (some 107) (bn 47 8191) ?_
                  refine pT0 HT_.out 13 (some 108) (bn 47 16383) ?_
                  refine pT0 HT_.out 14 (some 109) (bn 47 32767) ?_
                  refine pT HT_.out 15 (some 110) (bn 47 65535) ?_
                  refine pT HT_.out 16 (some 111) (bn 47 131071) ?_
                  refine pT0 HT_.out 17 (some 112) (bn 47 262143) ?_
                  refine pT0 HT_.out 18 (some 113) (bn 47 524287) ?_
                  refine pT0 HT_.out 19 (some 114) (bn 47 1048575) ?_
                  refine pT0 HT_.out 20 (some 115) (bn 47 2097151) ?_
                  refine pT0 HT_.out 21 (some 116) (bn 47 4194303) ?_
                  refine pT0 HT_.out 22 (some 117) (bn 47 8388607) ?_
                  refine pT0 HT_.out 23 (some 118) (bn 47 16777215) ?_
                  refine pT HT_.out 24 (some 119) (bn 47 33554431) ?_
                  refine pT HT_.out 25 (some 120) (bn 47 67108863) ?_
                  refine pT0 HT_.out 26 (some 121) (bn 47 134217727) ?_
                  refine pT0 HT_.out 27 (some 122) (bn 47 268435455) ?_
                  refine pT0 HT_.out 28 (some 123) (bn 47 536870911) ?_
                  refine pT0 HT_.out 29 (some 124) (bn 47 1073741823) ?_
                  refine pT0 HT_.out 30 (some 125) (bn 47 2147483647) ?_
                  refine pT0 HT_.out 31 (some 126) (bn 47 4294967295) ?_
                  refine pT0 HT_.out 32 (some 127) (bn 47 8589934591) ?_
                  refine pT HT_.out 33 (some 128) (bn 47 17179869183) ?_
                  refine pT HT_.out 34 (some 129) (bn 47 34359738367) ?_
                  refine pT0 HT_.out 35 (some 130) (bn 47 68719476735) ?_
                  refine pT0 HT_.out 36 (some 131) (bn 47 137438953471) ?_
                  refine pT0 HT_.out 37 (some 132) (bn 47 274877906943) ?_
                  refine pT0 HT_.out 38 (some 133) (bn 47 549755813887) ?_
                  refine pT0 HT_.out 39 (some 134) (bn 47 1099511627775) ?_
                  refine pT0 HT_.out 40 (some 135) (bn 47 2199023255551) ?_
                  refine pT0 HT_.out 41 (some 136) (bn 47 4398046511103) ?_
                  refine pT0 HT_.out 42 (some 137) (bn 47 8796093022207) ?_
                  refine pT0 HT_.out 43 (some 138) (bn 47 17592186044415) ?_
                  refine pT0 HT_.out 44 (some 139) (bn 47 35184372088831) ?_
                  refine pT0 HT_.out 45 (some 140) (bn 47 70368744177663) ?_
                  refine pT HT_.out 46 (some 141) (bn 47 140737488355327) ?_
                  refine done_ (done_of HT_.out (by kernel_rfl)) ?_
                  try go_wp2
                  go_roundg k4
                  case measure => have := HK1.out; have := HK2.out; have := HK3.out; have := HK4.out; omega
                  case rel => exact ⟨(wrap64 (x13_4 + 1)), (by first | rfl | (simp; done) | (simp [*]; done)), H', ⟨by have := HK1.out; have := HK2.out; have := HK3.out; have := HK4.out; omega⟩, ⟨by (with_reducible repeat (first | apply Kd.R_alloc | apply Kd.R_drewN | apply Kd.R_drew)); exact HO_10.out⟩, ⟨by (with_reducible repeat (first | apply Kd.R_alloc | apply Kd.R_drewN | apply Kd.R_drew)); exact HO_11.out⟩, ⟨by (with_reducible repeat (first | refine blk_drewN ?_ _ | refine blk_drew ?_ | refine blk_alloc ?_ _)); exact BK743.out⟩, ⟨HBz⟩⟩
                ·rw [if_neg c46] at H
                 exact absurd H (by simp)
               ·rw [if_neg c45] at H
                exact absurd H (by simp)
              ·rw [if_neg c44] at H
               have c44b0 : decide (x13_4 < (t755.length : Int)) = false := decide_eq_false c44
               clear c44
               have H' := Aside0.mk H
               clear H
               obtain ⟨Ao66, co66, eo66⟩ := Kd.R_slice HO_11.out
               subst eo66
               go_wp2
               go_roundg k4
               case measure => have := HK1.out; have := HK2.out; have := HK3.out; have := HK4.out; omega
               case rel => exact ⟨(wrap64 (x12_3 + 1)), (by first | rfl | (simp; done) | (simp [*]; done)), H', ⟨by have := HK1.out; have := HK2.out; have := HK3.out; have := HK4.out; omega⟩, ⟨by (with_reducible repeat (first | apply Kd.R_alloc | apply Kd.R_drewN | apply Kd.R_drew)); exact HO_10.out⟩, ⟨by (with_reducible repeat (first | apply Kd.R_alloc | apply Kd.R_drewN | apply Kd.R_drew)); exact HO_11.out⟩, ⟨by (with_reducible repeat (first | refine blk_drewN ?_ _ | refine blk_drew ?_ | refine blk_alloc ?_ _)); exact BK743.out⟩, ⟨HBz⟩⟩
           ·rw [if_neg c42] at H
            have c42b0 : decide (x12_3 < (t749.length : Int)) = false := decide_eq_false c42
            clear c42
            have H' := Aside0.mk H
            clear H
            obtain ⟨Ao67, co67, eo67⟩ := Kd.R_slice HO_10.out
            subst eo67
            go_wp2
            go_roundg k3
            case measure => have := HK1.out; have := HK2.out; have := HK3.out; omega
            case rel => exact ⟨((wrap64 (x5_1 + (wrap64 ((wrap64 (((rd_T48 l1 x6_1).f2) - ((rd_T48 l1 x6_1).f0))) * (wrap64 (((rd_T48 l1 x6_1).f3) - ((rd_T48 l1 x6_1).f1)))))))), (wrap64 (x6_1 + 1)), (by first | rfl | (simp; done) | (simp [*]; done)), (by first | rfl | (simp; done) | (simp [*]; done)), H', ⟨by have := HK1.out; have := HK2.out; have := HK3.out; omega⟩, ⟨HBz⟩⟩
     ·rw [if_neg c7] at H
      exact absurd H (by simp)
    ·rw [if_neg c6] at H
     have c6b0 : decide (x6_1 < (l1.length : Int)) = false := decide_eq_false c6
     clear c6
     replace H := Option.bind_eq_some_iff.mp H
     obtain ⟨t741, A680, H⟩ := H
     replace H : (some (x5_1 == t741)) = some r := H
     have A68 := Aside0.mk A680
     clear A680
     obtain rfl := Option.some.inj H
     go_wp2_with (first | ((with_reducible refine gate_callee (f := 22) rfl ?_); refine goesL_ (some 144) rfl rfl Try.func22 (by kernel_rfl) rfl #[.slice A0 l0.length c0] rfl (by (try simp only [List.map_toArray, List.map_cons, List.map_nil]); first | done | rfl | (simp only [List.length_drop, List.length_take]; rfl)) ?_; (with_reducible refine (tickingref01_Area.calls k1 _ _ l0 t741 _ ?side1 ?side2 A68.out).mono ?_); (case side1 => repeat (first | exact (Kd.C_below HR0.out HB.out) | (with_reducible refine Kd.C_alloc ?_ _) | (with_reducible refine Kd.C_drewN ?_ _) | (with_reducible refine Kd.C_drew ?_))); (case side2 => exact HC0.out); rintro e w69 ⟨rfl, hb⟩; refine ⟨_, rfl, ?_⟩; have n0_ := Aside0.mk (below_step HBz hb); clear HB; have HB := n0_; clear n0_; (try clear hb); (try clear hb2); (try clear hk); (try clear hi)))
     go_ret
     exact ⟨by first | rfl | (simp [errW_none, errW_some] <;> rfl) | (simp [*, errW_none, errW_some] <;> rfl), HBz⟩
 ·replace c4 := Bool.eq_false_iff.mpr c4
  subst c4
  have H1 : (some false) = some r := by rw [if_neg (show ¬ (false = true) by decide)] at H; exact H
  clear H
  have H := H1
  clear H1
  obtain rfl := Option.some.inj H
  go_enter Try.func44, Try.ntmps44
  go_wp2_with (first | ((with_reducible refine gate_callee (f := 20) rfl ?_); refine goesL_ (some 15) rfl rfl Try.func20 (by kernel_rfl) rfl #[.slice A1 l1.length c1, .int .i64 1024] rfl (by (try simp only [List.map_toArray, List.map_cons, List.map_nil]); first | done | rfl | (simp only [List.length_drop, List.length_take]; rfl)) ?_; (with_reducible refine (tickingref01_Rects.calls k _ _ l1 1024 false _ ?side1 ?side2 A3.out).mono ?_); (case side1 => repeat (first | exact HR1.out | (with_reducible refine Kd.C_alloc ?_ _) | (with_reducible refine Kd.C_drewN ?_ _) | (with_reducible refine Kd.C_drew ?_))); (case side2 => exact HC1.out); rintro e w70 ⟨rfl, hb⟩; refine ⟨_, rfl, ?_⟩; have n0_ := Aside0.mk (below_step HBz hb); clear HB; have HB := n0_; clear n0_; (try clear hb); (try clear hb2); (try clear hk); (try clear hi)))
  go_ret
  exact ⟨by first | rfl | (simp [errW_none, errW_some] <;> rfl) | (simp [*, errW_none, errW_some] <;> rfl), HBz⟩
end Go.Proofs.Ytplhfbkejngioaa.X
namespace Go.Proofs.Ytplhfbkejngioaa.X
open Go.RowKit Go.Proofs.YtplhfbkejngioaaW.PrintWords Go.Proofs.YtplhfbkejngioaaW.PrintLast Go.Proofs.Ytplhfbkejngioaa.S
attribute [local go_sem] max2_int min2_int max_two min_two
set_option linter.unusedVariables false
set_option linter.unusedSimpArgs false
def tickinglaw01_less.l0 : Nat → Int → Int → Int → Int → Option (Bool)
 | 0, _, _, _, _ => none
 | k + 1, x0, x1, x2, x3 => if x1 = 0 then (none) else (if x3 = 0 then (none) else (if (wrap64 (Int.tdiv x0 x1)) = (wrap64 (Int.tdiv x2 x3)) then (if (wrap64 (x0 - (wrap64 ((wrap64 (Int.tdiv x0 x1)) * x1)))) = 0 then (some (decide ((wrap64 (x2 - (wrap64 ((wrap64 (Int.tdiv x2 x3)) * x3)))) > 0))) else (if (wrap64 (x2 - (wrap64 ((wrap64 (Int.tdiv x2 x3)) * x3)))) = 0 then (some false) else (tickinglaw01_less.l0 k x3 (wrap64 (x2 - (wrap64 ((wrap64 (Int.tdiv x2 x3)) * x3)))) x1 (wrap64 (x0 - (wrap64 ((wrap64 (Int.tdiv x0 x1)) * x1))))))) else (some (decide ((wrap64 (Int.tdiv x0 x1)) < (wrap64 (Int.tdiv x2 x3)))))))
def tickinglaw01_less.f (k : Nat) (a0 : Int) (a1 : Int) (a2 : Int) (a3 : Int) : Option (Bool) := tickinglaw01_less.l0 k a0 a1 a2 a3
theorem tickinglaw01_less.mono_l : ∀ k, (∀ y0 y1 y2 y3, LeO (tickinglaw01_less.l0 k y0 y1 y2 y3) (tickinglaw01_less.l0 (k + 1) y0 y1 y2 y3))
 | 0 => fun _ _ _ _ r h => by simp [tickinglaw01_less.l0] at h
 | k + 1 => by
  have ih0 := tickinglaw01_less.mono_l k
  ·intro y0 y1 y2 y3
   unfold tickinglaw01_less.l0
   repeat' first
   | (with_reducible exact ih0 _ _ _ _)
   | (with_reducible exact LeO.refl _)
   | (with_reducible exact LeO.none _)
   | (with_reducible refine LeO.ite ?_ ?_)
   | (with_reducible refine LeO.bind ?_ (fun _ => ?_))
   | exact ih0 _ _ _ _
   | exact LeO.none _
   | refine LeO.ite ?_ ?_
   | refine LeO.bind ?_ (fun _ => ?_)
theorem tickinglaw01_less.mono : ∀ a0 a1 a2 a3 k, LeO (tickinglaw01_less.f k a0 a1 a2 a3) (tickinglaw01_less.f (k + 1) a0 a1 a2 a3) := by
 intro a0 a1 a2 a3 k
 have ih0 := tickinglaw01_less.mono_l k
 unfold tickinglaw01_less.f
 repeat' first
   | (with_reducible exact ih0 _ _ _ _)
   | (with_reducible exact LeO.refl _)
   | (with_reducible exact LeO.none _)
   | (with_reducible refine LeO.ite ?_ ?_)
   | (with_reducible refine LeO.bind ?_ (fun _ => ?_))
   | exact ih0 _ _ _ _
   | exact LeO.none _
   | refine LeO.ite ?_ ?_
   | refine LeO.bind ?_ (fun _ => ?_)
set_option maxHeartbeats 8000000 in
set_option maxRecDepth 100000 in
theorem tickinglaw01_less.calls (k : Nat) (a0 : Int) (a1 : Int) (a2 : Int) (a3 : Int) (r : Bool) (w : World) (h : tickinglaw01_less.f k a0 a1 a2 a3 = some r) :
  Calls Try.prog 36 #[.int .i64 a0, .int .i64 a1, .int .i64 a2, .int .i64 a3] w fun e w' => e = .returned (.bool r) ∧ Drawn0 w w' := by
 have H : (tickinglaw01_less.l0 k a0 a1 a2 a3) = some r := h
 clear h
 have H' := Aside0.mk H
 clear H
 go_enter Try.func36, Try.ntmps36
 go_wp2
 repeat (go_quiet (fail); try go_wp2)
 go_loopg [0, 1, 2, 3] k (fun kq v0 v1 v2 v3 w' => ∃ (x0_1 : Int) (x1_1 : Int) (x2_1 : Int) (x3_1 : Int), v0 = .int .i64 x0_1 ∧ v1 = .int .i64 x1_1 ∧ v2 = .int .i64 x2_1 ∧ v3 = .int .i64 x3_1 ∧ Aside0 (tickinglaw01_less.l0 kq x0_1 x1_1 x2_1 x3_1 = some r) ∧ Aside0 (kq ≤ k) ∧ Drawn0 w w')
 case atStart => exact ⟨(a0), (a1), (a2), (a3), (by first | rfl | (simp; done) | (simp [*]; done)), (by first | rfl | (simp; done) | (simp [*]; done)), (by first | rfl | (simp; done) | (simp [*]; done)), (by first | rfl | (simp; done) | (simp [*]; done)), H', ⟨Nat.le_refl _⟩, by repeat (first | exact Drawn0.refl _ | apply Drawn0.step)⟩
 case round =>
  clear H'
  try clear p2
  try clear c3
  obtain ⟨x0_1, x1_1, x2_1, x3_1, rfl, rfl, rfl, rfl, HA, HK1, ⟨m1, rfl⟩⟩ := hrel
  cases gk with
  | zero => exact absurd HA.out (by simp [tickinglaw01_less.l0])
  | succ k1 =>
   have H := HA.out
   clear HA
   simp only [tickinglaw01_less.l0] at H
   by_cases c5 : x1_1 = 0
   ·rw [if_pos c5] at H
    exact absurd H (by simp)
   ·rw [if_neg c5] at H
    have c5b0 : (x1_1 == 0) = false := beq_eq_false_iff_ne.mpr c5
    have c5b1 : (x1_1 != 0) = true := bne_iff_ne.mpr c5
    by_cases c6 : x3_1 = 0
    ·rw [if_pos c6] at H
     exact absurd H (by simp)
    ·rw [if_neg c6] at H
     have c6b0 : (x3_1 == 0) = false := beq_eq_false_iff_ne.mpr c6
     have c6b1 : (x3_1 != 0) = true := bne_iff_ne.mpr c6
     by_cases c7 : (wrap64 (Int.tdiv x0_1 x1_1)) = (wrap64 (Int.tdiv x2_1 x3_1))
     ·rw [if_pos c7] at H
      have c7b0 : ((wrap64 (Int.tdiv x0_1 x1_1)) == (wrap64 (Int.tdiv x2_1 x3_1))) = true := beq_iff_eq.mpr c7
      have c7b1 : ((wrap64 (Int.tdiv x0_1 x1_1)) != (wrap64 (Int.tdiv x2_1 x3_1))) = false := bne_eq_false_iff_eq.mpr c7
      clear c7
      by_cases c8 : (wrap64 (x0_1 - (wrap64 ((wrap64 (Int.tdiv x0_1 x1_1)) * x1_1)))) = 0
      ·rw [if_pos c8] at H
       have c8b0 : ((wrap64 (x0_1 - (wrap64 ((wrap64 (Int.tdiv x0_1 x1_1)) * x1_1)))) == 0) = true := beq_iff_eq.mpr c8
       have c8b1 : ((wrap64 (x0_1 - (wrap64 ((wrap64 (Int.tdiv x0_1 x1_1)) * x1_1)))) != 0) = false := bne_eq_false_iff_eq.mpr c8
       clear c8
       obtain rfl := Option.some.inj H
       go_wp2
       repeat (go_quiet (fail); try go_wp2)
       go_ret
       exact ⟨by first | rfl | (simp; done) | (simp [*]; done), by repeat (first | exact Drawn0.refl _ | apply Drawn0.step)⟩
      ·rw [if_neg c8] at H
       have c8b0 : ((wrap64 (x0_1 - (wrap64 ((wrap64 (Int.tdiv x0_1 x1_1)) * x1_1)))) == 0) = false := beq_eq_false_iff_ne.mpr c8
       have c8b1 : ((wrap64 (x0_1 - (wrap64 ((wrap64 (Int.tdiv x0_1 x1_1)) * x1_1)))) != 0) = true := bne_iff_ne.mpr c8
       by_cases c9 : (wrap64 (x2_1 - (wrap64 ((wrap64 (Int.tdiv x2_1 x3_1)) * x3_1)))) = 0
       ·rw [if_pos c9] at H
        have c9b0 : ((wrap64 (x2_1 - (wrap64 ((wrap64 (Int.tdiv x2_1 x3_1)) * x3_1)))) == 0) = true := beq_iff_eq.mpr c9
        have c9b1 : ((wrap64 (x2_1 - (wrap64 ((wrap64 (Int.tdiv x2_1 x3_1)) * x3_1)))) != 0) = false := bne_eq_false_iff_eq.mpr c9
        clear c9
        obtain rfl := Option.some.inj H
        go_wp2
        repeat (go_quiet (fail); try go_wp2)
        go_ret
        exact ⟨by first | rfl | (simp; done) | (simp [*]; done), by repeat (first | exact Drawn0.refl _ | apply Drawn0.step)⟩
       ·rw [if_neg c9] at H
        have c9b0 : ((wrap64 (x2_1 - (wrap64 ((wrap64 (Int.tdiv x2_1 x3_1)) * x3_1)))) == 0) = false := beq_eq_false_iff_ne.mpr c9
        have c9b1 : ((wrap64 (x2_1 - (wrap64 ((wrap64 (Int.tdiv x2_1 x3_1)) * x3_1)))) != 0) = true := bne_iff_ne.mpr c9
        have H' := Aside0.mk H
        clear H
        go_wp2
        repeat (go_quiet (fail); try go_wp2)
        go_roundg k1
        case measure => have := HK1.out; omega
        case rel => exact ⟨(x3_1), (wrap64 (x2_1 - (wrap64 ((wrap64 (Int.tdiv x2_1 x3_1)) * x3_1)))), (x1_1), (wrap64 (x0_1 - (wrap64 ((wrap64 (Int.tdiv x0_1 x1_1)) * x1_1)))), (by first | rfl | (simp; done) | (simp [*]; done)), (by first | rfl | (simp; done) | (simp [*]; done)), (by first | rfl | (simp; done) | (simp [*]; done)), (by first | rfl | (simp; done) | (simp [*]; done)), H', ⟨by have := HK1.out; omega⟩, by repeat (first | exact Drawn0.refl _ | apply Drawn0.step)⟩
     ·rw [if_neg c7] at H
      have c7b0 : ((wrap64 (Int.tdiv x0_1 x1_1)) == (wrap64 (Int.tdiv x2_1 x3_1))) = false := beq_eq_false_iff_ne.mpr c7
      have c7b1 : ((wrap64 (Int.tdiv x0_1 x1_1)) != (wrap64 (Int.tdiv x2_1 x3_1))) = true := bne_iff_ne.mpr c7
      obtain rfl := Option.some.inj H
      go_wp2
      repeat (go_quiet (fail); try go_wp2)
      go_ret
      exact ⟨by first | rfl | (simp; done) | (simp [*]; done), by repeat (first | exact Drawn0.refl _ | apply Drawn0.step)⟩
end Go.Proofs.Ytplhfbkejngioaa.X
