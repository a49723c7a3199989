/- Texts of this claim's session, put together: X31. -/
import Derived.Test.YtplhfbkejngioaaBb0
import Derived.Test.YtplhfbkejngioaaBb4
import Derived.Test.YtplhfbkejngioaaMe0
import Derived.Test.YtplhfbkejngioaaBb13
import Derived.Test.YtplhfbkejngioaaMe1
import Derived.Test.YtplhfbkejngioaaWWords
import Derived.Test.YtplhfbkejngioaaWLast
import Derived.Test.YtplhfbkejngioaaWTab
import Derived.Test.YtplhfbkejngioaaWRepsOne
namespace Go.Proofs.Ytplhfbkejngioaa.X
open Go.RowKit Go.Proofs.YtplhfbkejngioaaW.PrintWords Go.Proofs.YtplhfbkejngioaaW.PrintLast Go.Proofs.Ytplhfbkejngioaa.S
attribute [local go_sem] max2_int min2_int max_two min_two
set_option linter.unusedVariables false
set_option linter.unusedSimpArgs false
attribute [local go_sem high] eqA28
def tickinglaw01_CoverMeets.j0 : Nat → List (S48) → List Int → Bool → Option (Bool)
 | 0, _, _, _ => none
 | k + 1, x3, x5, x90 => if x90 = true then (some false) else (if 0 < (x5.length : Int) then (if 0 ≤ (rd x5 0) then (if (rd x5 0) < (x3.length : Int) then (if 1 < (x5.length : Int) then (if 0 ≤ (rd x5 1) then (if (rd x5 1) < (x3.length : Int) then ((tickingref01_Meets.f ((rd_T48 x3 (rd x5 0)).f0) ((rd_T48 x3 (rd x5 0)).f1) ((rd_T48 x3 (rd x5 0)).f2) ((rd_T48 x3 (rd x5 0)).f3) ((rd_T48 x3 (rd x5 1)).f0) ((rd_T48 x3 (rd x5 1)).f1) ((rd_T48 x3 (rd x5 1)).f2) ((rd_T48 x3 (rd x5 1)).f3)).bind fun t710 => (if t710 = true then (some false) else ((tickinglaw01_awake.f k).bind fun t711 => (some t711)))) else (none)) else (none)) else (none)) else (none)) else (none)) else (none))
def tickinglaw01_CoverMeets.f (k : Nat) (l0 : List (S48)) : Option (Bool) := (tickinglaw01_rects.f l0 33).bind fun t685 => ((cover_Meet.f k t685).bind fun bt688 => ((tickingref01_Rects.f k t685 32).bind fun t695 => (if t695 = true then ((tickingref01_Common.f k t685).bind fun bt697 => (if bt697.2.2 = true then (if (bt688.1 == bt697.1 && (bt688.2.1 == bt697.2.1)) = true then (if (bt688.2.2.1.length : Int) = 0 then (if bt688.2.2.2 = 0 then ((tickinglaw01_awake.f k).bind fun t701 => (some t701)) else (some false)) else (some false)) else (some false)) else (if bt688.2.2.2 = 0 then (if (!(bt688.1 == 0) || (!(bt688.2.1 == 0))) = true then (tickinglaw01_CoverMeets.j0 k t685 bt688.2.2.1 true) else (if (bt688.2.2.1.length : Int) = 2 then (if 0 < (bt688.2.2.1.length : Int) then (if (rd bt688.2.2.1 0) < 0 then (tickinglaw01_CoverMeets.j0 k t685 bt688.2.2.1 true) else (if 1 < (bt688.2.2.1.length : Int) then (if (rd bt688.2.2.1 0) ≥ (rd bt688.2.2.1 1) then (tickinglaw01_CoverMeets.j0 k t685 bt688.2.2.1 true) else (tickinglaw01_CoverMeets.j0 k t685 bt688.2.2.1 (decide ((rd bt688.2.2.1 1) ≥ (t685.length : Int))))) else (none))) else (none)) else (tickinglaw01_CoverMeets.j0 k t685 bt688.2.2.1 true))) else (tickinglaw01_CoverMeets.j0 k t685 bt688.2.2.1 true)))) else (if (bt688.1 == 0 && (bt688.2.1 == 0)) = true then (if (bt688.2.2.1.length : Int) = 0 then (if bt688.2.2.2 = 2 then ((tickinglaw01_awake.f k).bind fun t696 => (some t696)) else (some false)) else (some false)) else (some false)))))
theorem tickinglaw01_CoverMeets.mono_l : ∀ k, (∀ y0 y1 y2, LeO (tickinglaw01_CoverMeets.j0 k y0 y1 y2) (tickinglaw01_CoverMeets.j0 (k + 1) y0 y1 y2))
 | 0 => fun _ _ _ r h => by simp [tickinglaw01_CoverMeets.j0] at h
 | k + 1 => by
  have ih0 := tickinglaw01_CoverMeets.mono_l k
  ·intro y0 y1 y2
   unfold tickinglaw01_CoverMeets.j0
   repeat' first
   | (with_reducible exact ih0 _ _ _)
   | (with_reducible exact cover_Meet.mono _ _)
   | (with_reducible exact tickinglaw01_awake.mono _)
   | (with_reducible exact tickingref01_Common.mono _ _)
   | (with_reducible exact tickingref01_Rects.mono _ _ _)
   | (with_reducible exact LeO.refl _)
   | (with_reducible exact LeO.none _)
   | (with_reducible refine LeO.ite ?_ ?_)
   | (with_reducible refine LeO.bind ?_ (fun _ => ?_))
   | exact ih0 _ _ _
   | exact cover_Meet.mono _ _
   | exact tickinglaw01_awake.mono _
   | exact tickingref01_Common.mono _ _
   | exact tickingref01_Rects.mono _ _ _
   | exact LeO.none _
   | refine LeO.ite ?_ ?_
   | refine LeO.bind ?_ (fun _ => ?_)
theorem tickinglaw01_CoverMeets.mono : ∀ a0 k, LeO (tickinglaw01_CoverMeets.f k a0) (tickinglaw01_CoverMeets.f (k + 1) a0) := by
 intro a0 k
 have ih0 := tickinglaw01_CoverMeets.mono_l k
 unfold tickinglaw01_CoverMeets.f
 repeat' first
   | (with_reducible exact ih0 _ _ _)
   | (with_reducible exact cover_Meet.mono _ _)
   | (with_reducible exact tickinglaw01_awake.mono _)
   | (with_reducible exact tickingref01_Common.mono _ _)
   | (with_reducible exact tickingref01_Rects.mono _ _ _)
   | (with_reducible exact LeO.refl _)
   | (with_reducible exact LeO.none _)
   | (with_reducible refine LeO.ite ?_ ?_)
   | (with_reducible refine LeO.bind ?_ (fun _ => ?_))
   | exact ih0 _ _ _
   | exact cover_Meet.mono _ _
   | exact tickinglaw01_awake.mono _
   | exact tickingref01_Common.mono _ _
   | exact tickingref01_Rects.mono _ _ _
   | exact LeO.none _
   | refine LeO.ite ?_ ?_
   | refine LeO.bind ?_ (fun _ => ?_)
def tickinglaw01_CoverMeets.T8 : Bool × List (List Nat × List Nat) := (true, [([], []), ([0], [0]), ([1], [1]), ([2], [2]), ([2], [2]), ([3, 4, 2], [2, 3, 4]), ([2, 5], [2, 5]), ([6, 2], [6]), ([7], [7]), ([8, 7], [7, 8]), ([9, 7], [7, 9]), ([7, 10], [7, 10]), ([11, 7], [11]), ([12], [12]), ([13, 12], [12, 13]), ([14, 12], [12, 14]), ([15, 12], [12, 15]), ([12, 16], [12, 16]), ([17, 12], [17]), ([18], [18]), ([19, 18], [18, 19]), ([20, 18], [18, 20]), ([18], [18]), ([22, 18], [18, 22]), ([23, 18], [18, 23]), ([21, 24, 18], [18, 21, 24]), ([18, 25], [18, 25]), ([26, 18], [26]), ([27], [27]), ([28, 27], [27, 28]), ([29, 27], [27, 29]), ([27], [27]), ([31, 27], [27, 31]), ([30, 32, 27], [27, 30, 32]), ([27, 33], [27, 33])])
def tickinglaw01_CoverMeets.B8 : List Nat := [0, 1, 3, 7, 7, 31, 63, 127, 255, 511, 1023, 2047, 4095, 8191, 16383, 32767, 65535, 131071, 262143, 524287, 1048575, 2097151, 524287, 4718591, 13107199, 33554431, 67108863, 134217727, 268435455, 536870911, 1073741823, 268435455, 2415919103, 8589934591, 17179869183]
theorem tickinglaw01_CoverMeets.tab8 : rtab .any (opsOf Try.f11 8) = tickinglaw01_CoverMeets.T8 := by kernel_rfl
theorem tickinglaw01_CoverMeets.bits8 : waitsOk tickinglaw01_CoverMeets.T8.2 tickinglaw01_CoverMeets.B8 = true := by kernel_rfl
def tickinglaw01_CoverMeets.T10 : Bool × List (List Nat × List Nat) := (true, [([], []), ([], []), ([1], [1]), ([2], [2]), ([0, 3], [0, 3]), ([4], [4]), ([], []), ([], []), ([7], [7]), ([8], [8]), ([6, 9], [6, 9]), ([10], [10]), ([5, 11], [5, 11]), ([12], [12]), ([13, 12], [13]), ([14, 14], [14]), ([14, 15], [14, 15]), ([16, 15, 0, 1, 2, 3, 4, 5, 6, 7, 8, 9, 10, 11, 12, 13, 14, 15, 16], [16])])
def tickinglaw01_CoverMeets.B10 : List Nat := [0, 0, 2, 6, 15, 31, 0, 0, 128, 384, 960, 1984, 4095, 8191, 16383, 32767, 65535, 131071]
theorem tickinglaw01_CoverMeets.tab10 : rtab .any (opsOf Try.f11 10) = tickinglaw01_CoverMeets.T10 := by kernel_rfl
theorem tickinglaw01_CoverMeets.bits10 : waitsOk tickinglaw01_CoverMeets.T10.2 tickinglaw01_CoverMeets.B10 = true := by kernel_rfl
set_option maxHeartbeats 8000000 in
set_option maxRecDepth 100000 in
theorem tickinglaw01_CoverMeets.calls (k : Nat) (A0 : Option Addr) (c0 : Nat) (l0 : List (S48)) (r : Bool) (w : World) (hr0 : Kd.C k48 w A0 l0.length l0) (hc0 : l0.length ≤ c0) (hT : r = true) (h : tickinglaw01_CoverMeets.f k l0 = some r) :
  Calls Try.prog 11 #[.slice A0 l0.length c0] w fun e w' => e = .returned (.bool r) ∧ Below w.heap.size w w' := by
 have HRT := Aside0.mk hT
 clear hT
 have hu28 := Try.underlying28
 have hu48 := Try.underlying48
 have HR0 := Aside0.mk hr0
 have HC0 := Aside0.mk hc0
 clear hr0 hc0
 have HB := Aside0.mk (Below.refl w.heap.size w)
 have H : ((tickinglaw01_rects.f l0 33).bind fun t685 => ((cover_Meet.f k t685).bind fun bt688 => ((tickingref01_Rects.f k t685 32).bind fun t695 => (if t695 = true then ((tickingref01_Common.f k t685).bind fun bt697 => (if bt697.2.2 = true then (if (bt688.1 == bt697.1 && (bt688.2.1 == bt697.2.1)) = true then (if (bt688.2.2.1.length : Int) = 0 then (if bt688.2.2.2 = 0 then ((tickinglaw01_awake.f k).bind fun t701 => (some t701)) else (some false)) else (some false)) else (some false)) else (if bt688.2.2.2 = 0 then (if (!(bt688.1 == 0) || (!(bt688.2.1 == 0))) = true then (tickinglaw01_CoverMeets.j0 k t685 bt688.2.2.1 true) else (if (bt688.2.2.1.length : Int) = 2 then (if 0 < (bt688.2.2.1.length : Int) then (if (rd bt688.2.2.1 0) < 0 then (tickinglaw01_CoverMeets.j0 k t685 bt688.2.2.1 true) else (if 1 < (bt688.2.2.1.length : Int) then (if (rd bt688.2.2.1 0) ≥ (rd bt688.2.2.1 1) then (tickinglaw01_CoverMeets.j0 k t685 bt688.2.2.1 true) else (tickinglaw01_CoverMeets.j0 k t685 bt688.2.2.1 (decide ((rd bt688.2.2.1 1) ≥ (t685.length : Int))))) else (none))) else (none)) else (tickinglaw01_CoverMeets.j0 k t685 bt688.2.2.1 true))) else (tickinglaw01_CoverMeets.j0 k t685 bt688.2.2.1 true)))) else (if (bt688.1 == 0 && (bt688.2.1 == 0)) = true then (if (bt688.2.2.1.length : Int) = 0 then (if bt688.2.2.2 = 2 then ((tickinglaw01_awake.f k).bind fun t696 => (some t696)) else (some false)) else (some false)) else (some false)))))) = some r := h
 clear h
 replace H := Option.bind_eq_some_iff.mp H
 obtain ⟨t685, A20, H⟩ := H
 replace H : ((cover_Meet.f k t685).bind fun bt688 => ((tickingref01_Rects.f k t685 32).bind fun t695 => (if t695 = true then ((tickingref01_Common.f k t685).bind fun bt697 => (if bt697.2.2 = true then (if (bt688.1 == bt697.1 && (bt688.2.1 == bt697.2.1)) = true then (if (bt688.2.2.1.length : Int) = 0 then (if bt688.2.2.2 = 0 then ((tickinglaw01_awake.f k).bind fun t701 => (some t701)) else (some false)) else (some false)) else (some false)) else (if bt688.2.2.2 = 0 then (if (!(bt688.1 == 0) || (!(bt688.2.1 == 0))) = true then (tickinglaw01_CoverMeets.j0 k t685 bt688.2.2.1 true) else (if (bt688.2.2.1.length : Int) = 2 then (if 0 < (bt688.2.2.1.length : Int) then (if (rd bt688.2.2.1 0) < 0 then (tickinglaw01_CoverMeets.j0 k t685 bt688.2.2.1 true) else (if 1 < (bt688.2.2.1.length : Int) then (if (rd bt688.2.2.1 0) ≥ (rd bt688.2.2.1 1) then (tickinglaw01_CoverMeets.j0 k t685 bt688.2.2.1 true) else (tickinglaw01_CoverMeets.j0 k t685 bt688.2.2.1 (decide ((rd bt688.2.2.1 1) ≥ (t685.length : Int))))) else (none))) else (none)) else (tickinglaw01_CoverMeets.j0 k t685 bt688.2.2.1 true))) else (tickinglaw01_CoverMeets.j0 k t685 bt688.2.2.1 true)))) else (if (bt688.1 == 0 && (bt688.2.1 == 0)) = true then (if (bt688.2.2.1.length : Int) = 0 then (if bt688.2.2.2 = 2 then ((tickinglaw01_awake.f k).bind fun t696 => (some t696)) else (some false)) else (some false)) else (some false))))) = some r := H
 have A2 := Aside0.mk A20
 clear A20
 replace H := Option.bind_eq_some_iff.mp H
 obtain ⟨⟨t688, t689, t690, t693⟩, A30, H⟩ := H
 replace H : ((tickingref01_Rects.f k t685 32).bind fun t695 => (if t695 = true then ((tickingref01_Common.f k t685).bind fun bt697 => (if bt697.2.2 = true then (if (t688 == bt697.1 && (t689 == bt697.2.1)) = true then (if (t690.length : Int) = 0 then (if t693 = 0 then ((tickinglaw01_awake.f k).bind fun t701 => (some t701)) else (some false)) else (some false)) else (some false)) else (if t693 = 0 then (if (!(t688 == 0) || (!(t689 == 0))) = true then (tickinglaw01_CoverMeets.j0 k t685 t690 true) else (if (t690.length : Int) = 2 then (if 0 < (t690.length : Int) then (if (rd t690 0) < 0 then (tickinglaw01_CoverMeets.j0 k t685 t690 true) else (if 1 < (t690.length : Int) then (if (rd t690 0) ≥ (rd t690 1) then (tickinglaw01_CoverMeets.j0 k t685 t690 true) else (tickinglaw01_CoverMeets.j0 k t685 t690 (decide ((rd t690 1) ≥ (t685.length : Int))))) else (none))) else (none)) else (tickinglaw01_CoverMeets.j0 k t685 t690 true))) else (tickinglaw01_CoverMeets.j0 k t685 t690 true)))) else (if (t688 == 0 && (t689 == 0)) = true then (if (t690.length : Int) = 0 then (if t693 = 2 then ((tickinglaw01_awake.f k).bind fun t696 => (some t696)) else (some false)) else (some false)) else (some false)))) = some r := H
 have A3 := Aside0.mk A30
 clear A30
 replace H := Option.bind_eq_some_iff.mp H
 obtain ⟨t695, A40, H⟩ := H
 replace H : (if t695 = true then ((tickingref01_Common.f k t685).bind fun bt697 => (if bt697.2.2 = true then (if (t688 == bt697.1 && (t689 == bt697.2.1)) = true then (if (t690.length : Int) = 0 then (if t693 = 0 then ((tickinglaw01_awake.f k).bind fun t701 => (some t701)) else (some false)) else (some false)) else (some false)) else (if t693 = 0 then (if (!(t688 == 0) || (!(t689 == 0))) = true then (tickinglaw01_CoverMeets.j0 k t685 t690 true) else (if (t690.length : Int) = 2 then (if 0 < (t690.length : Int) then (if (rd t690 0) < 0 then (tickinglaw01_CoverMeets.j0 k t685 t690 true) else (if 1 < (t690.length : Int) then (if (rd t690 0) ≥ (rd t690 1) then (tickinglaw01_CoverMeets.j0 k t685 t690 true) else (tickinglaw01_CoverMeets.j0 k t685 t690 (decide ((rd t690 1) ≥ (t685.length : Int))))) else (none))) else (none)) else (tickinglaw01_CoverMeets.j0 k t685 t690 true))) else (tickinglaw01_CoverMeets.j0 k t685 t690 true)))) else (if (t688 == 0 && (t689 == 0)) = true then (if (t690.length : Int) = 0 then (if t693 = 2 then ((tickinglaw01_awake.f k).bind fun t696 => (some t696)) else (some false)) else (some false)) else (some false))) = some r := H
 have A4 := Aside0.mk A40
 clear A40
 by_cases c5 : t695 = true
 ·subst c5
  have H1 : ((tickingref01_Common.f k t685).bind fun bt697 => (if bt697.2.2 = true then (if (t688 == bt697.1 && (t689 == bt697.2.1)) = true then (if (t690.length : Int) = 0 then (if t693 = 0 then ((tickinglaw01_awake.f k).bind fun t701 => (some t701)) else (some false)) else (some false)) else (some false)) else (if t693 = 0 then (if (!(t688 == 0) || (!(t689 == 0))) = true then (tickinglaw01_CoverMeets.j0 k t685 t690 true) else (if (t690.length : Int) = 2 then (if 0 < (t690.length : Int) then (if (rd t690 0) < 0 then (tickinglaw01_CoverMeets.j0 k t685 t690 true) else (if 1 < (t690.length : Int) then (if (rd t690 0) ≥ (rd t690 1) then (tickinglaw01_CoverMeets.j0 k t685 t690 true) else (tickinglaw01_CoverMeets.j0 k t685 t690 (decide ((rd t690 1) ≥ (t685.length : Int))))) else (none))) else (none)) else (tickinglaw01_CoverMeets.j0 k t685 t690 true))) else (tickinglaw01_CoverMeets.j0 k t685 t690 true)))) = some r := by rw [if_pos rfl] at H; exact H
  clear H
  have H := H1
  clear H1
  replace H := Option.bind_eq_some_iff.mp H
  obtain ⟨⟨t697, t698, t699⟩, A60, H⟩ := H
  replace H : (if t699 = true then (if (t688 == t697 && (t689 == t698)) = true then (if (t690.length : Int) = 0 then (if t693 = 0 then ((tickinglaw01_awake.f k).bind fun t701 => (some t701)) else (some false)) else (some false)) else (some false)) else (if t693 = 0 then (if (!(t688 == 0) || (!(t689 == 0))) = true then (tickinglaw01_CoverMeets.j0 k t685 t690 true) else (if (t690.length : Int) = 2 then (if 0 < (t690.length : Int) then (if (rd t690 0) < 0 then (tickinglaw01_CoverMeets.j0 k t685 t690 true) else (if 1 < (t690.length : Int) then (if (rd t690 0) ≥ (rd t690 1) then (tickinglaw01_CoverMeets.j0 k t685 t690 true) else (tickinglaw01_CoverMeets.j0 k t685 t690 (decide ((rd t690 1) ≥ (t685.length : Int))))) else (none))) else (none)) else (tickinglaw01_CoverMeets.j0 k t685 t690 true))) else (tickinglaw01_CoverMeets.j0 k t685 t690 true))) = some r := H
  have A6 := Aside0.mk A60
  clear A60
  by_cases c7 : t699 = true
  ·subst c7
   have H1 : (if (t688 == t697 && (t689 == t698)) = true then (if (t690.length : Int) = 0 then (if t693 = 0 then ((tickinglaw01_awake.f k).bind fun t701 => (some t701)) else (some false)) else (some false)) else (some false)) = some r := by rw [if_pos rfl] at H; exact H
   clear H
   have H := H1
   clear H1
   by_cases c8 : (t688 == t697 && (t689 == t698)) = true
   ·rw [if_pos c8] at H
    have c8b0 : (t688 == t697 && (t689 == t698)) = true := c8
    (try (have c8b1 : decide (t688 = t697 && (t689 == t698)) = true := by simpa using c8))
    (try (have c8b2 : (t688 == t697 && (t689 == t698)) = true := by simpa using c8))
    clear c8
    by_cases c9 : (t690.length : Int) = 0
    ·rw [if_pos c9] at H
     have c9b0 : ((t690.length : Int) == 0) = true := beq_iff_eq.mpr c9
     have c9b1 : ((t690.length : Int) != 0) = false := bne_eq_false_iff_eq.mpr c9
     clear c9
     by_cases c10 : t693 = 0
     ·rw [if_pos c10] at H
      have c10b0 : (t693 == 0) = true := beq_iff_eq.mpr c10
      have c10b1 : (t693 != 0) = false := bne_eq_false_iff_eq.mpr c10
      clear c10
      replace H := Option.bind_eq_some_iff.mp H
      obtain ⟨t701, A110, H⟩ := H
      replace H : (some t701) = some r := H
      have A11 := Aside0.mk A110
      clear A110
      obtain rfl := Option.some.inj H
      go_enter Try.func11, Try.ntmps11
      go_wp2_with (first | ((with_reducible refine gate_callee (f := 16) rfl ?_); refine goesL_ (some 10) rfl rfl Try.func16 (by kernel_rfl) rfl #[.slice A0 l0.length c0, .int .i64 33] rfl (by (try simp only [List.map_toArray, List.map_cons, List.map_nil]); first | done | rfl | (simp only [List.length_drop, List.length_take]; rfl)) ?_; (with_reducible refine (tickinglaw01_rects.calls _ _ l0 33 t685 _ ?side1 ?side2 A2.out).mono ?_); (case side1 => repeat (first | exact HR0.out | (with_reducible refine Kd.C_alloc ?_ _) | (with_reducible refine Kd.C_drewN ?_ _) | (with_reducible refine Kd.C_drew ?_))); (case side2 => exact HC0.out); rintro e w12 ⟨v686, rfl, ho0, hb⟩; refine ⟨_, rfl, ?_⟩; have n0_ := Aside0.mk (Kd.R_lower ho0 (below_size HBz)); have n1_ := Aside0.mk (below_step HBz hb); clear HB; have HO687 := n0_; have HB := n1_; clear n0_ n1_; (try clear hb); (try clear hb2); (try clear hk); (try clear hi); (try clear ho0); obtain ⟨Ao13, co13, eo13⟩ := Kd.R_slice HO687.out; subst eo13) | ((with_reducible refine gate_callee (f := 40) rfl ?_); refine goesL_ (some 13) rfl rfl Try.func40 (by kernel_rfl) rfl #[.slice Ao13 t685.length co13] rfl (by (try simp only [List.map_toArray, List.map_cons, List.map_nil]); first | done | rfl | (simp only [List.length_drop, List.length_take]; rfl)) ?_; (with_reducible refine (cover_Meet.calls k _ _ t685 t688 t689 t690 t693 _ ?side1 ?side2 A3.out).mono ?_); (case side1 => repeat (first | exact (Kd.R_reads' HO687.out).2.2 | (with_reducible refine Kd.C_alloc ?_ _) | (with_reducible refine Kd.C_drewN ?_ _) | (with_reducible refine Kd.C_drew ?_))); (case side2 => exact (Kd.R_reads' HO687.out).2.1); rintro e w14 ⟨v691, rfl, ho0, hb⟩; refine ⟨_, rfl, ?_⟩; have n0_ := Aside0.mk (Kd.R_below (by (with_reducible repeat (first | apply Kd.R_alloc | apply Kd.R_drewN | apply Kd.R_drew)); exact HO687.out) hb); have n1_ := Aside0.mk (Kd.R_lower ho0 (below_size HBz)); have n2_ := Aside0.mk (below_step HBz hb); clear HO687; clear HB; have HO687 := n0_; have HO692 := n1_; have HB := n2_; clear n0_ n1_ n2_; (try clear hb); (try clear hb2); (try clear hk); (try clear hi); (try clear ho0)) | ((with_reducible refine gate_dst (N := 4) rfl ?_); (try (refine gate_guard (by rfl) ?_; dsimp only)); refine bxE 4 #[.int .i64 0, .int .i64 0] 28 ?_; intro gb694 hg w15 hbox hb; have n0_ := Aside0.mk (Kd.R_below (by (with_reducible repeat (first | apply Kd.R_alloc | apply Kd.R_drewN | apply Kd.R_drew)); exact HO687.out) hb); have n1_ := Aside0.mk (Kd.R_below (by (with_reducible repeat (first | apply Kd.R_alloc | apply Kd.R_drewN | apply Kd.R_drew)); exact HO692.out) hb); have n2_ := Aside0.mk (below_step HBz hb); have n3_ := Aside0.mk (hbox); have n4_ := Aside0.mk ((by rw [hg]; exact (below_size HBz) : w.heap.size ≤ gb694)); have n5_ := Aside0.mk ((by rw [hg]; exact (below_size HBz) : w.heap.size ≤ gb694)); clear HO687; clear HO692; clear HB; have HO687 := n0_; have HO692 := n1_; have HB := n2_; have BK694 := n3_; have GW694 := n4_; have GE694 := n5_; clear n0_ n1_ n2_ n3_ n4_ n5_; clear hb hbox hg; have hcz16_0 : w15.cell? ⟨gb694, 0, none⟩ = some (.int .i64 0) := (blk_cell BK694.out 0).trans rfl; have hcz16_1 : w15.cell? ⟨gb694, 1, none⟩ = some (.int .i64 0) := (blk_cell BK694.out 1).trans rfl; have hfz16_0 := blk_frozen BK694.out 0; have hfz16_1 := blk_frozen BK694.out 1) | ((with_reducible refine gate_callee (f := 20) rfl ?_); refine goesL_ (some 18) rfl rfl Try.func20 (by kernel_rfl) rfl #[.slice Ao13 t685.length co13, .int .i64 32] rfl (by (try simp only [List.map_toArray, List.map_cons, List.map_nil]); first | done | rfl | (simp only [List.length_drop, List.length_take]; rfl)) ?_; (with_reducible refine (tickingref01_Rects.calls k _ _ t685 32 true _ ?side1 ?side2 A4.out).mono ?_); (case side1 => refine (Kd.R_reads' (e := 48) (base := w.heap.size) (ok := fun k_ => True) (n := t685.length) (c := co13) ?_).2.2; exact (by (with_reducible repeat (first | apply Kd.R_alloc | apply Kd.R_drewN | apply Kd.R_drew)); exact (Kd.R_mono (Kd.R_far (p := ⟨gb694, 1, none⟩) (Kd.R_far (p := ⟨gb694, 0, none⟩) (Kd.R_types HO687.out BK694.out (by decide)) (fun _ hk => hk.2) (.int .i64 t688)) (fun _ hk => hk.2) (.int .i64 t689)) (fun _ h_ => h_.1)))); (case side2 => exact (Kd.R_reads' HO687.out).2.1); rintro e w17 ⟨rfl, hb⟩; refine ⟨_, rfl, ?_⟩; have n0_ := Aside0.mk (Kd.R_below (by (with_reducible repeat (first | apply Kd.R_alloc | apply Kd.R_drewN | apply Kd.R_drew)); exact (Kd.R_mono (Kd.R_far (p := ⟨gb694, 1, none⟩) (Kd.R_far (p := ⟨gb694, 0, none⟩) (Kd.R_types HO687.out BK694.out (by decide)) (fun _ hk => hk.2) (.int .i64 t688)) (fun _ hk => hk.2) (.int .i64 t689)) (fun _ h_ => h_.1))) hb); have n1_ := Aside0.mk (Kd.R_below (by (with_reducible repeat (first | apply Kd.R_alloc | apply Kd.R_drewN | apply Kd.R_drew)); exact (Kd.R_mono (Kd.R_far (p := ⟨gb694, 1, none⟩) (Kd.R_far (p := ⟨gb694, 0, none⟩) (Kd.R_types HO692.out BK694.out (by decide)) (fun _ hk => hk.2) (.int .i64 t688)) (fun _ hk => hk.2) (.int .i64 t689)) (fun _ h_ => h_.1))) hb); have n2_ := Aside0.mk (blk_below (g := gb694) (o := .cells #[.int .i64 t688, .int .i64 t689] 28 (0, 0)) (by (with_reducible repeat (first | refine blk_drewN ?_ _ | refine blk_drew ?_ | refine blk_alloc ?_ _)); refine blk_put (cs := #[.int .i64 t688, .int .i64 0]) ?_ 1 _ rfl; (with_reducible repeat (first | refine blk_drewN ?_ _ | refine blk_drew ?_ | refine blk_alloc ?_ _)); refine blk_put (cs := #[.int .i64 0, .int .i64 0]) ?_ 0 _ rfl; (with_reducible repeat (first | refine blk_drewN ?_ _ | refine blk_drew ?_ | refine blk_alloc ?_ _)); exact BK694.out) hb); have n3_ := Aside0.mk (below_step HBz hb); clear HO687; clear HO692; clear BK694; clear HB; have HO687 := n0_; have HO692 := n1_; have BK694 := n2_; have HB := n3_; clear n0_ n1_ n2_ n3_; (try clear hb); (try clear hb2); (try clear hk); (try clear hi)) | ((with_reducible refine gate_callee (f := 41) rfl ?_); refine goesL_ (some 37) rfl rfl Try.func41 (by kernel_rfl) rfl #[.slice Ao13 t685.length co13] rfl (by (try simp only [List.map_toArray, List.map_cons, List.map_nil]); first | done | rfl | (simp only [List.length_drop, List.length_take]; rfl)) ?_; (with_reducible refine (tickingref01_Common.calls k _ _ t685 t697 t698 true _ ?side1 ?side2 A6.out).mono ?_); (case side1 => repeat (first | exact (Kd.R_reads' HO687.out).2.2 | (with_reducible refine Kd.C_alloc ?_ _) | (with_reducible refine Kd.C_drewN ?_ _) | (with_reducible refine Kd.C_drew ?_))); (case side2 => exact (Kd.R_reads' HO687.out).2.1); rintro e w18 ⟨rfl, hb⟩; refine ⟨_, rfl, ?_⟩; have n0_ := Aside0.mk (Kd.R_below (by (with_reducible repeat (first | apply Kd.R_alloc | apply Kd.R_drewN | apply Kd.R_drew)); exact HO687.out) hb); have n1_ := Aside0.mk (Kd.R_below (by (with_reducible repeat (first | apply Kd.R_alloc | apply Kd.R_drewN | apply Kd.R_drew)); exact HO692.out) hb); have n2_ := Aside0.mk (blk_below (g := gb694) BKz hb); have n3_ := Aside0.mk (below_step HBz hb); clear HO687; clear HO692; clear BK694; clear HB; have HO687 := n0_; have HO692 := n1_; have BK694 := n2_; have HB := n3_; clear n0_ n1_ n2_ n3_; (try clear hb); (try clear hb2); (try clear hk); (try clear hi)) | ((with_reducible refine gate_dst (N := 7) rfl ?_); (try (refine gate_guard (by rfl) ?_; dsimp only)); refine bxE 7 #[.int .i64 0, .int .i64 0] 28 ?_; intro gb700 hg w19 hbox hb; have n0_ := Aside0.mk (Kd.R_below (by (with_reducible repeat (first | apply Kd.R_alloc | apply Kd.R_drewN | apply Kd.R_drew)); exact HO687.out) hb); have n1_ := Aside0.mk (Kd.R_below (by (with_reducible repeat (first | apply Kd.R_alloc | apply Kd.R_drewN | apply Kd.R_drew)); exact HO692.out) hb); have n2_ := Aside0.mk (blk_below (g := gb694) BKz hb); have n3_ := Aside0.mk (below_step HBz hb); have n4_ := Aside0.mk (hbox); have n5_ := Aside0.mk ((by rw [hg]; exact (below_size HBz) : w.heap.size ≤ gb700)); have n6_ := Aside0.mk ((by rw [hg]; exact (below_size HBz) : w.heap.size ≤ gb700)); have n7_ := Aside0.mk ((by rw [hg]; exact Nat.ne_of_lt (blk_lt (g := gb694) BKz) : gb694 ≠ gb700)); have n8_ := Aside0.mk ((by rw [hg]; exact Nat.ne_of_gt (blk_lt (g := gb694) BKz) : gb700 ≠ gb694)); clear HO687; clear HO692; clear BK694; clear HB; have HO687 := n0_; have HO692 := n1_; have BK694 := n2_; have HB := n3_; have BK700 := n4_; have GW700 := n5_; have GE700 := n6_; have NB694_700 := n7_; have NB700_694 := n8_; clear n0_ n1_ n2_ n3_ n4_ n5_ n6_ n7_ n8_; clear hb hbox hg; have hnb20 := NB700_694.out; have hnc20 := NB694_700.out; have hcz21_0 : w19.cell? ⟨gb700, 0, none⟩ = some (.int .i64 0) := (blk_cell BK700.out 0).trans rfl; have hcz21_1 : w19.cell? ⟨gb700, 1, none⟩ = some (.int .i64 0) := (blk_cell BK700.out 1).trans rfl; have hfz21_0 := blk_frozen BK700.out 0; have hfz21_1 := blk_frozen BK700.out 1; have hcz22_0 : w19.cell? ⟨gb694, 0, none⟩ = some (.int .i64 t688) := (blk_cell BK694.out 0).trans rfl; have hcz22_1 : w19.cell? ⟨gb694, 1, none⟩ = some (.int .i64 t689) := (blk_cell BK694.out 1).trans rfl; have hfz22_0 := blk_frozen BK694.out 0; have hfz22_1 := blk_frozen BK694.out 1; obtain ⟨Ao23, co23, eo23⟩ := Kd.R_slice HO692.out; subst eo23) | (go_at_call 21; (with_reducible refine (tickinglaw01_awake.calls k  t701 _ A11.out).mono ?_); rintro e w24 ⟨rfl, hb⟩; have n0_ := Aside0.mk (Kd.R_below (by (with_reducible repeat (first | apply Kd.R_alloc | apply Kd.R_drewN | apply Kd.R_drew)); exact (Kd.R_mono (Kd.R_far (p := ⟨gb700, 1, none⟩) (Kd.R_far (p := ⟨gb700, 0, none⟩) (Kd.R_types HO687.out BK700.out (by decide)) (fun _ hk => hk.2) (.int .i64 t697)) (fun _ hk => hk.2) (.int .i64 t698)) (fun _ h_ => h_.1))) hb); have n1_ := Aside0.mk (Kd.R_below (by (with_reducible repeat (first | apply Kd.R_alloc | apply Kd.R_drewN | apply Kd.R_drew)); exact (Kd.R_mono (Kd.R_far (p := ⟨gb700, 1, none⟩) (Kd.R_far (p := ⟨gb700, 0, none⟩) (Kd.R_types HO692.out BK700.out (by decide)) (fun _ hk => hk.2) (.int .i64 t697)) (fun _ hk => hk.2) (.int .i64 t698)) (fun _ h_ => h_.1))) hb); have n2_ := Aside0.mk (blk_below (g := gb694) (o := .cells #[.int .i64 t688, .int .i64 t689] 28 (0, 0)) (by (with_reducible repeat (first | refine blk_drewN ?_ _ | refine blk_drew ?_ | refine blk_alloc ?_ _)); refine blk_far ?_ NB694_700.out _; (with_reducible repeat (first | refine blk_drewN ?_ _ | refine blk_drew ?_ | refine blk_alloc ?_ _)); refine blk_far ?_ NB694_700.out _; (with_reducible repeat (first | refine blk_drewN ?_ _ | refine blk_drew ?_ | refine blk_alloc ?_ _)); exact BK694.out) hb); have n3_ := Aside0.mk (blk_below (g := gb700) (o := .cells #[.int .i64 t697, .int .i64 t698] 28 (0, 0)) (by (with_reducible repeat (first | refine blk_drewN ?_ _ | refine blk_drew ?_ | refine blk_alloc ?_ _)); refine blk_put (cs := #[.int .i64 t697, .int .i64 0]) ?_ 1 _ rfl; (with_reducible repeat (first | refine blk_drewN ?_ _ | refine blk_drew ?_ | refine blk_alloc ?_ _)); refine blk_put (cs := #[.int .i64 0, .int .i64 0]) ?_ 0 _ rfl; (with_reducible repeat (first | refine blk_drewN ?_ _ | refine blk_drew ?_ | refine blk_alloc ?_ _)); exact BK700.out) hb); have n4_ := Aside0.mk (below_step HBz hb); clear HO687; clear HO692; clear BK694; clear BK700; clear HB; have HO687 := n0_; have HO692 := n1_; have BK694 := n2_; have BK700 := n3_; have HB := n4_; clear n0_ n1_ n2_ n3_ n4_; (try clear hb); (try clear hb2); (try clear hk); (try clear hi)))
      go_ret
      exact ⟨by first | rfl | (simp [errW_none, errW_some] <;> rfl) | (simp [*, errW_none, errW_some] <;> rfl), HBz⟩
     ·rw [if_neg c10] at H
      have c10b0 : (t693 == 0) = false := beq_eq_false_iff_ne.mpr c10
      have c10b1 : (t693 != 0) = true := bne_iff_ne.mpr c10
      exact absurd (H.trans (congrArg some HRT.out)) (by simp)
    ·rw [if_neg c9] at H
     have c9b0 : ((t690.length : Int) == 0) = false := beq_eq_false_iff_ne.mpr c9
     have c9b1 : ((t690.length : Int) != 0) = true := bne_iff_ne.mpr c9
     have c9b2 : ¬ (t690 = []) := fun h_ => c9 (by rw [h_]; rfl)
     exact absurd (H.trans (congrArg some HRT.out)) (by simp)
   ·rw [if_neg c8] at H
    have c8b0 : (t688 == t697 && (t689 == t698)) = false := by simpa using c8
    (try (have c8b1 : decide (t688 = t697 && (t689 == t698)) = false := by simpa using c8))
    (try (have c8b2 : (t688 == t697 && (t689 == t698)) = false := by simpa using c8))
    (try (have c8b3 : ¬ (t688 = t697 && (t689 == t698)) := by simpa using c8))
    clear c8
    exact absurd (H.trans (congrArg some HRT.out)) (by simp)
  ·replace c7 := Bool.eq_false_iff.mpr c7
   subst c7
   have H1 : (if t693 = 0 then (if (!(t688 == 0) || (!(t689 == 0))) = true then (tickinglaw01_CoverMeets.j0 k t685 t690 true) else (if (t690.length : Int) = 2 then (if 0 < (t690.length : Int) then (if (rd t690 0) < 0 then (tickinglaw01_CoverMeets.j0 k t685 t690 true) else (if 1 < (t690.length : Int) then (if (rd t690 0) ≥ (rd t690 1) then (tickinglaw01_CoverMeets.j0 k t685 t690 true) else (tickinglaw01_CoverMeets.j0 k t685 t690 (decide ((rd t690 1) ≥ (t685.length : Int))))) else (none))) else (none)) else (tickinglaw01_CoverMeets.j0 k t685 t690 true))) else (tickinglaw01_CoverMeets.j0 k t685 t690 true)) = some r := by rw [if_neg (show ¬ (false = true) by decide)] at H; exact H
   clear H
   have H := H1
   clear H1
   have HC25 := Aside0.mk H
   clear H
   go_enter Try.func11, Try.ntmps11
   go_upto_region 8 with (first | ((with_reducible refine gate_callee (f := 16) rfl ?_); refine goesL_ (some 10) rfl rfl Try.func16 (by kernel_rfl) rfl #[.slice A0 l0.length c0, .int .i64 33] rfl (by (try simp only [List.map_toArray, List.map_cons, List.map_nil]); first | done | rfl | (simp only [List.length_drop, List.length_take]; rfl)) ?_; (with_reducible refine (tickinglaw01_rects.calls _ _ l0 33 t685 _ ?side1 ?side2 A2.out).mono ?_); (case side1 => repeat (first | exact HR0.out | (with_reducible refine Kd.C_alloc ?_ _) | (with_reducible refine Kd.C_drewN ?_ _) | (with_reducible refine Kd.C_drew ?_))); (case side2 => exact HC0.out); rintro e w26 ⟨v686, rfl, ho0, hb⟩; refine ⟨_, rfl, ?_⟩; have n0_ := Aside0.mk (Kd.R_lower ho0 (below_size HBz)); have n1_ := Aside0.mk (below_step HBz hb); clear HB; have HO687 := n0_; have HB := n1_; clear n0_ n1_; (try clear hb); (try clear hb2); (try clear hk); (try clear hi); (try clear ho0); obtain ⟨Ao27, co27, eo27⟩ := Kd.R_slice HO687.out; subst eo27) | ((with_reducible refine gate_callee (f := 40) rfl ?_); refine goesL_ (some 13) rfl rfl Try.func40 (by kernel_rfl) rfl #[.slice Ao27 t685.length co27] rfl (by (try simp only [List.map_toArray, List.map_cons, List.map_nil]); first | done | rfl | (simp only [List.length_drop, List.length_take]; rfl)) ?_; (with_reducible refine (cover_Meet.calls k _ _ t685 t688 t689 t690 t693 _ ?side1 ?side2 A3.out).mono ?_); (case side1 => repeat (first | exact (Kd.R_reads' HO687.out).2.2 | (with_reducible refine Kd.C_alloc ?_ _) | (with_reducible refine Kd.C_drewN ?_ _) | (with_reducible refine Kd.C_drew ?_))); (case side2 => exact (Kd.R_reads' HO687.out).2.1); rintro e w28 ⟨v691, rfl, ho0, hb⟩; refine ⟨_, rfl, ?_⟩; have n0_ := Aside0.mk (Kd.R_below (by (with_reducible repeat (first | apply Kd.R_alloc | apply Kd.R_drewN | apply Kd.R_drew)); exact HO687.out) hb); have n1_ := Aside0.mk (Kd.R_lower ho0 (below_size HBz)); have n2_ := Aside0.mk (below_step HBz hb); clear HO687; clear HB; have HO687 := n0_; have HO692 := n1_; have HB := n2_; clear n0_ n1_ n2_; (try clear hb); (try clear hb2); (try clear hk); (try clear hi); (try clear ho0)) | ((with_reducible refine gate_dst (N := 4) rfl ?_); (try (refine gate_guard (by rfl) ?_; dsimp only)); refine bxE 4 #[.int .i64 0, .int .i64 0] 28 ?_; intro gb694 hg w29 hbox hb; have n0_ := Aside0.mk (Kd.R_below (by (with_reducible repeat (first | apply Kd.R_alloc | apply Kd.R_drewN | apply Kd.R_drew)); exact HO687.out) hb); have n1_ := Aside0.mk (Kd.R_below (by (with_reducible repeat (first | apply Kd.R_alloc | apply Kd.R_drewN | apply Kd.R_drew)); exact HO692.out) hb); have n2_ := Aside0.mk (below_step HBz hb); have n3_ := Aside0.mk (hbox); have n4_ := Aside0.mk ((by rw [hg]; exact (below_size HBz) : w.heap.size ≤ gb694)); have n5_ := Aside0.mk ((by rw [hg]; exact (below_size HBz) : w.heap.size ≤ gb694)); clear HO687; clear HO692; clear HB; have HO687 := n0_; have HO692 := n1_; have HB := n2_; have BK694 := n3_; have GW694 := n4_; have GE694 := n5_; clear n0_ n1_ n2_ n3_ n4_ n5_; clear hb hbox hg; have hcz30_0 : w29.cell? ⟨gb694, 0, none⟩ = some (.int .i64 0) := (blk_cell BK694.out 0).trans rfl; have hcz30_1 : w29.cell? ⟨gb694, 1, none⟩ = some (.int .i64 0) := (blk_cell BK694.out 1).trans rfl; have hfz30_0 := blk_frozen BK694.out 0; have hfz30_1 := blk_frozen BK694.out 1) | ((with_reducible refine gate_callee (f := 20) rfl ?_); refine goesL_ (some 18) rfl rfl Try.func20 (by kernel_rfl) rfl #[.slice Ao27 t685.length co27, .int .i64 32] rfl (by (try simp only [List.map_toArray, List.map_cons, List.map_nil]); first | done | rfl | (simp only [List.length_drop, List.length_take]; rfl)) ?_; (with_reducible refine (tickingref01_Rects.calls k _ _ t685 32 true _ ?side1 ?side2 A4.out).mono ?_); (case side1 => refine (Kd.R_reads' (e := 48) (base := w.heap.size) (ok := fun k_ => True) (n := t685.length) (c := co27) ?_).2.2; exact (by (with_reducible repeat (first | apply Kd.R_alloc | apply Kd.R_drewN | apply Kd.R_drew)); exact (Kd.R_mono (Kd.R_far (p := ⟨gb694, 1, none⟩) (Kd.R_far (p := ⟨gb694, 0, none⟩) (Kd.R_types HO687.out BK694.out (by decide)) (fun _ hk => hk.2) (.int .i64 t688)) (fun _ hk => hk.2) (.int .i64 t689)) (fun _ h_ => h_.1)))); (case side2 => exact (Kd.R_reads' HO687.out).2.1); rintro e w31 ⟨rfl, hb⟩; refine ⟨_, rfl, ?_⟩; have n0_ := Aside0.mk (Kd.R_below (by (with_reducible repeat (first | apply Kd.R_alloc | apply Kd.R_drewN | apply Kd.R_drew)); exact (Kd.R_mono (Kd.R_far (p := ⟨gb694, 1, none⟩) (Kd.R_far (p := ⟨gb694, 0, none⟩) (Kd.R_types HO687.out BK694.out (by decide)) (fun _ hk => hk.2) (.int .i64 t688)) (fun _ hk => hk.2) (.int .i64 t689)) (fun _ h_ => h_.1))) hb); have n1_ := Aside0.mk (Kd.R_below (by (with_reducible repeat (first | apply Kd.R_alloc | apply Kd.R_drewN | apply Kd.R_drew)); exact (Kd.R_mono (Kd.R_far (p := ⟨gb694, 1, none⟩) (Kd.R_far (p := ⟨gb694, 0, none⟩) (Kd.R_types HO692.out BK694.out (by decide)) (fun _ hk => hk.2) (.int .i64 t688)) (fun _ hk => hk.2) (.int .i64 t689)) (fun _ h_ => h_.1))) hb); have n2_ := Aside0.mk (blk_below (g := gb694) (o := .cells #[.int .i64 t688, .int .i64 t689] 28 (0, 0)) (by (with_reducible repeat (first | refine blk_drewN ?_ _ | refine blk_drew ?_ | refine blk_alloc ?_ _)); refine blk_put (cs := #[.int .i64 t688, .int .i64 0]) ?_ 1 _ rfl; (with_reducible repeat (first | refine blk_drewN ?_ _ | refine blk_drew ?_ | refine blk_alloc ?_ _)); refine blk_put (cs := #[.int .i64 0, .int .i64 0]) ?_ 0 _ rfl; (with_reducible repeat (first | refine blk_drewN ?_ _ | refine blk_drew ?_ | refine blk_alloc ?_ _)); exact BK694.out) hb); have n3_ := Aside0.mk (below_step HBz hb); clear HO687; clear HO692; clear BK694; clear HB; have HO687 := n0_; have HO692 := n1_; have BK694 := n2_; have HB := n3_; clear n0_ n1_ n2_ n3_; (try clear hb); (try clear hb2); (try clear hk); (try clear hi)) | ((with_reducible refine gate_callee (f := 41) rfl ?_); refine goesL_ (some 37) rfl rfl Try.func41 (by kernel_rfl) rfl #[.slice Ao27 t685.length co27] rfl (by (try simp only [List.map_toArray, List.map_cons, List.map_nil]); first | done | rfl | (simp only [List.length_drop, List.length_take]; rfl)) ?_; (with_reducible refine (tickingref01_Common.calls k _ _ t685 t697 t698 false _ ?side1 ?side2 A6.out).mono ?_); (case side1 => repeat (first | exact (Kd.R_reads' HO687.out).2.2 | (with_reducible refine Kd.C_alloc ?_ _) | (with_reducible refine Kd.C_drewN ?_ _) | (with_reducible refine Kd.C_drew ?_))); (case side2 => exact (Kd.R_reads' HO687.out).2.1); rintro e w32 ⟨rfl, hb⟩; refine ⟨_, rfl, ?_⟩; have n0_ := Aside0.mk (Kd.R_below (by (with_reducible repeat (first | apply Kd.R_alloc | apply Kd.R_drewN | apply Kd.R_drew)); exact HO687.out) hb); have n1_ := Aside0.mk (Kd.R_below (by (with_reducible repeat (first | apply Kd.R_alloc | apply Kd.R_drewN | apply Kd.R_drew)); exact HO692.out) hb); have n2_ := Aside0.mk (blk_below (g := gb694) BKz hb); have n3_ := Aside0.mk (below_step HBz hb); clear HO687; clear HO692; clear BK694; clear HB; have HO687 := n0_; have HO692 := n1_; have BK694 := n2_; have HB := n3_; clear n0_ n1_ n2_ n3_; (try clear hb); (try clear hb2); (try clear hk); (try clear hi)) | ((with_reducible refine gate_dst (N := 7) rfl ?_); (try (refine gate_guard (by rfl) ?_; dsimp only)); refine bxE 7 #[.int .i64 0, .int .i64 0] 28 ?_; intro gb700 hg w33 hbox hb; have n0_ := Aside0.mk (Kd.R_below (by (with_reducible repeat (first | apply Kd.R_alloc | apply Kd.R_drewN | apply Kd.R_drew)); exact HO687.out) hb); have n1_ := Aside0.mk (Kd.R_below (by (with_reducible repeat (first | apply Kd.R_alloc | apply Kd.R_drewN | apply Kd.R_drew)); exact HO692.out) hb); have n2_ := Aside0.mk (blk_below (g := gb694) BKz hb); have n3_ := Aside0.mk (below_step HBz hb); have n4_ := Aside0.mk (hbox); have n5_ := Aside0.mk ((by rw [hg]; exact (below_size HBz) : w.heap.size ≤ gb700)); have n6_ := Aside0.mk ((by rw [hg]; exact (below_size HBz) : w.heap.size ≤ gb700)); have n7_ := Aside0.mk ((by rw [hg]; exact Nat.ne_of_lt (blk_lt (g := gb694) BKz) : gb694 ≠ gb700)); have n8_ := Aside0.mk ((by rw [hg]; exact Nat.ne_of_gt (blk_lt (g := gb694) BKz) : gb700 ≠ gb694)); clear HO687; clear HO692; clear BK694; clear HB; have HO687 := n0_; have HO692 := n1_; have BK694 := n2_; have HB := n3_; have BK700 := n4_; have GW700 := n5_; have GE700 := n6_; have NB694_700 := n7_; have NB700_694 := n8_; clear n0_ n1_ n2_ n3_ n4_ n5_ n6_ n7_ n8_; clear hb hbox hg; have hnb34 := NB700_694.out; have hnc34 := NB694_700.out; have hcz35_0 : w33.cell? ⟨gb700, 0, none⟩ = some (.int .i64 0) := (blk_cell BK700.out 0).trans rfl; have hcz35_1 : w33.cell? ⟨gb700, 1, none⟩ = some (.int .i64 0) := (blk_cell BK700.out 1).trans rfl; have hfz35_0 := blk_frozen BK700.out 0; have hfz35_1 := blk_frozen BK700.out 1))
   (try simp only [Act.put, List.setIfInBounds_toArray, List.set_cons_zero, List.set_cons_succ])
   go_cut [90] (fun v90 wc => ∃ (kq : Nat) (x90_24 : Bool), v90 = .bool x90_24 ∧ Aside0 (tickinglaw01_CoverMeets.j0 kq t685 t690 x90_24 = some r) ∧ Aside0 (kq ≤ k) ∧ Aside0 (Kd.R k48 48 wc w.heap.size (fun _ => True) (.slice Ao27 t685.length co27) t685) ∧ Aside0 (Kd.R (Kd.int .i64) 3 wc w.heap.size (fun _ => True) v691 t690) ∧ Aside0 (wc.heap[gb694]? = some (.cells #[.int .i64 t688, .int .i64 t689] 28 (0, 0))) ∧ Aside0 (wc.heap[gb700]? = some (.cells #[.int .i64 t697, .int .i64 t698] 28 (0, 0))) ∧ Aside0 (Below w.heap.size w wc))
   case first =>
    have H := HC25.out
    clear HC25
    by_cases c36 : t693 = 0
    ·rw [if_pos c36] at H
     have c36b0 : (t693 == 0) = true := beq_iff_eq.mpr c36
     have c36b1 : (t693 != 0) = false := bne_eq_false_iff_eq.mpr c36
     clear c36
     (first | rw [c36b0] | (simp only [i64_w, i32_w]; rw [c36b0]) | skip)
     by_cases c37 : (!(t688 == 0) || (!(t689 == 0))) = true
     ·rw [if_pos c37] at H
      have c37b0 : (!(t688 == 0) || (!(t689 == 0))) = true := c37
      clear c37
      have H' := Aside0.mk H
      clear H
      try go_wp2
      have n0_ : Aside0 (Kd.R k48 48 ((w33.setCell ⟨gb700, 0, none⟩ (.int .i64 t697)).setCell ⟨gb700, 1, none⟩ (.int .i64 t698)) w.heap.size (fun _ => True) (.slice Ao27 t685.length co27) t685) := ⟨by (with_reducible repeat (first | apply Kd.R_alloc | apply Kd.R_drewN | apply Kd.R_drew)); exact Kd.R_mono (Kd.R_far (p := ⟨gb700, 1, none⟩) (Kd.R_far (p := ⟨gb700, 0, none⟩) (Kd.R_types HO687.out BK700.out (by decide)) (fun _ hk => hk.2) (.int .i64 t697)) (fun _ hk => hk.2) (.int .i64 t698)) (fun _ hk => trivial)⟩
      have n1_ : Aside0 (Kd.R (Kd.int .i64) 3 ((w33.setCell ⟨gb700, 0, none⟩ (.int .i64 t697)).setCell ⟨gb700, 1, none⟩ (.int .i64 t698)) w.heap.size (fun _ => True) v691 t690) := ⟨by (with_reducible repeat (first | apply Kd.R_alloc | apply Kd.R_drewN | apply Kd.R_drew)); exact Kd.R_mono (Kd.R_far (p := ⟨gb700, 1, none⟩) (Kd.R_far (p := ⟨gb700, 0, none⟩) (Kd.R_types HO692.out BK700.out (by decide)) (fun _ hk => hk.2) (.int .i64 t697)) (fun _ hk => hk.2) (.int .i64 t698)) (fun _ hk => trivial)⟩
      have n2_ : Aside0 (((w33.setCell ⟨gb700, 0, none⟩ (.int .i64 t697)).setCell ⟨gb700, 1, none⟩ (.int .i64 t698)).heap[gb694]? = some (.cells #[.int .i64 t688, .int .i64 t689] 28 (0, 0))) := ⟨by (with_reducible repeat (first | refine blk_drewN ?_ _ | refine blk_drew ?_ | refine blk_alloc ?_ _)); refine blk_far ?_ NB694_700.out _; (with_reducible repeat (first | refine blk_drewN ?_ _ | refine blk_drew ?_ | refine blk_alloc ?_ _)); refine blk_far ?_ NB694_700.out _; (with_reducible repeat (first | refine blk_drewN ?_ _ | refine blk_drew ?_ | refine blk_alloc ?_ _)); exact BK694.out⟩
      have n3_ : Aside0 (((w33.setCell ⟨gb700, 0, none⟩ (.int .i64 t697)).setCell ⟨gb700, 1, none⟩ (.int .i64 t698)).heap[gb700]? = some (.cells #[.int .i64 t697, .int .i64 t698] 28 (0, 0))) := ⟨by (with_reducible repeat (first | refine blk_drewN ?_ _ | refine blk_drew ?_ | refine blk_alloc ?_ _)); refine blk_put (cs := #[.int .i64 t697, .int .i64 0]) ?_ 1 _ rfl; (with_reducible repeat (first | refine blk_drewN ?_ _ | refine blk_drew ?_ | refine blk_alloc ?_ _)); refine blk_put (cs := #[.int .i64 0, .int .i64 0]) ?_ 0 _ rfl; (with_reducible repeat (first | refine blk_drewN ?_ _ | refine blk_drew ?_ | refine blk_alloc ?_ _)); exact BK700.out⟩
      have n4_ : Aside0 (Below w.heap.size w ((w33.setCell ⟨gb700, 0, none⟩ (.int .i64 t697)).setCell ⟨gb700, 1, none⟩ (.int .i64 t698))) := ⟨HBz⟩
      (try clear HO687)
      (try clear HO692)
      (try clear BK694)
      (try clear BK700)
      (try clear HB)
      generalize ((w33.setCell ⟨gb700, 0, none⟩ (.int .i64 t697)).setCell ⟨gb700, 1, none⟩ (.int .i64 t698)) = w38 at n0_ n1_ n2_ n3_ n4_ ⊢
      have HO687 := n0_
      have HO692 := n1_
      have BK694 := n2_
      have BK700 := n3_
      have HB := n4_
      clear n0_ n1_ n2_ n3_ n4_
      have n0_ := Aside0.mk (Kd.R_drew HO687.out)
      have n1_ := Aside0.mk (Kd.R_drew HO692.out)
      have n2_ := Aside0.mk (blk_drew BK694.out)
      have n3_ := Aside0.mk (blk_drew BK700.out)
      have n4_ := Aside0.mk (below_drew1 HB.out)
      clear HO687
      clear HO692
      clear BK694
      clear BK700
      clear HB
      have HO687 := n0_
      have HO692 := n1_
      have BK694 := n2_
      have BK700 := n3_
      have HB := n4_
      clear n0_ n1_ n2_ n3_ n4_
      refine stz (fun w' => w'.cell? ⟨gb694, 0, none⟩ = some (.int .i64 t688) ∧ w'.cell? ⟨gb694, 1, none⟩ = some (.int .i64 t689)) [] (bn 35 0) ⟨(blk_cell BK694.out 0).trans rfl, (blk_cell BK694.out 1).trans rfl⟩ (fun hHeld => ?_); refine with_tabW tickinglaw01_CoverMeets.tab8 tickinglaw01_CoverMeets.bits8 (fun HT_ HW_ => ?_)
      generalize w38.drew = w39 at HO687 HO692 BK694 BK700 HB hHeld ⊢
      refine pT HT_.out 0 (some 56) (bn 35 1) ?_
      refine pT HT_.out 1 (some 57) (bn 35 3) ?_
      refine pT HT_.out 2 (some 58) (bn 35 7) ?_
      refine pT HT_.out 4 (some 60) (bn 35 23) ?_
      refine tT HT_.out HW_.out 3 (some 59) (bn 35 31) hHeld ?_
      refine pT HT_.out 5 (some 61) (bn 35 63) ?_
      refine pT HT_.out 6 (some 62) (bn 35 127) ?_
      refine pT HT_.out 7 (some 63) (bn 35 255) ?_
      refine pT0 HT_.out 8 (some 64) (bn 35 511) ?_
      refine pT0 HT_.out 9 (some 65) (bn 35 1023) ?_
      refine pT0 HT_.out 10 (some 66) (bn 35 2047) ?_
      refine pT HT_.out 11 (some 67) (bn 35 4095) ?_
      refine pT HT_.out 12 (some 68) (bn 35 8191) ?_
      refine pT0 HT_.out 13 (some 69) (bn 35 16383) ?_
      refine pT0 HT_.out 14 (some 70) (bn 35 32767) ?_
      refine pT0 HT_.out 15 (some 71) (bn 35 65535) ?_
      refine pT0 HT_.out 16 (some 72) (bn 35 131071) ?_
      refine pT HT_.out 17 (some 73) (bn 35 262143) ?_
      refine pT HT_.out 18 (some 74) (bn 35 524287) ?_
      refine pT0 HT_.out 19 (some 75) (bn 35 1048575) ?_
      refine pT0 HT_.out 20 (some 76) (bn 35 2097151) ?_
      refine pT0 HT_.out 21 (some 77) (bn 35 4194303) ?_
      refine pT0 HT_.out 22 (some 78) (bn 35 8388607) ?_
      refine pT0 HT_.out 23 (some 79) (bn 35 16777215) ?_
      refine pT0 HT_.out 24 (some 80) (bn 35 33554431) ?_
      refine pT0 HT_.out 25 (some 81) (bn 35 67108863) ?_
      refine pT HT_.out 26 (some 82) (bn 35 134217727) ?_
      refine pT HT_.out 27 (some 83) (bn 35 268435455) ?_
      refine pT0 HT_.out 28 (some 84) (bn 35 536870911) ?_
      refine pT0 HT_.out 29 (some 85) (bn 35 1073741823) ?_
      refine pT0 HT_.out 30 (some 86) (bn 35 2147483647) ?_
      refine pT0 HT_.out 31 (some 87) (bn 35 4294967295) ?_
      refine pT0 HT_.out 32 (some 88) (bn 35 8589934591) ?_
      refine pT0 HT_.out 33 (some 89) (bn 35 17179869183) ?_
      refine pT HT_.out 34 (some 90) (bn 35 34359738367) ?_
      refine done_ (done_of HT_.out (by kernel_rfl)) ?_
      try go_wp2
      go_meet
      case rel => exact ⟨_, (true), (by first | rfl | (simp; done) | (simp [*]; done)), H', ⟨by first | omega | exact Nat.le_refl _⟩, ⟨by (with_reducible repeat (first | apply Kd.R_alloc | apply Kd.R_drewN | apply Kd.R_drew)); exact HO687.out⟩, ⟨by (with_reducible repeat (first | apply Kd.R_alloc | apply Kd.R_drewN | apply Kd.R_drew)); exact HO692.out⟩, ⟨by (with_reducible repeat (first | refine blk_drewN ?_ _ | refine blk_drew ?_ | refine blk_alloc ?_ _)); exact BK694.out⟩, ⟨by (with_reducible repeat (first | refine blk_drewN ?_ _ | refine blk_drew ?_ | refine blk_alloc ?_ _)); exact BK700.out⟩, ⟨HBz⟩⟩
     ·rw [if_neg c37] at H
      have c37b0 : (!(t688 == 0) || (!(t689 == 0))) = false := by simpa using c37
      clear c37
      by_cases c40 : (t690.length : Int) = 2
      ·rw [if_pos c40] at H
       have c40b0 : ((t690.length : Int) == 2) = true := beq_iff_eq.mpr c40
       have c40b1 : ((t690.length : Int) != 2) = false := bne_eq_false_iff_eq.mpr c40
       clear c40
       by_cases c41 : 0 < (t690.length : Int)
       ·rw [if_pos c41] at H
        have c41b0 : decide (0 < (t690.length : Int)) = true := decide_eq_true c41
        have c41b1 : decide (0 < t690.length) = true := decide_eq_true (by omega)
        clear c41
        by_cases c42 : (rd t690 0) < 0
        ·rw [if_pos c42] at H
         have c42b0 : decide ((rd t690 0) < 0) = true := decide_eq_true c42
         clear c42
         have H' := Aside0.mk H
         clear H
         try go_wp2
         have n0_ : Aside0 (Kd.R k48 48 ((w33.setCell ⟨gb700, 0, none⟩ (.int .i64 t697)).setCell ⟨gb700, 1, none⟩ (.int .i64 t698)) w.heap.size (fun _ => True) (.slice Ao27 t685.length co27) t685) := ⟨by (with_reducible repeat (first | apply Kd.R_alloc | apply Kd.R_drewN | apply Kd.R_drew)); exact Kd.R_mono (Kd.R_far (p := ⟨gb700, 1, none⟩) (Kd.R_far (p := ⟨gb700, 0, none⟩) (Kd.R_types HO687.out BK700.out (by decide)) (fun _ hk => hk.2) (.int .i64 t697)) (fun _ hk => hk.2) (.int .i64 t698)) (fun _ hk => trivial)⟩
         have n1_ : Aside0 (Kd.R (Kd.int .i64) 3 ((w33.setCell ⟨gb700, 0, none⟩ (.int .i64 t697)).setCell ⟨gb700, 1, none⟩ (.int .i64 t698)) w.heap.size (fun _ => True) v691 t690) := ⟨by (with_reducible repeat (first | apply Kd.R_alloc | apply Kd.R_drewN | apply Kd.R_drew)); exact Kd.R_mono (Kd.R_far (p := ⟨gb700, 1, none⟩) (Kd.R_far (p := ⟨gb700, 0, none⟩) (Kd.R_types HO692.out BK700.out (by decide)) (fun _ hk => hk.2) (.int .i64 t697)) (fun _ hk => hk.2) (.int .i64 t698)) (fun _ hk => trivial)⟩
         have n2_ : Aside0 (((w33.setCell ⟨gb700, 0, none⟩ (.int .i64 t697)).setCell ⟨gb700, 1, none⟩ (.int .i64 t698)).heap[gb694]? = some (.cells #[.int .i64 t688, .int .i64 t689] 28 (0, 0))) := ⟨by (with_reducible repeat (first | refine blk_drewN ?_ _ | refine blk_drew ?_ | refine blk_alloc ?_ _)); refine blk_far ?_ NB694_700.out _; (with_reducible repeat (first | refine blk_drewN ?_ _ | refine blk_drew ?_ | refine blk_alloc ?_ _)); refine blk_far ?_ NB694_700.out _; (with_reducible repeat (first | refine blk_drewN ?_ _ | refine blk_drew ?_ | refine blk_alloc ?_ _)); exact BK694.out⟩
         have n3_ : Aside0 (((w33.setCell ⟨gb700, 0, none⟩ (.int .i64 t697)).setCell ⟨gb700, 1, none⟩ (.int .i64 t698)).heap[gb700]? = some (.cells #[.int .i64 t697, .int .i64 t698] 28 (0, 0))) := ⟨by (with_reducible repeat (first | refine blk_drewN ?_ _ | refine blk_drew ?_ | refine blk_alloc ?_ _)); refine blk_put (cs := #[.int .i64 t697, .int .i64 0]) ?_ 1 _ rfl; (with_reducible repeat (first | refine blk_drewN ?_ _ | refine blk_drew ?_ | refine blk_alloc ?_ _)); refine blk_put (cs := #[.int .i64 0, .int .i64 0]) ?_ 0 _ rfl; (with_reducible repeat (first | refine blk_drewN ?_ _ | refine blk_drew ?_ | refine blk_alloc ?_ _)); exact BK700.out⟩
         have n4_ : Aside0 (Below w.heap.size w ((w33.setCell ⟨gb700, 0, none⟩ (.int .i64 t697)).setCell ⟨gb700, 1, none⟩ (.int .i64 t698))) := ⟨HBz⟩
         (try clear HO687)
         (try clear HO692)
         (try clear BK694)
         (try clear BK700)
         (try clear HB)
         generalize ((w33.setCell ⟨gb700, 0, none⟩ (.int .i64 t697)).setCell ⟨gb700, 1, none⟩ (.int .i64 t698)) = w43 at n0_ n1_ n2_ n3_ n4_ ⊢
         have HO687 := n0_
         have HO692 := n1_
         have BK694 := n2_
         have BK700 := n3_
         have HB := n4_
         clear n0_ n1_ n2_ n3_ n4_
         have n0_ := Aside0.mk (Kd.R_drew HO687.out)
         have n1_ := Aside0.mk (Kd.R_drew HO692.out)
         have n2_ := Aside0.mk (blk_drew BK694.out)
         have n3_ := Aside0.mk (blk_drew BK700.out)
         have n4_ := Aside0.mk (below_drew1 HB.out)
         clear HO687
         clear HO692
         clear BK694
         clear BK700
         clear HB
         have HO687 := n0_
         have HO692 := n1_
         have BK694 := n2_
         have BK700 := n3_
         have HB := n4_
         clear n0_ n1_ n2_ n3_ n4_
         obtain ⟨Ao45, co45, eo45⟩ := Kd.R_slice HO692.out
         (first | subst eo45 | (injection eo45 with f1_ f2_ f3_; have f4_ := f1_.symm; have f5_ := f3_.symm; clear f1_ f2_ f3_; subst f4_; subst f5_))
         have p702 : 0 ≤ (0 : Int) := (by omega)
         have q702 : 0 < (t690.length : Int) := of_decide_eq_true (by first | (with_reducible assumption) | assumption)
         obtain ⟨ad702, e702, hx702_0⟩ := Kd.at_int (Kd.R_reads' HO692.out).2.2 0 p702 q702
         cases e702
         have qi702 : (0 < t690.length) = True := eq_true (by omega)
         (try rw [show ((0 : Int)).toNat = 0 from rfl] at hx702_0)
         (try rw [Addr.add_zero'] at hx702_0)
         replace p702 := eq_true p702
         replace q702 := eq_true q702
         refine stz (fun w' => w'.cell? ⟨gb694, 0, none⟩ = some (.int .i64 t688) ∧ w'.cell? ⟨gb694, 1, none⟩ = some (.int .i64 t689) ∧ w'.cell? ad702 = some (.int .i64 (rd t690 0))) [] (bn 35 0) ⟨(blk_cell BK694.out 0).trans rfl, (blk_cell BK694.out 1).trans rfl, hx702_0⟩ (fun hHeld => ?_); refine with_tabW tickinglaw01_CoverMeets.tab8 tickinglaw01_CoverMeets.bits8 (fun HT_ HW_ => ?_)
         generalize w43.drew = w44 at HO687 HO692 BK694 BK700 HB hx702_0 hHeld ⊢
         refine pT HT_.out 0 (some 56) (bn 35 1) ?_
         refine pT HT_.out 1 (some 57) (bn 35 3) ?_
         refine pT HT_.out 2 (some 58) (bn 35 7) ?_
         refine pT HT_.out 4 (some 60) (bn 35 23) ?_
         refine tT HT_.out HW_.out 3 (some 59) (bn 35 31) hHeld ?_
         refine pT HT_.out 5 (some 61) (bn 35 63) ?_
         refine pT HT_.out 6 (some 62) (bn 35 127) ?_
         refine pT HT_.out 7 (some 63) (bn 35 255) ?_
         refine pT HT_.out 8 (some 64) (bn 35 511) ?_
         refine pT HT_.out 9 (some 65) (bn 35 1023) ?_
         refine pT HT_.out 10 (some 66) (bn 35 2047) ?_
         refine pT HT_.out 11 (some 67) (bn 35 4095) ?_
         refine pT HT_.out 12 (some 68) (bn 35 8191) ?_
         refine pT HT_.out 13 (some 69) (bn 35 16383) ?_
         refine pT HT_.out 14 (some 70) (bn 35 32767) ?_
         refine tT HT_.out HW_.out 15 (some 71) (bn 35 65535) hHeld ?_
         refine pT HT_.out 16 (some 72) (bn 35 131071) ?_
         refine pT HT_.out 17 (some 73) (bn 35 262143) ?_
         refine pT HT_.out 18 (some 74) (bn 35 524287) ?_
         refine pT0 HT_.out 19 (some 75) (bn 35 1048575) ?_
         refine pT0 HT_.out 20 (some 76) (bn 35 2097151) ?_
         refine pT0 HT_.out 21 (some 77) (bn 35 4194303) ?_
         refine pT0 HT_.out 22 (some 78) (bn 35 8388607) ?_
         refine pT0 HT_.out 23 (some 79) (bn 35 16777215) ?_
         refine pT0 HT_.out 24 (some 80) (bn 35 33554431) ?_
         refine pT0 HT_.out 25 (some 81) (bn 35 67108863) ?_
         refine pT HT_.out 26 (some 82) (bn 35 134217727) ?_
         refine pT HT_.out 27 (some 83) (bn 35 268435455) ?_
         refine pT0 HT_.out 28 (some 84) (bn 35 536870911) ?_
         refine pT0 HT_.out 29 (some 85) (bn 35 1073741823) ?_
         refine pT0 HT_.out 30 (some 86) (bn 35 2147483647) ?_
         refine pT0 HT_.out 31 (some 87) (bn 35 4294967295) ?_
         refine pT0 HT_.out 32 (some 88) (bn 35 8589934591) ?_
         refine pT0 HT_.out 33 (some 89) (bn 35 17179869183) ?_
         refine pT HT_.out 34 (some 90) (bn 35 34359738367) ?_
         refine done_ (done_of HT_.out (by kernel_rfl)) ?_
         try go_wp2
         go_meet
         case rel => exact ⟨_, (true), (by first | rfl | (simp; done) | (simp [*]; done)), H', ⟨by first | omega | exact Nat.le_refl _⟩, ⟨by (with_reducible repeat (first | apply Kd.R_alloc | apply Kd.R_drewN | apply Kd.R_drew)); exact HO687.out⟩, ⟨by (with_reducible repeat (first | apply Kd.R_alloc | apply Kd.R_drewN | apply Kd.R_drew)); exact HO692.out⟩, ⟨by (with_reducible repeat (first | refine blk_drewN ?_ _ | refine blk_drew ?_ | refine blk_alloc ?_ _)); exact BK694.out⟩, ⟨by (with_reducible repeat (first | refine blk_drewN ?_ _ | refine blk_drew ?_ | refine blk_alloc ?_ _)); exact BK700.out⟩, ⟨HBz⟩⟩
        ·rw [if_neg c42] at H
         have c42b0 : decide ((rd t690 0) < 0) = false := decide_eq_false c42
         clear c42
         by_cases c46 : 1 < (t690.length : Int)
         ·rw [if_pos c46] at H
          have c46b0 : decide (1 < (t690.length : Int)) = true := decide_eq_true c46
          have c46b1 : decide (1 < t690.length) = true := decide_eq_true (by omega)
          clear c46
          by_cases c47 : (rd t690 0) ≥ (rd t690 1)
          ·rw [if_pos c47] at H
           have c47b0 : decide ((rd t690 1) ≤ (rd t690 0)) = true := decide_eq_true c47
           clear c47
           have H' := Aside0.mk H
           clear H
           try go_wp2
           have n0_ : Aside0 (Kd.R k48 48 ((w33.setCell ⟨gb700, 0, none⟩ (.int .i64 t697)).setCell ⟨gb700, 1, none⟩ (.int .i64 t698)) w.heap.size (fun _ => True) (.slice Ao27 t685.length co27) t685) := ⟨by (with_reducible repeat (first | apply Kd.R_alloc | apply Kd.R_drewN | apply Kd.R_drew)); exact Kd.R_mono (Kd.R_far (p := ⟨gb700, 1, none⟩) (Kd.R_far (p := ⟨gb700, 0, none⟩) (Kd.R_types HO687.out BK700.out (by decide)) (fun _ hk => hk.2) (.int .i64 t697)) (fun _ hk => hk.2) (.int .i64 t698)) (fun _ hk => trivial)⟩
           have n1_ : Aside0 (Kd.R (Kd.int .i64) 3 ((w33.setCell ⟨gb700, 0, none⟩ (.int .i64 t697)).setCell ⟨gb700, 1, none⟩ (.int .i64 t698)) w.heap.size (fun _ => True) v691 t690) := ⟨by (with_reducible repeat (first | apply Kd.R_alloc | apply Kd.R_drewN | apply Kd.R_drew)); exact Kd.R_mono (Kd.R_far (p := ⟨gb700, 1, none⟩) (Kd.R_far (p := ⟨gb700, 0, none⟩) (Kd.R_types HO692.out BK700.out (by decide)) (fun _ hk => hk.2) (.int .i64 t697)) (fun _ hk => hk.2) (.int .i64 t698)) (fun _ hk => trivial)⟩
           have n2_ : Aside0 (((w33.setCell ⟨gb700, 0, none⟩ (.int .i64 t697)).setCell ⟨gb700, 1, none⟩ (.int .i64 t698)).heap[gb694]? = some (.cells #[.int .i64 t688, .int .i64 t689] 28 (0, 0))) := ⟨by (with_reducible repeat (first | refine blk_drewN ?_ _ | refine blk_drew ?_ | refine blk_alloc ?_ _)); refine blk_far ?_ NB694_700.out _; (with_reducible repeat (first | refine blk_drewN ?_ _ | refine blk_drew ?_ | refine blk_alloc ?_ _)); refine blk_far ?_ NB694_700.out _; (with_reducible repeat (first | refine blk_drewN ?_ _ | refine blk_drew ?_ | refine blk_alloc ?_ _)); exact BK694.out⟩
           have n3_ : Aside0 (((w33.setCell ⟨gb700, 0, none⟩ (.int .i64 t697)).setCell ⟨gb700, 1, none⟩ (.int .i64 t698)).heap[gb700]? = some (.cells #[.int .i64 t697, .int .i64 t698] 28 (0, 0))) := ⟨by (with_reducible repeat (first | refine blk_drewN ?_ _ | refine blk_drew ?_ | refine blk_alloc ?_ _)); refine blk_put (cs := #[.int .i64 t697, .int .i64 0]) ?_ 1 _ rfl; (with_reducible repeat (first | refine blk_drewN ?_ _ | refine blk_drew ?_ | refine blk_alloc ?_ _)); refine blk_put (cs := #[.int .i64 0, .int .i64 0]) ?_ 0 _ rfl; (with_reducible repeat (first | refine blk_drewN ?_ _ | refine blk_drew ?_ | refine blk_alloc ?_ _)); exact BK700.out⟩
           have n4_ : Aside0 (Below w.heap.size w ((w33.setCell ⟨gb700, 0, none⟩ (.int .i64 t697)).setCell ⟨gb700, 1, none⟩ (.int .i64 t698))) := ⟨HBz⟩
           (try clear HO687)
           (try clear HO692)
           (try clear BK694)
           (try clear BK700)
           (try clear HB)
           generalize ((w33.setCell ⟨gb700, 0, none⟩ (.int .i64 t697)).setCell ⟨gb700, 1, none⟩ (.int .i64 t698)) = w48 at n0_ n1_ n2_ n3_ n4_ ⊢
           have HO687 := n0_
           have HO692 := n1_
           have BK694 := n2_
           have BK700 := n3_
           have HB := n4_
           clear n0_ n1_ n2_ n3_ n4_
           have n0_ := Aside0.mk (Kd.R_drew HO687.out)
           have n1_ := Aside0.mk (Kd.R_drew HO692.out)
           have n2_ := Aside0.mk (blk_drew BK694.out)
           have n3_ := Aside0.mk (blk_drew BK700.out)
           have n4_ := Aside0.mk (below_drew1 HB.out)
           clear HO687
           clear HO692
           clear BK694
           clear BK700
           clear HB
           have HO687 := n0_
           have HO692 := n1_
           have BK694 := n2_
           have BK700 := n3_
           have HB := n4_
           clear n0_ n1_ n2_ n3_ n4_
           obtain ⟨Ao50, co50, eo50⟩ := Kd.R_slice HO692.out
           (first | subst eo50 | (injection eo50 with f1_ f2_ f3_; have f4_ := f1_.symm; have f5_ := f3_.symm; clear f1_ f2_ f3_; subst f4_; subst f5_))
           have p702 : 0 ≤ (0 : Int) := (by omega)
           have q702 : 0 < (t690.length : Int) := of_decide_eq_true (by first | (with_reducible assumption) | assumption)
           obtain ⟨ad702, e702, hx702_0⟩ := Kd.at_int (Kd.R_reads' HO692.out).2.2 0 p702 q702
           cases e702
           have qi702 : (0 < t690.length) = True := eq_true (by omega)
           (try rw [show ((0 : Int)).toNat = 0 from rfl] at hx702_0)
           (try rw [Addr.add_zero'] at hx702_0)
           replace p702 := eq_true p702
           replace q702 := eq_true q702
           have p703 : 0 ≤ (0 : Int) := (by omega)
           have q703 : 0 < (t690.length : Int) := of_decide_eq_true (by first | (with_reducible assumption) | assumption)
           obtain ⟨ad703, e703, hx703_0⟩ := Kd.at_int (Kd.R_reads' HO692.out).2.2 0 p703 q703
           obtain rfl : ad702 = ad703 := (by injection e703)
           have qi703 : (0 < t690.length) = True := eq_true (by omega)
           (try rw [show ((0 : Int)).toNat = 0 from rfl] at hx703_0)
           (try rw [Addr.add_zero'] at hx703_0)
           replace p703 := eq_true p703
           replace q703 := eq_true q703
           have p704 : 0 ≤ (1 : Int) := (by omega)
           have q704 : 1 < (t690.length : Int) := of_decide_eq_true (by first | (with_reducible assumption) | assumption)
           obtain ⟨ad704, e704, hx704_0⟩ := Kd.at_int (Kd.R_reads' HO692.out).2.2 1 p704 q704
           obtain rfl : ad702 = ad704 := (by injection e704)
           (try simp only [show (1 : Int).toNat = 1 from rfl, Nat.reduceMul, Nat.reduceEqDiff, Go.Addr.add, ↓reduceIte] at hx704_0)
           have qi704 : (1 < t690.length) = True := eq_true (by omega)
           (try rw [show ((1 : Int)).toNat = 1 from rfl] at hx704_0)
           replace p704 := eq_true p704
           replace q704 := eq_true q704
           refine stz (fun w' => w'.cell? ⟨gb694, 0, none⟩ = some (.int .i64 t688) ∧ w'.cell? ⟨gb694, 1, none⟩ = some (.int .i64 t689) ∧ w'.cell? ad702 = some (.int .i64 (rd t690 0)) ∧ w'.cell? ad702 = some (.int .i64 (rd t690 0)) ∧ w'.cell? ⟨ad702.block, ad702.off + 1, none⟩ = some (.int .i64 (rd t690 1))) [] (bn 35 0) ⟨(blk_cell BK694.out 0).trans rfl, (blk_cell BK694.out 1).trans rfl, hx702_0, hx703_0, hx704_0⟩ (fun hHeld => ?_); refine with_tabW tickinglaw01_CoverMeets.tab8 tickinglaw01_CoverMeets.bits8 (fun HT_ HW_ => ?_)
           generalize w48.drew = w49 at HO687 HO692 BK694 BK700 HB hx702_0 hx703_0 hx704_0 hHeld ⊢
           refine pT HT_.out 0 (some 56) (bn 35 1) ?_
           refine pT HT_.out 1 (some 57) (bn 35 3) ?_
           refine pT HT_.out 2 (some 58) (bn 35 7) ?_
           refine pT HT_.out 4 (some 60) (bn 35 23) ?_
           refine tT HT_.out HW_.out 3 (some 59) (bn 35 31) hHeld ?_
           refine pT HT_.out 5 (some 61) (bn 35 63) ?_
           refine pT HT_.out 6 (some 62) (bn 35 127) ?_
           refine pT HT_.out 7 (some 63) (bn 35 255) ?_
           refine pT HT_.out 8 (some 64) (bn 35 511) ?_
           refine pT HT_.out 9 (some 65) (bn 35 1023) ?_
           refine pT HT_.out 10 (some 66) (bn 35 2047) ?_
           refine pT HT_.out 11 (some 67) (bn 35 4095) ?_
           refine pT HT_.out 12 (some 68) (bn 35 8191) ?_
           refine pT HT_.out 13 (some 69) (bn 35 16383) ?_
           refine pT HT_.out 14 (some 70) (bn 35 32767) ?_
           refine tT HT_.out HW_.out 15 (some 71) (bn 35 65535) hHeld ?_
           refine pT HT_.out 16 (some 72) (bn 35 131071) ?_
           refine pT HT_.out 17 (some 73) (bn 35 262143) ?_
           refine pT HT_.out 18 (some 74) (bn 35 524287) ?_
           refine pT HT_.out 19 (some 75) (bn 35 1048575) ?_
           refine pT HT_.out 20 (some 76) (bn 35 2097151) ?_
           refine pT HT_.out 22 (some 78) (bn 35 6291455) ?_
           refine pT HT_.out 23 (some 79) (bn 35 14680063) ?_
           refine tT HT_.out HW_.out 21 (some 77) (bn 35 16777215) hHeld ?_
           refine tT HT_.out HW_.out 24 (some 80) (bn 35 33554431) hHeld ?_
           refine pT HT_.out 25 (some 81) (bn 35 67108863) ?_
           refine pT HT_.out 26 (some 82) (bn 35 134217727) ?_
           refine pT HT_.out 27 (some 83) (bn 35 268435455) ?_
           refine pT0 HT_.out 28 (some 84) (bn 35 536870911) ?_
           refine pT0 HT_.out 29 (some 85) (bn 35 1073741823) ?_
           refine pT0 HT_.out 30 (some 86) (bn 35 2147483647) ?_
           refine pT0 HT_.out 31 (some 87) (bn 35 4294967295) ?_
           refine pT0 HT_.out 32 (some 88) (bn 35 8589934591) ?_
           refine pT0 HT_.out 33 (some 89) (bn 35 17179869183) ?_
           refine pT HT_.out 34 (some 90) (bn 35 34359738367) ?_
           refine done_ (done_of HT_.out (by kernel_rfl)) ?_
           try go_wp2
           go_meet
           case rel => exact ⟨_, (true), (by first | rfl | (simp; done) | (simp [*]; done)), H', ⟨by first | omega | exact Nat.le_refl _⟩, ⟨by (with_reducible repeat (first | apply Kd.R_alloc | apply Kd.R_drewN | apply Kd.R_drew)); exact HO687.out⟩, ⟨by (with_reducible repeat (first | apply Kd.R_alloc | apply Kd.R_drewN | apply Kd.R_drew)); exact HO692.out⟩, ⟨by (with_reducible repeat (first | refine blk_drewN ?_ _ | refine blk_drew ?_ | refine blk_alloc ?_ _)); exact BK694.out⟩, ⟨by (with_reducible repeat (first | refine blk_drewN ?_ _ | refine blk_drew ?_ | refine blk_alloc ?_ _)); exact BK700.out⟩, ⟨HBz⟩⟩
          ·rw [if_neg c47] at H
           have c47b0 : decide ((rd t690 1) ≤ (rd t690 0)) = false := decide_eq_false c47
           clear c47
           have H' := Aside0.mk H
           clear H
           try go_wp2
           have n0_ : Aside0 (Kd.R k48 48 ((w33.setCell ⟨gb700, 0, none⟩ (.int .i64 t697)).setCell ⟨gb700, 1, none⟩ (.int .i64 t698)) w.heap.size (fun _ => True) (.slice Ao27 t685.length co27) t685) := ⟨by (with_reducible repeat (first | apply Kd.R_alloc | apply Kd.R_drewN | apply Kd.R_drew)); exact Kd.R_mono (Kd.R_far (p := ⟨gb700, 1, none⟩) (Kd.R_far (p := ⟨gb700, 0, none⟩) (Kd.R_types HO687.out BK700.out (by decide)) (fun _ hk => hk.2) (.int .i64 t697)) (fun _ hk => hk.2) (.int .i64 t698)) (fun _ hk => trivial)⟩
           have n1_ : Aside0 (Kd.R (Kd.int .i64) 3 ((w33.setCell ⟨gb700, 0, none⟩ (.int .i64 t697)).setCell ⟨gb700, 1, none⟩ (.int .i64 t698)) w.heap.size (fun _ => True) v691 t690) := ⟨by (with_reducible repeat (first | apply Kd.R_alloc | apply Kd.R_drewN | apply Kd.R_drew)); exact Kd.R_mono (Kd.R_far (p := ⟨gb700, 1, none⟩) (Kd.R_far (p := ⟨gb700, 0, none⟩) (Kd.R_types HO692.out BK700.out (by decide)) (fun _ hk => hk.2) (.int .i64 t697)) (fun _ hk => hk.2) (.int .i64 t698)) (fun _ hk => trivial)⟩
           have n2_ : Aside0 (((w33.setCell ⟨gb700, 0, none⟩ (.int .i64 t697)).setCell ⟨gb700, 1, none⟩ (.int .i64 t698)).heap[gb694]? = some (.cells #[.int .i64 t688, .int .i64 t689] 28 (0, 0))) := ⟨by (with_reducible repeat (first | refine blk_drewN ?_ _ | refine blk_drew ?_ | refine blk_alloc ?_ _)); refine blk_far ?_ NB694_700.out _; (with_reducible repeat (first | refine blk_drewN ?_ _ | refine blk_drew ?_ | refine blk_alloc ?_ _)); refine blk_far ?_ NB694_700.out _; (with_reducible repeat (first | refine blk_drewN ?_ _ | refine blk_drew ?_ | refine blk_alloc ?_ _)); exact BK694.out⟩
           have n3_ : Aside0 (((w33.setCell ⟨gb700, 0, none⟩ (.int .i64 t697)).setCell ⟨gb700, 1, none⟩ (.int .i64 t698)).heap[gb700]? = some (.cells #[.int .i64 t697, .int .i64 t698] 28 (0, 0))) := ⟨by (with_reducible repeat (first | refine blk_drewN ?_ _ | refine blk_drew ?_ | refine blk_alloc ?_ _)); refine blk_put (cs := #[.int .i64 t697, .int .i64 0]) ?_ 1 _ rfl; (with_reducible repeat (first | refine blk_drewN ?_ _ | refine blk_drew ?_ | refine blk_alloc ?_ _)); refine blk_put (cs := #[.int .i64 0, .int .i64 0]) ?_ 0 _ rfl; (with_reducible repeat (first | refine blk_drewN ?_ _ | refine blk_drew ?_ | refine blk_alloc ?_ _)); exact BK700.out⟩
           have n4_ : Aside0 (Below w.heap.size w ((w33.setCell ⟨gb700, 0, none⟩ (.int .i64 t697)).setCell ⟨gb700, 1, none⟩ (.int .i64 t698))) := ⟨HBz⟩
           (try clear HO687)
           (try clear HO692)
           (try clear BK694)
           (try clear BK700)
           (try clear HB)
           generalize ((w33.setCell ⟨gb700, 0, none⟩ (.int .i64 t697)).setCell ⟨gb700, 1, none⟩ (.int .i64 t698)) = w51 at n0_ n1_ n2_ n3_ n4_ ⊢
           have HO687 := n0_
           have HO692 := n1_
           have BK694 := n2_
           have BK700 := n3_
           have HB := n4_
           clear n0_ n1_ n2_ n3_ n4_
           have n0_ := Aside0.mk (Kd.R_drew HO687.out)
           have n1_ := Aside0.mk (Kd.R_drew HO692.out)
           have n2_ := Aside0.mk (blk_drew BK694.out)
           have n3_ := Aside0.mk (blk_drew BK700.out)
           have n4_ := Aside0.mk (below_drew1 HB.out)
           clear HO687
           clear HO692
           clear BK694
           clear BK700
           clear HB
           have HO687 := n0_
           have HO692 := n1_
           have BK694 := n2_
           have BK700 := n3_
           have HB := n4_
           clear n0_ n1_ n2_ n3_ n4_
           obtain ⟨Ao53, co53, eo53⟩ := Kd.R_slice HO692.out
           (first | subst eo53 | (injection eo53 with f1_ f2_ f3_; have f4_ := f1_.symm; have f5_ := f3_.symm; clear f1_ f2_ f3_; subst f4_; subst f5_))
           have p702 : 0 ≤ (0 : Int) := (by omega)
           have q702 : 0 < (t690.length : Int) := of_decide_eq_true (by first | (with_reducible assumption) | assumption)
           obtain ⟨ad702, e702, hx702_0⟩ := Kd.at_int (Kd.R_reads' HO692.out).2.2 0 p702 q702
           cases e702
           have qi702 : (0 < t690.length) = True := eq_true (by omega)
           (try rw [show ((0 : Int)).toNat = 0 from rfl] at hx702_0)
           (try rw [Addr.add_zero'] at hx702_0)
           replace p702 := eq_true p702
           replace q702 := eq_true q702
           have p703 : 0 ≤ (0 : Int) := (by omega)
           have q703 : 0 < (t690.length : Int) := of_decide_eq_true (by first | (with_reducible assumption) | assumption)
           obtain ⟨ad703, e703, hx703_0⟩ := Kd.at_int (Kd.R_reads' HO692.out).2.2 0 p703 q703
           obtain rfl : ad702 = ad703 := (by injection e703)
           have qi703 : (0 < t690.length) = True := eq_true (by omega)
           (try rw [show ((0 : Int)).toNat = 0 from rfl] at hx703_0)
           (try rw [Addr.add_zero'] at hx703_0)
           replace p703 := eq_true p703
           replace q703 := eq_true q703
           have p704 : 0 ≤ (1 : Int) := (by omega)
           have q704 : 1 < (t690.length : Int) := of_decide_eq_true (by first | (with_reducible assumption) | assumption)
           obtain ⟨ad704, e704, hx704_0⟩ := Kd.at_int (Kd.R_reads' HO692.out).2.2 1 p704 q704
           obtain rfl : ad702 = ad704 := (by injection e704)
           (try simp only [show (1 : Int).toNat = 1 from rfl, Nat.reduceMul, Nat.reduceEqDiff, Go.Addr.add, ↓reduceIte] at hx704_0)
           have qi704 : (1 < t690.length) = True := eq_true (by omega)
           (try rw [show ((1 : Int)).toNat = 1 from rfl] at hx704_0)
           replace p704 := eq_true p704
           replace q704 := eq_true q704
           have p705 : 0 ≤ (1 : Int) := (by omega)
           have q705 : 1 < (t690.length : Int) := of_decide_eq_true (by first | (with_reducible assumption) | assumption)
           obtain ⟨ad705, e705, hx705_0⟩ := Kd.at_int (Kd.R_reads' HO692.out).2.2 1 p705 q705
           obtain rfl : ad702 = ad705 := (by injection e705)
           (try simp only [show (1 : Int).toNat = 1 from rfl, Nat.reduceMul, Nat.reduceEqDiff, Go.Addr.add, ↓reduceIte] at hx705_0)
           have qi705 : (1 < t690.length) = True := eq_true (by omega)
           (try rw [show ((1 : Int)).toNat = 1 from rfl] at hx705_0)
           replace p705 := eq_true p705
           replace q705 := eq_true q705
           refine stz (fun w' => w'.cell? ⟨gb694, 0, none⟩ = some (.int .i64 t688) ∧ w'.cell? ⟨gb694, 1, none⟩ = some (.int .i64 t689) ∧ w'.cell? ad702 = some (.int .i64 (rd t690 0)) ∧ w'.cell? ad702 = some (.int .i64 (rd t690 0)) ∧ w'.cell? ⟨ad702.block, ad702.off + 1, none⟩ = some (.int .i64 (rd t690 1)) ∧ w'.cell? ⟨ad702.block, ad702.off + 1, none⟩ = some (.int .i64 (rd t690 1))) [] (bn 35 0) ⟨(blk_cell BK694.out 0).trans rfl, (blk_cell BK694.out 1).trans rfl, hx702_0, hx703_0, hx704_0, hx705_0⟩ (fun hHeld => ?_); refine with_tabW tickinglaw01_CoverMeets.tab8 tickinglaw01_CoverMeets.bits8 (fun HT_ HW_ => ?_)
           generalize w51.drew = w52 at HO687 HO692 BK694 BK700 HB hx702_0 hx703_0 hx704_0 hx705_0 hHeld ⊢
           refine pT HT_.out 0 (some 56) (bn 35 1) ?_
           refine pT HT_.out 1 (some 57) (bn 35 3) ?_
           refine pT HT_.out 2 (some 58) (bn 35 7) ?_
           refine pT HT_.out 4 (some 60) (bn 35 23) ?_
           refine tT HT_.out HW_.out 3 (some 59) (bn 35 31) hHeld ?_
           refine pT HT_.out 5 (some 61) (bn 35 63) ?_
           refine pT HT_.out 6 (some 62) (bn 35 127) ?_
           refine pT HT_.out 7 (some 63) (bn 35 255) ?_
           refine pT HT_.out 8 (some 64) (bn 35 511) ?_
           refine pT HT_.out 9 (some 65) (bn 35 1023) ?_
           refine pT HT_.out 10 (some 66) (bn 35 2047) ?_
           refine pT HT_.out 11 (some 67) (bn 35 4095) ?_
           refine pT HT_.out 12 (some 68) (bn 35 8191) ?_
           refine pT HT_.out 13 (some 69) (bn 35 16383) ?_
           refine pT HT_.out 14 (some 70) (bn 35 32767) ?_
           refine tT HT_.out HW_.out 15 (some 71) (bn 35 65535) hHeld ?_
           refine pT HT_.out 16 (some 72) (bn 35 131071) ?_
           refine pT HT_.out 17 (some 73) (bn 35 262143) ?_
           refine pT HT_.out 18 (some 74) (bn 35 524287) ?_
           refine pT HT_.out 19 (some 75) (bn 35 1048575) ?_
           refine pT HT_.out 20 (some 76) (bn 35 2097151) ?_
           refine pT HT_.out 22 (some 78) (bn 35 6291455) ?_
           refine pT HT_.out 23 (some 79) (bn 35 14680063) ?_
           refine tT HT_.out HW_.out 21 (some 77) (bn 35 16777215) hHeld ?_
           refine tT HT_.out HW_.out 24 (some 80) (bn 35 33554431) hHeld ?_
           refine pT HT_.out 25 (some 81) (bn 35 67108863) ?_
           refine pT HT_.out 26 (some 82) (bn 35 134217727) ?_
           refine pT HT_.out 27 (some 83) (bn 35 268435455) ?_
           refine pT HT_.out 28 (some 84) (bn 35 536870911) ?_
           refine pT HT_.out 29 (some 85) (bn 35 1073741823) ?_
           refine pT HT_.out 31 (some 87) (bn 35 3221225471) ?_
           refine pT HT_.out 32 (some 88) (bn 35 7516192767) ?_
           refine tT HT_.out HW_.out 30 (some 86) (bn 35 8589934591) hHeld ?_
           refine pT HT_.out 33 (some 89) (bn 35 17179869183) ?_
           refine pT HT_.out 34 (some 90) (bn 35 34359738367) ?_
           refine done_ (done_of HT_.out (by kernel_rfl)) ?_
           try go_wp2
           go_meet
           case rel => exact ⟨_, (decide ((rd t690 1) ≥ (t685.length : Int))), (by first | rfl | (simp; done) | (simp [*]; done)), H', ⟨by first | omega | exact Nat.le_refl _⟩, ⟨by (with_reducible repeat (first | apply Kd.R_alloc | apply Kd.R_drewN | apply Kd.R_drew)); exact HO687.out⟩, ⟨by (with_reducible repeat (first | apply Kd.R_alloc | apply Kd.R_drewN | apply Kd.R_drew)); exact HO692.out⟩, ⟨by (with_reducible repeat (first | refine blk_drewN ?_ _ | refine blk_drew ?_ | refine blk_alloc ?_ _)); exact BK694.out⟩, ⟨by (with_reducible repeat (first | refine blk_drewN ?_ _ | refine blk_drew ?_ | refine blk_alloc ?_ _)); exact BK700.out⟩, ⟨HBz⟩⟩
         ·rw [if_neg c46] at H
          exact absurd H (by simp)
       ·rw [if_neg c41] at H
        exact absurd H (by simp)
      ·rw [if_neg c40] at H
       have c40b0 : ((t690.length : Int) == 2) = false := beq_eq_false_iff_ne.mpr c40
       have c40b1 : ((t690.length : Int) != 2) = true := bne_iff_ne.mpr c40
       have H' := Aside0.mk H
       clear H
       try go_wp2
       have n0_ : Aside0 (Kd.R k48 48 ((w33.setCell ⟨gb700, 0, none⟩ (.int .i64 t697)).setCell ⟨gb700, 1, none⟩ (.int .i64 t698)) w.heap.size (fun _ => True) (.slice Ao27 t685.length co27) t685) := ⟨by (with_reducible repeat (first | apply Kd.R_alloc | apply Kd.R_drewN | apply Kd.R_drew)); exact Kd.R_mono (Kd.R_far (p := ⟨gb700, 1, none⟩) (Kd.R_far (p := ⟨gb700, 0, none⟩) (Kd.R_types HO687.out BK700.out (by decide)) (fun _ hk => hk.2) (.int .i64 t697)) (fun _ hk => hk.2) (.int .i64 t698)) (fun _ hk => trivial)⟩
       have n1_ : Aside0 (Kd.R (Kd.int .i64) 3 ((w33.setCell ⟨gb700, 0, none⟩ (.int .i64 t697)).setCell ⟨gb700, 1, none⟩ (.int .i64 t698)) w.heap.size (fun _ => True) v691 t690) := ⟨by (with_reducible repeat (first | apply Kd.R_alloc | apply Kd.R_drewN | apply Kd.R_drew)); exact Kd.R_mono (Kd.R_far (p := ⟨gb700, 1, none⟩) (Kd.R_far (p := ⟨gb700, 0, none⟩) (Kd.R_types HO692.out BK700.out (by decide)) (fun _ hk => hk.2) (.int .i64 t697)) (fun _ hk => hk.2) (.int .i64 t698)) (fun _ hk => trivial)⟩
       have n2_ : Aside0 (((w33.setCell ⟨gb700, 0, none⟩ (.int .i64 t697)).setCell ⟨gb700, 1, none⟩ (.int .i64 t698)).heap[gb694]? = some (.cells #[.int .i64 t688, .int .i64 t689] 28 (0, 0))) := ⟨by (with_reducible repeat (first | refine blk_drewN ?_ _ | refine blk_drew ?_ | refine blk_alloc ?_ _)); refine blk_far ?_ NB694_700.out _; (with_reducible repeat (first | refine blk_drewN ?_ _ | refine blk_drew ?_ | refine blk_alloc ?_ _)); refine blk_far ?_ NB694_700.out _; (with_reducible repeat (first | refine blk_drewN ?_ _ | refine blk_drew ?_ | refine blk_alloc ?_ _)); exact BK694.out⟩
       have n3_ : Aside0 (((w33.setCell ⟨gb700, 0, none⟩ (.int .i64 t697)).setCell ⟨gb700, 1, none⟩ (.int .i64 t698)).heap[gb700]? = some (.cells #[.int .i64 t697, .int .i64 t698] 28 (0, 0))) := ⟨by (with_reducible repeat (first | refine blk_drewN ?_ _ | refine blk_drew ?_ | refine blk_alloc ?_ _)); refine blk_put (cs := #[.int .i64 t697, .int .i64 0]) ?_ 1 _ rfl; (with_reducible repeat (first | refine blk_drewN ?_ _ | refine blk_drew ?_ | refine blk_alloc ?_ _)); refine blk_put (cs := #[.int .i64 0, .int .i64 0]) ?_ 0 _ rfl; (with_reducible repeat (first | refine blk_drewN ?_ _ | refine blk_drew ?_ | refine blk_alloc ?_ _)); exact BK700.out⟩
       have n4_ : Aside0 (Below w.heap.size w ((w33.setCell ⟨gb700, 0, none⟩ (.int .i64 t697)).setCell ⟨gb700, 1, none⟩ (.int .i64 t698))) := ⟨HBz⟩
       (try clear HO687)
       (try clear HO692)
       (try clear BK694)
       (try clear BK700)
       (try clear HB)
       generalize ((w33.setCell ⟨gb700, 0, none⟩ (.int .i64 t697)).setCell ⟨gb700, 1, none⟩ (.int .i64 t698)) = w54 at n0_ n1_ n2_ n3_ n4_ ⊢
       have HO687 := n0_
       have HO692 := n1_
       have BK694 := n2_
       have BK700 := n3_
       have HB := n4_
       clear n0_ n1_ n2_ n3_ n4_
       have n0_ := Aside0.mk (Kd.R_drew HO687.out)
       have n1_ := Aside0.mk (Kd.R_drew HO692.out)
       have n2_ := Aside0.mk (blk_drew BK694.out)
       have n3_ := Aside0.mk (blk_drew BK700.out)
       have n4_ := Aside0.mk (below_drew1 HB.out)
       clear HO687
       clear HO692
       clear BK694
       clear BK700
       clear HB
       have HO687 := n0_
       have HO692 := n1_
       have BK694 := n2_
       have BK700 := n3_
       have HB := n4_
       clear n0_ n1_ n2_ n3_ n4_
       obtain ⟨Ao56, co56, eo56⟩ := Kd.R_slice HO692.out
       (first | subst eo56 | (injection eo56 with f1_ f2_ f3_; have f4_ := f1_.symm; have f5_ := f3_.symm; clear f1_ f2_ f3_; subst f4_; subst f5_))
       refine stz (fun w' => w'.cell? ⟨gb694, 0, none⟩ = some (.int .i64 t688) ∧ w'.cell? ⟨gb694, 1, none⟩ = some (.int .i64 t689)) [] (bn 35 0) ⟨(blk_cell BK694.out 0).trans rfl, (blk_cell BK694.out 1).trans rfl⟩ (fun hHeld => ?_); refine with_tabW tickinglaw01_CoverMeets.tab8 tickinglaw01_CoverMeets.bits8 (fun HT_ HW_ => ?_)
       generalize w54.drew = w55 at HO687 HO692 BK694 BK700 HB hHeld ⊢
       refine pT HT_.out 0 (some 56) (bn 35 1) ?_
       refine pT HT_.out 1 (some 57) (bn 35 3) ?_
       refine pT HT_.out 2 (some 58) (bn 35 7) ?_
       refine pT HT_.out 4 (some 60) (bn 35 23) ?_
       refine tT HT_.out HW_.out 3 (some 59) (bn 35 31) hHeld ?_
       refine pT HT_.out 5 (some 61) (bn 35 63) ?_
       refine pT HT_.out 6 (some 62) (bn 35 127) ?_
       refine pT HT_.out 7 (some 63) (bn 35 255) ?_
       refine pT HT_.out 8 (some 64) (bn 35 511) ?_
       refine pT HT_.out 9 (some 65) (bn 35 1023) ?_
       refine pT HT_.out 10 (some 66) (bn 35 2047) ?_
       refine pT HT_.out 11 (some 67) (bn 35 4095) ?_
       refine pT HT_.out 12 (some 68) (bn 35 8191) ?_
       refine pT0 HT_.out 13 (some 69) (bn 35 16383) ?_
       refine pT0 HT_.out 14 (some 70) (bn 35 32767) ?_
       refine pT0 HT_.out 15 (some 71) (bn 35 65535) ?_
       refine pT0 HT_.out 16 (some 72) (bn 35 131071) ?_
       refine pT HT_.out 17 (some 73) (bn 35 262143) ?_
       refine pT HT_.out 18 (some 74) (bn 35 524287) ?_
       refine pT0 HT_.out 19 (some 75) (bn 35 1048575) ?_
       refine pT0 HT_.out 20 (some 76) (bn 35 2097151) ?_
       refine pT0 HT_.out 21 (some 77) (bn 35 4194303) ?_
       refine pT0 HT_.out 22 (some 78) (bn 35 8388607) ?_
       refine pT0 HT_.out 23 (some 79) (bn 35 16777215) ?_
       refine pT0 HT_.out 24 (some 80) (bn 35 33554431) ?_
       refine pT0 HT_.out 25 (some 81) (bn 35 67108863) ?_
       refine pT HT_.out 26 (some 82) (bn 35 134217727) ?_
       refine pT HT_.out 27 (some 83) (bn 35 268435455) ?_
       refine pT0 HT_.out 28 (some 84) (bn 35 536870911) ?_
       refine pT0 HT_.out 29 (some 85) (bn 35 1073741823) ?_
       refine pT0 HT_.out 30 (some 86) (bn 35 2147483647) ?_
       refine pT0 HT_.out 31 (some 87) (bn 35 4294967295) ?_
       refine pT0 HT_.out 32 (some 88) (bn 35 8589934591) ?_
       refine pT0 HT_.out 33 (some 89) (bn 35 17179869183) ?_
       refine pT HT_.out 34 (some 90) (bn 35 34359738367) ?_
       refine done_ (done_of HT_.out (by kernel_rfl)) ?_
       try go_wp2
       go_meet
       case rel => exact ⟨_, (true), (by first | rfl | (simp; done) | (simp [*]; done)), H', ⟨by first | omega | exact Nat.le_refl _⟩, ⟨by (with_reducible repeat (first | apply Kd.R_alloc | apply Kd.R_drewN | apply Kd.R_drew)); exact HO687.out⟩, ⟨by (with_reducible repeat (first | apply Kd.R_alloc | apply Kd.R_drewN | apply Kd.R_drew)); exact HO692.out⟩, ⟨by (with_reducible repeat (first | refine blk_drewN ?_ _ | refine blk_drew ?_ | refine blk_alloc ?_ _)); exact BK694.out⟩, ⟨by (with_reducible repeat (first | refine blk_drewN ?_ _ | refine blk_drew ?_ | refine blk_alloc ?_ _)); exact BK700.out⟩, ⟨HBz⟩⟩
    ·rw [if_neg c36] at H
     have c36b0 : (t693 == 0) = false := beq_eq_false_iff_ne.mpr c36
     have c36b1 : (t693 != 0) = true := bne_iff_ne.mpr c36
     (first | rw [c36b0] | (simp only [i64_w, i32_w]; rw [c36b0]) | skip)
     have H' := Aside0.mk H
     clear H
     try go_wp2
     have n0_ : Aside0 (Kd.R k48 48 ((w33.setCell ⟨gb700, 0, none⟩ (.int .i64 t697)).setCell ⟨gb700, 1, none⟩ (.int .i64 t698)) w.heap.size (fun _ => True) (.slice Ao27 t685.length co27) t685) := ⟨by (with_reducible repeat (first | apply Kd.R_alloc | apply Kd.R_drewN | apply Kd.R_drew)); exact Kd.R_mono (Kd.R_far (p := ⟨gb700, 1, none⟩) (Kd.R_far (p := ⟨gb700, 0, none⟩) (Kd.R_types HO687.out BK700.out (by decide)) (fun _ hk => hk.2) (.int .i64 t697)) (fun _ hk => hk.2) (.int .i64 t698)) (fun _ hk => trivial)⟩
     have n1_ : Aside0 (Kd.R (Kd.int .i64) 3 ((w33.setCell ⟨gb700, 0, none⟩ (.int .i64 t697)).setCell ⟨gb700, 1, none⟩ (.int .i64 t698)) w.heap.size (fun _ => True) v691 t690) := ⟨by (with_reducible repeat (first | apply Kd.R_alloc | apply Kd.R_drewN | apply Kd.R_drew)); exact Kd.R_mono (Kd.R_far (p := ⟨gb700, 1, none⟩) (Kd.R_far (p := ⟨gb700, 0, none⟩) (Kd.R_types HO692.out BK700.out (by decide)) (fun _ hk => hk.2) (.int .i64 t697)) (fun _ hk => hk.2) (.int .i64 t698)) (fun _ hk => trivial)⟩
     have n2_ : Aside0 (((w33.setCell ⟨gb700, 0, none⟩ (.int .i64 t697)).setCell ⟨gb700, 1, none⟩ (.int .i64 t698)).heap[gb694]? = some (.cells #[.int .i64 t688, .int .i64 t689] 28 (0, 0))) := ⟨by (with_reducible repeat (first | refine blk_drewN ?_ _ | refine blk_drew ?_ | refine blk_alloc ?_ _)); refine blk_far ?_ NB694_700.out _; (with_reducible repeat (first | refine blk_drewN ?_ _ | refine blk_drew ?_ | refine blk_alloc ?_ _)); refine blk_far ?_ NB694_700.out _; (with_reducible repeat (first | refine blk_drewN ?_ _ | refine blk_drew ?_ | refine blk_alloc ?_ _)); exact BK694.out⟩
     have n3_ : Aside0 (((w33.setCell ⟨gb700, 0, none⟩ (.int .i64 t697)).setCell ⟨gb700, 1, none⟩ (.int .i64 t698)).heap[gb700]? = some (.cells #[.int .i64 t697, .int .i64 t698] 28 (0, 0))) := ⟨by (with_reducible repeat (first | refine blk_drewN ?_ _ | refine blk_drew ?_ | refine blk_alloc ?_ _)); refine blk_put (cs := #[.int .i64 t697, .int .i64 0]) ?_ 1 _ rfl; (with_reducible repeat (first | refine blk_drewN ?_ _ | refine blk_drew ?_ | refine blk_alloc ?_ _)); refine blk_put (cs := #[.int .i64 0, .int .i64 0]) ?_ 0 _ rfl; (with_reducible repeat (first | refine blk_drewN ?_ _ | refine blk_drew ?_ | refine blk_alloc ?_ _)); exact BK700.out⟩
     have n4_ : Aside0 (Below w.heap.size w ((w33.setCell ⟨gb700, 0, none⟩ (.int .i64 t697)).setCell ⟨gb700, 1, none⟩ (.int .i64 t698))) := ⟨HBz⟩
     (try clear HO687)
     (try clear HO692)
     (try clear BK694)
     (try clear BK700)
     (try clear HB)
     generalize ((w33.setCell ⟨gb700, 0, none⟩ (.int .i64 t697)).setCell ⟨gb700, 1, none⟩ (.int .i64 t698)) = w57 at n0_ n1_ n2_ n3_ n4_ ⊢
     have HO687 := n0_
     have HO692 := n1_
     have BK694 := n2_
     have BK700 := n3_
     have HB := n4_
     clear n0_ n1_ n2_ n3_ n4_
     have n0_ := Aside0.mk (Kd.R_drew HO687.out)
     have n1_ := Aside0.mk (Kd.R_drew HO692.out)
     have n2_ := Aside0.mk (blk_drew BK694.out)
     have n3_ := Aside0.mk (blk_drew BK700.out)
     have n4_ := Aside0.mk (below_drew1 HB.out)
     clear HO687
     clear HO692
     clear BK694
     clear BK700
     clear HB
     have HO687 := n0_
     have HO692 := n1_
     have BK694 := n2_
     have BK700 := n3_
     have HB := n4_
     clear n0_ n1_ n2_ n3_ n4_
     refine stz (fun w' => True) [] (bn 35 0) trivial (fun hHeld => ?_); refine with_tabW tickinglaw01_CoverMeets.tab8 tickinglaw01_CoverMeets.bits8 (fun HT_ HW_ => ?_)
     generalize w57.drew = w58 at HO687 HO692 BK694 BK700 HB hHeld ⊢
     refine pT HT_.out 0 (some 56) (bn 35 1) ?_
     refine pT HT_.out 1 (some 57) (bn 35 3) ?_
     refine pT HT_.out 2 (some 58) (bn 35 7) ?_
     refine pT0 HT_.out 3 (some 59) (bn 35 15) ?_
     refine pT0 HT_.out 4 (some 60) (bn 35 31) ?_
     refine pT0 HT_.out 5 (some 61) (bn 35 63) ?_
     refine pT HT_.out 6 (some 62) (bn 35 127) ?_
     refine pT HT_.out 7 (some 63) (bn 35 255) ?_
     refine pT0 HT_.out 8 (some 64) (bn 35 511) ?_
     refine pT0 HT_.out 9 (some 65) (bn 35 1023) ?_
     refine pT0 HT_.out 10 (some 66) (bn 35 2047) ?_
     refine pT HT_.out 11 (some 67) (bn 35 4095) ?_
     refine pT HT_.out 12 (some 68) (bn 35 8191) ?_
     refine pT0 HT_.out 13 (some 69) (bn 35 16383) ?_
     refine pT0 HT_.out 14 (some 70) (bn 35 32767) ?_
     refine pT0 HT_.out 15 (some 71) (bn 35 65535) ?_
     refine pT0 HT_.out 16 (some 72) (bn 35 131071) ?_
     refine pT HT_.out 17 (some 73) (bn 35 262143) ?_
     refine pT HT_.out 18 (some 74) (bn 35 524287) ?_
     refine pT0 HT_.out 19 (some 75) (bn 35 1048575) ?_
     refine pT0 HT_.out 20 (some 76) (bn 35 2097151) ?_
     refine pT0 HT_.out 21 (some 77) (bn 35 4194303) ?_
     refine pT0 HT_.out 22 (some 78) (bn 35 8388607) ?_
     refine pT0 HT_.out 23 (some 79) (bn 35 16777215) ?_
     refine pT0 HT_.out 24 (some 80) (bn 35 33554431) ?_
     refine pT0 HT_.out 25 (some 81) (bn 35 67108863) ?_
     refine pT HT_.out 26 (some 82) (bn 35 134217727) ?_
     refine pT HT_.out 27 (some 83) (bn 35 268435455) ?_
     refine pT0 HT_.out 28 (some 84) (bn 35 536870911) ?_
     refine pT0 HT_.out 29 (some 85) (bn 35 1073741823) ?_
     refine pT0 HT_.out 30 (some 86) (bn 35 2147483647) ?_
     refine pT0 HT_.out 31 (some 87) (bn 35 4294967295) ?_
     refine pT0 HT_.out 32 (some 88) (bn 35 8589934591) ?_
     refine pT0 HT_.out 33 (some 89) (bn 35 17179869183) ?_
     refine pT HT_.out 34 (some 90) (bn 35 34359738367) ?_
     refine done_ (done_of HT_.out (by kernel_rfl)) ?_
     try go_wp2
     go_meet
     case rel => exact ⟨_, (true), (by first | rfl | (simp; done) | (simp [*]; done)), H', ⟨by first | omega | exact Nat.le_refl _⟩, ⟨by (with_reducible repeat (first | apply Kd.R_alloc | apply Kd.R_drewN | apply Kd.R_drew)); exact HO687.out⟩, ⟨by (with_reducible repeat (first | apply Kd.R_alloc | apply Kd.R_drewN | apply Kd.R_drew)); exact HO692.out⟩, ⟨by (with_reducible repeat (first | refine blk_drewN ?_ _ | refine blk_drew ?_ | refine blk_alloc ?_ _)); exact BK694.out⟩, ⟨by (with_reducible repeat (first | refine blk_drewN ?_ _ | refine blk_drew ?_ | refine blk_alloc ?_ _)); exact BK700.out⟩, ⟨HBz⟩⟩
   case rest =>
    clear HC25
    try clear p2
    try clear c3
    try clear c4
    try clear c36
    try clear c36b0
    try clear c36b1
    try clear c40
    try clear c40b0
    try clear c40b1
    try clear c41
    try clear c46
    obtain ⟨kq, x90_24, rfl, HA, HJ24, HO_3, HO_5, BK694, BK700, HB⟩ := hcut
    cases kq with
    | zero => exact absurd HA.out (by simp [tickinglaw01_CoverMeets.j0])
    | succ kj24 =>
     have H := HA.out
     clear HA
     simp only [tickinglaw01_CoverMeets.j0] at H
     by_cases c59 : x90_24 = true
     ·subst c59
      have H1 : (some false) = some r := by rw [if_pos rfl] at H; exact H
      clear H
      have H := H1
      clear H1
      exact absurd (H.trans (congrArg some HRT.out)) (by simp)
     ·replace c59 := Bool.eq_false_iff.mpr c59
      subst c59
      have H1 : (if 0 < (t690.length : Int) then (if 0 ≤ (rd t690 0) then (if (rd t690 0) < (t685.length : Int) then (if 1 < (t690.length : Int) then (if 0 ≤ (rd t690 1) then (if (rd t690 1) < (t685.length : Int) then ((tickingref01_Meets.f ((rd_T48 t685 (rd t690 0)).f0) ((rd_T48 t685 (rd t690 0)).f1) ((rd_T48 t685 (rd t690 0)).f2) ((rd_T48 t685 (rd t690 0)).f3) ((rd_T48 t685 (rd t690 1)).f0) ((rd_T48 t685 (rd t690 1)).f1) ((rd_T48 t685 (rd t690 1)).f2) ((rd_T48 t685 (rd t690 1)).f3)).bind fun t710 => (if t710 = true then (some false) else ((tickinglaw01_awake.f kj24).bind fun t711 => (some t711)))) else (none)) else (none)) else (none)) else (none)) else (none)) else (none)) = some r := by rw [if_neg (show ¬ (false = true) by decide)] at H; exact H
      clear H
      have H := H1
      clear H1
      by_cases c60 : 0 < (t690.length : Int)
      ·rw [if_pos c60] at H
       have c60b0 : decide (0 < (t690.length : Int)) = true := decide_eq_true c60
       have c60b1 : decide (0 < t690.length) = true := decide_eq_true (by omega)
       clear c60
       by_cases c61 : 0 ≤ (rd t690 0)
       ·rw [if_pos c61] at H
        have c61b0 : decide (0 ≤ (rd t690 0)) = true := decide_eq_true c61
        clear c61
        by_cases c62 : (rd t690 0) < (t685.length : Int)
        ·rw [if_pos c62] at H
         have c62b0 : decide ((rd t690 0) < (t685.length : Int)) = true := decide_eq_true c62
         clear c62
         by_cases c63 : 1 < (t690.length : Int)
         ·rw [if_pos c63] at H
          have c63b0 : decide (1 < (t690.length : Int)) = true := decide_eq_true c63
          have c63b1 : decide (1 < t690.length) = true := decide_eq_true (by omega)
          clear c63
          by_cases c64 : 0 ≤ (rd t690 1)
          ·rw [if_pos c64] at H
           have c64b0 : decide (0 ≤ (rd t690 1)) = true := decide_eq_true c64
           clear c64
           by_cases c65 : (rd t690 1) < (t685.length : Int)
           ·rw [if_pos c65] at H
            have c65b0 : decide ((rd t690 1) < (t685.length : Int)) = true := decide_eq_true c65
            clear c65
            replace H := Option.bind_eq_some_iff.mp H
            obtain ⟨t710, A660, H⟩ := H
            replace H : (if t710 = true then (some false) else ((tickinglaw01_awake.f kj24).bind fun t711 => (some t711))) = some r := H
            have A66 := Aside0.mk A660
            clear A660
            by_cases c67 : t710 = true
            ·subst c67
             have H1 : (some false) = some r := by rw [if_pos rfl] at H; exact H
             clear H
             have H := H1
             clear H1
             exact absurd (H.trans (congrArg some HRT.out)) (by simp)
            ·replace c67 := Bool.eq_false_iff.mpr c67
             subst c67
             have H1 : ((tickinglaw01_awake.f kj24).bind fun t711 => (some t711)) = some r := by rw [if_neg (show ¬ (false = true) by decide)] at H; exact H
             clear H
             have H := H1
             clear H1
             replace H := Option.bind_eq_some_iff.mp H
             obtain ⟨t711, A680, H⟩ := H
             replace H : (some t711) = some r := H
             have A68 := Aside0.mk A680
             clear A680
             obtain rfl := Option.some.inj H
             try go_wp2
             have n0_ := Aside0.mk (Kd.R_drew HO_3.out)
             have n1_ := Aside0.mk (Kd.R_drew HO_5.out)
             have n2_ := Aside0.mk (blk_drew BK694.out)
             have n3_ := Aside0.mk (blk_drew BK700.out)
             have n4_ := Aside0.mk (below_drew1 HB.out)
             clear HO_3
             clear HO_5
             clear BK694
             clear BK700
             clear HB
             have HO_3 := n0_
             have HO_5 := n1_
             have BK694 := n2_
             have BK700 := n3_
             have HB := n4_
             clear n0_ n1_ n2_ n3_ n4_
             obtain ⟨Ao70, co70, eo70⟩ := Kd.R_slice HO_5.out
             (first | subst eo70 | (injection eo70 with f1_ f2_ f3_; have f4_ := f1_.symm; have f5_ := f3_.symm; clear f1_ f2_ f3_; subst f4_; subst f5_))
             have p706 : 0 ≤ (0 : Int) := (by omega)
             have q706 : 0 < (t690.length : Int) := of_decide_eq_true (by first | (with_reducible assumption) | assumption)
             obtain ⟨ad706, e706, hx706_0⟩ := Kd.at_int (Kd.R_reads' HO_5.out).2.2 0 p706 q706
             cases e706
             have qi706 : (0 < t690.length) = True := eq_true (by omega)
             (try rw [show ((0 : Int)).toNat = 0 from rfl] at hx706_0)
             (try rw [Addr.add_zero'] at hx706_0)
             replace p706 := eq_true p706
             replace q706 := eq_true q706
             have p707 : 0 ≤ ((rd t690 0) : Int) := of_decide_eq_true (by first | (with_reducible assumption) | assumption)
             have q707 : (rd t690 0) < (t685.length : Int) := of_decide_eq_true (by first | (with_reducible assumption) | assumption)
             obtain ⟨ad707, e707, hx707_0, hx707_1, hx707_2, hx707_3⟩ := at_T48 (Kd.R_reads' HO_3.out).2.2 (rd t690 0) p707 q707
             cases e707
             replace p707 := eq_true p707
             replace q707 := eq_true q707
             have p708 : 0 ≤ (1 : Int) := (by omega)
             have q708 : 1 < (t690.length : Int) := of_decide_eq_true (by first | (with_reducible assumption) | assumption)
             obtain ⟨ad708, e708, hx708_0⟩ := Kd.at_int (Kd.R_reads' HO_5.out).2.2 1 p708 q708
             obtain rfl : ad706 = ad708 := (by injection e708)
             (try simp only [show (1 : Int).toNat = 1 from rfl, Nat.reduceMul, Nat.reduceEqDiff, Go.Addr.add, ↓reduceIte] at hx708_0)
             have qi708 : (1 < t690.length) = True := eq_true (by omega)
             (try rw [show ((1 : Int)).toNat = 1 from rfl] at hx708_0)
             replace p708 := eq_true p708
             replace q708 := eq_true q708
             have p709 : 0 ≤ ((rd t690 1) : Int) := of_decide_eq_true (by first | (with_reducible assumption) | assumption)
             have q709 : (rd t690 1) < (t685.length : Int) := of_decide_eq_true (by first | (with_reducible assumption) | assumption)
             obtain ⟨ad709, e709, hx709_0, hx709_1, hx709_2, hx709_3⟩ := at_T48 (Kd.R_reads' HO_3.out).2.2 (rd t690 1) p709 q709
             obtain rfl : ad707 = ad709 := (by injection e709)
             replace p709 := eq_true p709
             replace q709 := eq_true q709
             refine stz (fun w' => w'.cell? ad706 = some (.int .i64 (rd t690 0)) ∧ w'.cell? (ad707.add (((rd t690 0)).toNat * 4)) = some (.int .i64 ((rd_T48 t685 (rd t690 0)).f0)) ∧ w'.cell? ⟨(ad707.add (((rd t690 0)).toNat * 4)).block, (ad707.add (((rd t690 0)).toNat * 4)).off + 1, none⟩ = some (.int .i64 ((rd_T48 t685 (rd t690 0)).f1)) ∧ w'.cell? ⟨(ad707.add (((rd t690 0)).toNat * 4)).block, (ad707.add (((rd t690 0)).toNat * 4)).off + 2, none⟩ = some (.int .i64 ((rd_T48 t685 (rd t690 0)).f2)) ∧ w'.cell? ⟨(ad707.add (((rd t690 0)).toNat * 4)).block, (ad707.add (((rd t690 0)).toNat * 4)).off + 3, none⟩ = some (.int .i64 ((rd_T48 t685 (rd t690 0)).f3)) ∧ w'.cell? ⟨ad706.block, ad706.off + 1, none⟩ = some (.int .i64 (rd t690 1)) ∧ w'.cell? (ad707.add (((rd t690 1)).toNat * 4)) = some (.int .i64 ((rd_T48 t685 (rd t690 1)).f0)) ∧ w'.cell? ⟨(ad707.add (((rd t690 1)).toNat * 4)).block, (ad707.add (((rd t690 1)).toNat * 4)).off + 1, none⟩ = some (.int .i64 ((rd_T48 t685 (rd t690 1)).f1)) ∧ w'.cell? ⟨(ad707.add (((rd t690 1)).toNat * 4)).block, (ad707.add (((rd t690 1)).toNat * 4)).off + 2, none⟩ = some (.int .i64 ((rd_T48 t685 (rd t690 1)).f2)) ∧ w'.cell? ⟨(ad707.add (((rd t690 1)).toNat * 4)).block, (ad707.add (((rd t690 1)).toNat * 4)).off + 3, none⟩ = some (.int .i64 ((rd_T48 t685 (rd t690 1)).f3))) [] (bn 18 0) ⟨hx706_0, hx707_0, hx707_1, hx707_2, hx707_3, hx708_0, hx709_0, hx709_1, hx709_2, hx709_3⟩ (fun hHeld => ?_); refine with_tabW tickinglaw01_CoverMeets.tab10 tickinglaw01_CoverMeets.bits10 (fun HT_ HW_ => ?_)
             generalize wc.drew = w69 at HO_3 HO_5 BK694 BK700 HB hx706_0 hx707_0 hx707_1 hx707_2 hx707_3 hx708_0 hx709_0 hx709_1 hx709_2 hx709_3 hHeld ⊢
             refine pT HT_.out 0 (some 91) (bn 18 1) ?_
             refine pT HT_.out 1 (some 92) (bn 18 3) ?_
             refine pT HT_.out 2 (some 93) (bn 18 7) ?_
             refine pT HT_.out 6 (some 97) (bn 18 71) ?_
             refine pT HT_.out 7 (some 98) (bn 18 199) ?_
             refine pT HT_.out 8 (some 99) (bn 18 455) ?_
             refine tT HT_.out HW_.out 3 (some 94) (bn 18 463) hHeld ?_
             refine pT HT_.out 4 (some 95) (bn 18 479) ?_
             refine tT HT_.out HW_.out 5 (some 96) (bn 18 511) hHeld ?_
             refine tT HT_.out HW_.out 9 (some 100) (bn 18 1023) hHeld ?_
             refine pT HT_.out 10 (some 101) (bn 18 2047) ?_
             refine tT HT_.out HW_.out 11 (some 102) (bn 18 4095) hHeld ?_
             refine oT HT_.out 12 (some 103) (bn 18 8191) (fun K hK => ?_)
             refine gz Try.func42 #[.agg #[.int .i64 ((rd_T48 t685 (rd t690 0)).f0), .int .i64 ((rd_T48 t685 (rd t690 0)).f1), .int .i64 ((rd_T48 t685 (rd t690 0)).f2), .int .i64 ((rd_T48 t685 (rd t690 0)).f3)], .agg #[.int .i64 ((rd_T48 t685 (rd t690 1)).f0), .int .i64 ((rd_T48 t685 (rd t690 1)).f1), .int .i64 ((rd_T48 t685 (rd t690 1)).f2), .int .i64 ((rd_T48 t685 (rd t690 1)).f3)]] ?_
             with_reducible refine (tickingref01_Meets.calls ((rd_T48 t685 (rd t690 0)).f0) ((rd_T48 t685 (rd t690 0)).f1) ((rd_T48 t685 (rd t690 0)).f2) ((rd_T48 t685 (rd t690 0)).f3) ((rd_T48 t685 (rd t690 1)).f0) ((rd_T48 t685 (rd t690 1)).f1) ((rd_T48 t685 (rd t690 1)).f2) ((rd_T48 t685 (rd t690 1)).f3) false _ A66.out).mono ?_
             rintro e w71 ⟨rfl, hb⟩
             have HS0_ := (hb.cell (World.block_lt_of_cell? _ _ (hHeld.1))).trans (hHeld.1)
             have HS1_ := (hb.cell (World.block_lt_of_cell? _ _ (hHeld.2.1))).trans (hHeld.2.1)
             have HS2_ := (hb.cell (World.block_lt_of_cell? _ _ (hHeld.2.2.1))).trans (hHeld.2.2.1)
             have HS3_ := (hb.cell (World.block_lt_of_cell? _ _ (hHeld.2.2.2.1))).trans (hHeld.2.2.2.1)
             have HS4_ := (hb.cell (World.block_lt_of_cell? _ _ (hHeld.2.2.2.2.1))).trans (hHeld.2.2.2.2.1)
             have HS5_ := (hb.cell (World.block_lt_of_cell? _ _ (hHeld.2.2.2.2.2.1))).trans (hHeld.2.2.2.2.2.1)
             have HS6_ := (hb.cell (World.block_lt_of_cell? _ _ (hHeld.2.2.2.2.2.2.1))).trans (hHeld.2.2.2.2.2.2.1)
             have HS7_ := (hb.cell (World.block_lt_of_cell? _ _ (hHeld.2.2.2.2.2.2.2.1))).trans (hHeld.2.2.2.2.2.2.2.1)
             have HS8_ := (hb.cell (World.block_lt_of_cell? _ _ (hHeld.2.2.2.2.2.2.2.2.1))).trans (hHeld.2.2.2.2.2.2.2.2.1)
             have HS9_ := (hb.cell (World.block_lt_of_cell? _ _ (hHeld.2.2.2.2.2.2.2.2.2))).trans (hHeld.2.2.2.2.2.2.2.2.2)
             refine ⟨_, rfl, ?_⟩
             have n0_ := Aside0.mk (Kd.R_below (by (with_reducible repeat (first | apply Kd.R_alloc | apply Kd.R_drewN | apply Kd.R_drew)); exact HO_3.out) hb)
             have n1_ := Aside0.mk (Kd.R_below (by (with_reducible repeat (first | apply Kd.R_alloc | apply Kd.R_drewN | apply Kd.R_drew)); exact HO_5.out) hb)
             have n2_ := Aside0.mk (blk_below (g := gb694) BKz hb)
             have n3_ := Aside0.mk (blk_below (g := gb700) BKz hb)
             have n4_ := Aside0.mk (below_step HBz hb)
             clear HO_3
             clear HO_5
             clear BK694
             clear BK700
             clear HB
             have HO_3 := n0_
             have HO_5 := n1_
             have BK694 := n2_
             have BK700 := n3_
             have HB := n4_
             clear n0_ n1_ n2_ n3_ n4_
             (try clear hb)
             (try clear hb2)
             (try clear hk)
             (try clear hi)
             refine hK.out _ _ ⟨HS0_, HS1_, HS2_, HS3_, HS4_, HS5_, HS6_, HS7_, HS8_, HS9_⟩ (fun hHeld => ?_)
             clear hK K
             refine nz (some 103) ?_
             refine pT HT_.out 13 (some 104) (bn 18 16383) ?_
             refine pT HT_.out 14 (some 105) (bn 18 32767) ?_
             refine oT HT_.out 15 (some 106) (bn 18 65535) (fun K hK => ?_)
             refine gz Try.func21 #[] ?_
             with_reducible refine (tickinglaw01_awake.calls kj24  t711 _ A68.out).mono ?_
             rintro e w72 ⟨rfl, hb⟩
             have HS0_ := (hb.cell (World.block_lt_of_cell? _ _ (hHeld.1))).trans (hHeld.1)
             have HS1_ := (hb.cell (World.block_lt_of_cell? _ _ (hHeld.2.1))).trans (hHeld.2.1)
             have HS2_ := (hb.cell (World.block_lt_of_cell? _ _ (hHeld.2.2.1))).trans (hHeld.2.2.1)
             have HS3_ := (hb.cell (World.block_lt_of_cell? _ _ (hHeld.2.2.2.1))).trans (hHeld.2.2.2.1)
             have HS4_ := (hb.cell (World.block_lt_of_cell? _ _ (hHeld.2.2.2.2.1))).trans (hHeld.2.2.2.2.1)
             have HS5_ := (hb.cell (World.block_lt_of_cell? _ _ (hHeld.2.2.2.2.2.1))).trans (hHeld.2.2.2.2.2.1)
             have HS6_ := (hb.cell (World.block_lt_of_cell? _ _ (hHeld.2.2.2.2.2.2.1))).trans (hHeld.2.2.2.2.2.2.1)
             have HS7_ := (hb.cell (World.block_lt_of_cell? _ _ (hHeld.2.2.2.2.2.2.2.1))).trans (hHeld.2.2.2.2.2.2.2.1)
             have HS8_ := (hb.cell (World.block_lt_of_cell? _ _ (hHeld.2.2.2.2.2.2.2.2.1))).trans (hHeld.2.2.2.2.2.2.2.2.1)
             have HS9_ := (hb.cell (World.block_lt_of_cell? _ _ (hHeld.2.2.2.2.2.2.2.2.2))).trans (hHeld.2.2.2.2.2.2.2.2.2)
             refine ⟨_, rfl, ?_⟩
             have n0_ := Aside0.mk (Kd.R_below (by (with_reducible repeat (first | apply Kd.R_alloc | apply Kd.R_drewN | apply Kd.R_drew)); exact HO_3.out) hb)
             have n1_ := Aside0.mk (Kd.R_below (by (with_reducible repeat (first | apply Kd.R_alloc | apply Kd.R_drewN | apply Kd.R_drew)); exact HO_5.out) hb)
             have n2_ := Aside0.mk (blk_below (g := gb694) BKz hb)
             have n3_ := Aside0.mk (blk_below (g := gb700) BKz hb)
             have n4_ := Aside0.mk (below_step HBz hb)
             clear HO_3
             clear HO_5
             clear BK694
             clear BK700
             clear HB
             have HO_3 := n0_
             have HO_5 := n1_
             have BK694 := n2_
             have BK700 := n3_
             have HB := n4_
             clear n0_ n1_ n2_ n3_ n4_
             (try clear hb)
             (try clear hb2)
             (try clear hk)
             (try clear hi)
             refine hK.out _ _ ⟨HS0_, HS1_, HS2_, HS3_, HS4_, HS5_, HS6_, HS7_, HS8_, HS9_⟩ (fun hHeld => ?_)
             clear hK K
             refine nz (some 106) ?_
             refine pT HT_.out 16 (some 107) (bn 18 131071) ?_
             refine pT HT_.out 17 (some 2) (bn 18 262143) ?_
             refine done_ (done_of HT_.out (by kernel_rfl)) ?_
             try go_wp2
             go_ret
             exact ⟨by first | rfl | (simp [errW_none, errW_some] <;> rfl) | (simp [*, errW_none, errW_some] <;> rfl), HBz⟩
           ·rw [if_neg c65] at H
            exact absurd H (by simp)
          ·rw [if_neg c64] at H
           exact absurd H (by simp)
         ·rw [if_neg c63] at H
          exact absurd H (by simp)
        ·rw [if_neg c62] at H
         exact absurd H (by simp)
       ·rw [if_neg c61] at H
        exact absurd H (by simp)
      ·rw [if_neg c60] at H
       exact absurd H (by simp)
 ·replace c5 := Bool.eq_false_iff.mpr c5
  subst c5
  have H1 : (if (t688 == 0 && (t689 == 0)) = true then (if (t690.length : Int) = 0 then (if t693 = 2 then ((tickinglaw01_awake.f k).bind fun t696 => (some t696)) else (some false)) else (some false)) else (some false)) = some r := by rw [if_neg (show ¬ (false = true) by decide)] at H; exact H
  clear H
  have H := H1
  clear H1
  by_cases c73 : (t688 == 0 && (t689 == 0)) = true
  ·rw [if_pos c73] at H
   have c73b0 : (t688 == 0 && (t689 == 0)) = true := c73
   (try (have c73b1 : decide (t688 = 0 && (t689 == 0)) = true := by simpa using c73))
   (try (have c73b2 : (t688 == 0 && (t689 == 0)) = true := by simpa using c73))
   clear c73
   by_cases c74 : (t690.length : Int) = 0
   ·rw [if_pos c74] at H
    have c74b0 : ((t690.length : Int) == 0) = true := beq_iff_eq.mpr c74
    have c74b1 : ((t690.length : Int) != 0) = false := bne_eq_false_iff_eq.mpr c74
    clear c74
    by_cases c75 : t693 = 2
    ·rw [if_pos c75] at H
     have c75b0 : (t693 == 2) = true := beq_iff_eq.mpr c75
     have c75b1 : (t693 != 2) = false := bne_eq_false_iff_eq.mpr c75
     clear c75
     replace H := Option.bind_eq_some_iff.mp H
     obtain ⟨t696, A760, H⟩ := H
     replace H : (some t696) = some r := H
     have A76 := Aside0.mk A760
     clear A760
     obtain rfl := Option.some.inj H
     go_enter Try.func11, Try.ntmps11
     go_wp2_with (first | ((with_reducible refine gate_callee (f := 16) rfl ?_); refine goesL_ (some 10) rfl rfl Try.func16 (by kernel_rfl) rfl #[.slice A0 l0.length c0, .int .i64 33] rfl (by (try simp only [List.map_toArray, List.map_cons, List.map_nil]); first | done | rfl | (simp only [List.length_drop, List.length_take]; rfl)) ?_; (with_reducible refine (tickinglaw01_rects.calls _ _ l0 33 t685 _ ?side1 ?side2 A2.out).mono ?_); (case side1 => repeat (first | exact HR0.out | (with_reducible refine Kd.C_alloc ?_ _) | (with_reducible refine Kd.C_drewN ?_ _) | (with_reducible refine Kd.C_drew ?_))); (case side2 => exact HC0.out); rintro e w77 ⟨v686, rfl, ho0, hb⟩; refine ⟨_, rfl, ?_⟩; have n0_ := Aside0.mk (Kd.R_lower ho0 (below_size HBz)); have n1_ := Aside0.mk (below_step HBz hb); clear HB; have HO687 := n0_; have HB := n1_; clear n0_ n1_; (try clear hb); (try clear hb2); (try clear hk); (try clear hi); (try clear ho0); obtain ⟨Ao78, co78, eo78⟩ := Kd.R_slice HO687.out; subst eo78) | ((with_reducible refine gate_callee (f := 40) rfl ?_); refine goesL_ (some 13) rfl rfl Try.func40 (by kernel_rfl) rfl #[.slice Ao78 t685.length co78] rfl (by (try simp only [List.map_toArray, List.map_cons, List.map_nil]); first | done | rfl | (simp only [List.length_drop, List.length_take]; rfl)) ?_; (with_reducible refine (cover_Meet.calls k _ _ t685 t688 t689 t690 t693 _ ?side1 ?side2 A3.out).mono ?_); (case side1 => repeat (first | exact (Kd.R_reads' HO687.out).2.2 | (with_reducible refine Kd.C_alloc ?_ _) | (with_reducible refine Kd.C_drewN ?_ _) | (with_reducible refine Kd.C_drew ?_))); (case side2 => exact (Kd.R_reads' HO687.out).2.1); rintro e w79 ⟨v691, rfl, ho0, hb⟩; refine ⟨_, rfl, ?_⟩; have n0_ := Aside0.mk (Kd.R_below (by (with_reducible repeat (first | apply Kd.R_alloc | apply Kd.R_drewN | apply Kd.R_drew)); exact HO687.out) hb); have n1_ := Aside0.mk (Kd.R_lower ho0 (below_size HBz)); have n2_ := Aside0.mk (below_step HBz hb); clear HO687; clear HB; have HO687 := n0_; have HO692 := n1_; have HB := n2_; clear n0_ n1_ n2_; (try clear hb); (try clear hb2); (try clear hk); (try clear hi); (try clear ho0)) | ((with_reducible refine gate_dst (N := 4) rfl ?_); (try (refine gate_guard (by rfl) ?_; dsimp only)); refine bxE 4 #[.int .i64 0, .int .i64 0] 28 ?_; intro gb694 hg w80 hbox hb; have n0_ := Aside0.mk (Kd.R_below (by (with_reducible repeat (first | apply Kd.R_alloc | apply Kd.R_drewN | apply Kd.R_drew)); exact HO687.out) hb); have n1_ := Aside0.mk (Kd.R_below (by (with_reducible repeat (first | apply Kd.R_alloc | apply Kd.R_drewN | apply Kd.R_drew)); exact HO692.out) hb); have n2_ := Aside0.mk (below_step HBz hb); have n3_ := Aside0.mk (hbox); have n4_ := Aside0.mk ((by rw [hg]; exact (below_size HBz) : w.heap.size ≤ gb694)); have n5_ := Aside0.mk ((by rw [hg]; exact (below_size HBz) : w.heap.size ≤ gb694)); clear HO687; clear HO692; clear HB; have HO687 := n0_; have HO692 := n1_; have HB := n2_; have BK694 := n3_; have GW694 := n4_; have GE694 := n5_; clear n0_ n1_ n2_ n3_ n4_ n5_; clear hb hbox hg; have hcz81_0 : w80.cell? ⟨gb694, 0, none⟩ = some (.int .i64 0) := (blk_cell BK694.out 0).trans rfl; have hcz81_1 : w80.cell? ⟨gb694, 1, none⟩ = some (.int .i64 0) := (blk_cell BK694.out 1).trans rfl; have hfz81_0 := blk_frozen BK694.out 0; have hfz81_1 := blk_frozen BK694.out 1) | ((with_reducible refine gate_callee (f := 20) rfl ?_); refine goesL_ (some 18) rfl rfl Try.func20 (by kernel_rfl) rfl #[.slice Ao78 t685.length co78, .int .i64 32] rfl (by (try simp only [List.map_toArray, List.map_cons, List.map_nil]); first | done | rfl | (simp only [List.length_drop, List.length_take]; rfl)) ?_; (with_reducible refine (tickingref01_Rects.calls k _ _ t685 32 false _ ?side1 ?side2 A4.out).mono ?_); (case side1 => refine (Kd.R_reads' (e := 48) (base := w.heap.size) (ok := fun k_ => True) (n := t685.length) (c := co78) ?_).2.2; exact (by (with_reducible repeat (first | apply Kd.R_alloc | apply Kd.R_drewN | apply Kd.R_drew)); exact (Kd.R_mono (Kd.R_far (p := ⟨gb694, 1, none⟩) (Kd.R_far (p := ⟨gb694, 0, none⟩) (Kd.R_types HO687.out BK694.out (by decide)) (fun _ hk => hk.2) (.int .i64 t688)) (fun _ hk => hk.2) (.int .i64 t689)) (fun _ h_ => h_.1)))); (case side2 => exact (Kd.R_reads' HO687.out).2.1); rintro e w82 ⟨rfl, hb⟩; refine ⟨_, rfl, ?_⟩; have n0_ := Aside0.mk (Kd.R_below (by (with_reducible repeat (first | apply Kd.R_alloc | apply Kd.R_drewN | apply Kd.R_drew)); exact (Kd.R_mono (Kd.R_far (p := ⟨gb694, 1, none⟩) (Kd.R_far (p := ⟨gb694, 0, none⟩) (Kd.R_types HO687.out BK694.out (by decide)) (fun _ hk => hk.2) (.int .i64 t688)) (fun _ hk => hk.2) (.int .i64 t689)) (fun _ h_ => h_.1))) hb); have n1_ := Aside0.mk (Kd.R_below (by (with_reducible repeat (first | apply Kd.R_alloc | apply Kd.R_drewN | apply Kd.R_drew)); exact (Kd.R_mono (Kd.R_far (p := ⟨gb694, 1, none⟩) (Kd.R_far (p := ⟨gb694, 0, none⟩) (Kd.R_types HO692.out BK694.out (by decide)) (fun _ hk => hk.2) (.int .i64 t688)) (fun _ hk => hk.2) (.int .i64 t689)) (fun _ h_ => h_.1))) hb); have n2_ := Aside0.mk (blk_below (g := gb694) (o := .cells #[.int .i64 t688, .int .i64 t689] 28 (0, 0)) (by (with_reducible repeat (first | refine blk_drewN ?_ _ | refine blk_drew ?_ | refine blk_alloc ?_ _)); refine blk_put (cs := #[.int .i64 t688, .int .i64 0]) ?_ 1 _ rfl; (with_reducible repeat (first | refine blk_drewN ?_ _ | refine blk_drew ?_ | refine blk_alloc ?_ _)); refine blk_put (cs := #[.int .i64 0, .int .i64 0]) ?_ 0 _ rfl; (with_reducible repeat (first | refine blk_drewN ?_ _ | refine blk_drew ?_ | refine blk_alloc ?_ _)); exact BK694.out) hb); have n3_ := Aside0.mk (below_step HBz hb); clear HO687; clear HO692; clear BK694; clear HB; have HO687 := n0_; have HO692 := n1_; have BK694 := n2_; have HB := n3_; clear n0_ n1_ n2_ n3_; (try clear hb); (try clear hb2); (try clear hk); (try clear hi); have hcz83_0 : w82.cell? ⟨gb694, 0, none⟩ = some (.int .i64 t688) := (blk_cell BK694.out 0).trans rfl; have hcz83_1 : w82.cell? ⟨gb694, 1, none⟩ = some (.int .i64 t689) := (blk_cell BK694.out 1).trans rfl; have hfz83_0 := blk_frozen BK694.out 0; have hfz83_1 := blk_frozen BK694.out 1; obtain ⟨Ao84, co84, eo84⟩ := Kd.R_slice HO692.out; subst eo84) | (go_at_call 21; (with_reducible refine (tickinglaw01_awake.calls k  t696 _ A76.out).mono ?_); rintro e w85 ⟨rfl, hb⟩; have n0_ := Aside0.mk (Kd.R_below (by (with_reducible repeat (first | apply Kd.R_alloc | apply Kd.R_drewN | apply Kd.R_drew)); exact HO687.out) hb); have n1_ := Aside0.mk (Kd.R_below (by (with_reducible repeat (first | apply Kd.R_alloc | apply Kd.R_drewN | apply Kd.R_drew)); exact HO692.out) hb); have n2_ := Aside0.mk (blk_below (g := gb694) BKz hb); have n3_ := Aside0.mk (below_step HBz hb); clear HO687; clear HO692; clear BK694; clear HB; have HO687 := n0_; have HO692 := n1_; have BK694 := n2_; have HB := n3_; clear n0_ n1_ n2_ n3_; (try clear hb); (try clear hb2); (try clear hk); (try clear hi)))
     go_ret
     exact ⟨by first | rfl | (simp [errW_none, errW_some] <;> rfl) | (simp [*, errW_none, errW_some] <;> rfl), HBz⟩
    ·rw [if_neg c75] at H
     have c75b0 : (t693 == 2) = false := beq_eq_false_iff_ne.mpr c75
     have c75b1 : (t693 != 2) = true := bne_iff_ne.mpr c75
     exact absurd (H.trans (congrArg some HRT.out)) (by simp)
   ·rw [if_neg c74] at H
    have c74b0 : ((t690.length : Int) == 0) = false := beq_eq_false_iff_ne.mpr c74
    have c74b1 : ((t690.length : Int) != 0) = true := bne_iff_ne.mpr c74
    have c74b2 : ¬ (t690 = []) := fun h_ => c74 (by rw [h_]; rfl)
    exact absurd (H.trans (congrArg some HRT.out)) (by simp)
  ·rw [if_neg c73] at H
   have c73b0 : (t688 == 0 && (t689 == 0)) = false := by simpa using c73
   (try (have c73b1 : decide (t688 = 0 && (t689 == 0)) = false := by simpa using c73))
   (try (have c73b2 : (t688 == 0 && (t689 == 0)) = false := by simpa using c73))
   (try (have c73b3 : ¬ (t688 = 0 && (t689 == 0)) := by simpa using c73))
   clear c73
   exact absurd (H.trans (congrArg some HRT.out)) (by simp)
end Go.Proofs.Ytplhfbkejngioaa.X
