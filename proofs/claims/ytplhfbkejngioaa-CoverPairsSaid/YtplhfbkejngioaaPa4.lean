/- Texts of this claim's session, put together: X32. -/
import Derived.Test.YtplhfbkejngioaaVRepsOne
import Derived.Test.YtplhfbkejngioaaBc0
import Derived.Test.YtplhfbkejngioaaBc4
import Derived.Test.YtplhfbkejngioaaBc13
import Derived.Test.YtplhfbkejngioaaPa3
import Derived.Test.YtplhfbkejngioaaPa1
import Derived.Test.YtplhfbkejngioaaVWords
import Derived.Test.YtplhfbkejngioaaVLast
import Derived.Test.YtplhfbkejngioaaVTab
namespace Go.Proofs.Ytplhfbkejngioaa.X
open Go.RowKit Go.Proofs.YtplhfbkejngioaaW.PrintWords Go.Proofs.YtplhfbkejngioaaW.PrintLast Go.Proofs.Ytplhfbkejngioaa.S
attribute [local go_sem] max2_int min2_int max_two min_two
set_option linter.unusedVariables false
set_option linter.unusedSimpArgs false
mutual
def tickinglaw01_CoverPairs.l0 : Nat → List (S48) → List Int → Bool → Int → Int → Int → Option (Bool)
 | 0, _, _, _, _, _, _ => none
 | k + 1, x3, x5, x7, x8, x722000, x722001 => if x8 < (x3.length : Int) then (tickinglaw01_CoverPairs.l1 k x3 x5 x7 x8 0 x722000 x722001) else (if (x5.length : Int) > 0 then (if x7 = true then (some false) else ((tickinglaw01_awake.f k).bind fun t734 => (some t734))) else (tickinglaw01_CoverPairs.l2 k x3 x7 0 x722000 x722001))
def tickinglaw01_CoverPairs.l1 : Nat → List (S48) → List Int → Bool → Int → Int → Int → Int → Option (Bool)
 | 0, _, _, _, _, _, _, _ => none
 | k + 1, x3, x5, x7, x8, x9, x722000, x722001 => if x9 < x8 then (if 0 ≤ x8 then (if x8 < (x3.length : Int) then (if 0 ≤ x9 then (if x9 < (x3.length : Int) then ((cover_Meet.f k (([(⟨(rd_T48 x3 x8).f0, (rd_T48 x3 x8).f1, (rd_T48 x3 x8).f2, (rd_T48 x3 x8).f3⟩ : S48), (⟨(rd_T48 x3 x9).f0, (rd_T48 x3 x9).f1, (rd_T48 x3 x9).f2, (rd_T48 x3 x9).f3⟩ : S48)] : List (S48)))).bind fun bt727 => (if bt727.2.2.2 = 0 then (if x7 = true then (tickinglaw01_CoverPairs.l1 k x3 x5 ((bt727.2.2.1.length : Int) == 0) x8 (wrap64 (x9 + 1)) x722000 x722001) else (tickinglaw01_CoverPairs.l1 k x3 x5 false x8 (wrap64 (x9 + 1)) x722000 x722001)) else (some false))) else (none)) else (none)) else (none)) else (none)) else (tickinglaw01_CoverPairs.l0 k x3 x5 x7 (wrap64 (x8 + 1)) x722000 x722001)
def tickinglaw01_CoverPairs.l2 : Nat → List (S48) → Bool → Int → Int → Int → Option (Bool)
 | 0, _, _, _, _, _ => none
 | k + 1, x3, x7, x13, x722000, x722001 => if x13 < (x3.length : Int) then (if 0 ≤ x13 then (if x722000 < ((rd_T48 x3 x13).f0) then (some false) else (if x722000 > ((rd_T48 x3 x13).f2) then (some false) else (if x722001 < ((rd_T48 x3 x13).f1) then (some false) else (if x722001 > ((rd_T48 x3 x13).f3) then (some false) else (tickinglaw01_CoverPairs.l2 k x3 x7 (wrap64 (x13 + 1)) x722000 x722001))))) else (none)) else (if x7 = true then ((tickinglaw01_awake.f k).bind fun t739 => (some t739)) else (some false))
end
def tickinglaw01_CoverPairs.f (k : Nat) (l0 : List (S48)) : Option (Bool) := (tickinglaw01_tamed.f k l0 16 256).bind fun t712 => ((cover_Meet.f k t712).bind fun bt715 => (if bt715.2.2.2 = 0 then (tickinglaw01_CoverPairs.l0 k t712 bt715.2.2.1 true 0 bt715.1 bt715.2.1) else (some false)))
theorem tickinglaw01_CoverPairs.mono_l : ∀ k, (∀ y0 y1 y2 y3 y4 y5, LeO (tickinglaw01_CoverPairs.l0 k y0 y1 y2 y3 y4 y5) (tickinglaw01_CoverPairs.l0 (k + 1) y0 y1 y2 y3 y4 y5)) ∧ (∀ y0 y1 y2 y3 y4 y5 y6, LeO (tickinglaw01_CoverPairs.l1 k y0 y1 y2 y3 y4 y5 y6) (tickinglaw01_CoverPairs.l1 (k + 1) y0 y1 y2 y3 y4 y5 y6)) ∧ (∀ y0 y1 y2 y3 y4, LeO (tickinglaw01_CoverPairs.l2 k y0 y1 y2 y3 y4) (tickinglaw01_CoverPairs.l2 (k + 1) y0 y1 y2 y3 y4))
 | 0 => ⟨fun _ _ _ _ _ _ r h => by simp [tickinglaw01_CoverPairs.l0] at h, fun _ _ _ _ _ _ _ r h => by simp [tickinglaw01_CoverPairs.l1] at h, fun _ _ _ _ _ r h => by simp [tickinglaw01_CoverPairs.l2] at h⟩
 | k + 1 => by
  obtain ⟨ih0, ih1, ih2⟩ := tickinglaw01_CoverPairs.mono_l k
  refine ⟨?_, ?_, ?_⟩
  ·intro y0 y1 y2 y3 y4 y5
   unfold tickinglaw01_CoverPairs.l0
   repeat' first
   | (with_reducible exact ih0 _ _ _ _ _ _)
   | (with_reducible exact ih1 _ _ _ _ _ _ _)
   | (with_reducible exact ih2 _ _ _ _ _)
   | (with_reducible exact cover_Meet.mono _ _)
   | (with_reducible exact tickinglaw01_awake.mono _)
   | (with_reducible exact tickinglaw01_tamed.mono _ _ _ _)
   | (with_reducible exact LeO.refl _)
   | (with_reducible exact LeO.none _)
   | (with_reducible refine LeO.ite ?_ ?_)
   | (with_reducible refine LeO.bind ?_ (fun _ => ?_))
   | exact ih0 _ _ _ _ _ _
   | exact ih1 _ _ _ _ _ _ _
   | exact ih2 _ _ _ _ _
   | exact cover_Meet.mono _ _
   | exact tickinglaw01_awake.mono _
   | exact tickinglaw01_tamed.mono _ _ _ _
   | exact LeO.none _
   | refine LeO.ite ?_ ?_
   | refine LeO.bind ?_ (fun _ => ?_)
  ·intro y0 y1 y2 y3 y4 y5 y6
   unfold tickinglaw01_CoverPairs.l1
   repeat' first
   | (with_reducible exact ih0 _ _ _ _ _ _)
   | (with_reducible exact ih1 _ _ _ _ _ _ _)
   | (with_reducible exact ih2 _ _ _ _ _)
   | (with_reducible exact cover_Meet.mono _ _)
   | (with_reducible exact tickinglaw01_awake.mono _)
   | (with_reducible exact tickinglaw01_tamed.mono _ _ _ _)
   | (with_reducible exact LeO.refl _)
   | (with_reducible exact LeO.none _)
   | (with_reducible refine LeO.ite ?_ ?_)
   | (with_reducible refine LeO.bind ?_ (fun _ => ?_))
   | exact ih0 _ _ _ _ _ _
   | exact ih1 _ _ _ _ _ _ _
   | exact ih2 _ _ _ _ _
   | exact cover_Meet.mono _ _
   | exact tickinglaw01_awake.mono _
   | exact tickinglaw01_tamed.mono _ _ _ _
   | exact LeO.none _
   | refine LeO.ite ?_ ?_
   | refine LeO.bind ?_ (fun _ => ?_)
  ·intro y0 y1 y2 y3 y4
   unfold tickinglaw01_CoverPairs.l2
   repeat' first
   | (with_reducible exact ih0 _ _ _ _ _ _)
   | (with_reducible exact ih1 _ _ _ _ _ _ _)
   | (with_reducible exact ih2 _ _ _ _ _)
   | (with_reducible exact cover_Meet.mono _ _)
   | (with_reducible exact tickinglaw01_awake.mono _)
   | (with_reducible exact tickinglaw01_tamed.mono _ _ _ _)
   | (with_reducible exact LeO.refl _)
   | (with_reducible exact LeO.none _)
   | (with_reducible refine LeO.ite ?_ ?_)
   | (with_reducible refine LeO.bind ?_ (fun _ => ?_))
   | exact ih0 _ _ _ _ _ _
   | exact ih1 _ _ _ _ _ _ _
   | exact ih2 _ _ _ _ _
   | exact cover_Meet.mono _ _
   | exact tickinglaw01_awake.mono _
   | exact tickinglaw01_tamed.mono _ _ _ _
   | exact LeO.none _
   | refine LeO.ite ?_ ?_
   | refine LeO.bind ?_ (fun _ => ?_)
theorem tickinglaw01_CoverPairs.mono : ∀ a0 k, LeO (tickinglaw01_CoverPairs.f k a0) (tickinglaw01_CoverPairs.f (k + 1) a0) := by
 intro a0 k
 obtain ⟨ih0, ih1, ih2⟩ := tickinglaw01_CoverPairs.mono_l k
 unfold tickinglaw01_CoverPairs.f
 repeat' first
   | (with_reducible exact ih0 _ _ _ _ _ _)
   | (with_reducible exact ih1 _ _ _ _ _ _ _)
   | (with_reducible exact ih2 _ _ _ _ _)
   | (with_reducible exact cover_Meet.mono _ _)
   | (with_reducible exact tickinglaw01_awake.mono _)
   | (with_reducible exact tickinglaw01_tamed.mono _ _ _ _)
   | (with_reducible exact LeO.refl _)
   | (with_reducible exact LeO.none _)
   | (with_reducible refine LeO.ite ?_ ?_)
   | (with_reducible refine LeO.bind ?_ (fun _ => ?_))
   | exact ih0 _ _ _ _ _ _
   | exact ih1 _ _ _ _ _ _ _
   | exact ih2 _ _ _ _ _
   | exact cover_Meet.mono _ _
   | exact tickinglaw01_awake.mono _
   | exact tickinglaw01_tamed.mono _ _ _ _
   | exact LeO.none _
   | refine LeO.ite ?_ ?_
   | refine LeO.bind ?_ (fun _ => ?_)
def tickinglaw01_CoverPairs.T12 : Bool × List (List Nat × List Nat) := (true, [([], []), ([], []), ([0, 1], [0, 1]), ([2], [2]), ([], []), ([], []), ([4, 5], [4, 5]), ([6], [6]), ([3, 7], [3, 7]), ([8], [8]), ([9], [9]), ([10], [10]), ([10], [10]), ([10], [10]), ([], []), ([14, 11, 9, 0, 1, 2, 3, 4, 5, 6, 7, 8, 9, 10, 11, 14], [11, 14]), ([12, 15, 0, 1, 2, 3, 4, 5, 6, 7, 8, 9, 10, 11, 12, 14, 15], [12]), ([13, 16, 0, 1, 2, 3, 4, 5, 6, 7, 8, 9, 10, 11, 12, 13, 14, 15, 16], [13])])
def tickinglaw01_CoverPairs.B12 : List Nat := [0, 0, 3, 7, 0, 0, 48, 112, 255, 511, 1023, 2047, 2047, 2047, 0, 20479, 57343, 131071]
theorem tickinglaw01_CoverPairs.tab12 : rtab .any (opsOf Try.f12 12) = tickinglaw01_CoverPairs.T12 := by kernel_rfl
theorem tickinglaw01_CoverPairs.bits12 : waitsOk tickinglaw01_CoverPairs.T12.2 tickinglaw01_CoverPairs.B12 = true := by kernel_rfl
def tickinglaw01_CoverPairs.T21 : Bool × List (List Nat × List Nat) := (true, [([], []), ([0], [0]), ([], []), ([], []), ([2, 3], [2, 3]), ([4], [4]), ([5], [5]), ([1, 6], [1, 6]), ([7], [7]), ([8], [8]), ([9, 8], [8, 9]), ([8], [8]), ([8], [8]), ([11, 12, 8], [8, 11, 12]), ([13, 8], [8, 13]), ([14, 8], [8, 14]), ([10, 15, 8], [8, 10, 15]), ([8, 16], [8, 16]), ([17, 8], [17]), ([18], [18]), ([19, 18], [18, 19]), ([18], [18]), ([18], [18]), ([21, 22, 18], [18, 21, 22]), ([23, 18], [18, 23]), ([24, 18], [18, 24]), ([20, 25, 18], [18, 20, 25]), ([18, 26], [18, 26]), ([27, 18], [27]), ([28], [28]), ([29, 28], [28, 29]), ([28], [28]), ([28], [28]), ([31, 32, 28], [28, 31, 32]), ([33, 28], [28, 33]), ([34, 28], [28, 34]), ([30, 35, 28], [28, 30, 35]), ([28, 36], [28, 36])])
def tickinglaw01_CoverPairs.B21 : List Nat := [0, 1, 0, 0, 12, 28, 60, 127, 255, 511, 1023, 511, 511, 6655, 14847, 31231, 65535, 131071, 262143, 524287, 1048575, 524287, 524287, 6815743, 15204351, 31981567, 67108863, 134217727, 268435455, 536870911, 1073741823, 536870911, 536870911, 6979321855, 15569256447, 32749125631, 68719476735, 137438953471]
theorem tickinglaw01_CoverPairs.tab21 : rtab .any (opsOf Try.f12 21) = tickinglaw01_CoverPairs.T21 := by kernel_rfl
theorem tickinglaw01_CoverPairs.bits21 : waitsOk tickinglaw01_CoverPairs.T21.2 tickinglaw01_CoverPairs.B21 = true := by kernel_rfl
set_option maxHeartbeats 8000000 in
set_option maxRecDepth 100000 in
theorem tickinglaw01_CoverPairs.calls (k : Nat) (A0 : Option Addr) (c0 : Nat) (l0 : List (S48)) (r : Bool) (w : World) (hr0 : Kd.C k48 w A0 l0.length l0) (hc0 : l0.length ≤ c0) (hT : r = true) (h : tickinglaw01_CoverPairs.f k l0 = some r) :
  Calls Try.prog 12 #[.slice A0 l0.length c0] w fun e w' => e = .returned (.bool r) ∧ Below w.heap.size w w' := by
 have HRT := Aside0.mk hT
 clear hT
 have hu28 := Try.underlying28
 have hu48 := Try.underlying48
 have HR0 := Aside0.mk hr0
 have HC0 := Aside0.mk hc0
 clear hr0 hc0
 have HB := Aside0.mk (Below.refl w.heap.size w)
 have H : ((tickinglaw01_tamed.f k l0 16 256).bind fun t712 => ((cover_Meet.f k t712).bind fun bt715 => (if bt715.2.2.2 = 0 then (tickinglaw01_CoverPairs.l0 k t712 bt715.2.2.1 true 0 bt715.1 bt715.2.1) else (some false)))) = some r := h
 clear h
 replace H := Option.bind_eq_some_iff.mp H
 obtain ⟨t712, A20, H⟩ := H
 replace H : ((cover_Meet.f k t712).bind fun bt715 => (if bt715.2.2.2 = 0 then (tickinglaw01_CoverPairs.l0 k t712 bt715.2.2.1 true 0 bt715.1 bt715.2.1) else (some false))) = some r := H
 have A2 := Aside0.mk A20
 clear A20
 replace H := Option.bind_eq_some_iff.mp H
 obtain ⟨⟨t715, t716, t717, t720⟩, A30, H⟩ := H
 replace H : (if t720 = 0 then (tickinglaw01_CoverPairs.l0 k t712 t717 true 0 t715 t716) else (some false)) = some r := H
 have A3 := Aside0.mk A30
 clear A30
 by_cases c4 : t720 = 0
 ·rw [if_pos c4] at H
  have c4b0 : (t720 == 0) = true := beq_iff_eq.mpr c4
  have c4b1 : (t720 != 0) = false := bne_eq_false_iff_eq.mpr c4
  clear c4
  have H' := Aside0.mk H
  clear H
  go_enter Try.func12, Try.ntmps12
  go_wp2_with (first | ((with_reducible refine gate_callee (f := 28) rfl ?_); refine goesL_ (some 15) rfl rfl Try.func28 (by kernel_rfl) rfl #[.slice A0 l0.length c0, .int .i64 16, .int .i64 256] rfl (by (try simp only [List.map_toArray, List.map_cons, List.map_nil]); first | done | rfl | (simp only [List.length_drop, List.length_take]; rfl)) ?_; (with_reducible refine (tickinglaw01_tamed.calls k _ _ l0 16 256 t712 _ ?side1 ?side2 A2.out).mono ?_); (case side1 => repeat (first | exact HR0.out | (with_reducible refine Kd.C_alloc ?_ _) | (with_reducible refine Kd.C_drewN ?_ _) | (with_reducible refine Kd.C_drew ?_))); (case side2 => exact HC0.out); rintro e w5 ⟨v713, rfl, ho0, hb⟩; refine ⟨_, rfl, ?_⟩; have n0_ := Aside0.mk (Kd.R_lower ho0 (below_size HBz)); have n1_ := Aside0.mk (below_step HBz hb); clear HB; have HO714 := n0_; have HB := n1_; clear n0_ n1_; (try clear hb); (try clear hb2); (try clear hk); (try clear hi); (try clear ho0); obtain ⟨Ao6, co6, eo6⟩ := Kd.R_slice HO714.out; subst eo6) | ((with_reducible refine gate_callee (f := 40) rfl ?_); refine goesL_ (some 18) rfl rfl Try.func40 (by kernel_rfl) rfl #[.slice Ao6 t712.length co6] rfl (by (try simp only [List.map_toArray, List.map_cons, List.map_nil]); first | done | rfl | (simp only [List.length_drop, List.length_take]; rfl)) ?_; (with_reducible refine (cover_Meet.calls k _ _ t712 t715 t716 t717 t720 _ ?side1 ?side2 A3.out).mono ?_); (case side1 => repeat (first | exact (Kd.R_reads' HO714.out).2.2 | (with_reducible refine Kd.C_alloc ?_ _) | (with_reducible refine Kd.C_drewN ?_ _) | (with_reducible refine Kd.C_drew ?_))); (case side2 => exact (Kd.R_reads' HO714.out).2.1); rintro e w7 ⟨v718, rfl, ho0, hb⟩; refine ⟨_, rfl, ?_⟩; have n0_ := Aside0.mk (Kd.R_below (by (with_reducible repeat (first | apply Kd.R_alloc | apply Kd.R_drewN | apply Kd.R_drew)); exact HO714.out) hb); have n1_ := Aside0.mk (Kd.R_lower ho0 (below_size HBz)); have n2_ := Aside0.mk (below_step HBz hb); clear HO714; clear HB; have HO714 := n0_; have HO719 := n1_; have HB := n2_; clear n0_ n1_ n2_; (try clear hb); (try clear hb2); (try clear hk); (try clear hi); (try clear ho0)) | ((with_reducible refine gate_dst (N := 4) rfl ?_); (try (refine gate_guard (by rfl) ?_; dsimp only)); refine bxE 4 #[.int .i64 0, .int .i64 0] 28 ?_; intro gb721 hg w8 hbox hb; have n0_ := Aside0.mk (Kd.R_below (by (with_reducible repeat (first | apply Kd.R_alloc | apply Kd.R_drewN | apply Kd.R_drew)); exact HO714.out) hb); have n1_ := Aside0.mk (Kd.R_below (by (with_reducible repeat (first | apply Kd.R_alloc | apply Kd.R_drewN | apply Kd.R_drew)); exact HO719.out) hb); have n2_ := Aside0.mk (below_step HBz hb); have n3_ := Aside0.mk (hbox); have n4_ := Aside0.mk ((by rw [hg]; exact (below_size HBz) : w.heap.size ≤ gb721)); have n5_ := Aside0.mk ((by rw [hg]; exact (below_size HBz) : w.heap.size ≤ gb721)); clear HO714; clear HO719; clear HB; have HO714 := n0_; have HO719 := n1_; have HB := n2_; have BK721 := n3_; have GW721 := n4_; have GE721 := n5_; clear n0_ n1_ n2_ n3_ n4_ n5_; clear hb hbox hg; have hcz9_0 : w8.cell? ⟨gb721, 0, none⟩ = some (.int .i64 0) := (blk_cell BK721.out 0).trans rfl; have hcz9_1 : w8.cell? ⟨gb721, 1, none⟩ = some (.int .i64 0) := (blk_cell BK721.out 1).trans rfl; have hfz9_0 := blk_frozen BK721.out 0; have hfz9_1 := blk_frozen BK721.out 1))
  go_loopg [7, 8] k (fun kq v7 v8 w' => ∃ (x7_1 : Bool) (x8_1 : Int), v7 = .bool x7_1 ∧ v8 = .int .i64 x8_1 ∧ Aside0 (tickinglaw01_CoverPairs.l0 kq t712 t717 x7_1 x8_1 t715 t716 = some r) ∧ Aside0 (kq ≤ k) ∧ Aside0 (Kd.R k48 48 w' w.heap.size (fun _ => True) (.slice Ao6 t712.length co6) t712) ∧ Aside0 (Kd.R (Kd.int .i64) 3 w' w.heap.size (fun _ => True) v718 t717) ∧ Aside0 (w'.heap[gb721]? = some (.cells #[.int .i64 t715, .int .i64 t716] 28 (0, 0))) ∧ Aside0 (Below w.heap.size w w'))
  case atStart => exact ⟨(true), (0), (by first | rfl | (simp; done) | (simp [*]; done)), (by first | rfl | (simp; done) | (simp [*]; done)), H', ⟨Nat.le_refl _⟩, ⟨by (with_reducible repeat (first | apply Kd.R_alloc | apply Kd.R_drewN | apply Kd.R_drew)); exact Kd.R_mono (Kd.R_far (p := ⟨gb721, 1, none⟩) (Kd.R_far (p := ⟨gb721, 0, none⟩) (Kd.R_types HO714.out BK721.out (by decide)) (fun _ hk => hk.2) (.int .i64 t715)) (fun _ hk => hk.2) (.int .i64 t716)) (fun _ hk => trivial)⟩, ⟨by (with_reducible repeat (first | apply Kd.R_alloc | apply Kd.R_drewN | apply Kd.R_drew)); exact Kd.R_mono (Kd.R_far (p := ⟨gb721, 1, none⟩) (Kd.R_far (p := ⟨gb721, 0, none⟩) (Kd.R_types HO719.out BK721.out (by decide)) (fun _ hk => hk.2) (.int .i64 t715)) (fun _ hk => hk.2) (.int .i64 t716)) (fun _ hk => trivial)⟩, ⟨by (with_reducible repeat (first | refine blk_drewN ?_ _ | refine blk_drew ?_ | refine blk_alloc ?_ _)); refine blk_put (cs := #[.int .i64 t715, .int .i64 0]) ?_ 1 _ rfl; (with_reducible repeat (first | refine blk_drewN ?_ _ | refine blk_drew ?_ | refine blk_alloc ?_ _)); refine blk_put (cs := #[.int .i64 0, .int .i64 0]) ?_ 0 _ rfl; (with_reducible repeat (first | refine blk_drewN ?_ _ | refine blk_drew ?_ | refine blk_alloc ?_ _)); exact BK721.out⟩, ⟨HBz⟩⟩
  case round =>
   clear H'
   try clear c1
   try clear c2
   try clear p2
   try clear c4
   try clear c4b0
   try clear c4b1
   try clear hcz9_0
   try clear hcz9_1
   try clear hfz9_0
   try clear hfz9_1
   obtain ⟨x7_1, x8_1, rfl, rfl, HA, HK1, HO_3, HO_5, BK721, HB⟩ := hrel
   cases gk with
   | zero => exact absurd HA.out (by simp [tickinglaw01_CoverPairs.l0])
   | succ k1 =>
    have H := HA.out
    clear HA
    simp only [tickinglaw01_CoverPairs.l0] at H
    by_cases c10 : x8_1 < (t712.length : Int)
    ·rw [if_pos c10] at H
     have c10b0 : decide (x8_1 < (t712.length : Int)) = true := decide_eq_true c10
     clear c10
     have H' := Aside0.mk H
     clear H
     go_wp2
     go_loopg [7, 9] k1 (fun kq v7 v9 w' => ∃ (x7_2 : Bool) (x9_2 : Int), v7 = .bool x7_2 ∧ v9 = .int .i64 x9_2 ∧ Aside0 (tickinglaw01_CoverPairs.l1 kq t712 t717 x7_2 x8_1 x9_2 t715 t716 = some r) ∧ Aside0 (kq ≤ k1) ∧ Aside0 (Kd.R k48 48 w' w.heap.size (fun _ => True) (.slice Ao6 t712.length co6) t712) ∧ Aside0 (Kd.R (Kd.int .i64) 3 w' w.heap.size (fun _ => True) v718 t717) ∧ Aside0 (w'.heap[gb721]? = some (.cells #[.int .i64 t715, .int .i64 t716] 28 (0, 0))) ∧ Aside0 (Below w.heap.size w w'))
     case atStart => exact ⟨(x7_1), (0), (by first | rfl | (simp; done) | (simp [*]; done)), (by first | rfl | (simp; done) | (simp [*]; done)), H', ⟨Nat.le_refl _⟩, ⟨by (with_reducible repeat (first | apply Kd.R_alloc | apply Kd.R_drewN | apply Kd.R_drew)); exact HO_3.out⟩, ⟨by (with_reducible repeat (first | apply Kd.R_alloc | apply Kd.R_drewN | apply Kd.R_drew)); exact HO_5.out⟩, ⟨by (with_reducible repeat (first | refine blk_drewN ?_ _ | refine blk_drew ?_ | refine blk_alloc ?_ _)); exact BK721.out⟩, ⟨HBz⟩⟩
     case round =>
      clear H'
      try clear c1
      try clear c2
      try clear p2
      try clear c4
      try clear c4b0
      try clear c4b1
      try clear c10
      try clear c10b0
      try clear hcz9_0
      try clear hcz9_1
      try clear hfz9_0
      try clear hfz9_1
      try clear p2
      obtain ⟨x7_2, x9_2, rfl, rfl, HA, HK2, HO_3, HO_5, BK721, HB⟩ := hrel
      cases gk with
      | zero => exact absurd HA.out (by simp [tickinglaw01_CoverPairs.l1])
      | succ k2 =>
       have H := HA.out
       clear HA
       simp only [tickinglaw01_CoverPairs.l1] at H
       by_cases c11 : x9_2 < x8_1
       ·rw [if_pos c11] at H
        have c11b0 : decide (x9_2 < x8_1) = true := decide_eq_true c11
        clear c11
        by_cases c12 : 0 ≤ x8_1
        ·rw [if_pos c12] at H
         have c12b0 : decide (0 ≤ x8_1) = true := decide_eq_true c12
         clear c12
         by_cases c13 : x8_1 < (t712.length : Int)
         ·rw [if_pos c13] at H
          have c13b0 : decide (x8_1 < (t712.length : Int)) = true := decide_eq_true c13
          clear c13
          by_cases c14 : 0 ≤ x9_2
          ·rw [if_pos c14] at H
           have c14b0 : decide (0 ≤ x9_2) = true := decide_eq_true c14
           clear c14
           by_cases c15 : x9_2 < (t712.length : Int)
           ·rw [if_pos c15] at H
            have c15b0 : decide (x9_2 < (t712.length : Int)) = true := decide_eq_true c15
            clear c15
            obtain ⟨y724, hy724⟩ : ∃ y_ : List (S48), y_ = (([(⟨(rd_T48 t712 x8_1).f0, (rd_T48 t712 x8_1).f1, (rd_T48 t712 x8_1).f2, (rd_T48 t712 x8_1).f3⟩ : S48), (⟨(rd_T48 t712 x9_2).f0, (rd_T48 t712 x9_2).f1, (rd_T48 t712 x9_2).f2, (rd_T48 t712 x9_2).f3⟩ : S48)] : List (S48))) := ⟨_, rfl⟩
            replace H : ((cover_Meet.f k2 y724).bind fun bt727 => (if bt727.2.2.2 = 0 then (if x7_2 = true then (tickinglaw01_CoverPairs.l1 k2 t712 t717 ((bt727.2.2.1.length : Int) == 0) x8_1 (wrap64 (x9_2 + 1)) t715 t716) else (tickinglaw01_CoverPairs.l1 k2 t712 t717 false x8_1 (wrap64 (x9_2 + 1)) t715 t716)) else (some false))) = some r := by first | (rw [hy724]; with_reducible exact H) | (have H2_ := (Option.bind_some _ _).symm.trans H; rw [hy724]; with_reducible exact H2_) | (have H2_ := (Option.bind_some _ _).symm.trans H; with_reducible exact H2_) | with_reducible exact H | (rw [hy724]; exact H) | exact H
            have Ny724 := Aside0.mk hy724
            clear hy724
            replace H := Option.bind_eq_some_iff.mp H
            obtain ⟨⟨t727, t728, t729, t732⟩, A160, H⟩ := H
            replace H : (if t732 = 0 then (if x7_2 = true then (tickinglaw01_CoverPairs.l1 k2 t712 t717 ((t729.length : Int) == 0) x8_1 (wrap64 (x9_2 + 1)) t715 t716) else (tickinglaw01_CoverPairs.l1 k2 t712 t717 false x8_1 (wrap64 (x9_2 + 1)) t715 t716)) else (some false)) = some r := H
            have A16 := Aside0.mk A160
            clear A160
            by_cases c17 : t732 = 0
            ·rw [if_pos c17] at H
             have c17b0 : (t732 == 0) = true := beq_iff_eq.mpr c17
             have c17b1 : (t732 != 0) = false := bne_eq_false_iff_eq.mpr c17
             clear c17
             by_cases c18 : x7_2 = true
             ·subst c18
              have H1 : (tickinglaw01_CoverPairs.l1 k2 t712 t717 ((t729.length : Int) == 0) x8_1 (wrap64 (x9_2 + 1)) t715 t716) = some r := by rw [if_pos rfl] at H; exact H
              clear H
              have H := H1
              clear H1
              have H' := Aside0.mk H
              clear H
              try go_wp2
              have n0_ := Aside0.mk (Kd.R_drew HO_3.out)
              have n1_ := Aside0.mk (Kd.R_drew HO_5.out)
              have n2_ := Aside0.mk (blk_drew BK721.out)
              have n3_ := Aside0.mk (below_drew1 HB.out)
              clear HO_3
              clear HO_5
              clear BK721
              clear HB
              have HO_3 := n0_
              have HO_5 := n1_
              have BK721 := n2_
              have HB := n3_
              clear n0_ n1_ n2_ n3_
              have p722 : 0 ≤ (x8_1 : Int) := of_decide_eq_true (by first | (with_reducible assumption) | assumption)
              have q722 : x8_1 < (t712.length : Int) := of_decide_eq_true (by first | (with_reducible assumption) | assumption)
              obtain ⟨ad722, e722, hx722_0, hx722_1, hx722_2, hx722_3⟩ := at_T48 (Kd.R_reads' HO_3.out).2.2 x8_1 p722 q722
              cases e722
              replace p722 := eq_true p722
              replace q722 := eq_true q722
              have p723 : 0 ≤ (x9_2 : Int) := of_decide_eq_true (by first | (with_reducible assumption) | assumption)
              have q723 : x9_2 < (t712.length : Int) := of_decide_eq_true (by first | (with_reducible assumption) | assumption)
              obtain ⟨ad723, e723, hx723_0, hx723_1, hx723_2, hx723_3⟩ := at_T48 (Kd.R_reads' HO_3.out).2.2 x9_2 p723 q723
              obtain rfl : ad722 = ad723 := (by injection e723)
              replace p723 := eq_true p723
              replace q723 := eq_true q723
              refine stz (fun w' => w'.cell? (ad722.add ((x8_1).toNat * 4)) = some (.int .i64 ((rd_T48 t712 x8_1).f0)) ∧ w'.cell? ⟨(ad722.add ((x8_1).toNat * 4)).block, (ad722.add ((x8_1).toNat * 4)).off + 1, none⟩ = some (.int .i64 ((rd_T48 t712 x8_1).f1)) ∧ w'.cell? ⟨(ad722.add ((x8_1).toNat * 4)).block, (ad722.add ((x8_1).toNat * 4)).off + 2, none⟩ = some (.int .i64 ((rd_T48 t712 x8_1).f2)) ∧ w'.cell? ⟨(ad722.add ((x8_1).toNat * 4)).block, (ad722.add ((x8_1).toNat * 4)).off + 3, none⟩ = some (.int .i64 ((rd_T48 t712 x8_1).f3)) ∧ w'.cell? (ad722.add ((x9_2).toNat * 4)) = some (.int .i64 ((rd_T48 t712 x9_2).f0)) ∧ w'.cell? ⟨(ad722.add ((x9_2).toNat * 4)).block, (ad722.add ((x9_2).toNat * 4)).off + 1, none⟩ = some (.int .i64 ((rd_T48 t712 x9_2).f1)) ∧ w'.cell? ⟨(ad722.add ((x9_2).toNat * 4)).block, (ad722.add ((x9_2).toNat * 4)).off + 2, none⟩ = some (.int .i64 ((rd_T48 t712 x9_2).f2)) ∧ w'.cell? ⟨(ad722.add ((x9_2).toNat * 4)).block, (ad722.add ((x9_2).toNat * 4)).off + 3, none⟩ = some (.int .i64 ((rd_T48 t712 x9_2).f3))) [] (bn 18 0) ⟨hx722_0, hx722_1, hx722_2, hx722_3, hx723_0, hx723_1, hx723_2, hx723_3⟩ (fun hHeld => ?_); refine with_tabW tickinglaw01_CoverPairs.tab12 tickinglaw01_CoverPairs.bits12 (fun HT_ HW_ => ?_)
              generalize wr.drew = w19 at HO_3 HO_5 BK721 HB hx722_0 hx722_1 hx722_2 hx722_3 hx723_0 hx723_1 hx723_2 hx723_3 hHeld ⊢
              refine pT HT_.out 0 (some 36) (bn 18 1) ?_
              refine pT HT_.out 1 (some 37) (bn 18 3) ?_
              refine pT HT_.out 2 (some 38) (bn 18 7) ?_
              refine pT HT_.out 4 (some 40) (bn 18 23) ?_
              refine pT HT_.out 5 (some 41) (bn 18 55) ?_
              refine pT HT_.out 6 (some 42) (bn 18 119) ?_
              refine tT HT_.out HW_.out 3 (some 39) (bn 18 127) hHeld ?_
              refine tT HT_.out HW_.out 7 (some 43) (bn 18 255) hHeld ?_
              refine join_ (σ := Value × Value × Nat) 3 #[true, true, true, true, true, true, true, true, true, true, true, true, true, true, true, false, false, false] (fun s_ => [(44, s_.1), (45, .tuple #[.agg #[.int .i64 t727, .int .i64 t728], s_.2.1, .int .i64 t732]), (10, .pointer (some ⟨s_.2.2, 0, none⟩)), (35, .tuple #[.agg #[.int .i64 t727, .int .i64 t728], s_.2.1, .int .i64 t732]), (46, .agg #[.int .i64 t727, .int .i64 t728]), (47, s_.2.1), (48, .int .i64 t732)]) (fun s_ w' => (w'.cell? (ad722.add ((x8_1).toNat * 4)) = some (.int .i64 ((rd_T48 t712 x8_1).f0)) ∧ w'.cell? ⟨(ad722.add ((x8_1).toNat * 4)).block, (ad722.add ((x8_1).toNat * 4)).off + 1, none⟩ = some (.int .i64 ((rd_T48 t712 x8_1).f1)) ∧ w'.cell? ⟨(ad722.add ((x8_1).toNat * 4)).block, (ad722.add ((x8_1).toNat * 4)).off + 2, none⟩ = some (.int .i64 ((rd_T48 t712 x8_1).f2)) ∧ w'.cell? ⟨(ad722.add ((x8_1).toNat * 4)).block, (ad722.add ((x8_1).toNat * 4)).off + 3, none⟩ = some (.int .i64 ((rd_T48 t712 x8_1).f3)) ∧ w'.cell? (ad722.add ((x9_2).toNat * 4)) = some (.int .i64 ((rd_T48 t712 x9_2).f0)) ∧ w'.cell? ⟨(ad722.add ((x9_2).toNat * 4)).block, (ad722.add ((x9_2).toNat * 4)).off + 1, none⟩ = some (.int .i64 ((rd_T48 t712 x9_2).f1)) ∧ w'.cell? ⟨(ad722.add ((x9_2).toNat * 4)).block, (ad722.add ((x9_2).toNat * 4)).off + 2, none⟩ = some (.int .i64 ((rd_T48 t712 x9_2).f2)) ∧ w'.cell? ⟨(ad722.add ((x9_2).toNat * 4)).block, (ad722.add ((x9_2).toNat * 4)).off + 3, none⟩ = some (.int .i64 ((rd_T48 t712 x9_2).f3))) ∧ (Kd.R k48 48 w' w.heap.size (fun k_ => some k_ ≠ (.slice (some ad722) t712.length co6 : Value).ownBlock) s_.1 y724) ∧ (Kd.R (Kd.int .i64) 3 w' w.heap.size (fun k_ => some k_ ≠ (v718 : Value).ownBlock) s_.2.1 t729) ∧ (Kd.R k48 48 w' w.heap.size (fun k_ => some k_ ≠ (s_.1 : Value).ownBlock) (.slice (some ad722) t712.length co6) t712) ∧ (Kd.R (Kd.int .i64) 3 w' w.heap.size (fun k_ => some k_ ≠ (s_.2.1 : Value).ownBlock) v718 t717) ∧ (w'.heap[gb721]? = some (.cells #[.int .i64 t715, .int .i64 t716] 28 (0, 0))) ∧ (w'.heap[s_.2.2]? = some (.cells #[.int .i64 0, .int .i64 0] 28 (0, 0))) ∧ (w.heap.size ≤ s_.2.2) ∧ (w.heap.size ≤ s_.2.2) ∧ (gb721 ≠ s_.2.2) ∧ (s_.2.2 ≠ gb721) ∧ (Below w.heap.size w w')) ?_ ?_
              rotate_left
              ·intro hCont
               refine two_ (i := 8) (j := 14) (Ni := some 44) (Nj := some 10) #[true, true, true, true, true, true, true, true, true, false, false, false, false, false, false, false, false, false] #[true, true, true, true, true, true, true, true, false, false, false, false, false, false, true, false, false, false] rfl rfl rfl rfl (two_of HT_.out (by kernel_rfl)) (by decide) (by decide) (fun K hK => ?_) (fun K hK => ?_)
               ·skip
                refine Kd.R_lit_step k48 _ 48 ?hg (N := 44) ?hd (xs := ([(⟨(rd_T48 t712 x8_1).f0, (rd_T48 t712 x8_1).f1, (rd_T48 t712 x8_1).f2, (rd_T48 t712 x8_1).f3⟩ : S48), (⟨(rd_T48 t712 x9_2).f0, (rd_T48 t712 x9_2).f1, (rd_T48 t712 x9_2).f2, (rd_T48 t712 x9_2).f3⟩ : S48)] : List (S48))) (inner := [.int .i64 ((rd_T48 t712 x8_1).f0), .int .i64 ((rd_T48 t712 x8_1).f1), .int .i64 ((rd_T48 t712 x8_1).f2), .int .i64 ((rd_T48 t712 x8_1).f3), .int .i64 ((rd_T48 t712 x9_2).f0), .int .i64 ((rd_T48 t712 x9_2).f1), .int .i64 ((rd_T48 t712 x9_2).f2), .int .i64 ((rd_T48 t712 x9_2).f3)]) (ok := fun _ => True) (okp := fun _ => True) ?hr ?hp (fun _ hk => hk) trivial (Below.refl _ _) (Nat.le_refl _) (by simp) ?_; (case hd => rfl); (case hg => rfl); (case hr => first | (go_simp; done) | (go_simp; rfl)); (case hp => exact (Reps.c4 (show Kd.M k48 _ _ _ (⟨(rd_T48 t712 x8_1).f0, (rd_T48 t712 x8_1).f1, (rd_T48 t712 x8_1).f2, (rd_T48 t712 x8_1).f3⟩ : S48) [.int .i64 ((rd_T48 t712 x8_1).f0), .int .i64 ((rd_T48 t712 x8_1).f1), .int .i64 ((rd_T48 t712 x8_1).f2), .int .i64 ((rd_T48 t712 x8_1).f3)] from (k48_mkM _ _ _ (⟨(rd_T48 t712 x8_1).f0, (rd_T48 t712 x8_1).f1, (rd_T48 t712 x8_1).f2, (rd_T48 t712 x8_1).f3⟩ : S48) )) (Reps.c4 (show Kd.M k48 _ _ _ (⟨(rd_T48 t712 x9_2).f0, (rd_T48 t712 x9_2).f1, (rd_T48 t712 x9_2).f2, (rd_T48 t712 x9_2).f3⟩ : S48) [.int .i64 ((rd_T48 t712 x9_2).f0), .int .i64 ((rd_T48 t712 x9_2).f1), .int .i64 ((rd_T48 t712 x9_2).f2), .int .i64 ((rd_T48 t712 x9_2).f3)] from (k48_mkM _ _ _ (⟨(rd_T48 t712 x9_2).f0, (rd_T48 t712 x9_2).f1, (rd_T48 t712 x9_2).f2, (rd_T48 t712 x9_2).f3⟩ : S48) )) (Reps.none _ _))))
                intro v725 w20 ho21 hb hg_ hnew_
                have HS0_ := (hb.cell (World.block_lt_of_cell? _ _ (hHeld.1))).trans (hHeld.1)
                have HS1_ := (hb.cell (World.block_lt_of_cell? _ _ (hHeld.2.1))).trans (hHeld.2.1)
                have HS2_ := (hb.cell (World.block_lt_of_cell? _ _ (hHeld.2.2.1))).trans (hHeld.2.2.1)
                have HS3_ := (hb.cell (World.block_lt_of_cell? _ _ (hHeld.2.2.2.1))).trans (hHeld.2.2.2.1)
                have HS4_ := (hb.cell (World.block_lt_of_cell? _ _ (hHeld.2.2.2.2.1))).trans (hHeld.2.2.2.2.1)
                have HS5_ := (hb.cell (World.block_lt_of_cell? _ _ (hHeld.2.2.2.2.2.1))).trans (hHeld.2.2.2.2.2.1)
                have HS6_ := (hb.cell (World.block_lt_of_cell? _ _ (hHeld.2.2.2.2.2.2.1))).trans (hHeld.2.2.2.2.2.2.1)
                have HS7_ := (hb.cell (World.block_lt_of_cell? _ _ (hHeld.2.2.2.2.2.2.2))).trans (hHeld.2.2.2.2.2.2.2)
                clear hg_ hnew_
                (first | rw [← Ny724.out] at ho21 | (simp only [Int.reduceToNat] at ho21; rw [← Ny724.out] at ho21))
                have n0_ := Aside0.mk (Kd.R_elder' (by (with_reducible repeat (first | apply Kd.R_alloc | apply Kd.R_drewN | apply Kd.R_drew)); exact HO_3.out) (Kd.R_base ho21) hb)
                have n1_ := Aside0.mk (Kd.R_below (by (with_reducible repeat (first | apply Kd.R_alloc | apply Kd.R_drewN | apply Kd.R_drew)); exact HO_5.out) hb)
                have n2_ := Aside0.mk (Kd.R_lower (Kd.R_new' ho21 (Kd.R_lt (by (with_reducible repeat (first | apply Kd.R_alloc | apply Kd.R_drewN | apply Kd.R_drew)); exact HO_3.out))) (below_size HBz))
                have n3_ := Aside0.mk (blk_below (g := gb721) BKz hb)
                have n4_ := Aside0.mk (below_step HBz hb)
                clear HO_3
                clear HO_5
                clear BK721
                clear HB
                have HO_3 := n0_
                have HO_5 := n1_
                have HO726 := n2_
                have BK721 := n3_
                have HB := n4_
                clear n0_ n1_ n2_ n3_ n4_
                clear hb ho21
                obtain ⟨Ao22, co22, eo22⟩ := Kd.R_slice HO726.out
                (first | subst eo22 | (injection eo22 with f1_ f2_ f3_; have f4_ := f1_.symm; have f5_ := f3_.symm; clear f1_ f2_ f3_; subst f4_; subst f5_))
                refine hK.out _ _ ⟨HS0_, HS1_, HS2_, HS3_, HS4_, HS5_, HS6_, HS7_⟩ (fun hHeld => ?_)
                clear hK K
                refine nz (some 44) ?_
                refine two_ (i := 9) (j := 14) (Ni := some 45) (Nj := some 10) #[true, true, true, true, true, true, true, true, true, true, false, false, false, false, false, false, false, false] #[true, true, true, true, true, true, true, true, true, false, false, false, false, false, true, false, false, false] rfl rfl rfl rfl (two_of HT_.out (by kernel_rfl)) (by decide) (by decide) (fun K hK => ?_) (fun K hK => ?_)
                ·skip
                 refine gz Try.func40 #[.slice Ao22 y724.length co22] ?_
                 with_reducible refine (cover_Meet.calls k2 _ _ y724 t727 t728 t729 t732 _ ?side1 ?side2 A16.out).mono ?_
                 (case side1 => repeat (first | exact (Kd.R_reads' HO726.out).2.2 | (with_reducible refine Kd.C_alloc ?_ _) | (with_reducible refine Kd.C_drewN ?_ _) | (with_reducible refine Kd.C_drew ?_)))
                 (case side2 => exact (Kd.R_reads' HO726.out).2.1)
                 rintro e w23 ⟨v730, rfl, ho0, hb⟩
                 have HS0_ := (hb.cell (World.block_lt_of_cell? _ _ (hHeld.1))).trans (hHeld.1)
                 have HS1_ := (hb.cell (World.block_lt_of_cell? _ _ (hHeld.2.1))).trans (hHeld.2.1)
                 have HS2_ := (hb.cell (World.block_lt_of_cell? _ _ (hHeld.2.2.1))).trans (hHeld.2.2.1)
                 have HS3_ := (hb.cell (World.block_lt_of_cell? _ _ (hHeld.2.2.2.1))).trans (hHeld.2.2.2.1)
                 have HS4_ := (hb.cell (World.block_lt_of_cell? _ _ (hHeld.2.2.2.2.1))).trans (hHeld.2.2.2.2.1)
                 have HS5_ := (hb.cell (World.block_lt_of_cell? _ _ (hHeld.2.2.2.2.2.1))).trans (hHeld.2.2.2.2.2.1)
                 have HS6_ := (hb.cell (World.block_lt_of_cell? _ _ (hHeld.2.2.2.2.2.2.1))).trans (hHeld.2.2.2.2.2.2.1)
                 have HS7_ := (hb.cell (World.block_lt_of_cell? _ _ (hHeld.2.2.2.2.2.2.2))).trans (hHeld.2.2.2.2.2.2.2)
                 refine ⟨_, rfl, ?_⟩
                 have n0_ := Aside0.mk (Kd.R_below (by (with_reducible repeat (first | apply Kd.R_alloc | apply Kd.R_drewN | apply Kd.R_drew)); exact HO_3.out) hb)
                 have n1_ := Aside0.mk (Kd.R_elder' (by (with_reducible repeat (first | apply Kd.R_alloc | apply Kd.R_drewN | apply Kd.R_drew)); exact HO_5.out) (Kd.R_base ho0) hb)
                 have n2_ := Aside0.mk (Kd.R_below (by (with_reducible repeat (first | apply Kd.R_alloc | apply Kd.R_drewN | apply Kd.R_drew)); exact HO726.out) hb)
                 have n3_ := Aside0.mk (Kd.R_lower (Kd.R_new' ho0 (Kd.R_lt (by (with_reducible repeat (first | apply Kd.R_alloc | apply Kd.R_drewN | apply Kd.R_drew)); exact HO_5.out))) (below_size HBz))
                 have n4_ := Aside0.mk (blk_below (g := gb721) BKz hb)
                 have n5_ := Aside0.mk (below_step HBz hb)
                 clear HO_3
                 clear HO_5
                 clear HO726
                 clear BK721
                 clear HB
                 have HO_3 := n0_
                 have HO_5 := n1_
                 have HO726 := n2_
                 have HO731 := n3_
                 have BK721 := n4_
                 have HB := n5_
                 clear n0_ n1_ n2_ n3_ n4_ n5_
                 (try clear hb)
                 (try clear hb2)
                 (try clear hk)
                 (try clear hi)
                 (try clear ho0)
                 refine hK.out _ _ ⟨HS0_, HS1_, HS2_, HS3_, HS4_, HS5_, HS6_, HS7_⟩ (fun hHeld => ?_)
                 clear hK K
                 refine nz (some 45) ?_
                 refine pT HT_.out 10 (some 35) (bn 18 2047) ?_
                 refine pT HT_.out 11 (some 46) (bn 18 4095) ?_
                 refine pT HT_.out 12 (some 47) (bn 18 8191) ?_
                 refine pT HT_.out 13 (some 48) (bn 18 16383) ?_
                 refine oT HT_.out 14 (some 10) (bn 18 32767) (fun K hK => ?_)
                 refine bxS 10 #[.int .i64 0, .int .i64 0] 28 ?_
                 intro gb733 hg w24 hbox hb
                 have HS0_ := (hb.cell (World.block_lt_of_cell? _ _ (hHeld.1))).trans (hHeld.1)
                 have HS1_ := (hb.cell (World.block_lt_of_cell? _ _ (hHeld.2.1))).trans (hHeld.2.1)
                 have HS2_ := (hb.cell (World.block_lt_of_cell? _ _ (hHeld.2.2.1))).trans (hHeld.2.2.1)
                 have HS3_ := (hb.cell (World.block_lt_of_cell? _ _ (hHeld.2.2.2.1))).trans (hHeld.2.2.2.1)
                 have HS4_ := (hb.cell (World.block_lt_of_cell? _ _ (hHeld.2.2.2.2.1))).trans (hHeld.2.2.2.2.1)
                 have HS5_ := (hb.cell (World.block_lt_of_cell? _ _ (hHeld.2.2.2.2.2.1))).trans (hHeld.2.2.2.2.2.1)
                 have HS6_ := (hb.cell (World.block_lt_of_cell? _ _ (hHeld.2.2.2.2.2.2.1))).trans (hHeld.2.2.2.2.2.2.1)
                 have HS7_ := (hb.cell (World.block_lt_of_cell? _ _ (hHeld.2.2.2.2.2.2.2))).trans (hHeld.2.2.2.2.2.2.2)
                 have n0_ := Aside0.mk (Kd.R_below (by (with_reducible repeat (first | apply Kd.R_alloc | apply Kd.R_drewN | apply Kd.R_drew)); exact HO_3.out) hb)
                 have n1_ := Aside0.mk (Kd.R_below (by (with_reducible repeat (first | apply Kd.R_alloc | apply Kd.R_drewN | apply Kd.R_drew)); exact HO_5.out) hb)
                 have n2_ := Aside0.mk (Kd.R_below (by (with_reducible repeat (first | apply Kd.R_alloc | apply Kd.R_drewN | apply Kd.R_drew)); exact HO726.out) hb)
                 have n3_ := Aside0.mk (Kd.R_below (by (with_reducible repeat (first | apply Kd.R_alloc | apply Kd.R_drewN | apply Kd.R_drew)); exact HO731.out) hb)
                 have n4_ := Aside0.mk (blk_below (g := gb721) BKz hb)
                 have n5_ := Aside0.mk (below_step HBz hb)
                 have n6_ := Aside0.mk (hbox)
                 have n7_ := Aside0.mk ((by rw [hg]; exact (below_size HBz) : w.heap.size ≤ gb733))
                 have n8_ := Aside0.mk ((by rw [hg]; exact (below_size HBz) : w.heap.size ≤ gb733))
                 have n9_ := Aside0.mk ((by rw [hg]; exact Nat.ne_of_lt (blk_lt (g := gb721) BKz) : gb721 ≠ gb733))
                 have n10_ := Aside0.mk ((by rw [hg]; exact Nat.ne_of_gt (blk_lt (g := gb721) BKz) : gb733 ≠ gb721))
                 clear HO_3
                 clear HO_5
                 clear HO726
                 clear HO731
                 clear BK721
                 clear HB
                 have HO_3 := n0_
                 have HO_5 := n1_
                 have HO726 := n2_
                 have HO731 := n3_
                 have BK721 := n4_
                 have HB := n5_
                 have BK733 := n6_
                 have GW733 := n7_
                 have GE733 := n8_
                 have NB721_733 := n9_
                 have NB733_721 := n10_
                 clear n0_ n1_ n2_ n3_ n4_ n5_ n6_ n7_ n8_ n9_ n10_
                 clear hb hbox hg
                 refine hK.out _ _ ⟨HS0_, HS1_, HS2_, HS3_, HS4_, HS5_, HS6_, HS7_⟩ (fun hHeld => ?_)
                 clear hK K
                 refine nz (some 10) ?_
                 exact norm_ (by simp only [putAll, Act.put, List.setIfInBounds_toArray, List.set_cons_zero, List.set_cons_succ]) (hCont (.slice Ao22 y724.length co22, v730, gb733) _ ⟨hHeld, (by (with_reducible repeat (first | apply Kd.R_alloc | apply Kd.R_drewN | apply Kd.R_drew)); exact Kd.R_mono HO726.out (fun _ hk => hk.2)), (by (with_reducible repeat (first | apply Kd.R_alloc | apply Kd.R_drewN | apply Kd.R_drew)); exact Kd.R_mono HO731.out (fun _ hk => hk.2)), (by (with_reducible repeat (first | apply Kd.R_alloc | apply Kd.R_drewN | apply Kd.R_drew)); exact Kd.R_mono HO_3.out (fun _ hk => hk.2)), (by (with_reducible repeat (first | apply Kd.R_alloc | apply Kd.R_drewN | apply Kd.R_drew)); exact Kd.R_mono HO_5.out (fun _ hk => hk.2)), BKz, BKz, GW733.out, GE733.out, NB721_733.out, NB733_721.out, HBz⟩)
                ·skip
                 refine bxS 10 #[.int .i64 0, .int .i64 0] 28 ?_
                 intro gb733 hg w22 hbox hb
                 have HS0_ := (hb.cell (World.block_lt_of_cell? _ _ (hHeld.1))).trans (hHeld.1)
                 have HS1_ := (hb.cell (World.block_lt_of_cell? _ _ (hHeld.2.1))).trans (hHeld.2.1)
                 have HS2_ := (hb.cell (World.block_lt_of_cell? _ _ (hHeld.2.2.1))).trans (hHeld.2.2.1)
                 have HS3_ := (hb.cell (World.block_lt_of_cell? _ _ (hHeld.2.2.2.1))).trans (hHeld.2.2.2.1)
                 have HS4_ := (hb.cell (World.block_lt_of_cell? _ _ (hHeld.2.2.2.2.1))).trans (hHeld.2.2.2.2.1)
                 have HS5_ := (hb.cell (World.block_lt_of_cell? _ _ (hHeld.2.2.2.2.2.1))).trans (hHeld.2.2.2.2.2.1)
                 have HS6_ := (hb.cell (World.block_lt_of_cell? _ _ (hHeld.2.2.2.2.2.2.1))).trans (hHeld.2.2.2.2.2.2.1)
                 have HS7_ := (hb.cell (World.block_lt_of_cell? _ _ (hHeld.2.2.2.2.2.2.2))).trans (hHeld.2.2.2.2.2.2.2)
                 have n0_ := Aside0.mk (Kd.R_below (by (with_reducible repeat (first | apply Kd.R_alloc | apply Kd.R_drewN | apply Kd.R_drew)); exact HO_3.out) hb)
                 have n1_ := Aside0.mk (Kd.R_below (by (with_reducible repeat (first | apply Kd.R_alloc | apply Kd.R_drewN | apply Kd.R_drew)); exact HO_5.out) hb)
                 have n2_ := Aside0.mk (Kd.R_below (by (with_reducible repeat (first | apply Kd.R_alloc | apply Kd.R_drewN | apply Kd.R_drew)); exact HO726.out) hb)
                 have n3_ := Aside0.mk (blk_below (g := gb721) BKz hb)
                 have n4_ := Aside0.mk (below_step HBz hb)
                 have n5_ := Aside0.mk (hbox)
                 have n6_ := Aside0.mk ((by rw [hg]; exact (below_size HBz) : w.heap.size ≤ gb733))
                 have n7_ := Aside0.mk ((by rw [hg]; exact (below_size HBz) : w.heap.size ≤ gb733))
                 have n8_ := Aside0.mk ((by rw [hg]; exact Nat.ne_of_lt (blk_lt (g := gb721) BKz) : gb721 ≠ gb733))
                 have n9_ := Aside0.mk ((by rw [hg]; exact Nat.ne_of_gt (blk_lt (g := gb721) BKz) : gb733 ≠ gb721))
                 clear HO_3
                 clear HO_5
                 clear HO726
                 clear BK721
                 clear HB
                 have HO_3 := n0_
                 have HO_5 := n1_
                 have HO726 := n2_
                 have BK721 := n3_
                 have HB := n4_
                 have BK733 := n5_
                 have GW733 := n6_
                 have GE733 := n7_
                 have NB721_733 := n8_
                 have NB733_721 := n9_
                 clear n0_ n1_ n2_ n3_ n4_ n5_ n6_ n7_ n8_ n9_
                 clear hb hbox hg
                 obtain ⟨Ao23, co23, eo23⟩ := Kd.R_slice HO726.out
                 (first | subst eo23 | (injection eo23 with f1_ f2_ f3_; have f4_ := f1_.symm; have f5_ := f3_.symm; clear f1_ f2_ f3_; subst f4_; subst f5_))
                 refine hK.out _ _ ⟨HS0_, HS1_, HS2_, HS3_, HS4_, HS5_, HS6_, HS7_⟩ (fun hHeld => ?_)
                 clear hK K
                 refine nz (some 10) ?_
                 refine oT HT_.out 9 (some 45) (bn 18 17407) (fun K hK => ?_)
                 refine gz Try.func40 #[.slice Ao23 y724.length co23] ?_
                 with_reducible refine (cover_Meet.calls k2 _ _ y724 t727 t728 t729 t732 _ ?side1 ?side2 A16.out).mono ?_
                 (case side1 => repeat (first | exact (Kd.R_reads' HO726.out).2.2 | (with_reducible refine Kd.C_alloc ?_ _) | (with_reducible refine Kd.C_drewN ?_ _) | (with_reducible refine Kd.C_drew ?_)))
                 (case side2 => exact (Kd.R_reads' HO726.out).2.1)
                 rintro e w24 ⟨v730, rfl, ho0, hb⟩
                 have HS0_ := (hb.cell (World.block_lt_of_cell? _ _ (hHeld.1))).trans (hHeld.1)
                 have HS1_ := (hb.cell (World.block_lt_of_cell? _ _ (hHeld.2.1))).trans (hHeld.2.1)
                 have HS2_ := (hb.cell (World.block_lt_of_cell? _ _ (hHeld.2.2.1))).trans (hHeld.2.2.1)
                 have HS3_ := (hb.cell (World.block_lt_of_cell? _ _ (hHeld.2.2.2.1))).trans (hHeld.2.2.2.1)
                 have HS4_ := (hb.cell (World.block_lt_of_cell? _ _ (hHeld.2.2.2.2.1))).trans (hHeld.2.2.2.2.1)
                 have HS5_ := (hb.cell (World.block_lt_of_cell? _ _ (hHeld.2.2.2.2.2.1))).trans (hHeld.2.2.2.2.2.1)
                 have HS6_ := (hb.cell (World.block_lt_of_cell? _ _ (hHeld.2.2.2.2.2.2.1))).trans (hHeld.2.2.2.2.2.2.1)
                 have HS7_ := (hb.cell (World.block_lt_of_cell? _ _ (hHeld.2.2.2.2.2.2.2))).trans (hHeld.2.2.2.2.2.2.2)
                 refine ⟨_, rfl, ?_⟩
                 have n0_ := Aside0.mk (Kd.R_below (by (with_reducible repeat (first | apply Kd.R_alloc | apply Kd.R_drewN | apply Kd.R_drew)); exact HO_3.out) hb)
                 have n1_ := Aside0.mk (Kd.R_elder' (by (with_reducible repeat (first | apply Kd.R_alloc | apply Kd.R_drewN | apply Kd.R_drew)); exact HO_5.out) (Kd.R_base ho0) hb)
                 have n2_ := Aside0.mk (Kd.R_below (by (with_reducible repeat (first | apply Kd.R_alloc | apply Kd.R_drewN | apply Kd.R_drew)); exact HO726.out) hb)
                 have n3_ := Aside0.mk (Kd.R_lower (Kd.R_new' ho0 (Kd.R_lt (by (with_reducible repeat (first | apply Kd.R_alloc | apply Kd.R_drewN | apply Kd.R_drew)); exact HO_5.out))) (below_size HBz))
                 have n4_ := Aside0.mk (blk_below (g := gb721) BKz hb)
                 have n5_ := Aside0.mk (blk_below (g := gb733) BKz hb)
                 have n6_ := Aside0.mk (below_step HBz hb)
                 clear HO_3
                 clear HO_5
                 clear HO726
                 clear BK721
                 clear BK733
                 clear HB
                 have HO_3 := n0_
                 have HO_5 := n1_
                 have HO726 := n2_
                 have HO731 := n3_
                 have BK721 := n4_
                 have BK733 := n5_
                 have HB := n6_
                 clear n0_ n1_ n2_ n3_ n4_ n5_ n6_
                 (try clear hb)
                 (try clear hb2)
                 (try clear hk)
                 (try clear hi)
                 (try clear ho0)
                 refine hK.out _ _ ⟨HS0_, HS1_, HS2_, HS3_, HS4_, HS5_, HS6_, HS7_⟩ (fun hHeld => ?_)
                 clear hK K
                 refine nz (some 45) ?_
                 refine pT HT_.out 10 (some 35) (bn 18 18431) ?_
                 refine pT HT_.out 11 (some 46) (bn 18 20479) ?_
                 refine pT HT_.out 12 (some 47) (bn 18 24575) ?_
                 refine pT HT_.out 13 (some 48) (bn 18 32767) ?_
                 exact norm_ (by simp only [putAll, Act.put, List.setIfInBounds_toArray, List.set_cons_zero, List.set_cons_succ]) (hCont (.slice Ao23 y724.length co23, v730, gb733) _ ⟨hHeld, (by (with_reducible repeat (first | apply Kd.R_alloc | apply Kd.R_drewN | apply Kd.R_drew)); exact Kd.R_mono HO726.out (fun _ hk => hk.2)), (by (with_reducible repeat (first | apply Kd.R_alloc | apply Kd.R_drewN | apply Kd.R_drew)); exact Kd.R_mono HO731.out (fun _ hk => hk.2)), (by (with_reducible repeat (first | apply Kd.R_alloc | apply Kd.R_drewN | apply Kd.R_drew)); exact Kd.R_mono HO_3.out (fun _ hk => hk.2)), (by (with_reducible repeat (first | apply Kd.R_alloc | apply Kd.R_drewN | apply Kd.R_drew)); exact Kd.R_mono HO_5.out (fun _ hk => hk.2)), BKz, BKz, GW733.out, GE733.out, NB721_733.out, NB733_721.out, HBz⟩)
               ·skip
                refine bxS 10 #[.int .i64 0, .int .i64 0] 28 ?_
                intro gb733 hg w20 hbox hb
                have HS0_ := (hb.cell (World.block_lt_of_cell? _ _ (hHeld.1))).trans (hHeld.1)
                have HS1_ := (hb.cell (World.block_lt_of_cell? _ _ (hHeld.2.1))).trans (hHeld.2.1)
                have HS2_ := (hb.cell (World.block_lt_of_cell? _ _ (hHeld.2.2.1))).trans (hHeld.2.2.1)
                have HS3_ := (hb.cell (World.block_lt_of_cell? _ _ (hHeld.2.2.2.1))).trans (hHeld.2.2.2.1)
                have HS4_ := (hb.cell (World.block_lt_of_cell? _ _ (hHeld.2.2.2.2.1))).trans (hHeld.2.2.2.2.1)
                have HS5_ := (hb.cell (World.block_lt_of_cell? _ _ (hHeld.2.2.2.2.2.1))).trans (hHeld.2.2.2.2.2.1)
                have HS6_ := (hb.cell (World.block_lt_of_cell? _ _ (hHeld.2.2.2.2.2.2.1))).trans (hHeld.2.2.2.2.2.2.1)
                have HS7_ := (hb.cell (World.block_lt_of_cell? _ _ (hHeld.2.2.2.2.2.2.2))).trans (hHeld.2.2.2.2.2.2.2)
                have n0_ := Aside0.mk (Kd.R_below (by (with_reducible repeat (first | apply Kd.R_alloc | apply Kd.R_drewN | apply Kd.R_drew)); exact HO_3.out) hb)
                have n1_ := Aside0.mk (Kd.R_below (by (with_reducible repeat (first | apply Kd.R_alloc | apply Kd.R_drewN | apply Kd.R_drew)); exact HO_5.out) hb)
                have n2_ := Aside0.mk (blk_below (g := gb721) BKz hb)
                have n3_ := Aside0.mk (below_step HBz hb)
                have n4_ := Aside0.mk (hbox)
                have n5_ := Aside0.mk ((by rw [hg]; exact (below_size HBz) : w.heap.size ≤ gb733))
                have n6_ := Aside0.mk ((by rw [hg]; exact (below_size HBz) : w.heap.size ≤ gb733))
                have n7_ := Aside0.mk ((by rw [hg]; exact Nat.ne_of_lt (blk_lt (g := gb721) BKz) : gb721 ≠ gb733))
                have n8_ := Aside0.mk ((by rw [hg]; exact Nat.ne_of_gt (blk_lt (g := gb721) BKz) : gb733 ≠ gb721))
                clear HO_3
                clear HO_5
                clear BK721
                clear HB
                have HO_3 := n0_
                have HO_5 := n1_
                have BK721 := n2_
                have HB := n3_
                have BK733 := n4_
                have GW733 := n5_
                have GE733 := n6_
                have NB721_733 := n7_
                have NB733_721 := n8_
                clear n0_ n1_ n2_ n3_ n4_ n5_ n6_ n7_ n8_
                clear hb hbox hg
                refine hK.out _ _ ⟨HS0_, HS1_, HS2_, HS3_, HS4_, HS5_, HS6_, HS7_⟩ (fun hHeld => ?_)
                clear hK K
                refine nz (some 10) ?_
                refine oT HT_.out 8 (some 44) (bn 18 16895) (fun K hK => ?_)
                refine Kd.R_lit_step k48 _ 48 ?hg (N := 44) ?hd (xs := ([(⟨(rd_T48 t712 x8_1).f0, (rd_T48 t712 x8_1).f1, (rd_T48 t712 x8_1).f2, (rd_T48 t712 x8_1).f3⟩ : S48), (⟨(rd_T48 t712 x9_2).f0, (rd_T48 t712 x9_2).f1, (rd_T48 t712 x9_2).f2, (rd_T48 t712 x9_2).f3⟩ : S48)] : List (S48))) (inner := [.int .i64 ((rd_T48 t712 x8_1).f0), .int .i64 ((rd_T48 t712 x8_1).f1), .int .i64 ((rd_T48 t712 x8_1).f2), .int .i64 ((rd_T48 t712 x8_1).f3), .int .i64 ((rd_T48 t712 x9_2).f0), .int .i64 ((rd_T48 t712 x9_2).f1), .int .i64 ((rd_T48 t712 x9_2).f2), .int .i64 ((rd_T48 t712 x9_2).f3)]) (ok := fun _ => True) (okp := fun _ => True) ?hr ?hp (fun _ hk => hk) trivial (Below.refl _ _) (Nat.le_refl _) (by simp) ?_; (case hd => rfl); (case hg => rfl); (case hr => first | (go_simp; done) | (go_simp; rfl)); (case hp => exact (Reps.c4 (show Kd.M k48 _ _ _ (⟨(rd_T48 t712 x8_1).f0, (rd_T48 t712 x8_1).f1, (rd_T48 t712 x8_1).f2, (rd_T48 t712 x8_1).f3⟩ : S48) [.int .i64 ((rd_T48 t712 x8_1).f0), .int .i64 ((rd_T48 t712 x8_1).f1), .int .i64 ((rd_T48 t712 x8_1).f2), .int .i64 ((rd_T48 t712 x8_1).f3)] from (k48_mkM _ _ _ (⟨(rd_T48 t712 x8_1).f0, (rd_T48 t712 x8_1).f1, (rd_T48 t712 x8_1).f2, (rd_T48 t712 x8_1).f3⟩ : S48) )) (Reps.c4 (show Kd.M k48 _ _ _ (⟨(rd_T48 t712 x9_2).f0, (rd_T48 t712 x9_2).f1, (rd_T48 t712 x9_2).f2, (rd_T48 t712 x9_2).f3⟩ : S48) [.int .i64 ((rd_T48 t712 x9_2).f0), .int .i64 ((rd_T48 t712 x9_2).f1), .int .i64 ((rd_T48 t712 x9_2).f2), .int .i64 ((rd_T48 t712 x9_2).f3)] from (k48_mkM _ _ _ (⟨(rd_T48 t712 x9_2).f0, (rd_T48 t712 x9_2).f1, (rd_T48 t712 x9_2).f2, (rd_T48 t712 x9_2).f3⟩ : S48) )) (Reps.none _ _))))
                intro v725 w21 ho22 hb hg_ hnew_
                have HS0_ := (hb.cell (World.block_lt_of_cell? _ _ (hHeld.1))).trans (hHeld.1)
                have HS1_ := (hb.cell (World.block_lt_of_cell? _ _ (hHeld.2.1))).trans (hHeld.2.1)
                have HS2_ := (hb.cell (World.block_lt_of_cell? _ _ (hHeld.2.2.1))).trans (hHeld.2.2.1)
                have HS3_ := (hb.cell (World.block_lt_of_cell? _ _ (hHeld.2.2.2.1))).trans (hHeld.2.2.2.1)
                have HS4_ := (hb.cell (World.block_lt_of_cell? _ _ (hHeld.2.2.2.2.1))).trans (hHeld.2.2.2.2.1)
                have HS5_ := (hb.cell (World.block_lt_of_cell? _ _ (hHeld.2.2.2.2.2.1))).trans (hHeld.2.2.2.2.2.1)
                have HS6_ := (hb.cell (World.block_lt_of_cell? _ _ (hHeld.2.2.2.2.2.2.1))).trans (hHeld.2.2.2.2.2.2.1)
                have HS7_ := (hb.cell (World.block_lt_of_cell? _ _ (hHeld.2.2.2.2.2.2.2))).trans (hHeld.2.2.2.2.2.2.2)
                clear hg_ hnew_
                (first | rw [← Ny724.out] at ho22 | (simp only [Int.reduceToNat] at ho22; rw [← Ny724.out] at ho22))
                have n0_ := Aside0.mk (Kd.R_elder' (by (with_reducible repeat (first | apply Kd.R_alloc | apply Kd.R_drewN | apply Kd.R_drew)); exact HO_3.out) (Kd.R_base ho22) hb)
                have n1_ := Aside0.mk (Kd.R_below (by (with_reducible repeat (first | apply Kd.R_alloc | apply Kd.R_drewN | apply Kd.R_drew)); exact HO_5.out) hb)
                have n2_ := Aside0.mk (Kd.R_lower (Kd.R_new' ho22 (Kd.R_lt (by (with_reducible repeat (first | apply Kd.R_alloc | apply Kd.R_drewN | apply Kd.R_drew)); exact HO_3.out))) (below_size HBz))
                have n3_ := Aside0.mk (blk_below (g := gb721) BKz hb)
                have n4_ := Aside0.mk (blk_below (g := gb733) BKz hb)
                have n5_ := Aside0.mk (below_step HBz hb)
                clear HO_3
                clear HO_5
                clear BK721
                clear BK733
                clear HB
                have HO_3 := n0_
                have HO_5 := n1_
                have HO726 := n2_
                have BK721 := n3_
                have BK733 := n4_
                have HB := n5_
                clear n0_ n1_ n2_ n3_ n4_ n5_
                clear hb ho22
                obtain ⟨Ao23, co23, eo23⟩ := Kd.R_slice HO726.out
                (first | subst eo23 | (injection eo23 with f1_ f2_ f3_; have f4_ := f1_.symm; have f5_ := f3_.symm; clear f1_ f2_ f3_; subst f4_; subst f5_))
                refine hK.out _ _ ⟨HS0_, HS1_, HS2_, HS3_, HS4_, HS5_, HS6_, HS7_⟩ (fun hHeld => ?_)
                clear hK K
                refine nz (some 44) ?_
                refine oT HT_.out 9 (some 45) (bn 18 17407) (fun K hK => ?_)
                refine gz Try.func40 #[.slice Ao23 y724.length co23] ?_
                with_reducible refine (cover_Meet.calls k2 _ _ y724 t727 t728 t729 t732 _ ?side1 ?side2 A16.out).mono ?_
                (case side1 => repeat (first | exact (Kd.R_reads' HO726.out).2.2 | (with_reducible refine Kd.C_alloc ?_ _) | (with_reducible refine Kd.C_drewN ?_ _) | (with_reducible refine Kd.C_drew ?_)))
                (case side2 => exact (Kd.R_reads' HO726.out).2.1)
                rintro e w24 ⟨v730, rfl, ho0, hb⟩
                have HS0_ := (hb.cell (World.block_lt_of_cell? _ _ (hHeld.1))).trans (hHeld.1)
                have HS1_ := (hb.cell (World.block_lt_of_cell? _ _ (hHeld.2.1))).trans (hHeld.2.1)
                have HS2_ := (hb.cell (World.block_lt_of_cell? _ _ (hHeld.2.2.1))).trans (hHeld.2.2.1)
                have HS3_ := (hb.cell (World.block_lt_of_cell? _ _ (hHeld.2.2.2.1))).trans (hHeld.2.2.2.1)
                have HS4_ := (hb.cell (World.block_lt_of_cell? _ _ (hHeld.2.2.2.2.1))).trans (hHeld.2.2.2.2.1)
                have HS5_ := (hb.cell (World.block_lt_of_cell? _ _ (hHeld.2.2.2.2.2.1))).trans (hHeld.2.2.2.2.2.1)
                have HS6_ := (hb.cell (World.block_lt_of_cell? _ _ (hHeld.2.2.2.2.2.2.1))).trans (hHeld.2.2.2.2.2.2.1)
                have HS7_ := (hb.cell (World.block_lt_of_cell? _ _ (hHeld.2.2.2.2.2.2.2))).trans (hHeld.2.2.2.2.2.2.2)
                refine ⟨_, rfl, ?_⟩
                have n0_ := Aside0.mk (Kd.R_below (by (with_reducible repeat (first | apply Kd.R_alloc | apply Kd.R_drewN | apply Kd.R_drew)); exact HO_3.out) hb)
                have n1_ := Aside0.mk (Kd.R_elder' (by (with_reducible repeat (first | apply Kd.R_alloc | apply Kd.R_drewN | apply Kd.R_drew)); exact HO_5.out) (Kd.R_base ho0) hb)
                have n2_ := Aside0.mk (Kd.R_below (by (with_reducible repeat (first | apply Kd.R_alloc | apply Kd.R_drewN | apply Kd.R_drew)); exact HO726.out) hb)
                have n3_ := Aside0.mk (Kd.R_lower (Kd.R_new' ho0 (Kd.R_lt (by (with_reducible repeat (first | apply Kd.R_alloc | apply Kd.R_drewN | apply Kd.R_drew)); exact HO_5.out))) (below_size HBz))
                have n4_ := Aside0.mk (blk_below (g := gb721) BKz hb)
                have n5_ := Aside0.mk (blk_below (g := gb733) BKz hb)
                have n6_ := Aside0.mk (below_step HBz hb)
                clear HO_3
                clear HO_5
                clear HO726
                clear BK721
                clear BK733
                clear HB
                have HO_3 := n0_
                have HO_5 := n1_
                have HO726 := n2_
                have HO731 := n3_
                have BK721 := n4_
                have BK733 := n5_
                have HB := n6_
                clear n0_ n1_ n2_ n3_ n4_ n5_ n6_
                (try clear hb)
                (try clear hb2)
                (try clear hk)
                (try clear hi)
                (try clear ho0)
                refine hK.out _ _ ⟨HS0_, HS1_, HS2_, HS3_, HS4_, HS5_, HS6_, HS7_⟩ (fun hHeld => ?_)
                clear hK K
                refine nz (some 45) ?_
                refine pT HT_.out 10 (some 35) (bn 18 18431) ?_
                refine pT HT_.out 11 (some 46) (bn 18 20479) ?_
                refine pT HT_.out 12 (some 47) (bn 18 24575) ?_
                refine pT HT_.out 13 (some 48) (bn 18 32767) ?_
                exact norm_ (by simp only [putAll, Act.put, List.setIfInBounds_toArray, List.set_cons_zero, List.set_cons_succ]) (hCont (.slice Ao23 y724.length co23, v730, gb733) _ ⟨hHeld, (by (with_reducible repeat (first | apply Kd.R_alloc | apply Kd.R_drewN | apply Kd.R_drew)); exact Kd.R_mono HO726.out (fun _ hk => hk.2)), (by (with_reducible repeat (first | apply Kd.R_alloc | apply Kd.R_drewN | apply Kd.R_drew)); exact Kd.R_mono HO731.out (fun _ hk => hk.2)), (by (with_reducible repeat (first | apply Kd.R_alloc | apply Kd.R_drewN | apply Kd.R_drew)); exact Kd.R_mono HO_3.out (fun _ hk => hk.2)), (by (with_reducible repeat (first | apply Kd.R_alloc | apply Kd.R_drewN | apply Kd.R_drew)); exact Kd.R_mono HO_5.out (fun _ hk => hk.2)), BKz, BKz, GW733.out, GE733.out, NB721_733.out, NB733_721.out, HBz⟩)
              rintro ⟨v725, v730, gb733⟩ w25 ⟨hS_, h0_, h1_, h2_, h3_, h4_, h5_, h6_, h7_, h8_, h9_, h10_⟩
              have n0_ : Aside0 (Kd.R k48 48 w25 w.heap.size (fun k_ => some k_ ≠ (.slice (some ad722) t712.length co6 : Value).ownBlock) v725 y724) := ⟨h0_⟩
              have n1_ : Aside0 (Kd.R (Kd.int .i64) 3 w25 w.heap.size (fun k_ => some k_ ≠ (v718 : Value).ownBlock) v730 t729) := ⟨h1_⟩
              have n2_ : Aside0 (Kd.R k48 48 w25 w.heap.size (fun k_ => some k_ ≠ (v725 : Value).ownBlock) (.slice (some ad722) t712.length co6) t712) := ⟨h2_⟩
              have n3_ : Aside0 (Kd.R (Kd.int .i64) 3 w25 w.heap.size (fun k_ => some k_ ≠ (v730 : Value).ownBlock) v718 t717) := ⟨h3_⟩
              have n4_ : Aside0 (w25.heap[gb721]? = some (.cells #[.int .i64 t715, .int .i64 t716] 28 (0, 0))) := ⟨h4_⟩
              have n5_ : Aside0 (w25.heap[gb733]? = some (.cells #[.int .i64 0, .int .i64 0] 28 (0, 0))) := ⟨h5_⟩
              have n6_ : Aside0 (w.heap.size ≤ gb733) := ⟨h6_⟩
              have n7_ : Aside0 (w.heap.size ≤ gb733) := ⟨h7_⟩
              have n8_ : Aside0 (gb721 ≠ gb733) := ⟨h8_⟩
              have n9_ : Aside0 (gb733 ≠ gb721) := ⟨h9_⟩
              have n10_ : Aside0 (Below w.heap.size w w25) := ⟨h10_⟩
              clear HO_3
              clear HO_5
              clear BK721
              clear HB
              clear h0_ h1_ h2_ h3_ h4_ h5_ h6_ h7_ h8_ h9_ h10_
              have HO726 := n0_
              have HO731 := n1_
              have HO_3 := n2_
              have HO_5 := n3_
              have BK721 := n4_
              have BK733 := n5_
              have GW733 := n6_
              have GE733 := n7_
              have NB721_733 := n8_
              have NB733_721 := n9_
              have HB := n10_
              clear n0_ n1_ n2_ n3_ n4_ n5_ n6_ n7_ n8_ n9_ n10_
              have hHeld : w25.cell? (ad722.add ((x8_1).toNat * 4)) = some (.int .i64 ((rd_T48 t712 x8_1).f0)) ∧ w25.cell? ⟨(ad722.add ((x8_1).toNat * 4)).block, (ad722.add ((x8_1).toNat * 4)).off + 1, none⟩ = some (.int .i64 ((rd_T48 t712 x8_1).f1)) ∧ w25.cell? ⟨(ad722.add ((x8_1).toNat * 4)).block, (ad722.add ((x8_1).toNat * 4)).off + 2, none⟩ = some (.int .i64 ((rd_T48 t712 x8_1).f2)) ∧ w25.cell? ⟨(ad722.add ((x8_1).toNat * 4)).block, (ad722.add ((x8_1).toNat * 4)).off + 3, none⟩ = some (.int .i64 ((rd_T48 t712 x8_1).f3)) ∧ w25.cell? (ad722.add ((x9_2).toNat * 4)) = some (.int .i64 ((rd_T48 t712 x9_2).f0)) ∧ w25.cell? ⟨(ad722.add ((x9_2).toNat * 4)).block, (ad722.add ((x9_2).toNat * 4)).off + 1, none⟩ = some (.int .i64 ((rd_T48 t712 x9_2).f1)) ∧ w25.cell? ⟨(ad722.add ((x9_2).toNat * 4)).block, (ad722.add ((x9_2).toNat * 4)).off + 2, none⟩ = some (.int .i64 ((rd_T48 t712 x9_2).f2)) ∧ w25.cell? ⟨(ad722.add ((x9_2).toNat * 4)).block, (ad722.add ((x9_2).toNat * 4)).off + 3, none⟩ = some (.int .i64 ((rd_T48 t712 x9_2).f3)) := hS_
              refine norm_ (a' := ?_) ?_ ?_
              rotate_left
              ·simp only [putAll, Act.put, List.setIfInBounds_toArray, List.set_cons_zero, List.set_cons_succ]
               rfl
              refine oT HT_.out 15 none (bn 18 65535) (fun K hK => ?_)
              have hs26 : w25.cell? ⟨gb733, 0, none⟩ = some (.int .i64 0) := (blk_cell BK733.out 0).trans rfl
              have hfs26 := blk_frozen BK733.out 0
              have hns26_0 := NB721_733.out
              have hms26_0 := NB733_721.out
              have hs27 : w25.cell? ⟨gb733, 1, none⟩ = some (.int .i64 0) := (blk_cell BK733.out 1).trans rfl
              have hfs27 := blk_frozen BK733.out 1
              have hns27_0 := NB721_733.out
              have hms27_0 := NB733_721.out
              refine sz ?_
              refine hK.out _ _ ⟨((cell_far (p := ⟨gb733, _, none⟩) (by first | exact Kd.own_blk (Kd.R_ne HO_3.out BK733.out (by decide)) | (rw [add_block]; exact Kd.own_blk (Kd.R_ne HO_3.out BK733.out (by decide))) | (show (Addr.add _ _).block ≠ _; rw [add_block]; exact Kd.own_blk (Kd.R_ne HO_3.out BK733.out (by decide))) | (dsimp only; exact Kd.own_blk (Kd.R_ne HO_3.out BK733.out (by decide)))) _).trans (((cell_far (p := ⟨gb733, _, none⟩) (by first | exact Kd.own_blk (Kd.R_ne HO_3.out BK733.out (by decide)) | (rw [add_block]; exact Kd.own_blk (Kd.R_ne HO_3.out BK733.out (by decide))) | (show (Addr.add _ _).block ≠ _; rw [add_block]; exact Kd.own_blk (Kd.R_ne HO_3.out BK733.out (by decide))) | (dsimp only; exact Kd.own_blk (Kd.R_ne HO_3.out BK733.out (by decide)))) _).trans (hHeld.1)))), ((cell_far (p := ⟨gb733, _, none⟩) (by first | exact Kd.own_blk (Kd.R_ne HO_3.out BK733.out (by decide)) | (rw [add_block]; exact Kd.own_blk (Kd.R_ne HO_3.out BK733.out (by decide))) | (show (Addr.add _ _).block ≠ _; rw [add_block]; exact Kd.own_blk (Kd.R_ne HO_3.out BK733.out (by decide))) | (dsimp only; exact Kd.own_blk (Kd.R_ne HO_3.out BK733.out (by decide)))) _).trans (((cell_far (p := ⟨gb733, _, none⟩) (by first | exact Kd.own_blk (Kd.R_ne HO_3.out BK733.out (by decide)) | (rw [add_block]; exact Kd.own_blk (Kd.R_ne HO_3.out BK733.out (by decide))) | (show (Addr.add _ _).block ≠ _; rw [add_block]; exact Kd.own_blk (Kd.R_ne HO_3.out BK733.out (by decide))) | (dsimp only; exact Kd.own_blk (Kd.R_ne HO_3.out BK733.out (by decide)))) _).trans (hHeld.2.1)))), ((cell_far (p := ⟨gb733, _, none⟩) (by first | exact Kd.own_blk (Kd.R_ne HO_3.out BK733.out (by decide)) | (rw [add_block]; exact Kd.own_blk (Kd.R_ne HO_3.out BK733.out (by decide))) | (show (Addr.add _ _).block ≠ _; rw [add_block]; exact Kd.own_blk (Kd.R_ne HO_3.out BK733.out (by decide))) | (dsimp only; exact Kd.own_blk (Kd.R_ne HO_3.out BK733.out (by decide)))) _).trans (((cell_far (p := ⟨gb733, _, none⟩) (by first | exact Kd.own_blk (Kd.R_ne HO_3.out BK733.out (by decide)) | (rw [add_block]; exact Kd.own_blk (Kd.R_ne HO_3.out BK733.out (by decide))) | (show (Addr.add _ _).block ≠ _; rw [add_block]; exact Kd.own_blk (Kd.R_ne HO_3.out BK733.out (by decide))) | (dsimp only; exact Kd.own_blk (Kd.R_ne HO_3.out BK733.out (by decide)))) _).trans (hHeld.2.2.1)))), ((cell_far (p := ⟨gb733, _, none⟩) (by first | exact Kd.own_blk (Kd.R_ne HO_3.out BK733.out (by decide)) | (rw [add_block]; exact Kd.own_blk (Kd.R_ne HO_3.out BK733.out (by decide))) | (show (Addr.add _ _).block ≠ _; rw [add_block]; exact Kd.own_blk (Kd.R_ne HO_3.out BK733.out (by decide))) | (dsimp only; exact Kd.own_blk (Kd.R_ne HO_3.out BK733.out (by decide)))) _).trans (((cell_far (p := ⟨gb733, _, none⟩) (by first | exact Kd.own_blk (Kd.R_ne HO_3.out BK733.out (by decide)) | (rw [add_block]; exact Kd.own_blk (Kd.R_ne HO_3.out BK733.out (by decide))) | (show (Addr.add _ _).block ≠ _; rw [add_block]; exact Kd.own_blk (Kd.R_ne HO_3.out BK733.out (by decide))) | (dsimp only; exact Kd.own_blk (Kd.R_ne HO_3.out BK733.out (by decide)))) _).trans (hHeld.2.2.2.1)))), ((cell_far (p := ⟨gb733, _, none⟩) (by first | exact Kd.own_blk (Kd.R_ne HO_3.out BK733.out (by decide)) | (rw [add_block]; exact Kd.own_blk (Kd.R_ne HO_3.out BK733.out (by decide))) | (show (Addr.add _ _).block ≠ _; rw [add_block]; exact Kd.own_blk (Kd.R_ne HO_3.out BK733.out (by decide))) | (dsimp only; exact Kd.own_blk (Kd.R_ne HO_3.out BK733.out (by decide)))) _).trans (((cell_far (p := ⟨gb733, _, none⟩) (by first | exact Kd.own_blk (Kd.R_ne HO_3.out BK733.out (by decide)) | (rw [add_block]; exact Kd.own_blk (Kd.R_ne HO_3.out BK733.out (by decide))) | (show (Addr.add _ _).block ≠ _; rw [add_block]; exact Kd.own_blk (Kd.R_ne HO_3.out BK733.out (by decide))) | (dsimp only; exact Kd.own_blk (Kd.R_ne HO_3.out BK733.out (by decide)))) _).trans (hHeld.2.2.2.2.1)))), ((cell_far (p := ⟨gb733, _, none⟩) (by first | exact Kd.own_blk (Kd.R_ne HO_3.out BK733.out (by decide)) | (rw [add_block]; exact Kd.own_blk (Kd.R_ne HO_3.out BK733.out (by decide))) | (show (Addr.add _ _).block ≠ _; rw [add_block]; exact Kd.own_blk (Kd.R_ne HO_3.out BK733.out (by decide))) | (dsimp only; exact Kd.own_blk (Kd.R_ne HO_3.out BK733.out (by decide)))) _).trans (((cell_far (p := ⟨gb733, _, none⟩) (by first | exact Kd.own_blk (Kd.R_ne HO_3.out BK733.out (by decide)) | (rw [add_block]; exact Kd.own_blk (Kd.R_ne HO_3.out BK733.out (by decide))) | (show (Addr.add _ _).block ≠ _; rw [add_block]; exact Kd.own_blk (Kd.R_ne HO_3.out BK733.out (by decide))) | (dsimp only; exact Kd.own_blk (Kd.R_ne HO_3.out BK733.out (by decide)))) _).trans (hHeld.2.2.2.2.2.1)))), ((cell_far (p := ⟨gb733, _, none⟩) (by first | exact Kd.own_blk (Kd.R_ne HO_3.out BK733.out (by decide)) | (rw [add_block]; exact Kd.own_blk (Kd.R_ne HO_3.out BK733.out (by decide))) | (show (Addr.add _ _).block ≠ _; rw [add_block]; exact Kd.own_blk (Kd.R_ne HO_3.out BK733.out (by decide))) | (dsimp only; exact Kd.own_blk (Kd.R_ne HO_3.out BK733.out (by decide)))) _).trans (((cell_far (p := ⟨gb733, _, none⟩) (by first | exact Kd.own_blk (Kd.R_ne HO_3.out BK733.out (by decide)) | (rw [add_block]; exact Kd.own_blk (Kd.R_ne HO_3.out BK733.out (by decide))) | (show (Addr.add _ _).block ≠ _; rw [add_block]; exact Kd.own_blk (Kd.R_ne HO_3.out BK733.out (by decide))) | (dsimp only; exact Kd.own_blk (Kd.R_ne HO_3.out BK733.out (by decide)))) _).trans (hHeld.2.2.2.2.2.2.1)))), ((cell_far (p := ⟨gb733, _, none⟩) (by first | exact Kd.own_blk (Kd.R_ne HO_3.out BK733.out (by decide)) | (rw [add_block]; exact Kd.own_blk (Kd.R_ne HO_3.out BK733.out (by decide))) | (show (Addr.add _ _).block ≠ _; rw [add_block]; exact Kd.own_blk (Kd.R_ne HO_3.out BK733.out (by decide))) | (dsimp only; exact Kd.own_blk (Kd.R_ne HO_3.out BK733.out (by decide)))) _).trans (((cell_far (p := ⟨gb733, _, none⟩) (by first | exact Kd.own_blk (Kd.R_ne HO_3.out BK733.out (by decide)) | (rw [add_block]; exact Kd.own_blk (Kd.R_ne HO_3.out BK733.out (by decide))) | (show (Addr.add _ _).block ≠ _; rw [add_block]; exact Kd.own_blk (Kd.R_ne HO_3.out BK733.out (by decide))) | (dsimp only; exact Kd.own_blk (Kd.R_ne HO_3.out BK733.out (by decide)))) _).trans (hHeld.2.2.2.2.2.2.2))))⟩ (fun hHeld => ?_)
              clear hK K
              refine pT HT_.out 16 (some 11) (bn 18 131071) ?_
              refine pT HT_.out 17 (some 12) (bn 18 262143) ?_
              refine done_ (done_of HT_.out (by kernel_rfl)) ?_
              obtain ⟨Ao28, co28, eo28⟩ := Kd.R_slice HO731.out
              subst eo28
              try go_wp2
              go_roundg k2
              case measure => have := HK1.out; have := HK2.out; omega
              case rel => exact ⟨(((t729.length : Int) == 0)), (wrap64 (x9_2 + 1)), (by first | rfl | (simp; done) | (simp [*]; done)), (by first | rfl | (simp; done) | (simp [*]; done)), H', ⟨by have := HK1.out; have := HK2.out; omega⟩, ⟨by (with_reducible repeat (first | apply Kd.R_alloc | apply Kd.R_drewN | apply Kd.R_drew)); exact Kd.R_mono (Kd.R_far (p := ⟨gb733, 1, none⟩) (Kd.R_far (p := ⟨gb733, 0, none⟩) (Kd.R_types HO_3.out BK733.out (by decide)) (fun _ hk => hk.2) (.int .i64 t727)) (fun _ hk => hk.2) (.int .i64 t728)) (fun _ hk => trivial)⟩, ⟨by (with_reducible repeat (first | apply Kd.R_alloc | apply Kd.R_drewN | apply Kd.R_drew)); exact Kd.R_mono (Kd.R_far (p := ⟨gb733, 1, none⟩) (Kd.R_far (p := ⟨gb733, 0, none⟩) (Kd.R_types HO_5.out BK733.out (by decide)) (fun _ hk => hk.2) (.int .i64 t727)) (fun _ hk => hk.2) (.int .i64 t728)) (fun _ hk => trivial)⟩, ⟨by (with_reducible repeat (first | refine blk_drewN ?_ _ | refine blk_drew ?_ | refine blk_alloc ?_ _)); refine blk_far ?_ NB721_733.out _; (with_reducible repeat (first | refine blk_drewN ?_ _ | refine blk_drew ?_ | refine blk_alloc ?_ _)); refine blk_far ?_ NB721_733.out _; (with_reducible repeat (first | refine blk_drewN ?_ _ | refine blk_drew ?_ | refine blk_alloc ?_ _)); exact BK721.out⟩, ⟨HBz⟩⟩
             ·replace c18 := Bool.eq_false_iff.mpr c18
              subst c18
              have H1 : (tickinglaw01_CoverPairs.l1 k2 t712 t717 false x8_1 (wrap64 (x9_2 + 1)) t715 t716) = some r := by rw [if_neg (show ¬ (false = true) by decide)] at H; exact H
              clear H
              have H := H1
              clear H1
              have H' := Aside0.mk H
              clear H
              try go_wp2
              have n0_ := Aside0.mk (Kd.R_drew HO_3.out)
              have n1_ := Aside0.mk (Kd.R_drew HO_5.out)
              have n2_ := Aside0.mk (blk_drew BK721.out)
              have n3_ := Aside0.mk (below_drew1 HB.out)
              clear HO_3
              clear HO_5
              clear BK721
              clear HB
              have HO_3 := n0_
              have HO_5 := n1_
              have BK721 := n2_
              have HB := n3_
              clear n0_ n1_ n2_ n3_
              have p722 : 0 ≤ (x8_1 : Int) := of_decide_eq_true (by first | (with_reducible assumption) | assumption)
              have q722 : x8_1 < (t712.length : Int) := of_decide_eq_true (by first | (with_reducible assumption) | assumption)
              obtain ⟨ad722, e722, hx722_0, hx722_1, hx722_2, hx722_3⟩ := at_T48 (Kd.R_reads' HO_3.out).2.2 x8_1 p722 q722
              cases e722
              replace p722 := eq_true p722
              replace q722 := eq_true q722
              have p723 : 0 ≤ (x9_2 : Int) := of_decide_eq_true (by first | (with_reducible assumption) | assumption)
              have q723 : x9_2 < (t712.length : Int) := of_decide_eq_true (by first | (with_reducible assumption) | assumption)
              obtain ⟨ad723, e723, hx723_0, hx723_1, hx723_2, hx723_3⟩ := at_T48 (Kd.R_reads' HO_3.out).2.2 x9_2 p723 q723
              obtain rfl : ad722 = ad723 := (by injection e723)
              replace p723 := eq_true p723
              replace q723 := eq_true q723
              refine stz (fun w' => w'.cell? (ad722.add ((x8_1).toNat * 4)) = some (.int .i64 ((rd_T48 t712 x8_1).f0)) ∧ w'.cell? ⟨(ad722.add ((x8_1).toNat * 4)).block, (ad722.add ((x8_1).toNat * 4)).off + 1, none⟩ = some (.int .i64 ((rd_T48 t712 x8_1).f1)) ∧ w'.cell? ⟨(ad722.add ((x8_1).toNat * 4)).block, (ad722.add ((x8_1).toNat * 4)).off + 2, none⟩ = some (.int .i64 ((rd_T48 t712 x8_1).f2)) ∧ w'.cell? ⟨(ad722.add ((x8_1).toNat * 4)).block, (ad722.add ((x8_1).toNat * 4)).off + 3, none⟩ = some (.int .i64 ((rd_T48 t712 x8_1).f3)) ∧ w'.cell? (ad722.add ((x9_2).toNat * 4)) = some (.int .i64 ((rd_T48 t712 x9_2).f0)) ∧ w'.cell? ⟨(ad722.add ((x9_2).toNat * 4)).block, (ad722.add ((x9_2).toNat * 4)).off + 1, none⟩ = some (.int .i64 ((rd_T48 t712 x9_2).f1)) ∧ w'.cell? ⟨(ad722.add ((x9_2).toNat * 4)).block, (ad722.add ((x9_2).toNat * 4)).off + 2, none⟩ = some (.int .i64 ((rd_T48 t712 x9_2).f2)) ∧ w'.cell? ⟨(ad722.add ((x9_2).toNat * 4)).block, (ad722.add ((x9_2).toNat * 4)).off + 3, none⟩ = some (.int .i64 ((rd_T48 t712 x9_2).f3))) [] (bn 18 0) ⟨hx722_0, hx722_1, hx722_2, hx722_3, hx723_0, hx723_1, hx723_2, hx723_3⟩ (fun hHeld => ?_); refine with_tabW tickinglaw01_CoverPairs.tab12 tickinglaw01_CoverPairs.bits12 (fun HT_ HW_ => ?_)
              generalize wr.drew = w29 at HO_3 HO_5 BK721 HB hx722_0 hx722_1 hx722_2 hx722_3 hx723_0 hx723_1 hx723_2 hx723_3 hHeld ⊢
              refine pT HT_.out 0 (some 36) (bn 18 1) ?_
              refine pT HT_.out 1 (some 37) (bn 18 3) ?_
              refine pT HT_.out 2 (some 38) (bn 18 7) ?_
              refine pT HT_.out 4 (some 40) (bn 18 23) ?_
              refine pT HT_.out 5 (some 41) (bn 18 55) ?_
              refine pT HT_.out 6 (some 42) (bn 18 119) ?_
              refine tT HT_.out HW_.out 3 (some 39) (bn 18 127) hHeld ?_
              refine tT HT_.out HW_.out 7 (some 43) (bn 18 255) hHeld ?_
              refine join_ (σ := Value × Value × Nat) 3 #[true, true, true, true, true, true, true, true, true, true, true, true, true, true, true, false, false, false] (fun s_ => [(44, s_.1), (45, .tuple #[.agg #[.int .i64 t727, .int .i64 t728], s_.2.1, .int .i64 t732]), (10, .pointer (some ⟨s_.2.2, 0, none⟩)), (35, .tuple #[.agg #[.int .i64 t727, .int .i64 t728], s_.2.1, .int .i64 t732]), (46, .agg #[.int .i64 t727, .int .i64 t728]), (47, s_.2.1), (48, .int .i64 t732)]) (fun s_ w' => (w'.cell? (ad722.add ((x8_1).toNat * 4)) = some (.int .i64 ((rd_T48 t712 x8_1).f0)) ∧ w'.cell? ⟨(ad722.add ((x8_1).toNat * 4)).block, (ad722.add ((x8_1).toNat * 4)).off + 1, none⟩ = some (.int .i64 ((rd_T48 t712 x8_1).f1)) ∧ w'.cell? ⟨(ad722.add ((x8_1).toNat * 4)).block, (ad722.add ((x8_1).toNat * 4)).off + 2, none⟩ = some (.int .i64 ((rd_T48 t712 x8_1).f2)) ∧ w'.cell? ⟨(ad722.add ((x8_1).toNat * 4)).block, (ad722.add ((x8_1).toNat * 4)).off + 3, none⟩ = some (.int .i64 ((rd_T48 t712 x8_1).f3)) ∧ w'.cell? (ad722.add ((x9_2).toNat * 4)) = some (.int .i64 ((rd_T48 t712 x9_2).f0)) ∧ w'.cell? ⟨(ad722.add ((x9_2).toNat * 4)).block, (ad722.add ((x9_2).toNat * 4)).off + 1, none⟩ = some (.int .i64 ((rd_T48 t712 x9_2).f1)) ∧ w'.cell? ⟨(ad722.add ((x9_2).toNat * 4)).block, (ad722.add ((x9_2).toNat * 4)).off + 2, none⟩ = some (.int .i64 ((rd_T48 t712 x9_2).f2)) ∧ w'.cell? ⟨(ad722.add ((x9_2).toNat * 4)).block, (ad722.add ((x9_2).toNat * 4)).off + 3, none⟩ = some (.int .i64 ((rd_T48 t712 x9_2).f3))) ∧ (Kd.R k48 48 w' w.heap.size (fun k_ => some k_ ≠ (.slice (some ad722) t712.length co6 : Value).ownBlock) s_.1 y724) ∧ (Kd.R (Kd.int .i64) 3 w' w.heap.size (fun k_ => some k_ ≠ (v718 : Value).ownBlock) s_.2.1 t729) ∧ (Kd.R k48 48 w' w.heap.size (fun k_ => some k_ ≠ (s_.1 : Value).ownBlock) (.slice (some ad722) t712.length co6) t712) ∧ (Kd.R (Kd.int .i64) 3 w' w.heap.size (fun k_ => some k_ ≠ (s_.2.1 : Value).ownBlock) v718 t717) ∧ (w'.heap[gb721]? = some (.cells #[.int .i64 t715, .int .i64 t716] 28 (0, 0))) ∧ (w'.heap[s_.2.2]? = some (.cells #[.int .i64 0, .int .i64 0] 28 (0, 0))) ∧ (w.heap.size ≤ s_.2.2) ∧ (w.heap.size ≤ s_.2.2) ∧ (gb721 ≠ s_.2.2) ∧ (s_.2.2 ≠ gb721) ∧ (Below w.heap.size w w')) ?_ ?_
              rotate_left
              ·intro hCont
               refine two_ (i := 8) (j := 14) (Ni := some 44) (Nj := some 10) #[true, true, true, true, true, true, true, true, true, false, false, false, false, false, false, false, false, false] #[true, true, true, true, true, true, true, true, false, false, false, false, false, false, true, false, false, false] rfl rfl rfl rfl (two_of HT_.out (by kernel_rfl)) (by decide) (by decide) (fun K hK => ?_) (fun K hK => ?_)
               ·skip
                refine Kd.R_lit_step k48 _ 48 ?hg (N := 44) ?hd (xs := ([(⟨(rd_T48 t712 x8_1).f0, (rd_T48 t712 x8_1).f1, (rd_T48 t712 x8_1).f2, (rd_T48 t712 x8_1).f3⟩ : S48), (⟨(rd_T48 t712 x9_2).f0, (rd_T48 t712 x9_2).f1, (rd_T48 t712 x9_2).f2, (rd_T48 t712 x9_2).f3⟩ : S48)] : List (S48))) (inner := [.int .i64 ((rd_T48 t712 x8_1).f0), .int .i64 ((rd_T48 t712 x8_1).f1), .int .i64 ((rd_T48 t712 x8_1).f2), .int .i64 ((rd_T48 t712 x8_1).f3), .int .i64 ((rd_T48 t712 x9_2).f0), .int .i64 ((rd_T48 t712 x9_2).f1), .int .i64 ((rd_T48 t712 x9_2).f2), .int .i64 ((rd_T48 t712 x9_2).f3)]) (ok := fun _ => True) (okp := fun _ => True) ?hr ?hp (fun _ hk => hk) trivial (Below.refl _ _) (Nat.le_refl _) (by simp) ?_; (case hd => rfl); (case hg => rfl); (case hr => first | (go_simp; done) | (go_simp; rfl)); (case hp => exact (Reps.c4 (show Kd.M k48 _ _ _ (⟨(rd_T48 t712 x8_1).f0, (rd_T48 t712 x8_1).f1, (rd_T48 t712 x8_1).f2, (rd_T48 t712 x8_1).f3⟩ : S48) [.int .i64 ((rd_T48 t712 x8_1).f0), .int .i64 ((rd_T48 t712 x8_1).f1), .int .i64 ((rd_T48 t712 x8_1).f2), .int .i64 ((rd_T48 t712 x8_1).f3)] from (k48_mkM _ _ _ (⟨(rd_T48 t712 x8_1).f0, (rd_T48 t712 x8_1).f1, (rd_T48 t712 x8_1).f2, (rd_T48 t712 x8_1).f3⟩ : S48) )) (Reps.c4 (show Kd.M k48 _ _ _ (⟨(rd_T48 t712 x9_2).f0, (rd_T48 t712 x9_2).f1, (rd_T48 t712 x9_2).f2, (rd_T48 t712 x9_2).f3⟩ : S48) [.int .i64 ((rd_T48 t712 x9_2).f0), .int .i64 ((rd_T48 t712 x9_2).f1), .int .i64 ((rd_T48 t712 x9_2).f2), .int .i64 ((rd_T48 t712 x9_2).f3)] from (k48_mkM _ _ _ (⟨(rd_T48 t712 x9_2).f0, (rd_T48 t712 x9_2).f1, (rd_T48 t712 x9_2).f2, (rd_T48 t712 x9_2).f3⟩ : S48) )) (Reps.none _ _))))
                intro v725 w30 ho31 hb hg_ hnew_
                have HS0_ := (hb.cell (World.block_lt_of_cell? _ _ (hHeld.1))).trans (hHeld.1)
                have HS1_ := (hb.cell (World.block_lt_of_cell? _ _ (hHeld.2.1))).trans (hHeld.2.1)
                have HS2_ := (hb.cell (World.block_lt_of_cell? _ _ (hHeld.2.2.1))).trans (hHeld.2.2.1)
                have HS3_ := (hb.cell (World.block_lt_of_cell? _ _ (hHeld.2.2.2.1))).trans (hHeld.2.2.2.1)
                have HS4_ := (hb.cell (World.block_lt_of_cell? _ _ (hHeld.2.2.2.2.1))).trans (hHeld.2.2.2.2.1)
                have HS5_ := (hb.cell (World.block_lt_of_cell? _ _ (hHeld.2.2.2.2.2.1))).trans (hHeld.2.2.2.2.2.1)
                have HS6_ := (hb.cell (World.block_lt_of_cell? _ _ (hHeld.2.2.2.2.2.2.1))).trans (hHeld.2.2.2.2.2.2.1)
                have HS7_ := (hb.cell (World.block_lt_of_cell? _ _ (hHeld.2.2.2.2.2.2.2))).trans (hHeld.2.2.2.2.2.2.2)
                clear hg_ hnew_
                (first | rw [← Ny724.out] at ho31 | (simp only [Int.reduceToNat] at ho31; rw [← Ny724.out] at ho31))
                have n0_ := Aside0.mk (Kd.R_elder' (by (with_reducible repeat (first | apply Kd.R_alloc | apply Kd.R_drewN | apply Kd.R_drew)); exact HO_3.out) (Kd.R_base ho31) hb)
                have n1_ := Aside0.mk (Kd.R_below (by (with_reducible repeat (first | apply Kd.R_alloc | apply Kd.R_drewN | apply Kd.R_drew)); exact HO_5.out) hb)
                have n2_ := Aside0.mk (Kd.R_lower (Kd.R_new' ho31 (Kd.R_lt (by (with_reducible repeat (first | apply Kd.R_alloc | apply Kd.R_drewN | apply Kd.R_drew)); exact HO_3.out))) (below_size HBz))
                have n3_ := Aside0.mk (blk_below (g := gb721) BKz hb)
                have n4_ := Aside0.mk (below_step HBz hb)
                clear HO_3
                clear HO_5
                clear BK721
                clear HB
                have HO_3 := n0_
                have HO_5 := n1_
                have HO726 := n2_
                have BK721 := n3_
                have HB := n4_
                clear n0_ n1_ n2_ n3_ n4_
                clear hb ho31
                obtain ⟨Ao32, co32, eo32⟩ := Kd.R_slice HO726.out
                (first | subst eo32 | (injection eo32 with f1_ f2_ f3_; have f4_ := f1_.symm; have f5_ := f3_.symm; clear f1_ f2_ f3_; subst f4_; subst f5_))
                refine hK.out _ _ ⟨HS0_, HS1_, HS2_, HS3_, HS4_, HS5_, HS6_, HS7_⟩ (fun hHeld => ?_)
                clear hK K
                refine nz (some 44) ?_
                refine two_ (i := 9) (j := 14) (Ni := some 45) (Nj := some 10) #[true, true, true, true, true, true, true, true, true, true, false, false, false, false, false, false, false, false] #[true, true, true, true, true, true, true, true, true, false, false, false, false, false, true, false, false, false] rfl rfl rfl rfl (two_of HT_.out (by kernel_rfl)) (by decide) (by decide) (fun K hK => ?_) (fun K hK => ?_)
                ·skip
                 refine gz Try.func40 #[.slice Ao32 y724.length co32] ?_
                 with_reducible refine (cover_Meet.calls k2 _ _ y724 t727 t728 t729 t732 _ ?side1 ?side2 A16.out).mono ?_
                 (case side1 => repeat (first | exact (Kd.R_reads' HO726.out).2.2 | (with_reducible refine Kd.C_alloc ?_ _) | (with_reducible refine Kd.C_drewN ?_ _) | (with_reducible refine Kd.C_drew ?_)))
                 (case side2 => exact (Kd.R_reads' HO726.out).2.1)
                 rintro e w33 ⟨v730, rfl, ho0, hb⟩
                 have HS0_ := (hb.cell (World.block_lt_of_cell? _ _ (hHeld.1))).trans (hHeld.1)
                 have HS1_ := (hb.cell (World.block_lt_of_cell? _ _ (hHeld.2.1))).trans (hHeld.2.1)
                 have HS2_ := (hb.cell (World.block_lt_of_cell? _ _ (hHeld.2.2.1))).trans (hHeld.2.2.1)
                 have HS3_ := (hb.cell (World.block_lt_of_cell? _ _ (hHeld.2.2.2.1))).trans (hHeld.2.2.2.1)
                 have HS4_ := (hb.cell (World.block_lt_of_cell? _ _ (hHeld.2.2.2.2.1))).trans (hHeld.2.2.2.2.1)
                 have HS5_ := (hb.cell (World.block_lt_of_cell? _ _ (hHeld.2.2.2.2.2.1))).trans (hHeld.2.2.2.2.2.1)
                 have HS6_ := (hb.cell (World.block_lt_of_cell? _ _ (hHeld.2.2.2.2.2.2.1))).trans (hHeld.2.2.2.2.2.2.1)
                 have HS7_ := (hb.cell (World.block_lt_of_cell? _ _ (hHeld.2.2.2.2.2.2.2))).trans (hHeld.2.2.2.2.2.2.2)
                 refine ⟨_, rfl, ?_⟩
                 have n0_ := Aside0.mk (Kd.R_below (by (with_reducible repeat (first | apply Kd.R_alloc | apply Kd.R_drewN | apply Kd.R_drew)); exact HO_3.out) hb)
                 have n1_ := Aside0.mk (Kd.R_elder' (by (with_reducible repeat (first | apply Kd.R_alloc | apply Kd.R_drewN | apply Kd.R_drew)); exact HO_5.out) (Kd.R_base ho0) hb)
                 have n2_ := Aside0.mk (Kd.R_below (by (with_reducible repeat (first | apply Kd.R_alloc | apply Kd.R_drewN | apply Kd.R_drew)); exact HO726.out) hb)
                 have n3_ := Aside0.mk (Kd.R_lower (Kd.R_new' ho0 (Kd.R_lt (by (with_reducible repeat (first | apply Kd.R_alloc | apply Kd.R_drewN | apply Kd.R_drew)); exact HO_5.out))) (below_size HBz))
                 have n4_ := Aside0.mk (blk_below (g := gb721) BKz hb)
                 have n5_ := Aside0.mk (below_step HBz hb)
                 clear HO_3
                 clear HO_5
                 clear HO726
                 clear BK721
                 clear HB
                 have HO_3 := n0_
                 have HO_5 := n1_
                 have HO726 := n2_
                 have HO731 := n3_
                 have BK721 := n4_
                 have HB := n5_
                 clear n0_ n1_ n2_ n3_ n4_ n5_
                 (try clear hb)
                 (try clear hb2)
                 (try clear hk)
                 (try clear hi)
                 (try clear ho0)
                 refine hK.out _ _ ⟨HS0_, HS1_, HS2_, HS3_, HS4_, HS5_, HS6_, HS7_⟩ (fun hHeld => ?_)
                 clear hK K
                 refine nz (some 45) ?_
                 refine pT HT_.out 10 (some 35) (bn 18 2047) ?_
                 refine pT HT_.out 11 (some 46) (bn 18 4095) ?_
                 refine pT HT_.out 12 (some 47) (bn 18 8191) ?_
                 refine pT HT_.out 13 (some 48) (bn 18 16383) ?_
                 refine oT HT_.out 14 (some 10) (bn 18 32767) (fun K hK => ?_)
                 refine bxS 10 #[.int .i64 0, .int .i64 0] 28 ?_
                 intro gb733 hg w34 hbox hb
                 have HS0_ := (hb.cell (World.block_lt_of_cell? _ _ (hHeld.1))).trans (hHeld.1)
                 have HS1_ := (hb.cell (World.block_lt_of_cell? _ _ (hHeld.2.1))).trans (hHeld.2.1)
                 have HS2_ := (hb.cell (World.block_lt_of_cell? _ _ (hHeld.2.2.1))).trans (hHeld.2.2.1)
                 have HS3_ := (hb.cell (World.block_lt_of_cell? _ _ (hHeld.2.2.2.1))).trans (hHeld.2.2.2.1)
                 have HS4_ := (hb.cell (World.block_lt_of_cell? _ _ (hHeld.2.2.2.2.1))).trans (hHeld.2.2.2.2.1)
                 have HS5_ := (hb.cell (World.block_lt_of_cell? _ _ (hHeld.2.2.2.2.2.1))).trans (hHeld.2.2.2.2.2.1)
                 have HS6_ := (hb.cell (World.block_lt_of_cell? _ _ (hHeld.2.2.2.2.2.2.1))).trans (hHeld.2.2.2.2.2.2.1)
                 have HS7_ := (hb.cell (World.block_lt_of_cell? _ _ (hHeld.2.2.2.2.2.2.2))).trans (hHeld.2.2.2.2.2.2.2)
                 have n0_ := Aside0.mk (Kd.R_below (by (with_reducible repeat (first | apply Kd.R_alloc | apply Kd.R_drewN | apply Kd.R_drew)); exact HO_3.out) hb)
                 have n1_ := Aside0.mk (Kd.R_below (by (with_reducible repeat (first | apply Kd.R_alloc | apply Kd.R_drewN | apply Kd.R_drew)); exact HO_5.out) hb)
                 have n2_ := Aside0.mk (Kd.R_below (by (with_reducible repeat (first | apply Kd.R_alloc | apply Kd.R_drewN | apply Kd.R_drew)); exact HO726.out) hb)
                 have n3_ := Aside0.mk (Kd.R_below (by (with_reducible repeat (first | apply Kd.R_alloc | apply Kd.R_drewN | apply Kd.R_drew)); exact HO731.out) hb)
                 have n4_ := Aside0.mk (blk_below (g := gb721) BKz hb)
                 have n5_ := Aside0.mk (below_step HBz hb)
                 have n6_ := Aside0.mk (hbox)
                 have n7_ := Aside0.mk ((by rw [hg]; exact (below_size HBz) : w.heap.size ≤ gb733))
                 have n8_ := Aside0.mk ((by rw [hg]; exact (below_size HBz) : w.heap.size ≤ gb733))
                 have n9_ := Aside0.mk ((by rw [hg]; exact Nat.ne_of_lt (blk_lt (g := gb721) BKz) : gb721 ≠ gb733))
                 have n10_ := Aside0.mk ((by rw [hg]; exact Nat.ne_of_gt (blk_lt (g := gb721) BKz) : gb733 ≠ gb721))
                 clear HO_3
                 clear HO_5
                 clear HO726
                 clear HO731
                 clear BK721
                 clear HB
                 have HO_3 := n0_
                 have HO_5 := n1_
                 have HO726 := n2_
                 have HO731 := n3_
                 have BK721 := n4_
                 have HB := n5_
                 have BK733 := n6_
                 have GW733 := n7_
                 have GE733 := n8_
                 have NB721_733 := n9_
                 have NB733_721 := n10_
                 clear n0_ n1_ n2_ n3_ n4_ n5_ n6_ n7_ n8_ n9_ n10_
                 clear hb hbox hg
                 refine hK.out _ _ ⟨HS0_, HS1_, HS2_, HS3_, HS4_, HS5_, HS6_, HS7_⟩ (fun hHeld => ?_)
                 clear hK K
                 refine nz (some 10) ?_
                 exact norm_ (by simp only [putAll, Act.put, List.setIfInBounds_toArray, List.set_cons_zero, List.set_cons_succ]) (hCont (.slice Ao32 y724.length co32, v730, gb733) _ ⟨hHeld, (by (with_reducible repeat (first | apply Kd.R_alloc | apply Kd.R_drewN | apply Kd.R_drew)); exact Kd.R_mono HO726.out (fun _ hk => hk.2)), (by (with_reducible repeat (first | apply Kd.R_alloc | apply Kd.R_drewN | apply Kd.R_drew)); exact Kd.R_mono HO731.out (fun _ hk => hk.2)), (by (with_reducible repeat (first | apply Kd.R_alloc | apply Kd.R_drewN | apply Kd.R_drew)); exact Kd.R_mono HO_3.out (fun _ hk => hk.2)), (by (with_reducible repeat (first | apply Kd.R_alloc | apply Kd.R_drewN | apply Kd.R_drew)); exact Kd.R_mono HO_5.out (fun _ hk => hk.2)), BKz, BKz, GW733.out, GE733.out, NB721_733.out, NB733_721.out, HBz⟩)
                ·skip
                 refine bxS 10 #[.int .i64 0, .int .i64 0] 28 ?_
                 intro gb733 hg w32 hbox hb
                 have HS0_ := (hb.cell (World.block_lt_of_cell? _ _ (hHeld.1))).trans (hHeld.1)
                 have HS1_ := (hb.cell (World.block_lt_of_cell? _ _ (hHeld.2.1))).trans (hHeld.2.1)
                 have HS2_ := (hb.cell (World.block_lt_of_cell? _ _ (hHeld.2.2.1))).trans (hHeld.2.2.1)
                 have HS3_ := (hb.cell (World.block_lt_of_cell? _ _ (hHeld.2.2.2.1))).trans (hHeld.2.2.2.1)
                 have HS4_ := (hb.cell (World.block_lt_of_cell? _ _ (hHeld.2.2.2.2.1))).trans (hHeld.2.2.2.2.1)
                 have HS5_ := (hb.cell (World.block_lt_of_cell? _ _ (hHeld.2.2.2.2.2.1))).trans (hHeld.2.2.2.2.2.1)
                 have HS6_ := (hb.cell (World.block_lt_of_cell? _ _ (hHeld.2.2.2.2.2.2.1))).trans (hHeld.2.2.2.2.2.2.1)
                 have HS7_ := (hb.cell (World.block_lt_of_cell? _ _ (hHeld.2.2.2.2.2.2.2))).trans (hHeld.2.2.2.2.2.2.2)
                 have n0_ := Aside0.mk (Kd.R_below (by (with_reducible repeat (first | apply Kd.R_alloc | apply Kd.R_drewN | apply Kd.R_drew)); exact HO_3.out) hb)
                 have n1_ := Aside0.mk (Kd.R_below (by (with_reducible repeat (first | apply Kd.R_alloc | apply Kd.R_drewN | apply Kd.R_drew)); exact HO_5.out) hb)
                 have n2_ := Aside0.mk (Kd.R_below (by (with_reducible repeat (first | apply Kd.R_alloc | apply Kd.R_drewN | apply Kd.R_drew)); exact HO726.out) hb)
                 have n3_ := Aside0.mk (blk_below (g := gb721) BKz hb)
                 have n4_ := Aside0.mk (below_step HBz hb)
                 have n5_ := Aside0.mk (hbox)
                 have n6_ := Aside0.mk ((by rw [hg]; exact (below_size HBz) : w.heap.size ≤ gb733))
                 have n7_ := Aside0.mk ((by rw [hg]; exact (below_size HBz) : w.heap.size ≤ gb733))
                 have n8_ := Aside0.mk ((by rw [hg]; exact Nat.ne_of_lt (blk_lt (g := gb721) BKz) : gb721 ≠ gb733))
                 have n9_ := Aside0.mk ((by rw [hg]; exact Nat.ne_of_gt (blk_lt (g := gb721) BKz) : gb733 ≠ gb721))
                 clear HO_3
                 clear HO_5
                 clear HO726
                 clear BK721
                 clear HB
                 have HO_3 := n0_
                 have HO_5 := n1_
                 have HO726 := n2_
                 have BK721 := n3_
                 have HB := n4_
                 have BK733 := n5_
                 have GW733 := n6_
                 have GE733 := n7_
                 have NB721_733 := n8_
                 have NB733_721 := n9_
                 clear n0_ n1_ n2_ n3_ n4_ n5_ n6_ n7_ n8_ n9_
                 clear hb hbox hg
                 obtain ⟨Ao33, co33, eo33⟩ := Kd.R_slice HO726.out
                 (first | subst eo33 | (injection eo33 with f1_ f2_ f3_; have f4_ := f1_.symm; have f5_ := f3_.symm; clear f1_ f2_ f3_; subst f4_; subst f5_))
                 refine hK.out _ _ ⟨HS0_, HS1_, HS2_, HS3_, HS4_, HS5_, HS6_, HS7_⟩ (fun hHeld => ?_)
                 clear hK K
                 refine nz (some 10) ?_
                 refine oT HT_.out 9 (some 45) (bn 18 17407) (fun K hK => ?_)
                 refine gz Try.func40 #[.slice Ao33 y724.length co33] ?_
                 with_reducible refine (cover_Meet.calls k2 _ _ y724 t727 t728 t729 t732 _ ?side1 ?side2 A16.out).mono ?_
                 (case side1 => repeat (first | exact (Kd.R_reads' HO726.out).2.2 | (with_reducible refine Kd.C_alloc ?_ _) | (with_reducible refine Kd.C_drewN ?_ _) | (with_reducible refine Kd.C_drew ?_)))
                 (case side2 => exact (Kd.R_reads' HO726.out).2.1)
                 rintro e w34 ⟨v730, rfl, ho0, hb⟩
                 have HS0_ := (hb.cell (World.block_lt_of_cell? _ _ (hHeld.1))).trans (hHeld.1)
                 have HS1_ := (hb.cell (World.block_lt_of_cell? _ _ (hHeld.2.1))).trans (hHeld.2.1)
                 have HS2_ := (hb.cell (World.block_lt_of_cell? _ _ (hHeld.2.2.1))).trans (hHeld.2.2.1)
                 have HS3_ := (hb.cell (World.block_lt_of_cell? _ _ (hHeld.2.2.2.1))).trans (hHeld.2.2.2.1)
                 have HS4_ := (hb.cell (World.block_lt_of_cell? _ _ (hHeld.2.2.2.2.1))).trans (hHeld.2.2.2.2.1)
                 have HS5_ := (hb.cell (World.block_lt_of_cell? _ _ (hHeld.2.2.2.2.2.1))).trans (hHeld.2.2.2.2.2.1)
                 have HS6_ := (hb.cell (World.block_lt_of_cell? _ _ (hHeld.2.2.2.2.2.2.1))).trans (hHeld.2.2.2.2.2.2.1)
                 have HS7_ := (hb.cell (World.block_lt_of_cell? _ _ (hHeld.2.2.2.2.2.2.2))).trans (hHeld.2.2.2.2.2.2.2)
                 refine ⟨_, rfl, ?_⟩
                 have n0_ := Aside0.mk (Kd.R_below (by (with_reducible repeat (first | apply Kd.R_alloc | apply Kd.R_drewN | apply Kd.R_drew)); exact HO_3.out) hb)
                 have n1_ := Aside0.mk (Kd.R_elder' (by (with_reducible repeat (first | apply Kd.R_alloc | apply Kd.R_drewN | apply Kd.R_drew)); exact HO_5.out) (Kd.R_base ho0) hb)
                 have n2_ := Aside0.mk (Kd.R_below (by (with_reducible repeat (first | apply Kd.R_alloc | apply Kd.R_drewN | apply Kd.R_drew)); exact HO726.out) hb)
                 have n3_ := Aside0.mk (Kd.R_lower (Kd.R_new' ho0 (Kd.R_lt (by (with_reducible repeat (first | apply Kd.R_alloc | apply Kd.R_drewN | apply Kd.R_drew)); exact HO_5.out))) (below_size HBz))
                 have n4_ := Aside0.mk (blk_below (g := gb721) BKz hb)
                 have n5_ := Aside0.mk (blk_below (g := gb733) BKz hb)
                 have n6_ := Aside0.mk (below_step HBz hb)
                 clear HO_3
                 clear HO_5
                 clear HO726
                 clear BK721
                 clear BK733
                 clear HB
                 have HO_3 := n0_
                 have HO_5 := n1_
                 have HO726 := n2_
                 have HO731 := n3_
                 have BK721 := n4_
                 have BK733 := n5_
                 have HB := n6_
                 clear n0_ n1_ n2_ n3_ n4_ n5_ n6_
                 (try clear hb)
                 (try clear hb2)
                 (try clear hk)
                 (try clear hi)
                 (try clear ho0)
                 refine hK.out _ _ ⟨HS0_, HS1_, HS2_, HS3_, HS4_, HS5_, HS6_, HS7_⟩ (fun hHeld => ?_)
                 clear hK K
                 refine nz (some 45) ?_
                 refine pT HT_.out 10 (some 35) (bn 18 18431) ?_
                 refine pT HT_.out 11 (some 46) (bn 18 20479) ?_
                 refine pT HT_.out 12 (some 47) (bn 18 24575) ?_
                 refine pT HT_.out 13 (some 48) (bn 18 32767) ?_
                 exact norm_ (by simp only [putAll, Act.put, List.setIfInBounds_toArray, List.set_cons_zero, List.set_cons_succ]) (hCont (.slice Ao33 y724.length co33, v730, gb733) _ ⟨hHeld, (by (with_reducible repeat (first | apply Kd.R_alloc | apply Kd.R_drewN | apply Kd.R_drew)); exact Kd.R_mono HO726.out (fun _ hk => hk.2)), (by (with_reducible repeat (first | apply Kd.R_alloc | apply Kd.R_drewN | apply Kd.R_drew)); exact Kd.R_mono HO731.out (fun _ hk => hk.2)), (by (with_reducible repeat (first | apply Kd.R_alloc | apply Kd.R_drewN | apply Kd.R_drew)); exact Kd.R_mono HO_3.out (fun _ hk => hk.2)), (by (with_reducible repeat (first | apply Kd.R_alloc | apply Kd.R_drewN | apply Kd.R_drew)); exact Kd.R_mono HO_5.out (fun _ hk => hk.2)), BKz, BKz, GW733.out, GE733.out, NB721_733.out, NB733_721.out, HBz⟩)
               ·skip
                refine bxS 10 #[.int .i64 0, .int .i64 0] 28 ?_
                intro gb733 hg w30 hbox hb
                have HS0_ := (hb.cell (World.block_lt_of_cell? _ _ (hHeld.1))).trans (hHeld.1)
                have HS1_ := (hb.cell (World.block_lt_of_cell? _ _ (hHeld.2.1))).trans (hHeld.2.1)
                have HS2_ := (hb.cell (World.block_lt_of_cell? _ _ (hHeld.2.2.1))).trans (hHeld.2.2.1)
                have HS3_ := (hb.cell (World.block_lt_of_cell? _ _ (hHeld.2.2.2.1))).trans (hHeld.2.2.2.1)
                have HS4_ := (hb.cell (World.block_lt_of_cell? _ _ (hHeld.2.2.2.2.1))).trans (hHeld.2.2.2.2.1)
                have HS5_ := (hb.cell (World.block_lt_of_cell? _ _ (hHeld.2.2.2.2.2.1))).trans (hHeld.2.2.2.2.2.1)
                have HS6_ := (hb.cell (World.block_lt_of_cell? _ _ (hHeld.2.2.2.2.2.2.1))).trans (hHeld.2.2.2.2.2.2.1)
                have HS7_ := (hb.cell (World.block_lt_of_cell? _ _ (hHeld.2.2.2.2.2.2.2))).trans (hHeld.2.2.2.2.2.2.2)
                have n0_ := Aside0.mk (Kd.R_below (by (with_reducible repeat (first | apply Kd.R_alloc | apply Kd.R_drewN | apply Kd.R_drew)); exact HO_3.out) hb)
                have n1_ := Aside0.mk (Kd.R_below (by (with_reducible repeat (first | apply Kd.R_alloc | apply Kd.R_drewN | apply Kd.R_drew)); exact HO_5.out) hb)
                have n2_ := Aside0.mk (blk_below (g := gb721) BKz hb)
                have n3_ := Aside0.mk (below_step HBz hb)
                have n4_ := Aside0.mk (hbox)
                have n5_ := Aside0.mk ((by rw [hg]; exact (below_size HBz) : w.heap.size ≤ gb733))
                have n6_ := Aside0.mk ((by rw [hg]; exact (below_size HBz) : w.heap.size ≤ gb733))
                have n7_ := Aside0.mk ((by rw [hg]; exact Nat.ne_of_lt (blk_lt (g := gb721) BKz) : gb721 ≠ gb733))
                have n8_ := Aside0.mk ((by rw [hg]; exact Nat.ne_of_gt (blk_lt (g := gb721) BKz) : gb733 ≠ gb721))
                clear HO_3
                clear HO_5
                clear BK721
                clear HB
                have HO_3 := n0_
                have HO_5 := n1_
                have BK721 := n2_
                have HB := n3_
                have BK733 := n4_
                have GW733 := n5_
                have GE733 := n6_
                have NB721_733 := n7_
                have NB733_721 := n8_
                clear n0_ n1_ n2_ n3_ n4_ n5_ n6_ n7_ n8_
                clear hb hbox hg
                refine hK.out _ _ ⟨HS0_, HS1_, HS2_, HS3_, HS4_, HS5_, HS6_, HS7_⟩ (fun hHeld => ?_)
                clear hK K
                refine nz (some 10) ?_
                refine oT HT_.out 8 (some 44) (bn 18 16895) (fun K hK => ?_)
                refine Kd.R_lit_step k48 _ 48 ?hg (N := 44) ?hd (xs := ([(⟨(rd_T48 t712 x8_1).f0, (rd_T48 t712 x8_1).f1, (rd_T48 t712 x8_1).f2, (rd_T48 t712 x8_1).f3⟩ : S48), (⟨(rd_T48 t712 x9_2).f0, (rd_T48 t712 x9_2).f1, (rd_T48 t712 x9_2).f2, (rd_T48 t712 x9_2).f3⟩ : S48)] : List (S48))) (inner := [.int .i64 ((rd_T48 t712 x8_1).f0), .int .i64 ((rd_T48 t712 x8_1).f1), .int .i64 ((rd_T48 t712 x8_1).f2), .int .i64 ((rd_T48 t712 x8_1).f3), .int .i64 ((rd_T48 t712 x9_2).f0), .int .i64 ((rd_T48 t712 x9_2).f1), .int .i64 ((rd_T48 t712 x9_2).f2), .int .i64 ((rd_T48 t712 x9_2).f3)]) (ok := fun _ => True) (okp := fun _ => True) ?hr ?hp (fun _ hk => hk) trivial (Below.refl _ _) (Nat.le_refl _) (by simp) ?_; (case hd => rfl); (case hg => rfl); (case hr => first | (go_simp; done) | (go_simp; rfl)); (case hp => exact (Reps.c4 (show Kd.M k48 _ _ _ (⟨(rd_T48 t712 x8_1).f0, (rd_T48 t712 x8_1).f1, (rd_T48 t712 x8_1).f2, (rd_T48 t712 x8_1).f3⟩ : S48) [.int .i64 ((rd_T48 t712 x8_1).f0), .int .i64 ((rd_T48 t712 x8_1).f1), .int .i64 ((rd_T48 t712 x8_1).f2), .int .i64 ((rd_T48 t712 x8_1).f3)] from (k48_mkM _ _ _ (⟨(rd_T48 t712 x8_1).f0, (rd_T48 t712 x8_1).f1, (rd_T48 t712 x8_1).f2, (rd_T48 t712 x8_1).f3⟩ : S48) )) (Reps.c4 (show Kd.M k48 _ _ _ (⟨(rd_T48 t712 x9_2).f0, (rd_T48 t712 x9_2).f1, (rd_T48 t712 x9_2).f2, (rd_T48 t712 x9_2).f3⟩ : S48) [.int .i64 ((rd_T48 t712 x9_2).f0), .int .i64 ((rd_T48 t712 x9_2).f1), .int .i64 ((rd_T48 t712 x9_2).f2), .int .i64 ((rd_T48 t712 x9_2).f3)] from (k48_mkM _ _ _ (⟨(rd_T48 t712 x9_2).f0, (rd_T48 t712 x9_2).f1, (rd_T48 t712 x9_2).f2, (rd_T48 t712 x9_2).f3⟩ : S48) )) (Reps.none _ _))))
                intro v725 w31 ho32 hb hg_ hnew_
                have HS0_ := (hb.cell (World.block_lt_of_cell? _ _ (hHeld.1))).trans (hHeld.1)
                have HS1_ := (hb.cell (World.block_lt_of_cell? _ _ (hHeld.2.1))).trans (hHeld.2.1)
                have HS2_ := (hb.cell (World.block_lt_of_cell? _ _ (hHeld.2.2.1))).trans (hHeld.2.2.1)
                have HS3_ := (hb.cell (World.block_lt_of_cell? _ _ (hHeld.2.2.2.1))).trans (hHeld.2.2.2.1)
                have HS4_ := (hb.cell (World.block_lt_of_cell? _ _ (hHeld.2.2.2.2.1))).trans (hHeld.2.2.2.2.1)
                have HS5_ := (hb.cell (World.block_lt_of_cell? _ _ (hHeld.2.2.2.2.2.1))).trans (hHeld.2.2.2.2.2.1)
                have HS6_ := (hb.cell (World.block_lt_of_cell? _ _ (hHeld.2.2.2.2.2.2.1))).trans (hHeld.2.2.2.2.2.2.1)
                have HS7_ := (hb.cell (World.block_lt_of_cell? _ _ (hHeld.2.2.2.2.2.2.2))).trans (hHeld.2.2.2.2.2.2.2)
                clear hg_ hnew_
                (first | rw [← Ny724.out] at ho32 | (simp only [Int.reduceToNat] at ho32; rw [← Ny724.out] at ho32))
                have n0_ := Aside0.mk (Kd.R_elder' (by (with_reducible repeat (first | apply Kd.R_alloc | apply Kd.R_drewN | apply Kd.R_drew)); exact HO_3.out) (Kd.R_base ho32) hb)
                have n1_ := Aside0.mk (Kd.R_below (by (with_reducible repeat (first | apply Kd.R_alloc | apply Kd.R_drewN | apply Kd.R_drew)); exact HO_5.out) hb)
                have n2_ := Aside0.mk (Kd.R_lower (Kd.R_new' ho32 (Kd.R_lt (by (with_reducible repeat (first | apply Kd.R_alloc | apply Kd.R_drewN | apply Kd.R_drew)); exact HO_3.out))) (below_size HBz))
                have n3_ := Aside0.mk (blk_below (g := gb721) BKz hb)
                have n4_ := Aside0.mk (blk_below (g := gb733) BKz hb)
                have n5_ := Aside0.mk (below_step HBz hb)
                clear HO_3
                clear HO_5
                clear BK721
                clear BK733
                clear HB
                have HO_3 := n0_
                have HO_5 := n1_
                have HO726 := n2_
                have BK721 := n3_
                have BK733 := n4_
                have HB := n5_
                clear n0_ n1_ n2_ n3_ n4_ n5_
                clear hb ho32
                obtain ⟨Ao33, co33, eo33⟩ := Kd.R_slice HO726.out
                (first | subst eo33 | (injection eo33 with f1_ f2_ f3_; have f4_ := f1_.symm; have f5_ := f3_.symm; clear f1_ f2_ f3_; subst f4_; subst f5_))
                refine hK.out _ _ ⟨HS0_, HS1_, HS2_, HS3_, HS4_, HS5_, HS6_, HS7_⟩ (fun hHeld => ?_)
                clear hK K
                refine nz (some 44) ?_
                refine oT HT_.out 9 (some 45) (bn 18 17407) (fun K hK => ?_)
                refine gz Try.func40 #[.slice Ao33 y724.length co33] ?_
                with_reducible refine (cover_Meet.calls k2 _ _ y724 t727 t728 t729 t732 _ ?side1 ?side2 A16.out).mono ?_
                (case side1 => repeat (first | exact (Kd.R_reads' HO726.out).2.2 | (with_reducible refine Kd.C_alloc ?_ _) | (with_reducible refine Kd.C_drewN ?_ _) | (with_reducible refine Kd.C_drew ?_)))
                (case side2 => exact (Kd.R_reads' HO726.out).2.1)
                rintro e w34 ⟨v730, rfl, ho0, hb⟩
                have HS0_ := (hb.cell (World.block_lt_of_cell? _ _ (hHeld.1))).trans (hHeld.1)
                have HS1_ := (hb.cell (World.block_lt_of_cell? _ _ (hHeld.2.1))).trans (hHeld.2.1)
                have HS2_ := (hb.cell (World.block_lt_of_cell? _ _ (hHeld.2.2.1))).trans (hHeld.2.2.1)
                have HS3_ := (hb.cell (World.block_lt_of_cell? _ _ (hHeld.2.2.2.1))).trans (hHeld.2.2.2.1)
                have HS4_ := (hb.cell (World.block_lt_of_cell? _ _ (hHeld.2.2.2.2.1))).trans (hHeld.2.2.2.2.1)
                have HS5_ := (hb.cell (World.block_lt_of_cell? _ _ (hHeld.2.2.2.2.2.1))).trans (hHeld.2.2.2.2.2.1)
                have HS6_ := (hb.cell (World.block_lt_of_cell? _ _ (hHeld.2.2.2.2.2.2.1))).trans (hHeld.2.2.2.2.2.2.1)
                have HS7_ := (hb.cell (World.block_lt_of_cell? _ _ (hHeld.2.2.2.2.2.2.2))).trans (hHeld.2.2.2.2.2.2.2)
                refine ⟨_, rfl, ?_⟩
                have n0_ := Aside0.mk (Kd.R_below (by (with_reducible repeat (first | apply Kd.R_alloc | apply Kd.R_drewN | apply Kd.R_drew)); exact HO_3.out) hb)
                have n1_ := Aside0.mk (Kd.R_elder' (by (with_reducible repeat (first | apply Kd.R_alloc | apply Kd.R_drewN | apply Kd.R_drew)); exact HO_5.out) (Kd.R_base ho0) hb)
                have n2_ := Aside0.mk (Kd.R_below (by (with_reducible repeat (first | apply Kd.R_alloc | apply Kd.R_drewN | apply Kd.R_drew)); exact HO726.out) hb)
                have n3_ := Aside0.mk (Kd.R_lower (Kd.R_new' ho0 (Kd.R_lt (by (with_reducible repeat (first | apply Kd.R_alloc | apply Kd.R_drewN | apply Kd.R_drew)); exact HO_5.out))) (below_size HBz))
                have n4_ := Aside0.mk (blk_below (g := gb721) BKz hb)
                have n5_ := Aside0.mk (blk_below (g := gb733) BKz hb)
                have n6_ := Aside0.mk (below_step HBz hb)
                clear HO_3
                clear HO_5
                clear HO726
                clear BK721
                clear BK733
                clear HB
                have HO_3 := n0_
                have HO_5 := n1_
                have HO726 := n2_
                have HO731 := n3_
                have BK721 := n4_
                have BK733 := n5_
                have HB := n6_
                clear n0_ n1_ n2_ n3_ n4_ n5_ n6_
                (try clear hb)
                (try clear hb2)
                (try clear hk)
                (try clear hi)
                (try clear ho0)
                refine hK.out _ _ ⟨HS0_, HS1_, HS2_, HS3_, HS4_, HS5_, HS6_, HS7_⟩ (fun hHeld => ?_)
                clear hK K
                refine nz (some 45) ?_
                refine pT HT_.out 10 (some 35) (bn 18 18431) ?_
                refine pT HT_.out 11 (some 46) (bn 18 20479) ?_
                refine pT HT_.out 12 (some 47) (bn 18 24575) ?_
                refine pT HT_.out 13 (some 48) (bn 18 32767) ?_
                exact norm_ (by simp only [putAll, Act.put, List.setIfInBounds_toArray, List.set_cons_zero, List.set_cons_succ]) (hCont (.slice Ao33 y724.length co33, v730, gb733) _ ⟨hHeld, (by (with_reducible repeat (first | apply Kd.R_alloc | apply Kd.R_drewN | apply Kd.R_drew)); exact Kd.R_mono HO726.out (fun _ hk => hk.2)), (by (with_reducible repeat (first | apply Kd.R_alloc | apply Kd.R_drewN | apply Kd.R_drew)); exact Kd.R_mono HO731.out (fun _ hk => hk.2)), (by (with_reducible repeat (first | apply Kd.R_alloc | apply Kd.R_drewN | apply Kd.R_drew)); exact Kd.R_mono HO_3.out (fun _ hk => hk.2)), (by (with_reducible repeat (first | apply Kd.R_alloc | apply Kd.R_drewN | apply Kd.R_drew)); exact Kd.R_mono HO_5.out (fun _ hk => hk.2)), BKz, BKz, GW733.out, GE733.out, NB721_733.out, NB733_721.out, HBz⟩)
              rintro ⟨v725, v730, gb733⟩ w35 ⟨hS_, h0_, h1_, h2_, h3_, h4_, h5_, h6_, h7_, h8_, h9_, h10_⟩
              have n0_ : Aside0 (Kd.R k48 48 w35 w.heap.size (fun k_ => some k_ ≠ (.slice (some ad722) t712.length co6 : Value).ownBlock) v725 y724) := ⟨h0_⟩
              have n1_ : Aside0 (Kd.R (Kd.int .i64) 3 w35 w.heap.size (fun k_ => some k_ ≠ (v718 : Value).ownBlock) v730 t729) := ⟨h1_⟩
              have n2_ : Aside0 (Kd.R k48 48 w35 w.heap.size (fun k_ => some k_ ≠ (v725 : Value).ownBlock) (.slice (some ad722) t712.length co6) t712) := ⟨h2_⟩
              have n3_ : Aside0 (Kd.R (Kd.int .i64) 3 w35 w.heap.size (fun k_ => some k_ ≠ (v730 : Value).ownBlock) v718 t717) := ⟨h3_⟩
              have n4_ : Aside0 (w35.heap[gb721]? = some (.cells #[.int .i64 t715, .int .i64 t716] 28 (0, 0))) := ⟨h4_⟩
              have n5_ : Aside0 (w35.heap[gb733]? = some (.cells #[.int .i64 0, .int .i64 0] 28 (0, 0))) := ⟨h5_⟩
              have n6_ : Aside0 (w.heap.size ≤ gb733) := ⟨h6_⟩
              have n7_ : Aside0 (w.heap.size ≤ gb733) := ⟨h7_⟩
              have n8_ : Aside0 (gb721 ≠ gb733) := ⟨h8_⟩
              have n9_ : Aside0 (gb733 ≠ gb721) := ⟨h9_⟩
              have n10_ : Aside0 (Below w.heap.size w w35) := ⟨h10_⟩
              clear HO_3
              clear HO_5
              clear BK721
              clear HB
              clear h0_ h1_ h2_ h3_ h4_ h5_ h6_ h7_ h8_ h9_ h10_
              have HO726 := n0_
              have HO731 := n1_
              have HO_3 := n2_
              have HO_5 := n3_
              have BK721 := n4_
              have BK733 := n5_
              have GW733 := n6_
              have GE733 := n7_
              have NB721_733 := n8_
              have NB733_721 := n9_
              have HB := n10_
              clear n0_ n1_ n2_ n3_ n4_ n5_ n6_ n7_ n8_ n9_ n10_
              have hHeld : w35.cell? (ad722.add ((x8_1).toNat * 4)) = some (.int .i64 ((rd_T48 t712 x8_1).f0)) ∧ w35.cell? ⟨(ad722.add ((x8_1).toNat * 4)).block, (ad722.add ((x8_1).toNat * 4)).off + 1, none⟩ = some (.int .i64 ((rd_T48 t712 x8_1).f1)) ∧ w35.cell? ⟨(ad722.add ((x8_1).toNat * 4)).block, (ad722.add ((x8_1).toNat * 4)).off + 2, none⟩ = some (.int .i64 ((rd_T48 t712 x8_1).f2)) ∧ w35.cell? ⟨(ad722.add ((x8_1).toNat * 4)).block, (ad722.add ((x8_1).toNat * 4)).off + 3, none⟩ = some (.int .i64 ((rd_T48 t712 x8_1).f3)) ∧ w35.cell? (ad722.add ((x9_2).toNat * 4)) = some (.int .i64 ((rd_T48 t712 x9_2).f0)) ∧ w35.cell? ⟨(ad722.add ((x9_2).toNat * 4)).block, (ad722.add ((x9_2).toNat * 4)).off + 1, none⟩ = some (.int .i64 ((rd_T48 t712 x9_2).f1)) ∧ w35.cell? ⟨(ad722.add ((x9_2).toNat * 4)).block, (ad722.add ((x9_2).toNat * 4)).off + 2, none⟩ = some (.int .i64 ((rd_T48 t712 x9_2).f2)) ∧ w35.cell? ⟨(ad722.add ((x9_2).toNat * 4)).block, (ad722.add ((x9_2).toNat * 4)).off + 3, none⟩ = some (.int .i64 ((rd_T48 t712 x9_2).f3)) := hS_
              refine norm_ (a' := ?_) ?_ ?_
              rotate_left
              ·simp only [putAll, Act.put, List.setIfInBounds_toArray, List.set_cons_zero, List.set_cons_succ]
               rfl
              refine oT HT_.out 15 none (bn 18 65535) (fun K hK => ?_)
              have hs36 : w35.cell? ⟨gb733, 0, none⟩ = some (.int .i64 0) := (blk_cell BK733.out 0).trans rfl
              have hfs36 := blk_frozen BK733.out 0
              have hns36_0 := NB721_733.out
              have hms36_0 := NB733_721.out
              have hs37 : w35.cell? ⟨gb733, 1, none⟩ = some (.int .i64 0) := (blk_cell BK733.out 1).trans rfl
              have hfs37 := blk_frozen BK733.out 1
              have hns37_0 := NB721_733.out
              have hms37_0 := NB733_721.out
              refine sz ?_
              refine hK.out _ _ ⟨((cell_far (p := ⟨gb733, _, none⟩) (by first | exact Kd.own_blk (Kd.R_ne HO_3.out BK733.out (by decide)) | (rw [add_block]; exact Kd.own_blk (Kd.R_ne HO_3.out BK733.out (by decide))) | (show (Addr.add _ _).block ≠ _; rw [add_block]; exact Kd.own_blk (Kd.R_ne HO_3.out BK733.out (by decide))) | (dsimp only; exact Kd.own_blk (Kd.R_ne HO_3.out BK733.out (by decide)))) _).trans (((cell_far (p := ⟨gb733, _, none⟩) (by first | exact Kd.own_blk (Kd.R_ne HO_3.out BK733.out (by decide)) | (rw [add_block]; exact Kd.own_blk (Kd.R_ne HO_3.out BK733.out (by decide))) | (show (Addr.add _ _).block ≠ _; rw [add_block]; exact Kd.own_blk (Kd.R_ne HO_3.out BK733.out (by decide))) | (dsimp only; exact Kd.own_blk (Kd.R_ne HO_3.out BK733.out (by decide)))) _).trans (hHeld.1)))), ((cell_far (p := ⟨gb733, _, none⟩) (by first | exact Kd.own_blk (Kd.R_ne HO_3.out BK733.out (by decide)) | (rw [add_block]; exact Kd.own_blk (Kd.R_ne HO_3.out BK733.out (by decide))) | (show (Addr.add _ _).block ≠ _; rw [add_block]; exact Kd.own_blk (Kd.R_ne HO_3.out BK733.out (by decide))) | (dsimp only; exact Kd.own_blk (Kd.R_ne HO_3.out BK733.out (by decide)))) _).trans (((cell_far (p := ⟨gb733, _, none⟩) (by first | exact Kd.own_blk (Kd.R_ne HO_3.out BK733.out (by decide)) | (rw [add_block]; exact Kd.own_blk (Kd.R_ne HO_3.out BK733.out (by decide))) | (show (Addr.add _ _).block ≠ _; rw [add_block]; exact Kd.own_blk (Kd.R_ne HO_3.out BK733.out (by decide))) | (dsimp only; exact Kd.own_blk (Kd.R_ne HO_3.out BK733.out (by decide)))) _).trans (hHeld.2.1)))), ((cell_far (p := ⟨gb733, _, none⟩) (by first | exact Kd.own_blk (Kd.R_ne HO_3.out BK733.out (by decide)) | (rw [add_block]; exact Kd.own_blk (Kd.R_ne HO_3.out BK733.out (by decide))) | (show (Addr.add _ _).block ≠ _; rw [add_block]; exact Kd.own_blk (Kd.R_ne HO_3.out BK733.out (by decide))) | (dsimp only; exact Kd.own_blk (Kd.R_ne HO_3.out BK733.out (by decide)))) _).trans (((cell_far (p := ⟨gb733, _, none⟩) (by first | exact Kd.own_blk (Kd.R_ne HO_3.out BK733.out (by decide)) | (rw [add_block]; exact Kd.own_blk (Kd.R_ne HO_3.out BK733.out (by decide))) | (show (Addr.add _ _).block ≠ _; rw [add_block]; exact Kd.own_blk (Kd.R_ne HO_3.out BK733.out (by decide))) | (dsimp only; exact Kd.own_blk (Kd.R_ne HO_3.out BK733.out (by decide)))) _).trans (hHeld.2.2.1)))), ((cell_far (p := ⟨gb733, _, none⟩) (by first | exact Kd.own_blk (Kd.R_ne HO_3.out BK733.out (by decide)) | (rw [add_block]; exact Kd.own_blk (Kd.R_ne HO_3.out BK733.out (by decide))) | (show (Addr.add _ _).block ≠ _; rw [add_block]; exact Kd.own_blk (Kd.R_ne HO_3.out BK733.out (by decide))) | (dsimp only; exact Kd.own_blk (Kd.R_ne HO_3.out BK733.out (by decide)))) _).trans (((cell_far (p := ⟨gb733, _, none⟩) (by first | exact Kd.own_blk (Kd.R_ne HO_3.out BK733.out (by decide)) | (rw [add_block]; exact Kd.own_blk (Kd.R_ne HO_3.out BK733.out (by decide))) | (show (Addr.add _ _).block ≠ _; rw [add_block]; exact Kd.own_blk (Kd.R_ne HO_3.out BK733.out (by decide))) | (dsimp only; exact Kd.own_blk (Kd.R_ne HO_3.out BK733.out (by decide)))) _).trans (hHeld.2.2.2.1)))), ((cell_far (p := ⟨gb733, _, none⟩) (by first | exact Kd.own_blk (Kd.R_ne HO_3.out BK733.out (by decide)) | (rw [add_block]; exact Kd.own_blk (Kd.R_ne HO_3.out BK733.out (by decide))) | (show (Addr.add _ _).block ≠ _; rw [add_block]; exact Kd.own_blk (Kd.R_ne HO_3.out BK733.out (by decide))) | (dsimp only; exact Kd.own_blk (Kd.R_ne HO_3.out BK733.out (by decide)))) _).trans (((cell_far (p := ⟨gb733, _, none⟩) (by first | exact Kd.own_blk (Kd.R_ne HO_3.out BK733.out (by decide)) | (rw [add_block]; exact Kd.own_blk (Kd.R_ne HO_3.out BK733.out (by decide))) | (show (Addr.add _ _).block ≠ _; rw [add_block]; exact Kd.own_blk (Kd.R_ne HO_3.out BK733.out (by decide))) | (dsimp only; exact Kd.own_blk (Kd.R_ne HO_3.out BK733.out (by decide)))) _).trans (hHeld.2.2.2.2.1)))), ((cell_far (p := ⟨gb733, _, none⟩) (by first | exact Kd.own_blk (Kd.R_ne HO_3.out BK733.out (by decide)) | (rw [add_block]; exact Kd.own_blk (Kd.R_ne HO_3.out BK733.out (by decide))) | (show (Addr.add _ _).block ≠ _; rw [add_block]; exact Kd.own_blk (Kd.R_ne HO_3.out BK733.out (by decide))) | (dsimp only; exact Kd.own_blk (Kd.R_ne HO_3.out BK733.out (by decide)))) _).trans (((cell_far (p := ⟨gb733, _, none⟩) (by first | exact Kd.own_blk (Kd.R_ne HO_3.out BK733.out (by decide)) | (rw [add_block]; exact Kd.own_blk (Kd.R_ne HO_3.out BK733.out (by decide))) | (show (Addr.add _ _).block ≠ _; rw [add_block]; exact Kd.own_blk (Kd.R_ne HO_3.out BK733.out (by decide))) | (dsimp only; exact Kd.own_blk (Kd.R_ne HO_3.out BK733.out (by decide)))) _).trans (hHeld.2.2.2.2.2.1)))), ((cell_far (p := ⟨gb733, _, none⟩) (by first | exact Kd.own_blk (Kd.R_ne HO_3.out BK733.out (by decide)) | (rw [add_block]; exact Kd.own_blk (Kd.R_ne HO_3.out BK733.out (by decide))) | (show (Addr.add _ _).block ≠ _; rw [add_block]; exact Kd.own_blk (Kd.R_ne HO_3.out BK733.out (by decide))) | (dsimp only; exact Kd.own_blk (Kd.R_ne HO_3.out BK733.out (by decide)))) _).trans (((cell_far (p := ⟨gb733, _, none⟩) (by first | exact Kd.own_blk (Kd.R_ne HO_3.out BK733.out (by decide)) | (rw [add_block]; exact Kd.own_blk (Kd.R_ne HO_3.out BK733.out (by decide))) | (show (Addr.add _ _).block ≠ _; rw [add_block]; exact Kd.own_blk (Kd.R_ne HO_3.out BK733.out (by decide))) | (dsimp only; exact Kd.own_blk (Kd.R_ne HO_3.out BK733.out (by decide)))) _).trans (hHeld.2.2.2.2.2.2.1)))), ((cell_far (p := ⟨gb733, _, none⟩) (by first | exact Kd.own_blk (Kd.R_ne HO_3.out BK733.out (by decide)) | (rw [add_block]; exact Kd.own_blk (Kd.R_ne HO_3.out BK733.out (by decide))) | (show (Addr.add _ _).block ≠ _; rw [add_block]; exact Kd.own_blk (Kd.R_ne HO_3.out BK733.out (by decide))) | (dsimp only; exact Kd.own_blk (Kd.R_ne HO_3.out BK733.out (by decide)))) _).trans (((cell_far (p := ⟨gb733, _, none⟩) (by first | exact Kd.own_blk (Kd.R_ne HO_3.out BK733.out (by decide)) | (rw [add_block]; exact Kd.own_blk (Kd.R_ne HO_3.out BK733.out (by decide))) | (show (Addr.add _ _).block ≠ _; rw [add_block]; exact Kd.own_blk (Kd.R_ne HO_3.out BK733.out (by decide))) | (dsimp only; exact Kd.own_blk (Kd.R_ne HO_3.out BK733.out (by decide)))) _).trans (hHeld.2.2.2.2.2.2.2))))⟩ (fun hHeld => ?_)
              clear hK K
              refine pT HT_.out 16 (some 11) (bn 18 131071) ?_
              refine pT HT_.out 17 (some 12) (bn 18 262143) ?_
              refine done_ (done_of HT_.out (by kernel_rfl)) ?_
              try go_wp2
              go_roundg k2
              case measure => have := HK1.out; have := HK2.out; omega
              case rel => exact ⟨(false), (wrap64 (x9_2 + 1)), (by first | rfl | (simp; done) | (simp [*]; done)), (by first | rfl | (simp; done) | (simp [*]; done)), H', ⟨by have := HK1.out; have := HK2.out; omega⟩, ⟨by (with_reducible repeat (first | apply Kd.R_alloc | apply Kd.R_drewN | apply Kd.R_drew)); exact Kd.R_mono (Kd.R_far (p := ⟨gb733, 1, none⟩) (Kd.R_far (p := ⟨gb733, 0, none⟩) (Kd.R_types HO_3.out BK733.out (by decide)) (fun _ hk => hk.2) (.int .i64 t727)) (fun _ hk => hk.2) (.int .i64 t728)) (fun _ hk => trivial)⟩, ⟨by (with_reducible repeat (first | apply Kd.R_alloc | apply Kd.R_drewN | apply Kd.R_drew)); exact Kd.R_mono (Kd.R_far (p := ⟨gb733, 1, none⟩) (Kd.R_far (p := ⟨gb733, 0, none⟩) (Kd.R_types HO_5.out BK733.out (by decide)) (fun _ hk => hk.2) (.int .i64 t727)) (fun _ hk => hk.2) (.int .i64 t728)) (fun _ hk => trivial)⟩, ⟨by (with_reducible repeat (first | refine blk_drewN ?_ _ | refine blk_drew ?_ | refine blk_alloc ?_ _)); refine blk_far ?_ NB721_733.out _; (with_reducible repeat (first | refine blk_drewN ?_ _ | refine blk_drew ?_ | refine blk_alloc ?_ _)); refine blk_far ?_ NB721_733.out _; (with_reducible repeat (first | refine blk_drewN ?_ _ | refine blk_drew ?_ | refine blk_alloc ?_ _)); exact BK721.out⟩, ⟨HBz⟩⟩
            ·rw [if_neg c17] at H
             have c17b0 : (t732 == 0) = false := beq_eq_false_iff_ne.mpr c17
             have c17b1 : (t732 != 0) = true := bne_iff_ne.mpr c17
             exact absurd (H.trans (congrArg some HRT.out)) (by simp)
           ·rw [if_neg c15] at H
            exact absurd H (by simp)
          ·rw [if_neg c14] at H
           exact absurd H (by simp)
         ·rw [if_neg c13] at H
          exact absurd H (by simp)
        ·rw [if_neg c12] at H
         exact absurd H (by simp)
       ·rw [if_neg c11] at H
        have c11b0 : decide (x9_2 < x8_1) = false := decide_eq_false c11
        clear c11
        have H' := Aside0.mk H
        clear H
        go_wp2
        go_roundg k2
        case measure => have := HK1.out; have := HK2.out; omega
        case rel => exact ⟨(x7_2), (wrap64 (x8_1 + 1)), (by first | rfl | (simp; done) | (simp [*]; done)), (by first | rfl | (simp; done) | (simp [*]; done)), H', ⟨by have := HK1.out; have := HK2.out; omega⟩, ⟨by (with_reducible repeat (first | apply Kd.R_alloc | apply Kd.R_drewN | apply Kd.R_drew)); exact HO_3.out⟩, ⟨by (with_reducible repeat (first | apply Kd.R_alloc | apply Kd.R_drewN | apply Kd.R_drew)); exact HO_5.out⟩, ⟨by (with_reducible repeat (first | refine blk_drewN ?_ _ | refine blk_drew ?_ | refine blk_alloc ?_ _)); exact BK721.out⟩, ⟨HBz⟩⟩
    ·rw [if_neg c10] at H
     have c10b0 : decide (x8_1 < (t712.length : Int)) = false := decide_eq_false c10
     clear c10
     by_cases c38 : (t717.length : Int) > 0
     ·rw [if_pos c38] at H
      have c38b0 : decide (0 < (t717.length : Int)) = true := decide_eq_true c38
      have c38b1 : decide (0 < t717.length) = true := decide_eq_true (by omega)
      clear c38
      by_cases c39 : x7_1 = true
      ·subst c39
       have H1 : (some false) = some r := by rw [if_pos rfl] at H; exact H
       clear H
       have H := H1
       clear H1
       exact absurd (H.trans (congrArg some HRT.out)) (by simp)
      ·replace c39 := Bool.eq_false_iff.mpr c39
       subst c39
       have H1 : ((tickinglaw01_awake.f k1).bind fun t734 => (some t734)) = some r := by rw [if_neg (show ¬ (false = true) by decide)] at H; exact H
       clear H
       have H := H1
       clear H1
       replace H := Option.bind_eq_some_iff.mp H
       obtain ⟨t734, A400, H⟩ := H
       replace H : (some t734) = some r := H
       have A40 := Aside0.mk A400
       clear A400
       obtain rfl := Option.some.inj H
       obtain ⟨Ao41, co41, eo41⟩ := Kd.R_slice HO_5.out
       subst eo41
       go_wp2_with (first | (go_at_call 21; (with_reducible refine (tickinglaw01_awake.calls k1  t734 _ A40.out).mono ?_); rintro e w42 ⟨rfl, hb⟩; have n0_ := Aside0.mk (Kd.R_below (by (with_reducible repeat (first | apply Kd.R_alloc | apply Kd.R_drewN | apply Kd.R_drew)); exact HO_3.out) hb); have n1_ := Aside0.mk (Kd.R_below (by (with_reducible repeat (first | apply Kd.R_alloc | apply Kd.R_drewN | apply Kd.R_drew)); exact HO_5.out) hb); have n2_ := Aside0.mk (blk_below (g := gb721) BKz hb); have n3_ := Aside0.mk (below_step HBz hb); clear HO_3; clear HO_5; clear BK721; clear HB; have HO_3 := n0_; have HO_5 := n1_; have BK721 := n2_; have HB := n3_; clear n0_ n1_ n2_ n3_; (try clear hb); (try clear hb2); (try clear hk); (try clear hi)))
       go_ret
       exact ⟨by first | rfl | (simp [errW_none, errW_some] <;> rfl) | (simp [*, errW_none, errW_some] <;> rfl), HBz⟩
     ·rw [if_neg c38] at H
      have c38b0 : decide (0 < (t717.length : Int)) = false := decide_eq_false c38
      have c38b1 : decide (0 < t717.length) = false := decide_eq_false (by omega)
      clear c38
      have H' := Aside0.mk H
      clear H
      obtain ⟨Ao43, co43, eo43⟩ := Kd.R_slice HO_5.out
      subst eo43
      go_wp2
      go_loopg [13] k1 (fun kq v13 w' => ∃ (x13_2 : Int), v13 = .int .i64 x13_2 ∧ Aside0 (tickinglaw01_CoverPairs.l2 kq t712 x7_1 x13_2 t715 t716 = some r) ∧ Aside0 (kq ≤ k1) ∧ Aside0 (Kd.R k48 48 w' w.heap.size (fun _ => True) (.slice Ao6 t712.length co6) t712) ∧ Aside0 (w'.heap[gb721]? = some (.cells #[.int .i64 t715, .int .i64 t716] 28 (0, 0))) ∧ Aside0 (Below w.heap.size w w'))
      case atStart => exact ⟨(0), (by first | rfl | (simp; done) | (simp [*]; done)), H', ⟨Nat.le_refl _⟩, ⟨by (with_reducible repeat (first | apply Kd.R_alloc | apply Kd.R_drewN | apply Kd.R_drew)); exact HO_3.out⟩, ⟨by (with_reducible repeat (first | refine blk_drewN ?_ _ | refine blk_drew ?_ | refine blk_alloc ?_ _)); exact BK721.out⟩, ⟨HBz⟩⟩
      case round =>
       clear H'
       try clear c1
       try clear p2
       try clear c3
       try clear c4
       try clear p6
       try clear c10
       try clear c10b0
       try clear c11
       try clear c11b0
       try clear c12
       try clear c13
       try clear c14
       try clear c15
       try clear c17
       try clear c17b0
       try clear c17b1
       try clear c38
       try clear c38b0
       try clear c38b1
       try clear c39
       try clear c40
       obtain ⟨x13_2, rfl, HA, HK2, HO_3, BK721, HB⟩ := hrel
       cases gk with
       | zero => exact absurd HA.out (by simp [tickinglaw01_CoverPairs.l2])
       | succ k2 =>
        have H := HA.out
        clear HA
        simp only [tickinglaw01_CoverPairs.l2] at H
        by_cases c44 : x13_2 < (t712.length : Int)
        ·rw [if_pos c44] at H
         have c44b0 : decide (x13_2 < (t712.length : Int)) = true := decide_eq_true c44
         clear c44
         by_cases c45 : 0 ≤ x13_2
         ·rw [if_pos c45] at H
          have c45b0 : decide (0 ≤ x13_2) = true := decide_eq_true c45
          clear c45
          by_cases c46 : t715 < ((rd_T48 t712 x13_2).f0)
          ·rw [if_pos c46] at H
           have c46b0 : decide (t715 < ((rd_T48 t712 x13_2).f0)) = true := decide_eq_true c46
           clear c46
           exact absurd (H.trans (congrArg some HRT.out)) (by simp)
          ·rw [if_neg c46] at H
           have c46b0 : decide (t715 < ((rd_T48 t712 x13_2).f0)) = false := decide_eq_false c46
           clear c46
           by_cases c47 : t715 > ((rd_T48 t712 x13_2).f2)
           ·rw [if_pos c47] at H
            have c47b0 : decide (((rd_T48 t712 x13_2).f2) < t715) = true := decide_eq_true c47
            clear c47
            exact absurd (H.trans (congrArg some HRT.out)) (by simp)
           ·rw [if_neg c47] at H
            have c47b0 : decide (((rd_T48 t712 x13_2).f2) < t715) = false := decide_eq_false c47
            clear c47
            by_cases c48 : t716 < ((rd_T48 t712 x13_2).f1)
            ·rw [if_pos c48] at H
             have c48b0 : decide (t716 < ((rd_T48 t712 x13_2).f1)) = true := decide_eq_true c48
             clear c48
             exact absurd (H.trans (congrArg some HRT.out)) (by simp)
            ·rw [if_neg c48] at H
             have c48b0 : decide (t716 < ((rd_T48 t712 x13_2).f1)) = false := decide_eq_false c48
             clear c48
             by_cases c49 : t716 > ((rd_T48 t712 x13_2).f3)
             ·rw [if_pos c49] at H
              have c49b0 : decide (((rd_T48 t712 x13_2).f3) < t716) = true := decide_eq_true c49
              clear c49
              exact absurd (H.trans (congrArg some HRT.out)) (by simp)
             ·rw [if_neg c49] at H
              have c49b0 : decide (((rd_T48 t712 x13_2).f3) < t716) = false := decide_eq_false c49
              clear c49
              have H' := Aside0.mk H
              clear H
              try go_wp2
              have n0_ := Aside0.mk (Kd.R_drew HO_3.out)
              have n1_ := Aside0.mk (blk_drew BK721.out)
              have n2_ := Aside0.mk (below_drew1 HB.out)
              clear HO_3
              clear BK721
              clear HB
              have HO_3 := n0_
              have BK721 := n1_
              have HB := n2_
              clear n0_ n1_ n2_
              have p735 : 0 ≤ (x13_2 : Int) := of_decide_eq_true (by first | (with_reducible assumption) | assumption)
              have q735 : x13_2 < (t712.length : Int) := of_decide_eq_true (by first | (with_reducible assumption) | assumption)
              obtain ⟨ad735, e735, hx735_0, hx735_1, hx735_2, hx735_3⟩ := at_T48 (Kd.R_reads' HO_3.out).2.2 x13_2 p735 q735
              cases e735
              replace p735 := eq_true p735
              replace q735 := eq_true q735
              have p736 : 0 ≤ (x13_2 : Int) := of_decide_eq_true (by first | (with_reducible assumption) | assumption)
              have q736 : x13_2 < (t712.length : Int) := of_decide_eq_true (by first | (with_reducible assumption) | assumption)
              obtain ⟨ad736, e736, hx736_0, hx736_1, hx736_2, hx736_3⟩ := at_T48 (Kd.R_reads' HO_3.out).2.2 x13_2 p736 q736
              obtain rfl : ad735 = ad736 := (by injection e736)
              replace p736 := eq_true p736
              replace q736 := eq_true q736
              have p737 : 0 ≤ (x13_2 : Int) := of_decide_eq_true (by first | (with_reducible assumption) | assumption)
              have q737 : x13_2 < (t712.length : Int) := of_decide_eq_true (by first | (with_reducible assumption) | assumption)
              obtain ⟨ad737, e737, hx737_0, hx737_1, hx737_2, hx737_3⟩ := at_T48 (Kd.R_reads' HO_3.out).2.2 x13_2 p737 q737
              obtain rfl : ad735 = ad737 := (by injection e737)
              replace p737 := eq_true p737
              replace q737 := eq_true q737
              have p738 : 0 ≤ (x13_2 : Int) := of_decide_eq_true (by first | (with_reducible assumption) | assumption)
              have q738 : x13_2 < (t712.length : Int) := of_decide_eq_true (by first | (with_reducible assumption) | assumption)
              obtain ⟨ad738, e738, hx738_0, hx738_1, hx738_2, hx738_3⟩ := at_T48 (Kd.R_reads' HO_3.out).2.2 x13_2 p738 q738
              obtain rfl : ad735 = ad738 := (by injection e738)
              replace p738 := eq_true p738
              replace q738 := eq_true q738
              refine stz (fun w' => w'.cell? ⟨gb721, 0, none⟩ = some (.int .i64 t715) ∧ w'.cell? ⟨gb721, 1, none⟩ = some (.int .i64 t716) ∧ w'.cell? (ad735.add ((x13_2).toNat * 4)) = some (.int .i64 ((rd_T48 t712 x13_2).f0)) ∧ w'.cell? ⟨(ad735.add ((x13_2).toNat * 4)).block, (ad735.add ((x13_2).toNat * 4)).off + 1, none⟩ = some (.int .i64 ((rd_T48 t712 x13_2).f1)) ∧ w'.cell? ⟨(ad735.add ((x13_2).toNat * 4)).block, (ad735.add ((x13_2).toNat * 4)).off + 2, none⟩ = some (.int .i64 ((rd_T48 t712 x13_2).f2)) ∧ w'.cell? ⟨(ad735.add ((x13_2).toNat * 4)).block, (ad735.add ((x13_2).toNat * 4)).off + 3, none⟩ = some (.int .i64 ((rd_T48 t712 x13_2).f3)) ∧ w'.cell? (ad735.add ((x13_2).toNat * 4)) = some (.int .i64 ((rd_T48 t712 x13_2).f0)) ∧ w'.cell? ⟨(ad735.add ((x13_2).toNat * 4)).block, (ad735.add ((x13_2).toNat * 4)).off + 1, none⟩ = some (.int .i64 ((rd_T48 t712 x13_2).f1)) ∧ w'.cell? ⟨(ad735.add ((x13_2).toNat * 4)).block, (ad735.add ((x13_2).toNat * 4)).off + 2, none⟩ = some (.int .i64 ((rd_T48 t712 x13_2).f2)) ∧ w'.cell? ⟨(ad735.add ((x13_2).toNat * 4)).block, (ad735.add ((x13_2).toNat * 4)).off + 3, none⟩ = some (.int .i64 ((rd_T48 t712 x13_2).f3)) ∧ w'.cell? (ad735.add ((x13_2).toNat * 4)) = some (.int .i64 ((rd_T48 t712 x13_2).f0)) ∧ w'.cell? ⟨(ad735.add ((x13_2).toNat * 4)).block, (ad735.add ((x13_2).toNat * 4)).off + 1, none⟩ = some (.int .i64 ((rd_T48 t712 x13_2).f1)) ∧ w'.cell? ⟨(ad735.add ((x13_2).toNat * 4)).block, (ad735.add ((x13_2).toNat * 4)).off + 2, none⟩ = some (.int .i64 ((rd_T48 t712 x13_2).f2)) ∧ w'.cell? ⟨(ad735.add ((x13_2).toNat * 4)).block, (ad735.add ((x13_2).toNat * 4)).off + 3, none⟩ = some (.int .i64 ((rd_T48 t712 x13_2).f3)) ∧ w'.cell? (ad735.add ((x13_2).toNat * 4)) = some (.int .i64 ((rd_T48 t712 x13_2).f0)) ∧ w'.cell? ⟨(ad735.add ((x13_2).toNat * 4)).block, (ad735.add ((x13_2).toNat * 4)).off + 1, none⟩ = some (.int .i64 ((rd_T48 t712 x13_2).f1)) ∧ w'.cell? ⟨(ad735.add ((x13_2).toNat * 4)).block, (ad735.add ((x13_2).toNat * 4)).off + 2, none⟩ = some (.int .i64 ((rd_T48 t712 x13_2).f2)) ∧ w'.cell? ⟨(ad735.add ((x13_2).toNat * 4)).block, (ad735.add ((x13_2).toNat * 4)).off + 3, none⟩ = some (.int .i64 ((rd_T48 t712 x13_2).f3))) [] (bn 38 0) ⟨(blk_cell BK721.out 0).trans rfl, (blk_cell BK721.out 1).trans rfl, hx735_0, hx735_1, hx735_2, hx735_3, hx736_0, hx736_1, hx736_2, hx736_3, hx737_0, hx737_1, hx737_2, hx737_3, hx738_0, hx738_1, hx738_2, hx738_3⟩ (fun hHeld => ?_); refine with_tabW tickinglaw01_CoverPairs.tab21 tickinglaw01_CoverPairs.bits21 (fun HT_ HW_ => ?_)
              generalize wr.drew = w50 at HO_3 BK721 HB hx735_0 hx735_1 hx735_2 hx735_3 hx736_0 hx736_1 hx736_2 hx736_3 hx737_0 hx737_1 hx737_2 hx737_3 hx738_0 hx738_1 hx738_2 hx738_3 hHeld ⊢
              refine pT HT_.out 0 (some 71) (bn 38 1) ?_
              refine pT HT_.out 2 (some 73) (bn 38 5) ?_
              refine pT HT_.out 3 (some 74) (bn 38 13) ?_
              refine pT HT_.out 4 (some 75) (bn 38 29) ?_
              refine pT HT_.out 5 (some 76) (bn 38 61) ?_
              refine tT HT_.out HW_.out 1 (some 72) (bn 38 63) hHeld ?_
              refine tT HT_.out HW_.out 6 (some 77) (bn 38 127) hHeld ?_
              refine pT HT_.out 7 (some 78) (bn 38 255) ?_
              refine pT HT_.out 8 (some 79) (bn 38 511) ?_
              refine pT HT_.out 9 (some 80) (bn 38 1023) ?_
              refine pT HT_.out 11 (some 82) (bn 38 3071) ?_
              refine pT HT_.out 12 (some 83) (bn 38 7167) ?_
              refine pT HT_.out 13 (some 84) (bn 38 15359) ?_
              refine pT HT_.out 14 (some 85) (bn 38 31743) ?_
              refine tT HT_.out HW_.out 10 (some 81) (bn 38 32767) hHeld ?_
              refine tT HT_.out HW_.out 15 (some 86) (bn 38 65535) hHeld ?_
              refine pT HT_.out 16 (some 87) (bn 38 131071) ?_
              refine pT HT_.out 17 (some 88) (bn 38 262143) ?_
              refine pT HT_.out 18 (some 89) (bn 38 524287) ?_
              refine pT HT_.out 19 (some 90) (bn 38 1048575) ?_
              refine pT HT_.out 21 (some 92) (bn 38 3145727) ?_
              refine pT HT_.out 22 (some 93) (bn 38 7340031) ?_
              refine pT HT_.out 23 (some 94) (bn 38 15728639) ?_
              refine pT HT_.out 24 (some 95) (bn 38 32505855) ?_
              refine tT HT_.out HW_.out 20 (some 91) (bn 38 33554431) hHeld ?_
              refine tT HT_.out HW_.out 25 (some 96) (bn 38 67108863) hHeld ?_
              refine pT HT_.out 26 (some 97) (bn 38 134217727) ?_
              refine pT HT_.out 27 (some 98) (bn 38 268435455) ?_
              refine pT HT_.out 28 (some 99) (bn 38 536870911) ?_
              refine pT HT_.out 29 (some 100) (bn 38 1073741823) ?_
              refine pT HT_.out 31 (some 102) (bn 38 3221225471) ?_
              refine pT HT_.out 32 (some 103) (bn 38 7516192767) ?_
              refine pT HT_.out 33 (some 104) (bn 38 16106127359) ?_
              refine pT HT_.out 34 (some 105) (bn 38 33285996543) ?_
              refine tT HT_.out HW_.out 30 (some 101) (bn 38 34359738367) hHeld ?_
              refine tT HT_.out HW_.out 35 (some 106) (bn 38 68719476735) hHeld ?_
              refine pT HT_.out 36 (some 107) (bn 38 137438953471) ?_
              refine pT HT_.out 37 (some 108) (bn 38 274877906943) ?_
              refine done_ (done_of HT_.out (by kernel_rfl)) ?_
              try go_wp2
              go_roundg k2
              case measure => have := HK1.out; have := HK2.out; omega
              case rel => exact ⟨(wrap64 (x13_2 + 1)), (by first | rfl | (simp; done) | (simp [*]; done)), H', ⟨by have := HK1.out; have := HK2.out; omega⟩, ⟨by (with_reducible repeat (first | apply Kd.R_alloc | apply Kd.R_drewN | apply Kd.R_drew)); exact HO_3.out⟩, ⟨by (with_reducible repeat (first | refine blk_drewN ?_ _ | refine blk_drew ?_ | refine blk_alloc ?_ _)); exact BK721.out⟩, ⟨HBz⟩⟩
         ·rw [if_neg c45] at H
          exact absurd H (by simp)
        ·rw [if_neg c44] at H
         have c44b0 : decide (x13_2 < (t712.length : Int)) = false := decide_eq_false c44
         clear c44
         by_cases c51 : x7_1 = true
         ·subst c51
          have H1 : ((tickinglaw01_awake.f k2).bind fun t739 => (some t739)) = some r := by rw [if_pos rfl] at H; exact H
          clear H
          have H := H1
          clear H1
          replace H := Option.bind_eq_some_iff.mp H
          obtain ⟨t739, A520, H⟩ := H
          replace H : (some t739) = some r := H
          have A52 := Aside0.mk A520
          clear A520
          obtain rfl := Option.some.inj H
          go_wp2_with (first | (go_at_call 21; (with_reducible refine (tickinglaw01_awake.calls k2  t739 _ A52.out).mono ?_); rintro e w53 ⟨rfl, hb⟩; have n0_ := Aside0.mk (Kd.R_below (by (with_reducible repeat (first | apply Kd.R_alloc | apply Kd.R_drewN | apply Kd.R_drew)); exact HO_3.out) hb); have n1_ := Aside0.mk (blk_below (g := gb721) BKz hb); have n2_ := Aside0.mk (below_step HBz hb); clear HO_3; clear BK721; clear HB; have HO_3 := n0_; have BK721 := n1_; have HB := n2_; clear n0_ n1_ n2_; (try clear hb); (try clear hb2); (try clear hk); (try clear hi)))
          go_ret
          exact ⟨by first | rfl | (simp [errW_none, errW_some] <;> rfl) | (simp [*, errW_none, errW_some] <;> rfl), HBz⟩
         ·replace c51 := Bool.eq_false_iff.mpr c51
          subst c51
          have H1 : (some false) = some r := by rw [if_neg (show ¬ (false = true) by decide)] at H; exact H
          clear H
          have H := H1
          clear H1
          exact absurd (H.trans (congrArg some HRT.out)) (by simp)
 ·rw [if_neg c4] at H
  have c4b0 : (t720 == 0) = false := beq_eq_false_iff_ne.mpr c4
  have c4b1 : (t720 != 0) = true := bne_iff_ne.mpr c4
  exact absurd (H.trans (congrArg some HRT.out)) (by simp)
end Go.Proofs.Ytplhfbkejngioaa.X
