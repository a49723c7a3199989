/- The contract of Deepest. Texts of this claim's session, put together: EArea, EEdge, EDeepest. -/
import Derived.Test.YtplhfbkejngioaaBc11
import Derived.Test.YtplhfbkejngioaaBc6
import Derived.Test.YtplhfbkejngioaaBc2
import Derived.IntWalk
import Derived.Test.YtplhfbkejngioaaBc0
import Derived.Test.YtplhfbkejngioaaVWords
import Derived.Test.YtplhfbkejngioaaVLast
import Derived.Test.YtplhfbkejngioaaVRepsOne
namespace Go.Proofs.Ytplhfbkejngioaa.X
open Go.RowKit Go.Shelf Go.Proofs.YtplhfbkejngioaaW.PrintWords Go.Proofs.YtplhfbkejngioaaW.PrintLast Go.Proofs.Ytplhfbkejngioaa.S
set_option linter.unusedVariables false
set_option linter.unusedSimpArgs false
attribute [local go_sem] Oper.semAt_some
def cover_Area.f (l0 : List S48) : Option (Int × Int) := if areRs l0 32 then some (areaL l0, 0) else some (0, 2)
set_option maxHeartbeats 4000000 in
set_option maxRecDepth 100000 in
theorem cover_Area.calls (A0 : Option Addr) (c0 : Nat) (l0 : List S48) (r1 : Int) (r2 : Int) (w : World) (hr0 : Kd.C k48 w A0 l0.length l0) (hc0 : l0.length ≤ c0) (h : cover_Area.f l0 = some (r1, r2)) :
  Calls Try.prog 17 #[.slice A0 l0.length c0] w fun e w' => e = .returned (.tuple #[.int .i64 r1, .int .i64 r2]) ∧ Below w.heap.size w w' := by
 unfold cover_Area.f at h
 have HR0 := Aside0.mk hr0
 have HC0 := Aside0.mk hc0
 clear hr0 hc0
 by_cases hok : areRs l0 32 = true
 ·rw [if_pos hok] at h
  simp only [Option.some.injEq, Prod.mk.injEq] at h
  obtain ⟨rfl, rfl⟩ := h
  have HOK := Aside0.mk hok
  have HA := Aside0.mk (cover_areRects.calls A0 c0 l0 32 true w HR0.out HC0.out (by unfold cover_areRects.f; rw [HOK.out]))
  clear hok
  refine (callsIn_wide (n := 3)).1 ?_
  refine callsIn_of_wp_marks Try.func17 rfl trivial ?_ rfl
  simp only [Try.ntmps17, List.size_toArray, List.length_cons, List.length_nil, Nat.reduceAdd, Nat.reduceSub, Array.replicate_succ, Array.replicate_zero, List.push_toArray, List.append_toArray, List.nil_append, List.cons_append]
  gi_wp2_with (first
   | (refine ⟨trivial, ?_⟩; gi_at_call 46; refine (callsIn_wide.2 HA.out).mono ?_; rintro e w1 ⟨rfl, hb1⟩)
   | (refine ⟨trivial, ?_⟩; gi_at_call 47; refine (callsIn_wide.2 (gridOf_calls A0 c0 l0 _ (Kd.C_below HR0.out hb1) HC0.out HOK.out)).mono ?_; rintro e w2 ⟨g, dep, Ax, Ay, Ad, cx, cy, cd, rfl, hg, hb2⟩; have HG := Aside0.mk hg; have HB2 := Aside0.mk (below_then hb1 hb1.size hb2); clear hg hb1 hb2)
   | (refine ⟨trivial, ?_⟩; gi_at_call 48; refine (callsIn_wide.2 (parts_calls g _)).mono ?_; rintro e w3 ⟨rfl, rfl⟩))
  have hp := parts_stops (KeepG w2.heap.size) (KeepG.refl _) (fun h k => h.trans k) (KeepG.drewN _) (3 - 1) (by omega) (w2.heap.size + 2) g (linesX l0) (linesY l0) dep Ax Ay Ad cx cy cd HG.out.tab (linesX_short HOK.out) (linesY_short HOK.out)
   (grid_good HG.out) (((w2.alloc (.cells #[.pointer (some ⟨g, 0, none⟩)] 72)).alloc (.cells #[.int .i64 0] 3)).alloc (.cells #[.pointer (some ⟨g, 0, none⟩)] 72))
   (fun W W' hb hk => by
    have hbw : Below w2.heap.size w2 (((w2.alloc (.cells #[.pointer (some ⟨g, 0, none⟩)] 72)).alloc (.cells #[.int .i64 0] 3)).alloc (.cells #[.pointer (some ⟨g, 0, none⟩)] 72)) := below_alloc (below_alloc (below_alloc (Below.refl _ _) _) _) _
    refine ⟨?_, HG.out.grid.below ((hbw.trans (hb.mono (by simp; omega))).trans hk.below)⟩
    rw [hk.b2, hb.block _ (by simp)]
    have := heap_alloc_new ((w2.alloc (.cells #[.pointer (some ⟨g, 0, none⟩)] 72)).alloc (.cells #[.int .i64 0] 3)) (.cells #[.pointer (some ⟨g, 0, none⟩)] 72)
    simpa using this)
  have HP := Aside0.mk hp
  clear hp
  refine wpIn_rangeFunc_ownH rfl (by omega) (gf := 77) (lb := #[.pointer (some ⟨w2.heap.size + 2, 0, none⟩)]) rfl trivial (Go.Proofs.enters_of Try.func77 (by kernel_rfl) rfl)
   HP.out (fun h k => h.trans k) ?kb (Below.refl _ _) (fun _ => rfl)
   (fun pre W => W.heap[w2.heap.size + 1]? = some (.cells #[.int .i64 (sumA (linesX l0) (linesY l0) (pre.map (·.1)))] 3 (0, 0)) ∧ W.heap[w2.heap.size]? = some (.cells #[.pointer (some ⟨g, 0, none⟩)] 72 (0, 0)) ∧ Below w2.heap.size w2 W)
   (fun _ _ _ => False) ?hI (fun _ _ _ _ _ hs _ _ => hs) ?h0 (fun x a' _ => a' = { tmps := #[.slice A0 l0.length c0, undef, .int .i64 0, .int .i64 0, .pointer (some ⟨w2.heap.size, 0, none⟩), .pointer (some ⟨w2.heap.size + 1, 0, none⟩), .int .i64 (x.1.1 : Int), .int .i64 (x.1.2 : Int), .slice A0 l0.length c0, .bool true, .bool false, .slice A0 l0.length c0, .pointer (some ⟨g, 0, none⟩), .pointer (some ⟨g, 0, none⟩), .func (.func 77) #[] #[.pointer (some ⟨w2.heap.size + 1 + 1, 0, none⟩)], .int .i64 (x.1.1 : Int), .int .i64 (x.1.2 : Int), undef, undef, undef, undef, undef, undef, undef, undef, undef, undef, undef, undef, undef, undef, undef, undef, undef, undef, undef, undef, undef, undef, undef, undef, undef, undef, undef, undef, undef, undef, undef, undef, undef, undef, undef, undef], defers := [] })
   (fun _ _ _ _ _ _ h _ _ => h) ?assign ?body ?done ?stop
  case assign =>
   intro l pre x W K hi hK
   simp only [encIJ]
   gi_wp2
   exact hK _ _ (KeepsFrom.refl _ _) (KeepG.refl _ _) hi rfl
  case kb =>
   intro W l o o' hl ho hc hw
   have hl' : w2.heap.size + 3 ≤ l := by simpa using hl
   exact ⟨belowK_b (w := w2) (Nat.le_refl _) W l o o' (by omega) ho hc hw, World.putObj_heap_other (by omega), World.putObj_heap_other (by omega)⟩
  case hI =>
   exact fun s A B row hs hg hr => ⟨(grownBy_keeps_cells hg (fun r e => (hr r e).2) hs.1 rfl).trans hs.1, (grownBy_keeps_cells hg (fun r e => (hr r e).2) hs.2.1 rfl).trans hs.2.1,
    ownFrom_below (β := Unit) (n₀ := w2.heap.size) (B := _) (w₀ := w2) (Nat.le_refl _) (Nat.le_refl _) () A B row hs.2.2 hg (fun r e => ⟨by have := (hr r e).1; simp at this; omega, (hr r e).2⟩)⟩
  case h0 =>
   refine ⟨?_, ?_, below_alloc (below_alloc (below_alloc (Below.refl _ _) _) _) _⟩
   ·have := blk_alloc (heap_alloc_new (w2.alloc (.cells #[.pointer (some ⟨g, 0, none⟩)] 72)) (.cells #[.int .i64 0] 3)) (.cells #[.pointer (some ⟨g, 0, none⟩)] 72)
    simpa [sumA, sumL] using this
   ·exact blk_alloc (blk_alloc (heap_alloc_new w2 (.cells #[.pointer (some ⟨g, 0, none⟩)] 72)) _) _
  case body =>
   rintro l pre x a' W hl hrec ⟨hn, hbg, hb⟩ rfl hlen
   have hx := x.2
   obtain ⟨hx1, hx2, _⟩ := hx
   have sx := linesX_short HOK.out
   have sy := linesY_short HOK.out
   have hgr := HG.out.grid.below hb
   have hg0 : W.cell? ⟨g, 0, none⟩ = some (.slice Ax (linesX l0).length cx) := (blk_cell hgr.blk 0).trans rfl
   have hg1 : W.cell? ⟨g, 1, none⟩ = some (.slice Ay (linesY l0).length cy) := (blk_cell hgr.blk 1).trans rfl
   obtain ⟨ax, ex, x1⟩ := Kd.at_int hgr.rx ((x.1.1 : Int) + 1) (by omega) (by omega)
   obtain ⟨ax', ex', x0⟩ := Kd.at_int hgr.rx (x.1.1 : Int) (by omega) (by omega)
   obtain ⟨ay, ey, y1⟩ := Kd.at_int hgr.ry ((x.1.2 : Int) + 1) (by omega) (by omega)
   obtain ⟨ay', ey', y0⟩ := Kd.at_int hgr.ry (x.1.2 : Int) (by omega) (by omega)
   cases ex
   cases ey
   obtain rfl : ax = ax' := by injection ex'
   obtain rfl : ay = ay' := by injection ey'
   simp only [show ((x.1.1 : Int) + 1).toNat = x.1.1 + 1 by omega, show ((x.1.2 : Int) + 1).toNat = x.1.2 + 1 by omega, Int.toNat_natCast, Addr.add_succ'] at x1 x0 y1 y0
   have HLEN := Aside0.mk hlen
   have HN := Aside0.mk hn
   have HBG := Aside0.mk hbg
   have HB := Aside0.mk hb
   have HGR := Aside0.mk hgr
   clear hn hbg hb hgr ex' ey' hlen
   have cn : W.cell? ⟨w2.heap.size + 1, 0, none⟩ = some (.int .i64 (sumA (linesX l0) (linesY l0) (pre.map (·.1)))) := cell_of_one HN.out
   have fn0 : W.frozen? ⟨w2.heap.size + 1, 0, none⟩ = false := free_of_one HN.out
   have cg : W.cell? ⟨w2.heap.size, 0, none⟩ = some (.pointer (some ⟨g, 0, none⟩)) := cell_of_one HBG.out
   have w1' : IntKind.i64.wrap ((x.1.1 : Int) + 1) = (x.1.1 : Int) + 1 := IntWalk.i64_in _ (by omega)
   have w2' : IntKind.i64.wrap ((x.1.2 : Int) + 1) = (x.1.2 : Int) + 1 := IntWalk.i64_in _ (by omega)
   have p1 : 0 ≤ (x.1.1 : Int) + 1 := by omega
   have p2 : (x.1.1 : Int) + 1 < ((linesX l0).length : Int) := by omega
   have p3 : 0 ≤ (x.1.2 : Int) + 1 := by omega
   have p4 : (x.1.2 : Int) + 1 < ((linesY l0).length : Int) := by omega
   have p5 : (x.1.1 : Int) < ((linesX l0).length : Int) := by omega
   have p6 : (x.1.2 : Int) < ((linesY l0).length : Int) := by omega
   clear hx1 hx2 sx sy
   gi_wp2
   refine region_tail_in 35 (by kernel_rfl) (by kernel_rfl) (by rfl) (fun ⟨_, _, h⟩ => h) ?_
   simp only [List.take_succ_cons, List.take_zero, List.drop_succ_cons, List.drop_zero]
   repeat still_step
   refine wpStill_nil ?_
   change wpList _ _ _ _ _ W.drew
   go_wp2
   have hstep := sumA_step HOK.out pre x.1 HLEN.out (by omega) (by omega)
   rw [hstep]
   refine ⟨((KeepsOthers.setCell W _ _).trans (KeepsOthers.drew _)).from _, ⟨((Below.refl w2.heap.size W).setCell (p := ⟨w2.heap.size + 1, 0, none⟩) (by simp) _).drew, ?_, ?_⟩, ?_, ?_, HB.out.trans ((Below.refl w2.heap.size W).setCell (p := ⟨w2.heap.size + 1, 0, none⟩) (by simp) _).drew⟩
   ·exact setCell_heap_ne W _ _ (by simp)
   ·exact setCell_heap_ne W _ _ (by simp)
   ·have := one_setCell (u := .int .i64 (sumA (linesX l0) (linesY l0) ((pre ++ [x]).map (·.1)))) HN.out
    simpa [-Array.getElem?_eq_getElem, drew_heap] using this
   ·exact (setCell_heap_ne W _ _ (by simp)).trans HBG.out
  case done =>
   rintro D ys W hD hys ⟨hn, _, hB⟩ hK
   have cn : W.cell? ⟨w2.heap.size + 1, 0, none⟩ = some (.int .i64 (sumA (linesX l0) (linesY l0) (ys.map (·.1)))) := cell_of_one hn
   have HV := Aside0.mk (show sumA (linesX l0) (linesY l0) (ys.map (·.1)) = areaL l0 by rw [hys]; exact sumA_area HG.out)
   have HBX := Aside0.mk (HB2.out.trans (hB.mono HB2.out.size))
   have HDX := Aside0.mk hD
   have HKX := Aside0.mk hK
   clear hys hn hB hD hK
   gi_wp2
   refine ⟨by simp, .inl ⟨_, _, rfl, run_takeDeferred HKX.out, ?_⟩⟩
   refine ⟨_, results_tmp2 rfl _ _ _, ?_, ?_⟩
   ·rw [← HV.out]; rfl
   ·exact HBX.out.trans (belowK_b (w := w) (Nat.le_refl _) W D _ _ (by have := HDX.out; have := HB2.out.size; simp at *; omega) HKX.out rfl rfl)
  case stop =>
   rintro D c pre W _ _ h _
   exact h.elim
 ·rw [if_neg hok] at h
  simp only [Option.some.injEq, Prod.mk.injEq] at h
  obtain ⟨rfl, rfl⟩ := h
  have HA := Aside0.mk (cover_areRects.calls A0 c0 l0 32 false w HR0.out HC0.out (by unfold cover_areRects.f; rw [Bool.eq_false_iff.2 hok]))
  clear hok
  go_enter Try.func17, Try.ntmps17
  go_wp2_with (first | (go_at_call 46; refine HA.out.mono ?_; rintro e w1 ⟨rfl, hb1⟩))
  go_ret2
  exact ⟨rfl, hb1⟩
end Go.Proofs.Ytplhfbkejngioaa.X
namespace Go.Proofs.Ytplhfbkejngioaa.X
open Go.RowKit Go.Shelf Go.Proofs.YtplhfbkejngioaaW.PrintWords Go.Proofs.YtplhfbkejngioaaW.PrintLast Go.Proofs.Ytplhfbkejngioaa.S
set_option linter.unusedVariables false
set_option linter.unusedSimpArgs false
attribute [local go_sem] Oper.semAt_some
def cover_Edge.f (l0 : List S48) : Option (Int × Int) := if areRs l0 32 then some (edgeL l0, 0) else some (0, 2)
set_option maxHeartbeats 8000000 in
set_option maxRecDepth 100000 in
theorem cover_Edge.calls (A0 : Option Addr) (c0 : Nat) (l0 : List S48) (r1 : Int) (r2 : Int) (w : World) (hr0 : Kd.C k48 w A0 l0.length l0) (hc0 : l0.length ≤ c0) (h : cover_Edge.f l0 = some (r1, r2)) :
  Calls Try.prog 18 #[.slice A0 l0.length c0] w fun e w' => e = .returned (.tuple #[.int .i64 r1, .int .i64 r2]) ∧ Below w.heap.size w w' := by
 unfold cover_Edge.f at h
 have HR0 := Aside0.mk hr0
 have HC0 := Aside0.mk hc0
 clear hr0 hc0
 by_cases hok : areRs l0 32 = true
 ·rw [if_pos hok] at h
  simp only [Option.some.injEq, Prod.mk.injEq] at h
  obtain ⟨rfl, rfl⟩ := h
  have HOK := Aside0.mk hok
  have HA := Aside0.mk (cover_areRects.calls A0 c0 l0 32 true w HR0.out HC0.out (by unfold cover_areRects.f; rw [HOK.out]))
  clear hok
  refine (callsIn_wide (n := 3)).1 ?_
  refine callsIn_of_wp_marks Try.func18 rfl trivial ?_ rfl
  simp only [Try.ntmps18, List.size_toArray, List.length_cons, List.length_nil, Nat.reduceAdd, Nat.reduceSub, Array.replicate_succ, Array.replicate_zero, List.push_toArray, List.append_toArray, List.nil_append, List.cons_append]
  gi_wp2_with (first
   | (refine ⟨trivial, ?_⟩; gi_at_call 46; refine (callsIn_wide.2 HA.out).mono ?_; rintro e w1 ⟨rfl, hb1⟩)
   | (refine ⟨trivial, ?_⟩; gi_at_call 47; refine (callsIn_wide.2 (gridOf_calls A0 c0 l0 _ (Kd.C_below HR0.out hb1) HC0.out HOK.out)).mono ?_; rintro e w2 ⟨g, dep, Ax, Ay, Ad, cx, cy, cd, rfl, hg, hb2⟩; have HG := Aside0.mk hg; have HB2 := Aside0.mk (below_then hb1 hb1.size hb2); clear hg hb1 hb2)
   | (refine ⟨trivial, ?_⟩; gi_at_call 48; refine (callsIn_wide.2 (parts_calls g _)).mono ?_; rintro e w3 ⟨rfl, rfl⟩))
  have hp := parts_stops (KeepG w2.heap.size) (KeepG.refl _) (fun h k => h.trans k) (KeepG.drewN _) (3 - 1) (by omega) (w2.heap.size + 2) g (linesX l0) (linesY l0) dep Ax Ay Ad cx cy cd HG.out.tab (linesX_short HOK.out) (linesY_short HOK.out)
   (grid_good HG.out) (((w2.alloc (.cells #[.pointer (some ⟨g, 0, none⟩)] 72)).alloc (.cells #[.int .i64 0] 3)).alloc (.cells #[.pointer (some ⟨g, 0, none⟩)] 72))
   (fun W W' hb hk => by
    have hbw : Below w2.heap.size w2 (((w2.alloc (.cells #[.pointer (some ⟨g, 0, none⟩)] 72)).alloc (.cells #[.int .i64 0] 3)).alloc (.cells #[.pointer (some ⟨g, 0, none⟩)] 72)) := below_alloc (below_alloc (below_alloc (Below.refl _ _) _) _) _
    refine ⟨?_, HG.out.grid.below ((hbw.trans (hb.mono (by simp; omega))).trans hk.below)⟩
    rw [hk.b2, hb.block _ (by simp)]
    have := heap_alloc_new ((w2.alloc (.cells #[.pointer (some ⟨g, 0, none⟩)] 72)).alloc (.cells #[.int .i64 0] 3)) (.cells #[.pointer (some ⟨g, 0, none⟩)] 72)
    simpa using this)
  have HP := Aside0.mk hp
  clear hp
  refine wpIn_rangeFunc_ownH rfl (by omega) (gf := 77) (lb := #[.pointer (some ⟨w2.heap.size + 2, 0, none⟩)]) rfl trivial (Go.Proofs.enters_of Try.func77 (by kernel_rfl) rfl)
   HP.out (fun h k => h.trans k) ?kb (Below.refl _ _) (fun _ => rfl)
   (fun pre W => W.heap[w2.heap.size + 1]? = some (.cells #[.int .i64 (sumE (linesX l0) (linesY l0) dep (pre.map (·.1)))] 3 (0, 0)) ∧ W.heap[w2.heap.size]? = some (.cells #[.pointer (some ⟨g, 0, none⟩)] 72 (0, 0)) ∧ Below w2.heap.size w2 W)
   (fun _ _ _ => False) ?hI (fun _ _ _ _ _ hs _ _ => hs) ?h0 (fun x a' _ => a' = { tmps := #[.slice A0 l0.length c0, undef, .int .i64 0, .int .i64 0, .pointer (some ⟨w2.heap.size, 0, none⟩), .pointer (some ⟨w2.heap.size + 1, 0, none⟩), .int .i64 (x.1.1 : Int), .int .i64 (x.1.2 : Int), undef, undef, .slice A0 l0.length c0, .bool true, .bool false, .slice A0 l0.length c0, .pointer (some ⟨g, 0, none⟩), .pointer (some ⟨g, 0, none⟩), .func (.func 77) #[] #[.pointer (some ⟨w2.heap.size + 1 + 1, 0, none⟩)], .int .i64 (x.1.1 : Int), .int .i64 (x.1.2 : Int), undef, undef, undef, undef, undef, undef, undef, undef, undef, undef, undef, undef, undef, undef, undef, undef, undef, undef, undef, undef, undef, undef, undef, undef, undef, undef, undef, undef, undef, undef, undef, undef, undef, undef, undef, undef, undef, undef, undef, undef, undef, undef, undef, undef, undef, undef, undef, undef, undef, undef, undef, undef, undef, undef, undef, undef], defers := [] })
   (fun _ _ _ _ _ _ h _ _ => h) ?assign ?body ?done ?stop
  case assign =>
   intro l pre x W K hi hK
   simp only [encIJ]
   gi_wp2
   exact hK _ _ (KeepsFrom.refl _ _) (KeepG.refl _ _) hi rfl
  case kb =>
   intro W l o o' hl ho hc hw
   have hl' : w2.heap.size + 3 ≤ l := by simpa using hl
   exact ⟨belowK_b (w := w2) (Nat.le_refl _) W l o o' (by omega) ho hc hw, World.putObj_heap_other (by omega), World.putObj_heap_other (by omega)⟩
  case hI =>
   exact fun s A B row hs hg hr => ⟨(grownBy_keeps_cells hg (fun r e => (hr r e).2) hs.1 rfl).trans hs.1, (grownBy_keeps_cells hg (fun r e => (hr r e).2) hs.2.1 rfl).trans hs.2.1,
    ownFrom_below (β := Unit) (n₀ := w2.heap.size) (B := _) (w₀ := w2) (Nat.le_refl _) (Nat.le_refl _) () A B row hs.2.2 hg (fun r e => ⟨by have := (hr r e).1; simp at this; omega, (hr r e).2⟩)⟩
  case h0 =>
   refine ⟨?_, ?_, below_alloc (below_alloc (below_alloc (Below.refl _ _) _) _) _⟩
   ·have := blk_alloc (heap_alloc_new (w2.alloc (.cells #[.pointer (some ⟨g, 0, none⟩)] 72)) (.cells #[.int .i64 0] 3)) (.cells #[.pointer (some ⟨g, 0, none⟩)] 72)
    simpa [sumE, sumL] using this
   ·exact blk_alloc (blk_alloc (heap_alloc_new w2 (.cells #[.pointer (some ⟨g, 0, none⟩)] 72)) _) _
  case body =>
   rintro l pre x a' W hl hrec ⟨hn, hbg, hb⟩ rfl hlen
   have hx := x.2
   obtain ⟨hx1, hx2, _⟩ := hx
   have sx := linesX_short HOK.out
   have sy := linesY_short HOK.out
   have HH := Aside0.mk (fun (W' : World) (i j : Int) (h : Below w2.heap.size w2 W') => has_calls g (linesX l0) (linesY l0) dep Ax Ay Ad cx cy cd i j W' (HG.out.grid.below h) HG.out.tab sx sy)
   have HLEN := Aside0.mk hlen
   have HN := Aside0.mk hn
   have HBG := Aside0.mk hbg
   have HB := Aside0.mk hb
   clear hn hbg hb hlen
   have ia : ∀ w, (Instr.index 80 (.agg #[.int .i64 (-1), .int .i64 1]) (.int .i64 0)).run Try.prog w = .ok (.int .i64 (-1)) w := fun _ => by kernel_rfl
   have ib : ∀ w, (Instr.index 80 (.agg #[.int .i64 (-1), .int .i64 1]) (.int .i64 1)).run Try.prog w = .ok (.int .i64 1) w := fun _ => by kernel_rfl
   have HS := Aside0.mk (sumE_small HOK.out pre HLEN.out)
   obtain ⟨s, hs⟩ : ∃ s, sumE (linesX l0) (linesY l0) dep (pre.map (·.1)) = s := ⟨_, rfl⟩
   rw [hs] at HN HS
   have HSE := Aside0.mk hs
   clear hs
   gi_wp2
   gi_loopw [20] (fun i wr => ∃ k : Nat, k ≤ 2 ∧ i = .int .i64 k ∧ Aside0 (Here g w2 W wr (s + edgeK (linesX l0) (linesY l0) dep x.1 k))) (fun i _ => 2 - (intOf i).toNat)
   case atStart => exact ⟨0, by omega, rfl, ⟨⟨by simpa [edgeK] using HN.out, HBG.out, KeepG.refl _ _, HB.out, KeepsOthers.refl _⟩⟩⟩
   case round =>
    obtain ⟨k, hk, rfl, HR⟩ := hrel
    have HD := Aside0.mk (lines_diff HOK.out x.1 hx1 hx2)
    have HE0 := Aside0.mk (edgeK_small HOK.out dep x.1 hx1 hx2 0)
    have HE1 := Aside0.mk (edgeK_small HOK.out dep x.1 hx1 hx2 1)
    obtain ⟨ax, ex, z1⟩ := Kd.at_int HG.out.grid.rx ((x.1.1 : Int) + 1) (by omega) (by omega)
    obtain ⟨ax', ex', z2⟩ := Kd.at_int HG.out.grid.rx (x.1.1 : Int) (by omega) (by omega)
    obtain ⟨ay, ey, z3⟩ := Kd.at_int HG.out.grid.ry ((x.1.2 : Int) + 1) (by omega) (by omega)
    obtain ⟨ay', ey', z4⟩ := Kd.at_int HG.out.grid.ry (x.1.2 : Int) (by omega) (by omega)
    cases ex
    cases ey
    obtain rfl : ax = ax' := by injection ex'
    obtain rfl : ay = ay' := by injection ey'
    simp only [show ((x.1.1 : Int) + 1).toNat = x.1.1 + 1 by omega, show ((x.1.2 : Int) + 1).toNat = x.1.2 + 1 by omega, Int.toNat_natCast, Addr.add_succ'] at z1 z2 z3 z4
    have Z1 := Aside0.mk z1
    have Z2 := Aside0.mk z2
    have Z3 := Aside0.mk z3
    have Z4 := Aside0.mk z4
    clear z1 z2 z3 z4 ex' ey'
    obtain ⟨wr_0, wr_1, wr_2, wr_3, wr_4, wr_5, wr_6, wr_7, wr_8, wr_9⟩ := HR.out.facts HG.out.grid Z1.out Z2.out Z3.out Z4.out
    have w1' : IntKind.i64.wrap ((x.1.1 : Int) + 1) = (x.1.1 : Int) + 1 := IntWalk.i64_in _ (by omega)
    have w2' : IntKind.i64.wrap ((x.1.2 : Int) + 1) = (x.1.2 : Int) + 1 := IntWalk.i64_in _ (by omega)
    have w3' : IntKind.i64.wrap ((x.1.1 : Int) + -1) = (x.1.1 : Int) + -1 := IntWalk.i64_in _ (by omega)
    have w4' : IntKind.i64.wrap ((x.1.2 : Int) + -1) = (x.1.2 : Int) + -1 := IntWalk.i64_in _ (by omega)
    have p1 : 0 ≤ (x.1.1 : Int) + 1 := by omega
    have p2 : (x.1.1 : Int) + 1 < ((linesX l0).length : Int) := by omega
    have p3 : 0 ≤ (x.1.2 : Int) + 1 := by omega
    have p4 : (x.1.2 : Int) + 1 < ((linesY l0).length : Int) := by omega
    have p5 : (x.1.1 : Int) < ((linesX l0).length : Int) := by omega
    have p6 : (x.1.2 : Int) < ((linesY l0).length : Int) := by omega
    clear hx1 hx2 sx sy
    obtain rfl | rfl | rfl : k = 0 ∨ k = 1 ∨ k = 2 := by omega
    ·have H1 := Aside0.mk (fun W' h => HH.out W' ((x.1.1 : Int) + -1) (x.1.2 : Int) h)
     have H2 := Aside0.mk (fun W' h => HH.out W' (x.1.1 : Int) ((x.1.2 : Int) + -1) h)
     have HK := Aside0.mk (edgeK_step0 (linesX l0) (linesY l0) dep x.1)
     rcases hb1 : hasL (linesX l0) (linesY l0) dep ((x.1.1 : Int) + -1) (x.1.2 : Int) with _ | _ <;> rcases hb2 : hasL (linesX l0) (linesY l0) dep (x.1.1 : Int) ((x.1.2 : Int) + -1) with _ | _
     ·-- k = 0, false, false
      rw [hb1, hb2] at HK
      rw [hb1] at H1
      rw [hb2] at H2
      clear hb1 hb2
      gi_wp2_with (first | (refine ⟨trivial, ?_⟩; gi_at_call 49; (with_reducible refine (CallsIn.inRound l (callsIn_wide.2 (H1.out _ (HR.out).BW))).mono ?_); rintro e wA ⟨rfl, hd⟩; have HwA := Aside0.mk ((HR.out).drawn hd); clear hd; obtain ⟨wA_0, wA_1, wA_2, wA_3, wA_4, wA_5, wA_6, wA_7, wA_8, wA_9⟩ := HwA.out.facts HG.out.grid Z1.out Z2.out Z3.out Z4.out))
      refine region_tail_in 18 (by kernel_rfl) (by kernel_rfl) (by rfl) (fun ⟨_, _, h⟩ => h) ?_
      simp only [List.take_succ_cons, List.take_zero, List.drop_succ_cons, List.drop_zero]
      repeat still_step
      refine wpStill_nil ?_
      go_wp2
      gi_wp2_with (first | (refine ⟨trivial, ?_⟩; gi_at_call 49; (with_reducible refine (CallsIn.inRound l (callsIn_wide.2 (H2.out _ ((Here.put HwA.out _)).BW))).mono ?_); rintro e wB ⟨rfl, hd⟩; have HwB := Aside0.mk (((Here.put HwA.out _)).drawn hd); clear hd; obtain ⟨wB_0, wB_1, wB_2, wB_3, wB_4, wB_5, wB_6, wB_7, wB_8, wB_9⟩ := HwB.out.facts HG.out.grid Z1.out Z2.out Z3.out Z4.out))
      refine region_tail_in 18 (by kernel_rfl) (by kernel_rfl) (by rfl) (fun ⟨_, _, h⟩ => h) ?_
      simp only [List.take_succ_cons, List.take_zero, List.drop_succ_cons, List.drop_zero]
      repeat still_step
      refine wpStill_nil ?_
      go_wp2
      gi_wp2
      go_roundw
      case rel => exact ⟨1, by omega, by go_num, ⟨Here.cast (Here.put HwB.out _) (by have := HK.out; have := HS.out; have := HD.out; have := HE0.out; simp [rd] at *; first | omega | (unfold wrap64; omega))⟩⟩
      case measure => simp [intOf]
     ·-- k = 0, false, true
      rw [hb1, hb2] at HK
      rw [hb1] at H1
      rw [hb2] at H2
      clear hb1 hb2
      gi_wp2_with (first | (refine ⟨trivial, ?_⟩; gi_at_call 49; (with_reducible refine (CallsIn.inRound l (callsIn_wide.2 (H1.out _ (HR.out).BW))).mono ?_); rintro e wA ⟨rfl, hd⟩; have HwA := Aside0.mk ((HR.out).drawn hd); clear hd; obtain ⟨wA_0, wA_1, wA_2, wA_3, wA_4, wA_5, wA_6, wA_7, wA_8, wA_9⟩ := HwA.out.facts HG.out.grid Z1.out Z2.out Z3.out Z4.out))
      refine region_tail_in 18 (by kernel_rfl) (by kernel_rfl) (by rfl) (fun ⟨_, _, h⟩ => h) ?_
      simp only [List.take_succ_cons, List.take_zero, List.drop_succ_cons, List.drop_zero]
      repeat still_step
      refine wpStill_nil ?_
      go_wp2
      gi_wp2_with (first | (refine ⟨trivial, ?_⟩; gi_at_call 49; (with_reducible refine (CallsIn.inRound l (callsIn_wide.2 (H2.out _ ((Here.put HwA.out _)).BW))).mono ?_); rintro e wB ⟨rfl, hd⟩; have HwB := Aside0.mk (((Here.put HwA.out _)).drawn hd); clear hd; obtain ⟨wB_0, wB_1, wB_2, wB_3, wB_4, wB_5, wB_6, wB_7, wB_8, wB_9⟩ := HwB.out.facts HG.out.grid Z1.out Z2.out Z3.out Z4.out))
      go_roundw
      case rel => exact ⟨1, by omega, by go_num, ⟨Here.cast (HwB.out) (by have := HK.out; have := HS.out; have := HD.out; have := HE0.out; simp [rd] at *; first | omega | (unfold wrap64; omega))⟩⟩
      case measure => simp [intOf]
     ·-- k = 0, true, false
      rw [hb1, hb2] at HK
      rw [hb1] at H1
      rw [hb2] at H2
      clear hb1 hb2
      gi_wp2_with (first | (refine ⟨trivial, ?_⟩; gi_at_call 49; (with_reducible refine (CallsIn.inRound l (callsIn_wide.2 (H1.out _ (HR.out).BW))).mono ?_); rintro e wA ⟨rfl, hd⟩; have HwA := Aside0.mk ((HR.out).drawn hd); clear hd; obtain ⟨wA_0, wA_1, wA_2, wA_3, wA_4, wA_5, wA_6, wA_7, wA_8, wA_9⟩ := HwA.out.facts HG.out.grid Z1.out Z2.out Z3.out Z4.out))
      gi_wp2_with (first | (refine ⟨trivial, ?_⟩; gi_at_call 49; (with_reducible refine (CallsIn.inRound l (callsIn_wide.2 (H2.out _ (HwA.out).BW))).mono ?_); rintro e wB ⟨rfl, hd⟩; have HwB := Aside0.mk ((HwA.out).drawn hd); clear hd; obtain ⟨wB_0, wB_1, wB_2, wB_3, wB_4, wB_5, wB_6, wB_7, wB_8, wB_9⟩ := HwB.out.facts HG.out.grid Z1.out Z2.out Z3.out Z4.out))
      refine region_tail_in 18 (by kernel_rfl) (by kernel_rfl) (by rfl) (fun ⟨_, _, h⟩ => h) ?_
      simp only [List.take_succ_cons, List.take_zero, List.drop_succ_cons, List.drop_zero]
      repeat still_step
      refine wpStill_nil ?_
      go_wp2
      gi_wp2
      go_roundw
      case rel => exact ⟨1, by omega, by go_num, ⟨Here.cast (Here.put HwB.out _) (by have := HK.out; have := HS.out; have := HD.out; have := HE0.out; simp [rd] at *; first | omega | (unfold wrap64; omega))⟩⟩
      case measure => simp [intOf]
     ·-- k = 0, true, true
      rw [hb1, hb2] at HK
      rw [hb1] at H1
      rw [hb2] at H2
      clear hb1 hb2
      gi_wp2_with (first | (refine ⟨trivial, ?_⟩; gi_at_call 49; (with_reducible refine (CallsIn.inRound l (callsIn_wide.2 (H1.out _ (HR.out).BW))).mono ?_); rintro e wA ⟨rfl, hd⟩; have HwA := Aside0.mk ((HR.out).drawn hd); clear hd; obtain ⟨wA_0, wA_1, wA_2, wA_3, wA_4, wA_5, wA_6, wA_7, wA_8, wA_9⟩ := HwA.out.facts HG.out.grid Z1.out Z2.out Z3.out Z4.out))
      gi_wp2_with (first | (refine ⟨trivial, ?_⟩; gi_at_call 49; (with_reducible refine (CallsIn.inRound l (callsIn_wide.2 (H2.out _ (HwA.out).BW))).mono ?_); rintro e wB ⟨rfl, hd⟩; have HwB := Aside0.mk ((HwA.out).drawn hd); clear hd; obtain ⟨wB_0, wB_1, wB_2, wB_3, wB_4, wB_5, wB_6, wB_7, wB_8, wB_9⟩ := HwB.out.facts HG.out.grid Z1.out Z2.out Z3.out Z4.out))
      go_roundw
      case rel => exact ⟨1, by omega, by go_num, ⟨Here.cast (HwB.out) (by have := HK.out; have := HS.out; have := HD.out; have := HE0.out; simp [rd] at *; first | omega | (unfold wrap64; omega))⟩⟩
      case measure => simp [intOf]
    ·have H1 := Aside0.mk (fun W' h => HH.out W' ((x.1.1 : Int) + 1) (x.1.2 : Int) h)
     have H2 := Aside0.mk (fun W' h => HH.out W' (x.1.1 : Int) ((x.1.2 : Int) + 1) h)
     have HK := Aside0.mk (edgeK_step1 (linesX l0) (linesY l0) dep x.1)
     rcases hb1 : hasL (linesX l0) (linesY l0) dep ((x.1.1 : Int) + 1) (x.1.2 : Int) with _ | _ <;> rcases hb2 : hasL (linesX l0) (linesY l0) dep (x.1.1 : Int) ((x.1.2 : Int) + 1) with _ | _
     ·-- k = 1, false, false
      rw [hb1, hb2] at HK
      rw [hb1] at H1
      rw [hb2] at H2
      clear hb1 hb2
      gi_wp2_with (first | (refine ⟨trivial, ?_⟩; gi_at_call 49; (with_reducible refine (CallsIn.inRound l (callsIn_wide.2 (H1.out _ (HR.out).BW))).mono ?_); rintro e wA ⟨rfl, hd⟩; have HwA := Aside0.mk ((HR.out).drawn hd); clear hd; obtain ⟨wA_0, wA_1, wA_2, wA_3, wA_4, wA_5, wA_6, wA_7, wA_8, wA_9⟩ := HwA.out.facts HG.out.grid Z1.out Z2.out Z3.out Z4.out))
      refine region_tail_in 18 (by kernel_rfl) (by kernel_rfl) (by rfl) (fun ⟨_, _, h⟩ => h) ?_
      simp only [List.take_succ_cons, List.take_zero, List.drop_succ_cons, List.drop_zero]
      repeat still_step
      refine wpStill_nil ?_
      go_wp2
      gi_wp2_with (first | (refine ⟨trivial, ?_⟩; gi_at_call 49; (with_reducible refine (CallsIn.inRound l (callsIn_wide.2 (H2.out _ ((Here.put HwA.out _)).BW))).mono ?_); rintro e wB ⟨rfl, hd⟩; have HwB := Aside0.mk (((Here.put HwA.out _)).drawn hd); clear hd; obtain ⟨wB_0, wB_1, wB_2, wB_3, wB_4, wB_5, wB_6, wB_7, wB_8, wB_9⟩ := HwB.out.facts HG.out.grid Z1.out Z2.out Z3.out Z4.out))
      refine region_tail_in 18 (by kernel_rfl) (by kernel_rfl) (by rfl) (fun ⟨_, _, h⟩ => h) ?_
      simp only [List.take_succ_cons, List.take_zero, List.drop_succ_cons, List.drop_zero]
      repeat still_step
      refine wpStill_nil ?_
      go_wp2
      gi_wp2
      go_roundw
      case rel => exact ⟨2, by omega, by go_num, ⟨Here.cast (Here.put HwB.out _) (by have := HK.out; have := HS.out; have := HD.out; have := HE1.out; simp [rd] at *; first | omega | (unfold wrap64; omega))⟩⟩
      case measure => simp [intOf]
     ·-- k = 1, false, true
      rw [hb1, hb2] at HK
      rw [hb1] at H1
      rw [hb2] at H2
      clear hb1 hb2
      gi_wp2_with (first | (refine ⟨trivial, ?_⟩; gi_at_call 49; (with_reducible refine (CallsIn.inRound l (callsIn_wide.2 (H1.out _ (HR.out).BW))).mono ?_); rintro e wA ⟨rfl, hd⟩; have HwA := Aside0.mk ((HR.out).drawn hd); clear hd; obtain ⟨wA_0, wA_1, wA_2, wA_3, wA_4, wA_5, wA_6, wA_7, wA_8, wA_9⟩ := HwA.out.facts HG.out.grid Z1.out Z2.out Z3.out Z4.out))
      refine region_tail_in 18 (by kernel_rfl) (by kernel_rfl) (by rfl) (fun ⟨_, _, h⟩ => h) ?_
      simp only [List.take_succ_cons, List.take_zero, List.drop_succ_cons, List.drop_zero]
      repeat still_step
      refine wpStill_nil ?_
      go_wp2
      gi_wp2_with (first | (refine ⟨trivial, ?_⟩; gi_at_call 49; (with_reducible refine (CallsIn.inRound l (callsIn_wide.2 (H2.out _ ((Here.put HwA.out _)).BW))).mono ?_); rintro e wB ⟨rfl, hd⟩; have HwB := Aside0.mk (((Here.put HwA.out _)).drawn hd); clear hd; obtain ⟨wB_0, wB_1, wB_2, wB_3, wB_4, wB_5, wB_6, wB_7, wB_8, wB_9⟩ := HwB.out.facts HG.out.grid Z1.out Z2.out Z3.out Z4.out))
      go_roundw
      case rel => exact ⟨2, by omega, by go_num, ⟨Here.cast (HwB.out) (by have := HK.out; have := HS.out; have := HD.out; have := HE1.out; simp [rd] at *; first | omega | (unfold wrap64; omega))⟩⟩
      case measure => simp [intOf]
     ·-- k = 1, true, false
      rw [hb1, hb2] at HK
      rw [hb1] at H1
      rw [hb2] at H2
      clear hb1 hb2
      gi_wp2_with (first | (refine ⟨trivial, ?_⟩; gi_at_call 49; (with_reducible refine (CallsIn.inRound l (callsIn_wide.2 (H1.out _ (HR.out).BW))).mono ?_); rintro e wA ⟨rfl, hd⟩; have HwA := Aside0.mk ((HR.out).drawn hd); clear hd; obtain ⟨wA_0, wA_1, wA_2, wA_3, wA_4, wA_5, wA_6, wA_7, wA_8, wA_9⟩ := HwA.out.facts HG.out.grid Z1.out Z2.out Z3.out Z4.out))
      gi_wp2_with (first | (refine ⟨trivial, ?_⟩; gi_at_call 49; (with_reducible refine (CallsIn.inRound l (callsIn_wide.2 (H2.out _ (HwA.out).BW))).mono ?_); rintro e wB ⟨rfl, hd⟩; have HwB := Aside0.mk ((HwA.out).drawn hd); clear hd; obtain ⟨wB_0, wB_1, wB_2, wB_3, wB_4, wB_5, wB_6, wB_7, wB_8, wB_9⟩ := HwB.out.facts HG.out.grid Z1.out Z2.out Z3.out Z4.out))
      refine region_tail_in 18 (by kernel_rfl) (by kernel_rfl) (by rfl) (fun ⟨_, _, h⟩ => h) ?_
      simp only [List.take_succ_cons, List.take_zero, List.drop_succ_cons, List.drop_zero]
      repeat still_step
      refine wpStill_nil ?_
      go_wp2
      gi_wp2
      go_roundw
      case rel => exact ⟨2, by omega, by go_num, ⟨Here.cast (Here.put HwB.out _) (by have := HK.out; have := HS.out; have := HD.out; have := HE1.out; simp [rd] at *; first | omega | (unfold wrap64; omega))⟩⟩
      case measure => simp [intOf]
     ·-- k = 1, true, true
      rw [hb1, hb2] at HK
      rw [hb1] at H1
      rw [hb2] at H2
      clear hb1 hb2
      gi_wp2_with (first | (refine ⟨trivial, ?_⟩; gi_at_call 49; (with_reducible refine (CallsIn.inRound l (callsIn_wide.2 (H1.out _ (HR.out).BW))).mono ?_); rintro e wA ⟨rfl, hd⟩; have HwA := Aside0.mk ((HR.out).drawn hd); clear hd; obtain ⟨wA_0, wA_1, wA_2, wA_3, wA_4, wA_5, wA_6, wA_7, wA_8, wA_9⟩ := HwA.out.facts HG.out.grid Z1.out Z2.out Z3.out Z4.out))
      gi_wp2_with (first | (refine ⟨trivial, ?_⟩; gi_at_call 49; (with_reducible refine (CallsIn.inRound l (callsIn_wide.2 (H2.out _ (HwA.out).BW))).mono ?_); rintro e wB ⟨rfl, hd⟩; have HwB := Aside0.mk ((HwA.out).drawn hd); clear hd; obtain ⟨wB_0, wB_1, wB_2, wB_3, wB_4, wB_5, wB_6, wB_7, wB_8, wB_9⟩ := HwB.out.facts HG.out.grid Z1.out Z2.out Z3.out Z4.out))
      go_roundw
      case rel => exact ⟨2, by omega, by go_num, ⟨Here.cast (HwB.out) (by have := HK.out; have := HS.out; have := HD.out; have := HE1.out; simp [rd] at *; first | omega | (unfold wrap64; omega))⟩⟩
      case measure => simp [intOf]
    ·have hkz : ¬ ((2 : Nat) : Int) < 2 := by omega
     gi_wp2
     exact ⟨HR.out.KO.from _, HR.out.KG, by simpa [sumE_snoc, HSE.out] using HR.out.BN, HR.out.BG, HR.out.BW⟩
  case done =>
   rintro D ys W hD hys ⟨hn, _, hB⟩ hK
   have cn : W.cell? ⟨w2.heap.size + 1, 0, none⟩ = some (.int .i64 (sumE (linesX l0) (linesY l0) dep (ys.map (·.1)))) := cell_of_one hn
   have HV := Aside0.mk (show sumE (linesX l0) (linesY l0) dep (ys.map (·.1)) = edgeL l0 by rw [hys]; exact sumE_edge HG.out)
   have HBX := Aside0.mk (HB2.out.trans (hB.mono HB2.out.size))
   have HDX := Aside0.mk hD
   have HKX := Aside0.mk hK
   clear hys hn hB hD hK
   gi_wp2
   refine ⟨by simp, .inl ⟨_, _, rfl, run_takeDeferred HKX.out, ?_⟩⟩
   refine ⟨_, results_tmp2 rfl _ _ _, ?_, ?_⟩
   ·rw [← HV.out]; rfl
   ·exact HBX.out.trans (belowK_b (w := w) (Nat.le_refl _) W D _ _ (by have := HDX.out; have := HB2.out.size; simp at *; omega) HKX.out rfl rfl)
  case stop =>
   rintro D c pre W _ _ h _
   exact h.elim
 ·rw [if_neg hok] at h
  simp only [Option.some.injEq, Prod.mk.injEq] at h
  obtain ⟨rfl, rfl⟩ := h
  have HA := Aside0.mk (cover_areRects.calls A0 c0 l0 32 false w HR0.out HC0.out (by unfold cover_areRects.f; rw [Bool.eq_false_iff.2 hok]))
  clear hok
  go_enter Try.func18, Try.ntmps18
  go_wp2_with (first | (go_at_call 46; refine HA.out.mono ?_; rintro e w1 ⟨rfl, hb1⟩))
  go_ret2
  exact ⟨rfl, hb1⟩
end Go.Proofs.Ytplhfbkejngioaa.X
namespace Go.Proofs.Ytplhfbkejngioaa.X
open Go.RowKit Go.Shelf Go.Proofs.YtplhfbkejngioaaW.PrintWords Go.Proofs.YtplhfbkejngioaaW.PrintLast Go.Proofs.Ytplhfbkejngioaa.S
set_option linter.unusedVariables false
set_option linter.unusedSimpArgs false
attribute [local go_sem] Oper.semAt_some
def cover_Deepest.f (l0 : List S48) : Option (Int × Int × Int × Int) := if areRs l0 32 then (if l0.isEmpty then some (0, 0, 0, 6) else some ((deepL l0).1, (deepL l0).2.1, (deepL l0).2.2, 0)) else some (0, 0, 0, 2)
structure KeepD (n₀ : Nat) (W W' : World) : Prop where
 below : Below n₀ W W'
 b0 : W'.heap[n₀]? = W.heap[n₀]?
 b3 : W'.heap[n₀ + 1 + 1 + 1]? = W.heap[n₀ + 1 + 1 + 1]?
theorem KeepD.refl (n₀ : Nat) (W : World) : KeepD n₀ W W := ⟨Below.refl _ _, rfl, rfl⟩
theorem KeepD.trans {n₀ : Nat} {A B C : World} (h : KeepD n₀ A B) (k : KeepD n₀ B C) : KeepD n₀ A C := ⟨h.below.trans k.below, k.b0.trans h.b0, k.b3.trans h.b3⟩
theorem KeepD.drewN (n₀ : Nat) (W : World) (m : Nat) : KeepD n₀ W (W.drewN m) := ⟨pw_below_drewN (Below.refl _ _) _, by simp, by simp⟩
def deepP (l : List S48) (zs : List (Nat × Nat)) : Int × Int × Int := zs.foldl (fun b x => deepStep l b ((linesX l).getD x.1 0) ((linesY l).getD x.2 0)) (0, 0, 0)
theorem deepP_snoc (l : List S48) (zs : List (Nat × Nat)) (x : Nat × Nat) : deepP l (zs ++ [x]) = deepStep l (deepP l zs) ((linesX l).getD x.1 0) ((linesY l).getD x.2 0) := by simp [deepP]
theorem deepP_deepL {l : List S48} {W : World} {g : Nat} {dep : List (List Int)} {A0 A1 A2 : Option Addr} {c0 c1 c2 : Nat} (h : GridOf l W g dep A0 A1 A2 c0 c1 c2) : deepP l (partsL (linesX l) (linesY l) dep) = deepL l := deep_fold h
structure HereD (g : Nat) (w2 W : World) (b : Int × Int × Int) : Prop where
 BM : W.heap[w2.heap.size + 1]? = some (.cells #[.int .i64 b.1] 3 (0, 0))
 BA : W.heap[w2.heap.size + 1 + 1]? = some (.cells #[.int .i64 b.2.1, .int .i64 b.2.2] 28 (0, 0))
 BG : W.heap[w2.heap.size]? = some (.cells #[.pointer (some ⟨g, 0, none⟩)] 72 (0, 0))
 BW : Below w2.heap.size w2 W
theorem heapD_drew (W : World) : W.drew.heap = W.heap := rfl
theorem HereD.put {g : Nat} {w2 W : World} {b : Int × Int × Int} (h : HereD g w2 W b) (v x y : Int) :
  HereD g w2 (((W.setCell ⟨w2.heap.size + 1, 0, none⟩ (.int .i64 v)).setCell ⟨w2.heap.size + 1 + 1, 0, none⟩ (.int .i64 x)).setCell ⟨w2.heap.size + 1 + 1, 1, none⟩ (.int .i64 y)).drew.drew (v, x, y) ∧
  KeepD w2.heap.size W (((W.setCell ⟨w2.heap.size + 1, 0, none⟩ (.int .i64 v)).setCell ⟨w2.heap.size + 1 + 1, 0, none⟩ (.int .i64 x)).setCell ⟨w2.heap.size + 1 + 1, 1, none⟩ (.int .i64 y)).drew.drew ∧
  KeepsOthers W (((W.setCell ⟨w2.heap.size + 1, 0, none⟩ (.int .i64 v)).setCell ⟨w2.heap.size + 1 + 1, 0, none⟩ (.int .i64 x)).setCell ⟨w2.heap.size + 1 + 1, 1, none⟩ (.int .i64 y)).drew.drew := by
 have b : Below w2.heap.size W (((W.setCell ⟨w2.heap.size + 1, 0, none⟩ (.int .i64 v)).setCell ⟨w2.heap.size + 1 + 1, 0, none⟩ (.int .i64 x)).setCell ⟨w2.heap.size + 1 + 1, 1, none⟩ (.int .i64 y)).drew.drew :=
  ((((Below.refl w2.heap.size W).setCell (p := ⟨w2.heap.size + 1, 0, none⟩) (by simp) _).setCell (p := ⟨w2.heap.size + 1 + 1, 0, none⟩) (by simp; omega) _).setCell (p := ⟨w2.heap.size + 1 + 1, 1, none⟩) (by simp; omega) _).drew.drew
 refine ⟨⟨?_, ?_, ?_, h.BW.trans b⟩, ⟨b, ?_, ?_⟩, ((((KeepsOthers.setCell W _ _).trans (KeepsOthers.setCell _ _ _)).trans (KeepsOthers.setCell _ _ _)).trans (KeepsOthers.drew _)).trans (KeepsOthers.drew _)⟩
 ·rw [heapD_drew, heapD_drew, setCell_other _ _ _ (by dsimp only; omega), setCell_other _ _ _ (by dsimp only; omega)]
  exact one_setCell h.BM
 ·rw [heapD_drew, heapD_drew]
  exact blk_set (blk_set ((setCell_other _ _ _ (by dsimp only; omega)).trans h.BA) 0 (.int .i64 x)) 1 (.int .i64 y)
 ·rw [heapD_drew, heapD_drew, setCell_other _ _ _ (by dsimp only; omega), setCell_other _ _ _ (by dsimp only; omega), setCell_other _ _ _ (by dsimp only; omega)]
  exact h.BG
 ·rw [heapD_drew, heapD_drew, setCell_other _ _ _ (by dsimp only; omega), setCell_other _ _ _ (by dsimp only; omega), setCell_other _ _ _ (by dsimp only; omega)]
 ·rw [heapD_drew, heapD_drew, setCell_other _ _ _ (by dsimp only; omega), setCell_other _ _ _ (by dsimp only; omega), setCell_other _ _ _ (by dsimp only; omega)]
theorem HereD.drewN {g : Nat} {w2 W : World} {b : Int × Int × Int} (h : HereD g w2 W b) (n : Nat) : HereD g w2 (W.drewN n) b := ⟨h.BM, h.BA, h.BG, pw_below_drewN h.BW _⟩
set_option maxHeartbeats 8000000 in
set_option maxRecDepth 100000 in
theorem deep_yes (A0 : Option Addr) (c0 : Nat) (l0 : List S48) (w : World) (hr0 : Kd.C k48 w A0 l0.length l0) (hc0 : l0.length ≤ c0) (hok : areRs l0 32 = true) (hne : 0 < l0.length) :
  Calls Try.prog 19 #[.slice A0 l0.length c0] w fun e w' => e = .returned (.tuple #[.int .i64 (deepL l0).1, .agg #[.int .i64 (deepL l0).2.1, .int .i64 (deepL l0).2.2], .int .i64 0]) ∧ Below w.heap.size w w' := by
 have HR0 := Aside0.mk hr0
 have HC0 := Aside0.mk hc0
 have HOK := Aside0.mk hok
 have HNE := Aside0.mk hne
 have hz : ((l0.length : Int) == 0) = false := by simp; intro e; simp [e] at hne
 have HA := Aside0.mk (fun W (h : Below w.heap.size w W) => cover_areRects.calls A0 c0 l0 32 true W (Kd.C_below HR0.out h) HC0.out (by unfold cover_areRects.f; rw [HOK.out]))
 clear hok hr0 hc0 hne
 refine (callsIn_wide (n := 3)).1 ?_
 refine callsIn_of_wp_marks Try.func19 rfl trivial ?_ rfl
 simp only [Try.ntmps19, List.size_toArray, List.length_cons, List.length_nil, Nat.reduceAdd, Nat.reduceSub, Array.replicate_succ, Array.replicate_zero, List.push_toArray, List.append_toArray, List.nil_append, List.cons_append]
 gi_wp2_with (first
  | (refine ⟨trivial, ?_⟩; gi_at_call 46; refine (callsIn_wide.2 (HA.out _ (below_alloc (Below.refl _ _) _))).mono ?_; rintro e w1 ⟨rfl, hb1⟩; have HB1 := Aside0.mk hb1; clear hb1)
  | (refine ⟨trivial, ?_⟩; gi_at_call 47; refine (callsIn_wide.2 (gridOf_calls A0 c0 l0 _ (Kd.C_below (Kd.C_alloc HR0.out _) HB1.out) HC0.out HOK.out)).mono ?_; rintro e w2 ⟨g, dep, Ax, Ay, Ad, cx, cy, cd, rfl, hg, hb2⟩; have HG := Aside0.mk hg; have HB2 := Aside0.mk (below_then HB1.out HB1.out.size hb2); clear hg hb2)
  | (refine ⟨trivial, ?_⟩; gi_at_call 48; refine (callsIn_wide.2 (parts_calls g _)).mono ?_; rintro e w3 ⟨rfl, rfl⟩))
 have hp := parts_stops (KeepD w2.heap.size) (KeepD.refl _) (fun h k => h.trans k) (KeepD.drewN _) (3 - 1) (by omega) (w2.heap.size + 1 + 1 + 1) g (linesX l0) (linesY l0) dep Ax Ay Ad cx cy cd HG.out.tab (linesX_short HOK.out) (linesY_short HOK.out)
  (grid_good HG.out) ((((w2.alloc (.cells #[.pointer (some ⟨g, 0, none⟩)] 72)).alloc (.cells #[.int .i64 0] 3)).alloc (.cells #[.int .i64 0, .int .i64 0] 28)).alloc (.cells #[.pointer (some ⟨g, 0, none⟩)] 72))
  (fun W W' hb hk => by
   have hbw : Below w2.heap.size w2 ((((w2.alloc (.cells #[.pointer (some ⟨g, 0, none⟩)] 72)).alloc (.cells #[.int .i64 0] 3)).alloc (.cells #[.int .i64 0, .int .i64 0] 28)).alloc (.cells #[.pointer (some ⟨g, 0, none⟩)] 72)) := below_alloc (below_alloc (below_alloc (below_alloc (Below.refl _ _) _) _) _) _
   refine ⟨?_, HG.out.grid.below ((hbw.trans (hb.mono (by simp; omega))).trans hk.below)⟩
   rw [hk.b3, hb.block _ (by simp)]
   have := heap_alloc_new (((w2.alloc (.cells #[.pointer (some ⟨g, 0, none⟩)] 72)).alloc (.cells #[.int .i64 0] 3)).alloc (.cells #[.int .i64 0, .int .i64 0] 28)) (.cells #[.pointer (some ⟨g, 0, none⟩)] 72)
   simpa using this)
 have HP := Aside0.mk hp
 have HBR := Aside0.mk (HB2.out.block w.heap.size (by simp))
 clear hp
 refine wpIn_rangeFunc_ownH rfl (by omega) (gf := 77) (lb := #[.pointer (some ⟨w2.heap.size + 1 + 1 + 1, 0, none⟩)]) rfl trivial (Go.Proofs.enters_of Try.func77 (by kernel_rfl) rfl)
  HP.out (fun h k => h.trans k) ?kb (Below.refl _ _) (fun _ => rfl)
  (fun pre W => HereD g w2 W (deepP l0 (pre.map (·.1)))) (fun _ _ _ => False) ?hI (fun _ _ _ _ _ hs _ _ => hs) ?h0
  (fun x a' _ => a' = { tmps := #[.slice A0 l0.length c0, undef, .int .i64 0, .pointer (some ⟨w.heap.size, 0, none⟩), .int .i64 0, .pointer (some ⟨w2.heap.size, 0, none⟩), .pointer (some ⟨w2.heap.size + 1, 0, none⟩), .pointer (some ⟨w2.heap.size + 1 + 1, 0, none⟩), .int .i64 (x.1.1 : Int), .int .i64 (x.1.2 : Int), .slice A0 l0.length c0, .bool true, .bool false, undef, .slice A0 l0.length c0, .int .i64 (l0.length : Int), .bool false, undef, .slice A0 l0.length c0, .pointer (some ⟨g, 0, none⟩), .pointer (some ⟨g, 0, none⟩), .func (.func 77) #[] #[.pointer (some ⟨w2.heap.size + 1 + 1 + 1, 0, none⟩)], .int .i64 (x.1.1 : Int), .int .i64 (x.1.2 : Int), undef, undef, undef, undef, undef, undef, undef, undef, undef, undef, undef, undef, undef, undef, undef, undef, undef, undef, undef, undef, undef, undef, undef, undef, undef, undef, undef, undef, undef, undef, undef, undef, undef, undef, undef, undef, undef, undef, undef], defers := [] })
  (fun _ _ _ _ _ _ h _ _ => h) ?assign ?body ?done ?stop
 case assign =>
  intro l pre x W K hi hK
  simp only [encIJ]
  gi_wp2
  exact hK _ _ (KeepsFrom.refl _ _) (KeepD.refl _ _) hi rfl
 case kb =>
  intro W l o o' hl ho hc hw
  have hl' : w2.heap.size + 4 ≤ l := by simpa using hl
  exact ⟨belowK_b (w := w2) (Nat.le_refl _) W l o o' (by omega) ho hc hw, World.putObj_heap_other (by omega), World.putObj_heap_other (by omega)⟩
 case hI =>
  exact fun s A B row hs hg hr => ⟨(grownBy_keeps_cells hg (fun r e => (hr r e).2) hs.BM rfl).trans hs.BM, (grownBy_keeps_cells hg (fun r e => (hr r e).2) hs.BA rfl).trans hs.BA, (grownBy_keeps_cells hg (fun r e => (hr r e).2) hs.BG rfl).trans hs.BG,
   ownFrom_below (β := Unit) (n₀ := w2.heap.size) (B := _) (w₀ := w2) (Nat.le_refl _) (Nat.le_refl _) () A B row hs.BW hg (fun r e => ⟨by have := (hr r e).1; simp at this; omega, (hr r e).2⟩)⟩
 case h0 =>
  refine ⟨?_, ?_, ?_, below_alloc (below_alloc (below_alloc (below_alloc (Below.refl _ _) _) _) _) _⟩
  ·have := blk_alloc (blk_alloc (heap_alloc_new (w2.alloc (.cells #[.pointer (some ⟨g, 0, none⟩)] 72)) (.cells #[.int .i64 0] 3)) (.cells #[.int .i64 0, .int .i64 0] 28)) (.cells #[.pointer (some ⟨g, 0, none⟩)] 72)
   simpa [deepP] using this
  ·have := blk_alloc (heap_alloc_new ((w2.alloc (.cells #[.pointer (some ⟨g, 0, none⟩)] 72)).alloc (.cells #[.int .i64 0] 3)) (.cells #[.int .i64 0, .int .i64 0] 28)) (.cells #[.pointer (some ⟨g, 0, none⟩)] 72)
   simpa [deepP] using this
  ·exact blk_alloc (blk_alloc (blk_alloc (heap_alloc_new w2 (.cells #[.pointer (some ⟨g, 0, none⟩)] 72)) _) _) _
 case body =>
  rintro l pre x a' W hl hrec HI0 rfl hlen
  have HI := Aside0.mk HI0
  clear HI0 hlen
  obtain ⟨hx1, hx2, _⟩ := x.2
  have sx := linesX_short HOK.out
  have sy := linesY_short HOK.out
  have hdl := HG.out.tab.1
  have hrow := HG.out.tab.row (i := (x.1.1 : Int)) (by omega) (by omega)
  have hval := HG.out.val x.1.1 x.1.2 (by omega) (by omega)
  obtain ⟨ax, ex, z1⟩ := Kd.at_int HG.out.grid.rx (x.1.1 : Int) (by omega) (by omega)
  obtain ⟨ay, ey, z2⟩ := Kd.at_int HG.out.grid.ry (x.1.2 : Int) (by omega) (by omega)
  obtain ⟨ad, ar, cr, ed, z3, hl3, hr3⟩ := at_LL HG.out.grid.rd (x.1.1 : Int) (by omega) (by omega)
  obtain ⟨aj, ej, z4⟩ := Kd.at_int hr3 (x.1.2 : Int) (by omega) (by omega)
  rw [show rd (rdLL dep (x.1.1 : Int)) (x.1.2 : Int) = depthL l0 ((linesX l0).getD x.1.1 0) ((linesY l0).getD x.1.2 0) from hval] at z4
  rw [show rd (linesX l0) (x.1.1 : Int) = (linesX l0).getD x.1.1 0 by simp [rd]] at z1
  rw [show rd (linesY l0) (x.1.2 : Int) = (linesY l0).getD x.1.2 0 by simp [rd]] at z2
  rw [hrow] at z3
  cases ex
  cases ey
  cases ed
  cases ej
  have b := HG.out.grid.below HI.out.BW
  have wr_2 : W.cell? ⟨w2.heap.size, 0, none⟩ = some (.pointer (some ⟨g, 0, none⟩)) := cell_of_one HI.out.BG
  have wr_0 : W.cell? ⟨w2.heap.size + 1, 0, none⟩ = some (.int .i64 (deepP l0 (pre.map (·.1))).1) := cell_of_one HI.out.BM
  have wr_1 : W.frozen? ⟨w2.heap.size + 1, 0, none⟩ = false := free_of_one HI.out.BM
  have wa_0 : W.cell? ⟨w2.heap.size + 1 + 1, 0, none⟩ = some (.int .i64 (deepP l0 (pre.map (·.1))).2.1) := (blk_cell HI.out.BA 0).trans rfl
  have wa_1 : W.cell? ⟨w2.heap.size + 1 + 1, 1, none⟩ = some (.int .i64 (deepP l0 (pre.map (·.1))).2.2) := (blk_cell HI.out.BA 1).trans rfl
  have wa_2 : W.frozen? ⟨w2.heap.size + 1 + 1, 0, none⟩ = false := blk_frozen HI.out.BA 0
  have wa_3 : W.frozen? ⟨w2.heap.size + 1 + 1, 1, none⟩ = false := blk_frozen HI.out.BA 1
  have wr_3 : W.cell? ⟨g, 0, none⟩ = some (.slice (some ax) (linesX l0).length cx) := (blk_cell b.blk 0).trans rfl
  have wr_4 : W.cell? ⟨g, 1, none⟩ = some (.slice (some ay) (linesY l0).length cy) := (blk_cell b.blk 1).trans rfl
  have wr_5 : W.cell? ⟨g, 2, none⟩ = some (.slice (some ad) dep.length cd) := (blk_cell b.blk 2).trans rfl
  have wr_6 := pw_cell_below HI.out.BW z1
  have wr_7 := pw_cell_below HI.out.BW z2
  have wr_8 := pw_cell_below HI.out.BW z3
  have wr_9 := pw_cell_below HI.out.BW z4
  simp only [Int.toNat_natCast] at wr_6 wr_7 wr_8 wr_9
  have p5 : (x.1.1 : Int) < ((linesX l0).length : Int) := by omega
  have p6 : (x.1.2 : Int) < ((linesY l0).length : Int) := by omega
  have p7 : (x.1.1 : Int) < (dep.length : Int) := by omega
  have HS := Aside0.mk (deepP_snoc l0 (pre.map (·.1)) x.1)
  have HK := Aside0.mk (show (pre ++ [x]).map (·.1) = pre.map (·.1) ++ [x.1] by simp)
  have l1 := World.block_lt_of_cell? w2 _ z1
  have l2 := World.block_lt_of_cell? w2 _ z2
  have l4 := World.block_lt_of_cell? w2 _ z3
  have l5 := World.block_lt_of_cell? w2 _ z4
  rw [add_block] at l1 l2 l4 l5
  have lg := HG.out.grid.lt
  have d1 : ax.block ≠ w2.heap.size + 1 := by omega
  have d2 : ay.block ≠ w2.heap.size + 1 := by omega
  have d3 : g ≠ w2.heap.size + 1 := by omega
  have d4 : ad.block ≠ w2.heap.size + 1 := by omega
  have d5 : aj.block ≠ w2.heap.size + 1 := by omega
  clear l1 l2 l4 l5 lg
  clear b z1 z2 z3 z4 hr3 hl3 hrow hval hdl hx1 hx2 sx sy
  generalize hb : deepP l0 (pre.map (·.1)) = b at *
  have Hb := Aside0.mk hb
  clear hb
  obtain ⟨b1, b2, b3⟩ := b
  dsimp only at wr_0 wa_0 wa_1
  generalize hX : (linesX l0).getD x.1.1 0 = vx at *
  generalize hY : (linesY l0).getD x.1.2 0 = vy at *
  generalize hv : depthL l0 vx vy = v at *
  have HV := Aside0.mk hv
  have HX := Aside0.mk hX
  have HY := Aside0.mk hY
  clear hv hX hY
  by_cases hgt : v > b1
  ·have HD := Aside0.mk (show deepStep l0 (b1, b2, b3) vx vy = (v, vx, vy) by unfold deepStep; rw [HV.out, if_pos hgt])
   gi_wp2
   refine region_tail_in 11 (by kernel_rfl) (by kernel_rfl) (by rfl) (fun ⟨_, _, h⟩ => h) ?_
   simp only [List.take_succ_cons, List.take_zero, List.drop_succ_cons, List.drop_zero]
   repeat still_step
   refine wpStill_nil ?_
   go_wp2
   gi_wp2
   refine start_in (n := 27) (S := fun w' => w'.cell? ⟨w2.heap.size, 0, none⟩ = some (.pointer (some ⟨g, 0, none⟩)) ∧ w'.cell? ⟨g, 0, none⟩ = some (.slice (some ax) (linesX l0).length cx) ∧ w'.cell? ⟨g, 1, none⟩ = some (.slice (some ay) (linesY l0).length cy) ∧ w'.cell? ⟨g, 2, none⟩ = some (.slice (some ad) dep.length cd) ∧ w'.cell? (ax.add x.1.1) = some (.int .i64 vx) ∧ w'.cell? (ay.add x.1.2) = some (.int .i64 vy) ∧ w'.cell? (ad.add x.1.1) = some (.slice (some aj) (linesY l0).length cr) ∧ w'.cell? (aj.add x.1.2) = some (.int .i64 v)) (ds := [26]) #[false, false, false, false, false, false, false, false, false, false, false, false, false, false, false, false, false, false, false, false, false, false, false, false, false, false, false] (by kernel_rfl) rfl rfl (by rfl) (fun ⟨_, _, h⟩ => h) ⟨wr_2, wr_3, wr_4, wr_5, wr_6, wr_7, wr_8, wr_9⟩ (fun hHeld => ?_)
   refine pz 4 (some 40) (bn 27 16) ?_
   refine pz 7 (some 43) (bn 27 144) ?_
   refine pz 14 (some 50) (bn 27 16528) ?_
   refine pz 21 (some 57) (bn 27 2113680) ?_
   refine tz 0 (some 36) (bn 27 2113681) hHeld ?_
   refine pz 1 (some 37) (bn 27 2113683) ?_
   refine pz 2 (some 38) (bn 27 2113687) ?_
   refine tz 3 (some 39) (bn 27 2113695) hHeld ?_
   refine pz 5 (some 41) (bn 27 2113727) ?_
   refine tz 6 (some 42) (bn 27 2113791) hHeld ?_
   refine pz 8 (some 44) (bn 27 2114047) ?_
   refine tz 9 (some 45) (bn 27 2114559) hHeld ?_
   refine tz 10 (some 46) (bn 27 2115583) hHeld ?_
   refine pz 11 (some 47) (bn 27 2117631) ?_
   refine pz 12 (some 48) (bn 27 2121727) ?_
   refine tz 13 (some 49) (bn 27 2129919) hHeld ?_
   refine pz 15 (some 51) (bn 27 2162687) ?_
   refine tz 16 (some 52) (bn 27 2228223) hHeld ?_
   refine tz 17 (some 53) (bn 27 2359295) hHeld ?_
   refine pz 18 (some 54) (bn 27 2621439) ?_
   refine pz 19 (some 55) (bn 27 3145727) ?_
   refine tz 20 (some 56) (bn 27 4194303) hHeld ?_
   refine pz 22 (some 58) (bn 27 8388607) ?_
   refine tz 23 (some 59) (bn 27 16777215) hHeld ?_
   refine pz 24 (some 60) (bn 27 33554431) ?_
   refine oz 25 none (bn 27 67108863) (fun K hK => ?_)
   refine sz ?_
   refine hK.out _ _ ⟨cellFar (by simp) _ wr_2, cellFar d3 _ wr_3, cellFar d3 _ wr_4, cellFar d3 _ wr_5, cellFar (by rw [add_block]; exact d1) _ wr_6, cellFar (by rw [add_block]; exact d2) _ wr_7, cellFar (by rw [add_block]; exact d4) _ wr_8, cellFar (by rw [add_block]; exact d5) _ wr_9⟩ (fun hHeld => ?_)
   clear hK K
   refine last_ (i := 26) (N := none) #[true, true, true, true, true, true, true, true, true, true, true, true, true, true, true, true, true, true, true, true, true, true, true, true, true, true, true] rfl rfl (by kernel_rfl) (by decide) (fun K hK => ?_)
   refine sz ?_
   refine hK.out _ _ ?_
   clear hK K
   refine done_ (by kernel_rfl) ?_
   gi_wp2
   have hput := HI.out.put v vx vy
   refine ⟨hput.2.2.from _, hput.2.1, ?_⟩
   show HereD g w2 _ (deepP l0 ((pre ++ [x]).map (·.1)))
   rw [HK.out, HS.out, HD.out]
   exact hput.1
  ·have HD := Aside0.mk (show deepStep l0 (b1, b2, b3) vx vy = (b1, b2, b3) by unfold deepStep; rw [HV.out, if_neg hgt])
   gi_wp2
   refine region_tail_in 11 (by kernel_rfl) (by kernel_rfl) (by rfl) (fun ⟨_, _, h⟩ => h) ?_
   simp only [List.take_succ_cons, List.take_zero, List.drop_succ_cons, List.drop_zero]
   repeat still_step
   refine wpStill_nil ?_
   go_wp2
   gi_wp2
   refine ⟨(KeepsOthers.drew W).from _, KeepD.drewN _ W 1, ?_⟩
   show HereD g w2 _ (deepP l0 ((pre ++ [x]).map (·.1)))
   rw [HK.out, HS.out, HD.out]
   exact HI.out.drewN 1
 case done =>
  rintro D ys W hD hys hI hK
  rw [hys, deepP_deepL HG.out] at hI
  have HI := Aside0.mk hI
  have HDX := Aside0.mk hD
  have HKX := Aside0.mk hK
  have hlt : w.heap.size < w2.heap.size := Nat.lt_of_lt_of_le (by simp) HB2.out.size
  have HRB := Aside0.mk (show W.heap[w.heap.size]? = some (.cells #[.int .i64 0, .int .i64 0] 28 (0, 0)) from ((hI.BW.block _ hlt).trans HBR.out).trans (heap_alloc_new w _))
  have HB := Aside0.mk (show Below w.heap.size w W from (below_alloc (Below.refl _ w) _).trans ((HB2.out.trans (hI.BW.mono HB2.out.size)).mono (by simp)))
  clear hys hI hD hK
  generalize hb : deepL l0 = b at *
  have HBE := Aside0.mk hb
  obtain ⟨b1, b2, b3⟩ := b
  have wm_0 : W.cell? ⟨w2.heap.size + 1, 0, none⟩ = some (.int .i64 b1) := cell_of_one HI.out.BM
  have wa_0 : W.cell? ⟨w2.heap.size + 1 + 1, 0, none⟩ = some (.int .i64 b2) := (blk_cell HI.out.BA 0).trans rfl
  have wa_1 : W.cell? ⟨w2.heap.size + 1 + 1, 1, none⟩ = some (.int .i64 b3) := (blk_cell HI.out.BA 1).trans rfl
  have wr_0 : W.cell? ⟨w.heap.size, 0, none⟩ = some (.int .i64 0) := (blk_cell HRB.out 0).trans rfl
  have wr_1 : W.cell? ⟨w.heap.size, 1, none⟩ = some (.int .i64 0) := (blk_cell HRB.out 1).trans rfl
  have wr_2 : W.frozen? ⟨w.heap.size, 0, none⟩ = false := blk_frozen HRB.out 0
  have wr_3 : W.frozen? ⟨w.heap.size, 1, none⟩ = false := blk_frozen HRB.out 1
  clear hlt hb
  gi_wp2
  refine wpIn_wide.2 ?_
  go_still_tail 3, (by kernel_rfl)
  go_wp2
  gi_wp2
  refine ⟨by simp, .inl ⟨_, _, rfl, run_takeDeferred ((((KeepsOthers.setCell W _ _).trans (KeepsOthers.setCell _ _ _)).trans (KeepsOthers.drew _)).same D _ HKX.out rfl), ?_⟩⟩
  have hwD : w2.heap.size + 4 ≤ D := by simpa using HDX.out
  have hlt : w.heap.size < w2.heap.size := Nat.lt_of_lt_of_le (by simp) HB2.out.size
  have hres : (((W.setCell ⟨w.heap.size, 0, none⟩ (.int .i64 b2)).setCell ⟨w.heap.size, 1, none⟩ (.int .i64 b3)).drew.putObj D (.deferred none)).heap[w.heap.size]? = some (.cells #[.int .i64 b2, .int .i64 b3] 28 (0, 0)) := by
   rw [World.putObj_heap_other (by omega), heapD_drew]
   exact blk_set (blk_set HRB.out 0 (.int .i64 b2)) 1 (.int .i64 b3)
  refine ⟨_, results_list (rs := [.tmp 2, .cell 3 28, .tmp 4]) rfl (by simp) (.tmp (.cell w.heap.size 28 #[.int .i64 b2, .int .i64 b3] (0, 0) _ rfl hres Try.underlying28 rfl (by kernel_rfl) (.tmp .nil))), ?_, ?_⟩
  ·rw [HBE.out]; rfl
  ·have hB3 := ((HB.out.setCell (p := ⟨w.heap.size, 0, none⟩) (by simp) (.int .i64 b2)).setCell (p := ⟨w.heap.size, 1, none⟩) (by simp) (.int .i64 b3)).drew
   exact hB3.trans (belowK_b (w := w) (Nat.le_refl _) _ D _ _ (by omega) ((((KeepsOthers.setCell W _ _).trans (KeepsOthers.setCell _ _ _)).trans (KeepsOthers.drew _)).same D _ HKX.out rfl) rfl rfl)
 case stop =>
  rintro D c pre W _ _ h _
  exact h.elim
set_option maxHeartbeats 2000000 in
set_option maxRecDepth 100000 in
theorem cover_Deepest.calls (A0 : Option Addr) (c0 : Nat) (l0 : List S48) (r1 : Int) (r2 : Int) (r3 : Int) (r4 : Int) (w : World) (hr0 : Kd.C k48 w A0 l0.length l0) (hc0 : l0.length ≤ c0) (h : cover_Deepest.f l0 = some (r1, r2, r3, r4)) :
  Calls Try.prog 19 #[.slice A0 l0.length c0] w fun e w' => e = .returned (.tuple #[.int .i64 r1, .agg #[.int .i64 r2, .int .i64 r3], .int .i64 r4]) ∧ Below w.heap.size w w' := by
 unfold cover_Deepest.f at h
 by_cases hok : areRs l0 32 = true
 ·rw [if_pos hok] at h
  by_cases he : l0.isEmpty = true
  ·rw [if_pos he] at h
   simp only [Option.some.injEq, Prod.mk.injEq] at h
   obtain ⟨rfl, rfl, rfl, rfl⟩ := h
   obtain rfl : l0 = [] := List.isEmpty_iff.1 he
   have HA := Aside0.mk (fun W (h : Below w.heap.size w W) => cover_areRects.calls A0 c0 [] 32 true W (Kd.C_below hr0 h) hc0 (by unfold cover_areRects.f; rw [hok]))
   clear hok hr0 hc0 he
   simp only [List.length_nil]
   simp only [List.length_nil] at HA
   go_enter Try.func19, Try.ntmps19
   go_wp2_with (first | (go_at_call 46; refine (HA.out _ (below_alloc (Below.refl _ _) _)).mono ?_; rintro e w1 ⟨rfl, hb1⟩; have HB1 := Aside0.mk hb1; have HRB := Aside0.mk ((hb1.block w.heap.size (by simp)).trans (heap_alloc_new w _)); have wr_0 : w1.cell? ⟨w.heap.size, 0, none⟩ = some (.int .i64 0) := (blk_cell HRB.out 0).trans rfl; have wr_1 : w1.cell? ⟨w.heap.size, 1, none⟩ = some (.int .i64 0) := (blk_cell HRB.out 1).trans rfl; have wr_2 : w1.frozen? ⟨w.heap.size, 0, none⟩ = false := blk_frozen HRB.out 0; have wr_3 : w1.frozen? ⟨w.heap.size, 1, none⟩ = false := blk_frozen HRB.out 1; clear hb1))
   have hres : ((w1.setCell ⟨w.heap.size, 0, none⟩ (.int .i64 0)).setCell ⟨w.heap.size, 1, none⟩ (.int .i64 0)).heap[w.heap.size]? = some (.cells #[.int .i64 0, .int .i64 0] 28 (0, 0)) := blk_set (blk_set HRB.out 0 (.int .i64 0)) 1 (.int .i64 0)
   refine bodyPost_ret (results_list (rs := [.tmp 2, .cell 3 28, .tmp 4]) rfl (by simp) (.tmp (.cell w.heap.size 28 #[.int .i64 0, .int .i64 0] (0, 0) _ rfl hres Try.underlying28 rfl (by kernel_rfl) (.tmp .nil)))) rfl ?_
   exact ⟨rfl, ((((below_alloc (Below.refl w.heap.size w) _).trans (HB1.out.mono (by simp))).setCell (p := ⟨w.heap.size, 0, none⟩) (by simp) (.int .i64 0)).setCell (p := ⟨w.heap.size, 1, none⟩) (by simp) (.int .i64 0))⟩
  ·rw [if_neg he] at h
   simp only [Option.some.injEq, Prod.mk.injEq] at h
   obtain ⟨rfl, rfl, rfl, rfl⟩ := h
   exact deep_yes A0 c0 l0 w hr0 hc0 hok (by cases l0; simp at he; simp)
 ·rw [if_neg hok] at h
  simp only [Option.some.injEq, Prod.mk.injEq] at h
  obtain ⟨rfl, rfl, rfl, rfl⟩ := h
  have HA := Aside0.mk (fun W (h : Below w.heap.size w W) => cover_areRects.calls A0 c0 l0 32 false W (Kd.C_below hr0 h) hc0 (by unfold cover_areRects.f; rw [Bool.eq_false_iff.2 hok]))
  clear hok hr0 hc0
  go_enter Try.func19, Try.ntmps19
  go_wp2_with (first | (go_at_call 46; refine (HA.out _ (below_alloc (Below.refl _ _) _)).mono ?_; rintro e w1 ⟨rfl, hb1⟩; have HB1 := Aside0.mk hb1; have HRB := Aside0.mk ((hb1.block w.heap.size (by simp)).trans (heap_alloc_new w _)); have wr_0 : w1.cell? ⟨w.heap.size, 0, none⟩ = some (.int .i64 0) := (blk_cell HRB.out 0).trans rfl; have wr_1 : w1.cell? ⟨w.heap.size, 1, none⟩ = some (.int .i64 0) := (blk_cell HRB.out 1).trans rfl; have wr_2 : w1.frozen? ⟨w.heap.size, 0, none⟩ = false := blk_frozen HRB.out 0; have wr_3 : w1.frozen? ⟨w.heap.size, 1, none⟩ = false := blk_frozen HRB.out 1; clear hb1))
  have hres : ((w1.setCell ⟨w.heap.size, 0, none⟩ (.int .i64 0)).setCell ⟨w.heap.size, 1, none⟩ (.int .i64 0)).heap[w.heap.size]? = some (.cells #[.int .i64 0, .int .i64 0] 28 (0, 0)) := blk_set (blk_set HRB.out 0 (.int .i64 0)) 1 (.int .i64 0)
  refine bodyPost_ret (results_list (rs := [.tmp 2, .cell 3 28, .tmp 4]) rfl (by simp) (.tmp (.cell w.heap.size 28 #[.int .i64 0, .int .i64 0] (0, 0) _ rfl hres Try.underlying28 rfl (by kernel_rfl) (.tmp .nil)))) rfl ?_
  exact ⟨rfl, ((((below_alloc (Below.refl w.heap.size w) _).trans (HB1.out.mono (by simp))).setCell (p := ⟨w.heap.size, 0, none⟩) (by simp) (.int .i64 0)).setCell (p := ⟨w.heap.size, 1, none⟩) (by simp) (.int .i64 0))⟩
end Go.Proofs.Ytplhfbkejngioaa.X
