/- Texts of this claim's session, put together: EEnclose, EAwake, X10. -/
import Derived.Test.YtplhfbkejngioaaBc10
import Derived.Test.YtplhfbkejngioaaBc1
import Derived.Test.YtplhfbkejngioaaBc6
import Derived.Test.YtplhfbkejngioaaBc8
import Derived.Test.YtplhfbkejngioaaBc11
import Derived.Scope
import Derived.Test.YtplhfbkejngioaaBc4
import Derived.Test.YtplhfbkejngioaaBc12
import Derived.Test.YtplhfbkejngioaaVRepsOne
import Derived.Test.YtplhfbkejngioaaBc0
import Derived.Test.YtplhfbkejngioaaVWords
import Derived.Test.YtplhfbkejngioaaVLast
namespace Go.Proofs.Ytplhfbkejngioaa.X
open Go.RowKit Go.Shelf Go.Proofs.YtplhfbkejngioaaW.PrintWords Go.Proofs.YtplhfbkejngioaaW.PrintLast Go.Proofs.Ytplhfbkejngioaa.S
set_option linter.unusedVariables false
set_option linter.unusedSimpArgs false
attribute [local go_sem] Oper.semAt_some
def cover_Enclose.f (l0 : List S28) : Option (Int × Int × Int × Int × List Int × Int) :=
 if arePs l0 then match encloseL l0 with
  | some x => some (x.c.X, x.c.Y, x.c.D, x.c.R, x.s, 0)
  | none => some (0, 0, 0, 0, [], 0)
 else some (0, 0, 0, 0, [], 2)
theorem below_grown {n₀ : Nat} {w2 A B : World} {row : Option Nat} (hb : Below n₀ w2 A) (hn : n₀ ≤ w2.heap.size) (hg : A.grownBy B row) (hr : ∀ r, row = some r → n₀ ≤ r) : Below n₀ w2 B :=
 ⟨hg.os.trans hb.os, hg.tape.trans hb.tape, hg.output.trans hb.output, Nat.le_trans hb.size hg.size, fun k hk => (hg.block k (by have := hb.size; omega) (fun e => by have := hr k e.symm; omega)).trans (hb.block k hk)⟩
def candO (x : Cand × Nat) : Obj := .cells #[.int .i64 x.1.c.X, .int .i64 x.1.c.Y, .int .i64 x.1.c.D, .int .i64 x.1.c.R, .slice (some ⟨x.2, 0, none⟩) x.1.s.length x.1.s.length] 85 (0, 0)
structure SrchI (n₀ : Nat) (w2 : World) (ps : List S28) (pre : List (Cand × Nat)) (W : World) : Prop where
 blk : W.heap[n₀]? = some (.cells #[.int .i64 0, .int .i64 0, .int .i64 0, .int .i64 0, .slice none 0 0] 85 (0, 0))
 below : Below n₀ w2 W
 no : ∀ x ∈ pre, enclosesC x.1.c ps = false
structure SrchX (n₀ base : Nat) (w2 : World) (ps : List S28) (pre : List (Cand × Nat)) (W : World) : Prop where
 ex : ∃ pre' x, pre = pre' ++ [x] ∧ (∀ y ∈ pre', enclosesC y.1.c ps = false) ∧ enclosesC x.1.c ps = true ∧ W.heap[n₀]? = some (candO x) ∧ GoodC base x W
 below : Below n₀ w2 W
theorem SrchI.grown {n₀ : Nat} {w2 : World} {ps : List S28} {pre : List (Cand × Nat)} {A B : World} {row : Option Nat} (h : SrchI n₀ w2 ps pre A) (hn : n₀ ≤ w2.heap.size) (hg : A.grownBy B row) (hr : ∀ r, row = some r → n₀ ≤ r ∧ ∃ o : Obj, A.heap[r]? = some o ∧ o.isCells = false) : SrchI n₀ w2 ps pre B :=
 ⟨(grownBy_keeps_cells hg (fun r e => (hr r e).2) h.blk rfl).trans h.blk, below_grown h.below hn hg (fun r e => (hr r e).1), h.no⟩
theorem GoodC.grown {base : Nat} {x : Cand × Nat} {A B : World} {row : Option Nat} (h : GoodC base x A) (hg : A.grownBy B row) (hr : ∀ r, row = some r → ∃ o : Obj, A.heap[r]? = some o ∧ o.isCells = false) : GoodC base x B :=
 ⟨h.le, h.ok, (grownBy_keeps_cells hg hr h.blk rfl).trans h.blk⟩
theorem SrchX.grown {n₀ base : Nat} {w2 : World} {ps : List S28} {pre : List (Cand × Nat)} {A B : World} {row : Option Nat} (h : SrchX n₀ base w2 ps pre A) (hn : n₀ ≤ w2.heap.size) (hg : A.grownBy B row) (hr : ∀ r, row = some r → n₀ ≤ r ∧ ∃ o : Obj, A.heap[r]? = some o ∧ o.isCells = false) : SrchX n₀ base w2 ps pre B := by
 obtain ⟨pre', x, e, h0, h1, h2, h3⟩ := h.ex
 exact ⟨⟨pre', x, e, h0, h1, (grownBy_keeps_cells hg (fun r e => (hr r e).2) h2 rfl).trans h2, h3.grown hg (fun r e => (hr r e).2)⟩, below_grown h.below hn hg (fun r e => (hr r e).1)⟩
theorem KeepC.putObj {n₀ ob : Nat} (W : World) (l : Nat) (o o' : Obj) (hl : n₀ ≤ l) (ho : W.heap[l]? = some o) (hc : o.isCells = false) : KeepC n₀ ob W (W.putObj l o') := by
 refine ⟨below_grown (Below.refl _ _) (Nat.le_trans hl (Nat.le_of_lt (Array.getElem?_eq_some_iff.1 ho).1)) (grownBy_putObj' W l o') (fun r e => by cases e; exact hl), (grownBy_putObj' W l o').size, fun k cs t fr _ hk => ?_⟩
 by_cases e : k = l
 ·subst e; rw [ho] at hk; cases hk; simp [Obj.isCells] at hc
 ·exact (World.putObj_heap_other e).trans hk
theorem cands_short {l : List S28} {x : Cand} (h : x ∈ cands l) : x.s.length ≤ 3 := by
 rw [cands_up] at h
 rcases List.mem_append.1 h with h | h
 ·unfold upJ at h
  rcases List.mem_cons.1 h with h | h
  ·rw [h]; simp [cand1]
  ·obtain ⟨j, _, h⟩ := List.mem_flatMap.1 h
   obtain ⟨i, _, rfl⟩ := List.mem_map.1 h
   simp [cand2]
 ·obtain ⟨k, _, h⟩ := List.mem_flatMap.1 h
  obtain ⟨j, _, h⟩ := List.mem_flatMap.1 h
  obtain ⟨i, _, h⟩ := List.mem_flatMap.1 h
  unfold cand3 at h
  split at h
  ·cases h
  ·split at h
   ·rw [List.mem_singleton.1 h]; simp
   ·cases h
theorem find_mem {α : Type} {p : α → Bool} {l : List α} {x : α} (h : l.find? p = some x) : x ∈ l := List.mem_of_find?_eq_some h
theorem wpIn_scope_wide {P : Program} {Q : Exit → Act → World → Prop} {a : Act} {w : World} {c : Code} {n : Nat} (h : c.wpIn Fence.wide n P (Exit.noGoto Q) a w) : (Code.scope c).wpIn Fence.wide n P Q a w := wpIn_wide.2 (wp_scope_straight (wpIn_wide.1 h))
theorem find_hit {α : Type} {p : α → Bool} {l pre : List α} {x : α} (h : pre ++ [x] <+: l) (h0 : ∀ y ∈ pre, p y = false) (h1 : p x = true) : l.find? p = some x := by
 obtain ⟨r, rfl⟩ := h
 rw [List.append_assoc, List.find?_append, List.find?_eq_none.2 (fun y hy => by simp [h0 y hy])]
 simp [h1]
theorem find_miss {α : Type} {p : α → Bool} {l : List α} (h0 : ∀ y ∈ l, p y = false) : l.find? p = none := List.find?_eq_none.2 (fun y hy => by simp [h0 y hy])
theorem cands_iter (n₀ ob Bp : Nat) (n : Nat) (hn : 1 ≤ n) (ps : List S28) (hall : ps.all isP = true) (h1 : 1 ≤ ps.length) (h64 : ps.length ≤ 64) (A0 : Option Addr) (c0 : Nat) (hc0 : ps.length ≤ c0) (w : World) (hn0 : n₀ ≤ w.heap.size) (hob : ob < w.heap.size)
  (hrd : ∀ W W', Below w.heap.size w W → KeepC n₀ ob W W' → W'.heap[Bp]? = some (.cells #[.slice A0 ps.length c0] 37 (0, 0)) ∧ Kd.C k28 W' A0 ps.length ps) :
  IterG Fence.wide n Try.prog 80 #[.pointer (some ⟨Bp, 0, none⟩)] encC (GoodC w.heap.size) (KeepC n₀ ob) (fun xs => xs.map (·.1) = cands ps) (fun xs => xs.map (·.1) <+: cands ps) w := by
 intro l J Jx W hW hJ hY h0
 refine (cands_in n₀ ob w.heap.size n hn l Bp ps hall h1 h64 A0 c0 hc0 (fun cs W' => ∃ xs : List (Cand × Nat), xs.map (·.1) = cs ∧ J xs W') (fun cs W' => ∃ xs : List (Cand × Nat), xs.map (·.1) = cs ∧ Jx xs W')
  ?_ W hW.size (Nat.le_trans hn0 hW.size) (Nat.lt_of_lt_of_le hob hW.size) ?_ (fun W' h => hrd W W' hW h) ⟨[], rfl, h0⟩).mono ?_
 ·rintro pre x W1 hg ⟨zs, rfl, hz⟩
  obtain ⟨fn, tmps, assign, body, hy, hR⟩ := hY zs x W1 hg hz
  refine ⟨fn, tmps, assign, body, hy, hR.mono ?_⟩
  rintro e W' (⟨he, hJ', hk⟩ | ⟨he, hJ'⟩)
  ·exact .inl ⟨he, ⟨_, by simp, hJ'⟩, hk⟩
  ·exact .inr ⟨he, ⟨_, by simp, hJ'⟩⟩
 ·rintro s A B row ⟨zs, e, hz⟩ hg' hr
  exact ⟨zs, e, hJ zs A B row hz hg' hr⟩
 ·rintro e W' ⟨hv, (⟨ys', hys, hJ'⟩ | ⟨pre, hp, ys', rfl, hJ'⟩)⟩
  ·exact ⟨hv, .inl ⟨_, hys, hJ'⟩⟩
  ·exact ⟨hv, .inr ⟨_, hp, hJ'⟩⟩
set_option maxHeartbeats 8000000 in
set_option maxRecDepth 100000 in
theorem cover_Enclose.calls (A0 : Option Addr) (c0 : Nat) (l0 : List S28) (r1 : Int) (r2 : Int) (r3 : Int) (r4 : Int) (r5 : List Int) (r6 : Int) (w : World) (hr0 : Kd.C k28 w A0 l0.length l0) (hc0 : l0.length ≤ c0) (h : cover_Enclose.f l0 = some (r1, r2, r3, r4, r5, r6)) :
  Calls Try.prog 26 #[.slice A0 l0.length c0] w fun e w' => ∃ v4_ : Value, e = .returned (.tuple #[.agg #[.int .i64 r1, .int .i64 r2, .int .i64 r3, .int .i64 r4], v4_, .int .i64 r6]) ∧ Kd.R (Kd.int .i64) 3 w' w.heap.size (fun _ => True) v4_ r5 ∧ Below w.heap.size w w' := by
 unfold cover_Enclose.f at h
 have HR0 := Aside0.mk hr0
 have HC0 := Aside0.mk hc0
 clear hr0 hc0
 have hu40 := Try.underlying40
 have hu85 := Try.underlying85
 by_cases hok : arePs l0 = true
 ·rw [if_pos hok] at h
  have HF := Aside0.mk h
  clear h
  have hok' := hok
  unfold arePs at hok'
  simp only [Bool.and_eq_true, decide_eq_true_eq] at hok'
  obtain ⟨⟨h1, h64⟩, hall⟩ := hok'
  have HALL := Aside0.mk hall
  have HA := Aside0.mk (fun w' h => cover_arePoints.calls A0 c0 l0 true w' h HC0.out (by unfold cover_arePoints.f; rw [hok]))
  clear hok hall
  refine (callsIn_wide (n := 3)).1 ?_
  refine callsIn_of_wp_marks Try.func26 rfl trivial ?_ rfl
  simp only [Try.ntmps26, List.size_toArray, List.length_cons, List.length_nil, Nat.reduceAdd, Nat.reduceSub, Array.replicate_succ, Array.replicate_zero, List.push_toArray, List.append_toArray, List.nil_append, List.cons_append]
  have hb0 := cell_alloc_of (cell_of_one (heap_alloc_new w (.cells #[.slice A0 l0.length c0] 37))) (.cells #[.int .i64 0, .int .i64 0, .int .i64 0, .int .i64 0] 40)
  have HBZ := Aside0.mk (below_alloc (below_alloc (Below.refl w.heap.size w) (.cells #[.slice A0 l0.length c0] 37)) (.cells #[.int .i64 0, .int .i64 0, .int .i64 0, .int .i64 0] 40))
  gi_wp2
  refine wpIn_scope_wide ?_
  gi_wp2_with (first
   | (refine ⟨trivial, ?_⟩; gi_at_call 52; refine (callsIn_wide.2 (HA.out _ (Kd.C_below HR0.out HBZ.out))).mono ?_; rintro e w2 ⟨rfl, hb2⟩; have HB2 := Aside0.mk hb2; clear hb2; have hb1 := cell_alloc_of ((HB2.out.cell (p := ⟨w.heap.size, 0, none⟩) (by simp; omega)).trans hb0) (.cells #[.int .i64 0, .int .i64 0, .int .i64 0, .int .i64 0, .slice none 0 0] 85)))
  refine wpIn_label ?_
  gi_wp2_with (refine ⟨trivial, ?_⟩; gi_at_call 53; refine (callsIn_wide.2 (cands_calls A0 l0.length c0 _)).mono ?_; rintro e w3 ⟨rfl, rfl⟩)
  have hbx : Below w2.heap.size w2 ((w2.alloc (.cells #[.int .i64 0, .int .i64 0, .int .i64 0, .int .i64 0, .slice none 0 0] 85)).alloc (.cells #[.slice A0 l0.length c0] 37)) := below_alloc (below_alloc (Below.refl _ _) _) _
  have HIT := Aside0.mk (cands_iter w2.heap.size w2.heap.size (w2.heap.size + 1) (3 - 1) (by omega) l0 HALL.out h1 h64 A0 c0 HC0.out ((w2.alloc (.cells #[.int .i64 0, .int .i64 0, .int .i64 0, .int .i64 0, .slice none 0 0] 85)).alloc (.cells #[.slice A0 l0.length c0] 37)) (by simp; omega) (by simp; omega)
   (fun W W' hb hk => by
    refine ⟨?_, Kd.C_below HR0.out (HBZ.out.trans ((HB2.out.mono HBZ.out.size).trans ((hbx.trans ((hb.mono (by simp; omega)).trans hk.below)).mono (Nat.le_trans HBZ.out.size HB2.out.size))))⟩
    refine hk.cells _ _ _ _ (by omega) ?_
    rw [hb.block _ (by simp)]
    have := heap_alloc_new (w2.alloc (.cells #[.int .i64 0, .int .i64 0, .int .i64 0, .int .i64 0, .slice none 0 0] 85)) (.cells #[.slice A0 l0.length c0] 37)
    simpa using this))
  have HBX := Aside0.mk hbx
  clear hbx
  refine range_search (id := 0) rfl (by omega) (gf := 80) (lb := #[.pointer (some ⟨w2.heap.size + 1, 0, none⟩)]) rfl trivial (Go.Proofs.enters_of Try.func80 (by kernel_rfl) rfl) (encs := encC) (G := GoodC (w2.heap.size + 2)) (Kp := KeepC w2.heap.size w2.heap.size) (S := fun xs => xs.map (·.1) = cands l0) (Sp := fun xs => xs.map (·.1) <+: cands l0)
   (by have h := HIT.out; simpa using h) (fun _ => rfl) (fun h k => h.trans k) ?kb
   (fun pre W => SrchI w2.heap.size w2 l0 pre W) (fun pre W => SrchX w2.heap.size (w2.heap.size + 2) w2 l0 pre W) ?hI ?hIx ?h0
   (fun pre x a' W => SrchI w2.heap.size w2 l0 pre W ∧ GoodC (w2.heap.size + 2) x W ∧ ∃ xb, W.heap[xb]? = some (candO x) ∧ a' = { tmps := #[.slice A0 l0.length c0, .pointer (some ⟨w.heap.size, 0, none⟩), .pointer (some ⟨w.heap.size + 1, 0, none⟩), .slice none 0 0, .int .i64 0, .pointer (some ⟨w2.heap.size, 0, none⟩), .pointer (some ⟨xb, 0, none⟩), .slice A0 l0.length c0, .bool true, .bool false, undef, .slice A0 l0.length c0, .func (.func 80) #[] #[.pointer (some ⟨w2.heap.size + 1, 0, none⟩)], .agg #[.int .i64 x.1.c.X, .int .i64 x.1.c.Y, .int .i64 x.1.c.D, .int .i64 x.1.c.R, .slice (some ⟨x.2, 0, none⟩) x.1.s.length x.1.s.length], undef, undef, undef, undef, undef, undef, undef, undef, undef], defers := [] }) ?hAx ?assign ?body ?done ?stop
  case kb =>
   intro W l o o' hl ho hc hw
   have hl' : w2.heap.size + 2 ≤ l := by simpa using hl
   exact KeepC.putObj W l o o' (by omega) ho hc
  case hI =>
   exact fun pre A B row hs hg hr => hs.grown (Nat.le_refl _) hg (fun r e => ⟨by have := (hr r e).1; simp at this; omega, (hr r e).2⟩)
  case hIx =>
   exact fun pre A B row hs hg hr => hs.grown (Nat.le_refl _) hg (fun r e => ⟨by have := (hr r e).1; simp at this; omega, (hr r e).2⟩)
  case h0 =>
   refine ⟨?_, HBX.out, fun x hx => by cases hx⟩
   exact blk_alloc (heap_alloc_new w2 _) _
  case hAx =>
   rintro pre x a' _ A B row ⟨hs, hg', xb, hb, ha⟩ hg hr
   exact ⟨hs.grown (Nat.le_refl _) hg (fun r e => ⟨by have := (hr r e).1; simp at this; omega, (hr r e).2⟩), hg'.grown hg (fun r e => (hr r e).2), xb, (grownBy_keeps_cells hg (fun r e => (hr r e).2) hb rfl).trans hb, ha⟩
  case assign =>
   intro l pre x W K hG hi hK
   have HK := Aside0.mk hK
   have HG := Aside0.mk hG
   have HI := Aside0.mk hi
   clear hK hG hi
   simp only [encC]
   gi_wp2
   refine HK.out _ _ ((KeepsOthers.alloc W _).from _) (KeepC.of_below (below_alloc (Below.refl _ _) _) HI.out.below.size) ⟨HI.out.grown (Nat.le_refl _) (World.grownBy_alloc W _ none) (fun r e => by cases e), HG.out.grown (World.grownBy_alloc W _ none) (fun r e => by cases e), W.heap.size, heap_alloc_new W _, rfl⟩
  case body =>
   rintro l pre x a' W ⟨hi, hg, xb, hxb, rfl⟩
   have HG := Aside0.mk hg
   have HI := Aside0.mk hi
   have HX := Aside0.mk hxb
   clear hi hg hxb
   obtain ⟨b, hb⟩ : ∃ b, enclosesC x.1.c l0 = b := ⟨_, rfl⟩
   have HE := Aside0.mk (cover_encloses.calls x.1.c.X x.1.c.Y x.1.c.D x.1.c.R A0 c0 l0 b W (Kd.C_below HR0.out (HBZ.out.trans ((HB2.out.mono HBZ.out.size).trans (HI.out.below.mono (Nat.le_trans HBZ.out.size HB2.out.size))))) HC0.out (by unfold cover_encloses.f; rw [if_pos ⟨HG.out.ok, HALL.out⟩, hb]))
   have HBV := Aside0.mk hb
   clear hb
   have hx0 : W.cell? ⟨xb, 0, none⟩ = some (.int .i64 x.1.c.X) := (blk_cell HX.out 0).trans rfl
   have hx1 : W.cell? ⟨xb, 1, none⟩ = some (.int .i64 x.1.c.Y) := (blk_cell HX.out 1).trans rfl
   have hx2 : W.cell? ⟨xb, 2, none⟩ = some (.int .i64 x.1.c.D) := (blk_cell HX.out 2).trans rfl
   have hx3 : W.cell? ⟨xb, 3, none⟩ = some (.int .i64 x.1.c.R) := (blk_cell HX.out 3).trans rfl
   have hp : W.cell? ⟨w.heap.size, 0, none⟩ = some (.slice A0 l0.length c0) := (HI.out.below.cell (p := ⟨w.heap.size, 0, none⟩) (by have := HB2.out.size; simp at this; simp; omega)).trans ((HB2.out.cell (p := ⟨w.heap.size, 0, none⟩) (by simp; omega)).trans hb0)
   cases b with
   | false =>
    gi_wp2_with ((refine ⟨trivial, ?_⟩; gi_at_call 54; (with_reducible refine (CallsIn.inRound l (callsIn_wide.2 HE.out)).mono ?_); rintro e w4 ⟨rfl, hb4⟩; have HB4 := Aside0.mk hb4; clear hb4))
    exact ⟨KeepsFrom.of_grownBy (grown_of_below HB4.out none) (fun r e => by cases e), KeepC.of_below HB4.out HI.out.below.size, ⟨((HB4.out.block _ (blk_lt HI.out.blk)).trans HI.out.blk), HI.out.below.trans (HB4.out.mono HI.out.below.size), fun y hy => by
     rcases List.mem_append.1 hy with hy | hy
     ·exact HI.out.no y hy
     ·rw [List.mem_singleton.1 hy]; exact HBV.out⟩⟩
   | true =>
    gi_wp2_with ((refine ⟨trivial, ?_⟩; gi_at_call 54; (with_reducible refine (CallsIn.inRound l (callsIn_wide.2 HE.out)).mono ?_); rintro e w4 ⟨rfl, hb4⟩; have HB4 := Aside0.mk hb4; clear hb4; have HX4 := Aside0.mk ((HB4.out.block _ (blk_lt HX.out)).trans HX.out); have HO4 := Aside0.mk ((HB4.out.block _ (blk_lt HI.out.blk)).trans HI.out.blk); have hy0 : w4.cell? ⟨xb, 0, none⟩ = some (.int .i64 x.1.c.X) := (blk_cell HX4.out 0).trans rfl; have hy1 : w4.cell? ⟨xb, 1, none⟩ = some (.int .i64 x.1.c.Y) := (blk_cell HX4.out 1).trans rfl; have hy2 : w4.cell? ⟨xb, 2, none⟩ = some (.int .i64 x.1.c.D) := (blk_cell HX4.out 2).trans rfl; have hy3 : w4.cell? ⟨xb, 3, none⟩ = some (.int .i64 x.1.c.R) := (blk_cell HX4.out 3).trans rfl; have hy4 : w4.cell? ⟨xb, 4, none⟩ = some (.slice (some ⟨x.2, 0, none⟩) x.1.s.length x.1.s.length) := (blk_cell HX4.out 4).trans rfl; have z0 : w4.cell? ⟨w2.heap.size, 0, none⟩ = some (.int .i64 0) := (blk_cell HO4.out 0).trans rfl; have fz0 : w4.frozen? ⟨w2.heap.size, 0, none⟩ = false := blk_frozen HO4.out 0; have z1 : w4.cell? ⟨w2.heap.size, 1, none⟩ = some (.int .i64 0) := (blk_cell HO4.out 1).trans rfl; have fz1 : w4.frozen? ⟨w2.heap.size, 1, none⟩ = false := blk_frozen HO4.out 1; have z2 : w4.cell? ⟨w2.heap.size, 2, none⟩ = some (.int .i64 0) := (blk_cell HO4.out 2).trans rfl; have fz2 : w4.frozen? ⟨w2.heap.size, 2, none⟩ = false := blk_frozen HO4.out 2; have z3 : w4.cell? ⟨w2.heap.size, 3, none⟩ = some (.int .i64 0) := (blk_cell HO4.out 3).trans rfl; have fz3 : w4.frozen? ⟨w2.heap.size, 3, none⟩ = false := blk_frozen HO4.out 3; have z4 : w4.cell? ⟨w2.heap.size, 4, none⟩ = some (.slice none 0 0) := (blk_cell HO4.out 4).trans rfl; have fz4 : w4.frozen? ⟨w2.heap.size, 4, none⟩ = false := blk_frozen HO4.out 4))
    have hne : x.2 ≠ w2.heap.size := by have := HG.out.le; omega
    have hoth : ∀ (V : World) (i : Nat) (v : Value), (V.setCell ⟨w2.heap.size, i, none⟩ v).heap[x.2]? = V.heap[x.2]? := fun V i v => setCell_other V _ v hne
    refine ⟨rfl, ((KeepsFrom.of_grownBy (grown_of_below HB4.out none) (fun r e => by cases e)).trans (((((((KeepsOthers.refl w4).trans (KeepsOthers.setCell _ _ _)).trans (KeepsOthers.setCell _ _ _)).trans (KeepsOthers.setCell _ _ _)).trans (KeepsOthers.setCell _ _ _)).trans (KeepsOthers.setCell _ _ _)).from _)), ⟨⟨pre, x, rfl, HI.out.no, HBV.out, (blk_put (blk_put (blk_put (blk_put (blk_put HO4.out 0 (.int .i64 x.1.c.X) rfl) 1 (.int .i64 x.1.c.Y) rfl) 2 (.int .i64 x.1.c.D) rfl) 3 (.int .i64 x.1.c.R) rfl) 4 (.slice (some ⟨x.2, 0, none⟩) x.1.s.length x.1.s.length) rfl), ⟨HG.out.le, HG.out.ok, ?_⟩⟩, (HI.out.below.trans (HB4.out.mono HI.out.below.size)).trans ((((((Below.refl w2.heap.size w4).setCell (p := ⟨w2.heap.size, 0, none⟩) (Nat.le_refl _) _).setCell (p := ⟨w2.heap.size, 1, none⟩) (Nat.le_refl _) _).setCell (p := ⟨w2.heap.size, 2, none⟩) (Nat.le_refl _) _).setCell (p := ⟨w2.heap.size, 3, none⟩) (Nat.le_refl _) _).setCell (p := ⟨w2.heap.size, 4, none⟩) (Nat.le_refl _) _)⟩⟩
    rw [hoth, hoth, hoth, hoth, hoth, HB4.out.block _ (blk_lt HG.out.blk)]
    exact HG.out.blk
  case done =>
   rintro D ys W hD hys hi hK
   have HI := Aside0.mk hi
   have hv := (show encloseL l0 = none from find_miss (fun y hy => by
    rw [← hys] at hy
    obtain ⟨z, hz, rfl⟩ := List.mem_map.1 hy
    exact hi.no z hz))
   have hf := HF.out
   rw [hv] at hf
   simp only [Option.some.injEq, Prod.mk.injEq] at hf
   obtain ⟨rfl, rfl, rfl, rfl, rfl, rfl⟩ := hf
   clear hv HF
   have HDX := Aside0.mk hD
   have HKX := Aside0.mk hK
   clear hi hys hD hK
   gi_wp2
   have hfar : ∀ i j, (⟨w2.heap.size, i, none⟩ : Addr).block ≠ (⟨w.heap.size + 1, j, none⟩ : Addr).block := fun i j => by have := HB2.out.size; simp at this; show w2.heap.size ≠ w.heap.size + 1; omega
   have hT := (HI.out.below.block _ (by have := HB2.out.size; simp at this ⊢; omega)).trans ((HB2.out.block _ (by simp [World.size_alloc])).trans (heap_alloc_new (w.alloc (.cells #[.slice A0 l0.length c0] 37)) (.cells #[.int .i64 0, .int .i64 0, .int .i64 0, .int .i64 0] 40)))
   have hT : W.heap[w.heap.size + 1]? = some (.cells #[.int .i64 0, .int .i64 0, .int .i64 0, .int .i64 0] 40 (0, 0)) := by simpa [World.size_alloc] using hT
   have HT := Aside0.mk hT
   clear hT
   have zt0 : W.cell? ⟨w.heap.size + 1, 0, none⟩ = some (.int .i64 0) := (blk_cell HT.out 0).trans rfl
   have ft0 : W.frozen? ⟨w.heap.size + 1, 0, none⟩ = false := blk_frozen HT.out 0
   have zt1 : W.cell? ⟨w.heap.size + 1, 1, none⟩ = some (.int .i64 0) := (blk_cell HT.out 1).trans rfl
   have ft1 : W.frozen? ⟨w.heap.size + 1, 1, none⟩ = false := blk_frozen HT.out 1
   have zt2 : W.cell? ⟨w.heap.size + 1, 2, none⟩ = some (.int .i64 0) := (blk_cell HT.out 2).trans rfl
   have ft2 : W.frozen? ⟨w.heap.size + 1, 2, none⟩ = false := blk_frozen HT.out 2
   have zt3 : W.cell? ⟨w.heap.size + 1, 3, none⟩ = some (.int .i64 0) := (blk_cell HT.out 3).trans rfl
   have ft3 : W.frozen? ⟨w.heap.size + 1, 3, none⟩ = false := blk_frozen HT.out 3
   have zo0 : W.cell? ⟨w2.heap.size, 0, none⟩ = some (.int .i64 0) := (blk_cell HI.out.blk 0).trans rfl
   have zo1 : W.cell? ⟨w2.heap.size, 1, none⟩ = some (.int .i64 0) := (blk_cell HI.out.blk 1).trans rfl
   have zo2 : W.cell? ⟨w2.heap.size, 2, none⟩ = some (.int .i64 0) := (blk_cell HI.out.blk 2).trans rfl
   have zo3 : W.cell? ⟨w2.heap.size, 3, none⟩ = some (.int .i64 0) := (blk_cell HI.out.blk 3).trans rfl
   have zo4 : W.cell? ⟨w2.heap.size, 4, none⟩ = some (.slice none 0 0) := (blk_cell HI.out.blk 4).trans rfl
   refine region_head (m := 6) (by kernel_rfl) (by kernel_rfl) (by kernel_rfl) (by kernel_rfl) (by decide) (by kernel_rfl) ?_
   simp only [List.take_succ_cons, List.take_zero, List.drop_succ_cons, List.drop_zero]
   refine start_head (S := fun w' => w'.cell? ⟨w2.heap.size, 0, none⟩ = some (.int .i64 0) ∧ w'.cell? ⟨w2.heap.size, 1, none⟩ = some (.int .i64 0) ∧ w'.cell? ⟨w2.heap.size, 2, none⟩ = some (.int .i64 0) ∧ w'.cell? ⟨w2.heap.size, 3, none⟩ = some (.int .i64 0) ∧ w'.cell? ⟨w2.heap.size, 4, none⟩ = some (.slice none 0 0)) (ds := []) #[false, false, false, false, false, false] rfl rfl ⟨zo0, zo1, zo2, zo3, zo4⟩ (fun hHeld => ?_)
   refine pure_ (i := 0) (N := some 19) (v := ?_) (a' := ?_) #[true, false, false, false, false, false] rfl rfl (by kernel_rfl) (fun _ _ _ h => Exit.noConfusion h.1) (Or.inl ⟨by rfl, ?_⟩) ?_ ?_
   rotate_left
   ·intro w'
    go_simp
    with_reducible rfl
   rotate_left
   ·simp only [Act.put, List.setIfInBounds_toArray, List.set_cons_zero, List.set_cons_succ, i64_w, i32_w]
    rfl
   refine pure_ (i := 2) (N := some 21) (v := ?_) (a' := ?_) #[true, false, true, false, false, false] rfl rfl (by kernel_rfl) (fun _ _ _ h => Exit.noConfusion h.1) (Or.inl ⟨by rfl, ?_⟩) ?_ ?_
   rotate_left
   ·intro w'
    go_simp
    with_reducible rfl
   rotate_left
   ·simp only [Act.put, List.setIfInBounds_toArray, List.set_cons_zero, List.set_cons_succ, i64_w, i32_w]
    rfl
   refine take_ (i := 1) (N := some 20) (v := ?_) (a' := ?_) #[true, true, true, false, false, false] rfl rfl (by kernel_rfl) (fun _ _ _ h => Exit.noConfusion h.1) (Or.inl ⟨by rfl, ?_⟩) hHeld ?_ ?_
   rotate_left
   ·rintro w' ⟨s0, s1, s2, s3, s4⟩
    go_simp
    with_reducible rfl
   rotate_left
   ·simp only [Act.put, List.setIfInBounds_toArray, List.set_cons_zero, List.set_cons_succ, i64_w, i32_w]
    rfl
   refine take_ (i := 3) (N := some 22) (v := ?_) (a' := ?_) #[true, true, true, true, false, false] rfl rfl (by kernel_rfl) (fun _ _ _ h => Exit.noConfusion h.1) (Or.inl ⟨by rfl, ?_⟩) hHeld ?_ ?_
   rotate_left
   ·rintro w' ⟨s0, s1, s2, s3, s4⟩
    go_simp
    with_reducible rfl
   rotate_left
   ·simp only [Act.put, List.setIfInBounds_toArray, List.set_cons_zero, List.set_cons_succ, i64_w, i32_w]
    rfl
   refine one_ (i := 4) (N := none) #[true, true, true, true, true, false] rfl rfl (by kernel_rfl) (by decide) (fun K hK => ?_)
   refine skip_ (w1 := ?_) (by rfl) rfl ?_ ?_
   rotate_left
   ·go_simp
    rfl
   refine hK.out _ _ ⟨(cellFar (q := ⟨w.heap.size + 1, 3, none⟩) (hfar _ _) _ (cellFar (q := ⟨w.heap.size + 1, 2, none⟩) (hfar _ _) _ (cellFar (q := ⟨w.heap.size + 1, 1, none⟩) (hfar _ _) _ (cellFar (q := ⟨w.heap.size + 1, 0, none⟩) (hfar _ _) _ hHeld.1)))), (cellFar (q := ⟨w.heap.size + 1, 3, none⟩) (hfar _ _) _ (cellFar (q := ⟨w.heap.size + 1, 2, none⟩) (hfar _ _) _ (cellFar (q := ⟨w.heap.size + 1, 1, none⟩) (hfar _ _) _ (cellFar (q := ⟨w.heap.size + 1, 0, none⟩) (hfar _ _) _ hHeld.2.1)))), (cellFar (q := ⟨w.heap.size + 1, 3, none⟩) (hfar _ _) _ (cellFar (q := ⟨w.heap.size + 1, 2, none⟩) (hfar _ _) _ (cellFar (q := ⟨w.heap.size + 1, 1, none⟩) (hfar _ _) _ (cellFar (q := ⟨w.heap.size + 1, 0, none⟩) (hfar _ _) _ hHeld.2.2.1)))), (cellFar (q := ⟨w.heap.size + 1, 3, none⟩) (hfar _ _) _ (cellFar (q := ⟨w.heap.size + 1, 2, none⟩) (hfar _ _) _ (cellFar (q := ⟨w.heap.size + 1, 1, none⟩) (hfar _ _) _ (cellFar (q := ⟨w.heap.size + 1, 0, none⟩) (hfar _ _) _ hHeld.2.2.2.1)))), (cellFar (q := ⟨w.heap.size + 1, 3, none⟩) (hfar _ _) _ (cellFar (q := ⟨w.heap.size + 1, 2, none⟩) (hfar _ _) _ (cellFar (q := ⟨w.heap.size + 1, 1, none⟩) (hfar _ _) _ (cellFar (q := ⟨w.heap.size + 1, 0, none⟩) (hfar _ _) _ hHeld.2.2.2.2))))⟩ (fun hHeld => ?_)
   clear hK K
   refine pure_ (i := 5) (N := some 3) (v := ?_) (a' := ?_) #[true, true, true, true, true, true] rfl rfl (by kernel_rfl) (fun _ _ _ h => Exit.noConfusion h.1) (Or.inl ⟨by rfl, ?_⟩) ?_ ?_
   rotate_left
   ·intro w'
    go_simp
    with_reducible rfl
   rotate_left
   ·simp only [Act.put, List.setIfInBounds_toArray, List.set_cons_zero, List.set_cons_succ, i64_w, i32_w]
    rfl
   refine done_ (by kernel_rfl) ?_
   refine ⟨rfl, ?_⟩
   gi_wp2
   have hd : (((((W.setCell ⟨w.heap.size + 1, 0, none⟩ (.int .i64 0)).setCell ⟨w.heap.size + 1, 1, none⟩ (.int .i64 0)).setCell ⟨w.heap.size + 1, 2, none⟩ (.int .i64 0)).setCell ⟨w.heap.size + 1, 3, none⟩ (.int .i64 0)).drew).heap[D]? = some (.deferred (some [])) := ((((((KeepsOthers.refl W).trans (KeepsOthers.setCell _ _ _)).trans (KeepsOthers.setCell _ _ _)).trans (KeepsOthers.setCell _ _ _)).trans (KeepsOthers.setCell _ _ _)).trans (KeepsOthers.drew _)).same D _ HKX.out rfl
   have HD5 := Aside0.mk hd
   clear hd
   refine ⟨by simp, .inl ⟨_, _, rfl, run_takeDeferred HD5.out, ?_⟩⟩
   have hwD : w2.heap.size + 2 ≤ D := by simpa using HDX.out
   have hw2 : w.heap.size + 2 ≤ w2.heap.size := by have := HB2.out.size; simp at this; omega
   have hres : (((((W.setCell ⟨w.heap.size + 1, 0, none⟩ (.int .i64 0)).setCell ⟨w.heap.size + 1, 1, none⟩ (.int .i64 0)).setCell ⟨w.heap.size + 1, 2, none⟩ (.int .i64 0)).setCell ⟨w.heap.size + 1, 3, none⟩ (.int .i64 0)).drew.putObj D (.deferred none)).heap[w.heap.size + 1]? = some (.cells #[.int .i64 0, .int .i64 0, .int .i64 0, .int .i64 0] 40 (0, 0)) := by
    rw [World.putObj_heap_other (by omega), heap_drew]
    exact (blk_set (blk_set (blk_set (blk_set HT.out 0 (.int .i64 0)) 1 (.int .i64 0)) 2 (.int .i64 0)) 3 (.int .i64 0))
   have hBW : Below w.heap.size w W := HBZ.out.trans ((HB2.out.mono HBZ.out.size).trans (HI.out.below.mono (by omega)))
   have hB5 := ((((hBW.setCell (p := ⟨w.heap.size + 1, 0, none⟩) (by simp) (.int .i64 0)).setCell (p := ⟨w.heap.size + 1, 1, none⟩) (by simp) (.int .i64 0)).setCell (p := ⟨w.heap.size + 1, 2, none⟩) (by simp) (.int .i64 0)).setCell (p := ⟨w.heap.size + 1, 3, none⟩) (by simp) (.int .i64 0)).drew
   refine ⟨_, results_ctt rfl _ _ (w.heap.size + 1) 40 _ (0, 0) _ rfl hres Try.underlying40 rfl (by kernel_rfl), _, rfl, ?_, hB5.trans (belowK_b (w := w) (Nat.le_refl _) _ D _ _ (by omega) HD5.out rfl rfl)⟩
   exact (OwnI.nil _ _).toR
  case stop =>
   rintro D pre W hD hp hx hK
   obtain ⟨⟨pre', x, rfl, h0, h1', h2, h3⟩, hb⟩ := hx
   have hv := (show encloseL l0 = some x.1 from find_hit (pre := pre'.map (·.1)) (by simpa using hp) (fun y hy => by
    obtain ⟨z, hz, rfl⟩ := List.mem_map.1 hy
    exact h0 z hz) h1')
   have hf := HF.out
   rw [hv] at hf
   simp only [Option.some.injEq, Prod.mk.injEq] at hf
   obtain ⟨rfl, rfl, rfl, rfl, rfl, rfl⟩ := hf
   have HSH := Aside0.mk (cands_short (find_mem hv))
   clear hv HF
   have HO := Aside0.mk h2
   have HG := Aside0.mk h3
   have HB := Aside0.mk hb
   have HDX := Aside0.mk hD
   have HKX := Aside0.mk hK
   clear hp h0 h1' h2 h3 hb hD hK
   gi_wp2
   have hfar : ∀ i j, (⟨w2.heap.size, i, none⟩ : Addr).block ≠ (⟨w.heap.size + 1, j, none⟩ : Addr).block := fun i j => by have := HB2.out.size; simp at this; show w2.heap.size ≠ w.heap.size + 1; omega
   have hT := (HB.out.block _ (by have := HB2.out.size; simp at this ⊢; omega)).trans ((HB2.out.block _ (by simp [World.size_alloc])).trans (heap_alloc_new (w.alloc (.cells #[.slice A0 l0.length c0] 37)) (.cells #[.int .i64 0, .int .i64 0, .int .i64 0, .int .i64 0] 40)))
   have hT : W.heap[w.heap.size + 1]? = some (.cells #[.int .i64 0, .int .i64 0, .int .i64 0, .int .i64 0] 40 (0, 0)) := by simpa [World.size_alloc] using hT
   have HT := Aside0.mk hT
   clear hT
   have zt0 : W.cell? ⟨w.heap.size + 1, 0, none⟩ = some (.int .i64 0) := (blk_cell HT.out 0).trans rfl
   have ft0 : W.frozen? ⟨w.heap.size + 1, 0, none⟩ = false := blk_frozen HT.out 0
   have zt1 : W.cell? ⟨w.heap.size + 1, 1, none⟩ = some (.int .i64 0) := (blk_cell HT.out 1).trans rfl
   have ft1 : W.frozen? ⟨w.heap.size + 1, 1, none⟩ = false := blk_frozen HT.out 1
   have zt2 : W.cell? ⟨w.heap.size + 1, 2, none⟩ = some (.int .i64 0) := (blk_cell HT.out 2).trans rfl
   have ft2 : W.frozen? ⟨w.heap.size + 1, 2, none⟩ = false := blk_frozen HT.out 2
   have zt3 : W.cell? ⟨w.heap.size + 1, 3, none⟩ = some (.int .i64 0) := (blk_cell HT.out 3).trans rfl
   have ft3 : W.frozen? ⟨w.heap.size + 1, 3, none⟩ = false := blk_frozen HT.out 3
   have zo0 : W.cell? ⟨w2.heap.size, 0, none⟩ = some (.int .i64 x.1.c.X) := (blk_cell HO.out 0).trans rfl
   have zo1 : W.cell? ⟨w2.heap.size, 1, none⟩ = some (.int .i64 x.1.c.Y) := (blk_cell HO.out 1).trans rfl
   have zo2 : W.cell? ⟨w2.heap.size, 2, none⟩ = some (.int .i64 x.1.c.D) := (blk_cell HO.out 2).trans rfl
   have zo3 : W.cell? ⟨w2.heap.size, 3, none⟩ = some (.int .i64 x.1.c.R) := (blk_cell HO.out 3).trans rfl
   have zo4 : W.cell? ⟨w2.heap.size, 4, none⟩ = some (.slice (some ⟨x.2, 0, none⟩) x.1.s.length x.1.s.length) := (blk_cell HO.out 4).trans rfl
   refine region_head (m := 6) (by kernel_rfl) (by kernel_rfl) (by kernel_rfl) (by kernel_rfl) (by decide) (by kernel_rfl) ?_
   simp only [List.take_succ_cons, List.take_zero, List.drop_succ_cons, List.drop_zero]
   refine start_head (S := fun w' => w'.cell? ⟨w2.heap.size, 0, none⟩ = some (.int .i64 x.1.c.X) ∧ w'.cell? ⟨w2.heap.size, 1, none⟩ = some (.int .i64 x.1.c.Y) ∧ w'.cell? ⟨w2.heap.size, 2, none⟩ = some (.int .i64 x.1.c.D) ∧ w'.cell? ⟨w2.heap.size, 3, none⟩ = some (.int .i64 x.1.c.R) ∧ w'.cell? ⟨w2.heap.size, 4, none⟩ = some (.slice (some ⟨x.2, 0, none⟩) x.1.s.length x.1.s.length)) (ds := []) #[false, false, false, false, false, false] rfl rfl ⟨zo0, zo1, zo2, zo3, zo4⟩ (fun hHeld => ?_)
   refine pure_ (i := 0) (N := some 19) (v := ?_) (a' := ?_) #[true, false, false, false, false, false] rfl rfl (by kernel_rfl) (fun _ _ _ h => Exit.noConfusion h.1) (Or.inl ⟨by rfl, ?_⟩) ?_ ?_
   rotate_left
   ·intro w'
    go_simp
    with_reducible rfl
   rotate_left
   ·simp only [Act.put, List.setIfInBounds_toArray, List.set_cons_zero, List.set_cons_succ, i64_w, i32_w]
    rfl
   refine pure_ (i := 2) (N := some 21) (v := ?_) (a' := ?_) #[true, false, true, false, false, false] rfl rfl (by kernel_rfl) (fun _ _ _ h => Exit.noConfusion h.1) (Or.inl ⟨by rfl, ?_⟩) ?_ ?_
   rotate_left
   ·intro w'
    go_simp
    with_reducible rfl
   rotate_left
   ·simp only [Act.put, List.setIfInBounds_toArray, List.set_cons_zero, List.set_cons_succ, i64_w, i32_w]
    rfl
   refine take_ (i := 1) (N := some 20) (v := ?_) (a' := ?_) #[true, true, true, false, false, false] rfl rfl (by kernel_rfl) (fun _ _ _ h => Exit.noConfusion h.1) (Or.inl ⟨by rfl, ?_⟩) hHeld ?_ ?_
   rotate_left
   ·rintro w' ⟨s0, s1, s2, s3, s4⟩
    go_simp
    with_reducible rfl
   rotate_left
   ·simp only [Act.put, List.setIfInBounds_toArray, List.set_cons_zero, List.set_cons_succ, i64_w, i32_w]
    rfl
   refine take_ (i := 3) (N := some 22) (v := ?_) (a' := ?_) #[true, true, true, true, false, false] rfl rfl (by kernel_rfl) (fun _ _ _ h => Exit.noConfusion h.1) (Or.inl ⟨by rfl, ?_⟩) hHeld ?_ ?_
   rotate_left
   ·rintro w' ⟨s0, s1, s2, s3, s4⟩
    go_simp
    with_reducible rfl
   rotate_left
   ·simp only [Act.put, List.setIfInBounds_toArray, List.set_cons_zero, List.set_cons_succ, i64_w, i32_w]
    rfl
   refine one_ (i := 4) (N := none) #[true, true, true, true, true, false] rfl rfl (by kernel_rfl) (by decide) (fun K hK => ?_)
   refine skip_ (w1 := ?_) (by rfl) rfl ?_ ?_
   rotate_left
   ·go_simp
    rfl
   refine hK.out _ _ ⟨(cellFar (q := ⟨w.heap.size + 1, 3, none⟩) (hfar _ _) _ (cellFar (q := ⟨w.heap.size + 1, 2, none⟩) (hfar _ _) _ (cellFar (q := ⟨w.heap.size + 1, 1, none⟩) (hfar _ _) _ (cellFar (q := ⟨w.heap.size + 1, 0, none⟩) (hfar _ _) _ hHeld.1)))), (cellFar (q := ⟨w.heap.size + 1, 3, none⟩) (hfar _ _) _ (cellFar (q := ⟨w.heap.size + 1, 2, none⟩) (hfar _ _) _ (cellFar (q := ⟨w.heap.size + 1, 1, none⟩) (hfar _ _) _ (cellFar (q := ⟨w.heap.size + 1, 0, none⟩) (hfar _ _) _ hHeld.2.1)))), (cellFar (q := ⟨w.heap.size + 1, 3, none⟩) (hfar _ _) _ (cellFar (q := ⟨w.heap.size + 1, 2, none⟩) (hfar _ _) _ (cellFar (q := ⟨w.heap.size + 1, 1, none⟩) (hfar _ _) _ (cellFar (q := ⟨w.heap.size + 1, 0, none⟩) (hfar _ _) _ hHeld.2.2.1)))), (cellFar (q := ⟨w.heap.size + 1, 3, none⟩) (hfar _ _) _ (cellFar (q := ⟨w.heap.size + 1, 2, none⟩) (hfar _ _) _ (cellFar (q := ⟨w.heap.size + 1, 1, none⟩) (hfar _ _) _ (cellFar (q := ⟨w.heap.size + 1, 0, none⟩) (hfar _ _) _ hHeld.2.2.2.1)))), (cellFar (q := ⟨w.heap.size + 1, 3, none⟩) (hfar _ _) _ (cellFar (q := ⟨w.heap.size + 1, 2, none⟩) (hfar _ _) _ (cellFar (q := ⟨w.heap.size + 1, 1, none⟩) (hfar _ _) _ (cellFar (q := ⟨w.heap.size + 1, 0, none⟩) (hfar _ _) _ hHeld.2.2.2.2))))⟩ (fun hHeld => ?_)
   clear hK K
   refine pure_ (i := 5) (N := some 3) (v := ?_) (a' := ?_) #[true, true, true, true, true, true] rfl rfl (by kernel_rfl) (fun _ _ _ h => Exit.noConfusion h.1) (Or.inl ⟨by rfl, ?_⟩) ?_ ?_
   rotate_left
   ·intro w'
    go_simp
    with_reducible rfl
   rotate_left
   ·simp only [Act.put, List.setIfInBounds_toArray, List.set_cons_zero, List.set_cons_succ, i64_w, i32_w]
    rfl
   refine done_ (by kernel_rfl) ?_
   refine ⟨rfl, ?_⟩
   gi_wp2
   have hd : (((((W.setCell ⟨w.heap.size + 1, 0, none⟩ (.int .i64 x.1.c.X)).setCell ⟨w.heap.size + 1, 1, none⟩ (.int .i64 x.1.c.Y)).setCell ⟨w.heap.size + 1, 2, none⟩ (.int .i64 x.1.c.D)).setCell ⟨w.heap.size + 1, 3, none⟩ (.int .i64 x.1.c.R)).drew).heap[D]? = some (.deferred (some [])) := ((((((KeepsOthers.refl W).trans (KeepsOthers.setCell _ _ _)).trans (KeepsOthers.setCell _ _ _)).trans (KeepsOthers.setCell _ _ _)).trans (KeepsOthers.setCell _ _ _)).trans (KeepsOthers.drew _)).same D _ HKX.out rfl
   have HD5 := Aside0.mk hd
   clear hd
   refine ⟨by simp, .inl ⟨_, _, rfl, run_takeDeferred HD5.out, ?_⟩⟩
   have hwD : w2.heap.size + 2 ≤ D := by simpa using HDX.out
   have hw2 : w.heap.size + 2 ≤ w2.heap.size := by have := HB2.out.size; simp at this; omega
   have hres : (((((W.setCell ⟨w.heap.size + 1, 0, none⟩ (.int .i64 x.1.c.X)).setCell ⟨w.heap.size + 1, 1, none⟩ (.int .i64 x.1.c.Y)).setCell ⟨w.heap.size + 1, 2, none⟩ (.int .i64 x.1.c.D)).setCell ⟨w.heap.size + 1, 3, none⟩ (.int .i64 x.1.c.R)).drew.putObj D (.deferred none)).heap[w.heap.size + 1]? = some (.cells #[.int .i64 x.1.c.X, .int .i64 x.1.c.Y, .int .i64 x.1.c.D, .int .i64 x.1.c.R] 40 (0, 0)) := by
    rw [World.putObj_heap_other (by omega), heap_drew]
    exact (blk_set (blk_set (blk_set (blk_set HT.out 0 (.int .i64 x.1.c.X)) 1 (.int .i64 x.1.c.Y)) 2 (.int .i64 x.1.c.D)) 3 (.int .i64 x.1.c.R))
   have hBW : Below w.heap.size w W := HBZ.out.trans ((HB2.out.mono HBZ.out.size).trans (HB.out.mono (by omega)))
   have hB5 := ((((hBW.setCell (p := ⟨w.heap.size + 1, 0, none⟩) (by simp) (.int .i64 x.1.c.X)).setCell (p := ⟨w.heap.size + 1, 1, none⟩) (by simp) (.int .i64 x.1.c.Y)).setCell (p := ⟨w.heap.size + 1, 2, none⟩) (by simp) (.int .i64 x.1.c.D)).setCell (p := ⟨w.heap.size + 1, 3, none⟩) (by simp) (.int .i64 x.1.c.R)).drew
   refine ⟨_, results_ctt rfl _ _ (w.heap.size + 1) 40 _ (0, 0) _ rfl hres Try.underlying40 rfl (by kernel_rfl), _, rfl, ?_, hB5.trans (belowK_b (w := w) (Nat.le_refl _) _ D _ _ (by omega) HD5.out rfl rfl)⟩
   have hq : ∀ {i}, x.2 ≠ (⟨w.heap.size + 1, i, none⟩ : Addr).block := fun {i} => by have := HG.out.le; show x.2 ≠ w.heap.size + 1; omega
   refine OwnI.toR ⟨by simp, .inr ⟨x.2, x.1.s.length, (x.1.s.map (Value.int .i64)).toArray, rfl, by have := HG.out.le; omega, ?_, Nat.le_refl _, by have := HSH.out; unfold maxLen; omega, by simp, by rw [Nat.mul_one]; exact List.take_of_length_le (by simp)⟩⟩
   rw [World.putObj_heap_other (fun e => by have h1 := HG.out.blk; rw [e, HKX.out] at h1; cases h1), heap_drew, setCell_other _ _ _ hq, setCell_other _ _ _ hq, setCell_other _ _ _ hq, setCell_other _ _ _ hq]
   exact HG.out.blk
 ·rw [if_neg hok] at h
  simp only [Option.some.injEq, Prod.mk.injEq] at h
  obtain ⟨rfl, rfl, rfl, rfl, rfl, rfl⟩ := h
  have HA := Aside0.mk (fun w' h => cover_arePoints.calls A0 c0 l0 false w' h HC0.out (by unfold cover_arePoints.f; rw [Bool.eq_false_iff.2 hok]))
  clear hok
  have hb0 := cell_alloc_of (cell_of_one (heap_alloc_new w (.cells #[.slice A0 l0.length c0] 37))) (.cells #[.int .i64 0, .int .i64 0, .int .i64 0, .int .i64 0] 40)
  have HBZ := Aside0.mk (below_alloc (below_alloc (Below.refl w.heap.size w) (.cells #[.slice A0 l0.length c0] 37)) (.cells #[.int .i64 0, .int .i64 0, .int .i64 0, .int .i64 0] 40))
  have HT := Aside0.mk (show ((w.alloc (.cells #[.slice A0 l0.length c0] 37)).alloc (.cells #[.int .i64 0, .int .i64 0, .int .i64 0, .int .i64 0] 40)).heap[w.heap.size + 1]? = some (.cells #[.int .i64 0, .int .i64 0, .int .i64 0, .int .i64 0] 40 (0, 0)) by simpa [World.size_alloc] using heap_alloc_new (w.alloc (.cells #[.slice A0 l0.length c0] 37)) (.cells #[.int .i64 0, .int .i64 0, .int .i64 0, .int .i64 0] 40))
  go_enter Try.func26, Try.ntmps26
  go_wp2
  refine wp_scope_straight ?_
  go_wp2_with (first
   | (go_at_call 52; refine (HA.out _ (Kd.C_below HR0.out HBZ.out)).mono ?_; rintro e w2 ⟨rfl, hb2⟩; have HB2 := Aside0.mk hb2; clear hb2; have HT2 := Aside0.mk ((HB2.out.block _ (blk_lt HT.out)).trans HT.out); have z0 : w2.cell? ⟨w.heap.size + 1, 0, none⟩ = some (.int .i64 0) := (blk_cell HT2.out 0).trans rfl; have z1 : w2.cell? ⟨w.heap.size + 1, 1, none⟩ = some (.int .i64 0) := (blk_cell HT2.out 1).trans rfl; have z2 : w2.cell? ⟨w.heap.size + 1, 2, none⟩ = some (.int .i64 0) := (blk_cell HT2.out 2).trans rfl; have z3 : w2.cell? ⟨w.heap.size + 1, 3, none⟩ = some (.int .i64 0) := (blk_cell HT2.out 3).trans rfl; have f0 : w2.frozen? ⟨w.heap.size + 1, 0, none⟩ = false := blk_frozen HT2.out 0; have f1 : w2.frozen? ⟨w.heap.size + 1, 1, none⟩ = false := blk_frozen HT2.out 1; have f2 : w2.frozen? ⟨w.heap.size + 1, 2, none⟩ = false := blk_frozen HT2.out 2; have f3 : w2.frozen? ⟨w.heap.size + 1, 3, none⟩ = false := blk_frozen HT2.out 3))
  rw [Exit.noGoto_ret]
  refine bodyPost_ret (results_ctt rfl _ _ (w.heap.size + 1) 40 _ (0, 0) _ rfl (blk_set (blk_set (blk_set (blk_set HT2.out 0 (.int .i64 0)) 1 (.int .i64 0)) 2 (.int .i64 0)) 3 (.int .i64 0)) Try.underlying40 rfl (by kernel_rfl)) rfl ?_
  exact ⟨_, rfl, (OwnI.nil _ _).toR, ((((HBZ.out.trans (HB2.out.mono HBZ.out.size)).setCell (p := ⟨w.heap.size + 1, 0, none⟩) (by simp) _).setCell (p := ⟨w.heap.size + 1, 1, none⟩) (by simp) _).setCell (p := ⟨w.heap.size + 1, 2, none⟩) (by simp) _).setCell (p := ⟨w.heap.size + 1, 3, none⟩) (by simp) _⟩
end Go.Proofs.Ytplhfbkejngioaa.X
namespace Go.Proofs.Ytplhfbkejngioaa.X
open Go.RowKit Go.Proofs.YtplhfbkejngioaaW.PrintWords Go.Proofs.YtplhfbkejngioaaW.PrintLast Go.Proofs.Ytplhfbkejngioaa.S
set_option linter.unusedVariables false
set_option linter.unusedSimpArgs false
attribute [local go_sem high] eqA40 eqA28
def tickinglaw01_awake.f (k : Nat) : Option Bool := some true
theorem tickinglaw01_awake.mono : ∀ k, LeO (tickinglaw01_awake.f k) (tickinglaw01_awake.f (k + 1)) := fun _ => LeO.refl _
theorem two_C {w : World} {b : Nat} {p q : S48} (h : w.heap[b]? = some (.cells #[.int .i64 p.f0, .int .i64 p.f1, .int .i64 p.f2, .int .i64 p.f3, .int .i64 q.f0, .int .i64 q.f1, .int .i64 q.f2, .int .i64 q.f3] 48 (0, 0))) : Kd.C k48 w (some ⟨b, 0, none⟩) 2 [p, q] := by
 refine ⟨rfl, by decide, fun _ => ⟨_, rfl, fun i x hi => ?_⟩⟩
 refine ⟨[.int .i64 x.f0, .int .i64 x.f1, .int .i64 x.f2, .int .i64 x.f3], rfl, k48_mk w x, fun a u hu => ?_⟩
 have hi2 : i < 2 := (List.getElem?_eq_some_iff.1 hi).1
 have ha : a < 4 := by have := (List.getElem?_eq_some_iff.1 hu).1; simpa using this
 show w.cell? (Addr.add ⟨b, 0, none⟩ (i * 4 + a)) = some u
 rw [Addr.add_lit, Nat.zero_add, blk_cell h]
 obtain rfl | rfl : i = 0 ∨ i = 1 := by omega
 all_goals
  obtain rfl | rfl | rfl | rfl : a = 0 ∨ a = 1 ∨ a = 2 ∨ a = 3 := by omega
  all_goals
   simp at hi hu
   subst hi
   subst hu
   rfl
def aw3 : List S28 := [⟨0, 0⟩, ⟨6, 0⟩, ⟨3, 4⟩]
def aw2 : List S48 := [⟨0, 0, 2, 2⟩, ⟨1, 1, 3, 3⟩]
theorem aw_E (W : World) (A : Option Addr) (h : Kd.C k28 W A 3 aw3) : Calls Try.prog 26 #[.slice A 3 3] W fun e w' => ∃ v, e = .returned (.tuple #[.agg #[.int .i64 24, .int .i64 7, .int .i64 8, .int .i64 625], v, .int .i64 0]) ∧ Below W.heap.size W w' :=
 (cover_Enclose.calls A 3 aw3 24 7 8 625 [0, 1, 2] 0 W h (Nat.le_refl _) (by decide +kernel)).mono fun e w' ⟨v, h1, _, h3⟩ => ⟨v, h1, h3⟩
theorem aw_A (W : World) (A : Option Addr) (h : Kd.C k48 W A 2 aw2) : Calls Try.prog 17 #[.slice A 2 2] W fun e w' => e = .returned (.tuple #[.int .i64 7, .int .i64 0]) ∧ Below W.heap.size W w' :=
 cover_Area.calls A 2 aw2 7 0 W h (Nat.le_refl _) (by decide +kernel)
theorem aw_G (W : World) (A : Option Addr) (h : Kd.C k48 W A 2 aw2) : Calls Try.prog 18 #[.slice A 2 2] W fun e w' => e = .returned (.tuple #[.int .i64 12, .int .i64 0]) ∧ Below W.heap.size W w' :=
 cover_Edge.calls A 2 aw2 12 0 W h (Nat.le_refl _) (by decide +kernel)
theorem aw_D (W : World) (A : Option Addr) (h : Kd.C k48 W A 2 aw2) : Calls Try.prog 19 #[.slice A 2 2] W fun e w' => e = .returned (.tuple #[.int .i64 2, .agg #[.int .i64 1, .int .i64 1], .int .i64 0]) ∧ Below W.heap.size W w' :=
 cover_Deepest.calls A 2 aw2 2 1 1 0 W h (Nat.le_refl _) (by decide +kernel)
set_option maxHeartbeats 1000000 in
set_option maxRecDepth 100000 in
theorem tickinglaw01_awake.calls (k : Nat) (r : Bool) (w : World) (h : tickinglaw01_awake.f k = some r) :
  Calls Try.prog 21 #[] w fun e w' => e = .returned (.bool r) ∧ Below w.heap.size w w' := by
 obtain rfl := Option.some.inj h
 clear h
 have hu28 := Try.underlying28
 have hu40 := Try.underlying40
 have hu48 := Try.underlying48
 have HP := Aside0.mk (show Kd.C k28 _ _ 3 aw3 from three_C (w := w.alloc (.cells #[.int .i64 0, .int .i64 0, .int .i64 6, .int .i64 0, .int .i64 3, .int .i64 4] 28)) (p := ⟨0, 0⟩) (q := ⟨6, 0⟩) (r := ⟨3, 4⟩) (heap_alloc_new w _))
 have HE := Aside0.mk aw_E
 have HA := Aside0.mk aw_A
 have HG := Aside0.mk aw_G
 have HD := Aside0.mk aw_D
 go_enter Try.func21, Try.ntmps21
 go_wp2_with (first
  | (go_at_call 26; (with_reducible refine (HE.out _ _ HP.out).mono ?_); rintro e w1 ⟨v, rfl, hb1⟩; have HB1 := Aside0.mk (below_alloc (below_alloc (below_then (below_alloc (Below.refl _ w) _) (below_alloc (Below.refl _ w) _).size hb1) (.cells #[.int .i64 24, .int .i64 7, .int .i64 8, .int .i64 625] 40)) (.cells #[.int .i64 0, .int .i64 0, .int .i64 2, .int .i64 2, .int .i64 1, .int .i64 1, .int .i64 3, .int .i64 3] 48)); clear hb1; have HC1 := Aside0.mk (blk_alloc (heap_alloc_new w1 (.cells #[.int .i64 24, .int .i64 7, .int .i64 8, .int .i64 625] 40)) (.cells #[.int .i64 0, .int .i64 0, .int .i64 2, .int .i64 2, .int .i64 1, .int .i64 1, .int .i64 3, .int .i64 3] 48)); have hr := two_C (p := ⟨0, 0, 2, 2⟩) (q := ⟨1, 1, 3, 3⟩) (heap_alloc_new (w1.alloc (.cells #[.int .i64 24, .int .i64 7, .int .i64 8, .int .i64 625] 40)) (.cells #[.int .i64 0, .int .i64 0, .int .i64 2, .int .i64 2, .int .i64 1, .int .i64 1, .int .i64 3, .int .i64 3] 48)); rw [World.size_alloc] at hr; have HR1 := Aside0.mk (show Kd.C k48 _ _ 2 aw2 from hr); clear hr)
  | (go_at_call 17; (with_reducible refine (HA.out _ _ HR1.out).mono ?_); rintro e w2 ⟨rfl, hb2⟩; have HB2 := Aside0.mk (below_then HB1.out HB1.out.size hb2); have HR2 := Aside0.mk (Kd.C_below HR1.out hb2); have HC2 := Aside0.mk (blk_below HC1.out hb2); clear hb2)
  | (go_at_call 18; (with_reducible refine (HG.out _ _ HR2.out).mono ?_); rintro e w3 ⟨rfl, hb3⟩; have HB3 := Aside0.mk (below_then HB2.out HB2.out.size hb3); have HR3 := Aside0.mk (Kd.C_below HR2.out hb3); have HC3 := Aside0.mk (blk_below HC2.out hb3); clear hb3)
  | (go_at_call 19; (with_reducible refine (HD.out _ _ HR3.out).mono ?_); rintro e w4 ⟨rfl, hb4⟩; have HB4 := Aside0.mk (below_alloc (below_then HB3.out HB3.out.size hb4) (.cells #[.int .i64 1, .int .i64 1] 28)); have hc := blk_alloc (blk_below HC3.out hb4) (.cells #[.int .i64 1, .int .i64 1] 28); clear hb4; have z0 := (blk_cell hc 0).trans rfl; have z1 := (blk_cell hc 1).trans rfl; have z2 := (blk_cell hc 2).trans rfl; have z3 := (blk_cell hc 3).trans rfl; clear hc))
 go_ret
 exact ⟨rfl, HB4.out⟩
end Go.Proofs.Ytplhfbkejngioaa.X
namespace Go.Proofs.Ytplhfbkejngioaa.X
open Go.RowKit Go.Proofs.YtplhfbkejngioaaW.PrintWords Go.Proofs.YtplhfbkejngioaaW.PrintLast Go.Proofs.Ytplhfbkejngioaa.S
attribute [local go_sem] max2_int min2_int max_two min_two
set_option linter.unusedVariables false
set_option linter.unusedSimpArgs false
attribute [local go_sem high] eqA28 eqA40
def tickingref01_Depth.l0 : Nat → List (S48) → Int → Int → Int → Int → Option (Int)
 | 0, _, _, _, _, _ => none
 | k + 1, x0, x1, x2, x7, x8 => if x8 < (x0.length : Int) then (if 0 ≤ x8 then (if ((rd_T48 x0 x8).f0) ≤ x1 then (if x1 < ((rd_T48 x0 x8).f2) then (if ((rd_T48 x0 x8).f1) ≤ x2 then (if x2 < ((rd_T48 x0 x8).f3) then (tickingref01_Depth.l0 k x0 x1 x2 (wrap64 (x7 + 1)) (wrap64 (x8 + 1))) else (tickingref01_Depth.l0 k x0 x1 x2 x7 (wrap64 (x8 + 1)))) else (tickingref01_Depth.l0 k x0 x1 x2 x7 (wrap64 (x8 + 1)))) else (tickingref01_Depth.l0 k x0 x1 x2 x7 (wrap64 (x8 + 1)))) else (tickingref01_Depth.l0 k x0 x1 x2 x7 (wrap64 (x8 + 1)))) else (none)) else (some x7)
def tickingref01_Depth.f (k : Nat) (l0 : List (S48)) (a1 : Int) (a2 : Int) : Option (Int) := tickingref01_Depth.l0 k l0 a1 a2 0 0
theorem tickingref01_Depth.mono_l : ∀ k, (∀ y0 y1 y2 y3 y4, LeO (tickingref01_Depth.l0 k y0 y1 y2 y3 y4) (tickingref01_Depth.l0 (k + 1) y0 y1 y2 y3 y4))
 | 0 => fun _ _ _ _ _ r h => by simp [tickingref01_Depth.l0] at h
 | k + 1 => by
  have ih0 := tickingref01_Depth.mono_l k
  ·intro y0 y1 y2 y3 y4
   unfold tickingref01_Depth.l0
   repeat' first
   | (with_reducible exact ih0 _ _ _ _ _)
   | (with_reducible exact LeO.refl _)
   | (with_reducible exact LeO.none _)
   | (with_reducible refine LeO.ite ?_ ?_)
   | (with_reducible refine LeO.bind ?_ (fun _ => ?_))
   | exact ih0 _ _ _ _ _
   | exact LeO.none _
   | refine LeO.ite ?_ ?_
   | refine LeO.bind ?_ (fun _ => ?_)
theorem tickingref01_Depth.mono : ∀ a0 a1 a2 k, LeO (tickingref01_Depth.f k a0 a1 a2) (tickingref01_Depth.f (k + 1) a0 a1 a2) := by
 intro a0 a1 a2 k
 have ih0 := tickingref01_Depth.mono_l k
 unfold tickingref01_Depth.f
 repeat' first
   | (with_reducible exact ih0 _ _ _ _ _)
   | (with_reducible exact LeO.refl _)
   | (with_reducible exact LeO.none _)
   | (with_reducible refine LeO.ite ?_ ?_)
   | (with_reducible refine LeO.bind ?_ (fun _ => ?_))
   | exact ih0 _ _ _ _ _
   | exact LeO.none _
   | refine LeO.ite ?_ ?_
   | refine LeO.bind ?_ (fun _ => ?_)
set_option maxHeartbeats 8000000 in
set_option maxRecDepth 100000 in
theorem tickingref01_Depth.calls (k : Nat) (A0 : Option Addr) (c0 : Nat) (l0 : List (S48)) (a1 : Int) (a2 : Int) (r : Int) (w : World) (hr0 : Kd.C k48 w A0 l0.length l0) (hc0 : l0.length ≤ c0) (h : tickingref01_Depth.f k l0 a1 a2 = some r) :
  Calls Try.prog 30 #[.slice A0 l0.length c0, .int .i64 a1, .int .i64 a2] w fun e w' => e = .returned (.int .i64 r) ∧ Drawn0 w w' := by
 have HR0 := Aside0.mk hr0
 have HC0 := Aside0.mk hc0
 clear hr0 hc0
 have H : (tickingref01_Depth.l0 k l0 a1 a2 0 0) = some r := h
 clear h
 have H' := Aside0.mk H
 clear H
 go_enter Try.func30, Try.ntmps30
 go_wp2
 go_loopg [7, 8] k (fun kq v7 v8 w' => ∃ (x7_1 : Int) (x8_1 : Int), v7 = .int .i64 x7_1 ∧ v8 = .int .i64 x8_1 ∧ Aside0 (tickingref01_Depth.l0 kq l0 a1 a2 x7_1 x8_1 = some r) ∧ Aside0 (kq ≤ k) ∧ Drawn0 w w')
 case atStart => exact ⟨(0), (0), (by first | rfl | (simp; done) | (simp [*]; done)), (by first | rfl | (simp; done) | (simp [*]; done)), H', ⟨Nat.le_refl _⟩, by repeat (first | exact Drawn0.refl _ | apply Drawn0.step)⟩
 case round =>
  clear H'
  try clear p2
  try clear c3
  obtain ⟨x7_1, x8_1, rfl, rfl, HA, HK1, ⟨m1, rfl⟩⟩ := hrel
  cases gk with
  | zero => exact absurd HA.out (by simp [tickingref01_Depth.l0])
  | succ k1 =>
   have H := HA.out
   clear HA
   simp only [tickingref01_Depth.l0] at H
   by_cases c4 : x8_1 < (l0.length : Int)
   ·rw [if_pos c4] at H
    have c4b0 : decide (x8_1 < (l0.length : Int)) = true := decide_eq_true c4
    clear c4
    by_cases c5 : 0 ≤ x8_1
    ·rw [if_pos c5] at H
     have c5b0 : decide (0 ≤ x8_1) = true := decide_eq_true c5
     clear c5
     by_cases c6 : ((rd_T48 l0 x8_1).f0) ≤ a1
     ·rw [if_pos c6] at H
      have c6b0 : decide (((rd_T48 l0 x8_1).f0) ≤ a1) = true := decide_eq_true c6
      clear c6
      by_cases c7 : a1 < ((rd_T48 l0 x8_1).f2)
      ·rw [if_pos c7] at H
       have c7b0 : decide (a1 < ((rd_T48 l0 x8_1).f2)) = true := decide_eq_true c7
       clear c7
       by_cases c8 : ((rd_T48 l0 x8_1).f1) ≤ a2
       ·rw [if_pos c8] at H
        have c8b0 : decide (((rd_T48 l0 x8_1).f1) ≤ a2) = true := decide_eq_true c8
        clear c8
        by_cases c9 : a2 < ((rd_T48 l0 x8_1).f3)
        ·rw [if_pos c9] at H
         have c9b0 : decide (a2 < ((rd_T48 l0 x8_1).f3)) = true := decide_eq_true c9
         clear c9
         have H' := Aside0.mk H
         clear H
         have p210 : 0 ≤ (x8_1 : Int) := of_decide_eq_true (by first | (with_reducible assumption) | assumption)
         have q210 : x8_1 < (l0.length : Int) := of_decide_eq_true (by first | (with_reducible assumption) | assumption)
         obtain ⟨ad210, e210, hx210_0, hx210_1, hx210_2, hx210_3⟩ := at_T48 HR0.out x8_1 p210 q210
         cases e210
         replace p210 := eq_true p210
         replace q210 := eq_true q210
         have p211 : 0 ≤ (x8_1 : Int) := of_decide_eq_true (by first | (with_reducible assumption) | assumption)
         have q211 : x8_1 < (l0.length : Int) := of_decide_eq_true (by first | (with_reducible assumption) | assumption)
         obtain ⟨ad211, e211, hx211_0, hx211_1, hx211_2, hx211_3⟩ := at_T48 HR0.out x8_1 p211 q211
         obtain rfl : ad210 = ad211 := (by injection e211)
         replace p211 := eq_true p211
         replace q211 := eq_true q211
         have p212 : 0 ≤ (x8_1 : Int) := of_decide_eq_true (by first | (with_reducible assumption) | assumption)
         have q212 : x8_1 < (l0.length : Int) := of_decide_eq_true (by first | (with_reducible assumption) | assumption)
         obtain ⟨ad212, e212, hx212_0, hx212_1, hx212_2, hx212_3⟩ := at_T48 HR0.out x8_1 p212 q212
         obtain rfl : ad210 = ad212 := (by injection e212)
         replace p212 := eq_true p212
         replace q212 := eq_true q212
         have p213 : 0 ≤ (x8_1 : Int) := of_decide_eq_true (by first | (with_reducible assumption) | assumption)
         have q213 : x8_1 < (l0.length : Int) := of_decide_eq_true (by first | (with_reducible assumption) | assumption)
         obtain ⟨ad213, e213, hx213_0, hx213_1, hx213_2, hx213_3⟩ := at_T48 HR0.out x8_1 p213 q213
         obtain rfl : ad210 = ad213 := (by injection e213)
         replace p213 := eq_true p213
         replace q213 := eq_true q213
         go_wp2
         go_roundg k1
         case measure => have := HK1.out; omega
         case rel => exact ⟨(wrap64 (x7_1 + 1)), (wrap64 (x8_1 + 1)), (by first | rfl | (simp; done) | (simp [*]; done)), (by first | rfl | (simp; done) | (simp [*]; done)), H', ⟨by have := HK1.out; omega⟩, by repeat (first | exact Drawn0.refl _ | apply Drawn0.step)⟩
        ·rw [if_neg c9] at H
         have c9b0 : decide (a2 < ((rd_T48 l0 x8_1).f3)) = false := decide_eq_false c9
         clear c9
         have H' := Aside0.mk H
         clear H
         have p210 : 0 ≤ (x8_1 : Int) := of_decide_eq_true (by first | (with_reducible assumption) | assumption)
         have q210 : x8_1 < (l0.length : Int) := of_decide_eq_true (by first | (with_reducible assumption) | assumption)
         obtain ⟨ad210, e210, hx210_0, hx210_1, hx210_2, hx210_3⟩ := at_T48 HR0.out x8_1 p210 q210
         cases e210
         replace p210 := eq_true p210
         replace q210 := eq_true q210
         have p211 : 0 ≤ (x8_1 : Int) := of_decide_eq_true (by first | (with_reducible assumption) | assumption)
         have q211 : x8_1 < (l0.length : Int) := of_decide_eq_true (by first | (with_reducible assumption) | assumption)
         obtain ⟨ad211, e211, hx211_0, hx211_1, hx211_2, hx211_3⟩ := at_T48 HR0.out x8_1 p211 q211
         obtain rfl : ad210 = ad211 := (by injection e211)
         replace p211 := eq_true p211
         replace q211 := eq_true q211
         have p212 : 0 ≤ (x8_1 : Int) := of_decide_eq_true (by first | (with_reducible assumption) | assumption)
         have q212 : x8_1 < (l0.length : Int) := of_decide_eq_true (by first | (with_reducible assumption) | assumption)
         obtain ⟨ad212, e212, hx212_0, hx212_1, hx212_2, hx212_3⟩ := at_T48 HR0.out x8_1 p212 q212
         obtain rfl : ad210 = ad212 := (by injection e212)
         replace p212 := eq_true p212
         replace q212 := eq_true q212
         have p213 : 0 ≤ (x8_1 : Int) := of_decide_eq_true (by first | (with_reducible assumption) | assumption)
         have q213 : x8_1 < (l0.length : Int) := of_decide_eq_true (by first | (with_reducible assumption) | assumption)
         obtain ⟨ad213, e213, hx213_0, hx213_1, hx213_2, hx213_3⟩ := at_T48 HR0.out x8_1 p213 q213
         obtain rfl : ad210 = ad213 := (by injection e213)
         replace p213 := eq_true p213
         replace q213 := eq_true q213
         go_wp2
         go_roundg k1
         case measure => have := HK1.out; omega
         case rel => exact ⟨(x7_1), (wrap64 (x8_1 + 1)), (by first | rfl | (simp; done) | (simp [*]; done)), (by first | rfl | (simp; done) | (simp [*]; done)), H', ⟨by have := HK1.out; omega⟩, by repeat (first | exact Drawn0.refl _ | apply Drawn0.step)⟩
       ·rw [if_neg c8] at H
        have c8b0 : decide (((rd_T48 l0 x8_1).f1) ≤ a2) = false := decide_eq_false c8
        clear c8
        have H' := Aside0.mk H
        clear H
        have p210 : 0 ≤ (x8_1 : Int) := of_decide_eq_true (by first | (with_reducible assumption) | assumption)
        have q210 : x8_1 < (l0.length : Int) := of_decide_eq_true (by first | (with_reducible assumption) | assumption)
        obtain ⟨ad210, e210, hx210_0, hx210_1, hx210_2, hx210_3⟩ := at_T48 HR0.out x8_1 p210 q210
        cases e210
        replace p210 := eq_true p210
        replace q210 := eq_true q210
        have p211 : 0 ≤ (x8_1 : Int) := of_decide_eq_true (by first | (with_reducible assumption) | assumption)
        have q211 : x8_1 < (l0.length : Int) := of_decide_eq_true (by first | (with_reducible assumption) | assumption)
        obtain ⟨ad211, e211, hx211_0, hx211_1, hx211_2, hx211_3⟩ := at_T48 HR0.out x8_1 p211 q211
        obtain rfl : ad210 = ad211 := (by injection e211)
        replace p211 := eq_true p211
        replace q211 := eq_true q211
        have p212 : 0 ≤ (x8_1 : Int) := of_decide_eq_true (by first | (with_reducible assumption) | assumption)
        have q212 : x8_1 < (l0.length : Int) := of_decide_eq_true (by first | (with_reducible assumption) | assumption)
        obtain ⟨ad212, e212, hx212_0, hx212_1, hx212_2, hx212_3⟩ := at_T48 HR0.out x8_1 p212 q212
        obtain rfl : ad210 = ad212 := (by injection e212)
        replace p212 := eq_true p212
        replace q212 := eq_true q212
        go_wp2
        go_roundg k1
        case measure => have := HK1.out; omega
        case rel => exact ⟨(x7_1), (wrap64 (x8_1 + 1)), (by first | rfl | (simp; done) | (simp [*]; done)), (by first | rfl | (simp; done) | (simp [*]; done)), H', ⟨by have := HK1.out; omega⟩, by repeat (first | exact Drawn0.refl _ | apply Drawn0.step)⟩
      ·rw [if_neg c7] at H
       have c7b0 : decide (a1 < ((rd_T48 l0 x8_1).f2)) = false := decide_eq_false c7
       clear c7
       have H' := Aside0.mk H
       clear H
       have p210 : 0 ≤ (x8_1 : Int) := of_decide_eq_true (by first | (with_reducible assumption) | assumption)
       have q210 : x8_1 < (l0.length : Int) := of_decide_eq_true (by first | (with_reducible assumption) | assumption)
       obtain ⟨ad210, e210, hx210_0, hx210_1, hx210_2, hx210_3⟩ := at_T48 HR0.out x8_1 p210 q210
       cases e210
       replace p210 := eq_true p210
       replace q210 := eq_true q210
       have p211 : 0 ≤ (x8_1 : Int) := of_decide_eq_true (by first | (with_reducible assumption) | assumption)
       have q211 : x8_1 < (l0.length : Int) := of_decide_eq_true (by first | (with_reducible assumption) | assumption)
       obtain ⟨ad211, e211, hx211_0, hx211_1, hx211_2, hx211_3⟩ := at_T48 HR0.out x8_1 p211 q211
       obtain rfl : ad210 = ad211 := (by injection e211)
       replace p211 := eq_true p211
       replace q211 := eq_true q211
       go_wp2
       go_roundg k1
       case measure => have := HK1.out; omega
       case rel => exact ⟨(x7_1), (wrap64 (x8_1 + 1)), (by first | rfl | (simp; done) | (simp [*]; done)), (by first | rfl | (simp; done) | (simp [*]; done)), H', ⟨by have := HK1.out; omega⟩, by repeat (first | exact Drawn0.refl _ | apply Drawn0.step)⟩
     ·rw [if_neg c6] at H
      have c6b0 : decide (((rd_T48 l0 x8_1).f0) ≤ a1) = false := decide_eq_false c6
      clear c6
      have H' := Aside0.mk H
      clear H
      have p210 : 0 ≤ (x8_1 : Int) := of_decide_eq_true (by first | (with_reducible assumption) | assumption)
      have q210 : x8_1 < (l0.length : Int) := of_decide_eq_true (by first | (with_reducible assumption) | assumption)
      obtain ⟨ad210, e210, hx210_0, hx210_1, hx210_2, hx210_3⟩ := at_T48 HR0.out x8_1 p210 q210
      cases e210
      replace p210 := eq_true p210
      replace q210 := eq_true q210
      go_wp2
      go_roundg k1
      case measure => have := HK1.out; omega
      case rel => exact ⟨(x7_1), (wrap64 (x8_1 + 1)), (by first | rfl | (simp; done) | (simp [*]; done)), (by first | rfl | (simp; done) | (simp [*]; done)), H', ⟨by have := HK1.out; omega⟩, by repeat (first | exact Drawn0.refl _ | apply Drawn0.step)⟩
    ·rw [if_neg c5] at H
     exact absurd H (by simp)
   ·rw [if_neg c4] at H
    have c4b0 : decide (x8_1 < (l0.length : Int)) = false := decide_eq_false c4
    clear c4
    obtain rfl := Option.some.inj H
    go_wp2
    go_ret
    exact ⟨by first | rfl | (simp; done) | (simp [*]; done), by repeat (first | exact Drawn0.refl _ | apply Drawn0.step)⟩
end Go.Proofs.Ytplhfbkejngioaa.X
