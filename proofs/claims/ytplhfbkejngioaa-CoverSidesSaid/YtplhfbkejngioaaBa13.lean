/- Texts of this claim's session, put together: EEnclose, X10. -/
import Derived.Test.YtplhfbkejngioaaBa10
import Derived.Test.YtplhfbkejngioaaBa1
import Derived.Test.YtplhfbkejngioaaBa6
import Derived.Test.YtplhfbkejngioaaBa8
import Derived.Test.YtplhfbkejngioaaBa11
import Derived.Scope
import Derived.Test.YtplhfbkejngioaaWRepsOne
import Derived.Test.YtplhfbkejngioaaBa0
import Derived.Test.YtplhfbkejngioaaBa4
import Derived.Test.YtplhfbkejngioaaBa12
import Derived.Test.YtplhfbkejngioaaWWords
import Derived.Test.YtplhfbkejngioaaWLast
namespace Go.Proofs.Ytplhfbkejngioaa.X
open Go.RowKit Go.Shelf Go.Proofs.YtplhfbkejngioaaW.PrintWords Go.Proofs.YtplhfbkejngioaaW.PrintLast Go.Proofs.Ytplhfbkejngioaa.S
set_option linter.unusedVariables false
set_option linter.unusedSimpArgs false
attribute [local go_sem] Oper.semAt_some
def cover_Enclose.f (l0 : List S28) : Option (Int × Int × Int × Int × List Int × Int) :=
  if arePs l0 then match encloseL l0 with
    | some x => some (x.c.X, x.c.Y, x.c.D, x.c.R, x.s, 0)
    | none => some (0, 0, 0, 0, [], 0)
  else some (0, 0, 0, 0, [], 2)
theorem below_grown {n₀ : Nat} {w2 A B : World} {row : Option Nat} (hb : Below n₀ w2 A) (hn : n₀ ≤ w2.heap.size) (hg : A.grownBy B row) (hr : ∀ r, row = some r → n₀ ≤ r) : Below n₀ w2 B :=
  ⟨hg.os.trans hb.os, hg.tape.trans hb.tape, hg.output.trans hb.output, Nat.le_trans hb.size hg.size, fun k hk => (hg.block k (by have := hb.size; omega) (fun e => by have := hr k e.symm; omega)).trans (hb.block k hk)⟩
def candO (x : Cand × Nat) : Obj := .cells #[.int .i64 x.1.c.X, .int .i64 x.1.c.Y, .int .i64 x.1.c.D, .int .i64 x.1.c.R, .slice (some ⟨x.2, 0, none⟩) x.1.s.length x.1.s.length] 85 (0, 0)
structure SrchI (n₀ : Nat) (w2 : World) (ps : List S28) (pre : List (Cand × Nat)) (W : World) : Prop where
  blk : W.heap[n₀]? = some (.cells #[.int .i64 0, .int .i64 0, .int .i64 0, .int .i64 0, .slice none 0 0] 85 (0, 0))
  below : Below n₀ w2 W
  no : ∀ x ∈ pre, enclosesC x.1.c ps = false
structure SrchX (n₀ base : Nat) (w2 : World) (ps : List S28) (pre : List (Cand × Nat)) (W : World) : Prop where
  ex : ∃ pre' x, pre = pre' ++ [x] ∧ (∀ y ∈ pre', enclosesC y.1.c ps = false) ∧ enclosesC x.1.c ps = true ∧ W.heap[n₀]? = some (candO x) ∧ GoodC base x W
  below : Below n₀ w2 W
theorem SrchI.grown {n₀ : Nat} {w2 : World} {ps : List S28} {pre : List (Cand × Nat)} {A B : World} {row : Option Nat} (h : SrchI n₀ w2 ps pre A) (hn : n₀ ≤ w2.heap.size) (hg : A.grownBy B row) (hr : ∀ r, row = some r → n₀ ≤ r ∧ ∃ o : Obj, A.heap[r]? = some o ∧ o.isCells = false) : SrchI n₀ w2 ps pre B :=
  ⟨(grownBy_keeps_cells hg (fun r e => (hr r e).2) h.blk rfl).trans h.blk, below_grown h.below hn hg (fun r e => (hr r e).1), h.no⟩
theorem GoodC.grown {base : Nat} {x : Cand × Nat} {A B : World} {row : Option Nat} (h : GoodC base x A) (hg : A.grownBy B row) (hr : ∀ r, row = some r → ∃ o : Obj, A.heap[r]? = some o ∧ o.isCells = false) : GoodC base x B :=
  ⟨h.le, h.ok, (grownBy_keeps_cells hg hr h.blk rfl).trans h.blk⟩
theorem SrchX.grown {n₀ base : Nat} {w2 : World} {ps : List S28} {pre : List (Cand × Nat)} {A B : World} {row : Option Nat} (h : SrchX n₀ base w2 ps pre A) (hn : n₀ ≤ w2.heap.size) (hg : A.grownBy B row) (hr : ∀ r, row = some r → n₀ ≤ r ∧ ∃ o : Obj, A.heap[r]? = some o ∧ o.isCells = false) : SrchX n₀ base w2 ps pre B := by
  obtain ⟨pre', x, e, h0, h1, h2, h3⟩ := h.ex
  exact ⟨⟨pre', x, e, h0, h1, (grownBy_keeps_cells hg (fun r e => (hr r e).2) h2 rfl).trans h2, h3.grown hg (fun r e => (hr r e).2)⟩, below_grown h.below hn hg (fun r e => (hr r e).1)⟩
theorem KeepC.putObj {n₀ ob : Nat} (W : World) (l : Nat) (o o' : Obj) (hl : n₀ ≤ l) (ho : W.heap[l]? = some o) (hc : o.isCells = false) : KeepC n₀ ob W (W.putObj l o') := by
  refine ⟨below_grown (Below.refl _ _) (Nat.le_trans hl (Nat.le_of_lt (Array.getElem?_eq_some_iff.1 ho).1)) (grownBy_putObj' W l o') (fun r e => by cases e; exact hl), (grownBy_putObj' W l o').size, fun k cs t fr _ hk => ?_⟩
  by_cases e : k = l
  · subst e; rw [ho] at hk; cases hk; simp [Obj.isCells] at hc
  · exact (World.putObj_heap_other e).trans hk
theorem cands_short {l : List S28} {x : Cand} (h : x ∈ cands l) : x.s.length ≤ 3 := by
  rw [cands_up] at h
  rcases List.mem_append.1 h with h | h
  · unfold upJ at h
    rcases List.mem_cons.1 h with h | h
    · rw [h]; simp [cand1]
    · obtain ⟨j, _, h⟩ := List.mem_flatMap.1 h
      obtain ⟨i, _, rfl⟩ := List.mem_map.1 h
      simp [cand2]
  · obtain ⟨k, _, h⟩ := List.mem_flatMap.1 h
    obtain ⟨j, _, h⟩ := List.mem_flatMap.1 h
    obtain ⟨i, _, h⟩ := List.mem_flatMap.1 h
    unfold cand3 at h
    split at h
    · cases h
    · split at h
      · rw [List.mem_singleton.1 h]; simp
      · cases h
theorem find_mem {α : Type} {p : α → Bool} {l : List α} {x : α} (h : l.find? p = some x) : x ∈ l := List.mem_of_find?_eq_some h
theorem wpIn_scope_wide {P : Program} {Q : Exit → Act → World → Prop} {a : Act} {w : World} {c : Code} {n : Nat} (h : c.wpIn Fence.wide n P (Exit.noGoto Q) a w) : (Code.scope c).wpIn Fence.wide n P Q a w := wpIn_wide.2 (wp_scope_straight (wpIn_wide.1 h))
theorem find_hit {α : Type} {p : α → Bool} {l pre : List α} {x : α} (h : pre ++ [x] <+: l) (h0 : ∀ y ∈ pre, p y = false) (h1 : p x = true) : l.find? p = some x := by
  obtain ⟨r, rfl⟩ := h
  rw [List.append_assoc, List.find?_append, List.find?_eq_none.2 (fun y hy => by simp [h0 y hy])]
  simp [h1]
theorem find_miss {α : Type} {p : α → Bool} {l : List α} (h0 : ∀ y ∈ l, p y = false) : l.find? p = none := List.find?_eq_none.2 (fun y hy => by simp [h0 y hy])
theorem cands_iter (n₀ ob Bp : Nat) (n : Nat) (hn : 1 ≤ n) (ps : List S28) (hall : ps.all isP = true) (h1 : 1 ≤ ps.length) (h64 : ps.length ≤ 64) (A0 : Option Addr) (c0 : Nat) (hc0 : ps.length ≤ c0) (w : World) (hn0 : n₀ ≤ w.heap.size) (hob : ob < w.heap.size)
    (hrd : ∀ W W', Below w.heap.size w W → KeepC n₀ ob W W' → W'.heap[Bp]? = some (.cells #[.slice A0 ps.length c0] 37 (0, 0)) ∧ Kd.C k28 W' A0 ps.length ps) :
    IterG Fence.wide n Try.prog 80 #[.pointer (some ⟨Bp, 0, none⟩)] encC (GoodC w.heap.size) (KeepC n₀ ob) (fun xs => xs.map (·.1) = cands ps) (fun xs => xs.map (·.1) <+: cands ps) w := by
  intro l J Jx W hW hJ hY h0
  refine (cands_in n₀ ob w.heap.size n hn l Bp ps hall h1 h64 A0 c0 hc0 (fun cs W' => ∃ xs : List (Cand × Nat), xs.map (·.1) = cs ∧ J xs W') (fun cs W' => ∃ xs : List (Cand × Nat), xs.map (·.1) = cs ∧ Jx xs W')
    ?_ W hW.size (Nat.le_trans hn0 hW.size) (Nat.lt_of_lt_of_le hob hW.size) ?_ (fun W' h => hrd W W' hW h) ⟨[], rfl, h0⟩).mono ?_
  · rintro pre x W1 hg ⟨zs, rfl, hz⟩
    obtain ⟨fn, tmps, assign, body, hy, hR⟩ := hY zs x W1 hg hz
    refine ⟨fn, tmps, assign, body, hy, hR.mono ?_⟩
    rintro e W' (⟨he, hJ', hk⟩ | ⟨he, hJ'⟩)
    · exact .inl ⟨he, ⟨_, by simp, hJ'⟩, hk⟩
    · exact .inr ⟨he, ⟨_, by simp, hJ'⟩⟩
  · rintro s A B row ⟨zs, e, hz⟩ hg' hr
    exact ⟨zs, e, hJ zs A B row hz hg' hr⟩
  · rintro e W' ⟨hv, (⟨ys', hys, hJ'⟩ | ⟨pre, hp, ys', rfl, hJ'⟩)⟩
    · exact ⟨hv, .inl ⟨_, hys, hJ'⟩⟩
    · exact ⟨hv, .inr ⟨_, hp, hJ'⟩⟩
set_option maxHeartbeats 8000000 in
set_option maxRecDepth 100000 in
theorem cover_Enclose.calls (A0 : Option Addr) (c0 : Nat) (l0 : List S28) (r1 : Int) (r2 : Int) (r3 : Int) (r4 : Int) (r5 : List Int) (r6 : Int) (w : World) (hr0 : Kd.C k28 w A0 l0.length l0) (hc0 : l0.length ≤ c0) (h : cover_Enclose.f l0 = some (r1, r2, r3, r4, r5, r6)) :
    Calls Try.prog 26 #[.slice A0 l0.length c0] w fun e w' => ∃ v4_ : Value, e = .returned (.tuple #[.agg #[.int .i64 r1, .int .i64 r2, .int .i64 r3, .int .i64 r4], v4_, .int .i64 r6]) ∧ Kd.R (Kd.int .i64) 3 w' w.heap.size (fun _ => True) v4_ r5 ∧ Below w.heap.size w w' := by
  unfold cover_Enclose.f at h
  have HR0 := Aside0.mk hr0
  have HC0 := Aside0.mk hc0
  clear hr0 hc0
  have hu40 := Try.underlying40
  have hu85 := Try.underlying85
  by_cases hok : arePs l0 = true
  · rw [if_pos hok] at h
    have HF := Aside0.mk h
    clear h
    have hok' := hok
    unfold arePs at hok'
    simp only [Bool.and_eq_true, decide_eq_true_eq] at hok'
    obtain ⟨⟨h1, h64⟩, hall⟩ := hok'
    have HALL := Aside0.mk hall
    have HA := Aside0.mk (fun w' h => cover_arePoints.calls A0 c0 l0 true w' h HC0.out (by unfold cover_arePoints.f; rw [hok]))
    clear hok hall
    refine (callsIn_wide (n := 3)).1 ?_
    refine callsIn_of_wp_marks Try.func26 rfl trivial ?_ rfl
    simp only [Try.ntmps26, List.size_toArray, List.length_cons, List.length_nil, Nat.reduceAdd, Nat.reduceSub, Array.replicate_succ, Array.replicate_zero, List.push_toArray, List.append_toArray, List.nil_append, List.cons_append]
    have hb0 := cell_alloc_of (cell_of_one (heap_alloc_new w (.cells #[.slice A0 l0.length c0] 37))) (.cells #[.int .i64 0, .int .i64 0, .int .i64 0, .int .i64 0] 40)
    have HBZ := Aside0.mk (below_alloc (below_alloc (Below.refl w.heap.size w) (.cells #[.slice A0 l0.length c0] 37)) (.cells #[.int .i64 0, .int .i64 0, .int .i64 0, .int .i64 0] 40))
    gi_wp2
    refine wpIn_scope_wide ?_
    gi_wp2_with (first
      | (refine ⟨trivial, ?_⟩; gi_at_call 52; refine (callsIn_wide.2 (HA.out _ (Kd.C_below HR0.out HBZ.out))).mono ?_; rintro e w2 ⟨rfl, hb2⟩; have HB2 := Aside0.mk hb2; clear hb2; have hb1 := cell_alloc_of ((HB2.out.cell (p := ⟨w.heap.size, 0, none⟩) (by simp; omega)).trans hb0) (.cells #[.int .i64 0, .int .i64 0, .int .i64 0, .int .i64 0, .slice none 0 0] 85)))
    refine wpIn_label ?_
    gi_wp2_with (refine ⟨trivial, ?_⟩; gi_at_call 53; refine (callsIn_wide.2 (cands_calls A0 l0.length c0 _)).mono ?_; rintro e w3 ⟨rfl, rfl⟩)
    have hbx : Below w2.heap.size w2 ((w2.alloc (.cells #[.int .i64 0, .int .i64 0, .int .i64 0, .int .i64 0, .slice none 0 0] 85)).alloc (.cells #[.slice A0 l0.length c0] 37)) := below_alloc (below_alloc (Below.refl _ _) _) _
    have HIT := Aside0.mk (cands_iter w2.heap.size w2.heap.size (w2.heap.size + 1) (3 - 1) (by omega) l0 HALL.out h1 h64 A0 c0 HC0.out ((w2.alloc (.cells #[.int .i64 0, .int .i64 0, .int .i64 0, .int .i64 0, .slice none 0 0] 85)).alloc (.cells #[.slice A0 l0.length c0] 37)) (by simp; omega) (by simp; omega)
      (fun W W' hb hk => by
        refine ⟨?_, Kd.C_below HR0.out (HBZ.out.trans ((HB2.out.mono HBZ.out.size).trans ((hbx.trans ((hb.mono (by simp; omega)).trans hk.below)).mono (Nat.le_trans HBZ.out.size HB2.out.size))))⟩
        refine hk.cells _ _ _ _ (by omega) ?_
        rw [hb.block _ (by simp)]
        have := heap_alloc_new (w2.alloc (.cells #[.int .i64 0, .int .i64 0, .int .i64 0, .int .i64 0, .slice none 0 0] 85)) (.cells #[.slice A0 l0.length c0] 37)
        simpa using this))
    have HBX := Aside0.mk hbx
    clear hbx
    refine range_search (id := 0) rfl (by omega) (gf := 80) (lb := #[.pointer (some ⟨w2.heap.size + 1, 0, none⟩)]) rfl trivial (Go.Proofs.enters_of Try.func80 (by kernel_rfl) rfl) (encs := encC) (G := GoodC (w2.heap.size + 2)) (Kp := KeepC w2.heap.size w2.heap.size) (S := fun xs => xs.map (·.1) = cands l0) (Sp := fun xs => xs.map (·.1) <+: cands l0)
      (by have h := HIT.out; simpa using h) (fun _ => rfl) (fun h k => h.trans k) ?kb
      (fun pre W => SrchI w2.heap.size w2 l0 pre W) (fun pre W => SrchX w2.heap.size (w2.heap.size + 2) w2 l0 pre W) ?hI ?hIx ?h0
      (fun pre x a' W => SrchI w2.heap.size w2 l0 pre W ∧ GoodC (w2.heap.size + 2) x W ∧ ∃ xb, W.heap[xb]? = some (candO x) ∧ a' = { tmps := #[.slice A0 l0.length c0, .pointer (some ⟨w.heap.size, 0, none⟩), .pointer (some ⟨w.heap.size + 1, 0, none⟩), .slice none 0 0, .int .i64 0, .pointer (some ⟨w2.heap.size, 0, none⟩), .pointer (some ⟨xb, 0, none⟩), .slice A0 l0.length c0, .bool true, .bool false, undef, .slice A0 l0.length c0, .func (.func 80) #[] #[.pointer (some ⟨w2.heap.size + 1, 0, none⟩)], .agg #[.int .i64 x.1.c.X, .int .i64 x.1.c.Y, .int .i64 x.1.c.D, .int .i64 x.1.c.R, .slice (some ⟨x.2, 0, none⟩) x.1.s.length x.1.s.length], undef, undef, undef, undef, undef, undef, undef, undef, undef], defers := [] }) ?hAx ?assign ?body ?done ?stop
    case kb =>
      intro W l o o' hl ho hc hw
      have hl' : w2.heap.size + 2 ≤ l := by simpa using hl
      exact KeepC.putObj W l o o' (by omega) ho hc
    case hI =>
      exact fun pre A B row hs hg hr => hs.grown (Nat.le_refl _) hg (fun r e => ⟨by have := (hr r e).1; simp at this; omega, (hr r e).2⟩)
    case hIx =>
      exact fun pre A B row hs hg hr => hs.grown (Nat.le_refl _) hg (fun r e => ⟨by have := (hr r e).1; simp at this; omega, (hr r e).2⟩)
    case h0 =>
      refine ⟨?_, HBX.out, fun x hx => by cases hx⟩
      exact blk_alloc (heap_alloc_new w2 _) _
    case hAx =>
      rintro pre x a' _ A B row ⟨hs, hg', xb, hb, ha⟩ hg hr
      exact ⟨hs.grown (Nat.le_refl _) hg (fun r e => ⟨by have := (hr r e).1; simp at this; omega, (hr r e).2⟩), hg'.grown hg (fun r e => (hr r e).2), xb, (grownBy_keeps_cells hg (fun r e => (hr r e).2) hb rfl).trans hb, ha⟩
    case assign =>
      intro l pre x W K hG hi hK
      have HK := Aside0.mk hK
      have HG := Aside0.mk hG
      have HI := Aside0.mk hi
      clear hK hG hi
      simp only [encC]
      gi_wp2
      refine HK.out _ _ ((KeepsOthers.alloc W _).from _) (KeepC.of_below (below_alloc (Below.refl _ _) _) HI.out.below.size) ⟨HI.out.grown (Nat.le_refl _) (World.grownBy_alloc W _ none) (fun r e => by cases e), HG.out.grown (World.grownBy_alloc W _ none) (fun r e => by cases e), W.heap.size, heap_alloc_new W _, rfl⟩
    case body =>
      rintro l pre x a' W ⟨hi, hg, xb, hxb, rfl⟩
      have HG := Aside0.mk hg
      have HI := Aside0.mk hi
      have HX := Aside0.mk hxb
      clear hi hg hxb
      obtain ⟨b, hb⟩ : ∃ b, enclosesC x.1.c l0 = b := ⟨_, rfl⟩
      have HE := Aside0.mk (cover_encloses.calls x.1.c.X x.1.c.Y x.1.c.D x.1.c.R A0 c0 l0 b W (Kd.C_below HR0.out (HBZ.out.trans ((HB2.out.mono HBZ.out.size).trans (HI.out.below.mono (Nat.le_trans HBZ.out.size HB2.out.size))))) HC0.out (by unfold cover_encloses.f; rw [if_pos ⟨HG.out.ok, HALL.out⟩, hb]))
      have HBV := Aside0.mk hb
      clear hb
      have hx0 : W.cell? ⟨xb, 0, none⟩ = some (.int .i64 x.1.c.X) := (blk_cell HX.out 0).trans rfl
      have hx1 : W.cell? ⟨xb, 1, none⟩ = some (.int .i64 x.1.c.Y) := (blk_cell HX.out 1).trans rfl
      have hx2 : W.cell? ⟨xb, 2, none⟩ = some (.int .i64 x.1.c.D) := (blk_cell HX.out 2).trans rfl
      have hx3 : W.cell? ⟨xb, 3, none⟩ = some (.int .i64 x.1.c.R) := (blk_cell HX.out 3).trans rfl
      have hp : W.cell? ⟨w.heap.size, 0, none⟩ = some (.slice A0 l0.length c0) := (HI.out.below.cell (p := ⟨w.heap.size, 0, none⟩) (by have := HB2.out.size; simp at this; simp; omega)).trans ((HB2.out.cell (p := ⟨w.heap.size, 0, none⟩) (by simp; omega)).trans hb0)
      cases b with
      | false =>
        gi_wp2_with ((refine ⟨trivial, ?_⟩; gi_at_call 54; (with_reducible refine (CallsIn.inRound l (callsIn_wide.2 HE.out)).mono ?_); rintro e w4 ⟨rfl, hb4⟩; have HB4 := Aside0.mk hb4; clear hb4))
        exact ⟨KeepsFrom.of_grownBy (grown_of_below HB4.out none) (fun r e => by cases e), KeepC.of_below HB4.out HI.out.below.size, ⟨((HB4.out.block _ (blk_lt HI.out.blk)).trans HI.out.blk), HI.out.below.trans (HB4.out.mono HI.out.below.size), fun y hy => by
          rcases List.mem_append.1 hy with hy | hy
          · exact HI.out.no y hy
          · rw [List.mem_singleton.1 hy]; exact HBV.out⟩⟩
      | true =>
        gi_wp2_with ((refine ⟨trivial, ?_⟩; gi_at_call 54; (with_reducible refine (CallsIn.inRound l (callsIn_wide.2 HE.out)).mono ?_); rintro e w4 ⟨rfl, hb4⟩; have HB4 := Aside0.mk hb4; clear hb4; have HX4 := Aside0.mk ((HB4.out.block _ (blk_lt HX.out)).trans HX.out); have HO4 := Aside0.mk ((HB4.out.block _ (blk_lt HI.out.blk)).trans HI.out.blk); have hy0 : w4.cell? ⟨xb, 0, none⟩ = some (.int .i64 x.1.c.X) := (blk_cell HX4.out 0).trans rfl; have hy1 : w4.cell? ⟨xb, 1, none⟩ = some (.int .i64 x.1.c.Y) := (blk_cell HX4.out 1).trans rfl; have hy2 : w4.cell? ⟨xb, 2, none⟩ = some (.int .i64 x.1.c.D) := (blk_cell HX4.out 2).trans rfl; have hy3 : w4.cell? ⟨xb, 3, none⟩ = some (.int .i64 x.1.c.R) := (blk_cell HX4.out 3).trans rfl; have hy4 : w4.cell? ⟨xb, 4, none⟩ = some (.slice (some ⟨x.2, 0, none⟩) x.1.s.length x.1.s.length) := (blk_cell HX4.out 4).trans rfl; have z0 : w4.cell? ⟨w2.heap.size, 0, none⟩ = some (.int .i64 0) := (blk_cell HO4.out 0).trans rfl; have fz0 : w4.frozen? ⟨w2.heap.size, 0, none⟩ = false := blk_frozen HO4.out 0; have z1 : w4.cell? ⟨w2.heap.size, 1, none⟩ = some (.int .i64 0) := (blk_cell HO4.out 1).trans rfl; have fz1 : w4.frozen? ⟨w2.heap.size, 1, none⟩ = false := blk_frozen HO4.out 1; have z2 : w4.cell? ⟨w2.heap.size, 2, none⟩ = some (.int .i64 0) := (blk_cell HO4.out 2).trans rfl; have fz2 : w4.frozen? ⟨w2.heap.size, 2, none⟩ = false := blk_frozen HO4.out 2; have z3 : w4.cell? ⟨w2.heap.size, 3, none⟩ = some (.int .i64 0) := (blk_cell HO4.out 3).trans rfl; have fz3 : w4.frozen? ⟨w2.heap.size, 3, none⟩ = false := blk_frozen HO4.out 3; have z4 : w4.cell? ⟨w2.heap.size, 4, none⟩ = some (.slice none 0 0) := (blk_cell HO4.out 4).trans rfl; have fz4 : w4.frozen? ⟨w2.heap.size, 4, none⟩ = false := blk_frozen HO4.out 4))
        have hne : x.2 ≠ w2.heap.size := by have := HG.out.le; omega
        have hoth : ∀ (V : World) (i : Nat) (v : Value), (V.setCell ⟨w2.heap.size, i, none⟩ v).heap[x.2]? = V.heap[x.2]? := fun V i v => setCell_other V _ v hne
        refine ⟨rfl, ((KeepsFrom.of_grownBy (grown_of_below HB4.out none) (fun r e => by cases e)).trans (((((((KeepsOthers.refl w4).trans (KeepsOthers.setCell _ _ _)).trans (KeepsOthers.setCell _ _ _)).trans (KeepsOthers.setCell _ _ _)).trans (KeepsOthers.setCell _ _ _)).trans (KeepsOthers.setCell _ _ _)).from _)), ⟨⟨pre, x, rfl, HI.out.no, HBV.out, (blk_put (blk_put (blk_put (blk_put (blk_put HO4.out 0 (.int .i64 x.1.c.X) rfl) 1 (.int .i64 x.1.c.Y) rfl) 2 (.int .i64 x.1.c.D) rfl) 3 (.int .i64 x.1.c.R) rfl) 4 (.slice (some ⟨x.2, 0, none⟩) x.1.s.length x.1.s.length) rfl), ⟨HG.out.le, HG.out.ok, ?_⟩⟩, (HI.out.below.trans (HB4.out.mono HI.out.below.size)).trans ((((((Below.refl w2.heap.size w4).setCell (p := ⟨w2.heap.size, 0, none⟩) (Nat.le_refl _) _).setCell (p := ⟨w2.heap.size, 1, none⟩) (Nat.le_refl _) _).setCell (p := ⟨w2.heap.size, 2, none⟩) (Nat.le_refl _) _).setCell (p := ⟨w2.heap.size, 3, none⟩) (Nat.le_refl _) _).setCell (p := ⟨w2.heap.size, 4, none⟩) (Nat.le_refl _) _)⟩⟩
        rw [hoth, hoth, hoth, hoth, hoth, HB4.out.block _ (blk_lt HG.out.blk)]
        exact HG.out.blk
    case done =>
      rintro D ys W hD hys hi hK
      have HI := Aside0.mk hi
      have hv := (show encloseL l0 = none from find_miss (fun y hy => by
        rw [← hys] at hy
        obtain ⟨z, hz, rfl⟩ := List.mem_map.1 hy
        exact hi.no z hz))
      have hf := HF.out
      rw [hv] at hf
      simp only [Option.some.injEq, Prod.mk.injEq] at hf
      obtain ⟨rfl, rfl, rfl, rfl, rfl, rfl⟩ := hf
      clear hv HF
      have HDX := Aside0.mk hD
      have HKX := Aside0.mk hK
      clear hi hys hD hK
      gi_wp2
      have hfar : ∀ i j, (⟨w2.heap.size, i, none⟩ : Addr).block ≠ (⟨w.heap.size + 1, j, none⟩ : Addr).block := fun i j => by have := HB2.out.size; simp at this; show w2.heap.size ≠ w.heap.size + 1; omega
      have hT := (HI.out.below.block _ (by have := HB2.out.size; simp at this ⊢; omega)).trans ((HB2.out.block _ (by simp [World.size_alloc])).trans (heap_alloc_new (w.alloc (.cells #[.slice A0 l0.length c0] 37)) (.cells #[.int .i64 0, .int .i64 0, .int .i64 0, .int .i64 0] 40)))
      have hT : W.heap[w.heap.size + 1]? = some (.cells #[.int .i64 0, .int .i64 0, .int .i64 0, .int .i64 0] 40 (0, 0)) := by simpa [World.size_alloc] using hT
      have HT := Aside0.mk hT
      clear hT
      have zt0 : W.cell? ⟨w.heap.size + 1, 0, none⟩ = some (.int .i64 0) := (blk_cell HT.out 0).trans rfl
      have ft0 : W.frozen? ⟨w.heap.size + 1, 0, none⟩ = false := blk_frozen HT.out 0
      have zt1 : W.cell? ⟨w.heap.size + 1, 1, none⟩ = some (.int .i64 0) := (blk_cell HT.out 1).trans rfl
      have ft1 : W.frozen? ⟨w.heap.size + 1, 1, none⟩ = false := blk_frozen HT.out 1
      have zt2 : W.cell? ⟨w.heap.size + 1, 2, none⟩ = some (.int .i64 0) := (blk_cell HT.out 2).trans rfl
      have ft2 : W.frozen? ⟨w.heap.size + 1, 2, none⟩ = false := blk_frozen HT.out 2
      have zt3 : W.cell? ⟨w.heap.size + 1, 3, none⟩ = some (.int .i64 0) := (blk_cell HT.out 3).trans rfl
      have ft3 : W.frozen? ⟨w.heap.size + 1, 3, none⟩ = false := blk_frozen HT.out 3
      have zo0 : W.cell? ⟨w2.heap.size, 0, none⟩ = some (.int .i64 0) := (blk_cell HI.out.blk 0).trans rfl
      have zo1 : W.cell? ⟨w2.heap.size, 1, none⟩ = some (.int .i64 0) := (blk_cell HI.out.blk 1).trans rfl
      have zo2 : W.cell? ⟨w2.heap.size, 2, none⟩ = some (.int .i64 0) := (blk_cell HI.out.blk 2).trans rfl
      have zo3 : W.cell? ⟨w2.heap.size, 3, none⟩ = some (.int .i64 0) := (blk_cell HI.out.blk 3).trans rfl
      have zo4 : W.cell? ⟨w2.heap.size, 4, none⟩ = some (.slice none 0 0) := (blk_cell HI.out.blk 4).trans rfl
      refine region_head (m := 6) (by kernel_rfl) (by kernel_rfl) (by kernel_rfl) (by kernel_rfl) (by decide) (by kernel_rfl) ?_
      simp only [List.take_succ_cons, List.take_zero, List.drop_succ_cons, List.drop_zero]
      refine start_head (S := fun w' => w'.cell? ⟨w2.heap.size, 0, none⟩ = some (.int .i64 0) ∧ w'.cell? ⟨w2.heap.size, 1, none⟩ = some (.int .i64 0) ∧ w'.cell? ⟨w2.heap.size, 2, none⟩ = some (.int .i64 0) ∧ w'.cell? ⟨w2.heap.size, 3, none⟩ = some (.int .i64 0) ∧ w'.cell? ⟨w2.heap.size, 4, none⟩ = some (.slice none 0 0)) (ds := []) #[false, false, false, false, false, false] rfl rfl ⟨zo0, zo1, zo2, zo3, zo4⟩ (fun hHeld => ?_)
      refine pure_ (i := 0) (N := some 19) (v := ?_) (a' := ?_) #[true, false, false, false, false, false] rfl rfl (by kernel_rfl) (fun _ _ _ h => Exit.noConfusion h.1) (Or.inl ⟨by rfl, ?_⟩) ?_ ?_
      rotate_left
      · intro w'
        go_simp
        with_reducible rfl
      rotate_left
      · simp only [Act.put, List.setIfInBounds_toArray, List.set_cons_zero, List.set_cons_succ, i64_w, i32_w]
        rfl
      refine pure_ (i := 2) (N := some 21) (v := ?_) (a' := ?_) #[true, false, true, false, false, false] rfl rfl (by kernel_rfl) (fun _ _ _ h => Exit.noConfusion h.1) (Or.inl ⟨by rfl, ?_⟩) ?_ ?_
      rotate_left
      · intro w'
        go_simp
        with_reducible rfl
      rotate_left
      · simp only [Act.put, List.setIfInBounds_toArray, List.set_cons_zero, List.set_cons_succ, i64_w, i32_w]
        rfl
      refine take_ (i := 1) (N := some 20) (v := ?_) (a' := ?_) #[true, true, true, false, false, false] rfl rfl (by kernel_rfl) (fun _ _ _ h => Exit.noConfusion h.1) (Or.inl ⟨by rfl, ?_⟩) hHeld ?_ ?_
      rotate_left
      · rintro w' ⟨s0, s1, s2, s3, s4⟩
        go_simp
        with_reducible rfl
      rotate_left
      · simp only [Act.put, List.setIfInBounds_toArray, List.set_cons_zero, List.set_cons_succ, i64_w, i32_w]
        rfl
      refine take_ (i := 3) (N := some 22) (v := ?_) (a' := ?_) #[true, true, true, true, false, false] rfl rfl (by kernel_rfl) (fun _ _ _ h => Exit.noConfusion h.1) (Or.inl ⟨by rfl, ?_⟩) hHeld ?_ ?_
      rotate_left
      · rintro w' ⟨s0, s1, s2, s3, s4⟩
        go_simp
        with_reducible rfl
      rotate_left
      · simp only [Act.put, List.setIfInBounds_toArray, List.set_cons_zero, List.set_cons_succ, i64_w, i32_w]
        rfl
      refine one_ (i := 4) (N := none) #[true, true, true, true, true, false] rfl rfl (by kernel_rfl) (by decide) (fun K hK => ?_)
      refine skip_ (w1 := ?_) (by rfl) rfl ?_ ?_
      rotate_left
      · go_simp
        rfl
      refine hK.out _ _ ⟨(cellFar (q := ⟨w.heap.size + 1, 3, none⟩) (hfar _ _) _ (cellFar (q := ⟨w.heap.size + 1, 2, none⟩) (hfar _ _) _ (cellFar (q := ⟨w.heap.size + 1, 1, none⟩) (hfar _ _) _ (cellFar (q := ⟨w.heap.size + 1, 0, none⟩) (hfar _ _) _ hHeld.1)))), (cellFar (q := ⟨w.heap.size + 1, 3, none⟩) (hfar _ _) _ (cellFar (q := ⟨w.heap.size + 1, 2, none⟩) (hfar _ _) _ (cellFar (q := ⟨w.heap.size + 1, 1, none⟩) (hfar _ _) _ (cellFar (q := ⟨w.heap.size + 1, 0, none⟩) (hfar _ _) _ hHeld.2.1)))), (cellFar (q := ⟨w.heap.size + 1, 3, none⟩) (hfar _ _) _ (cellFar (q := ⟨w.heap.size + 1, 2, none⟩) (hfar _ _) _ (cellFar (q := ⟨w.heap.size + 1, 1, none⟩) (hfar _ _) _ (cellFar (q := ⟨w.heap.size + 1, 0, none⟩) (hfar _ _) _ hHeld.2.2.1)))), (cellFar (q := ⟨w.heap.size + 1, 3, none⟩) (hfar _ _) _ (cellFar (q := ⟨w.heap.size + 1, 2, none⟩) (hfar _ _) _ (cellFar (q := ⟨w.heap.size + 1, 1, none⟩) (hfar _ _) _ (cellFar (q := ⟨w.heap.size + 1, 0, none⟩) (hfar _ _) _ hHeld.2.2.2.1)))), (cellFar (q := ⟨w.heap.size + 1, 3, none⟩) (hfar _ _) _ (cellFar (q := ⟨w.heap.size + 1, 2, none⟩) (hfar _ _) _ (cellFar (q := ⟨w.heap.size + 1, 1, none⟩) (hfar _ _) _ (cellFar (q := ⟨w.heap.size + 1, 0, none⟩) (hfar _ _) _ hHeld.2.2.2.2))))⟩ (fun hHeld => ?_)
      clear hK K
      refine pure_ (i := 5) (N := some 3) (v := ?_) (a' := ?_) #[true, true, true, true, true, true] rfl rfl (by kernel_rfl) (fun _ _ _ h => Exit.noConfusion h.1) (Or.inl ⟨by rfl, ?_⟩) ?_ ?_
      rotate_left
      · intro w'
        go_simp
        with_reducible rfl
      rotate_left
      · simp only [Act.put, List.setIfInBounds_toArray, List.set_cons_zero, List.set_cons_succ, i64_w, i32_w]
        rfl
      refine done_ (by kernel_rfl) ?_
      refine ⟨rfl, ?_⟩
      gi_wp2
      have hd : (((((W.setCell ⟨w.heap.size + 1, 0, none⟩ (.int .i64 0)).setCell ⟨w.heap.size + 1, 1, none⟩ (.int .i64 0)).setCell ⟨w.heap.size + 1, 2, none⟩ (.int .i64 0)).setCell ⟨w.heap.size + 1, 3, none⟩ (.int .i64 0)).drew).heap[D]? = some (.deferred (some [])) := ((((((KeepsOthers.refl W).trans (KeepsOthers.setCell _ _ _)).trans (KeepsOthers.setCell _ _ _)).trans (KeepsOthers.setCell _ _ _)).trans (KeepsOthers.setCell _ _ _)).trans (KeepsOthers.drew _)).same D _ HKX.out rfl
      have HD5 := Aside0.mk hd
      clear hd
      refine ⟨by simp, .inl ⟨_, _, rfl, run_takeDeferred HD5.out, ?_⟩⟩
      have hwD : w2.heap.size + 2 ≤ D := by simpa using HDX.out
      have hw2 : w.heap.size + 2 ≤ w2.heap.size := by have := HB2.out.size; simp at this; omega
      have hres : (((((W.setCell ⟨w.heap.size + 1, 0, none⟩ (.int .i64 0)).setCell ⟨w.heap.size + 1, 1, none⟩ (.int .i64 0)).setCell ⟨w.heap.size + 1, 2, none⟩ (.int .i64 0)).setCell ⟨w.heap.size + 1, 3, none⟩ (.int .i64 0)).drew.putObj D (.deferred none)).heap[w.heap.size + 1]? = some (.cells #[.int .i64 0, .int .i64 0, .int .i64 0, .int .i64 0] 40 (0, 0)) := by
        rw [World.putObj_heap_other (by omega), heap_drew]
        exact (blk_set (blk_set (blk_set (blk_set HT.out 0 (.int .i64 0)) 1 (.int .i64 0)) 2 (.int .i64 0)) 3 (.int .i64 0))
      have hBW : Below w.heap.size w W := HBZ.out.trans ((HB2.out.mono HBZ.out.size).trans (HI.out.below.mono (by omega)))
      have hB5 := ((((hBW.setCell (p := ⟨w.heap.size + 1, 0, none⟩) (by simp) (.int .i64 0)).setCell (p := ⟨w.heap.size + 1, 1, none⟩) (by simp) (.int .i64 0)).setCell (p := ⟨w.heap.size + 1, 2, none⟩) (by simp) (.int .i64 0)).setCell (p := ⟨w.heap.size + 1, 3, none⟩) (by simp) (.int .i64 0)).drew
      refine ⟨_, results_ctt rfl _ _ (w.heap.size + 1) 40 _ (0, 0) _ rfl hres Try.underlying40 rfl (by kernel_rfl), _, rfl, ?_, hB5.trans (belowK_b (w := w) (Nat.le_refl _) _ D _ _ (by omega) HD5.out rfl rfl)⟩
      exact (OwnI.nil _ _).toR
    case stop =>
      rintro D pre W hD hp hx hK
      obtain ⟨⟨pre', x, rfl, h0, h1', h2, h3⟩, hb⟩ := hx
      have hv := (show encloseL l0 = some x.1 from find_hit (pre := pre'.map (·.1)) (by simpa using hp) (fun y hy => by
        obtain ⟨z, hz, rfl⟩ := List.mem_map.1 hy
        exact h0 z hz) h1')
      have hf := HF.out
      rw [hv] at hf
      simp only [Option.some.injEq, Prod.mk.injEq] at hf
      obtain ⟨rfl, rfl, rfl, rfl, rfl, rfl⟩ := hf
      have HSH := Aside0.mk (cands_short (find_mem hv))
      clear hv HF
      have HO := Aside0.mk h2
      have HG := Aside0.mk h3
      have HB := Aside0.mk hb
      have HDX := Aside0.mk hD
      have HKX := Aside0.mk hK
      clear hp h0 h1' h2 h3 hb hD hK
      gi_wp2
      have hfar : ∀ i j, (⟨w2.heap.size, i, none⟩ : Addr).block ≠ (⟨w.heap.size + 1, j, none⟩ : Addr).block := fun i j => by have := HB2.out.size; simp at this; show w2.heap.size ≠ w.heap.size + 1; omega
      have hT := (HB.out.block _ (by have := HB2.out.size; simp at this ⊢; omega)).trans ((HB2.out.block _ (by simp [World.size_alloc])).trans (heap_alloc_new (w.alloc (.cells #[.slice A0 l0.length c0] 37)) (.cells #[.int .i64 0, .int .i64 0, .int .i64 0, .int .i64 0] 40)))
      have hT : W.heap[w.heap.size + 1]? = some (.cells #[.int .i64 0, .int .i64 0, .int .i64 0, .int .i64 0] 40 (0, 0)) := by simpa [World.size_alloc] using hT
      have HT := Aside0.mk hT
      clear hT
      have zt0 : W.cell? ⟨w.heap.size + 1, 0, none⟩ = some (.int .i64 0) := (blk_cell HT.out 0).trans rfl
      have ft0 : W.frozen? ⟨w.heap.size + 1, 0, none⟩ = false := blk_frozen HT.out 0
      have zt1 : W.cell? ⟨w.heap.size + 1, 1, none⟩ = some (.int .i64 0) := (blk_cell HT.out 1).trans rfl
      have ft1 : W.frozen? ⟨w.heap.size + 1, 1, none⟩ = false := blk_frozen HT.out 1
      have zt2 : W.cell? ⟨w.heap.size + 1, 2, none⟩ = some (.int .i64 0) := (blk_cell HT.out 2).trans rfl
      have ft2 : W.frozen? ⟨w.heap.size + 1, 2, none⟩ = false := blk_frozen HT.out 2
      have zt3 : W.cell? ⟨w.heap.size + 1, 3, none⟩ = some (.int .i64 0) := (blk_cell HT.out 3).trans rfl
      have ft3 : W.frozen? ⟨w.heap.size + 1, 3, none⟩ = false := blk_frozen HT.out 3
      have zo0 : W.cell? ⟨w2.heap.size, 0, none⟩ = some (.int .i64 x.1.c.X) := (blk_cell HO.out 0).trans rfl
      have zo1 : W.cell? ⟨w2.heap.size, 1, none⟩ = some (.int .i64 x.1.c.Y) := (blk_cell HO.out 1).trans rfl
      have zo2 : W.cell? ⟨w2.heap.size, 2, none⟩ = some (.int .i64 x.1.c.D) := (blk_cell HO.out 2).trans rfl
      have zo3 : W.cell? ⟨w2.heap.size, 3, none⟩ = some (.int .i64 x.1.c.R) := (blk_cell HO.out 3).trans rfl
      have zo4 : W.cell? ⟨w2.heap.size, 4, none⟩ = some (.slice (some ⟨x.2, 0, none⟩) x.1.s.length x.1.s.length) := (blk_cell HO.out 4).trans rfl
      refine region_head (m := 6) (by kernel_rfl) (by kernel_rfl) (by kernel_rfl) (by kernel_rfl) (by decide) (by kernel_rfl) ?_
      simp only [List.take_succ_cons, List.take_zero, List.drop_succ_cons, List.drop_zero]
      refine start_head (S := fun w' => w'.cell? ⟨w2.heap.size, 0, none⟩ = some (.int .i64 x.1.c.X) ∧ w'.cell? ⟨w2.heap.size, 1, none⟩ = some (.int .i64 x.1.c.Y) ∧ w'.cell? ⟨w2.heap.size, 2, none⟩ = some (.int .i64 x.1.c.D) ∧ w'.cell? ⟨w2.heap.size, 3, none⟩ = some (.int .i64 x.1.c.R) ∧ w'.cell? ⟨w2.heap.size, 4, none⟩ = some (.slice (some ⟨x.2, 0, none⟩) x.1.s.length x.1.s.length)) (ds := []) #[false, false, false, false, false, false] rfl rfl ⟨zo0, zo1, zo2, zo3, zo4⟩ (fun hHeld => ?_)
      refine pure_ (i := 0) (N := some 19) (v := ?_) (a' := ?_) #[true, false, false, false, false, false] rfl rfl (by kernel_rfl) (fun _ _ _ h => Exit.noConfusion h.1) (Or.inl ⟨by rfl, ?_⟩) ?_ ?_
      rotate_left
      · intro w'
        go_simp
        with_reducible rfl
      rotate_left
      · simp only [Act.put, List.setIfInBounds_toArray, List.set_cons_zero, List.set_cons_succ, i64_w, i32_w]
        rfl
      refine pure_ (i := 2) (N := some 21) (v := ?_) (a' := ?_) #[true, false, true, false, false, false] rfl rfl (by kernel_rfl) (fun _ _ _ h => Exit.noConfusion h.1) (Or.inl ⟨by rfl, ?_⟩) ?_ ?_
      rotate_left
      · intro w'
        go_simp
        with_reducible rfl
      rotate_left
      · simp only [Act.put, List.setIfInBounds_toArray, List.set_cons_zero, List.set_cons_succ, i64_w, i32_w]
        rfl
      refine take_ (i := 1) (N := some 20) (v := ?_) (a' := ?_) #[true, true, true, false, false, false] rfl rfl (by kernel_rfl) (fun _ _ _ h => Exit.noConfusion h.1) (Or.inl ⟨by rfl, ?_⟩) hHeld ?_ ?_
      rotate_left
      · rintro w' ⟨s0, s1, s2, s3, s4⟩
        go_simp
        with_reducible rfl
      rotate_left
      · simp only [Act.put, List.setIfInBounds_toArray, List.set_cons_zero, List.set_cons_succ, i64_w, i32_w]
        rfl
      refine take_ (i := 3) (N := some 22) (v := ?_) (a' := ?_) #[true, true, true, true, false, false] rfl rfl (by kernel_rfl) (fun _ _ _ h => Exit.noConfusion h.1) (Or.inl ⟨by rfl, ?_⟩) hHeld ?_ ?_
      rotate_left
      · rintro w' ⟨s0, s1, s2, s3, s4⟩
        go_simp
        with_reducible rfl
      rotate_left
      · simp only [Act.put, List.setIfInBounds_toArray, List.set_cons_zero, List.set_cons_succ, i64_w, i32_w]
        rfl
      refine one_ (i := 4) (N := none) #[true, true, true, true, true, false] rfl rfl (by kernel_rfl) (by decide) (fun K hK => ?_)
      refine skip_ (w1 := ?_) (by rfl) rfl ?_ ?_
      rotate_left
      · go_simp
        rfl
      refine hK.out _ _ ⟨(cellFar (q := ⟨w.heap.size + 1, 3, none⟩) (hfar _ _) _ (cellFar (q := ⟨w.heap.size + 1, 2, none⟩) (hfar _ _) _ (cellFar (q := ⟨w.heap.size + 1, 1, none⟩) (hfar _ _) _ (cellFar (q := ⟨w.heap.size + 1, 0, none⟩) (hfar _ _) _ hHeld.1)))), (cellFar (q := ⟨w.heap.size + 1, 3, none⟩) (hfar _ _) _ (cellFar (q := ⟨w.heap.size + 1, 2, none⟩) (hfar _ _) _ (cellFar (q := ⟨w.heap.size + 1, 1, none⟩) (hfar _ _) _ (cellFar (q := ⟨w.heap.size + 1, 0, none⟩) (hfar _ _) _ hHeld.2.1)))), (cellFar (q := ⟨w.heap.size + 1, 3, none⟩) (hfar _ _) _ (cellFar (q := ⟨w.heap.size + 1, 2, none⟩) (hfar _ _) _ (cellFar (q := ⟨w.heap.size + 1, 1, none⟩) (hfar _ _) _ (cellFar (q := ⟨w.heap.size + 1, 0, none⟩) (hfar _ _) _ hHeld.2.2.1)))), (cellFar (q := ⟨w.heap.size + 1, 3, none⟩) (hfar _ _) _ (cellFar (q := ⟨w.heap.size + 1, 2, none⟩) (hfar _ _) _ (cellFar (q := ⟨w.heap.size + 1, 1, none⟩) (hfar _ _) _ (cellFar (q := ⟨w.heap.size + 1, 0, none⟩) (hfar _ _) _ hHeld.2.2.2.1)))), (cellFar (q := ⟨w.heap.size + 1, 3, none⟩) (hfar _ _) _ (cellFar (q := ⟨w.heap.size + 1, 2, none⟩) (hfar _ _) _ (cellFar (q := ⟨w.heap.size + 1, 1, none⟩) (hfar _ _) _ (cellFar (q := ⟨w.heap.size + 1, 0, none⟩) (hfar _ _) _ hHeld.2.2.2.2))))⟩ (fun hHeld => ?_)
      clear hK K
      refine pure_ (i := 5) (N := some 3) (v := ?_) (a' := ?_) #[true, true, true, true, true, true] rfl rfl (by kernel_rfl) (fun _ _ _ h => Exit.noConfusion h.1) (Or.inl ⟨by rfl, ?_⟩) ?_ ?_
      rotate_left
      · intro w'
        go_simp
        with_reducible rfl
      rotate_left
      · simp only [Act.put, List.setIfInBounds_toArray, List.set_cons_zero, List.set_cons_succ, i64_w, i32_w]
        rfl
      refine done_ (by kernel_rfl) ?_
      refine ⟨rfl, ?_⟩
      gi_wp2
      have hd : (((((W.setCell ⟨w.heap.size + 1, 0, none⟩ (.int .i64 x.1.c.X)).setCell ⟨w.heap.size + 1, 1, none⟩ (.int .i64 x.1.c.Y)).setCell ⟨w.heap.size + 1, 2, none⟩ (.int .i64 x.1.c.D)).setCell ⟨w.heap.size + 1, 3, none⟩ (.int .i64 x.1.c.R)).drew).heap[D]? = some (.deferred (some [])) := ((((((KeepsOthers.refl W).trans (KeepsOthers.setCell _ _ _)).trans (KeepsOthers.setCell _ _ _)).trans (KeepsOthers.setCell _ _ _)).trans (KeepsOthers.setCell _ _ _)).trans (KeepsOthers.drew _)).same D _ HKX.out rfl
      have HD5 := Aside0.mk hd
      clear hd
      refine ⟨by simp, .inl ⟨_, _, rfl, run_takeDeferred HD5.out, ?_⟩⟩
      have hwD : w2.heap.size + 2 ≤ D := by simpa using HDX.out
      have hw2 : w.heap.size + 2 ≤ w2.heap.size := by have := HB2.out.size; simp at this; omega
      have hres : (((((W.setCell ⟨w.heap.size + 1, 0, none⟩ (.int .i64 x.1.c.X)).setCell ⟨w.heap.size + 1, 1, none⟩ (.int .i64 x.1.c.Y)).setCell ⟨w.heap.size + 1, 2, none⟩ (.int .i64 x.1.c.D)).setCell ⟨w.heap.size + 1, 3, none⟩ (.int .i64 x.1.c.R)).drew.putObj D (.deferred none)).heap[w.heap.size + 1]? = some (.cells #[.int .i64 x.1.c.X, .int .i64 x.1.c.Y, .int .i64 x.1.c.D, .int .i64 x.1.c.R] 40 (0, 0)) := by
        rw [World.putObj_heap_other (by omega), heap_drew]
        exact (blk_set (blk_set (blk_set (blk_set HT.out 0 (.int .i64 x.1.c.X)) 1 (.int .i64 x.1.c.Y)) 2 (.int .i64 x.1.c.D)) 3 (.int .i64 x.1.c.R))
      have hBW : Below w.heap.size w W := HBZ.out.trans ((HB2.out.mono HBZ.out.size).trans (HB.out.mono (by omega)))
      have hB5 := ((((hBW.setCell (p := ⟨w.heap.size + 1, 0, none⟩) (by simp) (.int .i64 x.1.c.X)).setCell (p := ⟨w.heap.size + 1, 1, none⟩) (by simp) (.int .i64 x.1.c.Y)).setCell (p := ⟨w.heap.size + 1, 2, none⟩) (by simp) (.int .i64 x.1.c.D)).setCell (p := ⟨w.heap.size + 1, 3, none⟩) (by simp) (.int .i64 x.1.c.R)).drew
      refine ⟨_, results_ctt rfl _ _ (w.heap.size + 1) 40 _ (0, 0) _ rfl hres Try.underlying40 rfl (by kernel_rfl), _, rfl, ?_, hB5.trans (belowK_b (w := w) (Nat.le_refl _) _ D _ _ (by omega) HD5.out rfl rfl)⟩
      have hq : ∀ {i}, x.2 ≠ (⟨w.heap.size + 1, i, none⟩ : Addr).block := fun {i} => by have := HG.out.le; show x.2 ≠ w.heap.size + 1; omega
      refine OwnI.toR ⟨by simp, .inr ⟨x.2, x.1.s.length, (x.1.s.map (Value.int .i64)).toArray, rfl, by have := HG.out.le; omega, ?_, Nat.le_refl _, by have := HSH.out; unfold maxLen; omega, by simp, by rw [Nat.mul_one]; exact List.take_of_length_le (by simp)⟩⟩
      rw [World.putObj_heap_other (fun e => by have h1 := HG.out.blk; rw [e, HKX.out] at h1; cases h1), heap_drew, setCell_other _ _ _ hq, setCell_other _ _ _ hq, setCell_other _ _ _ hq, setCell_other _ _ _ hq]
      exact HG.out.blk
  · rw [if_neg hok] at h
    simp only [Option.some.injEq, Prod.mk.injEq] at h
    obtain ⟨rfl, rfl, rfl, rfl, rfl, rfl⟩ := h
    have HA := Aside0.mk (fun w' h => cover_arePoints.calls A0 c0 l0 false w' h HC0.out (by unfold cover_arePoints.f; rw [Bool.eq_false_iff.2 hok]))
    clear hok
    have hb0 := cell_alloc_of (cell_of_one (heap_alloc_new w (.cells #[.slice A0 l0.length c0] 37))) (.cells #[.int .i64 0, .int .i64 0, .int .i64 0, .int .i64 0] 40)
    have HBZ := Aside0.mk (below_alloc (below_alloc (Below.refl w.heap.size w) (.cells #[.slice A0 l0.length c0] 37)) (.cells #[.int .i64 0, .int .i64 0, .int .i64 0, .int .i64 0] 40))
    have HT := Aside0.mk (show ((w.alloc (.cells #[.slice A0 l0.length c0] 37)).alloc (.cells #[.int .i64 0, .int .i64 0, .int .i64 0, .int .i64 0] 40)).heap[w.heap.size + 1]? = some (.cells #[.int .i64 0, .int .i64 0, .int .i64 0, .int .i64 0] 40 (0, 0)) by simpa [World.size_alloc] using heap_alloc_new (w.alloc (.cells #[.slice A0 l0.length c0] 37)) (.cells #[.int .i64 0, .int .i64 0, .int .i64 0, .int .i64 0] 40))
    go_enter Try.func26, Try.ntmps26
    go_wp2
    refine wp_scope_straight ?_
    go_wp2_with (first
      | (go_at_call 52; refine (HA.out _ (Kd.C_below HR0.out HBZ.out)).mono ?_; rintro e w2 ⟨rfl, hb2⟩; have HB2 := Aside0.mk hb2; clear hb2; have HT2 := Aside0.mk ((HB2.out.block _ (blk_lt HT.out)).trans HT.out); have z0 : w2.cell? ⟨w.heap.size + 1, 0, none⟩ = some (.int .i64 0) := (blk_cell HT2.out 0).trans rfl; have z1 : w2.cell? ⟨w.heap.size + 1, 1, none⟩ = some (.int .i64 0) := (blk_cell HT2.out 1).trans rfl; have z2 : w2.cell? ⟨w.heap.size + 1, 2, none⟩ = some (.int .i64 0) := (blk_cell HT2.out 2).trans rfl; have z3 : w2.cell? ⟨w.heap.size + 1, 3, none⟩ = some (.int .i64 0) := (blk_cell HT2.out 3).trans rfl; have f0 : w2.frozen? ⟨w.heap.size + 1, 0, none⟩ = false := blk_frozen HT2.out 0; have f1 : w2.frozen? ⟨w.heap.size + 1, 1, none⟩ = false := blk_frozen HT2.out 1; have f2 : w2.frozen? ⟨w.heap.size + 1, 2, none⟩ = false := blk_frozen HT2.out 2; have f3 : w2.frozen? ⟨w.heap.size + 1, 3, none⟩ = false := blk_frozen HT2.out 3))
    rw [Exit.noGoto_ret]
    refine bodyPost_ret (results_ctt rfl _ _ (w.heap.size + 1) 40 _ (0, 0) _ rfl (blk_set (blk_set (blk_set (blk_set HT2.out 0 (.int .i64 0)) 1 (.int .i64 0)) 2 (.int .i64 0)) 3 (.int .i64 0)) Try.underlying40 rfl (by kernel_rfl)) rfl ?_
    exact ⟨_, rfl, (OwnI.nil _ _).toR, ((((HBZ.out.trans (HB2.out.mono HBZ.out.size)).setCell (p := ⟨w.heap.size + 1, 0, none⟩) (by simp) _).setCell (p := ⟨w.heap.size + 1, 1, none⟩) (by simp) _).setCell (p := ⟨w.heap.size + 1, 2, none⟩) (by simp) _).setCell (p := ⟨w.heap.size + 1, 3, none⟩) (by simp) _⟩
end Go.Proofs.Ytplhfbkejngioaa.X
namespace Go.Proofs.Ytplhfbkejngioaa.X
open Go.RowKit Go.Proofs.YtplhfbkejngioaaW.PrintWords Go.Proofs.YtplhfbkejngioaaW.PrintLast Go.Proofs.Ytplhfbkejngioaa.S
attribute [local go_sem] max2_int min2_int max_two min_two
set_option linter.unusedVariables false
set_option linter.unusedSimpArgs false
attribute [local go_sem high] eqA28 eqA40
def tickinglaw01_awake.j0 : Nat → Bool → Option (Bool)
  | 0, _ => none
  | k + 1, x75 => if x75 = true then (some false) else (some true)
def tickinglaw01_awake.f (k : Nat)  : Option (Bool) := (cover_Enclose.f (([(⟨0, 0⟩ : S28), (⟨6, 0⟩ : S28), (⟨3, 4⟩ : S28)] : List (S28)))).bind fun bt189 => ((some (([(⟨0, 0, 2, 2⟩ : S48), (⟨1, 1, 3, 3⟩ : S48)] : List (S48)) : List (S48))).bind fun y198 => ((cover_Area.f y198).bind fun bt201 => ((cover_Edge.f y198).bind fun bt203 => ((cover_Deepest.f y198).bind fun bt205 => (if bt189.2.2.2.2.2 = 0 then (if (!(bt189.1 == 24) || (!(bt189.2.1 == 7) || (!(bt189.2.2.1 == 8) || (!(bt189.2.2.2.1 == 625))))) = true then (tickinglaw01_awake.j0 k true) else (if bt201.2 = 0 then (if bt201.1 = 7 then (if bt203.2 = 0 then (if bt203.1 = 12 then (if bt205.2.2.2 = 0 then (if bt205.1 = 2 then (tickinglaw01_awake.j0 k (!(bt205.2.1 == 1) || (!(bt205.2.2.1 == 1)))) else (tickinglaw01_awake.j0 k true)) else (tickinglaw01_awake.j0 k true)) else (tickinglaw01_awake.j0 k true)) else (tickinglaw01_awake.j0 k true)) else (tickinglaw01_awake.j0 k true)) else (tickinglaw01_awake.j0 k true))) else (tickinglaw01_awake.j0 k true))))))
theorem tickinglaw01_awake.mono_l : ∀ k, (∀ y0, LeO (tickinglaw01_awake.j0 k y0) (tickinglaw01_awake.j0 (k + 1) y0))
  | 0 => fun _ r h => by simp [tickinglaw01_awake.j0] at h
  | k + 1 => by
    have ih0 := tickinglaw01_awake.mono_l k
    · intro y0
      unfold tickinglaw01_awake.j0
      repeat' first
      | (with_reducible exact ih0 _)
      | (with_reducible exact LeO.refl _)
      | (with_reducible exact LeO.none _)
      | (with_reducible refine LeO.ite ?_ ?_)
      | (with_reducible refine LeO.bind ?_ (fun _ => ?_))
      | exact ih0 _
      | exact LeO.none _
      | refine LeO.ite ?_ ?_
      | refine LeO.bind ?_ (fun _ => ?_)
theorem tickinglaw01_awake.mono : ∀ k, LeO (tickinglaw01_awake.f k ) (tickinglaw01_awake.f (k + 1) ) := by
  intro  k
  have ih0 := tickinglaw01_awake.mono_l k
  unfold tickinglaw01_awake.f
  repeat' first
      | (with_reducible exact ih0 _)
      | (with_reducible exact LeO.refl _)
      | (with_reducible exact LeO.none _)
      | (with_reducible refine LeO.ite ?_ ?_)
      | (with_reducible refine LeO.bind ?_ (fun _ => ?_))
      | exact ih0 _
      | exact LeO.none _
      | refine LeO.ite ?_ ?_
      | refine LeO.bind ?_ (fun _ => ?_)
set_option maxHeartbeats 8000000 in
set_option maxRecDepth 100000 in
theorem tickinglaw01_awake.calls (k : Nat)  (r : Bool) (w : World) (h : tickinglaw01_awake.f k  = some r) :
    Calls Try.prog 21 #[] w fun e w' => e = .returned (.bool r) ∧ Below w.heap.size w w' := by
  have hu28 := Try.underlying28
  have hu40 := Try.underlying40
  have hu48 := Try.underlying48
  have HB := Aside0.mk (Below.refl w.heap.size w)
  have H : ((cover_Enclose.f (([(⟨0, 0⟩ : S28), (⟨6, 0⟩ : S28), (⟨3, 4⟩ : S28)] : List (S28)))).bind fun bt189 => ((some (([(⟨0, 0, 2, 2⟩ : S48), (⟨1, 1, 3, 3⟩ : S48)] : List (S48)) : List (S48))).bind fun y198 => ((cover_Area.f y198).bind fun bt201 => ((cover_Edge.f y198).bind fun bt203 => ((cover_Deepest.f y198).bind fun bt205 => (if bt189.2.2.2.2.2 = 0 then (if (!(bt189.1 == 24) || (!(bt189.2.1 == 7) || (!(bt189.2.2.1 == 8) || (!(bt189.2.2.2.1 == 625))))) = true then (tickinglaw01_awake.j0 k true) else (if bt201.2 = 0 then (if bt201.1 = 7 then (if bt203.2 = 0 then (if bt203.1 = 12 then (if bt205.2.2.2 = 0 then (if bt205.1 = 2 then (tickinglaw01_awake.j0 k (!(bt205.2.1 == 1) || (!(bt205.2.2.1 == 1)))) else (tickinglaw01_awake.j0 k true)) else (tickinglaw01_awake.j0 k true)) else (tickinglaw01_awake.j0 k true)) else (tickinglaw01_awake.j0 k true)) else (tickinglaw01_awake.j0 k true)) else (tickinglaw01_awake.j0 k true))) else (tickinglaw01_awake.j0 k true))))))) = some r := h
  clear h
  obtain ⟨y186, hy186⟩ : ∃ y_ : List (S28), y_ = (([(⟨0, 0⟩ : S28), (⟨6, 0⟩ : S28), (⟨3, 4⟩ : S28)] : List (S28))) := ⟨_, rfl⟩
  replace H : ((cover_Enclose.f y186).bind fun bt189 => ((some (([(⟨0, 0, 2, 2⟩ : S48), (⟨1, 1, 3, 3⟩ : S48)] : List (S48)) : List (S48))).bind fun y198 => ((cover_Area.f y198).bind fun bt201 => ((cover_Edge.f y198).bind fun bt203 => ((cover_Deepest.f y198).bind fun bt205 => (if bt189.2.2.2.2.2 = 0 then (if (!(bt189.1 == 24) || (!(bt189.2.1 == 7) || (!(bt189.2.2.1 == 8) || (!(bt189.2.2.2.1 == 625))))) = true then (tickinglaw01_awake.j0 k true) else (if bt201.2 = 0 then (if bt201.1 = 7 then (if bt203.2 = 0 then (if bt203.1 = 12 then (if bt205.2.2.2 = 0 then (if bt205.1 = 2 then (tickinglaw01_awake.j0 k (!(bt205.2.1 == 1) || (!(bt205.2.2.1 == 1)))) else (tickinglaw01_awake.j0 k true)) else (tickinglaw01_awake.j0 k true)) else (tickinglaw01_awake.j0 k true)) else (tickinglaw01_awake.j0 k true)) else (tickinglaw01_awake.j0 k true)) else (tickinglaw01_awake.j0 k true))) else (tickinglaw01_awake.j0 k true))))))) = some r := by first | (rw [hy186]; with_reducible exact H) | (have H2_ := (Option.bind_some _ _).symm.trans H; rw [hy186]; with_reducible exact H2_) | (have H2_ := (Option.bind_some _ _).symm.trans H; with_reducible exact H2_) | with_reducible exact H | (rw [hy186]; exact H) | exact H
  have Ny186 := Aside0.mk hy186
  clear hy186
  replace H := Option.bind_eq_some_iff.mp H
  obtain ⟨⟨t189, t190, t191, t192, t193, t196⟩, A10, H⟩ := H
  replace H : ((some (([(⟨0, 0, 2, 2⟩ : S48), (⟨1, 1, 3, 3⟩ : S48)] : List (S48)) : List (S48))).bind fun y198 => ((cover_Area.f y198).bind fun bt201 => ((cover_Edge.f y198).bind fun bt203 => ((cover_Deepest.f y198).bind fun bt205 => (if t196 = 0 then (if (!(t189 == 24) || (!(t190 == 7) || (!(t191 == 8) || (!(t192 == 625))))) = true then (tickinglaw01_awake.j0 k true) else (if bt201.2 = 0 then (if bt201.1 = 7 then (if bt203.2 = 0 then (if bt203.1 = 12 then (if bt205.2.2.2 = 0 then (if bt205.1 = 2 then (tickinglaw01_awake.j0 k (!(bt205.2.1 == 1) || (!(bt205.2.2.1 == 1)))) else (tickinglaw01_awake.j0 k true)) else (tickinglaw01_awake.j0 k true)) else (tickinglaw01_awake.j0 k true)) else (tickinglaw01_awake.j0 k true)) else (tickinglaw01_awake.j0 k true)) else (tickinglaw01_awake.j0 k true))) else (tickinglaw01_awake.j0 k true)))))) = some r := H
  have A1 := Aside0.mk A10
  clear A10
  obtain ⟨y198, hy198⟩ : ∃ y_ : List (S48), y_ = (([(⟨0, 0, 2, 2⟩ : S48), (⟨1, 1, 3, 3⟩ : S48)] : List (S48))) := ⟨_, rfl⟩
  replace H : ((cover_Area.f y198).bind fun bt201 => ((cover_Edge.f y198).bind fun bt203 => ((cover_Deepest.f y198).bind fun bt205 => (if t196 = 0 then (if (!(t189 == 24) || (!(t190 == 7) || (!(t191 == 8) || (!(t192 == 625))))) = true then (tickinglaw01_awake.j0 k true) else (if bt201.2 = 0 then (if bt201.1 = 7 then (if bt203.2 = 0 then (if bt203.1 = 12 then (if bt205.2.2.2 = 0 then (if bt205.1 = 2 then (tickinglaw01_awake.j0 k (!(bt205.2.1 == 1) || (!(bt205.2.2.1 == 1)))) else (tickinglaw01_awake.j0 k true)) else (tickinglaw01_awake.j0 k true)) else (tickinglaw01_awake.j0 k true)) else (tickinglaw01_awake.j0 k true)) else (tickinglaw01_awake.j0 k true)) else (tickinglaw01_awake.j0 k true))) else (tickinglaw01_awake.j0 k true))))) = some r := by first | (rw [hy198]; with_reducible exact H) | (have H2_ := (Option.bind_some _ _).symm.trans H; rw [hy198]; with_reducible exact H2_) | (have H2_ := (Option.bind_some _ _).symm.trans H; with_reducible exact H2_) | with_reducible exact H | (rw [hy198]; exact H) | exact H
  have Ny198 := Aside0.mk hy198
  clear hy198
  replace H := Option.bind_eq_some_iff.mp H
  obtain ⟨⟨t201, t202⟩, A20, H⟩ := H
  replace H : ((cover_Edge.f y198).bind fun bt203 => ((cover_Deepest.f y198).bind fun bt205 => (if t196 = 0 then (if (!(t189 == 24) || (!(t190 == 7) || (!(t191 == 8) || (!(t192 == 625))))) = true then (tickinglaw01_awake.j0 k true) else (if t202 = 0 then (if t201 = 7 then (if bt203.2 = 0 then (if bt203.1 = 12 then (if bt205.2.2.2 = 0 then (if bt205.1 = 2 then (tickinglaw01_awake.j0 k (!(bt205.2.1 == 1) || (!(bt205.2.2.1 == 1)))) else (tickinglaw01_awake.j0 k true)) else (tickinglaw01_awake.j0 k true)) else (tickinglaw01_awake.j0 k true)) else (tickinglaw01_awake.j0 k true)) else (tickinglaw01_awake.j0 k true)) else (tickinglaw01_awake.j0 k true))) else (tickinglaw01_awake.j0 k true)))) = some r := H
  have A2 := Aside0.mk A20
  clear A20
  replace H := Option.bind_eq_some_iff.mp H
  obtain ⟨⟨t203, t204⟩, A30, H⟩ := H
  replace H : ((cover_Deepest.f y198).bind fun bt205 => (if t196 = 0 then (if (!(t189 == 24) || (!(t190 == 7) || (!(t191 == 8) || (!(t192 == 625))))) = true then (tickinglaw01_awake.j0 k true) else (if t202 = 0 then (if t201 = 7 then (if t204 = 0 then (if t203 = 12 then (if bt205.2.2.2 = 0 then (if bt205.1 = 2 then (tickinglaw01_awake.j0 k (!(bt205.2.1 == 1) || (!(bt205.2.2.1 == 1)))) else (tickinglaw01_awake.j0 k true)) else (tickinglaw01_awake.j0 k true)) else (tickinglaw01_awake.j0 k true)) else (tickinglaw01_awake.j0 k true)) else (tickinglaw01_awake.j0 k true)) else (tickinglaw01_awake.j0 k true))) else (tickinglaw01_awake.j0 k true))) = some r := H
  have A3 := Aside0.mk A30
  clear A30
  replace H := Option.bind_eq_some_iff.mp H
  obtain ⟨⟨t205, t206, t207, t208⟩, A40, H⟩ := H
  replace H : (if t196 = 0 then (if (!(t189 == 24) || (!(t190 == 7) || (!(t191 == 8) || (!(t192 == 625))))) = true then (tickinglaw01_awake.j0 k true) else (if t202 = 0 then (if t201 = 7 then (if t204 = 0 then (if t203 = 12 then (if t208 = 0 then (if t205 = 2 then (tickinglaw01_awake.j0 k (!(t206 == 1) || (!(t207 == 1)))) else (tickinglaw01_awake.j0 k true)) else (tickinglaw01_awake.j0 k true)) else (tickinglaw01_awake.j0 k true)) else (tickinglaw01_awake.j0 k true)) else (tickinglaw01_awake.j0 k true)) else (tickinglaw01_awake.j0 k true))) else (tickinglaw01_awake.j0 k true)) = some r := H
  have A4 := Aside0.mk A40
  clear A40
  have HC5 := Aside0.mk H
  clear H
  go_enter Try.func21, Try.ntmps21
  go_upto_region 6 with (first | ((with_reducible refine gate_dst (N := 16) rfl ?_); refine Kd.R_lit k28 _ 28 ?hg (N := 16) ?hd (xs := ([(⟨0, 0⟩ : S28), (⟨6, 0⟩ : S28), (⟨3, 4⟩ : S28)] : List (S28))) (inner := [.int .i64 0, .int .i64 0, .int .i64 6, .int .i64 0, .int .i64 3, .int .i64 4]) (ok := fun _ => True) (okp := fun _ => True) ?hr ?hp (fun _ hk => hk) trivial (Below.refl _ _) (Nat.le_refl _) (by simp) ?_; (case hd => rfl); (case hg => rfl); (case hr => first | (go_simp; done) | (go_simp; rfl)); (case hp => exact (Reps.c2 (show Kd.M k28 _ _ _ (⟨0, 0⟩ : S28) [.int .i64 0, .int .i64 0] from (k28_mkM _ _ _ (⟨0, 0⟩ : S28) )) (Reps.c2 (show Kd.M k28 _ _ _ (⟨6, 0⟩ : S28) [.int .i64 6, .int .i64 0] from (k28_mkM _ _ _ (⟨6, 0⟩ : S28) )) (Reps.c2 (show Kd.M k28 _ _ _ (⟨3, 4⟩ : S28) [.int .i64 3, .int .i64 4] from (k28_mkM _ _ _ (⟨3, 4⟩ : S28) )) (Reps.none _ _))))); intro v187 w6 ho7 hb hg_ hnew_; clear hg_ hnew_; (first | rw [← Ny186.out] at ho7 | (simp only [Int.reduceToNat] at ho7; rw [← Ny186.out] at ho7)); have n0_ := Aside0.mk (Kd.R_lower ho7 (below_size HBz)); have n1_ := Aside0.mk (below_step HBz hb); clear HB; have HO188 := n0_; have HB := n1_; clear n0_ n1_; clear hb ho7; obtain ⟨Ao8, co8, eo8⟩ := Kd.R_slice HO188.out; subst eo8) | ((with_reducible refine gate_callee (f := 26) rfl ?_); refine goesL_ (some 17) rfl rfl Try.func26 (by kernel_rfl) rfl #[.slice Ao8 y186.length co8] rfl (by (try simp only [List.map_toArray, List.map_cons, List.map_nil]); first | done | rfl | (simp only [List.length_drop, List.length_take]; rfl)) ?_; (with_reducible refine (cover_Enclose.calls _ _ y186 t189 t190 t191 t192 t193 t196 _ ?side1 ?side2 A1.out).mono ?_); (case side1 => repeat (first | exact (Kd.R_reads' HO188.out).2.2 | (with_reducible refine Kd.C_alloc ?_ _) | (with_reducible refine Kd.C_drewN ?_ _) | (with_reducible refine Kd.C_drew ?_))); (case side2 => exact (Kd.R_reads' HO188.out).2.1); rintro e w9 ⟨v194, rfl, ho0, hb⟩; refine ⟨_, rfl, ?_⟩; have n0_ := Aside0.mk (Kd.R_below (by (with_reducible repeat (first | apply Kd.R_alloc | apply Kd.R_drewN | apply Kd.R_drew)); exact HO188.out) hb); have n1_ := Aside0.mk (Kd.R_lower ho0 (below_size HBz)); have n2_ := Aside0.mk (below_step HBz hb); clear HO188; clear HB; have HO188 := n0_; have HO195 := n1_; have HB := n2_; clear n0_ n1_ n2_; (try clear hb); (try clear hb2); (try clear hk); (try clear hi); (try clear ho0)) | ((with_reducible refine gate_dst (N := 1) rfl ?_); refine bxE 1 #[.int .i64 0, .int .i64 0, .int .i64 0, .int .i64 0] 40 ?_; intro gb197 hg w10 hbox hb; have n0_ := Aside0.mk (Kd.R_below (by (with_reducible repeat (first | apply Kd.R_alloc | apply Kd.R_drewN | apply Kd.R_drew)); exact HO188.out) hb); have n1_ := Aside0.mk (Kd.R_below (by (with_reducible repeat (first | apply Kd.R_alloc | apply Kd.R_drewN | apply Kd.R_drew)); exact HO195.out) hb); have n2_ := Aside0.mk (below_step HBz hb); have n3_ := Aside0.mk (hbox); have n4_ := Aside0.mk ((by rw [hg]; exact (below_size HBz) : w.heap.size ≤ gb197)); have n5_ := Aside0.mk ((by rw [hg]; exact (below_size HBz) : w.heap.size ≤ gb197)); clear HO188; clear HO195; clear HB; have HO188 := n0_; have HO195 := n1_; have HB := n2_; have BK197 := n3_; have GW197 := n4_; have GE197 := n5_; clear n0_ n1_ n2_ n3_ n4_ n5_; clear hb hbox hg; have hcz11_0 : w10.cell? ⟨gb197, 0, none⟩ = some (.int .i64 0) := (blk_cell BK197.out 0).trans rfl; have hcz11_1 : w10.cell? ⟨gb197, 1, none⟩ = some (.int .i64 0) := (blk_cell BK197.out 1).trans rfl; have hcz11_2 : w10.cell? ⟨gb197, 2, none⟩ = some (.int .i64 0) := (blk_cell BK197.out 2).trans rfl; have hcz11_3 : w10.cell? ⟨gb197, 3, none⟩ = some (.int .i64 0) := (blk_cell BK197.out 3).trans rfl; have hfz11_0 := blk_frozen BK197.out 0; have hfz11_1 := blk_frozen BK197.out 1; have hfz11_2 := blk_frozen BK197.out 2; have hfz11_3 := blk_frozen BK197.out 3) | ((with_reducible refine gate_dst (N := 23) rfl ?_); refine Kd.R_lit k48 _ 48 ?hg (N := 23) ?hd (xs := ([(⟨0, 0, 2, 2⟩ : S48), (⟨1, 1, 3, 3⟩ : S48)] : List (S48))) (inner := [.int .i64 0, .int .i64 0, .int .i64 2, .int .i64 2, .int .i64 1, .int .i64 1, .int .i64 3, .int .i64 3]) (ok := fun _ => True) (okp := fun _ => True) ?hr ?hp (fun _ hk => hk) trivial (Below.refl _ _) (Nat.le_refl _) (by simp) ?_; (case hd => rfl); (case hg => rfl); (case hr => first | (go_simp; done) | (go_simp; rfl)); (case hp => exact (Reps.c4 (show Kd.M k48 _ _ _ (⟨0, 0, 2, 2⟩ : S48) [.int .i64 0, .int .i64 0, .int .i64 2, .int .i64 2] from (k48_mkM _ _ _ (⟨0, 0, 2, 2⟩ : S48) )) (Reps.c4 (show Kd.M k48 _ _ _ (⟨1, 1, 3, 3⟩ : S48) [.int .i64 1, .int .i64 1, .int .i64 3, .int .i64 3] from (k48_mkM _ _ _ (⟨1, 1, 3, 3⟩ : S48) )) (Reps.none _ _)))); intro v199 w12 ho13 hb hg_ hnew_; clear hg_ hnew_; (first | rw [← Ny198.out] at ho13 | (simp only [Int.reduceToNat] at ho13; rw [← Ny198.out] at ho13)); have n0_ := Aside0.mk (Kd.R_below (by (with_reducible repeat (first | apply Kd.R_alloc | apply Kd.R_drewN | apply Kd.R_drew)); exact (Kd.R_mono (Kd.R_far (p := ⟨gb197, 3, none⟩) (Kd.R_far (p := ⟨gb197, 2, none⟩) (Kd.R_far (p := ⟨gb197, 1, none⟩) (Kd.R_far (p := ⟨gb197, 0, none⟩) (Kd.R_types HO188.out BK197.out (by decide)) (fun _ hk => hk.2) (.int .i64 t189)) (fun _ hk => hk.2) (.int .i64 t190)) (fun _ hk => hk.2) (.int .i64 t191)) (fun _ hk => hk.2) (.int .i64 t192)) (fun _ h_ => h_.1))) hb); have n1_ := Aside0.mk (Kd.R_below (by (with_reducible repeat (first | apply Kd.R_alloc | apply Kd.R_drewN | apply Kd.R_drew)); exact (Kd.R_mono (Kd.R_far (p := ⟨gb197, 3, none⟩) (Kd.R_far (p := ⟨gb197, 2, none⟩) (Kd.R_far (p := ⟨gb197, 1, none⟩) (Kd.R_far (p := ⟨gb197, 0, none⟩) (Kd.R_types HO195.out BK197.out (by decide)) (fun _ hk => hk.2) (.int .i64 t189)) (fun _ hk => hk.2) (.int .i64 t190)) (fun _ hk => hk.2) (.int .i64 t191)) (fun _ hk => hk.2) (.int .i64 t192)) (fun _ h_ => h_.1))) hb); have n2_ := Aside0.mk (Kd.R_lower ho13 (below_size HBz)); have n3_ := Aside0.mk (blk_below (g := gb197) (o := .cells #[.int .i64 t189, .int .i64 t190, .int .i64 t191, .int .i64 t192] 40 (0, 0)) (by (with_reducible repeat (first | refine blk_drewN ?_ _ | refine blk_drew ?_ | refine blk_alloc ?_ _)); refine blk_put (cs := #[.int .i64 t189, .int .i64 t190, .int .i64 t191, .int .i64 0]) ?_ 3 _ rfl; (with_reducible repeat (first | refine blk_drewN ?_ _ | refine blk_drew ?_ | refine blk_alloc ?_ _)); refine blk_put (cs := #[.int .i64 t189, .int .i64 t190, .int .i64 0, .int .i64 0]) ?_ 2 _ rfl; (with_reducible repeat (first | refine blk_drewN ?_ _ | refine blk_drew ?_ | refine blk_alloc ?_ _)); refine blk_put (cs := #[.int .i64 t189, .int .i64 0, .int .i64 0, .int .i64 0]) ?_ 1 _ rfl; (with_reducible repeat (first | refine blk_drewN ?_ _ | refine blk_drew ?_ | refine blk_alloc ?_ _)); refine blk_put (cs := #[.int .i64 0, .int .i64 0, .int .i64 0, .int .i64 0]) ?_ 0 _ rfl; (with_reducible repeat (first | refine blk_drewN ?_ _ | refine blk_drew ?_ | refine blk_alloc ?_ _)); exact BK197.out) hb); have n4_ := Aside0.mk (below_step HBz hb); clear HO188; clear HO195; clear BK197; clear HB; have HO188 := n0_; have HO195 := n1_; have HO200 := n2_; have BK197 := n3_; have HB := n4_; clear n0_ n1_ n2_ n3_ n4_; clear hb ho13; obtain ⟨Ao14, co14, eo14⟩ := Kd.R_slice HO200.out; subst eo14) | ((with_reducible refine gate_callee (f := 17) rfl ?_); refine goesL_ (some 26) rfl rfl Try.func17 (by kernel_rfl) rfl #[.slice Ao14 y198.length co14] rfl (by (try simp only [List.map_toArray, List.map_cons, List.map_nil]); first | done | rfl | (simp only [List.length_drop, List.length_take]; rfl)) ?_; (with_reducible refine (cover_Area.calls _ _ y198 t201 t202 _ ?side1 ?side2 A2.out).mono ?_); (case side1 => repeat (first | exact (Kd.R_reads' HO200.out).2.2 | (with_reducible refine Kd.C_alloc ?_ _) | (with_reducible refine Kd.C_drewN ?_ _) | (with_reducible refine Kd.C_drew ?_))); (case side2 => exact (Kd.R_reads' HO200.out).2.1); rintro e w15 ⟨rfl, hb⟩; refine ⟨_, rfl, ?_⟩; have n0_ := Aside0.mk (Kd.R_below (by (with_reducible repeat (first | apply Kd.R_alloc | apply Kd.R_drewN | apply Kd.R_drew)); exact HO188.out) hb); have n1_ := Aside0.mk (Kd.R_below (by (with_reducible repeat (first | apply Kd.R_alloc | apply Kd.R_drewN | apply Kd.R_drew)); exact HO195.out) hb); have n2_ := Aside0.mk (Kd.R_below (by (with_reducible repeat (first | apply Kd.R_alloc | apply Kd.R_drewN | apply Kd.R_drew)); exact HO200.out) hb); have n3_ := Aside0.mk (blk_below (g := gb197) BKz hb); have n4_ := Aside0.mk (below_step HBz hb); clear HO188; clear HO195; clear HO200; clear BK197; clear HB; have HO188 := n0_; have HO195 := n1_; have HO200 := n2_; have BK197 := n3_; have HB := n4_; clear n0_ n1_ n2_ n3_ n4_; (try clear hb); (try clear hb2); (try clear hk); (try clear hi)) | ((with_reducible refine gate_callee (f := 18) rfl ?_); refine goesL_ (some 31) rfl rfl Try.func18 (by kernel_rfl) rfl #[.slice Ao14 y198.length co14] rfl (by (try simp only [List.map_toArray, List.map_cons, List.map_nil]); first | done | rfl | (simp only [List.length_drop, List.length_take]; rfl)) ?_; (with_reducible refine (cover_Edge.calls _ _ y198 t203 t204 _ ?side1 ?side2 A3.out).mono ?_); (case side1 => repeat (first | exact (Kd.R_reads' HO200.out).2.2 | (with_reducible refine Kd.C_alloc ?_ _) | (with_reducible refine Kd.C_drewN ?_ _) | (with_reducible refine Kd.C_drew ?_))); (case side2 => exact (Kd.R_reads' HO200.out).2.1); rintro e w16 ⟨rfl, hb⟩; refine ⟨_, rfl, ?_⟩; have n0_ := Aside0.mk (Kd.R_below (by (with_reducible repeat (first | apply Kd.R_alloc | apply Kd.R_drewN | apply Kd.R_drew)); exact HO188.out) hb); have n1_ := Aside0.mk (Kd.R_below (by (with_reducible repeat (first | apply Kd.R_alloc | apply Kd.R_drewN | apply Kd.R_drew)); exact HO195.out) hb); have n2_ := Aside0.mk (Kd.R_below (by (with_reducible repeat (first | apply Kd.R_alloc | apply Kd.R_drewN | apply Kd.R_drew)); exact HO200.out) hb); have n3_ := Aside0.mk (blk_below (g := gb197) BKz hb); have n4_ := Aside0.mk (below_step HBz hb); clear HO188; clear HO195; clear HO200; clear BK197; clear HB; have HO188 := n0_; have HO195 := n1_; have HO200 := n2_; have BK197 := n3_; have HB := n4_; clear n0_ n1_ n2_ n3_ n4_; (try clear hb); (try clear hb2); (try clear hk); (try clear hi)) | ((with_reducible refine gate_callee (f := 19) rfl ?_); refine goesL_ (some 36) rfl rfl Try.func19 (by kernel_rfl) rfl #[.slice Ao14 y198.length co14] rfl (by (try simp only [List.map_toArray, List.map_cons, List.map_nil]); first | done | rfl | (simp only [List.length_drop, List.length_take]; rfl)) ?_; (with_reducible refine (cover_Deepest.calls _ _ y198 t205 t206 t207 t208 _ ?side1 ?side2 A4.out).mono ?_); (case side1 => repeat (first | exact (Kd.R_reads' HO200.out).2.2 | (with_reducible refine Kd.C_alloc ?_ _) | (with_reducible refine Kd.C_drewN ?_ _) | (with_reducible refine Kd.C_drew ?_))); (case side2 => exact (Kd.R_reads' HO200.out).2.1); rintro e w17 ⟨rfl, hb⟩; refine ⟨_, rfl, ?_⟩; have n0_ := Aside0.mk (Kd.R_below (by (with_reducible repeat (first | apply Kd.R_alloc | apply Kd.R_drewN | apply Kd.R_drew)); exact HO188.out) hb); have n1_ := Aside0.mk (Kd.R_below (by (with_reducible repeat (first | apply Kd.R_alloc | apply Kd.R_drewN | apply Kd.R_drew)); exact HO195.out) hb); have n2_ := Aside0.mk (Kd.R_below (by (with_reducible repeat (first | apply Kd.R_alloc | apply Kd.R_drewN | apply Kd.R_drew)); exact HO200.out) hb); have n3_ := Aside0.mk (blk_below (g := gb197) BKz hb); have n4_ := Aside0.mk (below_step HBz hb); clear HO188; clear HO195; clear HO200; clear BK197; clear HB; have HO188 := n0_; have HO195 := n1_; have HO200 := n2_; have BK197 := n3_; have HB := n4_; clear n0_ n1_ n2_ n3_ n4_; (try clear hb); (try clear hb2); (try clear hk); (try clear hi)) | ((with_reducible refine gate_dst (N := 10) rfl ?_); refine bxE 10 #[.int .i64 0, .int .i64 0] 28 ?_; intro gb209 hg w18 hbox hb; have n0_ := Aside0.mk (Kd.R_below (Kd.R_elderB (by (with_reducible repeat (first | apply Kd.R_alloc | apply Kd.R_drewN | apply Kd.R_drew)); exact HO188.out) gb209 (Nat.le_of_eq hg.symm)) hb); have n1_ := Aside0.mk (Kd.R_below (by (with_reducible repeat (first | apply Kd.R_alloc | apply Kd.R_drewN | apply Kd.R_drew)); exact HO195.out) hb); have n2_ := Aside0.mk (Kd.R_below (by (with_reducible repeat (first | apply Kd.R_alloc | apply Kd.R_drewN | apply Kd.R_drew)); exact HO200.out) hb); have n3_ := Aside0.mk (blk_below (g := gb197) BKz hb); have n4_ := Aside0.mk (below_step HBz hb); have n5_ := Aside0.mk (hbox); have n6_ := Aside0.mk ((by rw [hg]; exact (below_size HBz) : w.heap.size ≤ gb209)); have n7_ := Aside0.mk ((by rw [hg]; exact (below_size HBz) : w.heap.size ≤ gb209)); have n8_ := Aside0.mk ((by rw [hg]; exact Nat.ne_of_lt (blk_lt (g := gb197) BKz) : gb197 ≠ gb209)); have n9_ := Aside0.mk ((by rw [hg]; exact Nat.ne_of_gt (blk_lt (g := gb197) BKz) : gb209 ≠ gb197)); clear HO188; clear HO195; clear HO200; clear BK197; clear HB; have HO188 := n0_; have HO195 := n1_; have HO200 := n2_; have BK197 := n3_; have HB := n4_; have BK209 := n5_; have GW209 := n6_; have GE209 := n7_; have NB197_209 := n8_; have NB209_197 := n9_; clear n0_ n1_ n2_ n3_ n4_ n5_ n6_ n7_ n8_ n9_; clear hb hbox hg; have hnb19 := NB209_197.out; have hnc19 := NB197_209.out; have hcz20_0 : w18.cell? ⟨gb209, 0, none⟩ = some (.int .i64 0) := (blk_cell BK209.out 0).trans rfl; have hcz20_1 : w18.cell? ⟨gb209, 1, none⟩ = some (.int .i64 0) := (blk_cell BK209.out 1).trans rfl; have hfz20_0 := blk_frozen BK209.out 0; have hfz20_1 := blk_frozen BK209.out 1))
  (try simp only [Act.put, List.setIfInBounds_toArray, List.set_cons_zero, List.set_cons_succ])
  go_cut [75] (fun v75 wc => ∃ (kq : Nat) (x75_4 : Bool), v75 = .bool x75_4 ∧ Aside0 (tickinglaw01_awake.j0 kq x75_4 = some r) ∧ Aside0 (kq ≤ k) ∧ Aside0 (wc.heap[gb197]? = some (.cells #[.int .i64 t189, .int .i64 t190, .int .i64 t191, .int .i64 t192] 40 (0, 0))) ∧ Aside0 (wc.heap[gb209]? = some (.cells #[.int .i64 t206, .int .i64 t207] 28 (0, 0))) ∧ Aside0 (Below w.heap.size w wc))
  case first =>
    have H := HC5.out
    clear HC5
    by_cases c21 : t196 = 0
    · rw [if_pos c21] at H
      have c21b0 : (t196 == 0) = true := beq_iff_eq.mpr c21
      have c21b1 : (t196 != 0) = false := bne_eq_false_iff_eq.mpr c21
      clear c21
      (first | rw [c21b0] | (simp only [i64_w, i32_w]; rw [c21b0]) | skip)
      by_cases c22 : (!(t189 == 24) || (!(t190 == 7) || (!(t191 == 8) || (!(t192 == 625))))) = true
      · rw [if_pos c22] at H
        have c22b0 : (!(t189 == 24) || (!(t190 == 7) || (!(t191 == 8) || (!(t192 == 625))))) = true := c22
        clear c22
        have H' := Aside0.mk H
        clear H
        have hnb23 := NB197_209.out
        have hnc23 := NB209_197.out
        have hcz24_0 : w18.cell? ⟨gb197, 0, none⟩ = some (.int .i64 t189) := (blk_cell BK197.out 0).trans rfl
        have hcz24_1 : w18.cell? ⟨gb197, 1, none⟩ = some (.int .i64 t190) := (blk_cell BK197.out 1).trans rfl
        have hcz24_2 : w18.cell? ⟨gb197, 2, none⟩ = some (.int .i64 t191) := (blk_cell BK197.out 2).trans rfl
        have hcz24_3 : w18.cell? ⟨gb197, 3, none⟩ = some (.int .i64 t192) := (blk_cell BK197.out 3).trans rfl
        have hfz24_0 := blk_frozen BK197.out 0
        have hfz24_1 := blk_frozen BK197.out 1
        have hfz24_2 := blk_frozen BK197.out 2
        have hfz24_3 := blk_frozen BK197.out 3
        go_wp2
        go_meet
        case rel => exact ⟨_, (true), (by first | rfl | (simp; done) | (simp [*]; done)), H', ⟨by first | omega | exact Nat.le_refl _⟩, ⟨by (with_reducible repeat (first | refine blk_drewN ?_ _ | refine blk_drew ?_ | refine blk_alloc ?_ _)); refine blk_far ?_ NB197_209.out _; (with_reducible repeat (first | refine blk_drewN ?_ _ | refine blk_drew ?_ | refine blk_alloc ?_ _)); refine blk_far ?_ NB197_209.out _; (with_reducible repeat (first | refine blk_drewN ?_ _ | refine blk_drew ?_ | refine blk_alloc ?_ _)); exact BK197.out⟩, ⟨by (with_reducible repeat (first | refine blk_drewN ?_ _ | refine blk_drew ?_ | refine blk_alloc ?_ _)); refine blk_put (cs := #[.int .i64 t206, .int .i64 0]) ?_ 1 _ rfl; (with_reducible repeat (first | refine blk_drewN ?_ _ | refine blk_drew ?_ | refine blk_alloc ?_ _)); refine blk_put (cs := #[.int .i64 0, .int .i64 0]) ?_ 0 _ rfl; (with_reducible repeat (first | refine blk_drewN ?_ _ | refine blk_drew ?_ | refine blk_alloc ?_ _)); exact BK209.out⟩, ⟨HBz⟩⟩
      · rw [if_neg c22] at H
        have c22b0 : (!(t189 == 24) || (!(t190 == 7) || (!(t191 == 8) || (!(t192 == 625))))) = false := by simpa using c22
        clear c22
        by_cases c25 : t202 = 0
        · rw [if_pos c25] at H
          have c25b0 : (t202 == 0) = true := beq_iff_eq.mpr c25
          have c25b1 : (t202 != 0) = false := bne_eq_false_iff_eq.mpr c25
          clear c25
          by_cases c26 : t201 = 7
          · rw [if_pos c26] at H
            have c26b0 : (t201 == 7) = true := beq_iff_eq.mpr c26
            have c26b1 : (t201 != 7) = false := bne_eq_false_iff_eq.mpr c26
            clear c26
            by_cases c27 : t204 = 0
            · rw [if_pos c27] at H
              have c27b0 : (t204 == 0) = true := beq_iff_eq.mpr c27
              have c27b1 : (t204 != 0) = false := bne_eq_false_iff_eq.mpr c27
              clear c27
              by_cases c28 : t203 = 12
              · rw [if_pos c28] at H
                have c28b0 : (t203 == 12) = true := beq_iff_eq.mpr c28
                have c28b1 : (t203 != 12) = false := bne_eq_false_iff_eq.mpr c28
                clear c28
                by_cases c29 : t208 = 0
                · rw [if_pos c29] at H
                  have c29b0 : (t208 == 0) = true := beq_iff_eq.mpr c29
                  have c29b1 : (t208 != 0) = false := bne_eq_false_iff_eq.mpr c29
                  clear c29
                  by_cases c30 : t205 = 2
                  · rw [if_pos c30] at H
                    have c30b0 : (t205 == 2) = true := beq_iff_eq.mpr c30
                    have c30b1 : (t205 != 2) = false := bne_eq_false_iff_eq.mpr c30
                    clear c30
                    have H' := Aside0.mk H
                    clear H
                    have hnb31 := NB197_209.out
                    have hnc31 := NB209_197.out
                    have hcz32_0 : w18.cell? ⟨gb197, 0, none⟩ = some (.int .i64 t189) := (blk_cell BK197.out 0).trans rfl
                    have hcz32_1 : w18.cell? ⟨gb197, 1, none⟩ = some (.int .i64 t190) := (blk_cell BK197.out 1).trans rfl
                    have hcz32_2 : w18.cell? ⟨gb197, 2, none⟩ = some (.int .i64 t191) := (blk_cell BK197.out 2).trans rfl
                    have hcz32_3 : w18.cell? ⟨gb197, 3, none⟩ = some (.int .i64 t192) := (blk_cell BK197.out 3).trans rfl
                    have hfz32_0 := blk_frozen BK197.out 0
                    have hfz32_1 := blk_frozen BK197.out 1
                    have hfz32_2 := blk_frozen BK197.out 2
                    have hfz32_3 := blk_frozen BK197.out 3
                    have hcz33_0 : w18.cell? ⟨gb209, 0, none⟩ = some (.int .i64 0) := (blk_cell BK209.out 0).trans rfl
                    have hcz33_1 : w18.cell? ⟨gb209, 1, none⟩ = some (.int .i64 0) := (blk_cell BK209.out 1).trans rfl
                    have hfz33_0 := blk_frozen BK209.out 0
                    have hfz33_1 := blk_frozen BK209.out 1
                    go_wp2
                    go_meet
                    case rel => exact ⟨_, ((!(t206 == 1) || (!(t207 == 1)))), (by first | rfl | (simp; done) | (simp [*]; done)), H', ⟨by first | omega | exact Nat.le_refl _⟩, ⟨by (with_reducible repeat (first | refine blk_drewN ?_ _ | refine blk_drew ?_ | refine blk_alloc ?_ _)); refine blk_far ?_ NB197_209.out _; (with_reducible repeat (first | refine blk_drewN ?_ _ | refine blk_drew ?_ | refine blk_alloc ?_ _)); refine blk_far ?_ NB197_209.out _; (with_reducible repeat (first | refine blk_drewN ?_ _ | refine blk_drew ?_ | refine blk_alloc ?_ _)); exact BK197.out⟩, ⟨by (with_reducible repeat (first | refine blk_drewN ?_ _ | refine blk_drew ?_ | refine blk_alloc ?_ _)); refine blk_put (cs := #[.int .i64 t206, .int .i64 0]) ?_ 1 _ rfl; (with_reducible repeat (first | refine blk_drewN ?_ _ | refine blk_drew ?_ | refine blk_alloc ?_ _)); refine blk_put (cs := #[.int .i64 0, .int .i64 0]) ?_ 0 _ rfl; (with_reducible repeat (first | refine blk_drewN ?_ _ | refine blk_drew ?_ | refine blk_alloc ?_ _)); exact BK209.out⟩, ⟨HBz⟩⟩
                  · rw [if_neg c30] at H
                    have c30b0 : (t205 == 2) = false := beq_eq_false_iff_ne.mpr c30
                    have c30b1 : (t205 != 2) = true := bne_iff_ne.mpr c30
                    have H' := Aside0.mk H
                    clear H
                    have hnb34 := NB197_209.out
                    have hnc34 := NB209_197.out
                    have hcz35_0 : w18.cell? ⟨gb197, 0, none⟩ = some (.int .i64 t189) := (blk_cell BK197.out 0).trans rfl
                    have hcz35_1 : w18.cell? ⟨gb197, 1, none⟩ = some (.int .i64 t190) := (blk_cell BK197.out 1).trans rfl
                    have hcz35_2 : w18.cell? ⟨gb197, 2, none⟩ = some (.int .i64 t191) := (blk_cell BK197.out 2).trans rfl
                    have hcz35_3 : w18.cell? ⟨gb197, 3, none⟩ = some (.int .i64 t192) := (blk_cell BK197.out 3).trans rfl
                    have hfz35_0 := blk_frozen BK197.out 0
                    have hfz35_1 := blk_frozen BK197.out 1
                    have hfz35_2 := blk_frozen BK197.out 2
                    have hfz35_3 := blk_frozen BK197.out 3
                    go_wp2
                    go_meet
                    case rel => exact ⟨_, (true), (by first | rfl | (simp; done) | (simp [*]; done)), H', ⟨by first | omega | exact Nat.le_refl _⟩, ⟨by (with_reducible repeat (first | refine blk_drewN ?_ _ | refine blk_drew ?_ | refine blk_alloc ?_ _)); refine blk_far ?_ NB197_209.out _; (with_reducible repeat (first | refine blk_drewN ?_ _ | refine blk_drew ?_ | refine blk_alloc ?_ _)); refine blk_far ?_ NB197_209.out _; (with_reducible repeat (first | refine blk_drewN ?_ _ | refine blk_drew ?_ | refine blk_alloc ?_ _)); exact BK197.out⟩, ⟨by (with_reducible repeat (first | refine blk_drewN ?_ _ | refine blk_drew ?_ | refine blk_alloc ?_ _)); refine blk_put (cs := #[.int .i64 t206, .int .i64 0]) ?_ 1 _ rfl; (with_reducible repeat (first | refine blk_drewN ?_ _ | refine blk_drew ?_ | refine blk_alloc ?_ _)); refine blk_put (cs := #[.int .i64 0, .int .i64 0]) ?_ 0 _ rfl; (with_reducible repeat (first | refine blk_drewN ?_ _ | refine blk_drew ?_ | refine blk_alloc ?_ _)); exact BK209.out⟩, ⟨HBz⟩⟩
                · rw [if_neg c29] at H
                  have c29b0 : (t208 == 0) = false := beq_eq_false_iff_ne.mpr c29
                  have c29b1 : (t208 != 0) = true := bne_iff_ne.mpr c29
                  have H' := Aside0.mk H
                  clear H
                  have hnb36 := NB197_209.out
                  have hnc36 := NB209_197.out
                  have hcz37_0 : w18.cell? ⟨gb197, 0, none⟩ = some (.int .i64 t189) := (blk_cell BK197.out 0).trans rfl
                  have hcz37_1 : w18.cell? ⟨gb197, 1, none⟩ = some (.int .i64 t190) := (blk_cell BK197.out 1).trans rfl
                  have hcz37_2 : w18.cell? ⟨gb197, 2, none⟩ = some (.int .i64 t191) := (blk_cell BK197.out 2).trans rfl
                  have hcz37_3 : w18.cell? ⟨gb197, 3, none⟩ = some (.int .i64 t192) := (blk_cell BK197.out 3).trans rfl
                  have hfz37_0 := blk_frozen BK197.out 0
                  have hfz37_1 := blk_frozen BK197.out 1
                  have hfz37_2 := blk_frozen BK197.out 2
                  have hfz37_3 := blk_frozen BK197.out 3
                  go_wp2
                  go_meet
                  case rel => exact ⟨_, (true), (by first | rfl | (simp; done) | (simp [*]; done)), H', ⟨by first | omega | exact Nat.le_refl _⟩, ⟨by (with_reducible repeat (first | refine blk_drewN ?_ _ | refine blk_drew ?_ | refine blk_alloc ?_ _)); refine blk_far ?_ NB197_209.out _; (with_reducible repeat (first | refine blk_drewN ?_ _ | refine blk_drew ?_ | refine blk_alloc ?_ _)); refine blk_far ?_ NB197_209.out _; (with_reducible repeat (first | refine blk_drewN ?_ _ | refine blk_drew ?_ | refine blk_alloc ?_ _)); exact BK197.out⟩, ⟨by (with_reducible repeat (first | refine blk_drewN ?_ _ | refine blk_drew ?_ | refine blk_alloc ?_ _)); refine blk_put (cs := #[.int .i64 t206, .int .i64 0]) ?_ 1 _ rfl; (with_reducible repeat (first | refine blk_drewN ?_ _ | refine blk_drew ?_ | refine blk_alloc ?_ _)); refine blk_put (cs := #[.int .i64 0, .int .i64 0]) ?_ 0 _ rfl; (with_reducible repeat (first | refine blk_drewN ?_ _ | refine blk_drew ?_ | refine blk_alloc ?_ _)); exact BK209.out⟩, ⟨HBz⟩⟩
              · rw [if_neg c28] at H
                have c28b0 : (t203 == 12) = false := beq_eq_false_iff_ne.mpr c28
                have c28b1 : (t203 != 12) = true := bne_iff_ne.mpr c28
                have H' := Aside0.mk H
                clear H
                have hnb38 := NB197_209.out
                have hnc38 := NB209_197.out
                have hcz39_0 : w18.cell? ⟨gb197, 0, none⟩ = some (.int .i64 t189) := (blk_cell BK197.out 0).trans rfl
                have hcz39_1 : w18.cell? ⟨gb197, 1, none⟩ = some (.int .i64 t190) := (blk_cell BK197.out 1).trans rfl
                have hcz39_2 : w18.cell? ⟨gb197, 2, none⟩ = some (.int .i64 t191) := (blk_cell BK197.out 2).trans rfl
                have hcz39_3 : w18.cell? ⟨gb197, 3, none⟩ = some (.int .i64 t192) := (blk_cell BK197.out 3).trans rfl
                have hfz39_0 := blk_frozen BK197.out 0
                have hfz39_1 := blk_frozen BK197.out 1
                have hfz39_2 := blk_frozen BK197.out 2
                have hfz39_3 := blk_frozen BK197.out 3
                go_wp2
                go_meet
                case rel => exact ⟨_, (true), (by first | rfl | (simp; done) | (simp [*]; done)), H', ⟨by first | omega | exact Nat.le_refl _⟩, ⟨by (with_reducible repeat (first | refine blk_drewN ?_ _ | refine blk_drew ?_ | refine blk_alloc ?_ _)); refine blk_far ?_ NB197_209.out _; (with_reducible repeat (first | refine blk_drewN ?_ _ | refine blk_drew ?_ | refine blk_alloc ?_ _)); refine blk_far ?_ NB197_209.out _; (with_reducible repeat (first | refine blk_drewN ?_ _ | refine blk_drew ?_ | refine blk_alloc ?_ _)); exact BK197.out⟩, ⟨by (with_reducible repeat (first | refine blk_drewN ?_ _ | refine blk_drew ?_ | refine blk_alloc ?_ _)); refine blk_put (cs := #[.int .i64 t206, .int .i64 0]) ?_ 1 _ rfl; (with_reducible repeat (first | refine blk_drewN ?_ _ | refine blk_drew ?_ | refine blk_alloc ?_ _)); refine blk_put (cs := #[.int .i64 0, .int .i64 0]) ?_ 0 _ rfl; (with_reducible repeat (first | refine blk_drewN ?_ _ | refine blk_drew ?_ | refine blk_alloc ?_ _)); exact BK209.out⟩, ⟨HBz⟩⟩
            · rw [if_neg c27] at H
              have c27b0 : (t204 == 0) = false := beq_eq_false_iff_ne.mpr c27
              have c27b1 : (t204 != 0) = true := bne_iff_ne.mpr c27
              have H' := Aside0.mk H
              clear H
              have hnb40 := NB197_209.out
              have hnc40 := NB209_197.out
              have hcz41_0 : w18.cell? ⟨gb197, 0, none⟩ = some (.int .i64 t189) := (blk_cell BK197.out 0).trans rfl
              have hcz41_1 : w18.cell? ⟨gb197, 1, none⟩ = some (.int .i64 t190) := (blk_cell BK197.out 1).trans rfl
              have hcz41_2 : w18.cell? ⟨gb197, 2, none⟩ = some (.int .i64 t191) := (blk_cell BK197.out 2).trans rfl
              have hcz41_3 : w18.cell? ⟨gb197, 3, none⟩ = some (.int .i64 t192) := (blk_cell BK197.out 3).trans rfl
              have hfz41_0 := blk_frozen BK197.out 0
              have hfz41_1 := blk_frozen BK197.out 1
              have hfz41_2 := blk_frozen BK197.out 2
              have hfz41_3 := blk_frozen BK197.out 3
              go_wp2
              go_meet
              case rel => exact ⟨_, (true), (by first | rfl | (simp; done) | (simp [*]; done)), H', ⟨by first | omega | exact Nat.le_refl _⟩, ⟨by (with_reducible repeat (first | refine blk_drewN ?_ _ | refine blk_drew ?_ | refine blk_alloc ?_ _)); refine blk_far ?_ NB197_209.out _; (with_reducible repeat (first | refine blk_drewN ?_ _ | refine blk_drew ?_ | refine blk_alloc ?_ _)); refine blk_far ?_ NB197_209.out _; (with_reducible repeat (first | refine blk_drewN ?_ _ | refine blk_drew ?_ | refine blk_alloc ?_ _)); exact BK197.out⟩, ⟨by (with_reducible repeat (first | refine blk_drewN ?_ _ | refine blk_drew ?_ | refine blk_alloc ?_ _)); refine blk_put (cs := #[.int .i64 t206, .int .i64 0]) ?_ 1 _ rfl; (with_reducible repeat (first | refine blk_drewN ?_ _ | refine blk_drew ?_ | refine blk_alloc ?_ _)); refine blk_put (cs := #[.int .i64 0, .int .i64 0]) ?_ 0 _ rfl; (with_reducible repeat (first | refine blk_drewN ?_ _ | refine blk_drew ?_ | refine blk_alloc ?_ _)); exact BK209.out⟩, ⟨HBz⟩⟩
          · rw [if_neg c26] at H
            have c26b0 : (t201 == 7) = false := beq_eq_false_iff_ne.mpr c26
            have c26b1 : (t201 != 7) = true := bne_iff_ne.mpr c26
            have H' := Aside0.mk H
            clear H
            have hnb42 := NB197_209.out
            have hnc42 := NB209_197.out
            have hcz43_0 : w18.cell? ⟨gb197, 0, none⟩ = some (.int .i64 t189) := (blk_cell BK197.out 0).trans rfl
            have hcz43_1 : w18.cell? ⟨gb197, 1, none⟩ = some (.int .i64 t190) := (blk_cell BK197.out 1).trans rfl
            have hcz43_2 : w18.cell? ⟨gb197, 2, none⟩ = some (.int .i64 t191) := (blk_cell BK197.out 2).trans rfl
            have hcz43_3 : w18.cell? ⟨gb197, 3, none⟩ = some (.int .i64 t192) := (blk_cell BK197.out 3).trans rfl
            have hfz43_0 := blk_frozen BK197.out 0
            have hfz43_1 := blk_frozen BK197.out 1
            have hfz43_2 := blk_frozen BK197.out 2
            have hfz43_3 := blk_frozen BK197.out 3
            go_wp2
            go_meet
            case rel => exact ⟨_, (true), (by first | rfl | (simp; done) | (simp [*]; done)), H', ⟨by first | omega | exact Nat.le_refl _⟩, ⟨by (with_reducible repeat (first | refine blk_drewN ?_ _ | refine blk_drew ?_ | refine blk_alloc ?_ _)); refine blk_far ?_ NB197_209.out _; (with_reducible repeat (first | refine blk_drewN ?_ _ | refine blk_drew ?_ | refine blk_alloc ?_ _)); refine blk_far ?_ NB197_209.out _; (with_reducible repeat (first | refine blk_drewN ?_ _ | refine blk_drew ?_ | refine blk_alloc ?_ _)); exact BK197.out⟩, ⟨by (with_reducible repeat (first | refine blk_drewN ?_ _ | refine blk_drew ?_ | refine blk_alloc ?_ _)); refine blk_put (cs := #[.int .i64 t206, .int .i64 0]) ?_ 1 _ rfl; (with_reducible repeat (first | refine blk_drewN ?_ _ | refine blk_drew ?_ | refine blk_alloc ?_ _)); refine blk_put (cs := #[.int .i64 0, .int .i64 0]) ?_ 0 _ rfl; (with_reducible repeat (first | refine blk_drewN ?_ _ | refine blk_drew ?_ | refine blk_alloc ?_ _)); exact BK209.out⟩, ⟨HBz⟩⟩
        · rw [if_neg c25] at H
          have c25b0 : (t202 == 0) = false := beq_eq_false_iff_ne.mpr c25
          have c25b1 : (t202 != 0) = true := bne_iff_ne.mpr c25
          have H' := Aside0.mk H
          clear H
          have hnb44 := NB197_209.out
          have hnc44 := NB209_197.out
          have hcz45_0 : w18.cell? ⟨gb197, 0, none⟩ = some (.int .i64 t189) := (blk_cell BK197.out 0).trans rfl
          have hcz45_1 : w18.cell? ⟨gb197, 1, none⟩ = some (.int .i64 t190) := (blk_cell BK197.out 1).trans rfl
          have hcz45_2 : w18.cell? ⟨gb197, 2, none⟩ = some (.int .i64 t191) := (blk_cell BK197.out 2).trans rfl
          have hcz45_3 : w18.cell? ⟨gb197, 3, none⟩ = some (.int .i64 t192) := (blk_cell BK197.out 3).trans rfl
          have hfz45_0 := blk_frozen BK197.out 0
          have hfz45_1 := blk_frozen BK197.out 1
          have hfz45_2 := blk_frozen BK197.out 2
          have hfz45_3 := blk_frozen BK197.out 3
          go_wp2
          go_meet
          case rel => exact ⟨_, (true), (by first | rfl | (simp; done) | (simp [*]; done)), H', ⟨by first | omega | exact Nat.le_refl _⟩, ⟨by (with_reducible repeat (first | refine blk_drewN ?_ _ | refine blk_drew ?_ | refine blk_alloc ?_ _)); refine blk_far ?_ NB197_209.out _; (with_reducible repeat (first | refine blk_drewN ?_ _ | refine blk_drew ?_ | refine blk_alloc ?_ _)); refine blk_far ?_ NB197_209.out _; (with_reducible repeat (first | refine blk_drewN ?_ _ | refine blk_drew ?_ | refine blk_alloc ?_ _)); exact BK197.out⟩, ⟨by (with_reducible repeat (first | refine blk_drewN ?_ _ | refine blk_drew ?_ | refine blk_alloc ?_ _)); refine blk_put (cs := #[.int .i64 t206, .int .i64 0]) ?_ 1 _ rfl; (with_reducible repeat (first | refine blk_drewN ?_ _ | refine blk_drew ?_ | refine blk_alloc ?_ _)); refine blk_put (cs := #[.int .i64 0, .int .i64 0]) ?_ 0 _ rfl; (with_reducible repeat (first | refine blk_drewN ?_ _ | refine blk_drew ?_ | refine blk_alloc ?_ _)); exact BK209.out⟩, ⟨HBz⟩⟩
    · rw [if_neg c21] at H
      have c21b0 : (t196 == 0) = false := beq_eq_false_iff_ne.mpr c21
      have c21b1 : (t196 != 0) = true := bne_iff_ne.mpr c21
      (first | rw [c21b0] | (simp only [i64_w, i32_w]; rw [c21b0]) | skip)
      have H' := Aside0.mk H
      clear H
      go_wp2
      go_meet
      case rel => exact ⟨_, (true), (by first | rfl | (simp; done) | (simp [*]; done)), H', ⟨by first | omega | exact Nat.le_refl _⟩, ⟨by (with_reducible repeat (first | refine blk_drewN ?_ _ | refine blk_drew ?_ | refine blk_alloc ?_ _)); refine blk_far ?_ NB197_209.out _; (with_reducible repeat (first | refine blk_drewN ?_ _ | refine blk_drew ?_ | refine blk_alloc ?_ _)); refine blk_far ?_ NB197_209.out _; (with_reducible repeat (first | refine blk_drewN ?_ _ | refine blk_drew ?_ | refine blk_alloc ?_ _)); exact BK197.out⟩, ⟨by (with_reducible repeat (first | refine blk_drewN ?_ _ | refine blk_drew ?_ | refine blk_alloc ?_ _)); refine blk_put (cs := #[.int .i64 t206, .int .i64 0]) ?_ 1 _ rfl; (with_reducible repeat (first | refine blk_drewN ?_ _ | refine blk_drew ?_ | refine blk_alloc ?_ _)); refine blk_put (cs := #[.int .i64 0, .int .i64 0]) ?_ 0 _ rfl; (with_reducible repeat (first | refine blk_drewN ?_ _ | refine blk_drew ?_ | refine blk_alloc ?_ _)); exact BK209.out⟩, ⟨HBz⟩⟩
  case rest =>
    clear HC5
    try clear c1
    try clear c2
    try clear p2
    try clear c3
    try clear c4
    try clear c17
    try clear c18
    try clear c19
    try clear c21
    try clear c21b0
    try clear c21b1
    try clear c22
    try clear c22b0
    try clear c23
    try clear c25
    try clear c25b0
    try clear c25b1
    try clear c26
    try clear c26b0
    try clear c26b1
    try clear c27
    try clear c27b0
    try clear c27b1
    try clear c28
    try clear c28b0
    try clear c28b1
    try clear c29
    try clear c29b0
    try clear c29b1
    try clear c30
    try clear c30b0
    try clear c30b1
    try clear c31
    try clear c34
    try clear c36
    try clear c38
    try clear c40
    try clear c42
    try clear c44
    try clear hcz11_0
    try clear hcz11_1
    try clear hcz11_2
    try clear hcz11_3
    try clear hcz20_0
    try clear hcz20_1
    try clear hcz24_0
    try clear hcz24_1
    try clear hcz24_2
    try clear hcz24_3
    try clear hcz32_0
    try clear hcz32_1
    try clear hcz32_2
    try clear hcz32_3
    try clear hcz33_0
    try clear hcz33_1
    try clear hcz35_0
    try clear hcz35_1
    try clear hcz35_2
    try clear hcz35_3
    try clear hcz37_0
    try clear hcz37_1
    try clear hcz37_2
    try clear hcz37_3
    try clear hcz39_0
    try clear hcz39_1
    try clear hcz39_2
    try clear hcz39_3
    try clear hcz41_0
    try clear hcz41_1
    try clear hcz41_2
    try clear hcz41_3
    try clear hcz43_0
    try clear hcz43_1
    try clear hcz43_2
    try clear hcz43_3
    try clear hcz45_0
    try clear hcz45_1
    try clear hcz45_2
    try clear hcz45_3
    try clear hfz11_0
    try clear hfz11_1
    try clear hfz11_2
    try clear hfz11_3
    try clear hfz20_0
    try clear hfz20_1
    try clear hfz24_0
    try clear hfz24_1
    try clear hfz24_2
    try clear hfz24_3
    try clear hfz32_0
    try clear hfz32_1
    try clear hfz32_2
    try clear hfz32_3
    try clear hfz33_0
    try clear hfz33_1
    try clear hfz35_0
    try clear hfz35_1
    try clear hfz35_2
    try clear hfz35_3
    try clear hfz37_0
    try clear hfz37_1
    try clear hfz37_2
    try clear hfz37_3
    try clear hfz39_0
    try clear hfz39_1
    try clear hfz39_2
    try clear hfz39_3
    try clear hfz41_0
    try clear hfz41_1
    try clear hfz41_2
    try clear hfz41_3
    try clear hfz43_0
    try clear hfz43_1
    try clear hfz43_2
    try clear hfz43_3
    try clear hfz45_0
    try clear hfz45_1
    try clear hfz45_2
    try clear hfz45_3
    obtain ⟨kq, x75_4, rfl, HA, HJ4, BK197, BK209, HB⟩ := hcut
    cases kq with
    | zero => exact absurd HA.out (by simp [tickinglaw01_awake.j0])
    | succ kj4 =>
      have H := HA.out
      clear HA
      simp only [tickinglaw01_awake.j0] at H
      by_cases c46 : x75_4 = true
      · subst c46
        have H1 : (some false) = some r := by rw [if_pos rfl] at H; exact H
        clear H
        have H := H1
        clear H1
        obtain rfl := Option.some.inj H
        go_wp2
        go_ret
        exact ⟨by first | rfl | (simp [errW_none, errW_some] <;> rfl) | (simp [*, errW_none, errW_some] <;> rfl), HBz⟩
      · replace c46 := Bool.eq_false_iff.mpr c46
        subst c46
        have H1 : (some true) = some r := by rw [if_neg (show ¬ (false = true) by decide)] at H; exact H
        clear H
        have H := H1
        clear H1
        obtain rfl := Option.some.inj H
        go_wp2
        go_ret
        exact ⟨by first | rfl | (simp [errW_none, errW_some] <;> rfl) | (simp [*, errW_none, errW_some] <;> rfl), HBz⟩
def tickingref01_Depth.l0 : Nat → List (S48) → Int → Int → Int → Int → Option (Int)
  | 0, _, _, _, _, _ => none
  | k + 1, x0, x1, x2, x7, x8 => if x8 < (x0.length : Int) then (if 0 ≤ x8 then (if ((rd_T48 x0 x8).f0) ≤ x1 then (if x1 < ((rd_T48 x0 x8).f2) then (if ((rd_T48 x0 x8).f1) ≤ x2 then (if x2 < ((rd_T48 x0 x8).f3) then (tickingref01_Depth.l0 k x0 x1 x2 (wrap64 (x7 + 1)) (wrap64 (x8 + 1))) else (tickingref01_Depth.l0 k x0 x1 x2 x7 (wrap64 (x8 + 1)))) else (tickingref01_Depth.l0 k x0 x1 x2 x7 (wrap64 (x8 + 1)))) else (tickingref01_Depth.l0 k x0 x1 x2 x7 (wrap64 (x8 + 1)))) else (tickingref01_Depth.l0 k x0 x1 x2 x7 (wrap64 (x8 + 1)))) else (none)) else (some x7)
def tickingref01_Depth.f (k : Nat) (l0 : List (S48)) (a1 : Int) (a2 : Int) : Option (Int) := tickingref01_Depth.l0 k l0 a1 a2 0 0
theorem tickingref01_Depth.mono_l : ∀ k, (∀ y0 y1 y2 y3 y4, LeO (tickingref01_Depth.l0 k y0 y1 y2 y3 y4) (tickingref01_Depth.l0 (k + 1) y0 y1 y2 y3 y4))
  | 0 => fun _ _ _ _ _ r h => by simp [tickingref01_Depth.l0] at h
  | k + 1 => by
    have ih0 := tickingref01_Depth.mono_l k
    · intro y0 y1 y2 y3 y4
      unfold tickingref01_Depth.l0
      repeat' first
      | (with_reducible exact ih0 _ _ _ _ _)
      | (with_reducible exact LeO.refl _)
      | (with_reducible exact LeO.none _)
      | (with_reducible refine LeO.ite ?_ ?_)
      | (with_reducible refine LeO.bind ?_ (fun _ => ?_))
      | exact ih0 _ _ _ _ _
      | exact LeO.none _
      | refine LeO.ite ?_ ?_
      | refine LeO.bind ?_ (fun _ => ?_)
theorem tickingref01_Depth.mono : ∀ a0 a1 a2 k, LeO (tickingref01_Depth.f k a0 a1 a2) (tickingref01_Depth.f (k + 1) a0 a1 a2) := by
  intro a0 a1 a2 k
  have ih0 := tickingref01_Depth.mono_l k
  unfold tickingref01_Depth.f
  repeat' first
      | (with_reducible exact ih0 _ _ _ _ _)
      | (with_reducible exact LeO.refl _)
      | (with_reducible exact LeO.none _)
      | (with_reducible refine LeO.ite ?_ ?_)
      | (with_reducible refine LeO.bind ?_ (fun _ => ?_))
      | exact ih0 _ _ _ _ _
      | exact LeO.none _
      | refine LeO.ite ?_ ?_
      | refine LeO.bind ?_ (fun _ => ?_)
set_option maxHeartbeats 8000000 in
set_option maxRecDepth 100000 in
theorem tickingref01_Depth.calls (k : Nat) (A0 : Option Addr) (c0 : Nat) (l0 : List (S48)) (a1 : Int) (a2 : Int) (r : Int) (w : World) (hr0 : Kd.C k48 w A0 l0.length l0) (hc0 : l0.length ≤ c0) (h : tickingref01_Depth.f k l0 a1 a2 = some r) :
    Calls Try.prog 30 #[.slice A0 l0.length c0, .int .i64 a1, .int .i64 a2] w fun e w' => e = .returned (.int .i64 r) ∧ Drawn0 w w' := by
  have HR0 := Aside0.mk hr0
  have HC0 := Aside0.mk hc0
  clear hr0 hc0
  have H : (tickingref01_Depth.l0 k l0 a1 a2 0 0) = some r := h
  clear h
  have H' := Aside0.mk H
  clear H
  go_enter Try.func30, Try.ntmps30
  go_wp2
  go_loopg [7, 8] k (fun kq v7 v8 w' => ∃ (x7_1 : Int) (x8_1 : Int), v7 = .int .i64 x7_1 ∧ v8 = .int .i64 x8_1 ∧ Aside0 (tickingref01_Depth.l0 kq l0 a1 a2 x7_1 x8_1 = some r) ∧ Aside0 (kq ≤ k) ∧ Drawn0 w w')
  case atStart => exact ⟨(0), (0), (by first | rfl | (simp; done) | (simp [*]; done)), (by first | rfl | (simp; done) | (simp [*]; done)), H', ⟨Nat.le_refl _⟩, by repeat (first | exact Drawn0.refl _ | apply Drawn0.step)⟩
  case round =>
    clear H'
    try clear p2
    try clear c3
    obtain ⟨x7_1, x8_1, rfl, rfl, HA, HK1, ⟨m1, rfl⟩⟩ := hrel
    cases gk with
    | zero => exact absurd HA.out (by simp [tickingref01_Depth.l0])
    | succ k1 =>
      have H := HA.out
      clear HA
      simp only [tickingref01_Depth.l0] at H
      by_cases c4 : x8_1 < (l0.length : Int)
      · rw [if_pos c4] at H
        have c4b0 : decide (x8_1 < (l0.length : Int)) = true := decide_eq_true c4
        clear c4
        by_cases c5 : 0 ≤ x8_1
        · rw [if_pos c5] at H
          have c5b0 : decide (0 ≤ x8_1) = true := decide_eq_true c5
          clear c5
          by_cases c6 : ((rd_T48 l0 x8_1).f0) ≤ a1
          · rw [if_pos c6] at H
            have c6b0 : decide (((rd_T48 l0 x8_1).f0) ≤ a1) = true := decide_eq_true c6
            clear c6
            by_cases c7 : a1 < ((rd_T48 l0 x8_1).f2)
            · rw [if_pos c7] at H
              have c7b0 : decide (a1 < ((rd_T48 l0 x8_1).f2)) = true := decide_eq_true c7
              clear c7
              by_cases c8 : ((rd_T48 l0 x8_1).f1) ≤ a2
              · rw [if_pos c8] at H
                have c8b0 : decide (((rd_T48 l0 x8_1).f1) ≤ a2) = true := decide_eq_true c8
                clear c8
                by_cases c9 : a2 < ((rd_T48 l0 x8_1).f3)
                · rw [if_pos c9] at H
                  have c9b0 : decide (a2 < ((rd_T48 l0 x8_1).f3)) = true := decide_eq_true c9
                  clear c9
                  have H' := Aside0.mk H
                  clear H
                  have p210 : 0 ≤ (x8_1 : Int) := of_decide_eq_true (by first | (with_reducible assumption) | assumption)
                  have q210 : x8_1 < (l0.length : Int) := of_decide_eq_true (by first | (with_reducible assumption) | assumption)
                  obtain ⟨ad210, e210, hx210_0, hx210_1, hx210_2, hx210_3⟩ := at_T48 HR0.out x8_1 p210 q210
                  cases e210
                  replace p210 := eq_true p210
                  replace q210 := eq_true q210
                  have p211 : 0 ≤ (x8_1 : Int) := of_decide_eq_true (by first | (with_reducible assumption) | assumption)
                  have q211 : x8_1 < (l0.length : Int) := of_decide_eq_true (by first | (with_reducible assumption) | assumption)
                  obtain ⟨ad211, e211, hx211_0, hx211_1, hx211_2, hx211_3⟩ := at_T48 HR0.out x8_1 p211 q211
                  obtain rfl : ad210 = ad211 := (by injection e211)
                  replace p211 := eq_true p211
                  replace q211 := eq_true q211
                  have p212 : 0 ≤ (x8_1 : Int) := of_decide_eq_true (by first | (with_reducible assumption) | assumption)
                  have q212 : x8_1 < (l0.length : Int) := of_decide_eq_true (by first | (with_reducible assumption) | assumption)
                  obtain ⟨ad212, e212, hx212_0, hx212_1, hx212_2, hx212_3⟩ := at_T48 HR0.out x8_1 p212 q212
                  obtain rfl : ad210 = ad212 := (by injection e212)
                  replace p212 := eq_true p212
                  replace q212 := eq_true q212
                  have p213 : 0 ≤ (x8_1 : Int) := of_decide_eq_true (by first | (with_reducible assumption) | assumption)
                  have q213 : x8_1 < (l0.length : Int) := of_decide_eq_true (by first | (with_reducible assumption) | assumption)
                  obtain ⟨ad213, e213, hx213_0, hx213_1, hx213_2, hx213_3⟩ := at_T48 HR0.out x8_1 p213 q213
                  obtain rfl : ad210 = ad213 := (by injection e213)
                  replace p213 := eq_true p213
                  replace q213 := eq_true q213
                  go_wp2
                  go_roundg k1
                  case measure => have := HK1.out; omega
                  case rel => exact ⟨(wrap64 (x7_1 + 1)), (wrap64 (x8_1 + 1)), (by first | rfl | (simp; done) | (simp [*]; done)), (by first | rfl | (simp; done) | (simp [*]; done)), H', ⟨by have := HK1.out; omega⟩, by repeat (first | exact Drawn0.refl _ | apply Drawn0.step)⟩
                · rw [if_neg c9] at H
                  have c9b0 : decide (a2 < ((rd_T48 l0 x8_1).f3)) = false := decide_eq_false c9
                  clear c9
                  have H' := Aside0.mk H
                  clear H
                  have p210 : 0 ≤ (x8_1 : Int) := of_decide_eq_true (by first | (with_reducible assumption) | assumption)
                  have q210 : x8_1 < (l0.length : Int) := of_decide_eq_true (by first | (with_reducible assumption) | assumption)
                  obtain ⟨ad210, e210, hx210_0, hx210_1, hx210_2, hx210_3⟩ := at_T48 HR0.out x8_1 p210 q210
                  cases e210
                  replace p210 := eq_true p210
                  replace q210 := eq_true q210
                  have p211 : 0 ≤ (x8_1 : Int) := of_decide_eq_true (by first | (with_reducible assumption) | assumption)
                  have q211 : x8_1 < (l0.length : Int) := of_decide_eq_true (by first | (with_reducible assumption) | assumption)
                  obtain ⟨ad211, e211, hx211_0, hx211_1, hx211_2, hx211_3⟩ := at_T48 HR0.out x8_1 p211 q211
                  obtain rfl : ad210 = ad211 := (by injection e211)
                  replace p211 := eq_true p211
                  replace q211 := eq_true q211
                  have p212 : 0 ≤ (x8_1 : Int) := of_decide_eq_true (by first | (with_reducible assumption) | assumption)
                  have q212 : x8_1 < (l0.length : Int) := of_decide_eq_true (by first | (with_reducible assumption) | assumption)
                  obtain ⟨ad212, e212, hx212_0, hx212_1, hx212_2, hx212_3⟩ := at_T48 HR0.out x8_1 p212 q212
                  obtain rfl : ad210 = ad212 := (by injection e212)
                  replace p212 := eq_true p212
                  replace q212 := eq_true q212
                  have p213 : 0 ≤ (x8_1 : Int) := of_decide_eq_true (by first | (with_reducible assumption) | assumption)
                  have q213 : x8_1 < (l0.length : Int) := of_decide_eq_true (by first | (with_reducible assumption) | assumption)
                  obtain ⟨ad213, e213, hx213_0, hx213_1, hx213_2, hx213_3⟩ := at_T48 HR0.out x8_1 p213 q213
                  obtain rfl : ad210 = ad213 := (by injection e213)
                  replace p213 := eq_true p213
                  replace q213 := eq_true q213
                  go_wp2
                  go_roundg k1
                  case measure => have := HK1.out; omega
                  case rel => exact ⟨(x7_1), (wrap64 (x8_1 + 1)), (by first | rfl | (simp; done) | (simp [*]; done)), (by first | rfl | (simp; done) | (simp [*]; done)), H', ⟨by have := HK1.out; omega⟩, by repeat (first | exact Drawn0.refl _ | apply Drawn0.step)⟩
              · rw [if_neg c8] at H
                have c8b0 : decide (((rd_T48 l0 x8_1).f1) ≤ a2) = false := decide_eq_false c8
                clear c8
                have H' := Aside0.mk H
                clear H
                have p210 : 0 ≤ (x8_1 : Int) := of_decide_eq_true (by first | (with_reducible assumption) | assumption)
                have q210 : x8_1 < (l0.length : Int) := of_decide_eq_true (by first | (with_reducible assumption) | assumption)
                obtain ⟨ad210, e210, hx210_0, hx210_1, hx210_2, hx210_3⟩ := at_T48 HR0.out x8_1 p210 q210
                cases e210
                replace p210 := eq_true p210
                replace q210 := eq_true q210
                have p211 : 0 ≤ (x8_1 : Int) := of_decide_eq_true (by first | (with_reducible assumption) | assumption)
                have q211 : x8_1 < (l0.length : Int) := of_decide_eq_true (by first | (with_reducible assumption) | assumption)
                obtain ⟨ad211, e211, hx211_0, hx211_1, hx211_2, hx211_3⟩ := at_T48 HR0.out x8_1 p211 q211
                obtain rfl : ad210 = ad211 := (by injection e211)
                replace p211 := eq_true p211
                replace q211 := eq_true q211
                have p212 : 0 ≤ (x8_1 : Int) := of_decide_eq_true (by first | (with_reducible assumption) | assumption)
                have q212 : x8_1 < (l0.length : Int) := of_decide_eq_true (by first | (with_reducible assumption) | assumption)
                obtain ⟨ad212, e212, hx212_0, hx212_1, hx212_2, hx212_3⟩ := at_T48 HR0.out x8_1 p212 q212
                obtain rfl : ad210 = ad212 := (by injection e212)
                replace p212 := eq_true p212
                replace q212 := eq_true q212
                go_wp2
                go_roundg k1
                case measure => have := HK1.out; omega
                case rel => exact ⟨(x7_1), (wrap64 (x8_1 + 1)), (by first | rfl | (simp; done) | (simp [*]; done)), (by first | rfl | (simp; done) | (simp [*]; done)), H', ⟨by have := HK1.out; omega⟩, by repeat (first | exact Drawn0.refl _ | apply Drawn0.step)⟩
            · rw [if_neg c7] at H
              have c7b0 : decide (a1 < ((rd_T48 l0 x8_1).f2)) = false := decide_eq_false c7
              clear c7
              have H' := Aside0.mk H
              clear H
              have p210 : 0 ≤ (x8_1 : Int) := of_decide_eq_true (by first | (with_reducible assumption) | assumption)
              have q210 : x8_1 < (l0.length : Int) := of_decide_eq_true (by first | (with_reducible assumption) | assumption)
              obtain ⟨ad210, e210, hx210_0, hx210_1, hx210_2, hx210_3⟩ := at_T48 HR0.out x8_1 p210 q210
              cases e210
              replace p210 := eq_true p210
              replace q210 := eq_true q210
              have p211 : 0 ≤ (x8_1 : Int) := of_decide_eq_true (by first | (with_reducible assumption) | assumption)
              have q211 : x8_1 < (l0.length : Int) := of_decide_eq_true (by first | (with_reducible assumption) | assumption)
              obtain ⟨ad211, e211, hx211_0, hx211_1, hx211_2, hx211_3⟩ := at_T48 HR0.out x8_1 p211 q211
              obtain rfl : ad210 = ad211 := (by injection e211)
              replace p211 := eq_true p211
              replace q211 := eq_true q211
              go_wp2
              go_roundg k1
              case measure => have := HK1.out; omega
              case rel => exact ⟨(x7_1), (wrap64 (x8_1 + 1)), (by first | rfl | (simp; done) | (simp [*]; done)), (by first | rfl | (simp; done) | (simp [*]; done)), H', ⟨by have := HK1.out; omega⟩, by repeat (first | exact Drawn0.refl _ | apply Drawn0.step)⟩
          · rw [if_neg c6] at H
            have c6b0 : decide (((rd_T48 l0 x8_1).f0) ≤ a1) = false := decide_eq_false c6
            clear c6
            have H' := Aside0.mk H
            clear H
            have p210 : 0 ≤ (x8_1 : Int) := of_decide_eq_true (by first | (with_reducible assumption) | assumption)
            have q210 : x8_1 < (l0.length : Int) := of_decide_eq_true (by first | (with_reducible assumption) | assumption)
            obtain ⟨ad210, e210, hx210_0, hx210_1, hx210_2, hx210_3⟩ := at_T48 HR0.out x8_1 p210 q210
            cases e210
            replace p210 := eq_true p210
            replace q210 := eq_true q210
            go_wp2
            go_roundg k1
            case measure => have := HK1.out; omega
            case rel => exact ⟨(x7_1), (wrap64 (x8_1 + 1)), (by first | rfl | (simp; done) | (simp [*]; done)), (by first | rfl | (simp; done) | (simp [*]; done)), H', ⟨by have := HK1.out; omega⟩, by repeat (first | exact Drawn0.refl _ | apply Drawn0.step)⟩
        · rw [if_neg c5] at H
          exact absurd H (by simp)
      · rw [if_neg c4] at H
        have c4b0 : decide (x8_1 < (l0.length : Int)) = false := decide_eq_false c4
        clear c4
        obtain rfl := Option.some.inj H
        go_wp2
        go_ret
        exact ⟨by first | rfl | (simp; done) | (simp [*]; done), by repeat (first | exact Drawn0.refl _ | apply Drawn0.step)⟩
end Go.Proofs.Ytplhfbkejngioaa.X
