/- The contract of cover.Tiles. Texts of this claim's session, put together: ETiles. -/
import Derived.Test.YtplhfbkejngioaaDv2
import Derived.Test.YtplhfbkejngioaaBc11
import Derived.Test.YtplhfbkejngioaaBc6
import Derived.Test.YtplhfbkejngioaaDv7
import Derived.Test.YtplhfbkejngioaaVWords
import Derived.Test.YtplhfbkejngioaaVLast
import Derived.Test.YtplhfbkejngioaaVRepsOne
namespace Go.Proofs.Ytplhfbkejngioaa.X
open Go.RowKit Go.Shelf Go.Proofs.YtplhfbkejngioaaW.PrintWords Go.Proofs.YtplhfbkejngioaaW.PrintLast Go.Proofs.Ytplhfbkejngioaa.S
set_option linter.unusedVariables false
set_option linter.unusedSimpArgs false
def lookB (l p : List S48) : Bool := (linesX (l ++ p)).all fun x => (linesY (l ++ p)).all fun y => decide (depthL p x y ≤ 1) && (decide (0 < depthL l x y) == decide (0 < depthL p x y))
theorem lookB_iff {l p : List S48} : lookB l p = true ↔ Look l p := by
 unfold lookB Look
 simp only [List.all_eq_true, Bool.and_eq_true, decide_eq_true_eq, beq_iff_eq, decide_eq_decide]
def okIJ (l p : List S48) (xs ys : List Int) (i j : Nat) : Prop := depthL p (xs.getD i 0) (ys.getD j 0) ≤ 1 ∧ (0 < depthL l (xs.getD i 0) (ys.getD j 0) ↔ 0 < depthL p (xs.getD i 0) (ys.getD j 0))
theorem look_at {l p : List S48} (h : Look l p) {i j : Nat} (hi : i < (linesX (l ++ p)).length) (hj : j < (linesY (l ++ p)).length) : okIJ l p (linesX (l ++ p)) (linesY (l ++ p)) i j := by
 have := h _ (List.getElem_mem hi) _ (List.getElem_mem hj)
 unfold okIJ
 simp only [List.getD_eq_getElem?_getD, List.getElem?_eq_getElem hi, List.getElem?_eq_getElem hj, Option.getD_some]
 exact this
theorem look_of {l p : List S48} (h : ∀ i : Nat, i < (linesX (l ++ p)).length → ∀ j : Nat, j < (linesY (l ++ p)).length → okIJ l p (linesX (l ++ p)) (linesY (l ++ p)) i j) : Look l p := by
 intro x hx y hy
 obtain ⟨i, hi, rfl⟩ := List.getElem_of_mem hx
 obtain ⟨j, hj, rfl⟩ := List.getElem_of_mem hy
 have := h i hi j hj
 unfold okIJ at this
 simp only [List.getD_eq_getElem?_getD, List.getElem?_eq_getElem hi, List.getElem?_eq_getElem hj, Option.getD_some] at this
 exact this
def tilesR (l p : List S48) : Int := if areRs l 32 = true then (if (areRs p 1024 && lookB l p) = true then 0 else 10) else 2
def cover_Tiles.f (l0 l1 : List S48) : Option Int := some (tilesR l0 l1)
theorem grid_of_tab {l : List S48} {xs ys : List Int} {W : World} {g D : Nat} {Ax Ay : Option Addr} {cx cy : Nat}
  (hG : W.heap[g]? = some (.cells #[.slice Ax xs.length cx, .slice Ay ys.length cy, .slice (some ⟨D, 0, none⟩) xs.length xs.length] 79 (0, 0)))
  (hT : Tab W D xs.length ys.length (fun i j => wrap64 (PT (D1 xs ys (l.flatMap four)) i j)) W) (hx : OwnI W 0 (.slice Ax xs.length cx) xs) (hy : OwnI W 0 (.slice Ay ys.length cy) ys)
  (hsx : xs.Pairwise (· < ·)) (hsy : ys.Pairwise (· < ·)) (hm : ∀ r ∈ l, r.f0 ∈ xs ∧ r.f1 ∈ ys ∧ r.f2 ∈ xs ∧ r.f3 ∈ ys) (hlt : ∀ r ∈ l, r.f0 < r.f2 ∧ r.f1 < r.f3) (hn : xs.length ≤ 1000000) (hn' : ys.length ≤ 1000000) (hl : l.length ≤ 1000000) :
  ∃ dep c, IsGrid W g xs ys dep Ax Ay (some ⟨D, 0, none⟩) cx cy c ∧ Table xs ys dep ∧ ∀ i j : Nat, i < xs.length → j < ys.length → dAt dep i j = depthL l (xs.getD i 0) (ys.getD j 0) := by
 obtain ⟨A1, c1, e1, hl1, hC1⟩ := hx.reads (by omega)
 obtain ⟨A2, c2, e2, hl2, hC2⟩ := hy.reads (by omega)
 injection e1 with e1 _ e1'
 injection e2 with e2 _ e2'
 subst e1 e1' e2 e2'
 have hD := hT.toC hn hn'
 refine ⟨depT xs.length ys.length (fun i j => wrap64 (PT (D1 xs ys (l.flatMap four)) i j)), xs.length, ⟨?_, hC1, hC2, ?_, hl1, hl2, ?_⟩, ⟨depT_len _ _ _, ?_⟩, ?_⟩
 ·rw [depT_len]; exact hG
 ·rw [depT_len]; exact hD
 ·rw [depT_len]; exact Nat.le_refl _
 ·intro r hr
  unfold depT at hr
  obtain ⟨i, _, rfl⟩ := List.mem_map.1 hr
  simp
 ·intro i j hi hj
  rw [depT_at _ _ _ i j hi hj, depth_is hsx hsy hi hj l hm hlt]
  have := depthL_range l xs[i] ys[j]
  simp only [List.getD_eq_getElem?_getD, List.getElem?_eq_getElem hi, List.getElem?_eq_getElem hj, Option.getD_some]
  unfold wrap64; omega
theorem tab_later {wg : World} {D n m : Nat} {T : Nat → Nat → Int} {W W' : World} (h : Tab wg D n m T W) (hk : ∀ k, D ≤ k → k < W.heap.size → W'.heap[k]? = W.heap[k]?) : Tab W' D n m T W' :=
 ⟨Below.refl _ _, (hk D (Nat.le_refl _) (blk_lt h.top)).trans h.top, fun i hi => (hk (D + 1 + i) (by omega) (blk_lt (h.rows i hi))).trans (h.rows i hi)⟩
structure TwoG (l p : List S48) (xs ys : List Int) (W : World) (g q : Nat) (dl dp : List (List Int)) (Ax Ay A1 A2 : Option Addr) (cx cy c1 c2 : Nat) : Prop where
 gl : IsGrid W g xs ys dl Ax Ay A1 cx cy c1
 gp : IsGrid W q xs ys dp Ax Ay A2 cx cy c2
 tl : Table xs ys dl
 tp : Table xs ys dp
 vl : ∀ i j : Nat, i < xs.length → j < ys.length → dAt dl i j = depthL l (xs.getD i 0) (ys.getD j 0)
 vp : ∀ i j : Nat, i < xs.length → j < ys.length → dAt dp i j = depthL p (xs.getD i 0) (ys.getD j 0)
theorem two_grids {l p : List S48} (hl : areRs l 32 = true) (hp : areRs p 1024 = true) {w5 w6 w7 : World} {g q : Nat} {Ax Ay : Option Addr} {cx cy : Nat} (hgq : g ≠ q)
  (hg : w5.heap[g]? = some (.cells #[.slice Ax (linesX (l ++ p)).length cx, .slice Ay (linesY (l ++ p)).length cy, .slice none 0 0] 79 (0, 0)))
  (hq : w5.heap[q]? = some (.cells #[.slice Ax (linesX (l ++ p)).length cx, .slice Ay (linesY (l ++ p)).length cy, .slice none 0 0] 79 (0, 0)))
  (hX : OwnI w5 0 (.slice Ax (linesX (l ++ p)).length cx) (linesX (l ++ p))) (hY : OwnI w5 0 (.slice Ay (linesY (l ++ p)).length cy) (linesY (l ++ p)))
  (T1 : Tab (wgOf w5 g (linesX (l ++ p)).length) w5.heap.size (linesX (l ++ p)).length (linesY (l ++ p)).length (fun i j => wrap64 (PT (D1 (linesX (l ++ p)) (linesY (l ++ p)) (l.flatMap four)) i j)) w6)
  (T2 : Tab (wgOf w6 q (linesX (l ++ p)).length) w6.heap.size (linesX (l ++ p)).length (linesY (l ++ p)).length (fun i j => wrap64 (PT (D1 (linesX (l ++ p)) (linesY (l ++ p)) (p.flatMap four)) i j)) w7) :
  ∃ dl dp c1 c2, TwoG l p (linesX (l ++ p)) (linesY (l ++ p)) w7 g q dl dp Ax Ay (some ⟨w5.heap.size, 0, none⟩) (some ⟨w6.heap.size, 0, none⟩) cx cy c1 c2 := by
 have hl32 : l.length ≤ 32 := by simp only [areRs, Bool.and_eq_true, decide_eq_true_eq] at hl; omega
 have hp32 : p.length ≤ 1024 := by simp only [areRs, Bool.and_eq_true, decide_eq_true_eq] at hp; omega
 have hla : ∀ r ∈ l, isR r = true := by simp only [areRs, Bool.and_eq_true, List.all_eq_true] at hl; exact hl.2
 have hpa : ∀ r ∈ p, isR r = true := by simp only [areRs, Bool.and_eq_true, List.all_eq_true] at hp; exact hp.2
 have hnx := linesX_len (l ++ p)
 have hny := linesY_len (l ++ p)
 rw [List.length_append] at hnx hny
 have ml : ∀ r ∈ l, r.f0 ∈ linesX (l ++ p) ∧ r.f1 ∈ linesY (l ++ p) ∧ r.f2 ∈ linesX (l ++ p) ∧ r.f3 ∈ linesY (l ++ p) := fun r hr =>
  have a := allX_in (l ++ p) (List.mem_append_left _ hr)
  have b := allY_in (l ++ p) (List.mem_append_left _ hr)
  ⟨a.1, b.1, a.2, b.2⟩
 have mp : ∀ r ∈ p, r.f0 ∈ linesX (l ++ p) ∧ r.f1 ∈ linesY (l ++ p) ∧ r.f2 ∈ linesX (l ++ p) ∧ r.f3 ∈ linesY (l ++ p) := fun r hr =>
  have a := allX_in (l ++ p) (List.mem_append_right _ hr)
  have b := allY_in (l ++ p) (List.mem_append_right _ hr)
  ⟨a.1, b.1, a.2, b.2⟩
 have sx := linesX_lt (l ++ p)
 have sy := linesY_lt (l ++ p)
 generalize linesX (l ++ p) = xs at *
 generalize linesY (l ++ p) = ys at *
 have gw1 := grownBy_set w5 ⟨g, 2, none⟩ (.slice (some ⟨w5.heap.size, 0, none⟩) xs.length xs.length)
 have X6 : OwnI w6 0 (.slice Ax xs.length cx) xs := (hX.grown gw1 (fun k hk e => own_ne_blk hX hg (by decide) k hk (by injection e))).below (fun k hk => (hX.lt hk).1) T1.B
 have Y6 : OwnI w6 0 (.slice Ay ys.length cy) ys := (hY.grown gw1 (fun k hk e => own_ne_blk hY hg (by decide) k hk (by injection e))).below (fun k hk => (hY.lt hk).1) T1.B
 have G6 : w6.heap[g]? = some (.cells #[.slice Ax xs.length cx, .slice Ay ys.length cy, .slice (some ⟨w5.heap.size, 0, none⟩) xs.length xs.length] 79 (0, 0)) := (T1.B.block g (blk_lt hg)).trans (blk_put hg 2 _ rfl)
 have Q6 : w6.heap[q]? = some (.cells #[.slice Ax xs.length cx, .slice Ay ys.length cy, .slice none 0 0] 79 (0, 0)) := (T1.B.block q (blk_lt hq)).trans ((setCell_other w5 ⟨g, 2, none⟩ _ (fun e => hgq e.symm)).trans hq)
 have gw2 := grownBy_set w6 ⟨q, 2, none⟩ (.slice (some ⟨w6.heap.size, 0, none⟩) xs.length xs.length)
 have X7 : OwnI w7 0 (.slice Ax xs.length cx) xs := (X6.grown gw2 (fun k hk e => own_ne_blk X6 Q6 (by decide) k hk (by injection e))).below (fun k hk => (X6.lt hk).1) T2.B
 have Y7 : OwnI w7 0 (.slice Ay ys.length cy) ys := (Y6.grown gw2 (fun k hk e => own_ne_blk Y6 Q6 (by decide) k hk (by injection e))).below (fun k hk => (Y6.lt hk).1) T2.B
 have G7 := (T2.B.block g (blk_lt G6)).trans ((setCell_other w6 ⟨q, 2, none⟩ (.slice (some ⟨w6.heap.size, 0, none⟩) xs.length xs.length) hgq).trans G6)
 have Q7 : w7.heap[q]? = some (.cells #[.slice Ax xs.length cx, .slice Ay ys.length cy, .slice (some ⟨w6.heap.size, 0, none⟩) xs.length xs.length] 79 (0, 0)) := (T2.B.block q (blk_lt Q6)).trans (blk_put Q6 2 _ rfl)
 have hqs := blk_lt hq
 have T1' := tab_later (W' := w7) T1 (fun k hk1 hk2 => (T2.B.block k hk2).trans (setCell_other w6 ⟨q, 2, none⟩ _ (by show k ≠ q; omega)))
 have T2' := tab_later (W' := w7) T2 (fun _ _ _ => rfl)
 obtain ⟨dl, c1, I1, L1, V1⟩ := grid_of_tab G7 T1' X7 Y7 sx sy ml (fun r hr => isR_lt (hla r hr)) (by omega) (by omega) (by omega)
 obtain ⟨dp, c2, I2, L2, V2⟩ := grid_of_tab Q7 T2' X7 Y7 sx sy mp (fun r hr => isR_lt (hpa r hr)) (by omega) (by omega) (by omega)
 exact ⟨dl, dp, c1, c2, I1, I2, L1, L2, V1, V2⟩
theorem TwoG.drawn {l p : List S48} {xs ys : List Int} {W W' : World} {g q : Nat} {dl dp : List (List Int)} {Ax Ay A1 A2 : Option Addr} {cx cy c1 c2 : Nat} (h : TwoG l p xs ys W g q dl dp Ax Ay A1 A2 cx cy c1 c2) (hd : Drawn0 W W') : TwoG l p xs ys W' g q dl dp Ax Ay A1 A2 cx cy c1 c2 := by
 obtain ⟨nd, rfl⟩ := hd
 have hb : Below W.heap.size W (W.drewN nd) := pw_below_drewN (Below.refl _ _) _
 exact ⟨h.gl.below hb, h.gp.below hb, h.tl, h.tp, h.vl, h.vp⟩
theorem ok_iff {l p : List S48} {xs ys : List Int} {W : World} {g q : Nat} {dl dp : List (List Int)} {Ax Ay A1 A2 : Option Addr} {cx cy c1 c2 : Nat} (h : TwoG l p xs ys W g q dl dp Ax Ay A1 A2 cx cy c1 c2) {i j : Nat} (hi : i < xs.length) (hj : j < ys.length) :
  okIJ l p xs ys i j ↔ rd (rdLL dp (i : Int)) (j : Int) ≤ 1 ∧ hasL xs ys dl (i : Int) (j : Int) = hasL xs ys dp (i : Int) (j : Int) := by
 have a := h.vl i j hi hj
 have b := h.vp i j hi hj
 have e1 : (decide ((0 : Int) ≤ (i : Int)) && decide ((i : Int) ≤ (xs.length : Int) - 1)) = true := by simp; omega
 have e2 : (decide ((0 : Int) ≤ (j : Int)) && decide ((j : Int) ≤ (ys.length : Int) - 1)) = true := by simp; omega
 unfold okIJ hasL
 rw [e1, e2, ← a, ← b]
 simp only [Bool.true_and, decide_eq_decide]
 exact Iff.rfl
theorem nxt {i n : Nat} (h : i < n) (hn : n ≤ 3000) : Value.int .i64 (wrap64 ((i : Int) + 1)) = .int .i64 ((i + 1 : Nat) : Int) := by rw [w64 (by omega) (by omega), Int.natCast_add]; rfl
set_option maxHeartbeats 4000000 in
set_option maxRecDepth 100000 in
theorem cover_Tiles.calls (A0 : Option Addr) (c0 : Nat) (l0 : List S48) (A1 : Option Addr) (c1 : Nat) (l1 : List S48) (r : Int) (w : World) (hr0 : Kd.C k48 w A0 l0.length l0) (hc0 : l0.length ≤ c0) (hr1 : Kd.C k48 w A1 l1.length l1) (hc1 : l1.length ≤ c1) (h : cover_Tiles.f l0 l1 = some r) :
  Calls Try.prog 43 #[.slice A0 l0.length c0, .slice A1 l1.length c1] w fun e w' => e = .returned (.int .i64 r) ∧ Below w.heap.size w w' := by
 obtain rfl := Option.some.inj h
 clear h
 have HR0 := Aside0.mk hr0
 have HC0 := Aside0.mk hc0
 have HR1 := Aside0.mk hr1
 have HC1 := Aside0.mk hc1
 by_cases hl : areRs l0 32 = true
 ·have HA1 := Aside0.mk (cover_areRects.calls A0 c0 l0 32 true w hr0 hc0 (by unfold cover_areRects.f; rw [hl]))
  by_cases hp : areRs l1 1024 = true
  ·have HA2 := Aside0.mk (fun (W : World) (h : Kd.C k48 W A1 l1.length l1) => cover_areRects.calls A1 c1 l1 1024 true W h hc1 (by unfold cover_areRects.f; rw [hp]))
   have HL := Aside0.mk hl
   have HP := Aside0.mk hp
   have h32 : l0.length ≤ 32 := by simp only [areRs, Bool.and_eq_true, decide_eq_true_eq] at hl; omega
   have h1024 : l1.length ≤ 1024 := by simp only [areRs, Bool.and_eq_true, decide_eq_true_eq] at hp; omega
   have HN := Aside0.mk (And.intro h32 h1024)
   have HV := Aside0.mk (show tilesR l0 l1 = if lookB l0 l1 = true then 0 else 10 by unfold tilesR; rw [if_pos hl, hp, Bool.true_and])
   clear hl hp hr0 hc0 hr1 hc1 h32 h1024
   go_enter Try.func43, Try.ntmps43
   go_wp2_with (first
    | (go_at_call 46; (with_reducible refine HA1.out.mono ?_); rintro e w1 ⟨rfl, hb⟩; have HB1 := Aside0.mk hb; clear hb HA1)
    | (go_at_call 46; (with_reducible refine (HA2.out _ (Kd.C_below HR1.out HB1.out)).mono ?_); rintro e w2 ⟨rfl, hb⟩; have HB2 := Aside0.mk (below_then HB1.out HB1.out.size hb); clear hb HA2)
    | (
      go_at_call 65
      (with_reducible refine (concat_calls A0 c0 l0 A1 c1 l1 w2.heap.size (w2.alloc (.cells #[.slice A0 l0.length c0, .slice A1 l1.length c1] 22)) (Kd.C_alloc (Kd.C_below HR0.out HB2.out) _) (Kd.C_alloc (Kd.C_below HR1.out HB2.out) _) (heap_alloc_new w2 _) (by have := HN.out; omega) (by have := HN.out; omega)).mono ?_); rintro e w3 ⟨v, rfl, ho, hb⟩
      obtain ⟨L, hL⟩ : ∃ L, L = l0 ++ l1 := ⟨_, rfl⟩
      have HLL := Aside0.mk hL
      rw [← hL] at ho
      obtain ⟨Ac, cc, ev⟩ := Kd.R_slice ho
      subst ev
      have HRC := Aside0.mk (Kd.R_reads' ho)
      have HB3 := Aside0.mk (below_then (below_alloc HB2.out _) (below_alloc HB2.out (.cells #[.slice A0 l0.length c0, .slice A1 l1.length c1] 22)).size hb)
      clear ho hb hL)
    | (
      go_at_call 64
      (with_reducible refine (newGrid_calls Ac cc L w3 HRC.out.2.2 HRC.out.2.1 (by have := HN.out; rw [HLL.out, List.length_append]; omega)).mono ?_); rintro e w4 ⟨rfl, vx, vy, hN⟩
      rw [linesX_is, linesY_is, HLL.out] at hN
      obtain ⟨Ax, cx, rfl⟩ := own_form hN.X
      obtain ⟨Ay, cy, rfl⟩ := own_form hN.Y
      have HH := Aside0.mk hN
      clear hN))
   have HBW := Aside0.mk (below_then HB3.out HB3.out.size HH.out.B)
   have c_0 : w4.drew.cell? ⟨w3.heap.size, 0, none⟩ = some (.slice Ax (linesX (l0 ++ l1)).length cx) := (blk_cell HH.out.G 0).trans rfl
   have c_1 : w4.drew.cell? ⟨w3.heap.size, 1, none⟩ = some (.slice Ay (linesY (l0 ++ l1)).length cy) := (blk_cell HH.out.G 1).trans rfl
   refine stz (fun w' => w'.cell? ⟨w3.heap.size, 0, none⟩ = some (.slice Ax (linesX (l0 ++ l1)).length cx) ∧ w'.cell? ⟨w3.heap.size, 1, none⟩ = some (.slice Ay (linesY (l0 ++ l1)).length cy)) [] (bn 11 0) ⟨c_0, c_1⟩ (fun hHeld => ?_)
   refine pz 0 (some 20) (bn 11 1) ?_
   refine pz 1 (some 21) (bn 11 3) ?_
   refine pz 2 (some 22) (bn 11 7) ?_
   refine pz 4 (some 24) (bn 11 23) ?_
   refine pz 5 (some 25) (bn 11 55) ?_
   refine pz 6 (some 26) (bn 11 119) ?_
   refine tz 3 (some 23) (bn 11 127) hHeld ?_
   refine tz 7 (some 27) (bn 11 255) hHeld ?_
   refine pz 8 (some 28) (bn 11 511) ?_
   refine oz 9 (some 29) (bn 11 1023) (fun K hK => ?_)
   refine bxS 29 #[.slice Ax (linesX (l0 ++ l1)).length cx, .slice Ay (linesY (l0 ++ l1)).length cy, .slice none 0 0] 79 ?_
   intro q hq w5 hbox hb5
   have HG5 := Aside0.mk ((hb5.block w3.heap.size (by show _ < w4.heap.size; exact blk_lt HH.out.G)).trans HH.out.G)
   have HQ5 := Aside0.mk hbox
   have hb5' : Below w4.heap.size w4 w5 := below_then (below_drew (Below.refl w4.heap.size w4)) (Nat.le_refl _) hb5
   have HB5 := Aside0.mk (below_then HBW.out HBW.out.size hb5')
   have HX5 := Aside0.mk (HH.out.X.base0.below (fun k hk => (HH.out.X.lt hk).1) hb5')
   have HY5 := Aside0.mk (HH.out.Y.base0.below (fun k hk => (HH.out.Y.lt hk).1) hb5')
   have HNE := Aside0.mk (show w3.heap.size ≠ q by have := blk_lt HH.out.G; have e : q = w4.heap.size := hq; omega)
   have HGE := Aside0.mk (show w.heap.size ≤ w3.heap.size ∧ w.heap.size ≤ q by have := HB3.out.size; have a := HBW.out.size; have e : q = w4.heap.size := hq; omega)
   refine hK.out _ _ ⟨(blk_cell HG5.out 0).trans rfl, (blk_cell HG5.out 1).trans rfl⟩ (fun hHeld => ?_)
   clear hK K hq hbox hb5 hb5'
   refine nz (some 29) ?_
   refine pz 10 (some 6) (bn 11 2047) ?_
   refine done_ (by kernel_rfl) ?_
   clear hHeld c_0 c_1
   have HLX := Aside0.mk (linesX_lt (l0 ++ l1))
   have HLY := Aside0.mk (linesY_lt (l0 ++ l1))
   have HNN := Aside0.mk (show (linesX (l0 ++ l1)).length ≤ 3000 ∧ (linesY (l0 ++ l1)).length ≤ 3000 by have a := linesX_len (l0 ++ l1); have b := linesY_len (l0 ++ l1); have c := HN.out; rw [List.length_append] at a b; omega)
   have HML := Aside0.mk (fun r (hr : r ∈ l0) => (⟨(allX_in (l0 ++ l1) (List.mem_append_left _ hr)).1, (allY_in (l0 ++ l1) (List.mem_append_left _ hr)).1, (allX_in (l0 ++ l1) (List.mem_append_left _ hr)).2, (allY_in (l0 ++ l1) (List.mem_append_left _ hr)).2⟩ : r.f0 ∈ linesX (l0 ++ l1) ∧ r.f1 ∈ linesY (l0 ++ l1) ∧ r.f2 ∈ linesX (l0 ++ l1) ∧ r.f3 ∈ linesY (l0 ++ l1)))
   have HMP := Aside0.mk (fun r (hr : r ∈ l1) => (⟨(allX_in (l0 ++ l1) (List.mem_append_right _ hr)).1, (allY_in (l0 ++ l1) (List.mem_append_right _ hr)).1, (allX_in (l0 ++ l1) (List.mem_append_right _ hr)).2, (allY_in (l0 ++ l1) (List.mem_append_right _ hr)).2⟩ : r.f0 ∈ linesX (l0 ++ l1) ∧ r.f1 ∈ linesY (l0 ++ l1) ∧ r.f2 ∈ linesX (l0 ++ l1) ∧ r.f3 ∈ linesY (l0 ++ l1)))
   have HCT := Aside0.mk (count_calls A0 c0 l0 w w5 w3.heap.size Ax Ay cx cy (linesX (l0 ++ l1)) (linesY (l0 ++ l1)) HR0.out HC0.out (by have := HN.out; omega) HB5.out HGE.out.1 HG5.out HX5.out HY5.out (HLX.out.imp Int.le_of_lt) (HLY.out.imp Int.le_of_lt) (by have := HNN.out; omega) (by have := HNN.out; omega) HML.out)
   go_wp2_with (first
    | (
      go_at_call 66
      go_loud (with_reducible refine HCT.out.mono ?_)
      go_loud (
       rintro e w6 ⟨rfl, hT⟩; have HT := Aside0.mk hT; clear hT HCT
       have gw1 := grownBy_set w5 ⟨w3.heap.size, 2, none⟩ (.slice (some ⟨w5.heap.size, 0, none⟩) (linesX (l0 ++ l1)).length (linesX (l0 ++ l1)).length)
       have HX6 := Aside0.mk ((HX5.out.grown gw1 (fun k hk e => own_ne_blk HX5.out HG5.out (by decide) k hk (by injection e))).below (fun k hk => (HX5.out.lt hk).1) HT.out.B)
       have HY6 := Aside0.mk ((HY5.out.grown gw1 (fun k hk e => own_ne_blk HY5.out HG5.out (by decide) k hk (by injection e))).below (fun k hk => (HY5.out.lt hk).1) HT.out.B)
       have HQ6 := Aside0.mk ((HT.out.B.block q (blk_lt HQ5.out)).trans ((setCell_other w5 ⟨w3.heap.size, 2, none⟩ _ (fun e => HNE.out e.symm)).trans HQ5.out))
       have HB6 := Aside0.mk (below_then (HB5.out.setCell (p := ⟨w3.heap.size, 2, none⟩) HGE.out.1 (.slice (some ⟨w5.heap.size, 0, none⟩) (linesX (l0 ++ l1)).length (linesX (l0 ++ l1)).length)) (by rw [World.size_setCell]; exact HB5.out.size) (by rw [World.size_setCell]; exact HT.out.B))
       clear gw1
       have HCT := Aside0.mk (count_calls A1 c1 l1 w w6 q Ax Ay cx cy (linesX (l0 ++ l1)) (linesY (l0 ++ l1)) HR1.out HC1.out (by have := HN.out; omega) HB6.out HGE.out.2 HQ6.out HX6.out HY6.out (HLX.out.imp Int.le_of_lt) (HLY.out.imp Int.le_of_lt) (by have := HNN.out; omega) (by have := HNN.out; omega) HMP.out)))
    | (
      go_at_call 66
      go_loud (with_reducible refine HCT.out.mono ?_)
      go_loud (
       rintro e w7 ⟨rfl, hT⟩; have HT2 := Aside0.mk hT; clear hT HCT
       have HB7 := Aside0.mk (below_then (HB6.out.setCell (p := ⟨q, 2, none⟩) HGE.out.2 (.slice (some ⟨w6.heap.size, 0, none⟩) (linesX (l0 ++ l1)).length (linesX (l0 ++ l1)).length)) (by rw [World.size_setCell]; exact HB6.out.size) (by rw [World.size_setCell]; exact HT2.out.B))
       obtain ⟨dl, dp, k1, k2, HTG⟩ := two_grids HL.out HP.out HNE.out HG5.out HQ5.out HX5.out HY5.out HT.out HT2.out
       have HW := Aside0.mk HTG
       clear HTG HT HT2 HX5 HY5 HX6 HY6 HG5 HQ5 HQ6 HB5 HB6
       generalize some (⟨w5.heap.size, 0, none⟩ : Addr) = Ad1 at HW
       generalize some (⟨w6.heap.size, 0, none⟩ : Addr) = Ad2 at HW
       have d0 : w7.cell? ⟨w3.heap.size, 0, none⟩ = some (.slice Ax (linesX (l0 ++ l1)).length cx) := (blk_cell HW.out.gl.blk 0).trans rfl)))
   have HYES := Aside0.mk (fun (a : ∀ i : Nat, i < (linesX (l0 ++ l1)).length → ∀ j : Nat, j < (linesY (l0 ++ l1)).length → okIJ l0 l1 (linesX (l0 ++ l1)) (linesY (l0 ++ l1)) i j) => (show tilesR l0 l1 = 0 by rw [HV.out, if_pos (lookB_iff.2 (look_of a))]))
   have HNO := Aside0.mk (fun (i j : Nat) (hi : i < (linesX (l0 ++ l1)).length) (hj : j < (linesY (l0 ++ l1)).length) (hn : ¬ okIJ l0 l1 (linesX (l0 ++ l1)) (linesY (l0 ++ l1)) i j) => (show tilesR l0 l1 = 10 by rw [HV.out, if_neg (fun e => hn (look_at (lookB_iff.1 e) hi hj))]))
   clear HV HH HRC HLX HLY HML HMP HLL HBW HB3 HL HP HGE HNE
   generalize linesX (l0 ++ l1) = xs at *
   generalize linesY (l0 ++ l1) = ys at *
   go_loopw [41] (fun iv wr => ∃ i : Nat, i ≤ xs.length ∧ iv = .int .i64 (i : Int) ∧ Aside0 (∀ i' : Nat, i' < i → ∀ j : Nat, j < ys.length → okIJ l0 l1 xs ys i' j) ∧ Aside0 (Drawn0 w7 wr)) (fun iv _ => xs.length - (intOf iv).toNat)
   case atStart => exact ⟨0, Nat.zero_le _, rfl, ⟨fun i' h => absurd h (Nat.not_lt_zero _)⟩, ⟨Drawn0.refl _⟩⟩
   case round =>
    obtain ⟨i, hi, rfl, HI, HD⟩ := hrel
    clear d0
    by_cases hil : i < xs.length
    ·have HIL := Aside0.mk hil
     have hz : (i : Int) < (xs.length : Int) := by omega
     have d1 : wr.cell? ⟨w3.heap.size, 1, none⟩ = some (.slice Ay ys.length cy) := (blk_cell (HW.out.drawn HD.out).gl.blk 1).trans rfl
     clear hi hil
     go_wp2
     clear d1 hz
     go_loopw [49] (fun jv wq => ∃ j : Nat, j ≤ ys.length ∧ jv = .int .i64 (j : Int) ∧ Aside0 (∀ j' : Nat, j' < j → okIJ l0 l1 xs ys i j') ∧ Aside0 (Drawn0 w7 wq)) (fun jv _ => ys.length - (intOf jv).toNat)
     case atStart => exact ⟨0, Nat.zero_le _, rfl, ⟨fun i' h => absurd h (Nat.not_lt_zero _)⟩, HD⟩
     case round =>
      rename World => wq
      obtain ⟨j, hj, rfl, HJ, HDq⟩ := hrel
      clear HD
      by_cases hjl : j < ys.length
      ·have HJL := Aside0.mk hjl
       have HWq := Aside0.mk (HW.out.drawn HDq.out)
       have H1 := Aside0.mk (fun (W : World) (h : Drawn0 w7 W) => has_calls w3.heap.size xs ys dl Ax Ay Ad1 cx cy k1 (i : Int) (j : Int) W (HW.out.drawn h).gl HW.out.tl (by have := HNN.out; omega) (by have := HNN.out; omega))
       have H2 := Aside0.mk (fun (W : World) (h : Drawn0 w7 W) => has_calls q xs ys dp Ax Ay Ad2 cx cy k2 (i : Int) (j : Int) W (HW.out.drawn h).gp HW.out.tp (by have := HNN.out; omega) (by have := HNN.out; omega))
       have HOK := Aside0.mk (ok_iff HW.out HIL.out hjl)
       have ap : wq.cell? ⟨q, 2, none⟩ = some (.slice Ad2 dp.length k2) := (blk_cell HWq.out.gp.blk 2).trans rfl
       have hlen := HWq.out.tp.1
       have hil := HIL.out
       obtain ⟨ad, A3, c3, ea, ha, hl3, hr3⟩ := at_LL HWq.out.gp.rd (i : Int) (by omega) (by omega)
       cases ea
       have hrow := HWq.out.tp.row (i := (i : Int)) (by omega) (by omega)
       obtain ⟨ad3, e3, h3⟩ := Kd.at_int hr3 (j : Int) (by omega) (by omega)
       cases e3
       simp only [Int.toNat_natCast] at ha h3
       have hz : (j : Int) < (ys.length : Int) := by omega
       have p2 : decide ((i : Int) < (dp.length : Int)) = true := decide_eq_true (by omega)
       have p4 : decide ((j : Int) < ((rdLL dp (i : Int)).length : Int)) = true := decide_eq_true (by omega)
       have q2 : (i : Int) < (dp.length : Int) := by omega
       have q4 : (j : Int) < ((rdLL dp (i : Int)).length : Int) := by omega
       obtain ⟨V, hV⟩ : ∃ V, Aside0 (rd (rdLL dp (i : Int)) (j : Int) = V) := ⟨_, ⟨rfl⟩⟩
       obtain ⟨a, hA⟩ : ∃ a, Aside0 (hasL xs ys dl (i : Int) (j : Int) = a) := ⟨_, ⟨rfl⟩⟩
       obtain ⟨b, hB⟩ : ∃ b, Aside0 (hasL xs ys dp (i : Int) (j : Int) = b) := ⟨_, ⟨rfl⟩⟩
       rw [hV.out] at h3 HOK
       rw [hA.out] at H1 HOK
       rw [hB.out] at H2 HOK
       have HZ7 := Aside0.mk (show Below w.heap.size w wq by obtain ⟨nd, e⟩ := HDq.out; rw [e]; exact pw_below_drewN HB7.out nd)
       clear hA hB hV hlen hrow hr3 hl3 hj hjl hil HWq
       by_cases hv : 1 < V
       ·have t1 : decide (1 < V) = true := decide_eq_true hv
        have t2 : (1 < V) = True := eq_true hv
        have HR := Aside0.mk (HNO.out i j HIL.out HJL.out (fun e => by have := (HOK.out.1 e).1; omega))
        clear hv
        go_wp2
        go_ret
        exact ⟨by rw [HR.out]; rfl, HZ7.out⟩
       ·have t1 : decide (1 < V) = false := decide_eq_false hv
        have t2 : (1 < V) = False := eq_false hv
        rcases a with _ | _ <;> rcases b with _ | _
        ·have HG := Aside0.mk (HOK.out.2 ⟨by omega, rfl⟩)
         clear hv
         go_wp2_with (first
          | (go_at_call 49; (with_reducible refine (H1.out _ HDq.out).mono ?_); rintro e w8 ⟨rfl, nd1, rfl⟩)
          | (go_at_call 49; (with_reducible refine (H2.out _ (HDq.out.step nd1)).mono ?_); rintro e w9 ⟨rfl, nd2, rfl⟩))
         go_roundw
         ·refine ⟨j + 1, HJL.out, nxt HJL.out HNN.out.2, ⟨fun j' hj' => ?_⟩, ⟨HDq.out.step _⟩⟩
          rcases Nat.lt_or_eq_of_le (Nat.le_of_lt_succ hj') with hj' | rfl
          ·exact HJ.out j' hj'
          ·exact HG.out
         ·rw [nxt HJL.out HNN.out.2]; have := HJL.out; simp only [intOf]; omega
        ·have HR := Aside0.mk (HNO.out i j HIL.out HJL.out (fun e => by have := (HOK.out.1 e).2; cases this))
         clear hv
         go_wp2_with (first
          | (go_at_call 49; (with_reducible refine (H1.out _ HDq.out).mono ?_); rintro e w8 ⟨rfl, nd1, rfl⟩)
          | (go_at_call 49; (with_reducible refine (H2.out _ (HDq.out.step nd1)).mono ?_); rintro e w9 ⟨rfl, nd2, rfl⟩))
         go_ret
         exact ⟨by rw [HR.out]; rfl, pw_below_drewN HZ7.out _⟩
        ·have HR := Aside0.mk (HNO.out i j HIL.out HJL.out (fun e => by have := (HOK.out.1 e).2; cases this))
         clear hv
         go_wp2_with (first
          | (go_at_call 49; (with_reducible refine (H1.out _ HDq.out).mono ?_); rintro e w8 ⟨rfl, nd1, rfl⟩)
          | (go_at_call 49; (with_reducible refine (H2.out _ (HDq.out.step nd1)).mono ?_); rintro e w9 ⟨rfl, nd2, rfl⟩))
         go_ret
         exact ⟨by rw [HR.out]; rfl, pw_below_drewN HZ7.out _⟩
        ·have HG := Aside0.mk (HOK.out.2 ⟨by omega, rfl⟩)
         clear hv
         go_wp2_with (first
          | (go_at_call 49; (with_reducible refine (H1.out _ HDq.out).mono ?_); rintro e w8 ⟨rfl, nd1, rfl⟩)
          | (go_at_call 49; (with_reducible refine (H2.out _ (HDq.out.step nd1)).mono ?_); rintro e w9 ⟨rfl, nd2, rfl⟩))
         go_roundw
         ·refine ⟨j + 1, HJL.out, nxt HJL.out HNN.out.2, ⟨fun j' hj' => ?_⟩, ⟨HDq.out.step _⟩⟩
          rcases Nat.lt_or_eq_of_le (Nat.le_of_lt_succ hj') with hj' | rfl
          ·exact HJ.out j' hj'
          ·exact HG.out
         ·rw [nxt HJL.out HNN.out.2]; have := HJL.out; simp only [intOf]; omega
      ·obtain rfl : j = ys.length := by omega
       clear hj hjl
       go_wp2
       go_roundw
       ·refine ⟨i + 1, HIL.out, nxt HIL.out HNN.out.1, ⟨fun i' hi' j' hj' => ?_⟩, HDq⟩
        rcases Nat.lt_or_eq_of_le (Nat.le_of_lt_succ hi') with hi' | rfl
        ·exact HI.out i' hi' j' hj'
        ·exact HJ.out j' hj'
       ·rw [nxt HIL.out HNN.out.1]; have := HIL.out; simp only [intOf]; omega
    ·obtain rfl : i = xs.length := by omega
     clear hi hil
     have HR := Aside0.mk (HYES.out (fun i hi j hj => HI.out i hi j hj))
     have HZ7 := Aside0.mk (show Below w.heap.size w wr by obtain ⟨nd, e⟩ := HD.out; rw [e]; exact pw_below_drewN HB7.out nd)
     go_wp2
     go_ret
     exact ⟨by rw [HR.out]; rfl, HZ7.out⟩
  ·have HA2 := Aside0.mk (fun (W : World) (h : Kd.C k48 W A1 l1.length l1) => cover_areRects.calls A1 c1 l1 1024 false W h hc1 (by unfold cover_areRects.f; rw [Bool.eq_false_iff.2 hp]))
   have HV := Aside0.mk (show tilesR l0 l1 = 10 by unfold tilesR; rw [if_pos hl, Bool.eq_false_iff.2 hp, Bool.false_and, if_neg (by decide)])
   clear hl hp hr0 hc0 hr1 hc1
   go_enter Try.func43, Try.ntmps43
   go_wp2_with (first
    | (go_at_call 46; (with_reducible refine HA1.out.mono ?_); rintro e w1 ⟨rfl, hb⟩; have HB1 := Aside0.mk hb; clear hb HA1)
    | (go_at_call 46; (with_reducible refine (HA2.out _ (Kd.C_below HR1.out HB1.out)).mono ?_); rintro e w2 ⟨rfl, hb⟩; have HB2 := Aside0.mk (below_then HB1.out HB1.out.size hb); clear hb HA2))
   go_ret
   exact ⟨by rw [HV.out]; rfl, HB2.out⟩
 ·have HA1 := Aside0.mk (cover_areRects.calls A0 c0 l0 32 false w hr0 hc0 (by unfold cover_areRects.f; rw [Bool.eq_false_iff.2 hl]))
  have HV := Aside0.mk (show tilesR l0 l1 = 2 by unfold tilesR; rw [if_neg hl])
  clear hl hr0 hc0 hr1 hc1
  go_enter Try.func43, Try.ntmps43
  go_wp2_with (first
   | (go_at_call 46; (with_reducible refine HA1.out.mono ?_); rintro e w1 ⟨rfl, hb⟩; have HB1 := Aside0.mk hb; clear hb HA1))
  go_ret
  exact ⟨by rw [HV.out]; rfl, HB1.out⟩
end Go.Proofs.Ytplhfbkejngioaa.X
