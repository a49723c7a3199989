/- What a round over the parts of a grid keeps. Texts of this claim's session, put together: Grid2, GridP, GridS, GridLaw, KeepG. -/
import Derived.Test.YtplhfbkejngioaaBc7
import Derived.Test.YtplhfbkejngioaaBc9
import Derived.Test.YtplhfbkejngioaaVWords
import Derived.Test.YtplhfbkejngioaaVLast
import Derived.Test.YtplhfbkejngioaaVRepsOne
namespace Go.Proofs.Ytplhfbkejngioaa.X
open Go.RowKit Go.Shelf Go.Proofs.YtplhfbkejngioaaW.PrintWords Go.Proofs.YtplhfbkejngioaaW.PrintLast Go.Proofs.Ytplhfbkejngioaa.S
set_option linter.unusedVariables false
set_option linter.unusedSimpArgs false
structure GridOf (l : List S48) (W : World) (g : Nat) (dep : List (List Int)) (A0 A1 A2 : Option Addr) (c0 c1 c2 : Nat) : Prop where
 ok : areRs l 32 = true
 grid : IsGrid W g (linesX l) (linesY l) dep A0 A1 A2 c0 c1 c2
 tab : Table (linesX l) (linesY l) dep
 val : ∀ i j : Nat, i < (linesX l).length → j < (linesY l).length → dAt dep i j = depthL l ((linesX l).getD i 0) ((linesY l).getD j 0)
def depT (n m : Nat) (T : Nat → Nat → Int) : List (List Int) := (List.range n).map fun i => (List.range m).map fun j => T i j
theorem depT_len (n m : Nat) (T : Nat → Nat → Int) : (depT n m T).length = n := by simp [depT]
theorem Tab.toC {wg : World} {D n m : Nat} {T : Nat → Nat → Int} {W : World} (h : Tab wg D n m T W) (hn : n ≤ 1000000) (hm : m ≤ 1000000) : Kd.C (Kd.slice 3 (Kd.int .i64)) W (some ⟨D, 0, none⟩) n (depT n m T) := by
 refine ⟨depT_len n m T, by omega, fun _ => ⟨_, rfl, fun i r hi => ?_⟩⟩
 have hin : i < n := by
  have := (List.getElem?_eq_some_iff.1 hi).1; rw [depT_len] at this; exact this
 have hr : r = (List.range m).map fun j => T i j := by
  have : (depT n m T)[i]? = some ((List.range m).map fun j => T i j) := by simp [depT, hin]
  rw [this] at hi; exact (Option.some.inj hi).symm
 have hrl : r.length = m := by rw [hr]; simp
 refine ⟨[.slice (some ⟨D + 1 + i, 0, none⟩) r.length m], rfl, ⟨_, _, rfl, by omega, ⟨rfl, by omega, fun _ => ⟨_, rfl, fun j p hj => ⟨[.int .i64 p], rfl, rfl, fun a u hu => ?_⟩⟩⟩⟩, fun a u hu => ?_⟩
 ·have hjm : j < m := by have := (List.getElem?_eq_some_iff.1 hj).1; omega
  have hp : p = T i j := by
   rw [hr] at hj; simp [hjm] at hj; exact hj.symm
  have ha : a = 0 ∧ u = .int .i64 p := by
   cases a with
   | zero => simp at hu; exact ⟨rfl, hu.symm⟩
   | succ a => simp at hu
  obtain ⟨rfl, rfl⟩ := ha
  subst hp
  have := h.cell hin hjm
  show W.cell? (Addr.add ⟨D + 1 + i, 0, none⟩ (j * 1 + 0)) = _
  rw [Addr.add_lit, Nat.mul_one, Nat.add_zero, Nat.zero_add]; exact this
 ·have ha : a = 0 ∧ u = .slice (some ⟨D + 1 + i, 0, none⟩) r.length m := by
   cases a with
   | zero => simp at hu; exact ⟨rfl, hu.symm⟩
   | succ a => simp at hu
  obtain ⟨rfl, rfl⟩ := ha
  have := h.line hin
  show W.cell? (Addr.add ⟨D, 0, none⟩ (i * 1 + 0)) = _
  rw [Addr.add_lit, Nat.mul_one, Nat.add_zero, Nat.zero_add, hrl]; exact this
theorem depT_at (n m : Nat) (T : Nat → Nat → Int) (i j : Nat) (hi : i < n) (hj : j < m) : dAt (depT n m T) i j = T i j := by
 simp [dAt, rdLL, rd, depT, hi, hj]
theorem isR_lt {r : S48} (h : isR r = true) : r.f0 < r.f2 ∧ r.f1 < r.f3 := by
 simp only [isR, Bool.and_eq_true, decide_eq_true_eq] at h; omega
theorem allX_in (l : List S48) {r : S48} (hr : r ∈ l) : r.f0 ∈ linesX l ∧ r.f2 ∈ linesX l := by
 rw [linesX_mem, linesX_mem]; unfold allX; simp only [List.mem_flatMap, List.mem_cons, List.not_mem_nil, or_false]
 exact ⟨⟨r, hr, .inl rfl⟩, ⟨r, hr, .inr rfl⟩⟩
theorem allY_in (l : List S48) {r : S48} (hr : r ∈ l) : r.f1 ∈ linesY l ∧ r.f3 ∈ linesY l := by
 rw [linesY_mem, linesY_mem]; unfold allY; simp only [List.mem_flatMap, List.mem_cons, List.not_mem_nil, or_false]
 exact ⟨⟨r, hr, .inl rfl⟩, ⟨r, hr, .inr rfl⟩⟩
theorem linesX_len (l : List S48) : (linesX l).length ≤ 2 * l.length := by
 rw [← linesX_is, ← allX_len l, ← sorted_length (allX l)]; exact compact_len _
theorem linesY_len (l : List S48) : (linesY l).length ≤ 2 * l.length := by
 rw [← linesY_is, ← allY_len l, ← sorted_length (allY l)]; exact compact_len _
theorem OwnI.base0 {W : World} {base : Nat} {v : Value} {xs : List Int} (h : OwnI W base v xs) : OwnI W 0 v xs := by
 obtain ⟨h1, h2⟩ := h
 refine ⟨h1, ?_⟩
 rcases h2 with h2 | ⟨g, cap, cur, rfl, hbb, r⟩
 ·exact .inl h2
 ·exact .inr ⟨g, cap, cur, rfl, Nat.zero_le _, r⟩
set_option maxHeartbeats 4000000 in
set_option maxRecDepth 100000 in
theorem gridOf_calls (A0 : Option Addr) (c0 : Nat) (l0 : List S48) (w : World) (hr0 : Kd.C k48 w A0 l0.length l0) (hc0 : l0.length ≤ c0) (hok : areRs l0 32 = true) :
  Calls Try.prog 47 #[.slice A0 l0.length c0] w fun e w' => ∃ g dep Ax Ay Ad cx cy cd, e = .returned (.pointer (some ⟨g, 0, none⟩)) ∧ GridOf l0 w' g dep Ax Ay Ad cx cy cd ∧ Below w.heap.size w w' := by
 have hl32 : l0.length ≤ 32 := by
  have := hok; simp only [areRs, Bool.and_eq_true, decide_eq_true_eq] at this; omega
 have hall : ∀ r ∈ l0, isR r = true := by
  have := hok; simp only [areRs, Bool.and_eq_true, List.all_eq_true] at this; exact this.2
 have HNG := Aside0.mk (newGrid_calls A0 c0 l0 w hr0 hc0 (by omega))
 have HR0 := Aside0.mk hr0
 have HC0 := Aside0.mk hc0
 have HOK := Aside0.mk hok
 have HALL := Aside0.mk hall
 have hnx := linesX_len l0
 have hny := linesY_len l0
 have HM := Aside0.mk (fun r (hr : r ∈ l0) => (⟨(allX_in l0 hr).1, (allY_in l0 hr).1, (allX_in l0 hr).2, (allY_in l0 hr).2⟩ : r.f0 ∈ linesX l0 ∧ r.f1 ∈ linesY l0 ∧ r.f2 ∈ linesX l0 ∧ r.f3 ∈ linesY l0))
 clear hr0 hc0 hok hall
 go_enter Try.func47, Try.ntmps47
 go_wp2_with (first
  | (go_at_call 64; (with_reducible refine HNG.out.mono ?_); rintro e w1 ⟨rfl, vx, vy, hN⟩; rw [linesX_is, linesY_is] at hN; obtain ⟨Ax, cx, rfl⟩ := own_form hN.X; obtain ⟨Ay, cy, rfl⟩ := own_form hN.Y; have HN := Aside0.mk hN; clear hN; have HCT := Aside0.mk (count_calls A0 c0 l0 w w1 w.heap.size Ax Ay cx cy (linesX l0) (linesY l0) HR0.out HC0.out (by omega) HN.out.B (Nat.le_refl _) HN.out.G HN.out.X.base0 HN.out.Y.base0 ((linesX_lt l0).imp Int.le_of_lt) ((linesY_lt l0).imp Int.le_of_lt) (by omega) (by omega) HM.out))
  | (go_at_call 66; (with_reducible refine HCT.out.mono ?_); rintro e w2 ⟨rfl, hT⟩; have HT := Aside0.mk hT; clear hT))
 refine bodyPost_ret (results_tmp rfl _ _ _) rfl ?_
 have hgw := grownBy_set w1 ⟨w.heap.size, 2, none⟩ (.slice (some ⟨w1.heap.size, 0, none⟩) (linesX l0).length (linesX l0).length)
 have hx2 : OwnI w2 0 (.slice Ax (linesX l0).length cx) (linesX l0) := (HN.out.X.base0.grown hgw (fun q hq e => own_ne_blk HN.out.X HN.out.G (by decide) q hq (by injection e))).below (fun q hq => (HN.out.X.lt hq).1) HT.out.B
 have hy2 : OwnI w2 0 (.slice Ay (linesY l0).length cy) (linesY l0) := (HN.out.Y.base0.grown hgw (fun q hq e => own_ne_blk HN.out.Y HN.out.G (by decide) q hq (by injection e))).below (fun q hq => (HN.out.Y.lt hq).1) HT.out.B
 obtain ⟨A1, c1, e1, hl1, hC1⟩ := hx2.reads (by omega)
 obtain ⟨A2, c2, e2, hl2, hC2⟩ := hy2.reads (by omega)
 injection e1 with e1 _ e1'
 injection e2 with e2 _ e2'
 subst e1 e1' e2 e2'
 have hT := HT.out
 have hG : w2.heap[w.heap.size]? = some (.cells #[.slice Ax (linesX l0).length cx, .slice Ay (linesY l0).length cy, .slice (some ⟨w1.heap.size, 0, none⟩) (linesX l0).length (linesX l0).length] 79 (0, 0)) :=
  (hT.B.block _ (blk_lt HN.out.G)).trans (blk_put HN.out.G 2 _ rfl)
 have hD := hT.toC (by omega) (by omega)
 have hB : Below w.heap.size w w2 := (HN.out.B.setCell (p := ⟨w.heap.size, 2, none⟩) (Nat.le_refl _) _).trans (hT.B.mono HN.out.B.size)
 refine ⟨w.heap.size, depT (linesX l0).length (linesY l0).length (fun i j => wrap64 (PT (D1 (linesX l0) (linesY l0) (l0.flatMap four)) i j)), Ax, Ay, some ⟨w1.heap.size, 0, none⟩, cx, cy, (linesX l0).length, rfl, ⟨HOK.out, ⟨?_, hC1, hC2, ?_, hl1, hl2, ?_⟩, ⟨depT_len _ _ _, ?_⟩, ?_⟩, hB⟩
 ·rw [depT_len]; exact hG
 ·rw [depT_len]; exact hD
 ·rw [depT_len]; exact Nat.le_refl _
 ·intro r hr
  unfold depT at hr
  obtain ⟨i, _, rfl⟩ := List.mem_map.1 hr
  simp
 ·intro i j hi hj
  rw [depT_at _ _ _ i j hi hj, depth_is (linesX_lt l0) (linesY_lt l0) hi hj l0 HM.out (fun r hr => isR_lt (HALL.out r hr))]
  have := depthL_range l0 (linesX l0)[i] (linesY l0)[j]
  simp only [List.getD_eq_getElem?_getD, List.getElem?_eq_getElem hi, List.getElem?_eq_getElem hj, Option.getD_some]
  unfold wrap64; omega
end Go.Proofs.Ytplhfbkejngioaa.X
namespace Go.Proofs.Ytplhfbkejngioaa.X
open Go.RowKit Go.Proofs.YtplhfbkejngioaaW Go.Proofs.YtplhfbkejngioaaW.PrintWords
set_option linter.unusedVariables false
theorem short32 {l : List S48} (h : areRs l 32 = true) : l.length ≤ 32 := by
 simp only [areRs, Bool.and_eq_true, decide_eq_true_eq] at h; omega
theorem allR {l : List S48} {k : Int} (h : areRs l k = true) : ∀ r ∈ l, isR r = true := by
 simp only [areRs, Bool.and_eq_true, List.all_eq_true] at h; exact h.2
theorem linesX_short {l : List S48} (h : areRs l 32 = true) : (linesX l).length ≤ 1000000 := by have := linesX_len l; have := short32 h; omega
theorem linesY_short {l : List S48} (h : areRs l 32 = true) : (linesY l).length ≤ 1000000 := by have := linesY_len l; have := short32 h; omega
theorem linesX_64 {l : List S48} (h : areRs l 32 = true) : (linesX l).length ≤ 64 := by have := linesX_len l; have := short32 h; omega
theorem linesY_64 {l : List S48} (h : areRs l 32 = true) : (linesY l).length ≤ 64 := by have := linesY_len l; have := short32 h; omega
theorem linesX_rng {l : List S48} (h : areRs l 32 = true) {x : Int} (hx : x ∈ linesX l) : -256 ≤ x ∧ x ≤ 256 := by
 rw [linesX_mem] at hx
 unfold allX at hx
 simp only [List.mem_flatMap, List.mem_cons, List.not_mem_nil, or_false] at hx
 obtain ⟨r, hr, e⟩ := hx
 have := allR h r hr
 simp only [isR, inC, Bool.and_eq_true, decide_eq_true_eq] at this
 omega
theorem linesY_rng {l : List S48} (h : areRs l 32 = true) {x : Int} (hx : x ∈ linesY l) : -256 ≤ x ∧ x ≤ 256 := by
 rw [linesY_mem] at hx
 unfold allY at hx
 simp only [List.mem_flatMap, List.mem_cons, List.not_mem_nil, or_false] at hx
 obtain ⟨r, hr, e⟩ := hx
 have := allR h r hr
 simp only [isR, inC, Bool.and_eq_true, decide_eq_true_eq] at this
 omega
theorem depth_pos {l : List S48} {x y : Int} : 0 < depthL l x y ↔ ∃ r ∈ l, covers r x y = true := by
 unfold depthL
 rw [← List.any_eq_true (p := fun r => covers r x y)]
 constructor
 ·intro h
  have : 0 < (l.filter fun r => covers r x y).length := by omega
  obtain ⟨r, hr⟩ := List.exists_mem_of_length_pos this
  rw [List.any_eq_true]
  exact ⟨r, (List.mem_filter.1 hr).1, (List.mem_filter.1 hr).2⟩
 ·intro h
  obtain ⟨r, hr, hc⟩ := List.any_eq_true.1 h
  have := List.length_pos_of_mem (List.mem_filter (p := fun r => covers r x y) |>.2 ⟨hr, hc⟩)
  omega
theorem next_of_gt {xs : List Int} (h : xs.Pairwise (· < ·)) {i : Nat} (hi : i < xs.length) {z : Int} (hz : z ∈ xs) (hlt : xs[i] < z) : i + 1 < xs.length := by
 obtain ⟨k, hk, rfl⟩ := List.mem_iff_getElem.1 hz
 rcases Nat.lt_or_ge i k with e | e
 ·omega
 ·rcases Nat.lt_or_ge k i with e2 | e2
  ·have := List.pairwise_iff_getElem.1 h k i hk hi e2; omega
  ·have : k = i := by omega
   subst this; omega
theorem hasL_in {l : List S48} {W : World} {g : Nat} {dep : List (List Int)} {A0 A1 A2 : Option Addr} {c0 c1 c2 : Nat} (h : GridOf l W g dep A0 A1 A2 c0 c1 c2) {i j : Nat} (hi : i < (linesX l).length) (hj : j < (linesY l).length) :
  hasL (linesX l) (linesY l) dep (i : Int) (j : Int) = decide (0 < depthL l (linesX l)[i] (linesY l)[j]) := by
 have hv := h.val i j hi hj
 simp only [List.getD_eq_getElem?_getD, List.getElem?_eq_getElem hi, List.getElem?_eq_getElem hj, Option.getD_some] at hv
 unfold hasL
 rw [hv]
 have e1 : decide (0 ≤ (i : Int)) = true := decide_eq_true (by omega)
 have e2 : decide ((i : Int) ≤ ((linesX l).length : Int) - 1) = true := decide_eq_true (by omega)
 have e3 : decide (0 ≤ (j : Int)) = true := decide_eq_true (by omega)
 have e4 : decide ((j : Int) ≤ ((linesY l).length : Int) - 1) = true := decide_eq_true (by omega)
 rw [e1, e2, e3, e4]; simp
theorem depth_next {l : List S48} {i j : Nat} (hi : i < (linesX l).length) (hj : j < (linesY l).length) (h : 0 < depthL l (linesX l)[i] (linesY l)[j]) : i + 1 < (linesX l).length ∧ j + 1 < (linesY l).length := by
 obtain ⟨r, hr, hc⟩ := depth_pos.1 h
 simp only [covers, Bool.and_eq_true, decide_eq_true_eq] at hc
 exact ⟨next_of_gt (linesX_lt l) hi (allX_in l hr).2 hc.1.1.2, next_of_gt (linesY_lt l) hj (allY_in l hr).2 hc.2⟩
theorem grid_good {l : List S48} {W : World} {g : Nat} {dep : List (List Int)} {A0 A1 A2 : Option Addr} {c0 c1 c2 : Nat} (h : GridOf l W g dep A0 A1 A2 c0 c1 c2) :
  ∀ i j, i < (linesX l).length → j < (linesY l).length → hasL (linesX l) (linesY l) dep (i : Int) (j : Int) = true → GoodIJ (linesX l) (linesY l) dep (i, j) := by
 intro i j hi hj hh
 have hd := hh
 rw [hasL_in h hi hj, decide_eq_true_eq] at hd
 have := depth_next hi hj hd
 exact ⟨this.1, this.2, hh⟩
theorem foldl_at {β : Type} (f : β → Int → β) (xs : List Int) (b : β) : xs.foldl f b = (List.range xs.length).foldl (fun b i => f b (xs.getD i 0)) b := by
 have : xs = (List.range xs.length).map fun i => xs.getD i 0 := by
  apply List.ext_getElem
  ·simp
  ·intro i h1 h2; simp [h1]
 conv => lhs; rw [this]
 rw [List.foldl_map]
theorem foldl_parts {β : Type} (f : β → Nat × Nat → β) (xs ys : List Int) (dep : List (List Int)) (k : Nat) (b : β) : (partsUp xs ys dep k).foldl f b = (List.range k).foldl (fun b i => (partsRow xs ys dep i ys.length).foldl f b) b := by
 induction k with
 | zero => rfl
 | succ k ih => rw [partsUp_succ, List.foldl_append, ih, List.range_succ, List.foldl_append]; rfl
theorem deepStep_nonneg (l : List S48) (b : Int × Int × Int) (x y : Int) (h : 0 ≤ b.1) : 0 ≤ (deepStep l b x y).1 := by
 unfold deepStep; split
 ·exact (depthL_range l x y).1
 ·exact h
theorem deepStep_zero (l : List S48) (b : Int × Int × Int) (x y : Int) (h : 0 ≤ b.1) (hd : ¬ 0 < depthL l x y) : deepStep l b x y = b := by
 unfold deepStep; rw [if_neg (by omega)]
theorem getD_at {xs : List Int} {i : Nat} (hi : i < xs.length) : xs.getD i 0 = xs[i] := by simp [hi]
theorem deep_row {l : List S48} {W : World} {g : Nat} {dep : List (List Int)} {A0 A1 A2 : Option Addr} {c0 c1 c2 : Nat} (h : GridOf l W g dep A0 A1 A2 c0 c1 c2) {i : Nat} (hi : i < (linesX l).length) :
  ∀ m, m ≤ (linesY l).length → ∀ b : Int × Int × Int, 0 ≤ b.1 →
   (partsRow (linesX l) (linesY l) dep i m).foldl (fun b x => deepStep l b ((linesX l).getD x.1 0) ((linesY l).getD x.2 0)) b = (List.range m).foldl (fun b j => deepStep l b ((linesX l).getD i 0) ((linesY l).getD j 0)) b ∧
   0 ≤ ((List.range m).foldl (fun b j => deepStep l b ((linesX l).getD i 0) ((linesY l).getD j 0)) b).1 := by
 intro m
 induction m with
 | zero => intro _ b hb; exact ⟨rfl, hb⟩
 | succ m ih =>
  intro hm b hb
  obtain ⟨e1, e2⟩ := ih (by omega) b hb
  rw [partsRow_succ, List.range_succ, List.foldl_append, List.foldl_append, e1]
  simp only [List.foldl_cons, List.foldl_nil]
  refine ⟨?_, deepStep_nonneg _ _ _ _ e2⟩
  rw [hasL_in h hi (show m < (linesY l).length by omega)]
  by_cases hd : 0 < depthL l (linesX l)[i] ((linesY l)[m]'(by omega))
  ·rw [if_pos (decide_eq_true hd)]; rfl
  ·rw [if_neg (by simpa using hd), List.foldl_nil, deepStep_zero _ _ _ _ e2 (by rw [getD_at hi, getD_at (show m < (linesY l).length by omega)]; exact hd)]
theorem deep_fold {l : List S48} {W : World} {g : Nat} {dep : List (List Int)} {A0 A1 A2 : Option Addr} {c0 c1 c2 : Nat} (h : GridOf l W g dep A0 A1 A2 c0 c1 c2) :
  (partsL (linesX l) (linesY l) dep).foldl (fun b x => deepStep l b ((linesX l).getD x.1 0) ((linesY l).getD x.2 0)) (0, 0, 0) = deepL l := by
 unfold deepL partsL
 rw [foldl_parts, foldl_at]
 have key : ∀ n, n ≤ (linesX l).length → ∀ b : Int × Int × Int, 0 ≤ b.1 →
   (List.range n).foldl (fun b i => (partsRow (linesX l) (linesY l) dep i (linesY l).length).foldl (fun b x => deepStep l b ((linesX l).getD x.1 0) ((linesY l).getD x.2 0)) b) b =
   (List.range n).foldl (fun b i => (linesY l).foldl (fun b y => deepStep l b ((linesX l).getD i 0) y) b) b ∧
   0 ≤ ((List.range n).foldl (fun b i => (linesY l).foldl (fun b y => deepStep l b ((linesX l).getD i 0) y) b) b).1 := by
  intro n
  induction n with
  | zero => intro _ b hb; exact ⟨rfl, hb⟩
  | succ n ih =>
   intro hn b hb
   obtain ⟨e1, e2⟩ := ih (by omega) b hb
   rw [List.range_succ, List.foldl_append, List.foldl_append, e1]
   simp only [List.foldl_cons, List.foldl_nil]
   have := deep_row h (show n < (linesX l).length by omega) (linesY l).length (Nat.le_refl _) _ e2
   rw [this.1, foldl_at (fun b y => deepStep l b ((linesX l).getD n 0) y) (linesY l)]
   exact ⟨rfl, this.2⟩
 exact (key _ (Nat.le_refl _) (0, 0, 0) (by decide)).1
end Go.Proofs.Ytplhfbkejngioaa.X
namespace Go.Proofs.Ytplhfbkejngioaa.X
open Go.RowKit Go.Proofs.YtplhfbkejngioaaW Go.Proofs.YtplhfbkejngioaaW.PrintWords
set_option linter.unusedVariables false
def S (n : Nat) (f : Nat → Int) : Int := sumL ((List.range n).map f)
theorem S_zero (f : Nat → Int) : S 0 f = 0 := rfl
theorem S_succ (n : Nat) (f : Nat → Int) : S (n + 1) f = S n f + f n := by unfold S; rw [List.range_succ, List.map_append, sumL_append]; simp [sumL]
theorem S_congr {n : Nat} {f f' : Nat → Int} (h : ∀ i, i < n → f i = f' i) : S n f = S n f' := by
 unfold S; congr 1; exact List.map_congr_left fun i hi => h i (by simpa using hi)
theorem S_nil {n : Nat} {f : Nat → Int} (h : ∀ i, i < n → f i = 0) : S n f = 0 := by
 induction n with
 | zero => rfl
 | succ n ih => rw [S_succ, ih (fun i hi => h i (by omega)), h n (by omega)]; rfl
theorem S_cut {n : Nat} {f : Nat → Int} (h : ∀ i, i < n → ¬ i + 1 < n → f i = 0) : S n f = S (n - 1) f := by
 cases n with
 | zero => rfl
 | succ n => rw [S_succ, h n (by omega) (by omega)]; simp
theorem sum_row (F : Nat × Nat → Int) (xs ys : List Int) (dep : List (List Int)) (i m : Nat) : sumL ((partsRow xs ys dep i m).map F) = S m fun j => if hasL xs ys dep (i : Int) (j : Int) then F (i, j) else 0 := by
 induction m with
 | zero => rfl
 | succ m ih =>
  rw [partsRow_succ, List.map_append, sumL_append, ih, S_succ]
  congr 1
  by_cases h : hasL xs ys dep (i : Int) (m : Int) = true
  ·rw [if_pos h, if_pos h]; simp [sumL]
  ·rw [if_neg h, if_neg h]; rfl
theorem sum_up (F : Nat × Nat → Int) (xs ys : List Int) (dep : List (List Int)) (k : Nat) : sumL ((partsUp xs ys dep k).map F) = S k fun i => S ys.length fun j => if hasL xs ys dep (i : Int) (j : Int) then F (i, j) else 0 := by
 induction k with
 | zero => rfl
 | succ k ih => rw [partsUp_succ, List.map_append, sumL_append, ih, S_succ, sum_row]
theorem nbs_range (xs : List Int) : nbs xs = (List.range (xs.length - 1)).map fun i => (xs.getD i 0, xs.getD (i + 1) 0) := by
 apply List.ext_getElem
 ·simp [nbs]
 ·intro i h1 h2
  simp [nbs] at h1 ⊢
  constructor
  ·rw [List.getElem?_eq_getElem (by omega)]; rfl
  ·rw [List.getElem?_eq_getElem (by omega)]; rfl
theorem sum_nbs (xs : List Int) (f : Int × Int → Int) : sumL ((nbs xs).map f) = S (xs.length - 1) fun i => f (xs.getD i 0, xs.getD (i + 1) 0) := by
 rw [nbs_range, List.map_map]; rfl
theorem sum_grid {l : List S48} {W : World} {g : Nat} {dep : List (List Int)} {A0 A1 A2 : Option Addr} {c0 c1 c2 : Nat} (h : GridOf l W g dep A0 A1 A2 c0 c1 c2) (F : Nat × Nat → Int) (G : Int × Int → Int × Int → Int)
  (hFG : ∀ i j, i + 1 < (linesX l).length → j + 1 < (linesY l).length → 0 < depthL l ((linesX l).getD i 0) ((linesY l).getD j 0) → F (i, j) = G ((linesX l).getD i 0, (linesX l).getD (i + 1) 0) ((linesY l).getD j 0, (linesY l).getD (j + 1) 0)) :
  sumL ((partsL (linesX l) (linesY l) dep).map F) = sumL ((nbs (linesX l)).map fun x => sumL ((nbs (linesY l)).map fun y => if 0 < depthL l x.1 y.1 then G x y else 0)) := by
 unfold partsL
 rw [sum_up, sum_nbs]
 have hz : ∀ i j, i < (linesX l).length → j < (linesY l).length → (¬ i + 1 < (linesX l).length ∨ ¬ j + 1 < (linesY l).length) → ¬ hasL (linesX l) (linesY l) dep (i : Int) (j : Int) = true := by
  intro i j hi hj hn hh
  have := grid_good h i j hi hj hh
  rcases hn with hn | hn
  ·exact hn this.1
  ·exact hn this.2.1
 rw [S_cut (fun i hi hn => S_nil fun j hj => if_neg (hz i j hi hj (.inl hn)))]
 refine S_congr fun i hi => ?_
 rw [S_cut (fun j hj hn => if_neg (hz i j (by omega) hj (.inr hn))), sum_nbs]
 refine S_congr fun j hj => ?_
 have hi' : i < (linesX l).length := by omega
 have hj' : j < (linesY l).length := by omega
 rw [hasL_in h hi' hj']
 have e1 := getD_at hi'
 have e2 := getD_at hj'
 by_cases hd : 0 < depthL l (linesX l)[i] (linesY l)[j]
 ·rw [if_pos (decide_eq_true hd), if_pos (by rw [e1, e2]; exact hd)]
  exact hFG i j (by omega) (by omega) (by rw [e1, e2]; exact hd)
 ·rw [if_neg (by simpa using hd), if_neg (by rw [e1, e2]; exact hd)]
end Go.Proofs.Ytplhfbkejngioaa.X
namespace Go.Proofs.Ytplhfbkejngioaa.X
open Go.RowKit Go.Proofs.YtplhfbkejngioaaW Go.Proofs.YtplhfbkejngioaaW.PrintWords
def termA (xs ys : List Int) (x : Nat × Nat) : Int := (xs.getD (x.1 + 1) 0 - xs.getD x.1 0) * (ys.getD (x.2 + 1) 0 - ys.getD x.2 0)
def sumA (xs ys : List Int) (zs : List (Nat × Nat)) : Int := sumL (zs.map (termA xs ys))
def edgeD (xs ys : List Int) (dep : List (List Int)) (x : Nat × Nat) (d : Int) : Int :=
 (if hasL xs ys dep ((x.1 : Int) + d) (x.2 : Int) then 0 else ys.getD (x.2 + 1) 0 - ys.getD x.2 0) + (if hasL xs ys dep (x.1 : Int) ((x.2 : Int) + d) then 0 else xs.getD (x.1 + 1) 0 - xs.getD x.1 0)
def edgeK (xs ys : List Int) (dep : List (List Int)) (x : Nat × Nat) : Nat → Int
 | 0 => 0
 | 1 => edgeD xs ys dep x (-1)
 | _ => edgeD xs ys dep x (-1) + edgeD xs ys dep x 1
def sumE (xs ys : List Int) (dep : List (List Int)) (zs : List (Nat × Nat)) : Int := sumL (zs.map fun x => edgeK xs ys dep x 2)
theorem edgeK_step0 (xs ys : List Int) (dep : List (List Int)) (x : Nat × Nat) : edgeK xs ys dep x 1 = edgeK xs ys dep x 0 +
  ((if hasL xs ys dep ((x.1 : Int) + -1) (x.2 : Int) then 0 else ys.getD (x.2 + 1) 0 - ys.getD x.2 0) + (if hasL xs ys dep (x.1 : Int) ((x.2 : Int) + -1) then 0 else xs.getD (x.1 + 1) 0 - xs.getD x.1 0)) := by
 simp [edgeK, edgeD]
theorem edgeK_step1 (xs ys : List Int) (dep : List (List Int)) (x : Nat × Nat) : edgeK xs ys dep x 2 = edgeK xs ys dep x 1 +
  ((if hasL xs ys dep ((x.1 : Int) + 1) (x.2 : Int) then 0 else ys.getD (x.2 + 1) 0 - ys.getD x.2 0) + (if hasL xs ys dep (x.1 : Int) ((x.2 : Int) + 1) then 0 else xs.getD (x.1 + 1) 0 - xs.getD x.1 0)) := by
 simp [edgeK, edgeD]
theorem sumE_snoc (xs ys : List Int) (dep : List (List Int)) (zs : List (Nat × Nat)) (x : Nat × Nat) : sumE xs ys dep (zs ++ [x]) = sumE xs ys dep zs + edgeK xs ys dep x 2 := by
 unfold sumE; rw [List.map_append]
 induction zs.map (fun x => edgeK xs ys dep x 2) with
 | nil => simp [sumL]
 | cons a t ih => simp only [List.cons_append, sumL, List.foldr_cons] at *; omega
theorem add_block (a : Addr) (n : Nat) : (a.add n).block = a.block := by unfold Addr.add; split <;> rfl
theorem drew_heap (W : World) : W.drew.heap = W.heap := rfl
theorem setCell_heap_ne (W : World) (p : Addr) (v : Value) {k : Nat} (h : k ≠ p.block) : ((W.setCell p v).drew).heap[k]? = W.heap[k]? := by
 rw [drew_heap]
 show (W.heap.modify p.block _)[k]? = _
 rw [Array.getElem?_modify, if_neg (Ne.symm h)]
theorem lines_diff {l : List S48} (h : areRs l 32 = true) (x : Nat × Nat) (h1 : x.1 + 1 < (linesX l).length) (h2 : x.2 + 1 < (linesY l).length) :
  -512 ≤ (linesX l).getD (x.1 + 1) 0 - (linesX l).getD x.1 0 ∧ (linesX l).getD (x.1 + 1) 0 - (linesX l).getD x.1 0 ≤ 512 ∧ -512 ≤ (linesY l).getD (x.2 + 1) 0 - (linesY l).getD x.2 0 ∧ (linesY l).getD (x.2 + 1) 0 - (linesY l).getD x.2 0 ≤ 512 := by
 rw [getD_at h1, getD_at h2, getD_at (show x.1 < _ by omega), getD_at (show x.2 < _ by omega)]
 have a := linesX_rng h (List.getElem_mem h1)
 have b := linesX_rng h (List.getElem_mem (show x.1 < (linesX l).length by omega))
 have c := linesY_rng h (List.getElem_mem h2)
 have d := linesY_rng h (List.getElem_mem (show x.2 < (linesY l).length by omega))
 omega
theorem sq_small {a b : Int} (h : -512 ≤ a ∧ a ≤ 512 ∧ -512 ≤ b ∧ b ≤ 512) : -262144 ≤ a * b ∧ a * b ≤ 262144 := by
 have h1 : 0 ≤ (512 - a) * (512 - b) := Int.mul_nonneg (by omega) (by omega)
 have h2 : 0 ≤ (512 + a) * (512 + b) := Int.mul_nonneg (by omega) (by omega)
 have h3 : 0 ≤ (512 - a) * (512 + b) := Int.mul_nonneg (by omega) (by omega)
 have h4 : 0 ≤ (512 + a) * (512 - b) := Int.mul_nonneg (by omega) (by omega)
 constructor <;> grind
theorem sumA_snoc (xs ys : List Int) (zs : List (Nat × Nat)) (x : Nat × Nat) : sumA xs ys (zs ++ [x]) = sumA xs ys zs + termA xs ys x := by
 unfold sumA; rw [List.map_append, sumL_append]; simp [sumL]
theorem sum_bound {α : Type} (f : α → Int) (B : Int) (l : List α) (h : ∀ x ∈ l, -B ≤ f x ∧ f x ≤ B) : -(B * l.length) ≤ sumL (l.map f) ∧ sumL (l.map f) ≤ B * l.length := by
 induction l with
 | nil => simp [sumL]
 | cons a t ih =>
  have h1 := h a (List.mem_cons_self ..)
  have h2 := ih (fun x hx => h x (List.mem_cons_of_mem _ hx))
  simp only [List.map_cons, sumL, List.foldr_cons, List.length_cons] at h2 ⊢
  rw [Int.natCast_add, Int.mul_add]
  omega
theorem pre_short {l : List S48} (h : areRs l 32 = true) {k : Nat} (hl : k < (linesX l).length * (linesY l).length + 1) : (k : Int) ≤ 4096 := by
 have := Nat.mul_le_mul (linesX_64 h) (linesY_64 h); omega
theorem sumA_small {l : List S48} (h : areRs l 32 = true) {dep : List (List Int)} (pre : List (IJ (linesX l) (linesY l) dep)) (hl : pre.length < (linesX l).length * (linesY l).length + 1) :
  -1073741824 ≤ sumA (linesX l) (linesY l) (pre.map (·.1)) ∧ sumA (linesX l) (linesY l) (pre.map (·.1)) ≤ 1073741824 := by
 have hb := sum_bound (termA (linesX l) (linesY l)) 262144 (pre.map (·.1)) (fun x hx => by
  obtain ⟨y, _, rfl⟩ := List.mem_map.1 hx
  exact sq_small (lines_diff h y.1 y.2.1 y.2.2.1))
 have := pre_short h hl
 rw [List.length_map] at hb
 unfold sumA; omega
theorem wrap64_id {x : Int} (h : -9223372036854775808 ≤ x ∧ x ≤ 9223372036854775807) : wrap64 x = x := by unfold wrap64; omega
theorem rd_nat (xs : List Int) (i : Nat) : PrintWords.rd xs (i : Int) = xs.getD i 0 := by simp [PrintWords.rd]
theorem sumA_step {l : List S48} (h : areRs l 32 = true) {dep : List (List Int)} (pre : List (IJ (linesX l) (linesY l) dep)) (x : Nat × Nat) (hl : pre.length < (linesX l).length * (linesY l).length + 1) (h1 : x.1 + 1 < (linesX l).length) (h2 : x.2 + 1 < (linesY l).length) :
  wrap64 (sumA (linesX l) (linesY l) (pre.map (·.1)) + wrap64 (wrap64 (PrintWords.rd (linesX l) ((x.1 : Int) + 1) - rd (linesX l) (x.1 : Int)) * wrap64 (rd (linesY l) ((x.2 : Int) + 1) - rd (linesY l) (x.2 : Int)))) = sumA (linesX l) (linesY l) (pre.map (·.1) ++ [x]) := by
 have hs := sumA_small h pre hl
 have hd := lines_diff h x h1 h2
 have e1 := rd_nat (linesX l) (x.1 + 1)
 have e2 := rd_nat (linesY l) (x.2 + 1)
 rw [Int.natCast_add] at e1 e2
 have e1' : rd (linesX l) ((x.1 : Int) + 1) = (linesX l).getD (x.1 + 1) 0 := e1
 have e2' : rd (linesY l) ((x.2 : Int) + 1) = (linesY l).getD (x.2 + 1) 0 := e2
 rw [e1', e2', rd_nat, rd_nat, sumA_snoc]
 unfold termA
 generalize (linesX l).getD (x.1 + 1) 0 - (linesX l).getD x.1 0 = a at *
 generalize (linesY l).getD (x.2 + 1) 0 - (linesY l).getD x.2 0 = b at *
 have hq := sq_small hd
 rw [wrap64_id (x := a) (by omega), wrap64_id (x := b) (by omega), wrap64_id (x := a * b) (by omega), wrap64_id (by omega)]
theorem sumA_area {l : List S48} {W : World} {g : Nat} {dep : List (List Int)} {A0 A1 A2 : Option Addr} {c0 c1 c2 : Nat} (h : GridOf l W g dep A0 A1 A2 c0 c1 c2) : sumA (linesX l) (linesY l) (partsL (linesX l) (linesY l) dep) = areaL l := by
 unfold sumA areaL
 exact sum_grid h (termA (linesX l) (linesY l)) (fun x y => (x.2 - x.1) * (y.2 - y.1)) (fun i j _ _ _ => rfl)
theorem edgeD_small {l : List S48} (h : areRs l 32 = true) (dep : List (List Int)) (x : Nat × Nat) (h1 : x.1 + 1 < (linesX l).length) (h2 : x.2 + 1 < (linesY l).length) (d : Int) :
  -1024 ≤ edgeD (linesX l) (linesY l) dep x d ∧ edgeD (linesX l) (linesY l) dep x d ≤ 1024 := by
 have := lines_diff h x h1 h2
 unfold edgeD
 split <;> split <;> omega
theorem edgeK_small {l : List S48} (h : areRs l 32 = true) (dep : List (List Int)) (x : Nat × Nat) (h1 : x.1 + 1 < (linesX l).length) (h2 : x.2 + 1 < (linesY l).length) (k : Nat) :
  -4096 ≤ edgeK (linesX l) (linesY l) dep x k ∧ edgeK (linesX l) (linesY l) dep x k ≤ 4096 := by
 have a := edgeD_small h dep x h1 h2 (-1)
 have b := edgeD_small h dep x h1 h2 1
 unfold edgeK
 split <;> omega
theorem sumE_small {l : List S48} (h : areRs l 32 = true) {dep : List (List Int)} (pre : List (IJ (linesX l) (linesY l) dep)) (hl : pre.length < (linesX l).length * (linesY l).length + 1) :
  -100000000 ≤ sumE (linesX l) (linesY l) dep (pre.map (·.1)) ∧ sumE (linesX l) (linesY l) dep (pre.map (·.1)) ≤ 100000000 := by
 have hb := sum_bound (fun x => edgeK (linesX l) (linesY l) dep x 2) 4096 (pre.map (·.1)) (fun x hx => by
  obtain ⟨y, _, rfl⟩ := List.mem_map.1 hx
  exact edgeK_small h dep y.1 y.2.1 y.2.2.1 2)
 have := pre_short h hl
 rw [List.length_map] at hb
 unfold sumE; omega
theorem line_lt {xs : List Int} (h : xs.Pairwise (· < ·)) {i : Nat} (hi : i + 1 < xs.length) {z : Int} (hz : z ∈ xs) : z < xs[i + 1] ↔ z ≤ xs[i] := by
 obtain ⟨k, hk, rfl⟩ := List.mem_iff_getElem.1 hz
 have hm := List.pairwise_iff_getElem.1 h
 have h0 := hm i (i + 1) (by omega) hi (by omega)
 constructor
 ·intro hlt
  rcases Nat.lt_or_ge i k with e | e
  ·rcases Nat.lt_or_ge (i + 1) k with e2 | e2
   ·have := hm (i + 1) k hi hk e2; omega
   ·have : k = i + 1 := by omega
    subst this; omega
  ·rcases Nat.lt_or_ge k i with e2 | e2
   ·exact Int.le_of_lt (hm k i hk (by omega) e2)
   ·have : k = i := by omega
    subst this; exact Int.le_refl _
 ·intro hle; omega
theorem line_ge {xs : List Int} (h : xs.Pairwise (· < ·)) (hi : 0 < xs.length) {z : Int} (hz : z ∈ xs) : xs[0] ≤ z := by
 obtain ⟨k, hk, rfl⟩ := List.mem_iff_getElem.1 hz
 rcases Nat.eq_zero_or_pos k with e | e
 ·subst e; exact Int.le_refl _
 ·exact Int.le_of_lt (List.pairwise_iff_getElem.1 h 0 k hi hk e)
theorem depth_congr {l : List S48} {x y x' y' : Int} (h : ∀ r ∈ l, covers r x y = covers r x' y') : depthL l x y = depthL l x' y' := by
 unfold depthL
 rw [List.filter_congr h]
theorem depth_left {l : List S48} {i : Nat} (hi : i + 1 < (linesX l).length) (y : Int) : depthL l ((linesX l)[i + 1] - 1) y = depthL l (linesX l)[i] y := by
 refine depth_congr fun r hr => ?_
 have a := line_lt (linesX_lt l) hi (allX_in l hr).1
 have b := line_lt (linesX_lt l) hi (allX_in l hr).2
 unfold covers
 rw [show decide (r.f0 ≤ (linesX l)[i + 1] - 1) = decide (r.f0 ≤ (linesX l)[i]) from decide_eq_decide.2 (by omega), show decide ((linesX l)[i + 1] - 1 < r.f2) = decide ((linesX l)[i] < r.f2) from decide_eq_decide.2 (by omega)]
theorem depth_low {l : List S48} {i : Nat} (hi : i + 1 < (linesY l).length) (x : Int) : depthL l x ((linesY l)[i + 1] - 1) = depthL l x (linesY l)[i] := by
 refine depth_congr fun r hr => ?_
 have a := line_lt (linesY_lt l) hi (allY_in l hr).1
 have b := line_lt (linesY_lt l) hi (allY_in l hr).2
 unfold covers
 rw [show decide (r.f1 ≤ (linesY l)[i + 1] - 1) = decide (r.f1 ≤ (linesY l)[i]) from decide_eq_decide.2 (by omega), show decide ((linesY l)[i + 1] - 1 < r.f3) = decide ((linesY l)[i] < r.f3) from decide_eq_decide.2 (by omega)]
theorem depth_left0 {l : List S48} (hi : 0 < (linesX l).length) (y : Int) : depthL l ((linesX l)[0] - 1) y = 0 := by
 have hn : ¬ 0 < depthL l ((linesX l)[0] - 1) y := by
  intro h
  obtain ⟨r, hr, hc⟩ := depth_pos.1 h
  have := line_ge (linesX_lt l) hi (allX_in l hr).1
  simp only [covers, Bool.and_eq_true, decide_eq_true_eq] at hc
  omega
 have := (depthL_range l ((linesX l)[0] - 1) y).1
 omega
theorem depth_low0 {l : List S48} (hi : 0 < (linesY l).length) (x : Int) : depthL l x ((linesY l)[0] - 1) = 0 := by
 have hn : ¬ 0 < depthL l x ((linesY l)[0] - 1) := by
  intro h
  obtain ⟨r, hr, hc⟩ := depth_pos.1 h
  have := line_ge (linesY_lt l) hi (allY_in l hr).1
  simp only [covers, Bool.and_eq_true, decide_eq_true_eq] at hc
  omega
 have := (depthL_range l x ((linesY l)[0] - 1)).1
 omega
theorem hasL_out (xs ys : List Int) (dep : List (List Int)) (i j : Int) (h : i < 0 ∨ j < 0) : hasL xs ys dep i j = false := by
 unfold hasL
 rcases h with h | h
 ·rw [show decide (0 ≤ i) = false from decide_eq_false (by omega)]; simp
 ·rw [show decide (0 ≤ j) = false from decide_eq_false (by omega)]; simp
theorem pos_not {l : List S48} {x y : Int} : (¬ 0 < depthL l x y) ↔ depthL l x y = 0 := by have := (depthL_range l x y).1; omega
theorem ite_has {l : List S48} {x y v : Int} {b : Bool} (hb : b = decide (0 < depthL l x y)) : (if b = true then 0 else v) = if depthL l x y = 0 then v else 0 := by
 subst hb
 by_cases h : 0 < depthL l x y
 ·rw [if_pos (decide_eq_true h), if_neg (by omega)]
 ·rw [if_neg (by simpa using h), if_pos (pos_not.1 h)]
theorem sumE_edge {l : List S48} {W : World} {g : Nat} {dep : List (List Int)} {A0 A1 A2 : Option Addr} {c0 c1 c2 : Nat} (h : GridOf l W g dep A0 A1 A2 c0 c1 c2) : sumE (linesX l) (linesY l) dep (partsL (linesX l) (linesY l) dep) = edgeL l := by
 unfold sumE edgeL
 refine sum_grid h (fun x => edgeK (linesX l) (linesY l) dep x 2) (fun x y => (if depthL l (x.1 - 1) y.1 = 0 then y.2 - y.1 else 0) + (if depthL l x.2 y.1 = 0 then y.2 - y.1 else 0) +
  (if depthL l x.1 (y.1 - 1) = 0 then x.2 - x.1 else 0) + (if depthL l x.1 y.2 = 0 then x.2 - x.1 else 0)) (fun i j hi hj hd => ?_)
 simp only [edgeK, edgeD]
 have hi' : i < (linesX l).length := by omega
 have hj' : j < (linesY l).length := by omega
 have p1 : hasL (linesX l) (linesY l) dep ((i : Int) + -1) (j : Int) = decide (0 < depthL l ((linesX l).getD i 0 - 1) ((linesY l).getD j 0)) := by
  rw [getD_at hi', getD_at hj']
  cases i with
  | zero => rw [hasL_out _ _ _ _ _ (.inl (by omega)), depth_left0 hi']; simp
  | succ i => rw [show ((i + 1 : Nat) : Int) + -1 = (i : Int) by omega, hasL_in h (by omega) hj', depth_left hi']
 have p2 : hasL (linesX l) (linesY l) dep (i : Int) ((j : Int) + -1) = decide (0 < depthL l ((linesX l).getD i 0) ((linesY l).getD j 0 - 1)) := by
  rw [getD_at hi', getD_at hj']
  cases j with
  | zero => rw [hasL_out _ _ _ _ _ (.inr (by omega)), depth_low0 hj']; simp
  | succ j => rw [show ((j + 1 : Nat) : Int) + -1 = (j : Int) by omega, hasL_in h hi' (by omega), depth_low hj']
 have p3 : hasL (linesX l) (linesY l) dep ((i : Int) + 1) (j : Int) = decide (0 < depthL l ((linesX l).getD (i + 1) 0) ((linesY l).getD j 0)) := by
  rw [getD_at hi, getD_at hj', ← hasL_in h hi hj']; rfl
 have p4 : hasL (linesX l) (linesY l) dep (i : Int) ((j : Int) + 1) = decide (0 < depthL l ((linesX l).getD i 0) ((linesY l).getD (j + 1) 0)) := by
  rw [getD_at hi', getD_at hj, ← hasL_in h hi' hj]; rfl
 rw [ite_has p1, ite_has p2, ite_has p3, ite_has p4]
 omega
end Go.Proofs.Ytplhfbkejngioaa.X
namespace Go.Proofs.Ytplhfbkejngioaa.X
open Go.RowKit Go.Shelf Go.Proofs.YtplhfbkejngioaaW.PrintWords Go.Proofs.YtplhfbkejngioaaW.PrintLast Go.Proofs.Ytplhfbkejngioaa.S
set_option linter.unusedVariables false
structure KeepG (n₀ : Nat) (W W' : World) : Prop where
 below : Below n₀ W W'
 b0 : W'.heap[n₀]? = W.heap[n₀]?
 b2 : W'.heap[n₀ + 2]? = W.heap[n₀ + 2]?
theorem KeepG.refl (n₀ : Nat) (W : World) : KeepG n₀ W W := ⟨Below.refl _ _, rfl, rfl⟩
theorem KeepG.trans {n₀ : Nat} {A B C : World} (h : KeepG n₀ A B) (k : KeepG n₀ B C) : KeepG n₀ A C := ⟨h.below.trans k.below, k.b0.trans h.b0, k.b2.trans h.b2⟩
theorem KeepG.drewN (n₀ : Nat) (W : World) (m : Nat) : KeepG n₀ W (W.drewN m) := ⟨pw_below_drewN (Below.refl _ _) _, by simp, by simp⟩
structure Here (g : Nat) (w2 W wA : World) (v : Int) : Prop where
 BN : wA.heap[w2.heap.size + 1]? = some (.cells #[.int .i64 v] 3 (0, 0))
 BG : wA.heap[w2.heap.size]? = some (.cells #[.pointer (some ⟨g, 0, none⟩)] 72 (0, 0))
 KG : KeepG w2.heap.size W wA
 BW : Below w2.heap.size w2 wA
 KO : KeepsOthers W wA
variable {g : Nat} {w2 W wA wB : World} {v : Int}
theorem keepsOthers_drewN (W : World) (n : Nat) : KeepsOthers W (W.drewN n) := ⟨Nat.le_refl _, fun _ _ h _ => h⟩
theorem Here.drawn (h : Here g w2 W wA v) (hd : Drawn0 wA wB) : Here g w2 W wB v := by
 obtain ⟨n, rfl⟩ := hd
 exact ⟨h.BN, h.BG, h.KG.trans (KeepG.drewN _ _ _), pw_below_drewN h.BW _, h.KO.trans (keepsOthers_drewN _ _)⟩
theorem heap_drew (W : World) : W.drew.heap = W.heap := rfl
theorem setCell_other (W : World) (p : Addr) (v : Value) {k : Nat} (h : k ≠ p.block) : (W.setCell p v).heap[k]? = W.heap[k]? := by
 show (W.heap.modify p.block _)[k]? = _
 rw [Array.getElem?_modify, if_neg (Ne.symm h)]
theorem Here.put (h : Here g w2 W wA v) (u : Int) : Here g w2 W ((wA.setCell ⟨w2.heap.size + 1, 0, none⟩ (.int .i64 u)).drew) u := by
 have b : Below w2.heap.size wA ((wA.setCell ⟨w2.heap.size + 1, 0, none⟩ (.int .i64 u)).drew) := ((Below.refl w2.heap.size wA).setCell (p := ⟨w2.heap.size + 1, 0, none⟩) (by simp) _).drew
 refine ⟨?_, ?_, h.KG.trans ⟨b, ?_, ?_⟩, h.BW.trans b, h.KO.trans ((KeepsOthers.setCell wA _ _).trans (KeepsOthers.drew _))⟩
 ·rw [heap_drew]; exact one_setCell h.BN
 ·rw [heap_drew, setCell_other _ _ _ (by simp)]; exact h.BG
 ·rw [heap_drew, setCell_other _ _ _ (by simp)]
 ·rw [heap_drew, setCell_other _ _ _ (by simp)]
theorem Here.cast {u : Int} (h : Here g w2 W wA v) (e : v = u) : Here g w2 W wA u := e ▸ h
theorem Here.facts {xs ys : List Int} {dep : List (List Int)} {A0 A1 A2 : Option Addr} {c0 c1 c2 : Nat} {p1 p2 p3 p4 : Addr} {v1 v2 v3 v4 : Value} (h : Here g w2 W wA v) (hG : IsGrid w2 g xs ys dep A0 A1 A2 c0 c1 c2)
  (z1 : w2.cell? p1 = some v1) (z2 : w2.cell? p2 = some v2) (z3 : w2.cell? p3 = some v3) (z4 : w2.cell? p4 = some v4) :
  wA.cell? ⟨w2.heap.size + 1, 0, none⟩ = some (.int .i64 v) ∧ wA.frozen? ⟨w2.heap.size + 1, 0, none⟩ = false ∧ wA.cell? ⟨w2.heap.size, 0, none⟩ = some (.pointer (some ⟨g, 0, none⟩)) ∧
  wA.cell? ⟨g, 0, none⟩ = some (.slice A0 xs.length c0) ∧ wA.cell? ⟨g, 1, none⟩ = some (.slice A1 ys.length c1) ∧ wA.cell? ⟨g, 2, none⟩ = some (.slice A2 dep.length c2) ∧
  wA.cell? p1 = some v1 ∧ wA.cell? p2 = some v2 ∧ wA.cell? p3 = some v3 ∧ wA.cell? p4 = some v4 := by
 have b := hG.below h.BW
 exact ⟨cell_of_one h.BN, free_of_one h.BN, cell_of_one h.BG, (blk_cell b.blk 0).trans rfl, (blk_cell b.blk 1).trans rfl, (blk_cell b.blk 2).trans rfl,
  pw_cell_below h.BW z1, pw_cell_below h.BW z2, pw_cell_below h.BW z3, pw_cell_below h.BW z4⟩
end Go.Proofs.Ytplhfbkejngioaa.X
