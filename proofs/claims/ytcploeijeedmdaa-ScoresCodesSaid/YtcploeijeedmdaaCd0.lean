/- Texts of this claim's session, put together: SCodeT, Pd. -/
import Derived.Test.YtcploeijeedmdaaBb2
import Derived.Test.YtcploeijeedmdaaVRepsOne
import Derived.Test.YtcploeijeedmdaaVWords
import Derived.Test.YtcploeijeedmdaaVLast
namespace Go.Proofs.Ytcploeijeedmdaa.X
set_option linter.unusedVariables false
set_option linter.unusedSimpArgs false
def lf (d : List Int) : Nat := d.findIdx (· == 1)
def stepL (d : List Int) (x : Nat) : List Int := (d.set (lf d) 0).set x ((d.set (lf d) 0).getD x 0 - 1)
def nzc (d : List Int) : Nat := d.countP (· != 0)
structure CInv (n : Nat) (d : List Int) (cs : List Nat) : Prop where
 len : d.length = n
 val : ∀ x, x < n → (d.getD x 0 = 0 ∧ cs.count x = 0) ∨ d.getD x 0 = 1 + cs.count x
 nzs : nzc d = cs.length + 2
 sum : d.sum = 2 * cs.length + 2
 lt : ∀ x ∈ cs, x < n
theorem two_nzc : ∀ (d : List Int), (∀ y ∈ d, y = 0 ∨ 2 ≤ y) → 2 * (nzc d : Int) ≤ d.sum := by
 intro d
 induction d with
 | nil => intro _; simp [nzc]
 | cons a d ih =>
  intro h
  have h1 := ih (fun y hy => h y (List.mem_cons_of_mem _ hy))
  rw [List.sum_cons]
  unfold nzc at h1 ⊢
  rw [List.countP_cons]
  rcases h a List.mem_cons_self with h | h
  ·subst h; simp; omega
  ·have : (a != 0) = true := by simp; omega
   rw [if_pos this]; omega
theorem getD_mem {d : List Int} {y : Int} (h : y ∈ d) : ∃ x, x < d.length ∧ d.getD x 0 = y := by
 obtain ⟨i, hi, e⟩ := List.getElem_of_mem h
 exact ⟨i, hi, by rw [List.getD_eq_getElem?_getD, List.getElem?_eq_getElem hi]; exact e⟩
theorem sum_set : ∀ (d : List Int) (x : Nat) (v : Int), x < d.length → (d.set x v).sum = d.sum - d.getD x 0 + v := by
 intro d
 induction d with
 | nil => intro x v h; simp at h
 | cons a d ih =>
  intro x v h
  cases x with
  | zero => simp; omega
  | succ x =>
   rw [List.set_cons_succ, List.sum_cons, ih x v (by simpa using h), List.sum_cons, List.getD_cons_succ]
   omega
theorem nzc_set : ∀ (d : List Int) (x : Nat) (v : Int), x < d.length → (nzc (d.set x v) : Int) = nzc d - (if d.getD x 0 = 0 then 0 else 1) + (if v = 0 then 0 else 1) := by
 intro d
 induction d with
 | nil => intro x v h; simp at h
 | cons a d ih =>
  intro x v h
  cases x with
  | zero =>
   simp only [List.set_cons_zero, nzc, List.countP_cons, List.getD_cons_zero]
   by_cases h1 : a = 0 <;> by_cases h2 : v = 0 <;> simp [h1, h2] <;> omega
  | succ x =>
   have h1 := ih x v (by simpa using h)
   simp only [List.set_cons_succ, nzc, List.countP_cons, List.getD_cons_succ] at h1 ⊢
   omega
theorem getD_set (d : List Int) (x y : Nat) (v : Int) (hx : x < d.length) : (d.set x v).getD y 0 = if y = x then v else d.getD y 0 := by
 rw [List.getD_eq_getElem?_getD, List.getD_eq_getElem?_getD, List.getElem?_set]
 by_cases h : x = y
 ·subst h; rw [if_pos rfl, if_pos hx, if_pos rfl]; rfl
 ·rw [if_neg h, if_neg (Ne.symm h)]
theorem lf_lt {n : Nat} {d : List Int} {cs : List Nat} (h : CInv n d cs) : lf d < n ∧ d.getD (lf d) 0 = 1 ∧ ∀ j, j < lf d → d.getD j 0 ≠ 1 := by
 have hlt : lf d < d.length := by
  apply Classical.byContradiction
  intro hge
  have hall : ∀ y ∈ d, y ≠ 1 := by
   intro y hy e
   subst e
   exact hge (List.findIdx_lt_length_of_exists ⟨1, hy, by simp⟩)
  have := two_nzc d (fun y hy => by
   obtain ⟨x, hx, e⟩ := getD_mem hy
   have := hall y hy
   rcases h.val x (by rw [← h.len]; exact hx) with h1 | h1
   ·left; omega
   ·right; omega)
  have := h.nzs
  have := h.sum
  omega
 refine ⟨by rw [← h.len]; exact hlt, ?_, fun j hj => ?_⟩
 ·have := List.findIdx_getElem (xs := d) (p := (· == 1)) (w := hlt)
  rw [List.getD_eq_getElem?_getD, List.getElem?_eq_getElem hlt]
  exact beq_iff_eq.1 this
 ·have h2 := List.not_of_lt_findIdx hj
  rw [List.getD_eq_getElem?_getD, List.getElem?_eq_getElem (Nat.lt_trans hj hlt)]
  simpa using h2
theorem CInv.step {n x : Nat} {d : List Int} {cs : List Nat} (h : CInv n d (x :: cs)) : CInv n (stepL d x) cs ∧ x ≠ lf d ∧ x < n := by
 obtain ⟨h1, h2, h3⟩ := lf_lt h
 have hx : x < n := h.lt x List.mem_cons_self
 have hl := h.len
 have hc : (x :: cs).count x = cs.count x + 1 := by rw [List.count_cons_self]
 have hxv : d.getD x 0 = 1 + ((cs.count x + 1 : Nat) : Int) := by
  rcases h.val x hx with h' | h'
  ·omega
  ·rw [hc] at h'; exact h'
 have hne : x ≠ lf d := fun e => by rw [← e] at h2; omega
 have hg1 : (d.set (lf d) 0).getD x 0 = d.getD x 0 := by rw [getD_set _ _ _ _ (by omega), if_neg hne]
 have hlu : (lf d) ≠ x := Ne.symm hne
 refine ⟨⟨by unfold stepL; simp [hl], fun y hy => ?_, ?_, ?_, fun y hy => h.lt y (List.mem_cons_of_mem _ hy)⟩, hne, hx⟩
 ·unfold stepL
  rw [getD_set _ _ _ _ (by simp; omega), hg1]
  by_cases hyx : y = x
  ·subst hyx; rw [if_pos rfl]; right; omega
  ·rw [if_neg hyx, getD_set _ _ _ _ (by omega)]
   have hcy : (x :: cs).count y = cs.count y := by rw [List.count_cons_of_ne (Ne.symm hyx)]
   by_cases hyu : y = lf d
   ·subst hyu
    rw [if_pos rfl]
    left
    refine ⟨rfl, ?_⟩
    rcases h.val (lf d) hy with h' | h'
    ·rw [hcy] at h'; exact h'.2
    ·rw [hcy] at h'; omega
   ·rw [if_neg hyu, ← hcy]; exact h.val y hy
 ·have := nzc_set (d.set (lf d) 0) x (d.getD x 0 - 1) (by simp; omega)
  rw [hg1, if_neg (by omega), if_neg (by omega)] at this
  have h4 := nzc_set d (lf d) 0 (by omega)
  rw [h2, if_neg (by omega), if_pos rfl] at h4
  have h5 := h.nzs
  unfold stepL
  rw [hg1]
  simp only [List.length_cons] at h5
  omega
 ·unfold stepL
  rw [sum_set _ _ _ (by simp; omega), sum_set _ _ _ (by omega), hg1, h2]
  have := h.sum
  simp only [List.length_cons] at this
  omega
theorem CInv.two {n : Nat} {d : List Int} (h : CInv n d []) : lf d < lf (d.set (lf d) 0) ∧ lf (d.set (lf d) 0) < n ∧ d.getD (lf (d.set (lf d) 0)) 0 = 1 ∧
  (List.range n).filter (fun i => d.getD i 0 == 1) = [lf d, lf (d.set (lf d) 0)] := by
 obtain ⟨h1, h2, h3⟩ := lf_lt h
 have hl := h.len
 have hlt : lf (d.set (lf d) 0) < (d.set (lf d) 0).length := by
  apply Classical.byContradiction
  intro hge
  have hall : ∀ y ∈ d.set (lf d) 0, y = 0 ∨ 2 ≤ y := by
   intro y hy
   have h1' : y ≠ 1 := fun e => by subst e; exact hge (List.findIdx_lt_length_of_exists ⟨1, hy, by simp⟩)
   obtain ⟨x, hx, e⟩ := getD_mem hy
   rw [List.length_set] at hx
   rw [getD_set _ _ _ _ (by omega)] at e
   by_cases hxu : x = lf d
   ·rw [if_pos hxu] at e; left; omega
   ·rw [if_neg hxu] at e
    rcases h.val x (by omega) with h' | h'
    ·left; omega
    ·rw [List.count_nil] at h'; omega
  have h4 := two_nzc _ hall
  have h5 := nzc_set d (lf d) 0 (by omega)
  rw [h2, if_neg (by omega), if_pos rfl] at h5
  have h6 := sum_set d (lf d) 0 (by omega)
  have := h.nzs
  have := h.sum
  simp at *
  omega
 have hb := List.findIdx_getElem (xs := d.set (lf d) 0) (p := (· == 1)) (w := hlt)
 have hb' : (d.set (lf d) 0).getD (lf (d.set (lf d) 0)) 0 = 1 := by
  rw [List.getD_eq_getElem?_getD, List.getElem?_eq_getElem hlt]
  exact beq_iff_eq.1 hb
 clear hb
 generalize hbb : lf (d.set (lf d) 0) = b at *
 rw [getD_set _ _ _ _ (by omega)] at hb'
 have hbu : b ≠ lf d := fun e => by rw [if_pos e] at hb'; cases hb'
 rw [if_neg hbu] at hb'
 have hab : lf d < b := by
  apply Classical.byContradiction
  intro hge
  exact h3 b (by omega) hb'
 have hbn : b < n := by simp at hlt; omega
 refine ⟨hab, hbn, hb', ?_⟩
 have hval : ∀ j, j < n → d.getD j 0 = 1 → j = lf d ∨ j = b := by
  intro j hj hj1
  apply Classical.byContradiction
  intro hno
  have h4 := nzc_set d (lf d) 0 (by omega)
  have h5 := nzc_set (d.set (lf d) 0) b 0 (by simp; omega)
  have h6 := nzc_set ((d.set (lf d) 0).set b 0) j 0 (by simp; omega)
  rw [getD_set _ _ _ _ (by simp; omega), getD_set _ _ _ _ (by omega), if_neg (show ¬ j = b by omega), if_neg (show ¬ j = lf d by omega), hj1, if_neg (by omega), if_pos rfl] at h6
  rw [getD_set _ _ _ _ (by omega), if_neg hbu, hb', if_neg (by omega), if_pos rfl] at h5
  rw [h2, if_neg (by omega), if_pos rfl] at h4
  have := h.nzs
  simp at this
  omega
 apply List.Perm.eq_of_pairwise (le := fun a b => a < b)
 ·intro a b _ _ h1 h2; omega
 ·exact List.pairwise_lt_range.filter _
 ·simp [hab]
 ·rw [List.perm_ext_iff_of_nodup (List.nodup_range.filter _) (by simp; omega)]
  intro j
  rw [List.mem_filter, List.mem_range]
  simp only [beq_iff_eq, List.mem_cons, List.not_mem_nil, or_false]
  constructor
  ·rintro ⟨hj, h1⟩; exact hval j hj h1
  ·rintro (rfl | rfl)
   ·exact ⟨h1, h2⟩
   ·exact ⟨hbn, hb'⟩
def ltP (a b : Int × Int) : Bool := decide (a.1 < b.1) || (decide (a.1 = b.1) && decide (a.2 < b.2))
theorem ltP_iff {a b : Int × Int} : ltP a b = true ↔ a.1 < b.1 ∨ (a.1 = b.1 ∧ a.2 < b.2) := by unfold ltP; simp
theorem ltP_not {a b : Int × Int} : ltP a b = false ↔ ¬ (a.1 < b.1 ∨ (a.1 = b.1 ∧ a.2 < b.2)) := by rw [← ltP_iff]; simp
def insP (l : List (Int × Int)) (e : Int × Int) : List (Int × Int) := l.takeWhile (ltP · e) ++ e :: l.dropWhile (ltP · e)
def SortedP (l : List (Int × Int)) : Prop := l.Pairwise fun a b => ltP b a = false
theorem insP_perm (l : List (Int × Int)) (e : Int × Int) : (insP l e).Perm (e :: l) := by
 unfold insP
 refine List.perm_middle.trans ?_
 rw [List.takeWhile_append_dropWhile]
theorem insP_sorted {l : List (Int × Int)} (h : SortedP l) (e : Int × Int) : SortedP (insP l e) := by
 induction l with
 | nil => simp [insP, SortedP]
 | cons a l ih =>
  unfold SortedP at h
  rw [List.pairwise_cons] at h
  unfold insP
  rw [List.takeWhile_cons, List.dropWhile_cons]
  cases hc : ltP a e with
  | true =>
   simp only [if_true]
   show SortedP (a :: (insP l e))
   unfold SortedP
   rw [List.pairwise_cons]
   refine ⟨fun b hb => ?_, ih h.2⟩
   rcases List.mem_cons.1 ((insP_perm l e).mem_iff.1 hb) with rfl | hb
   ·rw [ltP_iff] at hc; rw [ltP_not]; omega
   ·exact h.1 b hb
  | false =>
   show SortedP (e :: a :: l)
   unfold SortedP
   rw [List.pairwise_cons, List.pairwise_cons]
   refine ⟨fun b hb => ?_, h⟩
   rcases List.mem_cons.1 hb with rfl | hb
   ·exact hc
   ·have h1 := h.1 b hb
    rw [ltP_not] at h1 hc ⊢
    omega
theorem foldP : ∀ (E l : List (Int × Int)), SortedP l → SortedP (E.foldl insP l) ∧ (E.foldl insP l).Perm (l ++ E) := by
 intro E
 induction E with
 | nil => intro l h; simpa using h
 | cons e E ih =>
  intro l h
  obtain ⟨h1, h2⟩ := ih (insP l e) (insP_sorted h e)
  refine ⟨h1, h2.trans ?_⟩
  refine ((insP_perm l e).append_right E).trans ?_
  exact List.perm_middle.symm
theorem sortedP_one {l r : List (Int × Int)} (hl : SortedP l) (hr : SortedP r) (h : l.Perm r) : l = r := by
 apply List.Perm.eq_of_pairwise (le := fun a b => ltP b a = false) _ hl hr h
 intro a b _ _ h1 h2
 rw [ltP_not] at h1 h2
 exact Prod.ext (by omega) (by omega)
end Go.Proofs.Ytcploeijeedmdaa.X
namespace Go.Proofs.Ytcploeijeedmdaa.X
open Go.RowKit Go.Proofs.YtcploeijeedmdaaW.PrintWords Go.Proofs.YtcploeijeedmdaaW.PrintLast Go.Proofs.Ytcploeijeedmdaa.S
attribute [local go_sem] max2_int min2_int max_two min_two
set_option linter.unusedVariables false
set_option linter.unusedSimpArgs false
mutual
def tickingref09_Coded.j0 : Nat → Int → List Int → Bool → Option (Bool)
 | 0, _, _, _ => none
 | k + 1, x0, x1, x18 => if x18 = true then (some false) else (tickingref09_Coded.l0 k x0 x1 0)
def tickingref09_Coded.l0 : Nat → Int → List Int → Int → Option (Bool)
 | 0, _, _, _ => none
 | k + 1, x0, x1, x5 => if x5 < (x1.length : Int) then (if 0 ≤ x5 then (if (rd x1 x5) < 0 then (some false) else (if (rd x1 x5) ≥ x0 then (some false) else (tickingref09_Coded.l0 k x0 x1 (wrap64 (x5 + 1))))) else (none)) else (some true)
end
def tickingref09_Coded.f (k : Nat) (a0 : Int) (l1 : List Int) : Option (Bool) := if a0 < 2 then (tickingref09_Coded.j0 k a0 l1 true) else (if a0 > 20 then (tickingref09_Coded.j0 k a0 l1 true) else (tickingref09_Coded.j0 k a0 l1 ((l1.length : Int) != (wrap64 (a0 - 2)))))
theorem tickingref09_Coded.mono_l : ∀ k, (∀ y0 y1 y2, LeO (tickingref09_Coded.j0 k y0 y1 y2) (tickingref09_Coded.j0 (k + 1) y0 y1 y2)) ∧ (∀ y0 y1 y2, LeO (tickingref09_Coded.l0 k y0 y1 y2) (tickingref09_Coded.l0 (k + 1) y0 y1 y2))
 | 0 => ⟨fun _ _ _ r h => by simp [tickingref09_Coded.j0] at h, fun _ _ _ r h => by simp [tickingref09_Coded.l0] at h⟩
 | k + 1 => by
  obtain ⟨ih0, ih1⟩ := tickingref09_Coded.mono_l k
  refine ⟨?_, ?_⟩
  ·intro y0 y1 y2
   unfold tickingref09_Coded.j0
   repeat' first
   | (with_reducible exact ih0 _ _ _)
   | (with_reducible exact ih1 _ _ _)
   | (with_reducible exact LeO.refl _)
   | (with_reducible exact LeO.none _)
   | (with_reducible refine LeO.ite ?_ ?_)
   | (with_reducible refine LeO.bind ?_ (fun _ => ?_))
   | exact ih0 _ _ _
   | exact ih1 _ _ _
   | exact LeO.none _
   | refine LeO.ite ?_ ?_
   | refine LeO.bind ?_ (fun _ => ?_)
  ·intro y0 y1 y2
   unfold tickingref09_Coded.l0
   repeat' first
   | (with_reducible exact ih0 _ _ _)
   | (with_reducible exact ih1 _ _ _)
   | (with_reducible exact LeO.refl _)
   | (with_reducible exact LeO.none _)
   | (with_reducible refine LeO.ite ?_ ?_)
   | (with_reducible refine LeO.bind ?_ (fun _ => ?_))
   | exact ih0 _ _ _
   | exact ih1 _ _ _
   | exact LeO.none _
   | refine LeO.ite ?_ ?_
   | refine LeO.bind ?_ (fun _ => ?_)
theorem tickingref09_Coded.mono : ∀ a0 a1 k, LeO (tickingref09_Coded.f k a0 a1) (tickingref09_Coded.f (k + 1) a0 a1) := by
 intro a0 a1 k
 obtain ⟨ih0, ih1⟩ := tickingref09_Coded.mono_l k
 unfold tickingref09_Coded.f
 repeat' first
   | (with_reducible exact ih0 _ _ _)
   | (with_reducible exact ih1 _ _ _)
   | (with_reducible exact LeO.refl _)
   | (with_reducible exact LeO.none _)
   | (with_reducible refine LeO.ite ?_ ?_)
   | (with_reducible refine LeO.bind ?_ (fun _ => ?_))
   | exact ih0 _ _ _
   | exact ih1 _ _ _
   | exact LeO.none _
   | refine LeO.ite ?_ ?_
   | refine LeO.bind ?_ (fun _ => ?_)
set_option maxHeartbeats 8000000 in
set_option maxRecDepth 100000 in
theorem tickingref09_Coded.calls (k : Nat) (a0 : Int) (A1 : Option Addr) (c1 : Nat) (l1 : List Int) (r : Bool) (w : World) (hr1 : Kd.C (Kd.int .i64) w A1 l1.length l1) (hc1 : l1.length ≤ c1) (h : tickingref09_Coded.f k a0 l1 = some r) :
  Calls Try.prog 43 #[.int .i64 a0, .slice A1 l1.length c1] w fun e w' => e = .returned (.bool r) ∧ Drawn0 w w' := by
 have HR1 := Aside0.mk hr1
 have HC1 := Aside0.mk hc1
 clear hr1 hc1
 have H : (if a0 < 2 then (tickingref09_Coded.j0 k a0 l1 true) else (if a0 > 20 then (tickingref09_Coded.j0 k a0 l1 true) else (tickingref09_Coded.j0 k a0 l1 ((l1.length : Int) != (wrap64 (a0 - 2)))))) = some r := h
 clear h
 have HC3 := Aside0.mk H
 clear H
 go_enter Try.func43, Try.ntmps43
 go_upto_region 1 with (fail)
 go_cut [18] (fun v18 wc => ∃ (kq : Nat) (x18_2 : Bool), v18 = .bool x18_2 ∧ Aside0 (tickingref09_Coded.j0 kq a0 l1 x18_2 = some r) ∧ Aside0 (kq ≤ k) ∧ Drawn0 w wc)
 case first =>
  have H := HC3.out
  clear HC3
  by_cases c4 : a0 < 2
  ·rw [if_pos c4] at H
   have c4b0 : decide (a0 < 2) = true := decide_eq_true c4
   clear c4
   (first | rw [c4b0] | (simp only [i64_w, i32_w]; rw [c4b0]) | skip)
   have H' := Aside0.mk H
   clear H
   go_wp2
   go_meet
   case rel => exact ⟨_, (true), (by first | rfl | (simp; done) | (simp [*]; done)), H', ⟨by first | omega | exact Nat.le_refl _⟩, by repeat (first | exact Drawn0.refl _ | apply Drawn0.step)⟩
  ·rw [if_neg c4] at H
   have c4b0 : decide (a0 < 2) = false := decide_eq_false c4
   clear c4
   (first | rw [c4b0] | (simp only [i64_w, i32_w]; rw [c4b0]) | skip)
   by_cases c5 : a0 > 20
   ·rw [if_pos c5] at H
    have c5b0 : decide (20 < a0) = true := decide_eq_true c5
    clear c5
    have H' := Aside0.mk H
    clear H
    go_wp2
    go_meet
    case rel => exact ⟨_, (true), (by first | rfl | (simp; done) | (simp [*]; done)), H', ⟨by first | omega | exact Nat.le_refl _⟩, by repeat (first | exact Drawn0.refl _ | apply Drawn0.step)⟩
   ·rw [if_neg c5] at H
    have c5b0 : decide (20 < a0) = false := decide_eq_false c5
    clear c5
    have H' := Aside0.mk H
    clear H
    go_wp2
    go_meet
    case rel => exact ⟨_, (((l1.length : Int) != (wrap64 (a0 - 2)))), (by first | rfl | (simp; done) | (simp [*]; done)), H', ⟨by first | omega | exact Nat.le_refl _⟩, by repeat (first | exact Drawn0.refl _ | apply Drawn0.step)⟩
 case rest =>
  clear HC3
  try clear c1
  try clear p2
  try clear c4
  try clear c4b0
  try clear c5
  try clear c5b0
  obtain ⟨kq, x18_2, rfl, HA, HJ2, ⟨mc2, rfl⟩⟩ := hcut
  cases kq with
  | zero => exact absurd HA.out (by simp [tickingref09_Coded.j0])
  | succ kj2 =>
   have H := HA.out
   clear HA
   simp only [tickingref09_Coded.j0] at H
   by_cases c6 : x18_2 = true
   ·subst c6
    have H1 : (some false) = some r := by rw [if_pos rfl] at H; exact H
    clear H
    have H := H1
    clear H1
    obtain rfl := Option.some.inj H
    go_wp2
    go_ret
    exact ⟨by first | rfl | (simp; done) | (simp [*]; done), by repeat (first | exact Drawn0.refl _ | apply Drawn0.step)⟩
   ·replace c6 := Bool.eq_false_iff.mpr c6
    subst c6
    have H1 : (tickingref09_Coded.l0 kj2 a0 l1 0) = some r := by rw [if_neg (show ¬ (false = true) by decide)] at H; exact H
    clear H
    have H := H1
    clear H1
    have H' := Aside0.mk H
    clear H
    go_wp2
    go_loopg [5] kj2 (fun kq v5 w' => ∃ (x5_2 : Int), v5 = .int .i64 x5_2 ∧ Aside0 (tickingref09_Coded.l0 kq a0 l1 x5_2 = some r) ∧ Aside0 (kq ≤ kj2) ∧ Drawn0 w w')
    case atStart => exact ⟨(0), (by first | rfl | (simp; done) | (simp [*]; done)), H', ⟨Nat.le_refl _⟩, by repeat (first | exact Drawn0.refl _ | apply Drawn0.step)⟩
    case round =>
     clear H'
     try clear c1
     try clear c2
     try clear p2
     try clear c4
     try clear c4b0
     try clear c5
     try clear c5b0
     try clear c6
     try clear p6
     try clear p2
     obtain ⟨x5_2, rfl, HA, HK2, ⟨m2, rfl⟩⟩ := hrel
     cases gk with
     | zero => exact absurd HA.out (by simp [tickingref09_Coded.l0])
     | succ k2 =>
      have H := HA.out
      clear HA
      simp only [tickingref09_Coded.l0] at H
      by_cases c7 : x5_2 < (l1.length : Int)
      ·rw [if_pos c7] at H
       have c7b0 : decide (x5_2 < (l1.length : Int)) = true := decide_eq_true c7
       clear c7
       by_cases c8 : 0 ≤ x5_2
       ·rw [if_pos c8] at H
        have c8b0 : decide (0 ≤ x5_2) = true := decide_eq_true c8
        clear c8
        by_cases c9 : (rd l1 x5_2) < 0
        ·rw [if_pos c9] at H
         have c9b0 : decide ((rd l1 x5_2) < 0) = true := decide_eq_true c9
         clear c9
         obtain rfl := Option.some.inj H
         have p524 : 0 ≤ (x5_2 : Int) := of_decide_eq_true (by first | (with_reducible assumption) | assumption)
         have q524 : x5_2 < (l1.length : Int) := of_decide_eq_true (by first | (with_reducible assumption) | assumption)
         obtain ⟨ad524, e524, hx524_0⟩ := Kd.at_int HR1.out x5_2 p524 q524
         cases e524
         replace p524 := eq_true p524
         replace q524 := eq_true q524
         go_wp2
         go_ret
         exact ⟨by first | rfl | (simp; done) | (simp [*]; done), by repeat (first | exact Drawn0.refl _ | apply Drawn0.step)⟩
        ·rw [if_neg c9] at H
         have c9b0 : decide ((rd l1 x5_2) < 0) = false := decide_eq_false c9
         clear c9
         by_cases c10 : (rd l1 x5_2) ≥ a0
         ·rw [if_pos c10] at H
          have c10b0 : decide (a0 ≤ (rd l1 x5_2)) = true := decide_eq_true c10
          clear c10
          obtain rfl := Option.some.inj H
          have p524 : 0 ≤ (x5_2 : Int) := of_decide_eq_true (by first | (with_reducible assumption) | assumption)
          have q524 : x5_2 < (l1.length : Int) := of_decide_eq_true (by first | (with_reducible assumption) | assumption)
          obtain ⟨ad524, e524, hx524_0⟩ := Kd.at_int HR1.out x5_2 p524 q524
          cases e524
          replace p524 := eq_true p524
          replace q524 := eq_true q524
          have p525 : 0 ≤ (x5_2 : Int) := of_decide_eq_true (by first | (with_reducible assumption) | assumption)
          have q525 : x5_2 < (l1.length : Int) := of_decide_eq_true (by first | (with_reducible assumption) | assumption)
          obtain ⟨ad525, e525, hx525_0⟩ := Kd.at_int HR1.out x5_2 p525 q525
          obtain rfl : ad524 = ad525 := (by injection e525)
          replace p525 := eq_true p525
          replace q525 := eq_true q525
          go_wp2
          go_ret
          exact ⟨by first | rfl | (simp; done) | (simp [*]; done), by repeat (first | exact Drawn0.refl _ | apply Drawn0.step)⟩
         ·rw [if_neg c10] at H
          have c10b0 : decide (a0 ≤ (rd l1 x5_2)) = false := decide_eq_false c10
          clear c10
          have H' := Aside0.mk H
          clear H
          have p524 : 0 ≤ (x5_2 : Int) := of_decide_eq_true (by first | (with_reducible assumption) | assumption)
          have q524 : x5_2 < (l1.length : Int) := of_decide_eq_true (by first | (with_reducible assumption) | assumption)
          obtain ⟨ad524, e524, hx524_0⟩ := Kd.at_int HR1.out x5_2 p524 q524
          cases e524
          replace p524 := eq_true p524
          replace q524 := eq_true q524
          have p525 : 0 ≤ (x5_2 : Int) := of_decide_eq_true (by first | (with_reducible assumption) | assumption)
          have q525 : x5_2 < (l1.length : Int) := of_decide_eq_true (by first | (with_reducible assumption) | assumption)
          obtain ⟨ad525, e525, hx525_0⟩ := Kd.at_int HR1.out x5_2 p525 q525
          obtain rfl : ad524 = ad525 := (by injection e525)
          replace p525 := eq_true p525
          replace q525 := eq_true q525
          go_wp2
          go_roundg k2
          case measure => have := HJ2.out; have := HK2.out; omega
          case rel => exact ⟨(wrap64 (x5_2 + 1)), (by first | rfl | (simp; done) | (simp [*]; done)), H', ⟨by have := HJ2.out; have := HK2.out; omega⟩, by repeat (first | exact Drawn0.refl _ | apply Drawn0.step)⟩
       ·rw [if_neg c8] at H
        exact absurd H (by simp)
      ·rw [if_neg c7] at H
       have c7b0 : decide (x5_2 < (l1.length : Int)) = false := decide_eq_false c7
       clear c7
       obtain rfl := Option.some.inj H
       go_wp2
       go_ret
       exact ⟨by first | rfl | (simp; done) | (simp [*]; done), by repeat (first | exact Drawn0.refl _ | apply Drawn0.step)⟩
end Go.Proofs.Ytcploeijeedmdaa.X
