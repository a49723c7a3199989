/- The plain statement of CoverMeets: the first common point, or two rectangles that have none. Texts of this claim's session, put together: RefA, RefM, PureCoverMeets. -/
import Derived.Test.YtplhfbkejngioaaBb4
import Derived.Test.YtplhfbkejngioaaBb13
import Derived.Test.YtplhfbkejngioaaMe2
import Derived.Test.YtplhfbkejngioaaMe3
import Derived.Test.YtplhfbkejngioaaWWords
import Derived.Test.YtplhfbkejngioaaWRepsOne
namespace Go.Proofs.Ytplhfbkejngioaa.X
open Go.RowKit Go.Proofs.YtplhfbkejngioaaW.PrintWords Go.Proofs.YtplhfbkejngioaaW.PrintLast Go.Proofs.Ytplhfbkejngioaa.S Go.Proofs.Ytplhfbkejngioaa.Open
set_option linter.unusedVariables false
theorem awake_ev : Ev tickinglaw01_awake.f true := Ev.of tickinglaw01_awake.mono (k := 1) (by decide +kernel)
theorem inside_f (a : Int) : tickingref01_Inside.f a = some (inC a) := by
 unfold tickingref01_Inside.f inC
 by_cases h : -256 ≤ a
 ·rw [if_pos h]; simp [h]
 ·rw [if_neg h]; simp [h]
theorem rect_f (r : S48) : tickingref01_Rect.f r.f0 r.f1 r.f2 r.f3 = some (isR r) := by
 unfold tickingref01_Rect.f isR
 rw [inside_f, inside_f, inside_f, inside_f]
 simp only [Option.bind_some]
 cases inC r.f0 <;> cases inC r.f1 <;> cases inC r.f2 <;> cases inC r.f3 <;> simp
 by_cases h : r.f0 < r.f2 <;> simp [h]
theorem rd48_get {l : List S48} {i : Nat} (h : i < l.length) : rd_T48 l (i : Int) = l[i] := by simp [rd_T48, h]
theorem rd28_get {l : List S28} {i : Nat} (h : i < l.length) : rd_T28 l (i : Int) = l[i] := by simp [rd_T28, h]
theorem next_i {i n : Nat} (h : i < n) (hn : n ≤ 9223372036854775807) : wrap64 ((i : Int) + 1) = ((i + 1 : Nat) : Int) := by rw [w64 (by omega) (by omega)]; omega
theorem rects_l0 (l : List S48) (m : Int) (hm : l.length ≤ 9223372036854775807) : ∀ (d i : Nat), i + d = l.length → ∀ k, d < k → tickingref01_Rects.l0 k l m (i : Int) = some ((l.drop i).all isR && decide ((l.length : Int) ≤ m))
 | 0, i, h, k, hk => by
  obtain ⟨k, rfl⟩ : ∃ q, k = q + 1 := ⟨k - 1, by omega⟩
  simp only [tickingref01_Rects.l0]
  rw [if_neg (by omega), List.drop_eq_nil_of_le (by omega)]
  simp
 | d + 1, i, h, k, hk => by
  obtain ⟨k, rfl⟩ : ∃ q, k = q + 1 := ⟨k - 1, by omega⟩
  have hi : i < l.length := by omega
  have ih := rects_l0 l m hm d (i + 1) (by omega) k (by omega)
  have e : l.drop i = l[i] :: l.drop (i + 1) := List.drop_eq_getElem_cons hi
  have g1 : (i : Int) < (l.length : Int) := by omega
  have g2 : (0 : Int) ≤ (i : Int) := by omega
  simp only [tickingref01_Rects.l0]
  rw [if_pos g1, if_pos g2, rd48_get hi, rect_f, Option.bind_some, next_i hi hm, ih, e, List.all_cons]
  cases isR l[i] <;> simp
theorem rects_ev (l : List S48) (m : Int) (hm : l.length ≤ 9223372036854775807) : Ev (fun k => tickingref01_Rects.f k l m) (l.all isR && decide ((l.length : Int) ≤ m)) :=
 ⟨l.length + 1, fun k hk => by unfold tickingref01_Rects.f; exact rects_l0 l m hm l.length 0 (by omega) k (by omega)⟩
theorem areRs_eq (l : List S48) (m : Int) : (l.all isR && decide ((l.length : Int) ≤ m)) = areRs l m := by unfold areRs; exact Bool.and_comm _ _
end Go.Proofs.Ytplhfbkejngioaa.X
namespace Go.Proofs.Ytplhfbkejngioaa.X
open Go.RowKit Go.Proofs.YtplhfbkejngioaaW.PrintWords Go.Proofs.YtplhfbkejngioaaW.PrintLast Go.Proofs.Ytplhfbkejngioaa.S Go.Proofs.Ytplhfbkejngioaa.Open
set_option linter.unusedVariables false
set_option linter.unusedSimpArgs false
theorem meet_step (l : List S48) {i r f t w k : Nat} (hn : l.length ≤ 9223372036854775807) (hi : i < l.length) (hr : r < l.length) (hf : f < l.length) (ht : t < l.length) (hw : w < l.length) :
  cover_Meet.l0 (k + 3) l (r : Int) (f : Int) (t : Int) (w : Int) l (l.length : Int) (i : Int) =
  cover_Meet.l0 k l ((if (rd_T48 l r).f0 < (rd_T48 l i).f0 then i else r : Nat) : Int) ((if (rd_T48 l i).f2 < (rd_T48 l f).f2 then i else f : Nat) : Int)
   ((if (rd_T48 l t).f1 < (rd_T48 l i).f1 then i else t : Nat) : Int) ((if (rd_T48 l i).f3 < (rd_T48 l w).f3 then i else w : Nat) : Int) l (l.length : Int) ((i + 1 : Nat) : Int) := by
 have a0 : (i : Int) < (l.length : Int) := by omega
 have a1 : (r : Int) < (l.length : Int) := by omega
 have a2 : (f : Int) < (l.length : Int) := by omega
 have a3 : (t : Int) < (l.length : Int) := by omega
 have a4 : (w : Int) < (l.length : Int) := by omega
 have z : ∀ j : Nat, (0 : Int) ≤ (j : Int) := fun j => by omega
 simp only [cover_Meet.l0, cover_Meet.j1, cover_Meet.j2]
 simp only [if_pos a0, if_pos a1, if_pos a2, if_pos a3, if_pos a4, if_pos (z i), if_pos (z r), if_pos (z f), if_pos (z t), if_pos (z w), next_i hi hn, gt_iff_lt]
 by_cases c0 : (rd_T48 l r).f0 < (rd_T48 l i).f0 <;> by_cases c1 : (rd_T48 l i).f2 < (rd_T48 l f).f2 <;> by_cases c2 : (rd_T48 l t).f1 < (rd_T48 l i).f1 <;> by_cases c3 : (rd_T48 l i).f3 < (rd_T48 l w).f3 <;>
  simp only [c0, c1, c2, c3, if_true, if_false]
structure Least4 (l : List S48) (i r f t w : Nat) : Prop where
 hr : r < l.length
 hf : f < l.length
 ht : t < l.length
 hw : w < l.length
 ar : ∀ j : Nat, j < i → (rd_T48 l j).f0 ≤ (rd_T48 l r).f0
 af : ∀ j : Nat, j < i → (rd_T48 l f).f2 ≤ (rd_T48 l j).f2
 at' : ∀ j : Nat, j < i → (rd_T48 l j).f1 ≤ (rd_T48 l t).f1
 aw : ∀ j : Nat, j < i → (rd_T48 l w).f3 ≤ (rd_T48 l j).f3
theorem Least4.next {l : List S48} {i r f t w : Nat} (h : Least4 l i r f t w) (hi : i < l.length) :
  Least4 l (i + 1) (if (rd_T48 l r).f0 < (rd_T48 l i).f0 then i else r) (if (rd_T48 l i).f2 < (rd_T48 l f).f2 then i else f)
   (if (rd_T48 l t).f1 < (rd_T48 l i).f1 then i else t) (if (rd_T48 l i).f3 < (rd_T48 l w).f3 then i else w) := by
 refine ⟨?_, ?_, ?_, ?_, ?_, ?_, ?_, ?_⟩
 ·split <;> first | exact hi | exact h.hr
 ·split <;> first | exact hi | exact h.hf
 ·split <;> first | exact hi | exact h.ht
 ·split <;> first | exact hi | exact h.hw
 ·intro j hj
  rcases Nat.lt_or_eq_of_le (Nat.le_of_lt_succ hj) with hj | rfl
  ·have := h.ar j hj; split <;> omega
  ·split <;> omega
 ·intro j hj
  rcases Nat.lt_or_eq_of_le (Nat.le_of_lt_succ hj) with hj | rfl
  ·have := h.af j hj; split <;> omega
  ·split <;> omega
 ·intro j hj
  rcases Nat.lt_or_eq_of_le (Nat.le_of_lt_succ hj) with hj | rfl
  ·have := h.at' j hj; split <;> omega
  ·split <;> omega
 ·intro j hj
  rcases Nat.lt_or_eq_of_le (Nat.le_of_lt_succ hj) with hj | rfl
  ·have := h.aw j hj; split <;> omega
  ·split <;> omega
def meetOut (l : List S48) (r f t w : Nat) : Int × Int × List Int × Int :=
 if (rd_T48 l f).f2 < (rd_T48 l r).f0 then (0, 0, [mn (f : Int) (r : Int), mx (f : Int) (r : Int)], 0)
 else if (rd_T48 l w).f3 < (rd_T48 l t).f1 then (0, 0, [mn (w : Int) (t : Int), mx (w : Int) (t : Int)], 0)
 else ((rd_T48 l r).f0, (rd_T48 l t).f1, [], 0)
theorem meet_l0 (l : List S48) (hn : l.length ≤ 9223372036854775807) : ∀ (d i : Nat), i + d = l.length → ∀ r f t w, Least4 l i r f t w →
  ∃ R F T W, Least4 l l.length R F T W ∧ ∀ k, 3 * d < k → cover_Meet.l0 k l (r : Int) (f : Int) (t : Int) (w : Int) l (l.length : Int) (i : Int) = some (meetOut l R F T W)
 | 0, i, h, r, f, t, w, hl => by
  have e : i = l.length := by omega
  subst e
  refine ⟨r, f, t, w, hl, fun k hk => ?_⟩
  obtain ⟨k, rfl⟩ : ∃ q, k = q + 1 := ⟨k - 1, by omega⟩
  have a1 : (r : Int) < (l.length : Int) := by have := hl.hr; omega
  have a2 : (f : Int) < (l.length : Int) := by have := hl.hf; omega
  have a3 : (t : Int) < (l.length : Int) := by have := hl.ht; omega
  have a4 : (w : Int) < (l.length : Int) := by have := hl.hw; omega
  have z : ∀ j : Nat, (0 : Int) ≤ (j : Int) := fun j => by omega
  simp only [cover_Meet.l0]
  rw [if_neg (by omega)]
  simp only [if_pos a1, if_pos a2, if_pos a3, if_pos a4, if_pos (z r), if_pos (z f), if_pos (z t), if_pos (z w), gt_iff_lt]
  unfold meetOut
  by_cases c0 : (rd_T48 l f).f2 < (rd_T48 l r).f0
  ·rw [if_pos c0, if_pos c0]
  ·rw [if_neg c0, if_neg c0]
   by_cases c1 : (rd_T48 l w).f3 < (rd_T48 l t).f1
   ·rw [if_pos c1, if_pos c1]
   ·rw [if_neg c1, if_neg c1]
 | d + 1, i, h, r, f, t, w, hl => by
  have hi : i < l.length := by omega
  obtain ⟨R, F, T, W, hL, hk⟩ := meet_l0 l hn d (i + 1) (by omega) _ _ _ _ (hl.next hi)
  refine ⟨R, F, T, W, hL, fun k hk' => ?_⟩
  obtain ⟨k, rfl⟩ : ∃ q, k = q + 3 := ⟨k - 3, by omega⟩
  rw [meet_step l hn hi hl.hr hl.hf hl.ht hl.hw]
  exact hk k (by omega)
theorem meet_ev {l : List S48} (h : areRs l 32 = true) (hne : 0 < l.length) : ∃ R F T W, Least4 l l.length R F T W ∧ Ev (fun k => cover_Meet.f k l) (meetOut l R F T W) := by
 have hn : l.length ≤ 32 := by unfold areRs at h; simp only [Bool.and_eq_true, decide_eq_true_eq] at h; omega
 obtain ⟨R, F, T, W, hL, hk⟩ := meet_l0 l (by omega) l.length 0 (by omega) 0 0 0 0 ⟨hne, hne, hne, hne, fun j hj => by omega, fun j hj => by omega, fun j hj => by omega, fun j hj => by omega⟩
 refine ⟨R, F, T, W, hL, 3 * l.length + 1, fun k hk' => ?_⟩
 unfold cover_Meet.f
 have e : cover_areRects.f l 32 = some true := by rw [← h]; rfl
 dsimp only
 rw [e, Option.bind_some, if_pos rfl, if_neg (by omega)]
 exact hk k (by omega)
theorem meet_no {l : List S48} (h : areRs l 32 = false) : Ev (fun k => cover_Meet.f k l) (0, 0, [], 2) := by
 refine ⟨0, fun k _ => ?_⟩
 unfold cover_Meet.f
 have e : cover_areRects.f l 32 = some false := by rw [← h]; rfl
 dsimp only
 rw [e, Option.bind_some, if_neg (by decide)]
theorem meet_nil : Ev (fun k => cover_Meet.f k []) (0, 0, [], 0) := by
 refine ⟨0, fun k _ => ?_⟩
 unfold cover_Meet.f
 have e : cover_areRects.f [] 32 = some true := rfl
 dsimp only
 rw [e, Option.bind_some, if_pos rfl]
 rfl
structure Top2 (l : List S48) (i : Nat) (x y : Int) : Prop where
 gx : ∀ j : Nat, j < i → (rd_T48 l j).f0 ≤ x
 gy : ∀ j : Nat, j < i → (rd_T48 l j).f1 ≤ y
 ex : ∃ j : Nat, j < i ∧ x = (rd_T48 l j).f0
 ey : ∃ j : Nat, j < i ∧ y = (rd_T48 l j).f1
theorem mx_le (a b : Int) : a ≤ mx a b ∧ b ≤ mx a b ∧ (mx a b = a ∨ mx a b = b) := by unfold mx; split <;> omega
theorem mn_le (a b : Int) : mn a b ≤ a ∧ mn a b ≤ b ∧ (mn a b = a ∨ mn a b = b) := by unfold mn; split <;> omega
theorem Top2.next {l : List S48} {i : Nat} {x y : Int} (h : Top2 l i x y) : Top2 l (i + 1) (mx x (rd_T48 l i).f0) (mx y (rd_T48 l i).f1) := by
 obtain ⟨p1, p2, p3⟩ := mx_le x (rd_T48 l i).f0
 obtain ⟨q1, q2, q3⟩ := mx_le y (rd_T48 l i).f1
 refine ⟨?_, ?_, ?_, ?_⟩
 ·intro j hj
  rcases Nat.lt_or_eq_of_le (Nat.le_of_lt_succ hj) with hj | rfl
  ·have := h.gx j hj; omega
  ·exact p2
 ·intro j hj
  rcases Nat.lt_or_eq_of_le (Nat.le_of_lt_succ hj) with hj | rfl
  ·have := h.gy j hj; omega
  ·exact q2
 ·rcases p3 with e | e
  ·obtain ⟨j, hj, ej⟩ := h.ex; exact ⟨j, by omega, e.trans ej⟩
  ·exact ⟨i, by omega, e⟩
 ·rcases q3 with e | e
  ·obtain ⟨j, hj, ej⟩ := h.ey; exact ⟨j, by omega, e.trans ej⟩
  ·exact ⟨i, by omega, e⟩
def belowT (x y : Int) (r : S48) : Bool := decide (r.f2 < x) || decide (r.f3 < y)
theorem common_l1 (l : List S48) (hn : l.length ≤ 9223372036854775807) (x y : Int) : ∀ (d i : Nat), i + d = l.length → ∀ k, d < k →
  tickingref01_Common.l1 k l (i : Int) x y = some (if (l.drop i).any (belowT x y) then (0, 0, false) else (x, y, true))
 | 0, i, h, k, hk => by
  obtain ⟨k, rfl⟩ : ∃ q, k = q + 1 := ⟨k - 1, by omega⟩
  simp only [tickingref01_Common.l1]
  rw [if_neg (by omega), List.drop_eq_nil_of_le (by omega)]
  simp
 | d + 1, i, h, k, hk => by
  obtain ⟨k, rfl⟩ : ∃ q, k = q + 1 := ⟨k - 1, by omega⟩
  have hi : i < l.length := by omega
  have ih := common_l1 l hn x y d (i + 1) (by omega) k (by omega)
  have e : l.drop i = l[i] :: l.drop (i + 1) := List.drop_eq_getElem_cons hi
  have g1 : (i : Int) < (l.length : Int) := by omega
  have g2 : (0 : Int) ≤ (i : Int) := by omega
  simp only [tickingref01_Common.l1]
  rw [if_pos g1, if_pos g2, rd48_get hi, next_i hi hn, ih, e, List.any_cons]
  by_cases c0 : l[i].f2 < x
  ·simp [belowT, c0]
  ·by_cases c1 : l[i].f3 < y
   ·simp [belowT, c0, c1]
   ·simp [belowT, c0, c1]
theorem common_l0 (l : List S48) (hn : l.length ≤ 9223372036854775807) : ∀ (d i : Nat), i + d = l.length → ∀ x y, Top2 l i x y → ∃ X Y, Top2 l l.length X Y ∧ ∀ k, d + l.length + 1 < k →
  tickingref01_Common.l0 k l (i : Int) x y = some (if l.any (belowT X Y) then (0, 0, false) else (X, Y, true))
 | 0, i, h, x, y, hT => by
  have e : i = l.length := by omega
  subst e
  refine ⟨x, y, hT, fun k hk => ?_⟩
  obtain ⟨k, rfl⟩ : ∃ q, k = q + 1 := ⟨k - 1, by omega⟩
  simp only [tickingref01_Common.l0]
  rw [if_neg (by omega)]
  exact common_l1 l hn x y l.length 0 (by omega) k (by omega)
 | d + 1, i, h, x, y, hT => by
  have hi : i < l.length := by omega
  obtain ⟨X, Y, hX, hk⟩ := common_l0 l hn d (i + 1) (by omega) _ _ hT.next
  refine ⟨X, Y, hX, fun k hk' => ?_⟩
  obtain ⟨k, rfl⟩ : ∃ q, k = q + 1 := ⟨k - 1, by omega⟩
  have g1 : (i : Int) < (l.length : Int) := by omega
  have g2 : (0 : Int) ≤ (i : Int) := by omega
  simp only [tickingref01_Common.l0]
  rw [if_pos g1, if_pos g2, next_i hi hn]
  exact hk k (by omega)
theorem common_ev {l : List S48} (hn : l.length ≤ 9223372036854775807) (hne : 0 < l.length) : ∃ X Y, Top2 l l.length X Y ∧ Ev (fun k => tickingref01_Common.f k l) (if l.any (belowT X Y) then (0, 0, false) else (X, Y, true)) := by
 obtain ⟨X, Y, hX, hk⟩ := common_l0 l hn (l.length - 1) 1 (by omega) _ _ (⟨fun j hj => by
   obtain rfl : j = 0 := by omega
   exact Int.le_refl _, fun j hj => by
   obtain rfl : j = 0 := by omega
   exact Int.le_refl _, ⟨0, by omega, rfl⟩, ⟨0, by omega, rfl⟩⟩ : Top2 l 1 (rd_T48 l ((0 : Nat) : Int)).f0 (rd_T48 l ((0 : Nat) : Int)).f1)
 refine ⟨X, Y, hX, 2 * l.length + 3, fun k hk' => ?_⟩
 unfold tickingref01_Common.f
 dsimp only
 rw [if_neg (by omega), if_pos (by omega)]
 exact hk k (by omega)
theorem common_nil : Ev (fun k => tickingref01_Common.f k []) (0, 0, true) := ⟨0, fun k _ => rfl⟩
theorem any_below {l : List S48} {x y : Int} : l.any (belowT x y) = true ↔ ∃ j : Nat, j < l.length ∧ ((rd_T48 l j).f2 < x ∨ (rd_T48 l j).f3 < y) := by
 rw [List.any_eq_true]
 constructor
 ·rintro ⟨r, hr, hb⟩
  obtain ⟨j, hj, rfl⟩ := List.getElem_of_mem hr
  refine ⟨j, hj, ?_⟩
  rw [rd48_get hj]
  simpa [belowT] using hb
 ·rintro ⟨j, hj, hb⟩
  refine ⟨l[j], List.getElem_mem hj, ?_⟩
  rw [rd48_get hj] at hb
  simpa [belowT] using hb
theorem isR_at {l : List S48} {m : Int} (h : areRs l m = true) {j : Nat} (hj : j < l.length) : isR (rd_T48 l j) = true := by
 unfold areRs at h
 simp only [Bool.and_eq_true, decide_eq_true_eq, List.all_eq_true] at h
 rw [rd48_get hj]
 exact h.2 _ (List.getElem_mem hj)
end Go.Proofs.Ytplhfbkejngioaa.X
namespace Go.Proofs.Ytplhfbkejngioaa.Pure
open Go.RowKit Go.Proofs.Ytplhfbkejngioaa.X Go.Proofs.Ytplhfbkejngioaa.Open Go.Proofs.YtplhfbkejngioaaW.PrintWords Go.Proofs.YtplhfbkejngioaaW.PrintLast Go.Proofs.Ytplhfbkejngioaa.S
set_option linter.unusedVariables false
set_option linter.unusedSimpArgs false
theorem meet_rects_f (l : List S48) (hm : l.length ≤ 9223372036854775807) : tickinglaw01_rects.f l 33 = some (l.take 33) := by
 unfold tickinglaw01_rects.f mn
 have hl : (l.take 33).length ≤ 33 := by simp; omega
 by_cases h : (33 : Int) < (l.length : Int)
 ·rw [if_pos h, if_pos (by omega), if_pos (by omega)]
  have e : ((33 : Int)).toNat = 33 := rfl
  rw [e]
  simp only [Option.bind_some, List.length_nil, List.nil_append]
  rw [if_pos (by omega)]
 ·rw [if_neg h, if_pos (by omega), if_pos (by omega), Int.toNat_natCast, List.take_length, List.take_of_length_le (by omega)]
  simp only [Option.bind_some, List.length_nil, List.nil_append]
  rw [if_pos (by omega)]
theorem apart_meets (a b : S48) (h : a.f2 < b.f0 ∨ b.f2 < a.f0 ∨ a.f3 < b.f1 ∨ b.f3 < a.f1) : tickingref01_Meets.f a.f0 a.f1 a.f2 a.f3 b.f0 b.f1 b.f2 b.f3 = some false := by
 unfold tickingref01_Meets.f
 by_cases h0 : a.f0 ≤ b.f2
 ·rw [if_pos h0]
  by_cases h1 : b.f0 ≤ a.f2
  ·rw [if_pos h1]
   by_cases h2 : a.f1 ≤ b.f3
   ·rw [if_pos h2]
    simp
    omega
   ·rw [if_neg h2]
  ·rw [if_neg h1]
 ·rw [if_neg h0]
theorem pair_ev (y : List S48) (hy : y.length ≤ 33) (a b : Nat) (ha : a < y.length) (hb : b < y.length) (hne : a ≠ b)
  (h : (rd_T48 y a).f2 < (rd_T48 y b).f0 ∨ (rd_T48 y a).f3 < (rd_T48 y b).f1) (s : List Int) (hs : s = [mn (a : Int) (b : Int), mx (a : Int) (b : Int)]) :
  (s.length : Int) = 2 ∧ 0 ≤ rd s 0 ∧ rd s 0 < rd s 1 ∧ rd s 1 < (y.length : Int) ∧ Ev (fun k => tickinglaw01_CoverMeets.j0 k y s false) true := by
 have key : ∀ p q : Nat, p < q → q < y.length → ((rd_T48 y p).f2 < (rd_T48 y q).f0 ∨ (rd_T48 y q).f2 < (rd_T48 y p).f0 ∨ (rd_T48 y p).f3 < (rd_T48 y q).f1 ∨ (rd_T48 y q).f3 < (rd_T48 y p).f1) → s = [(p : Int), (q : Int)] →
   (s.length : Int) = 2 ∧ 0 ≤ rd s 0 ∧ rd s 0 < rd s 1 ∧ rd s 1 < (y.length : Int) ∧ Ev (fun k => tickinglaw01_CoverMeets.j0 k y s false) true := by
  intro p q hpq hq hap e
  subst e
  have r0 : rd [(p : Int), (q : Int)] 0 = (p : Int) := rfl
  have r1 : rd [(p : Int), (q : Int)] 1 = (q : Int) := rfl
  rw [r0, r1]
  refine ⟨rfl, by omega, by omega, by omega, ?_⟩
  refine Ev.step (f := fun k => (tickinglaw01_awake.f k).bind fun t => some t) (fun k => ?_) (Ev.bind awake_ev (Ev.now _))
  simp only [tickinglaw01_CoverMeets.j0]
  have q0 : 0 < (([(p : Int), (q : Int)] : List Int).length : Int) := (by decide : (0 : Int) < 2)
  have q1 : 1 < (([(p : Int), (q : Int)] : List Int).length : Int) := (by decide : (1 : Int) < 2)
  rw [if_neg (by decide), if_pos q0, r0, r1, if_pos (by omega), if_pos (by omega), if_pos q1, if_pos (by omega), if_pos (by omega), apart_meets _ _ hap]
  simp only [Option.bind_some]
  rw [if_neg (by decide)]
 unfold mn mx at hs
 by_cases hlt : a < b
 ·refine key a b hlt hb ?_ ?_
  ·rcases h with h | h
   ·exact Or.inl h
   ·exact Or.inr (Or.inr (Or.inl h))
  ·rw [hs]
   by_cases h1 : (a : Int) < (b : Int)
   ·simp [h1]; omega
   ·omega
 ·refine key b a (by omega) ha ?_ ?_
  ·rcases h with h | h
   ·exact Or.inr (Or.inl h)
   ·exact Or.inr (Or.inr (Or.inr h))
  ·rw [hs]
   by_cases h1 : (b : Int) < (a : Int)
   ·simp [h1]; omega
   ·omega
theorem CoverMeets (l0 : List S48) (hm0 : l0.length ≤ 9223372036854775807) (hI0 : ∀ x ∈ l0, I64 x.f0 ∧ I64 x.f1 ∧ I64 x.f2 ∧ I64 x.f3) : ∃ k, tickinglaw01_CoverMeets.f k l0 = some true := by
 refine Ev.rounds ?_
 unfold tickinglaw01_CoverMeets.f
 rw [meet_rects_f l0 hm0]
 have hy : (l0.take 33).length ≤ 33 := by simp; omega
 generalize l0.take 33 = y at hy
 simp only [Option.bind_some]
 have hr : Ev (fun k => tickingref01_Rects.f k y 32) (areRs y 32) := by rw [← areRs_eq]; exact rects_ev y 32 (by omega)
 by_cases h : areRs y 32 = true
 ·rw [h] at hr
  rcases Nat.eq_zero_or_pos y.length with h0 | h0
  ·obtain rfl : y = [] := List.length_eq_zero_iff.1 h0
   refine Ev.bind meet_nil (Ev.bind hr ?_)
   simp only [if_true]
   refine Ev.bind common_nil ?_
   simp only [if_true, beq_self_eq_true, Bool.and_self, List.length_nil]
   have z0 : ((0 : Nat) : Int) = 0 := rfl
   simp only [z0, if_true]
   exact Ev.bind awake_ev (Ev.now _)
  ·obtain ⟨R, F, T, W, hL, hM⟩ := meet_ev h h0
   obtain ⟨X, Y, hT, hC⟩ := common_ev (l := y) (by omega) h0
   have eX : X = (rd_T48 y R).f0 := by
    obtain ⟨j, hj, e⟩ := hT.ex
    have h1 := hL.ar j hj
    have h2 := hT.gx R hL.hr
    omega
   have eY : Y = (rd_T48 y T).f1 := by
    obtain ⟨j, hj, e⟩ := hT.ey
    have h1 := hL.at' j hj
    have h2 := hT.gy T hL.ht
    omega
   refine Ev.bind hM (Ev.bind hr ?_)
   simp only [if_true]
   refine Ev.bind hC ?_
   have out : ∀ a b : Nat, a < y.length → b < y.length → a ≠ b → ((rd_T48 y a).f2 < (rd_T48 y b).f0 ∨ (rd_T48 y a).f3 < (rd_T48 y b).f1) →
     y.any (belowT X Y) = true → meetOut y R F T W = (0, 0, [mn (a : Int) (b : Int), mx (a : Int) (b : Int)], 0) →
     Ev (fun k => if (if y.any (belowT X Y) = true then ((0 : Int), (0 : Int), false) else (X, Y, true)).2.2 = true then
      (if ((meetOut y R F T W).1 == (if y.any (belowT X Y) = true then ((0 : Int), (0 : Int), false) else (X, Y, true)).1 && ((meetOut y R F T W).2.1 == (if y.any (belowT X Y) = true then ((0 : Int), (0 : Int), false) else (X, Y, true)).2.1)) = true then
       (if ((meetOut y R F T W).2.2.1.length : Int) = 0 then (if (meetOut y R F T W).2.2.2 = 0 then ((tickinglaw01_awake.f k).bind fun t701 => (some t701)) else (some false)) else (some false)) else (some false))
      else (if (meetOut y R F T W).2.2.2 = 0 then (if (!((meetOut y R F T W).1 == 0) || (!((meetOut y R F T W).2.1 == 0))) = true then (tickinglaw01_CoverMeets.j0 k y (meetOut y R F T W).2.2.1 true) else (if ((meetOut y R F T W).2.2.1.length : Int) = 2 then (if 0 < ((meetOut y R F T W).2.2.1.length : Int) then (if (rd (meetOut y R F T W).2.2.1 0) < 0 then (tickinglaw01_CoverMeets.j0 k y (meetOut y R F T W).2.2.1 true) else (if 1 < ((meetOut y R F T W).2.2.1.length : Int) then (if (rd (meetOut y R F T W).2.2.1 0) ≥ (rd (meetOut y R F T W).2.2.1 1) then (tickinglaw01_CoverMeets.j0 k y (meetOut y R F T W).2.2.1 true) else (tickinglaw01_CoverMeets.j0 k y (meetOut y R F T W).2.2.1 (decide ((rd (meetOut y R F T W).2.2.1 1) ≥ (y.length : Int))))) else (none))) else (none)) else (tickinglaw01_CoverMeets.j0 k y (meetOut y R F T W).2.2.1 true))) else (tickinglaw01_CoverMeets.j0 k y (meetOut y R F T W).2.2.1 true))) true := by
    intro a b ha hb hne hap hany hout
    obtain ⟨p1, p2, p3, p4, p5⟩ := pair_ev y hy a b ha hb hne hap _ rfl
    rw [hout]
    generalize [mn (a : Int) (b : Int), mx (a : Int) (b : Int)] = s at p1 p2 p3 p4 p5
    simp only [hany, if_true, Bool.false_eq_true, if_false, beq_self_eq_true, Bool.not_true, Bool.or_self, p1]
    obtain ⟨m, hm⟩ := p5
    refine ⟨m, fun k hk => ?_⟩
    have q0 : (0 : Int) < 2 := by decide
    have q1 : (1 : Int) < 2 := by decide
    simp only [q0, q1, if_true]
    rw [if_neg (by omega), if_neg (by omega)]
    have e : decide (rd s 1 ≥ (y.length : Int)) = false := decide_eq_false (by omega)
    rw [e]
    exact hm k hk
   by_cases c0 : (rd_T48 y F).f2 < (rd_T48 y R).f0
   ·have hne : F ≠ R := by
     intro e
     have := isR_bd (isR_at h hL.hr)
     subst e
     omega
    exact out F R hL.hf hL.hr hne (Or.inl c0) (any_below.2 ⟨F, hL.hf, Or.inl (by omega)⟩) (by unfold meetOut; rw [if_pos c0])
   ·by_cases c1 : (rd_T48 y W).f3 < (rd_T48 y T).f1
    ·have hne : W ≠ T := by
      intro e
      have := isR_bd (isR_at h hL.ht)
      subst e
      omega
     exact out W T hL.hw hL.ht hne (Or.inr c1) (any_below.2 ⟨W, hL.hw, Or.inr (by omega)⟩) (by unfold meetOut; rw [if_neg c0, if_pos c1])
    ·have hno : y.any (belowT X Y) = false := by
      rw [← Bool.not_eq_true]
      intro hb
      obtain ⟨j, hj, hb⟩ := any_below.1 hb
      have g1 := hL.af j hj
      have g2 := hL.aw j hj
      omega
     have hout : meetOut y R F T W = (X, Y, [], 0) := by unfold meetOut; rw [if_neg c0, if_neg c1, eX, eY]
     rw [hout, hno]
     simp only [if_true, beq_self_eq_true, Bool.and_self, List.length_nil, Bool.false_eq_true, if_false]
     have z0 : ((0 : Nat) : Int) = 0 := rfl
     simp only [z0, if_true]
     exact Ev.bind awake_ev (Ev.now _)
 ·have hf : areRs y 32 = false := Bool.eq_false_iff.2 h
  rw [hf] at hr
  refine Ev.bind (meet_no hf) (Ev.bind hr ?_)
  simp only [Bool.false_eq_true, if_false, if_true, beq_self_eq_true, Bool.and_self, List.length_nil]
  have z0 : ((0 : Nat) : Int) = 0 := rfl
  simp only [z0, if_true]
  exact Ev.bind awake_ev (Ev.now _)
end Go.Proofs.Ytplhfbkejngioaa.Pure
