/- The plain statement of CoverPairs: all rectangles have a common point exactly if every two of them have one. Texts of this claim's session, put together: RefA, RefMe, Tamed, PureCoverPairs. -/
import Derived.Test.YtplhfbkejngioaaBc4
import Derived.Test.YtplhfbkejngioaaBc13
import Derived.Test.YtplhfbkejngioaaPa2
import Derived.Test.YtplhfbkejngioaaPa1
import Derived.Test.YtplhfbkejngioaaPa3
import Derived.Test.YtplhfbkejngioaaPa4
import Derived.Test.YtplhfbkejngioaaVWords
import Derived.Test.YtplhfbkejngioaaVRepsOne
namespace Go.Proofs.Ytplhfbkejngioaa.X
open Go.RowKit Go.Proofs.YtplhfbkejngioaaW.PrintWords Go.Proofs.YtplhfbkejngioaaW.PrintLast Go.Proofs.Ytplhfbkejngioaa.S Go.Proofs.Ytplhfbkejngioaa.Open
set_option linter.unusedVariables false
theorem awake_ev : Ev tickinglaw01_awake.f true := Ev.of tickinglaw01_awake.mono (k := 1) (by decide +kernel)
theorem inside_f (a : Int) : tickingref01_Inside.f a = some (inC a) := by
 unfold tickingref01_Inside.f inC
 by_cases h : -256 ≤ a
 ·rw [if_pos h]; simp [h]
 ·rw [if_neg h]; simp [h]
theorem rect_f (r : S48) : tickingref01_Rect.f r.f0 r.f1 r.f2 r.f3 = some (isR r) := by
 unfold tickingref01_Rect.f isR
 rw [inside_f, inside_f, inside_f, inside_f]
 simp only [Option.bind_some]
 cases inC r.f0 <;> cases inC r.f1 <;> cases inC r.f2 <;> cases inC r.f3 <;> simp
 by_cases h : r.f0 < r.f2 <;> simp [h]
theorem rd48_get {l : List S48} {i : Nat} (h : i < l.length) : rd_T48 l (i : Int) = l[i] := by simp [rd_T48, h]
theorem rd28_get {l : List S28} {i : Nat} (h : i < l.length) : rd_T28 l (i : Int) = l[i] := by simp [rd_T28, h]
theorem next_i {i n : Nat} (h : i < n) (hn : n ≤ 9223372036854775807) : wrap64 ((i : Int) + 1) = ((i + 1 : Nat) : Int) := by rw [w64 (by omega) (by omega)]; omega
theorem rects_l0 (l : List S48) (m : Int) (hm : l.length ≤ 9223372036854775807) : ∀ (d i : Nat), i + d = l.length → ∀ k, d < k → tickingref01_Rects.l0 k l m (i : Int) = some ((l.drop i).all isR && decide ((l.length : Int) ≤ m))
 | 0, i, h, k, hk => by
  obtain ⟨k, rfl⟩ : ∃ q, k = q + 1 := ⟨k - 1, by omega⟩
  simp only [tickingref01_Rects.l0]
  rw [if_neg (by omega), List.drop_eq_nil_of_le (by omega)]
  simp
 | d + 1, i, h, k, hk => by
  obtain ⟨k, rfl⟩ : ∃ q, k = q + 1 := ⟨k - 1, by omega⟩
  have hi : i < l.length := by omega
  have ih := rects_l0 l m hm d (i + 1) (by omega) k (by omega)
  have e : l.drop i = l[i] :: l.drop (i + 1) := List.drop_eq_getElem_cons hi
  have g1 : (i : Int) < (l.length : Int) := by omega
  have g2 : (0 : Int) ≤ (i : Int) := by omega
  simp only [tickingref01_Rects.l0]
  rw [if_pos g1, if_pos g2, rd48_get hi, rect_f, Option.bind_some, next_i hi hm, ih, e, List.all_cons]
  cases isR l[i] <;> simp
theorem rects_ev (l : List S48) (m : Int) (hm : l.length ≤ 9223372036854775807) : Ev (fun k => tickingref01_Rects.f k l m) (l.all isR && decide ((l.length : Int) ≤ m)) :=
 ⟨l.length + 1, fun k hk => by unfold tickingref01_Rects.f; exact rects_l0 l m hm l.length 0 (by omega) k (by omega)⟩
theorem areRs_eq (l : List S48) (m : Int) : (l.all isR && decide ((l.length : Int) ≤ m)) = areRs l m := by unfold areRs; exact Bool.and_comm _ _
end Go.Proofs.Ytplhfbkejngioaa.X
namespace Go.Proofs.Ytplhfbkejngioaa.X
open Go.RowKit Go.Proofs.YtplhfbkejngioaaW.PrintWords Go.Proofs.YtplhfbkejngioaaW.PrintLast Go.Proofs.Ytplhfbkejngioaa.S Go.Proofs.Ytplhfbkejngioaa.Open
set_option linter.unusedVariables false
set_option linter.unusedSimpArgs false
theorem meet_step (l : List S48) {i r f t w k : Nat} (hn : l.length ≤ 9223372036854775807) (hi : i < l.length) (hr : r < l.length) (hf : f < l.length) (ht : t < l.length) (hw : w < l.length) :
  cover_Meet.l0 (k + 3) l (r : Int) (f : Int) (t : Int) (w : Int) l (l.length : Int) (i : Int) =
  cover_Meet.l0 k l ((if (rd_T48 l r).f0 < (rd_T48 l i).f0 then i else r : Nat) : Int) ((if (rd_T48 l i).f2 < (rd_T48 l f).f2 then i else f : Nat) : Int)
   ((if (rd_T48 l t).f1 < (rd_T48 l i).f1 then i else t : Nat) : Int) ((if (rd_T48 l i).f3 < (rd_T48 l w).f3 then i else w : Nat) : Int) l (l.length : Int) ((i + 1 : Nat) : Int) := by
 have a0 : (i : Int) < (l.length : Int) := by omega
 have a1 : (r : Int) < (l.length : Int) := by omega
 have a2 : (f : Int) < (l.length : Int) := by omega
 have a3 : (t : Int) < (l.length : Int) := by omega
 have a4 : (w : Int) < (l.length : Int) := by omega
 have z : ∀ j : Nat, (0 : Int) ≤ (j : Int) := fun j => by omega
 simp only [cover_Meet.l0, cover_Meet.j1, cover_Meet.j2]
 simp only [if_pos a0, if_pos a1, if_pos a2, if_pos a3, if_pos a4, if_pos (z i), if_pos (z r), if_pos (z f), if_pos (z t), if_pos (z w), next_i hi hn, gt_iff_lt]
 by_cases c0 : (rd_T48 l r).f0 < (rd_T48 l i).f0 <;> by_cases c1 : (rd_T48 l i).f2 < (rd_T48 l f).f2 <;> by_cases c2 : (rd_T48 l t).f1 < (rd_T48 l i).f1 <;> by_cases c3 : (rd_T48 l i).f3 < (rd_T48 l w).f3 <;>
  simp only [c0, c1, c2, c3, if_true, if_false]
structure Least4 (l : List S48) (i r f t w : Nat) : Prop where
 hr : r < l.length
 hf : f < l.length
 ht : t < l.length
 hw : w < l.length
 ar : ∀ j : Nat, j < i → (rd_T48 l j).f0 ≤ (rd_T48 l r).f0
 af : ∀ j : Nat, j < i → (rd_T48 l f).f2 ≤ (rd_T48 l j).f2
 at' : ∀ j : Nat, j < i → (rd_T48 l j).f1 ≤ (rd_T48 l t).f1
 aw : ∀ j : Nat, j < i → (rd_T48 l w).f3 ≤ (rd_T48 l j).f3
theorem Least4.next {l : List S48} {i r f t w : Nat} (h : Least4 l i r f t w) (hi : i < l.length) :
  Least4 l (i + 1) (if (rd_T48 l r).f0 < (rd_T48 l i).f0 then i else r) (if (rd_T48 l i).f2 < (rd_T48 l f).f2 then i else f)
   (if (rd_T48 l t).f1 < (rd_T48 l i).f1 then i else t) (if (rd_T48 l i).f3 < (rd_T48 l w).f3 then i else w) := by
 refine ⟨?_, ?_, ?_, ?_, ?_, ?_, ?_, ?_⟩
 ·split <;> first | exact hi | exact h.hr
 ·split <;> first | exact hi | exact h.hf
 ·split <;> first | exact hi | exact h.ht
 ·split <;> first | exact hi | exact h.hw
 ·intro j hj
  rcases Nat.lt_or_eq_of_le (Nat.le_of_lt_succ hj) with hj | rfl
  ·have := h.ar j hj; split <;> omega
  ·split <;> omega
 ·intro j hj
  rcases Nat.lt_or_eq_of_le (Nat.le_of_lt_succ hj) with hj | rfl
  ·have := h.af j hj; split <;> omega
  ·split <;> omega
 ·intro j hj
  rcases Nat.lt_or_eq_of_le (Nat.le_of_lt_succ hj) with hj | rfl
  ·have := h.at' j hj; split <;> omega
  ·split <;> omega
 ·intro j hj
  rcases Nat.lt_or_eq_of_le (Nat.le_of_lt_succ hj) with hj | rfl
  ·have := h.aw j hj; split <;> omega
  ·split <;> omega
def meetOut (l : List S48) (r f t w : Nat) : Int × Int × List Int × Int :=
 if (rd_T48 l f).f2 < (rd_T48 l r).f0 then (0, 0, [mn (f : Int) (r : Int), mx (f : Int) (r : Int)], 0)
 else if (rd_T48 l w).f3 < (rd_T48 l t).f1 then (0, 0, [mn (w : Int) (t : Int), mx (w : Int) (t : Int)], 0)
 else ((rd_T48 l r).f0, (rd_T48 l t).f1, [], 0)
theorem meet_l0 (l : List S48) (hn : l.length ≤ 9223372036854775807) : ∀ (d i : Nat), i + d = l.length → ∀ r f t w, Least4 l i r f t w →
  ∃ R F T W, Least4 l l.length R F T W ∧ ∀ k, 3 * d < k → cover_Meet.l0 k l (r : Int) (f : Int) (t : Int) (w : Int) l (l.length : Int) (i : Int) = some (meetOut l R F T W)
 | 0, i, h, r, f, t, w, hl => by
  have e : i = l.length := by omega
  subst e
  refine ⟨r, f, t, w, hl, fun k hk => ?_⟩
  obtain ⟨k, rfl⟩ : ∃ q, k = q + 1 := ⟨k - 1, by omega⟩
  have a1 : (r : Int) < (l.length : Int) := by have := hl.hr; omega
  have a2 : (f : Int) < (l.length : Int) := by have := hl.hf; omega
  have a3 : (t : Int) < (l.length : Int) := by have := hl.ht; omega
  have a4 : (w : Int) < (l.length : Int) := by have := hl.hw; omega
  have z : ∀ j : Nat, (0 : Int) ≤ (j : Int) := fun j => by omega
  simp only [cover_Meet.l0]
  rw [if_neg (by omega)]
  simp only [if_pos a1, if_pos a2, if_pos a3, if_pos a4, if_pos (z r), if_pos (z f), if_pos (z t), if_pos (z w), gt_iff_lt]
  unfold meetOut
  by_cases c0 : (rd_T48 l f).f2 < (rd_T48 l r).f0
  ·rw [if_pos c0, if_pos c0]
  ·rw [if_neg c0, if_neg c0]
   by_cases c1 : (rd_T48 l w).f3 < (rd_T48 l t).f1
   ·rw [if_pos c1, if_pos c1]
   ·rw [if_neg c1, if_neg c1]
 | d + 1, i, h, r, f, t, w, hl => by
  have hi : i < l.length := by omega
  obtain ⟨R, F, T, W, hL, hk⟩ := meet_l0 l hn d (i + 1) (by omega) _ _ _ _ (hl.next hi)
  refine ⟨R, F, T, W, hL, fun k hk' => ?_⟩
  obtain ⟨k, rfl⟩ : ∃ q, k = q + 3 := ⟨k - 3, by omega⟩
  rw [meet_step l hn hi hl.hr hl.hf hl.ht hl.hw]
  exact hk k (by omega)
theorem meet_ev {l : List S48} (h : areRs l 32 = true) (hne : 0 < l.length) : ∃ R F T W, Least4 l l.length R F T W ∧ Ev (fun k => cover_Meet.f k l) (meetOut l R F T W) := by
 have hn : l.length ≤ 32 := by unfold areRs at h; simp only [Bool.and_eq_true, decide_eq_true_eq] at h; omega
 obtain ⟨R, F, T, W, hL, hk⟩ := meet_l0 l (by omega) l.length 0 (by omega) 0 0 0 0 ⟨hne, hne, hne, hne, fun j hj => by omega, fun j hj => by omega, fun j hj => by omega, fun j hj => by omega⟩
 refine ⟨R, F, T, W, hL, 3 * l.length + 1, fun k hk' => ?_⟩
 unfold cover_Meet.f
 have e : cover_areRects.f l 32 = some true := by rw [← h]; rfl
 dsimp only
 rw [e, Option.bind_some, if_pos rfl, if_neg (by omega)]
 exact hk k (by omega)
theorem meet_no {l : List S48} (h : areRs l 32 = false) : Ev (fun k => cover_Meet.f k l) (0, 0, [], 2) := by
 refine ⟨0, fun k _ => ?_⟩
 unfold cover_Meet.f
 have e : cover_areRects.f l 32 = some false := by rw [← h]; rfl
 dsimp only
 rw [e, Option.bind_some, if_neg (by decide)]
theorem meet_nil : Ev (fun k => cover_Meet.f k []) (0, 0, [], 0) := by
 refine ⟨0, fun k _ => ?_⟩
 unfold cover_Meet.f
 have e : cover_areRects.f [] 32 = some true := rfl
 dsimp only
 rw [e, Option.bind_some, if_pos rfl]
 rfl
theorem isR_at {l : List S48} {m : Int} (h : areRs l m = true) {j : Nat} (hj : j < l.length) : isR (rd_T48 l j) = true := by
 unfold areRs at h
 simp only [Bool.and_eq_true, decide_eq_true_eq, List.all_eq_true] at h
 rw [rd48_get hj]
 exact h.2 _ (List.getElem_mem hj)
end Go.Proofs.Ytplhfbkejngioaa.X
namespace Go.Proofs.Ytplhfbkejngioaa.X
open Go.RowKit Go.Proofs.YtplhfbkejngioaaW.PrintWords Go.Proofs.YtplhfbkejngioaaW.PrintLast Go.Proofs.Ytplhfbkejngioaa.S Go.Proofs.Ytplhfbkejngioaa.Open
set_option linter.unusedVariables false
set_option linter.unusedSimpArgs false
theorem mod_some (a m : Int) (h : IntKind.u64.wrap m ≠ 0) : ∃ x, tickinglaw01_mod.f a m = some x := by
 unfold tickinglaw01_mod.f
 rw [if_neg h]
 exact ⟨_, rfl⟩
theorem near_some (a most : Int) (h : IntKind.u64.wrap (wrap64 ((wrap64 (2 * most)) + 1)) ≠ 0) : ∃ x, tickinglaw01_near.f a most = some x := by
 unfold tickinglaw01_near.f
 obtain ⟨x, hx⟩ := mod_some a _ h
 rw [hx]
 by_cases h0 : a < wrap64 (-most)
 ·rw [if_pos h0]; exact ⟨_, rfl⟩
 ·rw [if_neg h0]
  by_cases h1 : a > most
  ·rw [if_pos h1]; exact ⟨_, rfl⟩
  ·rw [if_neg h1]; exact ⟨_, rfl⟩
theorem tamed_j2 (l : List S48) (many most : Int) (acc : List S48) (i a b c d : Int) (hacc : acc.length ≤ 64) (hall : acc.all isR = true) :
  ∃ out : List S48, out.length ≤ acc.length + 1 ∧ out.all isR = true ∧ ∀ k, tickinglaw01_tamed.j2 (k + 1) l many most acc i a b c d = tickinglaw01_tamed.l0 k l many most out (wrap64 (i + 1)) := by
 have hl : acc.length < 4398046511104 := by omega
 have key : ∀ q : S48, ∃ out : List S48, out.length ≤ acc.length + 1 ∧ out.all isR = true ∧
   ∀ k, ((tickingref01_Rect.f q.f0 q.f1 q.f2 q.f3).bind fun t441 => (if t441 = true then (if acc.length < 4398046511104 then (tickinglaw01_tamed.l0 k l many most (acc ++ [q]) (wrap64 (i + 1))) else (none)) else (tickinglaw01_tamed.l0 k l many most acc (wrap64 (i + 1))))) = tickinglaw01_tamed.l0 k l many most out (wrap64 (i + 1)) := by
  intro q
  by_cases hq : isR q = true
  ·refine ⟨acc ++ [q], by simp, by simp only [List.all_append, hall, List.all_cons, hq, List.all_nil, Bool.and_self], fun k => ?_⟩
   rw [rect_f, Option.bind_some, if_pos hq, if_pos hl]
  ·refine ⟨acc, by omega, hall, fun k => ?_⟩
   rw [rect_f, Option.bind_some, if_neg hq]
 by_cases h : b > d
 ·obtain ⟨out, h1, h2, h3⟩ := key ⟨a, d, c, b⟩
  refine ⟨out, h1, h2, fun k => ?_⟩
  simp only [tickinglaw01_tamed.j2]
  rw [if_pos h]
  exact h3 k
 ·obtain ⟨out, h1, h2, h3⟩ := key ⟨a, b, c, d⟩
  refine ⟨out, h1, h2, fun k => ?_⟩
  simp only [tickinglaw01_tamed.j2]
  rw [if_neg h]
  exact h3 k
theorem tamed_l0 (l : List S48) (hn : l.length ≤ 9223372036854775807) (many : Nat) (hm : many ≤ 32) (most : Int) (hmost : IntKind.u64.wrap (wrap64 ((wrap64 (2 * most)) + 1)) ≠ 0) :
  ∀ (d i : Nat), i + d = min l.length many → ∀ acc : List S48, acc.length ≤ i → acc.all isR = true →
   ∃ out : List S48, out.length ≤ many ∧ out.all isR = true ∧ ∀ k, 3 * d + 2 ≤ k → tickinglaw01_tamed.l0 k l (many : Int) most acc (i : Int) = some out
 | 0, i, h, acc, ha, hall => by
  refine ⟨acc, by omega, hall, fun k hk => ?_⟩
  obtain ⟨k, rfl⟩ : ∃ q, k = q + 2 := ⟨k - 2, by omega⟩
  simp only [tickinglaw01_tamed.l0, tickinglaw01_tamed.j1]
  by_cases h0 : (i : Int) < (l.length : Int)
  ·rw [if_pos h0]
   have e : decide ((i : Int) < (many : Int)) = false := decide_eq_false (by omega)
   rw [e, if_neg (by decide)]
  ·rw [if_neg h0, if_neg (by decide)]
 | d + 1, i, h, acc, ha, hall => by
  obtain ⟨x0, e0⟩ := near_some (rd_T48 l i).f0 most hmost
  obtain ⟨x1, e1⟩ := near_some (rd_T48 l i).f1 most hmost
  obtain ⟨x2, e2⟩ := near_some (rd_T48 l i).f2 most hmost
  obtain ⟨x3, e3⟩ := near_some (rd_T48 l i).f3 most hmost
  have hi : i < l.length := by omega
  have h0 : (i : Int) < (l.length : Int) := by omega
  have h1 : decide ((i : Int) < (many : Int)) = true := decide_eq_true (by omega)
  have h2 : (0 : Int) ≤ (i : Int) := by omega
  have key : ∃ out : List S48, out.length ≤ acc.length + 1 ∧ out.all isR = true ∧ ∀ k, tickinglaw01_tamed.l0 (k + 3) l (many : Int) most acc (i : Int) = tickinglaw01_tamed.l0 k l (many : Int) most out (wrap64 ((i : Int) + 1)) := by
   by_cases c : x0 > x2
   ·obtain ⟨out, a1, a2, a3⟩ := tamed_j2 l many most acc i x2 x1 x0 x3 (by omega) hall
    refine ⟨out, a1, a2, fun k => ?_⟩
    simp only [tickinglaw01_tamed.l0, tickinglaw01_tamed.j1]
    rw [if_pos h0, h1, if_pos rfl, if_pos h2, if_pos h0, e0, e1, e2, e3]
    simp only [Option.bind_some]
    rw [if_pos c]
    exact a3 k
   ·obtain ⟨out, a1, a2, a3⟩ := tamed_j2 l many most acc i x0 x1 x2 x3 (by omega) hall
    refine ⟨out, a1, a2, fun k => ?_⟩
    simp only [tickinglaw01_tamed.l0, tickinglaw01_tamed.j1]
    rw [if_pos h0, h1, if_pos rfl, if_pos h2, if_pos h0, e0, e1, e2, e3]
    simp only [Option.bind_some]
    rw [if_neg c]
    exact a3 k
  obtain ⟨acc', a1, a2, a3⟩ := key
  obtain ⟨out, b1, b2, b3⟩ := tamed_l0 l hn many hm most hmost d (i + 1) (by omega) acc' (by omega) a2
  refine ⟨out, b1, b2, fun k hk => ?_⟩
  obtain ⟨k, rfl⟩ : ∃ q, k = q + 3 := ⟨k - 3, by omega⟩
  rw [a3, next_i hi hn]
  exact b3 k (by omega)
theorem tamed_ev (l : List S48) (hn : l.length ≤ 9223372036854775807) (many : Nat) (hm : many ≤ 32) (most : Int) (hmost : IntKind.u64.wrap (wrap64 ((wrap64 (2 * most)) + 1)) ≠ 0) :
  ∃ out : List S48, out.length ≤ many ∧ out.all isR = true ∧ Ev (fun k => tickinglaw01_tamed.f k l (many : Int) most) out := by
 obtain ⟨out, h1, h2, h3⟩ := tamed_l0 l hn many hm most hmost (min l.length many) 0 (by omega) [] (by simp) rfl
 exact ⟨out, h1, h2, _, fun k hk => by unfold tickinglaw01_tamed.f; exact h3 k hk⟩
end Go.Proofs.Ytplhfbkejngioaa.X
namespace Go.Proofs.Ytplhfbkejngioaa.Pure
open Go.RowKit Go.Proofs.Ytplhfbkejngioaa.X Go.Proofs.Ytplhfbkejngioaa.Open Go.Proofs.YtplhfbkejngioaaW.PrintWords Go.Proofs.YtplhfbkejngioaaW.PrintLast Go.Proofs.Ytplhfbkejngioaa.S
set_option linter.unusedVariables false
set_option linter.unusedSimpArgs false
def meets2 (a b : S48) : Prop := a.f0 ≤ b.f2 ∧ b.f0 ≤ a.f2 ∧ a.f1 ≤ b.f3 ∧ b.f1 ≤ a.f3
theorem two_ev (a b : S48) (ha : isR a = true) (hb : isR b = true) :
  ∃ o : Int × Int × List Int × Int, Ev (fun k => cover_Meet.f k [a, b]) o ∧ o.2.2.2 = 0 ∧ (((o.2.2.1.length : Int) == 0) = true ↔ meets2 a b) := by
 have hs : areRs [a, b] 32 = true := by unfold areRs; simp [ha, hb]
 obtain ⟨R, F, T, W, hL, hE⟩ := meet_ev (l := [a, b]) hs (by simp)
 have r0 : rd_T48 [a, b] ((0 : Nat) : Int) = a := rfl
 have r1 : rd_T48 [a, b] ((1 : Nat) : Int) = b := rfl
 have cs : ∀ q : Nat, q < ([a, b] : List S48).length → rd_T48 [a, b] (q : Int) = a ∨ rd_T48 [a, b] (q : Int) = b := by
  intro q hq
  have hq2 : q < 2 := hq
  rcases Nat.eq_zero_or_pos q with h | h
  ·subst h; exact Or.inl r0
  ·obtain rfl : q = 1 := by omega
   exact Or.inr r1
 have l0 : (0 : Nat) < ([a, b] : List S48).length := by simp
 have l1 : (1 : Nat) < ([a, b] : List S48).length := by simp
 have a0 := hL.ar 0 l0; have a1 := hL.ar 1 l1
 have b0 := hL.af 0 l0; have b1 := hL.af 1 l1
 have c0 := hL.at' 0 l0; have c1 := hL.at' 1 l1
 have d0 := hL.aw 0 l0; have d1 := hL.aw 1 l1
 rw [r0] at a0 b0 c0 d0
 rw [r1] at a1 b1 c1 d1
 have bda := isR_bd ha
 have bdb := isR_bd hb
 refine ⟨_, hE, ?_, ?_⟩
 ·unfold meetOut; split
  ·rfl
  ·split <;> rfl
 ·have eR := cs R hL.hr; have eF := cs F hL.hf; have eT := cs T hL.ht; have eW := cs W hL.hw
  unfold meetOut meets2
  by_cases h0 : (rd_T48 [a, b] F).f2 < (rd_T48 [a, b] R).f0
  ·rw [if_pos h0]
   constructor
   ·intro h; exact absurd h (show ¬ ((((2 : Nat) : Int) == 0) = true) from by decide)
   ·intro h
    exfalso
    rcases eR with e | e <;> rcases eF with e' | e' <;> rw [e, e'] at h0 <;> omega
  ·rw [if_neg h0]
   by_cases h1 : (rd_T48 [a, b] W).f3 < (rd_T48 [a, b] T).f1
   ·rw [if_pos h1]
    constructor
    ·intro h; exact absurd h (show ¬ ((((2 : Nat) : Int) == 0) = true) from by decide)
    ·intro h
     exfalso
     rcases eT with e | e <;> rcases eW with e' | e' <;> rw [e, e'] at h1 <;> omega
   ·rw [if_neg h1]
    exact ⟨fun _ => by omega, fun _ => rfl⟩
def upTo (y : List S48) (i : Nat) : Prop := ∀ p q : Nat, q < p → p < i → meets2 (rd_T48 y p) (rd_T48 y q)
theorem pairs_l1 (y : List S48) (s : List Int) (X Y : Int) (hy : y.length ≤ 9223372036854775807) (hR : ∀ j : Nat, j < y.length → isR (rd_T48 y j) = true) (i : Nat) (hi : i < y.length)
  (hnext : ∀ b : Bool, (b = true ↔ upTo y (i + 1)) → Ev (fun k => tickinglaw01_CoverPairs.l0 k y s b ((i + 1 : Nat) : Int) X Y) true) :
  ∀ (e j : Nat), j + e = i → ∀ b : Bool, (b = true ↔ (upTo y i ∧ ∀ q : Nat, q < j → meets2 (rd_T48 y i) (rd_T48 y q))) → Ev (fun k => tickinglaw01_CoverPairs.l1 k y s b (i : Int) (j : Int) X Y) true
 | 0, j, h, b, hb => by
  have e : j = i := by omega
  subst e
  refine Ev.step (f := fun k => tickinglaw01_CoverPairs.l0 k y s b ((j + 1 : Nat) : Int) X Y) (fun k => ?_) (hnext b ?_)
  ·simp only [tickinglaw01_CoverPairs.l1]
   rw [if_neg (by omega), next_i hi hy]
  ·rw [hb]
   constructor
   ·rintro ⟨u, v⟩ p q hq hp
    rcases Nat.lt_or_eq_of_le (Nat.le_of_lt_succ hp) with h | rfl
    ·exact u p q hq h
    ·exact v q hq
   ·exact fun u => ⟨fun p q hq hp => u p q hq (by omega), fun q hq => u j q hq (by omega)⟩
 | e + 1, j, h, b, hb => by
  have hj : j < i := by omega
  obtain ⟨o, ho, o0, o1⟩ := two_ev (rd_T48 y i) (rd_T48 y j) (hR i hi) (hR j (by omega))
  have ih := pairs_l1 y s X Y hy hR i hi hnext e (j + 1) (by omega)
  have g0 : (j : Int) < (i : Int) := by omega
  have g1 : (0 : Int) ≤ (i : Int) := by omega
  have g2 : (i : Int) < (y.length : Int) := by omega
  have g3 : (0 : Int) ≤ (j : Int) := by omega
  have g4 : (j : Int) < (y.length : Int) := by omega
  refine Ev.step (f := fun k => (cover_Meet.f k [rd_T48 y i, rd_T48 y j]).bind fun bt727 => (if bt727.2.2.2 = 0 then (if b = true then (tickinglaw01_CoverPairs.l1 k y s ((bt727.2.2.1.length : Int) == 0) (i : Int) ((j + 1 : Nat) : Int) X Y) else (tickinglaw01_CoverPairs.l1 k y s false (i : Int) ((j + 1 : Nat) : Int) X Y)) else (some false))) (fun k => ?_) (Ev.bind ho ?_)
  ·simp only [tickinglaw01_CoverPairs.l1]
   rw [if_pos g0, if_pos g1, if_pos g2, if_pos g3, if_pos g4, next_i (by omega : j < y.length) hy]
  ·simp only [o0, if_true]
   cases hbb : b with
   | true =>
    simp only [if_true]
    refine ih _ ?_
    rw [o1]
    have hb' := hb.1 hbb
    constructor
    ·intro hm
     refine ⟨hb'.1, fun q hq => ?_⟩
     rcases Nat.lt_or_eq_of_le (Nat.le_of_lt_succ hq) with h | rfl
     ·exact hb'.2 q h
     ·exact hm
    ·exact fun hm => hm.2 j (by omega)
   | false =>
    simp only [Bool.false_eq_true, if_false]
    refine ih _ ?_
    constructor
    ·intro h; cases h
    ·intro hm
     have : b = true := hb.2 ⟨hm.1, fun q hq => hm.2 q (by omega)⟩
     rw [hbb] at this
     exact this
theorem pairs_l0 (y : List S48) (s : List Int) (X Y : Int) (hy : y.length ≤ 9223372036854775807) (hR : ∀ j : Nat, j < y.length → isR (rd_T48 y j) = true)
  (hfin : ∀ b : Bool, (b = true ↔ upTo y y.length) → Ev (fun k => tickinglaw01_CoverPairs.l0 k y s b (y.length : Int) X Y) true) :
  ∀ (d i : Nat), i + d = y.length → ∀ b : Bool, (b = true ↔ upTo y i) → Ev (fun k => tickinglaw01_CoverPairs.l0 k y s b (i : Int) X Y) true
 | 0, i, h, b, hb => by
  have e : i = y.length := by omega
  subst e
  exact hfin b hb
 | d + 1, i, h, b, hb => by
  have hi : i < y.length := by omega
  have ih := pairs_l0 y s X Y hy hR hfin d (i + 1) (by omega)
  refine Ev.step (f := fun k => tickinglaw01_CoverPairs.l1 k y s b (i : Int) ((0 : Nat) : Int) X Y) (fun k => ?_) (pairs_l1 y s X Y hy hR i hi ih i 0 (by omega) b ?_)
  ·simp only [tickinglaw01_CoverPairs.l0]
   rw [if_pos (by omega)]
   rfl
  ·rw [hb]
   exact ⟨fun u => ⟨u, fun q hq => by omega⟩, fun u => u.1⟩
theorem pairs_l2 (y : List S48) (X Y : Int) (hy : y.length ≤ 9223372036854775807) (hall : ∀ j : Nat, j < y.length → (rd_T48 y j).f0 ≤ X ∧ X ≤ (rd_T48 y j).f2 ∧ (rd_T48 y j).f1 ≤ Y ∧ Y ≤ (rd_T48 y j).f3) :
  ∀ (d i : Nat), i + d = y.length → Ev (fun k => tickinglaw01_CoverPairs.l2 k y true (i : Int) X Y) true
 | 0, i, h => by
  refine Ev.step (f := fun k => (tickinglaw01_awake.f k).bind fun t739 => some t739) (fun k => ?_) (Ev.bind awake_ev (Ev.now _))
  simp only [tickinglaw01_CoverPairs.l2]
  rw [if_neg (by omega), if_pos trivial]
 | d + 1, i, h => by
  have hi : i < y.length := by omega
  have ih := pairs_l2 y X Y hy hall d (i + 1) (by omega)
  obtain ⟨h0, h1, h2, h3⟩ := hall i hi
  refine Ev.step (fun k => ?_) ih
  simp only [tickinglaw01_CoverPairs.l2]
  rw [if_pos (by omega), if_pos (by omega), if_neg (by omega), if_neg (by omega), if_neg (by omega), if_neg (by omega), next_i hi hy]
theorem CoverPairs (l0 : List S48) (hm0 : l0.length ≤ 9223372036854775807) (hI0 : ∀ x ∈ l0, I64 x.f0 ∧ I64 x.f1 ∧ I64 x.f2 ∧ I64 x.f3) : ∃ k, tickinglaw01_CoverPairs.f k l0 = some true := by
 refine Ev.rounds ?_
 obtain ⟨y, hy, hall, hE⟩ := tamed_ev l0 hm0 16 (by decide) 256 (by decide +kernel)
 unfold tickinglaw01_CoverPairs.f
 refine Ev.bind hE ?_
 have hyb : y.length ≤ 9223372036854775807 := by omega
 have hs : areRs y 32 = true := by unfold areRs; rw [hall, decide_eq_true (by omega)]; rfl
 have hR : ∀ j : Nat, j < y.length → isR (rd_T48 y j) = true := fun j hj => isR_at hs hj
 have start : ∀ b : Bool, b = true → (b = true ↔ upTo y 0) := fun b hb => ⟨fun _ p q hq hp => by omega, fun _ => hb⟩
 rcases Nat.eq_zero_or_pos y.length with h0 | h0
 ·obtain rfl : y = [] := List.length_eq_zero_iff.1 h0
  refine Ev.bind meet_nil ?_
  simp only [if_true]
  refine Ev.step (f := fun k => tickinglaw01_CoverPairs.l2 k [] true ((0 : Nat) : Int) 0 0) (fun k => ?_) (pairs_l2 [] 0 0 hyb (fun j hj => by simp at hj) 0 0 rfl)
  simp only [tickinglaw01_CoverPairs.l0]
  rw [if_neg (by decide), if_neg (by decide)]
  rfl
 ·obtain ⟨R, F, T, W, hL, hM⟩ := meet_ev hs h0
  refine Ev.bind hM ?_
  have bad : ∀ (a b : Nat) (s : List Int), a < y.length → b < y.length → a ≠ b → ¬ meets2 (rd_T48 y a) (rd_T48 y b) → (s.length : Int) > 0 →
    Ev (fun k => tickinglaw01_CoverPairs.l0 k y s true 0 0 0) true := by
   intro a b s ha hb hne hnm hs0
   refine pairs_l0 y s 0 0 hyb hR (fun f hf => ?_) y.length 0 (by omega) true (start true rfl)
   have hff : f = false := by
    rw [← Bool.not_eq_true, hf]
    intro u
    rcases Nat.lt_or_gt_of_ne hne with h | h
    ·have := u b a h hb
     unfold meets2 at this hnm
     omega
    ·have := u a b h ha
     exact hnm this
   subst hff
   refine Ev.step (f := fun k => (tickinglaw01_awake.f k).bind fun t734 => some t734) (fun k => ?_) (Ev.bind awake_ev (Ev.now _))
   simp only [tickinglaw01_CoverPairs.l0]
   rw [if_neg (by omega), if_pos hs0, if_neg (by decide)]
  unfold meetOut
  by_cases c0 : (rd_T48 y F).f2 < (rd_T48 y R).f0
  ·rw [if_pos c0]
   simp only [if_true]
   refine bad F R _ hL.hf hL.hr (fun e => ?_) (fun h => ?_) (show ((2 : Nat) : Int) > 0 from by decide)
   ·have := isR_bd (hR R hL.hr); subst e; omega
   ·unfold meets2 at h; omega
  ·rw [if_neg c0]
   by_cases c1 : (rd_T48 y W).f3 < (rd_T48 y T).f1
   ·rw [if_pos c1]
    simp only [if_true]
    refine bad W T _ hL.hw hL.ht (fun e => ?_) (fun h => ?_) (show ((2 : Nat) : Int) > 0 from by decide)
    ·have := isR_bd (hR T hL.ht); subst e; omega
    ·unfold meets2 at h; omega
   ·rw [if_neg c1]
    simp only [if_true]
    refine pairs_l0 y [] _ _ hyb hR (fun f hf => ?_) y.length 0 (by omega) true (start true rfl)
    have hff : f = true := by
     rw [hf]
     intro p q hq hp
     have p0 := hL.ar p hp; have q0 := hL.ar q (by omega)
     have p1 := hL.af p hp; have q1 := hL.af q (by omega)
     have p2 := hL.at' p hp; have q2 := hL.at' q (by omega)
     have p3 := hL.aw p hp; have q3 := hL.aw q (by omega)
     unfold meets2
     omega
    subst hff
    refine Ev.step (f := fun k => tickinglaw01_CoverPairs.l2 k y true ((0 : Nat) : Int) (rd_T48 y R).f0 (rd_T48 y T).f1) (fun k => ?_) (pairs_l2 y _ _ hyb (fun j hj => ?_) y.length 0 (by omega))
    ·simp only [tickinglaw01_CoverPairs.l0]
     rw [if_neg (by omega), if_neg (by decide)]
     rfl
    ·have q0 := hL.ar j hj
     have q1 := hL.af j hj
     have q2 := hL.at' j hj
     have q3 := hL.aw j hj
     omega
end Go.Proofs.Ytplhfbkejngioaa.Pure
