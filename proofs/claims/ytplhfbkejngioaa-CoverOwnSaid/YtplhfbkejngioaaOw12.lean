/- What the law's own 'mod', 'near', 'tame' and 'less' come to. Texts of this claim's session, put together: RefA, RefB1, RTiles, Tame. -/
import Derived.Test.YtplhfbkejngioaaBc4
import Derived.Test.YtplhfbkejngioaaBc13
import Derived.Test.YtplhfbkejngioaaOw4
import Derived.Test.YtplhfbkejngioaaOw10
import Derived.Test.YtplhfbkejngioaaBc11
import Derived.Test.YtplhfbkejngioaaOw8
import Derived.Test.YtplhfbkejngioaaVWords
namespace Go.Proofs.Ytplhfbkejngioaa.X
open Go.RowKit Go.Proofs.YtplhfbkejngioaaW.PrintWords Go.Proofs.YtplhfbkejngioaaW.PrintLast Go.Proofs.Ytplhfbkejngioaa.S Go.Proofs.Ytplhfbkejngioaa.Open
set_option linter.unusedVariables false
theorem inside_f (a : Int) : tickingref01_Inside.f a = some (inC a) := by
 unfold tickingref01_Inside.f inC
 by_cases h : -256 ≤ a
 ·rw [if_pos h]; simp [h]
 ·rw [if_neg h]; simp [h]
theorem rect_f (r : S48) : tickingref01_Rect.f r.f0 r.f1 r.f2 r.f3 = some (isR r) := by
 unfold tickingref01_Rect.f isR
 rw [inside_f, inside_f, inside_f, inside_f]
 simp only [Option.bind_some]
 cases inC r.f0 <;> cases inC r.f1 <;> cases inC r.f2 <;> cases inC r.f3 <;> simp
 by_cases h : r.f0 < r.f2 <;> simp [h]
theorem rd48_get {l : List S48} {i : Nat} (h : i < l.length) : rd_T48 l (i : Int) = l[i] := by simp [rd_T48, h]
theorem next_i {i n : Nat} (h : i < n) (hn : n ≤ 9223372036854775807) : wrap64 ((i : Int) + 1) = ((i + 1 : Nat) : Int) := by rw [w64 (by omega) (by omega)]; omega
theorem rects_l0 (l : List S48) (m : Int) (hm : l.length ≤ 9223372036854775807) : ∀ (d i : Nat), i + d = l.length → ∀ k, d < k → tickingref01_Rects.l0 k l m (i : Int) = some ((l.drop i).all isR && decide ((l.length : Int) ≤ m))
 | 0, i, h, k, hk => by
  obtain ⟨k, rfl⟩ : ∃ q, k = q + 1 := ⟨k - 1, by omega⟩
  simp only [tickingref01_Rects.l0]
  rw [if_neg (by omega), List.drop_eq_nil_of_le (by omega)]
  simp
 | d + 1, i, h, k, hk => by
  obtain ⟨k, rfl⟩ : ∃ q, k = q + 1 := ⟨k - 1, by omega⟩
  have hi : i < l.length := by omega
  have ih := rects_l0 l m hm d (i + 1) (by omega) k (by omega)
  have e : l.drop i = l[i] :: l.drop (i + 1) := List.drop_eq_getElem_cons hi
  have g1 : (i : Int) < (l.length : Int) := by omega
  have g2 : (0 : Int) ≤ (i : Int) := by omega
  simp only [tickingref01_Rects.l0]
  rw [if_pos g1, if_pos g2, rd48_get hi, rect_f, Option.bind_some, next_i hi hm, ih, e, List.all_cons]
  cases isR l[i] <;> simp
theorem rects_ev (l : List S48) (m : Int) (hm : l.length ≤ 9223372036854775807) : Ev (fun k => tickingref01_Rects.f k l m) (l.all isR && decide ((l.length : Int) ≤ m)) :=
 ⟨l.length + 1, fun k hk => by unfold tickingref01_Rects.f; exact rects_l0 l m hm l.length 0 (by omega) k (by omega)⟩
theorem areRs_eq (l : List S48) (m : Int) : (l.all isR && decide ((l.length : Int) ≤ m)) = areRs l m := by unfold areRs; exact Bool.and_comm _ _
end Go.Proofs.Ytplhfbkejngioaa.X
namespace Go.Proofs.Ytplhfbkejngioaa.X
open Go.RowKit Go.Proofs.YtplhfbkejngioaaW.PrintWords Go.Proofs.YtplhfbkejngioaaW.PrintLast Go.Proofs.Ytplhfbkejngioaa.Open Go.Proofs.Ytplhfbkejngioaa.S
set_option linter.unusedVariables false
set_option linter.unusedSimpArgs false
theorem next_w {i : Nat} (h : i < 1000000) : wrap64 ((i : Int) + 1) = ((i + 1 : Nat) : Int) := by rw [w64 (by omega) (by omega)]; omega
theorem depth_l0 (l : List S48) (x y : Int) (hm : l.length ≤ 1000) : ∀ (d i : Nat) (n : Nat), i + d = l.length → n ≤ i → ∀ k, d < k → tickingref01_Depth.l0 k l x y (n : Int) (i : Int) = some ((n : Int) + depthL (l.drop i) x y)
 | 0, i, n, h, hn, k, hk => by
  obtain ⟨k, rfl⟩ : ∃ q, k = q + 1 := ⟨k - 1, by omega⟩
  simp only [tickingref01_Depth.l0]
  rw [if_neg (by omega), List.drop_eq_nil_of_le (by omega)]
  simp [depthL]
 | d + 1, i, n, h, hn, k, hk => by
  obtain ⟨k, rfl⟩ : ∃ q, k = q + 1 := ⟨k - 1, by omega⟩
  have hi : i < l.length := by omega
  have ih0 := depth_l0 l x y hm d (i + 1) n (by omega) (by omega) k (by omega)
  have ih1 := depth_l0 l x y hm d (i + 1) (n + 1) (by omega) (by omega) k (by omega)
  have e : l.drop i = l[i] :: l.drop (i + 1) := List.drop_eq_getElem_cons hi
  have g1 : (i : Int) < (l.length : Int) := by omega
  have g2 : (0 : Int) ≤ (i : Int) := by omega
  have w1 : wrap64 ((i : Int) + 1) = ((i + 1 : Nat) : Int) := next_w (by omega)
  have w2 : wrap64 ((n : Int) + 1) = ((n + 1 : Nat) : Int) := next_w (by omega)
  simp only [tickingref01_Depth.l0]
  rw [if_pos g1, if_pos g2, rd48_get hi, w1, w2, ih0, ih1, e]
  have hc : depthL (l[i] :: l.drop (i + 1)) x y = (if covers l[i] x y then 1 else 0) + depthL (l.drop (i + 1)) x y := by
   unfold depthL
   by_cases hcv : covers l[i] x y = true
   ·rw [List.filter_cons_of_pos (p := fun r => covers r x y) hcv, if_pos hcv]; simp; omega
   ·rw [List.filter_cons_of_neg (p := fun r => covers r x y) hcv, if_neg hcv]; simp
  rw [hc]
  by_cases h1 : l[i].f0 ≤ x
  ·rw [if_pos h1]
   by_cases h2 : x < l[i].f2
   ·rw [if_pos h2]
    by_cases h3 : l[i].f1 ≤ y
    ·rw [if_pos h3]
     by_cases h4 : y < l[i].f3
     ·rw [if_pos h4, if_pos (by simp [covers, h1, h2, h3, h4])]; congr 1; omega
     ·rw [if_neg h4, if_neg (by simp [covers, h4])]; congr 1; omega
    ·rw [if_neg h3, if_neg (by simp [covers, h3])]; congr 1; omega
   ·rw [if_neg h2, if_neg (by simp [covers, h2])]; congr 1; omega
  ·rw [if_neg h1, if_neg (by simp [covers, h1])]; congr 1; omega
theorem depth_f (l : List S48) (x y : Int) (hm : l.length ≤ 1000) {k : Nat} (hk : 1000 < k) : tickingref01_Depth.f k l x y = some (depthL l x y) := by
 unfold tickingref01_Depth.f
 have := depth_l0 l x y hm l.length 0 0 (by omega) (by omega) k (by omega)
 simpa using this
theorem ins_len (x : Int) : ∀ l : List Int, (ins x l).length ≤ l.length + 1
 | [] => by simp [ins]
 | y :: l => by
  unfold ins
  split
  ·have := ins_len x l; simp; omega
  ·split <;> simp
theorem insert_l0 (xs : List Int) (x : Int) (hm : xs.length ≤ 1000) : ∀ (d i : Nat), i + d = xs.length → ∀ k, d < k → tickingref01_insert.l0 k xs x (i : Int) = some (xs.take i ++ ins x (xs.drop i))
 | 0, i, h, k, hk => by
  obtain ⟨k, rfl⟩ : ∃ q, k = q + 1 := ⟨k - 1, by omega⟩
  simp only [tickingref01_insert.l0]
  rw [if_neg (by omega), if_pos (by omega), if_pos (by omega), Int.toNat_natCast, List.drop_eq_nil_of_le (by omega), List.take_of_length_le (by omega)]
  simp only [Option.bind_some, List.length_nil, List.nil_append, List.length_append, List.length_cons, List.append_nil, ins]
  rw [if_pos (by omega), if_pos (by omega), if_pos (by omega)]
 | d + 1, i, h, k, hk => by
  obtain ⟨k, rfl⟩ : ∃ q, k = q + 1 := ⟨k - 1, by omega⟩
  have hi : i < xs.length := by omega
  have ih := insert_l0 xs x hm d (i + 1) (by omega) k (by omega)
  have e : xs.drop i = xs[i] :: xs.drop (i + 1) := List.drop_eq_getElem_cons hi
  have et : xs.take (i + 1) = xs.take i ++ [xs[i]] := by rw [List.take_succ_eq_append_getElem hi]
  have er : rd xs (i : Int) = xs[i] := by simp [rd, hi]
  have w1 : wrap64 ((i : Int) + 1) = ((i + 1 : Nat) : Int) := next_w (by omega)
  have hl : (xs.take i).length = i := by simp; omega
  have hl2 : (xs.drop i).length = xs.length - i := by simp
  simp only [tickingref01_insert.l0]
  rw [if_pos (by omega), if_pos (by omega), er, w1, ih, Int.toNat_natCast]
  rw [e, show ins x (xs[i] :: xs.drop (i + 1)) = if xs[i] < x then xs[i] :: ins x (xs.drop (i + 1)) else if xs[i] = x then xs[i] :: xs.drop (i + 1) else x :: xs[i] :: xs.drop (i + 1) from rfl]
  by_cases h1 : xs[i] < x
  ·rw [if_pos h1, if_pos h1, et, List.append_assoc]; rfl
  ·rw [if_neg h1, if_neg h1]
   by_cases h2 : xs[i] = x
   ·rw [if_pos h2, if_pos h2, ← e, List.take_append_drop]
   ·rw [if_neg h2, if_neg h2, if_pos (by omega)]
    rw [← e]
    simp only [Option.bind_some, List.length_nil, List.nil_append, List.length_append, List.length_cons]
    rw [if_pos (by omega), if_pos (by omega), if_pos (by omega), List.append_assoc]
    rfl
theorem insert_f (xs : List Int) (x : Int) (hm : xs.length ≤ 1000) {k : Nat} (hk : 1000 < k) : tickingref01_insert.f k xs x = some (ins x xs) := by
 unfold tickingref01_insert.f
 have := insert_l0 xs x hm xs.length 0 (by omega) k (by omega)
 simpa using this
theorem lines_l0 (l : List S48) (b : Bool) (hm : l.length ≤ 100) : ∀ (d i : Nat) (o : List Int), i + d = l.length → o.length ≤ 2 * i → ∀ k, 1001 + d < k →
  tickingref01_lines.l0 k l b o (i : Int) = some (if b then (l.drop i).foldl (fun o r => ins r.f2 (ins r.f0 o)) o else (l.drop i).foldl (fun o r => ins r.f3 (ins r.f1 o)) o)
 | 0, i, o, h, ho, k, hk => by
  obtain ⟨k, rfl⟩ : ∃ q, k = q + 1 := ⟨k - 1, by omega⟩
  simp only [tickingref01_lines.l0]
  rw [if_neg (by omega), List.drop_eq_nil_of_le (by omega)]
  simp
 | d + 1, i, o, h, ho, k, hk => by
  obtain ⟨k, rfl⟩ : ∃ q, k = q + 1 := ⟨k - 1, by omega⟩
  have hi : i < l.length := by omega
  have e : l.drop i = l[i] :: l.drop (i + 1) := List.drop_eq_getElem_cons hi
  have w1 : wrap64 ((i : Int) + 1) = ((i + 1 : Nat) : Int) := next_w (by omega)
  have g1 : (i : Int) < (l.length : Int) := by omega
  have g2 : (0 : Int) ≤ (i : Int) := by omega
  simp only [tickingref01_lines.l0]
  rw [if_pos g1, rd48_get hi, w1, e]
  cases b with
  | true =>
   have n1 := ins_len l[i].f0 o
   have n2 := ins_len l[i].f2 (ins l[i].f0 o)
   have ih := lines_l0 l true hm d (i + 1) (ins l[i].f2 (ins l[i].f0 o)) (by omega) (by omega) k (by omega)
   rw [if_pos rfl, if_pos g2, insert_f _ _ (by omega) (by omega), Option.bind_some, insert_f _ _ (by omega) (by omega), Option.bind_some, ih]
   simp only [if_true, Bool.false_eq_true, if_false, List.foldl_cons]
  | false =>
   have n1 := ins_len l[i].f1 o
   have n2 := ins_len l[i].f3 (ins l[i].f1 o)
   have ih := lines_l0 l false hm d (i + 1) (ins l[i].f3 (ins l[i].f1 o)) (by omega) (by omega) k (by omega)
   rw [if_neg Bool.false_ne_true, if_pos g2, insert_f _ _ (by omega) (by omega), Option.bind_some, insert_f _ _ (by omega) (by omega), Option.bind_some, ih]
   simp only [if_true, Bool.false_eq_true, if_false, List.foldl_cons]
theorem lines_f (l : List S48) (b : Bool) (hm : l.length ≤ 100) {k : Nat} (hk : 1200 < k) : tickingref01_lines.f k l b = some (if b then linesX l else linesY l) := by
 unfold tickingref01_lines.f
 have := lines_l0 l b hm l.length 0 [] (by omega) (by simp) k (by omega)
 simpa [linesX, linesY] using this
structure Lin (l : List S48) (xs ys : List Int) : Prop where
 n : l.length ≤ 100
 nx : xs.length ≤ 64
 ny : ys.length ≤ 64
 bx : ∀ x ∈ xs, -256 ≤ x ∧ x ≤ 256
 yb : ∀ y ∈ ys, -256 ≤ y ∧ y ≤ 256
theorem lin_of {l : List S48} (h : areRs l 32 = true) : Lin l (linesX l) (linesY l) := by
 simp only [areRs, Bool.and_eq_true, decide_eq_true_eq, List.all_eq_true] at h
 have h1 := linesX_len l
 have h2 := linesY_len l
 refine ⟨by omega, by omega, by omega, fun x hx => ?_, fun y hy => ?_⟩
 ·rw [linesX_mem] at hx
  obtain ⟨r, hr, hx⟩ := List.mem_flatMap.1 hx
  have b := isR_bd (h.2 r hr)
  simp at hx
  omega
 ·rw [linesY_mem] at hy
  obtain ⟨r, hr, hy⟩ := List.mem_flatMap.1 hy
  have b := isR_bd (h.2 r hr)
  simp at hy
  omega
theorem getD_bd {xs : List Int} (h : ∀ x ∈ xs, -256 ≤ x ∧ x ≤ 256) (i : Nat) : -256 ≤ xs.getD i 0 ∧ xs.getD i 0 ≤ 256 := by
 rw [List.getD_eq_getElem?_getD]
 cases e : xs[i]? with
 | none => simp
 | some x => exact h x (List.mem_of_getElem? e)
def rowF (F : Int × Int → Int × Int → Int) (x : Int × Int) (ys : List Int) (j : Nat) : Int := sumL (((nbs ys).drop j).map (F x))
def totF (F : Int × Int → Int × Int → Int) (xs ys : List Int) (i : Nat) : Int := sumL (((nbs xs).drop i).map fun x => rowF F x ys 0)
theorem nbs_len (xs : List Int) : (nbs xs).length = xs.length - 1 := by simp [nbs_range]
theorem nbs_drop (xs : List Int) (i : Nat) (h : i + 1 < xs.length) : (nbs xs).drop i = (xs.getD i 0, xs.getD (i + 1) 0) :: (nbs xs).drop (i + 1) := by
 have hl := nbs_len xs
 rw [List.drop_eq_getElem_cons (by omega)]
 congr 1
 simp only [nbs_range, List.getElem_map, List.getElem_range]
theorem nbs_end (xs : List Int) (i : Nat) (h : ¬ i + 1 < xs.length) : (nbs xs).drop i = [] := List.drop_eq_nil_of_le (by have := nbs_len xs; omega)
theorem rowF_step (F : Int × Int → Int × Int → Int) (x : Int × Int) (ys : List Int) (j : Nat) (h : j + 1 < ys.length) : rowF F x ys j = F x (ys.getD j 0, ys.getD (j + 1) 0) + rowF F x ys (j + 1) := by
 unfold rowF; rw [nbs_drop ys j h]; simp [sumL]
theorem rowF_end (F : Int × Int → Int × Int → Int) (x : Int × Int) (ys : List Int) (j : Nat) (h : ¬ j + 1 < ys.length) : rowF F x ys j = 0 := by
 unfold rowF; rw [nbs_end ys j h]; rfl
theorem totF_step (F : Int × Int → Int × Int → Int) (xs ys : List Int) (i : Nat) (h : i + 1 < xs.length) : totF F xs ys i = rowF F (xs.getD i 0, xs.getD (i + 1) 0) ys 0 + totF F xs ys (i + 1) := by
 unfold totF; rw [nbs_drop xs i h]; simp [sumL]
theorem totF_end (F : Int × Int → Int × Int → Int) (xs ys : List Int) (i : Nat) (h : ¬ i + 1 < xs.length) : totF F xs ys i = 0 := by
 unfold totF; rw [nbs_end xs i h]; rfl
def sml (F : Int × Int → Int × Int → Int) (xs ys : List Int) : Prop := ∀ i j, i + 1 < xs.length → j + 1 < ys.length → -262144 ≤ F (xs.getD i 0, xs.getD (i + 1) 0) (ys.getD j 0, ys.getD (j + 1) 0) ∧ F (xs.getD i 0, xs.getD (i + 1) 0) (ys.getD j 0, ys.getD (j + 1) 0) ≤ 262144
theorem rowF_bd {F : Int × Int → Int × Int → Int} {xs ys : List Int} (hF : sml F xs ys) (hn : ys.length ≤ 64) {i : Nat} (hi : i + 1 < xs.length) : ∀ (d j : Nat), j + d = ys.length → -(262144 * (d : Int)) ≤ rowF F (xs.getD i 0, xs.getD (i + 1) 0) ys j ∧ rowF F (xs.getD i 0, xs.getD (i + 1) 0) ys j ≤ 262144 * (d : Int)
 | 0, j, h => by rw [rowF_end _ _ _ _ (by omega)]; simp
 | d + 1, j, h => by
  by_cases hj : j + 1 < ys.length
  ·have ih := rowF_bd hF hn hi d (j + 1) (by omega)
   have := hF i j hi hj
   rw [rowF_step _ _ _ _ hj]
   omega
  ·rw [rowF_end _ _ _ _ hj]; omega
theorem rd_getD (xs : List Int) (i : Nat) : rd xs (i : Int) = xs.getD i 0 := by simp [rd]
def FA (l : List S48) (x y : Int × Int) : Int := if 0 < depthL l x.1 y.1 then (x.2 - x.1) * (y.2 - y.1) else 0
theorem areaL_tot (l : List S48) : areaL l = totF (FA l) (linesX l) (linesY l) 0 := rfl
theorem FA_sml {l : List S48} {xs ys : List Int} (h : Lin l xs ys) : sml (FA l) xs ys := by
 intro i j _ _
 have a := getD_bd h.bx i
 have b := getD_bd h.bx (i + 1)
 have c := getD_bd h.yb j
 have d := getD_bd h.yb (j + 1)
 unfold FA
 split
 ·exact sq_small (by dsimp only; omega)
 ·omega
theorem area_l1 {l : List S48} {xs ys : List Int} (h : Lin l xs ys) {i : Nat} (hi : i + 1 < xs.length) : ∀ (d j : Nat) (acc R : Int), j + d = ys.length → -(1073741824 * ((i : Int) + 1)) ≤ acc + rowF (FA l) (xs.getD i 0, xs.getD (i + 1) 0) ys j → acc + rowF (FA l) (xs.getD i 0, xs.getD (i + 1) 0) ys j ≤ 1073741824 * ((i : Int) + 1) →
  ∀ k, 1000 < k → (tickingref01_Area.l0 k l xs ys (acc + rowF (FA l) (xs.getD i 0, xs.getD (i + 1) 0) ys j) ((i + 1 : Nat) : Int) = some R) → tickingref01_Area.l1 (k + 1 + d) l xs ys acc (i : Int) (j : Int) = some R
 | 0, j, acc, R, hj, hlo, hhi, k, hk, hR => by
  rw [rowF_end _ _ _ _ (by omega), Int.add_zero] at hR
  have w1 : wrap64 ((j : Int) + 1) = ((j + 1 : Nat) : Int) := next_w (by have := h.ny; omega)
  have w2 : wrap64 ((i : Int) + 1) = ((i + 1 : Nat) : Int) := next_w (by have := h.nx; omega)
  simp only [tickingref01_Area.l1]
  rw [w1, w2, if_neg (by omega)]
  exact hR
 | d + 1, j, acc, R, hj, hlo, hhi, k, hk, hR => by
  have nx := h.nx
  have ny := h.ny
  have w1 : wrap64 ((j : Int) + 1) = ((j + 1 : Nat) : Int) := next_w (by omega)
  have w2 : wrap64 ((i : Int) + 1) = ((i + 1 : Nat) : Int) := next_w (by omega)
  show tickingref01_Area.l1 ((k + 1 + d) + 1) l xs ys acc (i : Int) (j : Int) = some R
  simp only [tickingref01_Area.l1]
  by_cases hlt : j + 1 < ys.length
  ·have g1 : ((j + 1 : Nat) : Int) < (ys.length : Int) := by omega
   have g2 : (0 : Int) ≤ (i : Int) := by omega
   have g3 : (i : Int) < (xs.length : Int) := by omega
   have g4 : (0 : Int) ≤ (j : Int) := by omega
   have g5 : (j : Int) < (ys.length : Int) := by omega
   have g6 : (0 : Int) ≤ ((i + 1 : Nat) : Int) := by omega
   have g7 : ((i + 1 : Nat) : Int) < (xs.length : Int) := by omega
   have g8 : (0 : Int) ≤ ((j + 1 : Nat) : Int) := by omega
   have hs := rowF_step (FA l) (xs.getD i 0, xs.getD (i + 1) 0) ys j hlt
   have hsm := FA_sml h i j hi hlt
   have hb := rowF_bd (FA_sml h) ny hi d (j + 1) (by omega)
   have hd' : (d : Int) ≤ 64 := by omega
   have a := getD_bd h.bx i
   have b := getD_bd h.bx (i + 1)
   have c := getD_bd h.yb j
   have e := getD_bd h.yb (j + 1)
   have q := sq_small (a := xs.getD (i + 1) 0 - xs.getD i 0) (b := ys.getD (j + 1) 0 - ys.getD j 0) (by omega)
   have hi64 : (i : Int) ≤ 64 := by omega
   have v1 : wrap64 (xs.getD (i + 1) 0 - xs.getD i 0) = xs.getD (i + 1) 0 - xs.getD i 0 := w64 (by omega) (by omega)
   have v2 : wrap64 (ys.getD (j + 1) 0 - ys.getD j 0) = ys.getD (j + 1) 0 - ys.getD j 0 := w64 (by omega) (by omega)
   have v3 : wrap64 ((xs.getD (i + 1) 0 - xs.getD i 0) * (ys.getD (j + 1) 0 - ys.getD j 0)) = (xs.getD (i + 1) 0 - xs.getD i 0) * (ys.getD (j + 1) 0 - ys.getD j 0) := w64 (by omega) (by omega)
   rw [w1, w2, if_pos g1, if_pos g2, if_pos g3, if_pos g4, if_pos g5, depth_f l _ _ (by have := h.n; omega) (by omega), Option.bind_some, rd_getD, rd_getD]
   by_cases hp : 0 < depthL l (xs.getD i 0) (ys.getD j 0)
   ·have hF : FA l (xs.getD i 0, xs.getD (i + 1) 0) (ys.getD j 0, ys.getD (j + 1) 0) = (xs.getD (i + 1) 0 - xs.getD i 0) * (ys.getD (j + 1) 0 - ys.getD j 0) := if_pos hp
    rw [hF] at hs hsm
    have v4 : wrap64 (acc + (xs.getD (i + 1) 0 - xs.getD i 0) * (ys.getD (j + 1) 0 - ys.getD j 0)) = acc + (xs.getD (i + 1) 0 - xs.getD i 0) * (ys.getD (j + 1) 0 - ys.getD j 0) := w64 (by omega) (by omega)
    have ih := area_l1 h hi d (j + 1) (acc + (xs.getD (i + 1) 0 - xs.getD i 0) * (ys.getD (j + 1) 0 - ys.getD j 0)) R (by omega) (by omega) (by omega) k hk (by rw [Int.add_assoc, ← hs]; exact hR)
    rw [if_pos hp, if_pos g6, if_pos g7, if_pos g8, rd_getD, rd_getD, v1, v2, v3, v4]
    exact ih
   ·have hF : FA l (xs.getD i 0, xs.getD (i + 1) 0) (ys.getD j 0, ys.getD (j + 1) 0) = 0 := if_neg hp
    rw [hF] at hs
    have ih := area_l1 h hi d (j + 1) acc R (by omega) (by omega) (by omega) k hk (by rw [hs, Int.zero_add] at hR; exact hR)
    rw [if_neg hp]
    exact ih
  ·rw [rowF_end _ _ _ _ hlt, Int.add_zero] at hR
   have hmono := at_rounds (g := fun k => tickingref01_Area.l0 k l xs ys acc ((i + 1 : Nat) : Int)) (fun k => (tickingref01_Area.mono_l k).1 _ _ _ _ _) (k := k) (k' := k + 1 + d) (by omega) hR
   rw [w1, w2, if_neg (by omega)]
   exact hmono
theorem area_l0 {l : List S48} {xs ys : List Int} (h : Lin l xs ys) : ∀ (d i : Nat) (acc : Int), i + d = xs.length → -(1073741824 * (i : Int)) ≤ acc → acc ≤ 1073741824 * (i : Int) → Ev (fun k => tickingref01_Area.l0 k l xs ys acc (i : Int)) (acc + totF (FA l) xs ys i)
 | 0, i, acc, hi, h1, h2 => by
  have w2 : wrap64 ((i : Int) + 1) = ((i + 1 : Nat) : Int) := next_w (by have := h.nx; omega)
  rw [totF_end _ _ _ _ (by omega), Int.add_zero]
  refine Ev.step (f := fun _ => some acc) (fun k => ?_) (Ev.now _)
  simp only [tickingref01_Area.l0]
  rw [w2, if_neg (by omega)]
 | d + 1, i, acc, hi, h1, h2 => by
  have nx := h.nx
  have ny := h.ny
  by_cases hlt : i + 1 < xs.length
  ·have hb := rowF_bd (FA_sml h) ny hlt ys.length 0 (by omega)
   have hy : (ys.length : Int) ≤ 64 := by omega
   have g1 : ((i + 1 : Nat) : Int) < (xs.length : Int) := by omega
   have ih := area_l0 h d (i + 1) (acc + rowF (FA l) (xs.getD i 0, xs.getD (i + 1) 0) ys 0) (by omega) (by omega) (by omega)
   rw [totF_step _ _ _ _ hlt, ← Int.add_assoc]
   obtain ⟨K, hK⟩ := ih
   have hl1 := area_l1 h hlt ys.length 0 acc _ (by omega) (by omega) (by omega) (K + 1001) (by omega) (hK (K + 1001) (by omega))
   have e1 : Ev (fun k => tickingref01_Area.l1 k l xs ys acc (i : Int) 0) (acc + rowF (FA l) (xs.getD i 0, xs.getD (i + 1) 0) ys 0 + totF (FA l) xs ys (i + 1)) := Ev.of (fun k => (tickingref01_Area.mono_l k).2 _ _ _ _ _ _) hl1
   have w2 : wrap64 ((i : Int) + 1) = ((i + 1 : Nat) : Int) := next_w (by omega)
   refine Ev.step (fun k => ?_) e1
   simp only [tickingref01_Area.l0]
   rw [w2, if_pos g1]
  ·have w2 : wrap64 ((i : Int) + 1) = ((i + 1 : Nat) : Int) := next_w (by omega)
   rw [totF_end _ _ _ _ hlt, Int.add_zero]
   refine Ev.step (f := fun _ => some acc) (fun k => ?_) (Ev.now _)
   simp only [tickingref01_Area.l0]
   rw [w2, if_neg (by omega)]
theorem lines_ev (l : List S48) (b : Bool) (hm : l.length ≤ 100) : Ev (fun k => tickingref01_lines.f k l b) (if b then linesX l else linesY l) := ⟨1201, fun k hk => lines_f l b hm (by omega)⟩
theorem area_ev {l : List S48} (h : areRs l 32 = true) : Ev (fun k => tickingref01_Area.f k l) (areaL l) := by
 have hl := lin_of h
 unfold tickingref01_Area.f
 refine Ev.bind (lines_ev l true hl.n) (Ev.bind (lines_ev l false hl.n) ?_)
 have := area_l0 hl (linesX l).length 0 0 (by omega) (by omega) (by omega)
 rw [Int.zero_add, ← areaL_tot] at this
 exact this
end Go.Proofs.Ytplhfbkejngioaa.X
namespace Go.Proofs.Ytplhfbkejngioaa.X
open Go.RowKit Go.Proofs.YtplhfbkejngioaaW.PrintWords Go.Proofs.YtplhfbkejngioaaW.PrintLast Go.Proofs.Ytplhfbkejngioaa.S
set_option linter.unusedVariables false
set_option linter.unusedSimpArgs false
theorem sizes_append' (a b : List S48) : sizes (a ++ b) = sizes a + sizes b := by unfold sizes; rw [List.map_append, sumL_append]
theorem size_bd' {r : S48} (h : isR r = true) : 0 ≤ size r ∧ size r ≤ 262144 := by
 have b := isR_bd h
 have m := mul_bd (A := 512) (B := 512) (a := r.f2 - r.f0) (b := r.f3 - r.f1) (by omega) (by omega) (by omega) (by omega)
 have p := Int.mul_nonneg (show 0 ≤ r.f2 - r.f0 by omega) (show 0 ≤ r.f3 - r.f1 by omega)
 unfold size; omega
theorem sizes_bd' : ∀ {l : List S48}, (∀ r ∈ l, isR r = true) → 0 ≤ sizes l ∧ sizes l ≤ 262144 * (l.length : Int)
 | [], _ => ⟨Int.le_refl _, Int.le_refl _⟩
 | x :: l, h => by
  have ih := sizes_bd' (l := l) (fun r hr => h r (List.mem_cons_of_mem _ hr))
  have b := size_bd' (h x (List.mem_cons_self ..))
  have e1 : sizes (x :: l) = size x + sizes l := rfl
  rw [List.length_cons]; omega
theorem v_false {v : Bool} {P : Prop} (h : v = true ↔ P) (hn : ¬ P) : v = false := Bool.eq_false_iff.2 fun e => hn (h.1 e)
def Inn (l : List S48) (a : S48) : Prop := ∀ x y, covers a x y = true → depthL l x y ≠ 0
def CellOK (l : List S48) (a : S48) (x y : Int) : Prop := covers a x y = true → depthL l x y ≠ 0
def GoodP (l p : List S48) (m : Nat) : Prop := (∀ k : Nat, k < m → ¬ over (rd_T48 p (m : Int)) (rd_T48 p (k : Int))) ∧ Inn l (rd_T48 p (m : Int))
def FromP (l p : List S48) (i : Nat) : Prop := (∀ m : Nat, i ≤ m → m < p.length → GoodP l p m) ∧ sizes p = areaL l
theorem tiles_l3 {l p : List S48} (hl : areRs l 32 = true) {S : Int} {i : Nat} {xs ys : List Int} (hx : xs.length ≤ 1000) (hy : ys.length ≤ 1000) {m : Nat} (hm : m < xs.length) (a : S48) {R : Prop}
  (C : ∀ v, (v = true ↔ R) → Ev (fun k => tickingref01_Tiles.l2 k l p S (i : Int) xs ys ((m + 1 : Nat) : Int) a.f0 a.f1 a.f2 a.f3) v) :
  ∀ (d j : Nat), j + d = ys.length → ∀ v, (v = true ↔ (∀ j' : Nat, j ≤ j' → j' < ys.length → CellOK l a (rd xs (m : Int)) (rd ys (j' : Int))) ∧ R) →
   Ev (fun k => tickingref01_Tiles.l3 k l p S (i : Int) xs ys (m : Int) (j : Int) a.f0 a.f1 a.f2 a.f3) v
 | 0, j, hj, v, hv => by
  refine Ev.step (fun k => ?_) (C v ?_)
  ·simp only [tickingref01_Tiles.l3]
   rw [if_neg (by omega), next_w (by omega)]
  ·rw [hv]
   exact ⟨fun h => h.2, fun h => ⟨fun j' a b => by omega, h⟩⟩
 | d + 1, j, hj, v, hv => by
  have hlen : l.length ≤ 1000 := by simp only [areRs, Bool.and_eq_true, decide_eq_true_eq] at hl; omega
  have g1 : (j : Int) < (ys.length : Int) := by omega
  have g2 : (0 : Int) ≤ (m : Int) := by omega
  have g3 : (m : Int) < (xs.length : Int) := by omega
  have g4 : (0 : Int) ≤ (j : Int) := by omega
  have nx : wrap64 ((j : Int) + 1) = ((j + 1 : Nat) : Int) := next_w (by omega)
  have ih := tiles_l3 hl hx hy hm a C d (j + 1) (by omega)
  have go : CellOK l a (rd xs (m : Int)) (rd ys (j : Int)) → Ev (fun k => tickingref01_Tiles.l3 k l p S (i : Int) xs ys (m : Int) ((j + 1 : Nat) : Int) a.f0 a.f1 a.f2 a.f3) v := fun ok => by
   refine ih v ?_
   rw [hv]
   constructor
   ·exact fun h => ⟨fun j' h1 h2 => h.1 j' (by omega) h2, h.2⟩
   ·refine fun h => ⟨fun j' h1 h2 => ?_, h.2⟩
    rcases Nat.eq_or_lt_of_le h1 with rfl | h1
    ·exact ok
    ·exact h.1 j' h1 h2
  by_cases hc : covers a (rd xs (m : Int)) (rd ys (j : Int)) = true
  ·have c := (covers_iff _ _ _).1 hc
   have q1 : rd xs (m : Int) ≥ a.f0 := c.1
   have q2 : rd xs (m : Int) < a.f2 := c.2.1
   have q3 : rd ys (j : Int) ≥ a.f1 := c.2.2.1
   have q4 : rd ys (j : Int) < a.f3 := c.2.2.2
   have hd : Ev (fun k => tickingref01_Depth.f k l (rd xs (m : Int)) (rd ys (j : Int))) (depthL l (rd xs (m : Int)) (rd ys (j : Int))) := ⟨1001, fun k hk => depth_f l _ _ hlen (by omega)⟩
   by_cases h0 : depthL l (rd xs (m : Int)) (rd ys (j : Int)) = 0
   ·obtain rfl := v_false hv (fun h => h.1 j (Nat.le_refl _) (by omega) hc h0)
    refine Ev.step (f := fun k => (tickingref01_Depth.f k l (rd xs (m : Int)) (rd ys (j : Int))).bind fun t764 => if t764 = 0 then some false else tickingref01_Tiles.l3 k l p S (i : Int) xs ys (m : Int) ((j + 1 : Nat) : Int) a.f0 a.f1 a.f2 a.f3) (fun k => ?_) (Ev.bind hd ?_)
    ·simp only [tickingref01_Tiles.l3]
     rw [if_pos g1, if_pos g2, if_pos g3, if_pos q1, if_pos q2, if_pos g4, if_pos q3, if_pos q4, nx]
    ·exact Ev.congr (fun k => if_pos h0) (Ev.now _)
   ·refine Ev.step (f := fun k => (tickingref01_Depth.f k l (rd xs (m : Int)) (rd ys (j : Int))).bind fun t764 => if t764 = 0 then some false else tickingref01_Tiles.l3 k l p S (i : Int) xs ys (m : Int) ((j + 1 : Nat) : Int) a.f0 a.f1 a.f2 a.f3) (fun k => ?_) (Ev.bind hd ?_)
    ·simp only [tickingref01_Tiles.l3]
     rw [if_pos g1, if_pos g2, if_pos g3, if_pos q1, if_pos q2, if_pos g4, if_pos q3, if_pos q4, nx]
    ·exact Ev.congr (fun k => if_neg h0) (go fun _ => h0)
  ·refine Ev.step (fun k => ?_) (go fun h => absurd h hc)
   simp only [tickingref01_Tiles.l3]
   rw [if_pos g1, if_pos g2, if_pos g3, if_pos g4, nx]
   rw [covers_iff] at hc
   by_cases q1 : rd xs (m : Int) ≥ a.f0
   ·rw [if_pos q1]
    by_cases q2 : rd xs (m : Int) < a.f2
    ·rw [if_pos q2]
     by_cases q3 : rd ys (j : Int) ≥ a.f1
     ·rw [if_pos q3, if_neg fun q4 => hc ⟨q1, q2, q3, q4⟩]
     ·rw [if_neg q3]
    ·rw [if_neg q2]
   ·rw [if_neg q1]
theorem tiles_l2 {l p : List S48} (hl : areRs l 32 = true) {S : Int} {i : Nat} {xs ys : List Int} (hx : xs.length ≤ 1000) (hy : ys.length ≤ 1000) (hi : i < 1000000) (a : S48) {R : Prop}
  (C : ∀ v, (v = true ↔ R) → Ev (fun k => tickingref01_Tiles.l0 k l p S ((i + 1 : Nat) : Int)) v) :
  ∀ (d m : Nat), m + d = xs.length → ∀ v, (v = true ↔ (∀ m' : Nat, m ≤ m' → m' < xs.length → ∀ j' : Nat, j' < ys.length → CellOK l a (rd xs (m' : Int)) (rd ys (j' : Int))) ∧ R) →
   Ev (fun k => tickingref01_Tiles.l2 k l p S (i : Int) xs ys (m : Int) a.f0 a.f1 a.f2 a.f3) v
 | 0, m, hm, v, hv => by
  refine Ev.step (fun k => ?_) (C v ?_)
  ·simp only [tickingref01_Tiles.l2]
   rw [if_neg (by omega), next_w hi]
  ·rw [hv]
   exact ⟨fun h => h.2, fun h => ⟨fun j' a b => by omega, h⟩⟩
 | d + 1, m, hm, v, hv => by
  have g1 : (m : Int) < (xs.length : Int) := by omega
  have ih := tiles_l2 hl hx hy hi a C d (m + 1) (by omega)
  refine Ev.step (fun k => ?_) (tiles_l3 hl hx hy (by omega) a (fun v' h' => ih v' h') ys.length 0 (by omega) v ?_)
  ·simp only [tickingref01_Tiles.l2]
   rw [if_pos g1]
   rfl
  ·rw [hv]
   constructor
   ·exact fun h => ⟨fun j' _ h2 => h.1 m (Nat.le_refl _) (by omega) j' h2, fun m' h1 h2 => h.1 m' (by omega) h2, h.2⟩
   ·refine fun h => ⟨fun m' h1 h2 j' h3 => ?_, h.2.2⟩
    rcases Nat.eq_or_lt_of_le h1 with rfl | h1
    ·exact h.1 j' (Nat.zero_le _) h3
    ·exact h.2.1 m' h1 h2 j' h3
theorem inn_iff {l : List S48} {a : S48} (ha : isR a = true) : Inn l a ↔ ∀ m : Nat, m < (ins a.f0 (linesX l)).length → ∀ j : Nat, j < (ins a.f1 (linesY l)).length → CellOK l a (rd (ins a.f0 (linesX l)) (m : Int)) (rd (ins a.f1 (linesY l)) (j : Int)) := by
 constructor
 ·exact fun h m _ j _ => h _ _
 ·intro h x y hc
  have c := (covers_iff _ _ _).1 hc
  obtain ⟨x', hx', a1, a2⟩ := line_below (ins a.f0 (linesX l)) x ⟨a.f0, (ins_mem _ _ _).2 (.inl rfl), c.1⟩
  obtain ⟨y', hy', b1, b2⟩ := line_below (ins a.f1 (linesY l)) y ⟨a.f1, (ins_mem _ _ _).2 (.inl rfl), c.2.2.1⟩
  have e1 : depthL l x y = depthL l x' y := depth_at (l := l) a1 (fun w hw => a2 w ((ins_mem _ _ _).2 (.inr hw))) y
  have e2 : depthL l x' y = depthL l x' y' := (blkY (l := l) x' id rfl).const y' y b1 (fun w hw => b2 w ((ins_mem _ _ _).2 (.inr hw)))
  rw [e1, e2]
  have f1 := a2 a.f0 ((ins_mem _ _ _).2 (.inl rfl)) c.1
  have f2 := b2 a.f1 ((ins_mem _ _ _).2 (.inl rfl)) c.2.2.1
  obtain ⟨m, hm, rfl⟩ := List.getElem_of_mem hx'
  obtain ⟨j, hj, rfl⟩ := List.getElem_of_mem hy'
  have r1 : rd (ins a.f0 (linesX l)) (m : Int) = (ins a.f0 (linesX l))[m] := by simp [rd, hm]
  have r2 : rd (ins a.f1 (linesY l)) (j : Int) = (ins a.f1 (linesY l))[j] := by simp [rd, hj]
  have := h m hm j hj
  rw [r1, r2] at this
  exact this ((covers_iff _ _ _).2 (by omega))
theorem insert_ev (xs : List Int) (x : Int) (hm : xs.length ≤ 1000) : Ev (fun k => tickingref01_insert.f k xs x) (ins x xs) := ⟨1001, fun k hk => insert_f xs x hm (by omega)⟩
theorem tiles_l1 {l p : List S48} (hl : areRs l 32 = true) {S : Int} {i : Nat} (hi : i < p.length) (hp : p.length < 1000000) (a : S48) (ha : isR a = true) {R : Prop}
  (C : ∀ v, (v = true ↔ R) → Ev (fun k => tickingref01_Tiles.l0 k l p S ((i + 1 : Nat) : Int)) v) :
  ∀ (d n : Nat), n + d = i → ∀ v, (v = true ↔ ((∀ k : Nat, n ≤ k → k < i → ¬ over a (rd_T48 p (k : Int))) ∧ Inn l a) ∧ R) →
   Ev (fun k => tickingref01_Tiles.l1 k l p S (i : Int) (n : Int) a.f0 a.f1 a.f2 a.f3) v
 | 0, n, hn, v, hv => by
  have hlen : l.length ≤ 32 := by simp only [areRs, Bool.and_eq_true, decide_eq_true_eq] at hl; omega
  have hx := linesX_len l
  have hy := linesY_len l
  have ix := ins_len a.f0 (linesX l)
  have iy := ins_len a.f1 (linesY l)
  have key : Ev (fun k => tickingref01_Tiles.l2 k l p S (i : Int) (ins a.f0 (linesX l)) (ins a.f1 (linesY l)) ((0 : Nat) : Int) a.f0 a.f1 a.f2 a.f3) v := by
   refine tiles_l2 hl (by omega) (by omega) (by omega) a C _ 0 (Nat.zero_add _) v ?_
   rw [hv, inn_iff ha]
   exact ⟨fun h => ⟨fun m _ h2 j h3 => h.1.2 m h2 j h3, h.2⟩, fun h => ⟨⟨fun k h1 h2 => by omega, fun m h2 j h3 => h.1 m (Nat.zero_le _) h2 j h3⟩, h.2⟩⟩
  refine Ev.step (f := fun k => (tickingref01_lines.f k l true).bind fun t746 => ((tickingref01_insert.f k t746 a.f0).bind fun t749 => ((tickingref01_lines.f k l false).bind fun t752 => ((tickingref01_insert.f k t752 a.f1).bind fun t755 => (tickingref01_Tiles.l2 k l p S (i : Int) t749 t755 0 a.f0 a.f1 a.f2 a.f3))))) (fun k => ?_) ?_
  ·simp only [tickingref01_Tiles.l1]
   rw [if_neg (by omega)]
  ·refine Ev.bind (lines_ev l true (by omega)) (Ev.bind (insert_ev (linesX l) a.f0 (by omega)) (Ev.bind (lines_ev l false (by omega)) (Ev.bind (insert_ev (linesY l) a.f1 (by omega)) key)))
 | d + 1, n, hn, v, hv => by
  have g1 : (n : Int) < (i : Int) := by omega
  have g2 : (0 : Int) ≤ (n : Int) := by omega
  have g3 : (n : Int) < (p.length : Int) := by omega
  have nx : wrap64 ((n : Int) + 1) = ((n + 1 : Nat) : Int) := next_w (by omega)
  by_cases ho : over a (rd_T48 p (n : Int))
  ·obtain rfl := v_false hv (fun h => h.1.1 n (Nat.le_refl _) (by omega) ho)
   refine Ev.step (f := fun _ => some false) (fun k => ?_) (Ev.now _)
   simp only [tickingref01_Tiles.l1]
   rw [if_pos g1, if_pos g2, if_pos g3, if_pos ho.1, if_pos ho.2]
  ·have ih := tiles_l1 hl hi hp a ha C d (n + 1) (by omega)
   refine Ev.step (fun k => ?_) (ih v ?_)
   ·simp only [tickingref01_Tiles.l1]
    rw [if_pos g1, if_pos g2, if_pos g3, nx]
    by_cases q : mx a.f0 (rd_T48 p (n : Int)).f0 < mn a.f2 (rd_T48 p (n : Int)).f2
    ·rw [if_pos q, if_neg fun q2 => ho ⟨q, q2⟩]
    ·rw [if_neg q]
   ·rw [hv]
    constructor
    ·exact fun h => ⟨⟨fun k h1 h2 => h.1.1 k (by omega) h2, h.1.2⟩, h.2⟩
    ·refine fun h => ⟨⟨fun k h1 h2 => ?_, h.1.2⟩, h.2⟩
     rcases Nat.eq_or_lt_of_le h1 with rfl | h1
     ·exact ho
     ·exact h.1.1 k h1 h2
theorem tiles_l0 {l p : List S48} (hl : areRs l 32 = true) (hp : areRs p 1024 = true) :
  ∀ (d i : Nat), i + d = p.length → ∀ v, (v = true ↔ FromP l p i) → Ev (fun k => tickingref01_Tiles.l0 k l p (sizes (p.take i)) (i : Int)) v
 | 0, i, hi, v, hv => by
  obtain rfl : v = (sizes p == areaL l) := by
   rw [Bool.eq_iff_iff, hv, beq_iff_eq]
   exact ⟨fun h => h.2, fun h => ⟨fun m h1 h2 => by omega, h⟩⟩
  refine Ev.step (f := fun k => (tickingref01_Area.f k l).bind fun t741 => some (sizes p == t741)) (fun k => ?_) (Ev.bind (area_ev hl) (Ev.now _))
  simp only [tickingref01_Tiles.l0]
  rw [if_neg (by omega), List.take_of_length_le (by omega)]
 | d + 1, i, hi, v, hv => by
  have hlen : p.length ≤ 1024 := by simp only [areRs, Bool.and_eq_true, decide_eq_true_eq] at hp; omega
  have hall : ∀ r ∈ p, isR r = true := by simp only [areRs, Bool.and_eq_true, List.all_eq_true] at hp; exact hp.2
  have hlt : i < p.length := by omega
  have g1 : (i : Int) < (p.length : Int) := by omega
  have g2 : (0 : Int) ≤ (i : Int) := by omega
  have ha : isR p[i] = true := hall _ (List.getElem_mem hlt)
  have e : rd_T48 p (i : Int) = p[i] := rd48_get hlt
  have ih := tiles_l0 hl hp d (i + 1) (by omega)
  have sb := size_bd' ha
  have tb := sizes_bd' (l := p.take i) (fun r hr => hall r (List.mem_of_mem_take hr))
  have tl : ((p.take i).length : Int) ≤ 1024 := by have := List.length_take_le i p; omega
  have bd := isR_bd ha
  have es : sizes (p.take (i + 1)) = sizes (p.take i) + size p[i] := by
   rw [List.take_succ_eq_append_getElem hlt, sizes_append']
   congr 1
   show size p[i] + 0 = size p[i]
   omega
  have sz : size p[i] = (p[i].f2 - p[i].f0) * (p[i].f3 - p[i].f1) := rfl
  have v1 : wrap64 (p[i].f2 - p[i].f0) = p[i].f2 - p[i].f0 := w64 (by omega) (by omega)
  have v2 : wrap64 (p[i].f3 - p[i].f1) = p[i].f3 - p[i].f1 := w64 (by omega) (by omega)
  have v3 : wrap64 (size p[i]) = size p[i] := w64 (by omega) (by omega)
  have v4 : wrap64 (sizes (p.take i) + size p[i]) = sizes (p.take (i + 1)) := by rw [es]; exact w64 (by omega) (by omega)
  refine Ev.step (fun k => ?_) (tiles_l1 (R := FromP l p (i + 1)) hl hlt (by omega) p[i] ha ih i 0 (by omega) v ?_)
  ·simp only [tickingref01_Tiles.l0]
   rw [if_pos g1, if_pos g2, e, v1, v2, ← sz, v3, v4]
   rfl
  ·rw [hv]
   constructor
   ·intro h
    have := h.1 i (Nat.le_refl _) hlt
    unfold GoodP at this
    rw [e] at this
    exact ⟨⟨fun k _ h2 => this.1 k h2, this.2⟩, fun m h1 h2 => h.1 m (by omega) h2, h.2⟩
   ·refine fun h => ⟨fun m h1 h2 => ?_, h.2.2⟩
    rcases Nat.eq_or_lt_of_le h1 with rfl | h1
    ·unfold GoodP
     rw [e]
     exact ⟨fun k h2 => h.1.1 k (Nat.zero_le _) h2, h.1.2⟩
    ·exact h.2.1 m h1 h2
theorem from_part {l p : List S48} : FromP l p 0 ↔ Part l p := by
 constructor
 ·intro h
  refine ⟨List.pairwise_iff_getElem.2 fun k m hk hm hkm => ?_, fun a ha => ?_, h.2⟩
  ·have := (h.1 m (Nat.zero_le _) hm).1 k hkm
   rw [rd48_get hk, rd48_get hm] at this
   exact this
  ·obtain ⟨m, hm, rfl⟩ := List.getElem_of_mem ha
   have := (h.1 m (Nat.zero_le _) hm).2
   rw [rd48_get hm] at this
   exact this
 ·intro h
  refine ⟨fun m _ hm => ⟨fun k hk => ?_, ?_⟩, h.sum⟩
  ·rw [rd48_get hm, rd48_get (show k < p.length by omega)]
   exact List.pairwise_iff_getElem.1 h.dis k m (by omega) hm hk
  ·rw [rd48_get hm]
   exact h.inn _ (List.getElem_mem hm)
theorem tiles_ev {l p : List S48} (hl : areRs l 32 = true) (hm : p.length ≤ 9223372036854775807) {v : Bool} (hv : v = true ↔ areRs p 1024 = true ∧ Part l p) : Ev (fun k => tickingref01_Tiles.f k l p) v := by
 unfold tickingref01_Tiles.f
 have h := rects_ev p 1024 hm
 rw [areRs_eq] at h
 refine Ev.bind h ?_
 by_cases hp : areRs p 1024 = true
 ·refine Ev.congr (fun k => if_pos hp) ?_
  have := tiles_l0 hl hp p.length 0 (by omega) v (by rw [hv, from_part]; exact ⟨fun h => h.2, fun h => ⟨hp, h⟩⟩)
  exact this
 ·obtain rfl := v_false hv (fun h => hp h.1)
  exact Ev.congr (fun k => if_neg hp) (Ev.now _)
end Go.Proofs.Ytplhfbkejngioaa.X
namespace Go.Proofs.Ytplhfbkejngioaa.X
open Go.RowKit Go.Proofs.YtplhfbkejngioaaW.PrintWords Go.Proofs.YtplhfbkejngioaaW.PrintLast Go.Proofs.Ytplhfbkejngioaa.S Go.Proofs.Ytplhfbkejngioaa.Open
set_option linter.unusedVariables false
set_option linter.unusedSimpArgs false
theorem u64_pos (a : Int) : 0 ≤ IntKind.u64.wrap a := by
 simp only [IntKind.wrap]
 exact Int.emod_nonneg _ (by decide)
theorem u64_id {n : Int} (h0 : 0 ≤ n) (h1 : n ≤ 9223372036854775807) : IntKind.u64.wrap n = n := by
 have e : IntKind.u64.wrap n = n % 18446744073709551616 := by simp [IntKind.wrap, IntKind.signed, IntKind.bits]
 rw [e]; omega
theorem mod_in (a : Int) {n : Int} (h0 : 1 ≤ n) (h1 : n ≤ 1000000) : ∃ x, tickinglaw01_mod.f a n = some x ∧ 0 ≤ x ∧ x < n := by
 unfold tickinglaw01_mod.f
 have p0 := u64_pos a
 have p1 := Int.tmod_lt_of_pos (IntKind.u64.wrap a) (b := n) (by omega)
 have p2 := Int.tmod_nonneg (a := IntKind.u64.wrap a) n p0
 rw [u64_id (by omega) (by omega), if_neg (by omega)]
 exact ⟨_, rfl, by rw [w64 (by omega) (by omega)]; exact p2, by rw [w64 (by omega) (by omega)]; exact p1⟩
theorem near_in (a : Int) {most : Int} (h0 : 0 ≤ most) (h1 : most ≤ 1000) : ∃ x, tickinglaw01_near.f a most = some x ∧ -most ≤ x ∧ x ≤ most := by
 unfold tickinglaw01_near.f
 obtain ⟨x, hx, b0, b1⟩ := mod_in a (n := 2 * most + 1) (by omega) (by omega)
 rw [w64 (x := -most) (by omega) (by omega), w64 (x := 2 * most) (by omega) (by omega), w64 (x := 2 * most + 1) (by omega) (by omega), hx]
 simp only [Option.bind_some]
 rw [w64 (x := x - most) (by omega) (by omega)]
 by_cases c0 : a < -most
 ·rw [if_pos c0]; exact ⟨_, rfl, by omega, by omega⟩
 ·rw [if_neg c0]
  by_cases c1 : a > most
  ·rw [if_pos c1]; exact ⟨_, rfl, by omega, by omega⟩
  ·rw [if_neg c1]; exact ⟨_, rfl, by omega, by omega⟩
def withinP (most : Int) (p : S28) : Prop := -most ≤ p.f0 ∧ p.f0 ≤ most ∧ -most ≤ p.f1 ∧ p.f1 ≤ most
theorem tameG_l0 (l : List S28) (hn : l.length ≤ 9223372036854775807) (many : Nat) (hm : 1 ≤ many ∧ many ≤ 32) {most : Int} (m0 : 0 ≤ most) (m1 : most ≤ 1000) :
  ∀ (d i : Nat), i + d = min l.length many → ∀ acc : List S28, acc.length = i → (∀ p ∈ acc, withinP most p) →
   ∃ out : List S28, 1 ≤ out.length ∧ out.length ≤ many ∧ (∀ p ∈ out, withinP most p) ∧ ∀ k, 2 * d + 2 ≤ k → tickinglaw01_tame.l0 k l (many : Int) most acc (i : Int) = some out
 | 0, i, h, acc, ha, hall => by
  have hz : withinP most ⟨0, 0⟩ := by unfold withinP; simp only; omega
  have key : ∀ k, tickinglaw01_tame.l0 (k + 2) l (many : Int) most acc (i : Int) = (if (acc.length : Int) = 0 then (if acc.length < 8796093022208 then (some (acc ++ [(⟨0, 0⟩ : S28)])) else (none)) else (some acc)) := by
   intro k
   simp only [tickinglaw01_tame.l0, tickinglaw01_tame.j1]
   by_cases h0 : (i : Int) < (l.length : Int)
   ·rw [if_pos h0]
    have e : decide ((i : Int) < (many : Int)) = false := decide_eq_false (by omega)
    rw [e, if_neg (by decide)]
   ·rw [if_neg h0, if_neg (by decide)]
  by_cases h0 : acc.length = 0
  ·refine ⟨acc ++ [⟨0, 0⟩], by simp, by simp; omega, fun p hp => ?_, fun k hk => ?_⟩
   ·rcases List.mem_append.1 hp with hp | hp
    ·exact hall p hp
    ·rw [List.mem_singleton.1 hp]; exact hz
   ·obtain ⟨k, rfl⟩ : ∃ q, k = q + 2 := ⟨k - 2, by omega⟩
    rw [key, if_pos (by omega), if_pos (by omega)]
  ·refine ⟨acc, by omega, by omega, hall, fun k hk => ?_⟩
   obtain ⟨k, rfl⟩ : ∃ q, k = q + 2 := ⟨k - 2, by omega⟩
   rw [key, if_neg (by omega)]
 | d + 1, i, h, acc, ha, hall => by
  obtain ⟨x0, e0, b0, c0⟩ := near_in (rd_T28 l i).f0 m0 m1
  obtain ⟨x1, e1, b1, c1⟩ := near_in (rd_T28 l i).f1 m0 m1
  have hi : i < l.length := by omega
  have h0 : (i : Int) < (l.length : Int) := by omega
  have h1 : decide ((i : Int) < (many : Int)) = true := decide_eq_true (by omega)
  have h2 : (0 : Int) ≤ (i : Int) := by omega
  have h3 : acc.length < 8796093022208 := by omega
  obtain ⟨out, o1, o2, o3, o4⟩ := tameG_l0 l hn many hm m0 m1 d (i + 1) (by omega) (acc ++ [⟨x0, x1⟩]) (by simp; omega) (fun p hp => by
   rcases List.mem_append.1 hp with hp | hp
   ·exact hall p hp
   ·rw [List.mem_singleton.1 hp]; unfold withinP; simp only; omega)
  refine ⟨out, o1, o2, o3, fun k hk => ?_⟩
  obtain ⟨k, rfl⟩ : ∃ q, k = q + 2 := ⟨k - 2, by omega⟩
  simp only [tickinglaw01_tame.l0, tickinglaw01_tame.j1]
  rw [if_pos h0, h1, if_pos rfl, if_pos h2, if_pos h0, e0, e1]
  simp only [Option.bind_some]
  rw [if_pos h3, next_i hi hn]
  exact o4 k (by omega)
theorem tameG_ev (l : List S28) (hn : l.length ≤ 9223372036854775807) (many : Nat) (hm : 1 ≤ many ∧ many ≤ 32) {most : Int} (m0 : 0 ≤ most) (m1 : most ≤ 1000) :
  ∃ out : List S28, 1 ≤ out.length ∧ out.length ≤ many ∧ (∀ p ∈ out, withinP most p) ∧ Ev (fun k => tickinglaw01_tame.f k l (many : Int) most) out := by
 obtain ⟨out, h1, h2, h3, h4⟩ := tameG_l0 l hn many hm m0 m1 (min l.length many) 0 (by omega) [] rfl (fun p hp => by cases hp)
 exact ⟨out, h1, h2, h3, _, fun k hk => by unfold tickinglaw01_tame.f; exact h4 k hk⟩
end Go.Proofs.Ytplhfbkejngioaa.X
