/- The plain statement of CoverUnions: area, edge and deepest cell are the reference's. Texts of this claim's session, put together: RefA, RefB, PureCoverUnions. -/
import Derived.Test.YtplhfbkejngioaaBb4
import Derived.Test.YtplhfbkejngioaaBb13
import Derived.Test.YtplhfbkejngioaaUn1
import Derived.Test.YtplhfbkejngioaaUn2
import Derived.Test.YtplhfbkejngioaaBb11
import Derived.Test.YtplhfbkejngioaaWWords
import Derived.Test.YtplhfbkejngioaaWLast
namespace Go.Proofs.Ytplhfbkejngioaa.X
open Go.RowKit Go.Proofs.YtplhfbkejngioaaW.PrintWords Go.Proofs.YtplhfbkejngioaaW.PrintLast Go.Proofs.Ytplhfbkejngioaa.S Go.Proofs.Ytplhfbkejngioaa.Open
set_option linter.unusedVariables false
theorem awake_ev : Ev tickinglaw01_awake.f true := Ev.of tickinglaw01_awake.mono (k := 1) (by decide +kernel)
theorem inside_f (a : Int) : tickingref01_Inside.f a = some (inC a) := by
 unfold tickingref01_Inside.f inC
 by_cases h : -256 ≤ a
 ·rw [if_pos h]; simp [h]
 ·rw [if_neg h]; simp [h]
theorem rect_f (r : S48) : tickingref01_Rect.f r.f0 r.f1 r.f2 r.f3 = some (isR r) := by
 unfold tickingref01_Rect.f isR
 rw [inside_f, inside_f, inside_f, inside_f]
 simp only [Option.bind_some]
 cases inC r.f0 <;> cases inC r.f1 <;> cases inC r.f2 <;> cases inC r.f3 <;> simp
 by_cases h : r.f0 < r.f2 <;> simp [h]
theorem rd48_get {l : List S48} {i : Nat} (h : i < l.length) : rd_T48 l (i : Int) = l[i] := by simp [rd_T48, h]
theorem rd28_get {l : List S28} {i : Nat} (h : i < l.length) : rd_T28 l (i : Int) = l[i] := by simp [rd_T28, h]
theorem next_i {i n : Nat} (h : i < n) (hn : n ≤ 9223372036854775807) : wrap64 ((i : Int) + 1) = ((i + 1 : Nat) : Int) := by rw [w64 (by omega) (by omega)]; omega
theorem rects_l0 (l : List S48) (m : Int) (hm : l.length ≤ 9223372036854775807) : ∀ (d i : Nat), i + d = l.length → ∀ k, d < k → tickingref01_Rects.l0 k l m (i : Int) = some ((l.drop i).all isR && decide ((l.length : Int) ≤ m))
 | 0, i, h, k, hk => by
  obtain ⟨k, rfl⟩ : ∃ q, k = q + 1 := ⟨k - 1, by omega⟩
  simp only [tickingref01_Rects.l0]
  rw [if_neg (by omega), List.drop_eq_nil_of_le (by omega)]
  simp
 | d + 1, i, h, k, hk => by
  obtain ⟨k, rfl⟩ : ∃ q, k = q + 1 := ⟨k - 1, by omega⟩
  have hi : i < l.length := by omega
  have ih := rects_l0 l m hm d (i + 1) (by omega) k (by omega)
  have e : l.drop i = l[i] :: l.drop (i + 1) := List.drop_eq_getElem_cons hi
  have g1 : (i : Int) < (l.length : Int) := by omega
  have g2 : (0 : Int) ≤ (i : Int) := by omega
  simp only [tickingref01_Rects.l0]
  rw [if_pos g1, if_pos g2, rd48_get hi, rect_f, Option.bind_some, next_i hi hm, ih, e, List.all_cons]
  cases isR l[i] <;> simp
theorem rects_ev (l : List S48) (m : Int) (hm : l.length ≤ 9223372036854775807) : Ev (fun k => tickingref01_Rects.f k l m) (l.all isR && decide ((l.length : Int) ≤ m)) :=
 ⟨l.length + 1, fun k hk => by unfold tickingref01_Rects.f; exact rects_l0 l m hm l.length 0 (by omega) k (by omega)⟩
theorem areRs_eq (l : List S48) (m : Int) : (l.all isR && decide ((l.length : Int) ≤ m)) = areRs l m := by unfold areRs; exact Bool.and_comm _ _
end Go.Proofs.Ytplhfbkejngioaa.X
namespace Go.Proofs.Ytplhfbkejngioaa.X
open Go.RowKit Go.Proofs.YtplhfbkejngioaaW.PrintWords Go.Proofs.YtplhfbkejngioaaW.PrintLast Go.Proofs.Ytplhfbkejngioaa.Open Go.Proofs.Ytplhfbkejngioaa.S
set_option linter.unusedVariables false
set_option linter.unusedSimpArgs false
theorem next_w {i : Nat} (h : i < 1000000) : wrap64 ((i : Int) + 1) = ((i + 1 : Nat) : Int) := by rw [w64 (by omega) (by omega)]; omega
theorem depth_l0 (l : List S48) (x y : Int) (hm : l.length ≤ 1000) : ∀ (d i : Nat) (n : Nat), i + d = l.length → n ≤ i → ∀ k, d < k → tickingref01_Depth.l0 k l x y (n : Int) (i : Int) = some ((n : Int) + depthL (l.drop i) x y)
 | 0, i, n, h, hn, k, hk => by
  obtain ⟨k, rfl⟩ : ∃ q, k = q + 1 := ⟨k - 1, by omega⟩
  simp only [tickingref01_Depth.l0]
  rw [if_neg (by omega), List.drop_eq_nil_of_le (by omega)]
  simp [depthL]
 | d + 1, i, n, h, hn, k, hk => by
  obtain ⟨k, rfl⟩ : ∃ q, k = q + 1 := ⟨k - 1, by omega⟩
  have hi : i < l.length := by omega
  have ih0 := depth_l0 l x y hm d (i + 1) n (by omega) (by omega) k (by omega)
  have ih1 := depth_l0 l x y hm d (i + 1) (n + 1) (by omega) (by omega) k (by omega)
  have e : l.drop i = l[i] :: l.drop (i + 1) := List.drop_eq_getElem_cons hi
  have g1 : (i : Int) < (l.length : Int) := by omega
  have g2 : (0 : Int) ≤ (i : Int) := by omega
  have w1 : wrap64 ((i : Int) + 1) = ((i + 1 : Nat) : Int) := next_w (by omega)
  have w2 : wrap64 ((n : Int) + 1) = ((n + 1 : Nat) : Int) := next_w (by omega)
  simp only [tickingref01_Depth.l0]
  rw [if_pos g1, if_pos g2, rd48_get hi, w1, w2, ih0, ih1, e]
  have hc : depthL (l[i] :: l.drop (i + 1)) x y = (if covers l[i] x y then 1 else 0) + depthL (l.drop (i + 1)) x y := by
   unfold depthL
   by_cases hcv : covers l[i] x y = true
   ·rw [List.filter_cons_of_pos (p := fun r => covers r x y) hcv, if_pos hcv]; simp; omega
   ·rw [List.filter_cons_of_neg (p := fun r => covers r x y) hcv, if_neg hcv]; simp
  rw [hc]
  by_cases h1 : l[i].f0 ≤ x
  ·rw [if_pos h1]
   by_cases h2 : x < l[i].f2
   ·rw [if_pos h2]
    by_cases h3 : l[i].f1 ≤ y
    ·rw [if_pos h3]
     by_cases h4 : y < l[i].f3
     ·rw [if_pos h4, if_pos (by simp [covers, h1, h2, h3, h4])]; congr 1; omega
     ·rw [if_neg h4, if_neg (by simp [covers, h4])]; congr 1; omega
    ·rw [if_neg h3, if_neg (by simp [covers, h3])]; congr 1; omega
   ·rw [if_neg h2, if_neg (by simp [covers, h2])]; congr 1; omega
  ·rw [if_neg h1, if_neg (by simp [covers, h1])]; congr 1; omega
theorem depth_f (l : List S48) (x y : Int) (hm : l.length ≤ 1000) {k : Nat} (hk : 1000 < k) : tickingref01_Depth.f k l x y = some (depthL l x y) := by
 unfold tickingref01_Depth.f
 have := depth_l0 l x y hm l.length 0 0 (by omega) (by omega) k (by omega)
 simpa using this
theorem ins_len (x : Int) : ∀ l : List Int, (ins x l).length ≤ l.length + 1
 | [] => by simp [ins]
 | y :: l => by
  unfold ins
  split
  ·have := ins_len x l; simp; omega
  ·split <;> simp
theorem insert_l0 (xs : List Int) (x : Int) (hm : xs.length ≤ 1000) : ∀ (d i : Nat), i + d = xs.length → ∀ k, d < k → tickingref01_insert.l0 k xs x (i : Int) = some (xs.take i ++ ins x (xs.drop i))
 | 0, i, h, k, hk => by
  obtain ⟨k, rfl⟩ : ∃ q, k = q + 1 := ⟨k - 1, by omega⟩
  simp only [tickingref01_insert.l0]
  rw [if_neg (by omega), if_pos (by omega), if_pos (by omega), Int.toNat_natCast, List.drop_eq_nil_of_le (by omega), List.take_of_length_le (by omega)]
  simp only [Option.bind_some, List.length_nil, List.nil_append, List.length_append, List.length_cons, List.append_nil, ins]
  rw [if_pos (by omega), if_pos (by omega), if_pos (by omega)]
 | d + 1, i, h, k, hk => by
  obtain ⟨k, rfl⟩ : ∃ q, k = q + 1 := ⟨k - 1, by omega⟩
  have hi : i < xs.length := by omega
  have ih := insert_l0 xs x hm d (i + 1) (by omega) k (by omega)
  have e : xs.drop i = xs[i] :: xs.drop (i + 1) := List.drop_eq_getElem_cons hi
  have et : xs.take (i + 1) = xs.take i ++ [xs[i]] := by rw [List.take_succ_eq_append_getElem hi]
  have er : rd xs (i : Int) = xs[i] := by simp [rd, hi]
  have w1 : wrap64 ((i : Int) + 1) = ((i + 1 : Nat) : Int) := next_w (by omega)
  have hl : (xs.take i).length = i := by simp; omega
  have hl2 : (xs.drop i).length = xs.length - i := by simp
  simp only [tickingref01_insert.l0]
  rw [if_pos (by omega), if_pos (by omega), er, w1, ih, Int.toNat_natCast]
  rw [e, show ins x (xs[i] :: xs.drop (i + 1)) = if xs[i] < x then xs[i] :: ins x (xs.drop (i + 1)) else if xs[i] = x then xs[i] :: xs.drop (i + 1) else x :: xs[i] :: xs.drop (i + 1) from rfl]
  by_cases h1 : xs[i] < x
  ·rw [if_pos h1, if_pos h1, et, List.append_assoc]; rfl
  ·rw [if_neg h1, if_neg h1]
   by_cases h2 : xs[i] = x
   ·rw [if_pos h2, if_pos h2, ← e, List.take_append_drop]
   ·rw [if_neg h2, if_neg h2, if_pos (by omega)]
    rw [← e]
    simp only [Option.bind_some, List.length_nil, List.nil_append, List.length_append, List.length_cons]
    rw [if_pos (by omega), if_pos (by omega), if_pos (by omega), List.append_assoc]
    rfl
theorem insert_f (xs : List Int) (x : Int) (hm : xs.length ≤ 1000) {k : Nat} (hk : 1000 < k) : tickingref01_insert.f k xs x = some (ins x xs) := by
 unfold tickingref01_insert.f
 have := insert_l0 xs x hm xs.length 0 (by omega) k (by omega)
 simpa using this
theorem lines_l0 (l : List S48) (b : Bool) (hm : l.length ≤ 100) : ∀ (d i : Nat) (o : List Int), i + d = l.length → o.length ≤ 2 * i → ∀ k, 1001 + d < k →
  tickingref01_lines.l0 k l b o (i : Int) = some (if b then (l.drop i).foldl (fun o r => ins r.f2 (ins r.f0 o)) o else (l.drop i).foldl (fun o r => ins r.f3 (ins r.f1 o)) o)
 | 0, i, o, h, ho, k, hk => by
  obtain ⟨k, rfl⟩ : ∃ q, k = q + 1 := ⟨k - 1, by omega⟩
  simp only [tickingref01_lines.l0]
  rw [if_neg (by omega), List.drop_eq_nil_of_le (by omega)]
  simp
 | d + 1, i, o, h, ho, k, hk => by
  obtain ⟨k, rfl⟩ : ∃ q, k = q + 1 := ⟨k - 1, by omega⟩
  have hi : i < l.length := by omega
  have e : l.drop i = l[i] :: l.drop (i + 1) := List.drop_eq_getElem_cons hi
  have w1 : wrap64 ((i : Int) + 1) = ((i + 1 : Nat) : Int) := next_w (by omega)
  have g1 : (i : Int) < (l.length : Int) := by omega
  have g2 : (0 : Int) ≤ (i : Int) := by omega
  simp only [tickingref01_lines.l0]
  rw [if_pos g1, rd48_get hi, w1, e]
  cases b with
  | true =>
   have n1 := ins_len l[i].f0 o
   have n2 := ins_len l[i].f2 (ins l[i].f0 o)
   have ih := lines_l0 l true hm d (i + 1) (ins l[i].f2 (ins l[i].f0 o)) (by omega) (by omega) k (by omega)
   rw [if_pos rfl, if_pos g2, insert_f _ _ (by omega) (by omega), Option.bind_some, insert_f _ _ (by omega) (by omega), Option.bind_some, ih]
   simp only [if_true, Bool.false_eq_true, if_false, List.foldl_cons]
  | false =>
   have n1 := ins_len l[i].f1 o
   have n2 := ins_len l[i].f3 (ins l[i].f1 o)
   have ih := lines_l0 l false hm d (i + 1) (ins l[i].f3 (ins l[i].f1 o)) (by omega) (by omega) k (by omega)
   rw [if_neg Bool.false_ne_true, if_pos g2, insert_f _ _ (by omega) (by omega), Option.bind_some, insert_f _ _ (by omega) (by omega), Option.bind_some, ih]
   simp only [if_true, Bool.false_eq_true, if_false, List.foldl_cons]
theorem lines_f (l : List S48) (b : Bool) (hm : l.length ≤ 100) {k : Nat} (hk : 1200 < k) : tickingref01_lines.f k l b = some (if b then linesX l else linesY l) := by
 unfold tickingref01_lines.f
 have := lines_l0 l b hm l.length 0 [] (by omega) (by simp) k (by omega)
 simpa [linesX, linesY] using this
structure Lin (l : List S48) (xs ys : List Int) : Prop where
 n : l.length ≤ 100
 nx : xs.length ≤ 64
 ny : ys.length ≤ 64
 bx : ∀ x ∈ xs, -256 ≤ x ∧ x ≤ 256
 yb : ∀ y ∈ ys, -256 ≤ y ∧ y ≤ 256
theorem lin_of {l : List S48} (h : areRs l 32 = true) : Lin l (linesX l) (linesY l) := by
 simp only [areRs, Bool.and_eq_true, decide_eq_true_eq, List.all_eq_true] at h
 have h1 := linesX_len l
 have h2 := linesY_len l
 refine ⟨by omega, by omega, by omega, fun x hx => ?_, fun y hy => ?_⟩
 ·rw [linesX_mem] at hx
  obtain ⟨r, hr, hx⟩ := List.mem_flatMap.1 hx
  have b := isR_bd (h.2 r hr)
  simp at hx
  omega
 ·rw [linesY_mem] at hy
  obtain ⟨r, hr, hy⟩ := List.mem_flatMap.1 hy
  have b := isR_bd (h.2 r hr)
  simp at hy
  omega
theorem getD_bd {xs : List Int} (h : ∀ x ∈ xs, -256 ≤ x ∧ x ≤ 256) (i : Nat) : -256 ≤ xs.getD i 0 ∧ xs.getD i 0 ≤ 256 := by
 rw [List.getD_eq_getElem?_getD]
 cases e : xs[i]? with
 | none => simp
 | some x => exact h x (List.mem_of_getElem? e)
def rowF (F : Int × Int → Int × Int → Int) (x : Int × Int) (ys : List Int) (j : Nat) : Int := sumL (((nbs ys).drop j).map (F x))
def totF (F : Int × Int → Int × Int → Int) (xs ys : List Int) (i : Nat) : Int := sumL (((nbs xs).drop i).map fun x => rowF F x ys 0)
theorem nbs_len (xs : List Int) : (nbs xs).length = xs.length - 1 := by simp [nbs_range]
theorem nbs_drop (xs : List Int) (i : Nat) (h : i + 1 < xs.length) : (nbs xs).drop i = (xs.getD i 0, xs.getD (i + 1) 0) :: (nbs xs).drop (i + 1) := by
 have hl := nbs_len xs
 rw [List.drop_eq_getElem_cons (by omega)]
 congr 1
 simp only [nbs_range, List.getElem_map, List.getElem_range]
theorem nbs_end (xs : List Int) (i : Nat) (h : ¬ i + 1 < xs.length) : (nbs xs).drop i = [] := List.drop_eq_nil_of_le (by have := nbs_len xs; omega)
theorem rowF_step (F : Int × Int → Int × Int → Int) (x : Int × Int) (ys : List Int) (j : Nat) (h : j + 1 < ys.length) : rowF F x ys j = F x (ys.getD j 0, ys.getD (j + 1) 0) + rowF F x ys (j + 1) := by
 unfold rowF; rw [nbs_drop ys j h]; simp [sumL]
theorem rowF_end (F : Int × Int → Int × Int → Int) (x : Int × Int) (ys : List Int) (j : Nat) (h : ¬ j + 1 < ys.length) : rowF F x ys j = 0 := by
 unfold rowF; rw [nbs_end ys j h]; rfl
theorem totF_step (F : Int × Int → Int × Int → Int) (xs ys : List Int) (i : Nat) (h : i + 1 < xs.length) : totF F xs ys i = rowF F (xs.getD i 0, xs.getD (i + 1) 0) ys 0 + totF F xs ys (i + 1) := by
 unfold totF; rw [nbs_drop xs i h]; simp [sumL]
theorem totF_end (F : Int × Int → Int × Int → Int) (xs ys : List Int) (i : Nat) (h : ¬ i + 1 < xs.length) : totF F xs ys i = 0 := by
 unfold totF; rw [nbs_end xs i h]; rfl
def sml (F : Int × Int → Int × Int → Int) (xs ys : List Int) : Prop := ∀ i j, i + 1 < xs.length → j + 1 < ys.length → -262144 ≤ F (xs.getD i 0, xs.getD (i + 1) 0) (ys.getD j 0, ys.getD (j + 1) 0) ∧ F (xs.getD i 0, xs.getD (i + 1) 0) (ys.getD j 0, ys.getD (j + 1) 0) ≤ 262144
theorem rowF_bd {F : Int × Int → Int × Int → Int} {xs ys : List Int} (hF : sml F xs ys) (hn : ys.length ≤ 64) {i : Nat} (hi : i + 1 < xs.length) : ∀ (d j : Nat), j + d = ys.length → -(262144 * (d : Int)) ≤ rowF F (xs.getD i 0, xs.getD (i + 1) 0) ys j ∧ rowF F (xs.getD i 0, xs.getD (i + 1) 0) ys j ≤ 262144 * (d : Int)
 | 0, j, h => by rw [rowF_end _ _ _ _ (by omega)]; simp
 | d + 1, j, h => by
  by_cases hj : j + 1 < ys.length
  ·have ih := rowF_bd hF hn hi d (j + 1) (by omega)
   have := hF i j hi hj
   rw [rowF_step _ _ _ _ hj]
   omega
  ·rw [rowF_end _ _ _ _ hj]; omega
theorem rd_getD (xs : List Int) (i : Nat) : rd xs (i : Int) = xs.getD i 0 := by simp [rd]
def FA (l : List S48) (x y : Int × Int) : Int := if 0 < depthL l x.1 y.1 then (x.2 - x.1) * (y.2 - y.1) else 0
theorem areaL_tot (l : List S48) : areaL l = totF (FA l) (linesX l) (linesY l) 0 := rfl
theorem FA_sml {l : List S48} {xs ys : List Int} (h : Lin l xs ys) : sml (FA l) xs ys := by
 intro i j _ _
 have a := getD_bd h.bx i
 have b := getD_bd h.bx (i + 1)
 have c := getD_bd h.yb j
 have d := getD_bd h.yb (j + 1)
 unfold FA
 split
 ·exact sq_small (by dsimp only; omega)
 ·omega
theorem area_l1 {l : List S48} {xs ys : List Int} (h : Lin l xs ys) {i : Nat} (hi : i + 1 < xs.length) : ∀ (d j : Nat) (acc R : Int), j + d = ys.length → -(1073741824 * ((i : Int) + 1)) ≤ acc + rowF (FA l) (xs.getD i 0, xs.getD (i + 1) 0) ys j → acc + rowF (FA l) (xs.getD i 0, xs.getD (i + 1) 0) ys j ≤ 1073741824 * ((i : Int) + 1) →
  ∀ k, 1000 < k → (tickingref01_Area.l0 k l xs ys (acc + rowF (FA l) (xs.getD i 0, xs.getD (i + 1) 0) ys j) ((i + 1 : Nat) : Int) = some R) → tickingref01_Area.l1 (k + 1 + d) l xs ys acc (i : Int) (j : Int) = some R
 | 0, j, acc, R, hj, hlo, hhi, k, hk, hR => by
  rw [rowF_end _ _ _ _ (by omega), Int.add_zero] at hR
  have w1 : wrap64 ((j : Int) + 1) = ((j + 1 : Nat) : Int) := next_w (by have := h.ny; omega)
  have w2 : wrap64 ((i : Int) + 1) = ((i + 1 : Nat) : Int) := next_w (by have := h.nx; omega)
  simp only [tickingref01_Area.l1]
  rw [w1, w2, if_neg (by omega)]
  exact hR
 | d + 1, j, acc, R, hj, hlo, hhi, k, hk, hR => by
  have nx := h.nx
  have ny := h.ny
  have w1 : wrap64 ((j : Int) + 1) = ((j + 1 : Nat) : Int) := next_w (by omega)
  have w2 : wrap64 ((i : Int) + 1) = ((i + 1 : Nat) : Int) := next_w (by omega)
  show tickingref01_Area.l1 ((k + 1 + d) + 1) l xs ys acc (i : Int) (j : Int) = some R
  simp only [tickingref01_Area.l1]
  by_cases hlt : j + 1 < ys.length
  ·have g1 : ((j + 1 : Nat) : Int) < (ys.length : Int) := by omega
   have g2 : (0 : Int) ≤ (i : Int) := by omega
   have g3 : (i : Int) < (xs.length : Int) := by omega
   have g4 : (0 : Int) ≤ (j : Int) := by omega
   have g5 : (j : Int) < (ys.length : Int) := by omega
   have g6 : (0 : Int) ≤ ((i + 1 : Nat) : Int) := by omega
   have g7 : ((i + 1 : Nat) : Int) < (xs.length : Int) := by omega
   have g8 : (0 : Int) ≤ ((j + 1 : Nat) : Int) := by omega
   have hs := rowF_step (FA l) (xs.getD i 0, xs.getD (i + 1) 0) ys j hlt
   have hsm := FA_sml h i j hi hlt
   have hb := rowF_bd (FA_sml h) ny hi d (j + 1) (by omega)
   have hd' : (d : Int) ≤ 64 := by omega
   have a := getD_bd h.bx i
   have b := getD_bd h.bx (i + 1)
   have c := getD_bd h.yb j
   have e := getD_bd h.yb (j + 1)
   have q := sq_small (a := xs.getD (i + 1) 0 - xs.getD i 0) (b := ys.getD (j + 1) 0 - ys.getD j 0) (by omega)
   have hi64 : (i : Int) ≤ 64 := by omega
   have v1 : wrap64 (xs.getD (i + 1) 0 - xs.getD i 0) = xs.getD (i + 1) 0 - xs.getD i 0 := w64 (by omega) (by omega)
   have v2 : wrap64 (ys.getD (j + 1) 0 - ys.getD j 0) = ys.getD (j + 1) 0 - ys.getD j 0 := w64 (by omega) (by omega)
   have v3 : wrap64 ((xs.getD (i + 1) 0 - xs.getD i 0) * (ys.getD (j + 1) 0 - ys.getD j 0)) = (xs.getD (i + 1) 0 - xs.getD i 0) * (ys.getD (j + 1) 0 - ys.getD j 0) := w64 (by omega) (by omega)
   rw [w1, w2, if_pos g1, if_pos g2, if_pos g3, if_pos g4, if_pos g5, depth_f l _ _ (by have := h.n; omega) (by omega), Option.bind_some, rd_getD, rd_getD]
   by_cases hp : 0 < depthL l (xs.getD i 0) (ys.getD j 0)
   ·have hF : FA l (xs.getD i 0, xs.getD (i + 1) 0) (ys.getD j 0, ys.getD (j + 1) 0) = (xs.getD (i + 1) 0 - xs.getD i 0) * (ys.getD (j + 1) 0 - ys.getD j 0) := if_pos hp
    rw [hF] at hs hsm
    have v4 : wrap64 (acc + (xs.getD (i + 1) 0 - xs.getD i 0) * (ys.getD (j + 1) 0 - ys.getD j 0)) = acc + (xs.getD (i + 1) 0 - xs.getD i 0) * (ys.getD (j + 1) 0 - ys.getD j 0) := w64 (by omega) (by omega)
    have ih := area_l1 h hi d (j + 1) (acc + (xs.getD (i + 1) 0 - xs.getD i 0) * (ys.getD (j + 1) 0 - ys.getD j 0)) R (by omega) (by omega) (by omega) k hk (by rw [Int.add_assoc, ← hs]; exact hR)
    rw [if_pos hp, if_pos g6, if_pos g7, if_pos g8, rd_getD, rd_getD, v1, v2, v3, v4]
    exact ih
   ·have hF : FA l (xs.getD i 0, xs.getD (i + 1) 0) (ys.getD j 0, ys.getD (j + 1) 0) = 0 := if_neg hp
    rw [hF] at hs
    have ih := area_l1 h hi d (j + 1) acc R (by omega) (by omega) (by omega) k hk (by rw [hs, Int.zero_add] at hR; exact hR)
    rw [if_neg hp]
    exact ih
  ·rw [rowF_end _ _ _ _ hlt, Int.add_zero] at hR
   have hmono := at_rounds (g := fun k => tickingref01_Area.l0 k l xs ys acc ((i + 1 : Nat) : Int)) (fun k => (tickingref01_Area.mono_l k).1 _ _ _ _ _) (k := k) (k' := k + 1 + d) (by omega) hR
   rw [w1, w2, if_neg (by omega)]
   exact hmono
theorem area_l0 {l : List S48} {xs ys : List Int} (h : Lin l xs ys) : ∀ (d i : Nat) (acc : Int), i + d = xs.length → -(1073741824 * (i : Int)) ≤ acc → acc ≤ 1073741824 * (i : Int) → Ev (fun k => tickingref01_Area.l0 k l xs ys acc (i : Int)) (acc + totF (FA l) xs ys i)
 | 0, i, acc, hi, h1, h2 => by
  have w2 : wrap64 ((i : Int) + 1) = ((i + 1 : Nat) : Int) := next_w (by have := h.nx; omega)
  rw [totF_end _ _ _ _ (by omega), Int.add_zero]
  refine Ev.step (f := fun _ => some acc) (fun k => ?_) (Ev.now _)
  simp only [tickingref01_Area.l0]
  rw [w2, if_neg (by omega)]
 | d + 1, i, acc, hi, h1, h2 => by
  have nx := h.nx
  have ny := h.ny
  by_cases hlt : i + 1 < xs.length
  ·have hb := rowF_bd (FA_sml h) ny hlt ys.length 0 (by omega)
   have hy : (ys.length : Int) ≤ 64 := by omega
   have g1 : ((i + 1 : Nat) : Int) < (xs.length : Int) := by omega
   have ih := area_l0 h d (i + 1) (acc + rowF (FA l) (xs.getD i 0, xs.getD (i + 1) 0) ys 0) (by omega) (by omega) (by omega)
   rw [totF_step _ _ _ _ hlt, ← Int.add_assoc]
   obtain ⟨K, hK⟩ := ih
   have hl1 := area_l1 h hlt ys.length 0 acc _ (by omega) (by omega) (by omega) (K + 1001) (by omega) (hK (K + 1001) (by omega))
   have e1 : Ev (fun k => tickingref01_Area.l1 k l xs ys acc (i : Int) 0) (acc + rowF (FA l) (xs.getD i 0, xs.getD (i + 1) 0) ys 0 + totF (FA l) xs ys (i + 1)) := Ev.of (fun k => (tickingref01_Area.mono_l k).2 _ _ _ _ _ _) hl1
   have w2 : wrap64 ((i : Int) + 1) = ((i + 1 : Nat) : Int) := next_w (by omega)
   refine Ev.step (fun k => ?_) e1
   simp only [tickingref01_Area.l0]
   rw [w2, if_pos g1]
  ·have w2 : wrap64 ((i : Int) + 1) = ((i + 1 : Nat) : Int) := next_w (by omega)
   rw [totF_end _ _ _ _ hlt, Int.add_zero]
   refine Ev.step (f := fun _ => some acc) (fun k => ?_) (Ev.now _)
   simp only [tickingref01_Area.l0]
   rw [w2, if_neg (by omega)]
theorem lines_ev (l : List S48) (b : Bool) (hm : l.length ≤ 100) : Ev (fun k => tickingref01_lines.f k l b) (if b then linesX l else linesY l) := ⟨1201, fun k hk => lines_f l b hm (by omega)⟩
theorem area_ev {l : List S48} (h : areRs l 32 = true) : Ev (fun k => tickingref01_Area.f k l) (areaL l) := by
 have hl := lin_of h
 unfold tickingref01_Area.f
 refine Ev.bind (lines_ev l true hl.n) (Ev.bind (lines_ev l false hl.n) ?_)
 have := area_l0 hl (linesX l).length 0 0 (by omega) (by omega) (by omega)
 rw [Int.zero_add, ← areaL_tot] at this
 exact this
def FE (l : List S48) (x y : Int × Int) : Int := if 0 < depthL l x.1 y.1 then
  (if depthL l (x.1 - 1) y.1 = 0 then y.2 - y.1 else 0) + (if depthL l x.2 y.1 = 0 then y.2 - y.1 else 0) +
  (if depthL l x.1 (y.1 - 1) = 0 then x.2 - x.1 else 0) + (if depthL l x.1 y.2 = 0 then x.2 - x.1 else 0) else 0
theorem edgeL_tot (l : List S48) : edgeL l = totF (FE l) (linesX l) (linesY l) 0 := rfl
theorem FE_sml {l : List S48} {xs ys : List Int} (h : Lin l xs ys) : sml (FE l) xs ys := by
 intro i j _ _
 have a := getD_bd h.bx i
 have b := getD_bd h.bx (i + 1)
 have c := getD_bd h.yb j
 have d := getD_bd h.yb (j + 1)
 unfold FE
 dsimp only
 split
 ·split <;> split <;> split <;> split <;> omega
 ·omega
theorem edge_j3 {l : List S48} {xs ys : List Int} (h : Lin l xs ys) {i j : Nat} (hi : i + 1 < xs.length) (hj : j + 1 < ys.length) (acc R : Int) (h1 : -1000000000000 ≤ acc) (h2 : acc ≤ 1000000000000)
  (hR : Ev (fun k => tickingref01_Edge.l1 k l xs ys (acc + (if depthL l (xs.getD i 0) (ys.getD j 0 - 1) = 0 then xs.getD (i + 1) 0 - xs.getD i 0 else 0) + (if depthL l (xs.getD i 0) (ys.getD (j + 1) 0) = 0 then xs.getD (i + 1) 0 - xs.getD i 0 else 0)) (i : Int) ((j + 1 : Nat) : Int)) R) :
  Ev (fun k => tickingref01_Edge.j3 k l xs ys acc (i : Int) (j : Int) (xs.getD (i + 1) 0 - xs.getD i 0)) R := by
 have nx := h.nx
 have ny := h.ny
 have g2 : (0 : Int) ≤ (i : Int) := by omega
 have g3 : (i : Int) < (xs.length : Int) := by omega
 have g4 : (0 : Int) ≤ (j : Int) := by omega
 have g5 : (j : Int) < (ys.length : Int) := by omega
 have g8 : (0 : Int) ≤ ((j + 1 : Nat) : Int) := by omega
 have g9 : ((j + 1 : Nat) : Int) < (ys.length : Int) := by omega
 have a := getD_bd h.bx i
 have b := getD_bd h.bx (i + 1)
 have c := getD_bd h.yb j
 have w1 : wrap64 ((j : Int) + 1) = ((j + 1 : Nat) : Int) := next_w (by omega)
 have v1 : wrap64 (ys.getD j 0 - 1) = ys.getD j 0 - 1 := w64 (by omega) (by omega)
 have v2 : wrap64 (acc + (xs.getD (i + 1) 0 - xs.getD i 0)) = acc + (xs.getD (i + 1) 0 - xs.getD i 0) := w64 (by omega) (by omega)
 have v3 : wrap64 (acc + (xs.getD (i + 1) 0 - xs.getD i 0) + (xs.getD (i + 1) 0 - xs.getD i 0)) = acc + (xs.getD (i + 1) 0 - xs.getD i 0) + (xs.getD (i + 1) 0 - xs.getD i 0) := w64 (by omega) (by omega)
 have dp : ∀ x y, Ev (fun k => tickingref01_Depth.f k l x y) (depthL l x y) := fun x y => ⟨1001, fun k hk => depth_f l x y (by have := h.n; omega) (by omega)⟩
 obtain ⟨K1, D1⟩ := dp (xs.getD i 0) (ys.getD j 0 - 1)
 obtain ⟨K2, D2⟩ := dp (xs.getD i 0) (ys.getD (j + 1) 0)
 obtain ⟨K3, hR⟩ := hR
 clear dp
 refine ⟨K1 + K2 + K3 + 1, fun k hk => ?_⟩
 obtain ⟨k, rfl⟩ : ∃ m, k = m + 1 := ⟨k - 1, by omega⟩
 have e1 := D1 k (by omega)
 have e2 := D2 k (by omega)
 have e3 := hR k (by omega)
 dsimp only at e1 e2 e3
 clear hk D1 D2 hR a b c
 simp only [tickingref01_Edge.j3]
 rw [if_pos g2, if_pos g3, if_pos g4, if_pos g5, rd_getD, rd_getD, v1, e1, Option.bind_some, w1]
 by_cases q1 : depthL l (xs.getD i 0) (ys.getD j 0 - 1) = 0
 ·rw [if_pos q1] at e3 ⊢
  rw [if_pos g8, if_pos g9, rd_getD, e2, Option.bind_some, v2, v3]
  by_cases q2 : depthL l (xs.getD i 0) (ys.getD (j + 1) 0) = 0
  ·rw [if_pos q2] at e3 ⊢; exact e3
  ·rw [if_neg q2, Int.add_zero] at e3; rw [if_neg q2]; exact e3
 ·rw [if_neg q1, Int.add_zero] at e3
  rw [if_neg q1, if_pos g8, if_pos g9, rd_getD, e2, Option.bind_some, v2]
  by_cases q2 : depthL l (xs.getD i 0) (ys.getD (j + 1) 0) = 0
  ·rw [if_pos q2] at e3 ⊢; exact e3
  ·rw [if_neg q2, Int.add_zero] at e3; rw [if_neg q2]; exact e3
theorem edge_j2 {l : List S48} {xs ys : List Int} (h : Lin l xs ys) {i j : Nat} (hi : i + 1 < xs.length) (hj : j + 1 < ys.length) (acc R : Int) (h1 : -900000000000 ≤ acc) (h2 : acc ≤ 900000000000)
  (hR : Ev (fun k => tickingref01_Edge.l1 k l xs ys (acc + (if depthL l (xs.getD (i + 1) 0) (ys.getD j 0) = 0 then ys.getD (j + 1) 0 - ys.getD j 0 else 0) + (if depthL l (xs.getD i 0) (ys.getD j 0 - 1) = 0 then xs.getD (i + 1) 0 - xs.getD i 0 else 0) + (if depthL l (xs.getD i 0) (ys.getD (j + 1) 0) = 0 then xs.getD (i + 1) 0 - xs.getD i 0 else 0)) (i : Int) ((j + 1 : Nat) : Int)) R) :
  Ev (fun k => tickingref01_Edge.j2 k l xs ys acc (i : Int) (j : Int) (xs.getD (i + 1) 0 - xs.getD i 0) (ys.getD (j + 1) 0 - ys.getD j 0)) R := by
 have nx := h.nx
 have ny := h.ny
 have g4 : (0 : Int) ≤ (j : Int) := by omega
 have g5 : (j : Int) < (ys.length : Int) := by omega
 have g6 : (0 : Int) ≤ ((i + 1 : Nat) : Int) := by omega
 have g7 : ((i + 1 : Nat) : Int) < (xs.length : Int) := by omega
 have c := getD_bd h.yb j
 have e := getD_bd h.yb (j + 1)
 have w2 : wrap64 ((i : Int) + 1) = ((i + 1 : Nat) : Int) := next_w (by omega)
 have v2 : wrap64 (acc + (ys.getD (j + 1) 0 - ys.getD j 0)) = acc + (ys.getD (j + 1) 0 - ys.getD j 0) := w64 (by omega) (by omega)
 have dp : ∀ x y, Ev (fun k => tickingref01_Depth.f k l x y) (depthL l x y) := fun x y => ⟨1001, fun k hk => depth_f l x y (by have := h.n; omega) (by omega)⟩
 obtain ⟨K1, D1⟩ := dp (xs.getD (i + 1) 0) (ys.getD j 0)
 have hj3 := edge_j3 h hi hj (acc + (if depthL l (xs.getD (i + 1) 0) (ys.getD j 0) = 0 then ys.getD (j + 1) 0 - ys.getD j 0 else 0)) R (by split <;> omega) (by split <;> omega) hR
 obtain ⟨K2, hj3⟩ := hj3
 clear dp hR
 refine ⟨K1 + K2 + 1, fun k hk => ?_⟩
 obtain ⟨k, rfl⟩ : ∃ m, k = m + 1 := ⟨k - 1, by omega⟩
 have e1 := D1 k (by omega)
 have e3 := hj3 k (by omega)
 dsimp only at e1 e3
 clear hk D1 hj3 c e
 simp only [tickingref01_Edge.j2]
 rw [w2, if_pos g6, if_pos g7, if_pos g4, if_pos g5, rd_getD, rd_getD, e1, Option.bind_some, v2]
 by_cases q1 : depthL l (xs.getD (i + 1) 0) (ys.getD j 0) = 0
 ·rw [if_pos q1] at e3 ⊢; exact e3
 ·rw [if_neg q1, Int.add_zero] at e3; rw [if_neg q1]; exact e3
theorem edge_l1 {l : List S48} {xs ys : List Int} (h : Lin l xs ys) {i : Nat} (hi : i + 1 < xs.length) (R : Int) (d : Nat) : ∀ (j : Nat) (acc : Int), j + d = ys.length → -(1000000000 * ((i : Int) + 1)) + 262144 * (d : Int) ≤ acc → acc ≤ 1000000000 * ((i : Int) + 1) - 262144 * (d : Int) →
  Ev (fun k => tickingref01_Edge.l0 k l xs ys (acc + rowF (FE l) (xs.getD i 0, xs.getD (i + 1) 0) ys j) ((i + 1 : Nat) : Int)) R → Ev (fun k => tickingref01_Edge.l1 k l xs ys acc (i : Int) (j : Int)) R := by
 have nx := h.nx
 have ny := h.ny
 have hi64 : (i : Int) ≤ 64 := by omega
 have hend : ∀ (j : Nat) (acc : Int), j ≤ 64 → ¬ j + 1 < ys.length → Ev (fun k => tickingref01_Edge.l0 k l xs ys (acc + rowF (FE l) (xs.getD i 0, xs.getD (i + 1) 0) ys j) ((i + 1 : Nat) : Int)) R → Ev (fun k => tickingref01_Edge.l1 k l xs ys acc (i : Int) (j : Int)) R := by
  intro j acc hj64 hlt hR
  have w1 : wrap64 ((j : Int) + 1) = ((j + 1 : Nat) : Int) := next_w (by omega)
  have w2 : wrap64 ((i : Int) + 1) = ((i + 1 : Nat) : Int) := next_w (by omega)
  have hn : ¬ ((j + 1 : Nat) : Int) < (ys.length : Int) := by omega
  rw [rowF_end _ _ _ _ hlt, Int.add_zero] at hR
  refine Ev.step (fun k => ?_) hR
  simp only [tickingref01_Edge.l1]
  rw [w1, w2, if_neg hn]
 induction d with
 | zero => intro j acc hj hlo hhi hR; exact hend j acc (by omega) (by omega) hR
 | succ d ih =>
  intro j acc hj hlo hhi hR
  by_cases hlt : j + 1 < ys.length
  ·have g1 : ((j + 1 : Nat) : Int) < (ys.length : Int) := by omega
   have g2 : (0 : Int) ≤ (i : Int) := by omega
   have g3 : (i : Int) < (xs.length : Int) := by omega
   have g4 : (0 : Int) ≤ (j : Int) := by omega
   have g5 : (j : Int) < (ys.length : Int) := by omega
   have g6 : (0 : Int) ≤ ((i + 1 : Nat) : Int) := by omega
   have g7 : ((i + 1 : Nat) : Int) < (xs.length : Int) := by omega
   have g8 : (0 : Int) ≤ ((j + 1 : Nat) : Int) := by omega
   have hs := rowF_step (FE l) (xs.getD i 0, xs.getD (i + 1) 0) ys j hlt
   have hsm := FE_sml h i j hi hlt
   have a := getD_bd h.bx i
   have b := getD_bd h.bx (i + 1)
   have c := getD_bd h.yb j
   have e := getD_bd h.yb (j + 1)
   have hd64 : (d : Int) ≤ 64 := by omega
   have hnn := (depthL_range l (xs.getD i 0) (ys.getD j 0)).1
   have dp : ∀ x y, Ev (fun k => tickingref01_Depth.f k l x y) (depthL l x y) := fun x y => ⟨1001, fun k hk => depth_f l x y (by have := h.n; omega) (by omega)⟩
   have ih' := ih (j + 1) (acc + FE l (xs.getD i 0, xs.getD (i + 1) 0) (ys.getD j 0, ys.getD (j + 1) 0)) (by omega) (by omega) (by omega) (by rw [Int.add_assoc, ← hs]; exact hR)
   clear ih hend hs hR
   obtain ⟨K0, D0⟩ := dp (xs.getD i 0) (ys.getD j 0)
   by_cases hp : 0 < depthL l (xs.getD i 0) (ys.getD j 0)
   ·have hF : FE l (xs.getD i 0, xs.getD (i + 1) 0) (ys.getD j 0, ys.getD (j + 1) 0) = (if depthL l (xs.getD i 0 - 1) (ys.getD j 0) = 0 then ys.getD (j + 1) 0 - ys.getD j 0 else 0) + (if depthL l (xs.getD (i + 1) 0) (ys.getD j 0) = 0 then ys.getD (j + 1) 0 - ys.getD j 0 else 0) +
      (if depthL l (xs.getD i 0) (ys.getD j 0 - 1) = 0 then xs.getD (i + 1) 0 - xs.getD i 0 else 0) + (if depthL l (xs.getD i 0) (ys.getD (j + 1) 0) = 0 then xs.getD (i + 1) 0 - xs.getD i 0 else 0) := if_pos hp
    rw [hF] at ih'
    have hne : ¬ depthL l (xs.getD i 0) (ys.getD j 0) = 0 := by omega
    obtain ⟨K1, D1⟩ := dp (xs.getD i 0 - 1) (ys.getD j 0)
    have hj2 := edge_j2 h hi hlt (acc + (if depthL l (xs.getD i 0 - 1) (ys.getD j 0) = 0 then ys.getD (j + 1) 0 - ys.getD j 0 else 0)) R (by split <;> omega) (by split <;> omega) (by simpa only [Int.add_assoc] using ih')
    obtain ⟨K2, hj2⟩ := hj2
    have z1 : -9223372036854775808 ≤ acc + (ys.getD (j + 1) 0 - ys.getD j 0) ∧ acc + (ys.getD (j + 1) 0 - ys.getD j 0) ≤ 9223372036854775807 := by omega
    have v3 := w64 z1.1 z1.2
    have w1 : wrap64 ((j : Int) + 1) = ((j + 1 : Nat) : Int) := next_w (by omega)
    have w2 : wrap64 ((i : Int) + 1) = ((i + 1 : Nat) : Int) := next_w (by omega)
    have v0 : wrap64 (xs.getD i 0 - 1) = xs.getD i 0 - 1 := w64 (by omega) (by omega)
    have v1 : wrap64 (xs.getD (i + 1) 0 - xs.getD i 0) = xs.getD (i + 1) 0 - xs.getD i 0 := w64 (by omega) (by omega)
    have v2 : wrap64 (ys.getD (j + 1) 0 - ys.getD j 0) = ys.getD (j + 1) 0 - ys.getD j 0 := w64 (by omega) (by omega)
    clear ih' hF dp hsm a b c e hlo hhi
    refine ⟨K0 + K1 + K2 + 1, fun k hk => ?_⟩
    obtain ⟨k, rfl⟩ : ∃ m, k = m + 1 := ⟨k - 1, by omega⟩
    have e0 := D0 k (by omega)
    have e1 := D1 k (by omega)
    have e2 := hj2 k (by omega)
    dsimp only at e0 e1 e2
    clear hk D0 D1 hj2
    simp only [tickingref01_Edge.l1]
    rw [w1, if_pos g1, if_pos g2, if_pos g3, if_pos g4, if_pos g5, rd_getD, rd_getD, e0, Option.bind_some, if_neg hne, w2, if_pos g6, if_pos g7, if_pos g8, rd_getD, rd_getD, v0, e1, Option.bind_some, v1, v2, v3]
    by_cases q1 : depthL l (xs.getD i 0 - 1) (ys.getD j 0) = 0
    ·rw [if_pos q1] at e2 ⊢; exact e2
    ·rw [if_neg q1, Int.add_zero] at e2; rw [if_neg q1]; exact e2
   ·have hF : FE l (xs.getD i 0, xs.getD (i + 1) 0) (ys.getD j 0, ys.getD (j + 1) 0) = 0 := if_neg hp
    rw [hF, Int.add_zero] at ih'
    have hz : depthL l (xs.getD i 0) (ys.getD j 0) = 0 := by omega
    obtain ⟨K1, ih'⟩ := ih'
    refine ⟨K0 + K1 + 1, fun k hk => ?_⟩
    obtain ⟨k, rfl⟩ : ∃ m, k = m + 1 := ⟨k - 1, by omega⟩
    have e0 := D0 k (by omega)
    have e1 := ih' k (by omega)
    dsimp only at e0 e1
    have w1 : wrap64 ((j : Int) + 1) = ((j + 1 : Nat) : Int) := next_w (by omega)
    simp only [tickingref01_Edge.l1]
    rw [w1, if_pos g1, if_pos g2, if_pos g3, if_pos g4, if_pos g5, rd_getD, rd_getD, e0, Option.bind_some, if_pos hz]
    exact e1
  ·exact hend j acc (by omega) hlt hR
theorem edge_l0 {l : List S48} {xs ys : List Int} (h : Lin l xs ys) : ∀ (d i : Nat) (acc : Int), i + d = xs.length → -(900000000 * (i : Int)) ≤ acc → acc ≤ 900000000 * (i : Int) → Ev (fun k => tickingref01_Edge.l0 k l xs ys acc (i : Int)) (acc + totF (FE l) xs ys i)
 | 0, i, acc, hi, h1, h2 => by
  have w2 : wrap64 ((i : Int) + 1) = ((i + 1 : Nat) : Int) := next_w (by have := h.nx; omega)
  rw [totF_end _ _ _ _ (by omega), Int.add_zero]
  refine Ev.step (f := fun _ => some acc) (fun k => ?_) (Ev.now _)
  simp only [tickingref01_Edge.l0]
  rw [w2, if_neg (by omega)]
 | d + 1, i, acc, hi, h1, h2 => by
  have nx := h.nx
  have ny := h.ny
  by_cases hlt : i + 1 < xs.length
  ·have hb := rowF_bd (FE_sml h) ny hlt ys.length 0 (by omega)
   have hy : (ys.length : Int) ≤ 64 := by omega
   have g1 : ((i + 1 : Nat) : Int) < (xs.length : Int) := by omega
   have ih := edge_l0 h d (i + 1) (acc + rowF (FE l) (xs.getD i 0, xs.getD (i + 1) 0) ys 0) (by omega) (by omega) (by omega)
   rw [totF_step _ _ _ _ hlt, ← Int.add_assoc]
   have hl1 := edge_l1 h hlt _ ys.length 0 acc (by omega) (by omega) (by omega) ih
   have w2 : wrap64 ((i : Int) + 1) = ((i + 1 : Nat) : Int) := next_w (by omega)
   refine Ev.step (fun k => ?_) hl1
   simp only [tickingref01_Edge.l0]
   rw [w2, if_pos g1]
   rfl
  ·have w2 : wrap64 ((i : Int) + 1) = ((i + 1 : Nat) : Int) := next_w (by omega)
   rw [totF_end _ _ _ _ hlt, Int.add_zero]
   refine Ev.step (f := fun _ => some acc) (fun k => ?_) (Ev.now _)
   simp only [tickingref01_Edge.l0]
   rw [w2, if_neg (by omega)]
theorem edge_ev {l : List S48} (h : areRs l 32 = true) : Ev (fun k => tickingref01_Edge.f k l) (edgeL l) := by
 have hl := lin_of h
 unfold tickingref01_Edge.f
 refine Ev.bind (lines_ev l true hl.n) (Ev.bind (lines_ev l false hl.n) ?_)
 have := edge_l0 hl (linesX l).length 0 0 (by omega) (by omega) (by omega)
 rw [Int.zero_add, ← edgeL_tot] at this
 exact this
theorem deep_l1 {l : List S48} {xs ys : List Int} (h : Lin l xs ys) {i : Nat} (hi : i < xs.length) (R : Int × Int × Int) (d : Nat) : ∀ (j : Nat) (b : Int × Int × Int), j + d = ys.length →
  Ev (fun k => tickingref01_Deepest.l0 k l xs ys ((ys.drop j).foldl (fun b y => deepStep l b (xs.getD i 0) y) b).1 ((i + 1 : Nat) : Int) ((ys.drop j).foldl (fun b y => deepStep l b (xs.getD i 0) y) b).2.1 ((ys.drop j).foldl (fun b y => deepStep l b (xs.getD i 0) y) b).2.2) R →
  Ev (fun k => tickingref01_Deepest.l1 k l xs ys b.1 (i : Int) (j : Int) b.2.1 b.2.2) R := by
 have nx := h.nx
 have ny := h.ny
 have w2 : wrap64 ((i : Int) + 1) = ((i + 1 : Nat) : Int) := next_w (by omega)
 induction d with
 | zero =>
  intro j b hj hR
  rw [List.drop_eq_nil_of_le (by omega)] at hR
  have hn : ¬ (j : Int) < (ys.length : Int) := by omega
  refine Ev.step (fun k => ?_) hR
  simp only [tickingref01_Deepest.l1]
  rw [w2, if_neg hn]
  rfl
 | succ d ih =>
  intro j b hj hR
  have hlt : j < ys.length := by omega
  have ed : ys.drop j = ys.getD j 0 :: ys.drop (j + 1) := by rw [List.drop_eq_getElem_cons hlt]; simp [hlt]
  rw [ed, List.foldl_cons] at hR
  have ih' := ih (j + 1) (deepStep l b (xs.getD i 0) (ys.getD j 0)) (by omega) hR
  clear ih hR
  have g1 : (j : Int) < (ys.length : Int) := by omega
  have g2 : (0 : Int) ≤ (i : Int) := by omega
  have g3 : (i : Int) < (xs.length : Int) := by omega
  have g4 : (0 : Int) ≤ (j : Int) := by omega
  have w1 : wrap64 ((j : Int) + 1) = ((j + 1 : Nat) : Int) := next_w (by omega)
  obtain ⟨K1, ih'⟩ := ih'
  refine ⟨K1 + 1002, fun k hk => ?_⟩
  obtain ⟨k, rfl⟩ : ∃ m, k = m + 1 := ⟨k - 1, by omega⟩
  have e1 := ih' k (by omega)
  dsimp only at e1
  have e0 := depth_f l (xs.getD i 0) (ys.getD j 0) (by have := h.n; omega) (k := k) (by omega)
  simp only [tickingref01_Deepest.l1]
  rw [if_pos g1, if_pos g2, if_pos g3, if_pos g4, rd_getD, rd_getD, e0, Option.bind_some, w1]
  unfold deepStep at e1
  by_cases q : depthL l (xs.getD i 0) (ys.getD j 0) > b.1
  ·rw [if_pos q] at e1 ⊢; exact e1
  ·rw [if_neg q] at e1 ⊢; exact e1
theorem deep_l0 {l : List S48} {xs ys : List Int} (h : Lin l xs ys) : ∀ (d i : Nat) (b : Int × Int × Int), i + d = xs.length →
  Ev (fun k => tickingref01_Deepest.l0 k l xs ys b.1 (i : Int) b.2.1 b.2.2) ((xs.drop i).foldl (fun b x => ys.foldl (fun b y => deepStep l b x y) b) b)
 | 0, i, b, hi => by
  rw [List.drop_eq_nil_of_le (by omega)]
  refine Ev.step (f := fun _ => some b) (fun k => ?_) (Ev.now _)
  simp only [tickingref01_Deepest.l0]
  rw [if_neg (by omega)]
 | d + 1, i, b, hi => by
  have hlt : i < xs.length := by omega
  have ed : xs.drop i = xs.getD i 0 :: xs.drop (i + 1) := by rw [List.drop_eq_getElem_cons hlt]; simp [hlt]
  have ih := deep_l0 h d (i + 1) (ys.foldl (fun b y => deepStep l b (xs.getD i 0) y) b) (by omega)
  rw [ed, List.foldl_cons]
  have := deep_l1 h hlt _ ys.length 0 b (by omega) (by simpa using ih)
  refine Ev.step (fun k => ?_) this
  simp only [tickingref01_Deepest.l0]
  rw [if_pos (by omega)]
  rfl
theorem deep_ev {l : List S48} (h : areRs l 32 = true) : Ev (fun k => tickingref01_Deepest.f k l) (deepL l) := by
 have hl := lin_of h
 unfold tickingref01_Deepest.f
 refine Ev.bind (lines_ev l true hl.n) (Ev.bind (lines_ev l false hl.n) ?_)
 have := deep_l0 hl (linesX l).length 0 (0, 0, 0) (by omega)
 exact this
end Go.Proofs.Ytplhfbkejngioaa.X
namespace Go.Proofs.Ytplhfbkejngioaa.Pure
open Go.RowKit Go.Proofs.Ytplhfbkejngioaa.X Go.Proofs.Ytplhfbkejngioaa.Open Go.Proofs.YtplhfbkejngioaaW.PrintWords Go.Proofs.YtplhfbkejngioaaW.PrintLast Go.Proofs.Ytplhfbkejngioaa.S
set_option linter.unusedVariables false
set_option linter.unusedSimpArgs false
theorem rects_f (l : List S48) (m : Nat) (hm : l.length ≤ 9223372036854775807) (hm2 : m ≤ 10000) : tickinglaw01_rects.f l (m : Int) = some (l.take m) := by
 unfold tickinglaw01_rects.f mn
 have hl : (l.take m).length ≤ m := by simp; omega
 by_cases h : (m : Int) < (l.length : Int)
 ·rw [if_pos h, if_pos (by omega), if_pos (by omega), Int.toNat_natCast]
  simp only [Option.bind_some, List.length_nil, List.nil_append]
  rw [if_pos (by omega)]
 ·rw [if_neg h, if_pos (by omega), if_pos (by omega), Int.toNat_natCast, List.take_length, List.take_of_length_le (by omega)]
  simp only [Option.bind_some, List.length_nil, List.nil_append]
  rw [if_pos (by omega)]
theorem rects_areRs (l : List S48) (hm : l.length ≤ 9223372036854775807) : Ev (fun k => tickingref01_Rects.f k l 32) (areRs l 32) := by rw [← areRs_eq]; exact rects_ev l 32 hm
theorem CoverUnions (l0 : List S48) (hm0 : l0.length ≤ 9223372036854775807) (hI0 : ∀ x ∈ l0, I64 x.f0 ∧ I64 x.f1 ∧ I64 x.f2 ∧ I64 x.f3) : ∃ k, tickinglaw01_CoverUnions.f k l0 = some true := by
 refine Ev.rounds ?_
 unfold tickinglaw01_CoverUnions.f
 have h33 := rects_f l0 33 hm0 (by omega)
 have e33 : ((33 : Nat) : Int) = 33 := rfl
 rw [e33] at h33
 rw [h33]
 have hy : (l0.take 33).length ≤ 33 := by simp; omega
 generalize l0.take 33 = y at hy
 simp only [Option.bind_some]
 by_cases h : areRs y 32 = true
 ·have hA : cover_Area.f y = some (areaL y, 0) := by unfold cover_Area.f; rw [if_pos h]
  have hE : cover_Edge.f y = some (edgeL y, 0) := by unfold cover_Edge.f; rw [if_pos h]
  rw [hA, hE]
  simp only [Option.bind_some]
  have hr := rects_areRs y (by omega)
  rw [h] at hr
  cases y with
  | nil =>
   have hD : cover_Deepest.f [] = some (0, 0, 0, 6) := by unfold cover_Deepest.f; rw [if_pos h]; rfl
   rw [hD]
   simp only [Option.bind_some]
   refine Ev.bind hr ?_
   simp only [if_true]
   refine Ev.bind (area_ev h) ?_
   simp only [if_true]
   refine Ev.bind (edge_ev h) ?_
   refine Ev.step (f := fun k => (tickinglaw01_awake.f k).bind fun t => some t) (fun k => ?_) (Ev.bind awake_ev (Ev.now _))
   rw [if_pos rfl]
   simp [tickinglaw01_CoverUnions.j0]
  | cons r t =>
   have hD : cover_Deepest.f (r :: t) = some ((deepL (r :: t)).1, (deepL (r :: t)).2.1, (deepL (r :: t)).2.2, 0) := by unfold cover_Deepest.f; rw [if_pos h]; rfl
   rw [hD]
   simp only [Option.bind_some]
   refine Ev.bind hr ?_
   simp only [if_true]
   refine Ev.bind (area_ev h) ?_
   simp only [if_true]
   refine Ev.bind (edge_ev h) ?_
   refine Ev.step (f := fun k => (tickingref01_Deepest.f k (r :: t)).bind fun bt337 => (if (deepL (r :: t)).1 = bt337.1 then (if ((deepL (r :: t)).2.1 == bt337.2.1 && ((deepL (r :: t)).2.2 == bt337.2.2)) = true then (if (0 : Int) = 0 then ((tickinglaw01_awake.f k).bind fun t341 => (some t341)) else (some false)) else (some false)) else (some false))) (fun k => ?_) (Ev.bind (deep_ev h) ?_)
   ·rw [if_pos rfl]
    simp only [tickinglaw01_CoverUnions.j0]
    have hne : ¬ ((r :: t).length : Int) = 0 := by simp; omega
    rw [if_neg (by decide), if_neg hne]
   ·simp only [if_true, beq_self_eq_true, Bool.and_self]
    exact Ev.bind awake_ev (Ev.now _)
 ·have hA : cover_Area.f y = some (0, 2) := by unfold cover_Area.f; rw [if_neg h]
  have hE : cover_Edge.f y = some (0, 2) := by unfold cover_Edge.f; rw [if_neg h]
  have hD : cover_Deepest.f y = some (0, 0, 0, 2) := by unfold cover_Deepest.f; rw [if_neg h]
  rw [hA, hE, hD]
  simp only [Option.bind_some]
  have hr := rects_areRs y (by omega)
  rw [Bool.eq_false_iff.2 h] at hr
  refine Ev.bind hr ?_
  simp only [Bool.false_eq_true, if_false, if_true, beq_self_eq_true, Bool.and_self]
  exact Ev.bind awake_ev (Ev.now _)
end Go.Proofs.Ytplhfbkejngioaa.Pure
