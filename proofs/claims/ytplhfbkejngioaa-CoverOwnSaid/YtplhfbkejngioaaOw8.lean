/- Divide, plain: the strips between neighboring lines, their pieces; these are a partition of at most 1024 rectangles. Texts of this claim's session, put together: Cells, Cells2, Cells3, Part, Div. -/
import Derived.Test.YtplhfbkejngioaaBc11
import Derived.Test.YtplhfbkejngioaaVWords
import Derived.Test.YtplhfbkejngioaaVLast
import Derived.Test.YtplhfbkejngioaaVRepsOne
namespace Go.Proofs.Ytplhfbkejngioaa.X
open Go.RowKit Go.Proofs.YtplhfbkejngioaaW.PrintWords Go.Proofs.YtplhfbkejngioaaW.PrintLast Go.Proofs.Ytplhfbkejngioaa.S
set_option linter.unusedVariables false
set_option linter.unusedSimpArgs false
def I (a : Int) (n : Nat) (F : Int → Int) : Int := X.S n fun k => F (a + (k : Int))
theorem I_zero (a : Int) (F : Int → Int) : I a 0 F = 0 := rfl
theorem I_succ (a : Int) (n : Nat) (F : Int → Int) : I a (n + 1) F = I a n F + F (a + (n : Int)) := X.S_succ _ _
theorem I_congr {a : Int} {n : Nat} {F G : Int → Int} (h : ∀ z, a ≤ z → z < a + (n : Int) → F z = G z) : I a n F = I a n G :=
 X.S_congr fun i hi => h _ (by omega) (by omega)
theorem I_add (a : Int) (n m : Nat) (F : Int → Int) : I a (n + m) F = I a n F + I (a + (n : Int)) m F := by
 induction m with
 | zero => rw [I_zero, Nat.add_zero, Int.add_zero]
 | succ m ih =>
  have e : a + ((n + m : Nat) : Int) = a + (n : Int) + (m : Int) := by omega
  rw [← Nat.add_assoc, I_succ, ih, I_succ, e]; omega
theorem I_plus (a : Int) (n : Nat) (F G : Int → Int) : I a n (fun z => F z + G z) = I a n F + I a n G := by
 induction n with
 | zero => rfl
 | succ n ih => rw [I_succ, I_succ, I_succ, ih]; omega
theorem I_nil {a : Int} {n : Nat} {F : Int → Int} (h : ∀ z, a ≤ z → z < a + (n : Int) → F z = 0) : I a n F = 0 := by
 induction n with
 | zero => rfl
 | succ n ih => rw [I_succ, ih (fun z h1 h2 => h z h1 (by omega)), h _ (by omega) (by omega)]; rfl
theorem I_const {a : Int} {n : Nat} {F : Int → Int} {v : Int} (h : ∀ z, a ≤ z → z < a + (n : Int) → F z = v) : I a n F = (n : Int) * v := by
 induction n with
 | zero => simp [I_zero]
 | succ n ih =>
  rw [I_succ, ih (fun z h1 h2 => h z h1 (by omega)), h _ (by omega) (by omega)]
  have : ((n + 1 : Nat) : Int) * v = (n : Int) * v + v := by rw [Int.natCast_add, Int.add_mul]; omega
  omega
theorem I_le {a : Int} {n : Nat} {F G : Int → Int} (h : ∀ z, a ≤ z → z < a + (n : Int) → F z ≤ G z) : I a n F ≤ I a n G := by
 induction n with
 | zero => exact Int.le_refl _
 | succ n ih =>
  have := ih (fun z h1 h2 => h z h1 (by omega))
  have := h (a + (n : Int)) (by omega) (by omega)
  rw [I_succ, I_succ]; omega
theorem I_eq_of {a : Int} {n : Nat} {F G : Int → Int} (h : ∀ z, a ≤ z → z < a + (n : Int) → F z ≤ G z) (e : I a n F = I a n G) : ∀ z, a ≤ z → z < a + (n : Int) → F z = G z := by
 induction n with
 | zero => intro z h1 h2; omega
 | succ n ih =>
  intro z h1 h2
  have l1 := I_le (a := a) (n := n) (F := F) (G := G) (fun z h1 h2 => h z h1 (by omega))
  have l2 := h (a + (n : Int)) (by omega) (by omega)
  rw [I_succ, I_succ] at e
  by_cases hz : z < a + (n : Int)
  ·exact ih (fun z h1 h2 => h z h1 (by omega)) (by omega) z h1 hz
  ·obtain rfl : z = a + (n : Int) := by omega
   omega
theorem nbs_two (x y : Int) (l : List Int) : nbs (x :: y :: l) = (x, y) :: nbs (y :: l) := rfl
theorem nbs_one (x : Int) : nbs [x] = [] := rfl
theorem blocks_from (F : Int → Int) (B : Int) : ∀ (xs : List Int) (x : Int), (x :: xs).Pairwise (· < ·) → (∀ w ∈ x :: xs, w ≤ B) →
  (∀ z z', x ≤ z → z ≤ z' → (∀ w ∈ x :: xs, w ≤ z' → w ≤ z) → F z' = F z) → (∀ z, (∀ w ∈ x :: xs, w ≤ z) → F z = 0) →
  sumL ((nbs (x :: xs)).map fun p => (p.2 - p.1) * F p.1) = I x (B - x).toNat F
 | [], x, hp, hB, hc, h0 => by
  rw [nbs_one]
  exact (I_nil fun z h1 h2 => h0 z fun w hw => by rw [List.mem_singleton.1 hw]; exact h1).symm
 | y :: ys, x, hp, hB, hc, h0 => by
  have hp' := (List.pairwise_cons.1 hp).2
  have hx := (List.pairwise_cons.1 hp).1
  have hxy := hx y (List.mem_cons_self ..)
  have hyl : ∀ w ∈ y :: ys, y ≤ w := fun w hw => by
   rcases List.mem_cons.1 hw with rfl | hw
   ·exact Int.le_refl _
   ·exact Int.le_of_lt ((List.pairwise_cons.1 hp').1 w hw)
  have ih := blocks_from F B ys y hp' (fun w hw => hB w (List.mem_cons_of_mem _ hw)) (fun z z' h1 h2 h3 => hc z z' (by omega) h2 fun w hw hwz => by
   rcases List.mem_cons.1 hw with rfl | hw
   ·omega
   ·exact h3 w hw hwz) (fun z hz => h0 z fun w hw => by
   rcases List.mem_cons.1 hw with rfl | hw
   ·have := hz y (List.mem_cons_self ..); omega
   ·exact hz w hw)
  have hyB := hB y (List.mem_cons_of_mem _ (List.mem_cons_self ..))
  have e : (B - x).toNat = (y - x).toNat + (B - y).toNat := by omega
  have e2 : x + ((y - x).toNat : Int) = y := by omega
  rw [nbs_two, List.map_cons, e, I_add, e2, ← ih]
  have e3 : I x (y - x).toNat F = ((y - x).toNat : Int) * F x := I_const fun z h1 h2 => hc x z (Int.le_refl _) h1 fun w hw hwz => by
   rcases List.mem_cons.1 hw with rfl | hw
   ·exact Int.le_refl _
   ·have := hyl w hw; omega
  have e4 : ((y - x).toNat : Int) = y - x := by omega
  rw [e3, e4]
  rfl
structure Blk (xs : List Int) (F : Int → Int) : Prop where
 const : ∀ z z', z ≤ z' → (∀ w ∈ xs, w ≤ z' → w ≤ z) → F z' = F z
 low : ∀ z, (∀ w ∈ xs, z < w) → F z = 0
 high : ∀ z, (∀ w ∈ xs, w ≤ z) → F z = 0
theorem blocks {xs : List Int} {F : Int → Int} (hp : xs.Pairwise (· < ·)) (hb : ∀ w ∈ xs, -256 ≤ w ∧ w ≤ 256) (h : Blk xs F) :
  sumL ((nbs xs).map fun p => (p.2 - p.1) * F p.1) = I (-256) 512 F := by
 cases xs with
 | nil => exact (I_nil fun z _ _ => h.low z fun w hw => by cases hw).symm
 | cons x xs =>
  have bx := hb x (List.mem_cons_self ..)
  rw [blocks_from F 256 xs x hp (fun w hw => (hb w hw).2) (fun z z' _ h2 h3 => h.const z z' h2 h3) h.high]
  have e : 512 = (x + 256).toNat + (256 - x).toNat := by omega
  have e2 : -256 + ((x + 256).toNat : Int) = x := by omega
  rw [e, I_add, e2]
  have z0 : I (-256) (x + 256).toNat F = 0 := I_nil fun z h1 h2 => h.low z fun w hw => by
   rcases List.mem_cons.1 hw with rfl | hw
   ·omega
   ·have := (List.pairwise_cons.1 hp).1 w hw; omega
  rw [z0]; omega
theorem covers_iff (r : S48) (x y : Int) : covers r x y = true ↔ r.f0 ≤ x ∧ x < r.f2 ∧ r.f1 ≤ y ∧ y < r.f3 := by
 unfold covers; simp only [Bool.and_eq_true, decide_eq_true_eq]; omega
theorem mem_lineX {l : List S48} {r : S48} (h : r ∈ l) : r.f0 ∈ linesX l ∧ r.f2 ∈ linesX l := by
 constructor <;> rw [linesX_mem] <;> unfold allX <;> rw [List.mem_flatMap] <;> exact ⟨r, h, by simp⟩
theorem mem_lineY {l : List S48} {r : S48} (h : r ∈ l) : r.f1 ∈ linesY l ∧ r.f3 ∈ linesY l := by
 constructor <;> rw [linesY_mem] <;> unfold allY <;> rw [List.mem_flatMap] <;> exact ⟨r, h, by simp⟩
theorem covers_eq {r : S48} {x y x' y' : Int} (h : (r.f0 ≤ x ∧ x < r.f2 ∧ r.f1 ≤ y ∧ y < r.f3) ↔ (r.f0 ≤ x' ∧ x' < r.f2 ∧ r.f1 ≤ y' ∧ y' < r.f3)) : covers r x y = covers r x' y' := by
 rw [Bool.eq_iff_iff, covers_iff, covers_iff]; exact h
theorem depth_none {l : List S48} {x y : Int} (h : ∀ r ∈ l, ¬ (r.f0 ≤ x ∧ x < r.f2 ∧ r.f1 ≤ y ∧ y < r.f3)) : depthL l x y = 0 := by
 rw [← pos_not, depth_pos]
 rintro ⟨r, hr, hc⟩
 exact h r hr ((covers_iff r x y).1 hc)
theorem blkX {l : List S48} (y : Int) (f : Int → Int) (h0 : f 0 = 0) : Blk (linesX l) fun x => f (depthL l x y) := by
 refine ⟨fun z z' h1 h2 => ?_, fun z hz => ?_, fun z hz => ?_⟩
 ·rw [depth_congr (l := l) (x := z') (y := y) (x' := z) (y' := y)]
  intro r hr
  obtain ⟨m1, m2⟩ := mem_lineX hr
  have a := h2 _ m1
  have b := h2 _ m2
  exact covers_eq (by omega)
 ·show f (depthL l _ _) = 0
  rw [depth_none, h0]
  intro r hr
  have := hz _ (mem_lineX hr).1
  omega
 ·show f (depthL l _ _) = 0
  rw [depth_none, h0]
  intro r hr
  have := hz _ (mem_lineX hr).2
  omega
theorem blkY {l : List S48} (x : Int) (f : Int → Int) (h0 : f 0 = 0) : Blk (linesY l) fun y => f (depthL l x y) := by
 refine ⟨fun z z' h1 h2 => ?_, fun z hz => ?_, fun z hz => ?_⟩
 ·rw [depth_congr (l := l) (x := x) (y := z') (x' := x) (y' := z)]
  intro r hr
  obtain ⟨m1, m2⟩ := mem_lineY hr
  have a := h2 _ m1
  have b := h2 _ m2
  exact covers_eq (by omega)
 ·show f (depthL l _ _) = 0
  rw [depth_none, h0]
  intro r hr
  have := hz _ (mem_lineY hr).1
  omega
 ·show f (depthL l _ _) = 0
  rw [depth_none, h0]
  intro r hr
  have := hz _ (mem_lineY hr).2
  omega
theorem lineX_bd {l : List S48} (h : ∀ r ∈ l, isR r = true) : ∀ w ∈ linesX l, -256 ≤ w ∧ w ≤ 256 := by
 intro w hw
 rw [linesX_mem] at hw
 unfold allX at hw
 obtain ⟨r, hr, hw⟩ := List.mem_flatMap.1 hw
 have := isR_bd (h r hr)
 simp at hw
 rcases hw with rfl | rfl <;> omega
theorem lineY_bd {l : List S48} (h : ∀ r ∈ l, isR r = true) : ∀ w ∈ linesY l, -256 ≤ w ∧ w ≤ 256 := by
 intro w hw
 rw [linesY_mem] at hw
 unfold allY at hw
 obtain ⟨r, hr, hw⟩ := List.mem_flatMap.1 hw
 have := isR_bd (h r hr)
 simp at hw
 rcases hw with rfl | rfl <;> omega
theorem sumL_mul (c : Int) : ∀ (l : List (Int × Int)) (g : Int × Int → Int), sumL (l.map fun y => c * g y) = c * sumL (l.map g)
 | [], g => by simp [sumL]
 | y :: l, g => by
  have := sumL_mul c l g
  simp only [List.map_cons, sumL, List.foldr_cons] at this ⊢
  rw [this, Int.mul_add]
theorem sumL_congr {l : List (Int × Int)} {g g' : Int × Int → Int} (h : ∀ y ∈ l, g y = g' y) : sumL (l.map g) = sumL (l.map g') := by rw [List.map_congr_left h]
def one (d : Int) : Int := if 0 < d then 1 else 0
def cells (l : List S48) : Int := I (-256) 512 fun x => I (-256) 512 fun y => one (depthL l x y)
theorem area_cells {l : List S48} (h : ∀ r ∈ l, isR r = true) : areaL l = cells l := by
 have hY := blocks (linesY_lt l) (lineY_bd h) (F := fun y => one (depthL l 0 y))
 unfold areaL cells
 have inner : ∀ x : Int × Int, sumL ((nbs (linesY l)).map fun y => if 0 < depthL l x.1 y.1 then (x.2 - x.1) * (y.2 - y.1) else 0) = (x.2 - x.1) * I (-256) 512 fun y => one (depthL l x.1 y) := by
  intro x
  rw [← blocks (linesY_lt l) (lineY_bd h) (blkY x.1 one rfl), ← sumL_mul]
  refine sumL_congr fun y _ => ?_
  unfold one
  split
  ·rw [Int.mul_one]
  ·rw [Int.mul_zero, Int.mul_zero]
 rw [sumL_congr fun x _ => inner x]
 refine blocks (F := fun x => I (-256) 512 fun y => one (depthL l x y)) (linesX_lt l) (lineX_bd h) ⟨fun z z' h1 h2 => ?_, fun z hz => ?_, fun z hz => ?_⟩
 ·show I (-256) 512 (fun y => one (depthL l z' y)) = I (-256) 512 (fun y => one (depthL l z y))
  exact I_congr (fun y _ _ => (blkX y one rfl).const z z' h1 h2)
 ·show I (-256) 512 (fun y => one (depthL l z y)) = 0
  exact I_nil (fun y _ _ => (blkX y one rfl).low z hz)
 ·show I (-256) 512 (fun y => one (depthL l z y)) = 0
  exact I_nil (fun y _ _ => (blkX y one rfl).high z hz)
end Go.Proofs.Ytplhfbkejngioaa.X
namespace Go.Proofs.Ytplhfbkejngioaa.X
open Go.RowKit Go.Proofs.YtplhfbkejngioaaW.PrintWords Go.Proofs.YtplhfbkejngioaaW.PrintLast Go.Proofs.Ytplhfbkejngioaa.S
set_option linter.unusedVariables false
set_option linter.unusedSimpArgs false
theorem nbs_mem : ∀ {xs : List Int}, xs.Pairwise (· < ·) → ∀ p ∈ nbs xs, p.1 ∈ xs ∧ p.2 ∈ xs ∧ p.1 < p.2 ∧ ∀ w ∈ xs, w < p.2 → w ≤ p.1
 | [], _, p, h => by cases h
 | [x], _, p, h => by cases h
 | x :: y :: l, hp, p, h => by
  have hp' := (List.pairwise_cons.1 hp).2
  have hx := (List.pairwise_cons.1 hp).1
  rw [nbs_two] at h
  rcases List.mem_cons.1 h with rfl | h
  ·refine ⟨List.mem_cons_self .., List.mem_cons_of_mem _ (List.mem_cons_self ..), hx y (List.mem_cons_self ..), fun w hw hlt => ?_⟩
   rcases List.mem_cons.1 hw with rfl | hw
   ·exact Int.le_refl _
   ·simp only at hlt
    rcases List.mem_cons.1 hw with rfl | hw
    ·omega
    ·have := (List.pairwise_cons.1 hp').1 w hw; omega
  ·obtain ⟨h1, h2, h3, h4⟩ := nbs_mem hp' p h
   refine ⟨List.mem_cons_of_mem _ h1, List.mem_cons_of_mem _ h2, h3, fun w hw hlt => ?_⟩
   rcases List.mem_cons.1 hw with rfl | hw
   ·have := hx _ h1; omega
   ·exact h4 w hw hlt
theorem depth_at {l : List S48} {z z' : Int} (h1 : z ≤ z') (h2 : ∀ w ∈ linesX l, w ≤ z' → w ≤ z) (y : Int) : depthL l z' y = depthL l z y := (blkX (l := l) y id rfl).const z z' h1 h2
end Go.Proofs.Ytplhfbkejngioaa.X
namespace Go.Proofs.Ytplhfbkejngioaa.X
open Go.RowKit Go.Proofs.YtplhfbkejngioaaW.PrintWords Go.Proofs.YtplhfbkejngioaaW.PrintLast Go.Proofs.Ytplhfbkejngioaa.S
set_option linter.unusedVariables false
set_option linter.unusedSimpArgs false
theorem depth_nn (l : List S48) (x y : Int) : 0 ≤ depthL l x y := (depthL_range l x y).1
theorem depth_outX {l : List S48} (h : ∀ r ∈ l, isR r = true) {x : Int} (hx : x < -256 ∨ 256 ≤ x) (y : Int) : depthL l x y = 0 := by
 refine depth_none fun r hr => ?_
 have := isR_bd (h r hr)
 omega
theorem depth_outY {l : List S48} (h : ∀ r ∈ l, isR r = true) (x : Int) {y : Int} (hy : y < -256 ∨ 256 ≤ y) : depthL l x y = 0 := by
 refine depth_none fun r hr => ?_
 have := isR_bd (h r hr)
 omega
theorem depth_append (l m : List S48) (x y : Int) : depthL (l ++ m) x y = depthL l x y + depthL m x y := by
 unfold depthL; rw [List.filter_append, List.length_append]; omega
theorem depth_cons (r : S48) (l : List S48) (x y : Int) : depthL (r :: l) x y = (if covers r x y = true then 1 else 0) + depthL l x y := by
 unfold depthL
 rw [List.filter_cons]
 split
 ·rw [List.length_cons]; omega
 ·omega
def size (r : S48) : Int := (r.f2 - r.f0) * (r.f3 - r.f1)
def sizes (l : List S48) : Int := sumL (l.map size)
theorem I_range {a b v : Int} (h0 : -256 ≤ a) (h1 : a ≤ b) (h2 : b ≤ 256) (F : Int → Int) (hin : ∀ z, a ≤ z → z < b → F z = v) (hout : ∀ z, ¬ (a ≤ z ∧ z < b) → F z = 0) : I (-256) 512 F = (b - a) * v := by
 have e : 512 = (a + 256).toNat + (b - a).toNat + (256 - b).toNat := by omega
 have e2 : -256 + ((a + 256).toNat : Int) = a := by omega
 have e3 : -256 + (((a + 256).toNat + (b - a).toNat : Nat) : Int) = b := by omega
 rw [e, I_add, I_add, e2, e3, I_nil (a := -256) (fun z h1 h2 => hout z (by omega)), I_const (a := a) (fun z h1 h2 => hin z h1 (by omega)), I_nil (a := b) (fun z h1 h2 => hout z (by omega))]
 have e4 : ((b - a).toNat : Int) = b - a := by omega
 rw [e4]; omega
theorem size_cells {r : S48} (h : isR r = true) : (I (-256) 512 fun x => I (-256) 512 fun y => if covers r x y = true then 1 else 0) = size r := by
 have b := isR_bd h
 unfold size
 refine I_range (a := r.f0) (b := r.f2) (v := r.f3 - r.f1) (by omega) (by omega) (by omega) _ (fun x h1 h2 => ?_) (fun x hx => ?_)
 ·rw [← Int.mul_one (r.f3 - r.f1)]
  refine I_range (a := r.f1) (b := r.f3) (v := 1) (by omega) (by omega) (by omega) _ (fun y h3 h4 => ?_) (fun y hy => ?_)
  ·exact if_pos ((covers_iff r x y).2 (by omega))
  ·exact if_neg fun hc => by have := (covers_iff r x y).1 hc; omega
 ·exact I_nil fun y _ _ => if_neg fun hc => by have := (covers_iff r x y).1 hc; omega
theorem sizes_cells : ∀ {l : List S48}, (∀ r ∈ l, isR r = true) → sizes l = I (-256) 512 fun x => I (-256) 512 fun y => depthL l x y
 | [], _ => (I_nil fun _ _ _ => I_nil fun _ _ _ => rfl).symm
 | r :: l, h => by
  have ih := sizes_cells (l := l) (fun q hq => h q (List.mem_cons_of_mem _ hq))
  have e : sizes (r :: l) = size r + sizes l := rfl
  rw [e, ih, ← size_cells (h r (List.mem_cons_self ..)), ← I_plus]
  refine I_congr fun x _ _ => ?_
  rw [← I_plus]
  exact I_congr fun y _ _ => (depth_cons r l x y).symm
structure Dp (l : List S48) (b : Int × Int × Int) : Prop where
 nn : 0 ≤ b.1
 at' : b = (0, 0, 0) ∨ depthL l b.2.1 b.2.2 = b.1
theorem Dp.step {l : List S48} {b : Int × Int × Int} (h : Dp l b) (x y : Int) : Dp l (deepStep l b x y) ∧ b.1 ≤ (deepStep l b x y).1 ∧ depthL l x y ≤ (deepStep l b x y).1 := by
 unfold deepStep
 have := h.nn
 by_cases hc : depthL l x y > b.1
 ·rw [if_pos hc]
  exact ⟨⟨by simp only; omega, Or.inr rfl⟩, by simp only; omega, Int.le_refl _⟩
 ·rw [if_neg hc]
  exact ⟨h, Int.le_refl _, by omega⟩
theorem line_below : ∀ (xs : List Int) (z : Int), (∃ w ∈ xs, w ≤ z) → ∃ w ∈ xs, w ≤ z ∧ ∀ v ∈ xs, v ≤ z → v ≤ w
 | [], z, ⟨w, hw, _⟩ => by cases hw
 | x :: xs, z, h => by
  by_cases ht : ∃ w ∈ xs, w ≤ z
  ·obtain ⟨w, hw, h1, h2⟩ := line_below xs z ht
   by_cases hx : x ≤ z ∧ w < x
   ·refine ⟨x, List.mem_cons_self .., hx.1, fun v hv hvz => ?_⟩
    rcases List.mem_cons.1 hv with rfl | hv
    ·exact Int.le_refl _
    ·have := h2 v hv hvz; omega
   ·refine ⟨w, List.mem_cons_of_mem _ hw, h1, fun v hv hvz => ?_⟩
    rcases List.mem_cons.1 hv with rfl | hv
    ·omega
    ·exact h2 v hv hvz
  ·obtain ⟨w, hw, hz⟩ := h
   rcases List.mem_cons.1 hw with rfl | hw
   ·refine ⟨w, List.mem_cons_self .., hz, fun v hv hvz => ?_⟩
    rcases List.mem_cons.1 hv with rfl | hv
    ·exact Int.le_refl _
    ·exact absurd ⟨v, hv, hvz⟩ ht
   ·exact absurd ⟨w, hw, hz⟩ ht
end Go.Proofs.Ytplhfbkejngioaa.X
namespace Go.Proofs.Ytplhfbkejngioaa.X
open Go.RowKit Go.Proofs.YtplhfbkejngioaaW.PrintWords Go.Proofs.YtplhfbkejngioaaW.PrintLast Go.Proofs.Ytplhfbkejngioaa.S
set_option linter.unusedVariables false
set_option linter.unusedSimpArgs false
def over (a b : S48) : Prop := mx a.f0 b.f0 < mn a.f2 b.f2 ∧ mx a.f1 b.f1 < mn a.f3 b.f3
theorem over_cell {a b : S48} {x y : Int} (ha : covers a x y = true) (hb : covers b x y = true) : over a b := by
 rw [covers_iff] at ha hb
 unfold over mx mn
 constructor <;> split <;> split <;> omega
theorem cell_over {a b : S48} (h : over a b) : covers a (mx a.f0 b.f0) (mx a.f1 b.f1) = true ∧ covers b (mx a.f0 b.f0) (mx a.f1 b.f1) = true := by
 obtain ⟨h1, h2⟩ := h
 have e : ∀ u v : Int, u ≤ mx u v ∧ v ≤ mx u v := fun u v => by unfold mx; split <;> omega
 have e' : ∀ u v : Int, mn u v ≤ u ∧ mn u v ≤ v := fun u v => by unfold mn; split <;> omega
 have a1 := e a.f0 b.f0
 have a2 := e a.f1 b.f1
 have a3 := e' a.f2 b.f2
 have a4 := e' a.f3 b.f3
 rw [covers_iff, covers_iff]
 omega
structure Part (l p : List S48) : Prop where
 dis : p.Pairwise fun b a => ¬ over a b
 inn : ∀ a ∈ p, ∀ x y, covers a x y = true → depthL l x y ≠ 0
 sum : sizes p = areaL l
theorem depth_le_one : ∀ {p : List S48}, (p.Pairwise fun b a => ¬ over a b) → ∀ x y, depthL p x y ≤ 1
 | [], _, x, y => by have : depthL [] x y = 0 := rfl; omega
 | a :: p, h, x, y => by
  have h2 := List.pairwise_cons.1 h
  have ih := depth_le_one h2.2 x y
  rw [depth_cons]
  by_cases hc : covers a x y = true
  ·rw [if_pos hc]
   have : depthL p x y = 0 := by
    rw [← pos_not, depth_pos]
    rintro ⟨b, hb, hcb⟩
    exact h2.1 b hb (over_cell hcb hc)
   omega
  ·rw [if_neg hc]; omega
theorem dis_of_depth : ∀ {p : List S48}, (∀ x y, depthL p x y ≤ 1) → p.Pairwise fun b a => ¬ over a b
 | [], _ => List.Pairwise.nil
 | a :: p, h => by
  refine List.pairwise_cons.2 ⟨fun b hb ho => ?_, dis_of_depth fun x y => ?_⟩
  ·obtain ⟨c1, c2⟩ := cell_over ho
   have := h (mx b.f0 a.f0) (mx b.f1 a.f1)
   rw [depth_cons, if_pos c2] at this
   have : 0 < depthL p (mx b.f0 a.f0) (mx b.f1 a.f1) := depth_pos.2 ⟨b, hb, c1⟩
   omega
  ·have := h x y
   rw [depth_cons] at this
   split at this <;> omega
def Look (l p : List S48) : Prop := ∀ x ∈ linesX (l ++ p), ∀ y ∈ linesY (l ++ p), depthL p x y ≤ 1 ∧ (0 < depthL l x y ↔ 0 < depthL p x y)
theorem lines_sub {l p : List S48} : (∀ w ∈ linesX l, w ∈ linesX (l ++ p)) ∧ (∀ w ∈ linesX p, w ∈ linesX (l ++ p)) ∧ (∀ w ∈ linesY l, w ∈ linesY (l ++ p)) ∧ (∀ w ∈ linesY p, w ∈ linesY (l ++ p)) := by
 refine ⟨fun w hw => ?_, fun w hw => ?_, fun w hw => ?_, fun w hw => ?_⟩
 ·rw [linesX_mem] at hw ⊢; unfold allX at hw ⊢; rw [List.flatMap_append]; exact List.mem_append_left _ hw
 ·rw [linesX_mem] at hw ⊢; unfold allX at hw ⊢; rw [List.flatMap_append]; exact List.mem_append_right _ hw
 ·rw [linesY_mem] at hw ⊢; unfold allY at hw ⊢; rw [List.flatMap_append]; exact List.mem_append_left _ hw
 ·rw [linesY_mem] at hw ⊢; unfold allY at hw ⊢; rw [List.flatMap_append]; exact List.mem_append_right _ hw
theorem to_corner (l p : List S48) (x y : Int) : (depthL l x y = 0 ∧ depthL p x y = 0) ∨ ∃ x' ∈ linesX (l ++ p), ∃ y' ∈ linesY (l ++ p), depthL l x y = depthL l x' y' ∧ depthL p x y = depthL p x' y' := by
 obtain ⟨s1, s2, s3, s4⟩ := lines_sub (l := l) (p := p)
 by_cases hd : 0 < depthL (l ++ p) x y
 ·right
  obtain ⟨r, hr, hc⟩ := depth_pos.1 hd
  have c := (covers_iff r x y).1 hc
  obtain ⟨x', hx', a1, a2⟩ := line_below (linesX (l ++ p)) x ⟨r.f0, (mem_lineX hr).1, c.1⟩
  obtain ⟨y', hy', b1, b2⟩ := line_below (linesY (l ++ p)) y ⟨r.f1, (mem_lineY hr).1, c.2.2.1⟩
  refine ⟨x', hx', y', hy', ?_, ?_⟩
  ·rw [depth_at (l := l) a1 (fun w hw => a2 w (s1 w hw)) y]
   exact (blkY (l := l) x' id rfl).const y' y b1 (fun w hw => b2 w (s3 w hw))
  ·rw [depth_at (l := p) a1 (fun w hw => a2 w (s2 w hw)) y]
   exact (blkY (l := p) x' id rfl).const y' y b1 (fun w hw => b2 w (s4 w hw))
 ·left
  rw [depth_append] at hd
  have := depth_nn l x y
  have := depth_nn p x y
  omega
theorem look_all {l p : List S48} (h : Look l p) (x y : Int) : depthL p x y ≤ 1 ∧ (0 < depthL l x y ↔ 0 < depthL p x y) := by
 rcases to_corner l p x y with ⟨e1, e2⟩ | ⟨x', hx', y', hy', e1, e2⟩
 ·rw [e1, e2]; omega
 ·rw [e1, e2]; exact h x' hx' y' hy'
theorem part_iff {l p : List S48} (hl : ∀ r ∈ l, isR r = true) (hp : ∀ r ∈ p, isR r = true) : Part l p ↔ Look l p := by
 constructor
 ·intro h x _ y _
  have d1 := depth_le_one h.dis
  have inn : ∀ x y, 0 < depthL p x y → 0 < depthL l x y := fun x y hd => by
   obtain ⟨a, ha, hc⟩ := depth_pos.1 hd
   have := h.inn a ha x y hc
   have := depth_nn l x y
   omega
  have le : ∀ x y, depthL p x y ≤ one (depthL l x y) := fun x y => by
   have a := d1 x y
   have b := depth_nn p x y
   unfold one
   by_cases hd : 0 < depthL p x y
   ·rw [if_pos (inn x y hd)]; omega
   ·split <;> omega
  have eqs : (I (-256) 512 fun x => I (-256) 512 fun y => depthL p x y) = I (-256) 512 fun x => I (-256) 512 fun y => one (depthL l x y) := by
   rw [← sizes_cells hp, h.sum, area_cells hl]; rfl
  refine ⟨d1 x y, fun hd => ?_, inn x y⟩
  have bx : -256 ≤ x ∧ x < 256 := by
   refine ⟨Int.not_lt.1 fun hx => ?_, Int.not_le.1 fun hx => ?_⟩
   ·rw [depth_outX hl (Or.inl hx)] at hd; omega
   ·rw [depth_outX hl (Or.inr hx)] at hd; omega
  have by' : -256 ≤ y ∧ y < 256 := by
   refine ⟨Int.not_lt.1 fun hx => ?_, Int.not_le.1 fun hx => ?_⟩
   ·rw [depth_outY hl x (Or.inl hx)] at hd; omega
   ·rw [depth_outY hl x (Or.inr hx)] at hd; omega
  have r1 := I_eq_of (a := -256) (n := 512) (F := fun x => I (-256) 512 fun y => depthL p x y) (G := fun x => I (-256) 512 fun y => one (depthL l x y)) (fun x _ _ => I_le fun y _ _ => le x y) eqs x bx.1 (by omega)
  have r2 := I_eq_of (a := -256) (n := 512) (F := fun y => depthL p x y) (G := fun y => one (depthL l x y)) (fun y _ _ => le x y) r1 y by'.1 (by omega)
  unfold one at r2
  rw [if_pos hd] at r2
  omega
 ·intro h
  have a := look_all h
  refine ⟨dis_of_depth fun x y => (a x y).1, fun r hr x y hc => ?_, ?_⟩
  ·have : 0 < depthL p x y := depth_pos.2 ⟨r, hr, hc⟩
   have := (a x y).2.2 this
   omega
  ·rw [sizes_cells hp, area_cells hl]
   refine I_congr fun x _ _ => I_congr fun y _ _ => ?_
   have b := a x y
   have c := depth_nn p x y
   unfold one
   split
   ·have := b.2.1 (by assumption); omega
   ·have : ¬ 0 < depthL p x y := fun hd => by have := b.2.2 hd; omega
    omega
end Go.Proofs.Ytplhfbkejngioaa.X
namespace Go.Proofs.Ytplhfbkejngioaa.X
open Go.RowKit Go.Proofs.YtplhfbkejngioaaW.PrintWords Go.Proofs.YtplhfbkejngioaaW.PrintLast Go.Proofs.Ytplhfbkejngioaa.S
set_option linter.unusedVariables false
set_option linter.unusedSimpArgs false
def act (c d : Int) (r : S48) : Bool := decide (r.f0 ≤ c) && decide (d ≤ r.f2)
theorem act_iff {c d : Int} {r : S48} : act c d r = true ↔ r.f0 ≤ c ∧ d ≤ r.f2 := by unfold act; simp only [Bool.and_eq_true, decide_eq_true_eq]
def put (c d : Int) (r : S48) : List S48 → List S48
 | [] => [⟨c, r.f1, d, r.f3⟩]
 | q :: t => if r.f1 ≤ q.f3 then ⟨q.f0, q.f1, q.f2, mx q.f3 r.f3⟩ :: t else ⟨c, r.f1, d, r.f3⟩ :: q :: t
theorem put_cons (c d : Int) (r q : S48) (t : List S48) : put c d r (q :: t) = if r.f1 ≤ q.f3 then ⟨q.f0, q.f1, q.f2, mx q.f3 r.f3⟩ :: t else ⟨c, r.f1, d, r.f3⟩ :: q :: t := rfl
def stripStep (c d : Int) (acc : List S48) (r : S48) : List S48 := if act c d r = true then put c d r acc else acc
def strip (c d : Int) (b : List S48) : List S48 := b.foldl (stripStep c d) []
def divL (xs : List Int) (b : List S48) : List S48 := (nbs xs).flatMap fun x => (strip x.1 x.2 b).reverse
structure SI (c d : Int) (pre acc : List S48) : Prop where
 rect : ∀ q ∈ acc, q.f0 = c ∧ q.f2 = d ∧ q.f1 < q.f3 ∧ -256 ≤ q.f1 ∧ q.f3 ≤ 256
 sep : acc.Pairwise fun a b => b.f3 < a.f1
 cov : ∀ y, (∃ q ∈ acc, q.f1 ≤ y ∧ y < q.f3) ↔ ∃ r ∈ pre, act c d r = true ∧ r.f1 ≤ y ∧ y < r.f3
 low : ∀ q ∈ acc, ∃ r ∈ pre, q.f1 = r.f1
 cnt : acc.length ≤ pre.countP (act c d)
theorem SI.nil (c d : Int) : SI c d [] [] := ⟨fun q h => (by cases h), List.Pairwise.nil, fun y => ⟨fun ⟨q, h, _⟩ => (by cases h), fun ⟨q, h, _⟩ => (by cases h)⟩, fun q h => (by cases h), Nat.le_refl _⟩
theorem mx_le {a b : Int} : a ≤ mx a b ∧ b ≤ mx a b ∧ (mx a b = a ∨ mx a b = b) := by unfold mx; split <;> omega
theorem SI.step {c d : Int} {pre acc : List S48} (h : SI c d pre acc) {r : S48} (hr : isR r = true) (hs : ∀ s ∈ pre, s.f1 ≤ r.f1) : SI c d (pre ++ [r]) (stripStep c d acc r) := by
 have br := isR_bd hr
 unfold stripStep
 by_cases ha : act c d r = true
 ·rw [if_pos ha]
  have hc1 : (pre ++ [r]).countP (act c d) = pre.countP (act c d) + 1 := by rw [List.countP_append, List.countP_cons_of_pos ha, List.countP_nil]
  have cv : ∀ y, (∃ s ∈ pre ++ [r], act c d s = true ∧ s.f1 ≤ y ∧ y < s.f3) ↔ (∃ s ∈ pre, act c d s = true ∧ s.f1 ≤ y ∧ y < s.f3) ∨ (r.f1 ≤ y ∧ y < r.f3) := fun y => by
   constructor
   ·rintro ⟨s, hs, h1, h2⟩
    rcases List.mem_append.1 hs with hs | hs
    ·exact .inl ⟨s, hs, h1, h2⟩
    ·rw [List.mem_singleton.1 hs] at h2; exact .inr h2
   ·rintro (⟨s, hs, h1, h2⟩ | h2)
    ·exact ⟨s, List.mem_append_left _ hs, h1, h2⟩
    ·exact ⟨r, by simp, ha, h2⟩
  have lw : ∀ q ∈ acc, q.f1 ≤ r.f1 := fun q hq => by
   obtain ⟨s, hs', e⟩ := h.low q hq
   rw [e]; exact hs s hs'
  have lo : ∀ q ∈ acc, ∃ s ∈ pre ++ [r], q.f1 = s.f1 := fun q hq => by
   obtain ⟨s, hs', e⟩ := h.low q hq
   exact ⟨s, List.mem_append_left _ hs', e⟩
  match acc, h, lw, lo with
  | [], h, lw, lo =>
   refine ⟨fun q hq => ?_, List.pairwise_singleton _ _, fun y => ?_, fun q hq => ?_, ?_⟩
   ·rw [show put c d r [] = [⟨c, r.f1, d, r.f3⟩] from rfl, List.mem_singleton] at hq
    subst hq; exact ⟨rfl, rfl, br.2.2.2.2.2.2.2.2.2, br.2.2.1, br.2.2.2.2.2.2.2.1⟩
   ·rw [cv y, ← h.cov y]
    constructor
    ·rintro ⟨q, hq, h2⟩
     rw [show put c d r [] = [⟨c, r.f1, d, r.f3⟩] from rfl, List.mem_singleton] at hq
     subst hq; exact .inr h2
    ·rintro (⟨q, hq, _⟩ | h2)
     ·cases hq
     ·exact ⟨_, List.mem_singleton.2 rfl, h2⟩
   ·rw [show put c d r [] = [⟨c, r.f1, d, r.f3⟩] from rfl, List.mem_singleton] at hq
    subst hq; exact ⟨r, by simp, rfl⟩
   ·rw [hc1]; show 1 ≤ _; omega
  | q :: t, h, lw, lo =>
   have hp := List.pairwise_cons.1 h.sep
   have hq := h.rect q (List.mem_cons_self ..)
   have lq := lw q (List.mem_cons_self ..)
   have hcn := h.cnt
   rw [List.length_cons] at hcn
   rw [put_cons]
   by_cases hm : r.f1 ≤ q.f3
   ·rw [if_pos hm]
    have m := mx_le (a := q.f3) (b := r.f3)
    refine ⟨fun p hp' => ?_, List.pairwise_cons.2 ⟨fun b hb => hp.1 b hb, hp.2⟩, fun y => ?_, fun p hp' => ?_, ?_⟩
    ·rcases List.mem_cons.1 hp' with rfl | hp'
     ·simp only; omega
     ·exact h.rect p (List.mem_cons_of_mem _ hp')
    ·rw [cv y, ← h.cov y]
     constructor
     ·rintro ⟨p, hp', h2⟩
      rcases List.mem_cons.1 hp' with rfl | hp'
      ·simp only at h2
       by_cases hy : y < q.f3
       ·exact .inl ⟨q, List.mem_cons_self .., by omega⟩
       ·exact .inr (by omega)
      ·exact .inl ⟨p, List.mem_cons_of_mem _ hp', h2⟩
     ·rintro (⟨p, hp', h2⟩ | h2)
      ·rcases List.mem_cons.1 hp' with rfl | hp'
       ·exact ⟨_, List.mem_cons_self .., by simp only; omega⟩
       ·exact ⟨p, List.mem_cons_of_mem _ hp', h2⟩
      ·exact ⟨_, List.mem_cons_self .., by simp only; omega⟩
    ·rcases List.mem_cons.1 hp' with rfl | hp'
     ·exact lo q (List.mem_cons_self ..)
     ·exact lo p (List.mem_cons_of_mem _ hp')
    ·rw [hc1, List.length_cons]; omega
   ·rw [if_neg hm]
    refine ⟨fun p hp' => ?_, List.pairwise_cons.2 ⟨fun b hb => ?_, h.sep⟩, fun y => ?_, fun p hp' => ?_, ?_⟩
    ·rcases List.mem_cons.1 hp' with rfl | hp'
     ·exact ⟨rfl, rfl, br.2.2.2.2.2.2.2.2.2, br.2.2.1, br.2.2.2.2.2.2.2.1⟩
     ·exact h.rect p hp'
    ·rcases List.mem_cons.1 hb with rfl | hb
     ·simp only; omega
     ·have := hp.1 b hb
      simp only; omega
    ·rw [cv y, ← h.cov y]
     constructor
     ·rintro ⟨p, hp', h2⟩
      rcases List.mem_cons.1 hp' with rfl | hp'
      ·exact .inr h2
      ·exact .inl ⟨p, hp', h2⟩
     ·rintro (⟨p, hp', h2⟩ | h2)
      ·exact ⟨p, List.mem_cons_of_mem _ hp', h2⟩
      ·exact ⟨_, List.mem_cons_self .., h2⟩
    ·rcases List.mem_cons.1 hp' with rfl | hp'
     ·exact ⟨r, by simp, rfl⟩
     ·exact lo p hp'
    ·rw [hc1, List.length_cons, List.length_cons]; omega
 ·rw [if_neg ha]
  refine ⟨h.rect, h.sep, fun y => ?_, fun q hq => ?_, ?_⟩
  ·rw [h.cov y]
   constructor
   ·rintro ⟨s, hs, h1⟩
    exact ⟨s, List.mem_append_left _ hs, h1⟩
   ·rintro ⟨s, hs, h1, h2⟩
    rcases List.mem_append.1 hs with hs | hs
    ·exact ⟨s, hs, h1, h2⟩
    ·rw [List.mem_singleton.1 hs] at h1; exact absurd h1 ha
  ·obtain ⟨s, hs', e⟩ := h.low q hq
   exact ⟨s, List.mem_append_left _ hs', e⟩
  ·have := h.cnt
   rw [List.countP_append]; omega
theorem SI.fold {c d : Int} : ∀ (rest pre acc : List S48), SI c d pre acc → (∀ r ∈ rest, isR r = true) → (pre ++ rest).Pairwise (fun a b => a.f1 ≤ b.f1) → SI c d (pre ++ rest) (rest.foldl (stripStep c d) acc)
 | [], pre, acc, h, _, _ => by rw [List.append_nil]; exact h
 | r :: rest, pre, acc, h, hr, hp => by
  have e : pre ++ r :: rest = (pre ++ [r]) ++ rest := by simp
  rw [e] at hp ⊢
  have hp1 := (List.pairwise_append.1 (List.pairwise_append.1 hp).1).2.2
  exact SI.fold rest (pre ++ [r]) _ (h.step (hr r (List.mem_cons_self ..)) (fun s hs => hp1 s hs r (by simp))) (fun s hs => hr s (List.mem_cons_of_mem _ hs)) hp
theorem strip_si {c d : Int} {b : List S48} (hb : ∀ r ∈ b, isR r = true) (hs : b.Pairwise (fun a b => a.f1 ≤ b.f1)) : SI c d b (strip c d b) := by
 have := SI.fold (c := c) (d := d) b [] [] (SI.nil c d) hb (by simpa using hs)
 simpa [strip] using this
theorem nbs_find : ∀ {xs : List Int}, xs.Pairwise (· < ·) → ∀ z : Int, (∃ u ∈ xs, u ≤ z) → (∃ v ∈ xs, z < v) → ∃ p ∈ nbs xs, p.1 ≤ z ∧ z < p.2
 | [], _, z, ⟨u, h, _⟩, _ => by cases h
 | [x], _, z, ⟨u, hu, h1⟩, ⟨v, hv, h2⟩ => by
  rw [List.mem_singleton.1 hu] at h1
  rw [List.mem_singleton.1 hv] at h2
  omega
 | x :: y :: l, hp, z, ⟨u, hu, h1⟩, ⟨v, hv, h2⟩ => by
  have hp' := (List.pairwise_cons.1 hp).2
  have hx := (List.pairwise_cons.1 hp).1
  rw [nbs_two]
  by_cases hz : z < y
  ·refine ⟨(x, y), List.mem_cons_self .., ?_, hz⟩
   rcases List.mem_cons.1 hu with rfl | hu
   ·exact h1
   ·have := hx u hu; simp only; omega
  ·obtain ⟨p, hpm, h3⟩ := nbs_find hp' z ⟨y, List.mem_cons_self .., by omega⟩ ⟨v, by
    rcases List.mem_cons.1 hv with rfl | hv
    ·have := hx y (List.mem_cons_self ..); omega
    ·exact hv, h2⟩
   exact ⟨p, List.mem_cons_of_mem _ hpm, h3⟩
theorem nbs_pw : ∀ {xs : List Int}, xs.Pairwise (· < ·) → (nbs xs).Pairwise (fun p q => p.2 ≤ q.1)
 | [], _ => List.Pairwise.nil
 | [x], _ => List.Pairwise.nil
 | x :: y :: l, hp => by
  have hp' := (List.pairwise_cons.1 hp).2
  rw [nbs_two]
  refine List.pairwise_cons.2 ⟨fun q hq => ?_, nbs_pw hp'⟩
  have := (nbs_mem hp' q hq).1
  rcases List.mem_cons.1 this with e | this
  ·rw [e]; exact Int.le_refl _
  ·exact Int.le_of_lt ((List.pairwise_cons.1 hp').1 _ this)
def tt (l : List S48) (c : Int) : Nat := l.countP (fun r => decide (r.f0 ≤ c)) + l.countP (fun r => decide (r.f2 ≤ c))
theorem tt_le {c c' : Int} (h : c ≤ c') : ∀ l : List S48, tt l c ≤ tt l c'
 | [] => Nat.le_refl _
 | r :: l => by
  have ih := tt_le h l
  unfold tt at ih ⊢
  simp only [List.countP_cons, decide_eq_true_eq]
  have e1 : (if r.f0 ≤ c then 1 else 0) ≤ (if r.f0 ≤ c' then 1 else 0) := by split <;> split <;> omega
  have e2 : (if r.f2 ≤ c then 1 else 0) ≤ (if r.f2 ≤ c' then 1 else 0) := by split <;> split <;> omega
  omega
theorem tt_lt {c c' : Int} (h : c ≤ c') : ∀ l : List S48, (∃ r ∈ l, (c < r.f0 ∧ r.f0 ≤ c') ∨ (c < r.f2 ∧ r.f2 ≤ c')) → tt l c < tt l c'
 | [], ⟨r, hr, _⟩ => by cases hr
 | s :: l, ⟨r, hr, hh⟩ => by
  have e1 : (if s.f0 ≤ c then 1 else 0) ≤ (if s.f0 ≤ c' then 1 else 0) := by split <;> split <;> omega
  have e2 : (if s.f2 ≤ c then 1 else 0) ≤ (if s.f2 ≤ c' then 1 else 0) := by split <;> split <;> omega
  rcases List.mem_cons.1 hr with rfl | hr
  ·have ih := tt_le h l
   unfold tt at ih ⊢
   simp only [List.countP_cons, decide_eq_true_eq]
   rcases hh with hh | hh
   ·have a : (if r.f0 ≤ c then 1 else 0) = 0 := if_neg (by omega)
    have b : (if r.f0 ≤ c' then 1 else 0) = 1 := if_pos (by omega)
    omega
   ·have a : (if r.f2 ≤ c then 1 else 0) = 0 := if_neg (by omega)
    have b : (if r.f2 ≤ c' then 1 else 0) = 1 := if_pos (by omega)
    omega
  ·have ih := tt_lt h l ⟨r, hr, hh⟩
   unfold tt at ih ⊢
   simp only [List.countP_cons, decide_eq_true_eq]
   omega
theorem act_cnt {c d : Int} (h : c < d) : ∀ {l : List S48}, (∀ r ∈ l, isR r = true) → l.countP (act c d) + l.countP (fun r => decide (r.f2 ≤ c)) ≤ l.countP (fun r => decide (r.f0 ≤ c))
 | [], _ => Nat.le_refl _
 | r :: l, hl => by
  have ih := act_cnt h (l := l) (fun s hs => hl s (List.mem_cons_of_mem _ hs))
  have br := isR_bd (hl r (List.mem_cons_self ..))
  simp only [List.countP_cons, decide_eq_true_eq, act_iff]
  have e1 : (if r.f0 ≤ c ∧ d ≤ r.f2 then 1 else 0) + (if r.f2 ≤ c then 1 else 0) ≤ (if r.f0 ≤ c then 1 else 0) := by
   split <;> split <;> split <;> omega
  omega
theorem act_bd {c d : Int} (h : c < d) {l : List S48} (hl : ∀ r ∈ l, isR r = true) (hn : l.length ≤ 32) : l.countP (act c d) ≤ min (tt l c) (64 - tt l c) := by
 have a := act_cnt h hl
 have b : l.countP (fun r => decide (r.f0 ≤ c)) ≤ l.length := List.countP_le_length
 unfold tt
 omega
def GG : Nat → Nat
 | 0 => 0
 | n + 1 => GG n + min n (64 - n)
theorem GG_high : ∀ n, GG (64 + n) = 1024
 | 0 => by decide
 | n + 1 => by
  show GG (64 + n) + min (64 + n) (64 - (64 + n)) = 1024
  rw [GG_high n]; omega
theorem GG_le (n : Nat) : GG n ≤ 1024 := by
 rcases Nat.lt_or_ge n 64 with h | h
 ·have : ∀ m, m < 64 → GG m ≤ 1024 := by decide
  exact this n h
 ·have := GG_high (n - 64)
  rw [show 64 + (n - 64) = n by omega] at this
  omega
theorem GG_mono {a b : Nat} (h : a ≤ b) : GG a ≤ GG b := by
 induction b with
 | zero =>
  obtain rfl : a = 0 := by omega
  exact Nat.le_refl _
 | succ b ih =>
  rcases Nat.lt_or_ge b a with h' | h'
  ·obtain rfl : a = b + 1 := by omega
   exact Nat.le_refl _
  ·have := ih h'
   show GG a ≤ GG b + min b (64 - b)
   omega
theorem sum_bd (A t : Int × Int → Nat) : ∀ (ps : List (Int × Int)), ps.Pairwise (fun p q => t p < t q) → (∀ p ∈ ps, A p ≤ min (t p) (64 - t p)) → ∀ a : Nat, (∀ p ∈ ps, a ≤ t p) → (ps.map A).sum + GG a ≤ 1024
 | [], _, _, a, _ => by simpa using GG_le a
 | p :: ps, hp, hA, a, ha => by
  obtain ⟨h1, h2⟩ := List.pairwise_cons.1 hp
  have ih := sum_bd A t ps h2 (fun q hq => hA q (List.mem_cons_of_mem _ hq)) (t p + 1) (fun q hq => h1 q hq)
  have hb := hA p (List.mem_cons_self ..)
  have hm := GG_mono (ha p (List.mem_cons_self ..))
  have e : GG (t p + 1) = GG (t p) + min (t p) (64 - t p) := rfl
  rw [List.map_cons, List.sum_cons]
  omega
theorem div_len {l b : List S48} (hl : ∀ r ∈ l, isR r = true) (hn : l.length ≤ 32) (hb : b.Perm l) (hs : b.Pairwise (fun a b => a.f1 ≤ b.f1)) : (divL (linesX l) b).length ≤ 1024 := by
 have hbr : ∀ r ∈ b, isR r = true := fun r hr => hl r (hb.mem_iff.1 hr)
 unfold divL
 rw [List.length_flatMap]
 have hpw := nbs_pw (linesX_lt l)
 have key := sum_bd (fun p => (strip p.1 p.2 b).reverse.length) (fun p => tt l p.1) (nbs (linesX l)) ?_ ?_ 0 (fun _ _ => Nat.zero_le _)
 ·have : GG 0 = 0 := rfl
  omega
 ·refine hpw.imp_of_mem fun {p q} hp hq hpq => ?_
  have a := nbs_mem (linesX_lt l) p hp
  have m := (linesX_mem l p.2).1 a.2.1
  unfold allX at m
  obtain ⟨r, hr, hm⟩ := List.mem_flatMap.1 m
  refine tt_lt (by omega) l ⟨r, hr, ?_⟩
  simp only [List.mem_cons, List.not_mem_nil, or_false] at hm
  omega
 ·intro p hp
  have a := nbs_mem (linesX_lt l) p hp
  have c := (strip_si (c := p.1) (d := p.2) hbr hs).cnt
  rw [hb.countP_eq] at c
  have d := act_bd a.2.2.1 hl hn
  rw [List.length_reverse]
  omega
theorem div_mem {xs : List Int} {b : List S48} {q : S48} (h : q ∈ divL xs b) : ∃ p ∈ nbs xs, q ∈ strip p.1 p.2 b := by
 obtain ⟨p, hp, hq⟩ := List.mem_flatMap.1 h
 exact ⟨p, hp, List.mem_reverse.1 hq⟩
theorem div_rect {l b : List S48} (hl : ∀ r ∈ l, isR r = true) (hb : b.Perm l) (hs : b.Pairwise (fun a b => a.f1 ≤ b.f1)) : ∀ q ∈ divL (linesX l) b, isR q = true := by
 intro q hq
 have hbr : ∀ r ∈ b, isR r = true := fun r hr => hl r (hb.mem_iff.1 hr)
 obtain ⟨p, hp, hq⟩ := div_mem hq
 have a := nbs_mem (linesX_lt l) p hp
 have c := (strip_si (c := p.1) (d := p.2) hbr hs).rect q hq
 have b1 := lineX_bd hl p.1 a.1
 have b2 := lineX_bd hl p.2 a.2.1
 simp only [isR, inC, Bool.and_eq_true, decide_eq_true_eq]
 omega
theorem div_dis {l b : List S48} (hl : ∀ r ∈ l, isR r = true) (hb : b.Perm l) (hs : b.Pairwise (fun a b => a.f1 ≤ b.f1)) : (divL (linesX l) b).Pairwise fun b a => ¬ over a b := by
 have hbr : ∀ r ∈ b, isR r = true := fun r hr => hl r (hb.mem_iff.1 hr)
 unfold divL
 rw [List.pairwise_flatMap]
 refine ⟨fun p hp => ?_, (nbs_pw (linesX_lt l)).imp_of_mem fun {p q} hp hq hpq x hx y hy => ?_⟩
 ·rw [List.pairwise_reverse]
  refine (strip_si (c := p.1) (d := p.2) hbr hs).sep.imp fun {a c} hac ho => ?_
  unfold over mx mn at ho
  obtain ⟨_, ho⟩ := ho
  split at ho <;> split at ho <;> omega
 ·have c := (strip_si (c := p.1) (d := p.2) hbr hs).rect x (List.mem_reverse.1 hx)
  have d := (strip_si (c := q.1) (d := q.2) hbr hs).rect y (List.mem_reverse.1 hy)
  rintro ⟨ho, _⟩
  unfold mx mn at ho
  split at ho <;> split at ho <;> omega
theorem div_cov {l b : List S48} (hl : ∀ r ∈ l, isR r = true) (hb : b.Perm l) (hs : b.Pairwise (fun a b => a.f1 ≤ b.f1)) (x y : Int) : (∃ q ∈ divL (linesX l) b, covers q x y = true) ↔ ∃ r ∈ l, covers r x y = true := by
 have hbr : ∀ r ∈ b, isR r = true := fun r hr => hl r (hb.mem_iff.1 hr)
 constructor
 ·rintro ⟨q, hq, hc⟩
  obtain ⟨p, hp, hq⟩ := div_mem hq
  have si := strip_si (c := p.1) (d := p.2) hbr hs
  have c := si.rect q hq
  have hc' := (covers_iff _ _ _).1 hc
  obtain ⟨r, hr, h1, h2⟩ := (si.cov y).1 ⟨q, hq, by omega⟩
  rw [act_iff] at h1
  exact ⟨r, hb.mem_iff.1 hr, (covers_iff _ _ _).2 (by omega)⟩
 ·rintro ⟨r, hr, hc⟩
  have c := (covers_iff _ _ _).1 hc
  have hx := allX_in l hr
  obtain ⟨p, hp, h1, h2⟩ := nbs_find (linesX_lt l) x ⟨r.f0, hx.1, by omega⟩ ⟨r.f2, hx.2, by omega⟩
  have a := nbs_mem (linesX_lt l) p hp
  have a1 := a.2.2.2 r.f0 hx.1 (by omega)
  have a2 : p.2 ≤ r.f2 := by
   rcases Int.lt_or_le r.f2 p.2 with h | h
   ·have := a.2.2.2 r.f2 hx.2 h; omega
   ·exact h
  have si := strip_si (c := p.1) (d := p.2) hbr hs
  obtain ⟨q, hq, h3⟩ := (si.cov y).2 ⟨r, hb.mem_iff.2 hr, act_iff.2 ⟨a1, a2⟩, by omega⟩
  have cq := si.rect q hq
  exact ⟨q, List.mem_flatMap.2 ⟨p, hp, List.mem_reverse.2 hq⟩, (covers_iff _ _ _).2 (by omega)⟩
theorem div_are {l b : List S48} (hl : ∀ r ∈ l, isR r = true) (hn : l.length ≤ 32) (hb : b.Perm l) (hs : b.Pairwise (fun a b => a.f1 ≤ b.f1)) : areRs (divL (linesX l) b) 1024 = true := by
 have := div_len hl hn hb hs
 unfold areRs
 rw [decide_eq_true (by omega), Bool.true_and, List.all_eq_true]
 exact div_rect hl hb hs
theorem div_look {l b : List S48} (hl : ∀ r ∈ l, isR r = true) (hb : b.Perm l) (hs : b.Pairwise (fun a b => a.f1 ≤ b.f1)) : Look l (divL (linesX l) b) := by
 intro x _ y _
 refine ⟨depth_le_one (div_dis hl hb hs) x y, ?_⟩
 rw [depth_pos, depth_pos]
 exact (div_cov hl hb hs x y).symm
end Go.Proofs.Ytplhfbkejngioaa.X
