/- Partitions, plain: what the reference asks for is what the program looks at. Texts of this claim's session, put together: Cells, Cells2, Cells3, Part. -/
import Derived.Test.YtplhfbkejngioaaBc11
import Derived.Test.YtplhfbkejngioaaVWords
import Derived.Test.YtplhfbkejngioaaVLast
import Derived.Test.YtplhfbkejngioaaVRepsOne
namespace Go.Proofs.Ytplhfbkejngioaa.X
open Go.RowKit Go.Proofs.YtplhfbkejngioaaW.PrintWords Go.Proofs.YtplhfbkejngioaaW.PrintLast Go.Proofs.Ytplhfbkejngioaa.S
set_option linter.unusedVariables false
set_option linter.unusedSimpArgs false
def I (a : Int) (n : Nat) (F : Int → Int) : Int := X.S n fun k => F (a + (k : Int))
theorem I_zero (a : Int) (F : Int → Int) : I a 0 F = 0 := rfl
theorem I_succ (a : Int) (n : Nat) (F : Int → Int) : I a (n + 1) F = I a n F + F (a + (n : Int)) := X.S_succ _ _
theorem I_congr {a : Int} {n : Nat} {F G : Int → Int} (h : ∀ z, a ≤ z → z < a + (n : Int) → F z = G z) : I a n F = I a n G :=
 X.S_congr fun i hi => h _ (by omega) (by omega)
theorem I_add (a : Int) (n m : Nat) (F : Int → Int) : I a (n + m) F = I a n F + I (a + (n : Int)) m F := by
 induction m with
 | zero => rw [I_zero, Nat.add_zero, Int.add_zero]
 | succ m ih =>
  have e : a + ((n + m : Nat) : Int) = a + (n : Int) + (m : Int) := by omega
  rw [← Nat.add_assoc, I_succ, ih, I_succ, e]; omega
theorem I_plus (a : Int) (n : Nat) (F G : Int → Int) : I a n (fun z => F z + G z) = I a n F + I a n G := by
 induction n with
 | zero => rfl
 | succ n ih => rw [I_succ, I_succ, I_succ, ih]; omega
theorem I_nil {a : Int} {n : Nat} {F : Int → Int} (h : ∀ z, a ≤ z → z < a + (n : Int) → F z = 0) : I a n F = 0 := by
 induction n with
 | zero => rfl
 | succ n ih => rw [I_succ, ih (fun z h1 h2 => h z h1 (by omega)), h _ (by omega) (by omega)]; rfl
theorem I_const {a : Int} {n : Nat} {F : Int → Int} {v : Int} (h : ∀ z, a ≤ z → z < a + (n : Int) → F z = v) : I a n F = (n : Int) * v := by
 induction n with
 | zero => simp [I_zero]
 | succ n ih =>
  rw [I_succ, ih (fun z h1 h2 => h z h1 (by omega)), h _ (by omega) (by omega)]
  have : ((n + 1 : Nat) : Int) * v = (n : Int) * v + v := by rw [Int.natCast_add, Int.add_mul]; omega
  omega
theorem I_le {a : Int} {n : Nat} {F G : Int → Int} (h : ∀ z, a ≤ z → z < a + (n : Int) → F z ≤ G z) : I a n F ≤ I a n G := by
 induction n with
 | zero => exact Int.le_refl _
 | succ n ih =>
  have := ih (fun z h1 h2 => h z h1 (by omega))
  have := h (a + (n : Int)) (by omega) (by omega)
  rw [I_succ, I_succ]; omega
theorem I_eq_of {a : Int} {n : Nat} {F G : Int → Int} (h : ∀ z, a ≤ z → z < a + (n : Int) → F z ≤ G z) (e : I a n F = I a n G) : ∀ z, a ≤ z → z < a + (n : Int) → F z = G z := by
 induction n with
 | zero => intro z h1 h2; omega
 | succ n ih =>
  intro z h1 h2
  have l1 := I_le (a := a) (n := n) (F := F) (G := G) (fun z h1 h2 => h z h1 (by omega))
  have l2 := h (a + (n : Int)) (by omega) (by omega)
  rw [I_succ, I_succ] at e
  by_cases hz : z < a + (n : Int)
  ·exact ih (fun z h1 h2 => h z h1 (by omega)) (by omega) z h1 hz
  ·obtain rfl : z = a + (n : Int) := by omega
   omega
theorem nbs_two (x y : Int) (l : List Int) : nbs (x :: y :: l) = (x, y) :: nbs (y :: l) := rfl
theorem nbs_one (x : Int) : nbs [x] = [] := rfl
theorem blocks_from (F : Int → Int) (B : Int) : ∀ (xs : List Int) (x : Int), (x :: xs).Pairwise (· < ·) → (∀ w ∈ x :: xs, w ≤ B) →
  (∀ z z', x ≤ z → z ≤ z' → (∀ w ∈ x :: xs, w ≤ z' → w ≤ z) → F z' = F z) → (∀ z, (∀ w ∈ x :: xs, w ≤ z) → F z = 0) →
  sumL ((nbs (x :: xs)).map fun p => (p.2 - p.1) * F p.1) = I x (B - x).toNat F
 | [], x, hp, hB, hc, h0 => by
  rw [nbs_one]
  exact (I_nil fun z h1 h2 => h0 z fun w hw => by rw [List.mem_singleton.1 hw]; exact h1).symm
 | y :: ys, x, hp, hB, hc, h0 => by
  have hp' := (List.pairwise_cons.1 hp).2
  have hx := (List.pairwise_cons.1 hp).1
  have hxy := hx y (List.mem_cons_self ..)
  have hyl : ∀ w ∈ y :: ys, y ≤ w := fun w hw => by
   rcases List.mem_cons.1 hw with rfl | hw
   ·exact Int.le_refl _
   ·exact Int.le_of_lt ((List.pairwise_cons.1 hp').1 w hw)
  have ih := blocks_from F B ys y hp' (fun w hw => hB w (List.mem_cons_of_mem _ hw)) (fun z z' h1 h2 h3 => hc z z' (by omega) h2 fun w hw hwz => by
   rcases List.mem_cons.1 hw with rfl | hw
   ·omega
   ·exact h3 w hw hwz) (fun z hz => h0 z fun w hw => by
   rcases List.mem_cons.1 hw with rfl | hw
   ·have := hz y (List.mem_cons_self ..); omega
   ·exact hz w hw)
  have hyB := hB y (List.mem_cons_of_mem _ (List.mem_cons_self ..))
  have e : (B - x).toNat = (y - x).toNat + (B - y).toNat := by omega
  have e2 : x + ((y - x).toNat : Int) = y := by omega
  rw [nbs_two, List.map_cons, e, I_add, e2, ← ih]
  have e3 : I x (y - x).toNat F = ((y - x).toNat : Int) * F x := I_const fun z h1 h2 => hc x z (Int.le_refl _) h1 fun w hw hwz => by
   rcases List.mem_cons.1 hw with rfl | hw
   ·exact Int.le_refl _
   ·have := hyl w hw; omega
  have e4 : ((y - x).toNat : Int) = y - x := by omega
  rw [e3, e4]
  rfl
structure Blk (xs : List Int) (F : Int → Int) : Prop where
 const : ∀ z z', z ≤ z' → (∀ w ∈ xs, w ≤ z' → w ≤ z) → F z' = F z
 low : ∀ z, (∀ w ∈ xs, z < w) → F z = 0
 high : ∀ z, (∀ w ∈ xs, w ≤ z) → F z = 0
theorem blocks {xs : List Int} {F : Int → Int} (hp : xs.Pairwise (· < ·)) (hb : ∀ w ∈ xs, -256 ≤ w ∧ w ≤ 256) (h : Blk xs F) :
  sumL ((nbs xs).map fun p => (p.2 - p.1) * F p.1) = I (-256) 512 F := by
 cases xs with
 | nil => exact (I_nil fun z _ _ => h.low z fun w hw => by cases hw).symm
 | cons x xs =>
  have bx := hb x (List.mem_cons_self ..)
  rw [blocks_from F 256 xs x hp (fun w hw => (hb w hw).2) (fun z z' _ h2 h3 => h.const z z' h2 h3) h.high]
  have e : 512 = (x + 256).toNat + (256 - x).toNat := by omega
  have e2 : -256 + ((x + 256).toNat : Int) = x := by omega
  rw [e, I_add, e2]
  have z0 : I (-256) (x + 256).toNat F = 0 := I_nil fun z h1 h2 => h.low z fun w hw => by
   rcases List.mem_cons.1 hw with rfl | hw
   ·omega
   ·have := (List.pairwise_cons.1 hp).1 w hw; omega
  rw [z0]; omega
theorem covers_iff (r : S48) (x y : Int) : covers r x y = true ↔ r.f0 ≤ x ∧ x < r.f2 ∧ r.f1 ≤ y ∧ y < r.f3 := by
 unfold covers; simp only [Bool.and_eq_true, decide_eq_true_eq]; omega
theorem mem_lineX {l : List S48} {r : S48} (h : r ∈ l) : r.f0 ∈ linesX l ∧ r.f2 ∈ linesX l := by
 constructor <;> rw [linesX_mem] <;> unfold allX <;> rw [List.mem_flatMap] <;> exact ⟨r, h, by simp⟩
theorem mem_lineY {l : List S48} {r : S48} (h : r ∈ l) : r.f1 ∈ linesY l ∧ r.f3 ∈ linesY l := by
 constructor <;> rw [linesY_mem] <;> unfold allY <;> rw [List.mem_flatMap] <;> exact ⟨r, h, by simp⟩
theorem covers_eq {r : S48} {x y x' y' : Int} (h : (r.f0 ≤ x ∧ x < r.f2 ∧ r.f1 ≤ y ∧ y < r.f3) ↔ (r.f0 ≤ x' ∧ x' < r.f2 ∧ r.f1 ≤ y' ∧ y' < r.f3)) : covers r x y = covers r x' y' := by
 rw [Bool.eq_iff_iff, covers_iff, covers_iff]; exact h
theorem depth_none {l : List S48} {x y : Int} (h : ∀ r ∈ l, ¬ (r.f0 ≤ x ∧ x < r.f2 ∧ r.f1 ≤ y ∧ y < r.f3)) : depthL l x y = 0 := by
 rw [← pos_not, depth_pos]
 rintro ⟨r, hr, hc⟩
 exact h r hr ((covers_iff r x y).1 hc)
theorem blkX {l : List S48} (y : Int) (f : Int → Int) (h0 : f 0 = 0) : Blk (linesX l) fun x => f (depthL l x y) := by
 refine ⟨fun z z' h1 h2 => ?_, fun z hz => ?_, fun z hz => ?_⟩
 ·rw [depth_congr (l := l) (x := z') (y := y) (x' := z) (y' := y)]
  intro r hr
  obtain ⟨m1, m2⟩ := mem_lineX hr
  have a := h2 _ m1
  have b := h2 _ m2
  exact covers_eq (by omega)
 ·show f (depthL l _ _) = 0
  rw [depth_none, h0]
  intro r hr
  have := hz _ (mem_lineX hr).1
  omega
 ·show f (depthL l _ _) = 0
  rw [depth_none, h0]
  intro r hr
  have := hz _ (mem_lineX hr).2
  omega
theorem blkY {l : List S48} (x : Int) (f : Int → Int) (h0 : f 0 = 0) : Blk (linesY l) fun y => f (depthL l x y) := by
 refine ⟨fun z z' h1 h2 => ?_, fun z hz => ?_, fun z hz => ?_⟩
 ·rw [depth_congr (l := l) (x := x) (y := z') (x' := x) (y' := z)]
  intro r hr
  obtain ⟨m1, m2⟩ := mem_lineY hr
  have a := h2 _ m1
  have b := h2 _ m2
  exact covers_eq (by omega)
 ·show f (depthL l _ _) = 0
  rw [depth_none, h0]
  intro r hr
  have := hz _ (mem_lineY hr).1
  omega
 ·show f (depthL l _ _) = 0
  rw [depth_none, h0]
  intro r hr
  have := hz _ (mem_lineY hr).2
  omega
theorem lineX_bd {l : List S48} (h : ∀ r ∈ l, isR r = true) : ∀ w ∈ linesX l, -256 ≤ w ∧ w ≤ 256 := by
 intro w hw
 rw [linesX_mem] at hw
 unfold allX at hw
 obtain ⟨r, hr, hw⟩ := List.mem_flatMap.1 hw
 have := isR_bd (h r hr)
 simp at hw
 rcases hw with rfl | rfl <;> omega
theorem lineY_bd {l : List S48} (h : ∀ r ∈ l, isR r = true) : ∀ w ∈ linesY l, -256 ≤ w ∧ w ≤ 256 := by
 intro w hw
 rw [linesY_mem] at hw
 unfold allY at hw
 obtain ⟨r, hr, hw⟩ := List.mem_flatMap.1 hw
 have := isR_bd (h r hr)
 simp at hw
 rcases hw with rfl | rfl <;> omega
theorem sumL_mul (c : Int) : ∀ (l : List (Int × Int)) (g : Int × Int → Int), sumL (l.map fun y => c * g y) = c * sumL (l.map g)
 | [], g => by simp [sumL]
 | y :: l, g => by
  have := sumL_mul c l g
  simp only [List.map_cons, sumL, List.foldr_cons] at this ⊢
  rw [this, Int.mul_add]
theorem sumL_congr {l : List (Int × Int)} {g g' : Int × Int → Int} (h : ∀ y ∈ l, g y = g' y) : sumL (l.map g) = sumL (l.map g') := by rw [List.map_congr_left h]
def one (d : Int) : Int := if 0 < d then 1 else 0
def cells (l : List S48) : Int := I (-256) 512 fun x => I (-256) 512 fun y => one (depthL l x y)
theorem area_cells {l : List S48} (h : ∀ r ∈ l, isR r = true) : areaL l = cells l := by
 have hY := blocks (linesY_lt l) (lineY_bd h) (F := fun y => one (depthL l 0 y))
 unfold areaL cells
 have inner : ∀ x : Int × Int, sumL ((nbs (linesY l)).map fun y => if 0 < depthL l x.1 y.1 then (x.2 - x.1) * (y.2 - y.1) else 0) = (x.2 - x.1) * I (-256) 512 fun y => one (depthL l x.1 y) := by
  intro x
  rw [← blocks (linesY_lt l) (lineY_bd h) (blkY x.1 one rfl), ← sumL_mul]
  refine sumL_congr fun y _ => ?_
  unfold one
  split
  ·rw [Int.mul_one]
  ·rw [Int.mul_zero, Int.mul_zero]
 rw [sumL_congr fun x _ => inner x]
 refine blocks (F := fun x => I (-256) 512 fun y => one (depthL l x y)) (linesX_lt l) (lineX_bd h) ⟨fun z z' h1 h2 => ?_, fun z hz => ?_, fun z hz => ?_⟩
 ·show I (-256) 512 (fun y => one (depthL l z' y)) = I (-256) 512 (fun y => one (depthL l z y))
  exact I_congr (fun y _ _ => (blkX y one rfl).const z z' h1 h2)
 ·show I (-256) 512 (fun y => one (depthL l z y)) = 0
  exact I_nil (fun y _ _ => (blkX y one rfl).low z hz)
 ·show I (-256) 512 (fun y => one (depthL l z y)) = 0
  exact I_nil (fun y _ _ => (blkX y one rfl).high z hz)
end Go.Proofs.Ytplhfbkejngioaa.X
namespace Go.Proofs.Ytplhfbkejngioaa.X
open Go.RowKit Go.Proofs.YtplhfbkejngioaaW.PrintWords Go.Proofs.YtplhfbkejngioaaW.PrintLast Go.Proofs.Ytplhfbkejngioaa.S
set_option linter.unusedVariables false
set_option linter.unusedSimpArgs false
theorem depth_at {l : List S48} {z z' : Int} (h1 : z ≤ z') (h2 : ∀ w ∈ linesX l, w ≤ z' → w ≤ z) (y : Int) : depthL l z' y = depthL l z y := (blkX (l := l) y id rfl).const z z' h1 h2
end Go.Proofs.Ytplhfbkejngioaa.X
namespace Go.Proofs.Ytplhfbkejngioaa.X
open Go.RowKit Go.Proofs.YtplhfbkejngioaaW.PrintWords Go.Proofs.YtplhfbkejngioaaW.PrintLast Go.Proofs.Ytplhfbkejngioaa.S
set_option linter.unusedVariables false
set_option linter.unusedSimpArgs false
theorem depth_nn (l : List S48) (x y : Int) : 0 ≤ depthL l x y := (depthL_range l x y).1
theorem depth_outX {l : List S48} (h : ∀ r ∈ l, isR r = true) {x : Int} (hx : x < -256 ∨ 256 ≤ x) (y : Int) : depthL l x y = 0 := by
 refine depth_none fun r hr => ?_
 have := isR_bd (h r hr)
 omega
theorem depth_outY {l : List S48} (h : ∀ r ∈ l, isR r = true) (x : Int) {y : Int} (hy : y < -256 ∨ 256 ≤ y) : depthL l x y = 0 := by
 refine depth_none fun r hr => ?_
 have := isR_bd (h r hr)
 omega
theorem depth_append (l m : List S48) (x y : Int) : depthL (l ++ m) x y = depthL l x y + depthL m x y := by
 unfold depthL; rw [List.filter_append, List.length_append]; omega
theorem depth_cons (r : S48) (l : List S48) (x y : Int) : depthL (r :: l) x y = (if covers r x y = true then 1 else 0) + depthL l x y := by
 unfold depthL
 rw [List.filter_cons]
 split
 ·rw [List.length_cons]; omega
 ·omega
def size (r : S48) : Int := (r.f2 - r.f0) * (r.f3 - r.f1)
def sizes (l : List S48) : Int := sumL (l.map size)
theorem I_range {a b v : Int} (h0 : -256 ≤ a) (h1 : a ≤ b) (h2 : b ≤ 256) (F : Int → Int) (hin : ∀ z, a ≤ z → z < b → F z = v) (hout : ∀ z, ¬ (a ≤ z ∧ z < b) → F z = 0) : I (-256) 512 F = (b - a) * v := by
 have e : 512 = (a + 256).toNat + (b - a).toNat + (256 - b).toNat := by omega
 have e2 : -256 + ((a + 256).toNat : Int) = a := by omega
 have e3 : -256 + (((a + 256).toNat + (b - a).toNat : Nat) : Int) = b := by omega
 rw [e, I_add, I_add, e2, e3, I_nil (a := -256) (fun z h1 h2 => hout z (by omega)), I_const (a := a) (fun z h1 h2 => hin z h1 (by omega)), I_nil (a := b) (fun z h1 h2 => hout z (by omega))]
 have e4 : ((b - a).toNat : Int) = b - a := by omega
 rw [e4]; omega
theorem size_cells {r : S48} (h : isR r = true) : (I (-256) 512 fun x => I (-256) 512 fun y => if covers r x y = true then 1 else 0) = size r := by
 have b := isR_bd h
 unfold size
 refine I_range (a := r.f0) (b := r.f2) (v := r.f3 - r.f1) (by omega) (by omega) (by omega) _ (fun x h1 h2 => ?_) (fun x hx => ?_)
 ·rw [← Int.mul_one (r.f3 - r.f1)]
  refine I_range (a := r.f1) (b := r.f3) (v := 1) (by omega) (by omega) (by omega) _ (fun y h3 h4 => ?_) (fun y hy => ?_)
  ·exact if_pos ((covers_iff r x y).2 (by omega))
  ·exact if_neg fun hc => by have := (covers_iff r x y).1 hc; omega
 ·exact I_nil fun y _ _ => if_neg fun hc => by have := (covers_iff r x y).1 hc; omega
theorem sizes_cells : ∀ {l : List S48}, (∀ r ∈ l, isR r = true) → sizes l = I (-256) 512 fun x => I (-256) 512 fun y => depthL l x y
 | [], _ => (I_nil fun _ _ _ => I_nil fun _ _ _ => rfl).symm
 | r :: l, h => by
  have ih := sizes_cells (l := l) (fun q hq => h q (List.mem_cons_of_mem _ hq))
  have e : sizes (r :: l) = size r + sizes l := rfl
  rw [e, ih, ← size_cells (h r (List.mem_cons_self ..)), ← I_plus]
  refine I_congr fun x _ _ => ?_
  rw [← I_plus]
  exact I_congr fun y _ _ => (depth_cons r l x y).symm
structure Dp (l : List S48) (b : Int × Int × Int) : Prop where
 nn : 0 ≤ b.1
 at' : b = (0, 0, 0) ∨ depthL l b.2.1 b.2.2 = b.1
theorem Dp.step {l : List S48} {b : Int × Int × Int} (h : Dp l b) (x y : Int) : Dp l (deepStep l b x y) ∧ b.1 ≤ (deepStep l b x y).1 ∧ depthL l x y ≤ (deepStep l b x y).1 := by
 unfold deepStep
 have := h.nn
 by_cases hc : depthL l x y > b.1
 ·rw [if_pos hc]
  exact ⟨⟨by simp only; omega, Or.inr rfl⟩, by simp only; omega, Int.le_refl _⟩
 ·rw [if_neg hc]
  exact ⟨h, Int.le_refl _, by omega⟩
theorem line_below : ∀ (xs : List Int) (z : Int), (∃ w ∈ xs, w ≤ z) → ∃ w ∈ xs, w ≤ z ∧ ∀ v ∈ xs, v ≤ z → v ≤ w
 | [], z, ⟨w, hw, _⟩ => by cases hw
 | x :: xs, z, h => by
  by_cases ht : ∃ w ∈ xs, w ≤ z
  ·obtain ⟨w, hw, h1, h2⟩ := line_below xs z ht
   by_cases hx : x ≤ z ∧ w < x
   ·refine ⟨x, List.mem_cons_self .., hx.1, fun v hv hvz => ?_⟩
    rcases List.mem_cons.1 hv with rfl | hv
    ·exact Int.le_refl _
    ·have := h2 v hv hvz; omega
   ·refine ⟨w, List.mem_cons_of_mem _ hw, h1, fun v hv hvz => ?_⟩
    rcases List.mem_cons.1 hv with rfl | hv
    ·omega
    ·exact h2 v hv hvz
  ·obtain ⟨w, hw, hz⟩ := h
   rcases List.mem_cons.1 hw with rfl | hw
   ·refine ⟨w, List.mem_cons_self .., hz, fun v hv hvz => ?_⟩
    rcases List.mem_cons.1 hv with rfl | hv
    ·exact Int.le_refl _
    ·exact absurd ⟨v, hv, hvz⟩ ht
   ·exact absurd ⟨w, hw, hz⟩ ht
end Go.Proofs.Ytplhfbkejngioaa.X
namespace Go.Proofs.Ytplhfbkejngioaa.X
open Go.RowKit Go.Proofs.YtplhfbkejngioaaW.PrintWords Go.Proofs.YtplhfbkejngioaaW.PrintLast Go.Proofs.Ytplhfbkejngioaa.S
set_option linter.unusedVariables false
set_option linter.unusedSimpArgs false
def over (a b : S48) : Prop := mx a.f0 b.f0 < mn a.f2 b.f2 ∧ mx a.f1 b.f1 < mn a.f3 b.f3
theorem over_cell {a b : S48} {x y : Int} (ha : covers a x y = true) (hb : covers b x y = true) : over a b := by
 rw [covers_iff] at ha hb
 unfold over mx mn
 constructor <;> split <;> split <;> omega
theorem cell_over {a b : S48} (h : over a b) : covers a (mx a.f0 b.f0) (mx a.f1 b.f1) = true ∧ covers b (mx a.f0 b.f0) (mx a.f1 b.f1) = true := by
 obtain ⟨h1, h2⟩ := h
 have e : ∀ u v : Int, u ≤ mx u v ∧ v ≤ mx u v := fun u v => by unfold mx; split <;> omega
 have e' : ∀ u v : Int, mn u v ≤ u ∧ mn u v ≤ v := fun u v => by unfold mn; split <;> omega
 have a1 := e a.f0 b.f0
 have a2 := e a.f1 b.f1
 have a3 := e' a.f2 b.f2
 have a4 := e' a.f3 b.f3
 rw [covers_iff, covers_iff]
 omega
structure Part (l p : List S48) : Prop where
 dis : p.Pairwise fun b a => ¬ over a b
 inn : ∀ a ∈ p, ∀ x y, covers a x y = true → depthL l x y ≠ 0
 sum : sizes p = areaL l
theorem depth_le_one : ∀ {p : List S48}, (p.Pairwise fun b a => ¬ over a b) → ∀ x y, depthL p x y ≤ 1
 | [], _, x, y => by have : depthL [] x y = 0 := rfl; omega
 | a :: p, h, x, y => by
  have h2 := List.pairwise_cons.1 h
  have ih := depth_le_one h2.2 x y
  rw [depth_cons]
  by_cases hc : covers a x y = true
  ·rw [if_pos hc]
   have : depthL p x y = 0 := by
    rw [← pos_not, depth_pos]
    rintro ⟨b, hb, hcb⟩
    exact h2.1 b hb (over_cell hcb hc)
   omega
  ·rw [if_neg hc]; omega
theorem dis_of_depth : ∀ {p : List S48}, (∀ x y, depthL p x y ≤ 1) → p.Pairwise fun b a => ¬ over a b
 | [], _ => List.Pairwise.nil
 | a :: p, h => by
  refine List.pairwise_cons.2 ⟨fun b hb ho => ?_, dis_of_depth fun x y => ?_⟩
  ·obtain ⟨c1, c2⟩ := cell_over ho
   have := h (mx b.f0 a.f0) (mx b.f1 a.f1)
   rw [depth_cons, if_pos c2] at this
   have : 0 < depthL p (mx b.f0 a.f0) (mx b.f1 a.f1) := depth_pos.2 ⟨b, hb, c1⟩
   omega
  ·have := h x y
   rw [depth_cons] at this
   split at this <;> omega
def Look (l p : List S48) : Prop := ∀ x ∈ linesX (l ++ p), ∀ y ∈ linesY (l ++ p), depthL p x y ≤ 1 ∧ (0 < depthL l x y ↔ 0 < depthL p x y)
theorem lines_sub {l p : List S48} : (∀ w ∈ linesX l, w ∈ linesX (l ++ p)) ∧ (∀ w ∈ linesX p, w ∈ linesX (l ++ p)) ∧ (∀ w ∈ linesY l, w ∈ linesY (l ++ p)) ∧ (∀ w ∈ linesY p, w ∈ linesY (l ++ p)) := by
 refine ⟨fun w hw => ?_, fun w hw => ?_, fun w hw => ?_, fun w hw => ?_⟩
 ·rw [linesX_mem] at hw ⊢; unfold allX at hw ⊢; rw [List.flatMap_append]; exact List.mem_append_left _ hw
 ·rw [linesX_mem] at hw ⊢; unfold allX at hw ⊢; rw [List.flatMap_append]; exact List.mem_append_right _ hw
 ·rw [linesY_mem] at hw ⊢; unfold allY at hw ⊢; rw [List.flatMap_append]; exact List.mem_append_left _ hw
 ·rw [linesY_mem] at hw ⊢; unfold allY at hw ⊢; rw [List.flatMap_append]; exact List.mem_append_right _ hw
theorem to_corner (l p : List S48) (x y : Int) : (depthL l x y = 0 ∧ depthL p x y = 0) ∨ ∃ x' ∈ linesX (l ++ p), ∃ y' ∈ linesY (l ++ p), depthL l x y = depthL l x' y' ∧ depthL p x y = depthL p x' y' := by
 obtain ⟨s1, s2, s3, s4⟩ := lines_sub (l := l) (p := p)
 by_cases hd : 0 < depthL (l ++ p) x y
 ·right
  obtain ⟨r, hr, hc⟩ := depth_pos.1 hd
  have c := (covers_iff r x y).1 hc
  obtain ⟨x', hx', a1, a2⟩ := line_below (linesX (l ++ p)) x ⟨r.f0, (mem_lineX hr).1, c.1⟩
  obtain ⟨y', hy', b1, b2⟩ := line_below (linesY (l ++ p)) y ⟨r.f1, (mem_lineY hr).1, c.2.2.1⟩
  refine ⟨x', hx', y', hy', ?_, ?_⟩
  ·rw [depth_at (l := l) a1 (fun w hw => a2 w (s1 w hw)) y]
   exact (blkY (l := l) x' id rfl).const y' y b1 (fun w hw => b2 w (s3 w hw))
  ·rw [depth_at (l := p) a1 (fun w hw => a2 w (s2 w hw)) y]
   exact (blkY (l := p) x' id rfl).const y' y b1 (fun w hw => b2 w (s4 w hw))
 ·left
  rw [depth_append] at hd
  have := depth_nn l x y
  have := depth_nn p x y
  omega
theorem look_all {l p : List S48} (h : Look l p) (x y : Int) : depthL p x y ≤ 1 ∧ (0 < depthL l x y ↔ 0 < depthL p x y) := by
 rcases to_corner l p x y with ⟨e1, e2⟩ | ⟨x', hx', y', hy', e1, e2⟩
 ·rw [e1, e2]; omega
 ·rw [e1, e2]; exact h x' hx' y' hy'
theorem part_iff {l p : List S48} (hl : ∀ r ∈ l, isR r = true) (hp : ∀ r ∈ p, isR r = true) : Part l p ↔ Look l p := by
 constructor
 ·intro h x _ y _
  have d1 := depth_le_one h.dis
  have inn : ∀ x y, 0 < depthL p x y → 0 < depthL l x y := fun x y hd => by
   obtain ⟨a, ha, hc⟩ := depth_pos.1 hd
   have := h.inn a ha x y hc
   have := depth_nn l x y
   omega
  have le : ∀ x y, depthL p x y ≤ one (depthL l x y) := fun x y => by
   have a := d1 x y
   have b := depth_nn p x y
   unfold one
   by_cases hd : 0 < depthL p x y
   ·rw [if_pos (inn x y hd)]; omega
   ·split <;> omega
  have eqs : (I (-256) 512 fun x => I (-256) 512 fun y => depthL p x y) = I (-256) 512 fun x => I (-256) 512 fun y => one (depthL l x y) := by
   rw [← sizes_cells hp, h.sum, area_cells hl]; rfl
  refine ⟨d1 x y, fun hd => ?_, inn x y⟩
  have bx : -256 ≤ x ∧ x < 256 := by
   refine ⟨Int.not_lt.1 fun hx => ?_, Int.not_le.1 fun hx => ?_⟩
   ·rw [depth_outX hl (Or.inl hx)] at hd; omega
   ·rw [depth_outX hl (Or.inr hx)] at hd; omega
  have by' : -256 ≤ y ∧ y < 256 := by
   refine ⟨Int.not_lt.1 fun hx => ?_, Int.not_le.1 fun hx => ?_⟩
   ·rw [depth_outY hl x (Or.inl hx)] at hd; omega
   ·rw [depth_outY hl x (Or.inr hx)] at hd; omega
  have r1 := I_eq_of (a := -256) (n := 512) (F := fun x => I (-256) 512 fun y => depthL p x y) (G := fun x => I (-256) 512 fun y => one (depthL l x y)) (fun x _ _ => I_le fun y _ _ => le x y) eqs x bx.1 (by omega)
  have r2 := I_eq_of (a := -256) (n := 512) (F := fun y => depthL p x y) (G := fun y => one (depthL l x y)) (fun y _ _ => le x y) r1 y by'.1 (by omega)
  unfold one at r2
  rw [if_pos hd] at r2
  omega
 ·intro h
  have a := look_all h
  refine ⟨dis_of_depth fun x y => (a x y).1, fun r hr x y hc => ?_, ?_⟩
  ·have : 0 < depthL p x y := depth_pos.2 ⟨r, hr, hc⟩
   have := (a x y).2.2 this
   omega
  ·rw [sizes_cells hp, area_cells hl]
   refine I_congr fun x _ _ => I_congr fun y _ _ => ?_
   have b := a x y
   have c := depth_nn p x y
   unfold one
   split
   ·have := b.2.1 (by assumption); omega
   ·have : ¬ 0 < depthL p x y := fun hd => by have := b.2.2 hd; omega
    omega
end Go.Proofs.Ytplhfbkejngioaa.X
