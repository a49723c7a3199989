/- Sums over the unit cells: rises and falls, lists put together, the deepest cell. Texts of this claim's session, put together: Cells, Cells2, Cells3. -/
import Derived.Test.YtplhfbkejngioaaBc11
import Derived.Test.YtplhfbkejngioaaVWords
import Derived.Test.YtplhfbkejngioaaVLast
import Derived.Test.YtplhfbkejngioaaVRepsOne
namespace Go.Proofs.Ytplhfbkejngioaa.X
open Go.RowKit Go.Proofs.YtplhfbkejngioaaW.PrintWords Go.Proofs.YtplhfbkejngioaaW.PrintLast Go.Proofs.Ytplhfbkejngioaa.S
set_option linter.unusedVariables false
set_option linter.unusedSimpArgs false
def I (a : Int) (n : Nat) (F : Int → Int) : Int := X.S n fun k => F (a + (k : Int))
theorem I_zero (a : Int) (F : Int → Int) : I a 0 F = 0 := rfl
theorem I_succ (a : Int) (n : Nat) (F : Int → Int) : I a (n + 1) F = I a n F + F (a + (n : Int)) := X.S_succ _ _
theorem I_congr {a : Int} {n : Nat} {F G : Int → Int} (h : ∀ z, a ≤ z → z < a + (n : Int) → F z = G z) : I a n F = I a n G :=
 X.S_congr fun i hi => h _ (by omega) (by omega)
theorem I_add (a : Int) (n m : Nat) (F : Int → Int) : I a (n + m) F = I a n F + I (a + (n : Int)) m F := by
 induction m with
 | zero => rw [I_zero, Nat.add_zero, Int.add_zero]
 | succ m ih =>
  have e : a + ((n + m : Nat) : Int) = a + (n : Int) + (m : Int) := by omega
  rw [← Nat.add_assoc, I_succ, ih, I_succ, e]; omega
theorem I_plus (a : Int) (n : Nat) (F G : Int → Int) : I a n (fun z => F z + G z) = I a n F + I a n G := by
 induction n with
 | zero => rfl
 | succ n ih => rw [I_succ, I_succ, I_succ, ih]; omega
theorem I_nil {a : Int} {n : Nat} {F : Int → Int} (h : ∀ z, a ≤ z → z < a + (n : Int) → F z = 0) : I a n F = 0 := by
 induction n with
 | zero => rfl
 | succ n ih => rw [I_succ, ih (fun z h1 h2 => h z h1 (by omega)), h _ (by omega) (by omega)]; rfl
theorem I_const {a : Int} {n : Nat} {F : Int → Int} {v : Int} (h : ∀ z, a ≤ z → z < a + (n : Int) → F z = v) : I a n F = (n : Int) * v := by
 induction n with
 | zero => simp [I_zero]
 | succ n ih =>
  rw [I_succ, ih (fun z h1 h2 => h z h1 (by omega)), h _ (by omega) (by omega)]
  have : ((n + 1 : Nat) : Int) * v = (n : Int) * v + v := by rw [Int.natCast_add, Int.add_mul]; omega
  omega
theorem I_le {a : Int} {n : Nat} {F G : Int → Int} (h : ∀ z, a ≤ z → z < a + (n : Int) → F z ≤ G z) : I a n F ≤ I a n G := by
 induction n with
 | zero => exact Int.le_refl _
 | succ n ih =>
  have := ih (fun z h1 h2 => h z h1 (by omega))
  have := h (a + (n : Int)) (by omega) (by omega)
  rw [I_succ, I_succ]; omega
theorem I_nonneg {a : Int} {n : Nat} {F : Int → Int} (h : ∀ z, a ≤ z → z < a + (n : Int) → 0 ≤ F z) : 0 ≤ I a n F := by
 have e : I a n (fun _ => 0) = 0 := I_nil fun _ _ _ => rfl
 rw [← e]; exact I_le h
theorem I_swap (a b : Int) (n m : Nat) (F : Int → Int → Int) : I a n (fun x => I b m (F x)) = I b m (fun y => I a n (fun x => F x y)) := by
 induction n with
 | zero => rw [I_zero]; exact (I_nil fun _ _ _ => rfl).symm
 | succ n ih =>
  rw [I_succ, ih, ← I_plus]
  exact I_congr fun z _ _ => by rw [I_succ]
theorem nbs_two (x y : Int) (l : List Int) : nbs (x :: y :: l) = (x, y) :: nbs (y :: l) := rfl
theorem nbs_one (x : Int) : nbs [x] = [] := rfl
theorem blocks_from (F : Int → Int) (B : Int) : ∀ (xs : List Int) (x : Int), (x :: xs).Pairwise (· < ·) → (∀ w ∈ x :: xs, w ≤ B) →
  (∀ z z', x ≤ z → z ≤ z' → (∀ w ∈ x :: xs, w ≤ z' → w ≤ z) → F z' = F z) → (∀ z, (∀ w ∈ x :: xs, w ≤ z) → F z = 0) →
  sumL ((nbs (x :: xs)).map fun p => (p.2 - p.1) * F p.1) = I x (B - x).toNat F
 | [], x, hp, hB, hc, h0 => by
  rw [nbs_one]
  exact (I_nil fun z h1 h2 => h0 z fun w hw => by rw [List.mem_singleton.1 hw]; exact h1).symm
 | y :: ys, x, hp, hB, hc, h0 => by
  have hp' := (List.pairwise_cons.1 hp).2
  have hx := (List.pairwise_cons.1 hp).1
  have hxy := hx y (List.mem_cons_self ..)
  have hyl : ∀ w ∈ y :: ys, y ≤ w := fun w hw => by
   rcases List.mem_cons.1 hw with rfl | hw
   ·exact Int.le_refl _
   ·exact Int.le_of_lt ((List.pairwise_cons.1 hp').1 w hw)
  have ih := blocks_from F B ys y hp' (fun w hw => hB w (List.mem_cons_of_mem _ hw)) (fun z z' h1 h2 h3 => hc z z' (by omega) h2 fun w hw hwz => by
   rcases List.mem_cons.1 hw with rfl | hw
   ·omega
   ·exact h3 w hw hwz) (fun z hz => h0 z fun w hw => by
   rcases List.mem_cons.1 hw with rfl | hw
   ·have := hz y (List.mem_cons_self ..); omega
   ·exact hz w hw)
  have hyB := hB y (List.mem_cons_of_mem _ (List.mem_cons_self ..))
  have e : (B - x).toNat = (y - x).toNat + (B - y).toNat := by omega
  have e2 : x + ((y - x).toNat : Int) = y := by omega
  rw [nbs_two, List.map_cons, e, I_add, e2, ← ih]
  have e3 : I x (y - x).toNat F = ((y - x).toNat : Int) * F x := I_const fun z h1 h2 => hc x z (Int.le_refl _) h1 fun w hw hwz => by
   rcases List.mem_cons.1 hw with rfl | hw
   ·exact Int.le_refl _
   ·have := hyl w hw; omega
  have e4 : ((y - x).toNat : Int) = y - x := by omega
  rw [e3, e4]
  rfl
structure Blk (xs : List Int) (F : Int → Int) : Prop where
 const : ∀ z z', z ≤ z' → (∀ w ∈ xs, w ≤ z' → w ≤ z) → F z' = F z
 low : ∀ z, (∀ w ∈ xs, z < w) → F z = 0
 high : ∀ z, (∀ w ∈ xs, w ≤ z) → F z = 0
theorem blocks {xs : List Int} {F : Int → Int} (hp : xs.Pairwise (· < ·)) (hb : ∀ w ∈ xs, -256 ≤ w ∧ w ≤ 256) (h : Blk xs F) :
  sumL ((nbs xs).map fun p => (p.2 - p.1) * F p.1) = I (-256) 512 F := by
 cases xs with
 | nil => exact (I_nil fun z _ _ => h.low z fun w hw => by cases hw).symm
 | cons x xs =>
  have bx := hb x (List.mem_cons_self ..)
  rw [blocks_from F 256 xs x hp (fun w hw => (hb w hw).2) (fun z z' _ h2 h3 => h.const z z' h2 h3) h.high]
  have e : 512 = (x + 256).toNat + (256 - x).toNat := by omega
  have e2 : -256 + ((x + 256).toNat : Int) = x := by omega
  rw [e, I_add, e2]
  have z0 : I (-256) (x + 256).toNat F = 0 := I_nil fun z h1 h2 => h.low z fun w hw => by
   rcases List.mem_cons.1 hw with rfl | hw
   ·omega
   ·have := (List.pairwise_cons.1 hp).1 w hw; omega
  rw [z0]; omega
theorem covers_iff (r : S48) (x y : Int) : covers r x y = true ↔ r.f0 ≤ x ∧ x < r.f2 ∧ r.f1 ≤ y ∧ y < r.f3 := by
 unfold covers; simp only [Bool.and_eq_true, decide_eq_true_eq]; omega
theorem mem_lineX {l : List S48} {r : S48} (h : r ∈ l) : r.f0 ∈ linesX l ∧ r.f2 ∈ linesX l := by
 constructor <;> rw [linesX_mem] <;> unfold allX <;> rw [List.mem_flatMap] <;> exact ⟨r, h, by simp⟩
theorem mem_lineY {l : List S48} {r : S48} (h : r ∈ l) : r.f1 ∈ linesY l ∧ r.f3 ∈ linesY l := by
 constructor <;> rw [linesY_mem] <;> unfold allY <;> rw [List.mem_flatMap] <;> exact ⟨r, h, by simp⟩
theorem covers_eq {r : S48} {x y x' y' : Int} (h : (r.f0 ≤ x ∧ x < r.f2 ∧ r.f1 ≤ y ∧ y < r.f3) ↔ (r.f0 ≤ x' ∧ x' < r.f2 ∧ r.f1 ≤ y' ∧ y' < r.f3)) : covers r x y = covers r x' y' := by
 rw [Bool.eq_iff_iff, covers_iff, covers_iff]; exact h
theorem depth_none {l : List S48} {x y : Int} (h : ∀ r ∈ l, ¬ (r.f0 ≤ x ∧ x < r.f2 ∧ r.f1 ≤ y ∧ y < r.f3)) : depthL l x y = 0 := by
 rw [← pos_not, depth_pos]
 rintro ⟨r, hr, hc⟩
 exact h r hr ((covers_iff r x y).1 hc)
theorem blkX {l : List S48} (y : Int) (f : Int → Int) (h0 : f 0 = 0) : Blk (linesX l) fun x => f (depthL l x y) := by
 refine ⟨fun z z' h1 h2 => ?_, fun z hz => ?_, fun z hz => ?_⟩
 ·rw [depth_congr (l := l) (x := z') (y := y) (x' := z) (y' := y)]
  intro r hr
  obtain ⟨m1, m2⟩ := mem_lineX hr
  have a := h2 _ m1
  have b := h2 _ m2
  exact covers_eq (by omega)
 ·show f (depthL l _ _) = 0
  rw [depth_none, h0]
  intro r hr
  have := hz _ (mem_lineX hr).1
  omega
 ·show f (depthL l _ _) = 0
  rw [depth_none, h0]
  intro r hr
  have := hz _ (mem_lineX hr).2
  omega
theorem blkY {l : List S48} (x : Int) (f : Int → Int) (h0 : f 0 = 0) : Blk (linesY l) fun y => f (depthL l x y) := by
 refine ⟨fun z z' h1 h2 => ?_, fun z hz => ?_, fun z hz => ?_⟩
 ·rw [depth_congr (l := l) (x := x) (y := z') (x' := x) (y' := z)]
  intro r hr
  obtain ⟨m1, m2⟩ := mem_lineY hr
  have a := h2 _ m1
  have b := h2 _ m2
  exact covers_eq (by omega)
 ·show f (depthL l _ _) = 0
  rw [depth_none, h0]
  intro r hr
  have := hz _ (mem_lineY hr).1
  omega
 ·show f (depthL l _ _) = 0
  rw [depth_none, h0]
  intro r hr
  have := hz _ (mem_lineY hr).2
  omega
theorem lineX_bd {l : List S48} (h : ∀ r ∈ l, isR r = true) : ∀ w ∈ linesX l, -256 ≤ w ∧ w ≤ 256 := by
 intro w hw
 rw [linesX_mem] at hw
 unfold allX at hw
 obtain ⟨r, hr, hw⟩ := List.mem_flatMap.1 hw
 have := isR_bd (h r hr)
 simp at hw
 rcases hw with rfl | rfl <;> omega
theorem lineY_bd {l : List S48} (h : ∀ r ∈ l, isR r = true) : ∀ w ∈ linesY l, -256 ≤ w ∧ w ≤ 256 := by
 intro w hw
 rw [linesY_mem] at hw
 unfold allY at hw
 obtain ⟨r, hr, hw⟩ := List.mem_flatMap.1 hw
 have := isR_bd (h r hr)
 simp at hw
 rcases hw with rfl | rfl <;> omega
theorem sumL_mul (c : Int) : ∀ (l : List (Int × Int)) (g : Int × Int → Int), sumL (l.map fun y => c * g y) = c * sumL (l.map g)
 | [], g => by simp [sumL]
 | y :: l, g => by
  have := sumL_mul c l g
  simp only [List.map_cons, sumL, List.foldr_cons] at this ⊢
  rw [this, Int.mul_add]
theorem sumL_congr {l : List (Int × Int)} {g g' : Int × Int → Int} (h : ∀ y ∈ l, g y = g' y) : sumL (l.map g) = sumL (l.map g') := by rw [List.map_congr_left h]
def one (d : Int) : Int := if 0 < d then 1 else 0
def cells (l : List S48) : Int := I (-256) 512 fun x => I (-256) 512 fun y => one (depthL l x y)
theorem area_cells {l : List S48} (h : ∀ r ∈ l, isR r = true) : areaL l = cells l := by
 have hY := blocks (linesY_lt l) (lineY_bd h) (F := fun y => one (depthL l 0 y))
 unfold areaL cells
 have inner : ∀ x : Int × Int, sumL ((nbs (linesY l)).map fun y => if 0 < depthL l x.1 y.1 then (x.2 - x.1) * (y.2 - y.1) else 0) = (x.2 - x.1) * I (-256) 512 fun y => one (depthL l x.1 y) := by
  intro x
  rw [← blocks (linesY_lt l) (lineY_bd h) (blkY x.1 one rfl), ← sumL_mul]
  refine sumL_congr fun y _ => ?_
  unfold one
  split
  ·rw [Int.mul_one]
  ·rw [Int.mul_zero, Int.mul_zero]
 rw [sumL_congr fun x _ => inner x]
 refine blocks (F := fun x => I (-256) 512 fun y => one (depthL l x y)) (linesX_lt l) (lineX_bd h) ⟨fun z z' h1 h2 => ?_, fun z hz => ?_, fun z hz => ?_⟩
 ·show I (-256) 512 (fun y => one (depthL l z' y)) = I (-256) 512 (fun y => one (depthL l z y))
  exact I_congr (fun y _ _ => (blkX y one rfl).const z z' h1 h2)
 ·show I (-256) 512 (fun y => one (depthL l z y)) = 0
  exact I_nil (fun y _ _ => (blkX y one rfl).low z hz)
 ·show I (-256) 512 (fun y => one (depthL l z y)) = 0
  exact I_nil (fun y _ _ => (blkX y one rfl).high z hz)
end Go.Proofs.Ytplhfbkejngioaa.X
namespace Go.Proofs.Ytplhfbkejngioaa.X
open Go.RowKit Go.Proofs.YtplhfbkejngioaaW.PrintWords Go.Proofs.YtplhfbkejngioaaW.PrintLast Go.Proofs.Ytplhfbkejngioaa.S
set_option linter.unusedVariables false
set_option linter.unusedSimpArgs false
theorem nbs_mem : ∀ {xs : List Int}, xs.Pairwise (· < ·) → ∀ p ∈ nbs xs, p.1 ∈ xs ∧ p.2 ∈ xs ∧ p.1 < p.2 ∧ ∀ w ∈ xs, w < p.2 → w ≤ p.1
 | [], _, p, h => by cases h
 | [x], _, p, h => by cases h
 | x :: y :: l, hp, p, h => by
  have hp' := (List.pairwise_cons.1 hp).2
  have hx := (List.pairwise_cons.1 hp).1
  rw [nbs_two] at h
  rcases List.mem_cons.1 h with rfl | h
  ·refine ⟨List.mem_cons_self .., List.mem_cons_of_mem _ (List.mem_cons_self ..), hx y (List.mem_cons_self ..), fun w hw hlt => ?_⟩
   rcases List.mem_cons.1 hw with rfl | hw
   ·exact Int.le_refl _
   ·simp only at hlt
    rcases List.mem_cons.1 hw with rfl | hw
    ·omega
    ·have := (List.pairwise_cons.1 hp').1 w hw; omega
  ·obtain ⟨h1, h2, h3, h4⟩ := nbs_mem hp' p h
   refine ⟨List.mem_cons_of_mem _ h1, List.mem_cons_of_mem _ h2, h3, fun w hw hlt => ?_⟩
   rcases List.mem_cons.1 hw with rfl | hw
   ·have := hx _ h1; omega
   ·exact h4 w hw hlt
theorem starts_from (L : Int → Int) (B : Int) : ∀ (xs : List Int) (x : Int), (x :: xs).Pairwise (· < ·) → (∀ w ∈ x :: xs, w ≤ B) → (∀ z, x ≤ z → z ∉ x :: xs → L z = 0) → (∀ z, (∀ w ∈ x :: xs, w ≤ z) → L z = 0) →
  sumL ((nbs (x :: xs)).map fun p => L p.1) = I x (B - x).toNat L
 | [], x, hp, hB, h0, h1 => by
  rw [nbs_one]
  exact (I_nil fun z a b => h1 z fun w hw => by rw [List.mem_singleton.1 hw]; exact a).symm
 | y :: ys, x, hp, hB, h0, h1 => by
  have hp' := (List.pairwise_cons.1 hp).2
  have hx := (List.pairwise_cons.1 hp).1
  have hxy := hx y (List.mem_cons_self ..)
  have hyl : ∀ w ∈ y :: ys, y ≤ w := fun w hw => by
   rcases List.mem_cons.1 hw with rfl | hw
   ·exact Int.le_refl _
   ·exact Int.le_of_lt ((List.pairwise_cons.1 hp').1 w hw)
  have ih := starts_from L B ys y hp' (fun w hw => hB w (List.mem_cons_of_mem _ hw)) (fun z a b => h0 z (by omega) fun hz => by
   rcases List.mem_cons.1 hz with rfl | hz
   ·omega
   ·exact b hz) (fun z hz => h1 z fun w hw => by
   rcases List.mem_cons.1 hw with rfl | hw
   ·have := hz y (List.mem_cons_self ..); omega
   ·exact hz w hw)
  have hyB := hB y (List.mem_cons_of_mem _ (List.mem_cons_self ..))
  have e : (B - x).toNat = 1 + (y - x - 1).toNat + (B - y).toNat := by omega
  have e2 : x + ((1 + (y - x - 1).toNat : Nat) : Int) = y := by omega
  rw [nbs_two, List.map_cons, e, I_add, e2, ← ih, I_add]
  have e3 : I (x + ((1 : Nat) : Int)) (y - x - 1).toNat L = 0 := I_nil fun z a b => h0 z (by omega) fun hz => by
   rcases List.mem_cons.1 hz with rfl | hz
   ·omega
   ·have := hyl z hz; omega
  have e4 : I x 1 L = L x := by rw [show (1 : Nat) = 0 + 1 from rfl, I_succ, I_zero]; simp
  rw [e3, e4]
  simp only [sumL, List.foldr_cons]
  omega
theorem ends_from (R : Int → Int) (B : Int) : ∀ (xs : List Int) (x : Int), (x :: xs).Pairwise (· < ·) → (∀ w ∈ x :: xs, w ≤ B) → (∀ z, x ≤ z → z ∉ x :: xs → R z = 0) →
  sumL ((nbs (x :: xs)).map fun p => R p.2) = I (x + 1) (B - x).toNat R
 | [], x, hp, hB, h0 => by
  rw [nbs_one]
  exact (I_nil fun z a b => h0 z (by omega) fun hz => by have := List.mem_singleton.1 hz; omega).symm
 | y :: ys, x, hp, hB, h0 => by
  have hp' := (List.pairwise_cons.1 hp).2
  have hx := (List.pairwise_cons.1 hp).1
  have hxy := hx y (List.mem_cons_self ..)
  have hyl : ∀ w ∈ y :: ys, y ≤ w := fun w hw => by
   rcases List.mem_cons.1 hw with rfl | hw
   ·exact Int.le_refl _
   ·exact Int.le_of_lt ((List.pairwise_cons.1 hp').1 w hw)
  have ih := ends_from R B ys y hp' (fun w hw => hB w (List.mem_cons_of_mem _ hw)) (fun z a b => h0 z (by omega) fun hz => by
   rcases List.mem_cons.1 hz with rfl | hz
   ·omega
   ·exact b hz)
  have hyB := hB y (List.mem_cons_of_mem _ (List.mem_cons_self ..))
  have e : (B - x).toNat = ((y - x - 1).toNat + 1) + (B - y).toNat := by omega
  have e2 : x + 1 + ((((y - x - 1).toNat + 1 : Nat)) : Int) = y + 1 := by omega
  rw [nbs_two, List.map_cons, e, I_add, e2, ← ih, I_succ]
  have e3 : I (x + 1) (y - x - 1).toNat R = 0 := I_nil fun z a b => h0 z (by omega) fun hz => by
   rcases List.mem_cons.1 hz with rfl | hz
   ·omega
   ·have := hyl z hz; omega
  have e4 : x + 1 + ((y - x - 1).toNat : Int) = y := by omega
  rw [e3, e4]
  simp only [sumL, List.foldr_cons]
  omega
theorem I_split (F : Int → Int) {x : Int} (h0 : -256 ≤ x) (h1 : x ≤ 256) : I (-256) 512 F = I (-256) (x + 256).toNat F + I x (256 - x).toNat F := by
 have e : 512 = (x + 256).toNat + (256 - x).toNat := by omega
 have e2 : -256 + ((x + 256).toNat : Int) = x := by omega
 rw [e, I_add, e2]
theorem I_split1 (F : Int → Int) {x : Int} (h0 : -256 ≤ x) (h1 : x ≤ 256) : I (-255) 512 F = I (-255) (x + 256).toNat F + I (x + 1) (256 - x).toNat F := by
 have e : 512 = (x + 256).toNat + (256 - x).toNat := by omega
 have e2 : -255 + ((x + 256).toNat : Int) = x + 1 := by omega
 rw [e, I_add, e2]
theorem starts {xs : List Int} (L : Int → Int) (hp : xs.Pairwise (· < ·)) (hb : ∀ w ∈ xs, -256 ≤ w ∧ w ≤ 256) (h0 : ∀ z, z ∉ xs → L z = 0) (h1 : ∀ z, (∀ w ∈ xs, w ≤ z) → L z = 0) :
  sumL ((nbs xs).map fun p => L p.1) = I (-256) 512 L := by
 cases xs with
 | nil => exact (I_nil fun z _ _ => h0 z (by simp)).symm
 | cons x xs =>
  have bx := hb x (List.mem_cons_self ..)
  rw [starts_from L 256 xs x hp (fun w hw => (hb w hw).2) (fun z _ hz => h0 z hz) h1, I_split L bx.1 bx.2, I_nil (a := -256) (n := (x + 256).toNat) (F := L) (fun z a b => h0 z fun hz => by
   rcases List.mem_cons.1 hz with rfl | hz
   ·omega
   ·have := (List.pairwise_cons.1 hp).1 z hz; omega), Int.zero_add]
theorem ends {xs : List Int} (R : Int → Int) (hp : xs.Pairwise (· < ·)) (hb : ∀ w ∈ xs, -256 ≤ w ∧ w ≤ 256) (h0 : ∀ z, z ∉ xs → R z = 0) (h1 : ∀ z, (∀ w ∈ xs, z ≤ w) → R z = 0) :
  sumL ((nbs xs).map fun p => R p.2) = I (-255) 512 R := by
 cases xs with
 | nil => exact (I_nil fun z _ _ => h0 z (by simp)).symm
 | cons x xs =>
  have bx := hb x (List.mem_cons_self ..)
  rw [ends_from R 256 xs x hp (fun w hw => (hb w hw).2) (fun z _ hz => h0 z hz), I_split1 R bx.1 bx.2, I_nil (a := -255) (n := (x + 256).toNat) (F := R) (fun z a b => h1 z fun w hw => by
   rcases List.mem_cons.1 hw with rfl | hw
   ·omega
   ·have := (List.pairwise_cons.1 hp).1 w hw; omega), Int.zero_add]
theorem I_shift (a : Int) (n : Nat) (F : Int → Int) : I (a + 1) n F = I a n fun z => F (z + 1) := by
 unfold I
 exact X.S_congr fun i _ => congrArg F (by omega)
def fl (a b : Int) : Int := if 0 < a ∧ b = 0 then 1 else 0
theorem fl_zero (b : Int) : fl 0 b = 0 := by unfold fl; rw [if_neg (by omega)]
theorem fl_same (a : Int) : fl a a = 0 := by unfold fl; rw [if_neg (by omega)]
theorem blkY2 {l : List S48} (x x' : Int) (f : Int → Int → Int) (h0 : f 0 0 = 0) : Blk (linesY l) fun y => f (depthL l x y) (depthL l x' y) := by
 refine ⟨fun z z' h1 h2 => ?_, fun z hz => ?_, fun z hz => ?_⟩
 ·have a := (blkY (l := l) x id rfl).const z z' h1 h2
  have b := (blkY (l := l) x' id rfl).const z z' h1 h2
  simp only [id] at a b
  simp only [a, b]
 ·have a := (blkY (l := l) x id rfl).low z hz
  have b := (blkY (l := l) x' id rfl).low z hz
  simp only [id] at a b
  simp only [a, b, h0]
 ·have a := (blkY (l := l) x id rfl).high z hz
  have b := (blkY (l := l) x' id rfl).high z hz
  simp only [id] at a b
  simp only [a, b, h0]
def leftS (l : List S48) : Int := sumL ((nbs (linesX l)).map fun x => sumL ((nbs (linesY l)).map fun y => (y.2 - y.1) * fl (depthL l x.1 y.1) (depthL l (x.1 - 1) y.1)))
def rightS (l : List S48) : Int := sumL ((nbs (linesX l)).map fun x => sumL ((nbs (linesY l)).map fun y => (y.2 - y.1) * fl (depthL l x.1 y.1) (depthL l x.2 y.1)))
def leftU (l : List S48) : Int := I (-256) 512 fun x => I (-256) 512 fun y => fl (depthL l x y) (depthL l (x - 1) y)
def rightU (l : List S48) : Int := I (-256) 512 fun x => I (-256) 512 fun y => fl (depthL l x y) (depthL l (x + 1) y)
theorem depth_at {l : List S48} {z z' : Int} (h1 : z ≤ z') (h2 : ∀ w ∈ linesX l, w ≤ z' → w ≤ z) (y : Int) : depthL l z' y = depthL l z y := (blkX (l := l) y id rfl).const z z' h1 h2
theorem depth_high {l : List S48} {z : Int} (h : ∀ w ∈ linesX l, w ≤ z) (y : Int) : depthL l z y = 0 := (blkX (l := l) y id rfl).high z h
theorem depth_lowX {l : List S48} {z : Int} (h : ∀ w ∈ linesX l, z < w) (y : Int) : depthL l z y = 0 := (blkX (l := l) y id rfl).low z h
theorem left_cells {l : List S48} (h : ∀ r ∈ l, isR r = true) : leftS l = leftU l := by
 unfold leftS leftU
 have inner : ∀ x : Int × Int, sumL ((nbs (linesY l)).map fun y => (y.2 - y.1) * fl (depthL l x.1 y.1) (depthL l (x.1 - 1) y.1)) = I (-256) 512 fun y => fl (depthL l x.1 y) (depthL l (x.1 - 1) y) :=
  fun x => blocks (F := fun y => fl (depthL l x.1 y) (depthL l (x.1 - 1) y)) (linesY_lt l) (lineY_bd h) (blkY2 x.1 (x.1 - 1) fl (fl_same 0))
 rw [sumL_congr fun x _ => inner x]
 refine starts (fun z => I (-256) 512 fun y => fl (depthL l z y) (depthL l (z - 1) y)) (linesX_lt l) (lineX_bd h) (fun z hz => I_nil fun y _ _ => ?_) (fun z hz => I_nil fun y _ _ => ?_)
 ·rw [depth_at (z := z - 1) (z' := z) (by omega) (fun w hw hwz => by
   by_cases e : w = z
   ·subst e; exact absurd hw hz
   ·omega) y]
  exact fl_same _
 ·rw [depth_high hz y]; exact fl_zero _
theorem right_cells {l : List S48} (h : ∀ r ∈ l, isR r = true) : rightS l = rightU l := by
 unfold rightS rightU
 have inner : ∀ x ∈ nbs (linesX l), sumL ((nbs (linesY l)).map fun y => (y.2 - y.1) * fl (depthL l x.1 y.1) (depthL l x.2 y.1)) = I (-256) 512 fun y => fl (depthL l (x.2 - 1) y) (depthL l x.2 y) := by
  intro x hx
  obtain ⟨_, _, h3, h4⟩ := nbs_mem (linesX_lt l) x hx
  have e := blocks (F := fun y => fl (depthL l x.1 y) (depthL l x.2 y)) (linesY_lt l) (lineY_bd h) (blkY2 x.1 x.2 fl (fl_same 0))
  rw [e]
  exact I_congr fun y _ _ => by
   have : depthL l (x.2 - 1) y = depthL l x.1 y := depth_at (z := x.1) (z' := x.2 - 1) (by omega) (fun w hw hwz => h4 w hw (by omega)) y
   simp only [this]
 rw [sumL_congr inner]
 have e := ends (fun z => I (-256) 512 fun y => fl (depthL l (z - 1) y) (depthL l z y)) (linesX_lt l) (lineX_bd h) (fun z hz => I_nil fun y _ _ => by
  rw [depth_at (z := z - 1) (z' := z) (by omega) (fun w hw hwz => by
   by_cases e : w = z
   ·subst e; exact absurd hw hz
   ·omega) y]
  exact fl_same _) (fun z hz => I_nil fun y _ _ => by
  rw [depth_lowX (z := z - 1) (fun w hw => by have := hz w hw; omega) y]; exact fl_zero _)
 rw [e, show (-255 : Int) = -256 + 1 from rfl, I_shift]
 exact I_congr fun x _ _ => by
  have : x + 1 - 1 = x := by omega
  simp only [this]
def tr (r : S48) : S48 := ⟨r.f1, r.f0, r.f3, r.f2⟩
theorem depth_tr (l : List S48) (x y : Int) : depthL (l.map tr) y x = depthL l x y := by
 unfold depthL
 rw [List.filter_map, List.length_map]
 congr 2
 refine List.filter_congr fun r _ => ?_
 rw [Bool.eq_iff_iff]
 show covers (tr r) y x = true ↔ _
 rw [covers_iff, covers_iff]
 unfold tr
 simp only
 omega
theorem linesX_tr (l : List S48) : linesX (l.map tr) = linesY l := by unfold linesX linesY; rw [List.foldl_map]; rfl
theorem linesY_tr (l : List S48) : linesY (l.map tr) = linesX l := by unfold linesX linesY; rw [List.foldl_map]; rfl
theorem isR_tr {l : List S48} (h : ∀ r ∈ l, isR r = true) : ∀ r ∈ l.map tr, isR r = true := by
 intro r hr
 obtain ⟨q, hq, rfl⟩ := List.mem_map.1 hr
 have := isR_bd (h q hq)
 unfold isR inC tr
 simp only [Bool.and_eq_true, decide_eq_true_eq]
 omega
theorem sumL_plus {α : Type} (f g : α → Int) : ∀ l : List α, sumL (l.map fun x => f x + g x) = sumL (l.map f) + sumL (l.map g)
 | [] => rfl
 | x :: l => by
  have := sumL_plus f g l
  simp only [List.map_cons, sumL, List.foldr_cons] at this ⊢
  omega
theorem sumL_nil {α : Type} (l : List α) : sumL (l.map fun _ => (0 : Int)) = 0 := by
 induction l with
 | nil => rfl
 | cons x l ih => simp only [List.map_cons, sumL, List.foldr_cons] at ih ⊢; omega
theorem sumL_swap {α β : Type} (f : α → β → Int) (B : List β) : ∀ A : List α, sumL (A.map fun a => sumL (B.map fun b => f a b)) = sumL (B.map fun b => sumL (A.map fun a => f a b))
 | [] => (sumL_nil B).symm
 | a :: A => by
  have ih := sumL_swap f B A
  have e : ∀ b, sumL ((a :: A).map fun a => f a b) = f a b + sumL (A.map fun a => f a b) := fun b => rfl
  simp only [e]
  rw [sumL_plus, ← ih]
  rfl
theorem lowS (l : List S48) : leftS (l.map tr) = sumL ((nbs (linesX l)).map fun x => sumL ((nbs (linesY l)).map fun y => (x.2 - x.1) * fl (depthL l x.1 y.1) (depthL l x.1 (y.1 - 1)))) := by
 unfold leftS
 rw [linesX_tr, linesY_tr, sumL_swap]
 simp only [depth_tr]
theorem highS (l : List S48) : rightS (l.map tr) = sumL ((nbs (linesX l)).map fun x => sumL ((nbs (linesY l)).map fun y => (x.2 - x.1) * fl (depthL l x.1 y.1) (depthL l x.1 y.2))) := by
 unfold rightS
 rw [linesX_tr, linesY_tr, sumL_swap]
 simp only [depth_tr]
theorem mul_fl (v a b : Int) : v * fl a b = if 0 < a then (if b = 0 then v else 0) else 0 := by
 unfold fl
 by_cases h : 0 < a
 ·by_cases h' : b = 0
  ·simp [h, h']
  ·simp [h, h']
 ·simp [h]
theorem edge_four (l : List S48) : edgeL l = leftS l + rightS l + leftS (l.map tr) + rightS (l.map tr) := by
 rw [lowS, highS]
 unfold edgeL leftS rightS
 rw [← sumL_plus, ← sumL_plus, ← sumL_plus]
 refine congrArg sumL (List.map_congr_left fun x _ => ?_)
 rw [← sumL_plus, ← sumL_plus, ← sumL_plus]
 refine congrArg sumL (List.map_congr_left fun y _ => ?_)
 rw [mul_fl, mul_fl, mul_fl, mul_fl]
 by_cases h : 0 < depthL l x.1 y.1
 ·simp only [if_pos h]
 ·simp only [if_neg h]; rfl
end Go.Proofs.Ytplhfbkejngioaa.X
namespace Go.Proofs.Ytplhfbkejngioaa.X
open Go.RowKit Go.Proofs.YtplhfbkejngioaaW.PrintWords Go.Proofs.YtplhfbkejngioaaW.PrintLast Go.Proofs.Ytplhfbkejngioaa.S
set_option linter.unusedVariables false
set_option linter.unusedSimpArgs false
theorem edge_cells {l : List S48} (h : ∀ r ∈ l, isR r = true) : edgeL l = leftU l + rightU l + leftU (l.map tr) + rightU (l.map tr) := by
 rw [edge_four, left_cells h, right_cells h, left_cells (isR_tr h), right_cells (isR_tr h)]
theorem depth_nn (l : List S48) (x y : Int) : 0 ≤ depthL l x y := (depthL_range l x y).1
theorem first_cell {l : List S48} (h : ∀ r ∈ l, isR r = true) {r : S48} (hr : r ∈ l) : 0 < depthL l r.f0 r.f1 := by
 rw [depth_pos]
 have := isR_bd (h r hr)
 exact ⟨r, hr, (covers_iff _ _ _).2 (by omega)⟩
def size (r : S48) : Int := (r.f2 - r.f0) * (r.f3 - r.f1)
structure Dp (l : List S48) (b : Int × Int × Int) : Prop where
 nn : 0 ≤ b.1
 at' : b = (0, 0, 0) ∨ depthL l b.2.1 b.2.2 = b.1
theorem Dp.step {l : List S48} {b : Int × Int × Int} (h : Dp l b) (x y : Int) : Dp l (deepStep l b x y) ∧ b.1 ≤ (deepStep l b x y).1 ∧ depthL l x y ≤ (deepStep l b x y).1 := by
 unfold deepStep
 have := h.nn
 by_cases hc : depthL l x y > b.1
 ·rw [if_pos hc]
  exact ⟨⟨by simp only; omega, Or.inr rfl⟩, by simp only; omega, Int.le_refl _⟩
 ·rw [if_neg hc]
  exact ⟨h, Int.le_refl _, by omega⟩
theorem deep_row' {l : List S48} (x : Int) : ∀ (ys : List Int) (b : Int × Int × Int), Dp l b → Dp l (ys.foldl (fun b y => deepStep l b x y) b) ∧ b.1 ≤ (ys.foldl (fun b y => deepStep l b x y) b).1 ∧ ∀ y ∈ ys, depthL l x y ≤ (ys.foldl (fun b y => deepStep l b x y) b).1
 | [], b, h => ⟨h, Int.le_refl _, fun y hy => by cases hy⟩
 | y :: ys, b, h => by
  obtain ⟨h1, h2, h3⟩ := h.step x y
  obtain ⟨g1, g2, g3⟩ := deep_row' x ys _ h1
  rw [List.foldl_cons]
  refine ⟨g1, by omega, fun z hz => ?_⟩
  rcases List.mem_cons.1 hz with rfl | hz
  ·omega
  ·exact g3 z hz
theorem deep_all {l : List S48} (ys : List Int) : ∀ (xs : List Int) (b : Int × Int × Int), Dp l b → Dp l (xs.foldl (fun b x => ys.foldl (fun b y => deepStep l b x y) b) b) ∧ b.1 ≤ (xs.foldl (fun b x => ys.foldl (fun b y => deepStep l b x y) b) b).1 ∧
  ∀ x ∈ xs, ∀ y ∈ ys, depthL l x y ≤ (xs.foldl (fun b x => ys.foldl (fun b y => deepStep l b x y) b) b).1
 | [], b, h => ⟨h, Int.le_refl _, fun x hx => by cases hx⟩
 | x :: xs, b, h => by
  obtain ⟨h1, h2, h3⟩ := deep_row' x ys b h
  obtain ⟨g1, g2, g3⟩ := deep_all ys xs _ h1
  rw [List.foldl_cons]
  refine ⟨g1, by omega, fun z hz y hy => ?_⟩
  rcases List.mem_cons.1 hz with rfl | hz
  ·have := h3 y hy; omega
  ·exact g3 z hz y hy
theorem line_below : ∀ (xs : List Int) (z : Int), (∃ w ∈ xs, w ≤ z) → ∃ w ∈ xs, w ≤ z ∧ ∀ v ∈ xs, v ≤ z → v ≤ w
 | [], z, ⟨w, hw, _⟩ => by cases hw
 | x :: xs, z, h => by
  by_cases ht : ∃ w ∈ xs, w ≤ z
  ·obtain ⟨w, hw, h1, h2⟩ := line_below xs z ht
   by_cases hx : x ≤ z ∧ w < x
   ·refine ⟨x, List.mem_cons_self .., hx.1, fun v hv hvz => ?_⟩
    rcases List.mem_cons.1 hv with rfl | hv
    ·exact Int.le_refl _
    ·have := h2 v hv hvz; omega
   ·refine ⟨w, List.mem_cons_of_mem _ hw, h1, fun v hv hvz => ?_⟩
    rcases List.mem_cons.1 hv with rfl | hv
    ·omega
    ·exact h2 v hv hvz
  ·obtain ⟨w, hw, hz⟩ := h
   rcases List.mem_cons.1 hw with rfl | hw
   ·refine ⟨w, List.mem_cons_self .., hz, fun v hv hvz => ?_⟩
    rcases List.mem_cons.1 hv with rfl | hv
    ·exact Int.le_refl _
    ·exact absurd ⟨v, hv, hvz⟩ ht
   ·exact absurd ⟨w, hw, hz⟩ ht
theorem depth_lines {l : List S48} {x y : Int} (hd : 0 < depthL l x y) : ∃ x' ∈ linesX l, ∃ y' ∈ linesY l, depthL l x y = depthL l x' y' := by
 obtain ⟨r, hr, hc⟩ := depth_pos.1 hd
 have c := (covers_iff r x y).1 hc
 obtain ⟨x', hx', a1, a2⟩ := line_below (linesX l) x ⟨r.f0, (mem_lineX hr).1, c.1⟩
 obtain ⟨y', hy', b1, b2⟩ := line_below (linesY l) y ⟨r.f1, (mem_lineY hr).1, c.2.2.1⟩
 refine ⟨x', hx', y', hy', ?_⟩
 rw [depth_at a1 a2 y]
 exact (blkY (l := l) x' id rfl).const y' y b1 b2
theorem deep_le (l : List S48) (x y : Int) : depthL l x y ≤ (deepL l).1 := by
 obtain ⟨h1, h2, h3⟩ := deep_all (l := l) (linesY l) (linesX l) (0, 0, 0) ⟨Int.le_refl _, Or.inl rfl⟩
 by_cases hd : 0 < depthL l x y
 ·obtain ⟨x', hx', y', hy', e⟩ := depth_lines hd
  rw [e]; exact h3 x' hx' y' hy'
 ·have := depth_nn l x y
  have : depthL l x y = 0 := by omega
  rw [this]; exact h2
theorem deep_at (l : List S48) (h : ∀ r ∈ l, isR r = true) (hl : l ≠ []) : 1 ≤ (deepL l).1 ∧ depthL l (deepL l).2.1 (deepL l).2.2 = (deepL l).1 := by
 obtain ⟨h1, h2, h3⟩ := deep_all (l := l) (linesY l) (linesX l) (0, 0, 0) ⟨Int.le_refl _, Or.inl rfl⟩
 obtain ⟨r, hr⟩ := List.exists_mem_of_ne_nil l hl
 have c := first_cell h hr
 have d := deep_le l r.f0 r.f1
 have e : (deepL l) = (0, 0, 0) ∨ depthL l (deepL l).2.1 (deepL l).2.2 = (deepL l).1 := h1.at'
 refine ⟨by omega, ?_⟩
 rcases e with e | e
 ·rw [e] at d; simp only at d; omega
 ·exact e
end Go.Proofs.Ytplhfbkejngioaa.X
