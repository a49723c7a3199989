/- Plain geometry: weights, the smallest circle. Texts of this claim's session, put together: Geo. -/
import Derived.Test.YtplhfbkejngioaaVWords
namespace Go.Proofs.Ytplhfbkejngioaa.Geo
theorem sq_nonneg (a : Int) : 0 ≤ a * a := by
 rcases Int.le_total 0 a with h | h
 ·exact Int.mul_nonneg h h
 ·have := Int.mul_nonneg (Int.neg_nonneg.2 h) (Int.neg_nonneg.2 h)
  rwa [Int.neg_mul_neg] at this
theorem sq_pos {a : Int} (h : a ≠ 0) : 0 < a * a := by
 rcases Int.lt_or_gt_of_ne h with h | h
 ·have := Int.mul_pos (Int.neg_pos.2 h) (Int.neg_pos.2 h); rwa [Int.neg_mul_neg] at this
 ·exact Int.mul_pos h h
theorem sq_zero {a : Int} (h : a * a ≤ 0) : a = 0 := by
 by_cases e : a = 0
 ·exact e
 ·have := sq_pos e; omega
theorem ssq_nonneg (a b : Int) : 0 ≤ a * a + b * b := by
 have := sq_nonneg a; have := sq_nonneg b; omega
theorem ssq_zero {a b : Int} (h : a * a + b * b ≤ 0) : a = 0 ∧ b = 0 := by
 have := sq_nonneg a; have := sq_nonneg b
 exact ⟨sq_zero (by omega), sq_zero (by omega)⟩
def far (X Y D x y : Int) : Int := (D * x - X) * (D * x - X) + (D * y - Y) * (D * y - Y)
structure Bal (l1 l2 l3 X Y D x1 y1 x2 y2 x3 y3 : Int) : Prop where
 n1 : 0 ≤ l1
 n2 : 0 ≤ l2
 n3 : 0 ≤ l3
 pos : 0 < l1 + l2 + l3
 hx : l1 * (D * x1 - X) + l2 * (D * x2 - X) + l3 * (D * x3 - X) = 0
 hy : l1 * (D * y1 - Y) + l2 * (D * y2 - Y) + l3 * (D * y3 - Y) = 0
theorem key {l1 l2 l3 X Y D x1 y1 x2 y2 x3 y3 : Int} (X' Y' D' : Int)
  (hx : l1 * (D * x1 - X) + l2 * (D * x2 - X) + l3 * (D * x3 - X) = 0)
  (hy : l1 * (D * y1 - Y) + l2 * (D * y2 - Y) + l3 * (D * y3 - Y) = 0) :
  D * D * (l1 * far X' Y' D' x1 y1 + l2 * far X' Y' D' x2 y2 + l3 * far X' Y' D' x3 y3) =
  D' * D' * (l1 * far X Y D x1 y1 + l2 * far X Y D x2 y2 + l3 * far X Y D x3 y3) +
  (l1 + l2 + l3) * ((D * X' - D' * X) * (D * X' - D' * X) + (D * Y' - D' * Y) * (D * Y' - D' * Y)) := by
 unfold far
 grind
theorem opt {l1 l2 l3 X Y D x1 y1 x2 y2 x3 y3 R X' Y' D' R' s1 s2 s3 : Int} (b : Bal l1 l2 l3 X Y D x1 y1 x2 y2 x3 y3)
  (f1 : far X Y D x1 y1 = R + s1) (f2 : far X Y D x2 y2 = R + s2) (f3 : far X Y D x3 y3 = R + s3)
  (e1 : far X' Y' D' x1 y1 ≤ R') (e2 : far X' Y' D' x2 y2 ≤ R') (e3 : far X' Y' D' x3 y3 ≤ R') :
  D' * D' * (l1 * s1 + l2 * s2 + l3 * s3) ≤ (l1 + l2 + l3) * (D * D * R' - D' * D' * R - ((D * X' - D' * X) * (D * X' - D' * X) + (D * Y' - D' * Y) * (D * Y' - D' * Y))) := by
 have k := key X' Y' D' b.hx b.hy
 rw [f1, f2, f3] at k
 have a1 := Int.mul_le_mul_of_nonneg_left e1 b.n1
 have a2 := Int.mul_le_mul_of_nonneg_left e2 b.n2
 have a3 := Int.mul_le_mul_of_nonneg_left e3 b.n3
 have a4 : D * D * (l1 * far X' Y' D' x1 y1 + l2 * far X' Y' D' x2 y2 + l3 * far X' Y' D' x3 y3) ≤ D * D * (l1 * R' + l2 * R' + l3 * R') :=
  Int.mul_le_mul_of_nonneg_left (by omega) (sq_nonneg D)
 rw [k] at a4
 generalize hz : (D * X' - D' * X) * (D * X' - D' * X) + (D * Y' - D' * Y) * (D * Y' - D' * Y) = z at *
 have e5 : D * D * (l1 * R' + l2 * R' + l3 * R') = (l1 + l2 + l3) * (D * D * R') := by grind
 have e6 : D' * D' * (l1 * (R + s1) + l2 * (R + s2) + l3 * (R + s3)) = (l1 + l2 + l3) * (D' * D' * R) + D' * D' * (l1 * s1 + l2 * s2 + l3 * s3) := by grind
 have e7 : (l1 + l2 + l3) * (D * D * R' - D' * D' * R - z) = (l1 + l2 + l3) * (D * D * R') - (l1 + l2 + l3) * (D' * D' * R) - (l1 + l2 + l3) * z := by grind
 rw [e7]
 omega
theorem least {l1 l2 l3 X Y D x1 y1 x2 y2 x3 y3 R X' Y' D' R' : Int} (b : Bal l1 l2 l3 X Y D x1 y1 x2 y2 x3 y3)
  (f1 : far X Y D x1 y1 = R) (f2 : far X Y D x2 y2 = R) (f3 : far X Y D x3 y3 = R)
  (e1 : far X' Y' D' x1 y1 ≤ R') (e2 : far X' Y' D' x2 y2 ≤ R') (e3 : far X' Y' D' x3 y3 ≤ R') :
  D' * D' * R + ((D * X' - D' * X) * (D * X' - D' * X) + (D * Y' - D' * Y) * (D * Y' - D' * Y)) ≤ D * D * R' := by
 have h := opt (R := R) (s1 := 0) (s2 := 0) (s3 := 0) b (by omega) (by omega) (by omega) e1 e2 e3
 simp only [Int.mul_zero, Int.add_zero] at h
 have := Int.nonneg_of_mul_nonneg_right (a := l1 + l2 + l3) h b.pos
 omega
theorem greater {l1 l2 l3 X Y D x1 y1 x2 y2 x3 y3 R X' Y' D' R' : Int} (b : Bal l1 l2 l3 X Y D x1 y1 x2 y2 x3 y3) (hD : 0 < D')
  (f1 : far X Y D x1 y1 = R) (f2 : far X Y D x2 y2 = R) (f3 : R < far X Y D x3 y3)
  (e1 : far X' Y' D' x1 y1 ≤ R') (e2 : far X' Y' D' x2 y2 ≤ R') (e3 : far X' Y' D' x3 y3 ≤ R') :
  D' * D' * R < D * D * R' := by
 have hDD : 0 < D' * D' := Int.mul_pos hD hD
 obtain ⟨s, hs⟩ : ∃ s, far X Y D x3 y3 = R + s := ⟨far X Y D x3 y3 - R, by omega⟩
 have hs0 : 0 < s := by omega
 have h := opt (R := R) (s1 := 0) (s2 := 0) (s3 := s) b (by omega) (by omega) hs e1 e2 e3
 simp only [Int.mul_zero, Int.zero_add] at h
 have hz := ssq_nonneg (D * X' - D' * X) (D * Y' - D' * Y)
 by_cases h3 : l3 = 0
 ·rw [h3] at h
  simp only [Int.zero_mul, Int.mul_zero] at h
  have h' := Int.nonneg_of_mul_nonneg_right (a := l1 + l2 + 0) h (by have := b.pos; omega)
  by_cases hlt : D' * D' * R < D * D * R'
  ·exact hlt
  ·exfalso
   have z0 := ssq_zero (a := D * X' - D' * X) (b := D * Y' - D' * Y) (by omega)
   have e : D * D * far X' Y' D' x3 y3 = D' * D' * far X Y D x3 y3 := by
    have z1 := z0.1
    have z2 := z0.2
    unfold far
    grind
   have a := Int.mul_le_mul_of_nonneg_left e3 (sq_nonneg D)
   rw [e, hs] at a
   have : D' * D' * (R + s) = D' * D' * R + D' * D' * s := by grind
   have := Int.mul_pos hDD hs0
   omega
 ·have hl : 0 < l3 := by have := b.n3; omega
  have a := Int.mul_pos hDD (Int.mul_pos hl hs0)
  have h' := Int.pos_of_mul_pos_right (a := l1 + l2 + l3) (b := D * D * R' - D' * D' * R - ((D * X' - D' * X) * (D * X' - D' * X) + (D * Y' - D' * Y) * (D * Y' - D' * Y))) (by omega) (by have := b.pos; omega)
  omega
end Go.Proofs.Ytplhfbkejngioaa.Geo
