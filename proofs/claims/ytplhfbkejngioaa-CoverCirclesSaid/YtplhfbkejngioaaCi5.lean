/- The plain statement of CoverCircles: Enclose returns the smallest circle and a support of it. Texts of this claim's session, put together: RefA, Ref1, Move, Hull, Hull2, Check, PureCoverCircles. -/
import Derived.Test.YtplhfbkejngioaaBd4
import Derived.Test.YtplhfbkejngioaaBd13
import Derived.Test.YtplhfbkejngioaaCi3
import Derived.Test.YtplhfbkejngioaaCi4
import Derived.Test.YtplhfbkejngioaaBd5
import Derived.Test.YtplhfbkejngioaaCi1
import Derived.Test.YtplhfbkejngioaaCi2
import Derived.Test.YtplhfbkejngioaaUWords
import Derived.Test.YtplhfbkejngioaaULast
import Derived.Test.YtplhfbkejngioaaUTab
import Derived.Test.YtplhfbkejngioaaURepsOne
namespace Go.Proofs.Ytplhfbkejngioaa.X
open Go.RowKit Go.Proofs.YtplhfbkejngioaaW.PrintWords Go.Proofs.YtplhfbkejngioaaW.PrintLast Go.Proofs.Ytplhfbkejngioaa.S Go.Proofs.Ytplhfbkejngioaa.Open
set_option linter.unusedVariables false
theorem awake_ev : Ev tickinglaw01_awake.f true := Ev.of tickinglaw01_awake.mono (k := 1) (by decide +kernel)
theorem inside_f (a : Int) : tickingref01_Inside.f a = some (inC a) := by
 unfold tickingref01_Inside.f inC
 by_cases h : -256 ≤ a
 ·rw [if_pos h]; simp [h]
 ·rw [if_neg h]; simp [h]
theorem rd28_get {l : List S28} {i : Nat} (h : i < l.length) : rd_T28 l (i : Int) = l[i] := by simp [rd_T28, h]
theorem next_i {i n : Nat} (h : i < n) (hn : n ≤ 9223372036854775807) : wrap64 ((i : Int) + 1) = ((i + 1 : Nat) : Int) := by rw [w64 (by omega) (by omega)]; omega
end Go.Proofs.Ytplhfbkejngioaa.X
namespace Go.Proofs.Ytplhfbkejngioaa.X
open Go.RowKit Go.Proofs.YtplhfbkejngioaaW.PrintWords Go.Proofs.YtplhfbkejngioaaW.PrintLast Go.Proofs.Ytplhfbkejngioaa.S Go.Proofs.Ytplhfbkejngioaa.Open
set_option linter.unusedVariables false
theorem point_f (a b : Int) : tickingref01_Point.f a b = some (isP ⟨a, b⟩) := by
 unfold tickingref01_Point.f isP
 rw [inside_f, inside_f]
 simp only [Option.bind_some]
 cases inC a <;> simp
def rangeC (c : Ci) : Bool := decide (1 ≤ c.D) && decide (c.D ≤ 1048576) && (decide (-536870912 ≤ c.X) && decide (c.X ≤ 536870912)) && (decide (-536870912 ≤ c.Y) && decide (c.Y ≤ 536870912)) && (decide (0 ≤ c.R) && decide (c.R ≤ 1152921504606846976))
def validC (c : Ci) : Bool := rangeC c && (gcd3 c == 1)
theorem rangeC_bd {c : Ci} (h : rangeC c = true) : 1 ≤ c.D ∧ c.D ≤ 1048576 ∧ -536870912 ≤ c.X ∧ c.X ≤ 536870912 ∧ -536870912 ≤ c.Y ∧ c.Y ≤ 536870912 ∧ 0 ≤ c.R ∧ c.R ≤ 1152921504606846976 := by
 simp only [rangeC, Bool.and_eq_true, decide_eq_true_eq] at h; omega
theorem rangeC_ok {c : Ci} (h : rangeC c = true) : okC c := by
 have := rangeC_bd h; unfold okC; omega
theorem validC_range {c : Ci} (h : validC c = true) : rangeC c = true := by
 unfold validC at h; simp only [Bool.and_eq_true] at h; exact h.1
theorem isCircle_ev (c : Ci) : Ev (fun k => cover_isCircle.f k c.X c.Y c.D c.R) (validC c) := by
 by_cases h : rangeC c = true
 ·have b := rangeC_bd h
  have hgl : Nat.gcd c.X.natAbs c.Y.natAbs ≤ 536870912 := by
   rcases Nat.eq_zero_or_pos c.X.natAbs with h | h
   ·rw [h, Nat.gcd_zero_left]; omega
   ·have := Nat.gcd_le_left c.Y.natAbs h; omega
  have e1 := gcd_ev c.X c.Y (by omega) (by omega)
  have e2 := gcd_ev ((Nat.gcd c.X.natAbs c.Y.natAbs : Nat) : Int) c.D (by omega) (by omega)
  refine Ev.congr (f := fun k => (cover_gcd.f k c.X c.Y).bind fun t472 => ((cover_gcd.f k t472 c.D).bind fun t473 => (some (t473 == 1)))) (fun k => ?_) (Ev.bind e1 (Ev.bind e2 ?_))
  ·unfold cover_isCircle.f
   rw [within_f, within_f, within_f, within_f]
   simp only [rangeC, Bool.and_eq_true] at h
   obtain ⟨⟨⟨⟨h1, h2⟩, h3⟩, h4⟩, h5⟩ := h
   simp [h1, h2, h3.1, h3.2, h4.1, h4.2, h5.1, h5.2]
  ·have : validC c = (((Nat.gcd (((Nat.gcd c.X.natAbs c.Y.natAbs : Nat) : Int)).natAbs c.D.natAbs : Nat) : Int) == 1) := by
    unfold validC; rw [h, Bool.true_and]; rfl
   rw [this]; exact Ev.now _
 ·have hv : validC c = false := by unfold validC; rw [Bool.eq_false_iff.2 h]; rfl
  rw [hv]
  refine ⟨0, fun k _ => ?_⟩
  unfold cover_isCircle.f
  rw [within_f, within_f, within_f, within_f]
  have h' : rangeC c = false := Bool.eq_false_iff.2 h
  unfold rangeC at h'
  by_cases h1 : (decide (1 ≤ c.D) && decide (c.D ≤ 1048576)) = true
  ·rw [h1] at h' ⊢
   by_cases h2 : (decide (-536870912 ≤ c.X) && decide (c.X ≤ 536870912)) = true
   ·rw [h2] at h' ⊢
    by_cases h3 : (decide (-536870912 ≤ c.Y) && decide (c.Y ≤ 536870912)) = true
    ·rw [h3] at h' ⊢
     simp only [Bool.and_self, Bool.true_and] at h'
     rw [h']; rfl
    ·rw [Bool.eq_false_iff.2 h3]; rfl
   ·rw [Bool.eq_false_iff.2 h2]; rfl
  ·rw [Bool.eq_false_iff.2 h1]; rfl
theorem rgcd_l0 : ∀ (n : Nat) (a b : Nat), b ≤ n → Ev (fun k => tickingref01_gcd.l0 k (a : Int) (b : Int)) ((Nat.gcd a b : Nat) : Int) := by
 intro n
 induction n with
 | zero =>
  intro a b hn
  obtain rfl : b = 0 := by omega
  refine Ev.step (f := fun _ => some _) (fun k => ?_) (Ev.now _)
  simp only [tickingref01_gcd.l0]
  rw [if_neg (by simp), Nat.gcd_zero_right]
 | succ n ih =>
  intro a b hn
  by_cases h0 : b = 0
  ·subst h0; exact ih a 0 (Nat.zero_le _)
  ·have ht : Int.tmod (a : Int) (b : Int) = ((a % b : Nat) : Int) := by
    rw [Int.tmod_eq_emod_of_nonneg (by omega)]; exact (Int.natCast_emod _ _).symm
   have hlt : a % b < b := Nat.mod_lt _ (by omega)
   have := ih b (a % b) (by omega)
   refine Ev.step (f := fun k => tickingref01_gcd.l0 k (b : Int) ((a % b : Nat) : Int)) (fun k => ?_) ?_
   ·simp only [tickingref01_gcd.l0]; rw [if_pos (by omega), if_neg (by omega), ht]
   ·have e : Nat.gcd a b = Nat.gcd b (a % b) := by
     rw [Nat.gcd_comm, Nat.gcd_rec, Nat.gcd_comm]
    rw [e]; exact this
theorem rgcd_ev (a b : Nat) : Ev (fun k => tickingref01_gcd.f k (a : Int) (b : Int)) ((Nat.gcd a b : Nat) : Int) := rgcd_l0 b a b (Nat.le_refl _)
theorem abs_f {a : Int} (h : -9223372036854775808 < a ∧ a ≤ 9223372036854775807) : tickingref01_absolute.f a = some ((a.natAbs : Nat) : Int) := by
 unfold tickingref01_absolute.f
 rw [w64 (by omega) (by omega)]
 unfold mx
 congr 1
 split <;> omega
theorem valid_ev (c : Ci) : Ev (fun k => tickingref01_Valid.f k c.X c.Y c.D c.R) (validC c) := by
 by_cases h : rangeC c = true
 ·have b := rangeC_bd h
  refine Ev.congr (f := fun k => tickingref01_Valid.j0 k false c.X c.Y c.D c.R) (fun k => ?_) (Ev.step (fun k => rfl) ?_)
  ·unfold tickingref01_Valid.f
   rw [if_neg (by omega), if_neg (by omega), if_neg (by omega), if_neg (by omega), if_neg (by omega), if_neg (by omega), if_neg (by omega)]
   have : decide (c.R > 1152921504606846976) = false := by simp; omega
   rw [this]
  ·have hD : (c.D.natAbs : Int) = c.D := by omega
   have e1 := rgcd_ev c.X.natAbs c.Y.natAbs
   have e2 := rgcd_ev (Nat.gcd c.X.natAbs c.Y.natAbs) c.D.natAbs
   rw [hD] at e2
   refine Ev.congr (f := fun k => (tickingref01_gcd.f k (c.X.natAbs : Int) (c.Y.natAbs : Int)).bind fun t357 => ((tickingref01_gcd.f k t357 c.D).bind fun t358 => (some (t358 == 1)))) (fun k => ?_) (Ev.bind e1 (Ev.bind e2 ?_))
   ·have a1 := abs_f (a := c.X) (by omega)
    have a2 := abs_f (a := c.Y) (by omega)
    simp only [tickingref01_Valid.j0]
    rw [if_neg Bool.false_ne_true, a1, a2]
    rfl
   ·have : validC c = (((Nat.gcd (Nat.gcd c.X.natAbs c.Y.natAbs) c.D.natAbs : Nat) : Int) == 1) := by
     unfold validC; rw [h, Bool.true_and]; rfl
    rw [this]; exact Ev.now _
 ·have hv : validC c = false := by unfold validC; rw [Bool.eq_false_iff.2 h]; rfl
  rw [hv]
  have key : ∀ k, tickingref01_Valid.f k c.X c.Y c.D c.R = tickingref01_Valid.j0 k true c.X c.Y c.D c.R := by
   intro k
   unfold tickingref01_Valid.f
   by_cases h1 : c.D < 1
   ·rw [if_pos h1]
   rw [if_neg h1]
   by_cases h2 : c.D > 1048576
   ·rw [if_pos h2]
   rw [if_neg h2]
   by_cases h3 : c.X < -536870912
   ·rw [if_pos h3]
   rw [if_neg h3]
   by_cases h4 : c.X > 536870912
   ·rw [if_pos h4]
   rw [if_neg h4]
   by_cases h5 : c.Y < -536870912
   ·rw [if_pos h5]
   rw [if_neg h5]
   by_cases h6 : c.Y > 536870912
   ·rw [if_pos h6]
   rw [if_neg h6]
   by_cases h7 : c.R < 0
   ·rw [if_pos h7]
   rw [if_neg h7]
   have : decide (c.R > 1152921504606846976) = true := by
    by_cases h8 : c.R > 1152921504606846976
    ·simp [h8]
    ·exact absurd (show rangeC c = true by simp only [rangeC, Bool.and_eq_true, decide_eq_true_eq]; omega) h
   rw [this]
  refine Ev.congr key (Ev.step (f := fun _ => some false) (fun k => ?_) (Ev.now _))
  simp only [tickingref01_Valid.j0, if_true]
theorem far_f {c : Ci} (hc : okC c) {p : S28} (hp : isP p = true) : tickingref01_Far.f c.X c.Y c.D c.R p.f0 p.f1 = some (farC c p) := by
 have h := vec_bd hc hp
 have hf := far_bd hc hp
 have m0 := sq_bd h.2.2.1.1 h.2.2.1.2
 have m1 := sq_bd h.2.2.2.1 h.2.2.2.2
 unfold tickingref01_Far.f
 unfold farC at hf ⊢
 rw [Int.mul_comm p.f0, Int.mul_comm p.f1, w64 (x := c.D * p.f0) (by omega) (by omega), w64 (x := c.D * p.f1) (by omega) (by omega), w64 (x := c.D * p.f0 - c.X) (by omega) (by omega), w64 (x := c.D * p.f1 - c.Y) (by omega) (by omega)]
 rw [w64 (x := (c.D * p.f0 - c.X) * (c.D * p.f0 - c.X)) (by omega) (by omega), w64 (x := (c.D * p.f1 - c.Y) * (c.D * p.f1 - c.Y)) (by omega) (by omega), w64 (by omega) (by omega)]
end Go.Proofs.Ytplhfbkejngioaa.X
namespace Go.Proofs.Ytplhfbkejngioaa.X
open Go.RowKit Go.Proofs.YtplhfbkejngioaaW.PrintWords Go.Proofs.YtplhfbkejngioaaW.PrintLast Go.Proofs.Ytplhfbkejngioaa.S Go.Proofs.Ytplhfbkejngioaa.Geo
set_option linter.unusedVariables false
theorem dvd_gcd3 {g : Int} {c : Ci} (h1 : g ∣ c.X) (h2 : g ∣ c.Y) (h3 : g ∣ c.D) : g ∣ gcd3 c := by
 unfold gcd3
 rw [← Int.natAbs_dvd_natAbs] at *
 exact Nat.dvd_gcd (Nat.dvd_gcd h1 h2) h3
theorem one_of {c c' : Ci} (h : gcd3 c = 1) (hD : c'.D ≠ 0) (hd : ∀ g, g ∣ c'.X → g ∣ c'.Y → g ∣ c'.D → g ∣ c.X ∧ g ∣ c.Y ∧ g ∣ c.D) : gcd3 c' = 1 := by
 obtain ⟨X, Y, D, R⟩ := c'
 obtain ⟨h1, h2, h3⟩ := hd _ (gcd3_dX X Y D R) (gcd3_dY X Y D R) (gcd3_dD X Y D R)
 have h4 := dvd_gcd3 h1 h2 h3
 rw [h] at h4
 have h5 := gcd3_pos X Y D R hD
 exact Int.eq_one_of_dvd_one (Int.le_of_lt h5) h4
theorem Best.map {l : List S28} {c c' : Ci} (T : S28 → S28) (h : Best l c) (hD : c'.D = c.D) (hR : c'.R = c.R) (hf : ∀ p, farC c' (T p) = farC c p) (hg : gcd3 c' = 1)
  (hb : ∀ l1 l2 l3 p q r, BalC c l1 l2 l3 p q r → BalC c' l1 l2 l3 (T p) (T q) (T r)) : Best (l.map T) c' := by
 obtain ⟨p, q, r, hp, hq, hr, S⟩ := h.sup
 obtain ⟨l1, l2, l3, b⟩ := S.bal
 refine ⟨fun x hx => ?_, T p, T q, T r, List.mem_map_of_mem hp, List.mem_map_of_mem hq, List.mem_map_of_mem hr, ⟨?_, hg, ?_, ?_, ?_, l1, l2, l3, hb _ _ _ _ _ _ b⟩⟩
 ·obtain ⟨y, hy, rfl⟩ := List.mem_map.1 hx
  rw [hf, hR]; exact h.enc y hy
 ·rw [hD]; exact S.pos
 ·rw [hf, hR]; exact S.fp
 ·rw [hf, hR]; exact S.fq
 ·rw [hf, hR]; exact S.fr
theorem cand_ok {l : List S28} (hl : 0 < l.length) (hP : l.all isP = true) {x : Cand} (hx : x ∈ cands l) : okC x.c := by
 have hp : ∀ i : Nat, i < l.length → isP (pt l i) = true := fun i hi => by
  rw [List.all_eq_true] at hP
  refine hP _ ?_
  unfold pt
  rw [List.getD_eq_getElem?_getD, List.getElem?_eq_getElem hi]
  exact List.getElem_mem hi
 rcases cands_cases hx with rfl | ⟨i, j, hij, hj, rfl⟩ | ⟨i, j, k, hij, hjk, hk, hc, hin, rfl⟩
 ·have := isP_bd (hp 0 hl)
  unfold okC; simp only; omega
 ·exact bet_ok (hp i (by omega)) (hp j hj)
 ·exact thr_ok (hp i (by omega)) (hp j (by omega)) (hp k hk) hc
theorem bal_bd {l1 l2 l3 D X x1 x2 x3 : Int} (h1 : 0 ≤ l1) (h2 : 0 ≤ l2) (h3 : 0 ≤ l3) (hs : 0 < l1 + l2 + l3) (hD : 0 < D)
  (h : l1 * (D * x1 - X) + l2 * (D * x2 - X) + l3 * (D * x3 - X) = 0) (b1 : x1 ≤ 256) (b2 : x2 ≤ 256) (b3 : x3 ≤ 256) : X ≤ 256 * D := by
 refine Int.not_lt.1 fun hX => ?_
 have t : ∀ l x : Int, 0 ≤ l → x ≤ 256 → l * (D * x - X) ≤ -l := by
  intro l x hl hx
  have a : D * x ≤ D * 256 := Int.mul_le_mul_of_nonneg_left hx (by omega)
  have b : l * (D * x - X) ≤ l * (-1) := Int.mul_le_mul_of_nonneg_left (by omega) hl
  omega
 have := t l1 x1 h1 b1
 have := t l2 x2 h2 b2
 have := t l3 x3 h3 b3
 omega
theorem best_range {l : List S28} (hP : l.all isP = true) {c : Ci} (h : Best l c) (hD : c.D ≤ 1048576) : rangeC c = true := by
 obtain ⟨p, q, r, hp, hq, hr, S⟩ := h.sup
 obtain ⟨l1, l2, l3, b⟩ := S.bal
 rw [List.all_eq_true] at hP
 have bp := isP_bd (hP p hp)
 have bq := isP_bd (hP q hq)
 have br := isP_bd (hP r hr)
 have n1 := b.n1
 have n2 := b.n2
 have n3 := b.n3
 have D0 := S.pos
 have x1 := bal_bd n1 n2 n3 b.pos D0 b.hx (by omega) (by omega) (by omega)
 have y1 := bal_bd n1 n2 n3 b.pos D0 b.hy (by omega) (by omega) (by omega)
 have neg : ∀ x X : Int, c.D * -x - -X = -(c.D * x - X) := fun x X => by grind
 have x2 : -c.X ≤ 256 * c.D := bal_bd (x1 := -p.f0) (x2 := -q.f0) (x3 := -r.f0) n1 n2 n3 b.pos D0 (by have := b.hx; simp only [neg]; simp only [Int.mul_neg]; omega) (by omega) (by omega) (by omega)
 have y2 : -c.Y ≤ 256 * c.D := bal_bd (x1 := -p.f1) (x2 := -q.f1) (x3 := -r.f1) n1 n2 n3 b.pos D0 (by have := b.hy; simp only [neg]; simp only [Int.mul_neg]; omega) (by omega) (by omega) (by omega)
 have m0 := mul_bd (A := 1048576) (B := 256) (a := c.D) (b := p.f0) (by omega) (by omega) (by omega) (by omega)
 have m1 := mul_bd (A := 1048576) (B := 256) (a := c.D) (b := p.f1) (by omega) (by omega) (by omega) (by omega)
 have s0 := sq_bd (A := 536870912) (a := c.D * p.f0 - c.X) (by omega) (by omega)
 have s1 := sq_bd (A := 536870912) (a := c.D * p.f1 - c.Y) (by omega) (by omega)
 have fp := S.fp
 unfold farC at fp
 unfold rangeC
 simp only [Bool.and_eq_true, decide_eq_true_eq]
 omega
theorem best_valid {l : List S28} (hP : l.all isP = true) {c : Ci} (h : Best l c) (hD : c.D ≤ 1048576) : validC c = true := by
 unfold validC
 rw [best_range hP h hD, h.one]; rfl
theorem enclose_best {l : List S28} (h : arePs l = true) : ∃ x, cover_Enclose.f l = some (x.c.X, x.c.Y, x.c.D, x.c.R, x.s, 0) ∧ x ∈ cands l ∧ Best l x.c ∧ validC x.c = true ∧ okC x.c := by
 have ha := h
 unfold arePs at h
 simp only [Bool.and_eq_true, decide_eq_true_eq] at h
 obtain ⟨x, e, hm, he⟩ := enclose_some (l := l) (by omega)
 have ok := cand_ok (by omega) h.2 hm
 have hb := best_of (by omega) hm he
 refine ⟨x, ?_, hm, hb, best_valid h.2 hb ok.2.1, ok⟩
 unfold cover_Enclose.f
 rw [if_pos ha, e]
end Go.Proofs.Ytplhfbkejngioaa.X
namespace Go.Proofs.Ytplhfbkejngioaa.X
open Go.RowKit Go.Proofs.YtplhfbkejngioaaW.PrintWords Go.Proofs.YtplhfbkejngioaaW.PrintLast Go.Proofs.Ytplhfbkejngioaa.S Go.Proofs.Ytplhfbkejngioaa.Geo
set_option linter.unusedVariables false
set_option linter.unusedSimpArgs false
theorem rcross_f {c : Ci} (hc : okC c) {p q : S28} (hp : isP p = true) (hq : isP q = true) : tickingref01_cross.f c.X c.Y c.D c.R p.f0 p.f1 q.f0 q.f1 = some (crsC c p q) := by
 have h := vec_bd hc hp
 have g := vec_bd hc hq
 have m0 := mul_bd (A := 1342177280) (B := 1342177280) (a := c.D * p.f0 - c.X) (b := c.D * q.f1 - c.Y) (by omega) (by omega) (by omega) (by omega)
 have m1 := mul_bd (A := 1342177280) (B := 1342177280) (a := c.D * p.f1 - c.Y) (b := c.D * q.f0 - c.X) (by omega) (by omega) (by omega) (by omega)
 unfold tickingref01_cross.f crsC
 rw [Int.mul_comm p.f0, Int.mul_comm p.f1, Int.mul_comm q.f0, Int.mul_comm q.f1, w64 (x := c.D * p.f0) (by omega) (by omega), w64 (x := c.D * p.f1) (by omega) (by omega), w64 (x := c.D * q.f0) (by omega) (by omega), w64 (x := c.D * q.f1) (by omega) (by omega),
  w64 (x := c.D * p.f0 - c.X) (by omega) (by omega), w64 (x := c.D * p.f1 - c.Y) (by omega) (by omega), w64 (x := c.D * q.f0 - c.X) (by omega) (by omega), w64 (x := c.D * q.f1 - c.Y) (by omega) (by omega)]
 rw [w64 (x := (c.D * p.f0 - c.X) * (c.D * q.f1 - c.Y)) (by omega) (by omega), w64 (x := (c.D * p.f1 - c.Y) * (c.D * q.f0 - c.X)) (by omega) (by omega), w64 (by omega) (by omega)]
theorem rbetween_f {c : Ci} (hc : okC c) {p q : S28} (hp : isP p = true) (hq : isP q = true) : tickingref01_between.f c.X c.Y c.D c.R p.f0 p.f1 q.f0 q.f1 = some (decide (crsC c p q = 0) && decide (dotC c p q ≤ 0)) := by
 have h := vec_bd hc hp
 have g := vec_bd hc hq
 have m0 := mul_bd (A := 1342177280) (B := 1342177280) (a := c.D * p.f0 - c.X) (b := c.D * q.f0 - c.X) (by omega) (by omega) (by omega) (by omega)
 have m1 := mul_bd (A := 1342177280) (B := 1342177280) (a := c.D * p.f1 - c.Y) (b := c.D * q.f1 - c.Y) (by omega) (by omega) (by omega) (by omega)
 unfold tickingref01_between.f
 rw [rcross_f hc hp hq, Option.bind_some]
 unfold dotC
 by_cases h0 : crsC c p q = 0
 ·rw [if_pos h0, decide_eq_true h0, Bool.true_and]
  rw [Int.mul_comm p.f0, Int.mul_comm p.f1, Int.mul_comm q.f0, Int.mul_comm q.f1, w64 (x := c.D * p.f0) (by omega) (by omega), w64 (x := c.D * p.f1) (by omega) (by omega), w64 (x := c.D * q.f0) (by omega) (by omega), w64 (x := c.D * q.f1) (by omega) (by omega),
   w64 (x := c.D * p.f0 - c.X) (by omega) (by omega), w64 (x := c.D * p.f1 - c.Y) (by omega) (by omega), w64 (x := c.D * q.f0 - c.X) (by omega) (by omega), w64 (x := c.D * q.f1 - c.Y) (by omega) (by omega)]
  rw [w64 (x := (c.D * p.f0 - c.X) * (c.D * q.f0 - c.X)) (by omega) (by omega), w64 (x := (c.D * p.f1 - c.Y) * (c.D * q.f1 - c.Y)) (by omega) (by omega), w64 (by omega) (by omega)]
 ·rw [if_neg h0, decide_eq_false h0, Bool.false_and]
def sgn (x : Int) : Int := if x > 0 then 1 else if x < 0 then -1 else 0
theorem sign_f (x : Int) : tickingref01_sign.f x = some (sgn x) := by
 unfold tickingref01_sign.f sgn
 by_cases h : x > 0
 ·rw [if_pos h, if_pos h]
 ·rw [if_neg h, if_neg h]
  by_cases h1 : x < 0
  ·rw [if_pos h1, if_pos h1]
  ·rw [if_neg h1, if_neg h1]
def hB (c : Ci) (m : List S28) (i j : Nat) : Prop := crsC c (pt m i) (pt m j) = 0 ∧ dotC c (pt m i) (pt m j) ≤ 0 ∧ (i ≠ j ∨ farC c (pt m i) = 0)
theorem rd_pt_i {m : List S28} {i : Nat} (h : i < m.length) : rd_T28 m (i : Int) = pt m i := by rw [rd28_get h]; unfold pt; simp [h]
theorem hull_l1 {c : Ci} (hc : okC c) {m : List S28} (hP : m.all isP = true) (hn : m.length ≤ 1000) (F : Prop) {i : Nat} (hi : i < m.length)
  (hnext : ∀ v : Bool, (v = true ↔ ((∃ i' j', i + 1 ≤ i' ∧ j' ≤ i' ∧ i' < m.length ∧ hB c m i' j') ∨ F)) → Ev (fun k => tickingref01_Hull.l0 k m ((i + 1 : Nat) : Int) c.X c.Y c.D c.R) v) :
  ∀ (e j : Nat), j + e = i + 1 → ∀ v : Bool, (v = true ↔ ((∃ i' j', (i + 1 ≤ i' ∨ i' = i ∧ j ≤ j') ∧ j' ≤ i' ∧ i' < m.length ∧ hB c m i' j') ∨ F)) → Ev (fun k => tickingref01_Hull.l1 k m (i : Int) (j : Int) c.X c.Y c.D c.R) v
 | 0, j, h, v, hv => by
  refine Ev.step (f := fun k => tickingref01_Hull.l0 k m ((i + 1 : Nat) : Int) c.X c.Y c.D c.R) (fun k => ?_) (hnext v ?_)
  ·simp only [tickingref01_Hull.l1]
   rw [if_neg (by omega), next_i hi (by omega)]
  ·rw [hv]
   constructor
   ·rintro (⟨i', j', h1, h2, h3, h4⟩ | h)
    ·exact Or.inl ⟨i', j', by omega, h2, h3, h4⟩
    ·exact Or.inr h
   ·rintro (⟨i', j', h1, h2, h3, h4⟩ | h)
    ·exact Or.inl ⟨i', j', Or.inl h1, h2, h3, h4⟩
    ·exact Or.inr h
 | e + 1, j, h, v, hv => by
  have hj : j ≤ i := by omega
  have pi := pt_isP hP hi
  have pj := pt_isP hP (show j < m.length by omega)
  have ih := hull_l1 hc hP hn F hi hnext e (j + 1) (by omega)
  have g0 : (j : Int) ≤ (i : Int) := by omega
  have g1 : (0 : Int) ≤ (i : Int) := by omega
  have g2 : (i : Int) < (m.length : Int) := by omega
  have g3 : (0 : Int) ≤ (j : Int) := by omega
  have g4 : (j : Int) < (m.length : Int) := by omega
  have key : ∀ k, tickingref01_Hull.l1 (k + 1) m (i : Int) (j : Int) c.X c.Y c.D c.R = if crsC c (pt m i) (pt m j) = 0 ∧ dotC c (pt m i) (pt m j) ≤ 0 ∧ (i ≠ j ∨ farC c (pt m i) = 0) then some true else tickingref01_Hull.l1 k m (i : Int) ((j + 1 : Nat) : Int) c.X c.Y c.D c.R := by
   intro k
   conv => lhs; simp only [tickingref01_Hull.l1]
   rw [if_pos g0, if_pos g1, if_pos g2, if_pos g3, if_pos g4, rd_pt_i hi, rd_pt_i (show j < m.length by omega), rbetween_f hc pi pj, far_f hc pi, next_i (show j < m.length by omega) (by omega)]
   simp only [Option.bind_some]
   by_cases a : crsC c (pt m i) (pt m j) = 0
   ·by_cases b : dotC c (pt m i) (pt m j) ≤ 0
    ·by_cases d : i = j
     ·by_cases f : farC c (pt m i) = 0
      ·simp [a, b, d, f]
       subst d
       simp [f]
      ·subst d
       simp [a, b, f]
     ·have d' : ¬ ((i : Int) = (j : Int)) := by omega
      simp [a, b, d, d']
    ·simp [a, b]
   ·simp [a]
  by_cases hb : hB c m i j
  ·have hv' : v = true := hv.2 (Or.inl ⟨i, j, Or.inr ⟨rfl, Nat.le_refl _⟩, hj, hi, hb⟩)
   rw [hv']
   refine Ev.step (f := fun _ => some true) (fun k => ?_) (Ev.now _)
   rw [key]
   exact if_pos hb
  ·refine Ev.step (fun k => (key k).trans (if_neg hb)) (ih v ?_)
   rw [hv]
   constructor
   ·rintro (⟨i', j', h1, h2, h3, h4⟩ | h)
    ·refine Or.inl ⟨i', j', ?_, h2, h3, h4⟩
     rcases h1 with h1 | ⟨h1, h5⟩
     ·exact Or.inl h1
     ·rcases Nat.lt_or_eq_of_le h5 with h5 | h5
      ·exact Or.inr ⟨h1, h5⟩
      ·subst h1 h5; exact absurd h4 hb
    ·exact Or.inr h
   ·rintro (⟨i', j', h1, h2, h3, h4⟩ | h)
    ·exact Or.inl ⟨i', j', by omega, h2, h3, h4⟩
    ·exact Or.inr h
theorem hull_l0 {c : Ci} (hc : okC c) {m : List S28} (hP : m.all isP = true) (hn : m.length ≤ 1000) (F : Prop)
  (hfin : ∀ v : Bool, (v = true ↔ F) → Ev (fun k => tickingref01_Hull.l0 k m (m.length : Int) c.X c.Y c.D c.R) v) :
  ∀ (d i : Nat), i + d = m.length → ∀ v : Bool, (v = true ↔ ((∃ i' j', i ≤ i' ∧ j' ≤ i' ∧ i' < m.length ∧ hB c m i' j') ∨ F)) → Ev (fun k => tickingref01_Hull.l0 k m (i : Int) c.X c.Y c.D c.R) v
 | 0, i, h, v, hv => by
  obtain rfl : i = m.length := by omega
  refine hfin v ?_
  rw [hv]
  constructor
  ·rintro (⟨i', j', h1, h2, h3, h4⟩ | h)
   ·omega
   ·exact h
  ·exact Or.inr
 | d + 1, i, h, v, hv => by
  have hi : i < m.length := by omega
  have ih := hull_l0 hc hP hn F hfin d (i + 1) (by omega)
  refine Ev.step (f := fun k => tickingref01_Hull.l1 k m (i : Int) ((0 : Nat) : Int) c.X c.Y c.D c.R) (fun k => ?_) (hull_l1 hc hP hn F hi ih (i + 1) 0 (by omega) v ?_)
  ·simp only [tickingref01_Hull.l0]
   rw [if_pos (by omega)]
   rfl
  ·rw [hv]
   constructor
   ·rintro (⟨i', j', h1, h2, h3, h4⟩ | h)
    ·exact Or.inl ⟨i', j', by omega, h2, h3, h4⟩
    ·exact Or.inr h
   ·rintro (⟨i', j', h1, h2, h3, h4⟩ | h)
    ·exact Or.inl ⟨i', j', by omega, h2, h3, h4⟩
    ·exact Or.inr h
def hullF (c : Ci) (m : List S28) : Prop := m.length = 3 ∧ ((0 < crsC c (pt m 0) (pt m 1) ∧ 0 < crsC c (pt m 1) (pt m 2) ∧ 0 < crsC c (pt m 2) (pt m 0)) ∨ (crsC c (pt m 0) (pt m 1) < 0 ∧ crsC c (pt m 1) (pt m 2) < 0 ∧ crsC c (pt m 2) (pt m 0) < 0))
theorem hull_fin {c : Ci} (hc : okC c) {m : List S28} (hP : m.all isP = true) (hn : m.length ≤ 3) (v : Bool) (hv : v = true ↔ hullF c m) : Ev (fun k => tickingref01_Hull.l0 k m (m.length : Int) c.X c.Y c.D c.R) v := by
 refine Ev.step (f := fun _ => some v) (fun k => ?_) (Ev.now _)
 simp only [tickingref01_Hull.l0]
 rw [if_neg (by omega)]
 by_cases h3 : m.length = 3
 ·have p0 := pt_isP hP (show 0 < m.length by omega)
  have p1 := pt_isP hP (show 1 < m.length by omega)
  have p2 := pt_isP hP (show 2 < m.length by omega)
  have r0 := rd_pt_i (show 0 < m.length by omega)
  have r1 := rd_pt_i (show 1 < m.length by omega)
  have r2 := rd_pt_i (show 2 < m.length by omega)
  rw [show ((0 : Nat) : Int) = 0 from rfl] at r0
  rw [show ((1 : Nat) : Int) = 1 from rfl] at r1
  rw [show ((2 : Nat) : Int) = 2 from rfl] at r2
  rw [if_neg (by omega), if_pos (by omega), if_pos (by omega), r0, r1, r2, rcross_f hc p0 p1, rcross_f hc p1 p2, rcross_f hc p2 p0]
  simp only [Option.bind_some, sign_f]
  rw [if_pos (by omega)]
  have hF : v = true ↔ (sgn (crsC c (pt m 0) (pt m 1)) ≠ 0 ∧ sgn (crsC c (pt m 0) (pt m 1)) = sgn (crsC c (pt m 1) (pt m 2)) ∧ sgn (crsC c (pt m 1) (pt m 2)) = sgn (crsC c (pt m 2) (pt m 0))) := by
   rw [hv]
   unfold hullF
   have sg : ∀ x : Int, (sgn x = 1 ∧ 0 < x) ∨ (sgn x = -1 ∧ x < 0) ∨ (sgn x = 0 ∧ x = 0) := by
    intro x
    unfold sgn
    by_cases g0 : x > 0
    ·rw [if_pos g0]; omega
    ·rw [if_neg g0]
     by_cases g1 : x < 0
     ·rw [if_pos g1]; omega
     ·rw [if_neg g1]; omega
   have s0 := sg (crsC c (pt m 0) (pt m 1))
   have s1 := sg (crsC c (pt m 1) (pt m 2))
   have s2 := sg (crsC c (pt m 2) (pt m 0))
   omega
  generalize sgn (crsC c (pt m 0) (pt m 1)) = a at *
  generalize sgn (crsC c (pt m 1) (pt m 2)) = b at *
  generalize sgn (crsC c (pt m 2) (pt m 0)) = d at *
  by_cases h0 : a = 0
  ·rw [if_pos h0]
   have : v = false := by rw [← Bool.not_eq_true, hF]; exact fun h => h.1 h0
   rw [this]
  ·rw [if_neg h0]
   by_cases h1 : a = b
   ·rw [if_pos h1]
    by_cases h2 : b = d
    ·have : v = true := hF.2 ⟨h0, h1, h2⟩
     rw [this]; simp [h2]
    ·have : v = false := by rw [← Bool.not_eq_true, hF]; exact fun h => h2 h.2.2
     rw [this]; simp [h2]
   ·rw [if_neg h1]
    have : v = false := by rw [← Bool.not_eq_true, hF]; exact fun h => h1 h.2.1
    rw [this]
 ·rw [if_pos (by omega)]
  have : v = false := by rw [← Bool.not_eq_true, hv]; exact fun h => h3 h.1
  rw [this]
theorem hull_ev {c : Ci} (hc : okC c) {m : List S28} (hP : m.all isP = true) (hn : m.length ≤ 3) (v : Bool) (hv : v = true ↔ ((∃ i' j', j' ≤ i' ∧ i' < m.length ∧ hB c m i' j') ∨ hullF c m)) :
  Ev (fun k => tickingref01_Hull.f k c.X c.Y c.D c.R m) v := by
 refine hull_l0 hc hP (by omega) (hullF c m) (fun v hv => hull_fin hc hP hn v hv) m.length 0 (by omega) v ?_
 rw [hv]
 constructor
 ·rintro (⟨i', j', h2, h3, h4⟩ | h)
  ·exact Or.inl ⟨i', j', Nat.zero_le _, h2, h3, h4⟩
  ·exact Or.inr h
 ·rintro (⟨i', j', h1, h2, h3, h4⟩ | h)
  ·exact Or.inl ⟨i', j', h2, h3, h4⟩
  ·exact Or.inr h
end Go.Proofs.Ytplhfbkejngioaa.X
namespace Go.Proofs.Ytplhfbkejngioaa.X
open Go.RowKit Go.Proofs.YtplhfbkejngioaaW.PrintWords Go.Proofs.YtplhfbkejngioaaW.PrintLast Go.Proofs.Ytplhfbkejngioaa.S Go.Proofs.Ytplhfbkejngioaa.Geo
set_option linter.unusedVariables false
set_option linter.unusedSimpArgs false
theorem dot_self (c : Ci) (p : S28) : dotC c p p = farC c p := rfl
theorem crs_self (c : Ci) (p : S28) : crsC c p p = 0 := by unfold crsC; grind
theorem dot_swap (c : Ci) (p q : S28) : dotC c q p = dotC c p q := by unfold dotC; grind
theorem lagrange (c : Ci) (p q : S28) : crsC c p q * crsC c p q + dotC c p q * dotC c p q = farC c p * farC c q := by unfold crsC dotC farC; grind
theorem on_line {c : Ci} {p q : S28} (hp : farC c p = c.R) (hq : farC c q = c.R) (h : crsC c p q = 0) (r : S28) :
  (dotC c p q ≤ 0 ∧ crsC c q r = crsC c r p) ∨ (0 ≤ dotC c p q ∧ dotC c p q = c.R ∧ crsC c q r = -crsC c r p) := by
 have l := lagrange c p q
 rw [h, hp, hq, Int.zero_mul, Int.zero_add] at l
 have hR : 0 ≤ c.R := by rw [← hp]; exact ssq_nonneg _ _
 have hd : dotC c p q = c.R ∨ dotC c p q = -c.R := by
  have e : (dotC c p q - c.R) * (dotC c p q + c.R) = 0 := by
   have : (dotC c p q - c.R) * (dotC c p q + c.R) = dotC c p q * dotC c p q - c.R * c.R := by grind
   omega
  rcases Int.mul_eq_zero.1 e with e | e <;> omega
 rcases hd with hd | hd
 ·right
  refine ⟨by omega, hd, ?_⟩
  have z : (c.D * p.f0 - c.X - (c.D * q.f0 - c.X)) * (c.D * p.f0 - c.X - (c.D * q.f0 - c.X)) + (c.D * p.f1 - c.Y - (c.D * q.f1 - c.Y)) * (c.D * p.f1 - c.Y - (c.D * q.f1 - c.Y)) = farC c p + farC c q - 2 * dotC c p q := by unfold farC dotC; grind
  obtain ⟨z1, z2⟩ := ssq_zero (a := c.D * p.f0 - c.X - (c.D * q.f0 - c.X)) (b := c.D * p.f1 - c.Y - (c.D * q.f1 - c.Y)) (by rw [z]; omega)
  have e1 : c.D * q.f0 - c.X = c.D * p.f0 - c.X := by omega
  have e2 : c.D * q.f1 - c.Y = c.D * p.f1 - c.Y := by omega
  unfold crsC; rw [e1, e2]; grind
 ·left
  refine ⟨by omega, ?_⟩
  have z : (c.D * p.f0 - c.X + (c.D * q.f0 - c.X)) * (c.D * p.f0 - c.X + (c.D * q.f0 - c.X)) + (c.D * p.f1 - c.Y + (c.D * q.f1 - c.Y)) * (c.D * p.f1 - c.Y + (c.D * q.f1 - c.Y)) = farC c p + farC c q + 2 * dotC c p q := by unfold farC dotC; grind
  obtain ⟨z1, z2⟩ := ssq_zero (a := c.D * p.f0 - c.X + (c.D * q.f0 - c.X)) (b := c.D * p.f1 - c.Y + (c.D * q.f1 - c.Y)) (by rw [z]; omega)
  have e1 : c.D * q.f0 - c.X = -(c.D * p.f0 - c.X) := by omega
  have e2 : c.D * q.f1 - c.Y = -(c.D * p.f1 - c.Y) := by omega
  unfold crsC; rw [e1, e2]; grind
theorem crs_zero_of {c : Ci} {p q : S28} (hp : farC c p = 0) (hq : farC c q = 0) : crsC c p q = 0 ∧ dotC c p q = 0 := by
 have l := lagrange c p q
 rw [hp, Int.zero_mul] at l
 have a := sq_nonneg (crsC c p q)
 have b := sq_nonneg (dotC c p q)
 exact ⟨sq_zero (by omega), sq_zero (by omega)⟩
theorem ins_one (c : Ci) (p : S28) : insL c [p] = true ↔ farC c p ≤ 0 := by
 have hp : plusL c [p] 1 = false := by
  rw [show (1 : Nat) = 0 + 1 from rfl, plusL_succ]
  have : crN c [p] 0 = 0 := by
   have e : crN c [p] 0 = crsC c p p := by simp [crN, pt]
   rw [e]; exact crs_self c p
  rw [this]; rfl
 have hm : minusL c [p] 1 = false := by
  rw [show (1 : Nat) = 0 + 1 from rfl, minusL_succ]
  have : crN c [p] 0 = 0 := by
   have e : crN c [p] 0 = crsC c p p := by simp [crN, pt]
   rw [e]; exact crs_self c p
  rw [this]; rfl
 unfold insL
 rw [show [p].length = 1 from rfl, if_pos ⟨hp, hm⟩, show (1 : Nat) = 0 + 1 from rfl, facL_succ, facR_succ]
 have e : pt [p] 0 = p := rfl
 rw [e, dot_self]
 simp [facL, facR]
theorem ins_two (c : Ci) (p q : S28) : insL c [p, q] = true ↔ (crsC c p q = 0 ∧ (farC c p ≤ 0 ∨ dotC c p q ≤ 0 ∨ farC c q ≤ 0)) := by
 have e0 : crN c [p, q] 0 = crsC c p q := rfl
 have e1 : crN c [p, q] 1 = -crsC c p q := by
  have e : crN c [p, q] 1 = crsC c q p := by simp [crN, pt]
  rw [e]; exact crs_swap c p q
 have hp : plusL c [p, q] 2 = (decide (0 < crsC c p q) || decide (0 < -crsC c p q)) := by
  rw [show (2 : Nat) = 0 + 1 + 1 from rfl, plusL_succ, plusL_succ, e0, e1]; rfl
 have hm : minusL c [p, q] 2 = (decide (crsC c p q < 0) || decide (-crsC c p q < 0)) := by
  rw [show (2 : Nat) = 0 + 1 + 1 from rfl, minusL_succ, minusL_succ, e0, e1]; rfl
 have hf : facL c [p, q] 2 = (decide (farC c p ≤ 0) || (decide (dotC c p q ≤ 0) || decide (farC c q ≤ 0))) := by
  rw [show (2 : Nat) = 0 + 1 + 1 from rfl, facL_succ, facL_succ, facR_succ, facR_succ, facR_succ]
  have a0 : pt [p, q] 0 = p := rfl
  have a1 : pt [p, q] (0 + 1) = q := rfl
  rw [a0, a1, dot_self, dot_self, dot_swap]
  simp [facL, facR]
 unfold insL
 rw [show [p, q].length = 2 from rfl, hp, hm, hf]
 simp only [Bool.or_eq_false_iff, decide_eq_false_iff_not]
 by_cases h : crsC c p q = 0
 ·rw [if_pos (by omega)]
  simp [h]
 ·rw [if_neg (by omega), if_neg (by decide)]
  simp [h]
theorem ins_three (c : Ci) (p q r : S28) : insL c [p, q, r] = true ↔
  ((crsC c p q = 0 ∧ crsC c q r = 0 ∧ crsC c r p = 0 ∧ (farC c p ≤ 0 ∨ dotC c p q ≤ 0 ∨ farC c q ≤ 0 ∨ dotC c r p ≤ 0 ∨ dotC c q r ≤ 0 ∨ farC c r ≤ 0)) ∨
   (¬ (crsC c p q = 0 ∧ crsC c q r = 0 ∧ crsC c r p = 0) ∧ ¬ ((0 < crsC c p q ∨ 0 < crsC c q r ∨ 0 < crsC c r p) ↔ (crsC c p q < 0 ∨ crsC c q r < 0 ∨ crsC c r p < 0)))) := by
 have e0 : crN c [p, q, r] 0 = crsC c p q := rfl
 have e1 : crN c [p, q, r] 1 = crsC c q r := rfl
 have e2 : crN c [p, q, r] 2 = crsC c r p := by simp [crN, pt]
 have hp : plusL c [p, q, r] 3 = (decide (0 < crsC c p q) || decide (0 < crsC c q r) || decide (0 < crsC c r p)) := by
  rw [show (3 : Nat) = 0 + 1 + 1 + 1 from rfl, plusL_succ, plusL_succ, plusL_succ, e0, e1, e2]; rfl
 have hm : minusL c [p, q, r] 3 = (decide (crsC c p q < 0) || decide (crsC c q r < 0) || decide (crsC c r p < 0)) := by
  rw [show (3 : Nat) = 0 + 1 + 1 + 1 from rfl, minusL_succ, minusL_succ, minusL_succ, e0, e1, e2]; rfl
 have hf : facL c [p, q, r] 3 = true ↔ (farC c p ≤ 0 ∨ dotC c p q ≤ 0 ∨ farC c q ≤ 0 ∨ dotC c r p ≤ 0 ∨ dotC c q r ≤ 0 ∨ farC c r ≤ 0) := by
  rw [show (3 : Nat) = 0 + 1 + 1 + 1 from rfl, facL_succ, facL_succ, facL_succ, facR_succ, facR_succ, facR_succ, facR_succ, facR_succ, facR_succ]
  have a0 : pt [p, q, r] 0 = p := rfl
  have a1 : pt [p, q, r] (0 + 1) = q := rfl
  have a2 : pt [p, q, r] (0 + 1 + 1) = r := rfl
  rw [a0, a1, a2, dot_self, dot_self, dot_self, dot_swap c p q, dot_swap c q r]
  simp only [facL, facR, Bool.or_eq_true, decide_eq_true_eq, List.range_zero, List.any_nil, Bool.false_eq_true, false_or, or_assoc]
 unfold insL
 rw [show [p, q, r].length = 3 from rfl, hp, hm]
 generalize facL c [p, q, r] 3 = f at *
 simp only [Bool.or_eq_false_iff, decide_eq_false_iff_not]
 by_cases h : crsC c p q = 0 ∧ crsC c q r = 0 ∧ crsC c r p = 0
 ·rw [if_pos (by omega), hf]
  omega
 ·rw [if_neg (by omega), if_pos trivial, bne_iff_ne, ne_eq, Bool.eq_iff_iff]
  simp only [Bool.or_eq_true, decide_eq_true_eq]
  omega
theorem ex_one {P : Nat → Nat → Prop} : (∃ i j, j ≤ i ∧ i < 1 ∧ P i j) ↔ P 0 0 := by
 constructor
 ·rintro ⟨i, j, h1, h2, h3⟩
  obtain rfl : i = 0 := by omega
  obtain rfl : j = 0 := by omega
  exact h3
 ·exact fun h => ⟨0, 0, by omega, by omega, h⟩
theorem ex_two {P : Nat → Nat → Prop} : (∃ i j, j ≤ i ∧ i < 2 ∧ P i j) ↔ (P 0 0 ∨ P 1 0 ∨ P 1 1) := by
 constructor
 ·rintro ⟨i, j, h1, h2, h3⟩
  have : (i = 0 ∧ j = 0) ∨ (i = 1 ∧ j = 0) ∨ (i = 1 ∧ j = 1) := by omega
  rcases this with ⟨rfl, rfl⟩ | ⟨rfl, rfl⟩ | ⟨rfl, rfl⟩
  ·exact Or.inl h3
  ·exact Or.inr (Or.inl h3)
  ·exact Or.inr (Or.inr h3)
 ·rintro (h | h | h)
  ·exact ⟨0, 0, by omega, by omega, h⟩
  ·exact ⟨1, 0, by omega, by omega, h⟩
  ·exact ⟨1, 1, by omega, by omega, h⟩
theorem ex_three {P : Nat → Nat → Prop} : (∃ i j, j ≤ i ∧ i < 3 ∧ P i j) ↔ (P 0 0 ∨ P 1 0 ∨ P 1 1 ∨ P 2 0 ∨ P 2 1 ∨ P 2 2) := by
 constructor
 ·rintro ⟨i, j, h1, h2, h3⟩
  have : (i = 0 ∧ j = 0) ∨ (i = 1 ∧ j = 0) ∨ (i = 1 ∧ j = 1) ∨ (i = 2 ∧ j = 0) ∨ (i = 2 ∧ j = 1) ∨ (i = 2 ∧ j = 2) := by omega
  rcases this with ⟨rfl, rfl⟩ | ⟨rfl, rfl⟩ | ⟨rfl, rfl⟩ | ⟨rfl, rfl⟩ | ⟨rfl, rfl⟩ | ⟨rfl, rfl⟩
  ·exact Or.inl h3
  ·exact Or.inr (Or.inl h3)
  ·exact Or.inr (Or.inr (Or.inl h3))
  ·exact Or.inr (Or.inr (Or.inr (Or.inl h3)))
  ·exact Or.inr (Or.inr (Or.inr (Or.inr (Or.inl h3))))
  ·exact Or.inr (Or.inr (Or.inr (Or.inr (Or.inr h3))))
 ·rintro (h | h | h | h | h | h)
  ·exact ⟨0, 0, by omega, by omega, h⟩
  ·exact ⟨1, 0, by omega, by omega, h⟩
  ·exact ⟨1, 1, by omega, by omega, h⟩
  ·exact ⟨2, 0, by omega, by omega, h⟩
  ·exact ⟨2, 1, by omega, by omega, h⟩
  ·exact ⟨2, 2, by omega, by omega, h⟩
theorem three_signs (R a b d x y w : Int) (hR : 0 ≤ R) (z : (R = 0 ∧ a = 0 ∧ b = 0 ∧ d = 0) ∨ 0 < R)
  (l1 : a ≠ 0 ∨ ((x ≤ 0 ∧ b = d) ∨ (0 ≤ x ∧ x = R ∧ b = -d))) (l2 : b ≠ 0 ∨ ((y ≤ 0 ∧ d = a) ∨ (0 ≤ y ∧ y = R ∧ d = -a))) (l3 : d ≠ 0 ∨ ((w ≤ 0 ∧ a = b) ∨ (0 ≤ w ∧ w = R ∧ a = -b))) :
  ((a = 0 ∧ b = 0 ∧ d = 0 ∧ (R ≤ 0 ∨ x ≤ 0 ∨ R ≤ 0 ∨ w ≤ 0 ∨ y ≤ 0 ∨ R ≤ 0)) ∨
   (¬ (a = 0 ∧ b = 0 ∧ d = 0) ∧ ¬ ((0 < a ∨ 0 < b ∨ 0 < d) ↔ (a < 0 ∨ b < 0 ∨ d < 0)))) ↔
  (((0 : Int) = 0 ∧ R ≤ 0 ∧ ((0 : Nat) ≠ 0 ∨ R = 0) ∨ -a = 0 ∧ x ≤ 0 ∧ ((1 : Nat) ≠ 0 ∨ R = 0) ∨ (0 : Int) = 0 ∧ R ≤ 0 ∧ ((1 : Nat) ≠ 1 ∨ R = 0) ∨ d = 0 ∧ w ≤ 0 ∧ ((2 : Nat) ≠ 0 ∨ R = 0) ∨ -b = 0 ∧ y ≤ 0 ∧ ((2 : Nat) ≠ 1 ∨ R = 0) ∨ (0 : Int) = 0 ∧ R ≤ 0 ∧ ((2 : Nat) ≠ 2 ∨ R = 0)) ∨
   (3 : Nat) = 3 ∧ ((0 < a ∧ 0 < b ∧ 0 < d) ∨ (a < 0 ∧ b < 0 ∧ d < 0))) := by
 rcases z with ⟨z, za, zb, zd⟩ | z
 ·subst z za zb zd; simp
 ·have z' : ¬ R ≤ 0 := by omega
  have z'' : ¬ R = 0 := by omega
  rcases Int.lt_trichotomy a 0 with ha | ha | ha <;> rcases Int.lt_trichotomy b 0 with hb | hb | hb <;> rcases Int.lt_trichotomy d 0 with hd | hd | hd <;>
   simp [z', z'', false_and, and_false] <;> omega
theorem same_hull {c : Ci} {m : List S28} (h1 : 1 ≤ m.length) (h3 : m.length ≤ 3) (hon : ∀ p ∈ m, farC c p = c.R) :
  insL c m = true ↔ ((∃ i' j', j' ≤ i' ∧ i' < m.length ∧ hB c m i' j') ∨ hullF c m) := by
 have hR : 0 ≤ c.R := by
  cases m with
  | nil => simp at h1
  | cons p m => rw [← hon p (List.mem_cons_self ..)]; exact ssq_nonneg _ _
 match m, h1, h3 with
 | [p], _, _ =>
  have fp := hon p (by simp)
  rw [ins_one, show [p].length = 1 from rfl, ex_one]
  have a0 : pt [p] 0 = p := rfl
  unfold hB hullF
  rw [a0, crs_self, dot_self, fp, show [p].length = 1 from rfl]
  omega
 | [p, q], _, _ =>
  have fp := hon p (by simp)
  have fq := hon q (by simp)
  rw [ins_two, show [p, q].length = 2 from rfl, ex_two]
  have a0 : pt [p, q] 0 = p := rfl
  have a1 : pt [p, q] 1 = q := rfl
  unfold hB hullF
  rw [a0, a1, crs_self, crs_self, dot_self, dot_self, fp, fq, show [p, q].length = 2 from rfl, crs_swap c p q, dot_swap c p q]
  have z : c.R = 0 → crsC c p q = 0 := fun h => (crs_zero_of (by omega) (by omega)).1
  omega
 | [p, q, r], _, _ =>
  have fp := hon p (by simp)
  have fq := hon q (by simp)
  have fr := hon r (by simp)
  rw [ins_three, show [p, q, r].length = 3 from rfl, ex_three]
  have a0 : pt [p, q, r] 0 = p := rfl
  have a1 : pt [p, q, r] 1 = q := rfl
  have a2 : pt [p, q, r] 2 = r := rfl
  unfold hB hullF
  rw [a0, a1, a2, crs_self, crs_self, crs_self, dot_self, dot_self, dot_self, fp, fq, fr, show [p, q, r].length = 3 from rfl, crs_swap c p q, dot_swap c p q, crs_swap c q r, dot_swap c q r]
  have z : (c.R = 0 ∧ crsC c p q = 0 ∧ crsC c q r = 0 ∧ crsC c r p = 0) ∨ 0 < c.R := by
   rcases Int.lt_or_eq_of_le hR with h | h
   ·exact Or.inr h
   ·exact Or.inl ⟨h.symm, (crs_zero_of (by omega) (by omega)).1, (crs_zero_of (by omega) (by omega)).1, (crs_zero_of (by omega) (by omega)).1⟩
  have l1 : crsC c p q ≠ 0 ∨ _ := (Classical.em (crsC c p q = 0)).elim (fun h => Or.inr (on_line fp fq h r)) Or.inl
  have l2 : crsC c q r ≠ 0 ∨ _ := (Classical.em (crsC c q r = 0)).elim (fun h => Or.inr (on_line fq fr h p)) Or.inl
  have l3 : crsC c r p ≠ 0 ∨ _ := (Classical.em (crsC c r p = 0)).elim (fun h => Or.inr (on_line fr fp h q)) Or.inl
  exact three_signs _ _ _ _ _ _ _ hR z l1 l2 l3
end Go.Proofs.Ytplhfbkejngioaa.X
namespace Go.Proofs.Ytplhfbkejngioaa.X
open Go.RowKit Go.Proofs.YtplhfbkejngioaaW.PrintWords Go.Proofs.YtplhfbkejngioaaW.PrintLast Go.Proofs.Ytplhfbkejngioaa.S Go.Proofs.Ytplhfbkejngioaa.Geo
set_option linter.unusedVariables false
set_option linter.unusedSimpArgs false
theorem points_take (l : List S28) : tickinglaw01_points.f l = some (l.take 65) := by
 unfold tickinglaw01_points.f mn
 have hl : (l.take 65).length ≤ 65 := by simp; omega
 by_cases h : (65 : Int) < (l.length : Int)
 ·rw [if_pos h, if_pos (by omega), if_pos (by omega)]
  have e : ((65 : Int)).toNat = 65 := rfl
  rw [e]
  simp only [Option.bind_some, List.length_nil, List.nil_append]
  rw [if_pos (by omega)]
 ·rw [if_neg h, if_pos (by omega), if_pos (by omega), Int.toNat_natCast, List.take_length, List.take_of_length_le (by omega)]
  simp only [Option.bind_some, List.length_nil, List.nil_append]
  rw [if_pos (by omega)]
theorem rpoints_l0 (l : List S28) (hn : l.length ≤ 9223372036854775807) : ∀ (d i : Nat), i + d = l.length → ∀ k, d < k →
  tickingref01_Points.l0 k l (i : Int) = some ((l.drop i).all isP && (decide (1 ≤ l.length) && decide (l.length ≤ 64)))
 | 0, i, h, k, hk => by
  obtain ⟨k, rfl⟩ : ∃ q, k = q + 1 := ⟨k - 1, by omega⟩
  simp only [tickingref01_Points.l0]
  rw [if_neg (by omega), List.drop_eq_nil_of_le (by omega), List.all_nil, Bool.true_and]
  by_cases h1 : 1 ≤ l.length
  ·rw [if_pos (by omega), decide_eq_true h1, Bool.true_and]
   by_cases h2 : l.length ≤ 64
   ·rw [decide_eq_true h2, decide_eq_true (by omega)]
   ·rw [decide_eq_false h2, decide_eq_false (by omega)]
  ·rw [if_neg (by omega), decide_eq_false h1, Bool.false_and]
 | d + 1, i, h, k, hk => by
  obtain ⟨k, rfl⟩ : ∃ q, k = q + 1 := ⟨k - 1, by omega⟩
  have hi : i < l.length := by omega
  have ih := rpoints_l0 l hn d (i + 1) (by omega) k (by omega)
  have e : l.drop i = l[i] :: l.drop (i + 1) := List.drop_eq_getElem_cons hi
  have g1 : (i : Int) < (l.length : Int) := by omega
  have g2 : (0 : Int) ≤ (i : Int) := by omega
  simp only [tickingref01_Points.l0]
  rw [if_pos g1, if_pos g2, rd28_get hi, point_f, Option.bind_some, next_i hi hn, ih, e, List.all_cons]
  cases isP l[i] <;> simp
theorem rpoints_ev (l : List S28) (hn : l.length ≤ 9223372036854775807) : Ev (fun k => tickingref01_Points.f k l) (arePs l) :=
 ⟨l.length + 1, fun k hk => by
  unfold tickingref01_Points.f
  have e : arePs l = ((l.drop 0).all isP && (decide (1 ≤ l.length) && decide (l.length ≤ 64))) := by unfold arePs; rw [List.drop_zero]; exact Bool.and_comm _ _
  rw [e]
  exact rpoints_l0 l hn l.length 0 (by omega) k (by omega)⟩
def onS (l : List S28) (c : Ci) : Int → List Int → Bool
 | _, [] => true
 | p, k :: s => (decide (p < k) && (decide (k < (l.length : Int)) && decide (farC c (pt l k.toNat) = c.R))) && onS l c k s
def ptsS (l : List S28) (s : List Int) : List S28 := s.map fun k => pt l k.toNat
theorem rdI_get {s : List Int} {i : Nat} (h : i < s.length) : rd s (i : Int) = s[i] := by simp [rd, h]
theorem rd_pt_n (l : List S28) {x : Int} (h : 0 ≤ x) : rd_T28 l x = pt l x.toNat := by unfold rd_T28 pt; rfl
theorem side_zero {c : Ci} (hc : okC c) {p : S28} (hp : isP p = true) : ∃ t, cover_side.f c.X c.Y c.D c.R p.f0 p.f1 = some t ∧ (t = 0 ↔ farC c p = c.R) := by
 refine ⟨_, side_f hc hp, ?_⟩
 split
 ·exact ⟨fun h => absurd h (by decide), fun h => by omega⟩
 ·split
  ·exact ⟨fun h => absurd h (by decide), fun h => by omega⟩
  ·exact ⟨fun _ => by omega, fun _ => rfl⟩
theorem check_l0 {c : Ci} (hc : okC c) {l : List S28} (hP : l.all isP = true) (hn : 1 ≤ l.length ∧ l.length ≤ 64) {s : List Int} (hs : s.length ≤ 3) :
  ∀ (d i : Nat), i + d = s.length → ∀ (acc : List S28) (prev : Int), -1 ≤ prev → (i = 0 → prev = -1) → (0 < i → prev = rd s ((i - 1 : Nat) : Int)) → acc.all isP = true → acc.length = i →
   Ev (fun k => cover_Check.l0 k l s acc s (s.length : Int) (i : Int) c.X c.Y c.D c.R) (if (onS l c prev (s.drop i) && insL c (acc ++ ptsS l (s.drop i))) = true then 0 else 10)
 | 0, i, h, acc, prev, hp, h0, h1, ha, hl => by
  rw [List.drop_eq_nil_of_le (by omega)]
  unfold onS ptsS
  rw [List.map_nil, List.append_nil, Bool.true_and]
  refine Ev.step (f := fun k => (cover_isInside.f k c.X c.Y c.D c.R acc).bind fun t562 => (if t562 = true then (some 0) else (some 10))) (fun k => ?_) (Ev.bind (isInside_ev hc ha (by omega)) ?_)
  ·simp only [cover_Check.l0]
   rw [if_neg (by omega)]
  ·cases insL c acc
   ·exact Ev.now _
   ·exact Ev.now _
 | d + 1, i, h, acc, prev, hp, h0, h1, ha, hl => by
  have hi : i < s.length := by omega
  have e : s.drop i = s[i] :: s.drop (i + 1) := List.drop_eq_getElem_cons hi
  have ih := check_l0 hc hP hn hs d (i + 1) (by omega)
  have g1 : (i : Int) < (s.length : Int) := by omega
  have g2 : (0 : Int) ≤ (i : Int) := by omega
  have wn : wrap64 ((l.length : Int) - 1) = (l.length : Int) - 1 := w64 (by omega) (by omega)
  have key : ∀ k, cover_Check.l0 (k + 1) l s acc s (s.length : Int) (i : Int) c.X c.Y c.D c.R =
    if (decide (prev < s[i]) && (decide (s[i] < (l.length : Int)) && decide (farC c (pt l s[i].toNat) = c.R))) = true then cover_Check.l0 k l s (acc ++ [pt l s[i].toNat]) s (s.length : Int) ((i + 1 : Nat) : Int) c.X c.Y c.D c.R else some 10 := by
   intro k
   conv => lhs; simp only [cover_Check.l0]
   rw [if_pos g1, if_pos g2, if_pos g1, rdI_get hi, within_f, wn, Option.bind_some]
   generalize hx : s[i] = x
   by_cases r : 0 ≤ x ∧ x < (l.length : Int)
   ·have r1 : (decide (0 ≤ x) && decide (x ≤ (l.length : Int) - 1)) = true := by rw [decide_eq_true r.1, decide_eq_true (by omega)]; rfl
    have hpx := pt_isP hP (show x.toNat < l.length by omega)
    obtain ⟨t, ht, hz⟩ := side_zero hc hpx
    have hlen : acc.length < 8796093022208 := by omega
    rw [if_pos r1, rd_pt_n l r.1, ht, decide_eq_true r.2, Bool.true_and]
    simp only [Option.bind_some]
    have tail : (if t = 0 then (if acc.length < 8796093022208 then cover_Check.l0 k l s (acc ++ [⟨(pt l x.toNat).f0, (pt l x.toNat).f1⟩]) s (s.length : Int) (wrap64 ((i : Int) + 1)) c.X c.Y c.D c.R else none) else some 10) =
      if decide (farC c (pt l x.toNat) = c.R) = true then cover_Check.l0 k l s (acc ++ [pt l x.toNat]) s (s.length : Int) ((i + 1 : Nat) : Int) c.X c.Y c.D c.R else some 10 := by
     rw [if_pos hlen, next_i hi (by omega)]
     by_cases z : t = 0
     ·rw [if_pos z, if_pos (decide_eq_true (hz.1 z))]
     ·rw [if_neg z, if_neg (by rw [decide_eq_true_eq]; exact fun h => z (hz.2 h))]
    by_cases i0 : 0 < i
    ·have i1 : (i : Int) > 0 := by omega
     have w1 : wrap64 ((i : Int) - 1) = ((i - 1 : Nat) : Int) := by rw [w64 (by omega) (by omega)]; omega
     have p1 := h1 i0
     rw [if_pos i1, w1, if_pos (by omega), if_pos (by omega), ← p1]
     by_cases pr : prev < x
     ·rw [if_neg (by omega), if_pos r.1, if_pos r.2, tail, decide_eq_true pr, Bool.true_and]
     ·rw [if_pos (by omega), decide_eq_false pr, Bool.false_and, if_neg (by decide)]
    ·have i1 : ¬ (i : Int) > 0 := by omega
     have p0 := h0 (by omega)
     rw [if_neg i1, if_pos r.1, if_pos r.2, tail, decide_eq_true (by omega : prev < x), Bool.true_and]
   ·have r1 : ¬ (decide (0 ≤ x) && decide (x ≤ (l.length : Int) - 1)) = true := by
     simp only [Bool.and_eq_true, decide_eq_true_eq]; omega
    rw [if_neg r1, if_neg]
    simp only [Bool.and_eq_true, decide_eq_true_eq]; omega
  rw [e]
  unfold onS
  by_cases b : (decide (prev < s[i]) && (decide (s[i] < (l.length : Int)) && decide (farC c (pt l s[i].toNat) = c.R))) = true
  ·have b' := b
   simp only [Bool.and_eq_true, decide_eq_true_eq] at b'
   rw [b, Bool.true_and]
   have hpx := pt_isP hP (show s[i].toNat < l.length by omega)
   have e2 : acc ++ ptsS l (s[i] :: s.drop (i + 1)) = (acc ++ [pt l s[i].toNat]) ++ ptsS l (s.drop (i + 1)) := by
    unfold ptsS; rw [List.map_cons, List.append_assoc]; rfl
   rw [e2]
   refine Ev.step (fun k => (key k).trans (if_pos b)) (ih _ s[i] (by omega) (fun h => by omega) (fun _ => ?_) ?_ (by simp; omega))
   ·rw [Nat.add_sub_cancel, rdI_get hi]
   ·rw [List.all_append, ha, List.all_cons, hpx]; rfl
  ·have b2 := Bool.eq_false_iff.2 b
   rw [b2, Bool.false_and, Bool.false_and, if_neg (by decide)]
   exact Ev.step (fun k => (key k).trans (if_neg b)) (Ev.now _)
def rightL (l : List S28) (c : Ci) (s : List Int) : Bool :=
 validC c && (enclosesC c l && ((decide (1 ≤ s.length) && decide (s.length ≤ 3)) && (onS l c (-1) s && insL c (ptsS l s))))
theorem check_no {l : List S28} (h : arePs l = false) (c : Ci) (s : List Int) : Ev (fun k => cover_Check.f k l c.X c.Y c.D c.R s) 2 := by
 refine ⟨0, fun k _ => ?_⟩
 have e : cover_arePoints.f l = some (arePs l) := rfl
 unfold cover_Check.f
 dsimp only
 rw [e, h, Option.bind_some, if_neg (by decide)]
theorem check_ev {l : List S28} (h : arePs l = true) (c : Ci) (s : List Int) : Ev (fun k => cover_Check.f k l c.X c.Y c.D c.R s) (if rightL l c s = true then 0 else 10) := by
 have ha := h
 unfold arePs at h
 simp only [Bool.and_eq_true, decide_eq_true_eq] at h
 have e : cover_arePoints.f l = some (arePs l) := rfl
 have no : ∀ X Y D R, Ev (fun k => cover_Check.j0 k l s true X Y D R) 10 := fun X Y D R => Ev.step (f := fun _ => some 10) (fun k => by simp only [cover_Check.j0, if_true]) (Ev.now _)
 refine Ev.congr (f := fun k => (cover_isCircle.f k c.X c.Y c.D c.R).bind fun t559 => (if t559 = true then ((cover_encloses.f c.X c.Y c.D c.R l).bind fun t560 => (if t560 = true then ((cover_within.f (s.length : Int) 1 3).bind fun t561 => (cover_Check.j0 k l s (!t561) c.X c.Y c.D c.R)) else (cover_Check.j0 k l s true c.X c.Y c.D c.R))) else (cover_Check.j0 k l s true c.X c.Y c.D c.R))) (fun k => ?_) (Ev.bind (isCircle_ev c) ?_)
 ·unfold cover_Check.f
  rw [e, ha, Option.bind_some, if_pos rfl]
 unfold rightL
 cases hv : validC c with
 | false => simp only [Bool.false_eq_true, if_false, Bool.false_and]; exact no _ _ _ _
 | true =>
  simp only [if_true, Bool.true_and]
  have ok := rangeC_ok (validC_range hv)
  have e2 : cover_encloses.f c.X c.Y c.D c.R l = some (enclosesC c l) := by unfold cover_encloses.f; exact if_pos ⟨ok, h.2⟩
  rw [e2, within_f]
  simp only [Option.bind_some]
  cases he : enclosesC c l with
  | false => simp only [Bool.false_eq_true, if_false, Bool.false_and]; exact no _ _ _ _
  | true =>
   simp only [if_true, Bool.true_and]
   have e3 : (decide ((1 : Int) ≤ (s.length : Int)) && decide ((s.length : Int) ≤ 3)) = (decide (1 ≤ s.length) && decide (s.length ≤ 3)) := by
    rw [← Bool.decide_and, ← Bool.decide_and]
    exact decide_eq_decide.2 (by omega)
   rw [e3]
   cases hl : (decide (1 ≤ s.length) && decide (s.length ≤ 3)) with
   | false => simp only [Bool.false_eq_true, if_false, Bool.false_and, Bool.not_false]; exact no _ _ _ _
   | true =>
    simp only [Bool.and_eq_true, decide_eq_true_eq] at hl
    simp only [Bool.not_true, Bool.true_and]
    have := check_l0 ok h.2 (by omega) hl.2 s.length 0 (by omega) [] (-1) (by omega) (fun _ => rfl) (fun h => by omega) rfl rfl
    rw [List.drop_zero, List.nil_append] at this
    refine Ev.step (fun k => ?_) this
    simp only [cover_Check.j0]
    rw [if_neg (by decide)]
    rfl
theorem right_l1 {c : Ci} (hc : okC c) {l : List S28} (hP : l.all isP = true) (hn : 1 ≤ l.length ∧ l.length ≤ 64) {s : List Int} (hs : 1 ≤ s.length ∧ s.length ≤ 3) :
  ∀ (d i : Nat), i + d = s.length → ∀ (acc : List S28) (prev : Int), -1 ≤ prev → (i = 0 → prev = -1) → (0 < i → prev = rd s ((i - 1 : Nat) : Int)) → acc.all isP = true → acc.length = i → (∀ p ∈ acc, farC c p = c.R) →
   Ev (fun k => tickingref01_Right.l1 k l s acc (i : Int) c.X c.Y c.D c.R) (onS l c prev (s.drop i) && insL c (acc ++ ptsS l (s.drop i)))
 | 0, i, h, acc, prev, hp, h0, h1, ha, hl, hon => by
  rw [List.drop_eq_nil_of_le (by omega)]
  unfold onS ptsS
  rw [List.map_nil, List.append_nil, Bool.true_and]
  refine Ev.step (f := fun k => (tickingref01_Hull.f k c.X c.Y c.D c.R acc).bind fun t621 => some t621) (fun k => ?_) (Ev.bind (hull_ev hc ha (by omega) _ (same_hull (by omega) (by omega) hon)) (Ev.now _))
  simp only [tickingref01_Right.l1]
  rw [if_neg (by omega)]
 | d + 1, i, h, acc, prev, hp, h0, h1, ha, hl, hon => by
  have hi : i < s.length := by omega
  have e : s.drop i = s[i] :: s.drop (i + 1) := List.drop_eq_getElem_cons hi
  have ih := right_l1 hc hP hn hs d (i + 1) (by omega)
  have g1 : (i : Int) < (s.length : Int) := by omega
  have g2 : (0 : Int) ≤ (i : Int) := by omega
  have key : ∀ k, tickingref01_Right.l1 (k + 1) l s acc (i : Int) c.X c.Y c.D c.R =
    if (decide (prev < s[i]) && (decide (s[i] < (l.length : Int)) && decide (farC c (pt l s[i].toNat) = c.R))) = true then tickingref01_Right.l1 k l s (acc ++ [pt l s[i].toNat]) ((i + 1 : Nat) : Int) c.X c.Y c.D c.R else some false := by
   intro k
   conv => lhs; simp only [tickingref01_Right.l1]
   rw [if_pos g1, if_pos g2, rdI_get hi]
   generalize hx : s[i] = x
   by_cases r0 : x < 0
   ·rw [if_pos r0, if_neg]
    simp only [Bool.and_eq_true, decide_eq_true_eq]; omega
   by_cases r2 : x < (l.length : Int)
   ·have r1 : 0 ≤ x := by omega
    have hpx := pt_isP hP (show x.toNat < l.length by omega)
    have hlen : acc.length < 8796093022208 := by omega
    rw [if_neg r0, if_neg (by omega), if_pos r1, if_pos r2, rd_pt_n l r1, far_f hc hpx, decide_eq_true r2, Bool.true_and]
    simp only [Option.bind_some]
    have tail : (if farC c (pt l x.toNat) = c.R then (if acc.length < 8796093022208 then tickingref01_Right.l1 k l s (acc ++ [⟨(pt l x.toNat).f0, (pt l x.toNat).f1⟩]) (wrap64 ((i : Int) + 1)) c.X c.Y c.D c.R else none) else some false) =
      if decide (farC c (pt l x.toNat) = c.R) = true then tickingref01_Right.l1 k l s (acc ++ [pt l x.toNat]) ((i + 1 : Nat) : Int) c.X c.Y c.D c.R else some false := by
     rw [if_pos hlen, next_i hi (by omega)]
     by_cases z : farC c (pt l x.toNat) = c.R
     ·rw [if_pos z, if_pos (decide_eq_true z)]
     ·rw [if_neg z, if_neg (by rw [decide_eq_true_eq]; exact z)]
    by_cases i0 : 0 < i
    ·have i1 : (i : Int) > 0 := by omega
     have w1 : wrap64 ((i : Int) - 1) = ((i - 1 : Nat) : Int) := by rw [w64 (by omega) (by omega)]; omega
     have p1 := h1 i0
     rw [if_pos i1, w1, if_pos (by omega), if_pos (by omega), ← p1]
     by_cases pr : prev < x
     ·rw [if_neg (by omega), tail, decide_eq_true pr, Bool.true_and]
     ·rw [if_pos (by omega), decide_eq_false pr, Bool.false_and, if_neg (by decide)]
    ·have i1 : ¬ (i : Int) > 0 := by omega
     have p0 := h0 (by omega)
     rw [if_neg i1, tail, decide_eq_true (by omega : prev < x), Bool.true_and]
   ·rw [if_neg r0, if_pos (by omega), if_neg]
    simp only [Bool.and_eq_true, decide_eq_true_eq]; omega
  rw [e]
  unfold onS
  by_cases b : (decide (prev < s[i]) && (decide (s[i] < (l.length : Int)) && decide (farC c (pt l s[i].toNat) = c.R))) = true
  ·have b' := b
   simp only [Bool.and_eq_true, decide_eq_true_eq] at b'
   rw [b, Bool.true_and]
   have hpx := pt_isP hP (show s[i].toNat < l.length by omega)
   have e2 : acc ++ ptsS l (s[i] :: s.drop (i + 1)) = (acc ++ [pt l s[i].toNat]) ++ ptsS l (s.drop (i + 1)) := by
    unfold ptsS; rw [List.map_cons, List.append_assoc]; rfl
   rw [e2]
   refine Ev.step (fun k => (key k).trans (if_pos b)) (ih _ s[i] (by omega) (fun h => by omega) (fun _ => ?_) ?_ (by simp; omega) (fun p hp => ?_))
   ·rw [Nat.add_sub_cancel, rdI_get hi]
   ·rw [List.all_append, ha, List.all_cons, hpx]; rfl
   ·rcases List.mem_append.1 hp with hp | hp
    ·exact hon p hp
    ·rw [List.mem_singleton.1 hp]; exact b'.2.2
  ·have b2 := Bool.eq_false_iff.2 b
   rw [b2, Bool.false_and, Bool.false_and]
   exact Ev.step (fun k => (key k).trans (if_neg b)) (Ev.now _)
theorem right_l0 {c : Ci} (hc : okC c) {l : List S28} (hP : l.all isP = true) (hn : 1 ≤ l.length ∧ l.length ≤ 64) {s : List Int} (v : Bool)
  (hv : Ev (fun k => tickingref01_Right.l1 k l s [] 0 c.X c.Y c.D c.R) v) :
  ∀ (d i : Nat), i + d = l.length → Ev (fun k => tickingref01_Right.l0 k l s (i : Int) c.X c.Y c.D c.R) (!((l.drop i).any (outC c)) && v)
 | 0, i, h => by
  rw [List.drop_eq_nil_of_le (by omega), List.any_nil, Bool.not_false, Bool.true_and]
  refine Ev.step (fun k => ?_) hv
  simp only [tickingref01_Right.l0]
  rw [if_neg (by omega)]
 | d + 1, i, h => by
  have hi : i < l.length := by omega
  have ih := right_l0 hc hP hn v hv d (i + 1) (by omega)
  have e : l.drop i = l[i] :: l.drop (i + 1) := List.drop_eq_getElem_cons hi
  have hp : isP l[i] = true := List.all_eq_true.1 hP _ (List.getElem_mem hi)
  have g1 : (i : Int) < (l.length : Int) := by omega
  have g2 : (0 : Int) ≤ (i : Int) := by omega
  have key : ∀ k, tickingref01_Right.l0 (k + 1) l s (i : Int) c.X c.Y c.D c.R = if farC c l[i] > c.R then some false else tickingref01_Right.l0 k l s ((i + 1 : Nat) : Int) c.X c.Y c.D c.R := by
   intro k
   conv => lhs; simp only [tickingref01_Right.l0]
   rw [if_pos g1, if_pos g2, rd28_get hi, far_f hc hp, next_i hi (by omega), Option.bind_some]
  rw [e, List.any_cons]
  by_cases ho : farC c l[i] > c.R
  ·have : outC c l[i] = true := decide_eq_true ho
   rw [this, Bool.true_or, Bool.not_true, Bool.false_and]
   exact Ev.step (fun k => (key k).trans (if_pos ho)) (Ev.now _)
  ·have : outC c l[i] = false := decide_eq_false ho
   rw [this, Bool.false_or]
   exact Ev.step (fun k => (key k).trans (if_neg ho)) ih
theorem right_ev {l : List S28} (h : arePs l = true) (c : Ci) (s : List Int) : Ev (fun k => tickingref01_Right.f k l c.X c.Y c.D c.R s) (rightL l c s) := by
 unfold arePs at h
 simp only [Bool.and_eq_true, decide_eq_true_eq] at h
 have no : ∀ X Y D R, Ev (fun k => tickingref01_Right.j0 k l s true X Y D R) false := fun X Y D R => Ev.step (f := fun _ => some false) (fun k => by simp only [tickingref01_Right.j0, if_true]) (Ev.now _)
 unfold tickingref01_Right.f
 refine Ev.bind (valid_ev c) ?_
 unfold rightL
 cases hv : validC c with
 | false => simp only [Bool.false_eq_true, if_false, Bool.false_and]; exact no _ _ _ _
 | true =>
  simp only [if_true, Bool.true_and]
  have ok := rangeC_ok (validC_range hv)
  by_cases h1 : 1 ≤ s.length
  ·have n1 : ¬ ((s.length : Int) < 1) := by omega
   simp only [n1, if_false]
   rw [decide_eq_true h1, Bool.true_and]
   by_cases h3 : s.length ≤ 3
   ·have n3 : decide ((s.length : Int) > 3) = false := decide_eq_false (by omega)
    rw [n3, decide_eq_true h3, Bool.true_and]
    have a := right_l1 ok h.2 (by omega) ⟨h1, h3⟩ s.length 0 (by omega) [] (-1) (by omega) (fun _ => rfl) (fun h => by omega) rfl rfl (fun p hp => by cases hp)
    rw [List.drop_zero, List.nil_append] at a
    have b := right_l0 ok h.2 (by omega) _ a l.length 0 (by omega)
    rw [List.drop_zero] at b
    unfold enclosesC
    refine Ev.step (fun k => ?_) b
    simp only [tickingref01_Right.j0]
    rw [if_neg (by decide)]
    rfl
   ·have n3 : decide ((s.length : Int) > 3) = true := decide_eq_true (by omega)
    rw [n3, decide_eq_false h3, Bool.false_and, Bool.and_false]
    exact no _ _ _ _
  ·have n1 : ((s.length : Int) < 1) := by omega
   simp only [n1, if_true]
   rw [decide_eq_false h1, Bool.false_and, Bool.false_and, Bool.and_false]
   exact no _ _ _ _
end Go.Proofs.Ytplhfbkejngioaa.X
namespace Go.Proofs.Ytplhfbkejngioaa.Pure
open Go.RowKit Go.Proofs.Ytplhfbkejngioaa.X Go.Proofs.Ytplhfbkejngioaa.Open Go.Proofs.YtplhfbkejngioaaW.PrintWords Go.Proofs.YtplhfbkejngioaaW.PrintLast Go.Proofs.Ytplhfbkejngioaa.S
set_option linter.unusedVariables false
set_option linter.unusedSimpArgs false
theorem cand_right {l : List S28} (h : arePs l = true) {x : Cand} (hx : x ∈ cands l) (he : enclosesC x.c l = true) (hv : validC x.c = true) : rightL l x.c x.s = true := by
 unfold arePs at h
 simp only [Bool.and_eq_true, decide_eq_true_eq] at h
 unfold rightL
 rw [hv, he, Bool.true_and, Bool.true_and]
 clear hv he
 rcases cands_cases hx with rfl | ⟨i, j, hij, hj, rfl⟩ | ⟨i, j, k, hij, hjk, hk, hc, hin, rfl⟩
 ·have S := one_sup (pt l 0)
  have f := S.fp
  have i1 := (ins_one ⟨(pt l 0).f0, (pt l 0).f1, 1, 0⟩ (pt l 0)).2 (by rw [f]; exact Int.le_refl _)
  simp only at f i1 ⊢
  unfold onS onS ptsS
  simp only [List.map_cons, List.map_nil, List.length_cons, List.length_nil, Int.toNat_zero, f, i1]
  simp
  omega
 ·have S := two_sup (pt l i) (pt l j)
  have fi := S.fp
  have fj := S.fq
  have b := bet_bal (pt l i) (pt l j) (pt l j)
  have bx := b.hx
  have by' := b.hy
  have i2 : insL (betC (pt l i) (pt l j)) [pt l i, pt l j] = true := by
   rw [ins_two]
   have x1 : (betC (pt l i) (pt l j)).D * (pt l j).f0 - (betC (pt l i) (pt l j)).X = -((betC (pt l i) (pt l j)).D * (pt l i).f0 - (betC (pt l i) (pt l j)).X) := by omega
   have x2 : (betC (pt l i) (pt l j)).D * (pt l j).f1 - (betC (pt l i) (pt l j)).Y = -((betC (pt l i) (pt l j)).D * (pt l i).f1 - (betC (pt l i) (pt l j)).Y) := by omega
   constructor
   ·unfold crsC; rw [x1, x2]; grind
   ·right; left
    have e : dotC (betC (pt l i) (pt l j)) (pt l i) (pt l j) = -farC (betC (pt l i) (pt l j)) (pt l i) := by unfold dotC farC; rw [x1, x2]; grind
    have : 0 ≤ farC (betC (pt l i) (pt l j)) (pt l i) := Geo.ssq_nonneg _ _
    omega
  simp only
  unfold onS onS onS ptsS
  simp only [List.map_cons, List.map_nil, List.length_cons, List.length_nil, Int.toNat_natCast, fi, fj, i2]
  simp
  omega
 ·have S := three_sup hc hin
  have fi := S.fp
  have fj := S.fq
  have fk := S.fr
  have i3 := insL_three (c := thrC (pt l i) (pt l j) (pt l k)) (by have := S.pos; omega) hc
  rw [hin] at i3
  simp only
  unfold onS onS onS onS ptsS
  simp only [List.map_cons, List.map_nil, List.length_cons, List.length_nil, Int.toNat_natCast, fi, fj, fk, i3]
  simp
  omega
theorem CoverCircles (l0 : List S28) (hm0 : l0.length ≤ 9223372036854775807) (hI0 : ∀ x ∈ l0, I64 x.f0 ∧ I64 x.f1) : ∃ k, tickinglaw01_CoverCircles.f k l0 = some true := by
 refine Ev.rounds ?_
 unfold tickinglaw01_CoverCircles.f
 rw [points_take]
 simp only [Option.bind_some]
 have hy : (l0.take 65).length ≤ 65 := by simp; omega
 generalize l0.take 65 = y at hy
 have hp := rpoints_ev y (by omega)
 cases ha : arePs y with
 | false =>
  have e : cover_Enclose.f y = some (0, 0, 0, 0, [], 2) := by unfold cover_Enclose.f; rw [if_neg (by rw [ha]; decide)]
  rw [e]
  rw [ha] at hp
  simp only [Option.bind_some]
  refine Ev.bind hp ?_
  simp only [Bool.false_eq_true, if_false, if_true, beq_self_eq_true, Bool.and_self, List.length_nil]
  have z0 : ((0 : Nat) : Int) = 0 := rfl
  simp only [z0, if_true]
  refine Ev.bind (check_no ha ⟨0, 0, 0, 0⟩ []) ?_
  simp only [if_true]
  exact Ev.bind awake_ev (Ev.now _)
 | true =>
  obtain ⟨x, e, hm, hb, hv, ok⟩ := enclose_best ha
  have he : enclosesC x.c y = true := by
   unfold enclosesC
   rw [Bool.not_eq_true', ← Bool.not_eq_true, List.any_eq_true]
   rintro ⟨p, hp, ho⟩
   have := hb.enc p hp
   unfold outC at ho
   rw [decide_eq_true_eq] at ho
   omega
  have hr := cand_right ha hm he hv
  rw [e]
  rw [ha] at hp
  simp only [Option.bind_some]
  refine Ev.bind hp ?_
  simp only [if_true]
  have a := right_ev ha x.c x.s
  have b := check_ev ha x.c x.s
  rw [hr] at a b
  refine Ev.bind a ?_
  simp only [if_true]
  refine Ev.bind b ?_
  simp only [if_true]
  exact Ev.bind awake_ev (Ev.now _)
end Go.Proofs.Ytplhfbkejngioaa.Pure
