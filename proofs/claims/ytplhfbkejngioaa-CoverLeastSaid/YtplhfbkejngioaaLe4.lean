/- The plain statement of CoverLeast (the walk itself holds the law: see ELeast). Texts of this claim's session, put together: RefA, Ref1, Move, Tame, ELeast, PureCoverLeast. -/
import Derived.Test.YtplhfbkejngioaaBc4
import Derived.Test.YtplhfbkejngioaaBc13
import Derived.Test.YtplhfbkejngioaaLe2
import Derived.Test.YtplhfbkejngioaaLe3
import Derived.Test.YtplhfbkejngioaaBc5
import Derived.Test.YtplhfbkejngioaaLe1
import Derived.IntWalk
import Derived.Test.YtplhfbkejngioaaVWords
import Derived.Test.YtplhfbkejngioaaVLast
import Derived.Test.YtplhfbkejngioaaVTab
import Derived.Test.YtplhfbkejngioaaVRepsOne
namespace Go.Proofs.Ytplhfbkejngioaa.X
open Go.RowKit Go.Proofs.YtplhfbkejngioaaW.PrintWords Go.Proofs.YtplhfbkejngioaaW.PrintLast Go.Proofs.Ytplhfbkejngioaa.S Go.Proofs.Ytplhfbkejngioaa.Open
set_option linter.unusedVariables false
theorem rd28_get {l : List S28} {i : Nat} (h : i < l.length) : rd_T28 l (i : Int) = l[i] := by simp [rd_T28, h]
theorem next_i {i n : Nat} (h : i < n) (hn : n ≤ 9223372036854775807) : wrap64 ((i : Int) + 1) = ((i + 1 : Nat) : Int) := by rw [w64 (by omega) (by omega)]; omega
end Go.Proofs.Ytplhfbkejngioaa.X
namespace Go.Proofs.Ytplhfbkejngioaa.X
open Go.RowKit Go.Proofs.YtplhfbkejngioaaW.PrintWords Go.Proofs.YtplhfbkejngioaaW.PrintLast Go.Proofs.Ytplhfbkejngioaa.S Go.Proofs.Ytplhfbkejngioaa.Open
set_option linter.unusedVariables false
def rangeC (c : Ci) : Bool := decide (1 ≤ c.D) && decide (c.D ≤ 1048576) && (decide (-536870912 ≤ c.X) && decide (c.X ≤ 536870912)) && (decide (-536870912 ≤ c.Y) && decide (c.Y ≤ 536870912)) && (decide (0 ≤ c.R) && decide (c.R ≤ 1152921504606846976))
def validC (c : Ci) : Bool := rangeC c && (gcd3 c == 1)
theorem rangeC_bd {c : Ci} (h : rangeC c = true) : 1 ≤ c.D ∧ c.D ≤ 1048576 ∧ -536870912 ≤ c.X ∧ c.X ≤ 536870912 ∧ -536870912 ≤ c.Y ∧ c.Y ≤ 536870912 ∧ 0 ≤ c.R ∧ c.R ≤ 1152921504606846976 := by
 simp only [rangeC, Bool.and_eq_true, decide_eq_true_eq] at h; omega
theorem rangeC_ok {c : Ci} (h : rangeC c = true) : okC c := by
 have := rangeC_bd h; unfold okC; omega
theorem validC_range {c : Ci} (h : validC c = true) : rangeC c = true := by
 unfold validC at h; simp only [Bool.and_eq_true] at h; exact h.1
theorem isCircle_ev (c : Ci) : Ev (fun k => cover_isCircle.f k c.X c.Y c.D c.R) (validC c) := by
 by_cases h : rangeC c = true
 ·have b := rangeC_bd h
  have hgl : Nat.gcd c.X.natAbs c.Y.natAbs ≤ 536870912 := by
   rcases Nat.eq_zero_or_pos c.X.natAbs with h | h
   ·rw [h, Nat.gcd_zero_left]; omega
   ·have := Nat.gcd_le_left c.Y.natAbs h; omega
  have e1 := gcd_ev c.X c.Y (by omega) (by omega)
  have e2 := gcd_ev ((Nat.gcd c.X.natAbs c.Y.natAbs : Nat) : Int) c.D (by omega) (by omega)
  refine Ev.congr (f := fun k => (cover_gcd.f k c.X c.Y).bind fun t472 => ((cover_gcd.f k t472 c.D).bind fun t473 => (some (t473 == 1)))) (fun k => ?_) (Ev.bind e1 (Ev.bind e2 ?_))
  ·unfold cover_isCircle.f
   rw [within_f, within_f, within_f, within_f]
   simp only [rangeC, Bool.and_eq_true] at h
   obtain ⟨⟨⟨⟨h1, h2⟩, h3⟩, h4⟩, h5⟩ := h
   simp [h1, h2, h3.1, h3.2, h4.1, h4.2, h5.1, h5.2]
  ·have : validC c = (((Nat.gcd (((Nat.gcd c.X.natAbs c.Y.natAbs : Nat) : Int)).natAbs c.D.natAbs : Nat) : Int) == 1) := by
    unfold validC; rw [h, Bool.true_and]; rfl
   rw [this]; exact Ev.now _
 ·have hv : validC c = false := by unfold validC; rw [Bool.eq_false_iff.2 h]; rfl
  rw [hv]
  refine ⟨0, fun k _ => ?_⟩
  unfold cover_isCircle.f
  rw [within_f, within_f, within_f, within_f]
  have h' : rangeC c = false := Bool.eq_false_iff.2 h
  unfold rangeC at h'
  by_cases h1 : (decide (1 ≤ c.D) && decide (c.D ≤ 1048576)) = true
  ·rw [h1] at h' ⊢
   by_cases h2 : (decide (-536870912 ≤ c.X) && decide (c.X ≤ 536870912)) = true
   ·rw [h2] at h' ⊢
    by_cases h3 : (decide (-536870912 ≤ c.Y) && decide (c.Y ≤ 536870912)) = true
    ·rw [h3] at h' ⊢
     simp only [Bool.and_self, Bool.true_and] at h'
     rw [h']; rfl
    ·rw [Bool.eq_false_iff.2 h3]; rfl
   ·rw [Bool.eq_false_iff.2 h2]; rfl
  ·rw [Bool.eq_false_iff.2 h1]; rfl
theorem rgcd_l0 : ∀ (n : Nat) (a b : Nat), b ≤ n → Ev (fun k => tickingref01_gcd.l0 k (a : Int) (b : Int)) ((Nat.gcd a b : Nat) : Int) := by
 intro n
 induction n with
 | zero =>
  intro a b hn
  obtain rfl : b = 0 := by omega
  refine Ev.step (f := fun _ => some _) (fun k => ?_) (Ev.now _)
  simp only [tickingref01_gcd.l0]
  rw [if_neg (by simp), Nat.gcd_zero_right]
 | succ n ih =>
  intro a b hn
  by_cases h0 : b = 0
  ·subst h0; exact ih a 0 (Nat.zero_le _)
  ·have ht : Int.tmod (a : Int) (b : Int) = ((a % b : Nat) : Int) := by
    rw [Int.tmod_eq_emod_of_nonneg (by omega)]; exact (Int.natCast_emod _ _).symm
   have hlt : a % b < b := Nat.mod_lt _ (by omega)
   have := ih b (a % b) (by omega)
   refine Ev.step (f := fun k => tickingref01_gcd.l0 k (b : Int) ((a % b : Nat) : Int)) (fun k => ?_) ?_
   ·simp only [tickingref01_gcd.l0]; rw [if_pos (by omega), if_neg (by omega), ht]
   ·have e : Nat.gcd a b = Nat.gcd b (a % b) := by
     rw [Nat.gcd_comm, Nat.gcd_rec, Nat.gcd_comm]
    rw [e]; exact this
theorem rgcd_ev (a b : Nat) : Ev (fun k => tickingref01_gcd.f k (a : Int) (b : Int)) ((Nat.gcd a b : Nat) : Int) := rgcd_l0 b a b (Nat.le_refl _)
theorem abs_f {a : Int} (h : -9223372036854775808 < a ∧ a ≤ 9223372036854775807) : tickingref01_absolute.f a = some ((a.natAbs : Nat) : Int) := by
 unfold tickingref01_absolute.f
 rw [w64 (by omega) (by omega)]
 unfold mx
 congr 1
 split <;> omega
theorem valid_ev (c : Ci) : Ev (fun k => tickingref01_Valid.f k c.X c.Y c.D c.R) (validC c) := by
 by_cases h : rangeC c = true
 ·have b := rangeC_bd h
  refine Ev.congr (f := fun k => tickingref01_Valid.j0 k false c.X c.Y c.D c.R) (fun k => ?_) (Ev.step (fun k => rfl) ?_)
  ·unfold tickingref01_Valid.f
   rw [if_neg (by omega), if_neg (by omega), if_neg (by omega), if_neg (by omega), if_neg (by omega), if_neg (by omega), if_neg (by omega)]
   have : decide (c.R > 1152921504606846976) = false := by simp; omega
   rw [this]
  ·have hD : (c.D.natAbs : Int) = c.D := by omega
   have e1 := rgcd_ev c.X.natAbs c.Y.natAbs
   have e2 := rgcd_ev (Nat.gcd c.X.natAbs c.Y.natAbs) c.D.natAbs
   rw [hD] at e2
   refine Ev.congr (f := fun k => (tickingref01_gcd.f k (c.X.natAbs : Int) (c.Y.natAbs : Int)).bind fun t357 => ((tickingref01_gcd.f k t357 c.D).bind fun t358 => (some (t358 == 1)))) (fun k => ?_) (Ev.bind e1 (Ev.bind e2 ?_))
   ·have a1 := abs_f (a := c.X) (by omega)
    have a2 := abs_f (a := c.Y) (by omega)
    simp only [tickingref01_Valid.j0]
    rw [if_neg Bool.false_ne_true, a1, a2]
    rfl
   ·have : validC c = (((Nat.gcd (Nat.gcd c.X.natAbs c.Y.natAbs) c.D.natAbs : Nat) : Int) == 1) := by
     unfold validC; rw [h, Bool.true_and]; rfl
    rw [this]; exact Ev.now _
 ·have hv : validC c = false := by unfold validC; rw [Bool.eq_false_iff.2 h]; rfl
  rw [hv]
  have key : ∀ k, tickingref01_Valid.f k c.X c.Y c.D c.R = tickingref01_Valid.j0 k true c.X c.Y c.D c.R := by
   intro k
   unfold tickingref01_Valid.f
   by_cases h1 : c.D < 1
   ·rw [if_pos h1]
   rw [if_neg h1]
   by_cases h2 : c.D > 1048576
   ·rw [if_pos h2]
   rw [if_neg h2]
   by_cases h3 : c.X < -536870912
   ·rw [if_pos h3]
   rw [if_neg h3]
   by_cases h4 : c.X > 536870912
   ·rw [if_pos h4]
   rw [if_neg h4]
   by_cases h5 : c.Y < -536870912
   ·rw [if_pos h5]
   rw [if_neg h5]
   by_cases h6 : c.Y > 536870912
   ·rw [if_pos h6]
   rw [if_neg h6]
   by_cases h7 : c.R < 0
   ·rw [if_pos h7]
   rw [if_neg h7]
   have : decide (c.R > 1152921504606846976) = true := by
    by_cases h8 : c.R > 1152921504606846976
    ·simp [h8]
    ·exact absurd (show rangeC c = true by simp only [rangeC, Bool.and_eq_true, decide_eq_true_eq]; omega) h
   rw [this]
  refine Ev.congr key (Ev.step (f := fun _ => some false) (fun k => ?_) (Ev.now _))
  simp only [tickingref01_Valid.j0, if_true]
theorem far_f {c : Ci} (hc : okC c) {p : S28} (hp : isP p = true) : tickingref01_Far.f c.X c.Y c.D c.R p.f0 p.f1 = some (farC c p) := by
 have h := vec_bd hc hp
 have hf := far_bd hc hp
 have m0 := sq_bd h.2.2.1.1 h.2.2.1.2
 have m1 := sq_bd h.2.2.2.1 h.2.2.2.2
 unfold tickingref01_Far.f
 unfold farC at hf ⊢
 rw [Int.mul_comm p.f0, Int.mul_comm p.f1, w64 (x := c.D * p.f0) (by omega) (by omega), w64 (x := c.D * p.f1) (by omega) (by omega), w64 (x := c.D * p.f0 - c.X) (by omega) (by omega), w64 (x := c.D * p.f1 - c.Y) (by omega) (by omega)]
 rw [w64 (x := (c.D * p.f0 - c.X) * (c.D * p.f0 - c.X)) (by omega) (by omega), w64 (x := (c.D * p.f1 - c.Y) * (c.D * p.f1 - c.Y)) (by omega) (by omega), w64 (by omega) (by omega)]
end Go.Proofs.Ytplhfbkejngioaa.X
namespace Go.Proofs.Ytplhfbkejngioaa.X
open Go.RowKit Go.Proofs.YtplhfbkejngioaaW.PrintWords Go.Proofs.YtplhfbkejngioaaW.PrintLast Go.Proofs.Ytplhfbkejngioaa.S Go.Proofs.Ytplhfbkejngioaa.Geo
set_option linter.unusedVariables false
theorem dvd_gcd3 {g : Int} {c : Ci} (h1 : g ∣ c.X) (h2 : g ∣ c.Y) (h3 : g ∣ c.D) : g ∣ gcd3 c := by
 unfold gcd3
 rw [← Int.natAbs_dvd_natAbs] at *
 exact Nat.dvd_gcd (Nat.dvd_gcd h1 h2) h3
theorem one_of {c c' : Ci} (h : gcd3 c = 1) (hD : c'.D ≠ 0) (hd : ∀ g, g ∣ c'.X → g ∣ c'.Y → g ∣ c'.D → g ∣ c.X ∧ g ∣ c.Y ∧ g ∣ c.D) : gcd3 c' = 1 := by
 obtain ⟨X, Y, D, R⟩ := c'
 obtain ⟨h1, h2, h3⟩ := hd _ (gcd3_dX X Y D R) (gcd3_dY X Y D R) (gcd3_dD X Y D R)
 have h4 := dvd_gcd3 h1 h2 h3
 rw [h] at h4
 have h5 := gcd3_pos X Y D R hD
 exact Int.eq_one_of_dvd_one (Int.le_of_lt h5) h4
theorem Best.map {l : List S28} {c c' : Ci} (T : S28 → S28) (h : Best l c) (hD : c'.D = c.D) (hR : c'.R = c.R) (hf : ∀ p, farC c' (T p) = farC c p) (hg : gcd3 c' = 1)
  (hb : ∀ l1 l2 l3 p q r, BalC c l1 l2 l3 p q r → BalC c' l1 l2 l3 (T p) (T q) (T r)) : Best (l.map T) c' := by
 obtain ⟨p, q, r, hp, hq, hr, S⟩ := h.sup
 obtain ⟨l1, l2, l3, b⟩ := S.bal
 refine ⟨fun x hx => ?_, T p, T q, T r, List.mem_map_of_mem hp, List.mem_map_of_mem hq, List.mem_map_of_mem hr, ⟨?_, hg, ?_, ?_, ?_, l1, l2, l3, hb _ _ _ _ _ _ b⟩⟩
 ·obtain ⟨y, hy, rfl⟩ := List.mem_map.1 hx
  rw [hf, hR]; exact h.enc y hy
 ·rw [hD]; exact S.pos
 ·rw [hf, hR]; exact S.fp
 ·rw [hf, hR]; exact S.fq
 ·rw [hf, hR]; exact S.fr
theorem cand_ok {l : List S28} (hl : 0 < l.length) (hP : l.all isP = true) {x : Cand} (hx : x ∈ cands l) : okC x.c := by
 have hp : ∀ i : Nat, i < l.length → isP (pt l i) = true := fun i hi => by
  rw [List.all_eq_true] at hP
  refine hP _ ?_
  unfold pt
  rw [List.getD_eq_getElem?_getD, List.getElem?_eq_getElem hi]
  exact List.getElem_mem hi
 rcases cands_cases hx with rfl | ⟨i, j, hij, hj, rfl⟩ | ⟨i, j, k, hij, hjk, hk, hc, hin, rfl⟩
 ·have := isP_bd (hp 0 hl)
  unfold okC; simp only; omega
 ·exact bet_ok (hp i (by omega)) (hp j hj)
 ·exact thr_ok (hp i (by omega)) (hp j (by omega)) (hp k hk) hc
theorem bal_bd {l1 l2 l3 D X x1 x2 x3 : Int} (h1 : 0 ≤ l1) (h2 : 0 ≤ l2) (h3 : 0 ≤ l3) (hs : 0 < l1 + l2 + l3) (hD : 0 < D)
  (h : l1 * (D * x1 - X) + l2 * (D * x2 - X) + l3 * (D * x3 - X) = 0) (b1 : x1 ≤ 256) (b2 : x2 ≤ 256) (b3 : x3 ≤ 256) : X ≤ 256 * D := by
 refine Int.not_lt.1 fun hX => ?_
 have t : ∀ l x : Int, 0 ≤ l → x ≤ 256 → l * (D * x - X) ≤ -l := by
  intro l x hl hx
  have a : D * x ≤ D * 256 := Int.mul_le_mul_of_nonneg_left hx (by omega)
  have b : l * (D * x - X) ≤ l * (-1) := Int.mul_le_mul_of_nonneg_left (by omega) hl
  omega
 have := t l1 x1 h1 b1
 have := t l2 x2 h2 b2
 have := t l3 x3 h3 b3
 omega
theorem best_range {l : List S28} (hP : l.all isP = true) {c : Ci} (h : Best l c) (hD : c.D ≤ 1048576) : rangeC c = true := by
 obtain ⟨p, q, r, hp, hq, hr, S⟩ := h.sup
 obtain ⟨l1, l2, l3, b⟩ := S.bal
 rw [List.all_eq_true] at hP
 have bp := isP_bd (hP p hp)
 have bq := isP_bd (hP q hq)
 have br := isP_bd (hP r hr)
 have n1 := b.n1
 have n2 := b.n2
 have n3 := b.n3
 have D0 := S.pos
 have x1 := bal_bd n1 n2 n3 b.pos D0 b.hx (by omega) (by omega) (by omega)
 have y1 := bal_bd n1 n2 n3 b.pos D0 b.hy (by omega) (by omega) (by omega)
 have neg : ∀ x X : Int, c.D * -x - -X = -(c.D * x - X) := fun x X => by grind
 have x2 : -c.X ≤ 256 * c.D := bal_bd (x1 := -p.f0) (x2 := -q.f0) (x3 := -r.f0) n1 n2 n3 b.pos D0 (by have := b.hx; simp only [neg]; simp only [Int.mul_neg]; omega) (by omega) (by omega) (by omega)
 have y2 : -c.Y ≤ 256 * c.D := bal_bd (x1 := -p.f1) (x2 := -q.f1) (x3 := -r.f1) n1 n2 n3 b.pos D0 (by have := b.hy; simp only [neg]; simp only [Int.mul_neg]; omega) (by omega) (by omega) (by omega)
 have m0 := mul_bd (A := 1048576) (B := 256) (a := c.D) (b := p.f0) (by omega) (by omega) (by omega) (by omega)
 have m1 := mul_bd (A := 1048576) (B := 256) (a := c.D) (b := p.f1) (by omega) (by omega) (by omega) (by omega)
 have s0 := sq_bd (A := 536870912) (a := c.D * p.f0 - c.X) (by omega) (by omega)
 have s1 := sq_bd (A := 536870912) (a := c.D * p.f1 - c.Y) (by omega) (by omega)
 have fp := S.fp
 unfold farC at fp
 unfold rangeC
 simp only [Bool.and_eq_true, decide_eq_true_eq]
 omega
theorem best_valid {l : List S28} (hP : l.all isP = true) {c : Ci} (h : Best l c) (hD : c.D ≤ 1048576) : validC c = true := by
 unfold validC
 rw [best_range hP h hD, h.one]; rfl
theorem enclose_best {l : List S28} (h : arePs l = true) : ∃ x, cover_Enclose.f l = some (x.c.X, x.c.Y, x.c.D, x.c.R, x.s, 0) ∧ x ∈ cands l ∧ Best l x.c ∧ validC x.c = true ∧ okC x.c := by
 have ha := h
 unfold arePs at h
 simp only [Bool.and_eq_true, decide_eq_true_eq] at h
 obtain ⟨x, e, hm, he⟩ := enclose_some (l := l) (by omega)
 have ok := cand_ok (by omega) h.2 hm
 have hb := best_of (by omega) hm he
 refine ⟨x, ?_, hm, hb, best_valid h.2 hb ok.2.1, ok⟩
 unfold cover_Enclose.f
 rw [if_pos ha, e]
end Go.Proofs.Ytplhfbkejngioaa.X
namespace Go.Proofs.Ytplhfbkejngioaa.X
open Go.RowKit Go.Proofs.YtplhfbkejngioaaW.PrintWords Go.Proofs.YtplhfbkejngioaaW.PrintLast Go.Proofs.Ytplhfbkejngioaa.S Go.Proofs.Ytplhfbkejngioaa.Open
set_option linter.unusedVariables false
set_option linter.unusedSimpArgs false
theorem u64_pos (a : Int) : 0 ≤ IntKind.u64.wrap a := by
 simp only [IntKind.wrap]
 exact Int.emod_nonneg _ (by decide)
theorem u64_id {n : Int} (h0 : 0 ≤ n) (h1 : n ≤ 9223372036854775807) : IntKind.u64.wrap n = n := by
 have e : IntKind.u64.wrap n = n % 18446744073709551616 := by simp [IntKind.wrap, IntKind.signed, IntKind.bits]
 rw [e]; omega
theorem mod_in (a : Int) {n : Int} (h0 : 1 ≤ n) (h1 : n ≤ 1000000) : ∃ x, tickinglaw01_mod.f a n = some x ∧ 0 ≤ x ∧ x < n := by
 unfold tickinglaw01_mod.f
 have p0 := u64_pos a
 have p1 := Int.tmod_lt_of_pos (IntKind.u64.wrap a) (b := n) (by omega)
 have p2 := Int.tmod_nonneg (a := IntKind.u64.wrap a) n p0
 rw [u64_id (by omega) (by omega), if_neg (by omega)]
 exact ⟨_, rfl, by rw [w64 (by omega) (by omega)]; exact p2, by rw [w64 (by omega) (by omega)]; exact p1⟩
theorem near_in (a : Int) {most : Int} (h0 : 0 ≤ most) (h1 : most ≤ 1000) : ∃ x, tickinglaw01_near.f a most = some x ∧ -most ≤ x ∧ x ≤ most := by
 unfold tickinglaw01_near.f
 obtain ⟨x, hx, b0, b1⟩ := mod_in a (n := 2 * most + 1) (by omega) (by omega)
 rw [w64 (x := -most) (by omega) (by omega), w64 (x := 2 * most) (by omega) (by omega), w64 (x := 2 * most + 1) (by omega) (by omega), hx]
 simp only [Option.bind_some]
 rw [w64 (x := x - most) (by omega) (by omega)]
 by_cases c0 : a < -most
 ·rw [if_pos c0]; exact ⟨_, rfl, by omega, by omega⟩
 ·rw [if_neg c0]
  by_cases c1 : a > most
  ·rw [if_pos c1]; exact ⟨_, rfl, by omega, by omega⟩
  ·rw [if_neg c1]; exact ⟨_, rfl, by omega, by omega⟩
def withinP (most : Int) (p : S28) : Prop := -most ≤ p.f0 ∧ p.f0 ≤ most ∧ -most ≤ p.f1 ∧ p.f1 ≤ most
theorem tameG_l0 (l : List S28) (hn : l.length ≤ 9223372036854775807) (many : Nat) (hm : 1 ≤ many ∧ many ≤ 32) {most : Int} (m0 : 0 ≤ most) (m1 : most ≤ 1000) :
  ∀ (d i : Nat), i + d = min l.length many → ∀ acc : List S28, acc.length = i → (∀ p ∈ acc, withinP most p) →
   ∃ out : List S28, 1 ≤ out.length ∧ out.length ≤ many ∧ (∀ p ∈ out, withinP most p) ∧ ∀ k, 2 * d + 2 ≤ k → tickinglaw01_tame.l0 k l (many : Int) most acc (i : Int) = some out
 | 0, i, h, acc, ha, hall => by
  have hz : withinP most ⟨0, 0⟩ := by unfold withinP; simp only; omega
  have key : ∀ k, tickinglaw01_tame.l0 (k + 2) l (many : Int) most acc (i : Int) = (if (acc.length : Int) = 0 then (if acc.length < 8796093022208 then (some (acc ++ [(⟨0, 0⟩ : S28)])) else (none)) else (some acc)) := by
   intro k
   simp only [tickinglaw01_tame.l0, tickinglaw01_tame.j1]
   by_cases h0 : (i : Int) < (l.length : Int)
   ·rw [if_pos h0]
    have e : decide ((i : Int) < (many : Int)) = false := decide_eq_false (by omega)
    rw [e, if_neg (by decide)]
   ·rw [if_neg h0, if_neg (by decide)]
  by_cases h0 : acc.length = 0
  ·refine ⟨acc ++ [⟨0, 0⟩], by simp, by simp; omega, fun p hp => ?_, fun k hk => ?_⟩
   ·rcases List.mem_append.1 hp with hp | hp
    ·exact hall p hp
    ·rw [List.mem_singleton.1 hp]; exact hz
   ·obtain ⟨k, rfl⟩ : ∃ q, k = q + 2 := ⟨k - 2, by omega⟩
    rw [key, if_pos (by omega), if_pos (by omega)]
  ·refine ⟨acc, by omega, by omega, hall, fun k hk => ?_⟩
   obtain ⟨k, rfl⟩ : ∃ q, k = q + 2 := ⟨k - 2, by omega⟩
   rw [key, if_neg (by omega)]
 | d + 1, i, h, acc, ha, hall => by
  obtain ⟨x0, e0, b0, c0⟩ := near_in (rd_T28 l i).f0 m0 m1
  obtain ⟨x1, e1, b1, c1⟩ := near_in (rd_T28 l i).f1 m0 m1
  have hi : i < l.length := by omega
  have h0 : (i : Int) < (l.length : Int) := by omega
  have h1 : decide ((i : Int) < (many : Int)) = true := decide_eq_true (by omega)
  have h2 : (0 : Int) ≤ (i : Int) := by omega
  have h3 : acc.length < 8796093022208 := by omega
  obtain ⟨out, o1, o2, o3, o4⟩ := tameG_l0 l hn many hm m0 m1 d (i + 1) (by omega) (acc ++ [⟨x0, x1⟩]) (by simp; omega) (fun p hp => by
   rcases List.mem_append.1 hp with hp | hp
   ·exact hall p hp
   ·rw [List.mem_singleton.1 hp]; unfold withinP; simp only; omega)
  refine ⟨out, o1, o2, o3, fun k hk => ?_⟩
  obtain ⟨k, rfl⟩ : ∃ q, k = q + 2 := ⟨k - 2, by omega⟩
  simp only [tickinglaw01_tame.l0, tickinglaw01_tame.j1]
  rw [if_pos h0, h1, if_pos rfl, if_pos h2, if_pos h0, e0, e1]
  simp only [Option.bind_some]
  rw [if_pos h3, next_i hi hn]
  exact o4 k (by omega)
theorem tameG_ev (l : List S28) (hn : l.length ≤ 9223372036854775807) (many : Nat) (hm : 1 ≤ many ∧ many ≤ 32) {most : Int} (m0 : 0 ≤ most) (m1 : most ≤ 1000) :
  ∃ out : List S28, 1 ≤ out.length ∧ out.length ≤ many ∧ (∀ p ∈ out, withinP most p) ∧ Ev (fun k => tickinglaw01_tame.f k l (many : Int) most) out := by
 obtain ⟨out, h1, h2, h3, h4⟩ := tameG_l0 l hn many hm m0 m1 (min l.length many) 0 (by omega) [] rfl (fun p hp => by cases hp)
 exact ⟨out, h1, h2, h3, _, fun k hk => by unfold tickinglaw01_tame.f; exact h4 k hk⟩
theorem less_l0 : ∀ (n : Nat) (a b c d : Int), 0 ≤ a → a ≤ 9223372036854775807 → 0 < b → b ≤ 9223372036854775807 → 0 ≤ c → c ≤ 9223372036854775807 → 0 < d → d ≤ 9223372036854775807 → b + d ≤ (n : Int) →
  Ev (fun k => tickinglaw01_less.l0 k a b c d) (decide (a * d < c * b)) := by
 intro n
 induction n with
 | zero => intro a b c d a0 a1 b0 b1 c0 c1 d0 d1 h; omega
 | succ n ih =>
  intro a b c d a0 a1 b0 b1 c0 c1 d0 d1 h
  have p0 : 0 ≤ a / b := Int.ediv_nonneg a0 (by omega)
  have p1 : a / b ≤ a := Int.ediv_le_self b a0
  have q0 : 0 ≤ c / d := Int.ediv_nonneg c0 (by omega)
  have q1 : c / d ≤ c := Int.ediv_le_self d c0
  have ea := Int.mul_ediv_add_emod a b
  have ec := Int.mul_ediv_add_emod c d
  have ra0 := Int.emod_nonneg a (Int.ne_of_gt b0)
  have ra1 := Int.emod_lt_of_pos a b0
  have rc0 := Int.emod_nonneg c (Int.ne_of_gt d0)
  have rc1 := Int.emod_lt_of_pos c d0
  have t0 : Int.tdiv a b = a / b := Int.tdiv_eq_ediv_of_nonneg a0
  have t1 : Int.tdiv c d = c / d := Int.tdiv_eq_ediv_of_nonneg c0
  have ma : a / b * b = b * (a / b) := Int.mul_comm _ _
  have mc : c / d * d = d * (c / d) := Int.mul_comm _ _
  have pa := Int.mul_nonneg p0 (Int.le_of_lt b0)
  have pc := Int.mul_nonneg q0 (Int.le_of_lt d0)
  have key : ∀ k, tickinglaw01_less.l0 (k + 1) a b c d = if a / b = c / d then (if a % b = 0 then some (decide (c % d > 0)) else if c % d = 0 then some false else tickinglaw01_less.l0 k d (c % d) b (a % b)) else some (decide (a / b < c / d)) := by
   intro k
   conv => lhs; simp only [tickinglaw01_less.l0]
   rw [if_neg (by omega), if_neg (by omega), t0, t1, w64 (x := a / b) (by omega) (by omega), w64 (x := c / d) (by omega) (by omega), w64 (x := a / b * b) (by omega) (by omega), w64 (x := c / d * d) (by omega) (by omega)]
   have e1 : a - a / b * b = a % b := by omega
   have e2 : c - c / d * d = c % d := by omega
   rw [e1, e2, w64 (x := a % b) (by omega) (by omega), w64 (x := c % d) (by omega) (by omega)]
  generalize hp : a / b = p at *
  generalize hq : c / d = q at *
  generalize hr : a % b = r at *
  generalize hs : c % d = s at *
  have da : a * d = b * d * p + r * d := by rw [← ea]; grind
  have dc : c * b = b * d * q + s * b := by rw [← ec]; grind
  by_cases e : p = q
  ·have iff1 : (a * d < c * b) ↔ (r * d < s * b) := by rw [da, dc, e]; omega
   by_cases r0 : r = 0
   ·have : decide (a * d < c * b) = decide (s > 0) := by
     rw [decide_eq_decide, iff1, r0, Int.zero_mul]
     constructor
     ·intro h
      refine Int.not_le.1 fun hs => ?_
      obtain rfl : s = 0 := by omega
      rw [Int.zero_mul] at h; omega
     ·exact fun h => Int.mul_pos h b0
    rw [this]
    exact Ev.step (f := fun _ => some (decide (s > 0))) (fun k => by rw [key, if_pos e, if_pos r0]) (Ev.now _)
   ·by_cases s0 : s = 0
    ·have : decide (a * d < c * b) = false := by
      rw [decide_eq_false_iff_not, iff1, s0, Int.zero_mul]
      have := Int.mul_pos (show 0 < r by omega) d0
      omega
     rw [this]
     exact Ev.step (f := fun _ => some false) (fun k => by rw [key, if_pos e, if_neg r0, if_pos s0]) (Ev.now _)
    ·have : decide (a * d < c * b) = decide (d * r < b * s) := by
      rw [decide_eq_decide, iff1, Int.mul_comm r d, Int.mul_comm s b]
     rw [this]
     exact Ev.step (fun k => by rw [key, if_pos e, if_neg r0, if_neg s0]) (ih d s b r (by omega) (by omega) (by omega) (by omega) (by omega) (by omega) (by omega) (by omega) (by omega))
  ·have : decide (a * d < c * b) = decide (p < q) := by
    rw [decide_eq_decide, da, dc]
    have bd := Int.mul_pos b0 d0
    have r1 : r * d < b * d := Int.mul_lt_mul_of_pos_right ra1 d0
    have s1 : s * b < b * d := by
     have := Int.mul_lt_mul_of_pos_right rc1 b0
     rw [Int.mul_comm d b] at this; exact this
    have r2 := Int.mul_nonneg ra0 (Int.le_of_lt d0)
    have s2 := Int.mul_nonneg rc0 (Int.le_of_lt b0)
    generalize b * d = m at *
    rcases Int.lt_or_gt_of_ne e with h | h
    ·have : m * (p + 1) ≤ m * q := Int.mul_le_mul_of_nonneg_left (by omega) (by omega)
     have e2 : m * (p + 1) = m * p + m := by grind
     constructor
     ·exact fun _ => h
     ·intro _; omega
    ·have : m * (q + 1) ≤ m * p := Int.mul_le_mul_of_nonneg_left (by omega) (by omega)
     have e2 : m * (q + 1) = m * q + m := by grind
     constructor
     ·intro h2; omega
     ·intro h2; omega
   rw [this]
   exact Ev.step (f := fun _ => some (decide (p < q))) (fun k => by rw [key, if_neg e]) (Ev.now _)
theorem less_ev {a b c d : Int} (a0 : 0 ≤ a) (a1 : a ≤ 9223372036854775807) (b0 : 0 < b) (b1 : b ≤ 9223372036854775807) (c0 : 0 ≤ c) (c1 : c ≤ 9223372036854775807) (d0 : 0 < d) (d1 : d ≤ 9223372036854775807) :
  Ev (fun k => tickinglaw01_less.f k a b c d) (decide (a * d < c * b)) := less_l0 (b + d).toNat a b c d a0 a1 b0 b1 c0 c1 d0 d1 (by omega)
end Go.Proofs.Ytplhfbkejngioaa.X
namespace Go.Proofs.Ytplhfbkejngioaa.X
open Go.RowKit Go.Proofs.YtplhfbkejngioaaW.PrintWords Go.Proofs.YtplhfbkejngioaaW.PrintLast Go.Proofs.Ytplhfbkejngioaa.S
set_option linter.unusedVariables false
set_option linter.unusedSimpArgs false
attribute [local go_sem high] eqA40
theorem max2_mx' (k k' : IntKind) (x y : Int) : Builtin.max2 (.int k x) (.int k' y) = pure (.int k (mx x y)) := max2_int k k' x y
attribute [local go_sem] max2_mx' max_two
def tickinglaw01_CoverLeast.f (k : Nat) (l0 : List S28) (a1_0 a1_1 a2_0 a2_1 a2_2 a2_3 : Int) : Option Bool := some true
theorem threes_ {P : Program} {ops : Array Oper} {Q : Exit → Act → World → Prop} {md : Region.Mode} {S : World → Prop} {ds : List Nat} {i j k : Nat} {Ni Nj Nk : Option Tmp} {oi oj ok : Oper} {fuel : Nat} {l : Array Bool} {a : Act} {w : World} (li lj lk : Array Bool) (hi : ops[i]? = some oi) (hj : ops[j]? = some oj) (hk : ops[k]? = some ok) (hNi : oi.dst = Ni) (hNj : oj.dst = Nj) (hNk : ok.dst = Nk)
  (hc : (Region.ready md ops l == [i, j, k] && l.setIfInBounds i true == li && l.setIfInBounds j true == lj && l.setIfInBounds k true == lk) = true) (hdi : i ∉ ds) (hdj : j ∉ ds) (hdk : k ∉ ds)
  (h1 : ∀ K : Act → World → Prop, Shut (∀ a' w', S w' → (S w' → wpAnyLast P md ops Q S ds fuel li a' w') → K a' w') → if Region.wanted oi (yielded ops a.tmps) = true then Oper.wp P oi a w K Q else K (a.put Ni undef) w)
  (h2 : ∀ K : Act → World → Prop, Shut (∀ a' w', S w' → (S w' → wpAnyLast P md ops Q S ds fuel lj a' w') → K a' w') → if Region.wanted oj (yielded ops a.tmps) = true then Oper.wp P oj a w K Q else K (a.put Nj undef) w)
  (h3 : ∀ K : Act → World → Prop, Shut (∀ a' w', S w' → (S w' → wpAnyLast P md ops Q S ds fuel lk a' w') → K a' w') → if Region.wanted ok (yielded ops a.tmps) = true then Oper.wp P ok a w K Q else K (a.put Nk undef) w) :
  wpAnyLast P md ops Q S ds (fuel + 1) l a w := by
 subst hNi
 subst hNj
 subst hNk
 simp only [Bool.and_eq_true, beq_iff_eq] at hc
 obtain ⟨⟨⟨h4, h5⟩, h6⟩, h7⟩ := hc
 subst h5
 subst h6
 subst h7
 exact wpAnyLast_ready h4 (by simp) (AllReadyL.cons hi hdi (fun K hK => h1 K hK) (AllReadyL.cons hj hdj (fun K hK => h2 K hK) (AllReadyL.cons hk hdk (fun K hK => h3 K hK) AllReadyL.nil)))
theorem one_C {w : World} {b : Nat} {p : S28} (h : w.heap[b]? = some (.cells #[.int .i64 p.f0, .int .i64 p.f1] 28 (0, 0))) : Kd.C k28 w (some ⟨b, 0, none⟩) 1 [p] := by
 refine ⟨rfl, by decide, fun _ => ⟨_, rfl, fun i x hi => ?_⟩⟩
 refine ⟨[.int .i64 x.f0, .int .i64 x.f1], rfl, k28_mk w x, fun a u hu => ?_⟩
 have hi2 : i < 1 := (List.getElem?_eq_some_iff.1 hi).1
 have ha : a < 2 := by have := (List.getElem?_eq_some_iff.1 hu).1; simpa using this
 show w.cell? (Addr.add ⟨b, 0, none⟩ (i * 2 + a)) = some u
 rw [Addr.add_lit, Nat.zero_add, blk_cell h]
 obtain rfl : i = 0 := by omega
 obtain rfl | rfl : a = 0 ∨ a = 1 := by omega
 all_goals
  simp at hi hu
  subst hi
  subst hu
  rfl
theorem least_pts (l : List S28) (h : l.length ≤ 30) : tickinglaw01_points.f l = some l := by
 unfold tickinglaw01_points.f mn
 have hn : ¬ (65 : Int) < (l.length : Int) := by omega
 simp only [hn, if_false]
 rw [if_pos (by omega), if_pos (by omega), Int.toNat_natCast, List.take_length]
 simp only [Option.bind_some, List.length_nil, List.nil_append]
 rw [if_pos (by omega)]
def sgC (c : Ci) (p : S28) : Int := if farC c p < c.R then -1 else if c.R < farC c p then 1 else 0
theorem least_same {y : List S28} {q : S28} {c d : Ci} (b0 : Best y c) (b1 : Best (y ++ [q]) d) {sg : Int} (hs : sgC c q = sg) :
  ∃ bb, (c.X == d.X && (c.Y == d.Y && (c.D == d.D && (c.R == d.R)))) = bb ∧ decide (sg ≤ 0) = bb := by
 refine ⟨_, rfl, ?_⟩
 subst hs
 unfold sgC
 by_cases hq : farC c q ≤ c.R
 ·have hb : Best (y ++ [q]) c := by
   obtain ⟨p1, p2, p3, m1, m2, m3, S⟩ := b0.sup
   refine ⟨fun p hp => ?_, p1, p2, p3, List.mem_append_left _ m1, List.mem_append_left _ m2, List.mem_append_left _ m3, S⟩
   rcases List.mem_append.1 hp with hp | hp
   ·exact b0.enc p hp
   ·rw [List.mem_singleton.1 hp]; exact hq
  rw [best_unique b1 hb]
  have : (if farC c q < c.R then (-1 : Int) else if c.R < farC c q then 1 else 0) ≤ 0 := by
   split
   ·decide
   ·rw [if_neg (by omega)]; decide
  simp [this]
 ·rw [if_neg (by omega), if_pos (by omega)]
  have hne : (c.X == d.X && (c.Y == d.Y && (c.D == d.D && (c.R == d.R)))) = false := by
   rw [← Bool.not_eq_true]
   intro h
   simp only [Bool.and_eq_true, beq_iff_eq] at h
   have e : c = d := by
    obtain ⟨X, Y, D, R⟩ := c
    obtain ⟨X', Y', D', R'⟩ := d
    simp only at h
    rw [h.1, h.2.1, h.2.2.1, h.2.2.2]
   have := b1.enc q (by simp)
   rw [← e] at this
   omega
  rw [hne]; decide
theorem sgC_le {c : Ci} {p : S28} (h : farC c p ≤ c.R) : sgC c p ≤ 0 := by
 unfold sgC
 split
 ·decide
 ·rw [if_neg (by omega)]; decide
theorem least_side {c : Ci} (hv : validC c = true) {p : S28} (hp : isP p = true) : ∃ k, cover_Side.f k c.X c.Y c.D c.R p.f0 p.f1 = some (sgC c p, 0) := by
 have h : Ev (fun k => cover_Side.f k c.X c.Y c.D c.R p.f0 p.f1) (sgC c p, 0) := by
  unfold cover_Side.f
  have hc := isCircle_ev c
  rw [hv] at hc
  refine Ev.bind hc ?_
  refine Ev.congr (f := fun _ => some _) (fun k => ?_) (Ev.now _)
  rw [if_pos rfl, isPoint_f, hp, Option.bind_some, if_pos rfl, side_f (rangeC_ok (validC_range hv)) hp]
  rfl
 exact h.rounds
structure LRad (y : List S28) (X Y D : Int) (i : Nat) (R : Int) : Prop where
 pos : 0 ≤ R
 le : R ≤ 20000000
 all : ∀ j : Nat, j < i → farC ⟨X, Y, D, R⟩ (pt y j) ≤ R
theorem lfar_bd {X Y D : Int} (hX : -1000 ≤ X ∧ X ≤ 1000) (hY : -1000 ≤ Y ∧ Y ≤ 1000) (hD : 1 ≤ D ∧ D ≤ 4) {p : S28} (hp : withinP 256 p) (R : Int) : 0 ≤ farC ⟨X, Y, D, R⟩ p ∧ farC ⟨X, Y, D, R⟩ p ≤ 20000000 := by
 unfold withinP at hp
 have m0 := mul_bd (A := 4) (B := 256) (a := D) (b := p.f0) (by omega) (by omega) (by omega) (by omega)
 have m1 := mul_bd (A := 4) (B := 256) (a := D) (b := p.f1) (by omega) (by omega) (by omega) (by omega)
 have s0 := sq_bd (A := 3000) (a := D * p.f0 - X) (by omega) (by omega)
 have s1 := sq_bd (A := 3000) (a := D * p.f1 - Y) (by omega) (by omega)
 unfold farC
 simp only
 omega
theorem lfar_ok {X Y D R : Int} (hX : -1000 ≤ X ∧ X ≤ 1000) (hY : -1000 ≤ Y ∧ Y ≤ 1000) (hD : 1 ≤ D ∧ D ≤ 4) (hR : 0 ≤ R ∧ R ≤ 20000000) : okC ⟨X, Y, D, R⟩ := by unfold okC; simp only; omega
theorem LRad.next {y : List S28} {X Y D R : Int} {i : Nat} (h : LRad y X Y D i R) (hX : -1000 ≤ X ∧ X ≤ 1000) (hY : -1000 ≤ Y ∧ Y ≤ 1000) (hD : 1 ≤ D ∧ D ≤ 4) {p : S28} (hp : withinP 256 p) (e : pt y i = p) : LRad y X Y D (i + 1) (mx R (farC ⟨X, Y, D, R⟩ p)) := by
 have b := lfar_bd hX hY hD hp R
 have l := h.le
 have n := h.pos
 have m : R ≤ mx R (farC ⟨X, Y, D, R⟩ p) ∧ farC ⟨X, Y, D, R⟩ p ≤ mx R (farC ⟨X, Y, D, R⟩ p) ∧ mx R (farC ⟨X, Y, D, R⟩ p) ≤ 20000000 := by unfold mx; split <;> omega
 refine ⟨by omega, m.2.2, fun j hj => ?_⟩
 rcases Nat.lt_or_eq_of_le (Nat.le_of_lt_succ hj) with hj | rfl
 ·have a := h.all j hj
  exact Int.le_trans a m.1
 ·rw [e]
  exact m.2.1
theorem least_less {y : List S28} {c : Ci} (hb : Best y c) (hv : validC c = true) {X Y D R : Int} (hX : -1000 ≤ X ∧ X ≤ 1000) (hY : -1000 ≤ Y ∧ Y ≤ 1000) (hD : 1 ≤ D ∧ D ≤ 4) (hR : LRad y X Y D y.length R) :
  ∃ k, tickinglaw01_less.f k R (D * D) c.R (c.D * c.D) = some false := by
 have rg := rangeC_bd (validC_range hv)
 have d1 := mul_bd (A := 4) (B := 4) (a := D) (b := D) (by omega) (by omega) (by omega) (by omega)
 have d2 := mul_bd (A := 1048576) (B := 1048576) (a := c.D) (b := c.D) (by omega) (by omega) (by omega) (by omega)
 have p1 := Int.mul_pos (show 0 < D by omega) (show 0 < D by omega)
 have p2 := Int.mul_pos (show 0 < c.D by omega) (show 0 < c.D by omega)
 have r0 := hR.pos
 have r1 := hR.le
 have hle := hb.le (c' := ⟨X, Y, D, R⟩) (fun p hp => by
  obtain ⟨m, hm, rfl⟩ := List.getElem_of_mem hp
  have e : pt y m = y[m] := by unfold pt; simp [hm]
  have := hR.all m hm
  rw [e] at this
  exact this)
 simp only at hle
 have z := Geo.ssq_nonneg (c.D * X - D * c.X) (c.D * Y - D * c.Y)
 have hno : decide (R * (c.D * c.D) < c.R * (D * D)) = false := by
  rw [decide_eq_false_iff_not, Int.mul_comm R, Int.mul_comm c.R]
  omega
 have L := less_ev (a := R) (b := D * D) (c := c.R) (d := c.D * c.D) (by omega) (by omega) (by omega) (by omega) (by omega) (by omega) (by omega) (by omega)
 rw [hno] at L
 exact L.rounds
theorem least_dd {D : Int} (hD : 1 ≤ D ∧ D ≤ 4) : wrap64 (D * D) = D * D := by
 have d1 := mul_bd (A := 4) (B := 4) (a := D) (b := D) (by omega) (by omega) (by omega) (by omega)
 exact w64 (by omega) (by omega)
theorem least_cc {c : Ci} (hv : validC c = true) : wrap64 (c.D * c.D) = c.D * c.D := by
 have rg := rangeC_bd (validC_range hv)
 have d2 := mul_bd (A := 1048576) (B := 1048576) (a := c.D) (b := c.D) (by omega) (by omega) (by omega) (by omega)
 exact w64 (by omega) (by omega)
theorem least_isP {p : S28} (h : withinP 256 p) : isP p = true := by
 unfold withinP at h
 unfold isP inC
 simp only [Bool.and_eq_true, decide_eq_true_eq]
 omega
theorem least_are {l : List S28} (h1 : 1 ≤ l.length) (h2 : l.length ≤ 64) (h3 : ∀ p ∈ l, withinP 256 p) : arePs l = true := by
 unfold arePs
 simp only [Bool.and_eq_true, decide_eq_true_eq, List.all_eq_true]
 exact ⟨⟨h1, h2⟩, fun p hp => least_isP (h3 p hp)⟩
set_option maxHeartbeats 4000000 in
set_option maxRecDepth 100000 in
theorem tickinglaw01_CoverLeast.calls (k : Nat) (A0 : Option Addr) (c0 : Nat) (l0 : List S28) (a1_0 a1_1 a2_0 a2_1 a2_2 a2_3 : Int) (r : Bool) (w : World) (hr0 : Kd.C k28 w A0 l0.length l0) (hc0 : l0.length ≤ c0) (hT : r = true) (h : tickinglaw01_CoverLeast.f k l0 a1_0 a1_1 a2_0 a2_1 a2_2 a2_3 = some r) :
  Calls Try.prog 8 #[.slice A0 l0.length c0, .agg #[.int .i64 a1_0, .int .i64 a1_1], .agg #[.int .i64 a2_0, .int .i64 a2_1, .int .i64 a2_2, .int .i64 a2_3]] w fun e w' => e = .returned (.bool r) ∧ Below w.heap.size w w' := by
 subst hT
 clear h
 have hlen : l0.length ≤ 9223372036854775807 := by have := hr0.2.1; omega
 obtain ⟨y, y1, y2, ys, hE⟩ := tameG_ev l0 hlen 30 (by decide) (most := 256) (by omega) (by omega)
 obtain ⟨z, z1, z2, zs, hZ⟩ := tameG_ev [⟨a1_0, a1_1⟩] (by simp) 1 (by decide) (most := 256) (by omega) (by omega)
 obtain ⟨kt, hkt⟩ := hE.rounds
 obtain ⟨kz, hkz⟩ := hZ.rounds
 obtain ⟨q, rfl⟩ : ∃ q, z = [q] := by
  match z, z1, z2 with
  | [q], _, _ => exact ⟨q, rfl⟩
 have hu28 := Try.underlying28
 have hu40 := Try.underlying40
 have HR0 := Aside0.mk hr0
 have HC0 := Aside0.mk hc0
 have HT1 := Aside0.mk (fun (W : World) (h : Kd.C k28 W A0 l0.length l0) => tickinglaw01_tame.calls kt A0 c0 l0 30 256 y W h HC0.out hkt)
 have HT2 := Aside0.mk (fun (W : World) (A : Option Addr) (h : Kd.C k28 W A 1 [⟨a1_0, a1_1⟩]) => show Calls Try.prog 25 #[.slice A 1 1, .int .i64 1, .int .i64 256] W fun e w' => ∃ v0_ : Value, e = .returned (v0_) ∧ Kd.R k28 28 w' W.heap.size (fun _ => True) v0_ [q] ∧ Below W.heap.size W w' from tickinglaw01_tame.calls kz A 1 [⟨a1_0, a1_1⟩] 1 256 [q] W h (by simp) hkz)
 have hq : withinP 256 q := zs q (by simp)
 have A0' : arePs y = true := least_are y1 (by omega) ys
 have A1' : arePs (y ++ [q]) = true := least_are (by simp) (by simp; omega) (fun p hp => by
  rcases List.mem_append.1 hp with hp | hp
  ·exact ys p hp
  ·rw [List.mem_singleton.1 hp]; exact hq)
 obtain ⟨x0, e0, _, b0, v0, ok0⟩ := enclose_best A0'
 obtain ⟨x1, e1, _, b1, v1, ok1⟩ := enclose_best A1'
 obtain ⟨c, hcx⟩ : ∃ c, c = x0.c := ⟨_, rfl⟩
 obtain ⟨d, hdx⟩ : ∃ d, d = x1.c := ⟨_, rfl⟩
 obtain ⟨s0, hs0⟩ : ∃ s, s = x0.s := ⟨_, rfl⟩
 obtain ⟨s1, hs1⟩ : ∃ s, s = x1.s := ⟨_, rfl⟩
 rw [← hcx, ← hs0] at e0
 rw [← hdx, ← hs1] at e1
 rw [← hcx] at b0 v0 ok0
 rw [← hdx] at b1 v1 ok1
 clear hcx hdx hs0 hs1 A0' A1'
 have PL := Aside0.mk (show Best y c ∧ Best (y ++ [q]) d ∧ validC c = true ∧ withinP 256 q from ⟨b0, b1, v0, hq⟩)
 have HE1 := Aside0.mk (fun (W : World) (A : Option Addr) (cp : Nat) (h : Kd.C k28 W A y.length y) (hc : y.length ≤ cp) => cover_Enclose.calls A cp y c.X c.Y c.D c.R s0 0 W h hc e0)
 have HE2 := Aside0.mk (fun (W : World) (A : Option Addr) (cp : Nat) (h : Kd.C k28 W A (y ++ [q]).length (y ++ [q])) (hc : (y ++ [q]).length ≤ cp) => cover_Enclose.calls A cp (y ++ [q]) d.X d.Y d.D d.R s1 0 W h hc e1)
 obtain ⟨kv, hkv⟩ := (show Ev (fun k => tickingref01_Valid.f k c.X c.Y c.D c.R) true from by rw [← v0]; exact valid_ev c).rounds
 have HVL := Aside0.mk (fun (W : World) => tickingref01_Valid.calls kv c.X c.Y c.D c.R true W hkv)
 have HSD := Aside0.mk (fun (p : S28) (hp : withinP 256 p) (W : World) => show Calls Try.prog 31 #[.agg #[.int .i64 c.X, .int .i64 c.Y, .int .i64 c.D, .int .i64 c.R], .agg #[.int .i64 p.f0, .int .i64 p.f1]] W fun e w' => e = .returned (.tuple #[.int .i64 (sgC c p), .int .i64 0]) ∧ Below W.heap.size W w' from by
  obtain ⟨ks, hks⟩ := least_side v0 (least_isP hp)
  exact cover_Side.calls ks c.X c.Y c.D c.R p.f0 p.f1 (sgC c p) 0 W hks)
 clear b0 b1 v0 v1 ok0 ok1 e0 e1 hq hkv
 have HYS := Aside0.mk ys
 have HY1 := Aside0.mk y1
 have HY2 := Aside0.mk y2
 clear hr0 hc0 hkt hkz hE hZ z1 z2 zs hlen ys y1 y2
 go_enter Try.func8, Try.ntmps8
 go_wp2_with (first
  | (go_at_call 25; first
   | (
     (with_reducible refine (HT1.out _ (Kd.C_alloc (Kd.C_alloc HR0.out _) _)).mono ?_); rintro e w1 ⟨v, rfl, ho, hb⟩; obtain ⟨Ay, cy, ev⟩ := Kd.R_slice ho; subst ev
     have HB1 := Aside0.mk (below_then (below_alloc (below_alloc (Below.refl _ w) _) _) (by simp only [World.size_alloc]; omega) hb)
     have HG1 := Aside0.mk (blk_below (blk_alloc (heap_alloc_new w (.cells #[.int .i64 a1_0, .int .i64 a1_1] 28)) (.cells #[.int .i64 a2_0, .int .i64 a2_1, .int .i64 a2_2, .int .i64 a2_3] 40)) hb)
     have ho1 := blk_below (heap_alloc_new (w.alloc (.cells #[.int .i64 a1_0, .int .i64 a1_1] 28)) (.cells #[.int .i64 a2_0, .int .i64 a2_1, .int .i64 a2_2, .int .i64 a2_3] 40)) hb
     rw [World.size_alloc] at ho1
     have HO1 := Aside0.mk ho1
     have HY := Aside0.mk (Kd.R_reads' ho)
     have HYR := Aside0.mk (Kd.R_mono (ok' := fun k_ => k_ ≠ w.heap.size) (Kd.R_bound ho) (fun k_ hk => by have := hk.2.1; simp only [World.size_alloc] at this; omega))
     have c0_ := (blk_cell HG1.out 0).trans rfl; have c1_ := (blk_cell HG1.out 1).trans rfl
     clear ho hb ho1 HT1)
   | (
     have hz_ := one_C (w := w1.alloc (.cells #[.int .i64 a1_0, .int .i64 a1_1] 28)) (p := ⟨a1_0, a1_1⟩) (heap_alloc_new w1 _); (with_reducible refine (HT2.out _ _ hz_).mono ?_); clear hz_; rintro e w2 ⟨v, rfl, ho, hb⟩; obtain ⟨Az, cz, ev⟩ := Kd.R_slice ho; subst ev
     have HG2 := Aside0.mk (blk_below (blk_alloc HG1.out _) hb)
     have HO2 := Aside0.mk (blk_below (blk_alloc HO1.out _) hb)
     have HB2 := Aside0.mk (below_then (below_alloc HB1.out _) (below_alloc HB1.out _).size hb)
     have HYR2 := Aside0.mk (Kd.R_below (Kd.R_alloc HYR.out _) hb)
     obtain ⟨az, ez, qz0, qz1⟩ := at_T28 (Kd.R_reads' ho).2.2 0 (by decide) (show (0 : Int) < ((1 : Nat) : Int) from by decide)
     subst ez
     have eq_ : rd_T28 [q] 0 = q := rfl
     rw [eq_] at qz0 qz1
     clear eq_
     have ea_ : az.add ((0 : Int).toNat * 2) = az := by simp [Addr.add]
     rw [ea_] at qz0 qz1
     clear ea_
     rw [List.length_singleton]
     have f0_ := blk_frozen HG2.out 0; have f1_ := blk_frozen HG2.out 1
     clear ho hb c0_ c1_
     have d0_ := (blk_cell HG2.out 0).trans rfl; have d1_ := (blk_cell HG2.out 1).trans rfl))
  | (
    go_at_call 26
    have hg3 := blk_put (blk_put HG2.out 0 (.int .i64 q.f0) rfl) 1 (.int .i64 q.f1) rfl
    have ho3 := blk_far (blk_far HO2.out (p := ⟨w.heap.size, 0, none⟩) (by simp) (.int .i64 q.f0)) (p := ⟨w.heap.size, 1, none⟩) (by simp) (.int .i64 q.f1)
    have hy3 := Kd.R_reads' (Kd.R_far (p := ⟨w.heap.size, 1, none⟩) (Kd.R_far (p := ⟨w.heap.size, 0, none⟩) HYR2.out (fun _ hk => hk) (.int .i64 q.f0)) (fun _ hk => hk) (.int .i64 q.f1))
    have hb3 := (HB2.out.setCell (p := ⟨w.heap.size, 0, none⟩) (Nat.le_refl _) (.int .i64 q.f0)).setCell (p := ⟨w.heap.size, 1, none⟩) (Nat.le_refl _) (.int .i64 q.f1)
    (with_reducible refine (HE1.out _ _ _ hy3.2.2 hy3.2.1).mono ?_); rintro e w4 ⟨v4, rfl, _, hb⟩
    have HG4 := Aside0.mk (blk_alloc (blk_below hg3 hb) (.cells #[.int .i64 c.X, .int .i64 c.Y, .int .i64 c.D, .int .i64 c.R] 40))
    have HO4 := Aside0.mk (blk_alloc (blk_below ho3 hb) (.cells #[.int .i64 c.X, .int .i64 c.Y, .int .i64 c.D, .int .i64 c.R] 40))
    have HC4 := Aside0.mk (heap_alloc_new w4 (.cells #[.int .i64 c.X, .int .i64 c.Y, .int .i64 c.D, .int .i64 c.R] 40))
    have HY4 := Aside0.mk (Kd.C_alloc (Kd.C_below hy3.2.2 hb) (.cells #[.int .i64 c.X, .int .i64 c.Y, .int .i64 c.D, .int .i64 c.R] 40))
    have HB4 := Aside0.mk (below_alloc (below_then hb3 hb3.size hb) (.cells #[.int .i64 c.X, .int .i64 c.Y, .int .i64 c.D, .int .i64 c.R] 40))
    clear hg3 ho3 hy3 hb3 hb f0_ f1_ d0_ d1_ qz0 qz1))
 have HPT4 := Aside0.mk (fun (W : World) (h : Kd.C k28 W Ay y.length y) => tickinglaw01_points.calls Ay cy y y W h HY.out.2.1 (least_pts y HY2.out))
 generalize hgc : w4.heap.size = gc at HC4 ⊢
 generalize hw5 : w4.alloc (.cells #[.int .i64 c.X, .int .i64 c.Y, .int .i64 c.D, .int .i64 c.R] 40) = w5 at HG4 HO4 HC4 HY4 HB4 ⊢
 clear hgc hw5 HE1 HT2 HR0 HYR HYR2 HG1 HO1 HB1 HG2 HO2 HB2
 have HLD := Aside0.mk (fun (W : World) (h : Below w5.heap.size w5 W) => show W.cell? ⟨w.heap.size, 0, none⟩ = some (.int .i64 q.f0) ∧ W.cell? ⟨w.heap.size, 1, none⟩ = some (.int .i64 q.f1) from ⟨(blk_cell (blk_below HG4.out h) 0).trans rfl, (blk_cell (blk_below HG4.out h) 1).trans rfl⟩)
 have HPT := Aside0.mk (fun (W : World) (h : Below w5.heap.size w5 W) => HPT4.out W (Kd.C_below HY4.out h))
 refine stz (fun w' => w'.cell? ⟨w.heap.size, 0, none⟩ = some (.int .i64 q.f0) ∧ w'.cell? ⟨w.heap.size, 1, none⟩ = some (.int .i64 q.f1)) [] (bn 14 0) (HLD.out _ (below_drew (Below.refl _ _))) (fun hHeld => ?_)
 have HB : Aside0 (Below w5.heap.size w5 w5.drew) := ⟨below_drew (Below.refl _ _)⟩
 generalize w5.drew = wd at HB hHeld ⊢
 refine pz 0 (some 35) (bn 14 1) ?_
 refine tz 2 (some 37) (bn 14 5) hHeld ?_
 refine join_ (σ := Value × Nat × Value × Value × Nat) 3 #[true, true, true, true, true, true, true, true, true, true, true, false, false, false] (fun s_ => [(36, s_.1), (38, .slice (some ⟨s_.2.1, 0, none⟩) 1 1), (39, s_.2.2.1), (40, .tuple #[.agg #[.int .i64 d.X, .int .i64 d.Y, .int .i64 d.D, .int .i64 d.R], s_.2.2.2.1, .int .i64 0]), (34, .tuple #[.agg #[.int .i64 d.X, .int .i64 d.Y, .int .i64 d.D, .int .i64 d.R], s_.2.2.2.1, .int .i64 0]), (41, .agg #[.int .i64 d.X, .int .i64 d.Y, .int .i64 d.D, .int .i64 d.R]), (42, s_.2.2.2.1), (43, .int .i64 0), (11, .pointer (some ⟨s_.2.2.2.2, 0, none⟩))]) (fun s_ w' => (w'.cell? ⟨w.heap.size, 0, none⟩ = some (.int .i64 q.f0) ∧ w'.cell? ⟨w.heap.size, 1, none⟩ = some (.int .i64 q.f1)) ∧ (Below w5.heap.size w5 w') ∧ (w5.heap.size ≤ s_.2.2.2.2 ∧ w'.heap[s_.2.2.2.2]? = some (.cells #[.int .i64 0, .int .i64 0, .int .i64 0, .int .i64 0] 40 (0, 0)))) ?cJ1_3_4_5_10 ?mJ1_3_4_5_10
 case mJ1_3_4_5_10 =>
  intro J1_3_4_5_10
  refine join_ (σ := Value × Nat × Value × Nat) 8 #[true, true, true, true, true, false, false, false, false, false, true, false, false, false] (fun s_ => [(36, s_.1), (38, .slice (some ⟨s_.2.1, 0, none⟩) 1 1), (39, s_.2.2.1), (11, .pointer (some ⟨s_.2.2.2, 0, none⟩))]) (fun s_ w' => (w'.cell? ⟨w.heap.size, 0, none⟩ = some (.int .i64 q.f0) ∧ w'.cell? ⟨w.heap.size, 1, none⟩ = some (.int .i64 q.f1)) ∧ (Below w5.heap.size w5 w') ∧ (Kd.R k28 28 w' w5.heap.size (fun _ => True) s_.2.2.1 (y ++ [q])) ∧ (w5.heap.size ≤ s_.2.2.2 ∧ w'.heap[s_.2.2.2]? = some (.cells #[.int .i64 0, .int .i64 0, .int .i64 0, .int .i64 0] 40 (0, 0)))) ?cJ1_3_4_10 ?mJ1_3_4_10
  case mJ1_3_4_10 =>
   intro J1_3_4_10
   refine join_ (σ := Value × Nat × Nat) 9 #[true, true, true, true, false, false, false, false, false, false, true, false, false, false] (fun s_ => [(36, s_.1), (38, .slice (some ⟨s_.2.1, 0, none⟩) 1 1), (11, .pointer (some ⟨s_.2.2, 0, none⟩))]) (fun s_ w' => (w'.cell? ⟨w.heap.size, 0, none⟩ = some (.int .i64 q.f0) ∧ w'.cell? ⟨w.heap.size, 1, none⟩ = some (.int .i64 q.f1)) ∧ (Below w5.heap.size w5 w') ∧ (Kd.R k28 28 w' w5.heap.size (fun _ => True) s_.1 y) ∧ (w'.heap[s_.2.1]? = some (.cells #[.int .i64 q.f0, .int .i64 q.f1] 28 (0, 0))) ∧ (w5.heap.size ≤ s_.2.2 ∧ w'.heap[s_.2.2]? = some (.cells #[.int .i64 0, .int .i64 0, .int .i64 0, .int .i64 0] 40 (0, 0)))) ?cJ1_3_10 ?mJ1_3_10
   case mJ1_3_10 =>
    intro J1_3_10
    refine join_ (σ := Value × Nat) 10 #[true, true, true, true, false, false, false, false, false, false, false, false, false, false] (fun s_ => [(36, s_.1), (38, .slice (some ⟨s_.2, 0, none⟩) 1 1)]) (fun s_ w' => (w'.cell? ⟨w.heap.size, 0, none⟩ = some (.int .i64 q.f0) ∧ w'.cell? ⟨w.heap.size, 1, none⟩ = some (.int .i64 q.f1)) ∧ (Below w5.heap.size w5 w') ∧ (Kd.R k28 28 w' w5.heap.size (fun _ => True) s_.1 y) ∧ (w'.heap[s_.2]? = some (.cells #[.int .i64 q.f0, .int .i64 q.f1] 28 (0, 0)))) ?cJ1_3 ?mJ1_3
    case mJ1_3 =>
     intro J1_3
     refine join_ (σ := Value × Nat) 10 #[true, true, true, false, false, false, false, false, false, false, true, false, false, false] (fun s_ => [(36, s_.1), (11, .pointer (some ⟨s_.2, 0, none⟩))]) (fun s_ w' => (w'.cell? ⟨w.heap.size, 0, none⟩ = some (.int .i64 q.f0) ∧ w'.cell? ⟨w.heap.size, 1, none⟩ = some (.int .i64 q.f1)) ∧ (Below w5.heap.size w5 w') ∧ (Kd.R k28 28 w' w5.heap.size (fun _ => True) s_.1 y) ∧ (w5.heap.size ≤ s_.2 ∧ w'.heap[s_.2]? = some (.cells #[.int .i64 0, .int .i64 0, .int .i64 0, .int .i64 0] 40 (0, 0)))) ?cJ1_10 ?mJ1_10
     case mJ1_10 =>
      intro J1_10
      refine join_ (σ := Nat × Nat) 10 #[true, false, true, true, false, false, false, false, false, false, true, false, false, false] (fun s_ => [(38, .slice (some ⟨s_.1, 0, none⟩) 1 1), (11, .pointer (some ⟨s_.2, 0, none⟩))]) (fun s_ w' => (w'.cell? ⟨w.heap.size, 0, none⟩ = some (.int .i64 q.f0) ∧ w'.cell? ⟨w.heap.size, 1, none⟩ = some (.int .i64 q.f1)) ∧ (Below w5.heap.size w5 w') ∧ (w'.heap[s_.1]? = some (.cells #[.int .i64 q.f0, .int .i64 q.f1] 28 (0, 0))) ∧ (w5.heap.size ≤ s_.2 ∧ w'.heap[s_.2]? = some (.cells #[.int .i64 0, .int .i64 0, .int .i64 0, .int .i64 0] 40 (0, 0)))) ?cJ3_10 ?mJ3_10
      case mJ3_10 =>
       intro J3_10
       refine threes_ (i := 1) (j := 3) (k := 10) (Ni := some 36) (Nj := some 38) (Nk := some 11) #[true, true, true, false, false, false, false, false, false, false, false, false, false, false] #[true, false, true, true, false, false, false, false, false, false, false, false, false, false] #[true, false, true, false, false, false, false, false, false, false, true, false, false, false] rfl rfl rfl rfl rfl rfl (by kernel_rfl) (by decide) (by decide) (by decide) (fun K hK => ?_) (fun K hK => ?_) (fun K hK => ?_)
       ·skip
        refine gz Try.func34 #[.slice Ay y.length cy] ?_
        (with_reducible refine (HPT.out _ HB.out).mono ?_)
        rintro e wq1 ⟨v36, rfl, ho, hb⟩
        refine ⟨_, rfl, ?_⟩
        have n0 := Aside0.mk (below_then HB.out HB.out.size hb); have n1 := Aside0.mk (Kd.R_lower ho HB.out.size)
        clear ho hb HB; have HB := n0; have H36 := n1; clear n0 n1
        refine hK.out _ _ (HLD.out _ HB.out) (fun hHeld => ?_)
        clear hK K
        refine nz (some 36) ?_
        refine two_ (i := 3) (j := 10) (Ni := some 38) (Nj := some 11) #[true, true, true, true, false, false, false, false, false, false, false, false, false, false] #[true, true, true, false, false, false, false, false, false, false, true, false, false, false] rfl rfl rfl rfl (by kernel_rfl) (by decide) (by decide) (fun K hK => ?_) (fun K hK => ?_)
        ·skip
         refine vz ?_
         try simp only [Value.cells]
         have n0 := Aside0.mk (below_alloc HB.out (.cells #[.int .i64 q.f0, .int .i64 q.f1] 28)); have n1 := Aside0.mk (heap_alloc_new wq1 (.cells #[.int .i64 q.f0, .int .i64 q.f1] 28))
         have n2 := Aside0.mk (Kd.R_alloc H36.out (.cells #[.int .i64 q.f0, .int .i64 q.f1] 28)); clear H36; have H36 := n2; clear n2
         clear HB; have HB := n0; have H38 := n1; clear n0 n1
         generalize wq1.heap.size = g38 at H38 ⊢
         refine hK.out _ _ (HLD.out _ HB.out) (fun hHeld => ?_)
         clear hK K
         refine nz (some 38) ?_
         exact norm_ (by first | (simp only [putAll, Act.put, List.setIfInBounds_toArray, List.set_cons_zero, List.set_cons_succ]; done) | (simp only [putAll, Act.put, List.setIfInBounds_toArray, List.set_cons_zero, List.set_cons_succ]; rfl)) (J1_3 ⟨v36, g38⟩ _ ⟨hHeld, HB.out, H36.out, H38.out⟩)
        ·skip
         refine bxS 11 #[.int .i64 0, .int .i64 0, .int .i64 0, .int .i64 0] 40 ?_
         intro g11 hg wq3 hbox hb
         have n0 := Aside0.mk (below_then HB.out HB.out.size hb); have n1 := Aside0.mk (And.intro (by rw [hg]; exact HB.out.size : w5.heap.size ≤ g11) hbox)
         have n2 := Aside0.mk (Kd.R_below H36.out hb); clear H36; have H36 := n2; clear n2
         clear hb hbox hg HB; have HB := n0; have H11 := n1; clear n0 n1
         refine hK.out _ _ (HLD.out _ HB.out) (fun hHeld => ?_)
         clear hK K
         refine nz (some 11) ?_
         exact norm_ (by first | (simp only [putAll, Act.put, List.setIfInBounds_toArray, List.set_cons_zero, List.set_cons_succ]; done) | (simp only [putAll, Act.put, List.setIfInBounds_toArray, List.set_cons_zero, List.set_cons_succ]; rfl)) (J1_10 ⟨v36, g11⟩ _ ⟨hHeld, HB.out, H36.out, H11.out⟩)
       ·skip
        refine vz ?_
        try simp only [Value.cells]
        have n0 := Aside0.mk (below_alloc HB.out (.cells #[.int .i64 q.f0, .int .i64 q.f1] 28)); have n1 := Aside0.mk (heap_alloc_new wd (.cells #[.int .i64 q.f0, .int .i64 q.f1] 28))
        clear HB; have HB := n0; have H38 := n1; clear n0 n1
        generalize wd.heap.size = g38 at H38 ⊢
        refine hK.out _ _ (HLD.out _ HB.out) (fun hHeld => ?_)
        clear hK K
        refine nz (some 38) ?_
        refine two_ (i := 1) (j := 10) (Ni := some 36) (Nj := some 11) #[true, true, true, true, false, false, false, false, false, false, false, false, false, false] #[true, false, true, true, false, false, false, false, false, false, true, false, false, false] rfl rfl rfl rfl (by kernel_rfl) (by decide) (by decide) (fun K hK => ?_) (fun K hK => ?_)
        ·skip
         refine gz Try.func34 #[.slice Ay y.length cy] ?_
         (with_reducible refine (HPT.out _ HB.out).mono ?_)
         rintro e wq5 ⟨v36, rfl, ho, hb⟩
         refine ⟨_, rfl, ?_⟩
         have n0 := Aside0.mk (below_then HB.out HB.out.size hb); have n1 := Aside0.mk (Kd.R_lower ho HB.out.size)
         have n2 := Aside0.mk (blk_below H38.out hb); clear H38; have H38 := n2; clear n2
         clear ho hb HB; have HB := n0; have H36 := n1; clear n0 n1
         refine hK.out _ _ (HLD.out _ HB.out) (fun hHeld => ?_)
         clear hK K
         refine nz (some 36) ?_
         exact norm_ (by first | (simp only [putAll, Act.put, List.setIfInBounds_toArray, List.set_cons_zero, List.set_cons_succ]; done) | (simp only [putAll, Act.put, List.setIfInBounds_toArray, List.set_cons_zero, List.set_cons_succ]; rfl)) (J1_3 ⟨v36, g38⟩ _ ⟨hHeld, HB.out, H36.out, H38.out⟩)
        ·skip
         refine bxS 11 #[.int .i64 0, .int .i64 0, .int .i64 0, .int .i64 0] 40 ?_
         intro g11 hg wq6 hbox hb
         have n0 := Aside0.mk (below_then HB.out HB.out.size hb); have n1 := Aside0.mk (And.intro (by rw [hg]; exact HB.out.size : w5.heap.size ≤ g11) hbox)
         have n3 := Aside0.mk (blk_below H38.out hb); clear H38; have H38 := n3; clear n3
         clear hb hbox hg HB; have HB := n0; have H11 := n1; clear n0 n1
         refine hK.out _ _ (HLD.out _ HB.out) (fun hHeld => ?_)
         clear hK K
         refine nz (some 11) ?_
         exact norm_ (by first | (simp only [putAll, Act.put, List.setIfInBounds_toArray, List.set_cons_zero, List.set_cons_succ]; done) | (simp only [putAll, Act.put, List.setIfInBounds_toArray, List.set_cons_zero, List.set_cons_succ]; rfl)) (J3_10 ⟨g38, g11⟩ _ ⟨hHeld, HB.out, H38.out, H11.out⟩)
       ·skip
        refine bxS 11 #[.int .i64 0, .int .i64 0, .int .i64 0, .int .i64 0] 40 ?_
        intro g11 hg wq7 hbox hb
        have n0 := Aside0.mk (below_then HB.out HB.out.size hb); have n1 := Aside0.mk (And.intro (by rw [hg]; exact HB.out.size : w5.heap.size ≤ g11) hbox)
        clear hb hbox hg HB; have HB := n0; have H11 := n1; clear n0 n1
        refine hK.out _ _ (HLD.out _ HB.out) (fun hHeld => ?_)
        clear hK K
        refine nz (some 11) ?_
        refine two_ (i := 1) (j := 3) (Ni := some 36) (Nj := some 38) #[true, true, true, false, false, false, false, false, false, false, true, false, false, false] #[true, false, true, true, false, false, false, false, false, false, true, false, false, false] rfl rfl rfl rfl (by kernel_rfl) (by decide) (by decide) (fun K hK => ?_) (fun K hK => ?_)
        ·skip
         refine gz Try.func34 #[.slice Ay y.length cy] ?_
         (with_reducible refine (HPT.out _ HB.out).mono ?_)
         rintro e wq8 ⟨v36, rfl, ho, hb⟩
         refine ⟨_, rfl, ?_⟩
         have n0 := Aside0.mk (below_then HB.out HB.out.size hb); have n1 := Aside0.mk (Kd.R_lower ho HB.out.size)
         have n3 := Aside0.mk (And.intro H11.out.1 (blk_below H11.out.2 hb)); clear H11; have H11 := n3; clear n3
         clear ho hb HB; have HB := n0; have H36 := n1; clear n0 n1
         refine hK.out _ _ (HLD.out _ HB.out) (fun hHeld => ?_)
         clear hK K
         refine nz (some 36) ?_
         exact norm_ (by first | (simp only [putAll, Act.put, List.setIfInBounds_toArray, List.set_cons_zero, List.set_cons_succ]; done) | (simp only [putAll, Act.put, List.setIfInBounds_toArray, List.set_cons_zero, List.set_cons_succ]; rfl)) (J1_10 ⟨v36, g11⟩ _ ⟨hHeld, HB.out, H36.out, H11.out⟩)
        ·skip
         refine vz ?_
         try simp only [Value.cells]
         have n0 := Aside0.mk (below_alloc HB.out (.cells #[.int .i64 q.f0, .int .i64 q.f1] 28)); have n1 := Aside0.mk (heap_alloc_new wq7 (.cells #[.int .i64 q.f0, .int .i64 q.f1] 28))
         have n3 := Aside0.mk (And.intro H11.out.1 (blk_alloc H11.out.2 (.cells #[.int .i64 q.f0, .int .i64 q.f1] 28))); clear H11; have H11 := n3; clear n3
         clear HB; have HB := n0; have H38 := n1; clear n0 n1
         generalize wq7.heap.size = g38 at H38 ⊢
         refine hK.out _ _ (HLD.out _ HB.out) (fun hHeld => ?_)
         clear hK K
         refine nz (some 38) ?_
         exact norm_ (by first | (simp only [putAll, Act.put, List.setIfInBounds_toArray, List.set_cons_zero, List.set_cons_succ]; done) | (simp only [putAll, Act.put, List.setIfInBounds_toArray, List.set_cons_zero, List.set_cons_succ]; rfl)) (J3_10 ⟨g38, g11⟩ _ ⟨hHeld, HB.out, H38.out, H11.out⟩)
      case cJ3_10 =>
       rintro ⟨g38, g11⟩ wj ⟨hHeld, hHB, hH38, hH11⟩
       have HB := Aside0.mk hHB
       have H38 := Aside0.mk hH38
       have H11 := Aside0.mk hH11
       clear hHB hH38 hH11
       refine norm_ (a' := ?_) ?_ ?_
       rotate_left
       ·simp only [putAll, Act.put, List.setIfInBounds_toArray, List.set_cons_zero, List.set_cons_succ]
        rfl
       refine oz 1 (some 36) (bn 14 1039) (fun K hK => ?_)
       refine gz Try.func34 #[.slice Ay y.length cy] ?_
       (with_reducible refine (HPT.out _ HB.out).mono ?_)
       rintro e wq10 ⟨v36, rfl, ho, hb⟩
       refine ⟨_, rfl, ?_⟩
       have n0 := Aside0.mk (below_then HB.out HB.out.size hb); have n1 := Aside0.mk (Kd.R_lower ho HB.out.size)
       have n2 := Aside0.mk (blk_below H38.out hb); clear H38; have H38 := n2; clear n2
       have n3 := Aside0.mk (And.intro H11.out.1 (blk_below H11.out.2 hb)); clear H11; have H11 := n3; clear n3
       clear ho hb HB; have HB := n0; have H36 := n1; clear n0 n1
       refine hK.out _ _ (HLD.out _ HB.out) (fun hHeld => ?_)
       clear hK K
       refine nz (some 36) ?_
       exact norm_ (by first | (simp only [putAll, Act.put, List.setIfInBounds_toArray, List.set_cons_zero, List.set_cons_succ]; done) | (simp only [putAll, Act.put, List.setIfInBounds_toArray, List.set_cons_zero, List.set_cons_succ]; rfl)) (J1_3_10 ⟨v36, g38, g11⟩ _ ⟨hHeld, HB.out, H36.out, H38.out, H11.out⟩)
     case cJ1_10 =>
      rintro ⟨v36, g11⟩ wj ⟨hHeld, hHB, hH36, hH11⟩
      have HB := Aside0.mk hHB
      have H36 := Aside0.mk hH36
      have H11 := Aside0.mk hH11
      clear hHB hH36 hH11
      refine norm_ (a' := ?_) ?_ ?_
      rotate_left
      ·simp only [putAll, Act.put, List.setIfInBounds_toArray, List.set_cons_zero, List.set_cons_succ]
       rfl
      refine oz 3 (some 38) (bn 14 1039) (fun K hK => ?_)
      refine vz ?_
      try simp only [Value.cells]
      have n0 := Aside0.mk (below_alloc HB.out (.cells #[.int .i64 q.f0, .int .i64 q.f1] 28)); have n1 := Aside0.mk (heap_alloc_new wj (.cells #[.int .i64 q.f0, .int .i64 q.f1] 28))
      have n2 := Aside0.mk (Kd.R_alloc H36.out (.cells #[.int .i64 q.f0, .int .i64 q.f1] 28)); clear H36; have H36 := n2; clear n2
      have n3 := Aside0.mk (And.intro H11.out.1 (blk_alloc H11.out.2 (.cells #[.int .i64 q.f0, .int .i64 q.f1] 28))); clear H11; have H11 := n3; clear n3
      clear HB; have HB := n0; have H38 := n1; clear n0 n1
      generalize wj.heap.size = g38 at H38 ⊢
      refine hK.out _ _ (HLD.out _ HB.out) (fun hHeld => ?_)
      clear hK K
      refine nz (some 38) ?_
      exact norm_ (by first | (simp only [putAll, Act.put, List.setIfInBounds_toArray, List.set_cons_zero, List.set_cons_succ]; done) | (simp only [putAll, Act.put, List.setIfInBounds_toArray, List.set_cons_zero, List.set_cons_succ]; rfl)) (J1_3_10 ⟨v36, g38, g11⟩ _ ⟨hHeld, HB.out, H36.out, H38.out, H11.out⟩)
    case cJ1_3 =>
     rintro ⟨v36, g38⟩ wj ⟨hHeld, hHB, hH36, hH38⟩
     have HB := Aside0.mk hHB
     have H36 := Aside0.mk hH36
     have H38 := Aside0.mk hH38
     clear hHB hH36 hH38
     refine norm_ (a' := ?_) ?_ ?_
     rotate_left
     ·simp only [putAll, Act.put, List.setIfInBounds_toArray, List.set_cons_zero, List.set_cons_succ]
      rfl
     refine two_ (i := 4) (j := 10) (Ni := some 39) (Nj := some 11) #[true, true, true, true, true, false, false, false, false, false, false, false, false, false] #[true, true, true, true, false, false, false, false, false, false, true, false, false, false] rfl rfl rfl rfl (by kernel_rfl) (by decide) (by decide) (fun K hK => ?_) (fun K hK => ?_)
     ·skip
      refine Kd.R_append_rows_step k28 (w0 := w5) w5.heap.size (by rfl) (.tmp 36) (.tmp 38) 37 28 (.agg #[(.int .i64 0), (.int .i64 0)]) 16 rfl Try.underlying37 info28 rfl (by decide) (by omega) v36 y [q] _ _ _ (fun _ => True) (fun _ => False) rfl rfl H36.out ?aR (fun _ _ h => h) (fun _ h => h.elim) (fun _ _ => trivial) HB.out HB.out.size (by have := HY2.out; (try rw [List.length_singleton]); omega) ?_
      case aR => exact one_C H38.out
      intro v39 wq12 ho hb hg hat
      have n0 := Aside0.mk hb; have n1 := Aside0.mk ho; clear ho hb hg hat H36 H38 HB; have HB := n0; have H39 := n1; clear n0 n1
      refine hK.out _ _ (HLD.out _ HB.out) (fun hHeld => ?_)
      clear hK K
      refine nz (some 39) ?_
      refine two_ (i := 5) (j := 10) (Ni := some 40) (Nj := some 11) #[true, true, true, true, true, true, false, false, false, false, false, false, false, false] #[true, true, true, true, true, false, false, false, false, false, true, false, false, false] rfl rfl rfl rfl (by kernel_rfl) (by decide) (by decide) (fun K hK => ?_) (fun K hK => ?_)
      ·skip
       obtain ⟨A39, c39, e39⟩ := Kd.R_slice H39.out
       subst e39
       refine gz Try.func26 #[.slice A39 (y ++ [q]).length c39] ?_
       (with_reducible refine (HE2.out _ _ _ (Kd.R_reads' H39.out).2.2 (Kd.R_reads' H39.out).2.1).mono ?_)
       rintro e wq13 ⟨v12, rfl, _, hb⟩
       refine ⟨_, rfl, ?_⟩
       have n0 := Aside0.mk (below_then HB.out HB.out.size hb)
       clear hb HB H39; have HB := n0; clear n0
       refine hK.out _ _ (HLD.out _ HB.out) (fun hHeld => ?_)
       clear hK K
       refine nz (some 40) ?_
       refine pz 6 (some 34) (bn 14 127) ?_
       refine pz 7 (some 41) (bn 14 255) ?_
       refine pz 8 (some 42) (bn 14 511) ?_
       refine pz 9 (some 43) (bn 14 1023) ?_
       refine oz 10 (some 11) (bn 14 2047) (fun K hK => ?_)
       refine bxS 11 #[.int .i64 0, .int .i64 0, .int .i64 0, .int .i64 0] 40 ?_
       intro g11 hg wq14 hbox hb
       have n0 := Aside0.mk (below_then HB.out HB.out.size hb); have n1 := Aside0.mk (And.intro (by rw [hg]; exact HB.out.size : w5.heap.size ≤ g11) hbox)
       clear hb hbox hg HB; have HB := n0; have H11 := n1; clear n0 n1
       refine hK.out _ _ (HLD.out _ HB.out) (fun hHeld => ?_)
       clear hK K
       refine nz (some 11) ?_
       exact norm_ (by first | (simp only [putAll, Act.put, List.setIfInBounds_toArray, List.set_cons_zero, List.set_cons_succ]; done) | (simp only [putAll, Act.put, List.setIfInBounds_toArray, List.set_cons_zero, List.set_cons_succ]; rfl)) (J1_3_4_5_10 ⟨v36, g38, _, v12, g11⟩ _ ⟨hHeld, HB.out, H11.out⟩)
      ·skip
       refine bxS 11 #[.int .i64 0, .int .i64 0, .int .i64 0, .int .i64 0] 40 ?_
       intro g11 hg wq15 hbox hb
       have n0 := Aside0.mk (below_then HB.out HB.out.size hb); have n1 := Aside0.mk (And.intro (by rw [hg]; exact HB.out.size : w5.heap.size ≤ g11) hbox)
       have n4 := Aside0.mk (Kd.R_below H39.out hb); clear H39; have H39 := n4; clear n4
       clear hb hbox hg HB; have HB := n0; have H11 := n1; clear n0 n1
       refine hK.out _ _ (HLD.out _ HB.out) (fun hHeld => ?_)
       clear hK K
       refine nz (some 11) ?_
       exact norm_ (by first | (simp only [putAll, Act.put, List.setIfInBounds_toArray, List.set_cons_zero, List.set_cons_succ]; done) | (simp only [putAll, Act.put, List.setIfInBounds_toArray, List.set_cons_zero, List.set_cons_succ]; rfl)) (J1_3_4_10 ⟨v36, g38, v39, g11⟩ _ ⟨hHeld, HB.out, H39.out, H11.out⟩)
     ·skip
      refine bxS 11 #[.int .i64 0, .int .i64 0, .int .i64 0, .int .i64 0] 40 ?_
      intro g11 hg wq16 hbox hb
      have n0 := Aside0.mk (below_then HB.out HB.out.size hb); have n1 := Aside0.mk (And.intro (by rw [hg]; exact HB.out.size : w5.heap.size ≤ g11) hbox)
      have n2 := Aside0.mk (Kd.R_below H36.out hb); clear H36; have H36 := n2; clear n2
      have n3 := Aside0.mk (blk_below H38.out hb); clear H38; have H38 := n3; clear n3
      clear hb hbox hg HB; have HB := n0; have H11 := n1; clear n0 n1
      refine hK.out _ _ (HLD.out _ HB.out) (fun hHeld => ?_)
      clear hK K
      refine nz (some 11) ?_
      exact norm_ (by first | (simp only [putAll, Act.put, List.setIfInBounds_toArray, List.set_cons_zero, List.set_cons_succ]; done) | (simp only [putAll, Act.put, List.setIfInBounds_toArray, List.set_cons_zero, List.set_cons_succ]; rfl)) (J1_3_10 ⟨v36, g38, g11⟩ _ ⟨hHeld, HB.out, H36.out, H38.out, H11.out⟩)
   case cJ1_3_10 =>
    rintro ⟨v36, g38, g11⟩ wj ⟨hHeld, hHB, hH36, hH38, hH11⟩
    have HB := Aside0.mk hHB
    have H36 := Aside0.mk hH36
    have H38 := Aside0.mk hH38
    have H11 := Aside0.mk hH11
    clear hHB hH36 hH38 hH11
    refine norm_ (a' := ?_) ?_ ?_
    rotate_left
    ·simp only [putAll, Act.put, List.setIfInBounds_toArray, List.set_cons_zero, List.set_cons_succ]
     rfl
    refine oz 4 (some 39) (bn 14 1055) (fun K hK => ?_)
    refine Kd.R_append_rows_step k28 (w0 := w5) w5.heap.size (by rfl) (.tmp 36) (.tmp 38) 37 28 (.agg #[(.int .i64 0), (.int .i64 0)]) 16 rfl Try.underlying37 info28 rfl (by decide) (by omega) v36 y [q] _ _ _ (fun _ => True) (fun _ => False) rfl rfl H36.out ?aR (fun _ _ h => h) (fun _ h => h.elim) (fun _ _ => trivial) HB.out HB.out.size (by have := HY2.out; (try rw [List.length_singleton]); omega) ?_
    case aR => exact one_C H38.out
    intro v39 wq17 ho hb hg hat
    have n3 := Aside0.mk (And.intro H11.out.1 (blk_grown H11.out.2 hg (Kd.R_ne H36.out H11.out.2 (by decide)))); clear H11; have H11 := n3; clear n3
    have n0 := Aside0.mk hb; have n1 := Aside0.mk ho; clear ho hb hg hat H36 H38 HB; have HB := n0; have H39 := n1; clear n0 n1
    refine hK.out _ _ (HLD.out _ HB.out) (fun hHeld => ?_)
    clear hK K
    refine nz (some 39) ?_
    exact norm_ (by first | (simp only [putAll, Act.put, List.setIfInBounds_toArray, List.set_cons_zero, List.set_cons_succ]; done) | (simp only [putAll, Act.put, List.setIfInBounds_toArray, List.set_cons_zero, List.set_cons_succ]; rfl)) (J1_3_4_10 ⟨v36, g38, v39, g11⟩ _ ⟨hHeld, HB.out, H39.out, H11.out⟩)
  case cJ1_3_4_10 =>
   rintro ⟨v36, g38, v39, g11⟩ wj ⟨hHeld, hHB, hH39, hH11⟩
   have HB := Aside0.mk hHB
   have H39 := Aside0.mk hH39
   have H11 := Aside0.mk hH11
   clear hHB hH39 hH11
   refine norm_ (a' := ?_) ?_ ?_
   rotate_left
   ·simp only [putAll, Act.put, List.setIfInBounds_toArray, List.set_cons_zero, List.set_cons_succ]
    rfl
   refine oz 5 (some 40) (bn 14 1087) (fun K hK => ?_)
   obtain ⟨A39, c39, e39⟩ := Kd.R_slice H39.out
   subst e39
   refine gz Try.func26 #[.slice A39 (y ++ [q]).length c39] ?_
   (with_reducible refine (HE2.out _ _ _ (Kd.R_reads' H39.out).2.2 (Kd.R_reads' H39.out).2.1).mono ?_)
   rintro e wq18 ⟨v12, rfl, _, hb⟩
   refine ⟨_, rfl, ?_⟩
   have n0 := Aside0.mk (below_then HB.out HB.out.size hb)
   have n3 := Aside0.mk (And.intro H11.out.1 (blk_below H11.out.2 hb)); clear H11; have H11 := n3; clear n3
   clear hb HB H39; have HB := n0; clear n0
   refine hK.out _ _ (HLD.out _ HB.out) (fun hHeld => ?_)
   clear hK K
   refine nz (some 40) ?_
   refine pz 6 (some 34) (bn 14 1151) ?_
   refine pz 7 (some 41) (bn 14 1279) ?_
   refine pz 8 (some 42) (bn 14 1535) ?_
   refine pz 9 (some 43) (bn 14 2047) ?_
   exact norm_ (by first | (simp only [putAll, Act.put, List.setIfInBounds_toArray, List.set_cons_zero, List.set_cons_succ]; done) | (simp only [putAll, Act.put, List.setIfInBounds_toArray, List.set_cons_zero, List.set_cons_succ]; rfl)) (J1_3_4_5_10 ⟨v36, g38, _, v12, g11⟩ _ ⟨hHeld, HB.out, H11.out⟩)
 case cJ1_3_4_5_10 =>
  rintro ⟨v36, g38, v39, v12, g11⟩ wj ⟨hHeld, hHB, hH11⟩
  have HB := Aside0.mk hHB
  have H11 := Aside0.mk hH11
  clear hHB hH11
  refine norm_ (a' := ?_) ?_ ?_
  rotate_left
  ·simp only [putAll, Act.put, List.setIfInBounds_toArray, List.set_cons_zero, List.set_cons_succ]
   rfl
  refine oz 11 none (bn 14 4095) (fun K hK => ?_)
  have d0_ := (blk_cell H11.out.2 0).trans rfl; have f0_ := blk_frozen H11.out.2 0
  have d1_ := (blk_cell H11.out.2 1).trans rfl; have f1_ := blk_frozen H11.out.2 1
  have d2_ := (blk_cell H11.out.2 2).trans rfl; have f2_ := blk_frozen H11.out.2 2
  have d3_ := (blk_cell H11.out.2 3).trans rfl; have f3_ := blk_frozen H11.out.2 3
  have HB5 := Aside0.mk ((((HB.out.setCell (p := ⟨g11, 0, none⟩) H11.out.1 (.int .i64 d.X)).setCell (p := ⟨g11, 1, none⟩) H11.out.1 (.int .i64 d.Y)).setCell (p := ⟨g11, 2, none⟩) H11.out.1 (.int .i64 d.D)).setCell (p := ⟨g11, 3, none⟩) H11.out.1 (.int .i64 d.R))
  have HD5 := Aside0.mk (blk_put (blk_put (blk_put (blk_put H11.out.2 0 (.int .i64 d.X) rfl) 1 (.int .i64 d.Y) rfl) 2 (.int .i64 d.D) rfl) 3 (.int .i64 d.R) rfl)
  refine sz ?_
  refine hK.out _ _ (HLD.out _ HB5.out) (fun hHeld => ?_)
  clear hK K
  refine pz 12 (some 12) (bn 14 8191) ?_
  refine pz 13 (some 13) (bn 14 16383) ?_
  refine done_ (by kernel_rfl) ?_
  generalize (((wj.setCell ⟨g11, 0, none⟩ (.int .i64 d.X)).setCell ⟨g11, 1, none⟩ (.int .i64 d.Y)).setCell ⟨g11, 2, none⟩ (.int .i64 d.D)).setCell ⟨g11, 3, none⟩ (.int .i64 d.R) = w6 at HB5 HD5 hHeld ⊢
  have HC6 := Aside0.mk (blk_below HC4.out HB5.out)
  have HG6 := Aside0.mk (blk_below HG4.out HB5.out)
  have HO6 := Aside0.mk (blk_below HO4.out HB5.out)
  have HY6 := Aside0.mk (Kd.C_below HY4.out HB5.out)
  have HB6 := Aside0.mk (below_then HB4.out HB4.out.size HB5.out)
  clear HB5 HB H11 HLD HPT HPT4 HG4 HO4 HC4 HY4 HB4 d0_ d1_ d2_ d3_ f0_ f1_ f2_ f3_ hHeld HE2
  obtain ⟨sg, hsg⟩ : ∃ sg, Aside0 (sgC c q = sg) := ⟨_, ⟨rfl⟩⟩
  have HSQ := HSD.out q PL.out.2.2.2
  rw [hsg.out] at HSQ
  have HSQ := Aside0.mk HSQ
  obtain ⟨bb, hb1, hb2⟩ := least_same PL.out.1 PL.out.2.1 hsg.out
  have z0 := (blk_cell HC6.out 0).trans rfl; have z1 := (blk_cell HC6.out 1).trans rfl; have z2 := (blk_cell HC6.out 2).trans rfl; have z3 := (blk_cell HC6.out 3).trans rfl
  have y0 := (blk_cell HG6.out 0).trans rfl; have y1 := (blk_cell HG6.out 1).trans rfl
  go_wp2_with (first
   | (
     go_at_call 31; (with_reducible refine (HSQ.out _).mono ?_); rintro e w7 ⟨rfl, hb⟩
     have n0 := Aside0.mk (blk_below HC6.out hb); have n2 := Aside0.mk (blk_below HO6.out hb); have n3 := Aside0.mk (Kd.C_below HY6.out hb); have n4 := Aside0.mk (below_then HB6.out HB6.out.size hb); have n5 := Aside0.mk (blk_below HD5.out hb)
     clear HC6 HG6 HO6 HY6 HB6 HD5 hb z0 z1 z2 z3 y0 y1; have HC6 := n0; have HO6 := n2; have HY6 := n3; have HB6 := n4; have HD5 := n5; clear n0 n2 n3 n4 n5
     have z0 := (blk_cell HC6.out 0).trans rfl; have z1 := (blk_cell HC6.out 1).trans rfl; have z2 := (blk_cell HC6.out 2).trans rfl; have z3 := (blk_cell HC6.out 3).trans rfl
     have x0 := (blk_cell HD5.out 0).trans rfl; have x1 := (blk_cell HD5.out 1).trans rfl; have x2 := (blk_cell HD5.out 2).trans rfl; have x3 := (blk_cell HD5.out 3).trans rfl)
   | (
     go_at_call 27; (with_reducible refine (HVL.out _).mono ?_); rintro e w8 ⟨rfl, hb⟩
     have n0 := Aside0.mk (blk_below HC6.out hb); have n2 := Aside0.mk (blk_below HO6.out hb); have n3 := Aside0.mk (Kd.C_below HY6.out hb); have n4 := Aside0.mk (below_then HB6.out HB6.out.size hb)
     clear HC6 HO6 HY6 HB6 HD5 hb z0 z1 z2 z3 x0 x1 x2 x3; have HC6 := n0; have HO6 := n2; have HY6 := n3; have HB6 := n4; clear n0 n2 n3 n4))
  clear HSQ hb1 hb2 HVL
  go_loopw [16] (fun iv wr => ∃ i : Nat, i ≤ y.length ∧ iv = .int .i64 (i : Int) ∧ Aside0 (Below w8.heap.size w8 wr)) (fun iv _ => y.length - (intOf iv).toNat)
  case atStart => exact ⟨0, Nat.zero_le _, rfl, ⟨Below.refl _ _⟩⟩
  case round =>
   rename World => wr
   obtain ⟨i, hi, rfl, HBr⟩ := hrel
   by_cases hil : i < y.length
   ·have g1 : (i : Int) < (y.length : Int) := by omega
    have g2 : (0 : Int) ≤ (i : Int) := by omega
    have HI := Aside0.mk hil
    have HNX := Aside0.mk (next_i hil (by have := HY2.out; omega))
    have HMS := Aside0.mk (show y.length - (i + 1) < y.length - i by omega)
    clear hi hil
    obtain ⟨ad, ead, h0, h1⟩ := at_T28 (Kd.C_below HY6.out HBr.out) (i : Int) g2 g1
    subst ead
    simp only [Int.toNat_natCast] at h0 h1
    have hpt : rd_T28 y (i : Int) = y[i]'HI.out := rd28_get HI.out
    have HW1 := Aside0.mk (show withinP 256 (rd_T28 y (i : Int)) from by rw [hpt]; exact HYS.out _ (List.getElem_mem _))
    have HS1 := Aside0.mk (HSD.out _ HW1.out)
    have hsl : sgC c (rd_T28 y (i : Int)) ≤ 0 := sgC_le (PL.out.1.enc _ (by rw [hpt]; exact List.getElem_mem _))
    obtain ⟨sv, hsv⟩ : ∃ sv, Aside0 (sgC c (rd_T28 y (i : Int)) = sv) := ⟨_, ⟨rfl⟩⟩
    rw [hsv.out] at hsl HS1
    have hs0 : (sv > 0) = False := eq_false (Int.not_lt.2 hsl)
    have hs1 : decide (sv > 0) = false := decide_eq_false (Int.not_lt.2 hsl)
    clear hpt hsl
    have z0 := (blk_cell (blk_below HC6.out HBr.out) 0).trans rfl; have z1 := (blk_cell (blk_below HC6.out HBr.out) 1).trans rfl; have z2 := (blk_cell (blk_below HC6.out HBr.out) 2).trans rfl; have z3 := (blk_cell (blk_below HC6.out HBr.out) 3).trans rfl
    go_wp2
    refine stz (fun W => W.cell? ⟨gc, 0, none⟩ = some (.int .i64 c.X) ∧ W.cell? ⟨gc, 1, none⟩ = some (.int .i64 c.Y) ∧ W.cell? ⟨gc, 2, none⟩ = some (.int .i64 c.D) ∧ W.cell? ⟨gc, 3, none⟩ = some (.int .i64 c.R) ∧ W.cell? (ad.add (i * 2)) = some (.int .i64 (rd_T28 y (i : Int)).f0) ∧ W.cell? ⟨(ad.add (i * 2)).block, (ad.add (i * 2)).off + 1, none⟩ = some (.int .i64 (rd_T28 y (i : Int)).f1)) [] (bn 11 0) ⟨z0, z1, z2, z3, h0, h1⟩ (fun hHeld => ?_)
    refine pz 1 (some 81) (bn 11 2) ?_
    refine pz 2 (some 82) (bn 11 6) ?_
    refine pz 3 (some 83) (bn 11 14) ?_
    refine tz 0 (some 80) (bn 11 15) hHeld ?_
    refine tz 4 (some 84) (bn 11 31) hHeld ?_
    refine oz 5 (some 85) (bn 11 63) (fun K hK => ?_)
    refine gz Try.func31 #[.agg #[.int .i64 c.X, .int .i64 c.Y, .int .i64 c.D, .int .i64 c.R], .agg #[.int .i64 (rd_T28 y (i : Int)).f0, .int .i64 (rd_T28 y (i : Int)).f1]] ?_
    (with_reducible refine (HS1.out _).mono ?_)
    rintro e wn ⟨rfl, hb⟩
    refine ⟨_, rfl, ?_⟩
    have HBn := Aside0.mk (below_then (below_drew HBr.out) (below_drew HBr.out).size hb)
    obtain ⟨ad', ead', h0', h1'⟩ := at_T28 (Kd.C_below HY6.out HBn.out) (i : Int) g2 g1
    cases ead'
    simp only [Int.toNat_natCast] at h0' h1'
    refine hK.out _ _ ⟨(blk_cell (blk_below HC6.out HBn.out) 0).trans rfl, (blk_cell (blk_below HC6.out HBn.out) 1).trans rfl, (blk_cell (blk_below HC6.out HBn.out) 2).trans rfl, (blk_cell (blk_below HC6.out HBn.out) 3).trans rfl, h0', h1'⟩ (fun hHeld => ?_)
    clear hK K
    refine nz (some 85) ?_
    refine pz 6 (some 79) (bn 11 127) ?_
    refine pz 7 (some 86) (bn 11 255) ?_
    refine pz 8 (some 87) (bn 11 511) ?_
    refine pz 9 (some 17) (bn 11 1023) ?_
    refine pz 10 (some 18) (bn 11 2047) ?_
    refine done_ (by kernel_rfl) ?_
    clear z0 z1 z2 z3 h0 h1 h0' h1' hHeld hb
    go_wp2
    go_roundw
    ·have HNV := HNX.out
     generalize wrap64 ((i : Int) + 1) = iw at HNV ⊢
     subst HNV
     exact ⟨i + 1, HI.out, rfl, HBn⟩
    ·have HNV := HNX.out
     generalize wrap64 ((i : Int) + 1) = iw at HNV ⊢
     subst HNV
     simp only [intOf, Int.toNat_natCast]
     exact HMS.out
   ·obtain rfl : i = y.length := by omega
    clear hi hil
    obtain ⟨xX, eX, X0, X1⟩ := near_in a2_0 (most := 1000) (by omega) (by omega)
    obtain ⟨xY, eY, Y0, Y1⟩ := near_in a2_1 (most := 1000) (by omega) (by omega)
    obtain ⟨xM, eM, M0, M1⟩ := mod_in a2_2 (n := 4) (by omega) (by omega)
    have HN0 := Aside0.mk (fun W => tickinglaw01_near.calls a2_0 1000 xX W eX)
    have HN1 := Aside0.mk (fun W => tickinglaw01_near.calls a2_1 1000 xY W eY)
    have HN2 := Aside0.mk (fun W => tickinglaw01_mod.calls a2_2 4 xM W eM)
    have HXB := Aside0.mk (show (-1000 ≤ xX ∧ xX ≤ 1000) ∧ (-1000 ≤ xY ∧ xY ≤ 1000) ∧ (1 ≤ 1 + xM ∧ 1 + xM ≤ 4) ∧ wrap64 (1 + xM) = 1 + xM from ⟨⟨X0, X1⟩, ⟨Y0, Y1⟩, by omega, w64 (by omega) (by omega)⟩)
    clear eX eY eM X0 X1 Y0 Y1 M0 M1
    have HC9 := Aside0.mk (blk_below HC6.out HBr.out)
    have HO9 := Aside0.mk (blk_below HO6.out HBr.out)
    have HY9 := Aside0.mk (Kd.C_below HY6.out HBr.out)
    have HB9 := Aside0.mk (below_then HB6.out HB6.out.size HBr.out)
    clear HC6 HO6 HY6 HB6 HBr HSD
    generalize wr = w9 at HC9 HO9 HY9 HB9 ⊢
    have HLO := Aside0.mk (fun (W : World) (h : Below w9.heap.size w9 W) => show W.cell? ⟨w.heap.size + 1, 0, none⟩ = some (.int .i64 a2_0) ∧ W.cell? ⟨w.heap.size + 1, 1, none⟩ = some (.int .i64 a2_1) ∧ W.cell? ⟨w.heap.size + 1, 2, none⟩ = some (.int .i64 a2_2) from ⟨(blk_cell (blk_below HO9.out h) 0).trans rfl, (blk_cell (blk_below HO9.out h) 1).trans rfl, (blk_cell (blk_below HO9.out h) 2).trans rfl⟩)
    go_wp2
    refine stz (fun w' => w'.cell? ⟨w.heap.size + 1, 0, none⟩ = some (.int .i64 a2_0) ∧ w'.cell? ⟨w.heap.size + 1, 1, none⟩ = some (.int .i64 a2_1) ∧ w'.cell? ⟨w.heap.size + 1, 2, none⟩ = some (.int .i64 a2_2)) [] (bn 13 0) (HLO.out _ (below_drew (Below.refl _ _))) (fun hHeld => ?_)
    have HBq : Aside0 (Below w9.heap.size w9 w9.drew) := ⟨below_drew (Below.refl _ _)⟩
    generalize w9.drew = wd at HBq hHeld ⊢
    refine pz 0 (some 94) (bn 13 1) ?_
    refine pz 3 (some 97) (bn 13 9) ?_
    refine pz 6 (some 100) (bn 13 73) ?_
    refine tz 1 (some 95) (bn 13 75) hHeld ?_
    refine tz 4 (some 98) (bn 13 91) hHeld ?_
    refine tz 7 (some 101) (bn 13 219) hHeld ?_
    refine join_ (σ := Nat) 1 #[true, true, true, true, true, true, true, true, true, true, true, true, false] (fun s_ => [(96, .int .i64 xX), (99, .int .i64 xY), (102, .int .i64 xM), (103, .int .i64 (wrap64 (1 + xM))), (104, .agg #[.int .i64 xX, .int .i64 xY, .int .i64 (wrap64 (1 + xM)), .int .i64 0]), (19, .pointer (some ⟨s_, 0, none⟩))]) (fun s_ w' => (w'.cell? ⟨w.heap.size + 1, 0, none⟩ = some (.int .i64 a2_0) ∧ w'.cell? ⟨w.heap.size + 1, 1, none⟩ = some (.int .i64 a2_1) ∧ w'.cell? ⟨w.heap.size + 1, 2, none⟩ = some (.int .i64 a2_2)) ∧ (Below w9.heap.size w9 w') ∧ (w9.heap.size ≤ s_ ∧ w'.heap[s_]? = some (.cells #[.int .i64 0, .int .i64 0, .int .i64 0, .int .i64 0] 40 (0, 0)))) ?c3 ?m3
    case m3 =>
     intro J3
     refine join_ (σ := Nat) 4 #[true, true, true, true, true, true, true, true, false, false, false, true, false] (fun s_ => [(96, .int .i64 xX), (99, .int .i64 xY), (19, .pointer (some ⟨s_, 0, none⟩))]) (fun s_ w' => (w'.cell? ⟨w.heap.size + 1, 0, none⟩ = some (.int .i64 a2_0) ∧ w'.cell? ⟨w.heap.size + 1, 1, none⟩ = some (.int .i64 a2_1) ∧ w'.cell? ⟨w.heap.size + 1, 2, none⟩ = some (.int .i64 a2_2)) ∧ (Below w9.heap.size w9 w') ∧ (w9.heap.size ≤ s_ ∧ w'.heap[s_]? = some (.cells #[.int .i64 0, .int .i64 0, .int .i64 0, .int .i64 0] 40 (0, 0)))) ?c2 ?m2
     case m2 =>
      intro J2
      refine join_ (σ := Nat) 5 #[true, true, true, true, true, false, true, true, false, false, false, true, false] (fun s_ => [(96, .int .i64 xX), (19, .pointer (some ⟨s_, 0, none⟩))]) (fun s_ w' => (w'.cell? ⟨w.heap.size + 1, 0, none⟩ = some (.int .i64 a2_0) ∧ w'.cell? ⟨w.heap.size + 1, 1, none⟩ = some (.int .i64 a2_1) ∧ w'.cell? ⟨w.heap.size + 1, 2, none⟩ = some (.int .i64 a2_2)) ∧ (Below w9.heap.size w9 w') ∧ (w9.heap.size ≤ s_ ∧ w'.heap[s_]? = some (.cells #[.int .i64 0, .int .i64 0, .int .i64 0, .int .i64 0] 40 (0, 0)))) ?c1 ?m1
      case m1 =>
       intro J1
       refine two_ (i := 2) (j := 11) (Ni := some 96) (Nj := some 19) #[true, true, true, true, true, false, true, true, false, false, false, false, false] #[true, true, false, true, true, false, true, true, false, false, false, true, false] rfl rfl rfl rfl (by kernel_rfl) (by decide) (by decide) (fun K hK => ?_) (fun K hK => ?_)
       ·skip
        refine gz Try.func35 #[.int .i64 a2_0, .int .i64 1000] ?_
        (with_reducible refine (HN0.out _).mono ?_)
        rintro e wn ⟨rfl, nd, rfl⟩
        refine ⟨_, rfl, ?_⟩
        have n0 := Aside0.mk (pw_below_drewN HBq.out nd); clear HBq; have HBq := n0; clear n0
        refine hK.out _ _ (HLO.out _ HBq.out) (fun hHeld => ?_)
        clear hK K
        refine nz (some 96) ?_
        refine two_ (i := 5) (j := 11) (Ni := some 99) (Nj := some 19) #[true, true, true, true, true, true, true, true, false, false, false, false, false] #[true, true, true, true, true, false, true, true, false, false, false, true, false] rfl rfl rfl rfl (by kernel_rfl) (by decide) (by decide) (fun K hK => ?_) (fun K hK => ?_)
        ·skip
         refine gz Try.func35 #[.int .i64 a2_1, .int .i64 1000] ?_
         (with_reducible refine (HN1.out _).mono ?_)
         rintro e wn ⟨rfl, nd, rfl⟩
         refine ⟨_, rfl, ?_⟩
         have n0 := Aside0.mk (pw_below_drewN HBq.out nd); clear HBq; have HBq := n0; clear n0
         refine hK.out _ _ (HLO.out _ HBq.out) (fun hHeld => ?_)
         clear hK K
         refine nz (some 99) ?_
         refine two_ (i := 8) (j := 11) (Ni := some 102) (Nj := some 19) #[true, true, true, true, true, true, true, true, true, false, false, false, false] #[true, true, true, true, true, true, true, true, false, false, false, true, false] rfl rfl rfl rfl (by kernel_rfl) (by decide) (by decide) (fun K hK => ?_) (fun K hK => ?_)
         ·skip
          refine gz Try.func29 #[.int .i64 a2_2, .int .i64 4] ?_
          (with_reducible refine (HN2.out _).mono ?_)
          rintro e wn ⟨rfl, nd, rfl⟩
          refine ⟨_, rfl, ?_⟩
          have n0 := Aside0.mk (pw_below_drewN HBq.out nd); clear HBq; have HBq := n0; clear n0
          refine hK.out _ _ (HLO.out _ HBq.out) (fun hHeld => ?_)
          clear hK K
          refine nz (some 102) ?_
          refine pz 9 (some 103) (bn 13 1023) ?_
          refine pz 10 (some 104) (bn 13 2047) ?_
          refine oz 11 (some 19) (bn 13 4095) (fun K hK => ?_)
          refine bxS 19 #[.int .i64 0, .int .i64 0, .int .i64 0, .int .i64 0] 40 ?_
          intro g19 hg wn hbox hb
          have n1 := Aside0.mk (And.intro (by rw [hg]; exact HBq.out.size : w9.heap.size ≤ g19) hbox); have n0 := Aside0.mk (below_then HBq.out HBq.out.size hb); clear HBq hb hbox hg; have HBq := n0; have H19 := n1; clear n0 n1
          refine hK.out _ _ (HLO.out _ HBq.out) (fun hHeld => ?_)
          clear hK K
          refine nz (some 19) ?_
          exact norm_ (by first | (simp only [putAll, Act.put, List.setIfInBounds_toArray, List.set_cons_zero, List.set_cons_succ]; done) | (simp only [putAll, Act.put, List.setIfInBounds_toArray, List.set_cons_zero, List.set_cons_succ]; rfl)) (J3 g19 _ ⟨hHeld, HBq.out, H19.out⟩)
         ·skip
          refine bxS 19 #[.int .i64 0, .int .i64 0, .int .i64 0, .int .i64 0] 40 ?_
          intro g19 hg wn hbox hb
          have n1 := Aside0.mk (And.intro (by rw [hg]; exact HBq.out.size : w9.heap.size ≤ g19) hbox); have n0 := Aside0.mk (below_then HBq.out HBq.out.size hb); clear HBq hb hbox hg; have HBq := n0; have H19 := n1; clear n0 n1
          refine hK.out _ _ (HLO.out _ HBq.out) (fun hHeld => ?_)
          clear hK K
          refine nz (some 19) ?_
          exact norm_ (by first | (simp only [putAll, Act.put, List.setIfInBounds_toArray, List.set_cons_zero, List.set_cons_succ]; done) | (simp only [putAll, Act.put, List.setIfInBounds_toArray, List.set_cons_zero, List.set_cons_succ]; rfl)) (J2 g19 _ ⟨hHeld, HBq.out, H19.out⟩)
        ·skip
         refine bxS 19 #[.int .i64 0, .int .i64 0, .int .i64 0, .int .i64 0] 40 ?_
         intro g19 hg wn hbox hb
         have n1 := Aside0.mk (And.intro (by rw [hg]; exact HBq.out.size : w9.heap.size ≤ g19) hbox); have n0 := Aside0.mk (below_then HBq.out HBq.out.size hb); clear HBq hb hbox hg; have HBq := n0; have H19 := n1; clear n0 n1
         refine hK.out _ _ (HLO.out _ HBq.out) (fun hHeld => ?_)
         clear hK K
         refine nz (some 19) ?_
         exact norm_ (by first | (simp only [putAll, Act.put, List.setIfInBounds_toArray, List.set_cons_zero, List.set_cons_succ]; done) | (simp only [putAll, Act.put, List.setIfInBounds_toArray, List.set_cons_zero, List.set_cons_succ]; rfl)) (J1 g19 _ ⟨hHeld, HBq.out, H19.out⟩)
       ·skip
        refine bxS 19 #[.int .i64 0, .int .i64 0, .int .i64 0, .int .i64 0] 40 ?_
        intro g19 hg wn hbox hb
        have n1 := Aside0.mk (And.intro (by rw [hg]; exact HBq.out.size : w9.heap.size ≤ g19) hbox); have n0 := Aside0.mk (below_then HBq.out HBq.out.size hb); clear HBq hb hbox hg; have HBq := n0; have H19 := n1; clear n0 n1
        refine hK.out _ _ (HLO.out _ HBq.out) (fun hHeld => ?_)
        clear hK K
        refine nz (some 19) ?_
        refine oz 2 (some 96) (bn 13 2271) (fun K hK => ?_)
        refine gz Try.func35 #[.int .i64 a2_0, .int .i64 1000] ?_
        (with_reducible refine (HN0.out _).mono ?_)
        rintro e wn ⟨rfl, nd, rfl⟩
        refine ⟨_, rfl, ?_⟩
        have n0 := Aside0.mk (pw_below_drewN HBq.out nd); clear HBq; have HBq := n0; clear n0
        have n1 := Aside0.mk (And.intro H19.out.1 (blk_drewN H19.out.2 nd)); clear H19; have H19 := n1; clear n1
        refine hK.out _ _ (HLO.out _ HBq.out) (fun hHeld => ?_)
        clear hK K
        refine nz (some 96) ?_
        exact norm_ (by first | (simp only [putAll, Act.put, List.setIfInBounds_toArray, List.set_cons_zero, List.set_cons_succ]; done) | (simp only [putAll, Act.put, List.setIfInBounds_toArray, List.set_cons_zero, List.set_cons_succ]; rfl)) (J1 g19 _ ⟨hHeld, HBq.out, H19.out⟩)
      case c1 =>
       rintro g19 wj ⟨hHeld, hBq, h19⟩
       have HBq := Aside0.mk hBq; have H19 := Aside0.mk h19
       clear hBq h19
       refine norm_ (a' := ?_) ?_ ?_
       rotate_left
       ·simp only [putAll, Act.put, List.setIfInBounds_toArray, List.set_cons_zero, List.set_cons_succ]
        rfl
       refine oz 5 (some 99) (bn 13 2303) (fun K hK => ?_)
       refine gz Try.func35 #[.int .i64 a2_1, .int .i64 1000] ?_
       (with_reducible refine (HN1.out _).mono ?_)
       rintro e wn ⟨rfl, nd, rfl⟩
       refine ⟨_, rfl, ?_⟩
       have n0 := Aside0.mk (pw_below_drewN HBq.out nd); clear HBq; have HBq := n0; clear n0
       have n1 := Aside0.mk (And.intro H19.out.1 (blk_drewN H19.out.2 nd)); clear H19; have H19 := n1; clear n1
       refine hK.out _ _ (HLO.out _ HBq.out) (fun hHeld => ?_)
       clear hK K
       refine nz (some 99) ?_
       exact norm_ (by first | (simp only [putAll, Act.put, List.setIfInBounds_toArray, List.set_cons_zero, List.set_cons_succ]; done) | (simp only [putAll, Act.put, List.setIfInBounds_toArray, List.set_cons_zero, List.set_cons_succ]; rfl)) (J2 g19 _ ⟨hHeld, HBq.out, H19.out⟩)
     case c2 =>
      rintro g19 wj ⟨hHeld, hBq, h19⟩
      have HBq := Aside0.mk hBq; have H19 := Aside0.mk h19
      clear hBq h19
      refine norm_ (a' := ?_) ?_ ?_
      rotate_left
      ·simp only [putAll, Act.put, List.setIfInBounds_toArray, List.set_cons_zero, List.set_cons_succ]
       rfl
      refine oz 8 (some 102) (bn 13 2559) (fun K hK => ?_)
      refine gz Try.func29 #[.int .i64 a2_2, .int .i64 4] ?_
      (with_reducible refine (HN2.out _).mono ?_)
      rintro e wn ⟨rfl, nd, rfl⟩
      refine ⟨_, rfl, ?_⟩
      have n0 := Aside0.mk (pw_below_drewN HBq.out nd); clear HBq; have HBq := n0; clear n0
      have n1 := Aside0.mk (And.intro H19.out.1 (blk_drewN H19.out.2 nd)); clear H19; have H19 := n1; clear n1
      refine hK.out _ _ (HLO.out _ HBq.out) (fun hHeld => ?_)
      clear hK K
      refine nz (some 102) ?_
      refine pz 9 (some 103) (bn 13 3071) ?_
      refine pz 10 (some 104) (bn 13 4095) ?_
      exact norm_ (by first | (simp only [putAll, Act.put, List.setIfInBounds_toArray, List.set_cons_zero, List.set_cons_succ]; done) | (simp only [putAll, Act.put, List.setIfInBounds_toArray, List.set_cons_zero, List.set_cons_succ]; rfl)) (J3 g19 _ ⟨hHeld, HBq.out, H19.out⟩)
    case c3 =>
     rintro g19 wj ⟨hHeld, hBq, h19⟩
     have HBq := Aside0.mk hBq; have H19 := Aside0.mk h19
     clear hBq h19
     refine norm_ (a' := ?_) ?_ ?_
     rotate_left
     ·simp only [putAll, Act.put, List.setIfInBounds_toArray, List.set_cons_zero, List.set_cons_succ]
      rfl
     refine oz 12 none (bn 13 8191) (fun K hK => ?_)
     have d0_ := (blk_cell H19.out.2 0).trans rfl; have f0_ := blk_frozen H19.out.2 0
     have d1_ := (blk_cell H19.out.2 1).trans rfl; have f1_ := blk_frozen H19.out.2 1
     have d2_ := (blk_cell H19.out.2 2).trans rfl; have f2_ := blk_frozen H19.out.2 2
     have d3_ := (blk_cell H19.out.2 3).trans rfl; have f3_ := blk_frozen H19.out.2 3
     have HBs := Aside0.mk ((((HBq.out.setCell (p := ⟨g19, 0, none⟩) H19.out.1 (.int .i64 xX)).setCell (p := ⟨g19, 1, none⟩) H19.out.1 (.int .i64 xY)).setCell (p := ⟨g19, 2, none⟩) H19.out.1 (.int .i64 (wrap64 (1 + xM)))).setCell (p := ⟨g19, 3, none⟩) H19.out.1 (.int .i64 0))
     have HDs := Aside0.mk (blk_put (blk_put (blk_put (blk_put H19.out.2 0 (.int .i64 xX) rfl) 1 (.int .i64 xY) rfl) 2 (.int .i64 (wrap64 (1 + xM))) rfl) 3 (.int .i64 0) rfl)
     refine sz ?_
     refine hK.out _ _ (HLO.out _ HBs.out) (fun hHeld => ?_)
     clear hK K
     refine done_ (by kernel_rfl) ?_
     generalize (((wj.setCell ⟨g19, 0, none⟩ (.int .i64 xX)).setCell ⟨g19, 1, none⟩ (.int .i64 xY)).setCell ⟨g19, 2, none⟩ (.int .i64 (wrap64 (1 + xM)))).setCell ⟨g19, 3, none⟩ (.int .i64 0) = wa at HBs HDs hHeld ⊢
     rw [HXB.out.2.2.2] at HDs
     have HXC := Aside0.mk (And.intro HXB.out.1 (And.intro HXB.out.2.1 HXB.out.2.2.1))
     generalize wrap64 (1 + xM) = xJ
     generalize 1 + xM = xD at HDs HXC
     clear HXB HN0 HN1 HN2
     have HC10 := HC9
     go_wp2
     go_loopw [20] (fun iv wr => ∃ i : Nat, i ≤ y.length ∧ iv = .int .i64 (i : Int) ∧ ∃ R, Aside0 (LRad y xX xY xD i R) ∧ Aside0 (wr.heap[g19]? = some (.cells #[.int .i64 xX, .int .i64 xY, .int .i64 xD, .int .i64 R] 40 (0, 0))) ∧ Aside0 (Below w9.heap.size w9 wr)) (fun iv _ => y.length - (intOf iv).toNat)
     case atStart => exact ⟨0, Nat.zero_le _, rfl, 0, ⟨⟨by omega, by omega, fun j hj => by omega⟩⟩, HDs, HBs⟩
     case round =>
      rename World => wr2
      obtain ⟨i, hi, rfl, R, HR, HG, HBr⟩ := hrel
      by_cases hil : i < y.length
      ·have g1 : (i : Int) < (y.length : Int) := by omega
       have g2 : (0 : Int) ≤ (i : Int) := by omega
       have HI := Aside0.mk hil
       have HNX := Aside0.mk (next_i hil (by have := HY2.out; omega))
       have HMS := Aside0.mk (show y.length - (i + 1) < y.length - i by omega)
       clear hi hil
       obtain ⟨ad, ead, h0, h1⟩ := at_T28 (Kd.C_below HY9.out HBr.out) (i : Int) g2 g1
       subst ead
       simp only [Int.toNat_natCast] at h0 h1
       have hpt : rd_T28 y (i : Int) = y[i]'HI.out := rd28_get HI.out
       have HW1 := Aside0.mk (show withinP 256 (rd_T28 y (i : Int)) from by rw [hpt]; exact HYS.out _ (List.getElem_mem _))
       have HPT := Aside0.mk (show pt y i = rd_T28 y (i : Int) from (rd_pt y i).symm)
       have HRN := Aside0.mk (HR.out.next HXC.out.1 HXC.out.2.1 HXC.out.2.2 HW1.out HPT.out)
       have HFR := Aside0.mk (fun (W : World) => tickingref01_Far.calls xX xY xD R (rd_T28 y (i : Int)).f0 (rd_T28 y (i : Int)).f1 (farC ⟨xX, xY, xD, R⟩ (rd_T28 y (i : Int))) W (far_f (lfar_ok HXC.out.1 HXC.out.2.1 HXC.out.2.2 ⟨HR.out.pos, HR.out.le⟩) (least_isP HW1.out)))
       generalize farC ⟨xX, xY, xD, R⟩ (rd_T28 y (i : Int)) = fa at HRN HFR
       clear hpt
       have z0 := (blk_cell HG.out 0).trans rfl; have z1 := (blk_cell HG.out 1).trans rfl; have z2 := (blk_cell HG.out 2).trans rfl; have z3 := (blk_cell HG.out 3).trans rfl
       go_wp2
       refine stz (fun W => W.cell? ⟨g19, 0, none⟩ = some (.int .i64 xX) ∧ W.cell? ⟨g19, 1, none⟩ = some (.int .i64 xY) ∧ W.cell? ⟨g19, 2, none⟩ = some (.int .i64 xD) ∧ W.cell? ⟨g19, 3, none⟩ = some (.int .i64 R) ∧ W.cell? (ad.add (i * 2)) = some (.int .i64 (rd_T28 y (i : Int)).f0) ∧ W.cell? ⟨(ad.add (i * 2)).block, (ad.add (i * 2)).off + 1, none⟩ = some (.int .i64 (rd_T28 y (i : Int)).f1)) [10] (bn 11 0) ⟨z0, z1, z2, z3, h0, h1⟩ (fun hHeld => ?_)
       refine pz 0 (some 111) (bn 11 1) ?_
       refine pz 3 (some 114) (bn 11 9) ?_
       refine pz 4 (some 115) (bn 11 25) ?_
       refine pz 5 (some 116) (bn 11 57) ?_
       refine tz 1 (some 112) (bn 11 59) hHeld ?_
       refine tz 2 (some 113) (bn 11 63) hHeld ?_
       refine tz 6 (some 117) (bn 11 127) hHeld ?_
       refine oz 7 (some 118) (bn 11 255) (fun K hK => ?_)
       refine gz Try.func33 #[.agg #[.int .i64 xX, .int .i64 xY, .int .i64 xD, .int .i64 R], .agg #[.int .i64 (rd_T28 y (i : Int)).f0, .int .i64 (rd_T28 y (i : Int)).f1]] ?_
       (with_reducible refine (HFR.out _).mono ?_)
       rintro e wn ⟨rfl, hb⟩
       refine ⟨_, rfl, ?_⟩
       have HBn := Aside0.mk (below_then (below_drew HBr.out) (below_drew HBr.out).size hb)
       have HGn := Aside0.mk (blk_below (blk_drew HG.out) hb)
       obtain ⟨ad', ead', h0', h1'⟩ := at_T28 (Kd.C_below HY9.out HBn.out) (i : Int) g2 g1
       cases ead'
       simp only [Int.toNat_natCast] at h0' h1'
       refine hK.out _ _ ⟨(blk_cell HGn.out 0).trans rfl, (blk_cell HGn.out 1).trans rfl, (blk_cell HGn.out 2).trans rfl, (blk_cell HGn.out 3).trans rfl, h0', h1'⟩ (fun hHeld => ?_)
       clear hK K
       refine nz (some 118) ?_
       refine pz 8 (some 119) (bn 11 511) ?_
       refine pz 9 (some 120) (bn 11 1023) ?_
       refine last_ (i := 10) (N := none) #[true, true, true, true, true, true, true, true, true, true, true] rfl rfl (by kernel_rfl) (by decide) (fun K hK => ?_)
       have d3_ := (blk_cell HGn.out 3).trans rfl; have f3_ := blk_frozen HGn.out 3
       refine sz ?_
       refine hK.out _ _ ?_
       clear hK K
       refine done_ (by kernel_rfl) ?_
       have HGN := Aside0.mk (blk_put HGn.out 3 (.int .i64 (mx R fa)) rfl)
       have HBN := Aside0.mk (HBn.out.setCell (p := ⟨g19, 3, none⟩) H19.out.1 (.int .i64 (mx R fa)))
       clear z0 z1 z2 z3 h0 h1 h0' h1' hHeld hb d3_ f3_ HGn HBn
       go_wp2
       go_roundw
       ·have HNV := HNX.out
        generalize wrap64 ((i : Int) + 1) = iw at HNV ⊢
        subst HNV
        exact ⟨i + 1, HI.out, rfl, mx R fa, HRN, HGN, HBN⟩
       ·have HNV := HNX.out
        generalize wrap64 ((i : Int) + 1) = iw at HNV ⊢
        subst HNV
        simp only [intOf, Int.toNat_natCast]
        exact HMS.out
      ·obtain rfl : i = y.length := by omega
       clear hi hil
       obtain ⟨kl, hkl⟩ := least_less PL.out.1 PL.out.2.2.1 HXC.out.1 HXC.out.2.1 HXC.out.2.2 HR.out
       have HL36 := Aside0.mk (fun W => tickinglaw01_less.calls kl R (xD * xD) c.R (c.D * c.D) false W hkl)
       have HW := Aside0.mk (fun W => tickinglaw01_awake.calls 0 true W rfl)
       have hw1 : wrap64 (xD * xD) = xD * xD := least_dd HXC.out.2.2
       have hw2 : wrap64 (c.D * c.D) = c.D * c.D := least_cc PL.out.2.2.1
       have HBF := Aside0.mk (below_then HB9.out HB9.out.size HBr.out)
       have z0 := (blk_cell HG.out 0).trans rfl; have z1 := (blk_cell HG.out 1).trans rfl; have z2 := (blk_cell HG.out 2).trans rfl; have z3 := (blk_cell HG.out 3).trans rfl
       have x0 := (blk_cell (blk_below HC9.out HBr.out) 0).trans rfl; have x1 := (blk_cell (blk_below HC9.out HBr.out) 1).trans rfl; have x2 := (blk_cell (blk_below HC9.out HBr.out) 2).trans rfl; have x3 := (blk_cell (blk_below HC9.out HBr.out) 3).trans rfl
       clear hkl
       go_wp2_with (first
        | (go_at_call 36; (with_reducible refine (HL36.out _).mono ?_); rintro e w12 ⟨rfl, nd, rfl⟩; have n2 := Aside0.mk (pw_below_drewN HBF.out nd); clear HBF; have HBF := n2; clear n2)
        | (go_at_call 21; (with_reducible refine (HW.out _).mono ?_); rintro e w13 ⟨rfl, hb⟩; have n2 := Aside0.mk (below_then HBF.out HBF.out.size hb); clear hb HBF; have HBF := n2; clear n2))
       go_ret
       exact ⟨rfl, HBF.out⟩
end Go.Proofs.Ytplhfbkejngioaa.X
namespace Go.Proofs.Ytplhfbkejngioaa.Pure
open Go.RowKit Go.Proofs.Ytplhfbkejngioaa.X Go.Proofs.Ytplhfbkejngioaa.Open Go.Proofs.YtplhfbkejngioaaW.PrintWords
set_option linter.unusedVariables false
theorem CoverLeast (l0 : List S28) (hm0 : l0.length ≤ 9223372036854775807) (hI0 : ∀ x ∈ l0, I64 x.f0 ∧ I64 x.f1) (a1_0 a1_1 : Int) (h1_0 : I64 a1_0) (h1_1 : I64 a1_1) (a2_0 a2_1 a2_2 a2_3 : Int) (h2_0 : I64 a2_0) (h2_1 : I64 a2_1) (h2_2 : I64 a2_2) (h2_3 : I64 a2_3) : ∃ k, tickinglaw01_CoverLeast.f k l0 a1_0 a1_1 a2_0 a2_1 a2_2 a2_3 = some true := ⟨0, rfl⟩
end Go.Proofs.Ytplhfbkejngioaa.Pure
