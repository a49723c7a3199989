/- The plain statement of CoverMoves: moving, turning, mirroring all points does the same to the circle; reordering changes nothing. Texts of this claim's session, put together: RefA, Ref1, Move, PureCoverMoves. -/
import Derived.Test.YtplhfbkejngioaaBb4
import Derived.Test.YtplhfbkejngioaaBb13
import Derived.Test.YtplhfbkejngioaaMo2
import Derived.Test.YtplhfbkejngioaaMo3
import Derived.Test.YtplhfbkejngioaaBb5
import Derived.Test.YtplhfbkejngioaaMo1
import Derived.Test.YtplhfbkejngioaaWWords
import Derived.Test.YtplhfbkejngioaaWTab
import Derived.Test.YtplhfbkejngioaaWRepsOne
namespace Go.Proofs.Ytplhfbkejngioaa.X
open Go.RowKit Go.Proofs.YtplhfbkejngioaaW.PrintWords Go.Proofs.YtplhfbkejngioaaW.PrintLast Go.Proofs.Ytplhfbkejngioaa.S Go.Proofs.Ytplhfbkejngioaa.Open
set_option linter.unusedVariables false
theorem awake_ev : Ev tickinglaw01_awake.f true := Ev.of tickinglaw01_awake.mono (k := 1) (by decide +kernel)
theorem inside_f (a : Int) : tickingref01_Inside.f a = some (inC a) := by
 unfold tickingref01_Inside.f inC
 by_cases h : -256 ≤ a
 ·rw [if_pos h]; simp [h]
 ·rw [if_neg h]; simp [h]
theorem rect_f (r : S48) : tickingref01_Rect.f r.f0 r.f1 r.f2 r.f3 = some (isR r) := by
 unfold tickingref01_Rect.f isR
 rw [inside_f, inside_f, inside_f, inside_f]
 simp only [Option.bind_some]
 cases inC r.f0 <;> cases inC r.f1 <;> cases inC r.f2 <;> cases inC r.f3 <;> simp
 by_cases h : r.f0 < r.f2 <;> simp [h]
theorem rd48_get {l : List S48} {i : Nat} (h : i < l.length) : rd_T48 l (i : Int) = l[i] := by simp [rd_T48, h]
theorem rd28_get {l : List S28} {i : Nat} (h : i < l.length) : rd_T28 l (i : Int) = l[i] := by simp [rd_T28, h]
theorem next_i {i n : Nat} (h : i < n) (hn : n ≤ 9223372036854775807) : wrap64 ((i : Int) + 1) = ((i + 1 : Nat) : Int) := by rw [w64 (by omega) (by omega)]; omega
theorem rects_l0 (l : List S48) (m : Int) (hm : l.length ≤ 9223372036854775807) : ∀ (d i : Nat), i + d = l.length → ∀ k, d < k → tickingref01_Rects.l0 k l m (i : Int) = some ((l.drop i).all isR && decide ((l.length : Int) ≤ m))
 | 0, i, h, k, hk => by
  obtain ⟨k, rfl⟩ : ∃ q, k = q + 1 := ⟨k - 1, by omega⟩
  simp only [tickingref01_Rects.l0]
  rw [if_neg (by omega), List.drop_eq_nil_of_le (by omega)]
  simp
 | d + 1, i, h, k, hk => by
  obtain ⟨k, rfl⟩ : ∃ q, k = q + 1 := ⟨k - 1, by omega⟩
  have hi : i < l.length := by omega
  have ih := rects_l0 l m hm d (i + 1) (by omega) k (by omega)
  have e : l.drop i = l[i] :: l.drop (i + 1) := List.drop_eq_getElem_cons hi
  have g1 : (i : Int) < (l.length : Int) := by omega
  have g2 : (0 : Int) ≤ (i : Int) := by omega
  simp only [tickingref01_Rects.l0]
  rw [if_pos g1, if_pos g2, rd48_get hi, rect_f, Option.bind_some, next_i hi hm, ih, e, List.all_cons]
  cases isR l[i] <;> simp
theorem rects_ev (l : List S48) (m : Int) (hm : l.length ≤ 9223372036854775807) : Ev (fun k => tickingref01_Rects.f k l m) (l.all isR && decide ((l.length : Int) ≤ m)) :=
 ⟨l.length + 1, fun k hk => by unfold tickingref01_Rects.f; exact rects_l0 l m hm l.length 0 (by omega) k (by omega)⟩
theorem areRs_eq (l : List S48) (m : Int) : (l.all isR && decide ((l.length : Int) ≤ m)) = areRs l m := by unfold areRs; exact Bool.and_comm _ _
end Go.Proofs.Ytplhfbkejngioaa.X
namespace Go.Proofs.Ytplhfbkejngioaa.X
open Go.RowKit Go.Proofs.YtplhfbkejngioaaW.PrintWords Go.Proofs.YtplhfbkejngioaaW.PrintLast Go.Proofs.Ytplhfbkejngioaa.S Go.Proofs.Ytplhfbkejngioaa.Open
set_option linter.unusedVariables false
theorem point_f (a b : Int) : tickingref01_Point.f a b = some (isP ⟨a, b⟩) := by
 unfold tickingref01_Point.f isP
 rw [inside_f, inside_f]
 simp only [Option.bind_some]
 cases inC a <;> simp
def rangeC (c : Ci) : Bool := decide (1 ≤ c.D) && decide (c.D ≤ 1048576) && (decide (-536870912 ≤ c.X) && decide (c.X ≤ 536870912)) && (decide (-536870912 ≤ c.Y) && decide (c.Y ≤ 536870912)) && (decide (0 ≤ c.R) && decide (c.R ≤ 1152921504606846976))
def validC (c : Ci) : Bool := rangeC c && (gcd3 c == 1)
theorem rangeC_bd {c : Ci} (h : rangeC c = true) : 1 ≤ c.D ∧ c.D ≤ 1048576 ∧ -536870912 ≤ c.X ∧ c.X ≤ 536870912 ∧ -536870912 ≤ c.Y ∧ c.Y ≤ 536870912 ∧ 0 ≤ c.R ∧ c.R ≤ 1152921504606846976 := by
 simp only [rangeC, Bool.and_eq_true, decide_eq_true_eq] at h; omega
theorem rangeC_ok {c : Ci} (h : rangeC c = true) : okC c := by
 have := rangeC_bd h; unfold okC; omega
theorem validC_range {c : Ci} (h : validC c = true) : rangeC c = true := by
 unfold validC at h; simp only [Bool.and_eq_true] at h; exact h.1
theorem gcd_cast (a b : Nat) : (((Nat.gcd a b : Nat) : Int)).natAbs = Nat.gcd a b := rfl
theorem isCircle_ev (c : Ci) : Ev (fun k => cover_isCircle.f k c.X c.Y c.D c.R) (validC c) := by
 by_cases h : rangeC c = true
 ·have b := rangeC_bd h
  have hgl : Nat.gcd c.X.natAbs c.Y.natAbs ≤ 536870912 := by
   rcases Nat.eq_zero_or_pos c.X.natAbs with h | h
   ·rw [h, Nat.gcd_zero_left]; omega
   ·have := Nat.gcd_le_left c.Y.natAbs h; omega
  have e1 := gcd_ev c.X c.Y (by omega) (by omega)
  have e2 := gcd_ev ((Nat.gcd c.X.natAbs c.Y.natAbs : Nat) : Int) c.D (by omega) (by omega)
  refine Ev.congr (f := fun k => (cover_gcd.f k c.X c.Y).bind fun t472 => ((cover_gcd.f k t472 c.D).bind fun t473 => (some (t473 == 1)))) (fun k => ?_) (Ev.bind e1 (Ev.bind e2 ?_))
  ·unfold cover_isCircle.f
   rw [within_f, within_f, within_f, within_f]
   simp only [rangeC, Bool.and_eq_true] at h
   obtain ⟨⟨⟨⟨h1, h2⟩, h3⟩, h4⟩, h5⟩ := h
   simp [h1, h2, h3.1, h3.2, h4.1, h4.2, h5.1, h5.2]
  ·have : validC c = (((Nat.gcd (((Nat.gcd c.X.natAbs c.Y.natAbs : Nat) : Int)).natAbs c.D.natAbs : Nat) : Int) == 1) := by
    unfold validC; rw [h, Bool.true_and]; rfl
   rw [this]; exact Ev.now _
 ·have hv : validC c = false := by unfold validC; rw [Bool.eq_false_iff.2 h]; rfl
  rw [hv]
  refine ⟨0, fun k _ => ?_⟩
  unfold cover_isCircle.f
  rw [within_f, within_f, within_f, within_f]
  have h' : rangeC c = false := Bool.eq_false_iff.2 h
  unfold rangeC at h'
  by_cases h1 : (decide (1 ≤ c.D) && decide (c.D ≤ 1048576)) = true
  ·rw [h1] at h' ⊢
   by_cases h2 : (decide (-536870912 ≤ c.X) && decide (c.X ≤ 536870912)) = true
   ·rw [h2] at h' ⊢
    by_cases h3 : (decide (-536870912 ≤ c.Y) && decide (c.Y ≤ 536870912)) = true
    ·rw [h3] at h' ⊢
     simp only [Bool.and_self, Bool.true_and] at h'
     rw [h']; rfl
    ·rw [Bool.eq_false_iff.2 h3]; rfl
   ·rw [Bool.eq_false_iff.2 h2]; rfl
  ·rw [Bool.eq_false_iff.2 h1]; rfl
theorem rgcd_l0 : ∀ (n : Nat) (a b : Nat), b ≤ n → Ev (fun k => tickingref01_gcd.l0 k (a : Int) (b : Int)) ((Nat.gcd a b : Nat) : Int) := by
 intro n
 induction n with
 | zero =>
  intro a b hn
  obtain rfl : b = 0 := by omega
  refine Ev.step (f := fun _ => some _) (fun k => ?_) (Ev.now _)
  simp only [tickingref01_gcd.l0]
  rw [if_neg (by simp), Nat.gcd_zero_right]
 | succ n ih =>
  intro a b hn
  by_cases h0 : b = 0
  ·subst h0; exact ih a 0 (Nat.zero_le _)
  ·have ht : Int.tmod (a : Int) (b : Int) = ((a % b : Nat) : Int) := by
    rw [Int.tmod_eq_emod_of_nonneg (by omega)]; exact (Int.natCast_emod _ _).symm
   have hlt : a % b < b := Nat.mod_lt _ (by omega)
   have := ih b (a % b) (by omega)
   refine Ev.step (f := fun k => tickingref01_gcd.l0 k (b : Int) ((a % b : Nat) : Int)) (fun k => ?_) ?_
   ·simp only [tickingref01_gcd.l0]; rw [if_pos (by omega), if_neg (by omega), ht]
   ·have e : Nat.gcd a b = Nat.gcd b (a % b) := by
     rw [Nat.gcd_comm, Nat.gcd_rec, Nat.gcd_comm]
    rw [e]; exact this
theorem rgcd_ev (a b : Nat) : Ev (fun k => tickingref01_gcd.f k (a : Int) (b : Int)) ((Nat.gcd a b : Nat) : Int) := rgcd_l0 b a b (Nat.le_refl _)
theorem abs_f {a : Int} (h : -9223372036854775808 < a ∧ a ≤ 9223372036854775807) : tickingref01_absolute.f a = some ((a.natAbs : Nat) : Int) := by
 unfold tickingref01_absolute.f
 rw [w64 (by omega) (by omega)]
 unfold mx
 congr 1
 split <;> omega
theorem valid_ev (c : Ci) : Ev (fun k => tickingref01_Valid.f k c.X c.Y c.D c.R) (validC c) := by
 by_cases h : rangeC c = true
 ·have b := rangeC_bd h
  refine Ev.congr (f := fun k => tickingref01_Valid.j0 k false c.X c.Y c.D c.R) (fun k => ?_) (Ev.step (fun k => rfl) ?_)
  ·unfold tickingref01_Valid.f
   rw [if_neg (by omega), if_neg (by omega), if_neg (by omega), if_neg (by omega), if_neg (by omega), if_neg (by omega), if_neg (by omega)]
   have : decide (c.R > 1152921504606846976) = false := by simp; omega
   rw [this]
  ·have hD : (c.D.natAbs : Int) = c.D := by omega
   have e1 := rgcd_ev c.X.natAbs c.Y.natAbs
   have e2 := rgcd_ev (Nat.gcd c.X.natAbs c.Y.natAbs) c.D.natAbs
   rw [hD] at e2
   refine Ev.congr (f := fun k => (tickingref01_gcd.f k (c.X.natAbs : Int) (c.Y.natAbs : Int)).bind fun t357 => ((tickingref01_gcd.f k t357 c.D).bind fun t358 => (some (t358 == 1)))) (fun k => ?_) (Ev.bind e1 (Ev.bind e2 ?_))
   ·have a1 := abs_f (a := c.X) (by omega)
    have a2 := abs_f (a := c.Y) (by omega)
    simp only [tickingref01_Valid.j0]
    rw [if_neg Bool.false_ne_true, a1, a2]
    rfl
   ·have : validC c = (((Nat.gcd (Nat.gcd c.X.natAbs c.Y.natAbs) c.D.natAbs : Nat) : Int) == 1) := by
     unfold validC; rw [h, Bool.true_and]; rfl
    rw [this]; exact Ev.now _
 ·have hv : validC c = false := by unfold validC; rw [Bool.eq_false_iff.2 h]; rfl
  rw [hv]
  have key : ∀ k, tickingref01_Valid.f k c.X c.Y c.D c.R = tickingref01_Valid.j0 k true c.X c.Y c.D c.R := by
   intro k
   unfold tickingref01_Valid.f
   by_cases h1 : c.D < 1
   ·rw [if_pos h1]
   rw [if_neg h1]
   by_cases h2 : c.D > 1048576
   ·rw [if_pos h2]
   rw [if_neg h2]
   by_cases h3 : c.X < -536870912
   ·rw [if_pos h3]
   rw [if_neg h3]
   by_cases h4 : c.X > 536870912
   ·rw [if_pos h4]
   rw [if_neg h4]
   by_cases h5 : c.Y < -536870912
   ·rw [if_pos h5]
   rw [if_neg h5]
   by_cases h6 : c.Y > 536870912
   ·rw [if_pos h6]
   rw [if_neg h6]
   by_cases h7 : c.R < 0
   ·rw [if_pos h7]
   rw [if_neg h7]
   have : decide (c.R > 1152921504606846976) = true := by
    by_cases h8 : c.R > 1152921504606846976
    ·simp [h8]
    ·exact absurd (show rangeC c = true by simp only [rangeC, Bool.and_eq_true, decide_eq_true_eq]; omega) h
   rw [this]
  refine Ev.congr key (Ev.step (f := fun _ => some false) (fun k => ?_) (Ev.now _))
  simp only [tickingref01_Valid.j0, if_true]
theorem far_f {c : Ci} (hc : okC c) {p : S28} (hp : isP p = true) : tickingref01_Far.f c.X c.Y c.D c.R p.f0 p.f1 = some (farC c p) := by
 have h := vec_bd hc hp
 have hf := far_bd hc hp
 have m0 := sq_bd h.2.2.1.1 h.2.2.1.2
 have m1 := sq_bd h.2.2.2.1 h.2.2.2.2
 unfold tickingref01_Far.f
 unfold farC at hf ⊢
 rw [Int.mul_comm p.f0, Int.mul_comm p.f1, w64 (x := c.D * p.f0) (by omega) (by omega), w64 (x := c.D * p.f1) (by omega) (by omega), w64 (x := c.D * p.f0 - c.X) (by omega) (by omega), w64 (x := c.D * p.f1 - c.Y) (by omega) (by omega)]
 rw [w64 (x := (c.D * p.f0 - c.X) * (c.D * p.f0 - c.X)) (by omega) (by omega), w64 (x := (c.D * p.f1 - c.Y) * (c.D * p.f1 - c.Y)) (by omega) (by omega), w64 (by omega) (by omega)]
end Go.Proofs.Ytplhfbkejngioaa.X
namespace Go.Proofs.Ytplhfbkejngioaa.X
open Go.RowKit Go.Proofs.YtplhfbkejngioaaW.PrintWords Go.Proofs.YtplhfbkejngioaaW.PrintLast Go.Proofs.Ytplhfbkejngioaa.S Go.Proofs.Ytplhfbkejngioaa.Geo
set_option linter.unusedVariables false
theorem dvd_gcd3 {g : Int} {c : Ci} (h1 : g ∣ c.X) (h2 : g ∣ c.Y) (h3 : g ∣ c.D) : g ∣ gcd3 c := by
 unfold gcd3
 rw [← Int.natAbs_dvd_natAbs] at *
 exact Nat.dvd_gcd (Nat.dvd_gcd h1 h2) h3
theorem one_of {c c' : Ci} (h : gcd3 c = 1) (hD : c'.D ≠ 0) (hd : ∀ g, g ∣ c'.X → g ∣ c'.Y → g ∣ c'.D → g ∣ c.X ∧ g ∣ c.Y ∧ g ∣ c.D) : gcd3 c' = 1 := by
 obtain ⟨X, Y, D, R⟩ := c'
 obtain ⟨h1, h2, h3⟩ := hd _ (gcd3_dX X Y D R) (gcd3_dY X Y D R) (gcd3_dD X Y D R)
 have h4 := dvd_gcd3 h1 h2 h3
 rw [h] at h4
 have h5 := gcd3_pos X Y D R hD
 exact Int.eq_one_of_dvd_one (Int.le_of_lt h5) h4
theorem Best.map {l : List S28} {c c' : Ci} (T : S28 → S28) (h : Best l c) (hD : c'.D = c.D) (hR : c'.R = c.R) (hf : ∀ p, farC c' (T p) = farC c p) (hg : gcd3 c' = 1)
  (hb : ∀ l1 l2 l3 p q r, BalC c l1 l2 l3 p q r → BalC c' l1 l2 l3 (T p) (T q) (T r)) : Best (l.map T) c' := by
 obtain ⟨p, q, r, hp, hq, hr, S⟩ := h.sup
 obtain ⟨l1, l2, l3, b⟩ := S.bal
 refine ⟨fun x hx => ?_, T p, T q, T r, List.mem_map_of_mem hp, List.mem_map_of_mem hq, List.mem_map_of_mem hr, ⟨?_, hg, ?_, ?_, ?_, l1, l2, l3, hb _ _ _ _ _ _ b⟩⟩
 ·obtain ⟨y, hy, rfl⟩ := List.mem_map.1 hx
  rw [hf, hR]; exact h.enc y hy
 ·rw [hD]; exact S.pos
 ·rw [hf, hR]; exact S.fp
 ·rw [hf, hR]; exact S.fq
 ·rw [hf, hR]; exact S.fr
theorem best_shift {l : List S28} {c : Ci} (h : Best l c) (x y : Int) : Best (l.map fun p => ⟨p.f0 + x, p.f1 + y⟩) ⟨c.X + x * c.D, c.Y + y * c.D, c.D, c.R⟩ := by
 have e0 : ∀ p : Int, c.D * (p + x) - (c.X + x * c.D) = c.D * p - c.X := fun p => by grind
 have e1 : ∀ p : Int, c.D * (p + y) - (c.Y + y * c.D) = c.D * p - c.Y := fun p => by grind
 refine h.map _ rfl rfl (fun p => ?_) (one_of h.one (by have := h.pos; simp only; omega) fun g h1 h2 h3 => ⟨?_, ?_, h3⟩) (fun l1 l2 l3 p q r b => ⟨b.n1, b.n2, b.n3, b.pos, ?_, ?_⟩)
 ·unfold farC; simp only [e0, e1]
 ·exact (Int.dvd_add_left (Int.dvd_mul_of_dvd_right h3)).1 h1
 ·exact (Int.dvd_add_left (Int.dvd_mul_of_dvd_right h3)).1 h2
 ·simp only [e0]; exact b.hx
 ·simp only [e1]; exact b.hy
theorem best_turn {l : List S28} {c : Ci} (h : Best l c) : Best (l.map fun p => ⟨-p.f1, p.f0⟩) ⟨-c.Y, c.X, c.D, c.R⟩ := by
 have e0 : ∀ p : Int, c.D * -p - -c.Y = -(c.D * p - c.Y) := fun p => by grind
 refine h.map _ rfl rfl (fun p => ?_) (one_of h.one (by have := h.pos; simp only; omega) fun g h1 h2 h3 => ⟨h2, ?_, h3⟩) (fun l1 l2 l3 p q r b => ⟨b.n1, b.n2, b.n3, b.pos, ?_, ?_⟩)
 ·unfold farC; simp only [e0]; grind
 ·exact Int.dvd_neg.1 h1
 ·have := b.hy
  simp only [e0]; simp only [Int.mul_neg]; omega
 ·exact b.hx
theorem best_mirror {l : List S28} {c : Ci} (h : Best l c) : Best (l.map fun p => ⟨-p.f0, p.f1⟩) ⟨-c.X, c.Y, c.D, c.R⟩ := by
 have e0 : ∀ p : Int, c.D * -p - -c.X = -(c.D * p - c.X) := fun p => by grind
 refine h.map _ rfl rfl (fun p => ?_) (one_of h.one (by have := h.pos; simp only; omega) fun g h1 h2 h3 => ⟨?_, h2, h3⟩) (fun l1 l2 l3 p q r b => ⟨b.n1, b.n2, b.n3, b.pos, ?_, ?_⟩)
 ·unfold farC; simp only [e0]; grind
 ·exact Int.dvd_neg.1 h1
 ·have := b.hx
  simp only [e0]; simp only [Int.mul_neg]; omega
 ·exact b.hy
theorem best_back {l : List S28} {c : Ci} (h : Best l c) : Best l.reverse c := by
 obtain ⟨p, q, r, hp, hq, hr, S⟩ := h.sup
 exact ⟨fun x hx => h.enc x (List.mem_reverse.1 hx), p, q, r, List.mem_reverse.2 hp, List.mem_reverse.2 hq, List.mem_reverse.2 hr, S⟩
theorem cand_ok {l : List S28} (hl : 0 < l.length) (hP : l.all isP = true) {x : Cand} (hx : x ∈ cands l) : okC x.c := by
 have hp : ∀ i : Nat, i < l.length → isP (pt l i) = true := fun i hi => by
  rw [List.all_eq_true] at hP
  refine hP _ ?_
  unfold pt
  rw [List.getD_eq_getElem?_getD, List.getElem?_eq_getElem hi]
  exact List.getElem_mem hi
 rcases cands_cases hx with rfl | ⟨i, j, hij, hj, rfl⟩ | ⟨i, j, k, hij, hjk, hk, hc, hin, rfl⟩
 ·have := isP_bd (hp 0 hl)
  unfold okC; simp only; omega
 ·exact bet_ok (hp i (by omega)) (hp j hj)
 ·exact thr_ok (hp i (by omega)) (hp j (by omega)) (hp k hk) hc
theorem bal_bd {l1 l2 l3 D X x1 x2 x3 : Int} (h1 : 0 ≤ l1) (h2 : 0 ≤ l2) (h3 : 0 ≤ l3) (hs : 0 < l1 + l2 + l3) (hD : 0 < D)
  (h : l1 * (D * x1 - X) + l2 * (D * x2 - X) + l3 * (D * x3 - X) = 0) (b1 : x1 ≤ 256) (b2 : x2 ≤ 256) (b3 : x3 ≤ 256) : X ≤ 256 * D := by
 refine Int.not_lt.1 fun hX => ?_
 have t : ∀ l x : Int, 0 ≤ l → x ≤ 256 → l * (D * x - X) ≤ -l := by
  intro l x hl hx
  have a : D * x ≤ D * 256 := Int.mul_le_mul_of_nonneg_left hx (by omega)
  have b : l * (D * x - X) ≤ l * (-1) := Int.mul_le_mul_of_nonneg_left (by omega) hl
  omega
 have := t l1 x1 h1 b1
 have := t l2 x2 h2 b2
 have := t l3 x3 h3 b3
 omega
theorem best_range {l : List S28} (hP : l.all isP = true) {c : Ci} (h : Best l c) (hD : c.D ≤ 1048576) : rangeC c = true := by
 obtain ⟨p, q, r, hp, hq, hr, S⟩ := h.sup
 obtain ⟨l1, l2, l3, b⟩ := S.bal
 rw [List.all_eq_true] at hP
 have bp := isP_bd (hP p hp)
 have bq := isP_bd (hP q hq)
 have br := isP_bd (hP r hr)
 have n1 := b.n1
 have n2 := b.n2
 have n3 := b.n3
 have D0 := S.pos
 have x1 := bal_bd n1 n2 n3 b.pos D0 b.hx (by omega) (by omega) (by omega)
 have y1 := bal_bd n1 n2 n3 b.pos D0 b.hy (by omega) (by omega) (by omega)
 have neg : ∀ x X : Int, c.D * -x - -X = -(c.D * x - X) := fun x X => by grind
 have x2 : -c.X ≤ 256 * c.D := bal_bd (x1 := -p.f0) (x2 := -q.f0) (x3 := -r.f0) n1 n2 n3 b.pos D0 (by have := b.hx; simp only [neg]; simp only [Int.mul_neg]; omega) (by omega) (by omega) (by omega)
 have y2 : -c.Y ≤ 256 * c.D := bal_bd (x1 := -p.f1) (x2 := -q.f1) (x3 := -r.f1) n1 n2 n3 b.pos D0 (by have := b.hy; simp only [neg]; simp only [Int.mul_neg]; omega) (by omega) (by omega) (by omega)
 have m0 := mul_bd (A := 1048576) (B := 256) (a := c.D) (b := p.f0) (by omega) (by omega) (by omega) (by omega)
 have m1 := mul_bd (A := 1048576) (B := 256) (a := c.D) (b := p.f1) (by omega) (by omega) (by omega) (by omega)
 have s0 := sq_bd (A := 536870912) (a := c.D * p.f0 - c.X) (by omega) (by omega)
 have s1 := sq_bd (A := 536870912) (a := c.D * p.f1 - c.Y) (by omega) (by omega)
 have fp := S.fp
 unfold farC at fp
 unfold rangeC
 simp only [Bool.and_eq_true, decide_eq_true_eq]
 omega
theorem best_valid {l : List S28} (hP : l.all isP = true) {c : Ci} (h : Best l c) (hD : c.D ≤ 1048576) : validC c = true := by
 unfold validC
 rw [best_range hP h hD, h.one]; rfl
theorem enclose_best {l : List S28} (h : arePs l = true) : ∃ x, cover_Enclose.f l = some (x.c.X, x.c.Y, x.c.D, x.c.R, x.s, 0) ∧ x ∈ cands l ∧ Best l x.c ∧ validC x.c = true ∧ okC x.c := by
 have ha := h
 unfold arePs at h
 simp only [Bool.and_eq_true, decide_eq_true_eq] at h
 obtain ⟨x, e, hm, he⟩ := enclose_some (l := l) (by omega)
 have ok := cand_ok (by omega) h.2 hm
 have hb := best_of (by omega) hm he
 refine ⟨x, ?_, hm, hb, best_valid h.2 hb ok.2.1, ok⟩
 unfold cover_Enclose.f
 rw [if_pos ha, e]
end Go.Proofs.Ytplhfbkejngioaa.X
namespace Go.Proofs.Ytplhfbkejngioaa.Pure
open Go.RowKit Go.Proofs.Ytplhfbkejngioaa.X Go.Proofs.Ytplhfbkejngioaa.Open Go.Proofs.YtplhfbkejngioaaW.PrintWords Go.Proofs.YtplhfbkejngioaaW.PrintLast Go.Proofs.Ytplhfbkejngioaa.S
set_option linter.unusedVariables false
set_option linter.unusedSimpArgs false
theorem u64_nonneg (a : Int) : 0 ≤ IntKind.u64.wrap a := by
 simp only [IntKind.wrap]
 exact Int.emod_nonneg _ (by decide)
theorem mod_bd (a : Int) : ∃ x, tickinglaw01_mod.f a 201 = some x ∧ 0 ≤ x ∧ x ≤ 200 := by
 unfold tickinglaw01_mod.f
 have e : IntKind.u64.wrap 201 = 201 := by decide +kernel
 have h0 := u64_nonneg a
 have h1 := Int.tmod_lt_of_pos (IntKind.u64.wrap a) (b := 201) (by decide)
 have h2 := Int.tmod_nonneg (a := IntKind.u64.wrap a) 201 h0
 rw [e, if_neg (by decide)]
 exact ⟨_, rfl, by rw [w64 (by omega) (by omega)]; exact h2, by rw [w64 (by omega) (by omega)]; omega⟩
theorem near_bd (a : Int) : ∃ x, tickinglaw01_near.f a 100 = some x ∧ -100 ≤ x ∧ x ≤ 100 := by
 unfold tickinglaw01_near.f
 have e1 : wrap64 (-100) = -100 := by decide +kernel
 have e2 : wrap64 ((wrap64 (2 * 100)) + 1) = 201 := by decide +kernel
 obtain ⟨x, hx, h0, h1⟩ := mod_bd a
 rw [e1, e2, hx]
 simp only [Option.bind_some]
 rw [w64 (x := x - 100) (by omega) (by omega)]
 by_cases c0 : a < -100
 ·rw [if_pos c0]; exact ⟨_, rfl, by omega, by omega⟩
 ·rw [if_neg c0]
  by_cases c1 : a > 100
  ·rw [if_pos c1]; exact ⟨_, rfl, by omega, by omega⟩
  ·rw [if_neg c1]; exact ⟨_, rfl, by omega, by omega⟩
def small (p : S28) : Prop := -100 ≤ p.f0 ∧ p.f0 ≤ 100 ∧ -100 ≤ p.f1 ∧ p.f1 ≤ 100
theorem tame_l0 (l : List S28) (hn : l.length ≤ 9223372036854775807) (many : Nat) (hm : 1 ≤ many ∧ many ≤ 32) :
  ∀ (d i : Nat), i + d = min l.length many → ∀ acc : List S28, acc.length = i → (∀ p ∈ acc, small p) →
   ∃ out : List S28, 1 ≤ out.length ∧ out.length ≤ many ∧ (∀ p ∈ out, small p) ∧ ∀ k, 2 * d + 2 ≤ k → tickinglaw01_tame.l0 k l (many : Int) 100 acc (i : Int) = some out
 | 0, i, h, acc, ha, hall => by
  have hz : small ⟨0, 0⟩ := by unfold small; simp only; omega
  have key : ∀ k, tickinglaw01_tame.l0 (k + 2) l (many : Int) 100 acc (i : Int) = (if (acc.length : Int) = 0 then (if acc.length < 8796093022208 then (some (acc ++ [(⟨0, 0⟩ : S28)])) else (none)) else (some acc)) := by
   intro k
   simp only [tickinglaw01_tame.l0, tickinglaw01_tame.j1]
   by_cases h0 : (i : Int) < (l.length : Int)
   ·rw [if_pos h0]
    have e : decide ((i : Int) < (many : Int)) = false := decide_eq_false (by omega)
    rw [e, if_neg (by decide)]
   ·rw [if_neg h0, if_neg (by decide)]
  by_cases h0 : acc.length = 0
  ·refine ⟨acc ++ [⟨0, 0⟩], by simp, by simp; omega, fun p hp => ?_, fun k hk => ?_⟩
   ·rcases List.mem_append.1 hp with hp | hp
    ·exact hall p hp
    ·rw [List.mem_singleton.1 hp]; exact hz
   ·obtain ⟨k, rfl⟩ : ∃ q, k = q + 2 := ⟨k - 2, by omega⟩
    rw [key, if_pos (by omega), if_pos (by omega)]
  ·refine ⟨acc, by omega, by omega, hall, fun k hk => ?_⟩
   obtain ⟨k, rfl⟩ : ∃ q, k = q + 2 := ⟨k - 2, by omega⟩
   rw [key, if_neg (by omega)]
 | d + 1, i, h, acc, ha, hall => by
  obtain ⟨x0, e0, b0, c0⟩ := near_bd (rd_T28 l i).f0
  obtain ⟨x1, e1, b1, c1⟩ := near_bd (rd_T28 l i).f1
  have hi : i < l.length := by omega
  have h0 : (i : Int) < (l.length : Int) := by omega
  have h1 : decide ((i : Int) < (many : Int)) = true := decide_eq_true (by omega)
  have h2 : (0 : Int) ≤ (i : Int) := by omega
  have h3 : acc.length < 8796093022208 := by omega
  obtain ⟨out, o1, o2, o3, o4⟩ := tame_l0 l hn many hm d (i + 1) (by omega) (acc ++ [⟨x0, x1⟩]) (by simp; omega) (fun p hp => by
   rcases List.mem_append.1 hp with hp | hp
   ·exact hall p hp
   ·rw [List.mem_singleton.1 hp]; unfold small; simp only; omega)
  refine ⟨out, o1, o2, o3, fun k hk => ?_⟩
  obtain ⟨k, rfl⟩ : ∃ q, k = q + 2 := ⟨k - 2, by omega⟩
  simp only [tickinglaw01_tame.l0, tickinglaw01_tame.j1]
  rw [if_pos h0, h1, if_pos rfl, if_pos h2, if_pos h0, e0, e1]
  simp only [Option.bind_some]
  rw [if_pos h3, next_i hi hn]
  exact o4 k (by omega)
theorem tame_ev (l : List S28) (hn : l.length ≤ 9223372036854775807) (many : Nat) (hm : 1 ≤ many ∧ many ≤ 32) :
  ∃ out : List S28, 1 ≤ out.length ∧ out.length ≤ many ∧ (∀ p ∈ out, small p) ∧ Ev (fun k => tickinglaw01_tame.f k l (many : Int) 100) out := by
 obtain ⟨out, h1, h2, h3, h4⟩ := tame_l0 l hn many hm (min l.length many) 0 (by omega) [] rfl (fun p hp => by cases hp)
 exact ⟨out, h1, h2, h3, _, fun k hk => by unfold tickinglaw01_tame.f; exact h4 k hk⟩
theorem moves_l0 (y : List S28) (hy : y.length ≤ 20) (hs : ∀ p ∈ y, small p) (a b : Int) (ha : -100 ≤ a ∧ a ≤ 100) (hb : -100 ≤ b ∧ b ≤ 100)
  (hfin : Ev (fun k => tickinglaw01_CoverMoves.l0 k y (y.map fun p => ⟨p.f0 + a, p.f1 + b⟩) (y.map fun p => ⟨-p.f1, p.f0⟩) (y.map fun p => ⟨-p.f0, p.f1⟩) y.reverse (y.length : Int) a b) true) :
  ∀ (d i : Nat), i + d = y.length → Ev (fun k => tickinglaw01_CoverMoves.l0 k y ((y.take i).map fun p => ⟨p.f0 + a, p.f1 + b⟩) ((y.take i).map fun p => ⟨-p.f1, p.f0⟩) ((y.take i).map fun p => ⟨-p.f0, p.f1⟩) (y.reverse.take i) (i : Int) a b) true
 | 0, i, h => by
  have e : i = y.length := by omega
  subst e
  rw [List.take_length]
  have e2 : y.reverse.take y.length = y.reverse := by rw [← List.length_reverse, List.take_length]
  rw [e2]
  exact hfin
 | d + 1, i, h => by
  have hi : i < y.length := by omega
  have ih := moves_l0 y hy hs a b ha hb hfin d (i + 1) (by omega)
  have hq := hs y[i] (List.getElem_mem hi)
  have hr : y.length - 1 - i < y.length := by omega
  have er : y.reverse[i]'(by rw [List.length_reverse]; exact hi) = y[y.length - 1 - i] := List.getElem_reverse ..
  unfold small at hq
  have g0 : (i : Int) < (y.length : Int) := by omega
  have g1 : (0 : Int) ≤ (i : Int) := by omega
  have w1 : wrap64 ((wrap64 ((y.length : Int) - 1)) - (i : Int)) = ((y.length - 1 - i : Nat) : Int) := by
   rw [w64 (x := (y.length : Int) - 1) (by omega) (by omega), w64 (by omega) (by omega)]; omega
  have g2 : (0 : Int) ≤ ((y.length - 1 - i : Nat) : Int) := by omega
  have g3 : ((y.length - 1 - i : Nat) : Int) < (y.length : Int) := by omega
  have L : ∀ (f : S28 → S28), ((y.take i).map f).length < 8796093022208 := fun f => by rw [List.length_map, List.length_take]; omega
  have L2 : (y.reverse.take i).length < 8796093022208 := by rw [List.length_take]; omega
  refine Ev.step (fun k => ?_) ih
  simp only [tickinglaw01_CoverMoves.l0]
  rw [w1, if_pos g0, if_pos g1, if_pos (L _), if_pos (L _), if_pos (L _), if_pos g2, if_pos g3, if_pos L2, rd28_get hi, rd28_get hr, next_i hi (by omega),
   w64 (x := y[i].f0 + a) (by omega) (by omega), w64 (x := y[i].f1 + b) (by omega) (by omega), w64 (x := -y[i].f1) (by omega) (by omega), w64 (x := -y[i].f0) (by omega) (by omega)]
  rw [List.take_succ_eq_append_getElem hi, List.map_append, List.map_append, List.map_append, List.take_succ_eq_append_getElem (l := y.reverse) (by rw [List.length_reverse]; exact hi), er]
  rfl
theorem are_of {l : List S28} (h1 : 1 ≤ l.length) (h2 : l.length ≤ 64) (h3 : ∀ p ∈ l, -256 ≤ p.f0 ∧ p.f0 ≤ 256 ∧ -256 ≤ p.f1 ∧ p.f1 ≤ 256) : arePs l = true := by
 unfold arePs
 simp only [Bool.and_eq_true, decide_eq_true_eq, List.all_eq_true]
 refine ⟨⟨h1, h2⟩, fun p hp => ?_⟩
 have := h3 p hp
 unfold isP inC
 simp only [Bool.and_eq_true, decide_eq_true_eq]
 omega
theorem CoverMoves (l0 : List S28) (hm0 : l0.length ≤ 9223372036854775807) (hI0 : ∀ x ∈ l0, I64 x.f0 ∧ I64 x.f1) (a1_0 a1_1 : Int) (h1_0 : I64 a1_0) (h1_1 : I64 a1_1) : ∃ k, tickinglaw01_CoverMoves.f k l0 a1_0 a1_1 = some true := by
 refine Ev.rounds ?_
 obtain ⟨y, y1, y2, ys, hE⟩ := tame_ev l0 hm0 20 (by decide)
 obtain ⟨z, z1, z2, zs, hZ⟩ := tame_ev [⟨a1_0, a1_1⟩] (by simp) 1 (by decide)
 unfold tickinglaw01_CoverMoves.f
 refine Ev.bind hE (Ev.bind hZ ?_)
 refine Ev.congr (fun k => if_pos (by omega)) ?_
 have hz0 : small (rd_T28 z 0) := by
  have e := rd28_get (l := z) (i := 0) (by omega)
  rw [show ((0 : Nat) : Int) = 0 from rfl] at e
  rw [e]
  exact zs _ (List.getElem_mem (by omega))
 generalize rd_T28 z 0 = q at hz0
 unfold small at hz0
 refine moves_l0 y (by omega) ys q.f0 q.f1 (by omega) (by omega) ?_ y.length 0 (by omega)
 have hys : ∀ p ∈ y, -100 ≤ p.f0 ∧ p.f0 ≤ 100 ∧ -100 ≤ p.f1 ∧ p.f1 ≤ 100 := ys
 have A0 : arePs y = true := are_of y1 (by omega) (fun p hp => by have := hys p hp; omega)
 have A1 : arePs (y.map fun p => ⟨p.f0 + q.f0, p.f1 + q.f1⟩) = true := are_of (by rw [List.length_map]; omega) (by rw [List.length_map]; omega) (fun p hp => by
  obtain ⟨u, hu, rfl⟩ := List.mem_map.1 hp
  have := hys u hu; simp only; omega)
 have A2 : arePs (y.map fun p => (⟨-p.f1, p.f0⟩ : S28)) = true := are_of (by rw [List.length_map]; omega) (by rw [List.length_map]; omega) (fun p hp => by
  obtain ⟨u, hu, rfl⟩ := List.mem_map.1 hp
  have := hys u hu; simp only; omega)
 have A3 : arePs (y.map fun p => (⟨-p.f0, p.f1⟩ : S28)) = true := are_of (by rw [List.length_map]; omega) (by rw [List.length_map]; omega) (fun p hp => by
  obtain ⟨u, hu, rfl⟩ := List.mem_map.1 hp
  have := hys u hu; simp only; omega)
 have A4 : arePs y.reverse = true := are_of (by rw [List.length_reverse]; omega) (by rw [List.length_reverse]; omega) (fun p hp => by have := hys p (List.mem_reverse.1 hp); omega)
 obtain ⟨x0, e0, _, b0, v0, ok0⟩ := enclose_best A0
 obtain ⟨x1, e1, _, b1, _, _⟩ := enclose_best A1
 obtain ⟨x2, e2, _, b2, _, _⟩ := enclose_best A2
 obtain ⟨x3, e3, _, b3, _, _⟩ := enclose_best A3
 obtain ⟨x4, e4, _, b4, _, _⟩ := enclose_best A4
 have c1 := best_unique b1 (best_shift b0 q.f0 q.f1)
 have c2 := best_unique b2 (best_turn b0)
 have c3 := best_unique b3 (best_mirror b0)
 have c4 := best_unique b4 (best_back b0)
 rw [c1] at e1
 rw [c2] at e2
 rw [c3] at e3
 rw [c4] at e4
 have hv := valid_ev x0.c
 rw [v0] at hv
 have rg := rangeC_bd (validC_range v0)
 have m0 := mul_bd (A := 100) (B := 1048576) (a := q.f0) (b := x0.c.D) (by omega) (by omega) (by omega) (by omega)
 have m1 := mul_bd (A := 100) (B := 1048576) (a := q.f1) (b := x0.c.D) (by omega) (by omega) (by omega) (by omega)
 refine Ev.step (f := fun k => (tickingref01_Valid.f k x0.c.X x0.c.Y x0.c.D x0.c.R).bind fun t430 => if t430 = true then (tickinglaw01_awake.f k).bind fun t431 => some t431 else some false) (fun k => ?_) (Ev.bind hv ?_)
 ·simp only [tickinglaw01_CoverMoves.l0]
  rw [if_neg (by omega), e0, e1, e2, e3, e4]
  simp only [Option.bind_some, if_true]
  rw [w64 (x := q.f0 * x0.c.D) (by omega) (by omega), w64 (x := q.f1 * x0.c.D) (by omega) (by omega), w64 (x := x0.c.X + q.f0 * x0.c.D) (by omega) (by omega), w64 (x := x0.c.Y + q.f1 * x0.c.D) (by omega) (by omega),
   w64 (x := -x0.c.X) (by omega) (by omega), w64 (x := -x0.c.Y) (by omega) (by omega)]
  simp only [beq_self_eq_true, Bool.and_self, if_true]
 ·simp only [if_true]
  exact Ev.bind awake_ev (Ev.now _)
end Go.Proofs.Ytplhfbkejngioaa.Pure
