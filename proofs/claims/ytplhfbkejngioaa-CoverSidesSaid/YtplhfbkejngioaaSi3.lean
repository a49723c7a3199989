/- The plain statement of CoverSides: the program's answer on a circle and a point is the reference's. Texts of this claim's session, put together: RefA, Ref1, PureCoverSides. -/
import Derived.Test.YtplhfbkejngioaaBa5
import Derived.Test.YtplhfbkejngioaaBa13
import Derived.Test.YtplhfbkejngioaaBa4
import Derived.Test.YtplhfbkejngioaaSi1
import Derived.Test.YtplhfbkejngioaaSi2
import Derived.Test.YtplhfbkejngioaaWWords
namespace Go.Proofs.Ytplhfbkejngioaa.X
open Go.RowKit Go.Proofs.YtplhfbkejngioaaW.PrintWords Go.Proofs.YtplhfbkejngioaaW.PrintLast Go.Proofs.Ytplhfbkejngioaa.S Go.Proofs.Ytplhfbkejngioaa.Open
set_option linter.unusedVariables false
theorem awake_ev : Ev tickinglaw01_awake.f true := Ev.of tickinglaw01_awake.mono (k := 1) (by decide +kernel)
theorem inside_f (a : Int) : tickingref01_Inside.f a = some (inC a) := by
  unfold tickingref01_Inside.f inC
  by_cases h : -256 ≤ a
  · rw [if_pos h]; simp [h]
  · rw [if_neg h]; simp [h]
theorem rect_f (r : S48) : tickingref01_Rect.f r.f0 r.f1 r.f2 r.f3 = some (isR r) := by
  unfold tickingref01_Rect.f isR
  rw [inside_f, inside_f, inside_f, inside_f]
  simp only [Option.bind_some]
  cases inC r.f0 <;> cases inC r.f1 <;> cases inC r.f2 <;> cases inC r.f3 <;> simp
  by_cases h : r.f0 < r.f2 <;> simp [h]
theorem rd48_get {l : List S48} {i : Nat} (h : i < l.length) : rd_T48 l (i : Int) = l[i] := by simp [rd_T48, h]
theorem rd28_get {l : List S28} {i : Nat} (h : i < l.length) : rd_T28 l (i : Int) = l[i] := by simp [rd_T28, h]
theorem next_i {i n : Nat} (h : i < n) (hn : n ≤ 9223372036854775807) : wrap64 ((i : Int) + 1) = ((i + 1 : Nat) : Int) := by rw [w64 (by omega) (by omega)]; omega
theorem rects_l0 (l : List S48) (m : Int) (hm : l.length ≤ 9223372036854775807) : ∀ (d i : Nat), i + d = l.length → ∀ k, d < k → tickingref01_Rects.l0 k l m (i : Int) = some ((l.drop i).all isR && decide ((l.length : Int) ≤ m))
  | 0, i, h, k, hk => by
    obtain ⟨k, rfl⟩ : ∃ q, k = q + 1 := ⟨k - 1, by omega⟩
    simp only [tickingref01_Rects.l0]
    rw [if_neg (by omega), List.drop_eq_nil_of_le (by omega)]
    simp
  | d + 1, i, h, k, hk => by
    obtain ⟨k, rfl⟩ : ∃ q, k = q + 1 := ⟨k - 1, by omega⟩
    have hi : i < l.length := by omega
    have ih := rects_l0 l m hm d (i + 1) (by omega) k (by omega)
    have e : l.drop i = l[i] :: l.drop (i + 1) := List.drop_eq_getElem_cons hi
    have g1 : (i : Int) < (l.length : Int) := by omega
    have g2 : (0 : Int) ≤ (i : Int) := by omega
    simp only [tickingref01_Rects.l0]
    rw [if_pos g1, if_pos g2, rd48_get hi, rect_f, Option.bind_some, next_i hi hm, ih, e, List.all_cons]
    cases isR l[i] <;> simp
theorem rects_ev (l : List S48) (m : Int) (hm : l.length ≤ 9223372036854775807) : Ev (fun k => tickingref01_Rects.f k l m) (l.all isR && decide ((l.length : Int) ≤ m)) :=
  ⟨l.length + 1, fun k hk => by unfold tickingref01_Rects.f; exact rects_l0 l m hm l.length 0 (by omega) k (by omega)⟩
theorem areRs_eq (l : List S48) (m : Int) : (l.all isR && decide ((l.length : Int) ≤ m)) = areRs l m := by unfold areRs; exact Bool.and_comm _ _
end Go.Proofs.Ytplhfbkejngioaa.X
namespace Go.Proofs.Ytplhfbkejngioaa.X
open Go.RowKit Go.Proofs.YtplhfbkejngioaaW.PrintWords Go.Proofs.YtplhfbkejngioaaW.PrintLast Go.Proofs.Ytplhfbkejngioaa.S Go.Proofs.Ytplhfbkejngioaa.Open
set_option linter.unusedVariables false
theorem point_f (a b : Int) : tickingref01_Point.f a b = some (isP ⟨a, b⟩) := by
  unfold tickingref01_Point.f isP
  rw [inside_f, inside_f]
  simp only [Option.bind_some]
  cases inC a <;> simp
def rangeC (c : Ci) : Bool := decide (1 ≤ c.D) && decide (c.D ≤ 1048576) && (decide (-536870912 ≤ c.X) && decide (c.X ≤ 536870912)) && (decide (-536870912 ≤ c.Y) && decide (c.Y ≤ 536870912)) && (decide (0 ≤ c.R) && decide (c.R ≤ 1152921504606846976))
def validC (c : Ci) : Bool := rangeC c && (gcd3 c == 1)
theorem rangeC_bd {c : Ci} (h : rangeC c = true) : 1 ≤ c.D ∧ c.D ≤ 1048576 ∧ -536870912 ≤ c.X ∧ c.X ≤ 536870912 ∧ -536870912 ≤ c.Y ∧ c.Y ≤ 536870912 ∧ 0 ≤ c.R ∧ c.R ≤ 1152921504606846976 := by
  simp only [rangeC, Bool.and_eq_true, decide_eq_true_eq] at h; omega
theorem rangeC_ok {c : Ci} (h : rangeC c = true) : okC c := by
  have := rangeC_bd h; unfold okC; omega
theorem validC_range {c : Ci} (h : validC c = true) : rangeC c = true := by
  unfold validC at h; simp only [Bool.and_eq_true] at h; exact h.1
theorem gcd_cast (a b : Nat) : (((Nat.gcd a b : Nat) : Int)).natAbs = Nat.gcd a b := rfl
theorem isCircle_ev (c : Ci) : Ev (fun k => cover_isCircle.f k c.X c.Y c.D c.R) (validC c) := by
  by_cases h : rangeC c = true
  · have b := rangeC_bd h
    have hgl : Nat.gcd c.X.natAbs c.Y.natAbs ≤ 536870912 := by
      rcases Nat.eq_zero_or_pos c.X.natAbs with h | h
      · rw [h, Nat.gcd_zero_left]; omega
      · have := Nat.gcd_le_left c.Y.natAbs h; omega
    have e1 := gcd_ev c.X c.Y (by omega) (by omega)
    have e2 := gcd_ev ((Nat.gcd c.X.natAbs c.Y.natAbs : Nat) : Int) c.D (by omega) (by omega)
    refine Ev.congr (f := fun k => (cover_gcd.f k c.X c.Y).bind fun t472 => ((cover_gcd.f k t472 c.D).bind fun t473 => (some (t473 == 1)))) (fun k => ?_) (Ev.bind e1 (Ev.bind e2 ?_))
    · unfold cover_isCircle.f
      rw [within_f, within_f, within_f, within_f]
      simp only [rangeC, Bool.and_eq_true] at h
      obtain ⟨⟨⟨⟨h1, h2⟩, h3⟩, h4⟩, h5⟩ := h
      simp [h1, h2, h3.1, h3.2, h4.1, h4.2, h5.1, h5.2]
    · have : validC c = (((Nat.gcd (((Nat.gcd c.X.natAbs c.Y.natAbs : Nat) : Int)).natAbs c.D.natAbs : Nat) : Int) == 1) := by
        unfold validC; rw [h, Bool.true_and]; rfl
      rw [this]; exact Ev.now _
  · have hv : validC c = false := by unfold validC; rw [Bool.eq_false_iff.2 h]; rfl
    rw [hv]
    refine ⟨0, fun k _ => ?_⟩
    unfold cover_isCircle.f
    rw [within_f, within_f, within_f, within_f]
    have h' : rangeC c = false := Bool.eq_false_iff.2 h
    unfold rangeC at h'
    by_cases h1 : (decide (1 ≤ c.D) && decide (c.D ≤ 1048576)) = true
    · rw [h1] at h' ⊢
      by_cases h2 : (decide (-536870912 ≤ c.X) && decide (c.X ≤ 536870912)) = true
      · rw [h2] at h' ⊢
        by_cases h3 : (decide (-536870912 ≤ c.Y) && decide (c.Y ≤ 536870912)) = true
        · rw [h3] at h' ⊢
          simp only [Bool.and_self, Bool.true_and] at h'
          rw [h']; rfl
        · rw [Bool.eq_false_iff.2 h3]; rfl
      · rw [Bool.eq_false_iff.2 h2]; rfl
    · rw [Bool.eq_false_iff.2 h1]; rfl
theorem rgcd_l0 : ∀ (n : Nat) (a b : Nat), b ≤ n → Ev (fun k => tickingref01_gcd.l0 k (a : Int) (b : Int)) ((Nat.gcd a b : Nat) : Int) := by
  intro n
  induction n with
  | zero =>
    intro a b hn
    obtain rfl : b = 0 := by omega
    refine Ev.step (f := fun _ => some _) (fun k => ?_) (Ev.now _)
    simp only [tickingref01_gcd.l0]
    rw [if_neg (by simp), Nat.gcd_zero_right]
  | succ n ih =>
    intro a b hn
    by_cases h0 : b = 0
    · subst h0; exact ih a 0 (Nat.zero_le _)
    · have ht : Int.tmod (a : Int) (b : Int) = ((a % b : Nat) : Int) := by
        rw [Int.tmod_eq_emod_of_nonneg (by omega)]; exact (Int.natCast_emod _ _).symm
      have hlt : a % b < b := Nat.mod_lt _ (by omega)
      have := ih b (a % b) (by omega)
      refine Ev.step (f := fun k => tickingref01_gcd.l0 k (b : Int) ((a % b : Nat) : Int)) (fun k => ?_) ?_
      · simp only [tickingref01_gcd.l0]; rw [if_pos (by omega), if_neg (by omega), ht]
      · have e : Nat.gcd a b = Nat.gcd b (a % b) := by
          rw [Nat.gcd_comm, Nat.gcd_rec, Nat.gcd_comm]
        rw [e]; exact this
theorem rgcd_ev (a b : Nat) : Ev (fun k => tickingref01_gcd.f k (a : Int) (b : Int)) ((Nat.gcd a b : Nat) : Int) := rgcd_l0 b a b (Nat.le_refl _)
theorem abs_f {a : Int} (h : -9223372036854775808 < a ∧ a ≤ 9223372036854775807) : tickingref01_absolute.f a = some ((a.natAbs : Nat) : Int) := by
  unfold tickingref01_absolute.f
  rw [w64 (by omega) (by omega)]
  unfold mx
  congr 1
  split <;> omega
theorem valid_ev (c : Ci) : Ev (fun k => tickingref01_Valid.f k c.X c.Y c.D c.R) (validC c) := by
  by_cases h : rangeC c = true
  · have b := rangeC_bd h
    refine Ev.congr (f := fun k => tickingref01_Valid.j0 k false c.X c.Y c.D c.R) (fun k => ?_) (Ev.step (fun k => rfl) ?_)
    · unfold tickingref01_Valid.f
      rw [if_neg (by omega), if_neg (by omega), if_neg (by omega), if_neg (by omega), if_neg (by omega), if_neg (by omega), if_neg (by omega)]
      have : decide (c.R > 1152921504606846976) = false := by simp; omega
      rw [this]
    · have hD : (c.D.natAbs : Int) = c.D := by omega
      have e1 := rgcd_ev c.X.natAbs c.Y.natAbs
      have e2 := rgcd_ev (Nat.gcd c.X.natAbs c.Y.natAbs) c.D.natAbs
      rw [hD] at e2
      refine Ev.congr (f := fun k => (tickingref01_gcd.f k (c.X.natAbs : Int) (c.Y.natAbs : Int)).bind fun t357 => ((tickingref01_gcd.f k t357 c.D).bind fun t358 => (some (t358 == 1)))) (fun k => ?_) (Ev.bind e1 (Ev.bind e2 ?_))
      · have a1 := abs_f (a := c.X) (by omega)
        have a2 := abs_f (a := c.Y) (by omega)
        simp only [tickingref01_Valid.j0]
        rw [if_neg Bool.false_ne_true, a1, a2]
        rfl
      · have : validC c = (((Nat.gcd (Nat.gcd c.X.natAbs c.Y.natAbs) c.D.natAbs : Nat) : Int) == 1) := by
          unfold validC; rw [h, Bool.true_and]; rfl
        rw [this]; exact Ev.now _
  · have hv : validC c = false := by unfold validC; rw [Bool.eq_false_iff.2 h]; rfl
    rw [hv]
    have key : ∀ k, tickingref01_Valid.f k c.X c.Y c.D c.R = tickingref01_Valid.j0 k true c.X c.Y c.D c.R := by
      intro k
      unfold tickingref01_Valid.f
      by_cases h1 : c.D < 1
      · rw [if_pos h1]
      rw [if_neg h1]
      by_cases h2 : c.D > 1048576
      · rw [if_pos h2]
      rw [if_neg h2]
      by_cases h3 : c.X < -536870912
      · rw [if_pos h3]
      rw [if_neg h3]
      by_cases h4 : c.X > 536870912
      · rw [if_pos h4]
      rw [if_neg h4]
      by_cases h5 : c.Y < -536870912
      · rw [if_pos h5]
      rw [if_neg h5]
      by_cases h6 : c.Y > 536870912
      · rw [if_pos h6]
      rw [if_neg h6]
      by_cases h7 : c.R < 0
      · rw [if_pos h7]
      rw [if_neg h7]
      have : decide (c.R > 1152921504606846976) = true := by
        by_cases h8 : c.R > 1152921504606846976
        · simp [h8]
        · exact absurd (show rangeC c = true by simp only [rangeC, Bool.and_eq_true, decide_eq_true_eq]; omega) h
      rw [this]
    refine Ev.congr key (Ev.step (f := fun _ => some false) (fun k => ?_) (Ev.now _))
    simp only [tickingref01_Valid.j0, if_true]
theorem far_f {c : Ci} (hc : okC c) {p : S28} (hp : isP p = true) : tickingref01_Far.f c.X c.Y c.D c.R p.f0 p.f1 = some (farC c p) := by
  have h := vec_bd hc hp
  have hf := far_bd hc hp
  have m0 := sq_bd h.2.2.1.1 h.2.2.1.2
  have m1 := sq_bd h.2.2.2.1 h.2.2.2.2
  unfold tickingref01_Far.f
  unfold farC at hf ⊢
  rw [Int.mul_comm p.f0, Int.mul_comm p.f1, w64 (x := c.D * p.f0) (by omega) (by omega), w64 (x := c.D * p.f1) (by omega) (by omega), w64 (x := c.D * p.f0 - c.X) (by omega) (by omega), w64 (x := c.D * p.f1 - c.Y) (by omega) (by omega)]
  rw [w64 (x := (c.D * p.f0 - c.X) * (c.D * p.f0 - c.X)) (by omega) (by omega), w64 (x := (c.D * p.f1 - c.Y) * (c.D * p.f1 - c.Y)) (by omega) (by omega), w64 (by omega) (by omega)]
end Go.Proofs.Ytplhfbkejngioaa.X
namespace Go.Proofs.Ytplhfbkejngioaa.Pure
open Go.RowKit Go.Proofs.Ytplhfbkejngioaa.X Go.Proofs.Ytplhfbkejngioaa.Open Go.Proofs.YtplhfbkejngioaaW.PrintWords Go.Proofs.YtplhfbkejngioaaW.PrintLast Go.Proofs.Ytplhfbkejngioaa.S
set_option linter.unusedVariables false
theorem side_ev (c : Ci) (p : S28) : Ev (fun k => cover_Side.f k c.X c.Y c.D c.R p.f0 p.f1) (if validC c && isP p then (if farC c p < c.R then -1 else if c.R < farC c p then 1 else 0, 0) else (0, 2)) := by
  unfold cover_Side.f
  refine Ev.bind (isCircle_ev c) ?_
  cases hv : validC c with
  | false => exact Ev.congr (fun k => by simp only [Bool.false_and]; rfl) (Ev.now _)
  | true =>
    refine Ev.congr (f := fun _ => some _) (fun k => ?_) (Ev.now _)
    rw [if_pos rfl, isPoint_f]
    simp only [Option.bind_some, Bool.true_and]
    cases hp : isP p with
    | false => rfl
    | true => rw [if_pos rfl, if_pos rfl, side_f (rangeC_ok (validC_range hv)) hp]; rfl
theorem CoverSides (a0_0 a0_1 a0_2 a0_3 : Int) (h0_0 : I64 a0_0) (h0_1 : I64 a0_1) (h0_2 : I64 a0_2) (h0_3 : I64 a0_3) (a1_0 a1_1 : Int) (h1_0 : I64 a1_0) (h1_1 : I64 a1_1) : ∃ k, tickinglaw01_CoverSides.f k a0_0 a0_1 a0_2 a0_3 a1_0 a1_1 = some true := by
  refine Ev.rounds ?_
  unfold tickinglaw01_CoverSides.f
  refine Ev.bind (side_ev ⟨a0_0, a0_1, a0_2, a0_3⟩ ⟨a1_0, a1_1⟩) (Ev.bind (valid_ev ⟨a0_0, a0_1, a0_2, a0_3⟩) ?_)
  cases hv : validC ⟨a0_0, a0_1, a0_2, a0_3⟩ with
  | false =>
    refine Ev.step (f := fun k => (tickinglaw01_awake.f k).bind fun t490 => some t490) (fun k => ?_) (Ev.bind awake_ev (Ev.now _))
    rw [if_neg Bool.false_ne_true]
    simp only [tickinglaw01_CoverSides.j0, Bool.false_and, Bool.false_eq_true, if_true, if_false]
  | true =>
    cases hp : isP ⟨a1_0, a1_1⟩ with
    | false =>
      refine Ev.step (f := fun k => (tickinglaw01_awake.f k).bind fun t490 => some t490) (fun k => ?_) (Ev.bind awake_ev (Ev.now _))
      rw [if_pos rfl, point_f, hp]
      simp only [Option.bind_some, tickinglaw01_CoverSides.j0, Bool.and_false, Bool.not_false, Bool.false_eq_true, if_true, if_false]
    | true =>
      have hf := far_f (c := ⟨a0_0, a0_1, a0_2, a0_3⟩) (rangeC_ok (validC_range hv)) hp
      simp only at hf
      generalize farC ⟨a0_0, a0_1, a0_2, a0_3⟩ ⟨a1_0, a1_1⟩ = n at *
      refine Ev.step (f := fun k => if n < a0_3 then tickinglaw01_CoverSides.j1 k (if n < a0_3 then -1 else if a0_3 < n then 1 else 0) 0 (-1) a0_0 a0_1 a0_2 a0_3 a1_0 a1_1 else tickinglaw01_CoverSides.j1 k (if n < a0_3 then -1 else if a0_3 < n then 1 else 0) 0 0 a0_0 a0_1 a0_2 a0_3 a1_0 a1_1) (fun k => ?_) ?_
      · rw [if_pos rfl, point_f, hp]
        simp only [Option.bind_some, tickinglaw01_CoverSides.j0, Bool.and_true, Bool.not_true, Bool.false_eq_true, if_true, if_false]
        rw [hf]
        rfl
      · by_cases h1 : n < a0_3
        · refine Ev.step (f := fun k => (tickinglaw01_awake.f k).bind fun t490 => some t490) (fun k => ?_) (Ev.bind awake_ev (Ev.now _))
          rw [if_pos h1, if_pos h1]
          simp only [tickinglaw01_CoverSides.j1]
          rw [hf, Option.bind_some, if_neg (by omega)]
          simp
        · by_cases h2 : a0_3 < n
          · refine Ev.step (f := fun k => (tickinglaw01_awake.f k).bind fun t490 => some t490) (fun k => ?_) (Ev.bind awake_ev (Ev.now _))
            rw [if_neg h1, if_neg h1, if_pos h2]
            simp only [tickinglaw01_CoverSides.j1]
            rw [hf, Option.bind_some, if_pos (by omega)]
            simp
          · refine Ev.step (f := fun k => (tickinglaw01_awake.f k).bind fun t490 => some t490) (fun k => ?_) (Ev.bind awake_ev (Ev.now _))
            rw [if_neg h1, if_neg h1, if_neg h2]
            simp only [tickinglaw01_CoverSides.j1]
            rw [hf, Option.bind_some, if_neg (by omega)]
            simp
end Go.Proofs.Ytplhfbkejngioaa.Pure
