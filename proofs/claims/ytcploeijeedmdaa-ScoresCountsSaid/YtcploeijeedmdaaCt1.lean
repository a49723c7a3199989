/- The walk of ScoresCounts: true for every input. Texts of this claim's session, put together: ECounts. -/
import Derived.Test.YtcploeijeedmdaaBa5
import Derived.Test.YtcploeijeedmdaaCt0
import Derived.Test.YtcploeijeedmdaaBa8
import Derived.Test.YtcploeijeedmdaaVWords
namespace Go.Proofs.Ytcploeijeedmdaa.X
open Go.RowKit Go.Shelf Go.Proofs.YtcploeijeedmdaaW.PrintWords Go.Proofs.YtcploeijeedmdaaW.PrintLast Go.Proofs.Ytcploeijeedmdaa.S
set_option linter.unusedVariables false
set_option linter.unusedSimpArgs false
theorem shapes_out {n : Int} (h : ¬ (2 ≤ n ∧ n ≤ 20)) : scores_Shapes.f 0 n = some (0, 2) := by
 have h1 : inR n 2 20 = false := by
  cases hb : inR n 2 20 with
  | false => rfl
  | true => exact absurd (inR_iff.1 hb) h
 unfold scores_Shapes.f
 rw [within_f, h1]
 rfl
theorem trees_calls (A : Option Addr) (c : Nat) (l : List Int) (hc : l.length ≤ c) (kk ee : Int) (h : (¬ treesOk l ∧ kk = 0 ∧ ee = 2) ∨ (treesOk l ∧ kk = ((treesN l : Nat) : Int) ∧ ee = 0)) (W : World) (hr : RowI W A l) :
  Calls Try.prog 28 #[.slice A l.length c] W fun e w' => e = .returned (.tuple #[.int .i64 kk, .int .i64 ee]) ∧ Drawn0 W w' := by
 refine (scores_Trees.calls A c l W hr hc).mono ?_
 rintro e w' ⟨h1 | h1, hd⟩
 ·rcases h with ⟨h2, rfl, rfl⟩ | ⟨h2, _⟩
  ·exact ⟨h1.2, hd⟩
  ·exact absurd h2 h1.1
 ·rcases h with ⟨h2, _⟩ | ⟨_, rfl, rfl⟩
  ·exact absurd h1.1 h2
  ·exact ⟨h1.2, hd⟩
def tickinglaw09_ScoresCounts.f (_k : Nat) (_l0 : List Int) (_a1 : Int) : Option Bool := some true
set_option maxHeartbeats 8000000 in
set_option maxRecDepth 100000 in
theorem counts_calls (A : Option Addr) (c : Nat) (l : List Int) (n : Int) (w : World) (hr : Kd.C (Kd.int .i64) w A l.length l) (hc : l.length ≤ c) :
  Calls Try.prog 5 #[.slice A l.length c, .int .i64 n] w fun e w' => e = .returned (.bool true) ∧ Below w.heap.size w w' := by
 have HLI := Aside0.mk (list_calls A c l w hr hc)
 clear hr hc
 generalize l.length = ll at HLI ⊢
 have hdl : (l.take 31).length ≤ 31 := by rw [List.length_take]; exact Nat.min_le_left _ _
 generalize l.take 31 = dl at HLI hdl
 obtain ⟨q, HQ⟩ : ∃ q, Aside0 (dl.length = q) := ⟨_, ⟨rfl⟩⟩
 obtain ⟨kn, hkn⟩ := numbers_f (l := dl) (by omega)
 have HNU := Aside0.mk (fun (A1 : Option Addr) (c1 : Nat) (h1 : q ≤ c1) (W : World) (h2 : RowI W A1 dl) => (show Calls Try.prog 30 #[.slice A1 q c1] W fun e w' => e = .returned (.bool (numsB dl)) ∧ Drawn0 W w' from by
  have h3 := tickingref09_Numbers.calls kn A1 c1 dl (numsB dl) W h2.1 (by rw [HQ.out]; exact h1) hkn
  rw [HQ.out] at h3
  exact h3))
 have HT0 := Aside0.mk (fun (kk ee : Int) (h : (¬ treesOk dl ∧ kk = 0 ∧ ee = 2) ∨ (treesOk dl ∧ kk = ((treesN dl : Nat) : Int) ∧ ee = 0)) (A1 : Option Addr) (c1 : Nat) (h1 : q ≤ c1) (W : World) (h2 : RowI W A1 dl) => (show Calls Try.prog 28 #[.slice A1 q c1] W fun e w' => e = .returned (.tuple #[.int .i64 kk, .int .i64 ee]) ∧ Drawn0 W w' from by
  have h3 := trees_calls A1 c1 dl (by rw [HQ.out]; exact h1) kk ee h W h2
  rw [HQ.out] at h3
  exact h3))
 rw [HQ.out] at hdl
 clear hkn
 by_cases hq1 : q < 2
 ·have HTR := Aside0.mk (HT0.out 0 2 (.inl ⟨fun h => by have := h.2.1; rw [HQ.out] at this; omega, rfl, rfl⟩)); clear HT0
  have q1 : ((q : Int) < 2) = True := eq_true (by omega); have q2 : decide ((q : Int) < 2) = true := decide_eq_true (by omega); have q3 : (q < 2) = True := eq_true hq1
  clear hq1 hdl
  by_cases hn1 : n < 2
  ·have HSH := Aside0.mk (fun W => scores_Shapes.calls 0 n 0 2 W (shapes_out (by omega)))
   have n1 : (n < 2) = True := eq_true hn1; have n2 : decide (n < 2) = true := decide_eq_true hn1
   clear hn1
   go_enter Try.func5, Try.ntmps5
   go_wp2_with (first
    | (
      go_at_call 27; (with_reducible refine HLI.out.mono ?_); rintro e w1 ⟨v, rfl, ho, hb⟩
      obtain ⟨A1, c1, rfl, hc1, hr1⟩ := ho.row
      rw [HQ.out] at hc1 ⊢
      have HB1 := Aside0.mk hb; have HR1 := Aside0.mk hr1; have HC1 := Aside0.mk hc1; clear ho hb hr1 hc1)
    | (
      go_at_call 28; (with_reducible refine (HTR.out _ _ HC1.out _ HR1.out).mono ?_); rintro e w2 ⟨rfl, hd⟩
      have HB2 := Aside0.mk (below_then HB1.out HB1.out.size hd.below); have HR2 := Aside0.mk (HR1.out.drawn hd); clear hd)
    | (
      go_at_call 29; (with_reducible refine (HSH.out _).mono ?_); rintro e w3 ⟨rfl, hb⟩
      have HB3 := Aside0.mk (below_then HB2.out HB2.out.size hb); have HR3 := Aside0.mk (HR2.out.below hb); clear hb)
    | (
      go_at_call 19; (with_reducible refine (awake_calls _).mono ?_); rintro e w7 ⟨rfl, hb⟩
      have HB7 := Aside0.mk (below_then HB3.out HB3.out.size hb); clear hb))
   go_ret
   exact ⟨rfl, HB7.out⟩
  ·have n1 : (n < 2) = False := eq_false hn1; have n2 : decide (n < 2) = false := decide_eq_false hn1
   by_cases hn2 : n > 20
   ·have HSH := Aside0.mk (fun W => scores_Shapes.calls 0 n 0 2 W (shapes_out (by omega)))
    have n3 : (20 < n) = True := eq_true hn2; have n4 : decide (20 < n) = true := decide_eq_true hn2
    clear hn1 hn2
    go_enter Try.func5, Try.ntmps5
    go_wp2_with (first
     | (
       go_at_call 27; (with_reducible refine HLI.out.mono ?_); rintro e w1 ⟨v, rfl, ho, hb⟩
       obtain ⟨A1, c1, rfl, hc1, hr1⟩ := ho.row
       rw [HQ.out] at hc1 ⊢
       have HB1 := Aside0.mk hb; have HR1 := Aside0.mk hr1; have HC1 := Aside0.mk hc1; clear ho hb hr1 hc1)
     | (
       go_at_call 28; (with_reducible refine (HTR.out _ _ HC1.out _ HR1.out).mono ?_); rintro e w2 ⟨rfl, hd⟩
       have HB2 := Aside0.mk (below_then HB1.out HB1.out.size hd.below); have HR2 := Aside0.mk (HR1.out.drawn hd); clear hd)
     | (
       go_at_call 29; (with_reducible refine (HSH.out _).mono ?_); rintro e w3 ⟨rfl, hb⟩
       have HB3 := Aside0.mk (below_then HB2.out HB2.out.size hb); have HR3 := Aside0.mk (HR2.out.below hb); clear hb)
     | (
       go_at_call 19; (with_reducible refine (awake_calls _).mono ?_); rintro e w7 ⟨rfl, hb⟩
       have HB7 := Aside0.mk (below_then HB3.out HB3.out.size hb); clear hb))
    go_ret
    exact ⟨rfl, HB7.out⟩
   ·have n3 : (20 < n) = False := eq_false hn2; have n4 : decide (20 < n) = false := decide_eq_false hn2
    obtain ⟨r, hr1, hr2⟩ := shapes_eq (n := n) (by omega)
    have HSH := Aside0.mk (fun W => scores_Shapes.calls 6000 n r 0 W hr1)
    have HRS := Aside0.mk (fun W => tickingref09_Shapes.calls 6000 n r W hr2)
    clear hn1 hn2 hr1 hr2
    go_enter Try.func5, Try.ntmps5
    go_wp2_with (first
     | (
       go_at_call 27; (with_reducible refine HLI.out.mono ?_); rintro e w1 ⟨v, rfl, ho, hb⟩
       obtain ⟨A1, c1, rfl, hc1, hr1⟩ := ho.row
       rw [HQ.out] at hc1 ⊢
       have HB1 := Aside0.mk hb; have HR1 := Aside0.mk hr1; have HC1 := Aside0.mk hc1; clear ho hb hr1 hc1)
     | (
       go_at_call 28; (with_reducible refine (HTR.out _ _ HC1.out _ HR1.out).mono ?_); rintro e w2 ⟨rfl, hd⟩
       have HB2 := Aside0.mk (below_then HB1.out HB1.out.size hd.below); have HR2 := Aside0.mk (HR1.out.drawn hd); clear hd)
     | (
       go_at_call 29; (with_reducible refine (HSH.out _).mono ?_); rintro e w3 ⟨rfl, hb⟩
       have HB3 := Aside0.mk (below_then HB2.out HB2.out.size hb); have HR3 := Aside0.mk (HR2.out.below hb); clear hb)
     | (
       go_at_call 32; (with_reducible refine (HRS.out _).mono ?_); rintro e w6 ⟨rfl, hb⟩
       have HB6 := Aside0.mk (below_then HB3.out HB3.out.size hb); clear hb)
     | (
       go_at_call 19; (with_reducible refine (awake_calls _).mono ?_); rintro e w7 ⟨rfl, hb⟩
       have HB7 := Aside0.mk (below_then HB6.out HB6.out.size hb); clear hb))
    go_ret
    exact ⟨rfl, HB7.out⟩
 ·have q1 : ((q : Int) < 2) = False := eq_false (by omega); have q2 : decide ((q : Int) < 2) = false := decide_eq_false (by omega); have q3 : (q < 2) = False := eq_false hq1
  by_cases hq2 : 20 < q
  ·have HTR := Aside0.mk (HT0.out 0 2 (.inl ⟨fun h => by have := h.2.2; rw [HQ.out] at this; omega, rfl, rfl⟩)); clear HT0
   have q4 : ((20 : Int) < (q : Int)) = True := eq_true (by omega); have q5 : decide ((20 : Int) < (q : Int)) = true := decide_eq_true (by omega); have q6 : (20 < q) = True := eq_true hq2
   clear hq1 hq2 hdl
   by_cases hn1 : n < 2
   ·have HSH := Aside0.mk (fun W => scores_Shapes.calls 0 n 0 2 W (shapes_out (by omega)))
    have n1 : (n < 2) = True := eq_true hn1; have n2 : decide (n < 2) = true := decide_eq_true hn1
    clear hn1
    go_enter Try.func5, Try.ntmps5
    go_wp2_with (first
     | (
       go_at_call 27; (with_reducible refine HLI.out.mono ?_); rintro e w1 ⟨v, rfl, ho, hb⟩
       obtain ⟨A1, c1, rfl, hc1, hr1⟩ := ho.row
       rw [HQ.out] at hc1 ⊢
       have HB1 := Aside0.mk hb; have HR1 := Aside0.mk hr1; have HC1 := Aside0.mk hc1; clear ho hb hr1 hc1)
     | (
       go_at_call 28; (with_reducible refine (HTR.out _ _ HC1.out _ HR1.out).mono ?_); rintro e w2 ⟨rfl, hd⟩
       have HB2 := Aside0.mk (below_then HB1.out HB1.out.size hd.below); have HR2 := Aside0.mk (HR1.out.drawn hd); clear hd)
     | (
       go_at_call 29; (with_reducible refine (HSH.out _).mono ?_); rintro e w3 ⟨rfl, hb⟩
       have HB3 := Aside0.mk (below_then HB2.out HB2.out.size hb); have HR3 := Aside0.mk (HR2.out.below hb); clear hb)
     | (
       go_at_call 19; (with_reducible refine (awake_calls _).mono ?_); rintro e w7 ⟨rfl, hb⟩
       have HB7 := Aside0.mk (below_then HB3.out HB3.out.size hb); clear hb))
    go_ret
    exact ⟨rfl, HB7.out⟩
   ·have n1 : (n < 2) = False := eq_false hn1; have n2 : decide (n < 2) = false := decide_eq_false hn1
    by_cases hn2 : n > 20
    ·have HSH := Aside0.mk (fun W => scores_Shapes.calls 0 n 0 2 W (shapes_out (by omega)))
     have n3 : (20 < n) = True := eq_true hn2; have n4 : decide (20 < n) = true := decide_eq_true hn2
     clear hn1 hn2
     go_enter Try.func5, Try.ntmps5
     go_wp2_with (first
      | (
        go_at_call 27; (with_reducible refine HLI.out.mono ?_); rintro e w1 ⟨v, rfl, ho, hb⟩
        obtain ⟨A1, c1, rfl, hc1, hr1⟩ := ho.row
        rw [HQ.out] at hc1 ⊢
        have HB1 := Aside0.mk hb; have HR1 := Aside0.mk hr1; have HC1 := Aside0.mk hc1; clear ho hb hr1 hc1)
      | (
        go_at_call 28; (with_reducible refine (HTR.out _ _ HC1.out _ HR1.out).mono ?_); rintro e w2 ⟨rfl, hd⟩
        have HB2 := Aside0.mk (below_then HB1.out HB1.out.size hd.below); have HR2 := Aside0.mk (HR1.out.drawn hd); clear hd)
      | (
        go_at_call 29; (with_reducible refine (HSH.out _).mono ?_); rintro e w3 ⟨rfl, hb⟩
        have HB3 := Aside0.mk (below_then HB2.out HB2.out.size hb); have HR3 := Aside0.mk (HR2.out.below hb); clear hb)
      | (
        go_at_call 19; (with_reducible refine (awake_calls _).mono ?_); rintro e w7 ⟨rfl, hb⟩
        have HB7 := Aside0.mk (below_then HB3.out HB3.out.size hb); clear hb))
     go_ret
     exact ⟨rfl, HB7.out⟩
    ·have n3 : (20 < n) = False := eq_false hn2; have n4 : decide (20 < n) = false := decide_eq_false hn2
     obtain ⟨r, hr1, hr2⟩ := shapes_eq (n := n) (by omega)
     have HSH := Aside0.mk (fun W => scores_Shapes.calls 6000 n r 0 W hr1)
     have HRS := Aside0.mk (fun W => tickingref09_Shapes.calls 6000 n r W hr2)
     clear hn1 hn2 hr1 hr2
     go_enter Try.func5, Try.ntmps5
     go_wp2_with (first
      | (
        go_at_call 27; (with_reducible refine HLI.out.mono ?_); rintro e w1 ⟨v, rfl, ho, hb⟩
        obtain ⟨A1, c1, rfl, hc1, hr1⟩ := ho.row
        rw [HQ.out] at hc1 ⊢
        have HB1 := Aside0.mk hb; have HR1 := Aside0.mk hr1; have HC1 := Aside0.mk hc1; clear ho hb hr1 hc1)
      | (
        go_at_call 28; (with_reducible refine (HTR.out _ _ HC1.out _ HR1.out).mono ?_); rintro e w2 ⟨rfl, hd⟩
        have HB2 := Aside0.mk (below_then HB1.out HB1.out.size hd.below); have HR2 := Aside0.mk (HR1.out.drawn hd); clear hd)
      | (
        go_at_call 29; (with_reducible refine (HSH.out _).mono ?_); rintro e w3 ⟨rfl, hb⟩
        have HB3 := Aside0.mk (below_then HB2.out HB2.out.size hb); have HR3 := Aside0.mk (HR2.out.below hb); clear hb)
      | (
        go_at_call 32; (with_reducible refine (HRS.out _).mono ?_); rintro e w6 ⟨rfl, hb⟩
        have HB6 := Aside0.mk (below_then HB3.out HB3.out.size hb); clear hb)
      | (
        go_at_call 19; (with_reducible refine (awake_calls _).mono ?_); rintro e w7 ⟨rfl, hb⟩
        have HB7 := Aside0.mk (below_then HB6.out HB6.out.size hb); clear hb))
     go_ret
     exact ⟨rfl, HB7.out⟩
  ·have q4 : ((20 : Int) < (q : Int)) = False := eq_false (by omega); have q5 : decide ((20 : Int) < (q : Int)) = false := decide_eq_false (by omega); have q6 : (20 < q) = False := eq_false hq2
   cases hnb : numsB dl with
   | false =>
    have HTR := Aside0.mk (HT0.out 0 2 (.inl ⟨fun h => (by rw [h.1] at hnb; cases hnb), rfl, rfl⟩)); clear HT0
    rw [hnb] at HNU
    clear hnb hq1 hq2 hdl
    by_cases hn1 : n < 2
    ·have HSH := Aside0.mk (fun W => scores_Shapes.calls 0 n 0 2 W (shapes_out (by omega)))
     have n1 : (n < 2) = True := eq_true hn1; have n2 : decide (n < 2) = true := decide_eq_true hn1
     clear hn1
     go_enter Try.func5, Try.ntmps5
     go_wp2_with (first
      | (
        go_at_call 27; (with_reducible refine HLI.out.mono ?_); rintro e w1 ⟨v, rfl, ho, hb⟩
        obtain ⟨A1, c1, rfl, hc1, hr1⟩ := ho.row
        rw [HQ.out] at hc1 ⊢
        have HB1 := Aside0.mk hb; have HR1 := Aside0.mk hr1; have HC1 := Aside0.mk hc1; clear ho hb hr1 hc1)
      | (
        go_at_call 28; (with_reducible refine (HTR.out _ _ HC1.out _ HR1.out).mono ?_); rintro e w2 ⟨rfl, hd⟩
        have HB2 := Aside0.mk (below_then HB1.out HB1.out.size hd.below); have HR2 := Aside0.mk (HR1.out.drawn hd); clear hd)
      | (
        go_at_call 29; (with_reducible refine (HSH.out _).mono ?_); rintro e w3 ⟨rfl, hb⟩
        have HB3 := Aside0.mk (below_then HB2.out HB2.out.size hb); have HR3 := Aside0.mk (HR2.out.below hb); clear hb)
      | (
        go_at_call 30; (with_reducible refine (HNU.out _ _ HC1.out _ HR3.out).mono ?_); rintro e w4 ⟨rfl, hd⟩
        have HB4 := Aside0.mk (below_then HB3.out HB3.out.size hd.below); have HR4 := Aside0.mk (HR3.out.drawn hd); clear hd)
      | (
        go_at_call 19; (with_reducible refine (awake_calls _).mono ?_); rintro e w7 ⟨rfl, hb⟩
        have HB7 := Aside0.mk (below_then HB4.out HB4.out.size hb); clear hb))
     go_ret
     exact ⟨rfl, HB7.out⟩
    ·have n1 : (n < 2) = False := eq_false hn1; have n2 : decide (n < 2) = false := decide_eq_false hn1
     by_cases hn2 : n > 20
     ·have HSH := Aside0.mk (fun W => scores_Shapes.calls 0 n 0 2 W (shapes_out (by omega)))
      have n3 : (20 < n) = True := eq_true hn2; have n4 : decide (20 < n) = true := decide_eq_true hn2
      clear hn1 hn2
      go_enter Try.func5, Try.ntmps5
      go_wp2_with (first
       | (
         go_at_call 27; (with_reducible refine HLI.out.mono ?_); rintro e w1 ⟨v, rfl, ho, hb⟩
         obtain ⟨A1, c1, rfl, hc1, hr1⟩ := ho.row
         rw [HQ.out] at hc1 ⊢
         have HB1 := Aside0.mk hb; have HR1 := Aside0.mk hr1; have HC1 := Aside0.mk hc1; clear ho hb hr1 hc1)
       | (
         go_at_call 28; (with_reducible refine (HTR.out _ _ HC1.out _ HR1.out).mono ?_); rintro e w2 ⟨rfl, hd⟩
         have HB2 := Aside0.mk (below_then HB1.out HB1.out.size hd.below); have HR2 := Aside0.mk (HR1.out.drawn hd); clear hd)
       | (
         go_at_call 29; (with_reducible refine (HSH.out _).mono ?_); rintro e w3 ⟨rfl, hb⟩
         have HB3 := Aside0.mk (below_then HB2.out HB2.out.size hb); have HR3 := Aside0.mk (HR2.out.below hb); clear hb)
       | (
         go_at_call 30; (with_reducible refine (HNU.out _ _ HC1.out _ HR3.out).mono ?_); rintro e w4 ⟨rfl, hd⟩
         have HB4 := Aside0.mk (below_then HB3.out HB3.out.size hd.below); have HR4 := Aside0.mk (HR3.out.drawn hd); clear hd)
       | (
         go_at_call 19; (with_reducible refine (awake_calls _).mono ?_); rintro e w7 ⟨rfl, hb⟩
         have HB7 := Aside0.mk (below_then HB4.out HB4.out.size hb); clear hb))
      go_ret
      exact ⟨rfl, HB7.out⟩
     ·have n3 : (20 < n) = False := eq_false hn2; have n4 : decide (20 < n) = false := decide_eq_false hn2
      obtain ⟨r, hr1, hr2⟩ := shapes_eq (n := n) (by omega)
      have HSH := Aside0.mk (fun W => scores_Shapes.calls 6000 n r 0 W hr1)
      have HRS := Aside0.mk (fun W => tickingref09_Shapes.calls 6000 n r W hr2)
      clear hn1 hn2 hr1 hr2
      go_enter Try.func5, Try.ntmps5
      go_wp2_with (first
       | (
         go_at_call 27; (with_reducible refine HLI.out.mono ?_); rintro e w1 ⟨v, rfl, ho, hb⟩
         obtain ⟨A1, c1, rfl, hc1, hr1⟩ := ho.row
         rw [HQ.out] at hc1 ⊢
         have HB1 := Aside0.mk hb; have HR1 := Aside0.mk hr1; have HC1 := Aside0.mk hc1; clear ho hb hr1 hc1)
       | (
         go_at_call 28; (with_reducible refine (HTR.out _ _ HC1.out _ HR1.out).mono ?_); rintro e w2 ⟨rfl, hd⟩
         have HB2 := Aside0.mk (below_then HB1.out HB1.out.size hd.below); have HR2 := Aside0.mk (HR1.out.drawn hd); clear hd)
       | (
         go_at_call 29; (with_reducible refine (HSH.out _).mono ?_); rintro e w3 ⟨rfl, hb⟩
         have HB3 := Aside0.mk (below_then HB2.out HB2.out.size hb); have HR3 := Aside0.mk (HR2.out.below hb); clear hb)
       | (
         go_at_call 30; (with_reducible refine (HNU.out _ _ HC1.out _ HR3.out).mono ?_); rintro e w4 ⟨rfl, hd⟩
         have HB4 := Aside0.mk (below_then HB3.out HB3.out.size hd.below); have HR4 := Aside0.mk (HR3.out.drawn hd); clear hd)
       | (
         go_at_call 32; (with_reducible refine (HRS.out _).mono ?_); rintro e w6 ⟨rfl, hb⟩
         have HB6 := Aside0.mk (below_then HB4.out HB4.out.size hb); clear hb)
       | (
         go_at_call 19; (with_reducible refine (awake_calls _).mono ?_); rintro e w7 ⟨rfl, hb⟩
         have HB7 := Aside0.mk (below_then HB6.out HB6.out.size hb); clear hb))
      go_ret
      exact ⟨rfl, HB7.out⟩
   | true =>
    have hok : treesOk dl := ⟨hnb, by rw [HQ.out]; omega, by rw [HQ.out]; omega⟩
    obtain ⟨kr, hkr⟩ := ref_f ⟨hok.2.1, hok.2.2⟩ (numsB_iff.1 hnb).2
    have HRT := Aside0.mk (fun (A1 : Option Addr) (c1 : Nat) (h1 : q ≤ c1) (W : World) (h2 : RowI W A1 dl) => (show Calls Try.prog 31 #[.slice A1 q c1] W fun e w' => e = .returned (.int .i64 ((treesN dl : Nat) : Int)) ∧ Drawn0 W w' from by
     have h3 := tickingref09_Trees.calls kr A1 c1 dl _ W h2.1 (by rw [HQ.out]; exact h1) hkr
     rw [HQ.out] at h3
     exact h3))
    have HTR := Aside0.mk (HT0.out ((treesN dl : Nat) : Int) 0 (.inr ⟨hok, rfl, rfl⟩)); clear HT0
    rw [hnb] at HNU
    generalize ((treesN dl : Nat) : Int) = tr at HTR HRT
    clear hnb hok hkr hq1 hq2 hdl
    by_cases hn1 : n < 2
    ·have HSH := Aside0.mk (fun W => scores_Shapes.calls 0 n 0 2 W (shapes_out (by omega)))
     have n1 : (n < 2) = True := eq_true hn1; have n2 : decide (n < 2) = true := decide_eq_true hn1
     clear hn1
     go_enter Try.func5, Try.ntmps5
     go_wp2_with (first
      | (
        go_at_call 27; (with_reducible refine HLI.out.mono ?_); rintro e w1 ⟨v, rfl, ho, hb⟩
        obtain ⟨A1, c1, rfl, hc1, hr1⟩ := ho.row
        rw [HQ.out] at hc1 ⊢
        have HB1 := Aside0.mk hb; have HR1 := Aside0.mk hr1; have HC1 := Aside0.mk hc1; clear ho hb hr1 hc1)
      | (
        go_at_call 28; (with_reducible refine (HTR.out _ _ HC1.out _ HR1.out).mono ?_); rintro e w2 ⟨rfl, hd⟩
        have HB2 := Aside0.mk (below_then HB1.out HB1.out.size hd.below); have HR2 := Aside0.mk (HR1.out.drawn hd); clear hd)
      | (
        go_at_call 29; (with_reducible refine (HSH.out _).mono ?_); rintro e w3 ⟨rfl, hb⟩
        have HB3 := Aside0.mk (below_then HB2.out HB2.out.size hb); have HR3 := Aside0.mk (HR2.out.below hb); clear hb)
      | (
        go_at_call 30; (with_reducible refine (HNU.out _ _ HC1.out _ HR3.out).mono ?_); rintro e w4 ⟨rfl, hd⟩
        have HB4 := Aside0.mk (below_then HB3.out HB3.out.size hd.below); have HR4 := Aside0.mk (HR3.out.drawn hd); clear hd)
      | (
        go_at_call 31; (with_reducible refine (HRT.out _ _ HC1.out _ HR4.out).mono ?_); rintro e w5 ⟨rfl, hd⟩
        have HB5 := Aside0.mk (below_then HB4.out HB4.out.size hd.below); clear hd)
      | (
        go_at_call 19; (with_reducible refine (awake_calls _).mono ?_); rintro e w7 ⟨rfl, hb⟩
        have HB7 := Aside0.mk (below_then HB5.out HB5.out.size hb); clear hb))
     go_ret
     exact ⟨rfl, HB7.out⟩
    ·have n1 : (n < 2) = False := eq_false hn1; have n2 : decide (n < 2) = false := decide_eq_false hn1
     by_cases hn2 : n > 20
     ·have HSH := Aside0.mk (fun W => scores_Shapes.calls 0 n 0 2 W (shapes_out (by omega)))
      have n3 : (20 < n) = True := eq_true hn2; have n4 : decide (20 < n) = true := decide_eq_true hn2
      clear hn1 hn2
      go_enter Try.func5, Try.ntmps5
      go_wp2_with (first
       | (
         go_at_call 27; (with_reducible refine HLI.out.mono ?_); rintro e w1 ⟨v, rfl, ho, hb⟩
         obtain ⟨A1, c1, rfl, hc1, hr1⟩ := ho.row
         rw [HQ.out] at hc1 ⊢
         have HB1 := Aside0.mk hb; have HR1 := Aside0.mk hr1; have HC1 := Aside0.mk hc1; clear ho hb hr1 hc1)
       | (
         go_at_call 28; (with_reducible refine (HTR.out _ _ HC1.out _ HR1.out).mono ?_); rintro e w2 ⟨rfl, hd⟩
         have HB2 := Aside0.mk (below_then HB1.out HB1.out.size hd.below); have HR2 := Aside0.mk (HR1.out.drawn hd); clear hd)
       | (
         go_at_call 29; (with_reducible refine (HSH.out _).mono ?_); rintro e w3 ⟨rfl, hb⟩
         have HB3 := Aside0.mk (below_then HB2.out HB2.out.size hb); have HR3 := Aside0.mk (HR2.out.below hb); clear hb)
       | (
         go_at_call 30; (with_reducible refine (HNU.out _ _ HC1.out _ HR3.out).mono ?_); rintro e w4 ⟨rfl, hd⟩
         have HB4 := Aside0.mk (below_then HB3.out HB3.out.size hd.below); have HR4 := Aside0.mk (HR3.out.drawn hd); clear hd)
       | (
         go_at_call 31; (with_reducible refine (HRT.out _ _ HC1.out _ HR4.out).mono ?_); rintro e w5 ⟨rfl, hd⟩
         have HB5 := Aside0.mk (below_then HB4.out HB4.out.size hd.below); clear hd)
       | (
         go_at_call 19; (with_reducible refine (awake_calls _).mono ?_); rintro e w7 ⟨rfl, hb⟩
         have HB7 := Aside0.mk (below_then HB5.out HB5.out.size hb); clear hb))
      go_ret
      exact ⟨rfl, HB7.out⟩
     ·have n3 : (20 < n) = False := eq_false hn2; have n4 : decide (20 < n) = false := decide_eq_false hn2
      obtain ⟨r, hr1, hr2⟩ := shapes_eq (n := n) (by omega)
      have HSH := Aside0.mk (fun W => scores_Shapes.calls 6000 n r 0 W hr1)
      have HRS := Aside0.mk (fun W => tickingref09_Shapes.calls 6000 n r W hr2)
      clear hn1 hn2 hr1 hr2
      go_enter Try.func5, Try.ntmps5
      go_wp2_with (first
       | (
         go_at_call 27; (with_reducible refine HLI.out.mono ?_); rintro e w1 ⟨v, rfl, ho, hb⟩
         obtain ⟨A1, c1, rfl, hc1, hr1⟩ := ho.row
         rw [HQ.out] at hc1 ⊢
         have HB1 := Aside0.mk hb; have HR1 := Aside0.mk hr1; have HC1 := Aside0.mk hc1; clear ho hb hr1 hc1)
       | (
         go_at_call 28; (with_reducible refine (HTR.out _ _ HC1.out _ HR1.out).mono ?_); rintro e w2 ⟨rfl, hd⟩
         have HB2 := Aside0.mk (below_then HB1.out HB1.out.size hd.below); have HR2 := Aside0.mk (HR1.out.drawn hd); clear hd)
       | (
         go_at_call 29; (with_reducible refine (HSH.out _).mono ?_); rintro e w3 ⟨rfl, hb⟩
         have HB3 := Aside0.mk (below_then HB2.out HB2.out.size hb); have HR3 := Aside0.mk (HR2.out.below hb); clear hb)
       | (
         go_at_call 30; (with_reducible refine (HNU.out _ _ HC1.out _ HR3.out).mono ?_); rintro e w4 ⟨rfl, hd⟩
         have HB4 := Aside0.mk (below_then HB3.out HB3.out.size hd.below); have HR4 := Aside0.mk (HR3.out.drawn hd); clear hd)
       | (
         go_at_call 31; (with_reducible refine (HRT.out _ _ HC1.out _ HR4.out).mono ?_); rintro e w5 ⟨rfl, hd⟩
         have HB5 := Aside0.mk (below_then HB4.out HB4.out.size hd.below); clear hd)
       | (
         go_at_call 32; (with_reducible refine (HRS.out _).mono ?_); rintro e w6 ⟨rfl, hb⟩
         have HB6 := Aside0.mk (below_then HB5.out HB5.out.size hb); clear hb)
       | (
         go_at_call 19; (with_reducible refine (awake_calls _).mono ?_); rintro e w7 ⟨rfl, hb⟩
         have HB7 := Aside0.mk (below_then HB6.out HB6.out.size hb); clear hb))
      go_ret
      exact ⟨rfl, HB7.out⟩
theorem tickinglaw09_ScoresCounts.calls (k : Nat) (A0 : Option Addr) (c0 : Nat) (l0 : List Int) (a1 : Int) (r : Bool) (w : World) (hr0 : Kd.C (Kd.int .i64) w A0 l0.length l0) (hc0 : l0.length ≤ c0) (h : tickinglaw09_ScoresCounts.f k l0 a1 = some r) :
  Calls Try.prog 5 #[.slice A0 l0.length c0, .int .i64 a1] w fun e w' => e = .returned (.bool r) ∧ Below w.heap.size w w' := by
 cases h
 exact counts_calls A0 c0 l0 a1 w hr0 hc0
end Go.Proofs.Ytcploeijeedmdaa.X
