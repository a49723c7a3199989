/- The walk of ScoresContestChecks: true for every input. Texts of this claim's session, put together: ECCheck. -/
import Derived.Test.YtcploeijeedmdaaCc3
import Derived.Test.YtcploeijeedmdaaCc1
import Derived.Test.YtcploeijeedmdaaBb9
import Derived.Test.YtcploeijeedmdaaVWords
import Derived.Test.YtcploeijeedmdaaVRepsOne
namespace Go.Proofs.Ytcploeijeedmdaa.X
open Go.RowKit Go.Shelf Go.Proofs.YtcploeijeedmdaaW.PrintWords Go.Proofs.YtcploeijeedmdaaW.PrintLast Go.Proofs.Ytcploeijeedmdaa.S
set_option linter.unusedVariables false
set_option linter.unusedSimpArgs false
theorem RowLL.toC {W : World} {A : Option Addr} {t : List (List Int)} (h : RowLL W A t) : Kd.C (Kd.slice 3 (Kd.int .i64)) W A t.length t := by
 refine ⟨rfl, h.len, fun h0 => ?_⟩
 obtain ⟨b, o, Ai, ci, e, _⟩ := h.row 0 t[0] (List.getElem?_eq_getElem h0)
 refine ⟨_, e, fun j p hj => ?_⟩
 obtain ⟨b', o', Ai', ci', e', h1, h2, h3⟩ := h.row j p hj
 rw [e] at e'
 cases e'
 refine ⟨[.slice Ai' p.length ci'], rfl, ⟨Ai', ci', rfl, h2, h3.1⟩, fun i u hi => ?_⟩
 cases i with
 | succ i => simp at hi
 | zero =>
  simp at hi
  subst hi
  show W.cell? (Addr.add ⟨b, o, none⟩ (j * 1 + 0)) = _
  rw [Nat.mul_one, Nat.add_zero, Addr.add_lit]
  exact h1
set_option maxHeartbeats 1000000 in
theorem checkC_bad {n T : Nat} (A : Option Addr) (c : Nat) (s : List Int) (A' : Option Addr) (c' : Nat) (k : Int) (w : World) (hr : RowI w A s) (hs : s.length = n) (hnum : numsB s = false) :
  Calls Try.prog 39 #[.slice A n c, .slice A' T c', .int .i64 k] w fun e w' => e = .returned (.int .i64 2) ∧ Below w.heap.size w w' := by
 have HAN := Aside0.mk (show Calls Try.prog 61 #[.slice A n c] w fun e w' => e = .returned (.bool false) ∧ Drawn0 w w' from by
  have h := scores_areNumbers.calls A c s w hr
  rw [hnum, hs] at h
  exact h)
 clear hr hs hnum
 go_enter Try.func39, Try.ntmps39
 go_wp2_with (go_at_call 61; (with_reducible refine HAN.out.mono ?_); rintro e w1 ⟨rfl, hd⟩; have HB1 := Aside0.mk hd.below; clear hd)
 go_ret
 exact ⟨rfl, HB1.out⟩
def tickinglaw09_ScoresContestChecks.f (_k : Nat) (_l0 : List Int) (_l1 : List (List Int)) (_a2 : Int) : Option Bool := some true
set_option maxHeartbeats 4000000 in
set_option maxRecDepth 100000 in
theorem ccheck_law (A : Option Addr) (c : Nat) (l : List Int) (A' : Option Addr) (c' : Nat) (m : List (List Int)) (k : Int) (w : World) (hr : Kd.C (Kd.int .i64) w A l.length l) (hc : l.length ≤ c) (hr' : Kd.C (Kd.slice 3 (Kd.int .i64)) w A' m.length m) (hc' : m.length ≤ c') :
  Calls Try.prog 9 #[.slice A l.length c, .slice A' m.length c', .int .i64 k] w fun e w' => e = .returned (.bool true) ∧ Below w.heap.size w w' := by
 have HLI := Aside0.mk (list_calls A c l w hr hc)
 have HTA := Aside0.mk (fun (W : World) (h : Below w.heap.size w W) => table_calls A' c' m W (Kd.C_below hr' h) hc')
 clear hr hc hr' hc'
 generalize l.length = ll at HLI ⊢
 generalize m.length = ml at HTA ⊢
 have hdl : (l.take 31).length ≤ 31 := by rw [List.length_take]; exact Nat.min_le_left _ _
 generalize l.take 31 = s at HLI hdl
 have htl := tabT_len m
 generalize tabT m = t at HTA htl
 obtain ⟨n, HS⟩ : ∃ n, Aside0 (s.length = n) := ⟨_, ⟨rfl⟩⟩
 obtain ⟨T, HT⟩ : ∃ T, Aside0 (t.length = T) := ⟨_, ⟨rfl⟩⟩
 rw [HT.out] at HTA
 obtain ⟨kn, hkn⟩ := numbers_f (l := s) (by omega)
 have HNU := Aside0.mk (fun (A1 : Option Addr) (c1 : Nat) (h1 : n ≤ c1) (W : World) (h2 : RowI W A1 s) => (show Calls Try.prog 30 #[.slice A1 n c1] W fun e w' => e = .returned (.bool (numsB s)) ∧ Drawn0 W w' from by
  have h3 := tickingref09_Numbers.calls kn A1 c1 s (numsB s) W h2.1 (by rw [HS.out]; exact h1) hkn
  rw [HS.out] at h3
  exact h3))
 clear hkn
 cases hnb : numsB s with
 | false =>
  rw [hnb] at HNU
  have HCC := Aside0.mk (fun (A1 : Option Addr) (c1 : Nat) (A2 : Option Addr) (c2 : Nat) (W : World) (h1 : RowI W A1 s) => checkC_bad (T := T) A1 c1 s A2 c2 k W h1 HS.out hnb)
  clear hnb hdl htl
  go_enter Try.func9, Try.ntmps9
  go_wp2_with (first
   | (
     go_at_call 27; (with_reducible refine HLI.out.mono ?_); rintro e w1 ⟨v, rfl, ho, hb⟩
     obtain ⟨A1, c1, rfl, hc1, hr1⟩ := ho.row
     rw [HS.out] at hc1 ⊢
     have HC1 := Aside0.mk hc1; have HR1 := Aside0.mk hr1; have HB1 := Aside0.mk hb; clear hc1 hr1 ho hb)
   | (
     go_at_call 38; (with_reducible refine (HTA.out _ HB1.out).mono ?_); rintro e w2 ⟨A2, c2, rfl, hc2, hr2, hb⟩
     have HC2 := Aside0.mk hc2; have HT2 := Aside0.mk hr2; have HB2 := Aside0.mk (below_then HB1.out HB1.out.size hb); have HR2 := Aside0.mk (HR1.out.below hb); clear hc2 hr2 hb)
   | (
     go_at_call 39; (with_reducible refine (HCC.out _ _ _ _ _ HR2.out).mono ?_); rintro e w3 ⟨rfl, hb⟩
     have HB3 := Aside0.mk (below_then HB2.out HB2.out.size hb); have HR3 := Aside0.mk (HR2.out.below hb); clear hb)
   | (
     go_at_call 30; (with_reducible refine (HNU.out _ _ HC1.out _ HR3.out).mono ?_); rintro e w4 ⟨rfl, hd⟩
     have HB4 := Aside0.mk (below_then HB3.out HB3.out.size hd.below); clear hd)
   | (
     go_at_call 19; (with_reducible refine (awake_calls _).mono ?_); rintro e w7 ⟨rfl, hb⟩
     have HB7 := Aside0.mk (below_then HB4.out HB4.out.size hb); clear hb))
  go_ret
  exact ⟨rfl, HB7.out⟩
 | true =>
  rw [hnb] at HNU
  obtain ⟨ka, r, hka, hra⟩ := answer_f (s := s) (t := t) hnb (by omega) k
  have HCA := Aside0.mk (fun (A1 : Option Addr) (c1 : Nat) (h1 : n ≤ c1) (A2 : Option Addr) (c2 : Nat) (h2 : T ≤ c2) (W : World) (h3 : RowI W A1 s) (h4 : RowLL W A2 t) => (show Calls Try.prog 40 #[.slice A1 n c1, .slice A2 T c2, .int .i64 k] W fun e w' => e = .returned (.bool r) ∧ Below W.heap.size W w' from by
   have h5 := tickingref09_ContestAnswer.calls ka A1 c1 s A2 c2 t k r W h3.1 (by rw [HS.out]; exact h1) h4.toC (by rw [HT.out]; exact h2) hka
   rw [HS.out, HT.out] at h5
   exact h5))
  cases hrr : r with
  | true =>
   rw [hrr] at HCA hra
   have HCC := Aside0.mk (fun (A1 : Option Addr) (c1 : Nat) (h0 : n ≤ c1) (A2 : Option Addr) (c2 : Nat) (W : World) (h1 : RowI W A1 s) (h2 : RowLL W A2 t) => checkC_calls A1 c1 s A2 c2 t k true 0 W h1 h2 HS.out h0 HT.out (by rw [← HT.out]; exact htl) hnb hra rfl)
   clear hnb hdl htl hka hra hrr
   go_enter Try.func9, Try.ntmps9
   go_wp2_with (first
    | (
      go_at_call 27; (with_reducible refine HLI.out.mono ?_); rintro e w1 ⟨v, rfl, ho, hb⟩
      obtain ⟨A1, c1, rfl, hc1, hr1⟩ := ho.row
      rw [HS.out] at hc1 ⊢
      have HC1 := Aside0.mk hc1; have HR1 := Aside0.mk hr1; have HB1 := Aside0.mk hb; clear hc1 hr1 ho hb)
    | (
      go_at_call 38; (with_reducible refine (HTA.out _ HB1.out).mono ?_); rintro e w2 ⟨A2, c2, rfl, hc2, hr2, hb⟩
      have HC2 := Aside0.mk hc2; have HT2 := Aside0.mk hr2; have HB2 := Aside0.mk (below_then HB1.out HB1.out.size hb); have HR2 := Aside0.mk (HR1.out.below hb); clear hc2 hr2 hb)
    | (
      go_at_call 39; (with_reducible refine (HCC.out _ _ HC1.out _ _ _ HR2.out HT2.out).mono ?_); rintro e w3 ⟨rfl, hb⟩
      have HB3 := Aside0.mk (below_then HB2.out HB2.out.size hb); have HR3 := Aside0.mk (HR2.out.below hb); have HT3 := Aside0.mk (HT2.out.below hb); clear hb)
    | (
      go_at_call 30; (with_reducible refine (HNU.out _ _ HC1.out _ HR3.out).mono ?_); rintro e w4 ⟨rfl, hd⟩
      have HB4 := Aside0.mk (below_then HB3.out HB3.out.size hd.below); have HR4 := Aside0.mk (HR3.out.drawn hd); have HT4 := Aside0.mk (HT3.out.drawn hd); clear hd)
    | (
      go_at_call 40; (with_reducible refine (HCA.out _ _ HC1.out _ _ HC2.out _ HR4.out HT4.out).mono ?_); rintro e w5 ⟨rfl, hb⟩
      have HB5 := Aside0.mk (below_then HB4.out HB4.out.size hb); clear hb)
    | (
      go_at_call 19; (with_reducible refine (awake_calls _).mono ?_); rintro e w7 ⟨rfl, hb⟩
      have HB7 := Aside0.mk (below_then HB5.out HB5.out.size hb); clear hb))
   go_ret
   exact ⟨rfl, HB7.out⟩
  | false =>
   rw [hrr] at HCA hra
   have HCC := Aside0.mk (fun (A1 : Option Addr) (c1 : Nat) (h0 : n ≤ c1) (A2 : Option Addr) (c2 : Nat) (W : World) (h1 : RowI W A1 s) (h2 : RowLL W A2 t) => checkC_calls A1 c1 s A2 c2 t k false 10 W h1 h2 HS.out h0 HT.out (by rw [← HT.out]; exact htl) hnb hra rfl)
   clear hnb hdl htl hka hra hrr
   go_enter Try.func9, Try.ntmps9
   go_wp2_with (first
    | (
      go_at_call 27; (with_reducible refine HLI.out.mono ?_); rintro e w1 ⟨v, rfl, ho, hb⟩
      obtain ⟨A1, c1, rfl, hc1, hr1⟩ := ho.row
      rw [HS.out] at hc1 ⊢
      have HC1 := Aside0.mk hc1; have HR1 := Aside0.mk hr1; have HB1 := Aside0.mk hb; clear hc1 hr1 ho hb)
    | (
      go_at_call 38; (with_reducible refine (HTA.out _ HB1.out).mono ?_); rintro e w2 ⟨A2, c2, rfl, hc2, hr2, hb⟩
      have HC2 := Aside0.mk hc2; have HT2 := Aside0.mk hr2; have HB2 := Aside0.mk (below_then HB1.out HB1.out.size hb); have HR2 := Aside0.mk (HR1.out.below hb); clear hc2 hr2 hb)
    | (
      go_at_call 39; (with_reducible refine (HCC.out _ _ HC1.out _ _ _ HR2.out HT2.out).mono ?_); rintro e w3 ⟨rfl, hb⟩
      have HB3 := Aside0.mk (below_then HB2.out HB2.out.size hb); have HR3 := Aside0.mk (HR2.out.below hb); have HT3 := Aside0.mk (HT2.out.below hb); clear hb)
    | (
      go_at_call 30; (with_reducible refine (HNU.out _ _ HC1.out _ HR3.out).mono ?_); rintro e w4 ⟨rfl, hd⟩
      have HB4 := Aside0.mk (below_then HB3.out HB3.out.size hd.below); have HR4 := Aside0.mk (HR3.out.drawn hd); have HT4 := Aside0.mk (HT3.out.drawn hd); clear hd)
    | (
      go_at_call 40; (with_reducible refine (HCA.out _ _ HC1.out _ _ HC2.out _ HR4.out HT4.out).mono ?_); rintro e w5 ⟨rfl, hb⟩
      have HB5 := Aside0.mk (below_then HB4.out HB4.out.size hb); clear hb)
    | (
      go_at_call 19; (with_reducible refine (awake_calls _).mono ?_); rintro e w7 ⟨rfl, hb⟩
      have HB7 := Aside0.mk (below_then HB5.out HB5.out.size hb); clear hb))
   go_ret
   exact ⟨rfl, HB7.out⟩
theorem tickinglaw09_ScoresContestChecks.calls (k : Nat) (A0 : Option Addr) (c0 : Nat) (l0 : List Int) (A1 : Option Addr) (c1 : Nat) (l1 : List (List Int)) (a2 : Int) (r : Bool) (w : World) (hr0 : Kd.C (Kd.int .i64) w A0 l0.length l0) (hc0 : l0.length ≤ c0) (hr1 : Kd.C (Kd.slice 3 (Kd.int .i64)) w A1 l1.length l1) (hc1 : l1.length ≤ c1) (h : tickinglaw09_ScoresContestChecks.f k l0 l1 a2 = some r) :
  Calls Try.prog 9 #[.slice A0 l0.length c0, .slice A1 l1.length c1, .int .i64 a2] w fun e w' => e = .returned (.bool r) ∧ Below w.heap.size w w' := by
 obtain rfl := Option.some.inj h
 exact ccheck_law A0 c0 l0 A1 c1 l1 a2 w hr0 hc0 hr1 hc1
end Go.Proofs.Ytcploeijeedmdaa.X
