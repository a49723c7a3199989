/- The walk of ScoresCodes: true for every input. Texts of this claim's session, put together: ECodes. -/
import Derived.Test.YtcploeijeedmdaaCd2
import Derived.Test.YtcploeijeedmdaaBb6
import Derived.Test.YtcploeijeedmdaaBb9
import Derived.Test.YtcploeijeedmdaaCd0
import Derived.Laws.StructEq
import Derived.ChangeKeysEq
import Derived.Test.YtcploeijeedmdaaVWords
import Derived.Test.YtcploeijeedmdaaVRepsOne
namespace Go.Proofs.Ytcploeijeedmdaa.X
open Go.RowKit Go.Shelf Go.Proofs.YtcploeijeedmdaaW.PrintWords Go.Proofs.YtcploeijeedmdaaW.PrintLast Go.Proofs.Ytcploeijeedmdaa.S
set_option linter.unusedVariables false
set_option linter.unusedSimpArgs false
theorem eq54 (a b c d : Int) (W : World) : (Op.equalIn 10000 54 (.agg #[.int .i64 a, .int .i64 b]) (.agg #[.int .i64 c, .int .i64 d])).run Try.prog W = .ok (a == c && b == d) W := by
 obtain ⟨i0, hi, _⟩ := Option.map_eq_some_iff.1 info3
 rw [run_equalIn_array W 9999 _ _ Try.underlying54 hi, show Try.prog.cellsOf 3 = 1 from by kernel_rfl]
 have h1 := run_equalIn_int W 9998 3 .i64 .i64 a c Try.underlying3
 have h2 := run_equalIn_int W 9998 3 .i64 .i64 b d Try.underlying3
 simp [Op.eqItems, List.range, List.range.loop, part, Try.isAgg3, h1, h2]
 by_cases e1 : a = c <;> by_cases e2 : b = d <;> simp [e1, e2]
attribute [local go_sem] eq54
theorem coded_run {n : Int} {l : List Int} (hl : l.length ≤ 900) : ∀ (ds : List Int) (i : Nat), l.drop i = ds → ∃ k r, tickingref09_Coded.l0 k n l (i : Int) = some r ∧ (r = true ↔ ∀ x ∈ ds, 0 ≤ x ∧ x ≤ n - 1)
 | [], i, hd => by
  have hi : l.length ≤ i := by have := congrArg List.length hd; simp at this; omega
  exact ⟨1, true, by rw [tickingref09_Coded.l0, if_neg (by omega)], by simp⟩
 | d :: ds, i, hd => by
  have hi : i < l.length := by have := congrArg List.length hd; simp at this; omega
  have hdi : rd l (i : Int) = d := by
   have := congrArg (fun l => l[0]?) hd
   unfold rd
   rw [Int.toNat_natCast, List.getD_eq_getElem?_getD]
   simp at this
   rw [this]
   rfl
  have hd' : l.drop (i + 1) = ds := by
   have := congrArg (List.drop 1) hd
   rw [List.drop_drop] at this
   simpa [Nat.add_comm] using this
  by_cases h1 : d < 0
  ·refine ⟨1, false, by rw [tickingref09_Coded.l0, if_pos (by omega), if_pos (by omega), hdi, if_pos h1], ?_⟩
   constructor
   ·intro h; cases h
   ·intro h; have := h d List.mem_cons_self; omega
  ·by_cases h2 : d ≥ n
   ·refine ⟨1, false, by rw [tickingref09_Coded.l0, if_pos (by omega), if_pos (by omega), hdi, if_neg h1, if_pos h2], ?_⟩
    constructor
    ·intro h; cases h
    ·intro h; have := h d List.mem_cons_self; omega
   ·obtain ⟨k, r, hk, hr⟩ := coded_run hl ds (i + 1) hd'
    refine ⟨k + 1, r, ?_, hr.trans ?_⟩
    ·rw [tickingref09_Coded.l0, if_pos (by omega), if_pos (by omega), hdi, if_neg h1, if_neg h2, nxtN (by omega), hk]
    ·constructor
     ·intro h x hx
      rcases List.mem_cons.1 hx with rfl | hx
      ·omega
      ·exact h x hx
     ·intro h x hx
      exact h x (List.mem_cons_of_mem _ hx)
theorem coded_f {n : Int} {l : List Int} (hl : l.length ≤ 900) : ∃ k r, tickingref09_Coded.f k n l = some r ∧ (r = true ↔ codeOk n l) := by
 by_cases h1 : n < 2
 ·refine ⟨1, false, ?_, ?_⟩
  ·unfold tickingref09_Coded.f
   rw [if_pos h1, tickingref09_Coded.j0, if_pos rfl]
  ·constructor
   ·intro h; cases h
   ·intro h; have := h.1; omega
 ·by_cases h2 : n > 20
  ·refine ⟨1, false, ?_, ?_⟩
   ·unfold tickingref09_Coded.f
    rw [if_neg h1, if_pos h2, tickingref09_Coded.j0, if_pos rfl]
   ·constructor
    ·intro h; cases h
    ·intro h; have := h.1; omega
  ·have hw : wrap64 (n - 2) = n - 2 := w64 (by omega) (by omega)
   by_cases h3 : (l.length : Int) = n - 2
   ·obtain ⟨k, r, hk, hr⟩ := coded_run (n := n) hl l 0 rfl
    refine ⟨k + 1, r, ?_, hr.trans ⟨fun h => ⟨⟨by omega, by omega⟩, h3, h⟩, fun h => h.2.2⟩⟩
    unfold tickingref09_Coded.f
    rw [if_neg h1, if_neg h2, hw, tickingref09_Coded.j0, if_neg (by rw [bne_iff_ne]; exact fun h => h h3)]
    exact hk
   ·refine ⟨1, false, ?_, ?_⟩
    ·unfold tickingref09_Coded.f
     rw [if_neg h1, if_neg h2, hw, tickingref09_Coded.j0, if_pos (by rw [bne_iff_ne]; exact h3)]
    ·constructor
     ·intro h; cases h
     ·intro h; exact absurd h.2.1 h3
set_option maxHeartbeats 2000000 in
set_option maxRecDepth 100000 in
theorem pairs_same {n : Nat} (A A' : Option Addr) (c c' : Nat) (Q : List (Int × Int)) (w : World) (hr : RowP w A Q) (hr' : RowP w A' Q) (hn : Q.length = n) (hn2 : n ≤ 900) :
  Calls Try.prog 44 #[.slice A n c, .slice A' n c'] w fun e w' => e = .returned (.bool true) ∧ Drawn0 w w' := by
 have HR := Aside0.mk hr
 have HR' := Aside0.mk hr'
 have HN := Aside0.mk hn
 have HN2 := Aside0.mk hn2
 clear hr hr' hn hn2
 go_enter Try.func44, Try.ntmps44
 go_wp2
 go_loopw [5] (fun iv wr => ∃ i : Nat, i ≤ n ∧ iv = .int .i64 (i : Int) ∧ Aside0 (Drawn0 w wr)) (fun iv _ => n - (intOf iv).toNat)
 case atStart => exact ⟨0, Nat.zero_le _, rfl, ⟨Drawn0.refl _⟩⟩
 case round =>
  obtain ⟨i, hi, rfl, HD⟩ := hrel
  by_cases hil : i < n
  ·have HI := Aside0.mk hil
   have hz : (i : Int) < (n : Int) := by omega
   obtain ⟨x, y, hq⟩ : ∃ x y, Q[i]? = some (x, y) := ⟨_, _, List.getElem?_eq_getElem (by rw [HN.out]; exact hil)⟩
   obtain ⟨b1, o1, hA, z1, z2⟩ := (HR.out.below HD.out.below).row i (x, y) hq
   obtain ⟨b2, o2, hA', z3, z4⟩ := (HR'.out.below HD.out.below).row i (x, y) hq
   cases hA
   cases hA'
   simp only at z1 z2 z3 z4
   have hi1 := Aside0.mk (show wrap64 ((i : Int) + 1) = ((i + 1 : Nat) : Int) from nxtN (by have := HN2.out; omega))
   clear hi hil hq
   go_wp2
   go_quiet (fail)
   have HDq := Aside0.mk (drawn_trans HD.out ⟨nq, rfl⟩)
   go_wp2
   go_roundw
   ·exact ⟨i + 1, HI.out, congrArg (Value.int .i64) hi1.out, HDq⟩
   ·rw [hi1.out]; have := HI.out; simp only [intOf]; omega
  ·obtain rfl : n = i := by omega
   clear hi hil
   go_wp2
   go_ret
   exact ⟨rfl, HD.out⟩
def tickinglaw09_ScoresCodes.f (_k : Nat) (_a0 : Int) (_l1 : List Int) : Option Bool := some true
set_option maxHeartbeats 4000000 in
set_option maxRecDepth 100000 in
theorem codes_law (n : Int) (A : Option Addr) (c : Nat) (l : List Int) (w : World) (hr : Kd.C (Kd.int .i64) w A l.length l) (hc : l.length ≤ c) :
  Calls Try.prog 11 #[.int .i64 n, .slice A l.length c] w fun e w' => e = .returned (.bool true) ∧ Below w.heap.size w w' := by
 have HLI := Aside0.mk (list_calls A c l w hr hc)
 clear hr hc
 generalize l.length = ll at HLI ⊢
 have hdl : (l.take 31).length ≤ 31 := by rw [List.length_take]; exact Nat.min_le_left _ _
 generalize l.take 31 = s at HLI hdl
 obtain ⟨q, HQ⟩ : ∃ q, Aside0 (s.length = q) := ⟨_, ⟨rfl⟩⟩
 obtain ⟨kc, r, hkc, hrc⟩ := coded_f (n := n) (l := s) (by omega)
 have HCD := Aside0.mk (fun (A1 : Option Addr) (c1 : Nat) (h1 : q ≤ c1) (W : World) (h2 : RowI W A1 s) => (show Calls Try.prog 43 #[.int .i64 n, .slice A1 q c1] W fun e w' => e = .returned (.bool r) ∧ Drawn0 W w' from by
  have h3 := tickingref09_Coded.calls kc n A1 c1 s r W h2.1 (by rw [HQ.out]; exact h1) hkc
  rw [HQ.out] at h3
  exact h3))
 clear hkc hdl
 cases hrr : r with
 | false =>
  rw [hrr] at HCD hrc
  have HTR := Aside0.mk (fun (A1 : Option Addr) (c1 : Nat) (W : World) (h : RowI W A1 s) => tree_bad n A1 c1 s W h HQ.out (fun h => by have := hrc.2 h; cases this))
  clear hrr hrc
  go_enter Try.func11, Try.ntmps11
  go_wp2_with (first
   | (
     go_at_call 27; (with_reducible refine HLI.out.mono ?_); rintro e w1 ⟨v, rfl, ho, hb⟩
     obtain ⟨A1, c1, rfl, hc1, hr1⟩ := ho.row
     rw [HQ.out] at hc1 ⊢
     have HC1 := Aside0.mk hc1; have HR1 := Aside0.mk hr1; have HB1 := Aside0.mk hb; clear hc1 hr1 ho hb)
   | (
     go_at_call 42; (with_reducible refine (HTR.out _ _ _ HR1.out).mono ?_); rintro e w2 ⟨rfl, hb⟩
     have HB2 := Aside0.mk (below_then HB1.out HB1.out.size hb); have HR2 := Aside0.mk (HR1.out.below hb); clear hb)
   | (
     go_at_call 43; (with_reducible refine (HCD.out _ _ HC1.out _ HR2.out).mono ?_); rintro e w3 ⟨rfl, hd⟩
     have HB3 := Aside0.mk (below_then HB2.out HB2.out.size hd.below); clear hd)
   | (
     go_at_call 19; (with_reducible refine (awake_calls _).mono ?_); rintro e w7 ⟨rfl, hb⟩
     have HB7 := Aside0.mk (below_then HB3.out HB3.out.size hb); clear hb))
  go_ret
  exact ⟨rfl, HB7.out⟩
 | true =>
  rw [hrr] at HCD hrc
  obtain ⟨h1, h2, h3⟩ := hrc.1 rfl
  obtain ⟨N, rfl⟩ := Int.eq_ofNat_of_zero_le (show 0 ≤ n by omega)
  obtain ⟨cs, hcs, hx, hcl⟩ := nat_list (l := s) (N := N) (fun x hx => by have := h3 x hx; omega)
  subst hcs
  rw [natI_len] at h2 hcl
  have HQ' := Aside0.mk (show cs.length = q from by have := HQ.out; rw [natI_len] at this; exact this)
  have HNQ := Aside0.mk (show N = q + 2 ∧ N ≤ 20 from by have := HQ'.out; omega)
  have HTR := Aside0.mk (fun (A1 : Option Addr) (c1 : Nat) (W : World) (h : RowI W A1 (natI cs)) => tree_calls (N := N) (m := q) A1 c1 cs W h HQ'.out HNQ.out.1 HNQ.out.2 hx)
  have HMA := Aside0.mk (fun (A1 : Option Addr) (c1 : Nat) (W : World) (h : RowI W A1 (natI cs)) => made_calls (N := N) (m := q) A1 c1 cs W h HQ'.out HNQ.out.1 HNQ.out.2 hx)
  have HTL := Aside0.mk (show (treeL N cs).length = q + 1 from by rw [treeL_len, HQ'.out])
  have HPS := Aside0.mk (fun (A2 A3 : Option Addr) (c2 c3 : Nat) (W : World) (h1 : RowP W A2 (treeL N cs)) (h2 : RowP W A3 (treeL N cs)) => pairs_same (n := q + 1) A2 A3 c2 c3 (treeL N cs) W h1 h2 HTL.out (by have := HNQ.out; omega))
  clear hrr hrc h1 h2 h3 hx hcl
  go_enter Try.func11, Try.ntmps11
  go_wp2_with (first
   | (
     go_at_call 27; (with_reducible refine HLI.out.mono ?_); rintro e w1 ⟨v, rfl, ho, hb⟩
     obtain ⟨A1, c1, rfl, hc1, hr1⟩ := ho.row
     rw [HQ.out] at hc1 ⊢
     have HC1 := Aside0.mk hc1; have HR1 := Aside0.mk hr1; have HB1 := Aside0.mk hb; clear hc1 hr1 ho hb)
   | (
     go_at_call 42; (with_reducible refine (HTR.out _ _ _ HR1.out).mono ?_); rintro e w2 ⟨A2, c2, rfl, hc2, hr2, hb⟩
     have HB2 := Aside0.mk (below_then HB1.out HB1.out.size hb); have HR2 := Aside0.mk (HR1.out.below hb); have HP2 := Aside0.mk hr2; clear hb hc2 hr2)
   | (
     go_at_call 43; (with_reducible refine (HCD.out _ _ HC1.out _ HR2.out).mono ?_); rintro e w3 ⟨rfl, hd⟩
     have HB3 := Aside0.mk (below_then HB2.out HB2.out.size hd.below); have HR3 := Aside0.mk (HR2.out.drawn hd); have HP3 := Aside0.mk (HP2.out.below hd.below); clear hd)
   | (
     go_at_call 45; (with_reducible refine (HMA.out _ _ _ HR3.out).mono ?_); rintro e w4 ⟨v, rfl, ho, hb⟩
     obtain ⟨A4, c4, rfl, _, hr4⟩ := ho.row (by have := HTL.out; have := HNQ.out; omega)
     rw [HTL.out]
     have HB4 := Aside0.mk (below_then HB3.out HB3.out.size hb); have HP4 := Aside0.mk (HP3.out.below hb); have HQ4 := Aside0.mk hr4; clear ho hb hr4)
   | (
     go_at_call 44; (with_reducible refine (HPS.out _ _ _ _ _ HP4.out HQ4.out).mono ?_); rintro e w5 ⟨rfl, hd⟩
     have HB5 := Aside0.mk (below_then HB4.out HB4.out.size hd.below); clear hd)
   | (
     go_at_call 19; (with_reducible refine (awake_calls _).mono ?_); rintro e w7 ⟨rfl, hb⟩
     have HB7 := Aside0.mk (below_then HB5.out HB5.out.size hb); clear hb))
  go_ret
  exact ⟨rfl, HB7.out⟩
theorem tickinglaw09_ScoresCodes.calls (k : Nat) (a0 : Int) (A1 : Option Addr) (c1 : Nat) (l1 : List Int) (r : Bool) (w : World) (hr1 : Kd.C (Kd.int .i64) w A1 l1.length l1) (hc1 : l1.length ≤ c1) (h : tickinglaw09_ScoresCodes.f k a0 l1 = some r) :
  Calls Try.prog 11 #[.int .i64 a0, .slice A1 l1.length c1] w fun e w' => e = .returned (.bool r) ∧ Below w.heap.size w w' := by
 obtain rfl := Option.some.inj h
 exact codes_law a0 A1 c1 l1 w hr1 hc1
end Go.Proofs.Ytcploeijeedmdaa.X
