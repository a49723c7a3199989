/- The walk of ScoresKings: true for every input. Texts of this claim's session, put together: EKings. -/
import Derived.Test.YtcploeijeedmdaaKt0
import Derived.Test.YtcploeijeedmdaaBb9
import Derived.Test.YtcploeijeedmdaaBb8
import Derived.Test.YtcploeijeedmdaaVWords
import Derived.Test.YtcploeijeedmdaaVRepsOne
namespace Go.Proofs.Ytcploeijeedmdaa.X
open Go.RowKit Go.Shelf Go.Proofs.YtcploeijeedmdaaW.PrintWords Go.Proofs.YtcploeijeedmdaaW.PrintLast Go.Proofs.Ytcploeijeedmdaa.S
set_option linter.unusedVariables false
set_option linter.unusedSimpArgs false
attribute [local go_sem] max2_int min2_int max_two min_two
theorem RowLL.toC {W : World} {A : Option Addr} {t : List (List Int)} (h : RowLL W A t) : Kd.C (Kd.slice 3 (Kd.int .i64)) W A t.length t := by
 refine ⟨rfl, h.len, fun h0 => ?_⟩
 obtain ⟨b, o, Ai, ci, e, _⟩ := h.row 0 t[0] (List.getElem?_eq_getElem h0)
 refine ⟨_, e, fun j p hj => ?_⟩
 obtain ⟨b', o', Ai', ci', e', h1, h2, h3⟩ := h.row j p hj
 rw [e] at e'
 cases e'
 refine ⟨[.slice Ai' p.length ci'], rfl, ⟨Ai', ci', rfl, h2, h3.1⟩, fun i u hi => ?_⟩
 cases i with
 | succ i => simp at hi
 | zero =>
  simp at hi
  subst hi
  show W.cell? (Addr.add ⟨b, o, none⟩ (j * 1 + 0)) = _
  rw [Nat.mul_one, Nat.add_zero, Addr.add_lit]
  exact h1
def tickinglaw09_ScoresKings.f (_k : Nat) (_l0 : List (List Int)) (_a1 : Int) : Option Bool := some true
def mkS (K : List Nat) (i : Nat) : Nat → Bool := fun x => (K.take i).contains x
theorem mkS_zero (K : List Nat) : mkS K 0 = fun _ => false := by funext x; simp [mkS]
theorem mkS_succ {K : List Nat} {i x : Nat} (h : K[i]? = some x) : putS (mkS K i) x = mkS K (i + 1) := by
 obtain ⟨hi, h⟩ := List.getElem?_eq_some_iff.1 h
 funext y
 unfold putS mkS
 rw [List.take_add_one, List.getElem?_eq_getElem hi, h]
 simp only [Option.toList_some, List.contains_append]
 by_cases e : y = x
 ·subst e; simp
 ·simp [e]
theorem mkS_all {t : List (List Int)} {n x : Nat} (hn : t.length = n) (hx : x < n) : mkS (kl t) (kl t).length x = kingB t x := by
 unfold mkS
 rw [List.take_length]
 cases hk : kingB t x with
 | true => rw [List.contains_iff_mem]; unfold kl; rw [List.mem_filter, List.mem_range]; exact ⟨by omega, hk⟩
 | false =>
  rw [← Bool.not_eq_true, List.contains_iff_mem]
  unfold kl
  rw [List.mem_filter, hk]
  intro h; cases h.2
def bU (t : List (List Int)) (i j : Nat) : Bool := (List.range j).any fun x => kingB t x && (g2 t x i == 1)
theorem bU_succ (t : List (List Int)) (i j : Nat) : bU t i (j + 1) = (bU t i j || (kingB t j && (g2 t j i == 1))) := by unfold bU; rw [List.range_succ, List.any_append]; simp
set_option maxHeartbeats 8000000 in
set_option maxRecDepth 100000 in
theorem kings_law (A : Option Addr) (c : Nat) (l : List (List Int)) (n : Int) (w : World) (hr : Kd.C (Kd.slice 3 (Kd.int .i64)) w A l.length l) (hc : l.length ≤ c) :
  Calls Try.prog 4 #[.slice A l.length c, .int .i64 n] w fun e w' => e = .returned (.bool true) ∧ Below w.heap.size w w' := by
 obtain ⟨r, hm, hr0, hr1⟩ := mod_f (x := n) (n := 20) (by decide)
 obtain ⟨N, hN⟩ : ∃ N : Nat, (N : Int) = 1 + r := ⟨(1 + r).toNat, by omega⟩
 have hN1 : 1 ≤ N ∧ N ≤ 20 := by omega
 have HMOD := Aside0.mk (fun W => tickinglaw09_mod.calls n 20 r W hm)
 have HN := Aside0.mk hN1
 have HW : Aside0 (wrap64 (1 + r) = (N : Int)) := ⟨by rw [hN, w64 (by omega) (by omega)]⟩
 have hC := contest_isC l N (by omega)
 have hlen : (contestL l N).length = N := tabL_len _ _
 have HCT := Aside0.mk (fun (W : World) (h : Below w.heap.size w W) => contest_calls A c l N hN1 W (Kd.C_below hr h) hc)
 generalize l.length = L at *
 generalize contestL l N = t at *
 have HLEN := Aside0.mk hlen
 have HIC := Aside0.mk hC
 have KF := Aside0.mk (kings_facts hC hlen (by omega))
 have HKI := Aside0.mk (fun (A' : Option Addr) (c' : Nat) (W : World) (h : RowLL W A' t) => scores_Kings.calls A' c' t W h hlen hC)
 obtain ⟨ks, hks⟩ := scores_f hC
 have HSC := Aside0.mk (fun (A' : Option Addr) (c' : Nat) (hc' : N ≤ c') (W : World) (h : RowLL W A' t) => (show Calls Try.prog 26 #[.slice A' N c'] W fun e w' => ∃ v0_ : Value, e = .returned (v0_) ∧ Kd.R (Kd.int .i64) 3 w' W.heap.size (fun _ => True) v0_ (t.map List.sum) ∧ Below W.heap.size W w' from by
  have h3 := tickingref09_Scores.calls ks A' c' t (t.map List.sum) W h.toC (by rw [hlen]; exact hc') hks
  rw [hlen] at h3
  exact h3))
 obtain ⟨q, HQK⟩ : ∃ q, Aside0 ((kl t).length = q) := ⟨_, ⟨rfl⟩⟩
 have HQ : Aside0 ((kingsUp t N).length = q) := ⟨by rw [← hlen, kings_kl, List.length_map]; exact HQK.out⟩
 have HSL : Aside0 ((t.map List.sum).length = N) := ⟨by rw [List.length_map]; exact hlen⟩
 have hq1 : 1 ≤ q ∧ q ≤ N ∧ q ≠ 2 := ⟨by rw [← HQK.out]; exact KF.out.some_, by rw [← HQK.out]; exact KF.out.le, by rw [← HQK.out]; exact KF.out.two⟩
 have HQ1 := Aside0.mk hq1
 have hmk : ∀ W, (Instr.makeSlice 39 (.int .i64 (N : Int)) (.int .i64 (N : Int))).run Try.prog W = .ok (.slice (some ⟨W.heap.size, 0, none⟩) N N) (W.alloc (.cells (boolV N fun _ => false) 4)) := fun W => make_bools W N (by omega)
 have a1 : ((q : Int) < 1) = False := eq_false (by omega)
 have a2 : decide ((q : Int) < 1) = false := decide_eq_false (by omega)
 have a3 : ((q : Int) = 2) = False := eq_false (by omega)
 have a4 : ((q : Int) == 2) = false := beq_eq_false_iff_ne.2 (by omega)
 have a5 : ((N : Int) < (q : Int)) = False := eq_false (by omega)
 have a6 : decide ((N : Int) < (q : Int)) = false := decide_eq_false (by omega)
 have a7 : (N < q) = False := eq_false (by omega)
 have a8 : (q = 0) = False := eq_false (by omega)
 have a9 : (q = 2) = False := eq_false (by omega)
 clear hr hc hm hr0 hr1 hN hN1 hC hlen hks hq1
 go_enter Try.func4, Try.ntmps4
 go_wp2_with (first
  | (
    go_at_call 23; (with_reducible refine (HMOD.out _).mono ?_); rintro e w1 ⟨rfl, hd⟩
    have HB1 := Aside0.mk (below_then (Below.refl _ _) (Nat.le_refl _) hd.below)
    clear hd))
 rw [HW.out]
 go_wp2_with (first
  | (
    go_at_call 24; (with_reducible refine (HCT.out _ HB1.out).mono ?_); rintro e w2 ⟨A2, c2, rfl, hc2, hr2, hb⟩
    have HB2 := Aside0.mk (below_then HB1.out HB1.out.size hb); have HR2 := Aside0.mk hr2; have HC2 := Aside0.mk hc2; clear hc2 hr2 hb)
  | (
    go_at_call 25; (with_reducible refine (HKI.out _ _ _ HR2.out).mono ?_); rintro e w3 ⟨v, rfl, ho, hb⟩
    obtain ⟨A3, c3, rfl, hc3, hr3⟩ := ho.row
    rw [HQ.out] at hc3 ⊢
    have HB3 := Aside0.mk (below_then HB2.out HB2.out.size hb); have HR3 := Aside0.mk (HR2.out.below hb); have HK3 := Aside0.mk hr3; clear hc3 hr3 ho hb))
 have HG0 := Aside0.mk (show (w3.alloc (.cells (boolV N fun _ => false) 4)).heap[w3.heap.size]? = some (.cells (boolV N (mkS (kl t) 0)) 4 (0, 0)) from by rw [mkS_zero]; exact blk_new w3 _)
 have HA0 := Aside0.mk (below_alloc (Below.refl w3.heap.size w3) (.cells (boolV N fun _ => false) 4))
 clear hmk
 go_loopw [9] (fun iv wr => ∃ i : Nat, i ≤ q ∧ iv = .int .i64 (i : Int) ∧ Aside0 (wr.heap[w3.heap.size]? = some (.cells (boolV N (mkS (kl t) i)) 4 (0, 0))) ∧ Aside0 (Below w3.heap.size w3 wr)) (fun iv _ => q - (intOf iv).toNat)
 case atStart => exact ⟨0, Nat.zero_le _, rfl, HG0, HA0⟩
 case round =>
  obtain ⟨i, hi, rfl, HG, HBw⟩ := hrel
  by_cases hil : i < q
  ·have HI := Aside0.mk hil
   have hz : (i : Int) < (q : Int) := by omega
   obtain ⟨x, hx⟩ : ∃ x, (kl t)[i]? = some x := ⟨_, List.getElem?_eq_getElem (by rw [HQK.out]; exact hil)⟩
   have hkx : (kingsUp t N)[i]? = some (x : Int) := by rw [← HLEN.out, kings_kl, List.getElem?_map, hx]; rfl
   have hxN : x < N := by
    have := List.mem_of_getElem? hx
    unfold kl at this
    rw [List.mem_filter, List.mem_range, HLEN.out] at this
    exact this.1
   have HX := Aside0.mk hx
   have HXN := Aside0.mk hxN
   obtain ⟨ad, z, h1, hA, c1⟩ := RowI.at_ (HK3.out.below HBw.out) (i := i) (by rw [HQ.out]; exact hil)
   obtain rfl : z = (x : Int) := by rw [hkx] at h1; exact (Option.some.inj h1).symm
   subst hA
   have b1 : ((x : Int) < 0) = False := eq_false (by omega)
   have b2 : decide ((x : Int) < 0) = false := decide_eq_false (by omega)
   have b3 : ((N : Int) ≤ (x : Int)) = False := eq_false (by omega)
   have b4 : decide ((N : Int) ≤ (x : Int)) = false := decide_eq_false (by omega)
   have b5 : (N ≤ x) = False := eq_false (by omega)
   have b14 : (x : Int) < (N : Int) := by omega
   have hi1 := Aside0.mk (show wrap64 ((i : Int) + 1) = ((i + 1 : Nat) : Int) from nxtN (by have := HQ1.out; have := HN.out; omega))
   by_cases hi0 : i = 0
   ·have b6 : ((0 : Int) < (i : Int)) = False := eq_false (by omega)
    have b7 : decide ((0 : Int) < (i : Int)) = false := decide_eq_false (by omega)
    have b8 : (0 < i) = False := eq_false (by omega)
    clear hi hil hx hkx h1 hxN hi0
    go_wp2
    go_quiet (fail)
    have HGq := Aside0.mk (blk_below HG.out (pw_below_drewN (Below.refl _ _) nq))
    have HBq := Aside0.mk (pw_below_drewN HBw.out nq)
    have cq := pw_cell_below (pw_below_drewN (Below.refl _ _) nq) c1
    clear c1 HG HBw
    generalize wr.drewN nq = wq at HGq HBq cq ⊢
    have k1 := (blk_cell HGq.out x).trans (boolV_get HXN.out)
    have f1 := blk_frozen HGq.out x
    have HGn := Aside0.mk (show (wq.setCell ⟨w3.heap.size, x, none⟩ (.bool true)).heap[w3.heap.size]? = some (.cells (boolV N (mkS (kl t) (i + 1))) 4 (0, 0)) from by rw [blk_set HGq.out, boolV_put HXN.out, mkS_succ HX.out])
    have HBn := Aside0.mk (HBq.out.setCell (p := ⟨w3.heap.size, x, none⟩) (Nat.le_refl _) (.bool true))
    go_wp2
    go_roundw
    ·exact ⟨i + 1, HI.out, congrArg (Value.int .i64) hi1.out, HGn, HBn⟩
    ·rw [hi1.out]; have := HI.out; simp only [intOf]; omega
   ·have b6 : ((0 : Int) < (i : Int)) = True := eq_true (by omega)
    have b7 : decide ((0 : Int) < (i : Int)) = true := decide_eq_true (by omega)
    have b8 : (0 < i) = True := eq_true (by omega)
    obtain ⟨i', rfl⟩ : ∃ i', i = i' + 1 := ⟨i - 1, by omega⟩
    obtain ⟨y, hy⟩ : ∃ y, (kl t)[i']? = some y := ⟨_, List.getElem?_eq_getElem (by rw [HQK.out]; omega)⟩
    have hky : (kingsUp t N)[i']? = some (y : Int) := by rw [← HLEN.out, kings_kl, List.getElem?_map, hy]; rfl
    have hyx : y < x := by
     obtain ⟨l1, e1⟩ := List.getElem?_eq_some_iff.1 hy
     obtain ⟨l2, e2⟩ := List.getElem?_eq_some_iff.1 hx
     rw [← e1, ← e2]
     exact List.pairwise_iff_getElem.1 (kl_lt t) _ _ l1 l2 (by omega)
    obtain ⟨ad', z, h2, hA, c0⟩ := RowI.at_ (HK3.out.below HBw.out) (i := i') (by rw [HQ.out]; omega)
    obtain rfl : z = (y : Int) := by rw [hky] at h2; exact (Option.some.inj h2).symm
    cases hA
    have b9 : ((x : Int) ≤ (y : Int)) = False := eq_false (by omega)
    have b10 : decide ((x : Int) ≤ (y : Int)) = false := decide_eq_false (by omega)
    have b11 : (x ≤ y) = False := eq_false (by omega)
    have he : ((i' + 1 : Nat) : Int) - 1 = (i' : Int) := by omega
    have b12 : (0 : Int) ≤ (i' : Int) := by omega
    have b13 : (i' : Int) < (q : Int) := by omega
    have hw1 : wrap64 (((i' + 1 : Nat) : Int) - 1) = (i' : Int) := by rw [he]; exact w64 (by omega) (by have := HQ1.out; have := HN.out; omega)
    clear hi hil hx hkx h1 hxN hi0 hy hky hyx h2 he
    generalize i' + 1 = i at *
   
    go_wp2
    go_quiet (fail)
    have HGq := Aside0.mk (blk_below HG.out (pw_below_drewN (Below.refl _ _) nq))
    have HBq := Aside0.mk (pw_below_drewN HBw.out nq)
    have cq := pw_cell_below (pw_below_drewN (Below.refl _ _) nq) c1
    clear c1 HG HBw
    generalize wr.drewN nq = wq at HGq HBq cq ⊢
    have k1 := (blk_cell HGq.out x).trans (boolV_get HXN.out)
    have f1 := blk_frozen HGq.out x
    have HGn := Aside0.mk (show (wq.setCell ⟨w3.heap.size, x, none⟩ (.bool true)).heap[w3.heap.size]? = some (.cells (boolV N (mkS (kl t) (i + 1))) 4 (0, 0)) from by rw [blk_set HGq.out, boolV_put HXN.out, mkS_succ HX.out])
    have HBn := Aside0.mk (HBq.out.setCell (p := ⟨w3.heap.size, x, none⟩) (Nat.le_refl _) (.bool true))
    go_wp2
    go_roundw
    ·exact ⟨i + 1, HI.out, congrArg (Value.int .i64) hi1.out, HGn, HBn⟩
    ·rw [hi1.out]; have := HI.out; simp only [intOf]; omega
  ·obtain rfl : q = i := by omega
   have HMK := Aside0.mk (fun (x : Nat) (hx : x < N) => (show mkS (kl t) q x = kingB t x from by rw [← HQK.out]; exact mkS_all HLEN.out hx))
   have HBx := Aside0.mk (below_then HB3.out HB3.out.size HBw.out)
   have HRx := Aside0.mk (HR3.out.below HBw.out)
   clear hi hil
   go_wp2_with (first
    | (
      go_at_call 26; (with_reducible refine (HSC.out _ _ HC2.out _ HRx.out).mono ?_); rintro e w5 ⟨v, rfl, ho, hb⟩
      obtain ⟨A5, c5, rfl, hc5, hr5⟩ := (OwnI.ofR ho).row
      rw [HSL.out] at hc5 ⊢
      have HB5 := Aside0.mk (below_then HBx.out HBx.out.size hb); have HR5 := Aside0.mk (HRx.out.below hb); have HS5 := Aside0.mk hr5
      have HG5 := Aside0.mk (blk_below HG.out hb); clear hc5 hr5 ho hb))
   obtain ⟨ad5, _, _, hA5, _⟩ := RowI.at_ HS5.out (i := 0) (by rw [HSL.out]; have := HN.out; omega)
   subst hA5
   have HSA := Aside0.mk (fun (i : Nat) (hi : i < N) => (show w5.cell? (ad5.add i) = some (.int .i64 (scN t i : Int)) from by
    obtain ⟨ad, z, h1, hA, c1⟩ := RowI.at_ HS5.out (i := i) (by rw [HSL.out]; exact hi)
    cases hA
    rw [sc_at HIC.out (by rw [HLEN.out]; exact hi)] at h1
    cases h1
    exact c1))
   go_loopw [12, 11] (fun iv tv wr => ∃ (i tp : Nat), i ≤ N ∧ iv = .int .i64 (i : Int) ∧ tv = .int .i64 (tp : Int) ∧ Aside0 (∀ j, j < i → scN t j ≤ tp) ∧ Aside0 (tp = 0 ∨ ∃ j, j < i ∧ scN t j = tp) ∧ w5 = wr) (fun iv _ _ => N - (intOf iv).toNat)
   case atStart => exact ⟨0, 0, Nat.zero_le _, rfl, rfl, ⟨fun j hj => absurd hj (Nat.not_lt_zero _)⟩, ⟨.inl rfl⟩, rfl⟩
   case round =>
    rename World => wz
    obtain ⟨i, tp, hi, rfl, rfl, HLE, HEX, rfl⟩ := hrel
    by_cases hil : i < N
    ·have HI := Aside0.mk hil
     have hz : (i : Int) < (N : Int) := by omega
     have c1 := HSA.out i hil
     obtain ⟨s, HSC2⟩ : ∃ s, Aside0 (scN t i = s) := ⟨_, ⟨rfl⟩⟩
     rw [HSC2.out] at c1
     have hi1 := Aside0.mk (show wrap64 ((i : Int) + 1) = ((i + 1 : Nat) : Int) from nxtN (by have := HN.out; omega))
     by_cases hts : tp < s
     ·have b1 : ((tp : Int) < (s : Int)) = True := eq_true (by omega)
      have b2 : (tp < s) = True := eq_true hts
      have HTS := Aside0.mk hts
      clear hi hil hts
      go_wp2
      go_roundw
      ·refine ⟨i + 1, s, HI.out, congrArg (Value.int .i64) hi1.out, rfl, ⟨fun j hj => ?_⟩, ⟨.inr ⟨i, Nat.lt_succ_self i, HSC2.out⟩⟩, trivial⟩
       by_cases hji : j = i
       ·subst hji; exact Nat.le_of_eq HSC2.out
       ·have := HLE.out j (by omega); have := HTS.out; omega
      ·rw [hi1.out]; have := HI.out; simp only [intOf]; omega
     ·have b1 : ((tp : Int) < (s : Int)) = False := eq_false (by omega)
      have b2 : (tp < s) = False := eq_false hts
      have HTS := Aside0.mk hts
      clear hi hil hts
      go_wp2
      go_roundw
      ·refine ⟨i + 1, tp, HI.out, congrArg (Value.int .i64) hi1.out, rfl, ⟨fun j hj => ?_⟩, ⟨HEX.out.imp_right fun ⟨j, hj, e⟩ => ⟨j, Nat.lt_succ_of_lt hj, e⟩⟩, trivial⟩
       by_cases hji : j = i
       ·subst hji; have := HSC2.out; have := HTS.out; omega
       ·exact HLE.out j (by omega)
      ·rw [hi1.out]; have := HI.out; simp only [intOf]; omega
    ·obtain rfl : N = i := by omega
     have hle := HLE.out
     have hex : ∃ j, j < N ∧ scN t j = tp := by
      rcases HEX.out with h | h
      ·have hN := HN.out
       exact ⟨0, by omega, by have := hle 0 (by omega); omega⟩
      ·exact h
     obtain ⟨M, HM⟩ : ∃ M, Aside0 (N = M + 1) := ⟨N - 1, ⟨by have := HN.out; omega⟩⟩
     have HLE' := Aside0.mk hle
     have HEX' := Aside0.mk hex
     clear hle hex HLE HEX hi hil
     have HWM := Aside0.mk (show wrap64 ((N : Int) - 1) = (M : Int) from by rw [show (N : Int) - 1 = (M : Int) by have := HM.out; omega]; exact w64 (by omega) (by have := HM.out; have := HN.out; omega))
     have HONE := Aside0.mk (show q = 1 ↔ tp = M from by
      rw [← HQK.out, KF.out.one]
      constructor
      ·rintro ⟨v, hv, e⟩
       obtain ⟨j, hj, e2⟩ := HEX'.out
       have := HLE'.out v hv; have := KF.out.sc j hj; have := HM.out
       omega
      ·intro e
       obtain ⟨j, hj, e2⟩ := HEX'.out
       exact ⟨j, hj, by have := HM.out; omega⟩)
     obtain ⟨ad2, _, _, hA2, _, _⟩ := g2_cell HR5.out HLEN.out (fun i y h => by have := HIC.out.rows i y h; rw [HLEN.out] at this; exact this) (i := 0) (j := 0) (by have := HN.out; omega) (by have := HN.out; omega)
     subst hA2
     have HGC := Aside0.mk (fun (i j : Nat) (hi : i < N) (hj : j < N) => (show ∃ ai ci, w5.cell? (ad2.add i) = some (.slice (some ai) N ci) ∧ w5.cell? (ai.add j) = some (.int .i64 (g2 t i j)) from by
      obtain ⟨ad, ai, ci, hA, h1, h2⟩ := g2_cell HR5.out HLEN.out (fun i y h => by have := HIC.out.rows i y h; rw [HLEN.out] at this; exact this) hi hj
      cases hA
      exact ⟨ai, ci, h1, h2⟩))
     go_wp2
     go_loopw [13] (fun iv wr => ∃ i : Nat, i ≤ N ∧ iv = .int .i64 (i : Int) ∧ w5 = wr) (fun iv _ => N - (intOf iv).toNat)
     case atStart => exact ⟨0, Nat.zero_le _, rfl, rfl⟩
     case round =>
      rename World => wz
      obtain ⟨i, hi, rfl, rfl⟩ := hrel
      by_cases hil : i < N
      ·have HI := Aside0.mk hil
       have hz : (i : Int) < (N : Int) := by omega
       have c1 := HSA.out i hil
       have k1 := (blk_cell HG5.out i).trans (boolV_get HI.out)
       rw [HMK.out i hil] at k1
       obtain ⟨s, HSC2⟩ : ∃ s, Aside0 (scN t i = s) := ⟨_, ⟨rfl⟩⟩
       rw [HSC2.out] at c1
       have hi1 := Aside0.mk (show wrap64 ((i : Int) + 1) = ((i + 1 : Nat) : Int) from nxtN (by have := HN.out; omega))
       have HBT := Aside0.mk (show s < M → bU t i N = true from fun h => by
        obtain ⟨j, hj, h1, h2⟩ := KF.out.beat i hil (by have := HSC2.out; have := HM.out; omega)
        unfold bU
        rw [List.any_eq_true]
        exact ⟨j, List.mem_range.2 hj, by rw [h1, h2]; rfl⟩)
       clear hi hil
       by_cases hst : s = tp
       ·have hk : kingB t i = true := KF.out.top i HI.out (fun j hj => by have := HLE'.out j hj; have := HSC2.out; omega)
        rw [hk] at k1
        have b1 : ((s : Int) = (tp : Int)) = True := eq_true (by omega)
        have b2 : ((s : Int) == (tp : Int)) = true := beq_iff_eq.2 (by omega)
        have b3 : (s = tp) = True := eq_true hst
        have b4 : decide ((s : Int) = (tp : Int)) = true := decide_eq_true (by omega)
        clear hst hk
        go_wp2
        go_loopw [15, 14] (fun jv bv wr => ∃ j : Nat, j ≤ N ∧ jv = .int .i64 (j : Int) ∧ bv = .bool (bU t i j) ∧ w5 = wr) (fun jv _ _ => N - (intOf jv).toNat)
        case atStart => exact ⟨0, Nat.zero_le _, rfl, rfl, rfl⟩
        case round =>
         rename World => wz
         obtain ⟨j, hj, rfl, rfl, rfl⟩ := hrel
         by_cases hjl : j < N
         ·have HJ := Aside0.mk hjl
          have hz2 : (j : Int) < (N : Int) := by omega
          have k2 := (blk_cell HG5.out j).trans (boolV_get HJ.out)
          rw [HMK.out j hjl] at k2
          obtain ⟨ai, ci, m1, m2⟩ := HGC.out j i hjl HI.out
          have hj1 := Aside0.mk (show wrap64 ((j : Int) + 1) = ((j + 1 : Nat) : Int) from nxtN (by have := HN.out; omega))
          have HBS := Aside0.mk (bU_succ t i j)
          clear hj hjl
          cases hb : bU t i j with
          | true =>
           rw [hb] at HBS
           clear hb
           go_wp2
           go_roundw
           ·exact ⟨j + 1, HJ.out, congrArg (Value.int .i64) hj1.out, by rw [HBS.out]; rfl, trivial⟩
           ·rw [hj1.out]; have := HJ.out; simp only [intOf]; omega
          | false =>
           rw [hb] at HBS
           clear hb
           cases hk2 : kingB t j with
           | false =>
            rw [hk2] at HBS k2
            clear hk2
            go_wp2
            go_roundw
            ·exact ⟨j + 1, HJ.out, congrArg (Value.int .i64) hj1.out, by rw [HBS.out]; rfl, trivial⟩
            ·rw [hj1.out]; have := HJ.out; simp only [intOf]; omega
           | true =>
            rw [hk2] at HBS k2
            clear hk2
            by_cases hg : g2 t j i = 1
            ·have d1 : (g2 t j i == 1) = true := beq_iff_eq.2 hg
             have HD := Aside0.mk d1
             clear hg
             go_wp2
             go_roundw
             ·exact ⟨j + 1, HJ.out, congrArg (Value.int .i64) hj1.out, by rw [HBS.out, HD.out]; rfl, trivial⟩
             ·rw [hj1.out]; have := HJ.out; simp only [intOf]; omega
            ·have d1 : (g2 t j i == 1) = false := beq_eq_false_iff_ne.2 hg
             have d2 : (g2 t j i = 1) = False := eq_false hg
             have HD := Aside0.mk d1
             clear hg
             go_wp2
             go_roundw
             ·exact ⟨j + 1, HJ.out, congrArg (Value.int .i64) hj1.out, by rw [HBS.out, HD.out]; rfl, trivial⟩
             ·rw [hj1.out]; have := HJ.out; simp only [intOf]; omega
         ·obtain rfl : N = j := by omega
          clear hj hjl
          by_cases hsM : s < M
          ·have hb := HBT.out hsM
           rw [hb]
           have d1 : ((s : Int) < (M : Int)) = True := eq_true (by omega)
           have d2 : decide ((s : Int) < (M : Int)) = true := decide_eq_true (by omega)
           have d3 : (s < M) = True := eq_true hsM
           clear hsM hb
           have hwm := HWM.out
           go_wp2
           clear hwm
           go_roundw
           ·exact ⟨i + 1, HI.out, congrArg (Value.int .i64) hi1.out, trivial⟩
           ·rw [hi1.out]; have := HI.out; simp only [intOf]; omega
          ·have d1 : ((s : Int) < (M : Int)) = False := eq_false (by omega)
           have d2 : decide ((s : Int) < (M : Int)) = false := decide_eq_false (by omega)
           have d3 : (s < M) = False := eq_false hsM
           clear hsM
           have hwm := HWM.out
           go_wp2
           clear hwm
           go_roundw
           ·exact ⟨i + 1, HI.out, congrArg (Value.int .i64) hi1.out, trivial⟩
           ·rw [hi1.out]; have := HI.out; simp only [intOf]; omega
       ·have b1 : ((s : Int) = (tp : Int)) = False := eq_false (by omega)
        have b2 : ((s : Int) == (tp : Int)) = false := beq_eq_false_iff_ne.2 (by omega)
        have b3 : (s = tp) = False := eq_false hst
        have b4 : decide ((s : Int) = (tp : Int)) = false := decide_eq_false (by omega)
        clear hst
        go_wp2
        go_loopw [15, 14] (fun jv bv wr => ∃ j : Nat, j ≤ N ∧ jv = .int .i64 (j : Int) ∧ bv = .bool (bU t i j) ∧ w5 = wr) (fun jv _ _ => N - (intOf jv).toNat)
        case atStart => exact ⟨0, Nat.zero_le _, rfl, rfl, rfl⟩
        case round =>
         rename World => wz
         obtain ⟨j, hj, rfl, rfl, rfl⟩ := hrel
         by_cases hjl : j < N
         ·have HJ := Aside0.mk hjl
          have hz2 : (j : Int) < (N : Int) := by omega
          have k2 := (blk_cell HG5.out j).trans (boolV_get HJ.out)
          rw [HMK.out j hjl] at k2
          obtain ⟨ai, ci, m1, m2⟩ := HGC.out j i hjl HI.out
          have hj1 := Aside0.mk (show wrap64 ((j : Int) + 1) = ((j + 1 : Nat) : Int) from nxtN (by have := HN.out; omega))
          have HBS := Aside0.mk (bU_succ t i j)
          clear hj hjl
          cases hb : bU t i j with
          | true =>
           rw [hb] at HBS
           clear hb
           go_wp2
           go_roundw
           ·exact ⟨j + 1, HJ.out, congrArg (Value.int .i64) hj1.out, by rw [HBS.out]; rfl, trivial⟩
           ·rw [hj1.out]; have := HJ.out; simp only [intOf]; omega
          | false =>
           rw [hb] at HBS
           clear hb
           cases hk2 : kingB t j with
           | false =>
            rw [hk2] at HBS k2
            clear hk2
            go_wp2
            go_roundw
            ·exact ⟨j + 1, HJ.out, congrArg (Value.int .i64) hj1.out, by rw [HBS.out]; rfl, trivial⟩
            ·rw [hj1.out]; have := HJ.out; simp only [intOf]; omega
           | true =>
            rw [hk2] at HBS k2
            clear hk2
            by_cases hg : g2 t j i = 1
            ·have d1 : (g2 t j i == 1) = true := beq_iff_eq.2 hg
             have HD := Aside0.mk d1
             clear hg
             go_wp2
             go_roundw
             ·exact ⟨j + 1, HJ.out, congrArg (Value.int .i64) hj1.out, by rw [HBS.out, HD.out]; rfl, trivial⟩
             ·rw [hj1.out]; have := HJ.out; simp only [intOf]; omega
            ·have d1 : (g2 t j i == 1) = false := beq_eq_false_iff_ne.2 hg
             have d2 : (g2 t j i = 1) = False := eq_false hg
             have HD := Aside0.mk d1
             clear hg
             go_wp2
             go_roundw
             ·exact ⟨j + 1, HJ.out, congrArg (Value.int .i64) hj1.out, by rw [HBS.out, HD.out]; rfl, trivial⟩
             ·rw [hj1.out]; have := HJ.out; simp only [intOf]; omega
         ·obtain rfl : N = j := by omega
          clear hj hjl
          by_cases hsM : s < M
          ·have hb := HBT.out hsM
           rw [hb]
           have d1 : ((s : Int) < (M : Int)) = True := eq_true (by omega)
           have d2 : decide ((s : Int) < (M : Int)) = true := decide_eq_true (by omega)
           have d3 : (s < M) = True := eq_true hsM
           clear hsM hb
           have hwm := HWM.out
           go_wp2
           clear hwm
           go_roundw
           ·exact ⟨i + 1, HI.out, congrArg (Value.int .i64) hi1.out, trivial⟩
           ·rw [hi1.out]; have := HI.out; simp only [intOf]; omega
          ·have d1 : ((s : Int) < (M : Int)) = False := eq_false (by omega)
           have d2 : decide ((s : Int) < (M : Int)) = false := decide_eq_false (by omega)
           have d3 : (s < M) = False := eq_false hsM
           clear hsM
           have hwm := HWM.out
           go_wp2
           clear hwm
           go_roundw
           ·exact ⟨i + 1, HI.out, congrArg (Value.int .i64) hi1.out, trivial⟩
           ·rw [hi1.out]; have := HI.out; simp only [intOf]; omega
      ·obtain rfl : N = i := by omega
       clear hi hil
       have hwm := HWM.out
       by_cases hqq : q = 1
       ·have htM := HONE.out.1 hqq
        have d1 : ((q : Int) = 1) = True := eq_true (by omega)
        have d2 : ((q : Int) == 1) = true := beq_iff_eq.2 (by omega)
        have d3 : ((tp : Int) = (M : Int)) = True := eq_true (by omega)
        have d4 : ((tp : Int) == (M : Int)) = true := beq_iff_eq.2 (by omega)
        have d5 : (q = 1) = True := eq_true hqq
        have d6 : (tp = M) = True := eq_true htM
        clear hqq htM
        go_wp2_with (first
         | (
           go_at_call 19; (with_reducible refine (awake_calls _).mono ?_); rintro e w7 ⟨rfl, hb⟩
           have HB7 := Aside0.mk (below_then HB5.out HB5.out.size hb); clear hb))
        clear hwm
        go_ret
        exact ⟨rfl, HB7.out⟩
       ·have htM : ¬ tp = M := fun h => hqq (HONE.out.2 h)
        have d1 : ((q : Int) = 1) = False := eq_false (by omega)
        have d2 : ((q : Int) == 1) = false := beq_eq_false_iff_ne.2 (by omega)
        have d3 : ((tp : Int) = (M : Int)) = False := eq_false (by omega)
        have d4 : ((tp : Int) == (M : Int)) = false := beq_eq_false_iff_ne.2 (by omega)
        have d5 : (q = 1) = False := eq_false hqq
        have d6 : (tp = M) = False := eq_false htM
        clear hqq htM
        go_wp2_with (first
         | (
           go_at_call 19; (with_reducible refine (awake_calls _).mono ?_); rintro e w7 ⟨rfl, hb⟩
           have HB7 := Aside0.mk (below_then HB5.out HB5.out.size hb); clear hb))
        clear hwm
        go_ret
        exact ⟨rfl, HB7.out⟩
theorem tickinglaw09_ScoresKings.calls (k : Nat) (A : Option Addr) (c : Nat) (l : List (List Int)) (n : Int) (r : Bool) (w : World) (hr : Kd.C (Kd.slice 3 (Kd.int .i64)) w A l.length l) (hc : l.length ≤ c) (h : tickinglaw09_ScoresKings.f k l n = some r) :
  Calls Try.prog 4 #[.slice A l.length c, .int .i64 n] w fun e w' => e = .returned (.bool r) ∧ Below w.heap.size w w' := by
 obtain rfl := Option.some.inj h
 exact kings_law A c l n w hr hc
end Go.Proofs.Ytcploeijeedmdaa.X
