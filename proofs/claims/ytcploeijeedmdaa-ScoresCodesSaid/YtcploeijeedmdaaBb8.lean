/- The contract of centers. Texts of this claim's session, put together: STre, SNear, SCode, SCen. -/
import Derived.Test.YtcploeijeedmdaaBb7
import Derived.Laws.EntriesVeiled
import Derived.Test.YtcploeijeedmdaaVWords
import Derived.Test.YtcploeijeedmdaaVLast
import Derived.Test.YtcploeijeedmdaaVRepsOne
namespace Go.Proofs.Ytcploeijeedmdaa.X
open Go.RowKit Go.Shelf Go.Maps Go.Proofs.YtcploeijeedmdaaW.PrintWords Go.Proofs.YtcploeijeedmdaaW.PrintLast Go.Proofs.Ytcploeijeedmdaa.S
set_option linter.unusedVariables false
set_option linter.unusedSimpArgs false
set_option maxHeartbeats 4000000 in
set_option maxRecDepth 100000 in
theorem newTree_calls (n : Int) (A : Option Addr) (c : Nat) (P : List (Int × Int)) (w : World) (hr : RowP w A P) :
  Calls Try.prog 48 #[.int .i64 n, .slice A P.length c] w fun e w' => ∃ (A' : Option Addr) (m c' : Nat) (ok : Bool), e = .returned (.tuple #[.slice A' m c', .bool ok]) ∧ Below w.heap.size w w' ∧ (ok = true ↔ IsTree n P) ∧ (ok = true → (m : Int) = n ∧ RowLL w' A' (toI (treeOf n.toNat P))) := by
 cases h1 : inR n 2 20 with
 | false =>
  have HW := Aside0.mk (fun W => scores_within.calls n 2 20 false W (by rw [within_f, h1]))
  have HF := Aside0.mk (show ¬ IsTree n P from fun h => by
   have h2 := inR_iff.2 ⟨h.lo, h.hi⟩
   rw [h1] at h2
   cases h2)
  clear h1 hr
  go_enter Try.func48, Try.ntmps48
  go_wp2_with (go_at_call 62; (with_reducible refine (HW.out _).mono ?_); rintro e w' ⟨rfl, ⟨nd, rfl⟩⟩)
  go_ret2
  exact ⟨none, 0, 0, false, rfl, pw_below_drewN (Below.refl _ _) nd, ⟨fun h => (by cases h), fun h => absurd h HF.out⟩, fun h => (by cases h)⟩
 | true =>
  obtain ⟨l1, l2⟩ := inR_iff.1 h1
  obtain ⟨N, rfl⟩ := Int.eq_ofNat_of_zero_le (show 0 ≤ n by omega)
  have HW := Aside0.mk (fun W => scores_within.calls (N : Int) 2 20 true W (by rw [within_f, h1]))
  have HN := Aside0.mk (show 2 ≤ N ∧ N ≤ 20 by omega)
  clear h1
  have HW1 := Aside0.mk (show wrap64 ((N : Int) - 1) = (N : Int) - 1 from w64 (by omega) (by omega))
  clear l1 l2
  obtain ⟨k, HK⟩ : ∃ k, Aside0 (P.length = k) := ⟨_, ⟨rfl⟩⟩
  rw [HK.out]
  by_cases hl : k + 1 = N
  ·have HL := Aside0.mk hl
   have q3 : ((k : Int) == wrap64 ((N : Int) - 1)) = true := by rw [HW1.out]; exact beq_iff_eq.2 (by omega)
   have q1 : ((k : Int) = wrap64 ((N : Int) - 1)) = True := by rw [HW1.out]; exact eq_true (by omega)
   have q5 : ((k : Int) != wrap64 ((N : Int) - 1)) = false := by unfold bne; rw [q3]; rfl
   have HR := Aside0.mk hr
   clear hl hr
   go_enter Try.func48, Try.ntmps48
   go_wp2_with (first
    | (
      go_at_call 62; (with_reducible refine (HW.out _).mono ?_); rintro e w' ⟨rfl, ⟨nd, rfl⟩⟩
      have hmk := make_rows (w.drewN nd) N (by have := HN.out; omega)
      have HT := Aside0.mk (show Tr ((w.drewN nd).alloc (.cells (List.replicate N (.slice none 0 0)).toArray 24)) w.heap.size w.heap.size N (fun _ => []) (List.replicate N (.slice none 0 0)) from Tr.made (w.drewN nd) w.heap.size N (Nat.le_refl _))
      have HB := Aside0.mk (below_alloc (pw_below_drewN (Below.refl w.heap.size w) nd) (.cells (List.replicate N (Value.slice none 0 0)).toArray 24)))
    | (
      refine bxE 6 #[.slice none 0 0] 71 ?_; intro g6 hg6 w6 hb6 hB6
      obtain rfl : g6 = w.heap.size + 1 := by rw [hg6]; simp
      have HG6 := Aside0.mk hb6
      have HT6 := Aside0.mk (HT.out.grown hB6)
      have HB6 := Aside0.mk (below_then HB.out HB.out.size hB6)
      have c6 : w6.cell? ⟨w.heap.size + 1, 0, none⟩ = some (.slice none 0 0) := (blk_cell hb6 0).trans rfl
      have f6 : w6.frozen? ⟨w.heap.size + 1, 0, none⟩ = false := blk_frozen hb6 0
      clear hb6 hB6 hmk HT HB hg6))
   have HG := Aside0.mk (show (w6.setCell ⟨w.heap.size + 1, 0, none⟩ (.slice (some ⟨w.heap.size, 0, none⟩) N N)).heap[w.heap.size + 1]? = some (.cells #[.slice (some ⟨w.heap.size, 0, none⟩) N N] 71 (0, 0)) from by rw [blk_set HG6.out]; rfl)
   have HTS := Aside0.mk (HT6.out.far (i := 0) (show w.heap.size + 1 ≠ w.heap.size by omega) (.slice (some ⟨w.heap.size, 0, none⟩) N N) HG6.out (by decide))
   have HBS := Aside0.mk (HB6.out.setCell (p := ⟨w.heap.size + 1, 0, none⟩) (Nat.le_succ _) (.slice (some ⟨w.heap.size, 0, none⟩) N N))
   clear HT6 HB6 HG6 c6 f6
   generalize w6.setCell ⟨w.heap.size + 1, 0, none⟩ (.slice (some ⟨w.heap.size, 0, none⟩) N N) = w7 at HG HTS HBS ⊢
   go_loopw [25] (fun iv wr => ∃ (i : Nat) (vs : List Value), i ≤ k ∧ iv = .int .i64 (i : Int) ∧ Aside0 (Tr wr w.heap.size w.heap.size N (nbs (P.take i)) vs) ∧ Aside0 (wr.heap[w.heap.size + 1]? = some (.cells #[.slice (some ⟨w.heap.size, 0, none⟩) N N] 71 (0, 0))) ∧ Aside0 (Below w.heap.size w wr) ∧ Aside0 (∀ p ∈ P.take i, okP N p)) (fun iv _ => k - (intOf iv).toNat)
   case atStart => exact ⟨0, _, Nat.zero_le _, rfl, HTS, HG, HBS, ⟨fun p hp => by simp at hp⟩⟩
   case round =>
    obtain ⟨i, vs, hi, rfl, HTR, HGR, HBR, HOK⟩ := hrel
    by_cases hil : i < k
    ·have hz : (i : Int) < (k : Int) := by omega
     have HI := Aside0.mk hil
     obtain ⟨ad, x, y, hp, e, c0, c1⟩ := (HR.out.below HBR.out).at_ (i := i) (by rw [HK.out]; exact hil)
     subst e
     have HP := Aside0.mk hp
     have HTK := Aside0.mk (show P.take (i + 1) = P.take i ++ [(x, y)] by rw [List.take_add_one, hp]; rfl)
     have HNO := Aside0.mk (fun (h : ¬ okP N (x, y)) => (show ¬ IsTree N P from fun ht => h (ht.ok _ (List.mem_of_getElem? HP.out))))
     clear hp hi hil
     cases hx : inR x 0 ((N : Int) - 1) with
     | false =>
      have HX := Aside0.mk (fun W => scores_within.calls x 0 (wrap64 ((N : Int) - 1)) false W (by rw [HW1.out, within_f, hx]))
      have HF := Aside0.mk (HNO.out (fun h => by
       have := inR_iff.2 (show (0 : Int) ≤ x ∧ x ≤ (N : Int) - 1 from ⟨h.1.1, by have := h.1.2; simp only at this; omega⟩)
       rw [hx] at this
       cases this))
      clear hx HNO
      go_wp2_with (first
       | (
         refine bxE 8 #[.int .i64 0, .int .i64 0] 54 ?_; intro g8 hg8 w8 hb8 hB8
         obtain rfl : g8 = wr.heap.size := hg8
         have d0 : w8.cell? ⟨wr.heap.size, 0, none⟩ = some (.int .i64 0) := (blk_cell hb8 0).trans rfl
         have d1 : w8.cell? ⟨wr.heap.size, 1, none⟩ = some (.int .i64 0) := (blk_cell hb8 1).trans rfl
         have e0 : w8.frozen? ⟨wr.heap.size, 0, none⟩ = false := blk_frozen hb8 0
         have e1 : w8.frozen? ⟨wr.heap.size, 1, none⟩ = false := blk_frozen hb8 1
         have H8 := Aside0.mk hb8; have HWR := Aside0.mk hB8
         have HB8 := Aside0.mk (below_then HBR.out HBR.out.size hB8)
         clear hb8 hB8)
       | (go_at_call 62; (with_reducible refine (HX.out _).mono ?_); rintro e w' ⟨rfl, ⟨nd1, rfl⟩⟩))
      go_ret2
      exact ⟨none, 0, 0, false, rfl, (pw_below_drewN ((HB8.out.setCell (p := ⟨wr.heap.size, 0, none⟩) HBR.out.size (.int .i64 x)).setCell (p := ⟨wr.heap.size, 1, none⟩) HBR.out.size (.int .i64 y)) (nd1)), ⟨fun h => (by cases h), fun h => absurd h HF.out⟩, fun h => (by cases h)⟩
     | true =>
      have HX := Aside0.mk (fun W => scores_within.calls x 0 (wrap64 ((N : Int) - 1)) true W (by rw [HW1.out, within_f, hx]))
      cases hy : inR y 0 ((N : Int) - 1) with
      | false =>
       have HY := Aside0.mk (fun W => scores_within.calls y 0 (wrap64 ((N : Int) - 1)) false W (by rw [HW1.out, within_f, hy]))
       have HF := Aside0.mk (HNO.out (fun h => by
        have := inR_iff.2 (show (0 : Int) ≤ y ∧ y ≤ (N : Int) - 1 from ⟨h.2.1.1, by have := h.2.1.2; simp only at this; omega⟩)
        rw [hy] at this
        cases this))
       clear hx hy HNO
       go_wp2_with (first
        | (
          refine bxE 8 #[.int .i64 0, .int .i64 0] 54 ?_; intro g8 hg8 w8 hb8 hB8
          obtain rfl : g8 = wr.heap.size := hg8
          have d0 : w8.cell? ⟨wr.heap.size, 0, none⟩ = some (.int .i64 0) := (blk_cell hb8 0).trans rfl
          have d1 : w8.cell? ⟨wr.heap.size, 1, none⟩ = some (.int .i64 0) := (blk_cell hb8 1).trans rfl
          have e0 : w8.frozen? ⟨wr.heap.size, 0, none⟩ = false := blk_frozen hb8 0
          have e1 : w8.frozen? ⟨wr.heap.size, 1, none⟩ = false := blk_frozen hb8 1
          have H8 := Aside0.mk hb8; have HWR := Aside0.mk hB8
          have HB8 := Aside0.mk (below_then HBR.out HBR.out.size hB8)
          clear hb8 hB8)
        | (go_at_call 62; (with_reducible refine (HX.out _).mono ?_); rintro e w' ⟨rfl, ⟨nd1, rfl⟩⟩)
        | (go_at_call 62; (with_reducible refine (HY.out _).mono ?_); rintro e w' ⟨rfl, ⟨nd2, rfl⟩⟩))
       go_ret2
       exact ⟨none, 0, 0, false, rfl, (pw_below_drewN ((HB8.out.setCell (p := ⟨wr.heap.size, 0, none⟩) HBR.out.size (.int .i64 x)).setCell (p := ⟨wr.heap.size, 1, none⟩) HBR.out.size (.int .i64 y)) (nd1 + nd2)), ⟨fun h => (by cases h), fun h => absurd h HF.out⟩, fun h => (by cases h)⟩
      | true =>
       have HY := Aside0.mk (fun W => scores_within.calls y 0 (wrap64 ((N : Int) - 1)) true W (by rw [HW1.out, within_f, hy]))
       obtain ⟨x0, x1⟩ := inR_iff.1 hx; obtain ⟨y0, y1⟩ := inR_iff.1 hy
       obtain ⟨a, rfl⟩ := Int.eq_ofNat_of_zero_le x0; obtain ⟨b, rfl⟩ := Int.eq_ofNat_of_zero_le y0
       have HAB := Aside0.mk (show a < N ∧ b < N by omega)
       clear hx hy x0 x1 y0 y1
       by_cases hab : a = b
       ·have q4 : ((a : Int) = (b : Int)) = True := eq_true (by omega)
        have q6 : ((a : Int) == (b : Int)) = true := beq_iff_eq.2 (by omega)
        have HF := Aside0.mk (HNO.out (fun h => h.2.2 (by show (a : Int) = (b : Int); omega)))
        clear hab HNO
        go_wp2_with (first
         | (
           refine bxE 8 #[.int .i64 0, .int .i64 0] 54 ?_; intro g8 hg8 w8 hb8 hB8
           obtain rfl : g8 = wr.heap.size := hg8
           have d0 : w8.cell? ⟨wr.heap.size, 0, none⟩ = some (.int .i64 0) := (blk_cell hb8 0).trans rfl
           have d1 : w8.cell? ⟨wr.heap.size, 1, none⟩ = some (.int .i64 0) := (blk_cell hb8 1).trans rfl
           have e0 : w8.frozen? ⟨wr.heap.size, 0, none⟩ = false := blk_frozen hb8 0
           have e1 : w8.frozen? ⟨wr.heap.size, 1, none⟩ = false := blk_frozen hb8 1
           have H8 := Aside0.mk hb8; have HWR := Aside0.mk hB8
           have HB8 := Aside0.mk (below_then HBR.out HBR.out.size hB8)
           clear hb8 hB8)
         | (go_at_call 62; (with_reducible refine (HX.out _).mono ?_); rintro e w' ⟨rfl, ⟨nd1, rfl⟩⟩)
         | (go_at_call 62; (with_reducible refine (HY.out _).mono ?_); rintro e w' ⟨rfl, ⟨nd2, rfl⟩⟩))
        go_ret2
        exact ⟨none, 0, 0, false, rfl, (pw_below_drewN ((HB8.out.setCell (p := ⟨wr.heap.size, 0, none⟩) HBR.out.size (.int .i64 a)).setCell (p := ⟨wr.heap.size, 1, none⟩) HBR.out.size (.int .i64 b)) (nd1 + nd2)), ⟨fun h => (by cases h), fun h => absurd h HF.out⟩, fun h => (by cases h)⟩
       ·have q4 : ((a : Int) = (b : Int)) = False := eq_false (by omega)
        have q7 : (a = b) = False := eq_false hab
        have q6 : ((a : Int) == (b : Int)) = false := beq_eq_false_iff_ne.2 (by omega)
        have HNE := Aside0.mk hab; clear hab HNO
        go_wp2_with (first
         | (
           refine bxE 8 #[.int .i64 0, .int .i64 0] 54 ?_; intro g8 hg8 w8 hb8 hB8
           obtain rfl : g8 = wr.heap.size := hg8
           have d0 : w8.cell? ⟨wr.heap.size, 0, none⟩ = some (.int .i64 0) := (blk_cell hb8 0).trans rfl
           have d1 : w8.cell? ⟨wr.heap.size, 1, none⟩ = some (.int .i64 0) := (blk_cell hb8 1).trans rfl
           have e0 : w8.frozen? ⟨wr.heap.size, 0, none⟩ = false := blk_frozen hb8 0
           have e1 : w8.frozen? ⟨wr.heap.size, 1, none⟩ = false := blk_frozen hb8 1
           have H8 := Aside0.mk hb8; have HWR := Aside0.mk hB8
           have HB8 := Aside0.mk (below_then HBR.out HBR.out.size hB8)
           clear hb8 hB8)
         | (go_at_call 62; (with_reducible refine (HX.out _).mono ?_); rintro e w' ⟨rfl, ⟨nd1, rfl⟩⟩)
         | (go_at_call 62; (with_reducible refine (HY.out _).mono ?_); rintro e w' ⟨rfl, ⟨nd2, rfl⟩⟩))
        have HG9 := Aside0.mk (show ((( w8.setCell ⟨wr.heap.size, 0, none⟩ (.int .i64 a)).setCell ⟨wr.heap.size, 1, none⟩ (.int .i64 b)).drewN (nd1 + nd2)).heap[w.heap.size + 1]? = some (.cells #[.slice (some ⟨w.heap.size, 0, none⟩) N N] 71 (0, 0)) from (blk_far (blk_far ((HWR.out.block _ (blk_lt HGR.out)).trans HGR.out) (by have := blk_lt HGR.out; simp only; omega) _) (by have := blk_lt HGR.out; simp only; omega) _))
        have H89 := Aside0.mk (show (((w8.setCell ⟨wr.heap.size, 0, none⟩ (.int .i64 a)).setCell ⟨wr.heap.size, 1, none⟩ (.int .i64 b)).drewN (nd1 + nd2)).heap[wr.heap.size]? = some (.cells #[.int .i64 a, .int .i64 b] 54 (0, 0)) from by
         show ((w8.setCell ⟨wr.heap.size, 0, none⟩ (.int .i64 a)).setCell ⟨wr.heap.size, 1, none⟩ (.int .i64 b)).heap[wr.heap.size]? = _
         rw [blk_set (show (w8.setCell ⟨wr.heap.size, 0, none⟩ (.int .i64 a)).heap[wr.heap.size]? = some (.cells #[.int .i64 a, .int .i64 0] 54 (0, 0)) from by rw [blk_set H8.out]; rfl)]
         rfl)
        have HB9 := Aside0.mk (pw_below_drewN ((HB8.out.setCell (p := ⟨wr.heap.size, 0, none⟩) HBR.out.size (.int .i64 a)).setCell (p := ⟨wr.heap.size, 1, none⟩) HBR.out.size (.int .i64 b)) (nd1 + nd2))
        have HBz := Aside0.mk (pw_below_drewN ((HWR.out.setCell (p := ⟨wr.heap.size, 0, none⟩) (Nat.le_refl _) (.int .i64 a)).setCell (p := ⟨wr.heap.size, 1, none⟩) (Nat.le_refl _) (.int .i64 b)) (nd1 + nd2))
        have HT9 := Aside0.mk (HTR.out.grown HBz.out)
        have HSL := Aside0.mk (show w.heap.size + 1 < wr.heap.size from blk_lt HGR.out)
        clear HB8 HWR H8 HBz d0 d1 e0 e1 HTR
        generalize ((w8.setCell ⟨wr.heap.size, 0, none⟩ (.int .i64 a)).setCell ⟨wr.heap.size, 1, none⟩ (.int .i64 b)).drewN (nd1 + nd2) = w9 at HG9 H89 HB9 HT9 ⊢
        have az : (a : Int) < (N : Int) := by have := HAB.out; omega
        have bz : (b : Int) < (N : Int) := by have := HAB.out; omega
        generalize hq8 : wr.heap.size = g8 at HSL H89 ⊢
        clear hq8
        have HLNv := Aside0.mk (show (nbs (P.take i) a).length < 1000000 by have h1 := nbs_length (P.take i) a; have h2 : (P.take i).length ≤ i := (by rw [List.length_take]; exact Nat.min_le_left _ _); have h3 := HI.out; have h4 := HL.out; have h5 := HN.out; omega)
        obtain ⟨v, hv⟩ : ∃ v, vs[a]? = some v := ⟨_, List.getElem?_eq_getElem (by rw [HT9.out.len]; have := HAB.out; omega : a < vs.length)⟩
        have Hv := Aside0.mk hv
        clear hv
        have z1 := (blk_cell HG9.out 0).trans rfl
        have z2 := (blk_cell H89.out 0).trans rfl
        have z3 := (blk_cell H89.out 1).trans rfl
        have z4 : w9.cell? ⟨w.heap.size, a, none⟩ = some v := (blk_cell HT9.out.blk a).trans (by rw [List.getElem?_toArray]; exact Hv.out)
        refine stz (fun w' => w'.cell? ⟨w.heap.size + 1, 0, none⟩ = some (.slice (some ⟨w.heap.size, 0, none⟩) N N) ∧ w'.cell? ⟨g8, 0, none⟩ = some (.int .i64 a) ∧ w'.cell? ⟨g8, 1, none⟩ = some (.int .i64 b) ∧ w'.cell? ⟨w.heap.size, a, none⟩ = some v) [13] (bn 14 0) ⟨z1, z2, z3, z4⟩ (fun hHeld => ?_)
        refine tz 0 (some 50) (bn 14 1) hHeld ?_
        refine pz 1 (some 51) (bn 14 3) ?_
        refine tz 2 (some 52) (bn 14 7) hHeld ?_
        refine tz 3 (some 53) (bn 14 15) hHeld ?_
        refine pz 4 (some 54) (bn 14 31) ?_
        refine tz 5 (some 55) (bn 14 63) hHeld ?_
        refine pz 6 (some 56) (bn 14 127) ?_
        refine tz 7 (some 57) (bn 14 255) hHeld ?_
        refine pz 8 (some 58) (bn 14 511) ?_
        refine tz 9 (some 59) (bn 14 1023) hHeld ?_
        refine oz 10 (some 60) (bn 14 2047) (fun K hK => ?_)
        refine vz ?_
        try simp only [Value.cells]
        refine hK.out _ _ ⟨pw_cell_below (below_alloc (Below.refl _ _) _) z1, pw_cell_below (below_alloc (Below.refl _ _) _) z2, pw_cell_below (below_alloc (Below.refl _ _) _) z3, pw_cell_below (below_alloc (Below.refl _ _) _) z4⟩ (fun hHeld => ?_)
        clear hK K
        refine nz (some 60) ?_
        refine oz 11 (some 61) (bn 14 4095) (fun K hK => ?_)
        have HO := Aside0.mk (HT9.out.row a v Hv.out)
        refine append_int_step (base := w.heap.size) (W := w9.drew) (by rfl) (.tmp 57) (.tmp 60) rfl v (natI (nbs (P.take i) a)) (b : Int) (by rfl) (by rfl) (HO.out.below (fun k hk => (HO.out.lt hk).1) (below_drew (Below.refl _ _))) HB9.out.size (by rw [natI_len]; exact HLNv.out) ?_
        intro v1 w1 ho hg hat
        have HGn := Aside0.mk (blk_grown (blk_drew HG9.out) hg (HO.out.ne HG9.out (by decide)))
        have H8n := Aside0.mk (blk_grown (blk_drew H89.out) hg (HO.out.ne H89.out (by decide)))
        have HCn := Aside0.mk (blk_grown (blk_drew HT9.out.blk) hg (HO.out.ne HT9.out.blk (by decide)))
        have HTn := Aside0.mk (Tr.step (W := w9.drew) (HT9.out.grown (below_drew (Below.refl _ _))) Hv.out ho hg hat)
        have HBn := Aside0.mk (grow_below (W := w9.drew) (below_then HB9.out HB9.out.size (below_drew (Below.refl _ _))) (HO.out.below (fun k hk => (HO.out.lt hk).1) (below_drew (Below.refl _ _))) hg HB9.out.size)
        have HV := Aside0.mk (ho.row)
        obtain ⟨Av, cv, rfl, _, _⟩ := ho.row
        clear ho hg hat
        rw [List.length_append, List.length_singleton] at HTn ⊢
        refine hK.out _ _ ⟨(blk_cell HGn.out 0).trans rfl, (blk_cell H8n.out 0).trans rfl, (blk_cell H8n.out 1).trans rfl, (blk_cell HCn.out a).trans (by rw [List.getElem?_toArray]; exact Hv.out)⟩ (fun hHeld => ?_)
        clear hK K
        refine nz (some 61) ?_
        refine pz 12 (some 62) (bn 14 8191) ?_
        refine last_ (i := 13) (N := none) #[true, true, true, true, true, true, true, true, true, true, true, true, true, true] rfl rfl (by kernel_rfl) (by decide) (fun K hK => ?_)
        have cst : w1.cell? ⟨w.heap.size, a, none⟩ = some v := (blk_cell HCn.out a).trans (by rw [List.getElem?_toArray]; exact Hv.out)
        have fst : w1.frozen? ⟨w.heap.size, a, none⟩ = false := blk_frozen HCn.out a
        refine sz ?_
        refine hK.out _ _ ?_
        clear hK K
        refine done_ (by kernel_rfl) ?_
        have HGm := Aside0.mk (blk_far (p := ⟨w.heap.size, a, none⟩) HGn.out (show w.heap.size + 1 ≠ w.heap.size by omega) (.slice Av ((natI (nbs (P.take i) a)).length + 1) cv))
        have H8m := Aside0.mk (blk_far (p := ⟨w.heap.size, a, none⟩) H8n.out (show g8 ≠ w.heap.size by have := HSL.out; omega) (.slice Av ((natI (nbs (P.take i) a)).length + 1) cv))
        have HBm := Aside0.mk (HBn.out.setCell (p := ⟨w.heap.size, a, none⟩) (Nat.le_refl _) (.slice Av ((natI (nbs (P.take i) a)).length + 1) cv))
        clear cst fst hHeld HGn H8n HCn HBn HV HO z1 z2 z3 z4 HG9 H89 HB9 HT9
        have HTm := Aside0.mk HTn.out; clear HTn
        generalize w1.setCell ⟨w.heap.size, a, none⟩ (.slice Av ((natI (nbs (P.take i) a)).length + 1) cv) = w10 at HGm H8m HBm HTm ⊢
        generalize Value.slice Av ((natI (nbs (P.take i) a)).length + 1) cv = yv at HTm
        have HG0 := Aside0.mk HGm.out; clear HGm
        have H80 := Aside0.mk H8m.out; clear H8m
        have HB0 := Aside0.mk HBm.out; clear HBm
        have HT0 := Aside0.mk HTm.out; clear HTm
        have HLNu := Aside0.mk (show (nbs (P.take i) b).length < 1000000 by have h1 := nbs_length (P.take i) b; have h2 : (P.take i).length ≤ i := (by rw [List.length_take]; exact Nat.min_le_left _ _); have h3 := HI.out; have h4 := HL.out; have h5 := HN.out; omega)
        have hF2 : (fun x => if x = a then nbs (P.take i) a ++ [b] else nbs (P.take i) x) b = nbs (P.take i) b := by simp only; rw [if_neg (fun h => HNE.out h.symm)]
        have HLNu := Aside0.mk (show ((fun x => if x = a then nbs (P.take i) a ++ [b] else nbs (P.take i) x) b).length < 1000000 by rw [hF2]; exact HLNu.out)
        obtain ⟨F, HFF⟩ : ∃ F, Aside0 ((fun x => if x = a then nbs (P.take i) a ++ [b] else nbs (P.take i) x) = F) := ⟨_, ⟨rfl⟩⟩
        rw [HFF.out] at HLNu HT0; clear hF2
        go_wp2
        obtain ⟨u, hu⟩ : ∃ v, (vs.set a yv)[b]? = some v := ⟨_, List.getElem?_eq_getElem (by rw [HT0.out.len]; have := HAB.out; omega : b < (vs.set a yv).length)⟩
        have Hu := Aside0.mk hu
        clear hu
        have z1 := (blk_cell HG0.out 0).trans rfl
        have z2 := (blk_cell H80.out 0).trans rfl
        have z3 := (blk_cell H80.out 1).trans rfl
        have z4 : w10.cell? ⟨w.heap.size, b, none⟩ = some u := (blk_cell HT0.out.blk b).trans (by rw [List.getElem?_toArray]; exact Hu.out)
        refine stz (fun w' => w'.cell? ⟨w.heap.size + 1, 0, none⟩ = some (.slice (some ⟨w.heap.size, 0, none⟩) N N) ∧ w'.cell? ⟨g8, 0, none⟩ = some (.int .i64 a) ∧ w'.cell? ⟨g8, 1, none⟩ = some (.int .i64 b) ∧ w'.cell? ⟨w.heap.size, b, none⟩ = some u) [13] (bn 14 0) ⟨z1, z2, z3, z4⟩ (fun hHeld => ?_)
        refine tz 0 (some 63) (bn 14 1) hHeld ?_
        refine pz 1 (some 64) (bn 14 3) ?_
        refine tz 2 (some 65) (bn 14 7) hHeld ?_
        refine tz 3 (some 66) (bn 14 15) hHeld ?_
        refine pz 4 (some 67) (bn 14 31) ?_
        refine tz 5 (some 68) (bn 14 63) hHeld ?_
        refine pz 6 (some 69) (bn 14 127) ?_
        refine tz 7 (some 70) (bn 14 255) hHeld ?_
        refine pz 8 (some 71) (bn 14 511) ?_
        refine tz 9 (some 72) (bn 14 1023) hHeld ?_
        refine oz 10 (some 73) (bn 14 2047) (fun K hK => ?_)
        refine vz ?_
        try simp only [Value.cells]
        refine hK.out _ _ ⟨pw_cell_below (below_alloc (Below.refl _ _) _) z1, pw_cell_below (below_alloc (Below.refl _ _) _) z2, pw_cell_below (below_alloc (Below.refl _ _) _) z3, pw_cell_below (below_alloc (Below.refl _ _) _) z4⟩ (fun hHeld => ?_)
        clear hK K
        refine nz (some 73) ?_
        refine oz 11 (some 74) (bn 14 4095) (fun K hK => ?_)
        have HO := Aside0.mk (HT0.out.row b u Hu.out)
        refine append_int_step (base := w.heap.size) (W := w10.drew) (by rfl) (.tmp 70) (.tmp 73) rfl u (natI (F b)) (a : Int) (by rfl) (by rfl) (HO.out.below (fun k hk => (HO.out.lt hk).1) (below_drew (Below.refl _ _))) HB0.out.size (by rw [natI_len]; exact HLNu.out) ?_
        intro v1 w1 ho hg hat
        have HGn := Aside0.mk (blk_grown (blk_drew HG0.out) hg (HO.out.ne HG0.out (by decide)))
        have H8n := Aside0.mk (blk_grown (blk_drew H80.out) hg (HO.out.ne H80.out (by decide)))
        have HCn := Aside0.mk (blk_grown (blk_drew HT0.out.blk) hg (HO.out.ne HT0.out.blk (by decide)))
        have HTn := Aside0.mk (Tr.step (W := w10.drew) (HT0.out.grown (below_drew (Below.refl _ _))) Hu.out ho hg hat)
        have HBn := Aside0.mk (grow_below (W := w10.drew) (below_then HB0.out HB0.out.size (below_drew (Below.refl _ _))) (HO.out.below (fun k hk => (HO.out.lt hk).1) (below_drew (Below.refl _ _))) hg HB0.out.size)
        have HV := Aside0.mk (ho.row)
        obtain ⟨Av, cv, rfl, _, _⟩ := ho.row
        clear ho hg hat
        rw [List.length_append, List.length_singleton] at HTn ⊢
        refine hK.out _ _ ⟨(blk_cell HGn.out 0).trans rfl, (blk_cell H8n.out 0).trans rfl, (blk_cell H8n.out 1).trans rfl, (blk_cell HCn.out b).trans (by rw [List.getElem?_toArray]; exact Hu.out)⟩ (fun hHeld => ?_)
        clear hK K
        refine nz (some 74) ?_
        refine pz 12 (some 75) (bn 14 8191) ?_
        refine last_ (i := 13) (N := none) #[true, true, true, true, true, true, true, true, true, true, true, true, true, true] rfl rfl (by kernel_rfl) (by decide) (fun K hK => ?_)
        have cst : w1.cell? ⟨w.heap.size, b, none⟩ = some u := (blk_cell HCn.out b).trans (by rw [List.getElem?_toArray]; exact Hu.out)
        have fst : w1.frozen? ⟨w.heap.size, b, none⟩ = false := blk_frozen HCn.out b
        refine sz ?_
        refine hK.out _ _ ?_
        clear hK K
        refine done_ (by kernel_rfl) ?_
        have HGm := Aside0.mk (blk_far (p := ⟨w.heap.size, b, none⟩) HGn.out (show w.heap.size + 1 ≠ w.heap.size by omega) (.slice Av ((natI (F b)).length + 1) cv))
        have H8m := Aside0.mk (blk_far (p := ⟨w.heap.size, b, none⟩) H8n.out (show g8 ≠ w.heap.size by have := HSL.out; omega) (.slice Av ((natI (F b)).length + 1) cv))
        have HBm := Aside0.mk (HBn.out.setCell (p := ⟨w.heap.size, b, none⟩) (Nat.le_refl _) (.slice Av ((natI (F b)).length + 1) cv))
        clear cst fst hHeld HGn H8n HCn HBn HV HO z1 z2 z3 z4 HG0 H80 HB0 HT0
        have HTm := Aside0.mk HTn.out; clear HTn
        generalize w1.setCell ⟨w.heap.size, b, none⟩ (.slice Av ((natI (F b)).length + 1) cv) = w11 at HGm H8m HBm HTm ⊢
        generalize Value.slice Av ((natI (F b)).length + 1) cv = yu at HTm
        go_wp2
        go_roundw
        ·have HTZ := Aside0.mk (show Tr w11 w.heap.size w.heap.size N (nbs (P.take (i + 1))) ((vs.set a yv).set b yu) from by
          rw [HTK.out, nbs_snoc _ _ _ HNE.out]
          have h := HTm.out
          rw [← HFF.out] at h
          exact h)
         refine ⟨i + 1, _, HI.out, congrArg (Value.int .i64) (nxtN (by have := HI.out; have := HL.out; have := HN.out; omega)), HTZ, HGm, HBm, ⟨fun p hp => ?_⟩⟩
         ·rw [HTK.out, List.mem_append, List.mem_singleton] at hp
          rcases hp with hp | rfl
          ·exact HOK.out p hp
          ·have := HAB.out; have := HNE.out; refine ⟨⟨?_, ?_⟩, ⟨?_, ?_⟩, ?_⟩ <;> simp only <;> omega
        ·rw [nxtN (by have := HI.out; have := HL.out; have := HN.out; omega)]; have := HI.out; simp only [intOf]; omega
    ·obtain rfl : k = i := by omega
     have HTK := Aside0.mk (show P.take k = P from List.take_of_length_le (Nat.le_of_eq HK.out))
     have HTP := Aside0.mk (show Tr wr w.heap.size w.heap.size N (nbs P) vs from by have h := HTR.out; rw [HTK.out] at h; exact h)
     have HOP := Aside0.mk (show ∀ p ∈ P, okP N p from by have h := HOK.out; rw [HTK.out] at h; exact h)
     clear HTR HOK hi hil
     have hmm := @run_makeMap Try.prog
     have HTL := Aside0.mk (treeOf_len N P)
     have HRL := Aside0.mk (show RowLL wr (some ⟨w.heap.size, 0, none⟩) (toI (treeOf N P)) from HTP.out.rows (by have := HN.out; omega))
     have HC6 := Aside0.mk (show wr.cell? ⟨w.heap.size + 1, 0, none⟩ = some (.slice (some ⟨w.heap.size, 0, none⟩) (treeOf N P).length N) from by rw [HTL.out]; exact (blk_cell HGR.out 0).trans rfl)
     have HLT := Aside0.mk (show ∀ x y, y ∈ nb (treeOf N P) x → y < (treeOf N P).length from fun x y hy => by
      rw [HTL.out]
      by_cases hx : x < N
      ·rw [nb_treeOf hx] at hy
       exact nbs_lt HOP.out hy
      ·unfold nb at hy
       rw [List.getD_eq_getElem?_getD, List.getElem?_eq_none (by rw [HTL.out]; omega)] at hy
       simp at hy)
     go_wp2_with (first
      | (
        refine bxE 9 #[.map none] 93 ?_; intro g9 hg9 w9 hb9 hB9
        obtain rfl : g9 = wr.heap.size + 1 := by rw [hg9]; simp
        have H9 := Aside0.mk hb9
        have HB9 := Aside0.mk hB9
        have d9 : w9.cell? ⟨wr.heap.size + 1, 0, none⟩ = some (.map none) := (blk_cell hb9 0).trans rfl
        have f9 : w9.frozen? ⟨wr.heap.size + 1, 0, none⟩ = false := blk_frozen hb9 0
        clear hb9 hB9 hg9)
      | (
        refine bxE 10 #[.nilFunc] 94 ?_; intro g10 hg10 w10 hb10 hB10
        have HVE := Aside0.mk (made_ve HC6.out HRL.out H9.out HB9.out hg10 hb10 hB10)
        have d10 : w10.cell? ⟨g10, 0, none⟩ = some .nilFunc := (blk_cell hb10 0).trans rfl
        have f10 : w10.frozen? ⟨g10, 0, none⟩ = false := blk_frozen hb10 0
        have hvc := (visit_calls (some ⟨w.heap.size, 0, none⟩) N (treeOf N P) (wr.heap.size + 1) (w.heap.size + 1) g10 wr.heap.size (by rw [HTL.out]; exact HN.out.2) HLT.out (treeOf N P).length (fun _ => false) _ 0 (Nat.sub_le _ _) (by rw [HTL.out]; have := HN.out; omega) rfl HVE.out.1 (by rw [cnt_zero]; exact HVE.out.2.1))
        rw [show (((0 : Nat) : Nat) : Int) = 0 from rfl] at hvc
        have HVC := Aside0.mk hvc; clear hvc
        clear hg10 hb10 hB10)
      | (
        have e10 := HVE.out.1.h10
        go_at_call 84; (with_reducible refine HVC.out.mono ?_); rintro e w2 ⟨rfl, s2, hs2, hv2, hg2⟩
        have HS2 := Aside0.mk hs2; have HV2 := Aside0.mk hv2
        have HE2 := Aside0.mk (HVE.out.1.kept HVE.out.2.1 hg2)
        have b9 := HE2.out.h9
        have b6 := HE2.out.h6
        rw [HTL.out] at b6 HS2
        have HB2 := Aside0.mk (pw_below_grown HVE.out.2.2 _ HVE.out.2.2.size hg2 (fun k hk => by injection hk with hk; omega))
        clear hs2 hv2 hg2)
      | (
        at_len
        refine set_len rfl (.tmp 82) rfl rfl HS2.out ?_))
     go_ret2
     refine ⟨some ⟨w.heap.size, 0, none⟩, N, N, ((cnt N s2 : Int) == (N : Int)), rfl, below_then HBR.out HBR.out.size HB2.out, ⟨fun h => ?_, fun h => ?_⟩, fun _ => ⟨rfl, HE2.out.rows⟩⟩
     ·have h1 : (cnt N s2 : Int) = (N : Int) := by simpa using h
      have h2 := cnt_all.1 (by omega : cnt N s2 = N)
      exact ⟨by have := HN.out; omega, by have := HN.out; omega, by have := HK.out; have := HL.out; omega, HOP.out, fun x hx => (HV2.out.all x).1 (h2 x hx)⟩
     ·have h2 := cnt_all.2 (fun x hx => (HV2.out.all x).2 (h.conn x hx) : ∀ x, x < N → s2 x = true)
      rw [h2]
      exact beq_self_eq_true _
  ·have HF := Aside0.mk (show ¬ IsTree N P from fun h => by
    have := h.len
    rw [HK.out] at this
    omega)
   have q3 : ((k : Int) == wrap64 ((N : Int) - 1)) = false := by rw [HW1.out]; exact beq_eq_false_iff_ne.2 (by omega)
   have q1 : ((k : Int) = wrap64 ((N : Int) - 1)) = False := by rw [HW1.out]; exact eq_false (by omega)
   have q5 : ((k : Int) != wrap64 ((N : Int) - 1)) = true := by unfold bne; rw [q3]; rfl
   clear hl hr
   go_enter Try.func48, Try.ntmps48
   go_wp2_with (go_at_call 62; (with_reducible refine (HW.out _).mono ?_); rintro e w' ⟨rfl, ⟨nd, rfl⟩⟩)
   go_ret2
   exact ⟨none, 0, 0, false, rfl, pw_below_drewN (Below.refl _ _) nd, ⟨fun h => (by cases h), fun h => absurd h HF.out⟩, fun h => (by cases h)⟩
end Go.Proofs.Ytcploeijeedmdaa.X
namespace Go.Proofs.Ytcploeijeedmdaa.X
open Go.RowKit Go.Shelf Go.Sort Go.Proofs.YtcploeijeedmdaaW.PrintWords Go.Proofs.YtcploeijeedmdaaW.PrintLast Go.Proofs.Ytcploeijeedmdaa.S
set_option linter.unusedVariables false
set_option linter.unusedSimpArgs false
def boolV (N : Nat) (s : Nat → Bool) : Array Value := ((List.range N).map fun x => Value.bool (s x)).toArray
theorem boolV_get {N : Nat} {s : Nat → Bool} {x : Nat} (hx : x < N) : (boolV N s)[x]? = some (.bool (s x)) := by
 unfold boolV
 rw [List.getElem?_toArray, List.getElem?_map, List.getElem?_range hx]
 rfl
structure NE (A : Option Addr) (c : Nat) (T : List (List Nat)) (b6 b8 gg : Nat) (s : Nat → Bool) (W : World) : Prop where
 h6 : W.cell? ⟨b6, 0, none⟩ = some (.slice A T.length c)
 h8 : W.cell? ⟨b8, 0, none⟩ = some (.slice (some ⟨gg, 0, none⟩) T.length T.length)
 hg : W.heap[gg]? = some (.cells (boolV T.length s) 4 (0, 0))
 rows : RowLL W A (toI T)
theorem NE.below {A : Option Addr} {c b6 b8 gg : Nat} {T : List (List Nat)} {s : Nat → Bool} {W W' : World} (h : NE A c T b6 b8 gg s W) (hb : Below W.heap.size W W') : NE A c T b6 b8 gg s W' :=
 ⟨pw_cell_below hb h.h6, pw_cell_below hb h.h8, (hb.block gg (blk_lt h.hg)).trans h.hg, h.rows.below hb⟩
set_option maxHeartbeats 1000000 in
set_option maxRecDepth 100000 in
theorem gone_calls (N b8 gg : Nat) (s : Nat → Bool) (x : Nat) (hx : x < N) (W : World) (h8 : W.cell? ⟨b8, 0, none⟩ = some (.slice (some ⟨gg, 0, none⟩) N N)) (hg : W.heap[gg]? = some (.cells (boolV N s) 4 (0, 0))) :
  Calls Try.prog 52 #[.int .i64 (x : Int), .pointer (some ⟨b8, 0, none⟩)] W fun e w' => e = .returned (.bool (s x)) ∧ ∃ q, w' = W.drewN q := by
 have h0 : W.cell? ⟨gg, x, none⟩ = some (.bool (s x)) := (blk_cell hg x).trans (boolV_get hx)
 have hz : (x : Int) < (N : Int) := by omega
 clear hg
 go_enter Try.func52, Try.ntmps52
 go_wp2
 go_ret
 exact ⟨rfl, 0, rfl⟩
theorem own_holds {W : World} {base blk cap m n : Nat} {l : List (Fin (m + 1))} (hn : l.length = n) (h : OwnI W base (.slice (some ⟨blk, 0, none⟩) n cap) (ints l)) : Holds (encF m) W blk 0 l.toArray ∧ blk < W.heap.size ∧ base ≤ blk ∧ ∃ cur, W.heap[blk]? = some (.cells cur 3 (0, 0)) ∧ l.length ≤ cap ∧ cap ≤ maxLen ∧ cur.size = cap := by
 have hl : (ints l).length = l.length := by unfold ints; rw [List.length_map]
 rcases h.2 with ⟨e, _⟩ | ⟨g', cap', cur, e, hb, hh, hn', hm, hs, ht⟩
 ·cases e
 ·injection e with e1 e2 e3
  injection e1 with e1
  injection e1 with e1
  subst e1 e3
  rw [hl] at hn' ht
  refine ⟨fun j hj => ⟨?_, blk_frozen hh _⟩, blk_lt hh, hb, cur, hh, hn', hm, by simpa using hs⟩
  have hj' : j < l.length := by simpa using hj
  rw [Nat.zero_add, blk_cell hh, getElem!_pos _ j hj]
  have h1 : (cur.toList.take (l.length * 1))[j]? = ((ints l).map (Value.int .i64))[j]? := by rw [ht]
  rw [List.getElem?_take_of_lt (by omega), Array.getElem?_toList, ints_enc, List.getElem?_map, List.getElem?_eq_getElem hj'] at h1
  rw [h1]
  simp
theorem deleted_own {W : World} {base blk cap m q k : Nat} {d : Array (Fin (m + 1))} {cur : Array Value} (hb : base ≤ blk) (hh : W.heap[blk]? = some (.cells cur 3 (0, 0))) (hn : d.size ≤ cap) (hm : cap ≤ maxLen) (hs : cur.size = cap) (hk : k ≤ d.size) :
  OwnI (putRow (encF m) (Sort.ahead W q) blk 0 d) base (.slice (some ⟨blk, 0, none⟩) k cap) (ints (d.toList.take k)) := by
 have hl : (ints (d.toList.take k)).length = k := by unfold ints; rw [List.length_map, List.length_take]; simp; omega
 refine ⟨by rw [List.length_map, hl, Nat.mul_one], .inr ⟨blk, cap, putCells (encF m) 0 d cur, by rw [hl], hb, ?_, by rw [hl]; omega, hm, by simp [putCells, hs], ?_⟩⟩
 ·simp [putRow, mapBlock, Array.getElem?_modify, Sort.ahead, hh, onCells]
 ·rw [hl, Nat.mul_one, ints_enc]
  apply List.ext_getElem?
  intro j
  by_cases hj : j < k
  ·rw [List.getElem?_take_of_lt hj, Array.getElem?_toList]
   have hjd : j < d.size := by omega
   simp [putCells, hj, hjd, show j < cur.size by omega]
  ·rw [List.getElem?_take_eq_none (by omega), List.getElem?_eq_none (by simp; omega)]
theorem put_ahead_by {W : World} {blk m q : Nat} (d : Array (Fin (m + 1))) : W.grownBy (putRow (encF m) (Sort.ahead W q) blk 0 d) (some blk) := by
 refine ⟨rfl, rfl, rfl, by simp [putRow, mapBlock, Sort.ahead], fun k hk hne => ?_⟩
 have : blk ≠ k := fun e => hne (by rw [e])
 simp [putRow, mapBlock, Array.getElem?_modify, this, Sort.ahead]
theorem fins {m : Nat} : ∀ (y : List Nat), (∀ u ∈ y, u < m + 1) → ∃ l : List (Fin (m + 1)), ints l = natI y ∧ ∀ s : Nat → Bool, ints (l.filter fun x => !(s x.val)) = natI (y.filter fun u => !(s u))
 | [], _ => ⟨[], rfl, fun _ => rfl⟩
 | u :: y, h => by
  obtain ⟨l, h1, h2⟩ := fins y (fun x hx => h x (List.mem_cons_of_mem _ hx))
  refine ⟨⟨u, h u (List.mem_cons_self ..)⟩ :: l, by unfold ints natI at *; rw [List.map_cons, List.map_cons, h1], fun s => ?_⟩
  have h3 := h2 s
  cases hs : s u with
  | true => rw [List.filter_cons_of_neg (by simp [hs]), List.filter_cons_of_neg (by simp [hs])]; exact h3
  | false =>
   rw [List.filter_cons_of_pos (by simp [hs]), List.filter_cons_of_pos (by simp [hs])]
   unfold ints natI at *
   rw [List.map_cons, List.map_cons, h3]
set_option maxHeartbeats 1000000 in
set_option maxRecDepth 100000 in
theorem near_calls (A : Option Addr) (c : Nat) (T : List (List Nat)) (b6 b8 gg m : Nat) (s : Nat → Bool) (hm : T.length = m + 1) (hT : ∀ x y, y ∈ nb T x → y < T.length) (v : Nat) (hv : v < T.length) (hne : nb T v ≠ []) (hlen : (nb T v).length ≤ 1000) (W : World) (hE : NE A c T b6 b8 gg s W) :
  Calls Try.prog 49 #[.int .i64 (v : Int), .pointer (some ⟨b6, 0, none⟩), .pointer (some ⟨b8, 0, none⟩)] W fun e w' => ∃ r, e = .returned r ∧ OwnI w' W.heap.size r (natI ((nb T v).filter fun u => !(s u))) ∧ Below W.heap.size W w' := by
 have h6 := hE.h6
 obtain ⟨ad, Av, cv, y, hy, e, hcell, hcl, hrow⟩ := hE.rows.at_ (i := v) (by unfold toI; rw [List.length_map]; exact hv)
 subst e
 rw [nb_row hv] at hy
 injection hy with hy
 subst hy
 have hyl : ((nb T v).map fun x : Nat => (x : Int)).length = (nb T v).length := by rw [List.length_map]
 rw [hyl] at hcell hcl
 have hpos : 0 < (nb T v).length := by
  cases hq : nb T v with
  | nil => exact absurd hq hne
  | cons => simp
 obtain ⟨b, o, rfl, hb, hc⟩ := hrow.cells (by rw [hyl]; exact hpos)
 obtain ⟨k, HK⟩ : ∃ k, Aside0 ((nb T v).length = k) := ⟨_, ⟨rfl⟩⟩
 rw [HK.out] at hcell hpos hlen hyl
 have HCL := Aside0.mk (Try.slices_Clone_int b o k cv ((nb T v).map fun x : Nat => (x : Int)) W (by rw [hyl]; exact Nat.le_refl _) (by omega) (fun j hj => by rw [hc j hj, List.getD_eq_getElem?_getD, List.getElem?_eq_getElem hj]; rfl))
 obtain ⟨l, hl1, hl2⟩ := fins (m := m) (nb T v) (fun u hu => by rw [← hm]; exact hT v u hu)
 have hll : l.length = k := by
  have := congrArg List.length hl1
  rw [natI_len] at this
  unfold ints at this
  rw [List.length_map] at this
  rw [this, HK.out]
 have HD := Aside0.mk (fun (w1 : World) (r : Value) (ho : OwnI w1 W.heap.size r (ints l)) (hr : r ≠ .slice none 0 0) (hbw : Below W.heap.size W w1) => (show ∃ g1 c1, r = .slice (some ⟨g1, 0, none⟩) k c1 ∧ Calls Try.prog 50 #[.slice (some ⟨g1, 0, none⟩) k c1, .func (.func 52) #[] #[.pointer (some ⟨b8, 0, none⟩)]] w1 fun e w' => ∃ r, e = .returned r ∧ OwnI w' W.heap.size r (natI ((nb T v).filter fun u => !(s u))) ∧ Below W.heap.size W w' from by
  have hlen : (ints l).length = l.length := by unfold ints; rw [List.length_map]
  rcases ho.2 with ⟨e, _⟩ | ⟨g1, c1, cur0, e, _⟩
  ·exact absurd e hr
  ·rw [hlen, hll] at e
   subst e
   refine ⟨g1, c1, rfl, ?_⟩
   obtain ⟨hH, hlt, hbb, cur, hh, hn1, hn2, hn3⟩ := own_holds hll ho
   have hE1 := hE.below hbw
   have hg1 : g1 ≠ gg := by
    intro e
    subst e
    have := hE.hg
    have := blk_lt this
    omega
   have hp1 : g1 ≠ b8 := by
    intro e
    subst e
    have := World.block_lt_of_cell? _ _ hE.h8
    simp only at this
    omega
   have key : ∀ (Wd : World), w1.grownBy Wd (some g1) ∨ Below w1.heap.size w1 Wd → ∀ x : Fin (m + 1), FnGives Try.prog 52 #[.pointer (some ⟨b8, 0, none⟩)] #[encF m x] (.bool (s x.val)) Wd := fun Wd hw x => by
    have hx := x.isLt
    have k8 : Wd.cell? ⟨b8, 0, none⟩ = some (.slice (some ⟨gg, 0, none⟩) T.length T.length) := by
     rcases hw with hw | hw
     ·exact hw.cell hE1.h8 (by simp; omega)
     ·exact pw_cell_below hw hE1.h8
    have kg : Wd.heap[gg]? = some (.cells (boolV T.length s) 4 (0, 0)) := by
     rcases hw with hw | hw
     ·exact blk_grown hE1.hg hw (by simp; omega)
     ·exact (hw.block gg (blk_lt hE1.hg)).trans hE1.hg
    exact gone_calls T.length b8 gg s x.val (by rw [hm]; exact hx) Wd k8 kg
   have h := Try.slices_DeleteFunc (encF m) (fun _ => rfl) (fun x => s x.val) 52 #[.pointer (some ⟨b8, 0, none⟩)] (Go.Proofs.enters_of Try.func52 (by kernel_rfl) rfl) (0 : Fin (m + 1)) (fun w => Try.zeroValue3 w) g1 0 c1 l.toArray w1 (fun Wd x hb => key Wd (.inr hb) x) (fun n os dk x hs => key _ (.inl (sortWorld_by (encF m) w1 g1 0 n dk os)) x) hH (by simp; omega) (by simpa using hn1)
   rw [List.size_toArray, hll] at h
   refine h.mono ?_
   rintro e w' ⟨rfl, q, rfl⟩
   refine ⟨_, rfl, ?_, hbw.grown (put_ahead_by (q := q) _) hbw.size (fun k hk => by injection hk with hk; omega)⟩
   have hfl := List.length_filter_le (fun x : Fin (m + 1) => !(s x.val)) l
   have := deleted_own (q := q) (base := W.heap.size) (m := m) (d := ((l.filter fun x : Fin (m + 1) => !(s x.val)) ++ List.replicate (k - (l.filter fun x : Fin (m + 1) => !(s x.val)).length) (0 : Fin (m + 1))).toArray) (k := (l.filter fun x : Fin (m + 1) => !(s x.val)).length) hbb hh (by rw [List.size_toArray, List.length_append, List.length_replicate]; omega) hn2 hn3 (by rw [List.size_toArray, List.length_append]; omega)
   rw [List.take_left', hl2 s] at this
   ·exact this
   ·rfl))
 have HL1 := Aside0.mk hl1
 clear hE hrow hb hc hl1 hl2 hll hne hlen hyl
 have hz : (v : Int) < (T.length : Int) := by omega
 generalize hTL : T.length = N at *
 go_enter Try.func49, Try.ntmps49
 go_wp2_with (first
  | (
    go_at_call 51; (with_reducible refine HCL.out.mono ?_); rintro e w1 ⟨r, rfl, ho, hr, hbw⟩
    obtain ⟨g1, c1, rfl, hdel⟩ := HD.out w1 r (show OwnI w1 W.heap.size r (ints l) from by
     rw [HL1.out]
     have e1 : (natI (nb T v)).length = k := by rw [natI_len, HK.out]
     unfold OwnI
     rw [e1]
     have h2 := ho
     rw [List.take_of_length_le (by rw [List.length_map, HK.out]; exact Nat.le_refl _)] at h2
     exact h2) hr hbw
    have HDL := Aside0.mk hdel
    clear ho hr hdel)
  | (
    go_at_call 50; (with_reducible refine HDL.out.mono ?_); rintro e w2 ⟨r2, rfl, ho2, hb2⟩
    have HO2 := Aside0.mk ho2; have HB2 := Aside0.mk hb2; clear ho2 hb2))
 go_ret
 exact ⟨r2, rfl, HO2.out, HB2.out⟩
end Go.Proofs.Ytcploeijeedmdaa.X
namespace Go.Proofs.Ytcploeijeedmdaa.X
open Go.RowKit Go.Shelf Go.Proofs.YtcploeijeedmdaaW.PrintWords Go.Proofs.YtcploeijeedmdaaW.PrintLast Go.Proofs.Ytcploeijeedmdaa.S
set_option linter.unusedVariables false
set_option linter.unusedSimpArgs false
theorem mem_nbs {P : List (Int × Int)} {x y : Nat} (h : y ∈ nbs P x) : ∃ p ∈ P, (p.1 = (x : Int) ∧ p.2.toNat = y) ∨ (p.2 = (x : Int) ∧ p.1.toNat = y) := by
 unfold nbs at h
 rw [List.mem_flatMap] at h
 obtain ⟨p, hp, hy⟩ := h
 refine ⟨p, hp, ?_⟩
 rw [List.mem_append] at hy
 rcases hy with hy | hy
 ·split at hy
  ·rename_i h1
   exact .inl ⟨h1, (List.mem_singleton.1 hy).symm⟩
  ·simp at hy
 ·split at hy
  ·rename_i h1
   exact .inr ⟨h1, (List.mem_singleton.1 hy).symm⟩
  ·simp at hy
theorem nbs_mem {P : List (Int × Int)} {x y : Nat} {p : Int × Int} (hp : p ∈ P) (h : (p.1 = (x : Int) ∧ p.2.toNat = y) ∨ (p.2 = (x : Int) ∧ p.1.toNat = y)) : y ∈ nbs P x := by
 unfold nbs
 rw [List.mem_flatMap]
 refine ⟨p, hp, ?_⟩
 rw [List.mem_append]
 rcases h with ⟨h1, h2⟩ | ⟨h1, h2⟩
 ·left; rw [if_pos h1]; simp [h2]
 ·right; rw [if_pos h1]; simp [h2]
theorem nbs_symm {n : Nat} {P : List (Int × Int)} (h : ∀ p ∈ P, okP n p) {x y : Nat} (hy : y ∈ nbs P x) : x ∈ nbs P y := by
 obtain ⟨p, hp, h1⟩ := mem_nbs hy
 obtain ⟨⟨a1, a2⟩, ⟨b1, b2⟩, _⟩ := h p hp
 refine nbs_mem hp ?_
 rcases h1 with ⟨e1, e2⟩ | ⟨e1, e2⟩
 ·right; exact ⟨by omega, by omega⟩
 ·left; exact ⟨by omega, by omega⟩
theorem rch_ne {T : List (List Nat)} {a b : Nat} (h : Rch T a b) (hab : a ≠ b) : nb T a ≠ [] := by
 induction h with
 | refl => exact absurd rfl hab
 | step hx hy ih =>
  rename_i x y
  by_cases hax : a = x
  ·subst hax
   intro e
   rw [e] at hy
   cases hy
  ·exact ih hax
theorem tree_ne {N : Nat} {P : List (Int × Int)} (h : IsTree N P) {v : Nat} (hv : v < N) : nb (treeOf N P) v ≠ [] := by
 by_cases h0 : v = 0
 ·subst h0
  have := h.lo
  exact rch_ne (h.conn 1 (by simp; omega)) (by omega)
 ·have hr := h.conn v (by simpa using hv)
  have hok := h.ok
  simp only [Int.toNat_natCast] at hr hok
  cases hr with
  | refl => exact absurd rfl h0
  | step hx hy =>
   rename_i x
   by_cases hxn : x < N
   ·rw [nb_treeOf hxn] at hy
    have := nbs_symm hok hy
    rw [nb_treeOf hv]
    intro e
    rw [e] at this
    cases this
   ·unfold nb at hy
    rw [List.getD_eq_getElem?_getD, List.getElem?_eq_none (by rw [treeOf_len]; omega)] at hy
    simp at hy
theorem tree_lt {N : Nat} {P : List (Int × Int)} (hok : ∀ p ∈ P, okP N p) {x y : Nat} (hy : y ∈ nb (treeOf N P) x) : y < N := by
 by_cases hxn : x < N
 ·rw [nb_treeOf hxn] at hy
  exact nbs_lt hok hy
 ·unfold nb at hy
  rw [List.getD_eq_getElem?_getD, List.getElem?_eq_none (by rw [treeOf_len]; omega)] at hy
  simp at hy
theorem nb_short {N : Nat} {P : List (Int × Int)} (x : Nat) : (nb (treeOf N P) x).length ≤ 2 * P.length := by
 by_cases hxn : x < N
 ·rw [nb_treeOf hxn]; exact nbs_length P x
 ·unfold nb
  rw [List.getD_eq_getElem?_getD, List.getElem?_eq_none (by rw [treeOf_len]; omega)]
  simp
def nearL (T : List (List Nat)) (s : Nat → Bool) (v : Nat) : List Nat := (nb T v).filter fun u => !(s u)
def leafAt (T : List (List Nat)) (s : Nat → Bool) (v : Nat) : Bool := !(s v) && decide ((nearL T s v).length = 1)
def stepC (T : List (List Nat)) (st : (Nat → Bool) × List Nat) : (Nat → Bool) × List Nat :=
 match (List.range T.length).find? (leafAt T st.1) with
 | none => st
 | some v => (putS st.1 v, st.2 ++ [(nearL T st.1 v).getD 0 0])
def runC (T : List (List Nat)) : Nat → (Nat → Bool) × List Nat
 | 0 => (fun _ => false, [])
 | k + 1 => stepC T (runC T k)
def codeOf (N : Nat) (P : List (Int × Int)) : List Nat := (runC (treeOf N P) (N - 2)).2
theorem stepC_none {T : List (List Nat)} {st : (Nat → Bool) × List Nat} (h : ∀ j, j < T.length → leafAt T st.1 j = false) : stepC T st = st := by
 unfold stepC
 rw [List.find?_eq_none.2 (fun x hx => by rw [h x (List.mem_range.1 hx)]; simp)]
theorem stepC_some {T : List (List Nat)} {st : (Nat → Bool) × List Nat} {v : Nat} (hv : v < T.length) (hl : leafAt T st.1 v = true) (h : ∀ j, j < v → leafAt T st.1 j = false) : stepC T st = (putS st.1 v, st.2 ++ [(nearL T st.1 v).getD 0 0]) := by
 unfold stepC
 have : (List.range T.length).find? (leafAt T st.1) = some v := by
  rw [List.find?_eq_some_iff_append]
  refine ⟨hl, List.range v, (List.range (T.length - (v + 1))).map (v + 1 + ·), ?_, fun x hx => by rw [h x (List.mem_range.1 hx)]; rfl⟩
  apply List.ext_getElem
  ·simp; omega
  ·intro i h1 h2
   rw [List.getElem_range, List.getElem_append]
   split
   ·rename_i h3
    simp
   ·rename_i h3
    simp only [List.length_range] at h3
    rw [List.getElem_cons]
    split
    ·rename_i h4; simp at h4; omega
    ·rename_i h4
     simp at h4 ⊢
     omega
 rw [this]
theorem stepC_len {T : List (List Nat)} {st : (Nat → Bool) × List Nat} : (stepC T st).2.length ≤ st.2.length + 1 := by
 unfold stepC
 split
 ·exact Nat.le_succ _
 ·simp
theorem runC_len (T : List (List Nat)) (k : Nat) : (runC T k).2.length ≤ k := by
 induction k with
 | zero => exact Nat.le_refl _
 | succ k ih => have := stepC_len (T := T) (st := runC T k); show (stepC T (runC T k)).2.length ≤ _; omega
theorem boolV_put {N j : Nat} {s : Nat → Bool} (hj : j < N) : (boolV N s).setIfInBounds j (.bool true) = boolV N (putS s j) := by
 unfold boolV putS
 rw [List.setIfInBounds_toArray]
 congr 1
 apply List.ext_getElem?
 intro i
 rw [List.getElem?_set]
 by_cases h : j = i
 ·subst h
  rw [if_pos rfl, if_pos (by simpa using hj), List.getElem?_map, List.getElem?_range hj]
  simp
 ·rw [if_neg h, List.getElem?_map, List.getElem?_map]
  by_cases hi : i < N
  ·rw [List.getElem?_range hi]
   simp [Ne.symm h]
  ·rw [List.getElem?_eq_none (by simpa using hi)]
   rfl
theorem info4' : (Try.prog.info? 4).map (fun i => (i.zero, i.size, i.bytes)) = some (some (.bool false), 1, 1) := by kernel_rfl
theorem make_bools (w : World) (m : Nat) (hm : m ≤ 1000) : (Instr.makeSlice 39 (.int .i64 (m : Int)) (.int .i64 (m : Int))).run Try.prog w = .ok (.slice (some ⟨w.heap.size, 0, none⟩) m m) (w.alloc (.cells (boolV m fun _ => false) 4)) := by
 obtain ⟨i0, hi, hz⟩ := Option.map_eq_some_iff.1 info4'
 simp only [Prod.mk.injEq] at hz
 have := run_make (P := Try.prog) w 39 4 i0 (.bool false) Try.underlying39 hi hz.1 .i64 .i64 (m : Int) (m : Int) (by omega) (by omega) (by rw [hz.2.2]; omega) (by omega)
 rw [hz.2.1, Int.toNat_natCast] at this
 rw [this, made_one _ rfl, show boolV m (fun _ => false) = (List.replicate m (Value.bool false)).toArray by
  unfold boolV; rw [List.map_const', List.length_range]]
theorem OwnI.lower {W : World} {base b0 : Nat} {v : Value} {xs : List Int} (h : OwnI W base v xs) (hb : b0 ≤ base) : OwnI W b0 v xs := own_less h hb
structure CW (w1 : World) (A : Option Addr) (c : Nat) (T : List (List Nat)) (b6 b8 gg : Nat) (s : Nat → Bool) (W : World) : Prop where
 B : Below w1.heap.size w1 W
 k6 : W.heap[b6]? = some (.cells #[.slice A T.length c] 71 (0, 0))
 k8 : W.heap[b8]? = some (.cells #[.slice (some ⟨gg, 0, none⟩) T.length T.length] 39 (0, 0))
 kg : W.heap[gg]? = some (.cells (boolV T.length s) 4 (0, 0))
 hg : w1.heap.size ≤ gg
 r1 : RowLL w1 A (toI T)
theorem CW.ne {w1 W : World} {A : Option Addr} {c b6 b8 gg : Nat} {T : List (List Nat)} {s : Nat → Bool} (h : CW w1 A c T b6 b8 gg s W) : NE A c T b6 b8 gg s W :=
 ⟨(blk_cell h.k6 0).trans rfl, (blk_cell h.k8 0).trans rfl, h.kg, h.r1.below h.B⟩
theorem CW.below {w1 W W' : World} {A : Option Addr} {c b6 b8 gg : Nat} {T : List (List Nat)} {s : Nat → Bool} (h : CW w1 A c T b6 b8 gg s W) (hb : Below W.heap.size W W') : CW w1 A c T b6 b8 gg s W' :=
 ⟨below_then h.B h.B.size hb, (hb.block _ (blk_lt h.k6)).trans h.k6, (hb.block _ (blk_lt h.k8)).trans h.k8, (hb.block _ (blk_lt h.kg)).trans h.kg, h.hg, h.r1⟩
theorem CW.grown {w1 W W' : World} {A : Option Addr} {c b6 b8 gg : Nat} {T : List (List Nat)} {s : Nat → Bool} {v : Value} {xs : List Int} (h : CW w1 A c T b6 b8 gg s W) (ho : OwnI W w1.heap.size v xs) (hg : W.grownBy W' v.ownBlock) : CW w1 A c T b6 b8 gg s W' :=
 ⟨grow_below h.B ho hg h.B.size, blk_grown h.k6 hg (ho.ne h.k6 (by decide)), blk_grown h.k8 hg (ho.ne h.k8 (by decide)), blk_grown h.kg hg (ho.ne h.kg (by decide)), h.hg, h.r1⟩
theorem CW.put {w1 W : World} {A : Option Addr} {c b6 b8 gg : Nat} {T : List (List Nat)} {s : Nat → Bool} (h : CW w1 A c T b6 b8 gg s W) {j : Nat} (hj : j < T.length) : CW w1 A c T b6 b8 gg (putS s j) (W.setCell ⟨gg, j, none⟩ (.bool true)) := by
 have n6 : b6 ≠ gg := by
  rintro rfl
  have := h.k6.symm.trans h.kg
  injection this with this
  injection this with _ this
  cases this
 have n8 : b8 ≠ gg := by
  rintro rfl
  have := h.k8.symm.trans h.kg
  injection this with this
  injection this with _ this
  cases this
 refine ⟨h.B.setCell (p := ⟨gg, j, none⟩) h.hg _, blk_far (p := ⟨gg, j, none⟩) h.k6 n6 _, blk_far (p := ⟨gg, j, none⟩) h.k8 n8 _, ?_, h.hg, h.r1⟩
 rw [blk_set h.kg, boolV_put hj]
theorem CW.own {w1 W : World} {A : Option Addr} {c b6 b8 gg : Nat} {T : List (List Nat)} {s : Nat → Bool} {v : Value} {xs : List Int} (h : CW w1 A c T b6 b8 gg s W) (ho : OwnI W w1.heap.size v xs) (j : Nat) (u : Value) : OwnI (W.setCell ⟨gg, j, none⟩ u) w1.heap.size v xs :=
 ho.grown (grownBy_set W ⟨gg, j, none⟩ u) (fun k hk e => (ho.ne h.kg (by decide)) (by rw [hk, e]))
theorem CW.made {w1 w6 w8 : World} {A : Option Addr} {c N : Nat} {T : List (List Nat)} (hN : T.length = N) (hr : RowLL w1 A (toI T)) (hb6 : w6.heap[w1.heap.size]? = some (.cells #[.slice none 0 0] 71 (0, 0))) (hB6 : Below w1.heap.size w1 w6)
  (hb8 : w8.heap[w6.heap.size + 1]? = some (.cells #[.slice none 0 0] 39 (0, 0)))
  (hB8 : Below ((w6.setCell ⟨w1.heap.size, 0, none⟩ (.slice A N c)).alloc (.cells (boolV N fun _ => false) 4)).heap.size ((w6.setCell ⟨w1.heap.size, 0, none⟩ (.slice A N c)).alloc (.cells (boolV N fun _ => false) 4)) w8) :
  CW w1 A c T w1.heap.size (w6.heap.size + 1) w6.heap.size (fun _ => false) (w8.setCell ⟨w6.heap.size + 1, 0, none⟩ (.slice (some ⟨w6.heap.size, 0, none⟩) N N)) := by
 subst hN
 have k6 : (w6.setCell ⟨w1.heap.size, 0, none⟩ (.slice A T.length c)).heap[w1.heap.size]? = some (.cells #[.slice A T.length c] 71 (0, 0)) := by rw [blk_set hb6]; rfl
 have b6 : Below w1.heap.size w1 (w6.setCell ⟨w1.heap.size, 0, none⟩ (.slice A T.length c)) := hB6.setCell (p := ⟨w1.heap.size, 0, none⟩) (Nat.le_refl _) _
 have hs : (w6.setCell ⟨w1.heap.size, 0, none⟩ (.slice A T.length c)).heap.size = w6.heap.size := by simp
 generalize w6.setCell ⟨w1.heap.size, 0, none⟩ (.slice A T.length c) = v6 at *
 have kg : (v6.alloc (.cells (boolV T.length fun _ => false) 4)).heap[w6.heap.size]? = some (.cells (boolV T.length fun _ => false) 4 (0, 0)) := by rw [← hs]; exact heap_alloc_new v6 _
 have k7 : (v6.alloc (.cells (boolV T.length fun _ => false) 4)).heap[w1.heap.size]? = some (.cells #[.slice A T.length c] 71 (0, 0)) := blk_alloc k6 _
 have b7 := below_alloc b6 (.cells (boolV T.length fun _ => false) 4)
 generalize v6.alloc (.cells (boolV T.length fun _ => false) 4) = v7 at *
 have b8 := below_then b7 b7.size hB8
 have h6s := hB6.size
 have h16 : w1.heap.size < w6.heap.size := blk_lt hb6
 refine ⟨b8.setCell (p := ⟨w6.heap.size + 1, 0, none⟩) (by simp only; omega) _, ?_, ?_, ?_, h6s, hr⟩
 ·exact blk_far (p := ⟨w6.heap.size + 1, 0, none⟩) ((hB8.block _ (blk_lt k7)).trans k7) (by simp only; omega) _
 ·rw [blk_set hb8]; rfl
 ·exact blk_far (p := ⟨w6.heap.size + 1, 0, none⟩) ((hB8.block _ (blk_lt kg)).trans kg) (by simp only; omega) _
set_option maxHeartbeats 4000000 in
set_option maxRecDepth 100000 in
theorem scores_Code.calls (n : Int) (A : Option Addr) (c : Nat) (P : List (Int × Int)) (w : World) (hr : RowP w A P) :
  Calls Try.prog 16 #[.int .i64 n, .slice A P.length c] w fun e w' => ((¬ IsTree n P ∧ e = .returned (.tuple #[.slice none 0 0, .int .i64 2])) ∨ (IsTree n P ∧ ∃ v, e = .returned (.tuple #[v, .int .i64 0]) ∧ OwnI w' w.heap.size v (natI (codeOf n.toNat P)))) ∧ Below w.heap.size w w' := by
 have HT := Aside0.mk (newTree_calls n A c P w hr)
 clear hr
 by_cases ht : IsTree n P
 ·obtain ⟨N, rfl⟩ := Int.eq_ofNat_of_zero_le (show 0 ≤ n by have := ht.lo; omega)
  have HN := Aside0.mk (show 2 ≤ N ∧ N ≤ 20 from ⟨by have := ht.lo; omega, by have := ht.hi; omega⟩)
  have HIT := Aside0.mk ht
  have HLT := Aside0.mk (show ∀ x y, y ∈ nb (treeOf N P) x → y < (treeOf N P).length from fun x y hy => by rw [treeOf_len]; exact tree_lt (by have := ht.ok; simpa using this) hy)
  have HNE := Aside0.mk (fun (v : Nat) (hv : v < N) => tree_ne ht hv)
  have HSH := Aside0.mk (show ∀ v, (nb (treeOf N P) v).length ≤ 1000 from fun v => by have := nb_short (N := N) (P := P) v; have := ht.len; have := ht.hi; omega)
  have HTL := Aside0.mk (treeOf_len N P)
  have HW2 := Aside0.mk (show wrap64 ((N : Int) - 2) = ((N - 2 : Nat) : Int) from by have := HN.out; rw [w64 (by omega) (by omega)]; omega)
  clear ht
  generalize hP : P.length = lp at HT ⊢
  clear hP
  have hmk : ∀ W, (Instr.makeSlice 39 (.int .i64 (N : Int)) (.int .i64 (N : Int))).run Try.prog W = .ok (.slice (some ⟨W.heap.size, 0, none⟩) N N) (W.alloc (.cells (boolV N fun _ => false) 4)) := fun W => make_bools W N (by have := HN.out; omega)
  go_enter Try.func16, Try.ntmps16
  go_wp2_with (first
   | (
     go_at_call 48; (with_reducible refine HT.out.mono ?_); rintro e w1 ⟨A1, m1, c1, ok1, rfl, hb1, hok1, hrw1⟩
     obtain rfl : ok1 = true := hok1.2 HIT.out
     obtain ⟨hm1, hr1⟩ := hrw1 rfl
     obtain rfl : N = m1 := by omega
     have HB1 := Aside0.mk hb1; have HR1 := Aside0.mk (show RowLL w1 A1 (toI (treeOf N P)) from hr1)
     clear hb1 hok1 hrw1 hm1 hr1)
   | (
     refine bxE 6 #[.slice none 0 0] 71 ?_; intro g6 hg6 w6 hb6 hB6
     obtain rfl : g6 = w1.heap.size := hg6
     have H6 := Aside0.mk hb6; have HB6 := Aside0.mk hB6
     have c6 : w6.cell? ⟨w1.heap.size, 0, none⟩ = some (.slice none 0 0) := (blk_cell hb6 0).trans rfl
     have f6 : w6.frozen? ⟨w1.heap.size, 0, none⟩ = false := blk_frozen hb6 0
     clear hb6 hB6)
   | (
     refine bxE 8 #[.slice none 0 0] 39 ?_; intro g8 hg8 w8 hb8 hB8
     obtain rfl : g8 = w6.heap.size + 1 := by rw [hg8]; simp
     have HCW := Aside0.mk (CW.made HTL.out HR1.out H6.out HB6.out hb8 hB8)
     have c8 : w8.cell? ⟨w6.heap.size + 1, 0, none⟩ = some (.slice none 0 0) := (blk_cell hb8 0).trans rfl
     have f8 : w8.frozen? ⟨w6.heap.size + 1, 0, none⟩ = false := blk_frozen hb8 0
     clear hb8 hB8 hg8))
  generalize w8.setCell ⟨w6.heap.size + 1, 0, none⟩ (.slice (some ⟨w6.heap.size, 0, none⟩) N N) = w9 at HCW ⊢
  generalize w6.heap.size + 1 = b8 at HCW ⊢
  generalize w6.heap.size = gg at HCW ⊢
  generalize w1.heap.size = b6 at HCW ⊢
  rw [HW2.out]
  obtain ⟨M, HM⟩ : ∃ M, Aside0 (N - 2 = M) := ⟨_, ⟨rfl⟩⟩
  rw [HM.out]
  clear c6 f6 c8 f8 H6 HB6 HW2 hmk HT
  obtain ⟨T, HTT⟩ : ∃ T, Aside0 (treeOf N P = T) := ⟨_, ⟨rfl⟩⟩
  rw [HTT.out] at HLT HNE HSH HTL HR1 HCW
  go_loopw [26, 10] (fun iv vv wr => ∃ i : Nat, i ≤ M ∧ iv = .int .i64 (i : Int) ∧ Aside0 (OwnI wr w1.heap.size vv (natI (runC T i).2)) ∧ Aside0 (CW w1 A1 c1 T b6 b8 gg (runC T i).1 wr)) (fun iv _ _ => M - (intOf iv).toNat)
  case atStart => exact ⟨0, Nat.zero_le _, rfl, ⟨OwnI.nil _ _⟩, HCW⟩
  case round =>
   obtain ⟨i, hi, rfl, HO, HC⟩ := hrel
   by_cases hil : i < M
   ·have HI := Aside0.mk hil
    have hz : (i : Int) < (M : Int) := by omega
    have k6 := HC.out.ne.h6
    rw [HTL.out] at k6
    clear hi hil
    obtain ⟨s, HS⟩ : ∃ s, Aside0 ((runC T i).1 = s) := ⟨_, ⟨rfl⟩⟩
    obtain ⟨out, HOU⟩ : ∃ out, Aside0 ((runC T i).2 = out) := ⟨_, ⟨rfl⟩⟩
    rw [HS.out] at HC
    rw [HOU.out] at HO
    have HOL := Aside0.mk (show out.length ≤ 1000 from by have h := runC_len T i; rw [HOU.out] at h; have := HI.out; have := HM.out; have := HN.out; omega)
    go_wp2
    go_loopw [30, 10] (fun jv vv wr => ∃ j : Nat, j ≤ N ∧ jv = .int .i64 (j : Int) ∧ Aside0 (∀ j', j' < j → leafAt T s j' = false) ∧ Aside0 (OwnI wr w1.heap.size vv (natI out)) ∧ Aside0 (CW w1 A1 c1 T b6 b8 gg s wr)) (fun jv _ _ => N - (intOf jv).toNat)
    case atStart => exact ⟨0, Nat.zero_le _, rfl, ⟨fun j' h => absurd h (Nat.not_lt_zero _)⟩, HO, HC⟩
    case round =>
     obtain ⟨j, hj, rfl, HNL, HOI, HCI⟩ := hrel
     by_cases hjl : j < N
     ·have HJ := Aside0.mk hjl
      have hz2 : (j : Int) < (N : Int) := by omega
      have HNC := Aside0.mk (near_calls A1 c1 T b6 b8 gg (N - 1) s (by rw [HTL.out]; have := HN.out; omega) HLT.out j (by rw [HTL.out]; exact hjl) (HNE.out j hjl) (HSH.out j) _ HCI.out.ne)
      clear hj hjl k6
      cases hs : s j with
      | true =>
       have HLF := Aside0.mk (show leafAt T s j = false by unfold leafAt; rw [hs]; rfl)
       go_wp2_with (first
        | (
          go_at_call 49; (with_reducible refine HNC.out.mono ?_); rintro e w2 ⟨r, rfl, ho, hbw⟩
          obtain ⟨Ar, cr, rfl, hcr, hrow⟩ := ho.row
          have HC2 := Aside0.mk (HCI.out.below hbw)
          have HO2 := Aside0.mk (HOI.out.below (fun k hk => (HOI.out.lt hk).1) hbw)
          have k8 := HC2.out.ne.h8
          rw [HTL.out] at k8
          have kg := (blk_cell HC2.out.kg j).trans (boolV_get (by rw [HTL.out]; exact HJ.out))
          rw [hs] at kg
          skip
          clear ho hbw hcr))
       go_roundw
       ·refine ⟨j + 1, HJ.out, congrArg (Value.int .i64) (nxtN (by have := HJ.out; have := HN.out; omega)), ⟨fun j' h => ?_⟩, HO2, HC2⟩
        rcases Nat.lt_or_eq_of_le (Nat.le_of_lt_succ h) with h | rfl
        ·exact HNL.out j' h
        ·exact HLF.out
       ·rw [nxtN (by have := HJ.out; have := HN.out; omega)]; have := HJ.out; simp only [intOf]; omega
      | false =>
       by_cases hq : (nearL T s j).length = 1
       ·obtain ⟨u, hu⟩ : ∃ u, nearL T s j = [u] := List.length_eq_one_iff.1 hq
        have HSS := Aside0.mk (show runC T (i + 1) = (putS s j, out ++ [u]) from by
         show stepC T (runC T i) = _
         rw [stepC_some (v := j) (by rw [HTL.out]; exact HJ.out) (by rw [HS.out]; unfold leafAt; rw [hs, decide_eq_true hq]; rfl) (fun j' h => by rw [HS.out]; exact HNL.out j' h), HS.out, HOU.out, hu]
         rfl)
        have HU := Aside0.mk (show (nb T j).filter (fun u => !(s u)) = [u] from hu)
        rw [HU.out] at HNC
        clear hq hu
        go_wp2_with (first
         | (
           go_at_call 49; (with_reducible refine HNC.out.mono ?_); rintro e w2 ⟨r, rfl, ho, hbw⟩
           obtain ⟨Ar, cr, rfl, hcr, hrow⟩ := ho.row
           have HC2 := Aside0.mk (HCI.out.below hbw)
           have HO2 := Aside0.mk (HOI.out.below (fun k hk => (HOI.out.lt hk).1) hbw)
           have k8 := HC2.out.ne.h8
           rw [HTL.out] at k8
           have kg := (blk_cell HC2.out.kg j).trans (boolV_get (by rw [HTL.out]; exact HJ.out))
           rw [hs] at kg
           obtain ⟨b, o, rfl, _, hcx⟩ := hrow.cells (show 0 < (natI [u]).length from Nat.one_pos)
           have hc0 : w2.cell? ⟨b, o, none⟩ = some (.int .i64 (u : Int)) := hcx 0 Nat.one_pos
           rw [show (natI [u]).length = 1 from rfl]
           clear ho hbw hcr hrow hcx)
         | (
           (with_reducible refine gate_builtin (b := .append) (xs := #[.tmp 46, .tmp 50]) rfl ?_); at_builtin
           refine append_int (w0 := w1) (base := w1.heap.size) rfl (.tmp 46) (.tmp 50) rfl _ _ _ rfl rfl HO2.out HC2.out.B HC2.out.B.size (by rw [natI_len]; have := HOL.out; omega) ?_
           intro v1 w3 h1 h2 h3
           have HO3 := Aside0.mk h1
           have HC3 := Aside0.mk (HC2.out.grown HO2.out h3)
           have k8 := HC3.out.ne.h8
           rw [HTL.out] at k8
           have kg := (blk_cell HC3.out.kg j).trans (boolV_get (by rw [HTL.out]; exact HJ.out))
           rw [hs] at kg
           have fg := blk_frozen HC3.out.kg j
           clear h1 h2 h3))
        have HCP := Aside0.mk (HC3.out.put (j := j) (by rw [HTL.out]; exact HJ.out))
        have HOP := Aside0.mk (HC3.out.own HO3.out j (.bool true))
        go_roundw
        ·exact ⟨i + 1, HI.out, congrArg (Value.int .i64) (nxtN (by have := HI.out; have := HM.out; have := HN.out; omega)), ⟨by rw [HSS.out]; show OwnI _ _ _ (natI (out ++ [u])); rw [natI_snoc]; exact HOP.out⟩, ⟨by rw [HSS.out]; exact HCP.out⟩⟩
        ·rw [nxtN (by have := HI.out; have := HM.out; have := HN.out; omega)]; have := HI.out; simp only [intOf]; omega
       ·have HLF := Aside0.mk (show leafAt T s j = false by unfold leafAt; rw [decide_eq_false hq, Bool.and_false])
        have HQ := Aside0.mk hq
        clear hq
        go_wp2_with (first
         | (
           go_at_call 49; (with_reducible refine HNC.out.mono ?_); rintro e w2 ⟨r, rfl, ho, hbw⟩
           obtain ⟨Ar, cr, rfl, hcr, hrow⟩ := ho.row
           have HC2 := Aside0.mk (HCI.out.below hbw)
           have HO2 := Aside0.mk (HOI.out.below (fun k hk => (HOI.out.lt hk).1) hbw)
           have k8 := HC2.out.ne.h8
           rw [HTL.out] at k8
           have kg := (blk_cell HC2.out.kg j).trans (boolV_get (by rw [HTL.out]; exact HJ.out))
           rw [hs] at kg
           have HQL : (natI ((nb T j).filter fun u => !(s u))).length ≠ 1 := by rw [natI_len]; exact HQ.out
           generalize (natI ((nb T j).filter fun u => !(s u))).length = q at HQL ⊢
           have g1 : decide ((q : Int) = 1) = false := decide_eq_false (by omega)
           have g2 : ((q : Int) = 1) = False := eq_false (by omega)
           have g3 : ((q : Int) == 1) = false := beq_eq_false_iff_ne.2 (by omega)
           have g4 : (q = 1) = False := eq_false HQL
           clear HQL
           clear ho hbw hcr))
        go_roundw
        ·refine ⟨j + 1, HJ.out, congrArg (Value.int .i64) (nxtN (by have := HJ.out; have := HN.out; omega)), ⟨fun j' h => ?_⟩, HO2, HC2⟩
         rcases Nat.lt_or_eq_of_le (Nat.le_of_lt_succ h) with h | rfl
         ·exact HNL.out j' h
         ·exact HLF.out
        ·rw [nxtN (by have := HJ.out; have := HN.out; omega)]; have := HJ.out; simp only [intOf]; omega
     ·obtain rfl : N = j := by omega
      have HST := Aside0.mk (show runC T (i + 1) = runC T i from stepC_none (fun j' h => by rw [HS.out]; exact HNL.out j' (by rw [HTL.out] at h; exact h)))
      clear hj hjl
      go_wp2
      go_roundw
      ·exact ⟨i + 1, HI.out, congrArg (Value.int .i64) (nxtN (by have := HI.out; have := HM.out; have := HN.out; omega)), ⟨by rw [HST.out, HOU.out]; exact HOI.out⟩, ⟨by rw [HST.out, HS.out]; exact HCI.out⟩⟩
      ·rw [nxtN (by have := HI.out; have := HM.out; have := HN.out; omega)]; have := HI.out; simp only [intOf]; omega
   ·obtain rfl : M = i := by omega
    clear hi hil
    go_wp2
    go_ret2
    refine ⟨.inr ⟨HIT.out, _, rfl, ?_⟩, below_then HB1.out HB1.out.size HC.out.B⟩
    have h : OwnI wr w.heap.size u10 (natI (runC T M).2) := HO.out.lower HB1.out.size
    unfold codeOf
    rw [Int.toNat_natCast, HTT.out, HM.out]
    exact h
 ·have HF := Aside0.mk ht
  clear ht
  generalize hP : P.length = lp at HT ⊢
  clear hP
  go_enter Try.func16, Try.ntmps16
  go_wp2_with (first
   | (
     go_at_call 48; (with_reducible refine HT.out.mono ?_); rintro e w1 ⟨A1, m1, c1, ok1, rfl, hb1, hok1, _⟩
     obtain rfl : ok1 = false := by
      cases ok1 with
      | false => rfl
      | true => exact absurd (hok1.1 rfl) HF.out
     have HB1 := Aside0.mk hb1
     clear hb1 hok1)
   | (
     refine bxE 6 #[.slice none 0 0] 71 ?_; intro g6 hg6 w6 hb6 hB6
     obtain rfl : g6 = w1.heap.size := hg6
     have H6 := Aside0.mk hb6; have HB6 := Aside0.mk hB6
     have c6 : w6.cell? ⟨w1.heap.size, 0, none⟩ = some (.slice none 0 0) := (blk_cell hb6 0).trans rfl
     have f6 : w6.frozen? ⟨w1.heap.size, 0, none⟩ = false := blk_frozen hb6 0
     clear hb6 hB6))
  go_ret2
  exact ⟨.inl ⟨HF.out, rfl⟩, below_then HB1.out HB1.out.size (HB6.out.setCell (p := ⟨w1.heap.size, 0, none⟩) (Nat.le_refl _) _)⟩
end Go.Proofs.Ytcploeijeedmdaa.X
namespace Go.Proofs.Ytcploeijeedmdaa.X
open Go.RowKit Go.Shelf Go.Maps Go.Proofs.YtcploeijeedmdaaW.PrintWords Go.Proofs.YtcploeijeedmdaaW.PrintLast Go.Proofs.Ytcploeijeedmdaa.S
set_option linter.unusedVariables false
set_option linter.unusedSimpArgs false
def degS (T : List (List Nat)) (s : Nat → Bool) (v : Nat) : Nat := ((nb T v).filter s).length
def stepS (T : List (List Nat)) (s : Nat → Bool) : Nat → Bool := fun v => s v && !decide (degS T s v = 1)
def itS (T : List (List Nat)) : Nat → Nat → Bool
 | 0 => fun v => decide (v < T.length)
 | k + 1 => stepS T (itS T k)
theorem itS_lt {T : List (List Nat)} : ∀ {k v : Nat}, itS T k v = true → v < T.length
 | 0, v, h => by simpa [itS] using h
 | k + 1, v, h => by
  have h : (itS T k v && !decide (degS T (itS T k) v = 1)) = true := h
  rw [Bool.and_eq_true] at h
  exact itS_lt h.1
theorem SetM.same {W : World} {b n c n' c' : Nat} {s s' : Nat → Bool} (h : SetM W b n s c) (h' : SetM W b n' s' c') : c = c' := by
 obtain ⟨D, ⟨es, clk, h1, _, _, h2⟩, _, _, h3, _⟩ := h.ex
 obtain ⟨D', ⟨es', clk', h1', _, _, h2'⟩, _, _, h3', _⟩ := h'.ex
 rw [h1] at h1'
 injection h1' with h1'
 injection h1' with h4 h5
 subst h4
 rw [h2] at h3
 rw [h2'] at h3'
 rw [← h3, ← h3']
open Classical in
noncomputable def setSize (W : World) (b : Nat) : Nat := if h : ∃ c, ∃ n s, SetM W b n s c then h.choose else 0
theorem SetM.size_eq {W : World} {b n c : Nat} {s : Nat → Bool} (h : SetM W b n s c) : setSize W b = c := by
 unfold setSize
 have hx : ∃ c, ∃ n s, SetM W b n s c := ⟨c, n, s, h⟩
 rw [dif_pos hx]
 obtain ⟨n', s', h'⟩ := hx.choose_spec
 exact h'.same h
theorem cnt_congr {N : Nat} {s s' : Nat → Bool} (h : ∀ x, x < N → s x = s' x) : cnt N s = cnt N s' := by
 unfold cnt
 exact List.countP_congr (fun x hx => by rw [h x (List.mem_range.1 hx)])
theorem cnt_del {N : Nat} {s : Nat → Bool} {v : Nat} (hv : v < N) : cnt N (delS s v) = if s v then cnt N s - 1 else cnt N s := by
 cases hs : s v with
 | true =>
  have h := cnt_put (s := delS s v) hv (by unfold delS; rw [if_pos rfl])
  have e : cnt N (putS (delS s v) v) = cnt N s := cnt_congr (fun x _ => by
   unfold putS delS
   by_cases hx : x = v
   ·subst hx; rw [if_pos rfl, hs]
   ·rw [if_neg hx, if_neg hx])
  rw [e] at h
  rw [if_pos rfl]
  omega
 | false =>
  rw [if_neg (by simp)]
  exact cnt_congr (fun x _ => by
   unfold delS
   by_cases hx : x = v
   ·subst hx; rw [if_pos rfl, hs]
   ·rw [if_neg hx])
theorem cnt_below (i : Nat) {N : Nat} (h : i ≤ N) : cnt N (fun v => decide (v < i)) = i := by
 induction i with
 | zero =>
  rw [show (fun v => decide (v < 0)) = fun _ => false from by funext v; simp]
  exact cnt_zero N
 | succ i ih =>
  have e : (fun v => decide (v < i + 1)) = putS (fun v => decide (v < i)) i := by
   funext v
   unfold putS
   by_cases hv : v = i
   ·subst hv; simp
   ·rw [if_neg hv]
    have : (v < i + 1) ↔ (v < i) := by omega
    simp [this]
  rw [e, cnt_put (by omega) (by simp), ih (by omega)]
theorem put_below (i : Nat) : putS (fun v => decide (v < i)) i = fun v => decide (v < i + 1) := by
 funext v
 unfold putS
 by_cases hv : v = i
 ·subst hv; simp
 ·rw [if_neg hv]
  have : (v < i + 1) ↔ (v < i) := by omega
  simp [this]
def subL (s : Nat → Bool) (l : List Nat) : Nat → Bool := fun x => s x && !(l.contains x)
theorem subL_nil (s : Nat → Bool) : subL s [] = s := by funext x; simp [subL]
theorem subL_snoc (s : Nat → Bool) (l : List Nat) (u : Nat) : subL s (l ++ [u]) = delS (subL s l) u := by
 funext x
 unfold subL delS
 by_cases hx : x = u
 ·subst hx; simp
 ·rw [if_neg hx]
  simp [hx]
theorem toI_len (T : List (List Nat)) : (toI T).length = T.length := by unfold toI; rw [List.length_map]
theorem upS_succ (s : Nat → Bool) (i : Nat) : (List.range (i + 1)).filter s = (List.range i).filter s ++ (if s i then [i] else []) := by
 rw [List.range_succ, List.filter_append]
 cases h : s i <;> simp [h]
theorem own_no_map {W : World} {base b : Nat} {v : Value} {xs : List Int} {es : Array MapEntry} {clk : Nat} (h : OwnI W base v xs) (hb : v.ownBlock = some b) (hm : W.heap[b]? = some (.map es clk)) : False := by
 rcases h.2 with ⟨rfl, _⟩ | ⟨g', cap, cur, rfl, _, hh, _⟩
 ·simp [Value.ownBlock] at hb
 ·have e : g' = b := by simpa [Value.ownBlock] using hb
  subst e
  rw [hh] at hm
  cases hm
theorem own_no_state {W : World} {base b r n c cnt : Nat} {s left : Nat → Bool} {v : Value} {xs : List Int} (h : OwnI W base v xs) (hr : RgM W b r n s c left cnt) : some r ≠ v.ownBlock := by
 rcases h.2 with ⟨rfl, _⟩ | ⟨g', cap, cur, rfl, _, hh, _⟩
 ·simp [Value.ownBlock]
 ·have := hr.state hh
  intro e
  have e : r = g' := by simpa [Value.ownBlock] using e
  exact this e.symm
theorem own_no_set {W : World} {base b n c : Nat} {s : Nat → Bool} {v : Value} {xs : List Int} (h : OwnI W base v xs) (hr : SetM W b n s c) : some b ≠ v.ownBlock := by
 obtain ⟨es, clk, hm⟩ := hr.map
 intro e
 exact own_no_map h e.symm hm
theorem filter_snoc {l : List Nat} {s : Nat → Bool} {i u : Nat} (h : l[i]? = some u) : ((l.take (i + 1)).filter s).length = ((l.take i).filter s).length + if s u then 1 else 0 := by
 rw [List.take_add_one, h, List.filter_append, List.length_append]
 cases hs : s u <;> simp [hs]
set_option maxHeartbeats 4000000 in
set_option maxRecDepth 100000 in
theorem centers_calls (A : Option Addr) (c : Nat) (T : List (List Nat)) (N K : Nat) (w : World) (hr : RowLL w A (toI T)) (hN : T.length = N) (hN2 : N ≤ 20) (hT : ∀ x y, y ∈ nb T x → y < T.length) (hlen : ∀ v, (nb T v).length ≤ 1000)
  (hK : ∀ i, i < K → 2 < cnt N (itS T i) ∧ cnt N (itS T (i + 1)) < cnt N (itS T i)) (hK2 : cnt N (itS T K) ≤ 2) :
  Calls Try.prog 53 #[.slice A N c] w fun e w' => ∃ v, e = .returned v ∧ OwnI w' w.heap.size v (natI ((List.range N).filter (itS T K))) ∧ Below w.heap.size w w' := by
 have HR := Aside0.mk hr
 have HN := Aside0.mk hN
 have HN2 := Aside0.mk hN2
 have HT := Aside0.mk hT
 have HLEN := Aside0.mk hlen
 have HK := Aside0.mk hK
 have HK2 := Aside0.mk hK2
 have HS0 := Aside0.mk (SetM.made w)
 have HB0 := Aside0.mk (below_alloc (Below.refl w.heap.size w) (.map #[] 0))
 clear hr hN hN2 hT hlen hK hK2
 have hmm := @run_makeMap Try.prog
 go_enter Try.func53, Try.ntmps53
 go_wp2
 clear hmm
 generalize w.alloc (.map #[] 0) = w1 at HS0 HB0 ⊢
 generalize hbm : w.heap.size = bm at HS0 ⊢
 have HBM := Aside0.mk hbm
 clear hbm
 go_loopw [17] (fun iv wr => ∃ i : Nat, i ≤ N ∧ iv = .int .i64 (i : Int) ∧ Aside0 (SetM wr bm i (fun v => decide (v < i)) i) ∧ Aside0 (Below w.heap.size w wr)) (fun iv _ => N - (intOf iv).toNat)
 case atStart =>
  refine ⟨0, Nat.zero_le _, rfl, ⟨?_⟩, HB0⟩
  have h := HS0.out
  rw [show (fun v => decide (v < 0)) = (fun _ => false : Nat → Bool) from by funext v; simp]
  exact h
 case round =>
  obtain ⟨i, hi, rfl, HS, HB⟩ := hrel
  by_cases hil : i < N
  ·have HI := Aside0.mk hil
   have hz : (i : Int) < (N : Int) := by omega
   clear hi hil
   go_wp2_with (first
    | (
      at_mapUpdate
      refine set_put (b := bm) rfl (.tmp 20) (.tmp 21) _ rfl rfl HS.out (by have := HI.out; have := HN2.out; omega) i (by have := HI.out; have := HN2.out; omega) rfl rfl ?_
      intro w2 hs2 hg2
      rw [put_below, if_neg (by simp)] at hs2
      have HS2 := Aside0.mk hs2
      have HB2 := Aside0.mk (pw_below_grown HB.out _ HB.out.size hg2 (fun k hk => by injection hk with hk; have := HBM.out; omega))
      clear hs2 hg2))
   go_roundw
   ·exact ⟨i + 1, HI.out, congrArg (Value.int .i64) (nxtN (by have := HI.out; have := HN2.out; omega)), HS2, HB2⟩
   ·rw [nxtN (by have := HI.out; have := HN2.out; omega)]; have := HI.out; simp only [intOf]; omega
  ·obtain rfl : N = i := by omega
   clear hi hil
   have HS1 := Aside0.mk (show SetM wr bm N (itS T 0) (cnt N (itS T 0)) from by
    show SetM wr bm N (fun v => decide (v < T.length)) (cnt N (fun v => decide (v < T.length)))
    rw [HN.out, cnt_below N (Nat.le_refl _)]
    exact HS.out)
   clear HS HS0 HB0
   go_wp2
   go_loopw [] (fun wr => ∃ k : Nat, k ≤ K ∧ Aside0 (SetM wr bm N (itS T k) (cnt N (itS T k))) ∧ Aside0 (Below w.heap.size w wr)) (fun wr => setSize wr bm)
   case atStart => exact ⟨0, Nat.zero_le _, HS1, HB⟩
   case round =>
    obtain ⟨k, hk, HSk, HBk⟩ := hrel
    obtain ⟨q, HQ⟩ : ∃ q, Aside0 (cnt N (itS T k) = q) := ⟨_, ⟨rfl⟩⟩
    have HSz := Aside0.mk HSk.out.size_eq
    rw [HQ.out] at HSk HSz
    by_cases hkK : k < K
    ·have hq := (HK.out k hkK).1
     rw [HQ.out] at hq
     have p1 : decide ((2 : Int) < (q : Int)) = true := decide_eq_true (by omega)
     have p2 : ((2 : Int) < (q : Int)) = True := eq_true (by omega)
     have p3 : (2 < q) = True := eq_true hq
     have HKK := Aside0.mk hkK
     obtain ⟨s, HS⟩ : ∃ s, Aside0 (itS T k = s) := ⟨_, ⟨rfl⟩⟩
     have HSL := Aside0.mk (fun v (h : s v = true) => (by rw [← HS.out] at h; rw [← HN.out]; exact itS_lt h : v < N))
     rw [HS.out] at HSk HQ
     clear hk hkK hq
     go_wp2_with (first
      | (at_len; refine set_len rfl (.tmp 23) rfl rfl HSk.out ?_)
      | (
        at_range; refine set_range rfl (.tmp 26) rfl rfl HSk.out ?_; intro w0 hrg hg0
        have HRG := Aside0.mk hrg
        have HBr := Aside0.mk (pw_below_grown HBk.out none HBk.out.size hg0 (fun k hk => by cases hk))
        have HRL := Aside0.mk (show w.heap.size ≤ wr.heap.size from HBk.out.size)
        clear hrg hg0))
     go_frame
     generalize hr : wr.heap.size = r at HRG HRL ⊢
     clear hr p1 p2 p3 HSk HBk
     go_loopw [5] (fun vv wr => ∃ (left : Nat → Bool) (cl : Nat) (os : List Nat), Aside0 (RgM wr bm r N s q left cl) ∧ Aside0 (OwnI wr w.heap.size vv (natI os)) ∧ Aside0 (∀ v, v ∈ os ↔ s v = true ∧ left v = false ∧ degS T s v = 1) ∧ Aside0 (∀ v, left v = true → s v = true) ∧ Aside0 (os.length + cl ≤ q) ∧ Aside0 (Below w.heap.size w wr)) (fun _ wr => wr.rangeLeft bm r)
     case atStart => exact ⟨s, q, [], HRG, ⟨OwnI.nil _ _⟩, ⟨fun v => ⟨fun h => (by cases h), fun h => (by have h1 := h.1; rw [h.2.1] at h1; cases h1)⟩⟩, ⟨fun v h => h⟩, ⟨by simp⟩, HBr⟩
     case round =>
      obtain ⟨left, cl, os, HRr, HOr, HOS, HLS, HLC, HBn⟩ := hrel
      go_wp2_with (first
       | (at_next; refine set_next rfl (.tmp 27) rfl rfl HRr.out ?_ ?_))
      ·intro hdone
       have HD := Aside0.mk (show subL s os = itS T (k + 1) from by
        funext x
        show (s x && !(os.contains x)) = stepS T (itS T k) x
        rw [HS.out]
        unfold stepS
        cases hsx : s x with
        | false => rfl
        | true =>
         rw [Bool.true_and, Bool.true_and]
         congr 1
         rw [Bool.eq_iff_iff, List.contains_iff_mem, HOS.out x, hsx, hdone x]
         simp)
       have HSr := Aside0.mk HRr.out.set
       have HUN := Aside0.mk (fun u (h : u ∈ os) => HSL.out u ((HOS.out u).1 h).1)
       clear hdone HLS HLC HOS HRr
       obtain ⟨Ao, co, rfl, hco, hro⟩ := HOr.out.row
       have HRO := Aside0.mk hro
       obtain ⟨lo, HLO⟩ : ∃ lo, Aside0 (os.length = lo) := ⟨_, ⟨rfl⟩⟩
       rw [natI_len, HLO.out]
       have HLB := Aside0.mk (show lo ≤ 9223372036854775807 from by have h := hro.len; rw [natI_len, HLO.out] at h; exact h)
       clear hco hro
       go_wp2
       go_loopw [55] (fun iv wq => ∃ i : Nat, i ≤ lo ∧ iv = .int .i64 (i : Int) ∧ Aside0 (SetM wq bm N (subL s (os.take i)) (cnt N (subL s (os.take i)))) ∧ Aside0 (wr.grownBy wq (some bm)) ∧ Aside0 (Below w.heap.size w wq)) (fun iv _ => lo - (intOf iv).toNat)
       case atStart => exact ⟨0, Nat.zero_le _, rfl, ⟨by rw [List.take_zero, subL_nil, HQ.out]; exact HSr.out⟩, ⟨World.grownBy.refl _ _⟩, HBn⟩
       case round =>
        obtain ⟨i, hi, rfl, HSq, HGq, HBq⟩ := hrel
        by_cases hil : i < lo
        ·have HI := Aside0.mk hil
         have hz : (i : Int) < (lo : Int) := by omega
         have HRq := HRO.out.kept HSr.out HGq.out
         obtain ⟨ad, x, hx, e, hcx⟩ := HRq.at_ (i := i) (by rw [natI_len, HLO.out]; exact hil)
         subst e
         unfold natI at hx
         rw [List.getElem?_map] at hx
         obtain ⟨u, hu, rfl⟩ := Option.map_eq_some_iff.1 hx
         have HUu := Aside0.mk (HUN.out u (List.mem_of_getElem? hu))
         have HTA := Aside0.mk (show subL s (os.take (i + 1)) = delS (subL s (os.take i)) u from by rw [List.take_add_one, hu]; exact subL_snoc s (os.take i) u)
         clear hi hil hx hu HRq
         go_wp2_with (first
          | (
            at_delete
            refine set_del (b := bm) rfl (.tmp 59) (.tmp 60) rfl rfl HSq.out u (by have := HUu.out; have := HN2.out; omega) rfl ?_
            intro w3 hs3 hg3
            rw [← cnt_del HUu.out, ← HTA.out] at hs3
            have HS3 := Aside0.mk hs3
            have HG3 := Aside0.mk (HGq.out.trans hg3)
            have HB3 := Aside0.mk (pw_below_grown HBq.out _ HBq.out.size hg3 (fun k hk => by injection hk with hk; have := HBM.out; omega))
            clear hs3 hg3))
         go_roundw
         ·exact ⟨i + 1, HI.out, congrArg (Value.int .i64) (nxtN (by have := HI.out; have := HLB.out; omega)), HS3, HG3, HB3⟩
         ·rw [nxtN (by have := HI.out; have := HLB.out; omega)]; have := HI.out; simp only [intOf]; omega
        ·obtain rfl : lo = i := by omega
         have HSE := Aside0.mk (show SetM wr bm N (itS T (k + 1)) (cnt N (itS T (k + 1))) from by
          have h := HSq.out
          rw [List.take_of_length_le (Nat.le_of_eq HLO.out), HD.out] at h
          exact h)
         clear hi hil
         go_wp2
         go_roundw
         ·exact ⟨k + 1, HKK.out, HSE, HBq⟩
         ·rw [HSE.out.size_eq, HSz.out, ← HQ.out, ← HS.out]
          exact (HK.out k HKK.out).2
      ·intro x v w2 cl2 hx hrg2 hcl hg2 hen
       have HX := Aside0.mk hx
       have HXN := Aside0.mk (HSL.out x (HLS.out x hx))
       have HRG2 := Aside0.mk hrg2
       have HCL2 := Aside0.mk (show cl2 < cl from hcl)
       have HB2 := Aside0.mk (pw_below_grown HBn.out _ HBn.out.size hg2 (fun k hk => by injection hk with hk; have := HRL.out; omega))
       have HO2 := Aside0.mk (HOr.out.grown hg2 (fun k hk e => own_no_state HOr.out HRr.out (by rw [hk, e])))
       have hzx : (x : Int) < (N : Int) := by have := HXN.out; omega
       obtain ⟨ad, Ax, cx, y, hy, e, hcell, hcl', hrow⟩ := (HR.out.below HB2.out).at_ (i := x) (by rw [toI_len, HN.out]; exact HXN.out)
       subst e
       rw [nb_row (by rw [HN.out]; exact HXN.out)] at hy
       injection hy with hy
       have hyl : y.length = (nb T x).length := by rw [← hy, List.length_map]
       rw [hyl] at hcell
       have HRW := Aside0.mk (by rw [← hy] at hrow; exact hrow : RowI w2 Ax ((nb T x).map fun x : Nat => (x : Int)))
       obtain ⟨kx, HKX⟩ : ∃ kx, Aside0 ((nb T x).length = kx) := ⟨_, ⟨rfl⟩⟩
       rw [HKX.out] at hcell
       have HKB := Aside0.mk (show kx ≤ 1000 from by rw [← HKX.out]; exact HLEN.out x)
       clear hx hrg2 hcl hg2 hy hyl hcl' hrow
       go_wp2
       clear hen
       go_loopw [37, 7] (fun iv nv wq => ∃ i : Nat, i ≤ kx ∧ iv = .int .i64 (i : Int) ∧ nv = .int .i64 ((((nb T x).take i).filter s).length : Int) ∧ Aside0 (wq = w2)) (fun iv _ _ => kx - (intOf iv).toNat)
       case atStart => exact ⟨0, Nat.zero_le _, rfl, by rw [List.take_zero]; rfl, ⟨rfl⟩⟩
       case round =>
        obtain ⟨i, hi, rfl, rfl, HW⟩ := hrel
        by_cases hil : i < kx
        ·have HI := Aside0.mk hil
         have hz : (i : Int) < (kx : Int) := by omega
         obtain ⟨ad2, z, hz2, e, hcz⟩ := HRW.out.at_ (i := i) (by rw [List.length_map, HKX.out]; exact hil)
         subst e
         rw [← HW.out] at hcz
         rw [List.getElem?_map] at hz2
         obtain ⟨u, hu, rfl⟩ := Option.map_eq_some_iff.1 hz2
         have HU := Aside0.mk (show u < N from by rw [← HN.out]; exact HT.out x u (List.mem_of_getElem? hu))
         have HFS := Aside0.mk (filter_snoc (s := s) hu)
         have HFL := Aside0.mk (show (((nb T x).take i).filter s).length ≤ 1000 from by
          have h1 := List.length_filter_le s ((nb T x).take i)
          rw [List.length_take] at h1
          have h2 := HKB.out
          have h3 := HKX.out
          omega)
         have HSq := Aside0.mk (show SetM wr bm N s q from by rw [HW.out]; exact HRG2.out.set)
         generalize (((nb T x).take i).filter s).length = m at HFS HFL ⊢
         clear hi hil hz2 hu
         cases hsu : s u with
         | true =>
          rw [hsu, if_pos rfl] at HFS
          go_wp2_with (first
           | (
             at_lookup
             refine set_lookup (b := bm) rfl (.tmp 41) (.tmp 42) rfl rfl HSq.out u (by have := HU.out; have := HN2.out; omega) rfl ?_
             rw [hsu]))
          go_roundw
          ·exact ⟨i + 1, HI.out, congrArg (Value.int .i64) (nxtN (by have := HI.out; have := HKB.out; omega)), by rw [HFS.out]; exact congrArg (Value.int .i64) (nxtN (by have := HFL.out; omega)), HW⟩
          ·rw [nxtN (by have := HI.out; have := HKB.out; omega)]; have := HI.out; simp only [intOf]; omega
         | false =>
          rw [hsu, if_neg (by simp), Nat.add_zero] at HFS
          go_wp2_with (first
           | (
             at_lookup
             refine set_lookup (b := bm) rfl (.tmp 41) (.tmp 42) rfl rfl HSq.out u (by have := HU.out; have := HN2.out; omega) rfl ?_
             rw [hsu]))
          go_roundw
          ·exact ⟨i + 1, HI.out, congrArg (Value.int .i64) (nxtN (by have := HI.out; have := HKB.out; omega)), by rw [HFS.out]; rfl, HW⟩
          ·rw [nxtN (by have := HI.out; have := HKB.out; omega)]; have := HI.out; simp only [intOf]; omega
        ·obtain rfl : kx = i := by omega
         have hdg : (((nb T x).take kx).filter s).length = degS T s x := by rw [List.take_of_length_le (Nat.le_of_eq HKX.out)]; rfl
         rw [hdg]
         obtain ⟨dg, HDG⟩ : ∃ dg, Aside0 (degS T s x = dg) := ⟨_, ⟨rfl⟩⟩
         rw [HDG.out]
         have HO3 := Aside0.mk (show OwnI wr w.heap.size u5 (natI os) from by rw [HW.out]; exact HO2.out)
         have HR3 := Aside0.mk (show RgM wr bm r N s q (delS left x) cl2 from by rw [HW.out]; exact HRG2.out)
         have HB3 := Aside0.mk (show Below w.heap.size w wr from by rw [HW.out]; exact HB2.out)
         have HLf := Aside0.mk HRr.out.left_eq
         have HLS2 := Aside0.mk (show ∀ z, delS left x z = true → s z = true from fun z h => by
          unfold delS at h
          by_cases hzx : z = x
          ·rw [if_pos hzx] at h; cases h
          ·rw [if_neg hzx] at h; exact HLS.out z h)
         clear hi hil hdg HRW hcell
         by_cases hd1 : dg = 1
         ·have HD1 := Aside0.mk (show degS T s x = 1 from by rw [HDG.out, hd1])
          subst hd1
          have HL := Aside0.mk (show (natI os).length < 1000000 by
           rw [natI_len]
           have h1 := HLC.out
           have h2 := cnt_le N s
           rw [HQ.out] at h2
           have h3 := HN2.out
           omega)
          go_wp2_with (first
           | (
             (with_reducible refine gate_builtin (b := .append) (xs := #[.tmp 49, .tmp 51]) rfl ?_); at_builtin
             refine append_int (w0 := w) (base := w.heap.size) rfl (.tmp 49) (.tmp 51) rfl _ _ _ rfl rfl HO3.out HB3.out HB3.out.size HL.out ?_
             intro v1 w4 h1 h2 h3
             have HO4 := Aside0.mk h1
             have HB4 := Aside0.mk h2
             have HR4 := Aside0.mk (HR3.out.kept h3 (own_no_set HO3.out HR3.out.set) (own_no_state HO3.out HR3.out))
             clear h1 h2 h3))
          go_roundw
          ·refine ⟨delS left x, cl2, os ++ [x], HR4, ⟨by rw [natI_snoc]; exact HO4.out⟩, ⟨fun z => ?_⟩, HLS2, ⟨by rw [List.length_append, List.length_singleton]; have := HLC.out; have := HCL2.out; omega⟩, HB4⟩
           rw [List.mem_append, List.mem_singleton]
           unfold delS
           by_cases hzx : z = x
           ·subst hzx
            rw [if_pos rfl]
            exact ⟨fun _ => ⟨HLS.out z HX.out, rfl, HD1.out⟩, fun _ => .inr rfl⟩
           ·rw [if_neg hzx]
            exact ⟨fun h => (HOS.out z).1 (h.resolve_right hzx), fun h => .inl ((HOS.out z).2 h)⟩
          ·rw [HR4.out.left_eq, HLf.out]; exact HCL2.out
         ·have p1 : decide ((dg : Int) = 1) = false := decide_eq_false (by omega)
          have p2 : ((dg : Int) = 1) = False := eq_false (by omega)
          have p3 : ((dg : Int) == 1) = false := beq_eq_false_iff_ne.2 (by omega)
          have p4 : (dg = 1) = False := eq_false hd1
          have HD1 := Aside0.mk (show degS T s x ≠ 1 from by rw [HDG.out]; exact hd1)
          clear hd1
          go_wp2
          go_roundw
          ·refine ⟨delS left x, cl2, os, HR3, HO3, ⟨fun z => ?_⟩, HLS2, ⟨by have := HLC.out; have := HCL2.out; omega⟩, HB3⟩
           unfold delS
           by_cases hzx : z = x
           ·subst hzx
            rw [if_pos rfl]
            refine ⟨fun h => ?_, fun h => absurd h.2.2 HD1.out⟩
            have h1 := ((HOS.out z).1 h).2.1
            rw [HX.out] at h1
            cases h1
           ·rw [if_neg hzx]
            exact HOS.out z
          ·rw [HR3.out.left_eq, HLf.out]; exact HCL2.out
    ·obtain rfl : K = k := by omega
     have hq := HK2.out
     rw [HQ.out] at hq
     have p1 : decide ((2 : Int) < (q : Int)) = false := decide_eq_false (by omega)
     have p2 : ((2 : Int) < (q : Int)) = False := eq_false (by omega)
     have p3 : (2 < q) = False := eq_false (by omega)
     clear hk hkK hq
     go_wp2_with (first
      | (at_len; refine set_len rfl (.tmp 23) rfl rfl HSk.out ?_))
     clear p1 p2 p3
     go_loopw [64, 12] (fun iv vv wr => ∃ i : Nat, i ≤ N ∧ iv = .int .i64 (i : Int) ∧ Aside0 (OwnI wr w.heap.size vv (natI ((List.range i).filter (itS T K)))) ∧ Aside0 (SetM wr bm N (itS T K) q) ∧ Aside0 (Below w.heap.size w wr)) (fun iv _ _ => N - (intOf iv).toNat)
     case atStart => exact ⟨0, Nat.zero_le _, rfl, ⟨OwnI.nil _ _⟩, HSk, HBk⟩
     case round =>
      obtain ⟨i, hi, rfl, HO, HSi, HBi⟩ := hrel
      by_cases hil : i < N
      ·have HI := Aside0.mk hil
       have hz : (i : Int) < (N : Int) := by omega
       have HL := Aside0.mk (show (natI ((List.range i).filter (itS T K))).length < 1000000 by
        rw [natI_len]
        have h1 := List.length_filter_le (itS T K) (List.range i)
        rw [List.length_range] at h1
        have h2 := HN2.out
        omega)
       clear hi hil
       cases hb : itS T K i with
       | true =>
        go_wp2_with (first
         | (
           at_lookup
           refine set_lookup (b := bm) rfl (.tmp 67) (.tmp 68) rfl rfl HSi.out i (by have := HI.out; have := HN2.out; omega) rfl ?_
           rw [hb])
         | (
           (with_reducible refine gate_builtin (b := .append) (xs := #[.tmp 70, .tmp 72]) rfl ?_); at_builtin
           refine append_int (w0 := w) (base := w.heap.size) rfl (.tmp 70) (.tmp 72) rfl _ _ _ rfl rfl HO.out HBi.out HBi.out.size HL.out ?_
           intro v1 w3 h1 h2 h3
           have HO3 := Aside0.mk h1
           have HB3 := Aside0.mk h2
           have HS3 := Aside0.mk (HSi.out.kept h3 (by obtain ⟨es, clk, hm⟩ := HSi.out.map; intro e; exact own_no_map HO.out e.symm hm))
           clear h1 h2 h3))
        go_roundw
        ·refine ⟨i + 1, HI.out, congrArg (Value.int .i64) (nxtN (by have := HI.out; have := HN2.out; omega)), ⟨?_⟩, HS3, HB3⟩
         rw [upS_succ, hb]
         show OwnI _ _ _ (natI (_ ++ [i]))
         rw [natI_snoc]
         exact HO3.out
        ·rw [nxtN (by have := HI.out; have := HN2.out; omega)]; have := HI.out; simp only [intOf]; omega
       | false =>
        go_wp2_with (first
         | (
           at_lookup
           refine set_lookup (b := bm) rfl (.tmp 67) (.tmp 68) rfl rfl HSi.out i (by have := HI.out; have := HN2.out; omega) rfl ?_
           rw [hb]))
        go_roundw
        ·refine ⟨i + 1, HI.out, congrArg (Value.int .i64) (nxtN (by have := HI.out; have := HN2.out; omega)), ⟨?_⟩, HSi, HBi⟩
         rw [upS_succ, hb, if_neg (by simp), List.append_nil]
         exact HO.out
        ·rw [nxtN (by have := HI.out; have := HN2.out; omega)]; have := HI.out; simp only [intOf]; omega
      ·obtain rfl : N = i := by omega
       clear hi hil
       go_wp2
       go_ret
       exact ⟨_, rfl, HO.out, HBi.out⟩
end Go.Proofs.Ytcploeijeedmdaa.X
