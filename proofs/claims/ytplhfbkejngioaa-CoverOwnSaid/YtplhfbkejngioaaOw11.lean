/- The contract of cover.Divide. Texts of this claim's session, put together: EDivide. -/
import Derived.Test.YtplhfbkejngioaaOw7
import Derived.Test.YtplhfbkejngioaaOw9
import Derived.Test.YtplhfbkejngioaaBc11
import Derived.Test.YtplhfbkejngioaaBc6
import Derived.Test.YtplhfbkejngioaaVWords
import Derived.Test.YtplhfbkejngioaaVLast
namespace Go.Proofs.Ytplhfbkejngioaa.X
open Go.RowKit Go.Proofs.YtplhfbkejngioaaW.PrintWords Go.Proofs.YtplhfbkejngioaaW.PrintLast Go.Proofs.Ytplhfbkejngioaa.S
set_option linter.unusedVariables false
set_option linter.unusedSimpArgs false
theorem max2_mxD (k k' : IntKind) (x y : Int) : Builtin.max2 (.int k x) (.int k' y) = pure (.int k (mx x y)) := max2_int k k' x y
attribute [local go_sem] max2_mxD max_two
set_option maxHeartbeats 4000000 in
set_option maxRecDepth 100000 in
theorem cover_Divide.calls (A0 : Option Addr) (c0 : Nat) (l0 : List S48) (w : World) (hr0 : Kd.C k48 w A0 l0.length l0) (hc0 : l0.length ≤ c0) (hok : areRs l0 32 = true) :
  Calls Try.prog 45 #[.slice A0 l0.length c0] w fun e w' => ∃ b v, b.Perm l0 ∧ b.Pairwise (fun x y => x.f1 ≤ y.f1) ∧ e = .returned (.tuple #[v, .int .i64 0]) ∧ Kd.R k48 48 w' w.heap.size (fun _ => True) v (divL (linesX l0) b) ∧ Below w.heap.size w w' := by
 have HR0 := Aside0.mk hr0
 have HC0 := Aside0.mk hc0
 have hl32 : l0.length ≤ 32 := by simp only [areRs, Bool.and_eq_true, decide_eq_true_eq] at hok; omega
 have HN := Aside0.mk hl32
 have HOK := Aside0.mk hok
 have HA := Aside0.mk (cover_areRects.calls A0 c0 l0 32 true w hr0 hc0 (by unfold cover_areRects.f; rw [hok]))
 clear hr0 hc0 hok hl32
 obtain ⟨xs, HXS⟩ : ∃ xs, Aside0 (linesX l0 = xs) := ⟨_, ⟨rfl⟩⟩
 rw [HXS.out]
 have HCX := Aside0.mk (show Lib.compact (sorted (allX l0)) = xs from (linesX_is l0).trans HXS.out)
 have HXL := Aside0.mk (show xs.length ≤ 64 by
  have h1 := compact_len (sorted (allX l0))
  rw [HCX.out, sorted_length, allX_len] at h1
  have := HN.out
  omega)
 go_enter Try.func45, Try.ntmps45
 go_wp2_with (first
  | (go_at_call 46; (with_reducible refine HA.out.mono ?_); rintro e w1 ⟨rfl, hb⟩; have HB1 := Aside0.mk hb; clear hb HA))
 go_loopw [19, 4] (fun iv vv wr => ∃ k : Nat, k ≤ l0.length ∧ iv = .int .i64 (k : Int) ∧ Aside0 (OwnI wr w1.heap.size vv (allX (l0.take k))) ∧ Aside0 (Below w1.heap.size w1 wr)) (fun iv _ _ => l0.length - (intOf iv).toNat)
 case atStart => exact ⟨0, Nat.zero_le _, rfl, ⟨OwnI.nil _ _⟩, ⟨Below.refl _ _⟩⟩
 case round =>
  obtain ⟨k, hk, rfl, HO, HBr⟩ := hrel
  by_cases hlt : k < l0.length
  ·have HK := Aside0.mk hlt
   have hltz : (k : Int) < (l0.length : Int) := by omega
   obtain ⟨ad, e, h0, h1, h2, h3⟩ := at_T48 HR0.out (k : Int) (by omega) hltz
   cases e
   have hx : rd_T48 l0 (k : Int) = l0[k] := by simp [rd_T48, hlt]
   rw [hx] at h0 h1 h2 h3
   simp only [Int.toNat_natCast] at h0 h1 h2 h3
   have hbw := below_then HB1.out HB1.out.size HBr.out
   replace h0 := pw_cell_below hbw h0
   replace h1 := pw_cell_below hbw h1
   replace h2 := pw_cell_below hbw h2
   replace h3 := pw_cell_below hbw h3
   clear hx hbw
   have HL := Aside0.mk (show ((allX (l0.take k)).length + [l0[k].f0, l0[k].f2].length) * 8 ≤ 140737488355328 by have := HN.out; rw [allX_len, List.length_take]; simp; omega)
   have HT := Aside0.mk (allX_take l0 k hlt)
   generalize allX (l0.take k) = lx at HO HL HT
   generalize l0[k].f0 = r0 at *
   generalize l0[k].f1 = r1 at *
   generalize l0[k].f2 = r2 at *
   generalize l0[k].f3 = r3 at *
   have HO1 := Aside0.mk (OwnI.grown (OwnI.grown HO.out (World.grownBy_alloc wr (.cells #[.int .i64 r0, .int .i64 r1, .int .i64 r2, .int .i64 r3] 48) none) (fun _ _ h => by cases h)) (World.grownBy_alloc _ (.cells #[.int .i64 r0, .int .i64 r2] 3) none) (fun _ _ h => by cases h))
   have HH1 := Aside0.mk (heap_alloc_new (wr.alloc (.cells #[.int .i64 r0, .int .i64 r1, .int .i64 r2, .int .i64 r3] 48)) (.cells #[.int .i64 r0, .int .i64 r2] 3))
   rw [World.size_alloc] at HH1
   have HB2 := Aside0.mk (below_alloc (below_alloc HBr.out (.cells #[.int .i64 r0, .int .i64 r1, .int .i64 r2, .int .i64 r3] 48)) (.cells #[.int .i64 r0, .int .i64 r2] 3))
   clear hk hlt
   go_wp2_with (first | ((with_reducible refine gate_builtin (b := .append) (xs := #[.tmp 23, .tmp 28]) rfl ?_); at_builtin; refine append_list (w0 := w1) (base := w1.heap.size) rfl (.tmp 23) (.tmp 28) rfl _ lx [r0, r2] _ 2 2 rfl rfl rfl HO1.out HH1.out HB2.out HB2.out.size HL.out ?_; intro v1 w5 ho hb; have HO5 := Aside0.mk ho; have HB5 := Aside0.mk hb; clear ho hb))
   go_roundw
   ·refine ⟨k + 1, HK.out, congrArg (Value.int .i64) (nxtD (by have := HK.out; have := HN.out; omega)), ⟨by rw [HT.out]; exact HO5.out⟩, HB5⟩
   ·rw [nxtD (by have := HK.out; have := HN.out; omega)]; have := HK.out; simp only [intOf]; omega
  ·obtain rfl : k = l0.length := by omega
   clear hk hlt
   rw [List.take_length] at HO
   have HLX := Aside0.mk (show (allX l0).length < 4611686018427387904 by have := HN.out; rw [allX_len]; omega)
   have HLS := Aside0.mk (show (sorted (allX l0)).length < 4611686018427387904 by rw [sorted_length]; exact HLX.out)
   have HLN := Aside0.mk (show l0.length ≤ 10000 by have := HN.out; omega)
   go_wp2_with (first
    | (go_at_call 68; (with_reducible refine (sort_own HO.out HLX.out).mono ?_); rintro e w2 ⟨rfl, ho2, g2⟩; have HO2 := Aside0.mk ho2; have HB2 := Aside0.mk (HBr.out.grown g2 HBr.out.size (fun q hq => (HO.out.lt hq).2)); clear ho2 g2)
    | (go_at_call 69; (with_reducible refine (compact_own HO2.out HLS.out).mono ?_); rintro e w3 ⟨v3, rfl, ho3, g3, _⟩; rw [HCX.out] at ho3; have HB3 := Aside0.mk (HB2.out.grown g3 HB2.out.size (fun q hq => (HO2.out.lt hq).2)); obtain ⟨Ax, cx, e3, _, hcx⟩ := OwnI.reads ho3 (by have := HXL.out; omega); subst e3; have HX3 := Aside0.mk hcx; clear hcx ho3 g3)
    | (go_at_call 70; (with_reducible refine (clone_calls A0 c0 l0 _ (Kd.C_below HR0.out (below_then HB1.out HB1.out.size HB3.out)) HC0.out HLN.out).mono ?_); rintro e w4 ⟨v4, rfl, hr4, hb4⟩; have HB34 := Aside0.mk hb4; have HB4 := Aside0.mk (below_then HB3.out HB3.out.size hb4); have HO4 := Aside0.mk (OwnR.ofR hr4); obtain ⟨Ab, cb, e4⟩ := HO4.out.form; subst e4; clear hr4 hb4)
    | (go_at_call 71; (with_reducible refine (sortR_calls HO4.out HLN.out).mono ?_); rintro e w5 ⟨rfl, b, hp, hs, ho5, g5⟩; have HP := Aside0.mk hp; have HS := Aside0.mk hs; have HO5 := Aside0.mk ho5; have HB5 := Aside0.mk (HB4.out.grown g5 HB4.out.size (fun q hq => Nat.le_trans HB3.out.size (OwnR.own HO4.out hq))); have HX5 := Aside0.mk (Kd.C_below HX3.out (HB34.out.grown g5 HB34.out.size (fun q hq => (OwnR.own HO4.out hq)))); clear hp hs ho5 g5))
   have HBL := Aside0.mk (HP.out.length_eq)
   have HCB := Aside0.mk (show Kd.C k48 w5 Ab l0.length b by have h := (Kd.R_reads' HO5.out.toR); rw [h.1]; exact h.2.2)
   clear HO HLX HLS HLN HO2 HB2 HX3 HB34 HB4 HO4 HO5 HB3 HBr
   go_loopw [9, 8] (fun iv vv wr => ∃ k K : Nat, (k = 0 ∨ k + 1 ≤ xs.length) ∧ Aside0 (K = k + 1) ∧ iv = .int .i64 (K : Int) ∧ Aside0 (OwnR wr w5.heap.size vv (divUp xs b k)) ∧ Aside0 (Below w5.heap.size w5 wr)) (fun iv _ _ => xs.length + 1 - (intOf iv).toNat)
   case atStart => exact ⟨0, 1, .inl rfl, ⟨rfl⟩, rfl, ⟨OwnR.nil _ _⟩, ⟨Below.refl _ _⟩⟩
   case round =>
    rename World => wr
    obtain ⟨k, K, hk, HK, rfl, HD, HBr⟩ := hrel
    by_cases hlt : k + 1 < xs.length
    ·have HKL := Aside0.mk hlt
     have hKz : (K : Int) < (xs.length : Int) := by have := HK.out; omega
     have HDL := Aside0.mk (divUp_len xs b k HXL.out (by have := HBL.out; have := HN.out; omega))
     have HDS := Aside0.mk (divUp_succ xs b k hlt)
     generalize divUp xs b k = D at HD HDL HDS
     obtain ⟨Ad, cd, rfl⟩ := HD.out.form
     obtain ⟨m0, HM0⟩ : ∃ m0, Aside0 (D.length = m0) := ⟨_, ⟨rfl⟩⟩
     rw [HM0.out] at HD ⊢
     obtain ⟨ax, ex, y0⟩ := Kd.at_int HX5.out (k : Int) (by omega) (by omega)
     obtain ⟨ax', ex', y1⟩ := Kd.at_int HX5.out (K : Int) (by omega) (by omega)
     have e0 : rd xs (k : Int) = xs[k] := by simp [rd, show k < xs.length by omega]
     have e1 : rd xs (K : Int) = xs[k + 1] := by have := HK.out; subst this; simp [rd, hlt]
     rw [e0] at y0
     rw [e1] at y1
     generalize xs[k] = c at y0 HDS
     generalize xs[k + 1] = d at y1 HDS
     have HY0 := Aside0.mk y0
     have HY1 := Aside0.mk y1
     subst ex
     cases ex'
     clear y0 y1 e0 e1 hk hlt
     go_wp2
     clear hKz
     go_loopw [49, 8] (fun jv vv wq => ∃ j : Nat, j ≤ l0.length ∧ jv = .int .i64 (j : Int) ∧ Aside0 (OwnR wq w5.heap.size vv (D ++ ((b.take j).foldl (stripStep c d) []).reverse)) ∧ Aside0 (Below w5.heap.size w5 wq)) (fun jv _ _ => l0.length - (intOf jv).toNat)
     case atStart => exact ⟨0, Nat.zero_le _, rfl, ⟨by rw [List.take_zero, List.foldl_nil, List.reverse_nil, List.append_nil]; have := HD.out; rw [← HM0.out] at this ⊢; exact this⟩, HBr⟩
     case round =>
      rename World => wq
      obtain ⟨j, hj, rfl, HOq, HBq⟩ := hrel
      by_cases hjl : j < l0.length
      ·have HJ := Aside0.mk hjl
       have HJN := Aside0.mk (show j < 100000 by have := HN.out; omega)
       have hjz : (j : Int) < (l0.length : Int) := by omega
       have hjb : j < b.length := by rw [HBL.out]; exact hjl
       obtain ⟨ar, er, h0, h1, h2, h3⟩ := at_T48 HCB.out (j : Int) (by omega) hjz
       subst er
       have hx : rd_T48 b (j : Int) = b[j] := by simp [rd_T48, hjb]
       rw [hx] at h0 h1 h2 h3
       simp only [Int.toNat_natCast] at h0 h1 h2 h3
       replace h0 := pw_cell_below HBq.out h0
       replace h1 := pw_cell_below HBq.out h1
       replace h2 := pw_cell_below HBq.out h2
       replace h3 := pw_cell_below HBq.out h3
       have HFT := Aside0.mk (fold_take (stripStep c d) [] b j hjb)
       have HAL := Aside0.mk (show ((b.take j).foldl (stripStep c d) []).length ≤ 32 by have h := strip_len (c := c) (d := d) (b.take j) []; rw [List.length_take, List.length_nil] at h; have := HN.out; omega)
       generalize (b.take j).foldl (stripStep c d) [] = acc at HOq HFT HAL
       generalize b[j] = r at *
       obtain ⟨r0, r1, r2, r3⟩ := r
       simp only at h0 h1 h2 h3
       obtain ⟨F, HF⟩ : ∃ F, Aside0 (D ++ acc.reverse = F) := ⟨_, ⟨rfl⟩⟩
       rw [HF.out] at HOq
       obtain ⟨Aq, cq, rfl⟩ := HOq.out.form
       obtain ⟨n, HNF⟩ : ∃ n, Aside0 (F.length = n) := ⟨_, ⟨rfl⟩⟩
       rw [HNF.out] at HOq ⊢
       have HNN := Aside0.mk (show n ≤ 2048 by have h1 := HNF.out; have h2 := HF.out; have h3 := HDL.out; have h4 := HAL.out; rw [← h1, ← h2, List.length_append, List.length_reverse]; omega)
       have HBX := Aside0.mk (blk_new wq (.cells #[.int .i64 r0, .int .i64 r1, .int .i64 r2, .int .i64 r3] 48))
       have HB1' := Aside0.mk (below_alloc HBq.out (.cells #[.int .i64 r0, .int .i64 r1, .int .i64 r2, .int .i64 r3] 48))
       have HO1 := Aside0.mk (HOq.out.below (below_alloc (Below.refl _ _) (.cells #[.int .i64 r0, .int .i64 r1, .int .i64 r2, .int .i64 r3] 48)))
       have HGS := Aside0.mk (HBq.out.size)
       have HNE := Aside0.mk (show some wq.heap.size ≠ (Value.slice Aq n cq).ownBlock from fun e => absurd (own_lt HOq.out _ e.symm) (Nat.lt_irrefl _))
       clear hx hjb hj hjl HOq HBq
       go_wp2
       clear h0 h1 h2 h3 hjz
       generalize wq.alloc (.cells #[.int .i64 r0, .int .i64 r1, .int .i64 r2, .int .i64 r3] 48) = W1 at *
       generalize wq.heap.size = g at *
       have z0 := (blk_cell HBX.out 0).trans rfl
       have z1 := (blk_cell HBX.out 1).trans rfl
       have z2 := (blk_cell HBX.out 2).trans rfl
       have z3 := (blk_cell HBX.out 3).trans rfl
       have y0 := pw_cell_below HB1'.out HY0.out
       have y1 := pw_cell_below HB1'.out HY1.out
       simp only [Int.toNat_natCast] at y0 y1
       have hp := preD HK.out (by have := HKL.out; have := HXL.out; have := HK.out; omega)
       have i0 : (k : Int) < (xs.length : Int) := by have := HKL.out; omega
       have i1 : (K : Int) < (xs.length : Int) := by have := HKL.out; have := HK.out; omega
       by_cases hc : c < r0
       ·have p1 : decide (c < r0) = true := decide_eq_true hc
        have p2 : (c < r0) = True := eq_true hc
        have HST := Aside0.mk (show stripStep c d acc ⟨r0, r1, r2, r3⟩ = acc by unfold stripStep; rw [if_neg]; rw [act_iff]; simp only; omega)
        clear hc
        go_quiet (fail)
        go_wp2
        go_roundw
        ·refine ⟨j + 1, HJ.out, congrArg (Value.int .i64) (nxtD HJN.out), ⟨by rw [HFT.out, HST.out, HF.out]; exact HO1.out⟩, ⟨pw_below_drewN HB1'.out _⟩⟩
        ·rw [nxtD HJN.out]; have := HJ.out; simp only [intOf]; omega
       ·have p1 : decide (c < r0) = false := decide_eq_false hc
        have p2 : (c < r0) = False := eq_false hc
        by_cases hd : r2 < d
        ·have p3 : decide (r2 < d) = true := decide_eq_true hd
         have p4 : (r2 < d) = True := eq_true hd
         have HST := Aside0.mk (show stripStep c d acc ⟨r0, r1, r2, r3⟩ = acc by unfold stripStep; rw [if_neg]; rw [act_iff]; simp only; omega)
         clear hc hd
         go_quiet (fail)
         go_wp2
         go_roundw
         ·refine ⟨j + 1, HJ.out, congrArg (Value.int .i64) (nxtD HJN.out), ⟨by rw [HFT.out, HST.out, HF.out]; exact HO1.out⟩, ⟨pw_below_drewN HB1'.out _⟩⟩
         ·rw [nxtD HJN.out]; have := HJ.out; simp only [intOf]; omega
        ·have p3 : decide (r2 < d) = false := decide_eq_false hd
         have p4 : (r2 < d) = False := eq_false hd
         have HST := Aside0.mk (show stripStep c d acc ⟨r0, r1, r2, r3⟩ = put c d ⟨r0, r1, r2, r3⟩ acc by unfold stripStep; rw [if_pos]; rw [act_iff]; simp only; omega)
         clear hc hd
         go_quiet (fail)
         go_wp2
         rcases acc with _ | ⟨q, tl⟩
         ·have HNM := Aside0.mk (show n = m0 by rw [← HNF.out, ← HM0.out, ← HF.out, List.reverse_nil, List.append_nil])
          have p5 : decide ((m0 : Int) < (n : Int)) = false := decide_eq_false (by have := HNM.out; omega)
          have p6 : ((m0 : Int) < (n : Int)) = False := eq_false (by have := HNM.out; omega)
          have p7 : (m0 < n) = False := eq_false (by have := HNM.out; omega)
          have HPT := Aside0.mk (show put c d ⟨r0, r1, r2, r3⟩ [] = [⟨c, r1, d, r3⟩] from rfl)
          go_quiet (fail)
          go_wp2
          refine stz (fun w' => w'.cell? (ax.add k) = some (.int .i64 c) ∧ w'.cell? (ax.add K) = some (.int .i64 d) ∧ w'.cell? ⟨g, 1, none⟩ = some (.int .i64 r1) ∧ w'.cell? ⟨g, 3, none⟩ = some (.int .i64 r3)) [] (bn 18 0) ⟨y0, y1, z1, z3⟩ (fun hHeld => ?_)
          refine pz 0 (some 100) (bn 18 1) ?_
          refine pz 1 (some 101) (bn 18 3) ?_
          refine pz 2 (some 102) (bn 18 7) ?_
          refine pz 3 (some 103) (bn 18 15) ?_
          refine pz 4 (some 104) (bn 18 31) ?_
          refine pz 6 (some 106) (bn 18 95) ?_
          refine pz 8 (some 108) (bn 18 351) ?_
          refine pz 9 (some 109) (bn 18 863) ?_
          refine pz 10 (some 110) (bn 18 1887) ?_
          refine pz 12 (some 112) (bn 18 5983) ?_
          refine tz 5 (some 105) (bn 18 6015) hHeld ?_
          refine tz 7 (some 107) (bn 18 6143) hHeld ?_
          refine tz 11 (some 111) (bn 18 8191) hHeld ?_
          refine tz 13 (some 113) (bn 18 16383) hHeld ?_
          refine pz 14 (some 114) (bn 18 32767) ?_
          refine oz 15 (some 115) (bn 18 65535) (fun K hK => ?_)
          refine vz ?_
          refine hK.out _ _ ⟨cell_allocD hHeld.1, cell_allocD hHeld.2.1, cell_allocD hHeld.2.2.1, cell_allocD hHeld.2.2.2⟩ (fun hHeld => ?_)
          clear hK
          refine nz (some 115) ?_
          refine oz 16 (some 116) (bn 18 131071) (fun K hK => ?_)
          refine Kd.R_append_step k48 (w0 := w5) w5.heap.size (by rfl) (.tmp 100) (.tmp 115) 22 48 (.agg #[(.int .i64 0), (.int .i64 0), (.int .i64 0), (.int .i64 0)]) 32 rfl Try.underlying22 info48 rfl (by decide) (by omega) (.slice Aq n cq) F (⟨c, r1, d, r3⟩ : S48) [.int .i64 c, .int .i64 r1, .int .i64 d, .int .i64 r3] (fun _ => True) (fun _ => False) rfl rfl ?aP (fun _ hk => hk.elim) ?aF ?aO ?aB ?aS ?aL ?_
          (case aP => exact k48_mkM _ _ _ (⟨c, r1, d, r3⟩ : S48))
          (case aF => exact (fun _ _ => trivial))
          (case aB => exact pw_below_drewN HB1'.out _)
          (case aO => exact HO1.out.toR)
          (case aS => exact HB1'.out.size)
          (case aL => have h1 := HNF.out; have h2 := HNN.out; rw [h1]; omega)
          intro v6 w6 ho hb hg hat
          have HO6 := Aside0.mk (OwnR.ofR ho)
          have HB6 := Aside0.mk hb
          have hbx := blk_grown (blk_drewN HBX.out _) hg HNE.out
          refine hK.out _ _ ⟨pw_cell_below HB6.out HY0.out, pw_cell_below HB6.out HY1.out, (blk_cell hbx 1).trans rfl, (blk_cell hbx 3).trans rfl⟩ (fun hHeld => ?_)
          clear hK ho hb hg hat hbx
          refine nz (some 116) ?_
          refine pz 17 (some 8) (bn 18 262143) ?_
          refine done_ (by kernel_rfl) ?_
          go_wp2
          go_roundw
          ·refine ⟨j + 1, HJ.out, congrArg (Value.int .i64) (nxtD HJN.out), ⟨?_⟩, HB6⟩
           rw [HFT.out, HST.out, HPT.out, List.reverse_cons, ← List.append_assoc, HF.out]
           exact HO6.out
          ·rw [nxtD HJN.out]; have := HJ.out; simp only [intOf]; omega
         ·have HFG := Aside0.mk (show F = (D ++ tl.reverse) ++ [q] by rw [← HF.out, List.reverse_cons, List.append_assoc])
          obtain ⟨G, HGD⟩ : ∃ G, Aside0 (D ++ tl.reverse = G) := ⟨_, ⟨rfl⟩⟩
          rw [HGD.out] at HFG
          obtain rfl := HFG.out
          obtain ⟨aq, eA, hn, HAB, y3, f3, HPUT⟩ := HO1.out.top
          subst eA
          obtain ⟨p, HP1⟩ : ∃ p, Aside0 (G.length = p) := ⟨_, ⟨rfl⟩⟩
          rw [HP1.out] at hn HAB y3 f3 HPUT
          have HPUTS := Aside0.mk HPUT
          have HABS := Aside0.mk HAB
          have p5 : decide ((m0 : Int) < (n : Int)) = true := decide_eq_true (by have h1 := HNF.out; have h2 := HF.out; have h3 := HM0.out; have h4 := congrArg List.length h2; simp only [List.length_append, List.length_reverse, List.length_cons, List.length_nil] at h1 h4; omega)
          have p6 : ((m0 : Int) < (n : Int)) = True := eq_true (of_decide_eq_true p5)
          have p7 : (m0 < n) = True := eq_true (by have := of_decide_eq_true p5; omega)
          have hq := preD hn (by have := HNN.out; omega)
          have i2 : (p : Int) < (n : Int) := by omega
          obtain ⟨q3, HQ3⟩ : ∃ q3, Aside0 (q.f3 = q3) := ⟨_, ⟨rfl⟩⟩
          rw [HQ3.out] at y3
          clear HPUT HAB hn
          by_cases hle : r1 ≤ q3
          ·have p8 : decide (r1 ≤ q3) = true := decide_eq_true hle
           have p9 : (r1 ≤ q3) = True := eq_true hle
           have HPT := Aside0.mk (show put c d ⟨r0, r1, r2, r3⟩ (q :: tl) = ⟨q.f0, q.f1, q.f2, mx q3 r3⟩ :: tl by rw [put_cons, if_pos (by rw [HQ3.out]; exact hle), HQ3.out])
           clear hle
           go_quiet (fail)
           go_wp2
           refine stz (fun w' => w'.cell? ⟨(aq.add (p * 4)).block, (aq.add (p * 4)).off + 3, none⟩ = some (.int .i64 q3) ∧ w'.cell? ⟨g, 3, none⟩ = some (.int .i64 r3)) [14] (bn 15 0) ⟨y3, z3⟩ (fun hHeld => ?_)
           refine pz 0 (some 86) (bn 15 1) ?_
           refine pz 1 (some 87) (bn 15 3) ?_
           refine pz 2 (some 88) (bn 15 7) ?_
           refine pz 3 (some 89) (bn 15 15) ?_
           refine pz 4 (some 90) (bn 15 31) ?_
           refine pz 5 (some 91) (bn 15 63) ?_
           refine pz 6 (some 92) (bn 15 127) ?_
           refine pz 7 (some 93) (bn 15 255) ?_
           refine pz 9 (some 95) (bn 15 767) ?_
           refine tz 8 (some 94) (bn 15 1023) hHeld ?_
           refine tz 10 (some 96) (bn 15 2047) hHeld ?_
           refine pz 11 (some 97) (bn 15 4095) ?_
           refine pz 12 (some 98) (bn 15 8191) ?_
           refine pz 13 (some 99) (bn 15 16383) ?_
           refine last_ (i := 14) (N := none) #[true, true, true, true, true, true, true, true, true, true, true, true, true, true, true] rfl rfl (by kernel_rfl) (by decide) (fun K hK => ?_)
           refine sz ?_
           refine hK.out _ _ ?_
           clear hK K
           refine done_ (by kernel_rfl) ?_
           go_wp2
           go_roundw
           ·refine ⟨j + 1, HJ.out, congrArg (Value.int .i64) (nxtD HJN.out), ⟨?_⟩, ⟨?_⟩⟩
            ·rw [HFT.out, HST.out, HPT.out, List.reverse_cons, ← List.append_assoc, HGD.out]
             exact HPUTS.out _ _ HO1.out
            ·exact Below.setCell (p := ⟨(aq.add (p * 4)).block, (aq.add (p * 4)).off + 3, none⟩) (pw_below_drewN HB1'.out _) HABS.out _
           ·rw [nxtD HJN.out]; have := HJ.out; simp only [intOf]; omega
          ·have p8 : decide (r1 ≤ q3) = false := decide_eq_false hle
           have p9 : (r1 ≤ q3) = False := eq_false hle
           have HPT := Aside0.mk (show put c d ⟨r0, r1, r2, r3⟩ (q :: tl) = ⟨c, r1, d, r3⟩ :: q :: tl by rw [put_cons, if_neg (by rw [HQ3.out]; exact hle)])
           clear hle
           go_quiet (fail)
           go_wp2
           refine stz (fun w' => w'.cell? (ax.add k) = some (.int .i64 c) ∧ w'.cell? (ax.add K) = some (.int .i64 d) ∧ w'.cell? ⟨g, 1, none⟩ = some (.int .i64 r1) ∧ w'.cell? ⟨g, 3, none⟩ = some (.int .i64 r3)) [] (bn 18 0) ⟨y0, y1, z1, z3⟩ (fun hHeld => ?_)
           refine pz 0 (some 100) (bn 18 1) ?_
           refine pz 1 (some 101) (bn 18 3) ?_
           refine pz 2 (some 102) (bn 18 7) ?_
           refine pz 3 (some 103) (bn 18 15) ?_
           refine pz 4 (some 104) (bn 18 31) ?_
           refine pz 6 (some 106) (bn 18 95) ?_
           refine pz 8 (some 108) (bn 18 351) ?_
           refine pz 9 (some 109) (bn 18 863) ?_
           refine pz 10 (some 110) (bn 18 1887) ?_
           refine pz 12 (some 112) (bn 18 5983) ?_
           refine tz 5 (some 105) (bn 18 6015) hHeld ?_
           refine tz 7 (some 107) (bn 18 6143) hHeld ?_
           refine tz 11 (some 111) (bn 18 8191) hHeld ?_
           refine tz 13 (some 113) (bn 18 16383) hHeld ?_
           refine pz 14 (some 114) (bn 18 32767) ?_
           refine oz 15 (some 115) (bn 18 65535) (fun K hK => ?_)
           refine vz ?_
           refine hK.out _ _ ⟨cell_allocD hHeld.1, cell_allocD hHeld.2.1, cell_allocD hHeld.2.2.1, cell_allocD hHeld.2.2.2⟩ (fun hHeld => ?_)
           clear hK
           refine nz (some 115) ?_
           refine oz 16 (some 116) (bn 18 131071) (fun K hK => ?_)
           refine Kd.R_append_step k48 (w0 := w5) w5.heap.size (by rfl) (.tmp 100) (.tmp 115) 22 48 (.agg #[(.int .i64 0), (.int .i64 0), (.int .i64 0), (.int .i64 0)]) 32 rfl Try.underlying22 info48 rfl (by decide) (by omega) (.slice (some aq) n cq) (G ++ [q]) (⟨c, r1, d, r3⟩ : S48) [.int .i64 c, .int .i64 r1, .int .i64 d, .int .i64 r3] (fun _ => True) (fun _ => False) rfl rfl ?aP (fun _ hk => hk.elim) ?aF ?aO ?aB ?aS ?aL ?_
           (case aP => exact k48_mkM _ _ _ (⟨c, r1, d, r3⟩ : S48))
           (case aF => exact (fun _ _ => trivial))
           (case aB => exact pw_below_drewN HB1'.out _)
           (case aO => exact HO1.out.toR)
           (case aS => exact HB1'.out.size)
           (case aL => have h1 := HNF.out; have h2 := HNN.out; rw [h1]; omega)
           intro v6 w6 ho hb hg hat
           have HO6 := Aside0.mk (OwnR.ofR ho)
           have HB6 := Aside0.mk hb
           have hbx := blk_grown (blk_drewN HBX.out _) hg HNE.out
           refine hK.out _ _ ⟨pw_cell_below HB6.out HY0.out, pw_cell_below HB6.out HY1.out, (blk_cell hbx 1).trans rfl, (blk_cell hbx 3).trans rfl⟩ (fun hHeld => ?_)
           clear hK ho hb hg hat hbx
           refine nz (some 116) ?_
           refine pz 17 (some 8) (bn 18 262143) ?_
           refine done_ (by kernel_rfl) ?_
           go_wp2
           go_roundw
           ·refine ⟨j + 1, HJ.out, congrArg (Value.int .i64) (nxtD HJN.out), ⟨?_⟩, HB6⟩
            rw [HFT.out, HST.out, HPT.out, List.reverse_cons, ← List.append_assoc, HF.out]
            exact HO6.out
           ·rw [nxtD HJN.out]; have := HJ.out; simp only [intOf]; omega
      ·obtain rfl : j = l0.length := by omega
       clear hj hjl
       have HBT := Aside0.mk (show b.take l0.length = b by rw [← HBL.out, List.take_length])
       go_wp2
       go_roundw
       ·refine ⟨k + 1, K + 1, .inr HKL.out, ⟨by rw [HK.out]⟩, congrArg (Value.int .i64) (nxtD (by have := HK.out; have := HKL.out; have := HXL.out; omega)), ⟨?_⟩, HBq⟩
        rw [HDS.out]
        have := HOq.out
        rw [HBT.out] at this
        exact this
       ·rw [nxtD (by have := HK.out; have := HKL.out; have := HXL.out; omega)]; have := HK.out; have := HKL.out; simp only [intOf]; omega
    ·have HKE := Aside0.mk (divUp_all xs b k (by omega))
     have p1 : decide ((K : Int) < (xs.length : Int)) = false := decide_eq_false (by have := HK.out; omega)
     have p2 : ((K : Int) < (xs.length : Int)) = False := eq_false (by have := HK.out; omega)
     have p3 : (K < xs.length) = False := eq_false (by have := HK.out; omega)
     have HZ := Aside0.mk (below_then (below_then HB1.out HB1.out.size HB5.out) (Nat.le_trans HB1.out.size HB5.out.size) HBr.out)
     have HZS := Aside0.mk (Nat.le_trans HB1.out.size HB5.out.size)
     rw [HKE.out] at HD
     clear hk hlt
     go_wp2
     go_ret2
     exact ⟨b, _, HP.out, HS.out, rfl, Kd.R_lower HD.out.toR HZS.out, HZ.out⟩
end Go.Proofs.Ytplhfbkejngioaa.X
