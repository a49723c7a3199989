/- Kings of a contest: there is one, who is beaten is beaten by one, never exactly two. Texts of this claim's session, put together: SCont, SKings. -/
import Derived.Test.YtcploeijeedmdaaBb7
import Derived.Test.YtcploeijeedmdaaBb6
import Derived.Test.YtcploeijeedmdaaBb2
import Derived.Test.YtcploeijeedmdaaVWords
import Derived.Test.YtcploeijeedmdaaVLast
import Derived.Test.YtcploeijeedmdaaVRepsOne
namespace Go.Proofs.Ytcploeijeedmdaa.X
open Go.RowKit Go.Shelf Go.Proofs.YtcploeijeedmdaaW.PrintWords Go.Proofs.YtcploeijeedmdaaW.PrintLast Go.Proofs.Ytcploeijeedmdaa.S
set_option linter.unusedVariables false
set_option linter.unusedSimpArgs false
def m2 (x : Int) : Int := (tickinglaw09_mod.f x 2).getD 0
theorem m2_f (x : Int) : tickinglaw09_mod.f x 2 = some (m2 x) ∧ 0 ≤ m2 x ∧ m2 x ≤ 1 := by
 obtain ⟨r, h1, h2, h3⟩ := mod_f (x := x) (n := 2) (by decide)
 have : m2 x = r := by unfold m2; rw [h1]; rfl
 rw [this]
 exact ⟨h1, h2, by omega⟩
def XX (l : List (List Int)) (i j : Nat) : Int := if i < l.length ∧ j < (rd_L2 l (i : Int)).length then m2 (rd (rd_L2 l (i : Int)) (j : Int)) else 1
theorem XX_bd (l : List (List Int)) (i j : Nat) : 0 ≤ XX l i j ∧ XX l i j ≤ 1 := by
 unfold XX
 split
 ·exact (m2_f _).2
 ·omega
def tt (l : List (List Int)) (i j a b : Nat) : Int := if a < b then (if a < i ∨ (a = i ∧ b < j) then XX l a b else 0) else if b < a then (if b < i ∨ (b = i ∧ a < j) then 1 - XX l b a else 0) else 0
theorem tt_zero (l : List (List Int)) (a b : Nat) : tt l 0 0 a b = 0 := by
 unfold tt
 split
 ·rw [if_neg (by omega)]
 ·split
  ·rw [if_neg (by omega)]
  ·rfl
theorem tt_start (l : List (List Int)) (i a b : Nat) : tt l i 0 a b = tt l i (i + 1) a b := by
 unfold tt
 split
 ·rename_i h
  by_cases h1 : a < i
  ·rw [if_pos (.inl h1), if_pos (.inl h1)]
  ·rw [if_neg (by omega), if_neg (by omega)]
 ·split
  ·rename_i h2
   by_cases h1 : b < i
   ·rw [if_pos (.inl h1), if_pos (.inl h1)]
   ·rw [if_neg (by omega), if_neg (by omega)]
  ·rfl
theorem tt_end (l : List (List Int)) (n i a b : Nat) (ha : a < n) (hb : b < n) : tt l i n a b = tt l (i + 1) 0 a b := by
 unfold tt
 split
 ·by_cases h1 : a < i + 1
  ·rw [if_pos (by omega), if_pos (by omega)]
  ·rw [if_neg (by omega), if_neg (by omega)]
 ·split
  ·by_cases h1 : b < i + 1
   ·rw [if_pos (by omega), if_pos (by omega)]
   ·rw [if_neg (by omega), if_neg (by omega)]
  ·rfl
theorem tt_step (l : List (List Int)) (i j : Nat) (hij : i < j) (a b : Nat) : (if a = j ∧ b = i then 1 - XX l i j else if a = i ∧ b = j then XX l i j else tt l i j a b) = tt l i (j + 1) a b := by
 by_cases h1 : a = j ∧ b = i
 ·obtain ⟨rfl, rfl⟩ := h1
  rw [if_pos ⟨rfl, rfl⟩]
  unfold tt
  rw [if_neg (by omega), if_pos hij, if_pos (by omega)]
 ·rw [if_neg h1]
  by_cases h2 : a = i ∧ b = j
  ·obtain ⟨rfl, rfl⟩ := h2
   rw [if_pos ⟨rfl, rfl⟩]
   unfold tt
   rw [if_pos hij, if_pos (by omega)]
  ·rw [if_neg h2]
   unfold tt
   split
   ·by_cases h3 : a < i ∨ (a = i ∧ b < j)
    ·rw [if_pos h3, if_pos (by omega)]
    ·rw [if_neg h3, if_neg (by omega)]
   ·split
    ·by_cases h3 : b < i ∨ (b = i ∧ a < j)
     ·rw [if_pos h3, if_pos (by omega)]
     ·rw [if_neg h3, if_neg (by omega)]
    ·rfl
theorem Tc.congr {W : World} {base n m : Nat} {v : Value} {gs : Nat → Nat} {t t' : Nat → Nat → Int} (h : Tc W base n m v gs t) (e : ∀ a b, a < m → b < n → t a b = t' a b) : Tc W base n m v gs t' := by
 refine ⟨h.own, fun i hi => ⟨(h.row i hi).1, ?_⟩, h.inj⟩
 rw [(h.row i hi).2]
 congr 2
 unfold rowV
 congr 1
 apply List.map_congr_left
 intro j hj
 rw [e i j hi (List.mem_range.1 hj)]
def contestL (l : List (List Int)) (n : Nat) : List (List Int) := tabL n (tt l n 0)
set_option maxHeartbeats 8000000 in
set_option maxRecDepth 100000 in
theorem contest_calls (A : Option Addr) (c : Nat) (l : List (List Int)) (n : Nat) (hn : 1 ≤ n ∧ n ≤ 20) (w : World) (hr : Kd.C (Kd.slice 3 (Kd.int .i64)) w A l.length l) (hc : l.length ≤ c) :
  Calls Try.prog 24 #[.slice A l.length c, .int .i64 (n : Int)] w fun e w' => ∃ A' c', e = .returned (.slice A' n c') ∧ n ≤ c' ∧ RowLL w' A' (contestL l n) ∧ Below w.heap.size w w' := by
 have HR := Aside0.mk hr
 have HN := Aside0.mk hn
 have hmk : ∀ W, (Instr.makeSlice 24 (.int .i64 (n : Int)) (.int .i64 (n : Int))).run Try.prog W = .ok (.slice (some ⟨W.heap.size, 0, none⟩) n n) (W.alloc (.cells (rowV n fun _ => 0) 3)) := fun W => make_ints W n (by omega)
 obtain ⟨L, HL⟩ : ∃ L, Aside0 (l.length = L) := ⟨_, ⟨rfl⟩⟩
 have HM2 := Aside0.mk (fun (x : Int) (W : World) => tickinglaw09_mod.calls x 2 (m2 x) W (m2_f x).1)
 rw [HL.out]
 clear hr hn hc
 go_enter Try.func24, Try.ntmps24
 go_wp2
 go_loopw [6, 5] (fun iv vv wr => ∃ (i : Nat) (gs : Nat → Nat), i ≤ n ∧ iv = .int .i64 (i : Int) ∧ Aside0 (Tc wr w.heap.size n i vv gs (fun _ _ => 0)) ∧ Aside0 (Below w.heap.size w wr)) (fun iv _ _ => n - (intOf iv).toNat)
 case atStart => exact ⟨0, fun _ => 0, Nat.zero_le _, rfl, ⟨Tc.nil _ _ _ _ _⟩, ⟨Below.refl _ _⟩⟩
 case round =>
  obtain ⟨i, gs, hi, rfl, HT, HB⟩ := hrel
  by_cases hil : i < n
  ·have HI := Aside0.mk hil
   have hz : (i : Int) < (n : Int) := by omega
   clear hi hil
   go_wp2_with (first
    | (
      (with_reducible refine gate_builtin (b := .append) (xs := #[.tmp 17, .tmp 20]) rfl ?_); at_builtin
      refine append_slice (w0 := w) (base := w.heap.size) rfl (.tmp 17) (.tmp 20) rfl _ rfl rfl HT.out HB.out HB.out.size (by have := HI.out; have := HN.out; omega) ?_
      intro v1 w1 gs1 h1 h2
      have HT1 := Aside0.mk h1
      have HB1 := Aside0.mk h2
      clear h1 h2))
   go_roundw
   ·exact ⟨i + 1, gs1, HI.out, congrArg (Value.int .i64) (nxtN (by have := HI.out; have := HN.out; omega)), HT1, HB1⟩
   ·rw [nxtN (by have := HI.out; have := HN.out; omega)]; have := HI.out; simp only [intOf]; omega
  ·obtain rfl : n = i := by omega
   clear hi hil hmk
   obtain ⟨go, cap, cur, e, hgo, hblk, hcap, hcur⟩ := HT.out.top (by have := HN.out; omega)
   subst e
   have HCAP := Aside0.mk hcap
   have HT0 := Aside0.mk (HT.out.congr (t' := tt l 0 0) (fun a b _ _ => (tt_zero l a b).symm))
   clear hgo hblk hcap hcur HT
   go_wp2
   go_loopw [7] (fun iv wr => ∃ i : Nat, i ≤ n ∧ iv = .int .i64 (i : Int) ∧ Aside0 (Tc wr w.heap.size n n (.slice (some ⟨go, 0, none⟩) n cap) gs (tt l i 0)) ∧ Aside0 (Below w.heap.size w wr)) (fun iv _ => n - (intOf iv).toNat)
   case atStart => exact ⟨0, Nat.zero_le _, rfl, HT0, HB⟩
   case round =>
    obtain ⟨i, hi, rfl, HTi, HBi⟩ := hrel
    by_cases hil : i < n
    ·have HI := Aside0.mk hil
     have hz : (i : Int) < (n : Int) := by omega
     have HTs := Aside0.mk (HTi.out.congr (t' := tt l i (i + 1)) (fun a b _ _ => tt_start l i a b))
     clear hi hil HTi
     go_wp2
     go_loopw [8] (fun jv wr => ∃ j : Nat, i + 1 ≤ j ∧ j ≤ n ∧ jv = .int .i64 (j : Int) ∧ Aside0 (Tc wr w.heap.size n n (.slice (some ⟨go, 0, none⟩) n cap) gs (tt l i j)) ∧ Aside0 (Below w.heap.size w wr)) (fun jv _ => n - (intOf jv).toNat)
     case atStart => exact ⟨i + 1, Nat.le_refl _, HI.out, congrArg (Value.int .i64) (nxtN (by have := HI.out; have := HN.out; omega)), HTs, HBi⟩
     case round =>
      obtain ⟨j, hij, hj, rfl, HTj, HBj⟩ := hrel
      by_cases hjl : j < n
      ·have HJ := Aside0.mk hjl
       have HIJ := Aside0.mk (show i < j by omega)
       have hz2 : (j : Int) < (n : Int) := by omega
       clear hij hj hjl
       by_cases hiL : i < L
       ·obtain ⟨ad, A0, c0, hA, hcl, hle, hC0⟩ := at_L2 (Kd.C_below HR.out HBj.out) (i : Int) (by omega) (by rw [HL.out]; omega)
        subst hA
        rw [Int.toNat_natCast] at hcl
        obtain ⟨m, HM⟩ : ∃ m, Aside0 ((rd_L2 l (i : Int)).length = m) := ⟨_, ⟨rfl⟩⟩
        rw [HM.out] at hcl hle hC0
        have p1 : ((i : Int) < (L : Int)) = True := eq_true (by omega); have p2 : decide ((i : Int) < (L : Int)) = true := decide_eq_true (by omega); have p3 : (i < L) = True := eq_true hiL
        by_cases hjm : j < m
        ·obtain ⟨ad0, e0, hc0⟩ := Kd.at_int hC0 (j : Int) (by omega) (by omega)
         subst e0
         rw [Int.toNat_natCast] at hc0
         have p4 : ((j : Int) < (m : Int)) = True := eq_true (by omega); have p5 : decide ((j : Int) < (m : Int)) = true := decide_eq_true (by omega); have p6 : (j < m) = True := eq_true hjm
         have HX := Aside0.mk (show XX l i j = m2 (rd (rd_L2 l (i : Int)) (j : Int)) from by unfold XX; rw [if_pos ⟨by rw [HL.out]; exact hiL, by rw [HM.out]; exact hjm⟩])
         generalize rd (rd_L2 l (i : Int)) (j : Int) = y at HX hc0
         clear hiL hjm hC0 hle
         go_wp2_with (first
          | (
            go_at_call 23; (with_reducible refine (HM2.out _ _).mono ?_); rintro e w5 ⟨rfl, hd⟩
            have HTd := Aside0.mk (HTj.out.below hd.below)
            have HBd := Aside0.mk (below_then HBj.out HBj.out.size hd.below)
            clear hd))
         obtain ⟨go', cap', cur, e, hgo, hblk, _, hcur⟩ := HTd.out.top (by have := HN.out; omega)
         cases e
         have k1 : w5.cell? ⟨go, i, none⟩ = some (.slice (some ⟨gs i, 0, none⟩) n n) := (blk_cell hblk i).trans (hcur i HI.out)
         have k2 : w5.cell? ⟨go, j, none⟩ = some (.slice (some ⟨gs j, 0, none⟩) n n) := (blk_cell hblk j).trans (hcur j HJ.out)
         clear hgo hblk hcur
         go_quiet (fail)
         have HTq := Aside0.mk (HTd.out.below (pw_below_drewN (Below.refl _ _) nq))
         have HBq := Aside0.mk (below_then HBd.out HBd.out.size (pw_below_drewN (Below.refl _ _) nq))
         clear k1 k2 HTd HBd
         generalize w5.drewN nq = wq at HTq HBq ⊢
         have c1 := (blk_cell (HTq.out.row i HI.out).2 j).trans (rowV_get HJ.out)
         have f1 := blk_frozen (HTq.out.row i HI.out).2 j
         have HTp := Aside0.mk (HTq.out.put (i := i) (j := j) HI.out HJ.out (m2 y))
         have c2 := (blk_cell (HTp.out.row j HJ.out).2 i).trans (rowV_get HI.out)
         have f2 := blk_frozen (HTp.out.row j HJ.out).2 i
         have HTr := Aside0.mk (HTp.out.put (i := j) (j := i) HJ.out HI.out (1 - m2 y))
         have HBr := Aside0.mk ((HBq.out.setCell (p := ⟨gs i, j, none⟩) (HTq.out.row i HI.out).1 (.int .i64 (m2 y))).setCell (p := ⟨gs j, i, none⟩) (HTq.out.row j HJ.out).1 (.int .i64 (1 - m2 y)))
         have hx1 := Aside0.mk (show wrap64 (1 - m2 y) = 1 - m2 y from by have := XX_bd l i j; have := HX.out; exact w64 (by omega) (by omega))
         have hi1 := Aside0.mk (show wrap64 ((j : Int) + 1) = ((j + 1 : Nat) : Int) from nxtN (by have := HJ.out; have := HN.out; omega))
         go_wp2
         try simp only [hx1.out]
         go_roundw
         ·refine ⟨j + 1, by have := HIJ.out; omega, HJ.out, congrArg (Value.int .i64) hi1.out, ?_, ?_⟩
          ·refine ⟨HTr.out.congr (fun a b ha hb => ?_)⟩
           rw [← tt_step l i j HIJ.out a b, HX.out]
          ·exact HBr
         ·rw [hi1.out]; have := HJ.out; simp only [intOf]; omega
        ·have p4 : ((j : Int) < (m : Int)) = False := eq_false (by omega); have p5 : decide ((j : Int) < (m : Int)) = false := decide_eq_false (by omega); have p6 : (j < m) = False := eq_false hjm
         have HX := Aside0.mk (show XX l i j = 1 from by unfold XX; rw [if_neg (fun h => hjm (by rw [← HM.out]; exact h.2))])
         clear hiL hjm hC0 hle
         have HTd := Aside0.mk HTj.out; have HBd := Aside0.mk HBj.out
         go_wp2
         obtain ⟨go', cap', cur, e, hgo, hblk, _, hcur⟩ := HTd.out.top (by have := HN.out; omega)
         cases e
         have k1 : wr.cell? ⟨go, i, none⟩ = some (.slice (some ⟨gs i, 0, none⟩) n n) := (blk_cell hblk i).trans (hcur i HI.out)
         have k2 : wr.cell? ⟨go, j, none⟩ = some (.slice (some ⟨gs j, 0, none⟩) n n) := (blk_cell hblk j).trans (hcur j HJ.out)
         clear hgo hblk hcur
         go_quiet (fail)
         have HTq := Aside0.mk (HTd.out.below (pw_below_drewN (Below.refl _ _) nq))
         have HBq := Aside0.mk (below_then HBd.out HBd.out.size (pw_below_drewN (Below.refl _ _) nq))
         clear k1 k2 HTd HBd
         generalize wr.drewN nq = wq at HTq HBq ⊢
         have c1 := (blk_cell (HTq.out.row i HI.out).2 j).trans (rowV_get HJ.out)
         have f1 := blk_frozen (HTq.out.row i HI.out).2 j
         have HTp := Aside0.mk (HTq.out.put (i := i) (j := j) HI.out HJ.out (1))
         have c2 := (blk_cell (HTp.out.row j HJ.out).2 i).trans (rowV_get HI.out)
         have f2 := blk_frozen (HTp.out.row j HJ.out).2 i
         have HTr := Aside0.mk (HTp.out.put (i := j) (j := i) HJ.out HI.out (1 - 1))
         have HBr := Aside0.mk ((HBq.out.setCell (p := ⟨gs i, j, none⟩) (HTq.out.row i HI.out).1 (.int .i64 (1))).setCell (p := ⟨gs j, i, none⟩) (HTq.out.row j HJ.out).1 (.int .i64 (1 - 1)))
         have hx1 := Aside0.mk (show wrap64 (1 - 1) = 1 - 1 from by have := XX_bd l i j; have := HX.out; exact w64 (by omega) (by omega))
         have hi1 := Aside0.mk (show wrap64 ((j : Int) + 1) = ((j + 1 : Nat) : Int) from nxtN (by have := HJ.out; have := HN.out; omega))
         go_wp2
         try simp only [hx1.out]
         go_roundw
         ·refine ⟨j + 1, by have := HIJ.out; omega, HJ.out, congrArg (Value.int .i64) hi1.out, ?_, ?_⟩
          ·refine ⟨HTr.out.congr (fun a b ha hb => ?_)⟩
           rw [← tt_step l i j HIJ.out a b, HX.out]
          ·exact HBr
         ·rw [hi1.out]; have := HJ.out; simp only [intOf]; omega
       ·have p1 : ((i : Int) < (L : Int)) = False := eq_false (by omega); have p2 : decide ((i : Int) < (L : Int)) = false := decide_eq_false (by omega); have p3 : (i < L) = False := eq_false hiL
        have HX := Aside0.mk (show XX l i j = 1 from by unfold XX; rw [if_neg (fun h => hiL (by rw [← HL.out]; exact h.1))])
        clear hiL
        have HTd := Aside0.mk HTj.out; have HBd := Aside0.mk HBj.out
        go_wp2
        obtain ⟨go', cap', cur, e, hgo, hblk, _, hcur⟩ := HTd.out.top (by have := HN.out; omega)
        cases e
        have k1 : wr.cell? ⟨go, i, none⟩ = some (.slice (some ⟨gs i, 0, none⟩) n n) := (blk_cell hblk i).trans (hcur i HI.out)
        have k2 : wr.cell? ⟨go, j, none⟩ = some (.slice (some ⟨gs j, 0, none⟩) n n) := (blk_cell hblk j).trans (hcur j HJ.out)
        clear hgo hblk hcur
        go_quiet (fail)
        have HTq := Aside0.mk (HTd.out.below (pw_below_drewN (Below.refl _ _) nq))
        have HBq := Aside0.mk (below_then HBd.out HBd.out.size (pw_below_drewN (Below.refl _ _) nq))
        clear k1 k2 HTd HBd
        generalize wr.drewN nq = wq at HTq HBq ⊢
        have c1 := (blk_cell (HTq.out.row i HI.out).2 j).trans (rowV_get HJ.out)
        have f1 := blk_frozen (HTq.out.row i HI.out).2 j
        have HTp := Aside0.mk (HTq.out.put (i := i) (j := j) HI.out HJ.out (1))
        have c2 := (blk_cell (HTp.out.row j HJ.out).2 i).trans (rowV_get HI.out)
        have f2 := blk_frozen (HTp.out.row j HJ.out).2 i
        have HTr := Aside0.mk (HTp.out.put (i := j) (j := i) HJ.out HI.out (1 - 1))
        have HBr := Aside0.mk ((HBq.out.setCell (p := ⟨gs i, j, none⟩) (HTq.out.row i HI.out).1 (.int .i64 (1))).setCell (p := ⟨gs j, i, none⟩) (HTq.out.row j HJ.out).1 (.int .i64 (1 - 1)))
        have hx1 := Aside0.mk (show wrap64 (1 - 1) = 1 - 1 from by have := XX_bd l i j; have := HX.out; exact w64 (by omega) (by omega))
        have hi1 := Aside0.mk (show wrap64 ((j : Int) + 1) = ((j + 1 : Nat) : Int) from nxtN (by have := HJ.out; have := HN.out; omega))
        go_wp2
        try simp only [hx1.out]
        go_roundw
        ·refine ⟨j + 1, by have := HIJ.out; omega, HJ.out, congrArg (Value.int .i64) hi1.out, ?_, ?_⟩
         ·refine ⟨HTr.out.congr (fun a b ha hb => ?_)⟩
          rw [← tt_step l i j HIJ.out a b, HX.out]
         ·exact HBr
        ·rw [hi1.out]; have := HJ.out; simp only [intOf]; omega
      ·obtain rfl : n = j := by omega
       clear hij hj hjl
       go_wp2
       go_roundw
       ·exact ⟨i + 1, HI.out, congrArg (Value.int .i64) (nxtN (by have := HI.out; have := HN.out; omega)), ⟨HTj.out.congr (fun a b ha hb => tt_end l n i a b ha hb)⟩, HBj⟩
       ·rw [nxtN (by have := HI.out; have := HN.out; omega)]; have := HI.out; simp only [intOf]; omega
    ·obtain rfl : n = i := by omega
     clear hi hil
     go_wp2
     go_ret
     exact ⟨_, _, rfl, HCAP.out, HTi.out.rows (by have := HN.out; omega) (by have := HN.out; omega), HBi.out⟩
theorem tt_full (l : List (List Int)) (n a b : Nat) (ha : a < n) (hb : b < n) : tt l n 0 a b = if a < b then XX l a b else if b < a then 1 - XX l b a else 0 := by
 unfold tt
 split
 ·rw [if_pos (.inl ha)]
 ·split
  ·rw [if_pos (.inl hb)]
  ·rfl
theorem contest_isC (l : List (List Int)) (n : Nat) (hn : n ≤ 30) : IsC (contestL l n) := by
 have hl : (contestL l n).length = n := tabL_len _ _
 refine ⟨by rw [hl]; exact hn, fun i y hy => ?_, fun i j hi hj => ?_⟩
 ·obtain ⟨hi, rfl⟩ := tabL_at hy
  rw [hl]
  refine ⟨by simp, fun x hx => ?_⟩
  obtain ⟨j, hj, rfl⟩ := List.mem_map.1 hx
  rw [List.mem_range] at hj
  rw [inR_iff, tt_full l n i j hi hj]
  have h1 := XX_bd l i j
  have h2 := XX_bd l j i
  split
  ·exact h1
  ·split <;> omega
 ·rw [hl] at hi hj
  unfold oneC contestL
  rw [g2_tab hi hj, g2_tab hj hi, tt_full l n i j hi hj, tt_full l n j i hj hi]
  refine ⟨fun e => ?_, fun e => ?_⟩
  ·subst e
   rw [if_neg (Nat.lt_irrefl _), if_neg (Nat.lt_irrefl _)]
  ·rcases Nat.lt_or_gt_of_ne e with h | h
   ·rw [if_pos h, if_neg (by omega), if_pos h]; omega
   ·rw [if_neg (by omega), if_pos h, if_pos h]; omega
end Go.Proofs.Ytcploeijeedmdaa.X
namespace Go.Proofs.Ytcploeijeedmdaa.X
open Go.RowKit Go.Shelf Go.Proofs.YtcploeijeedmdaaW.PrintWords Go.Proofs.YtcploeijeedmdaaW.PrintLast Go.Proofs.Ytcploeijeedmdaa.S
set_option linter.unusedVariables false
set_option linter.unusedSimpArgs false
structure Tour (b : Nat → Nat → Bool) : Prop where
 irr : ∀ i, b i i = false
 asym : ∀ i j, b i j = true → b j i = false
def Tot (n : Nat) (b : Nat → Nat → Bool) : Prop := ∀ i j, i < n → j < n → i ≠ j → b i j = true ∨ b j i = true
theorem count_lt {p q : Nat → Bool} : ∀ (l : List Nat) {y : Nat}, y ∈ l → q y = true → p y = false → (∀ u ∈ l, p u = true → q u = true) → l.countP p < l.countP q := by
 intro l
 induction l with
 | nil => intro y h; cases h
 | cons a l ih =>
  intro y hy hq hp hall
  have hle : l.countP p ≤ l.countP q := List.countP_mono_left (fun u hu => hall u (List.mem_cons_of_mem _ hu))
  rcases List.mem_cons.1 hy with rfl | hy
  ·rw [List.countP_cons_of_neg (by simp [hp]), List.countP_cons_of_pos hq]
   omega
  ·have := ih hy hq hp (fun u hu => hall u (List.mem_cons_of_mem _ hu))
   by_cases ha : p a = true
   ·rw [List.countP_cons_of_pos ha, List.countP_cons_of_pos (hall a (List.mem_cons_self) ha)]; omega
   ·rw [List.countP_cons_of_neg ha, List.countP_cons]; omega
theorem best_king {n : Nat} {b : Nat → Nat → Bool} (hT : Tour b) (hn : Tot n b) (S : List Nat) (hS : ∀ x ∈ S, x < n) {v : Nat} (hv : v ∈ S) (hm : ∀ x ∈ S, S.countP (b x) ≤ S.countP (b v)) :
  ∀ x ∈ S, x = v ∨ b v x = true ∨ ∃ u ∈ S, b v u = true ∧ b u x = true := by
 intro x hx
 by_cases h1 : x = v
 ·exact .inl h1
 ·by_cases h2 : b v x = true
  ·exact .inr (.inl h2)
  ·refine .inr (.inr (Classical.byContradiction fun hno => ?_))
   have hxv : b x v = true := (hn x v (hS x hx) (hS v hv) h1).resolve_right h2
   have := count_lt S hv hxv (hT.irr v) (fun u hu hvu => by
    have hux : ¬ b u x = true := fun h => hno ⟨u, hu, hvu, h⟩
    by_cases he : u = x
    ·subst he; exact absurd hvu h2
    ·exact (hn u x (hS u hu) (hS x hx) he).resolve_left hux)
   have := hm x hx
   omega
theorem exists_best (f : Nat → Nat) : ∀ (S : List Nat), S ≠ [] → ∃ v ∈ S, ∀ x ∈ S, f x ≤ f v := by
 intro S
 induction S with
 | nil => intro h; exact absurd rfl h
 | cons a S ih =>
  intro _
  by_cases h : S = []
  ·subst h; exact ⟨a, List.mem_cons_self, fun x hx => by rw [List.mem_singleton] at hx; subst hx; exact Nat.le_refl _⟩
  ·obtain ⟨v, hv, hm⟩ := ih h
   by_cases hc : f v ≤ f a
   ·refine ⟨a, List.mem_cons_self, fun x hx => ?_⟩
    rcases List.mem_cons.1 hx with rfl | hx
    ·exact Nat.le_refl _
    ·exact Nat.le_trans (hm x hx) hc
   ·refine ⟨v, List.mem_cons_of_mem _ hv, fun x hx => ?_⟩
    rcases List.mem_cons.1 hx with rfl | hx
    ·omega
    ·exact hm x hx
def King (n : Nat) (b : Nat → Nat → Bool) (v : Nat) : Prop := v < n ∧ ∀ x, x < n → x = v ∨ b v x = true ∨ ∃ u, u < n ∧ b v u = true ∧ b u x = true
theorem king_top {n : Nat} {b : Nat → Nat → Bool} (hT : Tour b) (hn : Tot n b) {v : Nat} (hv : v < n) (hm : ∀ x, x < n → (List.range n).countP (b x) ≤ (List.range n).countP (b v)) : King n b v := by
 refine ⟨hv, fun x hx => ?_⟩
 rcases best_king hT hn (List.range n) (fun x h => List.mem_range.1 h) (List.mem_range.2 hv) (fun x h => hm x (List.mem_range.1 h)) x (List.mem_range.2 hx) with h | h | ⟨u, hu, h⟩
 ·exact .inl h
 ·exact .inr (.inl h)
 ·exact .inr (.inr ⟨u, List.mem_range.1 hu, h⟩)
theorem king_some {n : Nat} {b : Nat → Nat → Bool} (hT : Tour b) (hn : Tot n b) (h0 : 0 < n) : ∃ v, King n b v := by
 obtain ⟨v, hv, hm⟩ := exists_best (fun x => (List.range n).countP (b x)) (List.range n) (by intro h; have := congrArg List.length h; simp at this; omega)
 exact ⟨v, king_top hT hn (List.mem_range.1 hv) (fun x hx => hm x (List.mem_range.2 hx))⟩
theorem king_beats {n : Nat} {b : Nat → Nat → Bool} (hT : Tour b) (hn : Tot n b) {i j : Nat} (hi : i < n) (hj : j < n) (hb : b j i = true) : ∃ v, King n b v ∧ b v i = true := by
 obtain ⟨v, hv, hm⟩ := exists_best (fun x => ((List.range n).filter (b · i)).countP (b x)) ((List.range n).filter (b · i)) (by intro h; have hm : j ∈ (List.range n).filter (b · i) := (List.mem_filter (p := fun x => b x i)).2 ⟨List.mem_range.2 hj, hb⟩; rw [h] at hm; cases hm)
 have hin : ∀ x, x ∈ (List.range n).filter (b · i) ↔ x < n ∧ b x i = true := fun x => by rw [List.mem_filter, List.mem_range]
 have hk := best_king hT hn _ (fun x h => ((hin x).1 h).1) hv hm
 obtain ⟨hvn, hvi⟩ := (hin v).1 hv
 refine ⟨v, ⟨hvn, fun x hx => ?_⟩, hvi⟩
 by_cases hxi : b x i = true
 ·rcases hk x ((hin x).2 ⟨hx, hxi⟩) with h | h | ⟨u, hu, h⟩
  ·exact .inl h
  ·exact .inr (.inl h)
  ·exact .inr (.inr ⟨u, ((hin u).1 hu).1, h⟩)
 ·by_cases he : x = i
  ·subst he; exact .inr (.inl hvi)
  ·exact .inr (.inr ⟨i, hi, hvi, (hn x i hx hi he).resolve_left hxi⟩)
theorem count_all {n : Nat} {b : Nat → Nat → Bool} (hT : Tour b) {v : Nat} (hv : v < n) : (List.range n).countP (b v) ≤ n - 1 ∧ ((List.range n).countP (b v) = n - 1 → ∀ x, x < n → x ≠ v → b v x = true) ∧ ((∀ x, x < n → x ≠ v → b v x = true) → (List.range n).countP (b v) = n - 1) := by
 have hq : (List.range n).countP (fun x => x != v) = n - 1 := by
  have := List.length_eq_countP_add_countP (fun x => x != v) (l := List.range n)
  rw [List.length_range] at this
  have h1 : (List.range n).countP (fun x => !(x != v)) = 1 := by
   have e : (fun x => !(x != v)) = (fun x => x == v) := by funext x; simp [bne]
   rw [e]
   have := (List.nodup_range (n := n)).count (a := v); rw [if_pos (List.mem_range.2 hv)] at this
   rw [List.count] at this
   exact this
  have e2 : (List.range n).countP (fun x => decide ¬(x != v) = true) = 1 := by
   rw [← h1]; congr 1; funext x; cases (x != v) <;> rfl
  omega
 refine ⟨?_, ?_, ?_⟩
 ·rw [← hq]
  refine List.countP_mono_left (fun u _ h => ?_)
  simp only [bne_iff_ne]
  intro he
  rw [he, hT.irr] at h; cases h
 ·intro h x hx hxv
  cases hb : b v x with
  | true => rfl
  | false =>
   have := count_lt (p := b v) (q := fun x => x != v) (List.range n) (List.mem_range.2 hx) (by simpa using hxv) hb (fun u _ h => by simp only [bne_iff_ne]; intro he; rw [he, hT.irr] at h; cases h)
   omega
 ·intro h
  rw [← hq]
  refine List.countP_congr (fun x hx => ?_)
  simp only [bne_iff_ne]
  constructor
  ·intro hb he; rw [he, hT.irr] at hb; cases hb
  ·intro he; exact h x (List.mem_range.1 hx) he
theorem king_only {n : Nat} {b : Nat → Nat → Bool} (hT : Tour b) {v w : Nat} (hv : v < n) (hall : ∀ x, x < n → x ≠ v → b v x = true) (hw : King n b w) : w = v := by
 have no : ∀ u, u < n → b u v = false := fun u hu => by
  by_cases he : u = v
  ·rw [he]; exact hT.irr v
  ·exact hT.asym _ _ (hall u hu he)
 rcases hw.2 v hv with h | h | ⟨u, hu, _, h⟩
 ·exact h.symm
 ·rw [no w hw.1] at h; cases h
 ·rw [no u hu] at h; cases h
theorem beaten_of {n : Nat} {b : Nat → Nat → Bool} (hT : Tour b) (hn : Tot n b) {v : Nat} (hv : v < n) (h : (List.range n).countP (b v) ≠ n - 1) : ∃ u, u < n ∧ b u v = true := by
 apply Classical.byContradiction
 intro hno
 refine h ((count_all hT hv).2.2 (fun x hx hxv => ?_))
 exact (hn x v hx hv hxv).resolve_left (fun hb => hno ⟨x, hx, hb⟩)
section
variable {n : Nat} {b : Nat → Nat → Bool} {K : List Nat}
theorem kings_one (hT : Tour b) (hn : Tot n b) (h0 : 0 < n) (hK : ∀ v, v ∈ K ↔ King n b v) (hd : K.Nodup) :
  K.length = 1 ↔ ∃ v, v < n ∧ (List.range n).countP (b v) = n - 1 := by
 constructor
 ·intro h
  obtain ⟨v, rfl⟩ := List.length_eq_one_iff.1 h
  have hv := (hK v).1 List.mem_cons_self
  refine ⟨v, hv.1, Classical.byContradiction fun hne => ?_⟩
  obtain ⟨u, hu, hb⟩ := beaten_of hT hn hv.1 hne
  obtain ⟨w, hw, hwb⟩ := king_beats hT hn hv.1 hu hb
  have := (hK w).2 hw
  rw [List.mem_singleton] at this
  rw [this, hT.irr] at hwb
  cases hwb
 ·rintro ⟨v, hv, hc⟩
  have hall := (count_all hT hv).2.1 hc
  obtain ⟨w, hw⟩ := king_some hT hn h0
  have hwv := king_only hT hv hall hw
  subst hwv
  have hm := (hK w).2 hw
  match K, hd, hK, hm with
  | [], _, _, hm => cases hm
  | [a], _, _, _ => rfl
  | a :: c :: l, hd, hK, _ =>
   have h1 := king_only hT hv hall ((hK a).1 (by simp))
   have h2 := king_only hT hv hall ((hK c).1 (by simp))
   rw [h1, h2] at hd
   simp at hd
theorem kings_two (hT : Tour b) (hn : Tot n b) (h0 : 0 < n) (hK : ∀ v, v ∈ K ↔ King n b v) (hd : K.Nodup) : K.length ≠ 2 := by
 intro h
 have hone := kings_one hT hn h0 hK hd
 match K, h with
 | [a, c], _ =>
  have hno : ∀ v, v < n → (List.range n).countP (b v) ≠ n - 1 := fun v hv hc => by
   have := hone.2 ⟨v, hv, hc⟩
   simp at this
  have ha := (hK a).1 (by simp)
  have hc := (hK c).1 (by simp)
  have key : ∀ {x y : Nat}, King n b x → (∀ w, King n b w → w = x ∨ w = y) → b y x = true := fun {x y} hx hxy => by
   obtain ⟨u, hu, hb⟩ := beaten_of hT hn hx.1 (hno x hx.1)
   obtain ⟨w, hw, hwb⟩ := king_beats hT hn hx.1 hu hb
   rcases hxy w hw with rfl | rfl
   ·rw [hT.irr] at hwb; cases hwb
   ·exact hwb
  have h1 := key (x := a) (y := c) ha (fun w hw => by have := (hK w).2 hw; simpa using this)
  have h2 := key (x := c) (y := a) hc (fun w hw => by have := (hK w).2 hw; simp at this; exact this.symm)
  rw [hT.asym _ _ h1] at h2
  cases h2
end
def bt (t : List (List Int)) (i j : Nat) : Bool := g2 t i j == 1
theorem g2_out {t : List (List Int)} (hC : IsC t) {i j : Nat} (h : ¬ (i < t.length ∧ j < t.length)) : g2 t i j = 0 := by
 unfold g2
 by_cases hi : i < t.length
 ·have hr := (hC.rows i t[i] (List.getElem?_eq_getElem hi)).1
  have e : t.getD i [] = t[i] := by simp [List.getD_eq_getElem?_getD, List.getElem?_eq_getElem hi]
  rw [e, List.getD_eq_getElem?_getD, List.getElem?_eq_none (by omega)]
  rfl
 ·have e : t.getD i [] = [] := by simp [List.getD_eq_getElem?_getD, List.getElem?_eq_none (by omega : t.length ≤ i)]
  rw [e]
  rfl
theorem g2_01 {t : List (List Int)} (hC : IsC t) (i j : Nat) : g2 t i j = 0 ∨ g2 t i j = 1 := by
 by_cases h : i < t.length ∧ j < t.length
 ·have := rowC_bd hC.rows h.1 h.2
  omega
 ·exact .inl (g2_out hC h)
theorem bt_iff {t : List (List Int)} {i j : Nat} : bt t i j = true ↔ g2 t i j = 1 := by unfold bt; simp
theorem bt_tour {t : List (List Int)} (hC : IsC t) : Tour (bt t) where
 irr i := by
  unfold bt
  by_cases h : i < t.length
  ·rw [(hC.one i i h h).1 rfl]; rfl
  ·rw [g2_out hC (fun h' => h h'.1)]; rfl
 asym i j h := by
  have h1 := bt_iff.1 h
  by_cases hij : i < t.length ∧ j < t.length
  ·by_cases e : i = j
   ·subst e
    rw [(hC.one i i hij.1 hij.1).1 rfl] at h1
    cases h1
   ·have := (hC.one i j hij.1 hij.2).2 e
    unfold bt
    have : g2 t j i = 0 := by omega
    rw [this]; rfl
  ·rw [g2_out hC hij] at h1; cases h1
theorem bt_tot {t : List (List Int)} (hC : IsC t) : Tot t.length (bt t) := by
 intro i j hi hj e
 have := (hC.one i j hi hj).2 e
 rcases g2_01 hC i j with h | h
 ·exact .inr (bt_iff.2 (by omega))
 ·exact .inl (bt_iff.2 h)
theorem king_iff {t : List (List Int)} (hC : IsC t) {v : Nat} : King t.length (bt t) v ↔ v < t.length ∧ kingB t v = true := by
 unfold King kingB reachB
 simp only [List.all_eq_true, List.mem_range, Bool.or_eq_true, List.any_eq_true, beq_iff_eq, bt_iff]
 refine and_congr_right fun hv => forall_congr' fun x => imp_congr_right fun hx => ?_
 constructor
 ·rintro (h | h | ⟨u, hu, h1, h2⟩)
  ·exact .inr (.inl h.symm)
  ·exact .inr (.inr h)
  ·exact .inl ⟨u, hu, by omega⟩
 ·rintro (⟨u, hu, h⟩ | h | h)
  ·have h1 := g2_01 hC v u
   have h2 := g2_01 hC u x
   exact .inr (.inr ⟨u, hu, by omega, by omega⟩)
  ·exact .inl h.symm
  ·exact .inr (.inl h)
def kl (t : List (List Int)) : List Nat := (List.range t.length).filter (kingB t)
theorem kl_mem {t : List (List Int)} (hC : IsC t) (v : Nat) : v ∈ kl t ↔ King t.length (bt t) v := by
 rw [king_iff hC]
 unfold kl
 rw [List.mem_filter, List.mem_range]
theorem kl_nodup (t : List (List Int)) : (kl t).Nodup := List.nodup_range.filter _
theorem kings_kl (t : List (List Int)) : kingsUp t t.length = (kl t).map fun v : Nat => (v : Int) := rfl
theorem kl_lt (t : List (List Int)) : (kl t).Pairwise (· < ·) := List.pairwise_lt_range.filter _
theorem row_sum (n : Nat) (f : Nat → Int) (hf : ∀ j, f j = 0 ∨ f j = 1) : ((List.range n).map f).sum = (((List.range n).countP fun j => f j == 1 : Nat) : Int) := by
 generalize List.range n = l
 induction l with
 | nil => rfl
 | cons a l ih =>
  rw [List.map_cons, List.sum_cons, ih, List.countP_cons]
  rcases hf a with h | h
  ·rw [h]; simp
  ·rw [h]; simp; omega
theorem row_map {n : Nat} {y : List Int} (h : y.length = n) : y = (List.range n).map fun j => y.getD j 0 := by
 apply List.ext_getElem
 ·simp [h]
 ·intro i h1 h2
  simp [List.getD_eq_getElem?_getD, List.getElem?_eq_getElem h1]
def scN (t : List (List Int)) (i : Nat) : Nat := (List.range t.length).countP (bt t i)
theorem sc_at {t : List (List Int)} (hC : IsC t) {i : Nat} (hi : i < t.length) : (t.map List.sum)[i]? = some (scN t i : Int) := by
 rw [List.getElem?_map, List.getElem?_eq_getElem hi]
 simp only [Option.map_some]
 congr 1
 have e : t.getD i [] = t[i] := by simp [List.getD_eq_getElem?_getD, List.getElem?_eq_getElem hi]
 rw [row_map (hC.rows i t[i] (List.getElem?_eq_getElem hi)).1]
 have := row_sum t.length (fun j => t[i].getD j 0) (fun j => by have := g2_01 hC i j; unfold g2 at this; rw [e] at this; exact this)
 rw [this]
 congr 2
 funext j
 unfold bt g2
 rw [e]
structure KFacts (t : List (List Int)) (n : Nat) : Prop where
 some_ : 1 ≤ (kl t).length
 two : (kl t).length ≠ 2
 le : (kl t).length ≤ n
 sc : ∀ i, i < n → scN t i ≤ n - 1
 top : ∀ i, i < n → (∀ j, j < n → scN t j ≤ scN t i) → kingB t i = true
 beat : ∀ i, i < n → scN t i < n - 1 → ∃ j, j < n ∧ kingB t j = true ∧ g2 t j i = 1
 one : (kl t).length = 1 ↔ ∃ i, i < n ∧ scN t i = n - 1
theorem kings_facts {t : List (List Int)} (hC : IsC t) {n : Nat} (hn : t.length = n) (h0 : 0 < n) : KFacts t n := by
 subst hn
 have hT := bt_tour hC
 have hN := bt_tot hC
 refine ⟨?_, kings_two hT hN h0 (kl_mem hC) (kl_nodup t), ?_, fun i hi => (count_all hT hi).1, ?_, ?_, kings_one hT hN h0 (kl_mem hC) (kl_nodup t)⟩
 ·obtain ⟨v, hv⟩ := king_some hT hN h0
  exact List.length_pos_of_mem ((kl_mem hC v).2 hv)
 ·have := List.length_filter_le (kingB t) (List.range t.length)
  rw [List.length_range] at this
  exact this
 ·intro i hi hm
  exact ((king_iff hC).1 (king_top hT hN hi hm)).2
 ·intro i hi hlt
  obtain ⟨u, hu, hb⟩ := beaten_of hT hN hi (by unfold scN at hlt; omega)
  obtain ⟨v, hv, hb⟩ := king_beats hT hN hi hu hb
  have := (king_iff hC).1 hv
  exact ⟨v, this.1, this.2, bt_iff.1 hb⟩
theorem leo_up {α : Type} (f : Nat → Option α) (h : ∀ k, LeO (f k) (f (k + 1))) {k m : Nat} (hkm : k ≤ m) : LeO (f k) (f m) := by
 induction hkm with
 | refl => exact LeO.refl _
 | step _ ih => exact fun r hr => h _ r (ih r hr)
theorem scores_run {t : List (List Int)} (hC : IsC t) : ∀ (ds : List (List Int)) (i : Nat) (acc : List Int), t.drop i = ds → acc.length = i → ∃ k, tickingref09_Scores.l0 k t acc (i : Int) = some (acc ++ ds.map List.sum)
 | [], i, acc, hd, ha => by
  have hi : t.length ≤ i := by have := congrArg List.length hd; simp at this; omega
  exact ⟨1, by unfold tickingref09_Scores.l0; rw [if_neg (by omega)]; simp⟩
 | d :: ds, i, acc, hd, ha => by
  have hi : i < t.length := by have := congrArg List.length hd; simp at this; omega
  have hdi : t[i]? = some d := by
   have := congrArg (fun l => l[0]?) hd
   simpa using this
  have hd' : t.drop (i + 1) = ds := by
   have := congrArg (List.drop 1) hd
   rw [List.drop_drop] at this
   simpa [Nat.add_comm] using this
  have hr := hC.rows i d hdi
  have hl := hC.len
  obtain ⟨k1, hk1⟩ := total_f (l := d) (by have := hr.1; omega) (fun x hx => by have := inR_iff.1 (hr.2 x hx); omega)
  obtain ⟨k2, hk2⟩ := scores_run hC ds (i + 1) (acc ++ [d.sum]) hd' (by simp [ha])
  obtain ⟨k, h1, h2⟩ : ∃ k, tickingref09_total.f k d = some d.sum ∧ tickingref09_Scores.l0 k t (acc ++ [d.sum]) ((i + 1 : Nat) : Int) = some ((acc ++ [d.sum]) ++ ds.map List.sum) := ⟨max k1 k2, leo_up (fun k => tickingref09_total.f k d) (fun k => tickingref09_total.mono d k) (Nat.le_max_left _ _) _ hk1, leo_up (fun k => tickingref09_Scores.l0 k t (acc ++ [d.sum]) ((i + 1 : Nat) : Int)) (fun k => tickingref09_Scores.mono_l k _ _ _) (Nat.le_max_right _ _) _ hk2⟩
  refine ⟨k + 1, ?_⟩
  have e : rd_L2 t (i : Int) = d := by unfold rd_L2; rw [Int.toNat_natCast, List.getD_eq_getElem?_getD, hdi]; rfl
  unfold tickingref09_Scores.l0
  rw [if_pos (by omega), if_pos (by omega), e, h1]
  simp only [Option.bind_some]
  rw [if_pos (by omega), nxtN (by omega), h2]
  simp
theorem scores_f {t : List (List Int)} (hC : IsC t) : ∃ k, tickingref09_Scores.f k t = some (t.map List.sum) := by
 obtain ⟨k, hk⟩ := scores_run hC t 0 [] rfl rfl
 exact ⟨k, by unfold tickingref09_Scores.f; simpa using hk⟩
end Go.Proofs.Ytcploeijeedmdaa.X
