/- Plain facts of mod. Texts of this claim's session, put together: SNum, SCon, SCmp, SSort, SSorted, SExc, SGr, SKin, PTrees, STrees, SMod. -/
import Derived.Test.YtcploeijeedmdaaBb3
import Derived.Test.YtcploeijeedmdaaBb2
import Derived.Test.YtcploeijeedmdaaBb1
import Derived.Test.YtcploeijeedmdaaVWords
import Derived.Test.YtcploeijeedmdaaVLast
import Derived.Test.YtcploeijeedmdaaVRepsOne
namespace Go.Proofs.Ytcploeijeedmdaa.X
open Go.RowKit Go.Shelf Go.Proofs.YtcploeijeedmdaaW.PrintWords Go.Proofs.YtcploeijeedmdaaW.PrintLast Go.Proofs.Ytcploeijeedmdaa.S
set_option linter.unusedVariables false
set_option linter.unusedSimpArgs false
def RowI (W : World) (A : Option Addr) (xs : List Int) : Prop := Kd.C (Kd.int .i64) W A xs.length xs ∧ ∀ a, A = some a → a.spot = none
theorem RowI.below {W W' : World} {A : Option Addr} {xs : List Int} (h : RowI W A xs) (hb : Below W.heap.size W W') : RowI W' A xs := ⟨Kd.C_below h.1 hb, h.2⟩
theorem RowI.drewN {W : World} {A : Option Addr} {xs : List Int} (h : RowI W A xs) (n : Nat) : RowI (W.drewN n) A xs := ⟨Kd.C_drewN h.1 n, h.2⟩
theorem RowI.drawn {W W' : World} {A : Option Addr} {xs : List Int} (h : RowI W A xs) (hd : Drawn0 W W') : RowI W' A xs := by
 obtain ⟨n, rfl⟩ := hd
 exact h.drewN n
theorem RowI.alloc {W : World} {A : Option Addr} {xs : List Int} (h : RowI W A xs) (o : Obj) : RowI (W.alloc o) A xs := ⟨Kd.C_alloc h.1 o, h.2⟩
theorem RowI.len {W : World} {A : Option Addr} {xs : List Int} (h : RowI W A xs) : xs.length ≤ 9223372036854775807 := by have := h.1.2.1; omega
theorem RowI.cells {W : World} {A : Option Addr} {xs : List Int} (h : RowI W A xs) (hn : 0 < xs.length) :
  ∃ b o, A = some ⟨b, o, none⟩ ∧ b < W.heap.size ∧ ∀ j : Nat, (hj : j < xs.length) → W.cell? ⟨b, o + j, none⟩ = some (.int .i64 xs[j]) := by
 obtain ⟨ad, e, _⟩ := Kd.at_int h.1 0 (by decide) (by omega)
 subst e
 have hs := h.2 ad rfl
 obtain ⟨b, o, s⟩ := ad
 simp only at hs
 subst hs
 have hc : ∀ j : Nat, (hj : j < xs.length) → W.cell? ⟨b, o + j, none⟩ = some (.int .i64 xs[j]) := fun j hj => by
  obtain ⟨ad, e, hcell⟩ := Kd.at_int h.1 (j : Int) (by omega) (by omega)
  cases e
  rw [Int.toNat_natCast, Addr.add_lit] at hcell
  rw [hcell]
  simp [rd, hj]
 exact ⟨b, o, rfl, World.block_lt_of_cell? _ _ (hc 0 hn), hc⟩
theorem OwnI.row {W : World} {base : Nat} {v : Value} {xs : List Int} (h : OwnI W base v xs) : ∃ A c, v = .slice A xs.length c ∧ xs.length ≤ c ∧ RowI W A xs := by
 have hm : xs.length ≤ 9223372036854775807 := by
  rcases h.2 with ⟨_, h0⟩ | ⟨g, cap, cur, rfl, hb, hh, hn, hc, _⟩
  ·omega
  ·unfold maxLen at hc; omega
 obtain ⟨A, c, e, hc, hr⟩ := h.reads hm
 refine ⟨A, c, e, hc, hr, fun a ha => ?_⟩
 subst ha
 rcases h.2 with ⟨e2, _⟩ | ⟨g, cap, cur, e2, _⟩
 ·rw [e] at e2; cases e2
 ·rw [e] at e2
  injection e2 with e2
  injection e2 with e2
  rw [e2]
theorem contains_calls (p : Int → Bool) (g : Nat) (lb : Array Value) (eg : ∀ args w, (callFunc g args).run Try.prog w = .ok (.enter g args) w) (A : Option Addr) (c : Nat) (xs : List Int) (w : World) (hp : PredAt Try.prog g lb (Value.int .i64) p w) (hr : RowI w A xs) :
  Calls Try.prog 76 #[.slice A xs.length c, .func (.func g) #[] lb] w fun e w' => e = .returned (.bool (xs.any p)) ∧ Drawn0 w w' := by
 by_cases hn : 0 < xs.length
 ·obtain ⟨b, o, rfl, hb, hc⟩ := hr.cells hn
  refine (Try.slices_ContainsFunc (Value.int .i64) p g lb eg b o xs.length c xs w hp (Nat.le_refl _) hr.len (fun j hj => ?_)).mono ?_
  ·rw [hc j hj, getElem!_pos xs j hj]
  ·rintro e w' ⟨rfl, q, rfl⟩
   exact ⟨by rw [List.take_length], q, rfl⟩
 ·obtain rfl : xs = [] := List.length_eq_zero_iff.1 (by omega)
  refine (Try.slices_ContainsFunc_empty (α := Int) A c _ w).mono ?_
  rintro e w' ⟨rfl, rfl⟩
  exact ⟨rfl, Drawn0.refl _⟩
def inR (n lo hi : Int) : Bool := decide (lo ≤ n) && decide (n ≤ hi)
theorem within_f (n lo hi : Int) : scores_within.f n lo hi = some (inR n lo hi) := by
 unfold scores_within.f inR
 by_cases h : lo ≤ n
 ·simp [h]
 ·simp [h]
def numsB (l : List Int) : Bool := decide (l.length ≤ 30) && l.all (fun n => inR n 0 30)
set_option maxHeartbeats 1000000 in
set_option maxRecDepth 100000 in
theorem pred89 (w : World) : PredAt Try.prog 89 #[] (Value.int .i64) (fun n => !(inR n 0 30)) w := by
 intro W x hb
 have HN := Aside0.mk (scores_within.calls x 0 30 (inR x 0 30) W (within_f x 0 30))
 clear hb
 show Calls Try.prog 89 #[.int .i64 x] W _
 go_enter Try.func89, Try.ntmps89
 go_wp2_with (go_at_call 62; (with_reducible refine HN.out.mono ?_); rintro e w' ⟨rfl, ⟨nd, rfl⟩⟩)
 go_ret
 exact ⟨rfl, nd, rfl⟩
set_option maxHeartbeats 1000000 in
set_option maxRecDepth 100000 in
theorem scores_areNumbers.calls (A : Option Addr) (c : Nat) (l : List Int) (w : World) (hr : RowI w A l) :
  Calls Try.prog 61 #[.slice A l.length c] w fun e w' => e = .returned (.bool (numsB l)) ∧ Drawn0 w w' := by
 have HC := Aside0.mk (contains_calls (fun n => !(inR n 0 30)) 89 #[] (Go.Proofs.enters_of Try.func89 (by kernel_rfl) rfl) A c l w (pred89 w) hr)
 by_cases hl : l.length ≤ 30
 ·have p1 : decide ((l.length : Int) ≤ 30) = true := decide_eq_true (by omega)
  have p2 : ((l.length : Int) ≤ 30) = True := eq_true (by omega)
  have p3 : (l.length ≤ 30) = True := eq_true hl
  have HV := Aside0.mk (show numsB l = !(l.any fun n => !(inR n 0 30)) by
   unfold numsB
   rw [decide_eq_true hl, Bool.true_and]
   rw [Bool.eq_iff_iff]
   simp)
  clear hl
  go_enter Try.func61, Try.ntmps61
  go_wp2_with (go_at_call 76; (with_reducible refine HC.out.mono ?_); rintro e w' ⟨rfl, ⟨nd, rfl⟩⟩)
  go_ret
  exact ⟨by rw [HV.out]; rfl, nd, rfl⟩
 ·have p1 : decide ((l.length : Int) ≤ 30) = false := decide_eq_false (by omega)
  have p2 : ((l.length : Int) ≤ 30) = False := eq_false (by omega)
  have p3 : (l.length ≤ 30) = False := eq_false hl
  have HV := Aside0.mk (show numsB l = false by unfold numsB; rw [decide_eq_false hl, Bool.false_and])
  clear hl
  go_enter Try.func61, Try.ntmps61
  go_wp2
  go_ret
  exact ⟨by rw [HV.out]; rfl, Drawn0.refl _⟩
end Go.Proofs.Ytcploeijeedmdaa.X
namespace Go.Proofs.Ytcploeijeedmdaa.X
open Go.RowKit Go.Shelf Go.Proofs.YtcploeijeedmdaaW.PrintWords Go.Proofs.YtcploeijeedmdaaW.PrintLast Go.Proofs.Ytcploeijeedmdaa.S
set_option linter.unusedVariables false
set_option linter.unusedSimpArgs false
theorem drawn_trans {a b c : World} (h : Drawn0 a b) (k : Drawn0 b c) : Drawn0 a c := by
 obtain ⟨n, rfl⟩ := k
 exact h.step n
structure RowLL (W : World) (A : Option Addr) (t : List (List Int)) : Prop where
 len : t.length ≤ 9223372036854775807
 row : ∀ (i : Nat) (y : List Int), t[i]? = some y → ∃ b o Ai ci, A = some ⟨b, o, none⟩ ∧ W.cell? ⟨b, o + i, none⟩ = some (.slice Ai y.length ci) ∧ y.length ≤ ci ∧ RowI W Ai y
theorem RowLL.below {W W' : World} {A : Option Addr} {t : List (List Int)} (h : RowLL W A t) (hb : Below W.heap.size W W') : RowLL W' A t := by
 refine ⟨h.len, fun i y hi => ?_⟩
 obtain ⟨b, o, Ai, ci, e, h1, h2, h3⟩ := h.row i y hi
 exact ⟨b, o, Ai, ci, e, pw_cell_below hb h1, h2, h3.below hb⟩
theorem RowLL.drawn {W W' : World} {A : Option Addr} {t : List (List Int)} (h : RowLL W A t) (hd : Drawn0 W W') : RowLL W' A t := by
 obtain ⟨n, rfl⟩ := hd
 exact h.below (pw_below_drewN (Below.refl _ _) n)
theorem RowLL.at_ {W : World} {A : Option Addr} {t : List (List Int)} (h : RowLL W A t) {i : Nat} (hi : i < t.length) : ∃ ad Ai ci y, t[i]? = some y ∧ A = some ad ∧ W.cell? (ad.add i) = some (.slice Ai y.length ci) ∧ y.length ≤ ci ∧ RowI W Ai y := by
 obtain ⟨b, o, Ai, ci, e, h1, h2, h3⟩ := h.row i t[i] (List.getElem?_eq_getElem hi)
 exact ⟨_, Ai, ci, t[i], List.getElem?_eq_getElem hi, e, by rw [Addr.add_lit]; exact h1, h2, h3⟩
theorem RowI.at_ {W : World} {A : Option Addr} {l : List Int} (h : RowI W A l) {i : Nat} (hi : i < l.length) : ∃ ad x, l[i]? = some x ∧ A = some ad ∧ W.cell? (ad.add i) = some (.int .i64 x) := by
 obtain ⟨ad, e, hc⟩ := Kd.at_int h.1 (i : Int) (by omega) (by omega)
 refine ⟨ad, l[i], List.getElem?_eq_getElem hi, e, ?_⟩
 rw [Int.toNat_natCast] at hc
 rw [hc]
 simp [rd, hi]
def g2 (t : List (List Int)) (i j : Nat) : Int := (t.getD i []).getD j 0
theorem g2_at {t : List (List Int)} {i j : Nat} {y : List Int} {x : Int} (hi : t[i]? = some y) (hj : y[j]? = some x) : g2 t i j = x := by
 unfold g2
 simp [List.getD_eq_getElem?_getD, hi, hj]
theorem inR_iff {x lo hi : Int} : inR x lo hi = true ↔ lo ≤ x ∧ x ≤ hi := by unfold inR; simp
def rowC (n : Nat) (y : List Int) : Prop := y.length = n ∧ ∀ x ∈ y, inR x 0 1 = true
def oneC (t : List (List Int)) (i j : Nat) : Prop := (i = j → g2 t i j = 0) ∧ (i ≠ j → g2 t i j + g2 t j i = 1)
structure IsC (t : List (List Int)) : Prop where
 len : t.length ≤ 30
 rows : ∀ (i : Nat) (y : List Int), t[i]? = some y → rowC t.length y
 one : ∀ i j : Nat, i < t.length → j < t.length → oneC t i j
theorem rowC_bd {t : List (List Int)} (h : ∀ (i : Nat) (y : List Int), t[i]? = some y → rowC t.length y) {i j : Nat} (hi : i < t.length) (hj : j < t.length) : 0 ≤ g2 t i j ∧ g2 t i j ≤ 1 := by
 have hr := h i t[i] (List.getElem?_eq_getElem hi)
 have hj' : j < t[i].length := by rw [hr.1]; exact hj
 rw [g2_at (List.getElem?_eq_getElem hi) (List.getElem?_eq_getElem hj')]
 exact inR_iff.1 (hr.2 _ (List.getElem_mem _))
set_option maxHeartbeats 1000000 in
set_option maxRecDepth 100000 in
theorem pred88 (w : World) : PredAt Try.prog 88 #[] (Value.int .i64) (fun n => !(inR n 0 1)) w := by
 intro W x hb
 have HN := Aside0.mk (scores_within.calls x 0 1 (inR x 0 1) W (within_f x 0 1))
 clear hb
 show Calls Try.prog 88 #[.int .i64 x] W _
 go_enter Try.func88, Try.ntmps88
 go_wp2_with (go_at_call 62; (with_reducible refine HN.out.mono ?_); rintro e w' ⟨rfl, ⟨nd, rfl⟩⟩)
 go_ret
 exact ⟨rfl, nd, rfl⟩
theorem any_not {l : List Int} : (l.any fun n => !(inR n 0 1)) = false ↔ ∀ x ∈ l, inR x 0 1 = true := by
 rw [List.any_eq_false]
 simp
set_option maxHeartbeats 4000000 in
set_option maxRecDepth 100000 in
theorem scores_isContest.calls (A : Option Addr) (c : Nat) (t : List (List Int)) (r : Bool) (w : World) (hr : RowLL w A t) (hv : r = true ↔ IsC t) :
  Calls Try.prog 58 #[.slice A t.length c] w fun e w' => e = .returned (.bool r) ∧ Drawn0 w w' := by
 have HR := Aside0.mk hr
 have HV := Aside0.mk hv
 have hmax := hr.len
 clear hr hv
 obtain ⟨n, HN⟩ : ∃ n, Aside0 (t.length = n) := ⟨_, ⟨rfl⟩⟩
 rw [HN.out] at hmax ⊢
 have HMX := Aside0.mk hmax
 clear hmax
 by_cases hl : n ≤ 30
 ·have p1 : decide ((30 : Int) < (n : Int)) = false := decide_eq_false (by omega)
  have p2 : ((30 : Int) < (n : Int)) = False := eq_false (by omega)
  have p3 : (30 < n) = False := eq_false (by omega)
  have HL := Aside0.mk hl
  clear hl
  go_enter Try.func58, Try.ntmps58
  go_wp2
  clear p1 p2 p3
  go_loopw [14] (fun iv wr => ∃ i : Nat, i ≤ n ∧ iv = .int .i64 (i : Int) ∧ Aside0 (∀ (i' : Nat) (y : List Int), i' < i → t[i']? = some y → rowC n y) ∧ Aside0 (Drawn0 w wr)) (fun iv _ => n - (intOf iv).toNat)
  case atStart => exact ⟨0, Nat.zero_le _, rfl, ⟨fun i' _ h => absurd h (Nat.not_lt_zero _)⟩, ⟨Drawn0.refl _⟩⟩
  case round =>
   obtain ⟨i, hi, rfl, HP, HD⟩ := hrel
   by_cases hil : i < n
   ·have HI := Aside0.mk hil
    have hz : (i : Int) < (n : Int) := by omega
    obtain ⟨ad, Ai, ci, y, hy, e, h0, hci, hri⟩ := (HR.out.drawn HD.out).at_ (i := i) (by rw [HN.out]; exact hil)
    subst e
    have HRI := Aside0.mk hri
    have HY := Aside0.mk hy
    clear hci hri hy
    have HCO := Aside0.mk (fun (W : World) (h : RowI W Ai y) => contains_calls (fun n => !(inR n 0 1)) 88 #[] (Go.Proofs.enters_of Try.func88 (by kernel_rfl) rfl) Ai ci y W (pred88 W) h)
    have HF := Aside0.mk (fun (h : ¬ rowC n y) => (show r = false by
     rw [← Bool.not_eq_true, HV.out]
     intro hc
     have := hc.rows i y HY.out
     rw [HN.out] at this
     exact h this))
    clear hi hil
    by_cases hyl : y.length = n
    ·cases hany : (y.any fun n => !(inR n 0 1)) with
     | true =>
      rw [hany] at HCO
      have HG := Aside0.mk (HF.out (fun h => by rw [any_not.2 h.2] at hany; cases hany))
      rw [hyl] at h0 HCO
      clear hany hyl
      go_wp2_with (go_at_call 76; (with_reducible refine (HCO.out _ HRI.out).mono ?_); rintro e w' ⟨rfl, hd⟩; have HD2 := Aside0.mk (drawn_trans HD.out hd); clear hd)
      go_ret
      exact ⟨by rw [HG.out]; rfl, HD2.out⟩
     | false =>
      have HG := Aside0.mk (show rowC n y from ⟨hyl, any_not.1 hany⟩)
      rw [hany, hyl] at HCO
      rw [hyl] at h0
      clear hany hyl
      go_wp2_with (go_at_call 76; (with_reducible refine (HCO.out _ HRI.out).mono ?_); rintro e w' ⟨rfl, hd⟩; have HD2 := Aside0.mk (drawn_trans HD.out hd); clear hd)
      go_roundw
      ·refine ⟨i + 1, HI.out, congrArg (Value.int .i64) (nxtN (by have := HI.out; have := HL.out; omega)), ⟨fun i' z h2 h1 => ?_⟩, HD2⟩
       rcases Nat.lt_or_eq_of_le (Nat.le_of_lt_succ h2) with h2 | rfl
       ·exact HP.out i' z h2 h1
       ·rw [HY.out] at h1; cases h1; exact HG.out
      ·rw [nxtN (by have := HI.out; have := HL.out; omega)]; have := HI.out; simp only [intOf]; omega
    ·have HG := Aside0.mk (HF.out (fun h => hyl h.1))
     have q1 : decide ((y.length : Int) = (n : Int)) = false := decide_eq_false (by omega)
     have q2 : ((y.length : Int) = (n : Int)) = False := eq_false (by omega)
     have q3 : ((y.length : Int) == (n : Int)) = false := beq_eq_false_iff_ne.2 (by omega)
     have q4 : (y.length = n) = False := eq_false hyl
     clear hyl
     go_wp2
     go_ret
     exact ⟨by rw [HG.out]; rfl, HD.out⟩
   ·obtain rfl : n = i := by omega
    clear hi hil
    have HPP := Aside0.mk (fun (i' : Nat) (y : List Int) (h : t[i']? = some y) => HP.out i' y (by rw [← HN.out]; exact (List.getElem?_eq_some_iff.1 h).1) h)
    have HBD := Aside0.mk (fun (i j : Nat) (hi : i < n) (hj : j < n) => rowC_bd (t := t) (fun i' y h => by rw [HN.out]; exact HPP.out i' y h) (i := i) (j := j) (by rw [HN.out]; exact hi) (by rw [HN.out]; exact hj))
    clear HP
    go_wp2
    go_loopw [30] (fun iv wr => ∃ i : Nat, i ≤ n ∧ iv = .int .i64 (i : Int) ∧ Aside0 (∀ i' j' : Nat, i' < i → j' < n → oneC t i' j') ∧ Aside0 (Drawn0 w wr)) (fun iv _ => n - (intOf iv).toNat)
    case atStart => exact ⟨0, Nat.zero_le _, rfl, ⟨fun i' _ h => absurd h (Nat.not_lt_zero _)⟩, HD⟩
    case round =>
     rename World => wq
     obtain ⟨i, hi, rfl, HO, HDq⟩ := hrel
     by_cases hil : i < n
     ·have HI := Aside0.mk hil
      have hz : (i : Int) < (n : Int) := by omega
      obtain ⟨ad, Ai, ci, y, hy, e, h0, hci, hri⟩ := (HR.out.drawn HDq.out).at_ (i := i) (by rw [HN.out]; exact hil)
      subst e
      have HY := Aside0.mk hy
      have HYL := Aside0.mk ((HPP.out i y hy).1)
      rw [HYL.out] at h0
      have HRI := Aside0.mk (show ∀ W, Drawn0 w W → RowI W Ai y from fun W h => by
       obtain ⟨b, o, Ai', ci', e1, e2, e3, e4⟩ := (HR.out.drawn h).row i y hy
       obtain ⟨b', o', Ai'', ci'', f1, f2, f3, f4⟩ := (HR.out.drawn HDq.out).row i y hy
       have : W.cell? ⟨b, o + i, none⟩ = wq.cell? ⟨b, o + i, none⟩ := by
        obtain ⟨q1, rfl⟩ := h
        obtain ⟨q2, rfl⟩ := HDq.out
        rfl
       rw [e1] at f1
       injection f1 with f1
       cases f1
       have g1 : wq.cell? ⟨b, o + i, none⟩ = some (.slice Ai y.length ci) := by
        have := h0
        rw [← HYL.out] at this
        injection e1 with e1
        rw [e1, Addr.add_lit] at this
        exact this
       rw [this, g1] at e2
       injection e2 with e2
       injection e2 with e2
       rw [e2]
       exact e4)
      clear hci hri hy hi hil
      go_wp2
      clear h0
      go_loopw [37] (fun jv ws => ∃ j : Nat, j ≤ n ∧ jv = .int .i64 (j : Int) ∧ Aside0 (∀ j' : Nat, j' < j → oneC t i j') ∧ Aside0 (Drawn0 w ws)) (fun jv _ => n - (intOf jv).toNat)
      case atStart => exact ⟨0, Nat.zero_le _, rfl, ⟨fun i' h => absurd h (Nat.not_lt_zero _)⟩, HDq⟩
      case round =>
       rename World => ws
       obtain ⟨j, hj, rfl, HJO, HDs⟩ := hrel
       by_cases hjl : j < n
       ·have HJ := Aside0.mk hjl
        have hzj : (j : Int) < (n : Int) := by omega
        obtain ⟨ai, x, hx, e, k0⟩ := (HRI.out ws HDs.out).at_ (i := j) (by rw [HYL.out]; exact hjl)
        subst e
        obtain ⟨ad2, Aj, cj, z, hz2, e, k1, _, hrj⟩ := (HR.out.drawn HDs.out).at_ (i := j) (by rw [HN.out]; exact hjl)
        cases e
        have hzl := (HPP.out j z hz2).1
        rw [hzl] at k1
        obtain ⟨aj, u, hu, e, k2⟩ := hrj.at_ (i := i) (by rw [hzl]; exact HI.out)
        subst e
        have hgx := g2_at HY.out hx
        have hgu := g2_at hz2 hu
        have bx := HBD.out i j HI.out hjl
        have bu := HBD.out j i hjl HI.out
        rw [hgx] at bx
        rw [hgu] at bu
        have HOX := Aside0.mk (show oneC t i j ↔ (i = j → x = 0) ∧ (i ≠ j → x + u = 1) by unfold oneC; rw [hgx, hgu])
        have HW := Aside0.mk (show wrap64 (x + u) = x + u from w64 (by omega) (by omega))
        have HF := Aside0.mk (fun (h : ¬ oneC t i j) => (show r = false by
         rw [← Bool.not_eq_true, HV.out]
         intro hc
         exact h (hc.one i j (by rw [HN.out]; exact HI.out) (by rw [HN.out]; exact HJ.out))))
        clear hrj hgx hgu bx bu hx hu hz2 hzl hj hjl
        by_cases hij : i = j
        ·have HIJ := Aside0.mk hij
         have q1 : decide ((i : Int) = (j : Int)) = true := decide_eq_true (by omega)
         have q2 : ((i : Int) = (j : Int)) = True := eq_true (by omega)
         have q3 : ((i : Int) == (j : Int)) = true := beq_iff_eq.2 (by omega)
         have q5 : ((i : Int) != (j : Int)) = false := by unfold bne; rw [q3]; rfl
         have q4 : (i = j) = True := eq_true (by omega)
         by_cases hx0 : x = 0
         ·have HG := Aside0.mk (HOX.out.2 ⟨fun _ => hx0, fun h => absurd hij h⟩)
          have m1 : decide (x = (0 : Int)) = true := decide_eq_true (by omega)
          have m2 : (x = (0 : Int)) = True := eq_true (by omega)
          have m3 : (x == (0 : Int)) = true := beq_iff_eq.2 (by omega)
          have m5 : (x != (0 : Int)) = false := by unfold bne; rw [m3]; rfl
          clear hij hx0
          go_wp2
          go_roundw
          ·refine ⟨j + 1, HJ.out, congrArg (Value.int .i64) (nxtN (by have := HJ.out; have := HL.out; omega)), ⟨fun j' hj' => ?_⟩, HDs⟩
           rcases Nat.lt_or_eq_of_le (Nat.le_of_lt_succ hj') with hj' | rfl
           ·exact HJO.out j' hj'
           ·exact HG.out
          ·rw [nxtN (by have := HJ.out; have := HL.out; omega)]; have := HJ.out; simp only [intOf]; omega
         ·have HG := Aside0.mk (HF.out (fun h => hx0 ((HOX.out.1 h).1 hij)))
          have m1 : decide (x = (0 : Int)) = false := decide_eq_false (by omega)
          have m2 : (x = (0 : Int)) = False := eq_false (by omega)
          have m3 : (x == (0 : Int)) = false := beq_eq_false_iff_ne.2 (by omega)
          have m5 : (x != (0 : Int)) = true := by unfold bne; rw [m3]; rfl
          clear hij hx0
          go_wp2
          go_ret
          exact ⟨by rw [HG.out]; rfl, HDs.out⟩
        ·have hw := HW.out
         have q1 : decide ((i : Int) = (j : Int)) = false := decide_eq_false (by omega)
         have q2 : ((i : Int) = (j : Int)) = False := eq_false (by omega)
         have q3 : ((i : Int) == (j : Int)) = false := beq_eq_false_iff_ne.2 (by omega)
         have q5 : ((i : Int) != (j : Int)) = true := by unfold bne; rw [q3]; rfl
         have q4 : (i = j) = False := eq_false (by omega)
         by_cases hx0 : x + u = 1
         ·have HG := Aside0.mk (HOX.out.2 ⟨fun h => absurd h hij, fun _ => hx0⟩)
          have m1 : decide (x + u = (1 : Int)) = true := decide_eq_true (by omega)
          have m2 : (x + u = (1 : Int)) = True := eq_true (by omega)
          have m3 : (x + u == (1 : Int)) = true := beq_iff_eq.2 (by omega)
          have m5 : (x + u != (1 : Int)) = false := by unfold bne; rw [m3]; rfl
          clear hij hx0
          go_wp2
          go_roundw
          ·refine ⟨j + 1, HJ.out, congrArg (Value.int .i64) (nxtN (by have := HJ.out; have := HL.out; omega)), ⟨fun j' hj' => ?_⟩, HDs⟩
           rcases Nat.lt_or_eq_of_le (Nat.le_of_lt_succ hj') with hj' | rfl
           ·exact HJO.out j' hj'
           ·exact HG.out
          ·rw [nxtN (by have := HJ.out; have := HL.out; omega)]; have := HJ.out; simp only [intOf]; omega
         ·have HG := Aside0.mk (HF.out (fun h => hx0 ((HOX.out.1 h).2 hij)))
          have m1 : decide (x + u = (1 : Int)) = false := decide_eq_false (by omega)
          have m2 : (x + u = (1 : Int)) = False := eq_false (by omega)
          have m3 : (x + u == (1 : Int)) = false := beq_eq_false_iff_ne.2 (by omega)
          have m5 : (x + u != (1 : Int)) = true := by unfold bne; rw [m3]; rfl
          clear hij hx0
          go_wp2
          go_ret
          exact ⟨by rw [HG.out]; rfl, HDs.out⟩
       ·obtain rfl : n = j := by omega
        clear hj hjl
        go_wp2
        go_roundw
        ·refine ⟨i + 1, HI.out, congrArg (Value.int .i64) (nxtN (by have := HI.out; have := HL.out; omega)), ⟨fun i' j' h1 h2 => ?_⟩, HDs⟩
         rcases Nat.lt_or_eq_of_le (Nat.le_of_lt_succ h1) with h1 | rfl
         ·exact HO.out i' j' h1 h2
         ·exact HJO.out j' h2
        ·rw [nxtN (by have := HI.out; have := HL.out; omega)]; have := HI.out; simp only [intOf]; omega
     ·obtain rfl : n = i := by omega
      have HG := Aside0.mk (show r = true from HV.out.2 ⟨by rw [HN.out]; exact HL.out, fun i' y h => by rw [HN.out]; exact HPP.out i' y h, fun i' j' h1 h2 => HO.out i' j' (by rw [← HN.out]; exact h1) (by rw [← HN.out]; exact h2)⟩)
      clear hi hil
      go_wp2
      go_ret
      exact ⟨by rw [HG.out]; rfl, HDq.out⟩
 ·have p1 : decide ((30 : Int) < (n : Int)) = true := decide_eq_true (by omega)
  have p2 : ((30 : Int) < (n : Int)) = True := eq_true (by omega)
  have p3 : (30 < n) = True := eq_true (by omega)
  have HF := Aside0.mk (show r = false by
   rw [← Bool.not_eq_true, HV.out]
   intro hc
   have := hc.len
   rw [HN.out] at this
   exact hl this)
  clear hl
  go_enter Try.func58, Try.ntmps58
  go_wp2
  go_ret
  exact ⟨by rw [HF.out]; rfl, Drawn0.refl _⟩
end Go.Proofs.Ytcploeijeedmdaa.X
namespace Go.Proofs.Ytcploeijeedmdaa.X
open Go.RowKit Go.Shelf Go.Sort Go.Proofs.YtcploeijeedmdaaW.PrintWords Go.Proofs.YtcploeijeedmdaaW.PrintLast Go.Proofs.Ytcploeijeedmdaa.S
set_option linter.unusedVariables false
set_option linter.unusedSimpArgs false
set_option maxHeartbeats 1000000 in
set_option maxRecDepth 100000 in
theorem cmp92 (g : Nat) (lb : Array Value) (kx ky x y : Int) (bx : Nat) (W : World) (eg : ∀ args w, (callFunc g args).run Try.prog w = .ok (.enter g args) w)
  (hbx : W.cell? ⟨bx, 0, none⟩ = some (.func (.func g) #[] lb))
  (hx : ∀ q, Calls Try.prog g (#[.int .i64 x] ++ lb) (W.drewN q) fun e w' => e = .returned (.int .i64 kx) ∧ ∃ q', w' = (W.drewN q).drewN q')
  (hy : ∀ q, Calls Try.prog g (#[.int .i64 y] ++ lb) (W.drewN q) fun e w' => e = .returned (.int .i64 ky) ∧ ∃ q', w' = (W.drewN q).drewN q') :
  Calls Try.prog 92 #[.int .i64 x, .int .i64 y, .pointer (some ⟨bx, 0, none⟩)] W fun e w' => e = .returned (.int .i64 (Lib.compareInt kx ky)) ∧ ∃ q, w' = W.drewN q := by
 have hcon := fun W' => Try.cmp_Compare_int kx ky W'
 generalize Lib.compareInt kx ky = r at hcon ⊢
 have HX := Aside0.mk hx
 have HY := Aside0.mk hy
 have HC := Aside0.mk hcon
 clear hx hy hcon
 go_enter Try.func92, Try.ntmps92
 go_wp2
 have hcx := HX.out
 have hcy := HY.out
 have hcc := HC.out
 go_quiet (first | (go_at_call 93; (with_reducible refine (hcc _).mono ?_); rintro e w' ⟨rfl, rfl⟩; exact ⟨rfl, _, rfl⟩) | (go_at_fn g; first | exact Calls.quiet_of (hcx _) | exact Calls.quiet_of (hcy _)))
 go_wp2
 go_ret
 exact ⟨rfl, _, rfl⟩
end Go.Proofs.Ytcploeijeedmdaa.X
namespace Go.Proofs.Ytcploeijeedmdaa.X
open Go.RowKit Go.Shelf Go.Sort Go.Proofs.YtcploeijeedmdaaW.PrintWords Go.Proofs.YtcploeijeedmdaaW.PrintLast Go.Proofs.Ytcploeijeedmdaa.S
set_option linter.unusedVariables false
set_option linter.unusedSimpArgs false
def encF (m : Nat) (x : Fin (m + 1)) : Value := .int .i64 (x.val : Int)
def ints {m : Nat} (l : List (Fin (m + 1))) : List Int := l.map fun x => (x.val : Int)
theorem ints_enc {m : Nat} (l : List (Fin (m + 1))) : (ints l).map (Value.int .i64) = l.map (encF m) := by unfold ints encF; rw [List.map_map]; rfl
theorem sortWorld_by {α : Type} [Inhabited α] (enc : α → Value) (w : World) (blk off m : Nat) (dk : Array α) (os : Array Obj) : w.grownBy (sortWorld enc w blk off m dk os) (some blk) := by
 unfold sortWorld
 refine ⟨rfl, rfl, rfl, by simp, fun k hk hne => ?_⟩
 rw [heap_grow_old _ _ (by simpa using hk)]
 have : blk ≠ k := fun e => hne (by rw [e])
 simp [putRow, mapBlock, Sort.ahead, Array.getElem?_modify, this]
theorem below_in {w0 W Wd : World} {blk : Nat} (h : Below w0.heap.size w0 W) (hB : w0.heap.size ≤ blk) (hg : W.grownBy Wd (some blk)) : Below w0.heap.size w0 Wd := h.grown hg h.size (fun k e => by cases e; exact hB)
theorem cmpReads92 {m : Nat} (g : Nat) (lb : Array Value) (key : Fin (m + 1) → Int) (bx blk : Nat) (w0 W : World) (eg : ∀ args w, (callFunc g args).run Try.prog w = .ok (.enter g args) w)
  (hbx : W.cell? ⟨bx, 0, none⟩ = some (.func (.func g) #[] lb)) (hne : bx ≠ blk) (hb : Below w0.heap.size w0 W) (hblk : w0.heap.size ≤ blk)
  (hk : MapAt Try.prog g lb (encF m) (Value.int .i64) key w0) : CmpReads Try.prog 92 #[.pointer (some ⟨bx, 0, none⟩)] (encF m) (fun x y => Lib.compareInt (key x) (key y)) blk 0 (m + 1) W := by
 intro n os dk hs x y
 have hg := sortWorld_by (encF m) W blk 0 n dk os
 generalize sortWorld (encF m) W blk 0 n dk os = Wd at hg ⊢
 have hbd := below_in hb hblk hg
 have hcell : Wd.cell? ⟨bx, 0, none⟩ = some (.func (.func g) #[] lb) := hg.cell hbx (by simpa using hne)
 have kk : ∀ (z : Fin (m + 1)) (q : Nat), Calls Try.prog g (#[.int .i64 (z.val : Int)] ++ lb) (Wd.drewN q) fun e w' => e = .returned (.int .i64 (key z)) ∧ ∃ q', w' = (Wd.drewN q).drewN q' := fun z q => hk _ z (pw_below_drewN hbd q)
 exact cmp92 g lb (key x) (key y) x.val y.val bx Wd eg hcell (kk x) (kk y)
theorem ins_calls {m : Nat} (hm : m < 19) (cf : Fin (m + 1) → Fin (m + 1) → Int) (cb : Array Value) (blk cap : Nat) (d : Array (Fin (m + 1))) (hd : d.size = m + 1) (W : World) (hcmp : CmpReads Try.prog 92 cb (encF m) cf blk 0 (m + 1) W) (hH : Holds (encF m) W blk 0 d) :
  Calls Try.prog 130 #[.slice (some ⟨blk, 0, none⟩) (m + 1) cap, .int .i64 0, .int .i64 ((m + 1 : Nat) : Int), .func (.func 92) #[] cb] W fun e w' => e = .returned (.tuple #[]) ∧ ∃ n, w' = (putRow (encF m) W blk 0 (Sort.insertionSort (ltOf cf) d 0 (m + 1))).drewN n := by
 have h := Try.insertionSortCmpFunc_one (encF m) (fun _ => rfl) cf 92 cb blk 0 cap 0 (m + 1) d W (enters_of Try.func92 (by kernel_rfl) rfl) (by rw [hd]; exact hcmp) hH (Nat.zero_le _) (by omega) (by omega)
 rw [hd] at h
 exact h
set_option maxHeartbeats 1000000 in
set_option maxRecDepth 100000 in
theorem stable_calls {m : Nat} (hm : m < 19) (cf : Fin (m + 1) → Fin (m + 1) → Int) (cb : Array Value) (blk cap : Nat) (d : Array (Fin (m + 1))) (hd : d.size = m + 1) (W : World) (hcmp : CmpReads Try.prog 92 cb (encF m) cf blk 0 (m + 1) W) (hH : Holds (encF m) W blk 0 d) :
  Calls Try.prog 104 #[.slice (some ⟨blk, 0, none⟩) (m + 1) cap, .int .i64 ((m + 1 : Nat) : Int), .func (.func 92) #[] cb] W fun e w' => e = .returned (.tuple #[]) ∧ ∃ n, w' = (putRow (encF m) W blk 0 (Sort.insertionSort (ltOf cf) d 0 (m + 1))).drewN n := by
 have HI := Aside0.mk (ins_calls hm cf cb blk cap d hd W hcmp hH)
 clear hcmp hH
 generalize putRow (encF m) W blk 0 (Sort.insertionSort (ltOf cf) d 0 (m + 1)) = Wd at HI ⊢
 obtain ⟨n, HN⟩ : ∃ n, Aside0 (m + 1 = n) := ⟨_, ⟨rfl⟩⟩
 rw [HN.out] at HI ⊢
 have p1 : decide ((20 : Int) ≤ (n : Int)) = false := decide_eq_false (by have := HN.out; omega)
 have p2 : ((20 : Int) ≤ (n : Int)) = False := eq_false (by have := HN.out; omega)
 have p3 : (20 ≤ n) = False := eq_false (by have := HN.out; omega)
 have p4 : decide ((20 : Int) < (n : Int)) = false := decide_eq_false (by have := HN.out; omega)
 have p5 : ((20 : Int) < (n : Int)) = False := eq_false (by have := HN.out; omega)
 have p6 : (20 < n) = False := eq_false (by have := HN.out; omega)
 go_enter Try.func104, Try.ntmps104
 go_wp2
 refine wp_loop_rounds 1 ?_
 rw [rounds_succ]
 go_wp2_with (go_at_call 130; (with_reducible refine HI.out.mono ?_); rintro e w' ⟨rfl, q, rfl⟩)
 refine wp_loop_rounds 1 ?_
 rw [rounds_succ]
 go_wp2
 go_end0
 exact ⟨rfl, _, rfl⟩
set_option maxHeartbeats 1000000 in
set_option maxRecDepth 100000 in
theorem sortStable_calls {m : Nat} (hm : m < 19) (cf : Fin (m + 1) → Fin (m + 1) → Int) (cb : Array Value) (blk cap : Nat) (d : Array (Fin (m + 1))) (hd : d.size = m + 1) (W : World) (hcmp : CmpReads Try.prog 92 cb (encF m) cf blk 0 (m + 1) W) (hH : Holds (encF m) W blk 0 d) :
  Calls Try.prog 91 #[.slice (some ⟨blk, 0, none⟩) (m + 1) cap, .func (.func 92) #[] cb] W fun e w' => e = .returned (.tuple #[]) ∧ ∃ n, w' = (putRow (encF m) W blk 0 (Sort.insertionSort (ltOf cf) d 0 (m + 1))).drewN n := by
 have HI := Aside0.mk (stable_calls hm cf cb blk cap d hd W hcmp hH)
 clear hcmp hH
 generalize putRow (encF m) W blk 0 (Sort.insertionSort (ltOf cf) d 0 (m + 1)) = Wd at HI ⊢
 obtain ⟨n, HN⟩ : ∃ n, Aside0 (m + 1 = n) := ⟨_, ⟨rfl⟩⟩
 rw [HN.out] at HI ⊢
 go_enter Try.func91, Try.ntmps91
 go_wp2_with (go_at_call 104; (with_reducible refine HI.out.mono ?_); rintro e w' ⟨rfl, q, rfl⟩)
 go_end0
 exact ⟨rfl, _, rfl⟩
end Go.Proofs.Ytcploeijeedmdaa.X
namespace Go.Proofs.Ytcploeijeedmdaa.X
open Go.RowKit Go.Shelf Go.Sort Go.Proofs.YtcploeijeedmdaaW.PrintWords Go.Proofs.YtcploeijeedmdaaW.PrintLast Go.Proofs.Ytcploeijeedmdaa.S
set_option linter.unusedVariables false
set_option linter.unusedSimpArgs false
theorem OwnI.ne {W : World} {base g : Nat} {v : Value} {xs : List Int} {t : TypeId} {cs : Array Value} (h : OwnI W base v xs) (hg : W.heap[g]? = some (.cells cs t (0, 0))) (ht : t ≠ 3) : some g ≠ v.ownBlock := by
 rcases h.2 with ⟨rfl, _⟩ | ⟨g', cap, cur, rfl, hb, hh, _⟩
 ·simp [Value.ownBlock]
 ·intro e
  have e : g = g' := by simpa [Value.ownBlock] using e
  subst e
  rw [hh] at hg
  injection hg with hg
  injection hg with _ h2
  exact ht h2.symm
def upto (n : Nat) : List Int := (List.range n).map fun i : Nat => (i : Int)
theorem upto_len (n : Nat) : (upto n).length = n := by simp [upto]
theorem upto_succ (n : Nat) : upto (n + 1) = upto n ++ [(n : Int)] := by simp [upto, List.range_succ]
theorem ints_fin (m : Nat) : ints (List.finRange (m + 1)) = upto (m + 1) := by
 unfold ints upto
 apply List.ext_getElem
 ·simp
 ·intro i h1 h2
  simp
theorem upto_holds {W : World} {base blk cap m : Nat} (h : OwnI W base (.slice (some ⟨blk, 0, none⟩) (m + 1) cap) (upto (m + 1))) : Holds (encF m) W blk 0 (List.finRange (m + 1)).toArray ∧ blk < W.heap.size ∧ base ≤ blk ∧ ∃ cur, W.heap[blk]? = some (.cells cur 3 (0, 0)) ∧ m + 1 ≤ cap ∧ cap ≤ maxLen ∧ cur.size = cap := by
 rcases h.2 with ⟨e, _⟩ | ⟨g', cap', cur, e, hb, hh, hn, hm, hs, ht⟩
 ·cases e
 ·injection e with e1 e2 e3
  injection e1 with e1
  injection e1 with e1
  subst e1 e3
  rw [upto_len] at hn ht
  refine ⟨fun j hj => ⟨?_, blk_frozen hh _⟩, blk_lt hh, hb, cur, hh, hn, hm, by simpa using hs⟩
  have hj' : j < m + 1 := by simpa using hj
  rw [Nat.zero_add, blk_cell hh, getElem!_pos _ j hj]
  have h1 : (cur.toList.take ((m + 1) * 1))[j]? = ((upto (m + 1)).map (Value.int .i64))[j]? := by rw [ht]
  rw [List.getElem?_take_of_lt (by omega), Array.getElem?_toList] at h1
  rw [h1]
  simp [upto, encF, hj']
theorem sorted_own {W : World} {base blk cap m q : Nat} {d : Array (Fin (m + 1))} {cur : Array Value} (hd : d.size = m + 1) (hb : base ≤ blk) (hh : W.heap[blk]? = some (.cells cur 3 (0, 0))) (hn : m + 1 ≤ cap) (hm : cap ≤ maxLen) (hs : cur.size = cap) :
  OwnI ((putRow (encF m) W blk 0 d).drewN q) base (.slice (some ⟨blk, 0, none⟩) (m + 1) cap) (ints d.toList) := by
 have hl : (ints d.toList).length = m + 1 := by unfold ints; simpa using hd
 refine ⟨by rw [List.length_map, hl, Nat.mul_one], .inr ⟨blk, cap, putCells (encF m) 0 d cur, by rw [hl], hb, ?_, by rw [hl]; exact hn, hm, by simp [putCells, hs], ?_⟩⟩
 ·show (putRow (encF m) W blk 0 d).heap[blk]? = _
  simp [putRow, mapBlock, Array.getElem?_modify, hh, onCells]
 ·rw [hl, Nat.mul_one, ints_enc]
  apply List.ext_getElem?
  intro j
  by_cases hj : j < m + 1
  ·rw [List.getElem?_take_of_lt hj, Array.getElem?_toList]
   have hjd : j < d.size := by omega
   simp [putCells, hj, hjd, show j < cur.size by omega, hd]
  ·rw [List.getElem?_take_eq_none (by omega), List.getElem?_eq_none (by simp; omega)]
theorem put_by {W : World} {blk m q : Nat} (d : Array (Fin (m + 1))) : W.grownBy ((putRow (encF m) W blk 0 d).drewN q) (some blk) := by
 refine ⟨rfl, rfl, rfl, by simp [putRow, mapBlock], fun k hk hne => ?_⟩
 have : blk ≠ k := fun e => hne (by rw [e])
 simp [putRow, mapBlock, Array.getElem?_modify, this]
theorem ltOf_key {m : Nat} (key : Fin (m + 1) → Int) (x y : Fin (m + 1)) : ltOf (fun x y => Lib.compareInt (key x) (key y)) x y = decide (key x < key y) := by
 unfold ltOf Lib.compareInt
 by_cases h1 : key x < key y
 ·simp [h1]
 ·by_cases h2 : key y < key x <;> simp [h1, h2]
theorem swo_key {m : Nat} (key : Fin (m + 1) → Int) : SWO (ltOf (fun x y => Lib.compareInt (key x) (key y))) where
 irrefl x := by rw [ltOf_key]; simp
 trans x y z h1 h2 := by rw [ltOf_key] at *; simp at *; omega
 ntrans x y z h1 h2 := by rw [ltOf_key] at *; simp at *; omega
theorem ins_result {m : Nat} (key : Fin (m + 1) → Int) (d : Array (Fin (m + 1))) (hd : d.size = m + 1) :
  let d' := Sort.insertionSort (ltOf (fun x y => Lib.compareInt (key x) (key y))) d 0 (m + 1)
  d'.size = m + 1 ∧ d'.toList.Perm d.toList ∧ d'.toList.Pairwise (fun x y => key x ≤ key y) := by
 obtain ⟨⟨h1, _, h3⟩, h4⟩ := insertionSort_holds (swo_key key) d 0 (m + 1) (Nat.zero_le _) (by omega)
 refine ⟨by rw [h1, hd], ?_, ?_⟩
 ·have e1 : (Sort.insertionSort (ltOf (fun x y => Lib.compareInt (key x) (key y))) d 0 (m + 1)).extract 0 (m + 1) = Sort.insertionSort (ltOf (fun x y => Lib.compareInt (key x) (key y))) d 0 (m + 1) := by
   apply Array.ext
   ·simp [h1, hd]
   ·intro i _ _; simp
  have e2 : d.extract 0 (m + 1) = d := by
   apply Array.ext
   ·simp [hd]
   ·intro i _ _; simp
  rw [e1, e2] at h3
  exact h3
 ·rw [List.pairwise_iff_getElem]
  intro i j hi hj hij
  have hi' : i < (Sort.insertionSort (ltOf (fun x y => Lib.compareInt (key x) (key y))) d 0 (m + 1)).size := by simpa using hi
  have hj' : j < (Sort.insertionSort (ltOf (fun x y => Lib.compareInt (key x) (key y))) d 0 (m + 1)).size := by simpa using hj
  have := h4 i j (Nat.zero_le _) hij (by rw [h1, hd] at hj'; exact hj')
  rw [ltOf_key, getElem!_pos _ i hi', getElem!_pos _ j hj'] at this
  simp at this
  simpa using this
set_option maxHeartbeats 2000000 in
set_option maxRecDepth 100000 in
theorem sorted_calls {m n : Nat} (hn : m + 1 = n) (hm : m < 19) (g : Nat) (lb : Array Value) (key : Fin (m + 1) → Int) (w : World) (eg : ∀ args w, (callFunc g args).run Try.prog w = .ok (.enter g args) w) (hk : MapAt Try.prog g lb (encF m) (Value.int .i64) key w) :
  Calls Try.prog 67 #[.int .i64 (n : Int), .func (.func g) #[] lb] w fun e w' => ∃ (v : Value) (at_ : List (Fin (m + 1))), e = .returned v ∧ at_.Perm (List.finRange (m + 1)) ∧ at_.Pairwise (fun x y => key x ≤ key y) ∧ OwnI w' w.heap.size v (ints at_) ∧ Below w.heap.size w w' := by
 have HK := Aside0.mk hk
 have HM := Aside0.mk hm
 have HBX := Aside0.mk (blk_new w (.cells #[.func (.func g) #[] lb] 48))
 have HB := Aside0.mk (below_alloc (Below.refl w.heap.size w) (.cells #[.func (.func g) #[] lb] 48))
 have HSZ := Aside0.mk (show w.heap.size < (w.alloc (.cells #[.func (.func g) #[] lb] 48)).heap.size by simp)
 have HEG := Aside0.mk eg
 clear hk hm eg
 have HN := Aside0.mk hn
 clear hn
 go_enter Try.func67, Try.ntmps67
 go_wp2
 generalize w.alloc (.cells #[.func (.func g) #[] lb] 48) = wa at *
 generalize hbx : w.heap.size = bx at HBX HSZ ⊢
 go_loopw [8, 5] (fun iv vv wr => ∃ i : Nat, i ≤ n ∧ iv = .int .i64 (i : Int) ∧ Aside0 (OwnI wr w.heap.size vv (upto i)) ∧ Aside0 (Below w.heap.size w wr) ∧ Aside0 (wr.heap[bx]? = some (.cells #[.func (.func g) #[] lb] 48 (0, 0)))) (fun iv _ _ => n - (intOf iv).toNat)
 case atStart => exact ⟨0, Nat.zero_le _, rfl, ⟨OwnI.nil _ _⟩, HB, HBX⟩
 case round =>
  obtain ⟨i, hi, rfl, HO, HBr, HX⟩ := hrel
  by_cases hil : i < n
  ·have HI := Aside0.mk hil
   have hz : (i : Int) < (n : Int) := by omega
   have HL := Aside0.mk (show (upto i).length < 1000000 by rw [upto_len]; have := HN.out; have := HM.out; omega)
   clear hi hil
   go_wp2_with (first | ((with_reducible refine gate_builtin (b := .append) (xs := #[.tmp 11, .tmp 13]) rfl ?_); at_builtin; refine append_int (w0 := w) (base := w.heap.size) rfl (.tmp 11) (.tmp 13) rfl _ _ _ rfl rfl HO.out HBr.out HBr.out.size HL.out ?_; intro v1 w1 h1 h2 h3; have HO1 := Aside0.mk h1; have HB1 := Aside0.mk h2; have HX1 := Aside0.mk (blk_grown HX.out h3 (OwnI.ne HO.out HX.out (by decide))); clear h1 h2 h3))
   go_roundw
   ·exact ⟨i + 1, HI.out, congrArg (Value.int .i64) (nxtN (by have := HN.out; have := HM.out; have := HI.out; omega)), ⟨by rw [upto_succ]; exact HO1.out⟩, HB1, HX1⟩
   ·rw [nxtN (by have := HN.out; have := HM.out; have := HI.out; omega)]; have := HI.out; simp only [intOf]; omega
  ·obtain rfl : n = i := by omega
   clear hi hil
   have hO : OwnI wr w.heap.size u5 (upto (m + 1)) := by rw [HN.out]; exact HO.out
   rcases hO.2 with ⟨e0, h0⟩ | ⟨blk, cap, cur0, e0, _⟩
   ·rw [upto_len] at h0; omega
   ·rw [upto_len] at e0
    subst e0
    obtain ⟨hH, hlt, hbb, cur, hh, hn1, hn2, hn3⟩ := upto_holds hO
    have hd : (List.finRange (m + 1)).toArray.size = m + 1 := by simp
    have hcr := cmpReads92 g lb key bx blk w wr HEG.out ((blk_cell HX.out 0).trans rfl) (fun e => OwnI.ne hO HX.out (by decide) (by rw [e]; rfl)) HBr.out hbb HK.out
    have HS := Aside0.mk (sortStable_calls HM.out _ _ blk cap _ hd wr hcr hH)
    obtain ⟨q1, q2, q3⟩ := ins_result key (List.finRange (m + 1)).toArray hd
    generalize Sort.insertionSort (ltOf (fun x y => Lib.compareInt (key x) (key y))) (List.finRange (m + 1)).toArray 0 (m + 1) = d' at HS q1 q2 q3
    have HR := Aside0.mk (show d'.toList.Perm (List.finRange (m + 1)) ∧ d'.toList.Pairwise (fun x y => key x ≤ key y) from ⟨by simpa using q2, q3⟩)
    have HOW := Aside0.mk (fun q => sorted_own (q := q) q1 hbb hh hn1 hn2 hn3)
    have HBE := Aside0.mk (fun q => below_in HBr.out hbb (put_by (W := wr) (blk := blk) (q := q) d'))
    clear hO hH hlt hbb hh hn1 hn2 hn3 hd hcr q1 q2 q3 HO HX HBr
    go_wp2_with (go_at_call 91; (with_reducible refine HS.out.mono ?_); rintro e w' ⟨rfl, q, rfl⟩)
    go_ret
    exact ⟨_, d'.toList, rfl, HR.out.1, HR.out.2, HOW.out _, HBE.out _⟩
end Go.Proofs.Ytcploeijeedmdaa.X
namespace Go.Proofs.Ytcploeijeedmdaa.X
open Go.RowKit Go.Shelf Go.Proofs.YtcploeijeedmdaaW.PrintWords Go.Proofs.YtcploeijeedmdaaW.PrintLast Go.Proofs.Ytcploeijeedmdaa.S
set_option linter.unusedVariables false
set_option linter.unusedSimpArgs false
set_option maxHeartbeats 1000000 in
set_option maxRecDepth 100000 in
theorem neg90 (A : Option Addr) (c : Nat) (l : List Int) (x : Nat) (bx : Nat) (W : World) (hr : RowI W A l) (hbx : W.cell? ⟨bx, 0, none⟩ = some (.slice A l.length c)) (hx : x < l.length) (hl : ∀ d ∈ l, 0 ≤ d ∧ d ≤ 30) :
  Calls Try.prog 90 #[.int .i64 (x : Int), .pointer (some ⟨bx, 0, none⟩)] W fun e w' => e = .returned (.int .i64 (-l[x])) ∧ ∃ q, w' = W.drewN q := by
 obtain ⟨ad, e, h0⟩ := Kd.at_int hr.1 (x : Int) (by omega) (by omega)
 subst e
 have e1 : rd l (x : Int) = l[x] := by simp [rd, hx]
 rw [e1, Int.toNat_natCast] at h0
 have hb := hl l[x] (List.getElem_mem hx)
 have hw : wrap64 (-l[x]) = -l[x] := w64 (by omega) (by omega)
 have hz : (x : Int) < (l.length : Int) := by omega
 clear hl hr
 generalize l[x] = d at *
 have HW := Aside0.mk hw
 clear hw hb e1
 go_enter Try.func90, Try.ntmps90
 go_wp2
 go_ret
 exact ⟨by first | (rw [HW.out]; rfl) | rfl, 0, rfl⟩
def exL (dd : List Int) (k : Nat) : Int := -((k : Int) * ((k : Int) - 1)) + (dd.take k).sum - ((dd.drop k).map fun d => mn d (k : Int)).sum
def exUp (dd : List Int) (k i : Nat) : Int := exL (dd.take i) k
theorem exUp_zero (dd : List Int) (k : Nat) : exUp dd k 0 = -((k : Int) * ((k : Int) - 1)) := by unfold exUp exL; simp
theorem exUp_succ (dd : List Int) (k i : Nat) (h : i < dd.length) : exUp dd k (i + 1) = if i < k then exUp dd k i + dd[i] else exUp dd k i - mn dd[i] (k : Int) := by
 unfold exUp exL
 have hl : (dd.take i).length = i := by rw [List.length_take]; omega
 rw [List.take_add_one, List.getElem?_eq_getElem h, Option.toList_some]
 by_cases hk : i < k
 ·rw [if_pos hk]
  have e1 : ((dd.take i) ++ [dd[i]]).take k = dd.take i ++ [dd[i]] := List.take_of_length_le (by rw [List.length_append, hl]; simp; omega)
  have e2 : (dd.take i).take k = dd.take i := List.take_of_length_le (by omega)
  have e3 : ((dd.take i) ++ [dd[i]]).drop k = [] := List.drop_eq_nil_of_le (by rw [List.length_append, hl]; simp; omega)
  have e4 : (dd.take i).drop k = [] := List.drop_eq_nil_of_le (by omega)
  rw [e1, e2, e3, e4, List.sum_append]
  simp
  omega
 ·rw [if_neg hk]
  have e1 : ((dd.take i) ++ [dd[i]]).take k = (dd.take i).take k := by rw [List.take_append_of_le_length (by omega)]
  have e3 : ((dd.take i) ++ [dd[i]]).drop k = (dd.take i).drop k ++ [dd[i]] := by rw [List.drop_append_of_le_length (by omega)]
  rw [e1, e3, List.map_append, List.sum_append]
  simp
  omega
theorem exUp_all (dd : List Int) (k : Nat) : exUp dd k dd.length = exL dd k := by unfold exUp; rw [List.take_length]
theorem kk_bd : ∀ k : Nat, k < 31 → 0 ≤ (k : Int) * ((k : Int) - 1) ∧ (k : Int) * ((k : Int) - 1) ≤ 870 := by decide
theorem map_fin {m : Nat} (l : List Int) (h : m + 1 = l.length) : (List.finRange (m + 1)).map (fun x : Fin (m + 1) => l[x.val]'(by omega)) = l := by
 apply List.ext_getElem
 ·simp [h]
 ·intro i h1 h2
  simp
theorem min2_mnS (k k' : IntKind) (x y : Int) : Builtin.min2 (.int k x) (.int k' y) = pure (.int k (mn x y)) := min2_int k k' x y
attribute [local go_sem] min2_mnS min_two
set_option maxHeartbeats 2000000 in
set_option maxRecDepth 100000 in
theorem excess_calls {m n : Nat} (A : Option Addr) (c : Nat) (l : List Int) (w : World) (hr : RowI w A l) (hn : l.length = n) (hm : m + 1 = n) (hm2 : m < 19) (hl : ∀ d ∈ l, 0 ≤ d ∧ d ≤ 30) (k : Nat) (hk : k < 31) :
  Calls Try.prog 66 #[.slice A n c, .int .i64 (k : Int)] w fun e w' => ∃ dd : List Int, dd.Perm l ∧ dd.Pairwise (fun x y => y ≤ x) ∧ e = .returned (.int .i64 (exL dd k)) ∧ Below w.heap.size w w' := by
 have HR := Aside0.mk hr
 have HLN := Aside0.mk hn
 have HM := Aside0.mk (And.intro hm hm2)
 have HL := Aside0.mk hl
 have HKB := Aside0.mk hk
 have HBX := Aside0.mk (blk_new w (.cells #[.slice A n c] 24))
 have HB := Aside0.mk (below_alloc (Below.refl w.heap.size w) (.cells #[.slice A n c] 24))
 have HRA := Aside0.mk (hr.alloc (.cells #[.slice A n c] 24))
 have hk1 : wrap64 (-(k : Int)) = -(k : Int) := w64 (by omega) (by omega)
 have hk2 : wrap64 ((k : Int) - 1) = (k : Int) - 1 := w64 (by omega) (by omega)
 have hk3 : wrap64 (-(k : Int) * ((k : Int) - 1)) = -((k : Int) * ((k : Int) - 1)) := by
  have := kk_bd k hk
  rw [Int.neg_mul]
  exact w64 (by omega) (by omega)
 have hkey : ∀ x : Fin (m + 1), x.val < l.length := fun x => by have := x.isLt; omega
 have HMAP := Aside0.mk (show MapAt Try.prog 90 #[.pointer (some ⟨w.heap.size, 0, none⟩)] (encF m) (Value.int .i64) (fun x : Fin (m + 1) => -l[x.val]'(hkey x)) (w.alloc (.cells #[.slice A n c] 24)) from fun W x hb => by
  show Calls Try.prog 90 #[.int .i64 (x.val : Int), .pointer (some ⟨w.heap.size, 0, none⟩)] W _
  exact neg90 A c l x.val w.heap.size W (HRA.out.below hb) (by rw [hn]; exact (blk_cell (blk_below HBX.out hb) 0).trans rfl) (hkey x) hl)
 have HS := Aside0.mk (sorted_calls hm hm2 90 #[.pointer (some ⟨w.heap.size, 0, none⟩)] _ _ (enters_of Try.func90 (by kernel_rfl) rfl) HMAP.out)
 clear hr hn hm hm2 hl hk HMAP
 go_enter Try.func66, Try.ntmps66
 go_wp2_with (first
  | (
    go_at_call 67; (with_reducible refine HS.out.mono ?_); rintro e w2 ⟨v, at_, rfl, hp, hs, ho, hb⟩
    have hla : (ints at_).length = n := by unfold ints; rw [List.length_map, hp.length_eq, List.length_finRange]; exact HM.out.1
    obtain ⟨Av, cv, ev, hcv, hrv⟩ := ho.row
    rw [hla] at ev
    subst ev
    have HLA := Aside0.mk hla
    have HRV := Aside0.mk hrv
    have HR2 := Aside0.mk (HRA.out.below hb)
    have HX2 := Aside0.mk (blk_below HBX.out hb)
    have HB2 := Aside0.mk (below_then HB.out HB.out.size hb)
    have HP := Aside0.mk hp
    have HSO := Aside0.mk hs
    clear hp hs ho hb hcv hrv HS hla))
 have hal : at_.length = n := by rw [HP.out.length_eq, List.length_finRange]; exact HM.out.1
 obtain ⟨dd, HDD⟩ : ∃ dd, Aside0 (at_.map (fun x : Fin (m + 1) => l[x.val]'(hkey x)) = dd) := ⟨_, ⟨rfl⟩⟩
 have HDL := Aside0.mk (show dd.length = n by rw [← HDD.out, List.length_map, hal])
 have HDP := Aside0.mk (show dd.Perm l by
  rw [← HDD.out]
  have h1 := HP.out.map (fun x : Fin (m + 1) => l[x.val]'(hkey x))
  rw [map_fin l (by rw [HLN.out]; exact HM.out.1)] at h1
  exact h1)
 have HDS := Aside0.mk (show dd.Pairwise (fun x y => y ≤ x) by
  rw [← HDD.out, List.pairwise_map]
  exact HSO.out.imp (fun {a b} h => by omega))
 have HDA := Aside0.mk (fun (i : Nat) (hi : i < n) => show dd[i]'(by rw [HDL.out]; exact hi) = l[(at_[i]'(by rw [hal]; exact hi)).val]'(hkey _) by simp [← HDD.out])
 have HDB := Aside0.mk (fun (i : Nat) (hi : i < n) => HL.out (dd[i]'(by rw [HDL.out]; exact hi)) (HDP.out.mem_iff.1 (List.getElem_mem _)))
 have HAL := Aside0.mk hal
 have HKY := Aside0.mk hkey
 clear hk1 hk2 HDD HSO HP HL HRA HBX HB HR
 go_loopw [20, 6] (fun iv av wr => ∃ (i : Nat) (acc : Int), i ≤ n ∧ iv = .int .i64 (i : Int) ∧ av = .int .i64 acc ∧ Aside0 (acc = exUp dd k i ∧ -1000 - 30 * (i : Int) ≤ acc ∧ acc ≤ 30 * (i : Int)) ∧ Aside0 (w2 = wr)) (fun iv _ _ => n - (intOf iv).toNat)
 case atStart =>
  refine ⟨0, -((k : Int) * ((k : Int) - 1)), Nat.zero_le _, rfl, congrArg (Value.int .i64) hk3, ⟨(exUp_zero dd k).symm, ?_, ?_⟩, ⟨rfl⟩⟩
  ·have := kk_bd k HKB.out; omega
  ·have := kk_bd k HKB.out; omega
 case round =>
  obtain ⟨i, acc, hi, rfl, rfl, HAC, HW⟩ := hrel
  obtain rfl := HW.out
  clear hk3
  by_cases hil : i < n
  ·have HI := Aside0.mk hil
   have hz : (i : Int) < (n : Int) := by omega
   obtain ⟨av, ea, h0⟩ := Kd.at_int HRV.out.1 (i : Int) (by omega) (by rw [HLA.out]; omega)
   subst ea
   obtain ⟨x, hx⟩ : ∃ x, (at_[i]'(by rw [HAL.out]; exact hil)) = x := ⟨_, rfl⟩
   have e1 : rd (ints at_) (i : Int) = (x.val : Int) := by
    have hi2 : i < at_.length := by rw [HAL.out]; exact hil
    simp [rd, ints, hi2, ← hx]
   rw [e1, Int.toNat_natCast] at h0
   obtain ⟨a0, ea, h1⟩ := Kd.at_int HR2.out.1 (x.val : Int) (by omega) (by have := HKY.out x; omega)
   subst ea
   have e2 : rd l (x.val : Int) = dd[i]'(by rw [HDL.out]; exact hil) := by rw [HDA.out i hil, hx]; simp [rd, HKY.out x]
   rw [e2, Int.toNat_natCast] at h1
   have HB3 := Aside0.mk (HDB.out i hil)
   have HST := Aside0.mk (exUp_succ dd k i (by rw [HDL.out]; exact hil))
   have hxz : (x.val : Int) < (n : Int) := by have := HKY.out x; rw [HLN.out] at this; omega
   generalize dd[i]'(by rw [HDL.out]; exact hil) = d at *
   generalize x.val = xv at *
   have cx := (blk_cell HX2.out 0).trans rfl
   clear e1 e2 hx hi hil x
   by_cases hik : i < k
   ·have p1 : decide ((i : Int) < (k : Int)) = true := decide_eq_true (by omega)
    have p2 : ((i : Int) < (k : Int)) = True := eq_true (by omega)
    have p3 : (i < k) = True := eq_true hik
    have HW1 := Aside0.mk (show wrap64 (acc + d) = exUp dd k (i + 1) by
     have a := HAC.out
     have b := HB3.out
     have c := HI.out
     have e := HM.out
     rw [HST.out, if_pos hik, ← a.1]
     exact w64 (by omega) (by omega))
    have HBD := Aside0.mk (show -1000 - 30 * ((i + 1 : Nat) : Int) ≤ exUp dd k (i + 1) ∧ exUp dd k (i + 1) ≤ 30 * ((i + 1 : Nat) : Int) by
     have a := HAC.out
     have b := HB3.out
     rw [HST.out, if_pos hik, ← a.1]
     omega)
    clear hik
    go_wp2
    go_roundw
    ·exact ⟨i + 1, _, HI.out, congrArg (Value.int .i64) (nxtN (by have := HI.out; have := HM.out; omega)), congrArg (Value.int .i64) HW1.out, ⟨rfl, HBD.out⟩, ⟨by first | trivial | rfl⟩⟩
    ·rw [nxtN (by have := HI.out; have := HM.out; omega)]; have := HI.out; simp only [intOf]; omega
   ·have p1 : decide ((i : Int) < (k : Int)) = false := decide_eq_false (by omega)
    have p2 : ((i : Int) < (k : Int)) = False := eq_false (by omega)
    have p3 : (i < k) = False := eq_false hik
    have HMN := Aside0.mk (show 0 ≤ mn d (k : Int) ∧ mn d (k : Int) ≤ 30 by
     have b := HB3.out
     unfold mn
     split <;> omega)
    have HW1 := Aside0.mk (show wrap64 (acc - mn d (k : Int)) = exUp dd k (i + 1) by
     have a := HAC.out
     have b := HMN.out
     have c := HI.out
     have e := HM.out
     rw [HST.out, if_neg hik, ← a.1]
     exact w64 (by omega) (by omega))
    have HBD := Aside0.mk (show -1000 - 30 * ((i + 1 : Nat) : Int) ≤ exUp dd k (i + 1) ∧ exUp dd k (i + 1) ≤ 30 * ((i + 1 : Nat) : Int) by
     have a := HAC.out
     have b := HMN.out
     rw [HST.out, if_neg hik, ← a.1]
     omega)
    clear hik
    go_wp2
    go_roundw
    ·exact ⟨i + 1, _, HI.out, congrArg (Value.int .i64) (nxtN (by have := HI.out; have := HM.out; omega)), congrArg (Value.int .i64) HW1.out, ⟨rfl, HBD.out⟩, ⟨by first | trivial | rfl⟩⟩
    ·rw [nxtN (by have := HI.out; have := HM.out; omega)]; have := HI.out; simp only [intOf]; omega
  ·obtain rfl : n = i := by omega
   have HV := Aside0.mk (show acc = exL dd k by rw [HAC.out.1, ← exUp_all, HDL.out])
   clear hi hil
   go_wp2
   go_ret
   exact ⟨dd, HDP.out, HDS.out, by rw [HV.out]; rfl, HB2.out⟩
end Go.Proofs.Ytcploeijeedmdaa.X
namespace Go.Proofs.Ytcploeijeedmdaa.X
open Go.RowKit Go.Shelf Go.Proofs.YtcploeijeedmdaaW.PrintWords Go.Proofs.YtcploeijeedmdaaW.PrintLast Go.Proofs.Ytcploeijeedmdaa.S
set_option linter.unusedVariables false
set_option linter.unusedSimpArgs false
theorem desc_one {l dd ee : List Int} (h1 : dd.Perm l) (h2 : dd.Pairwise fun x y => y ≤ x) (h3 : ee.Perm l) (h4 : ee.Pairwise fun x y => y ≤ x) : dd = ee :=
 List.Perm.eq_of_pairwise (fun a b _ _ h h' => by omega) h2 h4 (h1.trans h3.symm)
set_option maxHeartbeats 2000000 in
set_option maxRecDepth 100000 in
theorem graphic_no {m n : Nat} (A : Option Addr) (c ks : Nat) (l ee : List Int) (s : Int) (k0 : Nat) (w : World) (hr : RowI w A l) (hc : n ≤ c) (hn : l.length = n) (hm : m + 1 = n) (hm2 : m < 19) (hl : numsB l = true)
  (hp : ee.Perm l) (hd : ee.Pairwise fun x y => y ≤ x) (hs : scores_sum.f ks l = some s) (hs2 : Int.tmod s 2 ≠ 1) (hk : 1 ≤ k0 ∧ k0 ≤ n) (h0 : 0 < exL ee k0) (h1 : ∀ k, 1 ≤ k → k < k0 → exL ee k ≤ 0) :
  Calls Try.prog 33 #[.slice A n c] w fun e w' => e = .returned (.tuple #[.slice none 0 0, .int .i64 (k0 : Int), .int .i64 0]) ∧ Below w.heap.size w w' := by
 have hl2 : ∀ d ∈ l, 0 ≤ d ∧ d ≤ 30 := by
  unfold numsB inR at hl
  simp only [Bool.and_eq_true, decide_eq_true_eq, List.all_eq_true] at hl
  exact hl.2
 have HAN := Aside0.mk (by have h := scores_areNumbers.calls A c l w hr; rw [hl, hn] at h; exact h : Calls Try.prog 61 #[.slice A n c] w fun e w' => e = .returned (.bool true) ∧ Drawn0 w w')
 have HSU := Aside0.mk (fun (W : World) (h : RowI W A l) => (by have h := scores_sum.calls ks A c l s W h.1 (by omega) hs; rw [hn] at h; exact h : Calls Try.prog 63 #[.slice A n c] W fun e w' => e = .returned (.int .i64 s) ∧ Drawn0 W w'))
 have HEX := Aside0.mk (fun (k : Nat) (hk : k < 31) (W : World) (h : RowI W A l) => (excess_calls A c l W h hn hm hm2 hl2 k hk).mono (fun e w' ⟨dd, q1, q2, q3, q4⟩ => (by rw [desc_one q1 q2 hp hd] at q3; exact ⟨q3, q4⟩ : e = Ending.returned (.int .i64 (exL ee k)) ∧ Below W.heap.size W w')))
 have HR := Aside0.mk hr
 have HK := Aside0.mk hk
 have H0 := Aside0.mk h0
 have H1 := Aside0.mk h1
 have HM := Aside0.mk (And.intro hm hm2)
 have p1 : decide (Int.tmod s 2 = 1) = false := decide_eq_false hs2
 have p2 : (Int.tmod s 2 = 1) = False := eq_false hs2
 have p3 : (Int.tmod s 2 == 1) = false := beq_eq_false_iff_ne.2 hs2
 clear hr hc hn hm hm2 hl hp hd hs hs2 hk h0 h1 hl2
 go_enter Try.func33, Try.ntmps33
 go_wp2_with (first
  | (go_at_call 61; (with_reducible refine HAN.out.mono ?_); rintro e w1 ⟨rfl, hd⟩; have HR1 := Aside0.mk (HR.out.drawn hd); have HB1 := Aside0.mk (show Below w.heap.size w w1 by obtain ⟨nd, rfl⟩ := hd; exact pw_below_drewN (Below.refl _ _) nd); clear hd HAN HR)
  | (go_at_call 63; (with_reducible refine (HSU.out _ HR1.out).mono ?_); rintro e w2 ⟨rfl, hd⟩; have HR2 := Aside0.mk (HR1.out.drawn hd); have HB2 := Aside0.mk (show Below w.heap.size w w2 by obtain ⟨nd, rfl⟩ := hd; exact pw_below_drewN HB1.out nd); clear hd HSU HR1))
 go_loopw [5] (fun iv wr => ∃ k : Nat, (1 ≤ k ∧ k ≤ k0) ∧ iv = .int .i64 (k : Int) ∧ Aside0 (RowI wr A l) ∧ Aside0 (Below w.heap.size w wr)) (fun iv _ => k0 + 1 - (intOf iv).toNat)
 case atStart => exact ⟨1, ⟨Nat.le_refl _, HK.out.1⟩, rfl, HR2, HB2⟩
 case round =>
  obtain ⟨k, hk, rfl, HRk, HBk⟩ := hrel
  have HKK := Aside0.mk hk
  have hz : (k : Int) ≤ (n : Int) := by have := HK.out; omega
  have HE := Aside0.mk (HEX.out k (by have := HK.out; have := HM.out; omega) wr HRk.out)
  by_cases hkk : k < k0
  ·have HKL := Aside0.mk hkk
   have hle := H1.out k hk.1 hkk
   generalize exL ee k = x at *
   have q1 : decide (0 < x) = false := decide_eq_false (by omega)
   have q2 : (0 < x) = False := eq_false (by omega)
   clear hle hk hkk
   go_wp2_with (go_at_call 66; (with_reducible refine HE.out.mono ?_); rintro e w3 ⟨rfl, hb⟩; have HR3 := Aside0.mk (HRk.out.below hb); have HB3 := Aside0.mk (below_then HBk.out HBk.out.size hb); clear hb)
   go_roundw
   ·exact ⟨k + 1, ⟨by omega, HKL.out⟩, congrArg (Value.int .i64) (nxtN (by have := HK.out; have := HM.out; have := HKL.out; omega)), HR3, HB3⟩
   ·rw [nxtN (by have := HK.out; have := HM.out; have := HKL.out; omega)]; have := HKL.out; simp only [intOf]; omega
  ·obtain rfl : k = k0 := by omega
   have hlt := H0.out
   generalize exL ee k = x at *
   have q1 : decide (0 < x) = true := decide_eq_true hlt
   have q2 : (0 < x) = True := eq_true hlt
   clear hlt hk hkk
   go_wp2_with (go_at_call 66; (with_reducible refine HE.out.mono ?_); rintro e w3 ⟨rfl, hb⟩; have HB3 := Aside0.mk (below_then HBk.out HBk.out.size hb); clear hb)
   go_ret3
   exact ⟨rfl, HB3.out⟩
theorem graphic_awake (A : Option Addr) (c : Nat) (w : World) (hr : RowI w A [3, 3, 1, 1]) (hc : 4 ≤ c) :
  Calls Try.prog 33 #[.slice A 4 c] w fun e w' => e = .returned (.tuple #[.slice none 0 0, .int .i64 2, .int .i64 0]) ∧ Below w.heap.size w w' :=
 graphic_no (m := 3) (n := 4) A c 10 [3, 3, 1, 1] [3, 3, 1, 1] 8 2 w hr hc rfl rfl (by decide) (by decide) (List.Perm.refl _) (by decide) (by kernel_rfl) (by decide) (by decide) (by decide) (by
  intro k h1 h2
  obtain rfl : k = 1 := by omega
  decide)
end Go.Proofs.Ytcploeijeedmdaa.X
namespace Go.Proofs.Ytcploeijeedmdaa.X
open Go.RowKit Go.Shelf Go.Proofs.YtcploeijeedmdaaW.PrintWords Go.Proofs.YtcploeijeedmdaaW.PrintLast Go.Proofs.Ytcploeijeedmdaa.S
set_option linter.unusedVariables false
set_option linter.unusedSimpArgs false
def reachB (t : List (List Int)) (v x : Nat) : Bool := ((List.range t.length).any fun u => g2 t v u + g2 t u x == 2) || (v == x || g2 t v x == 1)
def kingB (t : List (List Int)) (v : Nat) : Bool := (List.range t.length).all fun x => reachB t v x
def kingsUp (t : List (List Int)) (i : Nat) : List Int := ((List.range i).filter (kingB t)).map fun v : Nat => (v : Int)
theorem kingsUp_succ (t : List (List Int)) (i : Nat) : kingsUp t (i + 1) = if kingB t i = true then kingsUp t i ++ [(i : Int)] else kingsUp t i := by
 unfold kingsUp
 rw [List.range_succ, List.filter_append, List.map_append]
 by_cases h : kingB t i = true
 ·simp [h]
 ·simp [h]
def kUp (t : List (List Int)) (v x : Nat) : Bool := (List.range x).all fun x' => reachB t v x'
theorem kUp_succ (t : List (List Int)) (v x : Nat) : kUp t v (x + 1) = (kUp t v x && reachB t v x) := by unfold kUp; rw [List.range_succ, List.all_append]; simp
theorem g2_cell {W : World} {A : Option Addr} {t : List (List Int)} {n : Nat} (h : RowLL W A t) (hn : t.length = n) (hr : ∀ (i : Nat) (y : List Int), t[i]? = some y → rowC n y) {i j : Nat} (hi : i < n) (hj : j < n) :
  ∃ ad ai ci, A = some ad ∧ W.cell? (ad.add i) = some (.slice (some ai) n ci) ∧ W.cell? (ai.add j) = some (.int .i64 (g2 t i j)) := by
 obtain ⟨ad, Ai, ci, y, hy, e, h0, hc, hri⟩ := h.at_ (i := i) (by omega)
 have hl := (hr i y hy).1
 obtain ⟨ai, x, hx, e2, h1⟩ := hri.at_ (i := j) (by omega)
 subst e2
 rw [hl] at h0
 exact ⟨ad, ai, ci, e, h0, by rw [g2_at hy hx]; exact h1⟩
set_option maxHeartbeats 2000000 in
set_option maxRecDepth 100000 in
theorem reaches_calls {n : Nat} (A : Option Addr) (c : Nat) (t : List (List Int)) (b1 b2 v x : Nat) (W : World) (hr : RowLL W A t) (hn : t.length = n) (hn2 : n ≤ 30) (hrow : ∀ (i : Nat) (y : List Int), t[i]? = some y → rowC n y) (hv : v < n) (hx : x < n)
  (h1 : W.cell? ⟨b1, 0, none⟩ = some (.slice A n c)) (h2 : W.cell? ⟨b2, 0, none⟩ = some (.int .i64 (v : Int))) :
  Calls Try.prog 59 #[.int .i64 (x : Int), .pointer (some ⟨b1, 0, none⟩), .pointer (some ⟨b2, 0, none⟩)] W fun e w' => e = .returned (.bool (reachB t v x)) ∧ Drawn0 W w' := by
 have HB := Aside0.mk (fun (i j : Nat) (hi : i < n) (hj : j < n) => rowC_bd (t := t) (fun i' y h => by rw [hn]; exact hrow i' y h) (i := i) (j := j) (by omega) (by omega))
 have HC := Aside0.mk (fun (W' : World) (hd : Drawn0 W W') (i j : Nat) (hi : i < n) (hj : j < n) => g2_cell (hr.drawn hd) hn hrow hi hj)
 have HS := Aside0.mk (fun (r : Bool) (h : r = true ↔ ((∃ u, u < n ∧ g2 t v u + g2 t u x = 2) ∨ v = x ∨ g2 t v x = 1)) => (show reachB t v x = r by
  rw [Bool.eq_iff_iff, h]
  unfold reachB
  simp only [Bool.or_eq_true, List.any_eq_true, List.mem_range, beq_iff_eq, hn]))
 have H1 := Aside0.mk (fun (W' : World) (hd : Drawn0 W W') => (show W'.cell? ⟨b1, 0, none⟩ = some (.slice A n c) ∧ W'.cell? ⟨b2, 0, none⟩ = some (.int .i64 (v : Int)) from ⟨pw_cell_below hd.below h1, pw_cell_below hd.below h2⟩))
 have HV := Aside0.mk (And.intro hv hx)
 have HN2 := Aside0.mk hn2
 have hvz : (v : Int) < (n : Int) := by omega
 have hxz : (x : Int) < (n : Int) := by omega
 clear hr hn hn2 hrow hv hx
 go_enter Try.func59, Try.ntmps59
 go_wp2
 clear h1 h2
 go_loopw [8] (fun iv wr => ∃ u : Nat, u ≤ n ∧ iv = .int .i64 (u : Int) ∧ Aside0 (∀ u' : Nat, u' < u → g2 t v u' + g2 t u' x ≠ 2) ∧ Aside0 (Drawn0 W wr)) (fun iv _ => n - (intOf iv).toNat)
 case atStart => exact ⟨0, Nat.zero_le _, rfl, ⟨fun i' h => absurd h (Nat.not_lt_zero _)⟩, ⟨Drawn0.refl _⟩⟩
 case round =>
  obtain ⟨u, hu, rfl, HU, HD⟩ := hrel
  obtain ⟨c1, c2⟩ := H1.out wr HD.out
  by_cases hul : u < n
  ·have HI := Aside0.mk hul
   have hz : (u : Int) < (n : Int) := by omega
   obtain ⟨ad, av, cv, e, k0, k1⟩ := HC.out wr HD.out v u HV.out.1 hul
   obtain ⟨ad', au, cu, e', k2, k3⟩ := HC.out wr HD.out u x hul HV.out.2
   subst e
   cases e'
   have b1 := HB.out v u HV.out.1 hul
   have b2 := HB.out u x hul HV.out.2
   have hw : wrap64 (g2 t v u + g2 t u x) = g2 t v u + g2 t u x := w64 (by omega) (by omega)
   have HUU := Aside0.mk (fun (h : g2 t v u + g2 t u x = 2) => HS.out true ⟨fun _ => .inl ⟨u, hul, h⟩, fun _ => rfl⟩)
   have HNU := Aside0.mk (fun (h : g2 t v u + g2 t u x ≠ 2) (u' : Nat) (hu' : u' < u + 1) => (show g2 t v u' + g2 t u' x ≠ 2 by
    rcases Nat.lt_or_eq_of_le (Nat.le_of_lt_succ hu') with h' | rfl
    ·exact HU.out u' h'
    ·exact h))
   generalize g2 t v u = p at *
   generalize g2 t u x = q at *
   clear b1 b2 hu hul
   by_cases hs : p + q = 2
   ·have HG := Aside0.mk (HUU.out hs)
    have m1 : decide (p + q = (2 : Int)) = true := decide_eq_true hs
    have m2 : (p + q = (2 : Int)) = True := eq_true hs
    have m3 : (p + q == (2 : Int)) = true := beq_iff_eq.2 hs
    clear hs
    go_wp2
    go_quiet (fail)
    go_wp2
    go_ret
    exact ⟨by rw [HG.out]; rfl, HD.out.step _⟩
   ·have HG := Aside0.mk (HNU.out hs)
    have m1 : decide (p + q = (2 : Int)) = false := decide_eq_false hs
    have m2 : (p + q = (2 : Int)) = False := eq_false hs
    have m3 : (p + q == (2 : Int)) = false := beq_eq_false_iff_ne.2 hs
    clear hs
    go_wp2
    go_quiet (fail)
    go_wp2
    go_roundw
    ·exact ⟨u + 1, HI.out, congrArg (Value.int .i64) (nxtN (by have := HI.out; have := HN2.out; omega)), HG, ⟨HD.out.step _⟩⟩
    ·rw [nxtN (by have := HI.out; have := HN2.out; omega)]; have := HI.out; simp only [intOf]; omega
  ·obtain rfl : n = u := by omega
   obtain ⟨ad, av, cv, e, k0, k1⟩ := HC.out wr HD.out v x HV.out.1 HV.out.2
   subst e
   have HSS := Aside0.mk (fun (r : Bool) (h : r = true ↔ (v = x ∨ g2 t v x = 1)) => HS.out r (by
    rw [h]
    constructor
    ·exact fun h => .inr h
    ·rintro (⟨u, h1, h2⟩ | h)
     ·exact absurd h2 (HU.out u h1)
     ·exact h))
   generalize g2 t v x = p at *
   clear hu hul
   by_cases hvx : v = x
   ·have HG := Aside0.mk (HSS.out true ⟨fun _ => .inl hvx, fun _ => rfl⟩)
    have q1 : decide ((v : Int) = (x : Int)) = true := decide_eq_true (by omega)
    have q2 : ((v : Int) = (x : Int)) = True := eq_true (by omega)
    have q3 : ((v : Int) == (x : Int)) = true := beq_iff_eq.2 (by omega)
    have q4 : (v = x) = True := eq_true hvx
    clear hvx
    go_wp2
    go_ret
    exact ⟨by rw [HG.out]; rfl, HD.out⟩
   ·have HG := Aside0.mk (HSS.out (p == 1) (by rw [beq_iff_eq]; exact ⟨fun h => .inr h, fun h => h.elim (fun h => absurd h hvx) id⟩))
    have q1 : decide ((v : Int) = (x : Int)) = false := decide_eq_false (by omega)
    have q2 : ((v : Int) = (x : Int)) = False := eq_false (by omega)
    have q3 : ((v : Int) == (x : Int)) = false := beq_eq_false_iff_ne.2 (by omega)
    have q4 : (v = x) = False := eq_false hvx
    clear hvx
    go_wp2
    go_ret
    exact ⟨by rw [HG.out]; rfl, HD.out⟩
set_option maxHeartbeats 4000000 in
set_option maxRecDepth 100000 in
theorem scores_Kings.calls {n : Nat} (A : Option Addr) (c : Nat) (t : List (List Int)) (w : World) (hr : RowLL w A t) (hn : t.length = n) (hC : IsC t) :
  Calls Try.prog 25 #[.slice A n c] w fun e w' => ∃ v, e = .returned (.tuple #[v, .int .i64 0]) ∧ OwnI w' w.heap.size v (kingsUp t n) ∧ Below w.heap.size w w' := by
 have hn2 : n ≤ 30 := by have := hC.len; omega
 have hrow : ∀ (i : Nat) (y : List Int), t[i]? = some y → rowC n y := fun i y h => by have := hC.rows i y h; rw [hn] at this; exact this
 have HR := Aside0.mk hr
 have HN := Aside0.mk hn
 have HN2 := Aside0.mk hn2
 have HROW := Aside0.mk hrow
 have HCO := Aside0.mk (fun (W : World) (h : RowLL W A t) => (by have h := scores_isContest.calls A c t true W h ⟨fun _ => hC, fun _ => rfl⟩; rw [hn] at h; exact h : Calls Try.prog 58 #[.slice A n c] W fun e w' => e = Ending.returned (.bool true) ∧ Drawn0 W w'))
 have HX := Aside0.mk (blk_new w (.cells #[.slice A n c] 35))
 have HB := Aside0.mk (below_alloc (Below.refl w.heap.size w) (.cells #[.slice A n c] 35))
 have HRA := Aside0.mk (hr.below (below_alloc (Below.refl w.heap.size w) (.cells #[.slice A n c] 35)))
 clear hr hn hn2 hrow hC
 go_enter Try.func25, Try.ntmps25
 go_wp2_with (first
  | (
    go_at_call 58; (with_reducible refine (HCO.out _ HRA.out).mono ?_); rintro e w1 ⟨rfl, hd⟩
    have HX1 := Aside0.mk (blk_below HX.out hd.below)
    have HB1 := Aside0.mk (below_then HB.out HB.out.size hd.below)
    have cx1 := (blk_cell HX1.out 0).trans rfl
    clear hd HX HB HRA HCO))
 clear cx1
 go_loopw [14, 4] (fun iv vv wr => ∃ i : Nat, i ≤ n ∧ iv = .int .i64 (i : Int) ∧ Aside0 (OwnI wr w.heap.size vv (kingsUp t i)) ∧ Aside0 (Below w.heap.size w wr) ∧ Aside0 (wr.heap[w.heap.size]? = some (.cells #[.slice A n c] 35 (0, 0)))) (fun iv _ _ => n - (intOf iv).toNat)
 case atStart => exact ⟨0, Nat.zero_le _, rfl, ⟨OwnI.nil _ _⟩, HB1, HX1⟩
 case round =>
  obtain ⟨i, hi, rfl, HO, HBr, HXr⟩ := hrel
  have cx := (blk_cell HXr.out 0).trans rfl
  by_cases hil : i < n
  ·have HI := Aside0.mk hil
   have hz : (i : Int) < (n : Int) := by omega
   have HXa := Aside0.mk (blk_alloc HXr.out (.cells #[.int .i64 (i : Int)] 3))
   have HBa := Aside0.mk (below_alloc HBr.out (.cells #[.int .i64 (i : Int)] 3))
   have HVa := Aside0.mk (blk_new wr (.cells #[.int .i64 (i : Int)] 3))
   have HOa := Aside0.mk (OwnI.grown HO.out (World.grownBy_alloc wr (.cells #[.int .i64 (i : Int)] 3) none) (fun _ _ h => by cases h))
   have cxa := (blk_cell HXa.out 0).trans rfl
   clear hi hil
   go_wp2
   have HCL := Aside0.mk (fun (x : Nat) (hx : x < n) (W : World) (hd : Drawn0 (wr.alloc (.cells #[.int .i64 (i : Int)] 3)) W) => reaches_calls A c t w.heap.size wr.heap.size i x W (HR.out.below (by have := below_then HBa.out HBa.out.size hd.below; exact this)) HN.out HN2.out HROW.out HI.out hx ((blk_cell (blk_below HXa.out hd.below) 0).trans rfl) ((blk_cell (blk_below HVa.out hd.below) 0).trans rfl))
   clear cx
   go_loopw [20, 7] (fun xv kv ws => ∃ x : Nat, x ≤ n ∧ xv = .int .i64 (x : Int) ∧ kv = .bool (kUp t i x) ∧ Aside0 (Drawn0 (wr.alloc (.cells #[.int .i64 (i : Int)] 3)) ws)) (fun xv _ _ => n - (intOf xv).toNat)
   case atStart => exact ⟨0, Nat.zero_le _, rfl, rfl, ⟨Drawn0.refl _⟩⟩
   case round =>
    rename World => ws
    obtain ⟨x, hx, rfl, rfl, HD⟩ := hrel
    by_cases hxl : x < n
    ·have HXL := Aside0.mk hxl
     have hzx : (x : Int) < (n : Int) := by omega
     have HE := Aside0.mk (HCL.out x hxl ws HD.out)
     have HKS := Aside0.mk (kUp_succ t i x)
     generalize reachB t i x = rb at HE HKS
     clear hx hxl
     cases hk : kUp t i x with
     | true =>
      rw [hk] at HKS
      clear hk
      go_wp2_with (go_at_call 59; (with_reducible refine HE.out.mono ?_); rintro e w' ⟨rfl, hd⟩; have HD2 := Aside0.mk (drawn_trans HD.out hd); clear hd)
      go_roundw
      ·exact ⟨x + 1, HXL.out, congrArg (Value.int .i64) (nxtN (by have := HXL.out; have := HN2.out; omega)), by rw [HKS.out]; rfl, HD2⟩
      ·rw [nxtN (by have := HXL.out; have := HN2.out; omega)]; have := HXL.out; simp only [intOf]; omega
     | false =>
      rw [hk] at HKS
      clear hk
      go_wp2
      go_roundw
      ·exact ⟨x + 1, HXL.out, congrArg (Value.int .i64) (nxtN (by have := HXL.out; have := HN2.out; omega)), by rw [HKS.out]; rfl, HD⟩
      ·rw [nxtN (by have := HXL.out; have := HN2.out; omega)]; have := HXL.out; simp only [intOf]; omega
    ·obtain rfl : n = x := by omega
     have HKI := Aside0.mk (show kUp t i n = kingB t i by unfold kUp kingB; rw [HN.out])
     have HKU := Aside0.mk (kingsUp_succ t i)
     have HOs := Aside0.mk (show OwnI ws w.heap.size u4 (kingsUp t i) from pw_own_below HOa.out HD.out.below)
     have HBs := Aside0.mk (below_then HBa.out HBa.out.size HD.out.below)
     have HXs := Aside0.mk (blk_below HXa.out HD.out.below)
     have HLs := Aside0.mk (show (kingsUp t i).length < 1000000 by unfold kingsUp; rw [List.length_map]; have h1 := List.length_filter_le (kingB t) (List.range i); rw [List.length_range] at h1; have h2 := HI.out; have h3 := HN2.out; omega)
     have cv := (blk_cell (blk_below HVa.out HD.out.below) 0).trans rfl
     rw [HKI.out]
     clear hx hxl cxa
     cases hk : kingB t i with
     | true =>
      rw [hk, if_pos rfl] at HKU
      clear hk
      go_wp2_with (first | ((with_reducible refine gate_builtin (b := .append) (xs := #[.tmp 31, .tmp 33]) rfl ?_); at_builtin; refine append_int (w0 := w) (base := w.heap.size) rfl (.tmp 31) (.tmp 33) rfl _ _ _ rfl rfl HOs.out HBs.out HBs.out.size HLs.out ?_; intro v1 w1 h1 h2 h3; have HO1 := Aside0.mk h1; have HB1 := Aside0.mk h2; have HX1 := Aside0.mk (blk_grown HXs.out h3 (OwnI.ne HOs.out HXs.out (by decide))); clear h1 h2 h3))
      go_roundw
      ·exact ⟨i + 1, HI.out, congrArg (Value.int .i64) (nxtN (by have := HI.out; have := HN2.out; omega)), ⟨by rw [HKU.out]; exact HO1.out⟩, HB1, HX1⟩
      ·rw [nxtN (by have := HI.out; have := HN2.out; omega)]; have := HI.out; simp only [intOf]; omega
     | false =>
      rw [hk, if_neg (by decide)] at HKU
      clear hk
      go_wp2
      go_roundw
      ·exact ⟨i + 1, HI.out, congrArg (Value.int .i64) (nxtN (by have := HI.out; have := HN2.out; omega)), ⟨by rw [HKU.out]; exact HOs.out⟩, HBs, HXs⟩
      ·rw [nxtN (by have := HI.out; have := HN2.out; omega)]; have := HI.out; simp only [intOf]; omega
  ·obtain rfl : n = i := by omega
   clear hi hil
   go_wp2
   go_ret2
   exact ⟨_, rfl, HO.out, HBr.out⟩
end Go.Proofs.Ytcploeijeedmdaa.X
namespace Go.Proofs.Ytcploeijeedmdaa.X
open Go.RowKit Go.Proofs.YtcploeijeedmdaaW.PrintWords
set_option linter.unusedVariables false
set_option linter.unusedSimpArgs false
def fact : Nat → Nat
 | 0 => 1
 | n + 1 => (n + 1) * fact n
def C : Nat → Nat → Nat
 | _, 0 => 1
 | 0, _ + 1 => 0
 | n + 1, k + 1 => C n k + C n (k + 1)
theorem C_zero (n : Nat) : C n 0 = 1 := by cases n <;> rfl
theorem C_step : ∀ (n k : Nat), k ≤ n → C n (k + 1) * (k + 1) = C n k * (n - k)
 | 0, k, h => by
  obtain rfl : k = 0 := by omega
  rfl
 | n + 1, 0, _ => by
  have h := C_step n 0 (Nat.zero_le _)
  rw [C_zero] at h ⊢
  show (C n 0 + C n 1) * (0 + 1) = 1 * (n + 1 - 0)
  rw [C_zero]
  have h' : C n 1 = n := by simpa using h
  rw [h']
  omega
 | n + 1, k + 1, h => by
  have h1 := C_step n k (by omega)
  show (C n (k + 1) + C n (k + 1 + 1)) * (k + 1 + 1) = (C n k + C n (k + 1)) * (n + 1 - (k + 1))
  rcases Nat.lt_or_eq_of_le h with h' | h'
  ·have h2 := C_step n (k + 1) (by omega)
   obtain ⟨m, rfl⟩ : ∃ m, n = k + 1 + m := ⟨n - (k + 1), by omega⟩
   have e1 : k + 1 + m - k = m + 1 := by omega
   have e2 : k + 1 + m - (k + 1) = m := by omega
   have e3 : k + 1 + m + 1 - (k + 1) = m + 1 := by omega
   rw [e1] at h1
   rw [e2] at h2
   rw [e3, Nat.add_mul, Nat.add_mul, h2, ← h1, Nat.mul_add, Nat.mul_add]
   generalize C (k + 1 + m) (k + 1) = x
   rw [Nat.mul_add]
   omega
  ·have hnk : n = k := by omega
   subst hnk
   have e1 : n - n = 0 := by omega
   rw [e1, Nat.mul_zero] at h1
   have h3 : C n (n + 1) = 0 := by
    rcases Nat.mul_eq_zero.1 h1 with h | h
    ·exact h
    ·omega
   have h4 : C n (n + 1 + 1) = 0 := by
    have : ∀ (a b : Nat), a < b → C a b = 0 := by
     intro a
     induction a with
     | zero => intro b hb; cases b with | zero => omega | succ b => rfl
     | succ a ih => intro b hb; cases b with | zero => omega | succ b => show C a b + C a (b + 1) = 0; rw [ih b (by omega), ih (b + 1) (by omega)]
    exact this n (n + 1 + 1) (by omega)
   have e2 : n + 1 - (n + 1) = 0 := by omega
   rw [h3, h4, e2]
   simp
theorem C_fact : ∀ (k n : Nat), k ≤ n → C n k * fact k * fact (n - k) = fact n
 | 0, n, _ => by rw [C_zero]; show 1 * 1 * fact n = fact n; omega
 | k + 1, n, h => by
  have h1 := C_fact k n (by omega)
  have h2 := C_step n k (by omega)
  obtain ⟨m, rfl⟩ : ∃ m, n = k + 1 + m := ⟨n - (k + 1), by omega⟩
  have e1 : k + 1 + m - k = m + 1 := by omega
  have e2 : k + 1 + m - (k + 1) = m := by omega
  rw [e1] at h1 h2
  rw [e2]
  have h3 : fact (m + 1) = (m + 1) * fact m := rfl
  have h4 : fact (k + 1) = (k + 1) * fact k := rfl
  rw [h3] at h1
  rw [h4, ← h1]
  calc C (k + 1 + m) (k + 1) * ((k + 1) * fact k) * fact m = C (k + 1 + m) (k + 1) * (k + 1) * fact k * fact m := by simp only [Nat.mul_assoc]
   _ = C (k + 1 + m) k * (m + 1) * fact k * fact m := by rw [h2]
   _ = C (k + 1 + m) k * fact k * ((m + 1) * fact m) := by
    rw [Nat.mul_assoc, Nat.mul_assoc, Nat.mul_assoc]
    congr 1
    rw [Nat.mul_left_comm]
theorem fact_pos : ∀ n, 0 < fact n
 | 0 => Nat.one_pos
 | n + 1 => Nat.mul_pos (Nat.succ_pos _) (fact_pos n)
theorem C_gt : ∀ (a b : Nat), a < b → C a b = 0 := by
 intro a
 induction a with
 | zero => intro b hb; cases b with | zero => omega | succ b => rfl
 | succ a ih => intro b hb; cases b with | zero => omega | succ b => show C a b + C a (b + 1) = 0; rw [ih b (by omega), ih (b + 1) (by omega)]
theorem C_le {n k : Nat} : C n k ≤ fact n := by
 rcases Nat.lt_or_ge n k with h | h
 ·rw [C_gt n k h]; exact Nat.zero_le _
 ·rw [← C_fact k n h]
  calc C n k = C n k * 1 * 1 := by omega
   _ ≤ C n k * fact k * fact (n - k) := Nat.mul_le_mul (Nat.mul_le_mul (Nat.le_refl _) (fact_pos _)) (fact_pos _)
def M : List Int → Nat → Nat
 | [], _ => 1
 | d :: ds, left => C left (d - 1).toNat * M ds (left - (d - 1).toNat)
theorem fact_f : ∀ a : Nat, a < 19 → scores_factorial.f 40 (a : Int) = some (fact a : Int) := by decide +kernel
theorem fact_18 : fact 18 = 6402373705728000 := by decide +kernel
theorem fact_mono : ∀ {a b : Nat}, a ≤ b → fact a ≤ fact b
 | a, 0, h => by
  obtain rfl : a = 0 := by omega
  exact Nat.le_refl _
 | a, b + 1, h => by
  rcases Nat.lt_or_eq_of_le h with h | rfl
  ·have := fact_mono (show a ≤ b by omega)
   show fact a ≤ (b + 1) * fact b
   exact Nat.le_trans this (Nat.le_mul_of_pos_left _ (Nat.succ_pos _))
  ·exact Nat.le_refl _
theorem rd_cons {l : List Int} {i : Nat} {d : Int} {ds : List Int} (h : l.drop i = d :: ds) : rd l (i : Int) = d ∧ i < l.length ∧ l.drop (i + 1) = ds := by
 have hi : i < l.length := by
  rcases Nat.lt_or_ge i l.length with h1 | h1
  ·exact h1
  ·rw [List.drop_eq_nil_of_le h1] at h; cases h
 rw [List.drop_eq_getElem_cons hi] at h
 injection h with h1 h2
 refine ⟨?_, hi, h2⟩
 unfold rd
 rw [Int.toNat_natCast, List.getD_eq_getElem?_getD, List.getElem?_eq_getElem hi]
 exact h1
theorem w64_zero : wrap64 0 = 0 := w64 (by decide) (by decide)
theorem inner_step {R left j : Nat} (hl18 : left ≤ 18) (hj : j ≤ 30) (hb : R * fact left ≤ 6402373705728000) :
  wrap64 (Int.tdiv (wrap64 (((R * C left j : Nat) : Int) * ((left : Int) - (j : Int)))) ((j + 1 : Nat) : Int)) = ((R * C left (j + 1) : Nat) : Int) := by
 rcases Nat.lt_or_ge left j with h | h
 ·rw [C_gt left j h, C_gt left (j + 1) (by omega), Nat.mul_zero]
  rw [show ((0 : Nat) : Int) = 0 from rfl, Int.zero_mul]
  rw [w64_zero, Int.zero_tdiv]
  exact w64_zero
 ·have hC : R * C left j ≤ 6402373705728000 := Nat.le_trans (Nat.mul_le_mul (Nat.le_refl _) C_le) hb
  have hM : R * C left j * (left - j) ≤ 6402373705728000 * 18 := Nat.mul_le_mul hC (by omega)
  have hst := C_step left j h
  have e1 : R * C left j * (left - j) = R * C left (j + 1) * (j + 1) := by rw [Nat.mul_assoc, ← hst, Nat.mul_assoc]
  have hC2 : R * C left (j + 1) ≤ 6402373705728000 := Nat.le_trans (Nat.mul_le_mul (Nat.le_refl _) C_le) hb
  have b1 : R * C left (j + 1) * (j + 1) ≤ 6402373705728000 * 18 := by rw [← e1]; exact hM
  have e0 : (left : Int) - (j : Int) = ((left - j : Nat) : Int) := by omega
  generalize R * C left (j + 1) = x at *
  have h1 : -9223372036854775808 ≤ (x : Int) := by omega
  have h2 : (x : Int) ≤ 9223372036854775807 := by omega
  have h3 : -9223372036854775808 ≤ ((x * (j + 1) : Nat) : Int) := by omega
  have h4 : ((x * (j + 1) : Nat) : Int) ≤ 9223372036854775807 := by omega
  have h8 : (0 : Int) ≤ ((x * (j + 1) : Nat) : Int) := by omega
  clear hC hM hst hC2 b1 hb
  rw [e0, ← Int.natCast_mul, e1, w64 h3 h4, Int.tdiv_eq_ediv_of_nonneg h8, ← Int.natCast_ediv, Nat.mul_div_cancel _ (Nat.succ_pos _), w64 h1 h2]
theorem ref_inner {l : List Int} {n : Int} {R left i a : Nat} {d : Int} {r : Int} (hi : i < l.length) (hl : l.length ≤ 20) (hd : rd l (i : Int) = d) (ha : (a : Int) = d - 1) (ha30 : a ≤ 29) (hl18 : left ≤ 18) (hb : R * fact left ≤ 6402373705728000)
  (h : ∃ k, tickingref09_Trees.l0 k l n ((R * C left a : Nat) : Int) ((left : Int) - (a : Int)) ((i + 1 : Nat) : Int) = some r) :
  ∀ (q j : Nat), a - j = q → j ≤ a → ∃ k, tickingref09_Trees.l1 k l n ((R * C left j : Nat) : Int) ((left : Int) - (j : Int)) (i : Int) ((j + 1 : Nat) : Int) = some r
 | 0, j, hq, hj => by
  obtain rfl : j = a := by omega
  obtain ⟨k, hk⟩ := h
  refine ⟨k + 1, ?_⟩
  rw [tickingref09_Trees.l1, hd, if_pos (by omega), if_pos (by omega), if_neg (by omega), nxtN (by omega)]
  exact hk
 | q + 1, j, hq, hj => by
  obtain ⟨k, hk⟩ := ref_inner hi hl hd ha ha30 hl18 hb h q (j + 1) (by omega) (by omega)
  refine ⟨k + 1, ?_⟩
  rw [tickingref09_Trees.l1, hd, if_pos (by omega), if_pos (by omega), if_pos (by omega), if_neg (by omega), nxtN (by omega), inner_step hl18 (by omega) hb]
  have h5 : -9223372036854775808 ≤ (left : Int) - (j : Int) - 1 := by omega
  have h6 : (left : Int) - (j : Int) - 1 ≤ 9223372036854775807 := by omega
  have h7 : (left : Int) - (j : Int) - 1 = (left : Int) - ((j + 1 : Nat) : Int) := by omega
  rw [w64 h5 h6, h7]
  exact hk
theorem ref_inner0 {l : List Int} {n left : Int} {i a : Nat} {d : Int} {r : Int} (hi : i < l.length) (hl : l.length ≤ 20) (hd : rd l (i : Int) = d) (ha : (a : Int) = d - 1) (ha30 : a ≤ 29) (hl18 : -1000 ≤ left ∧ left ≤ 18)
  (h : ∃ k, tickingref09_Trees.l0 k l n 0 (left - (a : Int)) ((i + 1 : Nat) : Int) = some r) :
  ∀ (q j : Nat), a - j = q → j ≤ a → ∃ k, tickingref09_Trees.l1 k l n 0 (left - (j : Int)) (i : Int) ((j + 1 : Nat) : Int) = some r
 | 0, j, hq, hj => by
  obtain rfl : j = a := by omega
  obtain ⟨k, hk⟩ := h
  refine ⟨k + 1, ?_⟩
  rw [tickingref09_Trees.l1, hd, if_pos (by omega), if_pos (by omega), if_neg (by omega), nxtN (by omega)]
  exact hk
 | q + 1, j, hq, hj => by
  obtain ⟨k, hk⟩ := ref_inner0 hi hl hd ha ha30 hl18 h q (j + 1) (by omega) (by omega)
  refine ⟨k + 1, ?_⟩
  rw [tickingref09_Trees.l1, hd, if_pos (by omega), if_pos (by omega), if_pos (by omega), if_neg (by omega), nxtN (by omega)]
  have h5 : -9223372036854775808 ≤ left - (j : Int) - 1 := by omega
  have h6 : left - (j : Int) - 1 ≤ 9223372036854775807 := by omega
  have h7 : left - (j : Int) - 1 = left - ((j + 1 : Nat) : Int) := by omega
  rw [w64 h5 h6, h7, Int.zero_mul, w64_zero, Int.zero_tdiv, w64_zero]
  exact hk
theorem M_step {l : List Int} {left R : Nat} {d : Int} {ds : List Int} (hd : l = d :: ds) : R * M l left = R * C left (d - 1).toNat * M ds (left - (d - 1).toNat) := by
 subst hd
 show R * (C left (d - 1).toNat * M ds (left - (d - 1).toNat)) = _
 rw [Nat.mul_assoc]
def slack (l : List Int) : Int := (l.map fun d => d - 1).sum
theorem slack_nonneg {l : List Int} (h : ∀ d ∈ l, 1 ≤ d) : 0 ≤ slack l := by
 induction l with
 | nil => exact Int.le_refl _
 | cons d ds ih =>
  have h1 := h d (List.mem_cons_self ..)
  have h2 := ih (fun x hx => h x (List.mem_cons_of_mem _ hx))
  unfold slack at *
  rw [List.map_cons, List.sum_cons]
  omega
theorem R_step {R left a : Nat} (ha : a ≤ left) (hb : R * fact left ≤ 6402373705728000) : R * C left a * fact (left - a) ≤ 6402373705728000 := by
 refine Nat.le_trans ?_ hb
 rw [Nat.mul_assoc]
 refine Nat.mul_le_mul (Nat.le_refl _) ?_
 rw [← C_fact a left ha]
 refine Nat.mul_le_mul ?_ (Nat.le_refl _)
 exact Nat.le_mul_of_pos_right _ (fact_pos _)
theorem ref_outer {l : List Int} (hl : l.length ≤ 20) (h1 : ∀ d ∈ l, 1 ≤ d) : ∀ (ds : List Int) (i R left : Nat), l.drop i = ds → (left : Int) = slack ds → left ≤ 18 → R * fact left ≤ 6402373705728000 →
  ∃ k, tickingref09_Trees.l0 k l (l.length : Int) (R : Int) (left : Int) (i : Int) = some ((R * M ds left : Nat) : Int)
 | [], i, R, left, hd, hs, _, _ => by
  have hi : l.length ≤ i := List.drop_eq_nil_iff.1 hd
  refine ⟨1, ?_⟩
  rw [tickingref09_Trees.l0, if_neg (by omega)]
  show some _ = some (((R * 1 : Nat)) : Int)
  rw [Nat.mul_one]
 | d :: ds, i, R, left, hd, hs, h18, hb => by
  obtain ⟨e1, hi, e2⟩ := rd_cons hd
  have hmem : ∀ x ∈ d :: ds, x ∈ l := fun x hx => List.mem_of_mem_drop (i := i) (by rw [hd]; exact hx)
  have hd1 := h1 d (hmem d (List.mem_cons_self ..))
  have hsn := slack_nonneg (l := ds) (fun x hx => h1 x (hmem x (List.mem_cons_of_mem _ hx)))
  have hsc : slack (d :: ds) = (d - 1) + slack ds := by unfold slack; rw [List.map_cons, List.sum_cons]
  rw [hsc] at hs
  obtain ⟨a, ha⟩ := Int.eq_ofNat_of_zero_le (show 0 ≤ d - 1 by omega)
  have hal : a ≤ left := by omega
  obtain ⟨k, hk⟩ := ref_outer hl h1 ds (i + 1) (R * C left a) (left - a) e2 (by omega) (by omega) (R_step hal hb)
  rw [show ((left - a : Nat) : Int) = (left : Int) - (a : Int) from by omega] at hk
  obtain ⟨k2, hk2⟩ := ref_inner (n := (l.length : Int)) hi hl e1 ha.symm (by omega) h18 hb ⟨k, hk⟩ a 0 (by omega) (Nat.zero_le _)
  refine ⟨k2 + 1, ?_⟩
  rw [C_zero, Nat.mul_one, show (left : Int) - ((0 : Nat) : Int) = (left : Int) from by omega] at hk2
  rw [tickingref09_Trees.l0, if_pos (by omega), if_pos (by omega), if_pos (by omega), e1, if_neg (by omega)]
  rw [show R * M (d :: ds) left = R * C left a * M ds (left - a) from by rw [M_step rfl, ha, Int.toNat_natCast]]
  exact hk2
theorem total_run {l : List Int} (hl : l.length ≤ 31) (h : ∀ d ∈ l, 0 ≤ d ∧ d ≤ 30) : ∀ (ds : List Int) (i : Nat) (s : Int), l.drop i = ds → 0 ≤ s → s ≤ 30 * i → ∃ k, tickingref09_total.l0 k l s (i : Int) = some (s + ds.sum)
 | [], i, s, hd, _, _ => by
  have hi : l.length ≤ i := List.drop_eq_nil_iff.1 hd
  refine ⟨1, ?_⟩
  rw [tickingref09_total.l0, if_neg (by omega), List.sum_nil, Int.add_zero]
 | d :: ds, i, s, hd, h0, h1 => by
  obtain ⟨e1, hi, e2⟩ := rd_cons hd
  have hm := h d (List.mem_of_mem_drop (i := i) (by rw [hd]; exact List.mem_cons_self ..))
  obtain ⟨k, hk⟩ := total_run hl h ds (i + 1) (s + d) e2 (by omega) (by omega)
  refine ⟨k + 1, ?_⟩
  rw [tickingref09_total.l0, if_pos (by omega), if_pos (by omega), e1, w64 (by omega) (by omega), nxtN (by omega), List.sum_cons, hk, Int.add_assoc]
theorem total_f {l : List Int} (hl : l.length ≤ 31) (h : ∀ d ∈ l, 0 ≤ d ∧ d ≤ 30) : ∃ k, tickingref09_total.f k l = some l.sum := by
 obtain ⟨k, hk⟩ := total_run hl h l 0 0 rfl (Int.le_refl _) (by omega)
 exact ⟨k, by unfold tickingref09_total.f; rw [Int.zero_add] at hk; exact hk⟩
theorem sum_run {l : List Int} (hl : l.length ≤ 31) (h : ∀ d ∈ l, 0 ≤ d ∧ d ≤ 30) : ∀ (ds : List Int) (i : Nat) (s : Int), l.drop i = ds → 0 ≤ s → s ≤ 30 * i → ∃ k, scores_sum.l0 k s l (l.length : Int) (i : Int) = some (s + ds.sum)
 | [], i, s, hd, _, _ => by
  have hi : l.length ≤ i := List.drop_eq_nil_iff.1 hd
  refine ⟨1, ?_⟩
  rw [scores_sum.l0, if_neg (by omega), List.sum_nil, Int.add_zero]
 | d :: ds, i, s, hd, h0, h1 => by
  obtain ⟨e1, hi, e2⟩ := rd_cons hd
  have hm := h d (List.mem_of_mem_drop (i := i) (by rw [hd]; exact List.mem_cons_self ..))
  obtain ⟨k, hk⟩ := sum_run hl h ds (i + 1) (s + d) e2 (by omega) (by omega)
  refine ⟨k + 1, ?_⟩
  rw [scores_sum.l0, if_pos (by omega), if_pos (by omega), if_pos (by omega), e1, w64 (by omega) (by omega), nxtN (by omega), List.sum_cons, hk, Int.add_assoc]
theorem sum_f {l : List Int} (hl : l.length ≤ 31) (h : ∀ d ∈ l, 0 ≤ d ∧ d ≤ 30) : ∃ k, scores_sum.f k l = some l.sum := by
 obtain ⟨k, hk⟩ := sum_run hl h l 0 0 rfl (Int.le_refl _) (by omega)
 exact ⟨k, by unfold scores_sum.f; rw [Int.zero_add] at hk; exact hk⟩
theorem numbers_run {l : List Int} (hl : l.length ≤ 1000000) : ∀ (ds : List Int) (i : Nat), l.drop i = ds → ∃ k, tickingref09_Numbers.l0 k l (i : Int) = some (decide (l.length ≤ 30) && ds.all fun n => inR n 0 30)
 | [], i, hd => by
  have hi : l.length ≤ i := List.drop_eq_nil_iff.1 hd
  refine ⟨1, ?_⟩
  rw [tickingref09_Numbers.l0, if_neg (by omega), List.all_nil, Bool.and_true]
  congr 1
  rw [Bool.eq_iff_iff]
  simp
  omega
 | d :: ds, i, hd => by
  obtain ⟨e1, hi, e2⟩ := rd_cons hd
  by_cases h0 : d < 0
  ·refine ⟨1, ?_⟩
   rw [tickingref09_Numbers.l0, if_pos (by omega), if_pos (by omega), e1, if_pos h0]
   have : inR d 0 30 = false := by unfold inR; simp; omega
   rw [List.all_cons, this, Bool.false_and, Bool.and_false]
  ·by_cases h1 : d > 30
   ·refine ⟨1, ?_⟩
    rw [tickingref09_Numbers.l0, if_pos (by omega), if_pos (by omega), e1, if_neg h0, if_pos h1]
    have : inR d 0 30 = false := by unfold inR; simp; omega
    rw [List.all_cons, this, Bool.false_and, Bool.and_false]
   ·obtain ⟨k, hk⟩ := numbers_run hl ds (i + 1) e2
    refine ⟨k + 1, ?_⟩
    have : inR d 0 30 = true := by unfold inR; simp; omega
    rw [tickingref09_Numbers.l0, if_pos (by omega), if_pos (by omega), e1, if_neg h0, if_neg h1, nxtN (by omega), hk, List.all_cons, this, Bool.true_and]
theorem numbers_f {l : List Int} (hl : l.length ≤ 1000000) : ∃ k, tickingref09_Numbers.f k l = some (numsB l) := by
 obtain ⟨k, hk⟩ := numbers_run hl l 0 rfl
 exact ⟨k, hk⟩
theorem numsB_iff {l : List Int} : numsB l = true ↔ l.length ≤ 30 ∧ ∀ d ∈ l, 0 ≤ d ∧ d ≤ 30 := by
 unfold numsB
 rw [Bool.and_eq_true, decide_eq_true_eq, List.all_eq_true]
 constructor
 ·rintro ⟨h1, h2⟩
  exact ⟨h1, fun d hd => by have := h2 d hd; unfold inR at this; simpa using this⟩
 ·rintro ⟨h1, h2⟩
  exact ⟨h1, fun d hd => by have := h2 d hd; unfold inR; simpa using this⟩
def treesN (l : List Int) : Nat := if l.sum = 2 * ((l.length : Int) - 1) ∧ (0 : Int) ∉ l then M l (l.length - 2) else 0
theorem slack_sum (l : List Int) : slack l = l.sum - l.length := by
 induction l with
 | nil => rfl
 | cons d ds ih =>
  have h : slack (d :: ds) = (d - 1) + slack ds := by unfold slack; rw [List.map_cons, List.sum_cons]
  rw [h, ih, List.sum_cons, List.length_cons]
  omega
theorem ref_zero0 {l : List Int} (hl : l.length ≤ 20) (h : ∀ d ∈ l, 0 ≤ d ∧ d ≤ 30) : ∀ (ds : List Int) (i : Nat) (left : Int), l.drop i = ds → (0 : Int) ∈ ds → -(30 * (i : Int)) ≤ left → left ≤ 18 →
  ∃ k, tickingref09_Trees.l0 k l (l.length : Int) 0 left (i : Int) = some 0
 | [], i, left, hd, h0, _, _ => by cases h0
 | d :: ds, i, left, hd, h0, hs, h18 => by
  obtain ⟨e1, hi, e2⟩ := rd_cons hd
  have hm := h d (List.mem_of_mem_drop (i := i) (by rw [hd]; exact List.mem_cons_self ..))
  by_cases hd0 : d < 1
  ·refine ⟨1, ?_⟩
   rw [tickingref09_Trees.l0, if_pos (by omega), if_pos (by omega), if_pos (by omega), e1, if_pos hd0]
  ·obtain ⟨a, ha⟩ := Int.eq_ofNat_of_zero_le (show 0 ≤ d - 1 by omega)
   have hmem : (0 : Int) ∈ ds := by
    rcases List.mem_cons.1 h0 with h0 | h0
    ·omega
    ·exact h0
   obtain ⟨k, hk⟩ := ref_zero0 hl h ds (i + 1) (left - (a : Int)) e2 hmem (by omega) (by omega)
   obtain ⟨k2, hk2⟩ := ref_inner0 (n := (l.length : Int)) hi hl e1 ha.symm (by omega) ⟨by omega, h18⟩ ⟨k, hk⟩ a 0 (by omega) (Nat.zero_le _)
   refine ⟨k2 + 1, ?_⟩
   rw [show left - ((0 : Nat) : Int) = left from by omega] at hk2
   rw [tickingref09_Trees.l0, if_pos (by omega), if_pos (by omega), if_pos (by omega), e1, if_neg hd0]
   exact hk2
theorem ref_zero {l : List Int} (hl : l.length ≤ 20) (h : ∀ d ∈ l, 0 ≤ d ∧ d ≤ 30) : ∀ (ds : List Int) (i R left : Nat), l.drop i = ds → (0 : Int) ∈ ds → left ≤ 18 → R * fact left ≤ 6402373705728000 →
  ∃ k, tickingref09_Trees.l0 k l (l.length : Int) (R : Int) (left : Int) (i : Int) = some 0
 | [], i, R, left, hd, h0, _, _ => by cases h0
 | d :: ds, i, R, left, hd, h0, h18, hb => by
  obtain ⟨e1, hi, e2⟩ := rd_cons hd
  have hm := h d (List.mem_of_mem_drop (i := i) (by rw [hd]; exact List.mem_cons_self ..))
  by_cases hd0 : d < 1
  ·refine ⟨1, ?_⟩
   rw [tickingref09_Trees.l0, if_pos (by omega), if_pos (by omega), if_pos (by omega), e1, if_pos hd0]
  ·obtain ⟨a, ha⟩ := Int.eq_ofNat_of_zero_le (show 0 ≤ d - 1 by omega)
   have hmem : (0 : Int) ∈ ds := by
    rcases List.mem_cons.1 h0 with h0 | h0
    ·omega
    ·exact h0
   have hk : ∃ k, tickingref09_Trees.l0 k l (l.length : Int) ((R * C left a : Nat) : Int) ((left : Int) - (a : Int)) ((i + 1 : Nat) : Int) = some 0 := by
    rcases Nat.lt_or_ge left a with hla | hla
    ·rw [C_gt left a hla, Nat.mul_zero]
     exact ref_zero0 hl h ds (i + 1) ((left : Int) - (a : Int)) e2 hmem (by omega) (by omega)
    ·rw [show (left : Int) - (a : Int) = ((left - a : Nat) : Int) from by omega]
     exact ref_zero hl h ds (i + 1) (R * C left a) (left - a) e2 hmem (by omega) (R_step hla hb)
   obtain ⟨k2, hk2⟩ := ref_inner (n := (l.length : Int)) hi hl e1 ha.symm (by omega) h18 hb hk a 0 (by omega) (Nat.zero_le _)
   refine ⟨k2 + 1, ?_⟩
   rw [C_zero, Nat.mul_one, show (left : Int) - ((0 : Nat) : Int) = (left : Int) from by omega] at hk2
   rw [tickingref09_Trees.l0, if_pos (by omega), if_pos (by omega), if_pos (by omega), e1, if_neg hd0]
   exact hk2
theorem ref_f {l : List Int} (hl : 2 ≤ l.length ∧ l.length ≤ 20) (h : ∀ d ∈ l, 0 ≤ d ∧ d ≤ 30) : ∃ k, tickingref09_Trees.f k l = some ((treesN l : Nat) : Int) := by
 have e0 : wrap64 (2 * wrap64 ((l.length : Int) - 1)) = 2 * ((l.length : Int) - 1) := by
  have h1 : wrap64 ((l.length : Int) - 1) = (l.length : Int) - 1 := w64 (by omega) (by omega)
  rw [h1]
  clear h1
  exact w64 (by omega) (by omega)
 have e9 : wrap64 ((l.length : Int) - 2) = ((l.length - 2 : Nat) : Int) := by rw [w64 (by omega) (by omega)]; omega
 obtain ⟨k1, hk1⟩ := total_f (by omega) h
 have hb : 1 * fact (l.length - 2) ≤ 6402373705728000 := by rw [Nat.one_mul, ← fact_18]; exact fact_mono (by omega)
 by_cases hs : l.sum = 2 * ((l.length : Int) - 1)
 ·have hx : ∃ k, tickingref09_Trees.l0 k l (l.length : Int) ((1 : Nat) : Int) ((l.length - 2 : Nat) : Int) ((0 : Nat) : Int) = some ((treesN l : Nat) : Int) := by
   by_cases h0 : (0 : Int) ∈ l
   ·obtain ⟨k, hk⟩ := ref_zero hl.2 h l 0 1 (l.length - 2) rfl h0 (by omega) hb
    refine ⟨k, ?_⟩
    rw [hk]
    unfold treesN
    rw [if_neg (fun h => h.2 h0)]
    rfl
   ·obtain ⟨k, hk⟩ := ref_outer hl.2 (fun d hd => by have := h d hd; have : d ≠ 0 := fun e => h0 (e ▸ hd); omega) l 0 1 (l.length - 2) rfl (by rw [slack_sum, hs]; omega) (by omega) hb
    refine ⟨k, ?_⟩
    rw [hk]
    unfold treesN
    rw [if_pos ⟨hs, h0⟩, Nat.one_mul]
  obtain ⟨k2, hk2⟩ := hx
  refine ⟨k1 + k2, ?_⟩
  have m1 := at_rounds (fun k => tickingref09_total.mono l k) (show k1 ≤ k1 + k2 by omega) hk1
  have m2 := at_rounds (fun k => (tickingref09_Trees.mono_l k).1 _ _ _ _ _) (show k2 ≤ k1 + k2 by omega) hk2
  unfold tickingref09_Trees.f
  rw [m1, Option.bind_some, e0, if_pos hs, e9]
  exact m2
 ·refine ⟨k1, ?_⟩
  unfold tickingref09_Trees.f treesN
  rw [hk1, Option.bind_some, e0, if_neg hs, if_neg (fun h => hs h.1)]
  rfl
end Go.Proofs.Ytcploeijeedmdaa.X
namespace Go.Proofs.Ytcploeijeedmdaa.X
open Go.RowKit Go.Shelf Go.Proofs.YtcploeijeedmdaaW.PrintWords Go.Proofs.YtcploeijeedmdaaW.PrintLast Go.Proofs.Ytcploeijeedmdaa.S
set_option linter.unusedVariables false
set_option linter.unusedSimpArgs false
def treesOk (l : List Int) : Prop := numsB l = true ∧ 2 ≤ l.length ∧ l.length ≤ 20
structure StT (l : List Int) (i R left : Nat) : Prop where
 eq : R * M (l.drop i) left = M l (l.length - 2)
 sl : (left : Int) = slack (l.drop i)
 le : left ≤ 18
 bd : R * fact left ≤ 6402373705728000
set_option maxHeartbeats 4000000 in
set_option maxRecDepth 100000 in
theorem scores_Trees.calls (A : Option Addr) (c : Nat) (l : List Int) (w : World) (hr : RowI w A l) (hc : l.length ≤ c) :
  Calls Try.prog 28 #[.slice A l.length c] w fun e w' => ((¬ treesOk l ∧ e = .returned (.tuple #[.int .i64 0, .int .i64 2])) ∨ (treesOk l ∧ e = .returned (.tuple #[.int .i64 ((treesN l : Nat) : Int), .int .i64 0]))) ∧ Drawn0 w w' := by
 have HAN := Aside0.mk (scores_areNumbers.calls A c l w hr)
 have HW := Aside0.mk (fun W => scores_within.calls (l.length : Int) 2 20 (inR (l.length : Int) 2 20) W (within_f _ _ _))
 have HR := Aside0.mk hr
 cases hnb : numsB l with
 | false =>
  have HF := Aside0.mk (show ¬ treesOk l from fun h => by rw [h.1] at hnb; cases hnb)
  rw [hnb] at HAN
  clear hr hnb
  generalize l.length = n at HAN HW ⊢
  go_enter Try.func28, Try.ntmps28
  go_wp2_with (go_at_call 61; (with_reducible refine HAN.out.mono ?_); rintro e w' ⟨rfl, hd⟩; have HD := Aside0.mk hd; clear hd)
  go_ret2
  exact ⟨.inl ⟨HF.out, rfl⟩, HD.out⟩
 | true =>
  cases hin : inR (l.length : Int) 2 20 with
  | false =>
   have HF := Aside0.mk (show ¬ treesOk l from fun h => by
    have h1 := inR_iff.2 (show (2 : Int) ≤ (l.length : Int) ∧ (l.length : Int) ≤ 20 from ⟨by have := h.2.1; omega, by have := h.2.2; omega⟩)
    rw [hin] at h1
    cases h1)
   rw [hnb] at HAN
   rw [hin] at HW
   clear hr hnb hin
   generalize l.length = n at HAN HW ⊢
   go_enter Try.func28, Try.ntmps28
   go_wp2_with (first
    | (go_at_call 61; (with_reducible refine HAN.out.mono ?_); rintro e w' ⟨rfl, hd⟩; have HD := Aside0.mk hd; clear hd)
    | (go_at_call 62; (with_reducible refine (HW.out _).mono ?_); rintro e w2 ⟨rfl, hd⟩; have HD2 := Aside0.mk (drawn_trans HD.out hd); clear hd))
   go_ret2
   exact ⟨.inl ⟨HF.out, rfl⟩, HD2.out⟩
  | true =>
   obtain ⟨i1, i2⟩ := inR_iff.1 hin
   have HOK := Aside0.mk (show treesOk l from ⟨hnb, by omega, by omega⟩)
   have HB := Aside0.mk (numsB_iff.1 hnb).2
   obtain ⟨ks, hks⟩ := sum_f (l := l) (by omega) HB.out
   have HSU := Aside0.mk (fun (W : World) (h : RowI W A l) => scores_sum.calls ks A c l l.sum W h.1 hc hks)
   obtain ⟨b, o, rfl, hbl, hcl⟩ := hr.cells (by omega)
   have HCO := Aside0.mk (fun (W : World) (h : RowI W (some ⟨b, o, none⟩) l) => Try.slices_Contains_int b o l.length c l 0 W (Nat.le_refl _) (by omega) (fun j hj => by
    obtain ⟨b', o', e, _, hc'⟩ := h.cells (by omega)
    cases e
    rw [hc' j hj, List.getD_eq_getElem?_getD, List.getElem?_eq_getElem hj]
    rfl))
   have HE0 := Aside0.mk (show wrap64 (2 * wrap64 ((l.length : Int) - 1)) = 2 * ((l.length : Int) - 1) from by
    have h1 : wrap64 ((l.length : Int) - 1) = (l.length : Int) - 1 := w64 (by omega) (by omega)
    rw [h1]
    clear h1
    exact w64 (by omega) (by omega))
   have HE1 := Aside0.mk (show wrap64 ((l.length : Int) - 2) = ((l.length - 2 : Nat) : Int) from by rw [w64 (by omega) (by omega)]; omega)
   rw [hnb] at HAN
   rw [hin] at HW
   have HNN := Aside0.mk (show 2 ≤ l.length ∧ l.length ≤ 20 from by omega)
   clear hnb hin i1 i2 hks hbl hcl hr
   obtain ⟨S, HS⟩ : ∃ S, Aside0 (l.sum = S) := ⟨_, ⟨rfl⟩⟩
   rw [HS.out] at HSU
   obtain ⟨n, HN⟩ : ∃ n, Aside0 (l.length = n) := ⟨_, ⟨rfl⟩⟩
   rw [HN.out] at HAN HW HSU HCO HE0 HE1 HNN ⊢
   by_cases hs : S = 2 * ((n : Int) - 1)
   ·have q1 : (S == wrap64 (2 * wrap64 ((n : Int) - 1))) = true := by rw [HE0.out]; exact beq_iff_eq.2 hs
    have q2 : (S = wrap64 (2 * wrap64 ((n : Int) - 1))) = True := by rw [HE0.out]; exact eq_true hs
    have q3 : (S != wrap64 (2 * wrap64 ((n : Int) - 1))) = false := by unfold bne; rw [q1]; rfl
    have HSS := Aside0.mk hs
    clear hs
    cases h0 : l.contains 0 with
    | true =>
     have HV := Aside0.mk (show treesN l = 0 from by
      unfold treesN
      rw [if_neg (fun h => h.2 (List.contains_iff_mem.1 h0))])
     have HCO2 := Aside0.mk (fun (W : World) (h : RowI W (some ⟨b, o, none⟩) l) => (show Calls Try.prog 64 #[.slice (some ⟨b, o, none⟩) n c, .int .i64 0] W fun e w' => e = .returned (.bool true) ∧ w' = W from by have := HCO.out W h; rw [List.take_of_length_le (Nat.le_of_eq HN.out), h0] at this; exact this))
     clear h0 HCO
     go_enter Try.func28, Try.ntmps28
     go_wp2_with (first
      | (go_at_call 61; (with_reducible refine HAN.out.mono ?_); rintro e w' ⟨rfl, hd⟩; have HD := Aside0.mk hd; clear hd)
      | (go_at_call 62; (with_reducible refine (HW.out _).mono ?_); rintro e w2 ⟨rfl, hd⟩; have HD2 := Aside0.mk (drawn_trans HD.out hd); have HS3 := Aside0.mk (HSU.out w2 (HR.out.drawn HD2.out)); clear hd)
      | (go_at_call 63; (with_reducible refine HS3.out.mono ?_); rintro e w3 ⟨rfl, hd⟩; have HD3 := Aside0.mk (drawn_trans HD2.out hd); have HC3 := Aside0.mk (HCO2.out w3 (HR.out.drawn HD3.out)); clear hd)
      | (go_at_call 64; (with_reducible refine HC3.out.mono ?_); rintro e w4 ⟨rfl, rfl⟩))
     go_ret2
     exact ⟨.inr ⟨HOK.out, by rw [HV.out]; rfl⟩, HD3.out⟩
    | false =>
     have HV := Aside0.mk (show treesN l = M l (n - 2) from by
      unfold treesN
      rw [if_pos ⟨by rw [HS.out, HN.out]; exact HSS.out, fun h => by rw [List.contains_iff_mem.2 h] at h0; cases h0⟩, HN.out])
     have HPO := Aside0.mk (show ∀ d ∈ l, 1 ≤ d from fun d hd => by
      have h1 := (HB.out d hd).1
      have h2 : d ≠ 0 := fun e => by rw [List.contains_iff_mem.2 (e ▸ hd)] at h0; cases h0
      omega)
     have HCO2 := Aside0.mk (fun (W : World) (h : RowI W (some ⟨b, o, none⟩) l) => (show Calls Try.prog 64 #[.slice (some ⟨b, o, none⟩) n c, .int .i64 0] W fun e w' => e = .returned (.bool false) ∧ w' = W from by have := HCO.out W h; rw [List.take_of_length_le (Nat.le_of_eq HN.out), h0] at this; exact this))
     have HFA := Aside0.mk (fun (W : World) => (show Calls Try.prog 65 #[.int .i64 (wrap64 ((n : Int) - 2))] W fun e w' => e = .returned (.int .i64 ((fact (n - 2) : Nat) : Int)) ∧ Drawn0 W w' from by
      rw [HE1.out]
      exact scores_factorial.calls 40 _ _ W (fact_f _ (by have := HNN.out; omega))))
     have HST0 := Aside0.mk (show StT l 0 1 (n - 2) from ⟨by rw [Nat.one_mul, HN.out]; rfl, by
      show ((n - 2 : Nat) : Int) = slack l
      rw [slack_sum, HS.out, HN.out, HSS.out]
      have := HNN.out
      omega, by have := HNN.out; omega, by rw [Nat.one_mul, ← fact_18]; exact fact_mono (by have := HNN.out; omega)⟩)
     clear h0 HCO
     go_enter Try.func28, Try.ntmps28
     go_wp2_with (first
      | (go_at_call 61; (with_reducible refine HAN.out.mono ?_); rintro e w' ⟨rfl, hd⟩; have HD := Aside0.mk hd; clear hd)
      | (go_at_call 62; (with_reducible refine (HW.out _).mono ?_); rintro e w2 ⟨rfl, hd⟩; have HD2 := Aside0.mk (drawn_trans HD.out hd); have HS3 := Aside0.mk (HSU.out w2 (HR.out.drawn HD2.out)); clear hd)
      | (go_at_call 63; (with_reducible refine HS3.out.mono ?_); rintro e w3 ⟨rfl, hd⟩; have HD3 := Aside0.mk (drawn_trans HD2.out hd); have HC3 := Aside0.mk (HCO2.out w3 (HR.out.drawn HD3.out)); clear hd)
      | (go_at_call 64; (with_reducible refine HC3.out.mono ?_); rintro e w4 ⟨rfl, rfl⟩)
      | (go_at_call 65; (with_reducible refine (HFA.out _).mono ?_); rintro e w5 ⟨rfl, hd⟩; have HD5 := Aside0.mk (drawn_trans HD3.out hd); clear hd))
     clear q1 q2 q3
     go_loopw [33, 5] (fun iv ov wr => ∃ i R left : Nat, i ≤ n ∧ iv = .int .i64 (i : Int) ∧ ov = .int .i64 ((R * fact left : Nat) : Int) ∧ Aside0 (StT l i R left) ∧ Aside0 (Drawn0 w wr)) (fun iv _ _ => n - (intOf iv).toNat)
     case atStart => exact ⟨0, 1, n - 2, Nat.zero_le _, rfl, by rw [Nat.one_mul], HST0, HD5⟩
     case round =>
      obtain ⟨i, R, left, hi, rfl, rfl, HT, HDr⟩ := hrel
      by_cases hil : i < n
      ·have HI := Aside0.mk hil
       have hz : (i : Int) < (n : Int) := by omega
       obtain ⟨ad, d, hd, e, hcd⟩ := (HR.out.drawn HDr.out).at_ (i := i) (by rw [HN.out]; exact hil)
       cases e
       rw [Addr.add_lit] at hcd
       have hdr : l.drop i = d :: l.drop (i + 1) := by
        obtain ⟨hx, hy⟩ := List.getElem?_eq_some_iff.1 hd
        rw [List.drop_eq_getElem_cons hx, hy]
       have hd1 := HPO.out d (List.mem_of_getElem? hd)
       have hd30 := (HB.out d (List.mem_of_getElem? hd)).2
       have hsn := slack_nonneg (l := l.drop (i + 1)) (fun x hx => HPO.out x (List.mem_of_mem_drop hx))
       have hsl := HT.out.sl
       rw [hdr, show slack (d :: l.drop (i + 1)) = (d - 1) + slack (l.drop (i + 1)) from by unfold slack; rw [List.map_cons, List.sum_cons]] at hsl
       obtain ⟨a, ha⟩ := Int.eq_ofNat_of_zero_le (show 0 ≤ d - 1 by omega)
       have h18 := HT.out.le
       have hal : a ≤ left := by omega
       have HNX := Aside0.mk (show StT l (i + 1) (R * C left a) (left - a) from by
        refine ⟨?_, by omega, by omega, R_step hal HT.out.bd⟩
        rw [← HT.out.eq, M_step hdr, ha, Int.toNat_natCast])
       have HMU := Aside0.mk (show R * fact left = R * C left a * fact (left - a) * fact a from by
        rw [← C_fact a left hal, Nat.mul_assoc, Nat.mul_assoc, Nat.mul_assoc, Nat.mul_comm (fact a)])
       have HFX := Aside0.mk (fun (W : World) => (show Calls Try.prog 65 #[.int .i64 (wrap64 (d - 1))] W fun e w' => e = .returned (.int .i64 ((fact a : Nat) : Int)) ∧ Drawn0 W w' from by
        have h5 : -9223372036854775808 ≤ d - 1 := by omega
        have h6 : d - 1 ≤ 9223372036854775807 := by omega
        rw [w64 h5 h6, ha]
        exact scores_factorial.calls 40 _ _ W (fact_f a (by omega))))
       have HBD := Aside0.mk HT.out.bd
       have HBD2 := Aside0.mk (R_step hal HT.out.bd)
       have hfp := fact_pos a
       clear hi hil hd hdr hd1 hd30 hsn hsl ha h18 hal
       obtain ⟨x, HX⟩ : ∃ x, Aside0 (R * C left a * fact (left - a) = x) := ⟨_, ⟨rfl⟩⟩
       rw [HX.out] at HMU HBD2
       obtain ⟨y, HY⟩ : ∃ y, Aside0 (R * fact left = y) := ⟨_, ⟨rfl⟩⟩
       rw [HY.out] at HMU HBD ⊢
       generalize hf : fact a = f at HFX HMU hfp
       clear hf
       have z1 : ((f : Int) = 0) = False := eq_false (by omega)
       have z2 : ((f : Int) == 0) = false := beq_eq_false_iff_ne.2 (by omega)
       have z3 : (f = 0) = False := eq_false (by omega)
       have HFP := Aside0.mk hfp
       clear hfp
       go_wp2_with (first
        | (go_at_call 65; (with_reducible refine (HFX.out _).mono ?_); rintro e w5 ⟨rfl, hd⟩; have HDs := Aside0.mk (drawn_trans HDr.out hd); clear hd))
       go_roundw
       ·refine ⟨i + 1, R * C left a, left - a, HI.out, congrArg (Value.int .i64) (nxtN (by have := HI.out; have := HNN.out; omega)), ?_, HNX, HDs⟩
        have h1 : (y : Int) / (f : Int) = (x : Int) := by rw [HMU.out, ← Int.natCast_ediv, Nat.mul_div_cancel _ HFP.out]
        rw [HX.out, h1]
        exact congrArg (Value.int .i64) (w64 (by omega) (by have := HBD2.out; omega))
       ·rw [nxtN (by have := HI.out; have := HNN.out; omega)]; have := HI.out; simp only [intOf]; omega
      ·obtain rfl : n = i := by omega
       have HFI := Aside0.mk (show R * fact left = treesN l from by
        rw [HV.out]
        have h1 := HT.out.eq
        have h2 := HT.out.sl
        rw [List.drop_of_length_le (Nat.le_of_eq HN.out)] at h1 h2
        have h3 : left = 0 := by have : slack ([] : List Int) = 0 := rfl; omega
        rw [h3] at h1 ⊢
        rw [HN.out] at h1
        rw [← h1]
        rfl)
       rw [HFI.out]
       clear hi hil
       go_wp2
       go_ret2
       exact ⟨.inr ⟨HOK.out, rfl⟩, HDr.out⟩
   ·have q1 : (S == wrap64 (2 * wrap64 ((n : Int) - 1))) = false := by rw [HE0.out]; exact beq_eq_false_iff_ne.2 hs
    have q2 : (S = wrap64 (2 * wrap64 ((n : Int) - 1))) = False := by rw [HE0.out]; exact eq_false hs
    have q3 : (S != wrap64 (2 * wrap64 ((n : Int) - 1))) = true := by unfold bne; rw [q1]; rfl
    have HV := Aside0.mk (show treesN l = 0 from by
     unfold treesN
     rw [if_neg (fun h => hs (by rw [← HS.out, ← HN.out]; exact h.1))])
    clear hs HCO
    go_enter Try.func28, Try.ntmps28
    go_wp2_with (first
     | (go_at_call 61; (with_reducible refine HAN.out.mono ?_); rintro e w' ⟨rfl, hd⟩; have HD := Aside0.mk hd; clear hd)
     | (go_at_call 62; (with_reducible refine (HW.out _).mono ?_); rintro e w2 ⟨rfl, hd⟩; have HD2 := Aside0.mk (drawn_trans HD.out hd); have HS3 := Aside0.mk (HSU.out w2 (HR.out.drawn HD2.out)); clear hd)
     | (go_at_call 63; (with_reducible refine HS3.out.mono ?_); rintro e w3 ⟨rfl, hd⟩; have HD3 := Aside0.mk (drawn_trans HD2.out hd); clear hd))
    go_ret2
    exact ⟨.inr ⟨HOK.out, by rw [HV.out]; rfl⟩, HD3.out⟩
theorem append_row {ops : Array Oper} {o : Oper} {rest : List Oper} {a : Act} {Q : Exit → Act → World → Prop} {w0 W : World} {base : Nat} (hgd : o.guard = none) (s x : Operand)
  (ho : o.op = .call { callee := .builtin .append, args := #[s, x], argTypes := #[24, 24] }) (v : Value) (xs ys : List Int) (A : Option Addr) (m c : Nat) (hm : ys.length = m) (hs : a.eval s = v) (hx : a.eval x = .slice A m c)
  (HO : OwnI W base v xs) (hb : Kd.C (Kd.int .i64) W A ys.length ys) (HB : Below base w0 W) (hbase : base ≤ W.heap.size) (hl : (xs.length + ys.length) * 8 ≤ 140737488355328)
  (h : ∀ v1 w1, OwnI w1 base v1 (xs ++ ys) → Below base w0 w1 → W.grownBy w1 v.ownBlock → wpList Try.prog ops Q rest (a.put o.dst v1) w1) :
  wpList Try.prog ops Q (o :: rest) a W := by
 subst hm
 refine Kd.R_append_rows (Kd.int .i64) (Rr := fun x cs => cs = [.int .i64 x]) (w0 := w0) base hgd s x 24 3 (.int .i64 0) 8 ho Try.underlying24 info3 rfl (by decide) (by decide) v xs ys A ys.length c (fun _ => True) (fun _ => False) hs hx HO.toR ?_ (fun x cs h => h) (fun k hk => hk.elim) (fun _ _ => trivial) HB hbase hl ?_
 ·refine ⟨rfl, by omega, fun hp => ?_⟩
  have hrd := Kd.reads_of_C (d := (0 : Int)) hb
  obtain ⟨ad, e, hc⟩ := hrd.2.2 hp
  refine ⟨_, e, fun j p hj => ⟨[.int .i64 p], rfl, rfl, fun i u hu => ?_⟩⟩
  have hi : i = 0 ∧ u = .int .i64 p := by
   cases i with
   | zero => simp at hu; exact ⟨rfl, hu.symm⟩
   | succ i => simp at hu
  obtain ⟨rfl, rfl⟩ := hi
  obtain ⟨hjl, hjp⟩ := List.getElem?_eq_some_iff.1 hj
  show W.cell? (ad.add (j * 1 + 0)) = _
  rw [Nat.mul_one, Nat.add_zero, hc j hjl, List.getD_eq_getElem?_getD, List.getElem?_eq_getElem hjl, hjp]
  rfl
 ·intro v1 w1 h1 h2 h3 h4
  exact h v1 w1 (OwnI.ofR h1) h2 h3
attribute [local go_sem] max2_int min2_int max_two min_two
set_option maxHeartbeats 4000000 in
set_option maxRecDepth 100000 in
theorem list_calls (A : Option Addr) (c : Nat) (l : List Int) (w : World) (hr : Kd.C (Kd.int .i64) w A l.length l) (hc : l.length ≤ c) :
  Calls Try.prog 27 #[.slice A l.length c] w fun e w' => ∃ v, e = .returned v ∧ OwnI w' w.heap.size v (l.take 31) ∧ Below w.heap.size w w' := by
 obtain ⟨i3, hi3, _⟩ := Option.map_eq_some_iff.1 info3
 have hlen : l.length ≤ 9223372036854775807 := by have := hr.2.1; omega
 obtain ⟨n, HN⟩ : ∃ n, Aside0 (l.length = n) := ⟨_, ⟨rfl⟩⟩
 by_cases hl : n ≤ 31
 ·have HT := Aside0.mk (show l.take 31 = l from List.take_of_length_le (by rw [HN.out]; exact hl))
  have HR := Aside0.mk hr
  have HL := Aside0.mk hl
  rw [HN.out] at hc hlen ⊢
  have hcut : (Instr.slice 24 (.slice A n c) none (some (.int .i64 (n : Int))) none).run Try.prog w = .ok (.slice A n c) w := by
   have h := cut_to (P := Try.prog) 24 3 .i64 Try.underlying24 hi3 A n c (n : Int) (by omega) (by omega) hc w
   rw [Int.toNat_natCast] at h
   exact h
  have p1 : ((31 : Int) < (n : Int)) = False := eq_false (by omega)
  have p2 : decide ((31 : Int) < (n : Int)) = false := decide_eq_false (by omega)
  have p3 : (31 < n) = False := eq_false (by omega)
  clear hl hlen hr hi3
  go_enter Try.func27, Try.ntmps27
  go_wp2_with (first | ((with_reducible refine gate_builtin (b := .append) (xs := #[.tmp 4, .tmp 9]) rfl ?_); at_builtin; refine append_row (w0 := w) (base := w.heap.size) rfl (.tmp 4) (.tmp 9) rfl _ [] l A _ _ HN.out rfl rfl (OwnI.nil _ _) HR.out (Below.refl _ _) (Nat.le_refl _) (by rw [List.length_nil, Nat.zero_add, HN.out]; have := HL.out; omega) ?_; intro v1 w1 h1 h2 h3; have HO1 := Aside0.mk h1; have HB1 := Aside0.mk h2; clear h1 h2 h3))
  go_ret
  exact ⟨v1, rfl, by rw [HT.out]; exact HO1.out, HB1.out⟩
 ·have HR := Aside0.mk (Kd.C_take hr (m := 31) (by rw [HN.out]; omega))
  have HTL := Aside0.mk (show (l.take 31).length = 31 from by rw [List.length_take, HN.out]; omega)
  rw [HN.out] at hc hlen ⊢
  have hcut : (Instr.slice 24 (.slice A n c) none (some (.int .i64 31)) none).run Try.prog w = .ok (.slice A 31 c) w := cut_to (P := Try.prog) 24 3 .i64 Try.underlying24 hi3 A n c 31 (by omega) (by omega) hc w
  have p1 : ((31 : Int) < (n : Int)) = True := eq_true (by omega)
  have p2 : decide ((31 : Int) < (n : Int)) = true := decide_eq_true (by omega)
  have p3 : (31 < n) = True := eq_true (by omega)
  clear hl hlen hr hi3
  go_enter Try.func27, Try.ntmps27
  go_wp2_with (first | ((with_reducible refine gate_builtin (b := .append) (xs := #[.tmp 4, .tmp 9]) rfl ?_); at_builtin; refine append_row (w0 := w) (base := w.heap.size) rfl (.tmp 4) (.tmp 9) rfl _ [] (l.take 31) A _ _ HTL.out rfl rfl (OwnI.nil _ _) HR.out (Below.refl _ _) (Nat.le_refl _) (by rw [List.length_nil, Nat.zero_add, HTL.out]; omega) ?_; intro v1 w1 h1 h2 h3; have HO1 := Aside0.mk h1; have HB1 := Aside0.mk h2; clear h1 h2 h3))
  go_ret
  exact ⟨v1, rfl, HO1.out, HB1.out⟩
end Go.Proofs.Ytcploeijeedmdaa.X
namespace Go.Proofs.Ytcploeijeedmdaa.X
open Go.RowKit
theorem mod_f {x n : Int} (h : 1 ≤ n ∧ n ≤ 1000) : ∃ r, tickinglaw09_mod.f x n = some r ∧ 0 ≤ r ∧ r < n := by
 have e1 : IntKind.u64.wrap n = n := by
  simp [IntKind.wrap, IntKind.signed, IntKind.bits]
  omega
 have e2 : 0 ≤ IntKind.u64.wrap x := by
  simp [IntKind.wrap, IntKind.signed, IntKind.bits]
  omega
 have h1 : Int.tmod (IntKind.u64.wrap x) n = (IntKind.u64.wrap x) % n := Int.tmod_eq_emod_of_nonneg e2
 have h2 := Int.emod_nonneg (IntKind.u64.wrap x) (show n ≠ 0 by omega)
 have h3 := Int.emod_lt_of_pos (IntKind.u64.wrap x) (show 0 < n by omega)
 refine ⟨(IntKind.u64.wrap x) % n, ?_, h2, h3⟩
 unfold tickinglaw09_mod.f
 rw [e1, if_neg (by omega), h1]
 generalize (IntKind.u64.wrap x) % n = r at h2 h3
 rw [w64 (by omega) (by omega)]
end Go.Proofs.Ytcploeijeedmdaa.X
