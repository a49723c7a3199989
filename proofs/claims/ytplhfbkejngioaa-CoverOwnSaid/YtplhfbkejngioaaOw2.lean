/- The smallest circle, plain: it is found, and it is the only one. Texts of this claim's session, put together: X8, KeepS, X11, X16, X20, KeepB, Exist, Exist2, Exist3. -/
import Derived.Test.YtplhfbkejngioaaBc0
import Derived.Test.YtplhfbkejngioaaBc4
import Derived.Test.YtplhfbkejngioaaBc5
import Derived.Test.YtplhfbkejngioaaOw0
import Derived.Test.YtplhfbkejngioaaVWords
import Derived.Test.YtplhfbkejngioaaVLast
import Derived.Test.YtplhfbkejngioaaVTab
import Derived.Test.YtplhfbkejngioaaVRepsOne
namespace Go.Proofs.Ytplhfbkejngioaa.X
open Go.RowKit Go.Proofs.YtplhfbkejngioaaW.PrintWords Go.Proofs.YtplhfbkejngioaaW.PrintLast Go.Proofs.Ytplhfbkejngioaa.S
attribute [local go_sem] max2_int min2_int max_two min_two
set_option linter.unusedVariables false
set_option linter.unusedSimpArgs false
def tickinglaw01_rects.f (l0 : List (S48)) (a1 : Int) : Option ((List (S48))) := if 0 ≤ (mn (l0.length : Int) a1) then (if (mn (l0.length : Int) a1) ≤ (l0.length : Int) then ((some (l0.take ((mn (l0.length : Int) a1) : Int).toNat : List (S48))).bind fun y172 => (if ([] : List (S48)).length + y172.length < 4398046511104 then (some (([] : List (S48)) ++ y172)) else (none))) else (none)) else (none)
set_option maxHeartbeats 8000000 in
set_option maxRecDepth 100000 in
theorem tickinglaw01_rects.calls (A0 : Option Addr) (c0 : Nat) (l0 : List (S48)) (a1 : Int) (r : List (S48)) (w : World) (hr0 : Kd.C k48 w A0 l0.length l0) (hc0 : l0.length ≤ c0) (h : tickinglaw01_rects.f l0 a1 = some r) :
  Calls Try.prog 16 #[.slice A0 l0.length c0, .int .i64 a1] w fun e w' => ∃ v0_ : Value, e = .returned (v0_) ∧ Kd.R k48 48 w' w.heap.size (fun _ => True) v0_ r ∧ Below w.heap.size w w' := by
 have HR0 := Aside0.mk hr0
 have HC0 := Aside0.mk hc0
 clear hr0 hc0
 have HB := Aside0.mk (Below.refl w.heap.size w)
 have H : (if 0 ≤ (mn (l0.length : Int) a1) then (if (mn (l0.length : Int) a1) ≤ (l0.length : Int) then ((some (l0.take ((mn (l0.length : Int) a1) : Int).toNat : List (S48))).bind fun y172 => (if ([] : List (S48)).length + y172.length < 4398046511104 then (some (([] : List (S48)) ++ y172)) else (none))) else (none)) else (none)) = some r := h
 clear h
 obtain ⟨ji3, hji3⟩ : ∃ j_ : Int, (mn (l0.length : Int) a1) = j_ := ⟨_, rfl⟩
 replace H : (if 0 ≤ (ji3) then (if (ji3) ≤ (l0.length : Int) then ((some (l0.take ((ji3) : Int).toNat : List (S48))).bind fun y172 => (if ([] : List (S48)).length + y172.length < 4398046511104 then (some (([] : List (S48)) ++ y172)) else (none))) else (none)) else (none)) = some r := by first | (rw [hji3] at H; exact H) | (simp only [hji3] at H ⊢; exact H)
 have hji3_ : (if a1 < (l0.length : Int) then a1 else (l0.length : Int)) = ji3 := hji3
 by_cases c4 : 0 ≤ (ji3)
 ·rw [if_pos c4] at H
  have c4b0 := eq_true c4
  have c4b1 : decide (0 ≤ (ji3)) = true := decide_eq_true c4
  clear c4
  by_cases c5 : (ji3) ≤ (l0.length : Int)
  ·rw [if_pos c5] at H
   have c5b0 := eq_true c5
   have c5b1 : decide ((ji3) ≤ (l0.length : Int)) = true := decide_eq_true c5
   clear c5
   obtain ⟨y172, hy172⟩ : ∃ y_ : List (S48), y_ = (l0.take ((ji3) : Int).toNat) := ⟨_, rfl⟩
   replace H : (if ([] : List (S48)).length + y172.length < 4398046511104 then (some (([] : List (S48)) ++ y172)) else (none)) = some r := by first | (rw [hy172]; with_reducible exact H) | (have H2_ := (Option.bind_some _ _).symm.trans H; rw [hy172]; with_reducible exact H2_) | (have H2_ := (Option.bind_some _ _).symm.trans H; with_reducible exact H2_) | with_reducible exact H | (rw [hy172]; exact H) | exact H
   have Ny172 := Aside0.mk hy172
   clear hy172
   by_cases c6 : ([] : List (S48)).length + y172.length < 4398046511104
   ·rw [if_pos c6] at H
    have LMc6 := Aside0.mk c6
    clear c6
    obtain ⟨y176, hy176⟩ : ∃ y_ : List (S48), y_ = (([] : List (S48)) ++ y172) := ⟨_, rfl⟩
    replace H : (some y176) = some r := by first | (rw [hy176]; with_reducible exact H) | (have H2_ := (Option.bind_some _ _).symm.trans H; rw [hy176]; with_reducible exact H2_) | (have H2_ := (Option.bind_some _ _).symm.trans H; with_reducible exact H2_) | with_reducible exact H | (rw [hy176]; exact H) | exact H
    have Ny176 := Aside0.mk hy176
    clear hy176
    obtain rfl := Option.some.inj H
    have q7 : ((ji3) : Int) ≤ ((l0.length : Int) : Int) := of_decide_eq_true (by first | (with_reducible assumption) | assumption)
    obtain ⟨i07, hi07, _, hsz7, _⟩ := info_parts info48
    have hroom7 : l0.length ≤ c0 := HC0.out
    have hC7 : Kd.C k48 _ A0 l0.length l0 := HR0.out
    have hcut7 := cut_to (P := Try.prog) 22 48 .i64 Try.underlying22 hi07 A0 l0.length c0 (ji3) (of_decide_eq_true (by first | (with_reducible assumption) | assumption)) q7 hroom7
    have hr7 := Kd.C_take (m := ((ji3) : Int).toNat) hC7 (by omega)
    have hy7 : y172.length = ((ji3) : Int).toNat := (by rw [Ny172.out, List.length_take]; omega)
    rw [← Ny172.out] at hr7
    rw [← hy7] at hcut7
    have HR175 := Aside0.mk hr7
    have HC175 := Aside0.mk (show y172.length ≤ c0 from by omega)
    clear hr7 hC7 hroom7 hi07 hsz7
    have KY7 := Aside0.mk hy7
    clear hy7
    replace q7 := eq_true q7
    go_enter Try.func16, Try.ntmps16
    go_wp2_with (first | ((with_reducible refine gate_builtin (b := .append) (xs := #[.tmp 6, .tmp 12]) rfl ?_); at_builtin; refine Kd.R_append_rows k48 (w0 := w) w.heap.size rfl (.tmp 6) (.tmp 12) 22 48 (.agg #[(.int .i64 0), (.int .i64 0), (.int .i64 0), (.int .i64 0)]) 32 rfl Try.underlying22 info48 rfl (by decide) (by omega) (.slice none 0 0) ([] : List (S48)) y172 _ _ _ (fun _ => True) (fun _ => False) rfl rfl ?aO ?aR (fun _ _ h => h) (fun _ h => h.elim) ?aF ?aB ?aS ?aL ?_; (case aR => repeat (first | exact HR175.out | (with_reducible refine Kd.C_alloc ?_ _) | (with_reducible refine Kd.C_drewN ?_ _) | (with_reducible refine Kd.C_drew ?_))); (case aB => exact HBz); (case aF => exact (fun _ _ => trivial)); (case aO => exact ((Kd.R_nil _ _ _ _ (fun _ => True)))); (case aS => exact (below_size HBz)); (case aL => have := LMc6.out; omega); intro v177 w8 ho hb hg hat; rw [← Ny176.out] at ho; have n0_ := Aside0.mk (hb); have n1_ := Aside0.mk (ho); clear HB; have HB := n0_; have HO178 := n1_; clear n0_ n1_; clear ho hb hg hat))
    go_ret
    exact ⟨_, by first | rfl | (simp [errW_none, errW_some] <;> rfl) | (simp only [← hji3]; first | rfl | (simp [errW_none, errW_some] <;> rfl)) | (simp [*, errW_none, errW_some] <;> rfl), by (with_reducible repeat (first | apply Kd.R_alloc | apply Kd.R_drewN | apply Kd.R_drew)); exact HO178.out, HBz⟩
   ·rw [if_neg c6] at H
    exact absurd H (by simp)
  ·rw [if_neg c5] at H
   exact absurd H (by simp)
 ·rw [if_neg c4] at H
  exact absurd H (by simp)
end Go.Proofs.Ytplhfbkejngioaa.X
namespace Go.Proofs.Ytplhfbkejngioaa.X
open Go.RowKit Go.Proofs.YtplhfbkejngioaaW.PrintWords
def Kept (w W : World) (S : Nat → Prop) : Prop := w.heap.size ≤ W.heap.size ∧ ∀ k, k < w.heap.size → ¬ S k → W.heap[k]? = w.heap[k]?
theorem Kept.refl (w : World) (S : Nat → Prop) : Kept w w S := ⟨Nat.le_refl _, fun _ _ _ => rfl⟩
theorem Kept.drew {w W : World} {S : Nat → Prop} (h : Kept w W S) : Kept w W.drew S := h
theorem Kept.drewN {w W : World} {S : Nat → Prop} (h : Kept w W S) (m : Nat) : Kept w (W.drewN m) S := h
theorem Kept.alloc {w W : World} {S : Nat → Prop} (h : Kept w W S) (o : Obj) : Kept w (W.alloc o) S :=
 ⟨by have := h.1; simp; omega, fun k hk hn => (Below.heap_alloc W o k (by have := h.1; omega)).trans (h.2 k hk hn)⟩
theorem Kept.of_grown {w W W2 : World} {S : Nat → Prop} {row : Option Nat} (hg : W.grownBy W2 row) (h : Kept w W S) (hr : ∀ k, row = some k → S k ∨ w.heap.size ≤ k) : Kept w W2 S := by
 refine ⟨Nat.le_trans h.1 hg.size, fun k hk hn => (hg.block k (by have := h.1; omega) ?_).trans (h.2 k hk hn)⟩
 intro e
 rcases hr k e.symm with q | q
 ·exact hn q
 ·omega
theorem Kd.R_tight {k : IntKind} {e base : Nat} {w : World} {ok : Nat → Prop} {v : Value} {xs : List Int} (_hE : (Kd.int k).E = []) (h : (Kd.int k).R e w base ok v xs) : (Kd.int k).R e w base (fun b => some b = v.ownBlock) v xs := by
 obtain ⟨_, inner, ho, hr⟩ := h
 exact ⟨fun _ hb => hb.symm, inner, ho, hr⟩
end Go.Proofs.Ytplhfbkejngioaa.X
namespace Go.Proofs.Ytplhfbkejngioaa.X
open Go.RowKit Go.Proofs.YtplhfbkejngioaaW.PrintWords Go.Proofs.YtplhfbkejngioaaW.PrintLast Go.Proofs.Ytplhfbkejngioaa.S
attribute [local go_sem] max2_int min2_int max_two min_two
set_option linter.unusedVariables false
set_option linter.unusedSimpArgs false
def tickingref01_insert.l0 : Nat → List Int → Int → Int → Option (List Int)
 | 0, _, _, _ => none
 | k + 1, x0, x1, x5 => if x5 < (x0.length : Int) then (if 0 ≤ x5 then (if (rd x0 x5) < x1 then (tickingref01_insert.l0 k x0 x1 (wrap64 (x5 + 1))) else (if (rd x0 x5) = x1 then (some x0) else (if x5 ≤ (x0.length : Int) then ((some (x0.take (x5 : Int).toNat : List Int)).bind fun y216 => (if ([] : List Int).length + y216.length < 17592186044416 then ((some (([] : List Int) ++ y216 : List Int)).bind fun y220 => (if y220.length < 17592186044416 then ((some (y220 ++ [x1] : List Int)).bind fun y223 => ((some (x0.drop (x5 : Int).toNat : List Int)).bind fun y226 => (if y223.length + y226.length < 17592186044416 then (some (y223 ++ y226)) else (none)))) else (none))) else (none))) else (none)))) else (none)) else (if 0 ≤ x5 then (if x5 ≤ (x0.length : Int) then ((some (x0.take (x5 : Int).toNat : List Int)).bind fun y233 => (if ([] : List Int).length + y233.length < 17592186044416 then ((some (([] : List Int) ++ y233 : List Int)).bind fun y237 => (if y237.length < 17592186044416 then ((some (y237 ++ [x1] : List Int)).bind fun y240 => ((some (x0.drop (x5 : Int).toNat : List Int)).bind fun y243 => (if y240.length + y243.length < 17592186044416 then (some (y240 ++ y243)) else (none)))) else (none))) else (none))) else (none)) else (none))
def tickingref01_insert.f (k : Nat) (l0 : List Int) (a1 : Int) : Option (List Int) := tickingref01_insert.l0 k l0 a1 0
theorem tickingref01_insert.mono_l : ∀ k, (∀ y0 y1 y2, LeO (tickingref01_insert.l0 k y0 y1 y2) (tickingref01_insert.l0 (k + 1) y0 y1 y2))
 | 0 => fun _ _ _ r h => by simp [tickingref01_insert.l0] at h
 | k + 1 => by
  have ih0 := tickingref01_insert.mono_l k
  ·intro y0 y1 y2
   unfold tickingref01_insert.l0
   repeat' first
   | (with_reducible exact ih0 _ _ _)
   | (with_reducible exact LeO.refl _)
   | (with_reducible exact LeO.none _)
   | (with_reducible refine LeO.ite ?_ ?_)
   | (with_reducible refine LeO.bind ?_ (fun _ => ?_))
   | exact ih0 _ _ _
   | exact LeO.none _
   | refine LeO.ite ?_ ?_
   | refine LeO.bind ?_ (fun _ => ?_)
theorem tickingref01_insert.mono : ∀ a0 a1 k, LeO (tickingref01_insert.f k a0 a1) (tickingref01_insert.f (k + 1) a0 a1) := by
 intro a0 a1 k
 have ih0 := tickingref01_insert.mono_l k
 unfold tickingref01_insert.f
 repeat' first
   | (with_reducible exact ih0 _ _ _)
   | (with_reducible exact LeO.refl _)
   | (with_reducible exact LeO.none _)
   | (with_reducible refine LeO.ite ?_ ?_)
   | (with_reducible refine LeO.bind ?_ (fun _ => ?_))
   | exact ih0 _ _ _
   | exact LeO.none _
   | refine LeO.ite ?_ ?_
   | refine LeO.bind ?_ (fun _ => ?_)
set_option maxHeartbeats 8000000 in
set_option maxRecDepth 100000 in
theorem tickingref01_insert.calls (k : Nat) (P0_ : Nat → Prop) (u9000_ : Value) (l0 : List Int) (a1 : Int) (r : List Int) (w0 w : World) (hB : Below w0.heap.size w0 w) (ho0 : Kd.R (Kd.int .i64) 3 w w0.heap.size P0_ u9000_ l0) (h : tickingref01_insert.f k l0 a1 = some r) :
  Calls Try.prog 67 #[u9000_, .int .i64 a1] w fun e w' => ∃ v0_ : Value, e = .returned (v0_) ∧ Kd.R (Kd.int .i64) 3 w' w0.heap.size (fun k_ => (P0_ k_ ∨ w.heap.size ≤ k_)) v0_ r ∧ Below w0.heap.size w0 w' ∧ Kept w w' (fun k_ => P0_ k_) := by
 have HO0 := Aside0.mk (show Kd.R (Kd.int .i64) 3 w w0.heap.size (fun k_ => (P0_ k_ ∨ w.heap.size ≤ k_)) u9000_ l0 from Kd.R_mono ho0 (fun k_ hk => (.inl hk)))
 have HK := Aside0.mk (Kept.refl w (fun k_ => P0_ k_))
 have HW0 := Aside0.mk hB.size
 have HB := Aside0.mk hB
 clear hB
 have H : (tickingref01_insert.l0 k l0 a1 0) = some r := h
 clear h
 have H' := Aside0.mk H
 clear H
 go_enter Try.func67, Try.ntmps67
 go_wp2
 go_loopg [5] k (fun kq v5 w' => ∃ (x5_1 : Int), v5 = .int .i64 x5_1 ∧ Aside0 (tickingref01_insert.l0 kq l0 a1 x5_1 = some r) ∧ Aside0 (kq ≤ k) ∧ Aside0 (Kd.R (Kd.int .i64) 3 w' w0.heap.size (fun k_ => (P0_ k_ ∨ w.heap.size ≤ k_)) u9000_ l0) ∧ Aside0 (Kept w w' (fun k_ => P0_ k_)) ∧ Aside0 (Below w0.heap.size w0 w'))
 case atStart => exact ⟨(0), (by first | rfl | (simp; done) | (simp [*]; done)), H', ⟨Nat.le_refl _⟩, ⟨by (with_reducible repeat (first | apply Kd.R_alloc | apply Kd.R_drewN | apply Kd.R_drew)); exact HO0.out⟩, ⟨by repeat (first | (with_reducible first | exact HK.out | apply Kept.alloc | apply Kept.drewN | apply Kept.drew) | exact HK.out)⟩, ⟨HBz⟩⟩
 case round =>
  clear H'
  try clear p2
  obtain ⟨x5_1, rfl, HA, HK1, HO_0, HK, HB⟩ := hrel
  cases gk with
  | zero => exact absurd HA.out (by simp [tickingref01_insert.l0])
  | succ k1 =>
   have H := HA.out
   clear HA
   simp only [tickingref01_insert.l0] at H
   by_cases c3 : x5_1 < (l0.length : Int)
   ·rw [if_pos c3] at H
    have c3b0 : decide (x5_1 < (l0.length : Int)) = true := decide_eq_true c3
    clear c3
    by_cases c4 : 0 ≤ x5_1
    ·rw [if_pos c4] at H
     have c4b0 : decide (0 ≤ x5_1) = true := decide_eq_true c4
     clear c4
     by_cases c5 : (rd l0 x5_1) < a1
     ·rw [if_pos c5] at H
      have c5b0 : decide ((rd l0 x5_1) < a1) = true := decide_eq_true c5
      clear c5
      have H' := Aside0.mk H
      clear H
      obtain ⟨Ao6, co6, eo6⟩ := Kd.R_slice HO_0.out
      subst eo6
      have p214 : 0 ≤ (x5_1 : Int) := of_decide_eq_true (by first | (with_reducible assumption) | assumption)
      have q214 : x5_1 < (l0.length : Int) := of_decide_eq_true (by first | (with_reducible assumption) | assumption)
      obtain ⟨ad214, e214, hx214_0⟩ := Kd.at_int (Kd.R_reads' HO_0.out).2.2 x5_1 p214 q214
      cases e214
      replace p214 := eq_true p214
      replace q214 := eq_true q214
      go_wp2
      go_roundg k1
      case measure => have := HK1.out; omega
      case rel => exact ⟨(wrap64 (x5_1 + 1)), (by first | rfl | (simp; done) | (simp [*]; done)), H', ⟨by have := HK1.out; omega⟩, ⟨by (with_reducible repeat (first | apply Kd.R_alloc | apply Kd.R_drewN | apply Kd.R_drew)); exact HO_0.out⟩, ⟨by repeat (first | (with_reducible first | exact HK.out | apply Kept.alloc | apply Kept.drewN | apply Kept.drew) | exact HK.out)⟩, ⟨HBz⟩⟩
     ·rw [if_neg c5] at H
      have c5b0 : decide ((rd l0 x5_1) < a1) = false := decide_eq_false c5
      clear c5
      by_cases c7 : (rd l0 x5_1) = a1
      ·rw [if_pos c7] at H
       have c7b0 : ((rd l0 x5_1) == a1) = true := beq_iff_eq.mpr c7
       have c7b1 : ((rd l0 x5_1) != a1) = false := bne_eq_false_iff_eq.mpr c7
       clear c7
       obtain rfl := Option.some.inj H
       obtain ⟨Ao8, co8, eo8⟩ := Kd.R_slice HO_0.out
       subst eo8
       have p214 : 0 ≤ (x5_1 : Int) := of_decide_eq_true (by first | (with_reducible assumption) | assumption)
       have q214 : x5_1 < (l0.length : Int) := of_decide_eq_true (by first | (with_reducible assumption) | assumption)
       obtain ⟨ad214, e214, hx214_0⟩ := Kd.at_int (Kd.R_reads' HO_0.out).2.2 x5_1 p214 q214
       cases e214
       replace p214 := eq_true p214
       replace q214 := eq_true q214
       have p215 : 0 ≤ (x5_1 : Int) := of_decide_eq_true (by first | (with_reducible assumption) | assumption)
       have q215 : x5_1 < (l0.length : Int) := of_decide_eq_true (by first | (with_reducible assumption) | assumption)
       obtain ⟨ad215, e215, hx215_0⟩ := Kd.at_int (Kd.R_reads' HO_0.out).2.2 x5_1 p215 q215
       obtain rfl : ad214 = ad215 := (by injection e215)
       replace p215 := eq_true p215
       replace q215 := eq_true q215
       go_wp2
       go_ret
       exact ⟨_, by first | rfl | (simp [errW_none, errW_some] <;> rfl) | (simp [*, errW_none, errW_some] <;> rfl), by (with_reducible repeat (first | apply Kd.R_alloc | apply Kd.R_drewN | apply Kd.R_drew)); exact HO_0.out, HBz, by repeat (first | (with_reducible first | exact HK.out | apply Kept.alloc | apply Kept.drewN | apply Kept.drew) | exact HK.out)⟩
      ·rw [if_neg c7] at H
       have c7b0 : ((rd l0 x5_1) == a1) = false := beq_eq_false_iff_ne.mpr c7
       have c7b1 : ((rd l0 x5_1) != a1) = true := bne_iff_ne.mpr c7
       have c9b0 := eq_true (of_decide_eq_true (by first | (with_reducible assumption) | assumption) : 0 ≤ x5_1)
       by_cases c10 : x5_1 ≤ (l0.length : Int)
       ·rw [if_pos c10] at H
        have c10b0 := eq_true c10
        have c10b1 : decide (x5_1 ≤ (l0.length : Int)) = true := decide_eq_true c10
        clear c10
        obtain ⟨y216, hy216⟩ : ∃ y_ : List Int, y_ = (l0.take (x5_1 : Int).toNat) := ⟨_, rfl⟩
        replace H : (if ([] : List Int).length + y216.length < 17592186044416 then ((some (([] : List Int) ++ y216 : List Int)).bind fun y220 => (if y220.length < 17592186044416 then ((some (y220 ++ [a1] : List Int)).bind fun y223 => ((some (l0.drop (x5_1 : Int).toNat : List Int)).bind fun y226 => (if y223.length + y226.length < 17592186044416 then (some (y223 ++ y226)) else (none)))) else (none))) else (none)) = some r := by first | (rw [hy216]; with_reducible exact H) | (have H2_ := (Option.bind_some _ _).symm.trans H; rw [hy216]; with_reducible exact H2_) | (have H2_ := (Option.bind_some _ _).symm.trans H; with_reducible exact H2_) | with_reducible exact H | (rw [hy216]; exact H) | exact H
        have Ny216 := Aside0.mk hy216
        clear hy216
        by_cases c11 : ([] : List Int).length + y216.length < 17592186044416
        ·rw [if_pos c11] at H
         have LMc11 := Aside0.mk c11
         clear c11
         obtain ⟨y220, hy220⟩ : ∃ y_ : List Int, y_ = (([] : List Int) ++ y216) := ⟨_, rfl⟩
         replace H : (if y220.length < 17592186044416 then ((some (y220 ++ [a1] : List Int)).bind fun y223 => ((some (l0.drop (x5_1 : Int).toNat : List Int)).bind fun y226 => (if y223.length + y226.length < 17592186044416 then (some (y223 ++ y226)) else (none)))) else (none)) = some r := by first | (rw [hy220]; with_reducible exact H) | (have H2_ := (Option.bind_some _ _).symm.trans H; rw [hy220]; with_reducible exact H2_) | (have H2_ := (Option.bind_some _ _).symm.trans H; with_reducible exact H2_) | with_reducible exact H | (rw [hy220]; exact H) | exact H
         have Ny220 := Aside0.mk hy220
         clear hy220
         by_cases c12 : y220.length < 17592186044416
         ·rw [if_pos c12] at H
          have LMc12 := Aside0.mk c12
          clear c12
          obtain ⟨y223, hy223⟩ : ∃ y_ : List Int, y_ = (y220 ++ [a1]) := ⟨_, rfl⟩
          replace H : ((some (l0.drop (x5_1 : Int).toNat : List Int)).bind fun y226 => (if y223.length + y226.length < 17592186044416 then (some (y223 ++ y226)) else (none))) = some r := by first | (rw [hy223]; with_reducible exact H) | (have H2_ := (Option.bind_some _ _).symm.trans H; rw [hy223]; with_reducible exact H2_) | (have H2_ := (Option.bind_some _ _).symm.trans H; with_reducible exact H2_) | with_reducible exact H | (rw [hy223]; exact H) | exact H
          have Ny223 := Aside0.mk hy223
          clear hy223
          have c13b0 := eq_true (of_decide_eq_true (by first | (with_reducible assumption) | assumption) : 0 ≤ x5_1)
          have c14b0 := eq_true (of_decide_eq_true (by first | (with_reducible assumption) | assumption) : x5_1 ≤ (l0.length : Int))
          obtain ⟨y226, hy226⟩ : ∃ y_ : List Int, y_ = (l0.drop (x5_1 : Int).toNat) := ⟨_, rfl⟩
          replace H : (if y223.length + y226.length < 17592186044416 then (some (y223 ++ y226)) else (none)) = some r := by first | (rw [hy226]; with_reducible exact H) | (have H2_ := (Option.bind_some _ _).symm.trans H; rw [hy226]; with_reducible exact H2_) | (have H2_ := (Option.bind_some _ _).symm.trans H; with_reducible exact H2_) | with_reducible exact H | (rw [hy226]; exact H) | exact H
          have Ny226 := Aside0.mk hy226
          clear hy226
          by_cases c15 : y223.length + y226.length < 17592186044416
          ·rw [if_pos c15] at H
           have LMc15 := Aside0.mk c15
           clear c15
           obtain ⟨y230, hy230⟩ : ∃ y_ : List Int, y_ = (y223 ++ y226) := ⟨_, rfl⟩
           replace H : (some y230) = some r := by first | (rw [hy230]; with_reducible exact H) | (have H2_ := (Option.bind_some _ _).symm.trans H; rw [hy230]; with_reducible exact H2_) | (have H2_ := (Option.bind_some _ _).symm.trans H; with_reducible exact H2_) | with_reducible exact H | (rw [hy230]; exact H) | exact H
           have Ny230 := Aside0.mk hy230
           clear hy230
           obtain rfl := Option.some.inj H
           obtain ⟨Ao16, co16, eo16⟩ := Kd.R_slice HO_0.out
           subst eo16
           have p214 : 0 ≤ (x5_1 : Int) := of_decide_eq_true (by first | (with_reducible assumption) | assumption)
           have q214 : x5_1 < (l0.length : Int) := of_decide_eq_true (by first | (with_reducible assumption) | assumption)
           obtain ⟨ad214, e214, hx214_0⟩ := Kd.at_int (Kd.R_reads' HO_0.out).2.2 x5_1 p214 q214
           cases e214
           replace p214 := eq_true p214
           replace q214 := eq_true q214
           have p215 : 0 ≤ (x5_1 : Int) := of_decide_eq_true (by first | (with_reducible assumption) | assumption)
           have q215 : x5_1 < (l0.length : Int) := of_decide_eq_true (by first | (with_reducible assumption) | assumption)
           obtain ⟨ad215, e215, hx215_0⟩ := Kd.at_int (Kd.R_reads' HO_0.out).2.2 x5_1 p215 q215
           obtain rfl : ad214 = ad215 := (by injection e215)
           replace p215 := eq_true p215
           replace q215 := eq_true q215
           have q17 : (x5_1 : Int) ≤ ((l0.length : Int) : Int) := of_decide_eq_true (by first | (with_reducible assumption) | assumption)
           obtain ⟨i017, hi017, _, hsz17, _⟩ := info_parts info3
           have hroom17 : l0.length ≤ co16 := (Kd.R_reads' HO_0.out).2.1
           have hC17 : Kd.C (Kd.int .i64) _ (some ad214) l0.length l0 := (Kd.R_reads' HO_0.out).2.2
           have hcut17 := cut_to (P := Try.prog) 41 3 .i64 Try.underlying41 hi017 (some ad214) l0.length co16 x5_1 (of_decide_eq_true (by first | (with_reducible assumption) | assumption)) q17 hroom17
           have hr17 := Kd.C_take (m := (x5_1 : Int).toNat) hC17 (by omega)
           have hy17 : y216.length = (x5_1 : Int).toNat := (by rw [Ny216.out, List.length_take]; omega)
           rw [← Ny216.out] at hr17
           rw [← hy17] at hcut17
           have HR219 := Aside0.mk hr17
           have HC219 := Aside0.mk (show y216.length ≤ co16 from by omega)
           clear hr17 hC17 hroom17 hi017 hsz17
           have KY17 := Aside0.mk hy17
           clear hy17
           have KL17 := Aside0.mk (show (x5_1 : Int).toNat ≤ l0.length from by omega)
           replace q17 := eq_true q17
           go_wp2_with (first | ((with_reducible refine gate_builtin (b := .append) (xs := #[.tmp 34, .tmp 37]) rfl ?_); at_builtin; refine Kd.R_append_rows (Kd.int .i64) (w0 := w0) w0.heap.size rfl (.tmp 34) (.tmp 37) 41 3 (.int .i64 0) 8 rfl Try.underlying41 info3 rfl (by decide) (by omega) (.slice none 0 0) ([] : List Int) y216 _ _ _ (fun k_ => (P0_ k_ ∨ w.heap.size ≤ k_) ∧ some k_ ≠ (.slice (some ad214) l0.length co16 : Value).ownBlock) (fun _ => False) rfl rfl ?aO ?aR (fun _ _ h => h) (fun _ h => h.elim) ?aF ?aB ?aS ?aL ?_; (case aR => repeat (first | exact (by repeat (first | (with_reducible exact HR219.out) | (with_reducible refine Kd.C_alloc ?_ _) | (with_reducible refine Kd.C_drewN ?_ _) | (with_reducible refine Kd.C_drew ?_) | exact HR219.out)) | (with_reducible refine Kd.C_alloc ?_ _) | (with_reducible refine Kd.C_drewN ?_ _) | (with_reducible refine Kd.C_drew ?_))); (case aB => exact HBz); (case aF => exact (fun k_ hk => ⟨(.inr (Nat.le_trans (by first | exact HK.out.1 | exact (show Kept w _ (fun k_ => P0_ k_) from by repeat (first | (with_reducible first | exact HK.out | apply Kept.alloc | apply Kept.drewN | apply Kept.drew) | exact HK.out)).1) hk)), Kd.fresh' (Kd.R_lt (by (with_reducible repeat (first | apply Kd.R_alloc | apply Kd.R_drewN | apply Kd.R_drew)); exact HO_0.out)) k_ hk⟩)); (case aO => exact ((Kd.R_nil _ _ _ _ (fun k_ => (P0_ k_ ∨ w.heap.size ≤ k_) ∧ some k_ ≠ (.slice (some ad214) l0.length co16 : Value).ownBlock)))); (case aS => exact (below_size HBz)); (case aL => have := LMc11.out; omega); intro v221 w18 ho hb hg hat; rw [← Ny220.out] at ho; have n0_ := Aside0.mk (Kd.R_after (Kd.R_apart_nil (by (with_reducible repeat (first | apply Kd.R_alloc | apply Kd.R_drewN | apply Kd.R_drew)); exact HO_0.out)) hg hat); have n1_ := Aside0.mk (hb); have n2_ := Aside0.mk (Kept.of_grown (S := (fun k_ => P0_ k_)) hg (by repeat (first | (with_reducible first | exact HK.out | apply Kept.alloc | apply Kept.drewN | apply Kept.drew) | exact HK.out)) (fun k_ e_ => by simp [Value.ownBlock] at e_)); have n3_ := Aside0.mk ((show Kd.C (Kd.int .i64) w18 (some ad214) y216.length y216 from by rw [Ny216.out]; exact Kd.C_take (m := (x5_1 : Int).toNat) ((Kd.R_reads' (Kd.R_after (Kd.R_apart_nil (by (with_reducible repeat (first | apply Kd.R_alloc | apply Kd.R_drewN | apply Kd.R_drew)); exact HO_0.out)) hg hat)).2.2) KL17.out)); have n4_ := Aside0.mk (ho); clear HO_0; clear HB; clear HK; clear HR219; have HO_0 := n0_; have HB := n1_; have HK := n2_; have HR219 := n3_; have HO222 := n4_; clear n0_ n1_ n2_ n3_ n4_; clear ho hb hg hat) | ((with_reducible refine gate_builtin (b := .append) (xs := #[.tmp 39, .tmp 41]) rfl ?_); at_builtin; refine Kd.R_append (Kd.int .i64) (w0 := w0) w0.heap.size rfl (.tmp 39) (.tmp 41) 41 3 (.int .i64 0) 8 rfl Try.underlying41 info3 rfl (by decide) (by omega) v221 y220 a1 [.int .i64 a1] (fun k_ => (P0_ k_ ∨ w.heap.size ≤ k_) ∧ some k_ ≠ (.slice (some ad214) l0.length co16 : Value).ownBlock) (fun _ => False) rfl rfl ?aP (fun _ hk => hk.elim) ?aF ?aO ?aB ?aS ?aL ?_; (case aP => exact rfl); (case aB => exact HBz); (case aF => exact (fun k_ hk => ⟨(.inr (Nat.le_trans (by first | exact HK.out.1 | exact (show Kept w _ (fun k_ => P0_ k_) from by repeat (first | (with_reducible first | exact HK.out | apply Kept.alloc | apply Kept.drewN | apply Kept.drew) | exact HK.out)).1) hk)), Kd.fresh' (Kd.R_lt (by (with_reducible repeat (first | apply Kd.R_alloc | apply Kd.R_drewN | apply Kd.R_drew)); exact HO_0.out)) k_ hk⟩)); (case aO => exact (by (with_reducible repeat (first | apply Kd.R_alloc | apply Kd.R_drewN | apply Kd.R_drew)); exact HO222.out)); (case aS => exact (below_size HBz)); (case aL => have := LMc12.out; omega); intro v224 w19 ho hb hg hat; rw [← Ny223.out] at ho; have n0_ := Aside0.mk (Kd.R_after (ok := (fun k_ => (P0_ k_ ∨ w.heap.size ≤ k_))) (by (with_reducible repeat (first | apply Kd.R_alloc | apply Kd.R_drewN | apply Kd.R_drew)); exact HO_0.out) hg hat); have n1_ := Aside0.mk (hb); have n2_ := Aside0.mk (Kept.of_grown (S := (fun k_ => P0_ k_)) hg (by repeat (first | (with_reducible first | exact HK.out | apply Kept.alloc | apply Kept.drewN | apply Kept.drew) | exact HK.out)) (fun k_ e_ => (HO222.out.1 k_ e_).1)); have n3_ := Aside0.mk ((show Kd.C (Kd.int .i64) w19 (some ad214) y216.length y216 from by rw [Ny216.out]; exact Kd.C_take (m := (x5_1 : Int).toNat) ((Kd.R_reads' (Kd.R_after (ok := (fun k_ => (P0_ k_ ∨ w.heap.size ≤ k_))) (by (with_reducible repeat (first | apply Kd.R_alloc | apply Kd.R_drewN | apply Kd.R_drew)); exact HO_0.out) hg hat)).2.2) KL17.out)); have n4_ := Aside0.mk (ho); clear HO_0; clear HB; clear HK; clear HR219; clear HO222; have HO_0 := n0_; have HB := n1_; have HK := n2_; have HR219 := n3_; have HO225 := n4_; clear n0_ n1_ n2_ n3_ n4_; clear ho hb hg hat; have q20 : (x5_1 : Int) ≤ ((l0.length : Int) : Int) := of_decide_eq_true (by first | (with_reducible assumption) | assumption); obtain ⟨i020, hi020, _, hsz20, _⟩ := info_parts info3; have hroom20 : l0.length ≤ co16 := (Kd.R_reads' HO_0.out).2.1; have hC20 : Kd.C (Kd.int .i64) _ (some ad214) l0.length l0 := (Kd.R_reads' HO_0.out).2.2; have q020 : (0 : Int) ≤ (x5_1 : Int) := of_decide_eq_true (by first | (with_reducible assumption) | assumption); have hcut20 := cut_from (P := Try.prog) 41 3 .i64 Try.underlying41 hi020 1 hsz20 (some ad214) l0.length co16 x5_1 q020 q20; have hr20 := Kd.C_drop (m := (x5_1 : Int).toNat) (c := co16) hC20 (by omega) hroom20; obtain ⟨A20, hA20⟩ : ∃ A1, A1 = (if co16 = (x5_1 : Int).toNat then (some ad214) else ((some ad214) : Option Addr).map (·.add ((x5_1 : Int).toNat * 1))) := ⟨_, rfl⟩; obtain ⟨c20, hc20⟩ : ∃ c1, c1 = co16 - (x5_1 : Int).toNat := ⟨_, rfl⟩; have hy20 : y226.length = l0.length - (x5_1 : Int).toNat := (by rw [Ny226.out, List.length_drop] <;> omega); rw [show (l0).drop (x5_1 : Int).toNat = y226 from Ny226.out.symm] at hr20; replace hr20 : Kd.C (Kd.int .i64) _ A20 y226.length y226 := (by rw [hA20]; exact hr20); rw [← hy20, ← hA20, ← hc20] at hcut20; have HR229 := Aside0.mk hr20; have HC229 := Aside0.mk (show y226.length ≤ c20 from by rw [hy20, hc20]; exact Nat.sub_le_sub_right hroom20 _); clear hr20 hC20 hroom20 hi020 hsz20 hc20; have KY20 := Aside0.mk hy20; have KA20 := Aside0.mk hA20; clear hy20 hA20; have KL20 := Aside0.mk (show (x5_1 : Int).toNat ≤ l0.length from by omega); replace q20 := eq_true q20) | ((with_reducible refine gate_builtin (b := .append) (xs := #[.tmp 43, .tmp 46]) rfl ?_); at_builtin; refine Kd.R_append_rows (Kd.int .i64) (w0 := w0) w0.heap.size rfl (.tmp 43) (.tmp 46) 41 3 (.int .i64 0) 8 rfl Try.underlying41 info3 rfl (by decide) (by omega) v224 y223 y226 _ _ _ (fun k_ => (P0_ k_ ∨ w.heap.size ≤ k_) ∧ some k_ ≠ (.slice (some ad214) l0.length co16 : Value).ownBlock) (fun _ => False) rfl rfl ?aO ?aR (fun _ _ h => h) (fun _ h => h.elim) ?aF ?aB ?aS ?aL ?_; (case aR => repeat (first | exact (by repeat (first | (with_reducible exact HR229.out) | (with_reducible refine Kd.C_alloc ?_ _) | (with_reducible refine Kd.C_drewN ?_ _) | (with_reducible refine Kd.C_drew ?_) | exact HR229.out)) | (with_reducible refine Kd.C_alloc ?_ _) | (with_reducible refine Kd.C_drewN ?_ _) | (with_reducible refine Kd.C_drew ?_))); (case aB => exact HBz); (case aF => exact (fun k_ hk => ⟨(.inr (Nat.le_trans (by first | exact HK.out.1 | exact (show Kept w _ (fun k_ => P0_ k_) from by repeat (first | (with_reducible first | exact HK.out | apply Kept.alloc | apply Kept.drewN | apply Kept.drew) | exact HK.out)).1) hk)), Kd.fresh' (Kd.R_lt (by (with_reducible repeat (first | apply Kd.R_alloc | apply Kd.R_drewN | apply Kd.R_drew)); exact HO_0.out)) k_ hk⟩)); (case aO => exact (by (with_reducible repeat (first | apply Kd.R_alloc | apply Kd.R_drewN | apply Kd.R_drew)); exact HO225.out)); (case aS => exact (below_size HBz)); (case aL => have := LMc15.out; omega); intro v231 w21 ho hb hg hat; rw [← Ny230.out] at ho; have n0_ := Aside0.mk (Kd.R_after (ok := (fun k_ => (P0_ k_ ∨ w.heap.size ≤ k_))) (by (with_reducible repeat (first | apply Kd.R_alloc | apply Kd.R_drewN | apply Kd.R_drew)); exact HO_0.out) hg hat); have n1_ := Aside0.mk (hb); have n2_ := Aside0.mk (Kept.of_grown (S := (fun k_ => P0_ k_)) hg (by repeat (first | (with_reducible first | exact HK.out | apply Kept.alloc | apply Kept.drewN | apply Kept.drew) | exact HK.out)) (fun k_ e_ => (HO225.out.1 k_ e_).1)); have n3_ := Aside0.mk ((show Kd.C (Kd.int .i64) w21 (some ad214) y216.length y216 from by rw [Ny216.out]; exact Kd.C_take (m := (x5_1 : Int).toNat) ((Kd.R_reads' (Kd.R_after (ok := (fun k_ => (P0_ k_ ∨ w.heap.size ≤ k_))) (by (with_reducible repeat (first | apply Kd.R_alloc | apply Kd.R_drewN | apply Kd.R_drew)); exact HO_0.out) hg hat)).2.2) KL17.out)); have n4_ := Aside0.mk ((show Kd.C (Kd.int .i64) w21 A20 y226.length y226 from by rw [Ny226.out, KA20.out]; exact Kd.C_drop (m := (x5_1 : Int).toNat) (c := co16) ((Kd.R_reads' (Kd.R_after (ok := (fun k_ => (P0_ k_ ∨ w.heap.size ≤ k_))) (by (with_reducible repeat (first | apply Kd.R_alloc | apply Kd.R_drewN | apply Kd.R_drew)); exact HO_0.out) hg hat)).2.2) KL20.out ((Kd.R_reads' (Kd.R_after (ok := (fun k_ => (P0_ k_ ∨ w.heap.size ≤ k_))) (by (with_reducible repeat (first | apply Kd.R_alloc | apply Kd.R_drewN | apply Kd.R_drew)); exact HO_0.out) hg hat)).2.1))); have n5_ := Aside0.mk (ho); clear HO_0; clear HB; clear HK; clear HR219; clear HR229; clear HO225; have HO_0 := n0_; have HB := n1_; have HK := n2_; have HR219 := n3_; have HR229 := n4_; have HO232 := n5_; clear n0_ n1_ n2_ n3_ n4_ n5_; clear ho hb hg hat))
           go_ret
           exact ⟨_, by first | rfl | (simp [errW_none, errW_some] <;> rfl) | (simp [*, errW_none, errW_some] <;> rfl), by (with_reducible repeat (first | apply Kd.R_alloc | apply Kd.R_drewN | apply Kd.R_drew)); exact Kd.R_mono HO232.out (fun _ hk => hk.1), HBz, by repeat (first | (with_reducible first | exact HK.out | apply Kept.alloc | apply Kept.drewN | apply Kept.drew) | exact HK.out)⟩
          ·rw [if_neg c15] at H
           exact absurd H (by simp)
         ·rw [if_neg c12] at H
          exact absurd H (by simp)
        ·rw [if_neg c11] at H
         exact absurd H (by simp)
       ·rw [if_neg c10] at H
        exact absurd H (by simp)
    ·rw [if_neg c4] at H
     exact absurd H (by simp)
   ·rw [if_neg c3] at H
    have c3b0 : decide (x5_1 < (l0.length : Int)) = false := decide_eq_false c3
    clear c3
    by_cases c22 : 0 ≤ x5_1
    ·rw [if_pos c22] at H
     have c22b0 := eq_true c22
     have c22b1 : decide (0 ≤ x5_1) = true := decide_eq_true c22
     clear c22
     by_cases c23 : x5_1 ≤ (l0.length : Int)
     ·rw [if_pos c23] at H
      have c23b0 := eq_true c23
      have c23b1 : decide (x5_1 ≤ (l0.length : Int)) = true := decide_eq_true c23
      clear c23
      obtain ⟨y233, hy233⟩ : ∃ y_ : List Int, y_ = (l0.take (x5_1 : Int).toNat) := ⟨_, rfl⟩
      replace H : (if ([] : List Int).length + y233.length < 17592186044416 then ((some (([] : List Int) ++ y233 : List Int)).bind fun y237 => (if y237.length < 17592186044416 then ((some (y237 ++ [a1] : List Int)).bind fun y240 => ((some (l0.drop (x5_1 : Int).toNat : List Int)).bind fun y243 => (if y240.length + y243.length < 17592186044416 then (some (y240 ++ y243)) else (none)))) else (none))) else (none)) = some r := by first | (rw [hy233]; with_reducible exact H) | (have H2_ := (Option.bind_some _ _).symm.trans H; rw [hy233]; with_reducible exact H2_) | (have H2_ := (Option.bind_some _ _).symm.trans H; with_reducible exact H2_) | with_reducible exact H | (rw [hy233]; exact H) | exact H
      have Ny233 := Aside0.mk hy233
      clear hy233
      by_cases c24 : ([] : List Int).length + y233.length < 17592186044416
      ·rw [if_pos c24] at H
       have LMc24 := Aside0.mk c24
       clear c24
       obtain ⟨y237, hy237⟩ : ∃ y_ : List Int, y_ = (([] : List Int) ++ y233) := ⟨_, rfl⟩
       replace H : (if y237.length < 17592186044416 then ((some (y237 ++ [a1] : List Int)).bind fun y240 => ((some (l0.drop (x5_1 : Int).toNat : List Int)).bind fun y243 => (if y240.length + y243.length < 17592186044416 then (some (y240 ++ y243)) else (none)))) else (none)) = some r := by first | (rw [hy237]; with_reducible exact H) | (have H2_ := (Option.bind_some _ _).symm.trans H; rw [hy237]; with_reducible exact H2_) | (have H2_ := (Option.bind_some _ _).symm.trans H; with_reducible exact H2_) | with_reducible exact H | (rw [hy237]; exact H) | exact H
       have Ny237 := Aside0.mk hy237
       clear hy237
       by_cases c25 : y237.length < 17592186044416
       ·rw [if_pos c25] at H
        have LMc25 := Aside0.mk c25
        clear c25
        obtain ⟨y240, hy240⟩ : ∃ y_ : List Int, y_ = (y237 ++ [a1]) := ⟨_, rfl⟩
        replace H : ((some (l0.drop (x5_1 : Int).toNat : List Int)).bind fun y243 => (if y240.length + y243.length < 17592186044416 then (some (y240 ++ y243)) else (none))) = some r := by first | (rw [hy240]; with_reducible exact H) | (have H2_ := (Option.bind_some _ _).symm.trans H; rw [hy240]; with_reducible exact H2_) | (have H2_ := (Option.bind_some _ _).symm.trans H; with_reducible exact H2_) | with_reducible exact H | (rw [hy240]; exact H) | exact H
        have Ny240 := Aside0.mk hy240
        clear hy240
        have c26b0 := eq_true (of_decide_eq_true (by first | (with_reducible assumption) | assumption) : 0 ≤ x5_1)
        have c27b0 := eq_true (of_decide_eq_true (by first | (with_reducible assumption) | assumption) : x5_1 ≤ (l0.length : Int))
        obtain ⟨y243, hy243⟩ : ∃ y_ : List Int, y_ = (l0.drop (x5_1 : Int).toNat) := ⟨_, rfl⟩
        replace H : (if y240.length + y243.length < 17592186044416 then (some (y240 ++ y243)) else (none)) = some r := by first | (rw [hy243]; with_reducible exact H) | (have H2_ := (Option.bind_some _ _).symm.trans H; rw [hy243]; with_reducible exact H2_) | (have H2_ := (Option.bind_some _ _).symm.trans H; with_reducible exact H2_) | with_reducible exact H | (rw [hy243]; exact H) | exact H
        have Ny243 := Aside0.mk hy243
        clear hy243
        by_cases c28 : y240.length + y243.length < 17592186044416
        ·rw [if_pos c28] at H
         have LMc28 := Aside0.mk c28
         clear c28
         obtain ⟨y247, hy247⟩ : ∃ y_ : List Int, y_ = (y240 ++ y243) := ⟨_, rfl⟩
         replace H : (some y247) = some r := by first | (rw [hy247]; with_reducible exact H) | (have H2_ := (Option.bind_some _ _).symm.trans H; rw [hy247]; with_reducible exact H2_) | (have H2_ := (Option.bind_some _ _).symm.trans H; with_reducible exact H2_) | with_reducible exact H | (rw [hy247]; exact H) | exact H
         have Ny247 := Aside0.mk hy247
         clear hy247
         obtain rfl := Option.some.inj H
         obtain ⟨Ao29, co29, eo29⟩ := Kd.R_slice HO_0.out
         subst eo29
         have q30 : (x5_1 : Int) ≤ ((l0.length : Int) : Int) := of_decide_eq_true (by first | (with_reducible assumption) | assumption)
         obtain ⟨i030, hi030, _, hsz30, _⟩ := info_parts info3
         have hroom30 : l0.length ≤ co29 := (Kd.R_reads' HO_0.out).2.1
         have hC30 : Kd.C (Kd.int .i64) _ Ao29 l0.length l0 := (Kd.R_reads' HO_0.out).2.2
         have hcut30 := cut_to (P := Try.prog) 41 3 .i64 Try.underlying41 hi030 Ao29 l0.length co29 x5_1 (of_decide_eq_true (by first | (with_reducible assumption) | assumption)) q30 hroom30
         have hr30 := Kd.C_take (m := (x5_1 : Int).toNat) hC30 (by omega)
         have hy30 : y233.length = (x5_1 : Int).toNat := (by rw [Ny233.out, List.length_take]; omega)
         rw [← Ny233.out] at hr30
         rw [← hy30] at hcut30
         have HR236 := Aside0.mk hr30
         have HC236 := Aside0.mk (show y233.length ≤ co29 from by omega)
         clear hr30 hC30 hroom30 hi030 hsz30
         have KY30 := Aside0.mk hy30
         clear hy30
         have KL30 := Aside0.mk (show (x5_1 : Int).toNat ≤ l0.length from by omega)
         replace q30 := eq_true q30
         go_wp2_with (first | ((with_reducible refine gate_builtin (b := .append) (xs := #[.tmp 34, .tmp 37]) rfl ?_); at_builtin; refine Kd.R_append_rows (Kd.int .i64) (w0 := w0) w0.heap.size rfl (.tmp 34) (.tmp 37) 41 3 (.int .i64 0) 8 rfl Try.underlying41 info3 rfl (by decide) (by omega) (.slice none 0 0) ([] : List Int) y233 _ _ _ (fun k_ => (P0_ k_ ∨ w.heap.size ≤ k_) ∧ some k_ ≠ (.slice Ao29 l0.length co29 : Value).ownBlock) (fun _ => False) rfl rfl ?aO ?aR (fun _ _ h => h) (fun _ h => h.elim) ?aF ?aB ?aS ?aL ?_; (case aR => repeat (first | exact (by repeat (first | (with_reducible exact HR236.out) | (with_reducible refine Kd.C_alloc ?_ _) | (with_reducible refine Kd.C_drewN ?_ _) | (with_reducible refine Kd.C_drew ?_) | exact HR236.out)) | (with_reducible refine Kd.C_alloc ?_ _) | (with_reducible refine Kd.C_drewN ?_ _) | (with_reducible refine Kd.C_drew ?_))); (case aB => exact HBz); (case aF => exact (fun k_ hk => ⟨(.inr (Nat.le_trans (by first | exact HK.out.1 | exact (show Kept w _ (fun k_ => P0_ k_) from by repeat (first | (with_reducible first | exact HK.out | apply Kept.alloc | apply Kept.drewN | apply Kept.drew) | exact HK.out)).1) hk)), Kd.fresh' (Kd.R_lt (by (with_reducible repeat (first | apply Kd.R_alloc | apply Kd.R_drewN | apply Kd.R_drew)); exact HO_0.out)) k_ hk⟩)); (case aO => exact ((Kd.R_nil _ _ _ _ (fun k_ => (P0_ k_ ∨ w.heap.size ≤ k_) ∧ some k_ ≠ (.slice Ao29 l0.length co29 : Value).ownBlock)))); (case aS => exact (below_size HBz)); (case aL => have := LMc24.out; omega); intro v238 w31 ho hb hg hat; rw [← Ny237.out] at ho; have n0_ := Aside0.mk (Kd.R_after (Kd.R_apart_nil (by (with_reducible repeat (first | apply Kd.R_alloc | apply Kd.R_drewN | apply Kd.R_drew)); exact HO_0.out)) hg hat); have n1_ := Aside0.mk (hb); have n2_ := Aside0.mk (Kept.of_grown (S := (fun k_ => P0_ k_)) hg (by repeat (first | (with_reducible first | exact HK.out | apply Kept.alloc | apply Kept.drewN | apply Kept.drew) | exact HK.out)) (fun k_ e_ => by simp [Value.ownBlock] at e_)); have n3_ := Aside0.mk ((show Kd.C (Kd.int .i64) w31 Ao29 y233.length y233 from by rw [Ny233.out]; exact Kd.C_take (m := (x5_1 : Int).toNat) ((Kd.R_reads' (Kd.R_after (Kd.R_apart_nil (by (with_reducible repeat (first | apply Kd.R_alloc | apply Kd.R_drewN | apply Kd.R_drew)); exact HO_0.out)) hg hat)).2.2) KL30.out)); have n4_ := Aside0.mk (ho); clear HO_0; clear HB; clear HK; clear HR236; have HO_0 := n0_; have HB := n1_; have HK := n2_; have HR236 := n3_; have HO239 := n4_; clear n0_ n1_ n2_ n3_ n4_; clear ho hb hg hat) | ((with_reducible refine gate_builtin (b := .append) (xs := #[.tmp 39, .tmp 41]) rfl ?_); at_builtin; refine Kd.R_append (Kd.int .i64) (w0 := w0) w0.heap.size rfl (.tmp 39) (.tmp 41) 41 3 (.int .i64 0) 8 rfl Try.underlying41 info3 rfl (by decide) (by omega) v238 y237 a1 [.int .i64 a1] (fun k_ => (P0_ k_ ∨ w.heap.size ≤ k_) ∧ some k_ ≠ (.slice Ao29 l0.length co29 : Value).ownBlock) (fun _ => False) rfl rfl ?aP (fun _ hk => hk.elim) ?aF ?aO ?aB ?aS ?aL ?_; (case aP => exact rfl); (case aB => exact HBz); (case aF => exact (fun k_ hk => ⟨(.inr (Nat.le_trans (by first | exact HK.out.1 | exact (show Kept w _ (fun k_ => P0_ k_) from by repeat (first | (with_reducible first | exact HK.out | apply Kept.alloc | apply Kept.drewN | apply Kept.drew) | exact HK.out)).1) hk)), Kd.fresh' (Kd.R_lt (by (with_reducible repeat (first | apply Kd.R_alloc | apply Kd.R_drewN | apply Kd.R_drew)); exact HO_0.out)) k_ hk⟩)); (case aO => exact (by (with_reducible repeat (first | apply Kd.R_alloc | apply Kd.R_drewN | apply Kd.R_drew)); exact HO239.out)); (case aS => exact (below_size HBz)); (case aL => have := LMc25.out; omega); intro v241 w32 ho hb hg hat; rw [← Ny240.out] at ho; have n0_ := Aside0.mk (Kd.R_after (ok := (fun k_ => (P0_ k_ ∨ w.heap.size ≤ k_))) (by (with_reducible repeat (first | apply Kd.R_alloc | apply Kd.R_drewN | apply Kd.R_drew)); exact HO_0.out) hg hat); have n1_ := Aside0.mk (hb); have n2_ := Aside0.mk (Kept.of_grown (S := (fun k_ => P0_ k_)) hg (by repeat (first | (with_reducible first | exact HK.out | apply Kept.alloc | apply Kept.drewN | apply Kept.drew) | exact HK.out)) (fun k_ e_ => (HO239.out.1 k_ e_).1)); have n3_ := Aside0.mk ((show Kd.C (Kd.int .i64) w32 Ao29 y233.length y233 from by rw [Ny233.out]; exact Kd.C_take (m := (x5_1 : Int).toNat) ((Kd.R_reads' (Kd.R_after (ok := (fun k_ => (P0_ k_ ∨ w.heap.size ≤ k_))) (by (with_reducible repeat (first | apply Kd.R_alloc | apply Kd.R_drewN | apply Kd.R_drew)); exact HO_0.out) hg hat)).2.2) KL30.out)); have n4_ := Aside0.mk (ho); clear HO_0; clear HB; clear HK; clear HR236; clear HO239; have HO_0 := n0_; have HB := n1_; have HK := n2_; have HR236 := n3_; have HO242 := n4_; clear n0_ n1_ n2_ n3_ n4_; clear ho hb hg hat; have q33 : (x5_1 : Int) ≤ ((l0.length : Int) : Int) := of_decide_eq_true (by first | (with_reducible assumption) | assumption); obtain ⟨i033, hi033, _, hsz33, _⟩ := info_parts info3; have hroom33 : l0.length ≤ co29 := (Kd.R_reads' HO_0.out).2.1; have hC33 : Kd.C (Kd.int .i64) _ Ao29 l0.length l0 := (Kd.R_reads' HO_0.out).2.2; have q033 : (0 : Int) ≤ (x5_1 : Int) := of_decide_eq_true (by first | (with_reducible assumption) | assumption); have hcut33 := cut_from (P := Try.prog) 41 3 .i64 Try.underlying41 hi033 1 hsz33 Ao29 l0.length co29 x5_1 q033 q33; have hr33 := Kd.C_drop (m := (x5_1 : Int).toNat) (c := co29) hC33 (by omega) hroom33; obtain ⟨A33, hA33⟩ : ∃ A1, A1 = (if co29 = (x5_1 : Int).toNat then Ao29 else (Ao29 : Option Addr).map (·.add ((x5_1 : Int).toNat * 1))) := ⟨_, rfl⟩; obtain ⟨c33, hc33⟩ : ∃ c1, c1 = co29 - (x5_1 : Int).toNat := ⟨_, rfl⟩; have hy33 : y243.length = l0.length - (x5_1 : Int).toNat := (by rw [Ny243.out, List.length_drop] <;> omega); rw [show (l0).drop (x5_1 : Int).toNat = y243 from Ny243.out.symm] at hr33; replace hr33 : Kd.C (Kd.int .i64) _ A33 y243.length y243 := (by rw [hA33]; exact hr33); rw [← hy33, ← hA33, ← hc33] at hcut33; have HR246 := Aside0.mk hr33; have HC246 := Aside0.mk (show y243.length ≤ c33 from by rw [hy33, hc33]; exact Nat.sub_le_sub_right hroom33 _); clear hr33 hC33 hroom33 hi033 hsz33 hc33; have KY33 := Aside0.mk hy33; have KA33 := Aside0.mk hA33; clear hy33 hA33; have KL33 := Aside0.mk (show (x5_1 : Int).toNat ≤ l0.length from by omega); replace q33 := eq_true q33) | ((with_reducible refine gate_builtin (b := .append) (xs := #[.tmp 43, .tmp 46]) rfl ?_); at_builtin; refine Kd.R_append_rows (Kd.int .i64) (w0 := w0) w0.heap.size rfl (.tmp 43) (.tmp 46) 41 3 (.int .i64 0) 8 rfl Try.underlying41 info3 rfl (by decide) (by omega) v241 y240 y243 _ _ _ (fun k_ => (P0_ k_ ∨ w.heap.size ≤ k_) ∧ some k_ ≠ (.slice Ao29 l0.length co29 : Value).ownBlock) (fun _ => False) rfl rfl ?aO ?aR (fun _ _ h => h) (fun _ h => h.elim) ?aF ?aB ?aS ?aL ?_; (case aR => repeat (first | exact (by repeat (first | (with_reducible exact HR246.out) | (with_reducible refine Kd.C_alloc ?_ _) | (with_reducible refine Kd.C_drewN ?_ _) | (with_reducible refine Kd.C_drew ?_) | exact HR246.out)) | (with_reducible refine Kd.C_alloc ?_ _) | (with_reducible refine Kd.C_drewN ?_ _) | (with_reducible refine Kd.C_drew ?_))); (case aB => exact HBz); (case aF => exact (fun k_ hk => ⟨(.inr (Nat.le_trans (by first | exact HK.out.1 | exact (show Kept w _ (fun k_ => P0_ k_) from by repeat (first | (with_reducible first | exact HK.out | apply Kept.alloc | apply Kept.drewN | apply Kept.drew) | exact HK.out)).1) hk)), Kd.fresh' (Kd.R_lt (by (with_reducible repeat (first | apply Kd.R_alloc | apply Kd.R_drewN | apply Kd.R_drew)); exact HO_0.out)) k_ hk⟩)); (case aO => exact (by (with_reducible repeat (first | apply Kd.R_alloc | apply Kd.R_drewN | apply Kd.R_drew)); exact HO242.out)); (case aS => exact (below_size HBz)); (case aL => have := LMc28.out; omega); intro v248 w34 ho hb hg hat; rw [← Ny247.out] at ho; have n0_ := Aside0.mk (Kd.R_after (ok := (fun k_ => (P0_ k_ ∨ w.heap.size ≤ k_))) (by (with_reducible repeat (first | apply Kd.R_alloc | apply Kd.R_drewN | apply Kd.R_drew)); exact HO_0.out) hg hat); have n1_ := Aside0.mk (hb); have n2_ := Aside0.mk (Kept.of_grown (S := (fun k_ => P0_ k_)) hg (by repeat (first | (with_reducible first | exact HK.out | apply Kept.alloc | apply Kept.drewN | apply Kept.drew) | exact HK.out)) (fun k_ e_ => (HO242.out.1 k_ e_).1)); have n3_ := Aside0.mk ((show Kd.C (Kd.int .i64) w34 Ao29 y233.length y233 from by rw [Ny233.out]; exact Kd.C_take (m := (x5_1 : Int).toNat) ((Kd.R_reads' (Kd.R_after (ok := (fun k_ => (P0_ k_ ∨ w.heap.size ≤ k_))) (by (with_reducible repeat (first | apply Kd.R_alloc | apply Kd.R_drewN | apply Kd.R_drew)); exact HO_0.out) hg hat)).2.2) KL30.out)); have n4_ := Aside0.mk ((show Kd.C (Kd.int .i64) w34 A33 y243.length y243 from by rw [Ny243.out, KA33.out]; exact Kd.C_drop (m := (x5_1 : Int).toNat) (c := co29) ((Kd.R_reads' (Kd.R_after (ok := (fun k_ => (P0_ k_ ∨ w.heap.size ≤ k_))) (by (with_reducible repeat (first | apply Kd.R_alloc | apply Kd.R_drewN | apply Kd.R_drew)); exact HO_0.out) hg hat)).2.2) KL33.out ((Kd.R_reads' (Kd.R_after (ok := (fun k_ => (P0_ k_ ∨ w.heap.size ≤ k_))) (by (with_reducible repeat (first | apply Kd.R_alloc | apply Kd.R_drewN | apply Kd.R_drew)); exact HO_0.out) hg hat)).2.1))); have n5_ := Aside0.mk (ho); clear HO_0; clear HB; clear HK; clear HR236; clear HR246; clear HO242; have HO_0 := n0_; have HB := n1_; have HK := n2_; have HR236 := n3_; have HR246 := n4_; have HO249 := n5_; clear n0_ n1_ n2_ n3_ n4_ n5_; clear ho hb hg hat))
         go_ret
         exact ⟨_, by first | rfl | (simp [errW_none, errW_some] <;> rfl) | (simp [*, errW_none, errW_some] <;> rfl), by (with_reducible repeat (first | apply Kd.R_alloc | apply Kd.R_drewN | apply Kd.R_drew)); exact Kd.R_mono HO249.out (fun _ hk => hk.1), HBz, by repeat (first | (with_reducible first | exact HK.out | apply Kept.alloc | apply Kept.drewN | apply Kept.drew) | exact HK.out)⟩
        ·rw [if_neg c28] at H
         exact absurd H (by simp)
       ·rw [if_neg c25] at H
        exact absurd H (by simp)
      ·rw [if_neg c24] at H
       exact absurd H (by simp)
     ·rw [if_neg c23] at H
      exact absurd H (by simp)
    ·rw [if_neg c22] at H
     exact absurd H (by simp)
def tickingref01_lines.l0 : Nat → List (S48) → Bool → List Int → Int → Option (List Int)
 | 0, _, _, _, _ => none
 | k + 1, x0, x1, x5, x6 => if x6 < (x0.length : Int) then (if x1 = true then (if 0 ≤ x6 then ((tickingref01_insert.f k x5 ((rd_T48 x0 x6).f0)).bind fun t251 => ((tickingref01_insert.f k t251 ((rd_T48 x0 x6).f2)).bind fun t255 => (tickingref01_lines.l0 k x0 x1 t255 (wrap64 (x6 + 1))))) else (none)) else (if 0 ≤ x6 then ((tickingref01_insert.f k x5 ((rd_T48 x0 x6).f1)).bind fun t259 => ((tickingref01_insert.f k t259 ((rd_T48 x0 x6).f3)).bind fun t263 => (tickingref01_lines.l0 k x0 x1 t263 (wrap64 (x6 + 1))))) else (none))) else (some x5)
def tickingref01_lines.f (k : Nat) (l0 : List (S48)) (a1 : Bool) : Option (List Int) := tickingref01_lines.l0 k l0 a1 ([] : List Int) 0
theorem tickingref01_lines.mono_l : ∀ k, (∀ y0 y1 y2 y3, LeO (tickingref01_lines.l0 k y0 y1 y2 y3) (tickingref01_lines.l0 (k + 1) y0 y1 y2 y3))
 | 0 => fun _ _ _ _ r h => by simp [tickingref01_lines.l0] at h
 | k + 1 => by
  have ih0 := tickingref01_lines.mono_l k
  ·intro y0 y1 y2 y3
   unfold tickingref01_lines.l0
   repeat' first
   | (with_reducible exact ih0 _ _ _ _)
   | (with_reducible exact tickingref01_insert.mono _ _ _)
   | (with_reducible exact LeO.refl _)
   | (with_reducible exact LeO.none _)
   | (with_reducible refine LeO.ite ?_ ?_)
   | (with_reducible refine LeO.bind ?_ (fun _ => ?_))
   | exact ih0 _ _ _ _
   | exact tickingref01_insert.mono _ _ _
   | exact LeO.none _
   | refine LeO.ite ?_ ?_
   | refine LeO.bind ?_ (fun _ => ?_)
theorem tickingref01_lines.mono : ∀ a0 a1 k, LeO (tickingref01_lines.f k a0 a1) (tickingref01_lines.f (k + 1) a0 a1) := by
 intro a0 a1 k
 have ih0 := tickingref01_lines.mono_l k
 unfold tickingref01_lines.f
 repeat' first
   | (with_reducible exact ih0 _ _ _ _)
   | (with_reducible exact tickingref01_insert.mono _ _ _)
   | (with_reducible exact LeO.refl _)
   | (with_reducible exact LeO.none _)
   | (with_reducible refine LeO.ite ?_ ?_)
   | (with_reducible refine LeO.bind ?_ (fun _ => ?_))
   | exact ih0 _ _ _ _
   | exact tickingref01_insert.mono _ _ _
   | exact LeO.none _
   | refine LeO.ite ?_ ?_
   | refine LeO.bind ?_ (fun _ => ?_)
def tickingref01_lines.T6 : Bool × List (List Nat × List Nat) := (true, [([], []), ([], []), ([], []), ([1, 2], [1, 2]), ([3], [3]), ([4], [4]), ([0, 5], [0, 5]), ([], []), ([], []), ([7, 8], [7, 8]), ([9], [9]), ([10], [10]), ([6, 11, 6], [6, 11]), ([12, 12, 0, 1, 2, 3, 4, 5, 6, 7, 8, 9, 10, 11, 12], [0, 12])])
def tickingref01_lines.B6 : List Nat := [0, 0, 0, 6, 14, 30, 63, 0, 0, 384, 896, 1920, 4095, 8191]
theorem tickingref01_lines.tab6 : rtab .any (opsOf Try.f51 6) = tickingref01_lines.T6 := by kernel_rfl
theorem tickingref01_lines.bits6 : waitsOk tickingref01_lines.T6.2 tickingref01_lines.B6 = true := by kernel_rfl
def tickingref01_lines.T7 : Bool × List (List Nat × List Nat) := (true, [([], []), ([], []), ([], []), ([1, 2], [1, 2]), ([3], [3]), ([4], [4]), ([0, 5], [0, 5]), ([], []), ([], []), ([7, 8], [7, 8]), ([9], [9]), ([10], [10]), ([6, 11, 6], [6, 11]), ([12, 12, 0, 1, 2, 3, 4, 5, 6, 7, 8, 9, 10, 11, 12], [0, 12])])
def tickingref01_lines.B7 : List Nat := [0, 0, 0, 6, 14, 30, 63, 0, 0, 384, 896, 1920, 4095, 8191]
theorem tickingref01_lines.tab7 : rtab .any (opsOf Try.f51 7) = tickingref01_lines.T7 := by kernel_rfl
theorem tickingref01_lines.bits7 : waitsOk tickingref01_lines.T7.2 tickingref01_lines.B7 = true := by kernel_rfl
set_option maxHeartbeats 8000000 in
set_option maxRecDepth 100000 in
theorem tickingref01_lines.calls (k : Nat) (A0 : Option Addr) (c0 : Nat) (l0 : List (S48)) (a1 : Bool) (r : List Int) (w : World) (hr0 : Kd.C k48 w A0 l0.length l0) (hc0 : l0.length ≤ c0) (h : tickingref01_lines.f k l0 a1 = some r) :
  Calls Try.prog 51 #[.slice A0 l0.length c0, .bool a1] w fun e w' => ∃ v0_ : Value, e = .returned (v0_) ∧ Kd.R (Kd.int .i64) 3 w' w.heap.size (fun _ => True) v0_ r ∧ Below w.heap.size w w' := by
 have HR0 := Aside0.mk hr0
 have HC0 := Aside0.mk hc0
 clear hr0 hc0
 have HB := Aside0.mk (Below.refl w.heap.size w)
 have H : (tickingref01_lines.l0 k l0 a1 ([] : List Int) 0) = some r := h
 clear h
 have H' := Aside0.mk H
 clear H
 go_enter Try.func51, Try.ntmps51
 go_wp2
 go_loopg [5, 6] k (fun kq v5 v6 w' => ∃ (x5_1 : List Int) (x6_1 : Int), v6 = .int .i64 x6_1 ∧ Aside0 (tickingref01_lines.l0 kq l0 a1 x5_1 x6_1 = some r) ∧ Aside0 (kq ≤ k) ∧ Aside0 (Kd.R (Kd.int .i64) 3 w' w.heap.size (fun _ => True) v5 x5_1) ∧ Aside0 (Below w.heap.size w w'))
 case atStart => exact ⟨(([] : List Int)), (0), (by first | rfl | (simp; done) | (simp [*]; done)), H', ⟨Nat.le_refl _⟩, ⟨by first | exact Kd.R_nil _ _ _ _ _ | exact Kd.N_nil _ _ _ _ _ | exact Kd.V_nil _ _ _ _ _ | exact Kd.Q_nil _ _ _ _ _ | exact Kd.S_nil _ _ _ _ _⟩, ⟨HBz⟩⟩
 case round =>
  clear H'
  try clear p2
  obtain ⟨x5_1, x6_1, rfl, HA, HK1, HO_5, HB⟩ := hrel
  cases gk with
  | zero => exact absurd HA.out (by simp [tickingref01_lines.l0])
  | succ k1 =>
   have H := HA.out
   clear HA
   simp only [tickingref01_lines.l0] at H
   by_cases c3 : x6_1 < (l0.length : Int)
   ·rw [if_pos c3] at H
    have c3b0 : decide (x6_1 < (l0.length : Int)) = true := decide_eq_true c3
    clear c3
    by_cases c4 : a1 = true
    ·subst c4
     have H1 : (if 0 ≤ x6_1 then ((tickingref01_insert.f k1 x5_1 ((rd_T48 l0 x6_1).f0)).bind fun t251 => ((tickingref01_insert.f k1 t251 ((rd_T48 l0 x6_1).f2)).bind fun t255 => (tickingref01_lines.l0 k1 l0 true t255 (wrap64 (x6_1 + 1))))) else (none)) = some r := by rw [if_pos rfl] at H; exact H
     clear H
     have H := H1
     clear H1
     by_cases c5 : 0 ≤ x6_1
     ·rw [if_pos c5] at H
      have c5b0 : decide (0 ≤ x6_1) = true := decide_eq_true c5
      clear c5
      replace H := Option.bind_eq_some_iff.mp H
      obtain ⟨t251, A60, H⟩ := H
      replace H : ((tickingref01_insert.f k1 t251 ((rd_T48 l0 x6_1).f2)).bind fun t255 => (tickingref01_lines.l0 k1 l0 true t255 (wrap64 (x6_1 + 1)))) = some r := H
      have A6 := Aside0.mk A60
      clear A60
      replace H := Option.bind_eq_some_iff.mp H
      obtain ⟨t255, A70, H⟩ := H
      replace H : (tickingref01_lines.l0 k1 l0 true t255 (wrap64 (x6_1 + 1))) = some r := H
      have A7 := Aside0.mk A70
      clear A70
      have H' := Aside0.mk H
      clear H
      try go_wp2
      have n0_ := Aside0.mk (Kd.R_drew HO_5.out)
      have n1_ := Aside0.mk (below_drew1 HB.out)
      clear HO_5
      clear HB
      have HO_5 := n0_
      have HB := n1_
      clear n0_ n1_
      have p250 : 0 ≤ (x6_1 : Int) := of_decide_eq_true (by first | (with_reducible assumption) | assumption)
      have q250 : x6_1 < (l0.length : Int) := of_decide_eq_true (by first | (with_reducible assumption) | assumption)
      obtain ⟨ad250, e250, hx250_0, hx250_1, hx250_2, hx250_3⟩ := at_T48 HR0.out x6_1 p250 q250
      have hw250_3 := hx250_3
      have hw250_2 := hx250_2
      have hw250_1 := hx250_1
      have hw250_0 := hx250_0
      cases e250
      replace hx250_0 := (HB.out.cell (World.block_lt_of_cell? w _ hx250_0)).trans hx250_0
      replace hx250_1 := (HB.out.cell (World.block_lt_of_cell? w _ hx250_1)).trans hx250_1
      replace hx250_2 := (HB.out.cell (World.block_lt_of_cell? w _ hx250_2)).trans hx250_2
      replace hx250_3 := (HB.out.cell (World.block_lt_of_cell? w _ hx250_3)).trans hx250_3
      replace p250 := eq_true p250
      replace q250 := eq_true q250
      have p254 : 0 ≤ (x6_1 : Int) := of_decide_eq_true (by first | (with_reducible assumption) | assumption)
      have q254 : x6_1 < (l0.length : Int) := of_decide_eq_true (by first | (with_reducible assumption) | assumption)
      obtain ⟨ad254, e254, hx254_0, hx254_1, hx254_2, hx254_3⟩ := at_T48 HR0.out x6_1 p254 q254
      have hw254_3 := hx254_3
      have hw254_2 := hx254_2
      have hw254_1 := hx254_1
      have hw254_0 := hx254_0
      obtain rfl : ad250 = ad254 := (by injection e254)
      replace hx254_0 := (HB.out.cell (World.block_lt_of_cell? w _ hx254_0)).trans hx254_0
      replace hx254_1 := (HB.out.cell (World.block_lt_of_cell? w _ hx254_1)).trans hx254_1
      replace hx254_2 := (HB.out.cell (World.block_lt_of_cell? w _ hx254_2)).trans hx254_2
      replace hx254_3 := (HB.out.cell (World.block_lt_of_cell? w _ hx254_3)).trans hx254_3
      replace p254 := eq_true p254
      replace q254 := eq_true q254
      obtain ⟨Ao9, co9, eo9⟩ := Kd.R_slice HO_5.out
      (first | subst eo9 | (injection eo9 with f1_ f2_ f3_; have f4_ := f1_.symm; have f5_ := f3_.symm; clear f1_ f2_ f3_; subst f4_; subst f5_))
      refine stz (fun w' => w'.cell? (ad250.add ((x6_1).toNat * 4)) = some (.int .i64 ((rd_T48 l0 x6_1).f0)) ∧ w'.cell? ⟨(ad250.add ((x6_1).toNat * 4)).block, (ad250.add ((x6_1).toNat * 4)).off + 1, none⟩ = some (.int .i64 ((rd_T48 l0 x6_1).f1)) ∧ w'.cell? ⟨(ad250.add ((x6_1).toNat * 4)).block, (ad250.add ((x6_1).toNat * 4)).off + 2, none⟩ = some (.int .i64 ((rd_T48 l0 x6_1).f2)) ∧ w'.cell? ⟨(ad250.add ((x6_1).toNat * 4)).block, (ad250.add ((x6_1).toNat * 4)).off + 3, none⟩ = some (.int .i64 ((rd_T48 l0 x6_1).f3)) ∧ w'.cell? (ad250.add ((x6_1).toNat * 4)) = some (.int .i64 ((rd_T48 l0 x6_1).f0)) ∧ w'.cell? ⟨(ad250.add ((x6_1).toNat * 4)).block, (ad250.add ((x6_1).toNat * 4)).off + 1, none⟩ = some (.int .i64 ((rd_T48 l0 x6_1).f1)) ∧ w'.cell? ⟨(ad250.add ((x6_1).toNat * 4)).block, (ad250.add ((x6_1).toNat * 4)).off + 2, none⟩ = some (.int .i64 ((rd_T48 l0 x6_1).f2)) ∧ w'.cell? ⟨(ad250.add ((x6_1).toNat * 4)).block, (ad250.add ((x6_1).toNat * 4)).off + 3, none⟩ = some (.int .i64 ((rd_T48 l0 x6_1).f3))) [] (bn 14 0) ⟨((HB.out.cell (World.block_lt_of_cell? w _ hw250_0)).trans hw250_0), ((HB.out.cell (World.block_lt_of_cell? w _ hw250_1)).trans hw250_1), ((HB.out.cell (World.block_lt_of_cell? w _ hw250_2)).trans hw250_2), ((HB.out.cell (World.block_lt_of_cell? w _ hw250_3)).trans hw250_3), ((HB.out.cell (World.block_lt_of_cell? w _ hw254_0)).trans hw254_0), ((HB.out.cell (World.block_lt_of_cell? w _ hw254_1)).trans hw254_1), ((HB.out.cell (World.block_lt_of_cell? w _ hw254_2)).trans hw254_2), ((HB.out.cell (World.block_lt_of_cell? w _ hw254_3)).trans hw254_3)⟩ (fun hHeld => ?_); refine with_tabW tickingref01_lines.tab6 tickingref01_lines.bits6 (fun HT_ HW_ => ?_)
      generalize wr.drew = w8 at HO_5 HB hx250_0 hx250_1 hx250_2 hx250_3 hx254_0 hx254_1 hx254_2 hx254_3 hHeld ⊢
      refine pT HT_.out 0 (some 14) (bn 14 1) ?_
      refine pT HT_.out 1 (some 15) (bn 14 3) ?_
      refine pT HT_.out 2 (some 16) (bn 14 7) ?_
      refine pT HT_.out 3 (some 17) (bn 14 15) ?_
      refine pT HT_.out 4 (some 18) (bn 14 31) ?_
      refine pT HT_.out 7 (some 21) (bn 14 159) ?_
      refine pT HT_.out 8 (some 22) (bn 14 415) ?_
      refine pT HT_.out 9 (some 23) (bn 14 927) ?_
      refine pT HT_.out 10 (some 24) (bn 14 1951) ?_
      refine tT HT_.out HW_.out 5 (some 19) (bn 14 1983) hHeld ?_
      refine tT HT_.out HW_.out 11 (some 25) (bn 14 4031) hHeld ?_
      refine oT HT_.out 6 (some 20) (bn 14 4095) (fun K hK => ?_)
      refine gz Try.func67 #[.slice Ao9 x5_1.length co9, .int .i64 ((rd_T48 l0 x6_1).f0)] ?_
      with_reducible refine (tickingref01_insert.calls k1 (fun k_ => some k_ = (.slice Ao9 x5_1.length co9 : Value).ownBlock) (.slice Ao9 x5_1.length co9) x5_1 ((rd_T48 l0 x6_1).f0) t251 w _ ?side1 ?side2 A6.out).mono ?_
      (case side1 => repeat (first | (with_reducible first | exact HB.out | apply below_alloc | apply pw_below_drewN | apply below_drew1) | exact HB.out))
      (case side2 => exact Kd.R_tight rfl HO_5.out)
      rintro e w10 ⟨v252, rfl, ho0, hb, hkp⟩
      refine ⟨_, rfl, ?_⟩
      have n0_ := Aside0.mk (Kd.R_mono (ok' := fun k_ => True) ho0 (fun k_ hk_ => trivial))
      have n1_ := Aside0.mk (hb)
      clear HB
      clear HO_5
      have HO253 := n0_
      have HB := n1_
      clear n0_ n1_
      (try clear hb)
      (try clear hkp)
      (try clear ho0)
      obtain ⟨Ao11, co11, eo11⟩ := Kd.R_slice HO253.out
      (first | subst eo11 | (injection eo11 with f1_ f2_ f3_; have f4_ := f1_.symm; have f5_ := f3_.symm; clear f1_ f2_ f3_; subst f4_; subst f5_))
      refine hK.out _ _ ⟨((HB.out.cell (World.block_lt_of_cell? w _ hw250_0)).trans hw250_0), ((HB.out.cell (World.block_lt_of_cell? w _ hw250_1)).trans hw250_1), ((HB.out.cell (World.block_lt_of_cell? w _ hw250_2)).trans hw250_2), ((HB.out.cell (World.block_lt_of_cell? w _ hw250_3)).trans hw250_3), ((HB.out.cell (World.block_lt_of_cell? w _ hw254_0)).trans hw254_0), ((HB.out.cell (World.block_lt_of_cell? w _ hw254_1)).trans hw254_1), ((HB.out.cell (World.block_lt_of_cell? w _ hw254_2)).trans hw254_2), ((HB.out.cell (World.block_lt_of_cell? w _ hw254_3)).trans hw254_3)⟩ (fun hHeld => ?_)
      clear hK K
      refine nz (some 20) ?_
      refine oT HT_.out 12 (some 26) (bn 14 8191) (fun K hK => ?_)
      refine gz Try.func67 #[.slice Ao11 t251.length co11, .int .i64 ((rd_T48 l0 x6_1).f2)] ?_
      with_reducible refine (tickingref01_insert.calls k1 (fun k_ => some k_ = (.slice Ao11 t251.length co11 : Value).ownBlock) (.slice Ao11 t251.length co11) t251 ((rd_T48 l0 x6_1).f2) t255 w _ ?side1 ?side2 A7.out).mono ?_
      (case side1 => repeat (first | (with_reducible first | exact HB.out | apply below_alloc | apply pw_below_drewN | apply below_drew1) | exact HB.out))
      (case side2 => exact Kd.R_tight rfl HO253.out)
      rintro e w12 ⟨v256, rfl, ho0, hb, hkp⟩
      refine ⟨_, rfl, ?_⟩
      have n0_ := Aside0.mk (Kd.R_mono (ok' := fun k_ => True) ho0 (fun k_ hk_ => trivial))
      have n1_ := Aside0.mk (hb)
      clear HB
      clear HO253
      have HO257 := n0_
      have HB := n1_
      clear n0_ n1_
      (try clear hb)
      (try clear hkp)
      (try clear ho0)
      refine hK.out _ _ ⟨((HB.out.cell (World.block_lt_of_cell? w _ hw250_0)).trans hw250_0), ((HB.out.cell (World.block_lt_of_cell? w _ hw250_1)).trans hw250_1), ((HB.out.cell (World.block_lt_of_cell? w _ hw250_2)).trans hw250_2), ((HB.out.cell (World.block_lt_of_cell? w _ hw250_3)).trans hw250_3), ((HB.out.cell (World.block_lt_of_cell? w _ hw254_0)).trans hw254_0), ((HB.out.cell (World.block_lt_of_cell? w _ hw254_1)).trans hw254_1), ((HB.out.cell (World.block_lt_of_cell? w _ hw254_2)).trans hw254_2), ((HB.out.cell (World.block_lt_of_cell? w _ hw254_3)).trans hw254_3)⟩ (fun hHeld => ?_)
      clear hK K
      refine nz (some 26) ?_
      refine pT HT_.out 13 (some 5) (bn 14 16383) ?_
      refine done_ (done_of HT_.out (by kernel_rfl)) ?_
      try go_wp2
      go_roundg k1
      case measure => have := HK1.out; omega
      case rel => exact ⟨(t255), (wrap64 (x6_1 + 1)), (by first | rfl | (simp; done) | (simp [*]; done)), H', ⟨by have := HK1.out; omega⟩, ⟨by (with_reducible repeat (first | apply Kd.R_alloc | apply Kd.R_drewN | apply Kd.R_drew)); exact HO257.out⟩, ⟨HBz⟩⟩
     ·rw [if_neg c5] at H
      exact absurd H (by simp)
    ·replace c4 := Bool.eq_false_iff.mpr c4
     subst c4
     have H1 : (if 0 ≤ x6_1 then ((tickingref01_insert.f k1 x5_1 ((rd_T48 l0 x6_1).f1)).bind fun t259 => ((tickingref01_insert.f k1 t259 ((rd_T48 l0 x6_1).f3)).bind fun t263 => (tickingref01_lines.l0 k1 l0 false t263 (wrap64 (x6_1 + 1))))) else (none)) = some r := by rw [if_neg (show ¬ (false = true) by decide)] at H; exact H
     clear H
     have H := H1
     clear H1
     by_cases c13 : 0 ≤ x6_1
     ·rw [if_pos c13] at H
      have c13b0 : decide (0 ≤ x6_1) = true := decide_eq_true c13
      clear c13
      replace H := Option.bind_eq_some_iff.mp H
      obtain ⟨t259, A140, H⟩ := H
      replace H : ((tickingref01_insert.f k1 t259 ((rd_T48 l0 x6_1).f3)).bind fun t263 => (tickingref01_lines.l0 k1 l0 false t263 (wrap64 (x6_1 + 1)))) = some r := H
      have A14 := Aside0.mk A140
      clear A140
      replace H := Option.bind_eq_some_iff.mp H
      obtain ⟨t263, A150, H⟩ := H
      replace H : (tickingref01_lines.l0 k1 l0 false t263 (wrap64 (x6_1 + 1))) = some r := H
      have A15 := Aside0.mk A150
      clear A150
      have H' := Aside0.mk H
      clear H
      try go_wp2
      have n0_ := Aside0.mk (Kd.R_drew HO_5.out)
      have n1_ := Aside0.mk (below_drew1 HB.out)
      clear HO_5
      clear HB
      have HO_5 := n0_
      have HB := n1_
      clear n0_ n1_
      have p258 : 0 ≤ (x6_1 : Int) := of_decide_eq_true (by first | (with_reducible assumption) | assumption)
      have q258 : x6_1 < (l0.length : Int) := of_decide_eq_true (by first | (with_reducible assumption) | assumption)
      obtain ⟨ad258, e258, hx258_0, hx258_1, hx258_2, hx258_3⟩ := at_T48 HR0.out x6_1 p258 q258
      have hw258_3 := hx258_3
      have hw258_2 := hx258_2
      have hw258_1 := hx258_1
      have hw258_0 := hx258_0
      cases e258
      replace hx258_0 := (HB.out.cell (World.block_lt_of_cell? w _ hx258_0)).trans hx258_0
      replace hx258_1 := (HB.out.cell (World.block_lt_of_cell? w _ hx258_1)).trans hx258_1
      replace hx258_2 := (HB.out.cell (World.block_lt_of_cell? w _ hx258_2)).trans hx258_2
      replace hx258_3 := (HB.out.cell (World.block_lt_of_cell? w _ hx258_3)).trans hx258_3
      replace p258 := eq_true p258
      replace q258 := eq_true q258
      have p262 : 0 ≤ (x6_1 : Int) := of_decide_eq_true (by first | (with_reducible assumption) | assumption)
      have q262 : x6_1 < (l0.length : Int) := of_decide_eq_true (by first | (with_reducible assumption) | assumption)
      obtain ⟨ad262, e262, hx262_0, hx262_1, hx262_2, hx262_3⟩ := at_T48 HR0.out x6_1 p262 q262
      have hw262_3 := hx262_3
      have hw262_2 := hx262_2
      have hw262_1 := hx262_1
      have hw262_0 := hx262_0
      obtain rfl : ad258 = ad262 := (by injection e262)
      replace hx262_0 := (HB.out.cell (World.block_lt_of_cell? w _ hx262_0)).trans hx262_0
      replace hx262_1 := (HB.out.cell (World.block_lt_of_cell? w _ hx262_1)).trans hx262_1
      replace hx262_2 := (HB.out.cell (World.block_lt_of_cell? w _ hx262_2)).trans hx262_2
      replace hx262_3 := (HB.out.cell (World.block_lt_of_cell? w _ hx262_3)).trans hx262_3
      replace p262 := eq_true p262
      replace q262 := eq_true q262
      obtain ⟨Ao17, co17, eo17⟩ := Kd.R_slice HO_5.out
      (first | subst eo17 | (injection eo17 with f1_ f2_ f3_; have f4_ := f1_.symm; have f5_ := f3_.symm; clear f1_ f2_ f3_; subst f4_; subst f5_))
      refine stz (fun w' => w'.cell? (ad258.add ((x6_1).toNat * 4)) = some (.int .i64 ((rd_T48 l0 x6_1).f0)) ∧ w'.cell? ⟨(ad258.add ((x6_1).toNat * 4)).block, (ad258.add ((x6_1).toNat * 4)).off + 1, none⟩ = some (.int .i64 ((rd_T48 l0 x6_1).f1)) ∧ w'.cell? ⟨(ad258.add ((x6_1).toNat * 4)).block, (ad258.add ((x6_1).toNat * 4)).off + 2, none⟩ = some (.int .i64 ((rd_T48 l0 x6_1).f2)) ∧ w'.cell? ⟨(ad258.add ((x6_1).toNat * 4)).block, (ad258.add ((x6_1).toNat * 4)).off + 3, none⟩ = some (.int .i64 ((rd_T48 l0 x6_1).f3)) ∧ w'.cell? (ad258.add ((x6_1).toNat * 4)) = some (.int .i64 ((rd_T48 l0 x6_1).f0)) ∧ w'.cell? ⟨(ad258.add ((x6_1).toNat * 4)).block, (ad258.add ((x6_1).toNat * 4)).off + 1, none⟩ = some (.int .i64 ((rd_T48 l0 x6_1).f1)) ∧ w'.cell? ⟨(ad258.add ((x6_1).toNat * 4)).block, (ad258.add ((x6_1).toNat * 4)).off + 2, none⟩ = some (.int .i64 ((rd_T48 l0 x6_1).f2)) ∧ w'.cell? ⟨(ad258.add ((x6_1).toNat * 4)).block, (ad258.add ((x6_1).toNat * 4)).off + 3, none⟩ = some (.int .i64 ((rd_T48 l0 x6_1).f3))) [] (bn 14 0) ⟨((HB.out.cell (World.block_lt_of_cell? w _ hw258_0)).trans hw258_0), ((HB.out.cell (World.block_lt_of_cell? w _ hw258_1)).trans hw258_1), ((HB.out.cell (World.block_lt_of_cell? w _ hw258_2)).trans hw258_2), ((HB.out.cell (World.block_lt_of_cell? w _ hw258_3)).trans hw258_3), ((HB.out.cell (World.block_lt_of_cell? w _ hw262_0)).trans hw262_0), ((HB.out.cell (World.block_lt_of_cell? w _ hw262_1)).trans hw262_1), ((HB.out.cell (World.block_lt_of_cell? w _ hw262_2)).trans hw262_2), ((HB.out.cell (World.block_lt_of_cell? w _ hw262_3)).trans hw262_3)⟩ (fun hHeld => ?_); refine with_tabW tickingref01_lines.tab7 tickingref01_lines.bits7 (fun HT_ HW_ => ?_)
      generalize wr.drew = w16 at HO_5 HB hx258_0 hx258_1 hx258_2 hx258_3 hx262_0 hx262_1 hx262_2 hx262_3 hHeld ⊢
      refine pT HT_.out 0 (some 27) (bn 14 1) ?_
      refine pT HT_.out 1 (some 28) (bn 14 3) ?_
      refine pT HT_.out 2 (some 29) (bn 14 7) ?_
      refine pT HT_.out 3 (some 30) (bn 14 15) ?_
      refine pT HT_.out 4 (some 31) (bn 14 31) ?_
      refine pT HT_.out 7 (some 34) (bn 14 159) ?_
      refine pT HT_.out 8 (some 35) (bn 14 415) ?_
      refine pT HT_.out 9 (some 36) (bn 14 927) ?_
      refine pT HT_.out 10 (some 37) (bn 14 1951) ?_
      refine tT HT_.out HW_.out 5 (some 32) (bn 14 1983) hHeld ?_
      refine tT HT_.out HW_.out 11 (some 38) (bn 14 4031) hHeld ?_
      refine oT HT_.out 6 (some 33) (bn 14 4095) (fun K hK => ?_)
      refine gz Try.func67 #[.slice Ao17 x5_1.length co17, .int .i64 ((rd_T48 l0 x6_1).f1)] ?_
      with_reducible refine (tickingref01_insert.calls k1 (fun k_ => some k_ = (.slice Ao17 x5_1.length co17 : Value).ownBlock) (.slice Ao17 x5_1.length co17) x5_1 ((rd_T48 l0 x6_1).f1) t259 w _ ?side1 ?side2 A14.out).mono ?_
      (case side1 => repeat (first | (with_reducible first | exact HB.out | apply below_alloc | apply pw_below_drewN | apply below_drew1) | exact HB.out))
      (case side2 => exact Kd.R_tight rfl HO_5.out)
      rintro e w18 ⟨v260, rfl, ho0, hb, hkp⟩
      refine ⟨_, rfl, ?_⟩
      have n0_ := Aside0.mk (Kd.R_mono (ok' := fun k_ => True) ho0 (fun k_ hk_ => trivial))
      have n1_ := Aside0.mk (hb)
      clear HB
      clear HO_5
      have HO261 := n0_
      have HB := n1_
      clear n0_ n1_
      (try clear hb)
      (try clear hkp)
      (try clear ho0)
      obtain ⟨Ao19, co19, eo19⟩ := Kd.R_slice HO261.out
      (first | subst eo19 | (injection eo19 with f1_ f2_ f3_; have f4_ := f1_.symm; have f5_ := f3_.symm; clear f1_ f2_ f3_; subst f4_; subst f5_))
      refine hK.out _ _ ⟨((HB.out.cell (World.block_lt_of_cell? w _ hw258_0)).trans hw258_0), ((HB.out.cell (World.block_lt_of_cell? w _ hw258_1)).trans hw258_1), ((HB.out.cell (World.block_lt_of_cell? w _ hw258_2)).trans hw258_2), ((HB.out.cell (World.block_lt_of_cell? w _ hw258_3)).trans hw258_3), ((HB.out.cell (World.block_lt_of_cell? w _ hw262_0)).trans hw262_0), ((HB.out.cell (World.block_lt_of_cell? w _ hw262_1)).trans hw262_1), ((HB.out.cell (World.block_lt_of_cell? w _ hw262_2)).trans hw262_2), ((HB.out.cell (World.block_lt_of_cell? w _ hw262_3)).trans hw262_3)⟩ (fun hHeld => ?_)
      clear hK K
      refine nz (some 33) ?_
      refine oT HT_.out 12 (some 39) (bn 14 8191) (fun K hK => ?_)
      refine gz Try.func67 #[.slice Ao19 t259.length co19, .int .i64 ((rd_T48 l0 x6_1).f3)] ?_
      with_reducible refine (tickingref01_insert.calls k1 (fun k_ => some k_ = (.slice Ao19 t259.length co19 : Value).ownBlock) (.slice Ao19 t259.length co19) t259 ((rd_T48 l0 x6_1).f3) t263 w _ ?side1 ?side2 A15.out).mono ?_
      (case side1 => repeat (first | (with_reducible first | exact HB.out | apply below_alloc | apply pw_below_drewN | apply below_drew1) | exact HB.out))
      (case side2 => exact Kd.R_tight rfl HO261.out)
      rintro e w20 ⟨v264, rfl, ho0, hb, hkp⟩
      refine ⟨_, rfl, ?_⟩
      have n0_ := Aside0.mk (Kd.R_mono (ok' := fun k_ => True) ho0 (fun k_ hk_ => trivial))
      have n1_ := Aside0.mk (hb)
      clear HB
      clear HO261
      have HO265 := n0_
      have HB := n1_
      clear n0_ n1_
      (try clear hb)
      (try clear hkp)
      (try clear ho0)
      refine hK.out _ _ ⟨((HB.out.cell (World.block_lt_of_cell? w _ hw258_0)).trans hw258_0), ((HB.out.cell (World.block_lt_of_cell? w _ hw258_1)).trans hw258_1), ((HB.out.cell (World.block_lt_of_cell? w _ hw258_2)).trans hw258_2), ((HB.out.cell (World.block_lt_of_cell? w _ hw258_3)).trans hw258_3), ((HB.out.cell (World.block_lt_of_cell? w _ hw262_0)).trans hw262_0), ((HB.out.cell (World.block_lt_of_cell? w _ hw262_1)).trans hw262_1), ((HB.out.cell (World.block_lt_of_cell? w _ hw262_2)).trans hw262_2), ((HB.out.cell (World.block_lt_of_cell? w _ hw262_3)).trans hw262_3)⟩ (fun hHeld => ?_)
      clear hK K
      refine nz (some 39) ?_
      refine pT HT_.out 13 (some 5) (bn 14 16383) ?_
      refine done_ (done_of HT_.out (by kernel_rfl)) ?_
      try go_wp2
      go_roundg k1
      case measure => have := HK1.out; omega
      case rel => exact ⟨(t263), (wrap64 (x6_1 + 1)), (by first | rfl | (simp; done) | (simp [*]; done)), H', ⟨by have := HK1.out; omega⟩, ⟨by (with_reducible repeat (first | apply Kd.R_alloc | apply Kd.R_drewN | apply Kd.R_drew)); exact HO265.out⟩, ⟨HBz⟩⟩
     ·rw [if_neg c13] at H
      exact absurd H (by simp)
   ·rw [if_neg c3] at H
    have c3b0 : decide (x6_1 < (l0.length : Int)) = false := decide_eq_false c3
    clear c3
    obtain rfl := Option.some.inj H
    go_wp2
    go_ret
    exact ⟨_, by first | rfl | (simp [errW_none, errW_some] <;> rfl) | (simp [*, errW_none, errW_some] <;> rfl), by (with_reducible repeat (first | apply Kd.R_alloc | apply Kd.R_drewN | apply Kd.R_drew)); exact HO_5.out, HBz⟩
end Go.Proofs.Ytplhfbkejngioaa.X
namespace Go.Proofs.Ytplhfbkejngioaa.X
open Go.RowKit Go.Proofs.YtplhfbkejngioaaW.PrintWords Go.Proofs.YtplhfbkejngioaaW.PrintLast Go.Proofs.Ytplhfbkejngioaa.S
attribute [local go_sem] max2_int min2_int max_two min_two
set_option linter.unusedVariables false
set_option linter.unusedSimpArgs false
end Go.Proofs.Ytplhfbkejngioaa.X
namespace Go.Proofs.Ytplhfbkejngioaa.X
open Go.RowKit Go.Proofs.YtplhfbkejngioaaW.PrintWords Go.Proofs.YtplhfbkejngioaaW.PrintLast Go.Proofs.Ytplhfbkejngioaa.S
attribute [local go_sem] max2_int min2_int max_two min_two
set_option linter.unusedVariables false
set_option linter.unusedSimpArgs false
end Go.Proofs.Ytplhfbkejngioaa.X
namespace Go.Proofs.Ytplhfbkejngioaa.X
open Go.RowKit Go.Proofs.YtplhfbkejngioaaW.PrintWords
theorem blk_kept {W W2 : World} {S : Nat → Prop} {g : Nat} {o : Obj} (hb : W.heap[g]? = some o) (hk : Kept W W2 S) (hne : ¬ S g) : W2.heap[g]? = some o := (hk.2 g (blk_lt hb) hne).trans hb
theorem Kd.R_keptB {α : Type} {d : Kd α} {e base : Nat} {ok S : Nat → Prop} {W W2 : World} {v : Value} {xs : List α} (h : d.R e W base ok v xs) (hk : Kept W W2 S) (hne : ∀ k, ok k → ¬ S k) : d.R e W2 base (fun k => ok k ∧ (¬ S k ∧ k < W.heap.size)) v xs :=
 Kd.R_step (Kd.R_mono (ok' := fun k => ok k ∧ (¬ S k ∧ k < W.heap.size)) (Kd.R_bound h) (fun k hb => ⟨hb.1, hne k hb.1, hb.2.2.1⟩)) (fun k ho hlt => hk.2 k hlt ho.2.1)
end Go.Proofs.Ytplhfbkejngioaa.X
namespace Go.Proofs.Ytplhfbkejngioaa.X
open Go.RowKit Go.Proofs.YtplhfbkejngioaaW.PrintWords Go.Proofs.YtplhfbkejngioaaW.PrintLast Go.Proofs.Ytplhfbkejngioaa.S Go.Proofs.Ytplhfbkejngioaa.Geo
set_option linter.unusedVariables false
abbrev BalC (c : Ci) (l1 l2 l3 : Int) (p q r : S28) : Prop := Bal l1 l2 l3 c.X c.Y c.D p.f0 p.f1 q.f0 q.f1 r.f0 r.f1
structure Red (c c' : Ci) (g : Int) : Prop where
 g0 : g ≠ 0
 X : c.X = g * c'.X
 Y : c.Y = g * c'.Y
 D : c.D = g * c'.D
 R : c.R = g * g * c'.R
 pos : 0 < c'.D
 one : gcd3 c' = 1
theorem red_of (c : Ci) {p : S28} (hD : c.D ≠ 0) (hp : farC c p = c.R) : ∃ g, Red c (redC c) g := by
 have core : ∀ X Y D R : Int, 0 < D → (D * p.f0 - X) * (D * p.f0 - X) + (D * p.f1 - Y) * (D * p.f1 - Y) = R →
   Red ⟨X, Y, D, R⟩ ⟨X / gcd3 ⟨X, Y, D, R⟩, Y / gcd3 ⟨X, Y, D, R⟩, D / gcd3 ⟨X, Y, D, R⟩, R / (gcd3 ⟨X, Y, D, R⟩ * gcd3 ⟨X, Y, D, R⟩)⟩ (gcd3 ⟨X, Y, D, R⟩) := by
  intro X Y D R hD hR
  have hg0 := gcd3_pos X Y D R (by omega)
  obtain ⟨x, hx⟩ := gcd3_dX X Y D R
  obtain ⟨y, hy⟩ := gcd3_dY X Y D R
  obtain ⟨d, hd⟩ := gcd3_dD X Y D R
  have hgd : gcd3 ⟨X, Y, D, R⟩ = gcd3 ⟨X, Y, D, R⟩ * gcd3 ⟨x, y, d, R⟩ := by
   conv => lhs; unfold gcd3
   simp only
   have hx' : X.natAbs = (gcd3 ⟨X, Y, D, R⟩).natAbs * x.natAbs := by rw [← Int.natAbs_mul, ← hx]
   have hy' : Y.natAbs = (gcd3 ⟨X, Y, D, R⟩).natAbs * y.natAbs := by rw [← Int.natAbs_mul, ← hy]
   have hd' : D.natAbs = (gcd3 ⟨X, Y, D, R⟩).natAbs * d.natAbs := by rw [← Int.natAbs_mul, ← hd]
   have hz : (((gcd3 ⟨X, Y, D, R⟩).natAbs : Nat) : Int) = gcd3 ⟨X, Y, D, R⟩ := by omega
   rw [hx', hy', hd', Nat.gcd_mul_left, Nat.gcd_mul_left, Int.natCast_mul, hz]
   rfl
  have e1 : X / gcd3 ⟨X, Y, D, R⟩ = x := Int.ediv_eq_of_eq_mul_right (by omega) hx
  have e2 : Y / gcd3 ⟨X, Y, D, R⟩ = y := Int.ediv_eq_of_eq_mul_right (by omega) hy
  have e3 : D / gcd3 ⟨X, Y, D, R⟩ = d := Int.ediv_eq_of_eq_mul_right (by omega) hd
  rw [e1, e2, e3]
  generalize hgg : gcd3 ⟨X, Y, D, R⟩ = g at *
  have hR' : R = g * g * ((d * p.f0 - x) * (d * p.f0 - x) + (d * p.f1 - y) * (d * p.f1 - y)) := by
   rw [← hR, hx, hy, hd]; grind
  have e4 : R / (g * g) = (d * p.f0 - x) * (d * p.f0 - x) + (d * p.f1 - y) * (d * p.f1 - y) :=
   Int.ediv_eq_of_eq_mul_right (Int.ne_of_gt (Int.mul_pos hg0 hg0)) hR'
  have hdp : 0 < d := by
   rcases Int.lt_or_le 0 d with h | h
   ·exact h
   ·have := Int.mul_nonneg (Int.le_of_lt hg0) (Int.neg_nonneg.2 h)
    rw [Int.mul_neg] at this
    omega
  refine ⟨by simpa using Int.ne_of_gt hg0, hx, hy, hd, ?_, hdp, ?_⟩
  ·simp only; rw [e4]; exact hR'
  ·have h1 : g * 1 = g * gcd3 ⟨x, y, d, R⟩ := by rw [Int.mul_one]; exact hgd
   have h2 := Int.eq_of_mul_eq_mul_left (Int.ne_of_gt hg0) h1
   unfold gcd3 at h2 ⊢
   simp only at h2 ⊢
   exact h2.symm
 unfold farC at hp
 by_cases hn : c.D < 0
 ·have h := core (-c.X) (-c.Y) (-c.D) c.R (by omega) (by rw [← hp]; grind)
  have e : redC c = ⟨-c.X / gcd3 ⟨-c.X, -c.Y, -c.D, c.R⟩, -c.Y / gcd3 ⟨-c.X, -c.Y, -c.D, c.R⟩, -c.D / gcd3 ⟨-c.X, -c.Y, -c.D, c.R⟩, c.R / (gcd3 ⟨-c.X, -c.Y, -c.D, c.R⟩ * gcd3 ⟨-c.X, -c.Y, -c.D, c.R⟩)⟩ := by
   unfold redC; simp only [if_pos hn]
  rw [e]
  generalize gcd3 ⟨-c.X, -c.Y, -c.D, c.R⟩ = g at h
  refine ⟨-g, ⟨by have := h.g0; omega, ?_, ?_, ?_, ?_, h.pos, h.one⟩⟩
  ·have := h.X; simp only at this ⊢; rw [Int.neg_mul]; omega
  ·have := h.Y; simp only at this ⊢; rw [Int.neg_mul]; omega
  ·have := h.D; simp only at this ⊢; rw [Int.neg_mul]; omega
  ·have := h.R; simp only at this ⊢; rw [Int.neg_mul_neg]; exact this
 ·have h := core c.X c.Y c.D c.R (by omega) hp
  have e : redC c = ⟨c.X / gcd3 c, c.Y / gcd3 c, c.D / gcd3 c, c.R / (gcd3 c * gcd3 c)⟩ := by
   unfold redC; simp only [if_neg hn]
  rw [e]
  exact ⟨_, h⟩
theorem Red.far {c c' : Ci} {g : Int} (h : Red c c' g) (p : S28) : farC c p = g * g * farC c' p := by
 unfold farC; rw [h.X, h.Y, h.D]; grind
theorem Red.crs {c c' : Ci} {g : Int} (h : Red c c' g) (p q : S28) : crsC c p q = g * g * crsC c' p q := by
 unfold crsC; rw [h.X, h.Y, h.D]; grind
theorem Red.gg {c c' : Ci} {g : Int} (h : Red c c' g) : 0 < g * g := sq_pos h.g0
theorem Red.on {c c' : Ci} {g : Int} (h : Red c c' g) {p : S28} (hp : farC c p = c.R) : farC c' p = c'.R := by
 have := h.far p
 rw [hp, h.R] at this
 exact (Int.eq_of_mul_eq_mul_left (Int.ne_of_gt h.gg) this).symm
theorem Red.le {c c' : Ci} {g : Int} (h : Red c c' g) {p : S28} (hp : farC c p ≤ c.R) : farC c' p ≤ c'.R := by
 rw [h.far p, h.R] at hp
 exact Int.le_of_mul_le_mul_left hp h.gg
theorem mul_sum0 {g a b : Int} (hg : g ≠ 0) (h : g * a + g * b = 0) : a + b = 0 := by
 rw [← Int.mul_add] at h
 rcases Int.mul_eq_zero.1 h with h | h
 ·exact absurd h hg
 ·exact h
def betU (a b : S28) : Ci := ⟨a.f0 + b.f0, a.f1 + b.f1, 2, (a.f0 - b.f0) * (a.f0 - b.f0) + (a.f1 - b.f1) * (a.f1 - b.f1)⟩
theorem bet_a (a b : S28) : farC (betU a b) a = (betU a b).R := by unfold farC betU; simp only; grind
theorem bet_b (a b : S28) : farC (betU a b) b = (betU a b).R := by unfold farC betU; simp only; grind
theorem bet_c (a b c : S28) : farC (betU a b) c = (betU a b).R + 4 * ((a.f0 - c.f0) * (b.f0 - c.f0) + (a.f1 - c.f1) * (b.f1 - c.f1)) := by unfold farC betU; simp only; grind
theorem bet_red (a b : S28) : ∃ g, Red (betU a b) (betC a b) g := red_of (betU a b) (p := a) (by unfold betU; simp) (bet_a a b)
theorem bet_bal (a b c : S28) : BalC (betC a b) 1 1 0 a b c := by
 obtain ⟨g, h⟩ := bet_red a b
 have hX : a.f0 + b.f0 = g * (betC a b).X := h.X
 have hY : a.f1 + b.f1 = g * (betC a b).Y := h.Y
 have hD : 2 = g * (betC a b).D := h.D
 refine ⟨by omega, by omega, by omega, by omega, ?_, ?_⟩
 ·rw [Int.one_mul, Int.one_mul, Int.zero_mul, Int.add_zero]
  refine mul_sum0 h.g0 ?_
  grind
 ·rw [Int.one_mul, Int.one_mul, Int.zero_mul, Int.add_zero]
  refine mul_sum0 h.g0 ?_
  grind
theorem bet_three (a b c : S28) (h : (a.f0 - c.f0) * (b.f0 - c.f0) + (a.f1 - c.f1) * (b.f1 - c.f1) ≤ 0) :
  farC (betC a b) a ≤ (betC a b).R ∧ farC (betC a b) b ≤ (betC a b).R ∧ farC (betC a b) c ≤ (betC a b).R := by
 obtain ⟨g, hr⟩ := bet_red a b
 refine ⟨hr.le (Int.le_of_eq (bet_a a b)), hr.le (Int.le_of_eq (bet_b a b)), hr.le ?_⟩
 rw [bet_c]; omega
theorem thr_core (ux uy vx vy d p q s wx wy : Int) (hd : d = 2 * (ux * vy - uy * vx)) (hp : p = ux * ux + uy * uy) (hq : q = vx * vx + vy * vy) (hs : s = ux * vx + uy * vy)
  (hwx : wx = vy * p - uy * q) (hwy : wy = ux * q - vx * p) :
  d * p = 2 * (ux * wx + uy * wy) ∧ d * q = 2 * (vx * wx + vy * wy) ∧ wy * ux - wx * uy = p * (q - s) ∧ vy * wx - vx * wy = q * (p - s) ∧ d * d = 4 * (p * q - s * s) := by
 subst hd hwx hwy
 refine ⟨?_, ?_, ?_, ?_, ?_⟩
 ·grind
 ·grind
 ·grind
 ·grind
 ·grind
structure ThrFacts (a b c : S28) : Prop where
 fa : farC (thrU a b c) a = (thrU a b c).R
 fb : farC (thrU a b c) b = (thrU a b c).R
 fc : farC (thrU a b c) c = (thrU a b c).R
 ab : crsC (thrU a b c) a b = crossD a b c * (((a.f0 - b.f0) * (a.f0 - b.f0) + (a.f1 - b.f1) * (a.f1 - b.f1)) * ((a.f0 - c.f0) * (b.f0 - c.f0) + (a.f1 - c.f1) * (b.f1 - c.f1)))
 bc : crsC (thrU a b c) b c = crossD a b c * (((b.f0 - c.f0) * (b.f0 - c.f0) + (b.f1 - c.f1) * (b.f1 - c.f1)) * ((b.f0 - a.f0) * (c.f0 - a.f0) + (b.f1 - a.f1) * (c.f1 - a.f1)))
 ca : crsC (thrU a b c) c a = crossD a b c * (((a.f0 - c.f0) * (a.f0 - c.f0) + (a.f1 - c.f1) * (a.f1 - c.f1)) * ((a.f0 - b.f0) * (c.f0 - b.f0) + (a.f1 - b.f1) * (c.f1 - b.f1)))
 dd : crossD a b c * crossD a b c = 4 * (((a.f0 - b.f0) * (a.f0 - b.f0) + (a.f1 - b.f1) * (a.f1 - b.f1)) * ((a.f0 - c.f0) * (a.f0 - c.f0) + (a.f1 - c.f1) * (a.f1 - c.f1)) -
   ((b.f0 - a.f0) * (c.f0 - a.f0) + (b.f1 - a.f1) * (c.f1 - a.f1)) * ((b.f0 - a.f0) * (c.f0 - a.f0) + (b.f1 - a.f1) * (c.f1 - a.f1)))
theorem thr_facts (a b c : S28) : ThrFacts a b c := by
 obtain ⟨ax, ay⟩ := a
 obtain ⟨bx, by'⟩ := b
 obtain ⟨cx, cy⟩ := c
 obtain ⟨ux, rfl⟩ : ∃ u, bx = ax + u := ⟨bx - ax, by omega⟩
 obtain ⟨uy, rfl⟩ : ∃ u, by' = ay + u := ⟨by' - ay, by omega⟩
 obtain ⟨vx, rfl⟩ : ∃ u, cx = ax + u := ⟨cx - ax, by omega⟩
 obtain ⟨vy, rfl⟩ : ∃ u, cy = ay + u := ⟨cy - ay, by omega⟩
 have s0 : ∀ x y : Int, x + y - x = y := fun x y => by omega
 have s1 : ∀ x y : Int, x - (x + y) = -y := fun x y => by omega
 have s2 : ∀ x y z : Int, x + y - (x + z) = y - z := fun x y z => by omega
 obtain ⟨k1, k2, k3, k4, k5⟩ := thr_core ux uy vx vy _ _ _ _ _ _ rfl rfl rfl rfl rfl rfl
 have hU : thrU ⟨ax, ay⟩ ⟨ax + ux, ay + uy⟩ ⟨ax + vx, ay + vy⟩ = ⟨ax * (2 * (ux * vy - uy * vx)) + (vy * (ux * ux + uy * uy) - uy * (vx * vx + vy * vy)), ay * (2 * (ux * vy - uy * vx)) + (ux * (vx * vx + vy * vy) - vx * (ux * ux + uy * uy)), 2 * (ux * vy - uy * vx),
   (vy * (ux * ux + uy * uy) - uy * (vx * vx + vy * vy)) * (vy * (ux * ux + uy * uy) - uy * (vx * vx + vy * vy)) + (ux * (vx * vx + vy * vy) - vx * (ux * ux + uy * uy)) * (ux * (vx * vx + vy * vy) - vx * (ux * ux + uy * uy))⟩ := by
  unfold thrU crossD; simp only [s0]
 have hC : crossD ⟨ax, ay⟩ ⟨ax + ux, ay + uy⟩ ⟨ax + vx, ay + vy⟩ = 2 * (ux * vy - uy * vx) := by unfold crossD; simp only [s0]
 generalize hd : 2 * (ux * vy - uy * vx) = d at *
 generalize hp : ux * ux + uy * uy = p at *
 generalize hq : vx * vx + vy * vy = q at *
 generalize hwx : vy * p - uy * q = wx at *
 generalize hwy : ux * q - vx * p = wy at *
 have t1 : ∀ x u w : Int, d * (x + u) - (x * d + w) = d * u - w := fun x u w => by grind
 have t0 : ∀ x w : Int, d * x - (x * d + w) = -w := fun x w => by grind
 refine ⟨?_, ?_, ?_, ?_, ?_, ?_, ?_⟩
 ·rw [hU]; unfold farC; simp only [t0]; grind
 ·rw [hU]; unfold farC; simp only [t1]; grind
 ·rw [hU]; unfold farC; simp only [t1]; grind
 ·rw [hU, hC]; unfold crsC; simp only [t0, t1, s1, s2]; grind
 ·rw [hU, hC]; unfold crsC; simp only [t1, s0, s2]; grind
 ·rw [hU, hC]; unfold crsC; simp only [t0, t1, s1, s2]; grind
 ·rw [hC]; simp only [s0, s1]; grind
end Go.Proofs.Ytplhfbkejngioaa.X
namespace Go.Proofs.Ytplhfbkejngioaa.X
open Go.RowKit Go.Proofs.YtplhfbkejngioaaW.PrintWords Go.Proofs.YtplhfbkejngioaaW.PrintLast Go.Proofs.Ytplhfbkejngioaa.S Go.Proofs.Ytplhfbkejngioaa.Geo
set_option linter.unusedVariables false
theorem thr_Red {a b c : S28} (h : crossD a b c ≠ 0) : ∃ g, Red (thrU a b c) (thrC a b c) g :=
 red_of (thrU a b c) (p := a) h (thr_facts a b c).fa
theorem cross_bal (c : Ci) (p q r : S28) :
  crsC c q r * (c.D * p.f0 - c.X) + crsC c r p * (c.D * q.f0 - c.X) + crsC c p q * (c.D * r.f0 - c.X) = 0 ∧
  crsC c q r * (c.D * p.f1 - c.Y) + crsC c r p * (c.D * q.f1 - c.Y) + crsC c p q * (c.D * r.f1 - c.Y) = 0 := by
 unfold crsC
 constructor <;> grind
theorem crs_swap (c : Ci) (p q : S28) : crsC c q p = -crsC c p q := by unfold crsC; grind
theorem ins3_cases {c : Ci} {p q r : S28} (h : insC3 c p q r = true) :
  (0 ≤ crsC c p q ∧ 0 ≤ crsC c q r ∧ 0 ≤ crsC c r p ∧ 0 < crsC c p q + crsC c q r + crsC c r p) ∨
  (crsC c p q ≤ 0 ∧ crsC c q r ≤ 0 ∧ crsC c r p ≤ 0 ∧ crsC c p q + crsC c q r + crsC c r p < 0) := by
 unfold insC3 at h
 rw [bne_iff_ne, ne_eq, Bool.eq_iff_iff] at h
 simp only [Bool.or_eq_true, decide_eq_true_eq] at h
 omega
structure Sup (c : Ci) (p q r : S28) : Prop where
 pos : 0 < c.D
 one : gcd3 c = 1
 fp : farC c p = c.R
 fq : farC c q = c.R
 fr : farC c r = c.R
 bal : ∃ l1 l2 l3, BalC c l1 l2 l3 p q r
theorem one_sup (p : S28) : Sup ⟨p.f0, p.f1, 1, 0⟩ p p p := by
 refine ⟨by simp, ?_, ?_, ?_, ?_, ⟨1, 0, 0, ?_⟩⟩
 ·unfold gcd3; simp
 ·unfold farC; simp only; grind
 ·unfold farC; simp only; grind
 ·unfold farC; simp only; grind
 ·refine ⟨by omega, by omega, by omega, by omega, ?_, ?_⟩ <;> simp only <;> grind
theorem two_sup (a b : S28) : Sup (betC a b) a b b := by
 obtain ⟨g, h⟩ := bet_red a b
 exact ⟨h.pos, h.one, h.on (bet_a a b), h.on (bet_b a b), h.on (bet_b a b), ⟨1, 1, 0, bet_bal a b b⟩⟩
theorem three_bal {c : Ci} {p q r : S28} (h : insC3 c p q r = true) : ∃ s : Int, (s = 1 ∨ s = -1) ∧ 0 ≤ s * crsC c q r ∧ 0 ≤ s * crsC c r p ∧ 0 ≤ s * crsC c p q ∧ 0 < s * crsC c q r + s * crsC c r p + s * crsC c p q ∧
  BalC c (s * crsC c q r) (s * crsC c r p) (s * crsC c p q) p q r := by
 obtain ⟨hx, hy⟩ := cross_bal c p q r
 rcases ins3_cases h with ⟨h1, h2, h3, h4⟩ | ⟨h1, h2, h3, h4⟩
 ·refine ⟨1, Or.inl rfl, by omega, by omega, by omega, by omega, by omega, by omega, by omega, by omega, ?_, ?_⟩ <;> grind
 ·refine ⟨-1, Or.inr rfl, by omega, by omega, by omega, by omega, by omega, by omega, by omega, by omega, ?_, ?_⟩ <;> grind
theorem three_sup {a b c : S28} (h : crossD a b c ≠ 0) (hi : insC3 (thrC a b c) a b c = true) : Sup (thrC a b c) a b c := by
 obtain ⟨g, hr⟩ := thr_Red h
 have f := thr_facts a b c
 obtain ⟨s, _, _, _, _, _, hb⟩ := three_bal hi
 exact ⟨hr.pos, hr.one, hr.on f.fa, hr.on f.fb, hr.on f.fc, ⟨_, _, _, hb⟩⟩
theorem mem_two {l : List S28} {i j : Nat} (hij : i < j) (hj : j < l.length) : (⟨betC (pt l i) (pt l j), [(i : Int), (j : Int)]⟩ : Cand) ∈ cands l := by
 refine List.mem_cons_of_mem _ (List.mem_append_left _ ?_)
 unfold cands2
 rw [List.mem_flatMap]
 refine ⟨j, List.mem_range.2 hj, ?_⟩
 rw [List.mem_map]
 exact ⟨i, List.mem_range.2 hij, rfl⟩
theorem mem_three {l : List S28} {i j k : Nat} (hij : i < j) (hjk : j < k) (hk : k < l.length) (h : crossD (pt l i) (pt l j) (pt l k) ≠ 0)
  (hi : insC3 (thrC (pt l i) (pt l j) (pt l k)) (pt l i) (pt l j) (pt l k) = true) : (⟨thrC (pt l i) (pt l j) (pt l k), [(i : Int), (j : Int), (k : Int)]⟩ : Cand) ∈ cands l := by
 refine List.mem_cons_of_mem _ (List.mem_append_right _ ?_)
 unfold cands3
 rw [List.mem_flatMap]
 refine ⟨k, List.mem_range.2 hk, ?_⟩
 rw [List.mem_flatMap]
 refine ⟨j, List.mem_range.2 hjk, ?_⟩
 rw [List.mem_flatMap]
 refine ⟨i, List.mem_range.2 hij, ?_⟩
 unfold cand3
 rw [if_neg h, if_pos hi]
 exact List.mem_cons_self ..
theorem cands_cases {l : List S28} {x : Cand} (h : x ∈ cands l) :
  x = ⟨⟨(pt l 0).f0, (pt l 0).f1, 1, 0⟩, [0]⟩ ∨ (∃ i j : Nat, i < j ∧ j < l.length ∧ x = ⟨betC (pt l i) (pt l j), [(i : Int), (j : Int)]⟩) ∨
  ∃ i j k : Nat, i < j ∧ j < k ∧ k < l.length ∧ crossD (pt l i) (pt l j) (pt l k) ≠ 0 ∧ insC3 (thrC (pt l i) (pt l j) (pt l k)) (pt l i) (pt l j) (pt l k) = true ∧
   x = ⟨thrC (pt l i) (pt l j) (pt l k), [(i : Int), (j : Int), (k : Int)]⟩ := by
 unfold cands at h
 rw [List.mem_cons, List.mem_append] at h
 rcases h with h | h | h
 ·exact Or.inl h
 ·right; left
  unfold cands2 at h
  rw [List.mem_flatMap] at h
  obtain ⟨j, hj, h⟩ := h
  rw [List.mem_map] at h
  obtain ⟨i, hi, h⟩ := h
  exact ⟨i, j, List.mem_range.1 hi, List.mem_range.1 hj, h.symm⟩
 ·right; right
  unfold cands3 at h
  rw [List.mem_flatMap] at h
  obtain ⟨k, hk, h⟩ := h
  rw [List.mem_flatMap] at h
  obtain ⟨j, hj, h⟩ := h
  rw [List.mem_flatMap] at h
  obtain ⟨i, hi, h⟩ := h
  unfold cand3 at h
  split at h
  ·cases h
  ·rename_i hc
   split at h
   ·rename_i hin
    rw [List.mem_singleton] at h
    exact ⟨i, j, k, List.mem_range.1 hi, List.mem_range.1 hj, List.mem_range.1 hk, hc, hin, h⟩
   ·cases h
theorem cands_sup {l : List S28} (hl : 0 < l.length) {x : Cand} (h : x ∈ cands l) : ∃ p q r, p ∈ l ∧ q ∈ l ∧ r ∈ l ∧ Sup x.c p q r := by
 have hm : ∀ i : Nat, i < l.length → pt l i ∈ l := fun i hi => by
  unfold pt
  rw [List.getD_eq_getElem?_getD, List.getElem?_eq_getElem hi]
  exact List.getElem_mem hi
 rcases cands_cases h with rfl | ⟨i, j, hij, hj, rfl⟩ | ⟨i, j, k, hij, hjk, hk, hc, hin, rfl⟩
 ·exact ⟨_, _, _, hm 0 hl, hm 0 hl, hm 0 hl, one_sup _⟩
 ·exact ⟨_, _, _, hm i (by omega), hm j hj, hm j hj, two_sup _ _⟩
 ·exact ⟨_, _, _, hm i (by omega), hm j (by omega), hm k hk, three_sup hc hin⟩
def enc3 (l : List S28) (i j k : Nat) : Prop := ∃ x ∈ cands l, farC x.c (pt l i) ≤ x.c.R ∧ farC x.c (pt l j) ≤ x.c.R ∧ farC x.c (pt l k) ≤ x.c.R
theorem enc3_asc {l : List S28} {i j k : Nat} (hij : i < j) (hjk : j < k) (hk : k < l.length) : enc3 l i j k := by
 by_cases hc : ((pt l i).f0 - (pt l k).f0) * ((pt l j).f0 - (pt l k).f0) + ((pt l i).f1 - (pt l k).f1) * ((pt l j).f1 - (pt l k).f1) ≤ 0
 ·obtain ⟨h1, h2, h3⟩ := bet_three _ _ _ hc
  exact ⟨_, mem_two hij (by omega), h1, h2, h3⟩
 by_cases hb : ((pt l i).f0 - (pt l j).f0) * ((pt l k).f0 - (pt l j).f0) + ((pt l i).f1 - (pt l j).f1) * ((pt l k).f1 - (pt l j).f1) ≤ 0
 ·obtain ⟨h1, h2, h3⟩ := bet_three _ _ _ hb
  exact ⟨_, mem_two (by omega : i < k) hk, h1, h3, h2⟩
 by_cases ha : ((pt l j).f0 - (pt l i).f0) * ((pt l k).f0 - (pt l i).f0) + ((pt l j).f1 - (pt l i).f1) * ((pt l k).f1 - (pt l i).f1) ≤ 0
 ·obtain ⟨h1, h2, h3⟩ := bet_three _ _ _ ha
  exact ⟨_, mem_two hjk hk, h3, h1, h2⟩
 generalize hA : pt l i = a at *
 generalize hB : pt l j = b at *
 generalize hC : pt l k = c at *
 have f := thr_facts a b c
 have hd0 : crossD a b c ≠ 0 := by
  intro h0
  have h := f.dd
  rw [h0] at h
  have e1 : (a.f0 - b.f0) * (a.f0 - b.f0) + (a.f1 - b.f1) * (a.f1 - b.f1) = ((a.f0 - b.f0) * (c.f0 - b.f0) + (a.f1 - b.f1) * (c.f1 - b.f1)) + ((b.f0 - a.f0) * (c.f0 - a.f0) + (b.f1 - a.f1) * (c.f1 - a.f1)) := by grind
  have e2 : (a.f0 - c.f0) * (a.f0 - c.f0) + (a.f1 - c.f1) * (a.f1 - c.f1) = ((a.f0 - c.f0) * (b.f0 - c.f0) + (a.f1 - c.f1) * (b.f1 - c.f1)) + ((b.f0 - a.f0) * (c.f0 - a.f0) + (b.f1 - a.f1) * (c.f1 - a.f1)) := by grind
  rw [e1, e2] at h
  generalize (b.f0 - a.f0) * (c.f0 - a.f0) + (b.f1 - a.f1) * (c.f1 - a.f1) = s at *
  generalize (a.f0 - b.f0) * (c.f0 - b.f0) + (a.f1 - b.f1) * (c.f1 - b.f1) = t at *
  generalize (a.f0 - c.f0) * (b.f0 - c.f0) + (a.f1 - c.f1) * (b.f1 - c.f1) = u at *
  have p1 := Int.mul_pos (by omega : 0 < t) (by omega : 0 < u)
  have p2 := Int.mul_pos (by omega : 0 < t) (by omega : 0 < s)
  have p3 := Int.mul_pos (by omega : 0 < s) (by omega : 0 < u)
  have e : (t + s) * (u + s) - s * s = t * u + t * s + s * u := by grind
  rw [e] at h
  omega
 obtain ⟨g, hr⟩ := thr_Red hd0
 have sq : ∀ p q : S28, 0 ≤ (p.f0 - q.f0) * (p.f0 - q.f0) + (p.f1 - q.f1) * (p.f1 - q.f1) := fun p q => ssq_nonneg _ _
 have nz : ∀ p q : S28, (p.f0 - q.f0) * (p.f0 - q.f0) + (p.f1 - q.f1) * (p.f1 - q.f1) ≤ 0 → p = q := by
  intro p q h
  obtain ⟨h1, h2⟩ := ssq_zero h
  obtain ⟨p0, p1⟩ := p
  obtain ⟨q0, q1⟩ := q
  simp only at h1 h2
  obtain rfl : p0 = q0 := by omega
  obtain rfl : p1 = q1 := by omega
  rfl
 have nab : 0 < (a.f0 - b.f0) * (a.f0 - b.f0) + (a.f1 - b.f1) * (a.f1 - b.f1) := by
  refine Int.not_le.1 fun h => hd0 ?_
  rw [nz a b h]; unfold crossD; grind
 have nbc : 0 < (b.f0 - c.f0) * (b.f0 - c.f0) + (b.f1 - c.f1) * (b.f1 - c.f1) := by
  refine Int.not_le.1 fun h => hd0 ?_
  rw [nz b c h]; unfold crossD; grind
 have nac : 0 < (a.f0 - c.f0) * (a.f0 - c.f0) + (a.f1 - c.f1) * (a.f1 - c.f1) := by
  refine Int.not_le.1 fun h => hd0 ?_
  rw [nz a c h]; unfold crossD; grind
 have v1 := Int.mul_pos nab (by omega : 0 < (a.f0 - c.f0) * (b.f0 - c.f0) + (a.f1 - c.f1) * (b.f1 - c.f1))
 have v2 := Int.mul_pos nbc (by omega : 0 < (b.f0 - a.f0) * (c.f0 - a.f0) + (b.f1 - a.f1) * (c.f1 - a.f1))
 have v3 := Int.mul_pos nac (by omega : 0 < (a.f0 - b.f0) * (c.f0 - b.f0) + (a.f1 - b.f1) * (c.f1 - b.f1))
 have hin : insC3 (thrC a b c) a b c = true := by
  have w1 := f.ab; have w2 := f.bc; have w3 := f.ca
  rw [hr.crs] at w1 w2 w3
  generalize ((a.f0 - b.f0) * (a.f0 - b.f0) + (a.f1 - b.f1) * (a.f1 - b.f1)) * ((a.f0 - c.f0) * (b.f0 - c.f0) + (a.f1 - c.f1) * (b.f1 - c.f1)) = m1 at *
  generalize ((b.f0 - c.f0) * (b.f0 - c.f0) + (b.f1 - c.f1) * (b.f1 - c.f1)) * ((b.f0 - a.f0) * (c.f0 - a.f0) + (b.f1 - a.f1) * (c.f1 - a.f1)) = m2 at *
  generalize ((a.f0 - c.f0) * (a.f0 - c.f0) + (a.f1 - c.f1) * (a.f1 - c.f1)) * ((a.f0 - b.f0) * (c.f0 - b.f0) + (a.f1 - b.f1) * (c.f1 - b.f1)) = m3 at *
  have gg := hr.gg
  unfold insC3
  rcases Int.lt_or_gt_of_ne hd0 with hn | hn
  ·have sg : ∀ x m : Int, 0 < m → g * g * x = crossD a b c * m → x < 0 := by
    intro x m hm h
    refine Int.not_le.1 fun hx => ?_
    have y1 := Int.mul_nonneg (Int.le_of_lt gg) hx
    have y2 := Int.mul_pos (Int.neg_pos.2 hn) hm
    rw [Int.neg_mul] at y2
    omega
   have x1 := sg _ _ v1 w1
   have x2 := sg _ _ v2 w2
   have x3 := sg _ _ v3 w3
   have y1 : ¬ 0 < crsC (thrC a b c) a b := by omega
   have y2 : ¬ 0 < crsC (thrC a b c) b c := by omega
   have y3 : ¬ 0 < crsC (thrC a b c) c a := by omega
   simp [x1, x2, x3, y1, y2, y3]
  ·have sg : ∀ x m : Int, 0 < m → g * g * x = crossD a b c * m → 0 < x := by
    intro x m hm h
    refine Int.not_le.1 fun hx => ?_
    have y1 := Int.mul_nonneg (Int.le_of_lt gg) (Int.neg_nonneg.2 hx)
    have y2 := Int.mul_pos hn hm
    rw [Int.mul_neg] at y1
    omega
   have x1 := sg _ _ v1 w1
   have x2 := sg _ _ v2 w2
   have x3 := sg _ _ v3 w3
   have y1 : ¬ crsC (thrC a b c) a b < 0 := by omega
   have y2 : ¬ crsC (thrC a b c) b c < 0 := by omega
   have y3 : ¬ crsC (thrC a b c) c a < 0 := by omega
   simp [x1, x2, x3, y1, y2, y3]
 subst hA hB hC
 have S := three_sup hd0 hin
 exact ⟨_, mem_three hij hjk hk hd0 hin, Int.le_of_eq S.fp, Int.le_of_eq S.fq, Int.le_of_eq S.fr⟩
theorem enc3_any {l : List S28} {i j k : Nat} (hi : i < l.length) (hj : j < l.length) (hk : k < l.length) (hij : i ≠ j) (hik : i ≠ k) (hjk : j ≠ k) : enc3 l i j k := by
 have sw : ∀ i j k, enc3 l i j k → enc3 l j i k := fun i j k ⟨x, hx, h1, h2, h3⟩ => ⟨x, hx, h2, h1, h3⟩
 have sw' : ∀ i j k, enc3 l i j k → enc3 l i k j := fun i j k ⟨x, hx, h1, h2, h3⟩ => ⟨x, hx, h1, h3, h2⟩
 rcases Nat.lt_or_gt_of_ne hij with h1 | h1 <;> rcases Nat.lt_or_gt_of_ne hik with h2 | h2 <;> rcases Nat.lt_or_gt_of_ne hjk with h3 | h3
 ·exact enc3_asc h1 h3 hk
 ·exact sw' _ _ _ (enc3_asc h2 h3 hj)
 ·omega
 ·exact sw' _ _ _ (sw _ _ _ (enc3_asc h2 h1 hj))
 ·exact sw _ _ _ (enc3_asc h1 h2 hk)
 ·omega
 ·exact sw _ _ _ (sw' _ _ _ (enc3_asc h3 h2 hi))
 ·exact sw' _ _ _ (sw _ _ _ (sw' _ _ _ (enc3_asc h3 h1 hi)))
end Go.Proofs.Ytplhfbkejngioaa.X
namespace Go.Proofs.Ytplhfbkejngioaa.X
open Go.RowKit Go.Proofs.YtplhfbkejngioaaW.PrintWords Go.Proofs.YtplhfbkejngioaaW.PrintLast Go.Proofs.Ytplhfbkejngioaa.S Go.Proofs.Ytplhfbkejngioaa.Geo
set_option linter.unusedVariables false
def ltC (c c' : Ci) : Prop := c'.D * c'.D * c.R < c.D * c.D * c'.R
theorem greater3 {l : List S28} {c : Ci} {i j k : Nat} (hl : 0 < l.length) {l1 l2 l3 : Int} (b : BalC c l1 l2 l3 (pt l i) (pt l j) (pt l k)) (fi : farC c (pt l i) = c.R) (fj : farC c (pt l j) = c.R) (fk : c.R < farC c (pt l k))
  (he : enc3 l i j k) : ∃ y ∈ cands l, ltC c y.c := by
 obtain ⟨y, hy, h1, h2, h3⟩ := he
 obtain ⟨p, q, r, _, _, _, S⟩ := cands_sup hl hy
 exact ⟨y, hy, greater b S.pos fi fj fk h1 h2 h3⟩
theorem sign_pick {A B C α β γ : Int} (hA : 0 < A) (hB : 0 < B) (hC : 0 < C) (h : A * α + B * β + C * γ = 0) : (α ≤ 0 ∧ 0 ≤ β) ∨ (β ≤ 0 ∧ 0 ≤ γ) ∨ (γ ≤ 0 ∧ 0 ≤ α) := by
 have pos : ∀ {A a : Int}, 0 < A → 0 < a → 0 < A * a := fun h1 h2 => Int.mul_pos h1 h2
 by_cases h1 : 0 < α ∧ 0 < β ∧ 0 < γ
 ·have := pos hA h1.1; have := pos hB h1.2.1; have := pos hC h1.2.2; omega
 ·by_cases h2 : 0 < -α ∧ 0 < -β ∧ 0 < -γ
  ·have := pos hA h2.1; have := pos hB h2.2.1; have := pos hC h2.2.2
   simp only [Int.mul_neg] at *
   omega
  ·omega
theorem cone_eq (s : Int) {a b d x y z : Int} (h : a * x + b * y + d * z = 0) : s * a * x + s * b * y + s * d * z = 0 := by
 have e : s * a * x + s * b * y + s * d * z = s * (a * x + b * y + d * z) := by grind
 rw [e, h, Int.mul_zero]
theorem improve {l : List S28} {x : Cand} (hx : x ∈ cands l) {m : Nat} (hm : m < l.length) (ho : x.c.R < farC x.c (pt l m)) : ∃ y ∈ cands l, ltC x.c y.c := by
 have hl : 0 < l.length := by omega
 rcases cands_cases hx with rfl | ⟨i, j, hij, hj, rfl⟩ | ⟨i, j, k, hij, hjk, hk, hc, hin, rfl⟩
 ·have S := one_sup (pt l 0)
  have h0 : 0 < m := by
   rcases Nat.eq_zero_or_pos m with h | h
   ·subst h; have := S.fp; simp only at ho this; omega
   ·exact h
  have S2 := two_sup (pt l 0) (pt l m)
  have b : BalC ⟨(pt l 0).f0, (pt l 0).f1, 1, 0⟩ 1 0 0 (pt l 0) (pt l 0) (pt l m) := by
   refine ⟨by omega, by omega, by omega, by omega, ?_, ?_⟩ <;> simp only <;> grind
  exact ⟨_, mem_two h0 hm, greater b S2.pos S.fp S.fp ho (Int.le_of_eq S2.fp) (Int.le_of_eq S2.fp) (Int.le_of_eq S2.fq)⟩
 ·have S := two_sup (pt l i) (pt l j)
  have n1 : i ≠ m := by rintro rfl; have := S.fp; simp only at ho this; omega
  have n2 : j ≠ m := by rintro rfl; have := S.fq; simp only at ho this; omega
  exact greater3 hl (bet_bal (pt l i) (pt l j) (pt l m)) S.fp S.fq ho (enc3_any (by omega) hj hm (by omega) n1 n2)
 ·have S := three_sup hc hin
  obtain ⟨s, hs, hA, hB, hC, hsum, b⟩ := three_bal hin
  simp only at ho ⊢
  generalize thrC (pt l i) (pt l j) (pt l k) = c at *
  have n1 : i ≠ m := by rintro rfl; have := S.fp; omega
  have n2 : j ≠ m := by rintro rfl; have := S.fq; omega
  have n3 : k ≠ m := by rintro rfl; have := S.fr; omega
  have bx := b.hx
  have by' := b.hy
  have eij := enc3_any (l := l) (by omega : i < l.length) (by omega : j < l.length) hm (by omega) n1 n2
  have ejk := enc3_any (l := l) (by omega : j < l.length) hk hm (by omega) n2 n3
  have eki := enc3_any (l := l) hk (by omega : i < l.length) hm (by omega) n3 n1
  have hpq : crsC c (pt l i) (pt l j) = crsC c (pt l i) (pt l j) := rfl
  generalize hP : pt l i = p at *
  generalize hQ : pt l j = q at *
  generalize hR : pt l k = r at *
  generalize hV : pt l m = v at *
  have use2 : ∀ (i j : Nat) (A B C : Int), 0 ≤ A → 0 ≤ B → 0 ≤ C → 0 < A + B + C →
    A * (c.D * (pt l i).f0 - c.X) + B * (c.D * (pt l j).f0 - c.X) + C * (c.D * (pt l m).f0 - c.X) = 0 → A * (c.D * (pt l i).f1 - c.Y) + B * (c.D * (pt l j).f1 - c.Y) + C * (c.D * (pt l m).f1 - c.Y) = 0 →
    farC c (pt l i) = c.R → farC c (pt l j) = c.R → enc3 l i j m → ∃ y ∈ cands l, ltC c y.c := by
   intro i j A B C h1 h2 h3 h4 h5 h6 h7 h8 h9
   exact greater3 hl ⟨h1, h2, h3, h4, h5, h6⟩ h7 h8 (by rw [hV]; exact ho) h9
  have z : ∀ x : Int, (0 : Int) * x = 0 := fun x => Int.zero_mul x
  by_cases hC0 : s * crsC c p q = 0
  ·refine use2 i j _ _ 0 hA hB (by omega) (by omega) ?_ ?_ (by rw [hP]; exact S.fp) (by rw [hQ]; exact S.fq) eij
   ·rw [hC0] at bx; rw [hP, hQ, z]; rw [z] at bx; exact bx
   ·rw [hC0] at by'; rw [hP, hQ, z]; rw [z] at by'; exact by'
  by_cases hA0 : s * crsC c q r = 0
  ·refine use2 j k _ _ 0 hB hC (by omega) (by omega) ?_ ?_ (by rw [hQ]; exact S.fq) (by rw [hR]; exact S.fr) ejk
   ·rw [hA0] at bx; rw [hQ, hR, z]; rw [z] at bx; omega
   ·rw [hA0] at by'; rw [hQ, hR, z]; rw [z] at by'; omega
  by_cases hB0 : s * crsC c r p = 0
  ·refine use2 k i _ _ 0 hC hA (by omega) (by omega) ?_ ?_ (by rw [hR]; exact S.fr) (by rw [hP]; exact S.fp) eki
   ·rw [hB0] at bx; rw [hR, hP, z]; rw [z] at bx; omega
   ·rw [hB0] at by'; rw [hR, hP, z]; rw [z] at by'; omega
  have rel : s * crsC c q r * (s * crsC c p v) + s * crsC c r p * (s * crsC c q v) + s * crsC c p q * (s * crsC c r v) = 0 := by
   have : crsC c q r * crsC c p v + crsC c r p * crsC c q v + crsC c p q * crsC c r v = 0 := by unfold crsC; grind
   grind
  have cone : ∀ (i j : Nat), farC c (pt l i) = c.R → farC c (pt l j) = c.R → enc3 l i j m → 0 < s * crsC c (pt l i) (pt l j) → s * crsC c (pt l i) v ≤ 0 → 0 ≤ s * crsC c (pt l j) v → ∃ y ∈ cands l, ltC c y.c := by
   intro i j f1 f2 e h1 h2 h3
   obtain ⟨cx, cy⟩ := cross_bal c (pt l i) (pt l j) v
   have sw := crs_swap c (pt l i) v
   refine use2 i j (s * crsC c (pt l j) v) (s * crsC c v (pt l i)) (s * crsC c (pt l i) (pt l j)) h3 (by rw [sw, Int.mul_neg]; omega) (by omega) (by rw [sw, Int.mul_neg]; omega) ?_ ?_ f1 f2 e
   ·rw [hV]; exact cone_eq s cx
   ·rw [hV]; exact cone_eq s cy
  rcases sign_pick (by omega : 0 < s * crsC c q r) (by omega : 0 < s * crsC c r p) (by omega : 0 < s * crsC c p q) rel with ⟨h1, h2⟩ | ⟨h1, h2⟩ | ⟨h1, h2⟩
  ·exact cone i j (by rw [hP]; exact S.fp) (by rw [hQ]; exact S.fq) eij (by rw [hP, hQ]; omega) (by rw [hP]; exact h1) (by rw [hQ]; exact h2)
  ·exact cone j k (by rw [hQ]; exact S.fq) (by rw [hR]; exact S.fr) ejk (by rw [hQ, hR]; omega) (by rw [hQ]; exact h1) (by rw [hR]; exact h2)
  ·exact cone k i (by rw [hR]; exact S.fr) (by rw [hP]; exact S.fp) eki (by rw [hR, hP]; omega) (by rw [hR]; exact h1) (by rw [hP]; exact h2)
theorem lt_trans3 {x y h : Ci} (hx : 0 < x.D) (hy : 0 < y.D) (hh : 0 < h.D) (h1 : ¬ ltC x y) (h2 : ltC x h) : ¬ ltC h y := by
 unfold ltC at *
 have xx := Int.mul_pos hx hx
 have yy := Int.mul_pos hy hy
 have hhh := Int.mul_pos hh hh
 generalize x.D * x.D = a at *
 generalize y.D * y.D = b at *
 generalize h.D * h.D = d at *
 have e1 : d * (a * y.R) ≤ d * (b * x.R) := Int.mul_le_mul_of_nonneg_left (by omega) (by omega)
 have e2 : b * (d * x.R) ≤ b * (a * h.R) := Int.mul_le_mul_of_nonneg_left (by omega) (by omega)
 have e3 : a * (d * y.R) ≤ a * (b * h.R) := by
  have f1 : a * (d * y.R) = d * (a * y.R) := by grind
  have f2 : d * (b * x.R) = b * (d * x.R) := by grind
  have f3 : b * (a * h.R) = a * (b * h.R) := by grind
  omega
 have := Int.le_of_mul_le_mul_left e3 xx
 omega
theorem greatest : ∀ (L : List Cand), L ≠ [] → (∀ x ∈ L, 0 < x.c.D) → ∃ x ∈ L, ∀ y ∈ L, ¬ ltC x.c y.c
 | [], h, _ => absurd rfl h
 | [x], _, _ => ⟨x, List.mem_cons_self .., fun y hy => by
   obtain rfl := List.mem_singleton.1 hy
   unfold ltC; omega⟩
 | h :: x :: t, _, hD => by
  obtain ⟨z, hz, hmax⟩ := greatest (x :: t) (by simp) (fun y hy => hD y (List.mem_cons_of_mem _ hy))
  by_cases hlt : ltC z.c h.c
  ·refine ⟨h, List.mem_cons_self .., fun y hy => ?_⟩
   rcases List.mem_cons.1 hy with rfl | hy
   ·unfold ltC; omega
   ·exact lt_trans3 (hD z (List.mem_cons_of_mem _ hz)) (hD y (List.mem_cons_of_mem _ hy)) (hD h (List.mem_cons_self ..)) (hmax y hy) hlt
  ·refine ⟨z, List.mem_cons_of_mem _ hz, fun y hy => ?_⟩
   rcases List.mem_cons.1 hy with rfl | hy
   ·exact hlt
   ·exact hmax y hy
theorem enc_exists {l : List S28} (hl : 0 < l.length) : ∃ x ∈ cands l, enclosesC x.c l = true := by
 obtain ⟨x, hx, hmax⟩ := greatest (cands l) (by unfold cands; simp) (fun x hx => by
  obtain ⟨_, _, _, _, _, _, S⟩ := cands_sup hl hx
  exact S.pos)
 refine ⟨x, hx, ?_⟩
 unfold enclosesC
 rw [Bool.not_eq_true', ← Bool.not_eq_true, List.any_eq_true]
 rintro ⟨p, hp, ho⟩
 obtain ⟨m, hm, rfl⟩ := List.getElem_of_mem hp
 have e : pt l m = l[m] := by unfold pt; simp [hm]
 unfold outC at ho
 rw [decide_eq_true_eq, ← e] at ho
 obtain ⟨y, hy, hlt⟩ := improve hx hm ho
 exact hmax y hy hlt
theorem enclose_some {l : List S28} (hl : 0 < l.length) : ∃ x, encloseL l = some x ∧ x ∈ cands l ∧ enclosesC x.c l = true := by
 obtain ⟨y, hy, he⟩ := enc_exists hl
 unfold encloseL
 cases h : (cands l).find? fun x => enclosesC x.c l with
 | none =>
  exfalso
  have := List.find?_eq_none.1 h y hy
  exact this he
 | some x => exact ⟨x, rfl, List.mem_of_find?_eq_some h, by simpa using List.find?_some h⟩
structure Best (l : List S28) (c : Ci) : Prop where
 enc : ∀ p ∈ l, farC c p ≤ c.R
 sup : ∃ p q r, p ∈ l ∧ q ∈ l ∧ r ∈ l ∧ Sup c p q r
theorem Best.pos {l : List S28} {c : Ci} (h : Best l c) : 0 < c.D := by obtain ⟨_, _, _, _, _, _, S⟩ := h.sup; exact S.pos
theorem Best.one {l : List S28} {c : Ci} (h : Best l c) : gcd3 c = 1 := by obtain ⟨_, _, _, _, _, _, S⟩ := h.sup; exact S.one
theorem Best.le {l : List S28} {c c' : Ci} (h : Best l c) (h' : ∀ p ∈ l, farC c' p ≤ c'.R) :
  c'.D * c'.D * c.R + ((c.D * c'.X - c'.D * c.X) * (c.D * c'.X - c'.D * c.X) + (c.D * c'.Y - c'.D * c.Y) * (c.D * c'.Y - c'.D * c.Y)) ≤ c.D * c.D * c'.R := by
 obtain ⟨p, q, r, hp, hq, hr, S⟩ := h.sup
 obtain ⟨l1, l2, l3, b⟩ := S.bal
 exact least b S.fp S.fq S.fr (h' p hp) (h' q hq) (h' r hr)
end Go.Proofs.Ytplhfbkejngioaa.X
