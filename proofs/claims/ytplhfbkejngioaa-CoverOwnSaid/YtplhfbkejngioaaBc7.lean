/- The iterator (*grid).parts: which pairs come, in which order. Texts of this claim's session, put together: Grid1. -/
import Derived.Test.YtplhfbkejngioaaBc4
import Derived.RangeFuncNested
import Derived.RangeFuncBound
import Derived.RangeFuncCalls
import Derived.RangeFuncLeaves
import Derived.Shelf.Abstract
import Derived.Shelf.RegionOpen
import Derived.OwnWalkIn
import Derived.TacticsInMore
import Derived.LoopNIn
import Derived.LoopIn
import Derived.Test.YtplhfbkejngioaaVWords
import Derived.Test.YtplhfbkejngioaaVRepsOne
namespace Go.Proofs.Ytplhfbkejngioaa.X
open Go.RowKit Go.Shelf Go.Proofs.YtplhfbkejngioaaW.PrintWords Go.Proofs.YtplhfbkejngioaaW.PrintLast Go.Proofs.Ytplhfbkejngioaa.S
set_option linter.unusedVariables false
set_option linter.unusedSimpArgs false
attribute [local go_sem] Oper.semAt_some
def partsRow (xs ys : List Int) (dep : List (List Int)) (i m : Nat) : List (Nat × Nat) := ((List.range m).filter fun (j : Nat) => hasL xs ys dep (i : Int) (j : Int)).map fun j => (i, j)
def partsUp (xs ys : List Int) (dep : List (List Int)) (k : Nat) : List (Nat × Nat) := (List.range k).flatMap fun i => partsRow xs ys dep i ys.length
def partsL (xs ys : List Int) (dep : List (List Int)) : List (Nat × Nat) := partsUp xs ys dep xs.length
theorem partsRow_succ (xs ys : List Int) (dep : List (List Int)) (i m : Nat) : partsRow xs ys dep i (m + 1) = partsRow xs ys dep i m ++ (if hasL xs ys dep (i : Int) (m : Int) then [(i, m)] else []) := by
 unfold partsRow
 rw [List.range_succ, List.filter_append, List.map_append]
 congr 1
 by_cases h : hasL xs ys dep (i : Int) (m : Int) <;> simp [h]
theorem partsUp_succ (xs ys : List Int) (dep : List (List Int)) (k : Nat) : partsUp xs ys dep (k + 1) = partsUp xs ys dep k ++ partsRow xs ys dep k ys.length := by
 unfold partsUp; rw [List.range_succ]; simp
def encIJ (x : Nat × Nat) : Array Value := #[.int .i64 (x.1 : Int), .int .i64 (x.2 : Int)]
theorem grownBy_drewN' (W : World) (n : Nat) : W.grownBy (W.drewN n) none := grown_of_below (pw_below_drewN (Below.refl _ _) n) none
theorem partsRow_len (xs ys : List Int) (dep : List (List Int)) (i m : Nat) : (partsRow xs ys dep i m).length ≤ m := by
 unfold partsRow; rw [List.length_map]
 exact Nat.le_trans (List.length_filter_le _ _) (by simp)
theorem partsUp_len (xs ys : List Int) (dep : List (List Int)) (k : Nat) : (partsUp xs ys dep k).length ≤ k * ys.length := by
 induction k with
 | zero => simp [partsUp]
 | succ k ih => rw [partsUp_succ, List.length_append, Nat.succ_mul]; have := partsRow_len xs ys dep k ys.length; omega
theorem parts_short (xs ys : List Int) (dep : List (List Int)) (k m : Nat) (hk : k < xs.length) (hm : m < ys.length) : (partsUp xs ys dep k ++ partsRow xs ys dep k m).length < xs.length * ys.length + 1 := by
 rw [List.length_append]
 have h1 := partsUp_len xs ys dep k
 have h2 := partsRow_len xs ys dep k m
 have h3 : (k + 1) * ys.length ≤ xs.length * ys.length := Nat.mul_le_mul_right _ hk
 rw [Nat.succ_mul] at h3
 omega
theorem partsRow_pre (xs ys : List Int) (dep : List (List Int)) (i : Nat) (a b : Nat) : a ≤ b → partsRow xs ys dep i a <+: partsRow xs ys dep i b := by
 intro h
 induction b with
 | zero => rw [Nat.le_zero.1 h]; exact List.prefix_rfl
 | succ b ih =>
  by_cases e : a = b + 1
  ·rw [e]; exact List.prefix_rfl
  ·rw [partsRow_succ]; exact (ih (by omega)).trans (List.prefix_append _ _)
theorem partsUp_pre (xs ys : List Int) (dep : List (List Int)) (a b : Nat) : a ≤ b → partsUp xs ys dep a <+: partsUp xs ys dep b := by
 intro h
 induction b with
 | zero => rw [Nat.le_zero.1 h]; exact List.prefix_rfl
 | succ b ih =>
  by_cases e : a = b + 1
  ·rw [e]; exact List.prefix_rfl
  ·rw [partsUp_succ]; exact (ih (by omega)).trans (List.prefix_append _ _)
theorem parts_pre (xs ys : List Int) (dep : List (List Int)) (k m : Nat) (hk : k < xs.length) (hm : m < ys.length) (hh : hasL xs ys dep (k : Int) (m : Int) = true) : (partsUp xs ys dep k ++ partsRow xs ys dep k m ++ [(k, m)]) <+: partsL xs ys dep := by
 have h1 : partsRow xs ys dep k m ++ [(k, m)] = partsRow xs ys dep k (m + 1) := by rw [partsRow_succ, if_pos hh]
 rw [List.append_assoc, h1]
 refine List.IsPrefix.trans ?_ (partsUp_pre xs ys dep (k + 1) xs.length hk)
 rw [partsUp_succ]
 exact (List.prefix_append_right_inj _).2 (partsRow_pre _ _ _ _ _ _ hm)
set_option maxHeartbeats 4000000 in
set_option maxRecDepth 100000 in
theorem parts_in (Kp : World → World → Prop) (hKr : ∀ W, Kp W W) (hKt : ∀ {A B C : World}, Kp A B → Kp B C → Kp A C) (hKd : ∀ W m, Kp W (W.drewN m)) (n : Nat) (hn : 1 ≤ n) (l Bg g : Nat) (xs ys : List Int) (dep : List (List Int)) (A0 A1 A2 : Option Addr) (c0 c1 c2 : Nat) (hT : Table xs ys dep) (hx : xs.length ≤ 1000000) (hy : ys.length ≤ 1000000)
  (Good : Nat × Nat → Prop) (hgood : ∀ i j, i < xs.length → j < ys.length → hasL xs ys dep (i : Int) (j : Int) = true → Good (i, j))
  (J Jx : List (Nat × Nat) → World → Prop)
  (hY : ∀ pre x W, Good x → J pre W → pre.length < xs.length * ys.length + 1 → YieldAt Fence.wide (n - 1) Try.prog l (encIJ x) W fun e W' =>
   (e = .returned (.bool true) ∧ J (pre ++ [x]) W' ∧ Kp W W') ∨ (e = .returned (.bool false) ∧ Jx (pre ++ [x]) W'))
  (W : World) (hJ : AbidesFrom W.heap.size J)
  (hrd : ∀ W', Kp W W' → W'.heap[Bg]? = some (.cells #[.pointer (some ⟨g, 0, none⟩)] 72 (0, 0)) ∧ IsGrid W' g xs ys dep A0 A1 A2 c0 c1 c2) (h0 : J [] W) :
  CallsIn Fence.wide n Try.prog 77 #[.func (.yield l) #[] #[], .pointer (some ⟨Bg, 0, none⟩)] W fun e W' => (∃ v, e = .returned v) ∧
   ((∃ zs, zs = partsL xs ys dep ∧ J zs W') ∨ (∃ pre, pre <+: partsL xs ys dep ∧ Jx pre W')) := by
 refine callsIn_of_wp Try.func77 rfl trivial ?_ rfl
 simp only [Try.ntmps77, List.size_toArray, List.length_cons, List.length_nil, Nat.reduceAdd, Nat.reduceSub, Array.replicate_succ, Array.replicate_zero, List.push_toArray, List.append_toArray, List.nil_append, List.cons_append]
 have HY := Aside0.mk hY
 have HJ := Aside0.mk hJ
 have HT := Aside0.mk hT
 have HRD := Aside0.mk hrd
 have HKT := Aside0.mk (fun A B C => @hKt A B C)
 have HKD := Aside0.mk hKd
 have HKR := Aside0.mk hKr
 have H0 := Aside0.mk h0
 have HGD := Aside0.mk hgood
 clear hY hJ hT hrd h0 hgood hKt hKd hKr
 have hb0 : W.cell? ⟨Bg, 0, none⟩ = some (.pointer (some ⟨g, 0, none⟩)) := (blk_cell (HRD.out W (HKR.out W)).1 0).trans rfl
 have hg0 : W.cell? ⟨g, 0, none⟩ = some (.slice A0 xs.length c0) := (blk_cell (HRD.out W (HKR.out W)).2.blk 0).trans rfl
 gi_wp2
 clear hb0 hg0
 gi_loopw [10] (fun i wr => ∃ k : Nat, k ≤ xs.length ∧ i = .int .i64 k ∧ Aside0 (J (partsUp xs ys dep k) wr) ∧ Aside0 (Kp W wr)) (fun i _ => xs.length - (intOf i).toNat)
 case atStart => exact ⟨0, Nat.zero_le _, rfl, H0, ⟨HKR.out _⟩⟩
 case round =>
  obtain ⟨k, hk, rfl, HJk, HBk⟩ := hrel
  by_cases hlt : k < xs.length
  ·have hb0 : wr.cell? ⟨Bg, 0, none⟩ = some (.pointer (some ⟨g, 0, none⟩)) := (blk_cell (HRD.out wr HBk.out).1 0).trans rfl
   have hg1 : wr.cell? ⟨g, 1, none⟩ = some (.slice A1 ys.length c1) := (blk_cell (HRD.out wr HBk.out).2.blk 1).trans rfl
   have hltz : (k : Int) < (xs.length : Int) := by omega
   gi_wp2
   obtain ⟨wo, rfl⟩ : ∃ wo : World, wo = wr := ⟨_, rfl⟩
   gi_loopw [18] (fun i wq => ∃ m : Nat, m ≤ ys.length ∧ i = .int .i64 m ∧ Aside0 (J (partsUp xs ys dep k ++ partsRow xs ys dep k m) wq) ∧ Aside0 (Kp W wq)) (fun i _ => ys.length - (intOf i).toNat)
   case atStart => exact ⟨0, Nat.zero_le _, rfl, ⟨by simpa [partsRow] using HJk.out⟩, HBk⟩
   case round =>
    obtain ⟨m, hm, rfl, HJm, HBm⟩ := hrel
    clear hb0 hg1 HBk HJk
    by_cases hlm : m < ys.length
    ·have hb1 : wr.cell? ⟨Bg, 0, none⟩ = some (.pointer (some ⟨g, 0, none⟩)) := (blk_cell (HRD.out wr HBm.out).1 0).trans rfl
     have hlmz : (m : Int) < (ys.length : Int) := by omega
     have HH := Aside0.mk (has_calls g xs ys dep A0 A1 A2 c0 c1 c2 k m wr (HRD.out wr HBm.out).2 HT.out hx hy)
     have HS := Aside0.mk (partsRow_succ xs ys dep k m)
     obtain ⟨b, hbv⟩ : ∃ b, hasL xs ys dep (k : Int) (m : Int) = b := ⟨_, rfl⟩
     rw [hbv] at HH HS
     cases b with
     | false =>
      gi_wp2_with ((refine ⟨trivial, ?_⟩; gi_at_call 49; refine (callsIn_wide.2 HH.out).mono ?_; rintro e w' ⟨rfl, ⟨nd, rfl⟩⟩))
      refine ⟨(fun f h => by cases h), ?_⟩
      gi_wp2
      go_roundw
      case rel => exact ⟨m + 1, by omega, by go_num, ⟨by rw [HS.out]; simpa using HJ.out _ _ _ none HJm.out (grownBy_drewN' _ _) (fun r e => by cases e)⟩, ⟨HKT.out _ _ _ HBm.out (HKD.out _ _)⟩⟩
      case measure => simp [intOf]; omega
     | true =>
      have HY' := Aside0.mk (fun nd => HY.out _ (k, m) (wr.drewN nd) (HGD.out k m hlt hlm hbv) (HJ.out _ _ _ none HJm.out (grownBy_drewN' _ _) (fun r e => by cases e)) (parts_short _ _ _ _ _ hlt hlm))
      gi_wp2_with ((refine ⟨trivial, ?_⟩; gi_at_call 49; refine (callsIn_wide.2 HH.out).mono ?_; rintro e w' ⟨rfl, ⟨nd, rfl⟩⟩; obtain ⟨fn, tmps, assign, body, hy, hR⟩ := HY'.out nd; simp only [encIJ] at hy))
      refine hR.mono ?_
      rintro e W3 (⟨rfl, hJ3, hk3⟩ | ⟨rfl, hJx3⟩)
      ·have HJ3 := Aside0.mk hJ3
       have HK3 := Aside0.mk hk3
       clear hJ3 hk3
       gi_wp2
       go_roundw
       case rel => exact ⟨m + 1, by omega, by go_num, ⟨by rw [HS.out]; simpa using HJ3.out⟩, ⟨HKT.out _ _ _ (HKT.out _ _ _ HBm.out (HKD.out _ _)) HK3.out⟩⟩
       case measure => simp [intOf]; omega
      ·have HJx := Aside0.mk hJx3
       clear hJx3
       gi_wp2
       refine bodyPost_ret (results_none rfl _ _ _) rfl ?_
       exact ⟨⟨_, rfl⟩, .inr ⟨_, parts_pre _ _ _ _ _ hlt hlm (by assumption), HJx.out⟩⟩
    ·have hlmz : ¬ (m : Int) < (ys.length : Int) := by omega
     have HE := Aside0.mk (show J (partsUp xs ys dep (k + 1)) wr by rw [partsUp_succ, show ys.length = m by omega]; exact HJm.out)
     gi_wp2
     go_roundw
     case rel => exact ⟨k + 1, by omega, by go_num, HE, HBm⟩
     case measure => simp [intOf]; omega
  ·have hltz : ¬ (k : Int) < (xs.length : Int) := by omega
   have hk2 : k = xs.length := by omega
   have HE := Aside0.mk (show J (partsL xs ys dep) wr by have h := HJk.out; rw [hk2] at h; exact h)
   clear hk2
   gi_wp2
   go_end0
   exact ⟨⟨_, rfl⟩, .inl (by first | exact HE.out | exact ⟨_, rfl, HE.out⟩)⟩
def GoodIJ (xs ys : List Int) (dep : List (List Int)) (x : Nat × Nat) : Prop := x.1 + 1 < xs.length ∧ x.2 + 1 < ys.length ∧ hasL xs ys dep (x.1 : Int) (x.2 : Int) = true
abbrev IJ (xs ys : List Int) (dep : List (List Int)) := { x : Nat × Nat // GoodIJ xs ys dep x }
theorem parts_stops (Kp : World → World → Prop) (hKr : ∀ W, Kp W W) (hKt : ∀ {A B C : World}, Kp A B → Kp B C → Kp A C) (hKd : ∀ W m, Kp W (W.drewN m)) (n : Nat) (hn : 1 ≤ n) (Bg g : Nat) (xs ys : List Int) (dep : List (List Int)) (A0 A1 A2 : Option Addr) (c0 c1 c2 : Nat) (hT : Table xs ys dep) (hx : xs.length ≤ 1000000) (hy : ys.length ≤ 1000000)
  (hgood : ∀ i j, i < xs.length → j < ys.length → hasL xs ys dep (i : Int) (j : Int) = true → GoodIJ xs ys dep (i, j))
  (w : World)
  (hrd : ∀ W W', Below w.heap.size w W → Kp W W' → W'.heap[Bg]? = some (.cells #[.pointer (some ⟨g, 0, none⟩)] 72 (0, 0)) ∧ IsGrid W' g xs ys dep A0 A1 A2 c0 c1 c2) :
  SeqStopsK Fence.wide n Try.prog 77 #[.pointer (some ⟨Bg, 0, none⟩)] (fun x : IJ xs ys dep => encIJ x.1) Kp
   (fun zs => zs.map (·.1) = partsL xs ys dep) (fun zs => zs.map (·.1) <+: partsL xs ys dep) (xs.length * ys.length + 1) w := by
 intro l J Jx W hW hJ hJx hY h0
 refine (parts_in Kp hKr hKt hKd n hn l Bg g xs ys dep A0 A1 A2 c0 c1 c2 hT hx hy (GoodIJ xs ys dep) hgood
  (fun pre W' => ∃ zs : List (IJ xs ys dep), zs.map (·.1) = pre ∧ J zs W') (fun pre W' => ∃ zs : List (IJ xs ys dep), zs.map (·.1) = pre ∧ Jx zs W')
  ?_ W ?_ (fun W' h => hrd W W' hW h) ⟨[], rfl, h0⟩).mono ?_
 ·rintro pre x W1 hgx ⟨zs, rfl, hz⟩ hlen
  obtain ⟨fn, tmps, assign, body, hy, hR⟩ := hY zs ⟨x, hgx⟩ W1 hz (by simpa using hlen)
  refine ⟨fn, tmps, assign, body, hy, hR.mono ?_⟩
  rintro e W' (⟨he, hJ', hk⟩ | ⟨he, hJ'⟩)
  ·exact .inl ⟨he, ⟨_, by simp, hJ'⟩, hk⟩
  ·exact .inr ⟨he, ⟨_, by simp, hJ'⟩⟩
 ·rintro s A B row ⟨zs, e, hz⟩ hg' hr
  exact ⟨zs, e, hJ zs A B row hz hg' hr⟩
 ·rintro e W' ⟨hv, (⟨zs, hz, ys', rfl, hJ'⟩ | ⟨pre, hp, ys', rfl, hJ'⟩)⟩
  ·exact ⟨hv, .inl ⟨_, hz, hJ'⟩⟩
  ·exact ⟨hv, .inr ⟨_, hp, hJ'⟩⟩
set_option maxHeartbeats 1000000 in
set_option maxRecDepth 100000 in
theorem parts_calls (g : Nat) (w : World) : Calls Try.prog 48 #[.pointer (some ⟨g, 0, none⟩)] w fun e w' =>
  e = .returned (.func (.func 77) #[] #[.pointer (some ⟨w.heap.size, 0, none⟩)]) ∧ w' = w.alloc (.cells #[.pointer (some ⟨g, 0, none⟩)] 72) := by
 go_enter Try.func48, Try.ntmps48
 go_wp2
 go_ret
 exact ⟨rfl, rfl⟩
end Go.Proofs.Ytplhfbkejngioaa.X
