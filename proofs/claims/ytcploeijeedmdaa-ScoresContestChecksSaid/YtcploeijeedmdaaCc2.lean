/- The contract of CheckContest. Texts of this claim's session, put together: SSeq, SCC. -/
import Derived.RangeFuncBox
import Derived.RangeFuncLeaves
import Derived.Shelf.Abstract
import Derived.WalkKit
import Derived.OwnWalkIn
import Derived.TacticsInMore
import Derived.LoopNIn
import Derived.LoopIn
import Derived.Maps.AppendAt
import Derived.Sort.OwnSortedInts
import Derived.Test.YtcploeijeedmdaaBb6
import Derived.Test.YtcploeijeedmdaaVWords
import Derived.Test.YtcploeijeedmdaaVLast
import Derived.Test.YtcploeijeedmdaaVRepsOne
namespace Go.Proofs.Ytcploeijeedmdaa.Q
open Go.RowKit Go.Shelf Go.Sort Go.Proofs.YtcploeijeedmdaaW.PrintWords Go.Proofs.Ytcploeijeedmdaa.X
set_option linter.unusedVariables false
set_option linter.unusedSimpArgs false
attribute [local go_sem] Oper.semAt_some
def come {α : Type} (f : Nat → α) (k : Nat) : List α := (List.range k).map f
theorem come_succ {α : Type} (f : Nat → α) (k : Nat) : come f (k + 1) = come f k ++ [f k] := by simp [come, List.range_succ]
theorem come_length {α : Type} (f : Nat → α) (k : Nat) : (come f k).length = k := by simp [come]
theorem come_all (zs : List Int) : come (fun j => zs[j]?.getD 0) zs.length = zs := by
 apply List.ext_getElem
 ·simp [come]
 ·intro i h1 h2
  simp [come, h2]
theorem come_take (zs : List Int) {k : Nat} (hk : k ≤ zs.length) : come (fun j => zs[j]?.getD 0) k = zs.take k := by
 apply List.ext_getElem
 ·simp [come, hk]
 ·intro i h1 h2
  have : i < zs.length := by simp [come] at h1; omega
  simp [come, this]
set_option maxRecDepth 100000 in
set_option maxHeartbeats 2000000 in
theorem values1_in (F : Fence) (n : Nat) (h7 : F.fn 108) (hro : F.round = none) (hn : 1 ≤ n) (l Bs n₀ b off len cap : Nat) (zs : List Int) (hreach : len * 8 ≤ 140737488351232) (hb : b < n₀) (J Jx : List Int → World → Prop)
  (hY : ∀ pre x W, J pre W → pre.length < len → YieldAt F (n - 1) Try.prog l #[.int .i64 x] W fun e W' =>
   (e = .returned (.bool true) ∧ J (pre ++ [x]) W' ∧ Below n₀ W W') ∨ (e = .returned (.bool false) ∧ Jx (pre ++ [x]) W'))
  (W : World) (hBs : W.cell? ⟨Bs, 0, none⟩ = some (.slice (some ⟨b, off, none⟩) len cap)) (hc : ∀ j, j < len → W.cell? ⟨b, off + j, none⟩ = some (.int .i64 (zs[j]?.getD 0))) (h0 : J [] W) :
  CallsIn F n Try.prog 108 #[.func (.yield l) #[] #[], .pointer (some ⟨Bs, 0, none⟩)] W fun e W' => (∃ v, e = .returned v) ∧
   ((∃ ys, ys = come (fun j => zs[j]?.getD 0) len ∧ J ys W') ∨ (∃ pre, (∃ k, k ≤ len ∧ pre = come (fun j => zs[j]?.getD 0) k) ∧ Jx pre W')) := by
 refine callsIn_of_wp Try.func108 rfl h7 ?_ hro
 simp only [Try.ntmps108, List.size_toArray, List.length_cons, List.length_nil, Nat.reduceAdd, Nat.reduceSub, Array.replicate_succ, Array.replicate_zero, List.push_toArray, List.append_toArray, List.nil_append, List.cons_append]
 gi_wp2
 gi_loopw [7] (fun i wr => ∃ k : Nat, k ≤ len ∧ i = .int .i64 k ∧ J (come (fun j => zs[j]?.getD 0) k) wr ∧ Below n₀ W wr)
  (fun i _ => len - (intOf i).toNat)
 case atStart => exact ⟨0, Nat.zero_le _, rfl, h0, Below.refl _ _⟩
 case round =>
  obtain ⟨k, hk, rfl, hJs, hnx⟩ := hrel
  have hcx : k < len → wr.cell? ⟨b, off + k, none⟩ = some (.int .i64 (zs[k]?.getD 0)) := fun h => (hnx.cell (p := ⟨b, off + k, none⟩) hb).trans (hc k h)
  by_cases hlt : k < len
  ·obtain ⟨fn, tmps, assign, body, hy, hR⟩ := hY _ (zs[k]?.getD 0) wr hJs (by rw [come_length]; exact hlt)
   have hcx' := hcx hlt
   gi_wp2
   refine hR.mono ?_
   rintro e W3 (⟨rfl, hJ3, hk3⟩ | ⟨rfl, hJx3⟩)
   ·gi_wp2
    go_roundw
    case rel => exact ⟨k + 1, by omega, by simp, by rw [come_succ]; exact hJ3, hnx.trans hk3⟩
    case measure => simp [intOf]; omega
   ·gi_wp2
    refine bodyPost_ret (results_none rfl _ _ _) rfl ?_
    exact ⟨⟨_, rfl⟩, .inr ⟨_, ⟨k + 1, by omega, (come_succ _ _).symm⟩, hJx3⟩⟩
  ·obtain rfl : k = len := by omega
   gi_wp2
   go_end0
   exact ⟨⟨_, rfl⟩, .inl ⟨_, rfl, hJs⟩⟩
def Ints (n₀ : Nat) (W : World) (sv : Value) (zs : List Int) : Prop :=
 (sv = .slice none 0 0 ∧ zs = []) ∨ ∃ b off cap, sv = .slice (some ⟨b, off, none⟩) zs.length cap ∧ b < n₀ ∧ ∀ j, j < zs.length → W.cell? ⟨b, off + j, none⟩ = some (.int .i64 (zs[j]?.getD 0))
theorem Ints.below {n₀ : Nat} {A B : World} (h : Below n₀ A B) {sv : Value} {zs : List Int} : Ints n₀ A sv zs → Ints n₀ B sv zs
 | .inl e => .inl e
 | .inr ⟨b, off, cap, e, hb, hc⟩ => .inr ⟨b, off, cap, e, hb, fun j hj => (h.cell (p := ⟨b, off + j, none⟩) hb).trans (hc j hj)⟩
theorem values_stops (F : Fence) (n : Nat) (h7 : F.fn 108) (hro : F.round = none) (hn : 1 ≤ n) (Bs n₀ b off cap : Nat) (zs : List Int) (hreach : zs.length * 8 ≤ 140737488351232) (w : World) (hBs : Bs < w.heap.size) (hn₀ : n₀ ≤ w.heap.size)
  (hc : w.cell? ⟨Bs, 0, none⟩ = some (.slice (some ⟨b, off, none⟩) zs.length cap)) (hb : b < n₀) (hcs : ∀ j, j < zs.length → w.cell? ⟨b, off + j, none⟩ = some (.int .i64 (zs[j]?.getD 0))) :
  SeqStopsK F n Try.prog 108 #[.pointer (some ⟨Bs, 0, none⟩)] (fun x : Int => #[Value.int .i64 x]) (Below n₀) (fun ys => ys = zs) (fun pre => pre <+: zs) zs.length w := fun l J Jx W hW _ _ hY h0 => by
 have hc' := (hW.cell (p := ⟨Bs, 0, none⟩) hBs).trans hc
 refine (values1_in F n h7 hro hn l Bs n₀ b off zs.length cap zs hreach hb J Jx hY W hc' (fun j hj => ((hW.mono hn₀).cell (p := ⟨b, off + j, none⟩) hb).trans (hcs j hj)) h0).mono ?_
 rintro e W' ⟨he, ⟨ys, rfl, hj⟩ | ⟨pre, ⟨k, hk, rfl⟩, hj⟩⟩
 ·exact ⟨he, .inl ⟨_, come_all zs, hj⟩⟩
 ·exact ⟨he, .inr ⟨_, by rw [come_take zs hk]; exact List.take_prefix _ _, hj⟩⟩
set_option maxRecDepth 100000 in
set_option maxHeartbeats 2000000 in
theorem appendSeq_in (F : Fence) (n : Nat) (h3 : F.fn 132) (h5 : F.fn 108) (hro : F.round = none) (hn : 3 ≤ n) (Bs b off cap : Nat) (zs : List Int) (hlen : zs.length ≤ 1000) (w : World) (hBs : Bs < w.heap.size)
  (hc : w.cell? ⟨Bs, 0, none⟩ = some (.slice (some ⟨b, off, none⟩) zs.length cap)) (hb : b < w.heap.size) (hcs : ∀ j, j < zs.length → w.cell? ⟨b, off + j, none⟩ = some (.int .i64 (zs[j]?.getD 0))) :
  CallsIn F n Try.prog 132 #[.slice none 0 0, .func (.func 108) #[] #[.pointer (some ⟨Bs, 0, none⟩)]] w fun e W' => ∃ v, e = .returned v ∧ OwnI W' w.heap.size v zs ∧ Below w.heap.size w W' := by
 have h1 : 1 ≤ n := by omega
 obtain ⟨i0, hi, hz⟩ := Option.map_eq_some_iff.1 info3
 simp only [Prod.mk.injEq] at hz
 refine callsIn_of_wp_marks Try.func132 rfl h3 ?_ hro
 simp only [Try.ntmps132, List.size_toArray, List.length_cons, List.length_nil, Nat.reduceAdd, Nat.reduceSub, Array.replicate_succ, Array.replicate_zero, List.push_toArray, List.append_toArray, List.nil_append, List.cons_append]
 gi_wp2
 have bO := Boxed.new w 24 (.slice none 0 0)
 have hB0 : Below w.heap.size w (w.alloc (.cells #[.slice none 0 0] 24)) := (Below.refl _ w).alloc (Nat.le_refl _) _
 refine wpIn_rangeFunc_ownG hro h1 (gf := 108) (lb := #[.pointer (some ⟨Bs, 0, none⟩)]) rfl h5 (enters_of Try.func108 (by kernel_rfl) rfl)
  (values_stops F (n - 1) h5 hro (by omega) Bs w.heap.size b off cap zs (by omega) _ (by simp; omega) (by simp) ((hB0.cell (p := ⟨Bs, 0, none⟩) hBs).trans hc) hb (fun j hj => (hB0.cell (p := ⟨b, off + j, none⟩) hb).trans (hcs j hj))) belowK_t (belowK_b (by simp)) (Below.refl _ _) (fun _ => rfl)
  (fun pre W => (∃ v, Boxed W w.heap.size 24 v ∧ W.ownsRow w.heap.size 3 1 v pre.length (pre.map (Value.int .i64)) ∧ True) ∧ Below w.heap.size w W)
  (fun _ _ _ => False)
  (OwnFrom.and (Own.from (holdsRow_own w.heap.size w.heap.size 24 3 1 (fun pre : List Int => pre.length) (fun pre => pre.map (Value.int .i64)) (fun _ _ => True)) _) (ownFrom_below (Nat.le_refl _) (by simp)))
  (fun _ _ _ _ _ hs _ _ => hs)
  ⟨⟨_, bO, World.ownsRow_nil _ _ _ _, trivial⟩, hB0⟩
  (fun x => { tmps := #[.slice none 0 0, .func (.func 108) #[] #[.pointer (some ⟨Bs, 0, none⟩)], .pointer (some ⟨w.heap.size, 0, none⟩), undef, .slice none 0 0, .int .i64 x, .func (.func 108) #[] #[.pointer (some ⟨Bs, 0, none⟩)], .int .i64 x, undef, undef, undef, undef, undef], defers := [] }) ?assign ?body ?done ?stop
 case assign =>
  intro l x W K hK
  gi_wp2
  exact hK
 case body =>
  rintro l pre x W ⟨⟨v, hv, hrow, _⟩, hB⟩ hlt
  have hc := hv.cell
  gi_wp2_with (gi_at_builtin; refine wpListIn_append_own _ rfl _ _ 24 rfl w.heap.size 3 i0 (.int .i64 0) 1 8 Try.underlying24 hi hz.1 hz.2.1 hz.2.2 rfl (by decide) _ _ _ rfl (hrow.alloc _) ⟨W.heap.size, 0, none⟩ 1 1 [.int .i64 x] rfl rfl (cell_one_new _ _ _) (by simp [Value.oneCell']) (by unfold maxLen; omega) (by omega) (by have := hB.size; simp; omega) ?_; intro v' w1 hown' hgrow _; obtain ⟨g', cap', rfl⟩ := ownsRow_succ hown'; obtain ⟨hv1, hv2, hr2, hk2, hb2⟩ := hv.appended (by decide) hrow hB.size (Nat.le_refl _) hown' hgrow; have hc1 := hv1.cell; have hf1 := hv1.frozen)
  exact ⟨hk2.from _, hb2, ⟨_, hv2, by simpa using hr2, trivial⟩, hB.trans hb2⟩
 case done =>
  rintro D ys W hD rfl ⟨⟨v, hv, hrow, _⟩, hB⟩ hK
  have hc := hv.cell
  gi_wp2
  refine ⟨by simp, .inl ⟨_, _, rfl, run_takeDeferred hK, ?_⟩⟩
  exact ⟨_, results_tmp rfl _ _ _, v, rfl, ownsRow_putObj hrow _ hK rfl, hB.trans (belowK_b (w := w) (Nat.le_refl _) W D _ _ (by simp at hD; omega) hK rfl rfl)⟩
 case stop =>
  rintro D c pre W _ _ h _
  exact h.elim
theorem values_calls (a : Option Addr) (len cap : Nat) (w : World) : Calls Try.prog 97 #[.slice a len cap] w fun e w' => e = .returned (.func (.func 108) #[] #[.pointer (some ⟨w.heap.size, 0, none⟩)]) ∧ w' = w.alloc (.cells #[.slice a len cap] 24) := by
 go_enter Try.func97, Try.ntmps97
 go_wp2
 go_ret
 exact ⟨rfl, rfl⟩
def sortL (l : List Int) : List Int := l.mergeSort fun x y => decide (x ≤ y)
theorem sortL_len (l : List Int) : (sortL l).length = l.length := List.length_mergeSort _
theorem sortL_perm (l : List Int) : (sortL l).Perm l := List.mergeSort_perm _ _
set_option maxHeartbeats 2000000 in
theorem sortedS_calls (Bs b off cap : Nat) (zs : List Int) (hlen : zs.length ≤ 1000) (w : World) (hBs : Bs < w.heap.size)
  (hc : w.cell? ⟨Bs, 0, none⟩ = some (.slice (some ⟨b, off, none⟩) zs.length cap)) (hb : b < w.heap.size) (hcs : ∀ j, j < zs.length → w.cell? ⟨b, off + j, none⟩ = some (.int .i64 (zs[j]?.getD 0))) (h0 : 0 < zs.length) :
  Calls Try.prog 96 #[.func (.func 108) #[] #[.pointer (some ⟨Bs, 0, none⟩)]] w fun e w' => ∃ v, e = .returned v ∧ OwnI w' w.heap.size v (sortL zs) ∧ Below w.heap.size w w' := by
 have HA := Aside0.mk (callsIn_wide.1 (appendSeq_in Fence.wide 3 trivial trivial rfl (by omega) Bs b off cap zs hlen w hBs hc hb hcs))
 have HL := Aside0.mk hlen
 have H0 := Aside0.mk h0
 have HC := Aside0.mk (show Calls Try.prog 106 #[.func (.func 108) #[] #[.pointer (some ⟨Bs, 0, none⟩)]] w fun e w' => ∃ v, e = .returned v ∧ OwnI w' w.heap.size v zs ∧ Below w.heap.size w w' from by
  clear hBs hc hb hcs hlen h0
  go_enter Try.func106, Try.ntmps106
  go_wp2_with (go_at_call 132; (with_reducible refine HA.out.mono ?_); rintro e w1 ⟨v, rfl, ho, hb⟩; have HO := Aside0.mk ho; have HB := Aside0.mk hb; clear ho hb)
  go_ret
  exact ⟨_, rfl, HO.out, HB.out⟩)
 clear hBs hc hb hcs hlen h0 HA
 go_enter Try.func96, Try.ntmps96
 go_wp2_with (go_at_call 106; (with_reducible refine HC.out.mono ?_); rintro e w1 ⟨v, rfl, ho, hb⟩; have HO := Aside0.mk ho; have HB := Aside0.mk hb; clear ho hb)
 obtain ⟨g, cap', cur, rfl, hbase, hgb, r1, r2, r3, r4⟩ : ∃ g cap cur, v = .slice (some ⟨g, 0, none⟩) zs.length cap ∧ w.heap.size ≤ g ∧ w1.heap[g]? = some (.cells cur 3 (0, 0)) ∧ zs.length ≤ cap ∧ cap ≤ maxLen ∧ cur.size = cap * 1 ∧ cur.toList.take (zs.length * 1) = zs.map (Value.int .i64) := by
  rcases HO.out.2 with ⟨_, h⟩ | h
  ·have := H0.out; omega
  ·exact h
 have HH := Aside0.mk (show Holds (Value.int .i64) w1 g 0 zs.toArray from holds_of_blockI hgb (by simpa using r4))
 have HG := Aside0.mk hgb
 have HR := Aside0.mk (And.intro hbase (And.intro r1 (And.intro r2 r3)))
 have HS := Aside0.mk (Try.slices_Sort_int g 0 cap' zs w1 HH.out (blk_lt hgb) (by have := HL.out; omega))
 clear hgb r1 r2 r3 r4 hbase
 go_wp2_with (go_at_call 107; (with_reducible refine HS.out.mono ?_); rintro e w2 ⟨rfl, nn, os, rfl⟩)
 go_ret
 refine ⟨_, rfl, ?_, HB.out.grown (grownBy_sortedI _) HB.out.size (fun j hj => by cases hj; exact HR.out.1)⟩
 have h3 := ownsRow_sortedI (w := w1) (base := w.heap.size) (g := g) (cap := cap') (n := nn) (e := 3) (os := os) (cur := cur) (ss := zs) (ts := sortL zs) (sortL_len zs) HR.out.1 HG.out HR.out.2.1 HR.out.2.2.1 HR.out.2.2.2
 unfold OwnI
 rw [sortL_len]
 exact h3
def lackL (l : List Int) (k : Nat) : Int := ((k : Int) * ((k : Int) - 1)).tdiv 2 - ((sortL l).take k).sum
set_option maxHeartbeats 2000000 in
theorem lack_calls {n : Nat} (A : Option Addr) (c : Nat) (l : List Int) (w : World) (hr : RowI w A l) (hn : l.length = n) (hl : 1 ≤ n ∧ n ≤ 30) (h : ∀ d ∈ l, 0 ≤ d ∧ d ≤ 30) (k : Nat) (hk : k ≤ n) :
  Calls Try.prog 71 #[.slice A n c, .int .i64 (k : Int)] w fun e w' => e = .returned (.int .i64 (lackL l k)) ∧ Below w.heap.size w w' := by
 obtain ⟨b, o, rfl, hb, hcell⟩ := hr.cells (by omega)
 obtain ⟨ks, hks⟩ := sum_f (l := (sortL l).take k) (by rw [List.length_take]; omega) (fun d hd => h d ((sortL_perm l).mem_iff.1 (List.mem_of_mem_take hd)))
 have htl : ((sortL l).take k).length = k := by rw [List.length_take, sortL_len]; omega
 have HV := Aside0.mk (values_calls (some ⟨b, o, none⟩) n c w)
 have hB0 : Below w.heap.size w (w.alloc (.cells #[.slice (some ⟨b, o, none⟩) n c] 24)) := (Below.refl _ w).alloc (Nat.le_refl _) _
 have HS := Aside0.mk (sortedS_calls w.heap.size b o c l (by omega) (w.alloc (.cells #[.slice (some ⟨b, o, none⟩) n c] 24)) (by simp) (by rw [hn]; exact (blk_cell (blk_new w _) 0).trans rfl) (by simp; omega) (fun j hj => by rw [hB0.cell (p := ⟨b, o + j, none⟩) hb, hcell j hj, List.getElem?_eq_getElem hj]; rfl) (by omega))
 have HB0 := Aside0.mk hB0
 have HK := Aside0.mk hk
 have HN := Aside0.mk hl
 have HLN := Aside0.mk hn
 have HBD := Aside0.mk (show 0 ≤ ((sortL l).take k).sum ∧ ((sortL l).take k).sum ≤ 30 * 30 from by
  have h1 : ∀ (t : List Int), (∀ d ∈ t, 0 ≤ d ∧ d ≤ 30) → 0 ≤ t.sum ∧ t.sum ≤ 30 * t.length := by
   intro t
   induction t with
   | nil => intro _; simp
   | cons a t ih =>
    intro ht
    have := ih (fun d hd => ht d (List.mem_cons_of_mem _ hd))
    have := ht a List.mem_cons_self
    rw [List.sum_cons, List.length_cons]
    omega
  have := h1 ((sortL l).take k) (fun d hd => h d ((sortL_perm l).mem_iff.1 (List.mem_of_mem_take hd)))
  rw [htl] at this
  omega)
 have HSU := Aside0.mk (fun (A' : Option Addr) (c' : Nat) (W : World) (h1 : Kd.C (Kd.int .i64) W A' ((sortL l).take k).length ((sortL l).take k)) (h2 : k ≤ c') => (show Calls Try.prog 63 #[.slice A' k c'] W fun e w' => e = .returned (.int .i64 ((sortL l).take k).sum) ∧ Drawn0 W w' from by
  have h3 := scores_sum.calls ks A' c' ((sortL l).take k) _ W h1 (by rw [htl]; exact h2) hks
  rw [htl] at h3
  exact h3))
 have k0 : (0 : Int) ≤ (k : Int) := by omega
 have k1 : (k : Int) ≤ (n : Int) := by omega
 clear hr hn hl h hk hb hcell hks hB0
 go_enter Try.func71, Try.ntmps71
 go_wp2_with (first
  | (go_at_call 97; (with_reducible refine HV.out.mono ?_); rintro e w1 ⟨rfl, rfl⟩)
  | (
    go_at_call 96; (with_reducible refine HS.out.mono ?_); rintro e w2 ⟨v, rfl, ho, hb⟩
    obtain ⟨A2, c2, rfl, hc2, hr2⟩ := ho.row
    have HB2 := Aside0.mk (below_then HB0.out HB0.out.size hb); have HR2 := Aside0.mk hr2; have HC2 := Aside0.mk hc2
    rw [sortL_len, HLN.out] at hc2 ⊢
    have c2b : (n : Int) ≤ (c2 : Int) := by omega
    have k2 : (k : Int) ≤ (c2 : Int) := by omega
    have HR3 := Aside0.mk (Kd.C_take hr2.1 (m := k) (by rw [sortL_len, HLN.out]; exact HK.out))
    have HC3 := Aside0.mk (show k ≤ c2 from by omega)
    clear hc2 hr2 ho hb)
  | (
    go_at_call 63; (with_reducible refine (HSU.out _ _ _ HR3.out HC3.out).mono ?_); rintro e w3 ⟨rfl, hd⟩
    have HB3 := Aside0.mk (below_then HB2.out HB2.out.size hd.below); clear hd))
 have hk1 : wrap64 ((k : Int) - 1) = (k : Int) - 1 := w64 (by omega) (by have := HN.out; omega)
 have hk2 := kk_bd k (by have := HN.out; have := HK.out; omega)
 have hk3 : wrap64 ((k : Int) * ((k : Int) - 1)) = (k : Int) * ((k : Int) - 1) := w64 (by omega) (by omega)
 have hk4 := HBD.out
 have hk5 : 0 ≤ ((k : Int) * ((k : Int) - 1)).tdiv 2 ∧ ((k : Int) * ((k : Int) - 1)).tdiv 2 ≤ 870 := by
  rw [Int.tdiv_eq_ediv_of_nonneg hk2.1]
  omega
 rw [hk1, hk3]
 have hk6 : wrap64 (((k : Int) * ((k : Int) - 1)).tdiv 2) = ((k : Int) * ((k : Int) - 1)).tdiv 2 := w64 (by omega) (by omega)
 rw [hk6]
 have hk7 : wrap64 (((k : Int) * ((k : Int) - 1)).tdiv 2 - ((sortL l).take k).sum) = lackL l k := w64 (by omega) (by omega)
 rw [hk7]
 clear hk1 hk2 hk3 hk4 hk5 hk6 hk7 k0 k1 c2b k2
 go_wp2
 go_ret
 exact ⟨rfl, HB3.out⟩
end Go.Proofs.Ytcploeijeedmdaa.Q
namespace Go.Proofs.Ytcploeijeedmdaa.X
open Go.RowKit Go.Shelf Go.Proofs.YtcploeijeedmdaaW.PrintWords Go.Proofs.YtcploeijeedmdaaW.PrintLast Go.Proofs.Ytcploeijeedmdaa.S
open Go.Proofs.Ytcploeijeedmdaa.Q (sortL sortL_len sortL_perm lackL lack_calls)
set_option linter.unusedVariables false
set_option linter.unusedSimpArgs false
def okC (s : List Int) (t : List (List Int)) (k : Int) : Prop :=
 (k = 0 ∧ IsC t ∧ t.map List.sum = s) ∨ (k = -1 ∧ t.length = 0 ∧ s.sum ≠ ((s.length : Int) * ((s.length : Int) - 1)).tdiv 2) ∨ ((1 ≤ k ∧ k ≤ s.length) ∧ t.length = 0 ∧ 0 < lackL s k.toNat)
def rU (s : List Int) (t : List (List Int)) (i : Nat) : Bool := (List.range i).all fun j => (t.getD j []).sum == s.getD j 0
theorem rU_succ (s : List Int) (t : List (List Int)) (i : Nat) : rU s t (i + 1) = (rU s t i && ((t.getD i []).sum == s.getD i 0)) := by unfold rU; rw [List.range_succ, List.all_append]; simp
theorem rU_all {s : List Int} {t : List (List Int)} (h : t.length = s.length) : rU s t t.length = true ↔ t.map List.sum = s := by
 unfold rU
 rw [List.all_eq_true]
 simp only [List.mem_range, beq_iff_eq]
 constructor
 ·intro hh
  apply List.ext_getElem
  ·simpa using h
  ·intro i h1 h2
   rw [List.length_map] at h1
   have := hh i h1
   rw [List.getD_eq_getElem?_getD, List.getD_eq_getElem?_getD, List.getElem?_eq_getElem h1, List.getElem?_eq_getElem h2] at this
   rw [List.getElem_map]
   exact this
 ·intro e j hj
  subst e
  rw [List.getD_eq_getElem?_getD, List.getD_eq_getElem?_getD, List.getElem?_map, List.getElem?_eq_getElem hj]
  rfl
set_option maxHeartbeats 8000000 in
set_option maxRecDepth 100000 in
theorem checkC_calls {n T : Nat} (A : Option Addr) (c : Nat) (s : List Int) (A' : Option Addr) (c' : Nat) (t : List (List Int)) (k : Int) (r : Bool) (E : Int) (w : World) (hr : RowI w A s) (ht : RowLL w A' t) (hs : s.length = n) (hc : n ≤ c) (hT : t.length = T) (hT2 : T ≤ 31)
  (hnum : numsB s = true) (hv : r = true ↔ okC s t k) (hE : E = if r = true then 0 else 10) :
  Calls Try.prog 39 #[.slice A n c, .slice A' T c', .int .i64 k] w fun e w' => e = .returned (.int .i64 E) ∧ Below w.heap.size w w' := by
 have hn := numsB_iff.1 hnum
 have hn30 : n ≤ 30 := by omega
 have HR := Aside0.mk hr
 have HT := Aside0.mk ht
 have HS := Aside0.mk hs
 have HC := Aside0.mk hc
 have HTL := Aside0.mk hT
 have HT2 := Aside0.mk hT2
 have HN30 := Aside0.mk hn30
 have HALL := Aside0.mk hn.2
 have HV := Aside0.mk hv
 have HE := Aside0.mk hE
 have HAN := Aside0.mk (show Calls Try.prog 61 #[.slice A n c] w fun e w' => e = .returned (.bool true) ∧ Drawn0 w w' from by
  have h := scores_areNumbers.calls A c s w hr
  rw [hnum, hs] at h
  exact h)
 clear hr ht hs hc hT hT2 hnum hv hn hn30 hE
 by_cases hk0 : k = 0
 ·subst hk0
  have HOK := Aside0.mk (show okC s t 0 ↔ IsC t ∧ t.map List.sum = s from by
   unfold okC
   constructor
   ·rintro (h | h | h)
    ·exact h.2
    ·omega
    ·omega
   ·intro h; exact .inl ⟨rfl, h⟩)
  by_cases hC : IsC t
  ·have HIC := Aside0.mk hC
   have HCO := Aside0.mk (fun (W : World) (h : RowLL W A' t) => (show Calls Try.prog 58 #[.slice A' T c'] W fun e w' => e = .returned (.bool true) ∧ Drawn0 W w' from by
    have h := scores_isContest.calls A' c' t true W h (⟨fun _ => hC, fun _ => rfl⟩)
    rw [HTL.out] at h
    exact h))
   by_cases hTn : T = n
   ·subst hTn
    have HRU := Aside0.mk (show rU s t T = true ↔ t.map List.sum = s from by have := rU_all (s := s) (t := t) (by rw [HTL.out, HS.out]); rw [HTL.out] at this; exact this)
    have HRR := Aside0.mk (show r = rU s t T from by
     rw [Bool.eq_iff_iff, HV.out, HOK.out, HRU.out]
     exact ⟨fun h => h.2, fun h => ⟨HIC.out, h⟩⟩)
    clear hC
    go_enter Try.func39, Try.ntmps39
    go_wp2_with (first
     | (
       go_at_call 61; (with_reducible refine HAN.out.mono ?_); rintro e w1 ⟨rfl, hd⟩
       have HB1 := Aside0.mk (show Below w.heap.size w w1 from hd.below); have HR1 := Aside0.mk (HR.out.drawn hd); have HT1 := Aside0.mk (HT.out.drawn hd); clear hd)
     | (
       go_at_call 58; (with_reducible refine (HCO.out _ HT1.out).mono ?_); rintro e w2 ⟨rfl, hd⟩
       have HB2 := Aside0.mk (below_then HB1.out HB1.out.size hd.below); have HR2 := Aside0.mk (HR1.out.drawn hd); have HT2' := Aside0.mk (HT1.out.drawn hd); clear hd))
    go_loopw [28, 8] (fun iv bv wr => ∃ i : Nat, i ≤ T ∧ iv = .int .i64 (i : Int) ∧ bv = .bool (rU s t i) ∧ Aside0 (Below w2.heap.size w2 wr)) (fun iv _ _ => T - (intOf iv).toNat)
    case atStart => exact ⟨0, Nat.zero_le _, rfl, rfl, ⟨Below.refl _ _⟩⟩
    case round =>
     obtain ⟨i, hi, rfl, rfl, HBr⟩ := hrel
     by_cases hil : i < T
     ·have HI := Aside0.mk hil
      have hz : (i : Int) < (T : Int) := by omega
      have hi1 := Aside0.mk (show wrap64 ((i : Int) + 1) = ((i + 1 : Nat) : Int) from nxtN (by have := HT2.out; omega))
      have HUS := Aside0.mk (rU_succ s t i)
      clear hi hil
      cases hb : rU s t i with
      | false =>
       rw [hb, Bool.false_and] at HUS
       clear hb
       go_wp2
       go_quiet (fail)
       have HBn := Aside0.mk (pw_below_drewN HBr.out nq)
       go_wp2
       go_roundw
       ·exact ⟨i + 1, HI.out, congrArg (Value.int .i64) hi1.out, by rw [HUS.out], HBn⟩
       ·rw [hi1.out]; have := HI.out; simp only [intOf]; omega
      | true =>
       rw [hb, Bool.true_and] at HUS
       clear hb
       obtain ⟨ad, Ai, ci, y, hy, hA, z1, hyc, hry⟩ := RowLL.at_ (HT2'.out.below HBr.out) (i := i) (by rw [HTL.out]; exact HI.out)
       subst hA
       obtain ⟨ae, si, hsi, hA2, z2⟩ := RowI.at_ (HR2.out.below HBr.out) (i := i) (by rw [HS.out]; exact HI.out)
       subst hA2
       have hrc := HIC.out.rows i y hy
       have hyl : y.length ≤ 31 := by have := hrc.1; have := HTL.out; have := HT2.out; omega
       obtain ⟨ks, hks⟩ := sum_f (l := y) hyl (fun d hd => by have := inR_iff.1 (hrc.2 d hd); omega)
       have e1 : (t.getD i []).sum = y.sum := by rw [List.getD_eq_getElem?_getD, hy]; rfl
       have e2 : s.getD i 0 = si := by rw [List.getD_eq_getElem?_getD, hsi]; rfl
       rw [e1, e2] at HUS
       have HRY := Aside0.mk hry
       have HSU := Aside0.mk (fun (W : World) (h : RowI W Ai y) => scores_sum.calls ks Ai ci y y.sum W h.1 hyc hks)
       generalize y.sum = sm at HUS HSU
       generalize y.length = yl at z1 HSU
       clear hy hyc hry hrc hyl hks hsi e1 e2
       cases hq : (sm == si) with
       | true =>
        rw [hq] at HUS
        have HQ : Aside0 (sm = si) := ⟨beq_iff_eq.1 hq⟩
        clear hq
        have q1 : (sm = si) = True := eq_true HQ.out
        have q2 : (sm == si) = true := beq_iff_eq.2 HQ.out
        have q3 : decide (sm = si) = true := decide_eq_true HQ.out
        clear HQ
        go_wp2
        refine stz (fun w' => w'.cell? (ad.add i) = some (.slice Ai yl ci) ∧ w'.cell? (ae.add i) = some (.int .i64 si)) [] (bn 14 0) ⟨z1, z2⟩ (fun hHeld => ?_)
        refine pz 0 (some 31) (bn 14 1) ?_
        refine pz 1 (some 32) (bn 14 3) ?_
        refine pz 2 (some 33) (bn 14 7) ?_
        refine pz 3 (some 34) (bn 14 15) ?_
        refine pz 4 (some 35) (bn 14 31) ?_
        refine tz 5 (some 36) (bn 14 63) hHeld ?_
        refine pz 7 (some 38) (bn 14 191) ?_
        refine pz 8 (some 39) (bn 14 447) ?_
        refine pz 9 (some 40) (bn 14 959) ?_
        refine tz 10 (some 41) (bn 14 1983) hHeld ?_
        refine oz 6 (some 37) (bn 14 2047) (fun K hK => ?_)
        refine gz Try.func63 #[.slice Ai yl ci] ?_
        (with_reducible refine (HSU.out _ (HRY.out.below (below_drew (Below.refl _ _)))).mono ?_)
        rintro e wn ⟨rfl, hd⟩
        refine ⟨_, rfl, ?_⟩
        have HBn := Aside0.mk (below_then (below_drew HBr.out) (below_drew HBr.out).size hd.below)
        refine hK.out _ _ ⟨pw_cell_below hd.below z1, pw_cell_below hd.below z2⟩ (fun hHeld => ?_)
        clear hK K hd
        refine nz (some 37) ?_
        refine pz 11 (some 42) (bn 14 4095) ?_
        refine pz 12 (some 43) (bn 14 8191) ?_
        refine pz 13 (some 8) (bn 14 16383) ?_
        refine done_ (by kernel_rfl) ?_
        clear hHeld z1 z2
        go_wp2
        go_roundw
        ·exact ⟨i + 1, HI.out, congrArg (Value.int .i64) hi1.out, by rw [HUS.out], HBn⟩
        ·rw [hi1.out]; have := HI.out; simp only [intOf]; omega
       | false =>
        rw [hq] at HUS
        have HQ : Aside0 (¬ sm = si) := ⟨beq_eq_false_iff_ne.1 hq⟩
        clear hq
        have q1 : (sm = si) = False := eq_false HQ.out
        have q2 : (sm == si) = false := beq_eq_false_iff_ne.2 HQ.out
        have q3 : decide (sm = si) = false := decide_eq_false HQ.out
        clear HQ
        go_wp2
        refine stz (fun w' => w'.cell? (ad.add i) = some (.slice Ai yl ci) ∧ w'.cell? (ae.add i) = some (.int .i64 si)) [] (bn 14 0) ⟨z1, z2⟩ (fun hHeld => ?_)
        refine pz 0 (some 31) (bn 14 1) ?_
        refine pz 1 (some 32) (bn 14 3) ?_
        refine pz 2 (some 33) (bn 14 7) ?_
        refine pz 3 (some 34) (bn 14 15) ?_
        refine pz 4 (some 35) (bn 14 31) ?_
        refine tz 5 (some 36) (bn 14 63) hHeld ?_
        refine pz 7 (some 38) (bn 14 191) ?_
        refine pz 8 (some 39) (bn 14 447) ?_
        refine pz 9 (some 40) (bn 14 959) ?_
        refine tz 10 (some 41) (bn 14 1983) hHeld ?_
        refine oz 6 (some 37) (bn 14 2047) (fun K hK => ?_)
        refine gz Try.func63 #[.slice Ai yl ci] ?_
        (with_reducible refine (HSU.out _ (HRY.out.below (below_drew (Below.refl _ _)))).mono ?_)
        rintro e wn ⟨rfl, hd⟩
        refine ⟨_, rfl, ?_⟩
        have HBn := Aside0.mk (below_then (below_drew HBr.out) (below_drew HBr.out).size hd.below)
        refine hK.out _ _ ⟨pw_cell_below hd.below z1, pw_cell_below hd.below z2⟩ (fun hHeld => ?_)
        clear hK K hd
        refine nz (some 37) ?_
        refine pz 11 (some 42) (bn 14 4095) ?_
        refine pz 12 (some 43) (bn 14 8191) ?_
        refine pz 13 (some 8) (bn 14 16383) ?_
        refine done_ (by kernel_rfl) ?_
        clear hHeld z1 z2
        go_wp2
        go_roundw
        ·exact ⟨i + 1, HI.out, congrArg (Value.int .i64) hi1.out, by rw [HUS.out], HBn⟩
        ·rw [hi1.out]; have := HI.out; simp only [intOf]; omega
     ·obtain rfl : T = i := by omega
      clear hi hil
      have HBx := Aside0.mk (below_then HB2.out HB2.out.size HBr.out)
      cases hb : rU s t T with
      | true =>
       have HRF := Aside0.mk (HRR.out.trans hb)
       clear hb
       go_wp2
       go_ret
       exact ⟨by rw [HE.out, HRF.out]; rfl, HBx.out⟩
      | false =>
       have HRF := Aside0.mk (HRR.out.trans hb)
       clear hb
       go_wp2
       go_ret
       exact ⟨by rw [HE.out, HRF.out]; rfl, HBx.out⟩
   ·have HRF := Aside0.mk (show r = false from by
     rw [← Bool.not_eq_true, HV.out, HOK.out]
     intro h
     have := congrArg List.length h.2
     rw [List.length_map, HTL.out, HS.out] at this
     exact hTn this)
    have q1 : ((T : Int) = (n : Int)) = False := eq_false (by omega)
    have q2 : ((T : Int) == (n : Int)) = false := beq_eq_false_iff_ne.2 (by omega)
    have q3 : (T = n) = False := eq_false hTn
    clear hC hTn
    go_enter Try.func39, Try.ntmps39
    go_wp2_with (first
     | (
       go_at_call 61; (with_reducible refine HAN.out.mono ?_); rintro e w1 ⟨rfl, hd⟩
       have HB1 := Aside0.mk (show Below w.heap.size w w1 from hd.below); have HR1 := Aside0.mk (HR.out.drawn hd); have HT1 := Aside0.mk (HT.out.drawn hd); clear hd)
     | (
       go_at_call 58; (with_reducible refine (HCO.out _ HT1.out).mono ?_); rintro e w2 ⟨rfl, hd⟩
       have HB2 := Aside0.mk (below_then HB1.out HB1.out.size hd.below); have HR2 := Aside0.mk (HR1.out.drawn hd); have HT2' := Aside0.mk (HT1.out.drawn hd); clear hd))
    go_loopw [28, 8] (fun iv bv wr => ∃ i : Nat, i ≤ T ∧ iv = .int .i64 (i : Int) ∧ bv = .bool false ∧ Aside0 (Below w.heap.size w wr)) (fun iv _ _ => T - (intOf iv).toNat)
    case atStart => exact ⟨0, Nat.zero_le _, rfl, rfl, HB2⟩
    case round =>
     obtain ⟨i, hi, rfl, rfl, HBr⟩ := hrel
     by_cases hil : i < T
     ·have HI := Aside0.mk hil
      have hz : (i : Int) < (T : Int) := by omega
      have hi1 := Aside0.mk (show wrap64 ((i : Int) + 1) = ((i + 1 : Nat) : Int) from nxtN (by have := HT2.out; omega))
      clear hi hil
      go_wp2
      go_quiet (fail)
      have HBn := Aside0.mk (pw_below_drewN HBr.out nq)
      go_wp2
      go_roundw
      ·exact ⟨i + 1, HI.out, congrArg (Value.int .i64) hi1.out, rfl, HBn⟩
      ·rw [hi1.out]; have := HI.out; simp only [intOf]; omega
     ·obtain rfl : T = i := by omega
      clear hi hil
      go_wp2
      go_ret
      exact ⟨by rw [HE.out, HRF.out]; rfl, HBr.out⟩
  ·have HRF := Aside0.mk (show r = false from by rw [← Bool.not_eq_true, HV.out, HOK.out]; exact fun h => hC h.1)
   have HCO := Aside0.mk (fun (W : World) (h : RowLL W A' t) => (show Calls Try.prog 58 #[.slice A' T c'] W fun e w' => e = .returned (.bool false) ∧ Drawn0 W w' from by
    have h := scores_isContest.calls A' c' t false W h (⟨fun h => (by cases h), fun h => absurd h hC⟩)
    rw [HTL.out] at h
    exact h))
   clear hC
   go_enter Try.func39, Try.ntmps39
   go_wp2_with (first
    | (
      go_at_call 61; (with_reducible refine HAN.out.mono ?_); rintro e w1 ⟨rfl, hd⟩
      have HB1 := Aside0.mk (show Below w.heap.size w w1 from hd.below); have HR1 := Aside0.mk (HR.out.drawn hd); have HT1 := Aside0.mk (HT.out.drawn hd); clear hd)
    | (
      go_at_call 58; (with_reducible refine (HCO.out _ HT1.out).mono ?_); rintro e w2 ⟨rfl, hd⟩
      have HB2 := Aside0.mk (below_then HB1.out HB1.out.size hd.below); have HR2 := Aside0.mk (HR1.out.drawn hd); have HT2' := Aside0.mk (HT1.out.drawn hd); clear hd))
   go_loopw [28, 8] (fun iv bv wr => ∃ i : Nat, i ≤ T ∧ iv = .int .i64 (i : Int) ∧ bv = .bool false ∧ Aside0 (Below w.heap.size w wr)) (fun iv _ _ => T - (intOf iv).toNat)
   case atStart => exact ⟨0, Nat.zero_le _, rfl, rfl, HB2⟩
   case round =>
    obtain ⟨i, hi, rfl, rfl, HBr⟩ := hrel
    by_cases hil : i < T
    ·have HI := Aside0.mk hil
     have hz : (i : Int) < (T : Int) := by omega
     have hi1 := Aside0.mk (show wrap64 ((i : Int) + 1) = ((i + 1 : Nat) : Int) from nxtN (by have := HT2.out; omega))
     clear hi hil
     go_wp2
     go_quiet (fail)
     have HBn := Aside0.mk (pw_below_drewN HBr.out nq)
     go_wp2
     go_roundw
     ·exact ⟨i + 1, HI.out, congrArg (Value.int .i64) hi1.out, rfl, HBn⟩
     ·rw [hi1.out]; have := HI.out; simp only [intOf]; omega
    ·obtain rfl : T = i := by omega
     clear hi hil
     go_wp2
     go_ret
     exact ⟨by rw [HE.out, HRF.out]; rfl, HBr.out⟩
 ·have z0 : (k = 0) = False := eq_false (by omega)
  have z1 : decide (k = 0) = false := decide_eq_false (by omega)
  have z9 : (k == 0) = false := beq_eq_false_iff_ne.2 (by omega)
  have z7 : (k != 0) = true := by rw [bne, z9]; rfl
  by_cases hk1 : k = -1
  ·subst hk1
   clear z0 z1 z9 hk0
   obtain ⟨ks, hks⟩ := sum_f (l := s) (by rw [HS.out]; have := HN30.out; omega) HALL.out
   have HSU := Aside0.mk (fun (W : World) (h : RowI W A s) => (show Calls Try.prog 63 #[.slice A n c] W fun e w' => e = .returned (.int .i64 s.sum) ∧ Drawn0 W w' from by
    have h3 := scores_sum.calls ks A c s s.sum W h.1 (by rw [HS.out]; exact HC.out) hks
    rw [HS.out] at h3
    exact h3))
   obtain ⟨D, HD⟩ : ∃ D, Aside0 (((n : Int) * ((n : Int) - 1)).tdiv 2 = D) := ⟨_, ⟨rfl⟩⟩
   have HOK := Aside0.mk (show okC s t (-1) ↔ T = 0 ∧ s.sum ≠ D from by
    unfold okC
    rw [HTL.out, HS.out, HD.out]
    constructor
    ·rintro (h | h | h)
     ·omega
     ·exact h.2
     ·omega
    ·intro h; exact .inr (.inl ⟨rfl, h⟩))
   have hw0 : 0 ≤ (n : Int) * ((n : Int) - 1) ∧ (n : Int) * ((n : Int) - 1) ≤ 870 := kk_bd n (by have := HN30.out; omega)
   have HW1 := Aside0.mk (show wrap64 ((n : Int) - 1) = (n : Int) - 1 from w64 (by omega) (by have := HN30.out; omega))
   have HW2 := Aside0.mk (show wrap64 ((n : Int) * ((n : Int) - 1)) = (n : Int) * ((n : Int) - 1) from w64 (by omega) (by omega))
   have HW3 := Aside0.mk (show wrap64 (((n : Int) * ((n : Int) - 1)).tdiv 2) = D from by
    rw [← HD.out]
    rw [Int.tdiv_eq_ediv_of_nonneg hw0.1]
    exact w64 (by omega) (by omega))
   clear hw0 hks
   generalize s.sum = sm at HSU HOK
   by_cases hT0 : T = 0
   ·have t0 : ((T : Int) = 0) = True := eq_true (by omega)
    have t1 : decide ((T : Int) = 0) = true := decide_eq_true (by omega)
    have t9 : ((T : Int) == 0) = true := beq_iff_eq.2 (by omega)
    have t7 : ((T : Int) != 0) = false := by rw [bne, t9]; rfl
    by_cases hsD : sm = D
    ·have HRF := Aside0.mk (show r = false from by rw [← Bool.not_eq_true, HV.out, HOK.out]; exact fun h => h.2 hsD)
     have d0 : (sm = D) = True := eq_true (by omega)
     have d1 : decide (sm = D) = true := decide_eq_true (by omega)
     have d9 : (sm == D) = true := beq_iff_eq.2 (by omega)
     have d7 : (sm != D) = false := by rw [bne, d9]; rfl
     clear hsD hT0
     have hw1 := HW1.out; have hw2 := HW2.out; have hw3 := HW3.out
     go_enter Try.func39, Try.ntmps39
     go_wp2_with (first
      | (
        go_at_call 61; (with_reducible refine HAN.out.mono ?_); rintro e w1 ⟨rfl, hd⟩
        have HB1 := Aside0.mk (show Below w.heap.size w w1 from hd.below); have HR1 := Aside0.mk (HR.out.drawn hd); have HT1 := Aside0.mk (HT.out.drawn hd); clear hd)
      | (
        go_at_call 63; (with_reducible refine (HSU.out _ HR1.out).mono ?_); rintro e w2 ⟨rfl, hd⟩
        have HB2 := Aside0.mk (below_then HB1.out HB1.out.size hd.below); clear hd))
     go_ret
     exact ⟨by rw [HE.out, HRF.out]; rfl, HB2.out⟩
    ·have HRF := Aside0.mk (show r = true from by rw [HV.out, HOK.out]; exact ⟨hT0, hsD⟩)
     have d0 : (sm = D) = False := eq_false (by omega)
     have d1 : decide (sm = D) = false := decide_eq_false (by omega)
     have d9 : (sm == D) = false := beq_eq_false_iff_ne.2 (by omega)
     have d7 : (sm != D) = true := by rw [bne, d9]; rfl
     clear hsD hT0
     have hw1 := HW1.out; have hw2 := HW2.out; have hw3 := HW3.out
     go_enter Try.func39, Try.ntmps39
     go_wp2_with (first
      | (
        go_at_call 61; (with_reducible refine HAN.out.mono ?_); rintro e w1 ⟨rfl, hd⟩
        have HB1 := Aside0.mk (show Below w.heap.size w w1 from hd.below); have HR1 := Aside0.mk (HR.out.drawn hd); have HT1 := Aside0.mk (HT.out.drawn hd); clear hd)
      | (
        go_at_call 63; (with_reducible refine (HSU.out _ HR1.out).mono ?_); rintro e w2 ⟨rfl, hd⟩
        have HB2 := Aside0.mk (below_then HB1.out HB1.out.size hd.below); clear hd))
     go_ret
     exact ⟨by rw [HE.out, HRF.out]; rfl, HB2.out⟩
   ·have HRF := Aside0.mk (show r = false from by rw [← Bool.not_eq_true, HV.out, HOK.out]; exact fun h => hT0 h.1)
    have t0 : ((T : Int) = 0) = False := eq_false (by omega)
    have t1 : decide ((T : Int) = 0) = false := decide_eq_false (by omega)
    have t9 : ((T : Int) == 0) = false := beq_eq_false_iff_ne.2 (by omega)
    have t7 : ((T : Int) != 0) = true := by rw [bne, t9]; rfl
    have t8 : (T = 0) = False := eq_false hT0
    clear hT0
    go_enter Try.func39, Try.ntmps39
    go_wp2_with (first
     | (
       go_at_call 61; (with_reducible refine HAN.out.mono ?_); rintro e w1 ⟨rfl, hd⟩
       have HB1 := Aside0.mk (show Below w.heap.size w w1 from hd.below); have HR1 := Aside0.mk (HR.out.drawn hd); have HT1 := Aside0.mk (HT.out.drawn hd); clear hd))
    go_ret
    exact ⟨by rw [HE.out, HRF.out]; rfl, HB1.out⟩
  ·have m0 : (k = -1) = False := eq_false (by omega)
   have m1 : decide (k = -1) = false := decide_eq_false (by omega)
   have m9 : (k == -1) = false := beq_eq_false_iff_ne.2 (by omega)
   have m7 : (k != -1) = true := by rw [bne, m9]; rfl
   by_cases hkn : 1 ≤ k ∧ k ≤ (n : Int)
   ·obtain ⟨kk, rfl⟩ := Int.eq_ofNat_of_zero_le (show 0 ≤ k by omega)
    have HWI := Aside0.mk (fun W => scores_within.calls (kk : Int) 1 (n : Int) true W (by rw [within_f, inR_iff.2 hkn]))
    have HLA := Aside0.mk (fun (W : World) (h : RowI W A s) => lack_calls (n := n) A c s W h HS.out (by have := HN30.out; omega) HALL.out kk (by omega))
    have HOK := Aside0.mk (show okC s t (kk : Int) ↔ T = 0 ∧ 0 < lackL s kk from by
     unfold okC
     rw [HTL.out, HS.out, Int.toNat_natCast]
     constructor
     ·rintro (h | h | h)
      ·omega
      ·omega
      ·exact h.2
     ·intro h; exact .inr (.inr ⟨hkn, h⟩))
    generalize lackL s kk = D at HLA HOK
    clear hkn hk0 hk1
    by_cases hT0 : T = 0
    ·have t0 : ((T : Int) = 0) = True := eq_true (by omega)
     have t1 : decide ((T : Int) = 0) = true := decide_eq_true (by omega)
     have t9 : ((T : Int) == 0) = true := beq_iff_eq.2 (by omega)
     have t7 : ((T : Int) != 0) = false := by rw [bne, t9]; rfl
     by_cases hD : 0 < D
     ·have HRF := Aside0.mk (show r = true from by rw [HV.out, HOK.out]; exact ⟨hT0, hD⟩)
      have d0 : ((0 : Int) < D) = True := eq_true (by omega)
      have d1 : decide ((0 : Int) < D) = true := decide_eq_true (by omega)
      clear hD hT0
      go_enter Try.func39, Try.ntmps39
      go_wp2_with (first
       | (
         go_at_call 61; (with_reducible refine HAN.out.mono ?_); rintro e w1 ⟨rfl, hd⟩
         have HB1 := Aside0.mk (show Below w.heap.size w w1 from hd.below); have HR1 := Aside0.mk (HR.out.drawn hd); have HT1 := Aside0.mk (HT.out.drawn hd); clear hd)
       | (
         go_at_call 62; (with_reducible refine (HWI.out _).mono ?_); rintro e w2 ⟨rfl, hd⟩
         have HB2 := Aside0.mk (below_then HB1.out HB1.out.size hd.below); have HR2 := Aside0.mk (HR1.out.drawn hd); clear hd)
       | (
         go_at_call 71; (with_reducible refine (HLA.out _ HR2.out).mono ?_); rintro e w3 ⟨rfl, hb⟩
         have HB3 := Aside0.mk (below_then HB2.out HB2.out.size hb); clear hb))
      go_ret
      exact ⟨by rw [HE.out, HRF.out]; rfl, HB3.out⟩
     ·have HRF := Aside0.mk (show r = false from by rw [← Bool.not_eq_true, HV.out, HOK.out]; exact fun h => hD h.2)
      have d0 : ((0 : Int) < D) = False := eq_false (by omega)
      have d1 : decide ((0 : Int) < D) = false := decide_eq_false (by omega)
      clear hD hT0
      go_enter Try.func39, Try.ntmps39
      go_wp2_with (first
       | (
         go_at_call 61; (with_reducible refine HAN.out.mono ?_); rintro e w1 ⟨rfl, hd⟩
         have HB1 := Aside0.mk (show Below w.heap.size w w1 from hd.below); have HR1 := Aside0.mk (HR.out.drawn hd); have HT1 := Aside0.mk (HT.out.drawn hd); clear hd)
       | (
         go_at_call 62; (with_reducible refine (HWI.out _).mono ?_); rintro e w2 ⟨rfl, hd⟩
         have HB2 := Aside0.mk (below_then HB1.out HB1.out.size hd.below); have HR2 := Aside0.mk (HR1.out.drawn hd); clear hd)
       | (
         go_at_call 71; (with_reducible refine (HLA.out _ HR2.out).mono ?_); rintro e w3 ⟨rfl, hb⟩
         have HB3 := Aside0.mk (below_then HB2.out HB2.out.size hb); clear hb))
      go_ret
      exact ⟨by rw [HE.out, HRF.out]; rfl, HB3.out⟩
    ·have HRF := Aside0.mk (show r = false from by rw [← Bool.not_eq_true, HV.out, HOK.out]; exact fun h => hT0 h.1)
     have t0 : ((T : Int) = 0) = False := eq_false (by omega)
     have t1 : decide ((T : Int) = 0) = false := decide_eq_false (by omega)
     have t9 : ((T : Int) == 0) = false := beq_eq_false_iff_ne.2 (by omega)
     have t7 : ((T : Int) != 0) = true := by rw [bne, t9]; rfl
     have t8 : (T = 0) = False := eq_false hT0
     clear hT0
     go_enter Try.func39, Try.ntmps39
     go_wp2_with (first
      | (
        go_at_call 61; (with_reducible refine HAN.out.mono ?_); rintro e w1 ⟨rfl, hd⟩
        have HB1 := Aside0.mk (show Below w.heap.size w w1 from hd.below); have HR1 := Aside0.mk (HR.out.drawn hd); have HT1 := Aside0.mk (HT.out.drawn hd); clear hd)
      | (
        go_at_call 62; (with_reducible refine (HWI.out _).mono ?_); rintro e w2 ⟨rfl, hd⟩
        have HB2 := Aside0.mk (below_then HB1.out HB1.out.size hd.below); have HR2 := Aside0.mk (HR1.out.drawn hd); clear hd))
     go_ret
     exact ⟨by rw [HE.out, HRF.out]; rfl, HB2.out⟩
   ·have HWI := Aside0.mk (fun W => scores_within.calls k 1 (n : Int) false W (by rw [within_f]; congr 1; rw [← Bool.not_eq_true, inR_iff]; exact hkn))
    have HRF := Aside0.mk (show r = false from by
     rw [← Bool.not_eq_true, HV.out]
     unfold okC
     rw [HTL.out, HS.out]
     rintro (h | h | h)
     ·exact hk0 h.1
     ·exact hk1 h.1
     ·exact hkn h.1)
    clear hkn hk0 hk1
    go_enter Try.func39, Try.ntmps39
    go_wp2_with (first
     | (
       go_at_call 61; (with_reducible refine HAN.out.mono ?_); rintro e w1 ⟨rfl, hd⟩
       have HB1 := Aside0.mk (show Below w.heap.size w w1 from hd.below); have HR1 := Aside0.mk (HR.out.drawn hd); have HT1 := Aside0.mk (HT.out.drawn hd); clear hd)
     | (
       go_at_call 62; (with_reducible refine (HWI.out _).mono ?_); rintro e w2 ⟨rfl, hd⟩
       have HB2 := Aside0.mk (below_then HB1.out HB1.out.size hd.below); have HR2 := Aside0.mk (HR1.out.drawn hd); clear hd))
    go_ret
    exact ⟨by rw [HE.out, HRF.out]; rfl, HB2.out⟩
end Go.Proofs.Ytcploeijeedmdaa.X
