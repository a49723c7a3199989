/- A row of numbers of the call's own, sorted and compacted by the library. Texts of this claim's session, put together: Row. -/
import Derived.Test.YtplhfbkejngioaaBc3
import Derived.Test.YtplhfbkejngioaaBc4
import Derived.Sort.OwnSortedInts
import Derived.Lib.OwnBridge
import Derived.Test.YtplhfbkejngioaaVWords
import Derived.Test.YtplhfbkejngioaaVLast
namespace Go.Proofs.Ytplhfbkejngioaa.X
open Go.RowKit Go.Sort Go.Lib Go.Proofs.YtplhfbkejngioaaW.PrintWords
set_option linter.unusedVariables false
def OwnI (W : World) (base : Nat) (v : Value) (xs : List Int) : Prop := W.ownsRow base 3 1 v xs.length (xs.map (Value.int .i64))
def sorted (xs : List Int) : List Int := xs.mergeSort fun x y => decide (x ≤ y)
theorem sorted_length (xs : List Int) : (sorted xs).length = xs.length := List.length_mergeSort xs
theorem OwnI.nil (W : World) (base : Nat) : OwnI W base (.slice none 0 0) [] := ⟨rfl, .inl ⟨rfl, rfl⟩⟩
theorem OwnI.reads {W : World} {base : Nat} {v : Value} {xs : List Int} (h : OwnI W base v xs) (hm : xs.length ≤ 9223372036854775807) : ∃ A c, v = .slice A xs.length c ∧ xs.length ≤ c ∧ Kd.C (Kd.int .i64) W A xs.length xs := by
 have hR : Kd.R (Kd.int .i64) 3 W base (fun _ => True) v xs := by
  refine ⟨fun _ _ => trivial, _, h, ?_⟩
  exact Kd.reps_scalar xs
 obtain ⟨A, c, e, hl, hc⟩ := Kd.R_reads hR
 exact ⟨A, c, e, hl, hc⟩
theorem OwnI.grown {W W' : World} {base : Nat} {v : Value} {xs : List Int} {row : Option Nat} (h : OwnI W base v xs) (hg : W.grownBy W' row) (hne : ∀ k, v.ownBlock = some k → some k ≠ row) : OwnI W' base v xs := by
 obtain ⟨h1, h2⟩ := h
 refine ⟨h1, ?_⟩
 rcases h2 with h2 | ⟨g, cap, cur, rfl, hb, hh, r⟩
 ·exact .inl h2
 ·exact .inr ⟨g, cap, cur, rfl, hb, blk_grown hh hg (hne g (by simp [Value.ownBlock])), r⟩
theorem OwnI.lt {W : World} {base : Nat} {v : Value} {xs : List Int} (h : OwnI W base v xs) {k : Nat} (hk : v.ownBlock = some k) : k < W.heap.size ∧ base ≤ k := by
 rcases h.2 with ⟨rfl, _⟩ | ⟨g, cap, cur, rfl, hb, hh, r⟩
 ·simp [Value.ownBlock] at hk
 ·have : g = k := by simpa [Value.ownBlock] using hk
  subst this
  exact ⟨blk_lt hh, hb⟩
theorem sort_own {W : World} {base : Nat} {v : Value} {xs : List Int} (h : OwnI W base v xs) (hl : xs.length < 4611686018427387904) :
  Calls Try.prog 68 #[v] W fun e w' => e = .returned (.tuple #[]) ∧ OwnI w' base v (sorted xs) ∧ W.grownBy w' v.ownBlock := by
 rcases h.2 with ⟨rfl, h0⟩ | ⟨g, cap, cur, rfl, hb, hh, hn, hc, hs, ht⟩
 ·obtain rfl : xs = [] := by simpa using h0
  refine (Try.slices_Sort_int_none none 0 W).mono ?_
  rintro e w' ⟨rfl, rfl⟩
  exact ⟨rfl, by simpa [sorted] using OwnI.nil _ base, World.grownBy.refl _ _⟩
 ·have ht' : cur.toList.take xs.length = xs.map (Value.int .i64) := by simpa using ht
  refine (Try.slices_Sort_int g 0 cap xs W (holds_of_blockI hh ht') (blk_lt hh) hl).mono ?_
  rintro e w' ⟨rfl, n, os, rfl⟩
  refine ⟨rfl, ?_, grownBy_sortedI _⟩
  have := ownsRow_sortedI (w := W) (n := n) (os := os) (ts := sorted xs) (sorted_length xs) hb hh hn hc hs
  unfold OwnI
  rw [sorted_length]
  exact this
theorem compact_len (xs : List Int) : (Lib.compact xs).length ≤ xs.length := by
 unfold Lib.compact Lib.compactUpTo
 rw [List.length_map]
 exact Nat.le_trans (List.length_filter_le _ _) (by simp)
theorem compact_own {W : World} {base : Nat} {v : Value} {xs : List Int} (h : OwnI W base v xs) (hl : xs.length < 4611686018427387904) :
  Calls Try.prog 69 #[v] W fun e w' => ∃ v', e = .returned v' ∧ OwnI w' base v' (Lib.compact xs) ∧ W.grownBy w' v.ownBlock ∧ v'.ownBlock = v.ownBlock := by
 rcases h.2 with ⟨rfl, h0⟩ | ⟨g, cap, cur, rfl, hb, hh, hn, hc, hs, ht⟩
 ·obtain rfl : xs = [] := by simpa using h0
  refine (Try.slices_Compact_int_empty none 0 W).mono ?_
  rintro e w' ⟨rfl, rfl⟩
  exact ⟨_, rfl, by simpa [Lib.compact, Lib.compactUpTo] using OwnI.nil _ base, World.grownBy.refl _ _, rfl⟩
 ·have ht' : cur.toList.take xs.length = xs.map (Value.int .i64) := by simpa using ht
  refine (Try.slices_Compact_int g 0 cap xs W (holds_of_blockI hh ht') (by omega) hn).mono ?_
  rintro e w' ⟨rfl, q, rfl⟩
  have hcl := compact_len xs
  refine ⟨_, rfl, ?_, ?_, rfl⟩
  ·have := ownsRow_putRow (q := q) (k := (Lib.compact xs).length) (ys := Lib.compact xs ++ List.replicate (xs.length - (Lib.compact xs).length) 0) (enc := Value.int .i64) h (by simp; omega) hcl
   simpa [OwnI] using this
  ·refine ⟨rfl, rfl, rfl, by simp [putRow, mapBlock, Sort.ahead], fun k hk hne => ?_⟩
   have : g ≠ k := fun e => hne (by rw [← e]; rfl)
   simp [putRow, mapBlock, Sort.ahead, Array.getElem?_modify, this]
theorem OwnI.toR {W : World} {base : Nat} {v : Value} {xs : List Int} (h : OwnI W base v xs) : Kd.R (Kd.int .i64) 3 W base (fun _ => True) v xs := ⟨fun _ _ => trivial, _, h, Kd.reps_scalar xs⟩
theorem OwnI.ofR {W : World} {base : Nat} {ok : Nat → Prop} {v : Value} {xs : List Int} (h : Kd.R (Kd.int .i64) 3 W base ok v xs) : OwnI W base v xs := by
 obtain ⟨_, inner, ho, hr⟩ := h
 have e : inner = xs.map (Value.int .i64) := by
  have hl : inner.length = xs.length * 1 := hr.1
  apply List.ext_getElem?
  intro j
  by_cases hj : j < xs.length
  ·have hc : (inner.drop (j * 1)).take 1 = [.int .i64 xs[j]] := hr.2 j xs[j] (List.getElem?_eq_getElem hj)
   have := congrArg (fun l => l[0]?) hc
   simp [List.getElem?_drop] at this
   rw [this, List.getElem?_map, List.getElem?_eq_getElem hj]; rfl
  ·rw [List.getElem?_eq_none (by omega), List.getElem?_eq_none (by simp; omega)]
 subst e
 exact ho
theorem info3' : (Try.prog.info? 3).map (fun i => (i.zero, i.size, i.bytes)) = some (some (.int .i64 0), 1, 8) := by kernel_rfl
theorem append_step {ops : Array Oper} {o : Oper} {a : Act} {Q : Exit → Act → World → Prop} {Kc : Act → World → Prop} {W : World} {base : Nat} (hw : Region.wanted o (yielded ops a.tmps) = true) (s x : Operand)
  (ho : o.op = .call { callee := .builtin .append, args := #[s, x], argTypes := #[41, 41] }) (v : Value) (xs ys : List Int) (b m c : Nat) (hm : ys.length = m) (hs : a.eval s = v) (hx : a.eval x = .slice (some ⟨b, 0, none⟩) m c)
  (HO : OwnI W base v xs) (hb : W.heap[b]? = some (.cells (ys.map (Value.int .i64)).toArray 3 (0, 0))) (hbase : base ≤ W.heap.size) (hl : (xs.length + ys.length) * 8 ≤ 140737488355328)
  (h : ∀ v1 w1, OwnI w1 base v1 (xs ++ ys) → W.grownBy w1 v.ownBlock → (v1.ownBlock = v.ownBlock ∨ ∃ c, v1.ownBlock = some c ∧ W.heap.size ≤ c) → Kc (a.put o.dst v1) w1) :
  if Region.wanted o (yielded ops a.tmps) = true then Oper.wp Try.prog o a W Kc Q else Kc (a.put o.dst undef) W := by
 subst hm
 refine Kd.R_append_rows_step (Kd.int .i64) (Rr := fun x cs => cs = [.int .i64 x]) (w0 := W) base hw s x 41 3 (.int .i64 0) 8 ho Try.underlying41 info3' rfl (by decide) (by decide) v xs ys (some ⟨b, 0, none⟩) ys.length c (fun _ => True) (fun _ => False) hs hx HO.toR ?_ (fun x cs h => h) (fun k hk => hk.elim) (fun _ _ => trivial) (Below.refl _ _) hbase hl ?_
 ·refine ⟨rfl, by omega, fun _ => ⟨_, rfl, fun j p hj => ⟨[.int .i64 p], rfl, rfl, fun i u hu => ?_⟩⟩⟩
  have hi : i = 0 ∧ u = .int .i64 p := by
   cases i with
   | zero => simp at hu; exact ⟨rfl, hu.symm⟩
   | succ i => simp at hu
  obtain ⟨rfl, rfl⟩ := hi
  show W.cell? (Addr.add ⟨b, 0, none⟩ (j * 1 + 0)) = _
  rw [Addr.add_lit, Nat.mul_one, Nat.add_zero, Nat.zero_add, blk_cell hb j]
  rw [List.getElem?_toArray, List.getElem?_map, hj]; rfl
 ·intro v1 w1 h1 _ h3 h4
  exact h v1 w1 (OwnI.ofR h1) h3 h4
end Go.Proofs.Ytplhfbkejngioaa.X
