/- Rows of whole numbers of the call's own, for the walks of this seat. Texts of this claim's session, put together: SBase. -/
import Derived.Test.YtcploeijeedmdaaBb2
import Derived.Test.YtcploeijeedmdaaBb0
import Derived.Sort.OwnSortedInts
import Derived.Test.YtcploeijeedmdaaVWords
import Derived.Test.YtcploeijeedmdaaVLast
namespace Go.Proofs.Ytcploeijeedmdaa.X
open Go.RowKit Go.Proofs.YtcploeijeedmdaaW.PrintWords Go.Proofs.YtcploeijeedmdaaW.PrintLast Go.Proofs.Ytcploeijeedmdaa.S
set_option linter.unusedVariables false
set_option linter.unusedSimpArgs false
def OwnI (W : World) (base : Nat) (v : Value) (xs : List Int) : Prop := W.ownsRow base 3 1 v xs.length (xs.map (Value.int .i64))
theorem OwnI.nil (W : World) (base : Nat) : OwnI W base (.slice none 0 0) [] := ⟨rfl, .inl ⟨rfl, rfl⟩⟩
theorem OwnI.reads {W : World} {base : Nat} {v : Value} {xs : List Int} (h : OwnI W base v xs) (hm : xs.length ≤ 9223372036854775807) : ∃ A c, v = .slice A xs.length c ∧ xs.length ≤ c ∧ Kd.C (Kd.int .i64) W A xs.length xs := by
 have hR : Kd.R (Kd.int .i64) 3 W base (fun _ => True) v xs := by
  refine ⟨fun _ _ => trivial, _, h, ?_⟩
  exact Kd.reps_scalar xs
 obtain ⟨A, c, e, hl, hc⟩ := Kd.R_reads hR
 exact ⟨A, c, e, hl, hc⟩
theorem OwnI.grown {W W' : World} {base : Nat} {v : Value} {xs : List Int} {row : Option Nat} (h : OwnI W base v xs) (hg : W.grownBy W' row) (hne : ∀ k, v.ownBlock = some k → some k ≠ row) : OwnI W' base v xs := by
 obtain ⟨h1, h2⟩ := h
 refine ⟨h1, ?_⟩
 rcases h2 with h2 | ⟨g, cap, cur, rfl, hb, hh, r⟩
 ·exact .inl h2
 ·exact .inr ⟨g, cap, cur, rfl, hb, blk_grown hh hg (hne g (by simp [Value.ownBlock])), r⟩
theorem OwnI.lt {W : World} {base : Nat} {v : Value} {xs : List Int} (h : OwnI W base v xs) {k : Nat} (hk : v.ownBlock = some k) : k < W.heap.size ∧ base ≤ k := by
 rcases h.2 with ⟨rfl, _⟩ | ⟨g, cap, cur, rfl, hb, hh, r⟩
 ·simp [Value.ownBlock] at hk
 ·have : g = k := by simpa [Value.ownBlock] using hk
  subst this
  exact ⟨blk_lt hh, hb⟩
theorem OwnI.toR {W : World} {base : Nat} {v : Value} {xs : List Int} (h : OwnI W base v xs) : Kd.R (Kd.int .i64) 3 W base (fun _ => True) v xs := ⟨fun _ _ => trivial, _, h, Kd.reps_scalar xs⟩
theorem OwnI.ofR {W : World} {base : Nat} {ok : Nat → Prop} {v : Value} {xs : List Int} (h : Kd.R (Kd.int .i64) 3 W base ok v xs) : OwnI W base v xs := by
 obtain ⟨_, inner, ho, hr⟩ := h
 have e : inner = xs.map (Value.int .i64) := by
  have hl : inner.length = xs.length * 1 := hr.1
  apply List.ext_getElem?
  intro j
  by_cases hj : j < xs.length
  ·have hc : (inner.drop (j * 1)).take 1 = [.int .i64 xs[j]] := hr.2 j xs[j] (List.getElem?_eq_getElem hj)
   have := congrArg (fun l => l[0]?) hc
   simp [List.getElem?_drop] at this
   rw [this, List.getElem?_map, List.getElem?_eq_getElem hj]; rfl
  ·rw [List.getElem?_eq_none (by omega), List.getElem?_eq_none (by simp; omega)]
 subst e
 exact ho
theorem OwnI.below {W W' : World} {base n₀ : Nat} {v : Value} {xs : List Int} (h : OwnI W base v xs) (hl : ∀ k, v.ownBlock = some k → k < n₀) (hb : Below n₀ W W') : OwnI W' base v xs := by
 obtain ⟨h1, h2⟩ := h
 refine ⟨h1, ?_⟩
 rcases h2 with h2 | ⟨g, cap, cur, rfl, hbb, hh, r⟩
 ·exact .inl h2
 ·exact .inr ⟨g, cap, cur, rfl, hbb, (hb.block g (hl g (by simp [Value.ownBlock]))).trans hh, r⟩
theorem cell_allocD {W : World} {a : Addr} {v : Value} {o : Obj} (h : W.cell? a = some v) : (W.alloc o).cell? a = some v := (World.cell?_alloc_lt _ _ _ (World.block_lt_of_cell? _ _ h)).trans h
theorem append_list {ops : Array Oper} {o : Oper} {rest : List Oper} {a : Act} {Q : Exit → Act → World → Prop} {w0 W : World} {base : Nat} (hgd : o.guard = none) (s x : Operand)
  (ho : o.op = .call { callee := .builtin .append, args := #[s, x], argTypes := #[24, 24] }) (v : Value) (xs ys : List Int) (b m c : Nat) (hm : ys.length = m) (hs : a.eval s = v) (hx : a.eval x = .slice (some ⟨b, 0, none⟩) m c)
  (HO : OwnI W base v xs) (hb : W.heap[b]? = some (.cells (ys.map (Value.int .i64)).toArray 3 (0, 0))) (HB : Below base w0 W) (hbase : base ≤ W.heap.size) (hl : (xs.length + ys.length) * 8 ≤ 140737488355328)
  (h : ∀ v1 w1, OwnI w1 base v1 (xs ++ ys) → Below base w0 w1 → wpList Try.prog ops Q rest (a.put o.dst v1) w1) :
  wpList Try.prog ops Q (o :: rest) a W := by
 subst hm
 refine Kd.R_append_rows (Kd.int .i64) (Rr := fun x cs => cs = [.int .i64 x]) (w0 := w0) base hgd s x 24 3 (.int .i64 0) 8 ho Try.underlying24 info3 rfl (by decide) (by decide) v xs ys (some ⟨b, 0, none⟩) ys.length c (fun _ => True) (fun _ => False) hs hx HO.toR ?_ (fun x cs h => h) (fun k hk => hk.elim) (fun _ _ => trivial) HB hbase hl ?_
 ·refine ⟨rfl, by omega, fun _ => ⟨_, rfl, fun j p hj => ⟨[.int .i64 p], rfl, rfl, fun i u hu => ?_⟩⟩⟩
  have hi : i = 0 ∧ u = .int .i64 p := by
   cases i with
   | zero => simp at hu; exact ⟨rfl, hu.symm⟩
   | succ i => simp at hu
  obtain ⟨rfl, rfl⟩ := hi
  show W.cell? (Addr.add ⟨b, 0, none⟩ (j * 1 + 0)) = _
  rw [Addr.add_lit, Nat.mul_one, Nat.add_zero, Nat.zero_add, blk_cell hb j]
  rw [List.getElem?_toArray, List.getElem?_map, hj]; rfl
 ·intro v1 w1 h1 h2 h3 h4
  exact h v1 w1 (OwnI.ofR h1) h2
theorem w64 {x : Int} (h0 : -9223372036854775808 ≤ x) (h1 : x ≤ 9223372036854775807) : wrap64 x = x := by unfold wrap64; omega
theorem nxtN {i : Nat} (h : i < 9223372036854775807) : wrap64 ((i : Int) + 1) = ((i + 1 : Nat) : Int) := by rw [w64 (by omega) (by omega), Int.natCast_add]; rfl
theorem append_int {ops : Array Oper} {o : Oper} {rest : List Oper} {a : Act} {Q : Exit → Act → World → Prop} {w0 W : World} {base : Nat} (hgd : o.guard = none) (s x : Operand)
  (ho : o.op = .call { callee := .builtin .append, args := #[s, x], argTypes := #[24, 24] }) (v : Value) (xs : List Int) (y : Int) (hs : a.eval s = v) (hx : a.eval x = .slice (some ⟨W.heap.size, 0, none⟩) 1 1)
  (HO : OwnI W base v xs) (HB : Below base w0 W) (hbase : base ≤ W.heap.size) (hl : xs.length < 1000000)
  (h : ∀ v1 w1, OwnI w1 base v1 (xs ++ [y]) → Below base w0 w1 → W.grownBy w1 v.ownBlock → wpList Try.prog ops Q rest (a.put o.dst v1) w1) :
  wpList Try.prog ops Q (o :: rest) a (W.alloc (.cells #[.int .i64 y] 3)) := by
 refine Kd.R_append (Kd.int .i64) (w0 := w0) base hgd s x 24 3 (.int .i64 0) 8 ho Try.underlying24 info3 rfl (by decide) (by decide) v xs y [.int .i64 y] (fun _ => True) (fun _ => False) hs hx rfl (fun _ hk => hk.elim) (fun _ _ => trivial) HO.toR HB hbase (by omega) ?_
 intro v1 w1 h1 h2 h3 h4
 exact h v1 w1 (OwnI.ofR h1) h2 h3
end Go.Proofs.Ytcploeijeedmdaa.X
