/- A region that draws its order, whose last operations wait for all others (a call of yield): the first ones are walked as a region of their own. Texts of this claim's session, put together: Lift, HeadTail. -/
import Derived.RangeFuncNested
import Derived.RangeFuncCalls
import Derived.OrdersIn
import Derived.StillTailTactics
import Derived.TacticsIn
import Derived.Test.YtplhfbkejngioaaVLast
import Derived.Test.YtplhfbkejngioaaVWords
namespace Go.Proofs.Ytplhfbkejngioaa.X
open Go.RowKit
set_option linter.unusedVariables false
theorem rowsIn_of_rows {P : Program} {n l : Nat} {row : String} {args : Array Value} {w : World} {R : Value → World → Prop} (h : Rows P row args w R) : RowsIn (Fence.wide.inRound l) n P row args w R := by
 intro c cs _
 obtain ⟨v, w', r, s⟩ := h c cs
 exact ⟨v, w', r, stepsIn_wide.2 s⟩
theorem operIn_of_oper {P : Program} {n l : Nat} {o : Oper} {a : Act} {w : World} {K : Act → World → Prop} {Q : Exit → Act → World → Prop} (hd : ∀ c, o.op ≠ .defer c)
  (h : o.wp P a w K Q) : o.wpIn (Fence.wide.inRound l) n P a w K Q := by
 refine ⟨fun f _ => trivial, ?_⟩
 rw [show (Fence.wide.inRound l).round = some l from rfl, Oper.semAt_some l _ o hd]
 unfold Oper.wp at h
 generalize (execOp a.eval o).run P w = r at *
 cases r with
 | ok x w' =>
  cases x with
  | value v => exact h
  | skip => exact h
  | defer d => exact h
  | enter f args => exact ⟨fun e => (by simp [Fence.wide, Fence.inRound] at e), (callsIn_wide.2 h).inRound l⟩
  | row r args => exact ⟨fun e => (by simp [Fence.wide, Fence.inRound] at e), rowsIn_of_rows h⟩
  | _ => exact h.elim
 | halt x w' => cases x <;> exact h
theorem opIn_of_op {P : Program} {n l : Nat} {ops : Array Oper} {i : Nat} {a : Act} {w : World} {K K' : Act → World → Prop} {Q : Exit → Act → World → Prop} (hd : ∀ (i : Nat) (o : Oper), ops[i]? = some o → ∀ c, o.op ≠ .defer c) (hQ : ¬ LetsOut Q)
  (hK : ∀ a w, K a w → K' a w) (h : wpOp P ops Q i K a w) : wpOpIn (Fence.wide.inRound l) n P ops Q i K' a w := by
 unfold wpOp at h
 unfold wpOpIn
 cases ho : ops[i]? with
 | none => rw [ho] at h; exact hK _ _ h
 | some o =>
  rw [ho] at h
  simp only at h ⊢
  split
  ·rename_i hw
   rw [if_pos hw] at h
   rcases h with h | h
   ·exact Oper.wpIn_mono hK (operIn_of_oper (hd i o ho) h)
   ·exact absurd h.2 hQ
  ·rename_i hw
   rw [if_neg hw] at h
   exact ⟨fun f _ => trivial, hK _ _ h⟩
theorem anyIn_of_any {P : Program} {md : Region.Mode} {n l : Nat} {ops : Array Oper} {Q : Exit → Act → World → Prop} (hd : ∀ (i : Nat) (o : Oper), ops[i]? = some o → ∀ c, o.op ≠ .defer c) (hQ : ¬ LetsOut Q) :
  ∀ (fuel : Nat) (listed : Array Bool) (a : Act) (w : World), wpAny P md ops Q fuel listed a w → wpAnyIn (Fence.wide.inRound l) n P md ops Q fuel listed a w
 | 0, _, _, _, h => h
 | fuel + 1, listed, a, w, h => ⟨h.1, fun i hi => opIn_of_op hd hQ (fun a w => anyIn_of_any hd hQ fuel _ a w) (h.2 i hi)⟩
def noDefer (l : List Oper) : Bool := l.all fun o => match o.op with | .defer _ => false | _ => true
theorem noDefer_spec {l : List Oper} (h : noDefer l = true) : ∀ (i : Nat) (o : Oper), l.toArray[i]? = some o → ∀ c, o.op ≠ .defer c := by
 intro i o ho c hc
 have hm : o ∈ l := by
  have : l[i]? = some o := by simpa using ho
  exact List.mem_of_getElem? this
 have := List.all_eq_true.1 h o hm
 rw [hc] at this
 simp at this
theorem region_tail_in {P : Program} {n l₀ : Nat} {id : Nat} {Q : Exit → Act → World → Prop} {a : Act} {w : World} {l : List Oper} (m : Nat) (hm : P.follows .mixedOrders = true) (hB : Region.lexTailB .any l.toArray m = true) (hnd : noDefer l = true) (hQ : ¬ LetsOut Q)
  (h : wpStill P l.toArray w.drew (fun a' => wpList P l.toArray Q (l.drop m) a' w.drew) (l.take m) a) : (Code.region id l.toArray true).wpIn (Fence.wide.inRound l₀) n P Q a w := by
 refine wpIn_region_any hm (anyIn_of_any (noDefer_spec hnd) hQ l.toArray.size _ _ _ ?_)
 simp only [Region.lexTailB, Bool.and_eq_true, decide_eq_true_eq] at hB
 obtain ⟨⟨⟨⟨s1, s2⟩, s3⟩, s4⟩, s5⟩ := hB
 have k1 : m < l.length := by simpa using s2
 have k2 : (l.take m).length = m := by simp; omega
 have k3 : (l.drop m).length = l.toArray.size - m := by simp
 have head := wpAnyL_lex (md := .any) (g := l.toArray.size - m) s1 s3 s4 s2 (l.take m) 0 (Array.replicate l.toArray.size false) a (fun j hj => by rw [k2] at hj; simp [hj]) (by simpa using k2)
  ⟨by simp, fun j oj _ hl => (by rw [getD_replicate_false] at hl; cases hl), fun t _ ht => getD_in (by simpa using ht) (getD_replicate_false _ _)⟩ (by rw [k2]; exact s5) h
 have all := wpAny_of_head (Q' := Q) (g := l.toArray.size - m) (fun listed a' hL => by
  have seq := wpAny_of_seq (md := .any) (Q' := Q) (l.drop m) m listed a' w.drew (fun j => by simp [List.getElem?_drop]) (by rw [k3]; exact hL.1) hL.2
  rwa [k3] at seq) _ _ _ head
 rw [k2, show m + (l.toArray.size - m) = l.toArray.size by omega] at all
 exact all
open Go.Proofs.YtplhfbkejngioaaW.PrintLast in
theorem start_in {P : Program} {ops : Array Oper} {Q : Exit → Act → World → Prop} {S : World → Prop} {ds : List Nat} {m l₀ : Nat} {id n : Nat} {a : Act} {w : World} (l : Array Bool) (hm : P.follows .mixedOrders = true) (hn : ops.size = n) (hl : Array.replicate n false = l)
  (hnd : noDefer ops.toList = true) (hQ : ¬ LetsOut Q) (hS : S w.drew) (h : S w.drew → wpAnyLast P .any ops Q S ds n l a w.drew) : (Code.region id ops true).wpIn (Fence.wide.inRound l₀) m P Q a w := by
 subst hn
 subst hl
 exact wpIn_region_any hm (anyIn_of_any (by simpa using noDefer_spec hnd) hQ _ _ _ _ (wpAny_of_last _ _ _ _ (h hS)))
theorem cellFar {W : World} {p q : Addr} {v : Value} (h : p.block ≠ q.block) (u : Value) (hc : W.cell? p = some v) : (W.setCell q u).cell? p = some v := by
 have : (W.setCell q u).heap[p.block]? = W.heap[p.block]? := by
  show (W.heap.modify q.block _)[p.block]? = _
  rw [Array.getElem?_modify, if_neg (Ne.symm h)]
 rw [World.cell?_of_block this]; exact hc
end Go.Proofs.Ytplhfbkejngioaa.X
namespace Go.Proofs.Ytplhfbkejngioaa.X
open Go.RowKit
variable {P : Program} {md : Region.Mode} {n : Nat} {ops : Array Oper}
def ordB (md : Region.Mode) (ops : Array Oper) (m : Nat) : Bool :=
 (List.range m).all fun i => match ops[i]? with
  | some o => o.guard.isNone && o.after.all fun e => !Region.binds md e || decide (e.on < i)
  | none => false
theorem ordB_spec {m : Nat} (h : ordB md ops m = true) {i : Nat} {o : Oper} (hi : i < m) (ho : ops[i]? = some o) : o.guard = none ∧ ∀ e ∈ o.after, Region.binds md e = true → e.on < i := by
 have := List.all_eq_true.1 h i (List.mem_range.2 hi)
 rw [ho] at this
 simp only [Bool.and_eq_true, Option.isNone_iff_eq_none] at this
 refine ⟨this.1, fun e he hb => ?_⟩
 have h2 := Array.all_eq_true'.1 this.2 e he
 rw [hb] at h2
 simpa using h2
theorem operIn_wide {o : Oper} {a : Act} {w : World} {K : Act → World → Prop} {Q' Q : Exit → Act → World → Prop} (hQ : ∀ c a w, ¬ Q' (.panic c) a w) (hL : ¬ LetsOut Q')
  (h : o.wp P a w K Q') : o.wpIn Fence.wide n P a w K Q := by
 refine ⟨fun f _ => trivial, ?_⟩
 rw [show Fence.wide.round = none from rfl, Oper.semAt_none]
 unfold Oper.wp at h
 generalize (execOp a.eval o).run P w = r at *
 cases r with
 | ok x w' =>
  cases x with
  | value v => exact h
  | skip => exact h
  | defer d => exact h
  | enter f args =>
   refine ⟨fun e => (by simp [Fence.wide] at e), (callsIn_wide.2 h).mono ?_⟩
   intro e w2 he
   cases e with
   | returned v => exact he
   | panicked c => exact absurd he (hQ _ _ _)
   | outgrown => exact absurd he hL
  | row r args =>
   refine ⟨fun e => (by simp [Fence.wide] at e), fun c cs _ => ?_⟩
   obtain ⟨v, w2, r1, s1⟩ := h c cs
   exact ⟨v, w2, r1, stepsIn_wide.2 s1⟩
  | _ => exact h.elim
 | halt x w' =>
  cases x with
  | panic c => exact absurd h (hQ _ _ _)
  | _ => exact h.elim
theorem getD_of_getElem? {a b : Array Bool} {i : Nat} (h : a[i]? = b[i]?) (d : Bool) : a.getD i d = b.getD i d := by
 simp only [Array.getD_eq_getD_getElem?, h]
theorem ready_head {l : List Oper} {m : Nat} {listed listed' : Array Bool} (hord : ordB md l.toArray m = true) (hsz : ∀ i, i < m → listed'[i]? = listed[i]?) {i : Nat} (hi : i < m) :
  i ∈ Region.ready md (l.take m).toArray listed' ↔ i ∈ Region.ready md l.toArray listed := by
 have e : (l.take m).toArray[i]? = l.toArray[i]? := by simp [hi]
 rw [mem_ready, mem_ready, e, getD_of_getElem? (hsz i hi)]
 refine and_congr_right fun _ => exists_congr fun o => and_congr_right fun ho => forall_congr' fun e => forall_congr' fun he => forall_congr' fun hb => ?_
 have := (ordB_spec hord hi ho).2 e he hb
 rw [getD_of_getElem? (hsz e.on (by omega))]
theorem least_ready {l : List Oper} {m : Nat} {listed : Array Bool} (hord : ordB md l.toArray m = true) (hm : m < l.length) (inv : HeadInv md l.toArray m listed) {i : Nat} (hi : i < m) (hun : listed.getD i true = false) :
  ∃ j, j < m ∧ j ∈ Region.ready md l.toArray listed := by
 induction i using Nat.strongRecOn with
 | _ i ih =>
  have hio : ∃ o, l.toArray[i]? = some o := ⟨l[i]'(by omega), by simp⟩
  obtain ⟨o, ho⟩ := hio
  by_cases hall : ∀ e ∈ o.after, Region.binds md e = true → listed.getD e.on false = true
  ·exact ⟨i, hi, mem_ready.2 ⟨hun, o, ho, hall⟩⟩
  ·have : ∃ e, e ∈ o.after ∧ Region.binds md e = true ∧ listed.getD e.on false = false := by
    simp only [Classical.not_forall] at hall
    obtain ⟨e, he, hb, hne⟩ := hall
    exact ⟨e, he, hb, by simpa using hne⟩
   obtain ⟨e, he, hb, hf⟩ := this
   have hlt := (ordB_spec hord hi ho).2 e he hb
   exact ih e.on hlt (by omega) (getD_in (by rw [inv.size]; simp; omega) hf)
theorem anyIn_head {l : List Oper} {m g : Nat} {Q' Q : Exit → Act → World → Prop} (hord : ordB md l.toArray m = true) (hs : Region.sinkB md l.toArray m = true) (hc : Region.chainB md l.toArray m = true) (hm : m < l.length)
  (hQ : ∀ c a w, ¬ Q' (.panic c) a w) (hL : ¬ LetsOut Q')
  (leaf : ∀ f listed a w, HeadInv md l.toArray m listed → (∀ i, i < m → listed.getD i true = true) → Q' .normal a w → wpAnyIn Fence.wide n P md l.toArray Q (f + g) listed a w) :
  ∀ (f : Nat) (listed listed' : Array Bool) (a : Act) (w : World), HeadInv md l.toArray m listed → listed'.size = m → (∀ i, i < m → listed'[i]? = listed[i]?) →
   wpAny P md (l.take m).toArray Q' f listed' a w → wpAnyIn Fence.wide n P md l.toArray Q (f + g) listed a w := by
 intro f
 induction f with
 | zero =>
  intro listed listed' a w inv hz hr h
  by_cases hall : ∀ i, i < m → listed.getD i true = true
  ·exact leaf 0 listed a w inv hall h.2
  ·simp only [Classical.not_forall] at hall
   obtain ⟨i, hi, hne⟩ := hall
   obtain ⟨j, hj, hjr⟩ := least_ready hord hm inv hi (by simpa using hne)
   rw [← ready_head hord hr hj, h.1] at hjr
   cases hjr
 | succ f ih =>
  intro listed listed' a w inv hz hr h
  by_cases hall : ∀ i, i < m → listed.getD i true = true
  ·refine leaf (f + 1) listed a w inv hall (h.1 ?_)
   refine List.eq_nil_iff_forall_not_mem.2 fun i hi => ?_
   have h1 := mem_ready.1 hi
   obtain ⟨o, ho, _⟩ := h1.2
   have him : i < m := by
    have := (Array.getElem?_eq_some_iff.1 ho).1; simp at this; omega
   rw [getD_of_getElem? (hr i him), hall i him] at h1
   cases h1.1
  ·simp only [Classical.not_forall] at hall
   obtain ⟨i0, hi0, hne⟩ := hall
   have hun : listed.getD i0 true = false := by simpa using hne
   obtain ⟨j, hj, hjr⟩ := least_ready hord hm inv hi0 hun
   rw [show f + 1 + g = (f + g) + 1 by omega]
   refine ⟨fun h0 => (by rw [h0] at hjr; cases hjr), fun i hi => ?_⟩
   have him : i < m := by
    rcases Nat.lt_or_ge i m with h | h
    ·exact h
    ·exact absurd hi (tail_waits hs hc (by simpa using hm) inv _ i0 rfl hi0 hun i h)
   have h2 := h.2 i ((ready_head hord hr him).2 hi)
   obtain ⟨_, o, ho, _⟩ := mem_ready.1 hi
   have ho' : (l.take m).toArray[i]? = some o := by rw [← ho]; simp [him]
   have hg := (ordB_spec hord him ho).1
   have hw : ∀ y, Region.wanted o y = true := fun y => by unfold Region.wanted; rw [hg]
   unfold wpOp at h2
   rw [ho'] at h2
   simp only [hw, if_true] at h2
   unfold wpOpIn
   rw [ho]
   simp only [hw, if_true]
   rcases h2 with h2 | h2
   ·refine Oper.wpIn_mono (fun a' w' h3 => ?_) (operIn_wide hQ hL h2)
    refine ih _ _ a' w' (inv.set hi him) (by simp [hz]) (fun k hk => ?_) h3
    by_cases e : i = k
    ·subst e
     rw [Array.getElem?_setIfInBounds_self, Array.getElem?_setIfInBounds_self, if_pos (by omega), if_pos (by rw [inv.size]; simp; omega)]
    ·rw [Array.getElem?_setIfInBounds_ne e, Array.getElem?_setIfInBounds_ne e, hr k hk]
   ·exact absurd h2.2 hL
theorem anyIn_of_seq {F : Fence} {Q : Exit → Act → World → Prop} {f : Nat} : ∀ (l : List Oper) (k : Nat) (listed : Array Bool) (a : Act) (w : World), (∀ j, l[j]? = ops[k + j]?) →
  Region.seqB md ops l.length k listed = true → wpListIn F n P ops Q l a w → wpAnyIn F n P md ops Q (f + l.length) listed a w
 | [], _, listed, a, w, _, hB, h => wpAnyIn_done (by simpa [Region.seqB] using hB) h _
 | o :: l, k, listed, a, w, hl, hB, h => by
  have h0 : ops[k]? = some o := by simpa using (hl 0).symm
  simp only [List.length_cons, Region.seqB, Bool.and_eq_true, decide_eq_true_eq] at hB
  rw [List.length_cons, show f + (l.length + 1) = (f + l.length) + 1 by omega]
  refine ⟨fun h1 => (by rw [hB.1] at h1; cases h1), fun i hi => ?_⟩
  rw [hB.1] at hi
  have hik : i = k := by simpa using hi
  subst hik
  have hw : wpOpIn F n P ops Q i (wpListIn F n P ops Q l) a w := by unfold wpOpIn; simp only [h0]; exact h
  exact wpOpIn_mono (fun a' w' h' => anyIn_of_seq l (i + 1) _ a' w' (fun j => by have := hl (j + 1); simpa [Nat.add_assoc, Nat.add_comm 1 j] using this) hB.2 h') hw
theorem region_head {l : List Oper} {m id : Nat} {Q : Exit → Act → World → Prop} {a : Act} {w : World} (hmo : P.follows .mixedOrders = true) (hord : ordB .any l.toArray m = true) (hs : Region.sinkB .any l.toArray m = true) (hc : Region.chainB .any l.toArray m = true) (hm : m < l.length)
  (hseq : Region.seqB .any l.toArray (l.length - m) m (Array.replicate m true ++ Array.replicate (l.length - m) false) = true)
  (h : wpAny P .any (l.take m).toArray (fun e a' w' => e = .normal ∧ wpListIn Fence.wide n P l.toArray Q (l.drop m) a' w') m (Array.replicate m false) a w.drew) :
  (Code.region id l.toArray true).wpIn Fence.wide n P Q a w := by
 refine wpIn_region_any hmo ?_
 have := anyIn_head (n := n) (Q := Q) (g := l.length - m) hord hs hc hm (Q' := fun e a' w' => e = .normal ∧ wpListIn Fence.wide n P l.toArray Q (l.drop m) a' w') (fun c a w h => by cases h.1) (fun h => by obtain ⟨a0, w0, h0⟩ := h; cases h0.1) ?_ m (Array.replicate l.length false) (Array.replicate m false) a w.drew
  ⟨by simp, fun j oj _ hl => (by rw [getD_replicate_false] at hl; cases hl), fun t _ ht => getD_in (by simpa using ht) (getD_replicate_false _ _)⟩ (by simp) (fun i hi => by simp [Array.getElem?_replicate, hi]; omega) h
 ·rw [show m + (l.length - m) = l.toArray.size by simp; omega] at this
  have e : (Array.replicate l.length false) = Array.replicate l.toArray.size false := by simp
  rw [e] at this
  exact this
 ·intro f listed a' w' inv hall hq
  have hl : listed = Array.replicate m true ++ Array.replicate (l.length - m) false := by
   have hsz := inv.size
   simp at hsz
   apply Array.ext
   ·simp; omega
   ·intro i h1 h2
    rw [Array.getElem_append]
    split
    ·rename_i hi
     have := hall i (by simpa using hi)
     simpa [h1] using this
    ·rename_i hi
     have := inv.tail i (by simpa using hi) (by simp; omega)
     simpa [h1] using this
  have ht : (l.drop m).length = l.length - m := by simp
  rw [← ht]
  refine anyIn_of_seq (l.drop m) m listed a' w' (fun j => by simp [List.getElem?_drop]) ?_ hq.2
  rw [ht, hl]; exact hseq
end Go.Proofs.Ytplhfbkejngioaa.X
