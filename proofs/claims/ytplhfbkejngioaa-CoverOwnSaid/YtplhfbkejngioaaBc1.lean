/- A search by 'for x := range f': the rounds are told what the iterator knows of the value that comes (G), and leave by one jump. Texts of this claim's session, put together: RangeG. -/
import Derived.RangeFuncNested
import Derived.RangeFuncBound
import Derived.RangeFuncLeaves
import Derived.Test.YtplhfbkejngioaaVWords
namespace Go.Proofs.Ytplhfbkejngioaa.X
open Go.RowKit
variable {F : Fence} {n : Nat} {P : Program}
def IterG {α : Type} (F : Fence) (n : Nat) (P : Program) (gf : Nat) (lb : Array Value) (encs : α → Array Value) (G : α → World → Prop) (Kp : World → World → Prop) (S Sp : List α → Prop) (w : World) : Prop :=
 ∀ (l : Nat) (J Jx : List α → World → Prop) (W : World), Below w.heap.size w W → AbidesFrom W.heap.size J →
  (∀ pre x W1, G x W1 → J pre W1 → YieldAt F (n - 1) P l (encs x) W1 fun e W' => (e = .returned (.bool true) ∧ J (pre ++ [x]) W' ∧ Kp W1 W') ∨ (e = .returned (.bool false) ∧ Jx (pre ++ [x]) W')) →
  J [] W →
  CallsIn F n P gf (#[.func (.yield l) #[] #[]] ++ lb) W fun e W' => (∃ v, e = .returned v) ∧ ((∃ xs, S xs ∧ J xs W') ∨ (∃ pre, Sp pre ∧ Jx pre W'))
def endsG {α : Type} (id : Nat) (B : Nat) (Kp : World → World → Prop) (I Ix : List α → World → Prop) (zs : List α) (W : World) : Exit → Act → World → Prop
 | .normal, _, W' => KeepsFrom B W W' ∧ Kp W W' ∧ I zs W'
 | .exit i, _, W' => i = id ∧ KeepsFrom B W W' ∧ Ix zs W'
 | _, _, _ => False
theorem range_search {α : Type} {g : Operand} {ps : Array Tmp} {assign body : Code} {Q : Exit → Act → World → Prop} {a : Act} {w : World} {id : Nat}
  (hro : F.round = none) (h1 : 1 ≤ n) {gf : Nat} {lb : Array Value} (hg : a.eval g = .func (.func gf) #[] lb) (hFg : F.fn gf) (eg : ∀ args w, (callFunc gf args).run P w = .ok (.enter gf args) w)
  {encs : α → Array Value} {G : α → World → Prop} {Kp : World → World → Prop} {S Sp : List α → Prop} (hiter : IterG F (n - 1) P gf lb encs G Kp S Sp w) (hps : ∀ x, (encs x).size = ps.size)
  (hKt : ∀ {A B C : World}, Kp A B → Kp B C → Kp A C) (hKb : ∀ (W : World) (l : Nat) (o o' : Obj), w.heap.size ≤ l → W.heap[l]? = some o → o.isCells = false → o'.isCells = false → Kp W (W.putObj l o'))
  (I Ix : List α → World → Prop) (hI : OwnFrom w.heap.size I) (hIx : OwnFrom w.heap.size Ix) (h0 : I [] w) (Ax : List α → α → Act → World → Prop) (hAx : ∀ pre x a', OwnFrom w.heap.size (fun (_ : Unit) W => Ax pre x a' W))
  (hassign : ∀ (l : Nat) (pre : List α) (x : α) (W : World) (K : Act → World → Prop), G x W → I pre W → (∀ a' W', KeepsFrom w.heap.size W W' → Kp W W' → Ax pre x a' W' → K a' W') →
   assign.wpIn (F.inRound l) (n - 1 - 1) P (Exit.then K (fun _ _ _ => False)) { tmps := (ps.zip (encs x)).foldl (fun t (p, v) => t.setIfInBounds p v) a.tmps, defers := [] } W)
  (hbody : ∀ (l : Nat) (pre : List α) (x : α) (a' : Act) (W : World), Ax pre x a' W → body.wpIn (F.inRound l) (n - 1 - 1) P (endsG id w.heap.size Kp I Ix (pre ++ [x]) W) a' W)
  (hdone : ∀ (D : Nat) (xs : List α) (W : World), w.heap.size ≤ D → S xs → I xs W → W.heap[D]? = some (.deferred (some [])) → Q .normal { a with defers := { target := .collected D, args := #[] } :: a.defers } W)
  (hstop : ∀ (D : Nat) (pre : List α) (W : World), w.heap.size ≤ D → Sp pre → Ix pre W → W.heap[D]? = some (.deferred (some [])) → (Code.exit id).wpIn F n P Q { a with defers := { target := .collected D, args := #[] } :: a.defers } W) :
  (Code.rangeFunc g ps assign body).wpIn F n P Q a w := by
 refine wpIn_rangeFunc fun fn hfn => ?_
 rw [hro]
 let rc : LoopState → Option Code → Loop := fun st pe => { state := st, pending := pe, fn, tmps := a.tmps, params := ps, assign, body, defers := w.heap.size }
 let L := w.heap.size + 1
 let W0 := (w.alloc (.deferred (some []))).alloc (.loop (rc .ready none))
 have hLoop : W0.heap[L]? = some (.loop (rc .ready none)) := by
  have := World.alloc_heap_new (w.alloc (.deferred (some []))) (.loop (rc .ready none))
  rwa [World.size_alloc] at this
 have hDef : W0.heap[w.heap.size]? = some (.deferred (some [])) := (Below.heap_alloc _ _ _ (by simp)).trans (World.alloc_heap_new w _)
 have hB : Below w.heap.size w W0 := ((Below.refl _ w).alloc (Nat.le_refl _) _).alloc (by simp) _
 have hz : W0.heap.size = w.heap.size + 2 := by simp [W0]
 have hLD : L ≠ w.heap.size := by simp [L]
 refine ⟨L, [{ target := .collected w.heap.size, args := #[] }], W0, { target := .fn (.func gf) lb, args := #[.func (.yield L) #[] #[]] }, W0, gf, #[.func (.yield L) #[] #[]] ++ lb, W0,
  run_enterLoop_outer _ _ _ _ _, ?_, ?_, ?_, fun _ => h1, ?_⟩
 ·simp only [resolve, hg]; simp [go_sem]
 ·intro f' hf'; simp [Target.leads] at hf'; subst hf'; exact hFg
 ·simp [invoke, go_sem, eg]
 ·let J : List α → World → Prop := fun pre W => I pre W ∧ W.heap[L]? = some (.loop (rc .ready none)) ∧ W.heap[w.heap.size]? = some (.deferred (some []))
  let Jx : List α → World → Prop := fun pre W => Ix pre W ∧ W.heap[L]? = some (.loop (rc .done (some (.exit id)))) ∧ W.heap[w.heap.size]? = some (.deferred (some []))
  have hJ : AbidesFrom W0.heap.size J := by
   rintro s A B row ⟨ha, hb, hc⟩ hgr hr
   have hk : ∀ k o, A.heap[k]? = some o → k < W0.heap.size → B.heap[k]? = some o := fun k o hk hlt =>
    (hgr.block k (Array.getElem?_eq_some_iff.1 hk).1 (fun e => by have := (hr k e.symm).1; omega)).trans hk
   exact ⟨hI s A B row ha hgr (fun r e => ⟨by have := (hr r e).1; omega, by obtain ⟨o, ho, hw⟩ := (hr r e).2; exact ⟨o, ho, Obj.not_cells_of_walk hw⟩⟩), hk _ _ hb (by simp [L, hz]), hk _ _ hc (by omega)⟩
  refine (hiter L J Jx W0 hB hJ ?_ ⟨hI.alloc _ (hI.alloc _ h0), hLoop, hDef⟩).mono ?_
  ·rintro pre x W hG ⟨hi, hl, hd⟩
   refine ⟨fn, _, assign, body, run_yield (args := encs x) hl (hps x), roundIn_of_wpIn hfn (hassign _ pre x W _ hG hi ?_)⟩
   intro a1 W1 hk1 hp1 hax
   have hl1 := hk1.same _ _ (show w.heap.size ≤ L by simp [L]) hl rfl
   have hd1 := hk1.same _ _ (Nat.le_refl _) hd rfl
   refine ⟨_, run_beginRound hl1 rfl, ?_⟩
   have hl2 : (W1.putObj L (.loop (rc .busy none))).heap[L]? = some (.loop (rc .busy none)) := World.putObj_heap_same (Array.getElem?_eq_some_iff.1 hl1).1
   have hd2 : (W1.putObj L (.loop (rc .busy none))).heap[w.heap.size]? = some (.deferred (some [])) := (World.putObj_heap_other (Ne.symm hLD)).trans hd1
   have hp2 : Kp W1 (W1.putObj L (.loop (rc .busy none))) := hKb _ _ _ _ (by simp [L]) hl1 rfl rfl
   refine wpIn_mono (hbody L pre x a1 _ ((hAx pre x a1).putObj (s := ()) _ hax (by simp [L]) hl1 rfl)) ?_
   intro e a3 W3 he
   cases e with
   | normal =>
    obtain ⟨hk3, hp3, hi3⟩ := he
    have hl3 := hk3.same _ _ (show w.heap.size ≤ L by simp [L]) hl2 rfl
    have hd3 := hk3.same _ _ (Nat.le_refl _) hd2 rfl
    exact ⟨_, _, run_endRound none hl3, .inl ⟨rfl, ⟨hI.putObj _ hi3 (by simp [L]) hl3 rfl, World.putObj_heap_same (Array.getElem?_eq_some_iff.1 hl3).1, (World.putObj_heap_other (Ne.symm hLD)).trans hd3⟩,
     hKt hp1 (hKt (hKt hp2 hp3) (hKb _ _ _ _ (by simp [L]) hl3 rfl rfl))⟩⟩
   | exit i =>
    obtain ⟨rfl, hk3, hi3⟩ := he
    have hl3 := hk3.same _ _ (show w.heap.size ≤ L by simp [L]) hl2 rfl
    have hd3 := hk3.same _ _ (Nat.le_refl _) hd2 rfl
    exact ⟨_, _, run_endRound (some (.exit i)) hl3, .inr ⟨rfl, hIx.putObj _ hi3 (by simp [L]) hl3 rfl, World.putObj_heap_same (Array.getElem?_eq_some_iff.1 hl3).1, (World.putObj_heap_other (Ne.symm hLD)).trans hd3⟩⟩
   | ret => exact he.elim
   | goto t => exact he.elim
   | panic c => exact he.elim
   | outgrown => exact he.elim
  ·rintro e W2 ⟨⟨v, rfl⟩, (⟨xs, hS, hi, hl, hd⟩ | ⟨pre, hS, hi, hl, hd⟩)⟩
   ·exact ⟨none, _, run_endLoop hl (by simp [rc]), hdone _ xs _ (Nat.le_refl _) hS (hI.putObj _ hi (by simp [L]) hl rfl) ((World.putObj_heap_other (Ne.symm hLD)).trans hd)⟩
   ·exact ⟨some (.exit id), _, run_endLoop hl (by simp [rc]), hstop _ pre _ (Nat.le_refl _) hS (hIx.putObj _ hi (by simp [L]) hl rfl) ((World.putObj_heap_other (Ne.symm hLD)).trans hd)⟩
end Go.Proofs.Ytplhfbkejngioaa.X
