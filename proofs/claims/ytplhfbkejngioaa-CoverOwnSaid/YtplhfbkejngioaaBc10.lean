/- The contract of the iterator candidates: which circles come, in which order. Texts of this claim's session, put together: Cand0, ECand. -/
import Derived.Test.YtplhfbkejngioaaBc5
import Derived.Test.YtplhfbkejngioaaBc7
import Derived.Test.YtplhfbkejngioaaBc2
import Derived.Test.YtplhfbkejngioaaVWords
import Derived.Test.YtplhfbkejngioaaVLast
namespace Go.Proofs.Ytplhfbkejngioaa.X
open Go.RowKit Go.Shelf Go.Proofs.YtplhfbkejngioaaW.PrintWords Go.Proofs.YtplhfbkejngioaaW.PrintLast Go.Proofs.Ytplhfbkejngioaa.S
set_option linter.unusedVariables false
set_option linter.unusedSimpArgs false
attribute [local go_sem] Oper.semAt_some
structure KeepC (n₀ ob : Nat) (W W' : World) : Prop where
 below : Below n₀ W W'
 size : W.heap.size ≤ W'.heap.size
 cells : ∀ k cs t fr, k ≠ ob → W.heap[k]? = some (.cells cs t fr) → W'.heap[k]? = some (.cells cs t fr)
theorem KeepC.refl (n₀ ob : Nat) (W : World) : KeepC n₀ ob W W := ⟨Below.refl _ _, Nat.le_refl _, fun _ _ _ _ _ h => h⟩
theorem KeepC.trans {n₀ ob : Nat} {A B C : World} (h : KeepC n₀ ob A B) (k : KeepC n₀ ob B C) : KeepC n₀ ob A C :=
 ⟨h.below.trans k.below, Nat.le_trans h.size k.size, fun i cs t fr hi hc => k.cells i cs t fr hi (h.cells i cs t fr hi hc)⟩
theorem KeepC.of_below {n₀ ob : Nat} {A B : World} (h : Below A.heap.size A B) (hn : n₀ ≤ A.heap.size) : KeepC n₀ ob A B :=
 ⟨h.mono hn, h.size, fun k cs t fr _ hc => (h.block k (Array.getElem?_eq_some_iff.1 hc).1).trans hc⟩
def encC (x : Cand × Nat) : Array Value := #[.agg #[.int .i64 x.1.c.X, .int .i64 x.1.c.Y, .int .i64 x.1.c.D, .int .i64 x.1.c.R, .slice (some ⟨x.2, 0, none⟩) x.1.s.length x.1.s.length]]
structure GoodC (base : Nat) (x : Cand × Nat) (W : World) : Prop where
 le : base ≤ x.2
 ok : okC x.1.c
 blk : W.heap[x.2]? = some (.cells (x.1.s.map (Value.int .i64)).toArray 3 (0, 0))
def cand2 (l : List S28) (i j : Nat) : Cand := ⟨betC (pt l i) (pt l j), [(i : Int), (j : Int)]⟩
def cand1 (l : List S28) : Cand := ⟨⟨(pt l 0).f0, (pt l 0).f1, 1, 0⟩, [0]⟩
def upI (l : List S28) (j m : Nat) : List Cand := (List.range m).map fun i => cand2 l i j
def upJ (l : List S28) (k : Nat) : List Cand := cand1 l :: (List.range k).flatMap fun j => upI l j j
def up3I (l : List S28) (k j m : Nat) : List Cand := (List.range m).flatMap fun i => cand3 l i j k
def up3J (l : List S28) (k m : Nat) : List Cand := (List.range m).flatMap fun j => up3I l k j j
def up3K (l : List S28) (n : Nat) : List Cand := (List.range n).flatMap fun k => up3J l k k
theorem upI_succ (l : List S28) (j m : Nat) : upI l j (m + 1) = upI l j m ++ [cand2 l m j] := by unfold upI; rw [List.range_succ]; simp
theorem upJ_succ (l : List S28) (k : Nat) : upJ l (k + 1) = upJ l k ++ upI l k k := by unfold upJ; rw [List.range_succ]; simp
theorem up3I_succ (l : List S28) (k j m : Nat) : up3I l k j (m + 1) = up3I l k j m ++ cand3 l m j k := by unfold up3I; rw [List.range_succ]; simp
theorem up3J_succ (l : List S28) (k m : Nat) : up3J l k (m + 1) = up3J l k m ++ up3I l k m m := by unfold up3J; rw [List.range_succ]; simp
theorem up3K_succ (l : List S28) (n : Nat) : up3K l (n + 1) = up3K l n ++ up3J l n n := by unfold up3K; rw [List.range_succ]; simp
theorem cands_up (l : List S28) : cands l = upJ l l.length ++ up3K l l.length := rfl
theorem upI_pre (l : List S28) (j : Nat) (a b : Nat) (h : a ≤ b) : upI l j a <+: upI l j b := by
 induction b with
 | zero => rw [Nat.le_zero.1 h]; exact List.prefix_rfl
 | succ b ih =>
  by_cases e : a = b + 1
  ·rw [e]; exact List.prefix_rfl
  ·rw [upI_succ]; exact (ih (by omega)).trans (List.prefix_append _ _)
theorem upJ_pre (l : List S28) (a b : Nat) (h : a ≤ b) : upJ l a <+: upJ l b := by
 induction b with
 | zero => rw [Nat.le_zero.1 h]; exact List.prefix_rfl
 | succ b ih =>
  by_cases e : a = b + 1
  ·rw [e]; exact List.prefix_rfl
  ·rw [upJ_succ]; exact (ih (by omega)).trans (List.prefix_append _ _)
theorem up3I_pre (l : List S28) (k j : Nat) (a b : Nat) (h : a ≤ b) : up3I l k j a <+: up3I l k j b := by
 induction b with
 | zero => rw [Nat.le_zero.1 h]; exact List.prefix_rfl
 | succ b ih =>
  by_cases e : a = b + 1
  ·rw [e]; exact List.prefix_rfl
  ·rw [up3I_succ]; exact (ih (by omega)).trans (List.prefix_append _ _)
theorem up3J_pre (l : List S28) (k : Nat) (a b : Nat) (h : a ≤ b) : up3J l k a <+: up3J l k b := by
 induction b with
 | zero => rw [Nat.le_zero.1 h]; exact List.prefix_rfl
 | succ b ih =>
  by_cases e : a = b + 1
  ·rw [e]; exact List.prefix_rfl
  ·rw [up3J_succ]; exact (ih (by omega)).trans (List.prefix_append _ _)
theorem up3K_pre (l : List S28) (a b : Nat) (h : a ≤ b) : up3K l a <+: up3K l b := by
 induction b with
 | zero => rw [Nat.le_zero.1 h]; exact List.prefix_rfl
 | succ b ih =>
  by_cases e : a = b + 1
  ·rw [e]; exact List.prefix_rfl
  ·rw [up3K_succ]; exact (ih (by omega)).trans (List.prefix_append _ _)
theorem pre1 (l : List S28) : [cand1 l] <+: cands l := by rw [cands_up]; exact ⟨_, by unfold upJ; simp; rfl⟩
theorem pre2 (l : List S28) (k m : Nat) (hk : k < l.length) (hm : m < k) : (upJ l k ++ upI l k m ++ [cand2 l m k]) <+: cands l := by
 rw [cands_up, List.append_assoc, ← upI_succ]
 refine List.IsPrefix.trans ?_ (List.prefix_append _ _)
 refine List.IsPrefix.trans ?_ (upJ_pre l (k + 1) l.length hk)
 rw [upJ_succ]
 exact (List.prefix_append_right_inj _).2 (upI_pre _ _ _ _ hm)
theorem pre3 (l : List S28) (k j i : Nat) (hk : k < l.length) (hj : j < k) (hi : i < j) (x : Cand) (hx : cand3 l i j k = [x]) : (upJ l l.length ++ (up3K l k ++ (up3J l k j ++ up3I l k j i)) ++ [x]) <+: cands l := by
 rw [cands_up, List.append_assoc, List.append_assoc, List.append_assoc, ← hx, ← up3I_succ]
 refine (List.prefix_append_right_inj _).2 ?_
 refine List.IsPrefix.trans ?_ (up3K_pre l (k + 1) l.length hk)
 rw [up3K_succ]
 refine (List.prefix_append_right_inj _).2 ?_
 refine List.IsPrefix.trans ?_ (up3J_pre l k (j + 1) k hj)
 rw [up3J_succ]
 exact (List.prefix_append_right_inj _).2 (up3I_pre _ _ _ _ _ hi)
theorem bet_calls {a b : S28} (ha : isP a = true) (hb : isP b = true) (w : World) :
  Calls Try.prog 81 #[.agg #[.int .i64 a.f0, .int .i64 a.f1], .agg #[.int .i64 b.f0, .int .i64 b.f1]] w fun e w' => e = .returned (.agg #[.int .i64 (betC a b).X, .int .i64 (betC a b).Y, .int .i64 (betC a b).D, .int .i64 (betC a b).R]) ∧ Below w.heap.size w w' := by
 obtain ⟨k, hk⟩ := (between_ev ha hb).rounds
 exact cover_between.calls k _ _ _ _ _ _ _ _ w hk
theorem thr_calls {a b c : S28} (ha : isP a = true) (hb : isP b = true) (hc : isP c = true) (h : crossD a b c ≠ 0) (w : World) :
  Calls Try.prog 82 #[.agg #[.int .i64 a.f0, .int .i64 a.f1], .agg #[.int .i64 b.f0, .int .i64 b.f1], .agg #[.int .i64 c.f0, .int .i64 c.f1]] w fun e w' => e = .returned (.tuple #[.agg #[.int .i64 (thrC a b c).X, .int .i64 (thrC a b c).Y, .int .i64 (thrC a b c).D, .int .i64 (thrC a b c).R], .bool true]) ∧ Below w.heap.size w w' := by
 obtain ⟨k, hk⟩ := (through_ev ha hb hc h).rounds
 exact cover_through.calls k _ _ _ _ _ _ _ _ _ _ _ w hk
theorem flat_calls {a b c : S28} (ha : isP a = true) (hb : isP b = true) (hc : isP c = true) (h : crossD a b c = 0) (w : World) :
  Calls Try.prog 82 #[.agg #[.int .i64 a.f0, .int .i64 a.f1], .agg #[.int .i64 b.f0, .int .i64 b.f1], .agg #[.int .i64 c.f0, .int .i64 c.f1]] w fun e w' => e = .returned (.tuple #[.agg #[.int .i64 0, .int .i64 0, .int .i64 0, .int .i64 0], .bool false]) ∧ Below w.heap.size w w' :=
 cover_through.calls 0 _ _ _ _ _ _ _ _ _ _ _ w (through_flat ha hb hc h 0)
theorem ins_calls {c : Ci} (hc : okC c) {l : List S28} (hl : l.all isP = true) (hn : l.length ≤ 1000) (A1 : Option Addr) (c1 : Nat) (w : World) (hr1 : Kd.C k28 w A1 l.length l) (hc1 : l.length ≤ c1) :
  Calls Try.prog 62 #[.agg #[.int .i64 c.X, .int .i64 c.Y, .int .i64 c.D, .int .i64 c.R], .slice A1 l.length c1] w fun e w' => e = .returned (.bool (insL c l)) ∧ Below w.heap.size w w' := by
 obtain ⟨k, hk⟩ := (isInside_ev hc hl hn).rounds
 exact cover_isInside.calls k _ _ _ _ _ _ _ _ w hr1 hc1 hk
set_option maxHeartbeats 1000000 in
set_option maxRecDepth 100000 in
theorem cands_calls (A0 : Option Addr) (n c0 : Nat) (w : World) : Calls Try.prog 53 #[.slice A0 n c0] w fun e w' =>
  e = .returned (.func (.func 80) #[] #[.pointer (some ⟨w.heap.size, 0, none⟩)]) ∧ w' = w.alloc (.cells #[.slice A0 n c0] 37) := by
 go_enter Try.func53, Try.ntmps53
 go_wp2
 go_ret
 exact ⟨rfl, rfl⟩
theorem start_head {P : Program} {ops : Array Oper} {Q : Exit → Act → World → Prop} {S : World → Prop} {ds : List Nat} {n : Nat} {a : Act} {w : World} (l : Array Bool) (hn : ops.size = n) (hl : Array.replicate n false = l)
  (hS : S w.drew) (h : S w.drew → wpAnyLast P .any ops Q S ds n l a w.drew) : wpAny P .any ops Q n (Array.replicate n false) a w.drew := by
 subst hn
 subst hl
 exact wpAny_of_last _ _ _ _ (h hS)
end Go.Proofs.Ytplhfbkejngioaa.X
namespace Go.Proofs.Ytplhfbkejngioaa.X
open Go.RowKit Go.Shelf Go.Proofs.YtplhfbkejngioaaW.PrintWords Go.Proofs.YtplhfbkejngioaaW.PrintLast Go.Proofs.Ytplhfbkejngioaa.S
set_option linter.unusedVariables false
set_option linter.unusedSimpArgs false
attribute [local go_sem] Oper.semAt_some
theorem cell_alloc_of {W : World} {p : Addr} {v : Value} (h : W.cell? p = some v) (o : Obj) : (W.alloc o).cell? p = some v := by
 exact pw_cell_below ((Below.refl _ _).alloc (Nat.le_refl _) o) h
theorem three_C {w : World} {b : Nat} {p q r : S28} (h : w.heap[b]? = some (.cells #[.int .i64 p.f0, .int .i64 p.f1, .int .i64 q.f0, .int .i64 q.f1, .int .i64 r.f0, .int .i64 r.f1] 28 (0, 0))) : Kd.C k28 w (some ⟨b, 0, none⟩) 3 [p, q, r] := by
 refine ⟨rfl, by decide, fun _ => ⟨_, rfl, fun i x hi => ?_⟩⟩
 have key : ∀ (j : Nat) (u : Value), #[Value.int .i64 p.f0, .int .i64 p.f1, .int .i64 q.f0, .int .i64 q.f1, .int .i64 r.f0, .int .i64 r.f1][j]? = some u → w.cell? (Addr.add ⟨b, 0, none⟩ j) = some u := by
  intro j u hu
  rw [Addr.add_lit, Nat.zero_add, blk_cell h j]; exact hu
 refine ⟨[.int .i64 x.f0, .int .i64 x.f1], rfl, k28_mk w x, fun a u hu => ?_⟩
 have hi3 : i < 3 := (List.getElem?_eq_some_iff.1 hi).1
 have ha : a < 2 := by have := (List.getElem?_eq_some_iff.1 hu).1; simpa using this
 refine key _ _ ?_
 obtain rfl | rfl | rfl : i = 0 ∨ i = 1 ∨ i = 2 := by omega
 all_goals
  obtain rfl | rfl : a = 0 ∨ a = 1 := by omega
  all_goals
   simp at hi hu
   subst hi
   subst hu
   rfl
theorem ins3_calls {p q r : S28} (hp : isP p = true) (hq : isP q = true) (hr : isP r = true) (hd : crossD p q r ≠ 0) (b : Nat) (w : World)
  (h : w.heap[b]? = some (.cells #[.int .i64 p.f0, .int .i64 p.f1, .int .i64 q.f0, .int .i64 q.f1, .int .i64 r.f0, .int .i64 r.f1] 28 (0, 0))) :
  Calls Try.prog 62 #[.agg #[.int .i64 (thrC p q r).X, .int .i64 (thrC p q r).Y, .int .i64 (thrC p q r).D, .int .i64 (thrC p q r).R], .slice (some ⟨b, 0, none⟩) 3 3] w fun e w' => e = .returned (.bool (insC3 (thrC p q r) p q r)) ∧ Below w.heap.size w w' := by
 have hok := thr_ok hp hq hr hd
 rw [← insL_three (by unfold okC at hok; omega) hd]
 exact ins_calls hok (l := [p, q, r]) (by simp [hp, hq, hr]) (by simp) (some ⟨b, 0, none⟩) 3 w (three_C h) (by simp)
set_option maxHeartbeats 8000000 in
set_option maxRecDepth 100000 in
theorem cands_in (n₀ ob base : Nat) (n : Nat) (hn : 1 ≤ n) (l Bp : Nat) (ps : List S28) (hall : ps.all isP = true) (h1 : 1 ≤ ps.length) (h64 : ps.length ≤ 64) (A0 : Option Addr) (c0 : Nat) (hc0 : ps.length ≤ c0)
  (J Jx : List Cand → World → Prop)
  (hY : ∀ pre (x : Cand × Nat) W, GoodC base x W → J pre W → YieldAt Fence.wide (n - 1) Try.prog l (encC x) W fun e W' =>
   (e = .returned (.bool true) ∧ J (pre ++ [x.1]) W' ∧ KeepC n₀ ob W W') ∨ (e = .returned (.bool false) ∧ Jx (pre ++ [x.1]) W'))
  (W : World) (hbase : base ≤ W.heap.size) (hn0 : n₀ ≤ W.heap.size) (hob : ob < W.heap.size) (hJ : AbidesFrom W.heap.size J)
  (hrd : ∀ W', KeepC n₀ ob W W' → W'.heap[Bp]? = some (.cells #[.slice A0 ps.length c0] 37 (0, 0)) ∧ Kd.C k28 W' A0 ps.length ps) (h0 : J [] W) :
  CallsIn Fence.wide n Try.prog 80 #[.func (.yield l) #[] #[], .pointer (some ⟨Bp, 0, none⟩)] W fun e W' => (∃ v, e = .returned v) ∧
   (J (cands ps) W' ∨ (∃ pre, pre <+: cands ps ∧ Jx pre W')) := by
 refine callsIn_of_wp Try.func80 rfl trivial ?_ rfl
 simp only [Try.ntmps80, List.size_toArray, List.length_cons, List.length_nil, Nat.reduceAdd, Nat.reduceSub, Array.replicate_succ, Array.replicate_zero, List.push_toArray, List.append_toArray, List.nil_append, List.cons_append]
 have HY := Aside0.mk hY
 have HJ := Aside0.mk hJ
 have HRD := Aside0.mk hrd
 have H0 := Aside0.mk h0
 have HALL := Aside0.mk hall
 obtain ⟨ad, rfl, hp0, hp1⟩ := at_T28 (hrd W (KeepC.refl _ _ _)).2 0 (by omega) (by omega)
 clear hY hJ h0 hall
 have ep : rd_T28 ps 0 = pt ps 0 := rd_pt ps 0
 rw [ep] at hp0 hp1
 have ea : ad.add (Int.toNat 0 * 2) = ad.add 0 := rfl
 rw [ea] at hp0 hp1
 have hp0 : W.cell? ad = some (.int .i64 (pt ps 0).f0) := hp0
 have hp1 : W.cell? ⟨ad.block, ad.off + 1, none⟩ = some (.int .i64 (pt ps 0).f1) := hp1
 have hb0 : W.cell? ⟨Bp, 0, none⟩ = some (.slice (some ad) ps.length c0) := (blk_cell (HRD.out W (KeepC.refl _ _ _)).1 0).trans rfl
 have hl1 : 0 < ps.length := h1
 clear ep ea hrd
 gi_wp2
 refine region_head (m := 12) (by kernel_rfl) (by kernel_rfl) (by kernel_rfl) (by kernel_rfl) (by decide) (by kernel_rfl) ?_
 simp only [List.take_succ_cons, List.take_zero, List.drop_succ_cons, List.drop_zero]
 refine start_head (S := fun w' => w'.cell? ⟨Bp, 0, none⟩ = some (.slice (some ad) ps.length c0) ∧ w'.cell? ad = some (.int .i64 (pt ps 0).f0) ∧ w'.cell? ⟨ad.block, ad.off + 1, none⟩ = some (.int .i64 (pt ps 0).f1)) (ds := []) #[false, false, false, false, false, false, false, false, false, false, false, false] rfl rfl ⟨hb0, hp0, hp1⟩ (fun hHeld => ?_)
 refine pure_ (i := 0) (N := some 15) (v := ?_) (a' := ?_) #[true, false, false, false, false, false, false, false, false, false, false, false] rfl rfl (by kernel_rfl) (fun _ _ _ h => Exit.noConfusion h.1) (Or.inl ⟨by rfl, ?_⟩) ?_ ?_
 rotate_left
 ·intro w'
  go_simp
  with_reducible rfl
 rotate_left
 ·simp only [Act.put, List.setIfInBounds_toArray, List.set_cons_zero, List.set_cons_succ, i64_w, i32_w]
  rfl
 refine take_ (i := 1) (N := some 16) (v := ?_) (a' := ?_) #[true, true, false, false, false, false, false, false, false, false, false, false] rfl rfl (by kernel_rfl) (fun _ _ _ h => Exit.noConfusion h.1) (Or.inl ⟨by rfl, ?_⟩) hHeld ?_ ?_
 rotate_left
 ·rintro w' ⟨s0, s1, s2⟩
  go_simp
  with_reducible rfl
 rotate_left
 ·simp only [Act.put, List.setIfInBounds_toArray, List.set_cons_zero, List.set_cons_succ, i64_w, i32_w]
  rfl
 refine pure_ (i := 2) (N := some 17) (v := ?_) (a' := ?_) #[true, true, true, false, false, false, false, false, false, false, false, false] rfl rfl (by kernel_rfl) (fun _ _ _ h => Exit.noConfusion h.1) (Or.inl ⟨by rfl, ?_⟩) ?_ ?_
 rotate_left
 ·intro w'
  go_simp
  with_reducible rfl
 rotate_left
 ·simp only [Act.put, List.setIfInBounds_toArray, List.set_cons_zero, List.set_cons_succ, i64_w, i32_w]
  rfl
 refine pure_ (i := 3) (N := some 18) (v := ?_) (a' := ?_) #[true, true, true, true, false, false, false, false, false, false, false, false] rfl rfl (by kernel_rfl) (fun _ _ _ h => Exit.noConfusion h.1) (Or.inl ⟨by rfl, ?_⟩) ?_ ?_
 rotate_left
 ·intro w'
  go_simp
  with_reducible rfl
 rotate_left
 ·simp only [Act.put, List.setIfInBounds_toArray, List.set_cons_zero, List.set_cons_succ, i64_w, i32_w]
  rfl
 refine take_ (i := 4) (N := some 19) (v := ?_) (a' := ?_) #[true, true, true, true, true, false, false, false, false, false, false, false] rfl rfl (by kernel_rfl) (fun _ _ _ h => Exit.noConfusion h.1) (Or.inl ⟨by rfl, ?_⟩) hHeld ?_ ?_
 rotate_left
 ·rintro w' ⟨s0, s1, s2⟩
  go_simp
  with_reducible rfl
 rotate_left
 ·simp only [Act.put, List.setIfInBounds_toArray, List.set_cons_zero, List.set_cons_succ, i64_w, i32_w]
  rfl
 refine take_ (i := 5) (N := some 20) (v := ?_) (a' := ?_) #[true, true, true, true, true, true, false, false, false, false, false, false] rfl rfl (by kernel_rfl) (fun _ _ _ h => Exit.noConfusion h.1) (Or.inl ⟨by rfl, ?_⟩) hHeld ?_ ?_
 rotate_left
 ·rintro w' ⟨s0, s1, s2⟩
  go_simp
  with_reducible rfl
 rotate_left
 ·simp only [Act.put, List.setIfInBounds_toArray, List.set_cons_zero, List.set_cons_succ, i64_w, i32_w]
  rfl
 refine pure_ (i := 6) (N := some 21) (v := ?_) (a' := ?_) #[true, true, true, true, true, true, true, false, false, false, false, false] rfl rfl (by kernel_rfl) (fun _ _ _ h => Exit.noConfusion h.1) (Or.inl ⟨by rfl, ?_⟩) ?_ ?_
 rotate_left
 ·intro w'
  go_simp
  with_reducible rfl
 rotate_left
 ·simp only [Act.put, List.setIfInBounds_toArray, List.set_cons_zero, List.set_cons_succ, i64_w, i32_w]
  rfl
 refine pure_ (i := 7) (N := some 22) (v := ?_) (a' := ?_) #[true, true, true, true, true, true, true, true, false, false, false, false] rfl rfl (by kernel_rfl) (fun _ _ _ h => Exit.noConfusion h.1) (Or.inl ⟨by rfl, ?_⟩) ?_ ?_
 rotate_left
 ·intro w'
  go_simp
  with_reducible rfl
 rotate_left
 ·simp only [Act.put, List.setIfInBounds_toArray, List.set_cons_zero, List.set_cons_succ, i64_w, i32_w]
  rfl
 refine take_ (i := 8) (N := some 23) (v := ?_) (a' := ?_) #[true, true, true, true, true, true, true, true, true, false, false, false] rfl rfl (by kernel_rfl) (fun _ _ _ h => Exit.noConfusion h.1) (Or.inl ⟨by rfl, ?_⟩) hHeld ?_ ?_
 rotate_left
 ·rintro w' ⟨s0, s1, s2⟩
  go_simp
  with_reducible rfl
 rotate_left
 ·simp only [Act.put, List.setIfInBounds_toArray, List.set_cons_zero, List.set_cons_succ, i64_w, i32_w]
  rfl
 refine pure_ (i := 9) (N := some 24) (v := ?_) (a' := ?_) #[true, true, true, true, true, true, true, true, true, true, false, false] rfl rfl (by kernel_rfl) (fun _ _ _ h => Exit.noConfusion h.1) (Or.inl ⟨by rfl, ?_⟩) ?_ ?_
 rotate_left
 ·intro w'
  go_simp
  with_reducible rfl
 rotate_left
 ·simp only [Act.put, List.setIfInBounds_toArray, List.set_cons_zero, List.set_cons_succ, i64_w, i32_w]
  rfl
 refine one_ (i := 10) (N := some 25) #[true, true, true, true, true, true, true, true, true, true, true, false] rfl rfl (by kernel_rfl) (by decide) (fun K hK => ?_)
 refine value_ (w1 := ?_) (v := ?_) (by rfl) rfl ?_ ?_
 rotate_left 2
 ·go_simp
  constructor
  ·rfl
  ·rfl
 refine hK.out _ _ ⟨(cell_alloc_of hHeld.1 _), (cell_alloc_of hHeld.2.1 _), (cell_alloc_of hHeld.2.2 _)⟩ (fun hHeld => ?_)
 clear hK K
 refine norm_ (a' := ?_) ?_ ?_
 rotate_left
 ·show Act.put _ (some 25) _ = _
  simp only [Act.put, List.setIfInBounds_toArray, List.set_cons_zero, List.set_cons_succ, i64_w, i32_w]
  rfl
 refine pure_ (i := 11) (N := some 26) (v := ?_) (a' := ?_) #[true, true, true, true, true, true, true, true, true, true, true, true] rfl rfl (by kernel_rfl) (fun _ _ _ h => Exit.noConfusion h.1) (Or.inl ⟨by rfl, ?_⟩) ?_ ?_
 rotate_left
 ·intro w'
  go_simp
  with_reducible rfl
 rotate_left
 ·simp only [Act.put, List.setIfInBounds_toArray, List.set_cons_zero, List.set_cons_succ, i64_w, i32_w]
  rfl
 refine done_ (by kernel_rfl) ?_
 have okc1 : okC (cand1 ps).c := by
  have := isP_bd (pt_isP HALL.out (i := 0) (by omega))
  unfold okC cand1; simp only; omega
 have hbw : Below W.heap.size W (W.alloc (.cells #[.int .i64 0] 3)).drew := (below_alloc (Below.refl _ W) _).drew
 obtain ⟨fn, tmps, assign, body, hy, hR⟩ := HY.out [] (cand1 ps, W.heap.size) (W.alloc (.cells #[.int .i64 0] 3)).drew ⟨hbase, okc1, heap_alloc_new W _⟩ (HJ.out _ _ _ none H0.out (grown_of_below hbw none) (fun r e => by cases e))
 have HBW := Aside0.mk hbw
 clear okc1 hbw H0 hHeld hp0 hp1 hb0 hl1
 simp only [encC, cand1, List.length_cons, List.length_nil, Nat.zero_add] at hy
 refine ⟨rfl, ?_⟩
 gi_wp2
 refine hR.mono ?_
 rintro e W3 (⟨rfl, hJ3, hk3⟩ | ⟨rfl, hJx3⟩)
 ·have HJ3 := Aside0.mk (show J (upJ ps 0) W3 from hJ3)
  have HK3 := Aside0.mk ((KeepC.of_below (ob := ob) HBW.out hn0).trans hk3)
  clear hJ3 hk3 hy hR
  have hb0 : W3.cell? ⟨Bp, 0, none⟩ = some (.slice (some ad) ps.length c0) := (blk_cell (HRD.out W3 HK3.out).1 0).trans rfl
  gi_wp2
  clear hb0
  gi_loopw [31] (fun i wr => ∃ k : Nat, k ≤ ps.length ∧ i = .int .i64 k ∧ Aside0 (J (upJ ps k) wr) ∧ Aside0 (KeepC n₀ ob W wr)) (fun i _ => ps.length - (intOf i).toNat)
  case atStart => exact ⟨0, Nat.zero_le _, rfl, HJ3, HK3⟩
  case round =>
   clear HJ3 HK3 HBW
   obtain ⟨k, hk, rfl, HJk, HBk⟩ := hrel
   by_cases hlt : k < ps.length
   ·have hltz : (k : Int) < (ps.length : Int) := by omega
    have hkc : k ≤ c0 := by omega
    have hb0 : wr.cell? ⟨Bp, 0, none⟩ = some (.slice (some ad) ps.length c0) := (blk_cell (HRD.out wr HBk.out).1 0).trans rfl
    have hb1 := cell_alloc_of hb0 (.cells #[.int .i64 (pt ps k).f0, .int .i64 (pt ps k).f1] 28)
    obtain ⟨ad', e', hq0, hq1⟩ := at_T28 (HRD.out wr HBk.out).2 (k : Int) (by omega) hltz
    obtain rfl : ad = ad' := by injection e'
    rw [rd_pt] at hq0 hq1
    clear e'
    simp only [Int.toNat_natCast] at hq0 hq1
    gi_wp2
    clear hb0 hb1 hq0 hq1
    obtain ⟨wo, rfl⟩ : ∃ wo : World, wo = wr := ⟨_, rfl⟩
    have HWO := Aside0.mk (show n₀ ≤ wo.heap.size ∧ ob < wo.heap.size ∧ base ≤ wo.heap.size by have := HBk.out.size; omega)
    gi_loopw [40] (fun i wq => ∃ m : Nat, m ≤ k ∧ i = .int .i64 m ∧ Aside0 (J (upJ ps k ++ upI ps k m) wq) ∧ Aside0 (KeepC n₀ ob W wq) ∧ Aside0 (wo.heap.size ≤ wq.heap.size ∧ wq.heap[wo.heap.size]? = some (.cells #[.int .i64 (pt ps k).f0, .int .i64 (pt ps k).f1] 28 (0, 0)))) (fun i _ => k - (intOf i).toNat)
    case atStart =>
     have hbw := below_alloc (Below.refl wo.heap.size wo) (.cells #[.int .i64 (pt ps k).f0, .int .i64 (pt ps k).f1] 28)
     exact ⟨0, Nat.zero_le _, rfl, ⟨by simpa [upI] using HJ.out _ _ _ none HJk.out (grown_of_below hbw none) (fun r e => by cases e)⟩, ⟨HBk.out.trans (KeepC.of_below hbw HWO.out.1)⟩, ⟨⟨by simp, heap_alloc_new wo _⟩⟩⟩
    case round =>
     obtain ⟨m, hm, rfl, HJm, HBm, HBB⟩ := hrel
     clear HBk HJk
     by_cases hlm : m < k
     ·have hlmz : (m : Int) < (k : Int) := by omega
      have hmp : (m : Int) < (ps.length : Int) := by omega
      obtain ⟨ad', e', hq0, hq1⟩ := at_T28 (HRD.out wr HBm.out).2 (m : Int) (by omega) hmp
      obtain rfl : ad = ad' := by injection e'
      rw [rd_pt] at hq0 hq1
      clear e'
      simp only [Int.toNat_natCast] at hq0 hq1
      have hx0 := cell_alloc_of ((blk_cell HBB.out.2 0).trans rfl) (.cells #[.int .i64 (pt ps m).f0, .int .i64 (pt ps m).f1] 28)
      have hx1 := cell_alloc_of ((blk_cell HBB.out.2 1).trans rfl) (.cells #[.int .i64 (pt ps m).f0, .int .i64 (pt ps m).f1] 28)
      have hx0 : (wr.alloc (.cells #[.int .i64 (pt ps m).f0, .int .i64 (pt ps m).f1] 28)).cell? ⟨wo.heap.size, 0, none⟩ = some (.int .i64 (pt ps k).f0) := hx0
      have hx1 : (wr.alloc (.cells #[.int .i64 (pt ps m).f0, .int .i64 (pt ps m).f1] 28)).cell? ⟨wo.heap.size, 1, none⟩ = some (.int .i64 (pt ps k).f1) := hx1
      have HP1 := Aside0.mk (pt_isP HALL.out (i := m) (by omega))
      have HP2 := Aside0.mk (pt_isP HALL.out (i := k) hlt)
      have HBA := Aside0.mk (below_alloc (Below.refl wr.heap.size wr) (.cells #[.int .i64 (pt ps m).f0, .int .i64 (pt ps m).f1] 28))
      gi_wp2_with (first | (refine ⟨trivial, ?_⟩; gi_at_call 81; refine (callsIn_wide.2 (bet_calls HP1.out HP2.out _)).mono ?_; rintro e w1 ⟨rfl, hb1⟩; have HBW := Aside0.mk (below_alloc (HBA.out.trans (hb1.mono HBA.out.size)) (.cells #[.int .i64 (m : Int), .int .i64 (k : Int)] 3)); have HSZ := Aside0.mk (Nat.le_trans HBA.out.size hb1.size); obtain ⟨fn, tmps, assign, body, hy, hR⟩ := HY.out _ (cand2 ps m k, w1.heap.size) (w1.alloc (.cells #[.int .i64 (m : Int), .int .i64 (k : Int)] 3)) ⟨by have := HSZ.out; have := HWO.out; have := HBB.out.1; simp only; omega, bet_ok HP1.out HP2.out, heap_alloc_new w1 _⟩ (HJ.out _ _ _ none HJm.out (grown_of_below HBW.out none) (fun r e => by cases e)); clear hb1; simp only [encC, cand2, List.length_cons, List.length_nil, Nat.zero_add, Nat.reduceAdd] at hy))
      refine hR.mono ?_
      rintro e W4 (⟨rfl, hJ4, hk4⟩ | ⟨rfl, hJx4⟩)
      ·have HJ4 := Aside0.mk (show J (upJ ps k ++ upI ps k (m + 1)) W4 by rw [upI_succ, ← List.append_assoc]; exact hJ4)
       have HK4 := Aside0.mk (HBm.out.trans ((KeepC.of_below HBW.out (Nat.le_trans HWO.out.1 HBB.out.1)).trans hk4))
       have HB4 := Aside0.mk (show wo.heap.size ≤ W4.heap.size ∧ W4.heap[wo.heap.size]? = some (.cells #[.int .i64 (pt ps k).f0, .int .i64 (pt ps k).f1] 28 (0, 0)) from ⟨Nat.le_trans HBB.out.1 (Nat.le_trans HBW.out.size hk4.size), hk4.cells _ _ _ _ (by have := HWO.out; omega) ((HBW.out.block _ (blk_lt HBB.out.2)).trans HBB.out.2)⟩)
       clear hJ4 hk4 hy hR hx0 hx1 hq0 hq1
       gi_wp2
       go_roundw
       case rel => exact ⟨m + 1, by omega, by go_num, HJ4, HK4, HB4⟩
       case measure => simp [intOf]; omega
      ·have HJx4 := Aside0.mk hJx4
       clear hJx4 hy hR
       gi_wp2
       refine bodyPost_ret (results_none rfl _ _ _) rfl ?_
       exact ⟨⟨_, rfl⟩, .inr ⟨_, pre2 ps k m hlt hlm, HJx4.out⟩⟩
     ·have hlmz : ¬ (m : Int) < (k : Int) := by omega
      have HE := Aside0.mk (show J (upJ ps (k + 1)) wr by rw [upJ_succ, show k = m by omega]; have h := HJm.out; rw [show k = m by omega] at h; exact h)
      gi_wp2
      go_roundw
      case rel => exact ⟨k + 1, by omega, by go_num, HE, HBm⟩
      case measure => simp [intOf]; omega
   ·have hltz : ¬ (k : Int) < (ps.length : Int) := by omega
    have HE := Aside0.mk (show J (upJ ps ps.length ++ up3K ps 0) wr by have h := HJk.out; rw [show k = ps.length by omega] at h; simpa [up3K] using h)
    have hb0 : wr.cell? ⟨Bp, 0, none⟩ = some (.slice (some ad) ps.length c0) := (blk_cell (HRD.out wr HBk.out).1 0).trans rfl
    gi_wp2
    clear hb0 hltz
    obtain ⟨wz, rfl⟩ : ∃ wz : World, wz = wr := ⟨_, rfl⟩
    gi_loopw [59] (fun i wr => ∃ k : Nat, k ≤ ps.length ∧ i = .int .i64 k ∧ Aside0 (J (upJ ps ps.length ++ up3K ps k) wr) ∧ Aside0 (KeepC n₀ ob W wr)) (fun i _ => ps.length - (intOf i).toNat)
    case atStart => exact ⟨0, Nat.zero_le _, rfl, HE, HBk⟩
    case round =>
     clear HE HBk HJk
     obtain ⟨k, hk, rfl, HJk, HBk⟩ := hrel
     by_cases hlt : k < ps.length
     ·have hltz : (k : Int) < (ps.length : Int) := by omega
      have hkc : k ≤ c0 := by omega
      have hb0 : wr.cell? ⟨Bp, 0, none⟩ = some (.slice (some ad) ps.length c0) := (blk_cell (HRD.out wr HBk.out).1 0).trans rfl
      have hb1 := cell_alloc_of hb0 (.cells #[.int .i64 (pt ps k).f0, .int .i64 (pt ps k).f1] 28)
      obtain ⟨ad', e', hq0, hq1⟩ := at_T28 (HRD.out wr HBk.out).2 (k : Int) (by omega) hltz
      obtain rfl : ad = ad' := by injection e'
      rw [rd_pt] at hq0 hq1
      clear e'
      simp only [Int.toNat_natCast] at hq0 hq1
      gi_wp2
      clear hb0 hb1 hq0 hq1
      obtain ⟨wo, rfl⟩ : ∃ wo : World, wo = wr := ⟨_, rfl⟩
      have HWO := Aside0.mk (show n₀ ≤ wo.heap.size ∧ ob < wo.heap.size ∧ base ≤ wo.heap.size by have := HBk.out.size; omega)
      gi_loopw [68] (fun i wq => ∃ j : Nat, j ≤ k ∧ i = .int .i64 j ∧ Aside0 (J (upJ ps ps.length ++ (up3K ps k ++ up3J ps k j)) wq) ∧ Aside0 (KeepC n₀ ob W wq) ∧ Aside0 (wo.heap.size < wq.heap.size ∧ wq.heap[wo.heap.size]? = some (.cells #[.int .i64 (pt ps k).f0, .int .i64 (pt ps k).f1] 28 (0, 0)))) (fun i _ => k - (intOf i).toNat)
      case atStart =>
       have hbw := below_alloc (Below.refl wo.heap.size wo) (.cells #[.int .i64 (pt ps k).f0, .int .i64 (pt ps k).f1] 28)
       exact ⟨0, Nat.zero_le _, rfl, ⟨by simpa [up3J] using HJ.out _ _ _ none HJk.out (grown_of_below hbw none) (fun r e => by cases e)⟩, ⟨HBk.out.trans (KeepC.of_below hbw HWO.out.1)⟩, ⟨⟨by simp, heap_alloc_new wo _⟩⟩⟩
      case round =>
       obtain ⟨j, hj, rfl, HJj, HBj, HBB⟩ := hrel
       clear HBk HJk
       by_cases hlj : j < k
       ·have hljz : (j : Int) < (k : Int) := by omega
        have hjp : (j : Int) < (ps.length : Int) := by omega
        have hjc : j ≤ c0 := by omega
        have hb0 : wr.cell? ⟨Bp, 0, none⟩ = some (.slice (some ad) ps.length c0) := (blk_cell (HRD.out wr HBj.out).1 0).trans rfl
        have hb1 := cell_alloc_of hb0 (.cells #[.int .i64 (pt ps j).f0, .int .i64 (pt ps j).f1] 28)
        obtain ⟨ad', e', hq0, hq1⟩ := at_T28 (HRD.out wr HBj.out).2 (j : Int) (by omega) hjp
        obtain rfl : ad = ad' := by injection e'
        rw [rd_pt] at hq0 hq1
        clear e'
        simp only [Int.toNat_natCast] at hq0 hq1
        gi_wp2
        clear hb0 hb1 hq0 hq1
        obtain ⟨wm, rfl⟩ : ∃ wm : World, wm = wr := ⟨_, rfl⟩
        have HWM := Aside0.mk (show n₀ ≤ wm.heap.size ∧ ob < wm.heap.size ∧ base ≤ wm.heap.size by have := HBj.out.size; omega)
        gi_loopw [77] (fun i wq => ∃ m : Nat, m ≤ j ∧ i = .int .i64 m ∧ Aside0 (J (upJ ps ps.length ++ (up3K ps k ++ (up3J ps k j ++ up3I ps k j m))) wq) ∧ Aside0 (KeepC n₀ ob W wq) ∧ Aside0 (wo.heap.size < wq.heap.size ∧ wq.heap[wo.heap.size]? = some (.cells #[.int .i64 (pt ps k).f0, .int .i64 (pt ps k).f1] 28 (0, 0))) ∧ Aside0 (wm.heap.size < wq.heap.size ∧ wq.heap[wm.heap.size]? = some (.cells #[.int .i64 (pt ps j).f0, .int .i64 (pt ps j).f1] 28 (0, 0)))) (fun i _ => j - (intOf i).toNat)
        case atStart =>
         have hbw := below_alloc (Below.refl wm.heap.size wm) (.cells #[.int .i64 (pt ps j).f0, .int .i64 (pt ps j).f1] 28)
         exact ⟨0, Nat.zero_le _, rfl, ⟨by simpa [up3I] using HJ.out _ _ _ none HJj.out (grown_of_below hbw none) (fun r e => by cases e)⟩, ⟨HBj.out.trans (KeepC.of_below hbw HWM.out.1)⟩, ⟨⟨Nat.lt_of_lt_of_le HBB.out.1 hbw.size, (hbw.block _ HBB.out.1).trans HBB.out.2⟩⟩, ⟨⟨by simp, heap_alloc_new wm _⟩⟩⟩
        case round =>
         obtain ⟨m, hm, rfl, HJm, HBm, HBC, HBD⟩ := hrel
         clear HBj HJj HBB
         by_cases hlm : m < j
         ·have hlmz : (m : Int) < (j : Int) := by omega
          have hmp : (m : Int) < (ps.length : Int) := by omega
          obtain ⟨ad', e', hq0, hq1⟩ := at_T28 (HRD.out wr HBm.out).2 (m : Int) (by omega) hmp
          obtain rfl : ad = ad' := by injection e'
          rw [rd_pt] at hq0 hq1
          clear e'
          simp only [Int.toNat_natCast] at hq0 hq1
          have hx0 : (wr.alloc (.cells #[.int .i64 (pt ps m).f0, .int .i64 (pt ps m).f1] 28)).cell? ⟨wo.heap.size, 0, none⟩ = some (.int .i64 (pt ps k).f0) := cell_alloc_of ((blk_cell HBC.out.2 0).trans rfl) (.cells #[.int .i64 (pt ps m).f0, .int .i64 (pt ps m).f1] 28)
          have hx1 : (wr.alloc (.cells #[.int .i64 (pt ps m).f0, .int .i64 (pt ps m).f1] 28)).cell? ⟨wo.heap.size, 1, none⟩ = some (.int .i64 (pt ps k).f1) := cell_alloc_of ((blk_cell HBC.out.2 1).trans rfl) (.cells #[.int .i64 (pt ps m).f0, .int .i64 (pt ps m).f1] 28)
          have hy0 : (wr.alloc (.cells #[.int .i64 (pt ps m).f0, .int .i64 (pt ps m).f1] 28)).cell? ⟨wm.heap.size, 0, none⟩ = some (.int .i64 (pt ps j).f0) := cell_alloc_of ((blk_cell HBD.out.2 0).trans rfl) (.cells #[.int .i64 (pt ps m).f0, .int .i64 (pt ps m).f1] 28)
          have hy1 : (wr.alloc (.cells #[.int .i64 (pt ps m).f0, .int .i64 (pt ps m).f1] 28)).cell? ⟨wm.heap.size, 1, none⟩ = some (.int .i64 (pt ps j).f1) := cell_alloc_of ((blk_cell HBD.out.2 1).trans rfl) (.cells #[.int .i64 (pt ps m).f0, .int .i64 (pt ps m).f1] 28)
          have HP1 := Aside0.mk (pt_isP HALL.out (i := m) (by omega))
          have HP2 := Aside0.mk (pt_isP HALL.out (i := j) (by omega))
          have HP3 := Aside0.mk (pt_isP HALL.out (i := k) hlt)
          have HBA := Aside0.mk (below_alloc (Below.refl wr.heap.size wr) (.cells #[.int .i64 (pt ps m).f0, .int .i64 (pt ps m).f1] 28))
          by_cases hd : crossD (pt ps m) (pt ps j) (pt ps k) = 0
          ·have HD := Aside0.mk hd
           clear hd
           gi_wp2_with (first | (refine ⟨trivial, ?_⟩; gi_at_call 82; refine (callsIn_wide.2 (flat_calls HP1.out HP2.out HP3.out HD.out _)).mono ?_; rintro e w1 ⟨rfl, hb1⟩; have HBW := Aside0.mk (HBA.out.trans (hb1.mono HBA.out.size)); clear hb1))
           refine ⟨trivial, ?_⟩
           gi_wp2
           refine ⟨(fun f h => by cases h), ?_⟩
           gi_wp2
           have hB := below_alloc HBW.out (.cells #[.int .i64 0, .int .i64 0, .int .i64 0, .int .i64 0] 40)
           have HB := Aside0.mk hB
           clear hB
           go_roundw
           case rel => exact ⟨m + 1, by omega, by go_num, ⟨by rw [up3I_succ, show cand3 ps m j k = [] by unfold cand3; rw [if_pos HD.out], List.append_nil]; exact HJ.out _ _ _ none HJm.out (grown_of_below HB.out none) (fun r e => by cases e)⟩, ⟨HBm.out.trans (KeepC.of_below HB.out (Nat.le_of_lt (Nat.lt_of_le_of_lt HWO.out.1 HBC.out.1)))⟩, ⟨⟨Nat.lt_of_lt_of_le HBC.out.1 HB.out.size, (HB.out.block _ HBC.out.1).trans HBC.out.2⟩⟩, ⟨⟨Nat.lt_of_lt_of_le HBD.out.1 HB.out.size, (HB.out.block _ HBD.out.1).trans HBD.out.2⟩⟩⟩
           case measure => simp [intOf]; omega
          ·have HD := Aside0.mk hd
           clear hd
           have HOK := Aside0.mk (thr_ok HP1.out HP2.out HP3.out HD.out)
           have HA := Aside0.mk (heap_alloc_new wr (.cells #[.int .i64 (pt ps m).f0, .int .i64 (pt ps m).f1] 28))
           obtain ⟨b, hbv⟩ : ∃ b, insC3 (thrC (pt ps m) (pt ps j) (pt ps k)) (pt ps m) (pt ps j) (pt ps k) = b := ⟨_, rfl⟩
           have HIN := Aside0.mk hbv
           clear hbv
           have HTH := Aside0.mk (thr_calls HP1.out HP2.out HP3.out HD.out (wr.alloc (.cells #[.int .i64 (pt ps m).f0, .int .i64 (pt ps m).f1] 28)))
           have HC3 := Aside0.mk (fun w b' hw => ins3_calls HP1.out HP2.out HP3.out HD.out b' w hw)
           rw [HIN.out] at HC3
           have HTC := Aside0.mk (show cand3 ps m j k = if insC3 (thrC (pt ps m) (pt ps j) (pt ps k)) (pt ps m) (pt ps j) (pt ps k) then [⟨thrC (pt ps m) (pt ps j) (pt ps k), [(m : Int), (j : Int), (k : Int)]⟩] else [] by unfold cand3; rw [if_neg HD.out])
           rw [HIN.out] at HTC
           clear HIN
           generalize thrC (pt ps m) (pt ps j) (pt ps k) = C at HTH HC3 HTC HOK
           cases b with
           | false =>
            gi_wp2_with (first
     | (refine ⟨trivial, ?_⟩; gi_at_call 82; refine (callsIn_wide.2 HTH.out).mono ?_; rintro e w1 ⟨rfl, hb1⟩; have HB1 := Aside0.mk (HBA.out.trans (hb1.mono HBA.out.size)); have HA1 := Aside0.mk ((hb1.block _ (blk_lt HA.out)).trans HA.out); clear hb1; have hu0 := cell_alloc_of ((blk_cell HA1.out 0).trans rfl) (.cells #[.int .i64 C.X, .int .i64 C.Y, .int .i64 C.D, .int .i64 C.R] 40); have hu1 := cell_alloc_of ((blk_cell HA1.out 1).trans rfl) (.cells #[.int .i64 C.X, .int .i64 C.Y, .int .i64 C.D, .int .i64 C.R] 40); have hv0 := cell_alloc_of ((blk_cell ((HB1.out.block _ HBC.out.1).trans HBC.out.2) 0).trans rfl) (.cells #[.int .i64 C.X, .int .i64 C.Y, .int .i64 C.D, .int .i64 C.R] 40); have hv1 := cell_alloc_of ((blk_cell ((HB1.out.block _ HBC.out.1).trans HBC.out.2) 1).trans rfl) (.cells #[.int .i64 C.X, .int .i64 C.Y, .int .i64 C.D, .int .i64 C.R] 40); have hw0 := cell_alloc_of ((blk_cell ((HB1.out.block _ HBD.out.1).trans HBD.out.2) 0).trans rfl) (.cells #[.int .i64 C.X, .int .i64 C.Y, .int .i64 C.D, .int .i64 C.R] 40); have hw1 := cell_alloc_of ((blk_cell ((HB1.out.block _ HBD.out.1).trans HBD.out.2) 1).trans rfl) (.cells #[.int .i64 C.X, .int .i64 C.Y, .int .i64 C.D, .int .i64 C.R] 40); try simp only [Nat.zero_add] at hu0 hu1 hv0 hv1 hw0 hw1)
     | (refine ⟨trivial, ?_⟩; gi_at_call 62; refine (callsIn_wide.2 (HC3.out _ (w1.heap.size + 1) (by simpa using heap_alloc_new (w1.alloc (.cells #[.int .i64 C.X, .int .i64 C.Y, .int .i64 C.D, .int .i64 C.R] 40)) (.cells #[.int .i64 (pt ps m).f0, .int .i64 (pt ps m).f1, .int .i64 (pt ps j).f0, .int .i64 (pt ps j).f1, .int .i64 (pt ps k).f0, .int .i64 (pt ps k).f1] 28)))).mono ?_; rintro e w2 ⟨rfl, hb2⟩; have HB2 := Aside0.mk ((below_alloc (below_alloc HB1.out (.cells #[.int .i64 C.X, .int .i64 C.Y, .int .i64 C.D, .int .i64 C.R] 40)) (.cells #[.int .i64 (pt ps m).f0, .int .i64 (pt ps m).f1, .int .i64 (pt ps j).f0, .int .i64 (pt ps j).f1, .int .i64 (pt ps k).f0, .int .i64 (pt ps k).f1] 28)).trans (hb2.mono (below_alloc (below_alloc HB1.out (.cells #[.int .i64 C.X, .int .i64 C.Y, .int .i64 C.D, .int .i64 C.R] 40)) (.cells #[.int .i64 (pt ps m).f0, .int .i64 (pt ps m).f1, .int .i64 (pt ps j).f0, .int .i64 (pt ps j).f1, .int .i64 (pt ps k).f0, .int .i64 (pt ps k).f1] 28)).size)); have HCB := Aside0.mk ((hb2.block _ (by simp; omega)).trans (blk_alloc (heap_alloc_new w1 (.cells #[.int .i64 C.X, .int .i64 C.Y, .int .i64 C.D, .int .i64 C.R] 40)) (.cells #[.int .i64 (pt ps m).f0, .int .i64 (pt ps m).f1, .int .i64 (pt ps j).f0, .int .i64 (pt ps j).f1, .int .i64 (pt ps k).f0, .int .i64 (pt ps k).f1] 28))); clear hb2; have ht0 := (blk_cell HCB.out 0).trans rfl; have ht1 := (blk_cell HCB.out 1).trans rfl; have ht2 := (blk_cell HCB.out 2).trans rfl; have ht3 := (blk_cell HCB.out 3).trans rfl))
            refine ⟨(fun f h => by cases h), ?_⟩
            gi_wp2
            go_roundw
            case rel => exact ⟨m + 1, by omega, by go_num, ⟨by rw [up3I_succ, HTC.out, if_neg Bool.false_ne_true, List.append_nil]; exact HJ.out _ _ _ none HJm.out (grown_of_below HB2.out none) (fun r e => by cases e)⟩, ⟨HBm.out.trans (KeepC.of_below HB2.out (Nat.le_of_lt (Nat.lt_of_le_of_lt HWO.out.1 HBC.out.1)))⟩, ⟨⟨Nat.lt_of_lt_of_le HBC.out.1 HB2.out.size, (HB2.out.block _ HBC.out.1).trans HBC.out.2⟩⟩, ⟨⟨Nat.lt_of_lt_of_le HBD.out.1 HB2.out.size, (HB2.out.block _ HBD.out.1).trans HBD.out.2⟩⟩⟩
            case measure => simp [intOf]; omega
           | true =>
            gi_wp2_with (first
     | (refine ⟨trivial, ?_⟩; gi_at_call 82; refine (callsIn_wide.2 HTH.out).mono ?_; rintro e w1 ⟨rfl, hb1⟩; have HB1 := Aside0.mk (HBA.out.trans (hb1.mono HBA.out.size)); have HA1 := Aside0.mk ((hb1.block _ (blk_lt HA.out)).trans HA.out); clear hb1; have hu0 := cell_alloc_of ((blk_cell HA1.out 0).trans rfl) (.cells #[.int .i64 C.X, .int .i64 C.Y, .int .i64 C.D, .int .i64 C.R] 40); have hu1 := cell_alloc_of ((blk_cell HA1.out 1).trans rfl) (.cells #[.int .i64 C.X, .int .i64 C.Y, .int .i64 C.D, .int .i64 C.R] 40); have hv0 := cell_alloc_of ((blk_cell ((HB1.out.block _ HBC.out.1).trans HBC.out.2) 0).trans rfl) (.cells #[.int .i64 C.X, .int .i64 C.Y, .int .i64 C.D, .int .i64 C.R] 40); have hv1 := cell_alloc_of ((blk_cell ((HB1.out.block _ HBC.out.1).trans HBC.out.2) 1).trans rfl) (.cells #[.int .i64 C.X, .int .i64 C.Y, .int .i64 C.D, .int .i64 C.R] 40); have hw0 := cell_alloc_of ((blk_cell ((HB1.out.block _ HBD.out.1).trans HBD.out.2) 0).trans rfl) (.cells #[.int .i64 C.X, .int .i64 C.Y, .int .i64 C.D, .int .i64 C.R] 40); have hw1 := cell_alloc_of ((blk_cell ((HB1.out.block _ HBD.out.1).trans HBD.out.2) 1).trans rfl) (.cells #[.int .i64 C.X, .int .i64 C.Y, .int .i64 C.D, .int .i64 C.R] 40); try simp only [Nat.zero_add] at hu0 hu1 hv0 hv1 hw0 hw1)
     | (refine ⟨trivial, ?_⟩; gi_at_call 62; refine (callsIn_wide.2 (HC3.out _ (w1.heap.size + 1) (by simpa using heap_alloc_new (w1.alloc (.cells #[.int .i64 C.X, .int .i64 C.Y, .int .i64 C.D, .int .i64 C.R] 40)) (.cells #[.int .i64 (pt ps m).f0, .int .i64 (pt ps m).f1, .int .i64 (pt ps j).f0, .int .i64 (pt ps j).f1, .int .i64 (pt ps k).f0, .int .i64 (pt ps k).f1] 28)))).mono ?_; rintro e w2 ⟨rfl, hb2⟩; have HB2 := Aside0.mk ((below_alloc (below_alloc HB1.out (.cells #[.int .i64 C.X, .int .i64 C.Y, .int .i64 C.D, .int .i64 C.R] 40)) (.cells #[.int .i64 (pt ps m).f0, .int .i64 (pt ps m).f1, .int .i64 (pt ps j).f0, .int .i64 (pt ps j).f1, .int .i64 (pt ps k).f0, .int .i64 (pt ps k).f1] 28)).trans (hb2.mono (below_alloc (below_alloc HB1.out (.cells #[.int .i64 C.X, .int .i64 C.Y, .int .i64 C.D, .int .i64 C.R] 40)) (.cells #[.int .i64 (pt ps m).f0, .int .i64 (pt ps m).f1, .int .i64 (pt ps j).f0, .int .i64 (pt ps j).f1, .int .i64 (pt ps k).f0, .int .i64 (pt ps k).f1] 28)).size)); have HCB := Aside0.mk ((hb2.block _ (by simp; omega)).trans (blk_alloc (heap_alloc_new w1 (.cells #[.int .i64 C.X, .int .i64 C.Y, .int .i64 C.D, .int .i64 C.R] 40)) (.cells #[.int .i64 (pt ps m).f0, .int .i64 (pt ps m).f1, .int .i64 (pt ps j).f0, .int .i64 (pt ps j).f1, .int .i64 (pt ps k).f0, .int .i64 (pt ps k).f1] 28))); clear hb2; have ht0 := (blk_cell HCB.out 0).trans rfl; have ht1 := (blk_cell HCB.out 1).trans rfl; have ht2 := (blk_cell HCB.out 2).trans rfl; have ht3 := (blk_cell HCB.out 3).trans rfl; have HBX := Aside0.mk (below_alloc HB2.out (.cells #[.int .i64 (m : Int), .int .i64 (j : Int), .int .i64 (k : Int)] 3)); obtain ⟨fn, tmps, assign, body, hy, hR⟩ := HY.out _ (⟨C, [(m : Int), (j : Int), (k : Int)]⟩, w2.heap.size) (w2.alloc (.cells #[.int .i64 (m : Int), .int .i64 (j : Int), .int .i64 (k : Int)] 3)) ⟨by have := HB2.out.size; have := HWO.out; have := HBC.out.1; simp only; omega, HOK.out, heap_alloc_new w2 _⟩ (HJ.out _ _ _ none HJm.out (grown_of_below HBX.out none) (fun r e => by cases e)); simp only [encC, List.length_cons, List.length_nil, Nat.zero_add, Nat.reduceAdd] at hy))
            refine hR.mono ?_
            rintro e W4 (⟨rfl, hJ4, hk4⟩ | ⟨rfl, hJx4⟩)
            ·have HJ4 := Aside0.mk (show J (upJ ps ps.length ++ (up3K ps k ++ (up3J ps k j ++ up3I ps k j (m + 1)))) W4 by rw [up3I_succ, HTC.out, if_pos trivial]; simpa [List.append_assoc] using hJ4)
             have HK4 := Aside0.mk (HBm.out.trans ((KeepC.of_below HBX.out (Nat.le_of_lt (Nat.lt_of_le_of_lt HWO.out.1 HBC.out.1))).trans hk4))
             have HC4 := Aside0.mk (show wo.heap.size < W4.heap.size ∧ W4.heap[wo.heap.size]? = some (.cells #[.int .i64 (pt ps k).f0, .int .i64 (pt ps k).f1] 28 (0, 0)) from ⟨Nat.lt_of_lt_of_le HBC.out.1 (Nat.le_trans HBX.out.size hk4.size), hk4.cells _ _ _ _ (by have := HWO.out; omega) ((HBX.out.block _ HBC.out.1).trans HBC.out.2)⟩)
             have HD4 := Aside0.mk (show wm.heap.size < W4.heap.size ∧ W4.heap[wm.heap.size]? = some (.cells #[.int .i64 (pt ps j).f0, .int .i64 (pt ps j).f1] 28 (0, 0)) from ⟨Nat.lt_of_lt_of_le HBD.out.1 (Nat.le_trans HBX.out.size hk4.size), hk4.cells _ _ _ _ (by have := HWM.out; omega) ((HBX.out.block _ HBD.out.1).trans HBD.out.2)⟩)
             clear hJ4 hk4 hy hR hx0 hx1 hy0 hy1 hq0 hq1 hu0 hu1 hv0 hv1 hw0 hw1 ht0 ht1 ht2 ht3
             gi_wp2
             go_roundw
             case rel => exact ⟨m + 1, by omega, by go_num, HJ4, HK4, HC4, HD4⟩
             case measure => simp [intOf]; omega
            ·have HJx4 := Aside0.mk hJx4
             clear hJx4 hy hR
             gi_wp2
             refine bodyPost_ret (results_none rfl _ _ _) rfl ?_
             exact ⟨⟨_, rfl⟩, .inr ⟨_, pre3 ps k j m hlt hlj hlm _ (by rw [HTC.out, if_pos trivial]), HJx4.out⟩⟩
         ·have hlmz : ¬ (m : Int) < (j : Int) := by omega
          have HE := Aside0.mk (show J (upJ ps ps.length ++ (up3K ps k ++ up3J ps k (j + 1))) wr by rw [up3J_succ]; have h := HJm.out; rw [show m = j by omega] at h; exact h)
          gi_wp2
          go_roundw
          case rel => exact ⟨j + 1, by omega, by go_num, HE, HBm, HBC⟩
          case measure => simp [intOf]; omega
       ·have hljz : ¬ (j : Int) < (k : Int) := by omega
        have HE := Aside0.mk (show J (upJ ps ps.length ++ up3K ps (k + 1)) wr by rw [up3K_succ]; have h := HJj.out; rw [show j = k by omega] at h; exact h)
        gi_wp2
        go_roundw
        case rel => exact ⟨k + 1, by omega, by go_num, HE, HBj⟩
        case measure => simp [intOf]; omega
     ·have hltz : ¬ (k : Int) < (ps.length : Int) := by omega
      have HE := Aside0.mk (show J (cands ps) wr by rw [cands_up]; have h := HJk.out; rw [show k = ps.length by omega] at h; exact h)
      gi_wp2
      go_end0
      exact ⟨⟨_, rfl⟩, .inl HE.out⟩
 ·have HJx3 := Aside0.mk hJx3
  clear hJx3 hy hR
  gi_wp2
  refine bodyPost_ret (results_none rfl _ _ _) rfl ?_
  exact ⟨⟨_, rfl⟩, .inr ⟨[cand1 ps], pre1 ps, HJx3.out⟩⟩
end Go.Proofs.Ytplhfbkejngioaa.X
