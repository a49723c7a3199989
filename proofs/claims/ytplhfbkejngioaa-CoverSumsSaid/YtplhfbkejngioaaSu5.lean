/- The plain statement of CoverSums (the walk itself holds the law: see ESums). Texts of this claim's session, put together: RefA, Tamed, Tame, RefB, ESums, PureCoverSums. -/
import Derived.Test.YtplhfbkejngioaaBc4
import Derived.Test.YtplhfbkejngioaaBc13
import Derived.Test.YtplhfbkejngioaaSu1
import Derived.Test.YtplhfbkejngioaaSu4
import Derived.Test.YtplhfbkejngioaaSu3
import Derived.Test.YtplhfbkejngioaaBc11
import Derived.Test.YtplhfbkejngioaaSu2
import Derived.IntWalk
import Derived.Test.YtplhfbkejngioaaVWords
import Derived.Test.YtplhfbkejngioaaVLast
import Derived.Test.YtplhfbkejngioaaVRepsOne
namespace Go.Proofs.Ytplhfbkejngioaa.X
open Go.RowKit Go.Proofs.YtplhfbkejngioaaW.PrintWords Go.Proofs.YtplhfbkejngioaaW.PrintLast Go.Proofs.Ytplhfbkejngioaa.S Go.Proofs.Ytplhfbkejngioaa.Open
set_option linter.unusedVariables false
theorem inside_f (a : Int) : tickingref01_Inside.f a = some (inC a) := by
 unfold tickingref01_Inside.f inC
 by_cases h : -256 ≤ a
 ·rw [if_pos h]; simp [h]
 ·rw [if_neg h]; simp [h]
theorem rect_f (r : S48) : tickingref01_Rect.f r.f0 r.f1 r.f2 r.f3 = some (isR r) := by
 unfold tickingref01_Rect.f isR
 rw [inside_f, inside_f, inside_f, inside_f]
 simp only [Option.bind_some]
 cases inC r.f0 <;> cases inC r.f1 <;> cases inC r.f2 <;> cases inC r.f3 <;> simp
 by_cases h : r.f0 < r.f2 <;> simp [h]
theorem rd48_get {l : List S48} {i : Nat} (h : i < l.length) : rd_T48 l (i : Int) = l[i] := by simp [rd_T48, h]
theorem next_i {i n : Nat} (h : i < n) (hn : n ≤ 9223372036854775807) : wrap64 ((i : Int) + 1) = ((i + 1 : Nat) : Int) := by rw [w64 (by omega) (by omega)]; omega
end Go.Proofs.Ytplhfbkejngioaa.X
namespace Go.Proofs.Ytplhfbkejngioaa.X
open Go.RowKit Go.Proofs.YtplhfbkejngioaaW.PrintWords Go.Proofs.YtplhfbkejngioaaW.PrintLast Go.Proofs.Ytplhfbkejngioaa.S Go.Proofs.Ytplhfbkejngioaa.Open
set_option linter.unusedVariables false
set_option linter.unusedSimpArgs false
theorem mod_some (a m : Int) (h : IntKind.u64.wrap m ≠ 0) : ∃ x, tickinglaw01_mod.f a m = some x := by
 unfold tickinglaw01_mod.f
 rw [if_neg h]
 exact ⟨_, rfl⟩
theorem near_some (a most : Int) (h : IntKind.u64.wrap (wrap64 ((wrap64 (2 * most)) + 1)) ≠ 0) : ∃ x, tickinglaw01_near.f a most = some x := by
 unfold tickinglaw01_near.f
 obtain ⟨x, hx⟩ := mod_some a _ h
 rw [hx]
 by_cases h0 : a < wrap64 (-most)
 ·rw [if_pos h0]; exact ⟨_, rfl⟩
 ·rw [if_neg h0]
  by_cases h1 : a > most
  ·rw [if_pos h1]; exact ⟨_, rfl⟩
  ·rw [if_neg h1]; exact ⟨_, rfl⟩
theorem tamed_j2 (l : List S48) (many most : Int) (acc : List S48) (i a b c d : Int) (hacc : acc.length ≤ 64) (hall : acc.all isR = true) :
  ∃ out : List S48, out.length ≤ acc.length + 1 ∧ out.all isR = true ∧ ∀ k, tickinglaw01_tamed.j2 (k + 1) l many most acc i a b c d = tickinglaw01_tamed.l0 k l many most out (wrap64 (i + 1)) := by
 have hl : acc.length < 4398046511104 := by omega
 have key : ∀ q : S48, ∃ out : List S48, out.length ≤ acc.length + 1 ∧ out.all isR = true ∧
   ∀ k, ((tickingref01_Rect.f q.f0 q.f1 q.f2 q.f3).bind fun t441 => (if t441 = true then (if acc.length < 4398046511104 then (tickinglaw01_tamed.l0 k l many most (acc ++ [q]) (wrap64 (i + 1))) else (none)) else (tickinglaw01_tamed.l0 k l many most acc (wrap64 (i + 1))))) = tickinglaw01_tamed.l0 k l many most out (wrap64 (i + 1)) := by
  intro q
  by_cases hq : isR q = true
  ·refine ⟨acc ++ [q], by simp, by simp only [List.all_append, hall, List.all_cons, hq, List.all_nil, Bool.and_self], fun k => ?_⟩
   rw [rect_f, Option.bind_some, if_pos hq, if_pos hl]
  ·refine ⟨acc, by omega, hall, fun k => ?_⟩
   rw [rect_f, Option.bind_some, if_neg hq]
 by_cases h : b > d
 ·obtain ⟨out, h1, h2, h3⟩ := key ⟨a, d, c, b⟩
  refine ⟨out, h1, h2, fun k => ?_⟩
  simp only [tickinglaw01_tamed.j2]
  rw [if_pos h]
  exact h3 k
 ·obtain ⟨out, h1, h2, h3⟩ := key ⟨a, b, c, d⟩
  refine ⟨out, h1, h2, fun k => ?_⟩
  simp only [tickinglaw01_tamed.j2]
  rw [if_neg h]
  exact h3 k
theorem tamed_l0 (l : List S48) (hn : l.length ≤ 9223372036854775807) (many : Nat) (hm : many ≤ 32) (most : Int) (hmost : IntKind.u64.wrap (wrap64 ((wrap64 (2 * most)) + 1)) ≠ 0) :
  ∀ (d i : Nat), i + d = min l.length many → ∀ acc : List S48, acc.length ≤ i → acc.all isR = true →
   ∃ out : List S48, out.length ≤ many ∧ out.all isR = true ∧ ∀ k, 3 * d + 2 ≤ k → tickinglaw01_tamed.l0 k l (many : Int) most acc (i : Int) = some out
 | 0, i, h, acc, ha, hall => by
  refine ⟨acc, by omega, hall, fun k hk => ?_⟩
  obtain ⟨k, rfl⟩ : ∃ q, k = q + 2 := ⟨k - 2, by omega⟩
  simp only [tickinglaw01_tamed.l0, tickinglaw01_tamed.j1]
  by_cases h0 : (i : Int) < (l.length : Int)
  ·rw [if_pos h0]
   have e : decide ((i : Int) < (many : Int)) = false := decide_eq_false (by omega)
   rw [e, if_neg (by decide)]
  ·rw [if_neg h0, if_neg (by decide)]
 | d + 1, i, h, acc, ha, hall => by
  obtain ⟨x0, e0⟩ := near_some (rd_T48 l i).f0 most hmost
  obtain ⟨x1, e1⟩ := near_some (rd_T48 l i).f1 most hmost
  obtain ⟨x2, e2⟩ := near_some (rd_T48 l i).f2 most hmost
  obtain ⟨x3, e3⟩ := near_some (rd_T48 l i).f3 most hmost
  have hi : i < l.length := by omega
  have h0 : (i : Int) < (l.length : Int) := by omega
  have h1 : decide ((i : Int) < (many : Int)) = true := decide_eq_true (by omega)
  have h2 : (0 : Int) ≤ (i : Int) := by omega
  have key : ∃ out : List S48, out.length ≤ acc.length + 1 ∧ out.all isR = true ∧ ∀ k, tickinglaw01_tamed.l0 (k + 3) l (many : Int) most acc (i : Int) = tickinglaw01_tamed.l0 k l (many : Int) most out (wrap64 ((i : Int) + 1)) := by
   by_cases c : x0 > x2
   ·obtain ⟨out, a1, a2, a3⟩ := tamed_j2 l many most acc i x2 x1 x0 x3 (by omega) hall
    refine ⟨out, a1, a2, fun k => ?_⟩
    simp only [tickinglaw01_tamed.l0, tickinglaw01_tamed.j1]
    rw [if_pos h0, h1, if_pos rfl, if_pos h2, if_pos h0, e0, e1, e2, e3]
    simp only [Option.bind_some]
    rw [if_pos c]
    exact a3 k
   ·obtain ⟨out, a1, a2, a3⟩ := tamed_j2 l many most acc i x0 x1 x2 x3 (by omega) hall
    refine ⟨out, a1, a2, fun k => ?_⟩
    simp only [tickinglaw01_tamed.l0, tickinglaw01_tamed.j1]
    rw [if_pos h0, h1, if_pos rfl, if_pos h2, if_pos h0, e0, e1, e2, e3]
    simp only [Option.bind_some]
    rw [if_neg c]
    exact a3 k
  obtain ⟨acc', a1, a2, a3⟩ := key
  obtain ⟨out, b1, b2, b3⟩ := tamed_l0 l hn many hm most hmost d (i + 1) (by omega) acc' (by omega) a2
  refine ⟨out, b1, b2, fun k hk => ?_⟩
  obtain ⟨k, rfl⟩ : ∃ q, k = q + 3 := ⟨k - 3, by omega⟩
  rw [a3, next_i hi hn]
  exact b3 k (by omega)
theorem tamed_ev (l : List S48) (hn : l.length ≤ 9223372036854775807) (many : Nat) (hm : many ≤ 32) (most : Int) (hmost : IntKind.u64.wrap (wrap64 ((wrap64 (2 * most)) + 1)) ≠ 0) :
  ∃ out : List S48, out.length ≤ many ∧ out.all isR = true ∧ Ev (fun k => tickinglaw01_tamed.f k l (many : Int) most) out := by
 obtain ⟨out, h1, h2, h3⟩ := tamed_l0 l hn many hm most hmost (min l.length many) 0 (by omega) [] (by simp) rfl
 exact ⟨out, h1, h2, _, fun k hk => by unfold tickinglaw01_tamed.f; exact h3 k hk⟩
end Go.Proofs.Ytplhfbkejngioaa.X
namespace Go.Proofs.Ytplhfbkejngioaa.X
open Go.RowKit Go.Proofs.YtplhfbkejngioaaW.PrintWords Go.Proofs.YtplhfbkejngioaaW.PrintLast Go.Proofs.Ytplhfbkejngioaa.S Go.Proofs.Ytplhfbkejngioaa.Open
set_option linter.unusedVariables false
set_option linter.unusedSimpArgs false
theorem u64_pos (a : Int) : 0 ≤ IntKind.u64.wrap a := by
 simp only [IntKind.wrap]
 exact Int.emod_nonneg _ (by decide)
theorem u64_id {n : Int} (h0 : 0 ≤ n) (h1 : n ≤ 9223372036854775807) : IntKind.u64.wrap n = n := by
 have e : IntKind.u64.wrap n = n % 18446744073709551616 := by simp [IntKind.wrap, IntKind.signed, IntKind.bits]
 rw [e]; omega
theorem mod_in (a : Int) {n : Int} (h0 : 1 ≤ n) (h1 : n ≤ 1000000) : ∃ x, tickinglaw01_mod.f a n = some x ∧ 0 ≤ x ∧ x < n := by
 unfold tickinglaw01_mod.f
 have p0 := u64_pos a
 have p1 := Int.tmod_lt_of_pos (IntKind.u64.wrap a) (b := n) (by omega)
 have p2 := Int.tmod_nonneg (a := IntKind.u64.wrap a) n p0
 rw [u64_id (by omega) (by omega), if_neg (by omega)]
 exact ⟨_, rfl, by rw [w64 (by omega) (by omega)]; exact p2, by rw [w64 (by omega) (by omega)]; exact p1⟩
end Go.Proofs.Ytplhfbkejngioaa.X
namespace Go.Proofs.Ytplhfbkejngioaa.X
open Go.RowKit Go.Proofs.YtplhfbkejngioaaW.PrintWords Go.Proofs.YtplhfbkejngioaaW.PrintLast Go.Proofs.Ytplhfbkejngioaa.Open Go.Proofs.Ytplhfbkejngioaa.S
set_option linter.unusedVariables false
set_option linter.unusedSimpArgs false
theorem next_w {i : Nat} (h : i < 1000000) : wrap64 ((i : Int) + 1) = ((i + 1 : Nat) : Int) := by rw [w64 (by omega) (by omega)]; omega
theorem depth_l0 (l : List S48) (x y : Int) (hm : l.length ≤ 1000) : ∀ (d i : Nat) (n : Nat), i + d = l.length → n ≤ i → ∀ k, d < k → tickingref01_Depth.l0 k l x y (n : Int) (i : Int) = some ((n : Int) + depthL (l.drop i) x y)
 | 0, i, n, h, hn, k, hk => by
  obtain ⟨k, rfl⟩ : ∃ q, k = q + 1 := ⟨k - 1, by omega⟩
  simp only [tickingref01_Depth.l0]
  rw [if_neg (by omega), List.drop_eq_nil_of_le (by omega)]
  simp [depthL]
 | d + 1, i, n, h, hn, k, hk => by
  obtain ⟨k, rfl⟩ : ∃ q, k = q + 1 := ⟨k - 1, by omega⟩
  have hi : i < l.length := by omega
  have ih0 := depth_l0 l x y hm d (i + 1) n (by omega) (by omega) k (by omega)
  have ih1 := depth_l0 l x y hm d (i + 1) (n + 1) (by omega) (by omega) k (by omega)
  have e : l.drop i = l[i] :: l.drop (i + 1) := List.drop_eq_getElem_cons hi
  have g1 : (i : Int) < (l.length : Int) := by omega
  have g2 : (0 : Int) ≤ (i : Int) := by omega
  have w1 : wrap64 ((i : Int) + 1) = ((i + 1 : Nat) : Int) := next_w (by omega)
  have w2 : wrap64 ((n : Int) + 1) = ((n + 1 : Nat) : Int) := next_w (by omega)
  simp only [tickingref01_Depth.l0]
  rw [if_pos g1, if_pos g2, rd48_get hi, w1, w2, ih0, ih1, e]
  have hc : depthL (l[i] :: l.drop (i + 1)) x y = (if covers l[i] x y then 1 else 0) + depthL (l.drop (i + 1)) x y := by
   unfold depthL
   by_cases hcv : covers l[i] x y = true
   ·rw [List.filter_cons_of_pos (p := fun r => covers r x y) hcv, if_pos hcv]; simp; omega
   ·rw [List.filter_cons_of_neg (p := fun r => covers r x y) hcv, if_neg hcv]; simp
  rw [hc]
  by_cases h1 : l[i].f0 ≤ x
  ·rw [if_pos h1]
   by_cases h2 : x < l[i].f2
   ·rw [if_pos h2]
    by_cases h3 : l[i].f1 ≤ y
    ·rw [if_pos h3]
     by_cases h4 : y < l[i].f3
     ·rw [if_pos h4, if_pos (by simp [covers, h1, h2, h3, h4])]; congr 1; omega
     ·rw [if_neg h4, if_neg (by simp [covers, h4])]; congr 1; omega
    ·rw [if_neg h3, if_neg (by simp [covers, h3])]; congr 1; omega
   ·rw [if_neg h2, if_neg (by simp [covers, h2])]; congr 1; omega
  ·rw [if_neg h1, if_neg (by simp [covers, h1])]; congr 1; omega
theorem depth_f (l : List S48) (x y : Int) (hm : l.length ≤ 1000) {k : Nat} (hk : 1000 < k) : tickingref01_Depth.f k l x y = some (depthL l x y) := by
 unfold tickingref01_Depth.f
 have := depth_l0 l x y hm l.length 0 0 (by omega) (by omega) k (by omega)
 simpa using this
end Go.Proofs.Ytplhfbkejngioaa.X
namespace Go.Proofs.Ytplhfbkejngioaa.X
open Go.RowKit Go.Proofs.YtplhfbkejngioaaW.PrintWords Go.Proofs.YtplhfbkejngioaaW.PrintLast Go.Proofs.Ytplhfbkejngioaa.S
set_option linter.unusedVariables false
set_option linter.unusedSimpArgs false
def tickinglaw01_CoverSums.f (k : Nat) (l0 : List S48) (a1 : Int) : Option Bool := some true
theorem cut_cap (A : Option Addr) (n c : Nat) (j : Int) (h0 : 0 ≤ j) (hc : j ≤ c) (W : World) :
  (Instr.slice 22 (.slice A n c) none (some (.int .i64 j)) (some (.int .i64 j))).run Try.prog W = .ok (.slice A j.toNat j.toNat) W := by
 obtain ⟨i, hi, _, hsz, _⟩ := info_parts info48
 have hel : Try.prog.elem 22 = 48 := by simp [Program.elem, Try.underlying22]
 have hu : Try.prog.underlying 22 = some (.slice (Try.prog.elem 22)) := by rw [hel]; exact Try.underlying22
 have ha : (A.map fun x => x.add 0) = A := by cases A <;> simp [Addr.add]
 rw [run_slice_hm W 22 A n c hu .i64 .i64 j j h0 (Int.le_refl _) hc, hel]
 simp [sizeOf, typeInfo, hi, sliced, Result.andThen, ha]
theorem cut_low (A : Option Addr) (n c : Nat) (j : Int) (h0 : 0 ≤ j) (hm : j ≤ n) (W : World) :
  (Instr.slice 22 (.slice A n c) (some (.int .i64 j)) none none).run Try.prog W = .ok (.slice (if c = j.toNat then A else A.map (·.add (j.toNat * 4))) (n - j.toNat) (c - j.toNat)) W := by
 obtain ⟨i, hi, _, hsz, _⟩ := info_parts info48
 exact cut_from 22 48 .i64 Try.underlying22 hi 4 hsz A n c j h0 hm W
theorem back_take {y : List S48} {m j : Nat} (hm : m < y.length) (hj : j = y.length - 1 - m) : y.reverse.take (m + 1) = y.reverse.take m ++ [rd_T48 y (j : Int)] := by
 rw [List.take_succ_eq_append_getElem (by rw [List.length_reverse]; exact hm), List.getElem_reverse, rd48_get (by omega)]
 subst hj
 rfl
theorem sizes_append (a b : List S48) : sizes (a ++ b) = sizes a + sizes b := by unfold sizes; rw [List.map_append, sumL_append]
theorem sizes_back (y : List S48) : sizes y.reverse = sizes y := by
 induction y with
 | nil => rfl
 | cons x y ih =>
  rw [List.reverse_cons, sizes_append, ih]
  have e1 : sizes (x :: y) = size x + sizes y := rfl
  have e2 : sizes [x] = size x + 0 := rfl
  omega
theorem size_bd {r : S48} (h : isR r = true) : 0 ≤ size r ∧ size r ≤ 262144 := by
 have b := isR_bd h
 have m := mul_bd (A := 512) (B := 512) (a := r.f2 - r.f0) (b := r.f3 - r.f1) (by omega) (by omega) (by omega) (by omega)
 have p := Int.mul_nonneg (show 0 ≤ r.f2 - r.f0 by omega) (show 0 ≤ r.f3 - r.f1 by omega)
 unfold size; omega
theorem sizes_bd : ∀ {l : List S48}, (∀ r ∈ l, isR r = true) → 0 ≤ sizes l ∧ sizes l ≤ 262144 * (l.length : Int)
 | [], _ => ⟨Int.le_refl _, Int.le_refl _⟩
 | x :: l, h => by
  have ih := sizes_bd (l := l) (fun r hr => h r (List.mem_cons_of_mem _ hr))
  have b := size_bd (h x (List.mem_cons_self ..))
  have e1 : sizes (x :: l) = size x + sizes l := rfl
  rw [List.length_cons]; omega
theorem sums_next {y : List S48} (hR : ∀ r ∈ y, isR r = true) (hy : y.length ≤ 16) {m j : Nat} (hm : m < y.length) (hj : j = y.length - 1 - m) :
  wrap64 (sizes (y.reverse.take m) + wrap64 (wrap64 ((rd_T48 y (j : Int)).f2 - (rd_T48 y (j : Int)).f0) * wrap64 ((rd_T48 y (j : Int)).f3 - (rd_T48 y (j : Int)).f1))) = sizes (y.reverse.take (m + 1)) := by
 rw [back_take hm hj, sizes_append]
 have hx : isR (rd_T48 y (j : Int)) = true := by rw [rd48_get (show j < y.length by omega)]; exact hR _ (List.getElem_mem _)
 generalize rd_T48 y (j : Int) = x at hx
 have b := isR_bd hx
 have s := size_bd hx
 have t := sizes_bd (l := y.reverse.take m) (fun r hr => hR r (List.mem_reverse.1 (List.mem_of_mem_take hr)))
 have tl : (y.reverse.take m).length ≤ 16 := by rw [List.length_take, List.length_reverse]; omega
 have e2 : sizes [x] = size x := by show size x + 0 = size x; omega
 rw [e2, w64 (x := x.f2 - x.f0) (by omega) (by omega), w64 (x := x.f3 - x.f1) (by omega) (by omega)]
 have e3 : (x.f2 - x.f0) * (x.f3 - x.f1) = size x := rfl
 rw [e3, w64 (x := size x) (by omega) (by omega), w64 (by omega) (by omega)]
theorem sums_are {l : List S48} (h1 : l.length ≤ 16) (h2 : ∀ r ∈ l, isR r = true) : areRs l 32 = true := by
 unfold areRs
 rw [decide_eq_true (by omega), Bool.true_and, List.all_eq_true]
 exact h2
structure SumsFacts (y : List S48) (va vb vc vx vs : Int) : Prop where
 b0 : 0 ≤ va ∧ va ≤ 4194304 ∧ 0 ≤ vb ∧ vb ≤ 4194304 ∧ 0 ≤ vc ∧ vc ≤ 4194304
 sub : va ≤ vb + vc
 l1 : vb ≤ va
 l2 : vc ≤ va
 sum : va ≤ vs
 nil : y = [] → va = 0 ∧ vx = 0
 four : y ≠ [] → 4 ≤ vx ∧ Int.tmod vx 2 = 0
 one : y ≠ [] → (va = vs ↔ (deepL y).1 ≤ 1)
 dp : y ≠ [] → 1 ≤ (deepL y).1 ∧ depthL y (deepL y).2.1 (deepL y).2.2 = (deepL y).1
theorem sums_facts {y : List S48} (hR : ∀ r ∈ y, isR r = true) (hy : y.length ≤ 16) {kn : Nat} (hk : kn ≤ y.length) : SumsFacts y (areaL y) (areaL (y.take kn)) (areaL (y.drop kn)) (edgeL y) (sizes y) := by
 have hT : ∀ r ∈ y.take kn, isR r = true := fun r hr => hR r (List.mem_of_mem_take hr)
 have hD : ∀ r ∈ y.drop kn, isR r = true := fun r hr => hR r (List.mem_of_mem_drop hr)
 have tl : (y.take kn).length ≤ 16 := by rw [List.length_take]; omega
 have dl : (y.drop kn).length ≤ 16 := by rw [List.length_drop]; omega
 have nn : ∀ l : List S48, 0 ≤ cells l := fun l => I_nonneg fun x _ _ => I_nonneg fun y _ _ => by unfold one; split <;> omega
 have up : ∀ l : List S48, (∀ r ∈ l, isR r = true) → l.length ≤ 16 → cells l ≤ 4194304 := fun l h1 h2 => by
  have a := cells_le_sizes h1
  have b := (sizes_bd h1).2
  omega
 have dd : ∀ x z, depthL y x z = depthL (y.take kn) x z + depthL (y.drop kn) x z := fun x z => by
  conv => lhs; rw [← List.take_append_drop kn y]
  exact depth_append _ _ x z
 rw [area_cells hR, area_cells hT, area_cells hD]
 refine ⟨⟨nn _, up _ hR hy, nn _, up _ hT tl, nn _, up _ hD dl⟩, ?_, cells_le fun x z => ?_, cells_le fun x z => ?_, cells_le_sizes hR, fun h => ?_, fun h => ⟨edge_four_le hR h, ?_⟩, fun h => ?_, fun h => deep_at y hR h⟩
 ·have := cells_sub (y.take kn) (y.drop kn)
  rw [List.take_append_drop] at this
  exact this
 ·have e := dd x z
  have a := depth_nn (y.take kn) x z
  have b := depth_nn (y.drop kn) x z
  unfold one; split <;> split <;> omega
 ·have e := dd x z
  have a := depth_nn (y.take kn) x z
  have b := depth_nn (y.drop kn) x z
  unfold one; split <;> split <;> omega
 ·subst h
  have a := cells_le_sizes (l := []) (fun r hr => by cases hr)
  have b := nn []
  have c : sizes [] = 0 := rfl
  exact ⟨by omega, rfl⟩
 ·have a := edge_four_le hR h
  rw [edge_even hR] at a ⊢
  rw [Int.tmod_eq_emod_of_nonneg (by omega)]
  omega
 ·rw [cells_eq_sizes hR, deep_one hR h]
set_option maxHeartbeats 2000000 in
set_option maxRecDepth 100000 in
theorem tickinglaw01_CoverSums.calls (k : Nat) (A0 : Option Addr) (c0 : Nat) (l0 : List S48) (a1 : Int) (r : Bool) (w : World) (hr0 : Kd.C k48 w A0 l0.length l0) (hc0 : l0.length ≤ c0) (hT : r = true) (h : tickinglaw01_CoverSums.f k l0 a1 = some r) :
  Calls Try.prog 5 #[.slice A0 l0.length c0, .int .i64 a1] w fun e w' => e = .returned (.bool r) ∧ Below w.heap.size w w' := by
 subst hT
 clear h
 have hlen : l0.length ≤ 9223372036854775807 := by have := hr0.2.1; omega
 obtain ⟨y, hy, hall, hE⟩ := tamed_ev l0 hlen 16 (by decide) 256 (by decide +kernel)
 obtain ⟨kt, hkt⟩ := hE.rounds
 have hR : ∀ r ∈ y, isR r = true := List.all_eq_true.1 hall
 have hu48 := Try.underlying48
 have hu28 := Try.underlying28
 have HT := Aside0.mk (tickinglaw01_tamed.calls kt A0 c0 l0 16 256 y w hr0 hc0 hkt)
 clear hkt hr0 hc0
 go_enter Try.func5, Try.ntmps5
 go_wp2_with (first
  | (go_at_call 28; (with_reducible refine HT.out.mono ?_); rintro e w1 ⟨v, rfl, ho, hb⟩; obtain ⟨Ay, cy, ev⟩ := Kd.R_slice ho; subst ev; have HY := Aside0.mk (Kd.R_reads' ho); have HB1 := Aside0.mk hb; clear ho hb))
 go_loopw [8, 6, 7] (fun iv bv sv wr => ∃ m : Nat, m ≤ y.length ∧ iv = .int .i64 ((y.length : Int) - 1 - (m : Int)) ∧ sv = .int .i64 (sizes (y.reverse.take m)) ∧ Aside0 (k48.R 48 wr w1.heap.size (fun _ => True) bv (y.reverse.take m)) ∧ Aside0 (Below w1.heap.size w1 wr)) (fun iv _ _ _ => (intOf iv + 1).toNat)
 case atStart => exact ⟨0, Nat.zero_le _, by simp, rfl, ⟨Kd.R_nil _ _ _ _ _⟩, ⟨Below.refl _ _⟩⟩
 case round =>
  obtain ⟨m, hm, rfl, rfl, HO, HB⟩ := hrel
  by_cases hlt : m < y.length
  ·obtain ⟨j, hj⟩ : ∃ j : Nat, j = y.length - 1 - m := ⟨_, rfl⟩
   have ej : (y.length : Int) - 1 - (m : Int) = (j : Int) := by omega
   have hjn : j < y.length := by omega
   have g0 : (j : Int) ≥ 0 := by omega
   have g1 : (0 : Int) ≤ (j : Int) := by omega
   have g2 : (j : Int) < (y.length : Int) := by omega
   rw [ej]
   have HJ := Aside0.mk hj
   clear hj ej
   obtain ⟨ad, rfl, h0, h1, h2, h3⟩ := at_T48 (Kd.C_below HY.out.2.2 HB.out) (j : Int) g1 g2
   simp only [Int.toNat_natCast] at h0 h1 h2 h3
   go_wp2_with (first
    | ((with_reducible refine gate_builtin (b := .append) (xs := #[.tmp 34, .tmp 39]) rfl ?_); at_builtin; refine Kd.R_append k48 (w0 := w1) w1.heap.size rfl (.tmp 34) (.tmp 39) 22 48 (.agg #[.int .i64 0, .int .i64 0, .int .i64 0, .int .i64 0]) 32 rfl Try.underlying22 info48 rfl (by decide) (by omega) u6 (y.reverse.take m) (rd_T48 y (j : Int)) [.int .i64 (rd_T48 y (j : Int)).f0, .int .i64 (rd_T48 y (j : Int)).f1, .int .i64 (rd_T48 y (j : Int)).f2, .int .i64 (rd_T48 y (j : Int)).f3] (fun _ => True) (fun _ => False) rfl (by first | (go_simp; done) | (go_simp; rfl)) (k48_mkM _ _ _ _) (fun _ hk => hk.elim) (fun _ _ => trivial) HO.out HB.out HB.out.size (by rw [List.length_take, List.length_reverse]; omega) ?_; intro v1 w2 ho2 hb2 hg2 hat2; have HO2 := Aside0.mk ho2; have HB2 := Aside0.mk hb2; clear ho2 hb2 hg2 hat2 h0 h1 h2 h3; obtain ⟨ad', e', h0, h1, h2, h3⟩ := at_T48 (Kd.C_below HY.out.2.2 HB2.out) (j : Int) g1 g2; cases e'; simp only [Int.toNat_natCast] at h0 h1 h2 h3))
   repeat (go_quiet (fail); try go_wp2)
   case roundEnd =>
    have bt := back_take hlt HJ.out
    have bs := sums_next hR hy hlt HJ.out
    refine ⟨⟨m + 1, hlt, ?_, ?_, ⟨?_⟩, ⟨?_⟩⟩, ?_⟩
    ·have := HJ.out; congr 1; omega
    ·rw [bs]
    ·rw [bt]; exact Kd.R_drewN HO2.out _
    ·exact pw_below_drewN HB2.out _
    ·have := HJ.out; simp only [intOf]; omega
  ·obtain rfl : m = y.length := by omega
   have er : y.reverse.take y.length = y.reverse := by rw [← List.length_reverse, List.take_length]
   rw [er] at HO ⊢
   have em : (y.length : Int) - 1 - (y.length : Int) = -1 := by omega
   rw [em]
   clear em er
   obtain ⟨Ab, cb, eb⟩ := Kd.R_slice HO.out
   subst eb
   have HK := Aside0.mk (Kd.R_reads' HO.out)
   have es := sizes_back y
   rw [es]
   clear es hm hlt
   rw [List.length_reverse] at HK ⊢
   obtain ⟨kk, hkk, k0, k1⟩ := mod_in a1 (n := (y.length : Int) + 1) (by omega) (by omega)
   obtain ⟨kn, rfl⟩ := Int.eq_ofNat_of_zero_le k0
   have hkn : kn ≤ y.length := by omega
   have HM := Aside0.mk (fun W => tickinglaw01_mod.calls a1 ((y.length : Int) + 1) (kn : Int) W hkk)
   clear hkk k0 k1
   have hc1 : ∀ W : World, (Instr.slice 22 (.slice Ay y.length cy) none (some (.int .i64 (kn : Int))) (some (.int .i64 (kn : Int)))).run Try.prog W = .ok (.slice Ay kn kn) W := fun W => cut_cap Ay y.length cy (kn : Int) (by omega) (by have := HY.out.2.1; omega) W
   have hc2 : ∀ W : World, (Instr.slice 22 (.slice Ay y.length cy) (some (.int .i64 (kn : Int))) none none).run Try.prog W = .ok (.slice (if cy = kn then Ay else Ay.map (·.add (kn * 4))) (y.length - kn) (cy - kn)) W := fun W => cut_low Ay y.length cy (kn : Int) (by omega) (by omega) W
   have AR := fun (l : List S48) (h1 : l.length ≤ 16) (h2 : ∀ r ∈ l, isR r = true) => sums_are (l := l) h1 h2
   generalize hAd : (if cy = kn then Ay else Ay.map (·.add (kn * 4))) = Ad at hc2
   have HD := Aside0.mk (fun (W : World) (h : Kd.C k48 W Ay y.length y) => show Kd.C k48 W Ad (y.drop kn).length (y.drop kn) from by rw [← hAd]; exact Kd.C_drop (c := cy) h hkn HY.out.2.1)
   have tl : (y.take kn).length = kn := by rw [List.length_take]; omega
   have dl : (y.drop kn).length = y.length - kn := List.length_drop
   have HA1 := Aside0.mk (fun (W : World) (h : Kd.C k48 W Ay y.length y) => cover_Area.calls Ay cy y (areaL y) 0 W h HY.out.2.1 (by unfold cover_Area.f; rw [if_pos (sums_are hy hR)]))
   have HA2 := Aside0.mk (fun (W : World) (h : Kd.C k48 W Ay y.length y) => show Calls Try.prog 17 #[.slice Ay kn kn] W fun e w' => e = .returned (.tuple #[.int .i64 (areaL (y.take kn)), .int .i64 0]) ∧ Below W.heap.size W w' from by
    have g := cover_Area.calls Ay kn (y.take kn) (areaL (y.take kn)) 0 W (Kd.C_take h hkn) (by omega) (by unfold cover_Area.f; rw [if_pos (sums_are (by omega) (fun r hr => hR r (List.mem_of_mem_take hr)))])
    rw [tl] at g; exact g)
   have HA3 := Aside0.mk (fun (W : World) (h : Kd.C k48 W Ay y.length y) => show Calls Try.prog 17 #[.slice Ad (y.length - kn) (cy - kn)] W fun e w' => e = .returned (.tuple #[.int .i64 (areaL (y.drop kn)), .int .i64 0]) ∧ Below W.heap.size W w' from by
    have g := cover_Area.calls Ad (cy - kn) (y.drop kn) (areaL (y.drop kn)) 0 W (HD.out W h) (by have := HY.out.2.1; omega) (by unfold cover_Area.f; rw [if_pos (sums_are (by omega) (fun r hr => hR r (List.mem_of_mem_drop hr)))])
    rw [dl] at g; exact g)
   have hRb : ∀ r ∈ y.reverse, isR r = true := fun r hr => hR r (List.mem_reverse.1 hr)
   have hyb : y.reverse.length ≤ 16 := by rw [List.length_reverse]; exact hy
   have HA4 := Aside0.mk (fun (W : World) (h : Kd.C k48 W Ab y.reverse.length y.reverse) => show Calls Try.prog 17 #[.slice Ab y.length cb] W fun e w' => e = .returned (.tuple #[.int .i64 (areaL y), .int .i64 0]) ∧ Below W.heap.size W w' from by
    have g := cover_Area.calls Ab cb y.reverse (areaL y.reverse) 0 W h (by have := HK.out.2.1; rw [List.length_reverse]; omega) (by unfold cover_Area.f; rw [if_pos (sums_are hyb hRb)])
    rw [area_back, List.length_reverse] at g; exact g)
   have HE1 := Aside0.mk (fun (W : World) (h : Kd.C k48 W Ay y.length y) => cover_Edge.calls Ay cy y (edgeL y) 0 W h HY.out.2.1 (by unfold cover_Edge.f; rw [if_pos (sums_are hy hR)]))
   have HE2 := Aside0.mk (fun (W : World) (h : Kd.C k48 W Ab y.reverse.length y.reverse) => show Calls Try.prog 18 #[.slice Ab y.length cb] W fun e w' => e = .returned (.tuple #[.int .i64 (edgeL y), .int .i64 0]) ∧ Below W.heap.size W w' from by
    have g := cover_Edge.calls Ab cb y.reverse (edgeL y.reverse) 0 W h (by have := HK.out.2.1; rw [List.length_reverse]; omega) (by unfold cover_Edge.f; rw [if_pos (sums_are hyb hRb)])
    rw [edge_back, List.length_reverse] at g; exact g)
   have F := Aside0.mk (sums_facts hR hy hkn)
   have HKC := Aside0.mk (show Kd.C k48 wr Ab y.reverse.length y.reverse from by rw [List.length_reverse]; exact HK.out.2.2)
   have HDP := Aside0.mk (fun (hn : y ≠ []) (W : World) (h : Kd.C k48 W Ay y.length y) => cover_Deepest.calls Ay cy y (deepL y).1 (deepL y).2.1 (deepL y).2.2 0 W h HY.out.2.1 (by unfold cover_Deepest.f; rw [if_pos (sums_are hy hR), if_neg (by rw [List.isEmpty_iff]; exact hn)]))
   have HDD := Aside0.mk (fun (W : World) (h : Kd.C k48 W Ay y.length y) => tickingref01_Depth.calls 1001 Ay cy y (deepL y).2.1 (deepL y).2.2 (depthL y (deepL y).2.1 (deepL y).2.2) W h HY.out.2.1 (depth_f y _ _ (by omega) (by omega)))
   have HW := Aside0.mk (fun W => tickinglaw01_awake.calls 0 true W rfl)
   have HYC := Aside0.mk (Kd.C_below HY.out.2.2 HB.out)
   have HBB := Aside0.mk (below_then HB1.out HB1.out.size HB.out)
   clear hRb hyb tl dl AR hAd hlen hall hE hR hu28 HO HK HB HT HD
   generalize areaL y = va at *
   generalize areaL (y.take kn) = vb at *
   generalize areaL (y.drop kn) = vc at *
   generalize edgeL y = vx at *
   generalize sizes y = vs at *
   have HDX := Aside0.mk (fun hn : y ≠ [] => (F.out.dp hn).2)
   have HD1 := Aside0.mk (fun hn : y ≠ [] => (F.out.dp hn).1)
   have HD2 := Aside0.mk (fun hn : y ≠ [] => F.out.one hn)
   have HD3 := Aside0.mk (fun hn : y ≠ [] => F.out.four hn)
   have HD4 := Aside0.mk (fun hn : y = [] => F.out.nil hn)
   have q0 := F.out.b0
   have q1 := F.out.sub
   have q2 := F.out.l1
   have q3 := F.out.l2
   have q4 := F.out.sum
   clear F
   generalize depthL y (deepL y).2.1 (deepL y).2.2 = vd at *
   generalize (deepL y).1 = vn at *
   generalize (deepL y).2.1 = vX at *
   generalize (deepL y).2.2 = vY at *
   have p1 : (va > wrap64 (vb + vc)) = False := eq_false (by rw [w64 (by omega) (by omega)]; omega)
   have d1 : decide (va > wrap64 (vb + vc)) = false := decide_eq_false (by rw [w64 (by omega) (by omega)]; omega)
   have p2 : (va < vb) = False := eq_false (by omega)
   have d2 : decide (va < vb) = false := decide_eq_false (by omega)
   have p3 : (va < vc) = False := eq_false (by omega)
   have d3 : decide (va < vc) = false := decide_eq_false (by omega)
   have p4 : (va > vs) = False := eq_false (by omega)
   have d4 : decide (va > vs) = false := decide_eq_false (by omega)
   clear q0 q1 q2 q3 q4
   by_cases hnil : y = []
   ·obtain ⟨e1, e2⟩ := HD4.out hnil
    subst e1 e2
    have z0 : ((y.length : Int) == 0) = true := by rw [hnil]; rfl
    have z1 : ((y.length : Int) = 0) = True := eq_true (by rw [hnil]; rfl)
    clear HDP HDD HDX HD1 HD2 HD3 HD4 hnil
    go_wp2_with (first
     | (go_at_call 29; (with_reducible refine (HM.out _).mono ?_); rintro e w3 ⟨rfl, nd, rfl⟩; have HKC := Aside0.mk (Kd.C_drewN HKC.out nd); have HYC := Aside0.mk (Kd.C_drewN HYC.out nd); have HBB := Aside0.mk (pw_below_drewN HBB.out nd))
     | (go_at_call 17; first
      | ((with_reducible refine (HA1.out _ HYC.out).mono ?_); rintro e w4 ⟨rfl, hb⟩; have n0 := Aside0.mk (Kd.C_below HKC.out hb); have n1 := Aside0.mk (Kd.C_below HYC.out hb); have n2 := Aside0.mk (below_then HBB.out HBB.out.size hb); clear hb HKC HYC HBB HA1; have HKC := n0; have HYC := n1; have HBB := n2; clear n0 n1 n2)
      | ((with_reducible refine (HA2.out _ HYC.out).mono ?_); rintro e w5 ⟨rfl, hb⟩; have n0 := Aside0.mk (Kd.C_below HKC.out hb); have n1 := Aside0.mk (Kd.C_below HYC.out hb); have n2 := Aside0.mk (below_then HBB.out HBB.out.size hb); clear hb HKC HYC HBB HA2; have HKC := n0; have HYC := n1; have HBB := n2; clear n0 n1 n2)
      | ((with_reducible refine (HA3.out _ HYC.out).mono ?_); rintro e w6 ⟨rfl, hb⟩; have n0 := Aside0.mk (Kd.C_below HKC.out hb); have n1 := Aside0.mk (Kd.C_below HYC.out hb); have n2 := Aside0.mk (below_then HBB.out HBB.out.size hb); clear hb HKC HYC HBB HA3; have HKC := n0; have HYC := n1; have HBB := n2; clear n0 n1 n2)
      | ((with_reducible refine (HA4.out _ HKC.out).mono ?_); rintro e w7 ⟨rfl, hb⟩; have n0 := Aside0.mk (Kd.C_below HKC.out hb); have n1 := Aside0.mk (Kd.C_below HYC.out hb); have n2 := Aside0.mk (below_then HBB.out HBB.out.size hb); clear hb HKC HYC HBB HA4; have HKC := n0; have HYC := n1; have HBB := n2; clear n0 n1 n2))
     | (go_at_call 18; first
      | ((with_reducible refine (HE1.out _ HYC.out).mono ?_); rintro e w8 ⟨rfl, hb⟩; have n0 := Aside0.mk (Kd.C_below HKC.out hb); have n1 := Aside0.mk (Kd.C_below HYC.out hb); have n2 := Aside0.mk (below_then HBB.out HBB.out.size hb); clear hb HKC HYC HBB HE1; have HKC := n0; have HYC := n1; have HBB := n2; clear n0 n1 n2)
      | ((with_reducible refine (HE2.out _ HKC.out).mono ?_); rintro e w9 ⟨rfl, hb⟩; have n0 := Aside0.mk (Kd.C_below HKC.out hb); have n1 := Aside0.mk (Kd.C_below HYC.out hb); have n2 := Aside0.mk (below_then HBB.out HBB.out.size hb); clear hb HKC HYC HBB HE2; have HKC := n0; have HYC := n1; have HBB := n2; clear n0 n1 n2))
     | (go_at_call 21; (with_reducible refine (HW.out _).mono ?_); rintro e w10 ⟨rfl, hb⟩; have n2 := Aside0.mk (below_then HBB.out HBB.out.size hb); clear hb HKC HYC HBB; have HBB := n2; clear n2)
     | (go_at_call 19; (with_reducible refine (HDP'.out _ HYC.out).mono ?_); rintro e w11 ⟨rfl, hb⟩; have n0 := Aside0.mk (Kd.C_alloc (Kd.C_below HKC.out hb) (.cells #[.int .i64 vX, .int .i64 vY] 28)); have n1 := Aside0.mk (Kd.C_alloc (Kd.C_below HYC.out hb) (.cells #[.int .i64 vX, .int .i64 vY] 28)); have n2 := Aside0.mk (below_alloc (below_then HBB.out HBB.out.size hb) (.cells #[.int .i64 vX, .int .i64 vY] 28)); clear hb HKC HYC HBB; have HKC := n0; have HYC := n1; have HBB := n2; clear n0 n1 n2)
     | (go_at_call 30; (with_reducible refine (HDD.out _ HYC.out).mono ?_); rintro e w12 ⟨rfl, nd2, rfl⟩; have HKC := Aside0.mk (Kd.C_drewN HKC.out nd2); have HYC := Aside0.mk (Kd.C_drewN HYC.out nd2); have HBB := Aside0.mk (pw_below_drewN HBB.out nd2)))
    go_ret
    exact ⟨rfl, HBB.out⟩
   have HNE := Aside0.mk hnil
   have z0 : ((y.length : Int) == 0) = false := beq_eq_false_iff_ne.2 fun h => hnil (List.length_eq_zero_iff.1 (by omega))
   have z1 : ((y.length : Int) = 0) = False := eq_false fun h => hnil (List.length_eq_zero_iff.1 (by omega))
   obtain rfl := HDX.out hnil
   have o0 := HD1.out hnil
   obtain ⟨o1, o2⟩ := HD3.out hnil
   have o3 := HD2.out hnil
   have HDP' := Aside0.mk (HDP.out hnil)
   have s0 : (vd ≥ 1) = True := eq_true o0
   have s1 : decide (vd ≥ 1) = true := decide_eq_true o0
   have s2 : (vx ≥ 4) = True := eq_true o1
   have s3 : decide (vx ≥ 4) = true := decide_eq_true o1
   have s4 : (Int.tmod vx 2 = 0) = True := eq_true o2
   have s6 : (Int.tmod vx 2 == 0) = true := beq_iff_eq.2 o2
   have s5 : ((va == vs) == decide (vd ≤ 1)) = true := by rw [beq_iff_eq, Bool.eq_iff_iff, beq_iff_eq, decide_eq_true_eq]; exact o3
   clear HDX HD1 HD2 HD3 HD4 HDP hnil o0 o1 o2 o3
   go_wp2_with (first
    | (go_at_call 29; (with_reducible refine (HM.out _).mono ?_); rintro e w3 ⟨rfl, nd, rfl⟩; have HKC := Aside0.mk (Kd.C_drewN HKC.out nd); have HYC := Aside0.mk (Kd.C_drewN HYC.out nd); have HBB := Aside0.mk (pw_below_drewN HBB.out nd))
    | (go_at_call 17; first
     | ((with_reducible refine (HA1.out _ HYC.out).mono ?_); rintro e w4 ⟨rfl, hb⟩; have n0 := Aside0.mk (Kd.C_below HKC.out hb); have n1 := Aside0.mk (Kd.C_below HYC.out hb); have n2 := Aside0.mk (below_then HBB.out HBB.out.size hb); clear hb HKC HYC HBB HA1; have HKC := n0; have HYC := n1; have HBB := n2; clear n0 n1 n2)
     | ((with_reducible refine (HA2.out _ HYC.out).mono ?_); rintro e w5 ⟨rfl, hb⟩; have n0 := Aside0.mk (Kd.C_below HKC.out hb); have n1 := Aside0.mk (Kd.C_below HYC.out hb); have n2 := Aside0.mk (below_then HBB.out HBB.out.size hb); clear hb HKC HYC HBB HA2; have HKC := n0; have HYC := n1; have HBB := n2; clear n0 n1 n2)
     | ((with_reducible refine (HA3.out _ HYC.out).mono ?_); rintro e w6 ⟨rfl, hb⟩; have n0 := Aside0.mk (Kd.C_below HKC.out hb); have n1 := Aside0.mk (Kd.C_below HYC.out hb); have n2 := Aside0.mk (below_then HBB.out HBB.out.size hb); clear hb HKC HYC HBB HA3; have HKC := n0; have HYC := n1; have HBB := n2; clear n0 n1 n2)
     | ((with_reducible refine (HA4.out _ HKC.out).mono ?_); rintro e w7 ⟨rfl, hb⟩; have n0 := Aside0.mk (Kd.C_below HKC.out hb); have n1 := Aside0.mk (Kd.C_below HYC.out hb); have n2 := Aside0.mk (below_then HBB.out HBB.out.size hb); clear hb HKC HYC HBB HA4; have HKC := n0; have HYC := n1; have HBB := n2; clear n0 n1 n2))
    | (go_at_call 18; first
     | ((with_reducible refine (HE1.out _ HYC.out).mono ?_); rintro e w8 ⟨rfl, hb⟩; have n0 := Aside0.mk (Kd.C_below HKC.out hb); have n1 := Aside0.mk (Kd.C_below HYC.out hb); have n2 := Aside0.mk (below_then HBB.out HBB.out.size hb); clear hb HKC HYC HBB HE1; have HKC := n0; have HYC := n1; have HBB := n2; clear n0 n1 n2)
     | ((with_reducible refine (HE2.out _ HKC.out).mono ?_); rintro e w9 ⟨rfl, hb⟩; have n0 := Aside0.mk (Kd.C_below HKC.out hb); have n1 := Aside0.mk (Kd.C_below HYC.out hb); have n2 := Aside0.mk (below_then HBB.out HBB.out.size hb); clear hb HKC HYC HBB HE2; have HKC := n0; have HYC := n1; have HBB := n2; clear n0 n1 n2))
    | (go_at_call 21; (with_reducible refine (HW.out _).mono ?_); rintro e w10 ⟨rfl, hb⟩; have n2 := Aside0.mk (below_then HBB.out HBB.out.size hb); clear hb HKC HYC HBB; have HBB := n2; clear n2)
    | (go_at_call 19; (with_reducible refine (HDP'.out _ HYC.out).mono ?_); rintro e w11 ⟨rfl, hb⟩; have n0 := Aside0.mk (Kd.C_alloc (Kd.C_below HKC.out hb) (.cells #[.int .i64 vX, .int .i64 vY] 28)); have n1 := Aside0.mk (Kd.C_alloc (Kd.C_below HYC.out hb) (.cells #[.int .i64 vX, .int .i64 vY] 28)); have n2 := Aside0.mk (below_alloc (below_then HBB.out HBB.out.size hb) (.cells #[.int .i64 vX, .int .i64 vY] 28)); clear hb HKC HYC HBB; have HKC := n0; have HYC := n1; have HBB := n2; clear n0 n1 n2)
    | (go_at_call 30; (with_reducible refine (HDD.out _ HYC.out).mono ?_); rintro e w12 ⟨rfl, nd2, rfl⟩; have HKC := Aside0.mk (Kd.C_drewN HKC.out nd2); have HYC := Aside0.mk (Kd.C_drewN HYC.out nd2); have HBB := Aside0.mk (pw_below_drewN HBB.out nd2)))
   go_ret
   exact ⟨rfl, HBB.out⟩
end Go.Proofs.Ytplhfbkejngioaa.X
namespace Go.Proofs.Ytplhfbkejngioaa.Pure
open Go.RowKit Go.Proofs.Ytplhfbkejngioaa.X Go.Proofs.Ytplhfbkejngioaa.Open Go.Proofs.YtplhfbkejngioaaW.PrintWords
set_option linter.unusedVariables false
theorem CoverSums (l0 : List S48) (hm0 : l0.length ≤ 9223372036854775807) (hI0 : ∀ x ∈ l0, I64 x.f0 ∧ I64 x.f1 ∧ I64 x.f2 ∧ I64 x.f3) (a1 : Int) (h1 : I64 a1) : ∃ k, tickinglaw01_CoverSums.f k l0 a1 = some true := ⟨0, rfl⟩
end Go.Proofs.Ytplhfbkejngioaa.Pure
