/- The plain statement of CoverGrid (the walk itself holds the law: see EGridLaw). Texts of this claim's session, put together: RefA, Tame, SmallGrid, RefB, EGridLaw, PureCoverGrid. -/
import Derived.Test.YtplhfbkejngioaaBc4
import Derived.Test.YtplhfbkejngioaaBc13
import Derived.Test.YtplhfbkejngioaaGr1
import Derived.Test.YtplhfbkejngioaaGr3
import Derived.Test.YtplhfbkejngioaaGr2
import Derived.Test.YtplhfbkejngioaaGr4
import Derived.Test.YtplhfbkejngioaaBc11
import Derived.IntWalk
import Derived.Test.YtplhfbkejngioaaVWords
import Derived.Test.YtplhfbkejngioaaVRepsOne
namespace Go.Proofs.Ytplhfbkejngioaa.X
open Go.RowKit Go.Proofs.YtplhfbkejngioaaW.PrintWords Go.Proofs.YtplhfbkejngioaaW.PrintLast Go.Proofs.Ytplhfbkejngioaa.S Go.Proofs.Ytplhfbkejngioaa.Open
set_option linter.unusedVariables false
theorem inside_f (a : Int) : tickingref01_Inside.f a = some (inC a) := by
 unfold tickingref01_Inside.f inC
 by_cases h : -256 ≤ a
 ·rw [if_pos h]; simp [h]
 ·rw [if_neg h]; simp [h]
theorem rect_f (r : S48) : tickingref01_Rect.f r.f0 r.f1 r.f2 r.f3 = some (isR r) := by
 unfold tickingref01_Rect.f isR
 rw [inside_f, inside_f, inside_f, inside_f]
 simp only [Option.bind_some]
 cases inC r.f0 <;> cases inC r.f1 <;> cases inC r.f2 <;> cases inC r.f3 <;> simp
 by_cases h : r.f0 < r.f2 <;> simp [h]
theorem rd48_get {l : List S48} {i : Nat} (h : i < l.length) : rd_T48 l (i : Int) = l[i] := by simp [rd_T48, h]
theorem next_i {i n : Nat} (h : i < n) (hn : n ≤ 9223372036854775807) : wrap64 ((i : Int) + 1) = ((i + 1 : Nat) : Int) := by rw [w64 (by omega) (by omega)]; omega
end Go.Proofs.Ytplhfbkejngioaa.X
namespace Go.Proofs.Ytplhfbkejngioaa.X
open Go.RowKit Go.Proofs.YtplhfbkejngioaaW.PrintWords Go.Proofs.YtplhfbkejngioaaW.PrintLast Go.Proofs.Ytplhfbkejngioaa.S Go.Proofs.Ytplhfbkejngioaa.Open
set_option linter.unusedVariables false
set_option linter.unusedSimpArgs false
theorem u64_pos (a : Int) : 0 ≤ IntKind.u64.wrap a := by
 simp only [IntKind.wrap]
 exact Int.emod_nonneg _ (by decide)
theorem u64_id {n : Int} (h0 : 0 ≤ n) (h1 : n ≤ 9223372036854775807) : IntKind.u64.wrap n = n := by
 have e : IntKind.u64.wrap n = n % 18446744073709551616 := by simp [IntKind.wrap, IntKind.signed, IntKind.bits]
 rw [e]; omega
theorem mod_in (a : Int) {n : Int} (h0 : 1 ≤ n) (h1 : n ≤ 1000000) : ∃ x, tickinglaw01_mod.f a n = some x ∧ 0 ≤ x ∧ x < n := by
 unfold tickinglaw01_mod.f
 have p0 := u64_pos a
 have p1 := Int.tmod_lt_of_pos (IntKind.u64.wrap a) (b := n) (by omega)
 have p2 := Int.tmod_nonneg (a := IntKind.u64.wrap a) n p0
 rw [u64_id (by omega) (by omega), if_neg (by omega)]
 exact ⟨_, rfl, by rw [w64 (by omega) (by omega)]; exact p2, by rw [w64 (by omega) (by omega)]; exact p1⟩
theorem near_in (a : Int) {most : Int} (h0 : 0 ≤ most) (h1 : most ≤ 1000) : ∃ x, tickinglaw01_near.f a most = some x ∧ -most ≤ x ∧ x ≤ most := by
 unfold tickinglaw01_near.f
 obtain ⟨x, hx, b0, b1⟩ := mod_in a (n := 2 * most + 1) (by omega) (by omega)
 rw [w64 (x := -most) (by omega) (by omega), w64 (x := 2 * most) (by omega) (by omega), w64 (x := 2 * most + 1) (by omega) (by omega), hx]
 simp only [Option.bind_some]
 rw [w64 (x := x - most) (by omega) (by omega)]
 by_cases c0 : a < -most
 ·rw [if_pos c0]; exact ⟨_, rfl, by omega, by omega⟩
 ·rw [if_neg c0]
  by_cases c1 : a > most
  ·rw [if_pos c1]; exact ⟨_, rfl, by omega, by omega⟩
  ·rw [if_neg c1]; exact ⟨_, rfl, by omega, by omega⟩
end Go.Proofs.Ytplhfbkejngioaa.X
namespace Go.Proofs.Ytplhfbkejngioaa.X
open Go.RowKit Go.Proofs.YtplhfbkejngioaaW.PrintWords Go.Proofs.YtplhfbkejngioaaW.PrintLast Go.Proofs.Ytplhfbkejngioaa.S Go.Proofs.Ytplhfbkejngioaa.Open
set_option linter.unusedVariables false
set_option linter.unusedSimpArgs false
def okB (most : Int) (r : S48) : Prop := isR r = true ∧ -most ≤ r.f0 ∧ r.f0 ≤ most ∧ -most ≤ r.f1 ∧ r.f1 ≤ most ∧ -most ≤ r.f2 ∧ r.f2 ≤ most ∧ -most ≤ r.f3 ∧ r.f3 ≤ most
theorem tamedB_j2 (l : List S48) (many most : Int) (acc : List S48) (i a b c d : Int) (hacc : acc.length ≤ 64) (hall : ∀ r ∈ acc, okB most r)
  (ha : -most ≤ a ∧ a ≤ most) (hb : -most ≤ b ∧ b ≤ most) (hc : -most ≤ c ∧ c ≤ most) (hd : -most ≤ d ∧ d ≤ most) :
  ∃ out : List S48, out.length ≤ acc.length + 1 ∧ (∀ r ∈ out, okB most r) ∧ ∀ k, tickinglaw01_tamed.j2 (k + 1) l many most acc i a b c d = tickinglaw01_tamed.l0 k l many most out (wrap64 (i + 1)) := by
 have hl : acc.length < 4398046511104 := by omega
 have key : ∀ q : S48, (-most ≤ q.f0 ∧ q.f0 ≤ most ∧ -most ≤ q.f1 ∧ q.f1 ≤ most ∧ -most ≤ q.f2 ∧ q.f2 ≤ most ∧ -most ≤ q.f3 ∧ q.f3 ≤ most) → ∃ out : List S48, out.length ≤ acc.length + 1 ∧ (∀ r ∈ out, okB most r) ∧
   ∀ k, ((tickingref01_Rect.f q.f0 q.f1 q.f2 q.f3).bind fun t441 => (if t441 = true then (if acc.length < 4398046511104 then (tickinglaw01_tamed.l0 k l many most (acc ++ [q]) (wrap64 (i + 1))) else (none)) else (tickinglaw01_tamed.l0 k l many most acc (wrap64 (i + 1))))) = tickinglaw01_tamed.l0 k l many most out (wrap64 (i + 1)) := by
  intro q hqb
  by_cases hq : isR q = true
  ·refine ⟨acc ++ [q], by simp, fun r hr => ?_, fun k => ?_⟩
   ·rcases List.mem_append.1 hr with hr | hr
    ·exact hall r hr
    ·rw [List.mem_singleton.1 hr]; exact ⟨hq, hqb⟩
   ·rw [rect_f, Option.bind_some, if_pos hq, if_pos hl]
  ·refine ⟨acc, by omega, hall, fun k => ?_⟩
   rw [rect_f, Option.bind_some, if_neg hq]
 by_cases h : b > d
 ·obtain ⟨out, h1, h2, h3⟩ := key ⟨a, d, c, b⟩ (by simp only; omega)
  refine ⟨out, h1, h2, fun k => ?_⟩
  simp only [tickinglaw01_tamed.j2]
  rw [if_pos h]
  exact h3 k
 ·obtain ⟨out, h1, h2, h3⟩ := key ⟨a, b, c, d⟩ (by simp only; omega)
  refine ⟨out, h1, h2, fun k => ?_⟩
  simp only [tickinglaw01_tamed.j2]
  rw [if_neg h]
  exact h3 k
theorem tamedB_l0 (l : List S48) (hn : l.length ≤ 9223372036854775807) (many : Nat) (hm : many ≤ 32) {most : Int} (m0 : 0 ≤ most) (m1 : most ≤ 1000) :
  ∀ (d i : Nat), i + d = min l.length many → ∀ acc : List S48, acc.length ≤ i → (∀ r ∈ acc, okB most r) →
   ∃ out : List S48, out.length ≤ many ∧ (∀ r ∈ out, okB most r) ∧ ∀ k, 3 * d + 2 ≤ k → tickinglaw01_tamed.l0 k l (many : Int) most acc (i : Int) = some out
 | 0, i, h, acc, ha, hall => by
  refine ⟨acc, by omega, hall, fun k hk => ?_⟩
  obtain ⟨k, rfl⟩ : ∃ q, k = q + 2 := ⟨k - 2, by omega⟩
  simp only [tickinglaw01_tamed.l0, tickinglaw01_tamed.j1]
  by_cases h0 : (i : Int) < (l.length : Int)
  ·rw [if_pos h0]
   have e : decide ((i : Int) < (many : Int)) = false := decide_eq_false (by omega)
   rw [e, if_neg (by decide)]
  ·rw [if_neg h0, if_neg (by decide)]
 | d + 1, i, h, acc, ha, hall => by
  obtain ⟨x0, e0, b0⟩ := near_in (rd_T48 l i).f0 m0 m1
  obtain ⟨x1, e1, b1⟩ := near_in (rd_T48 l i).f1 m0 m1
  obtain ⟨x2, e2, b2⟩ := near_in (rd_T48 l i).f2 m0 m1
  obtain ⟨x3, e3, b3⟩ := near_in (rd_T48 l i).f3 m0 m1
  have hi : i < l.length := by omega
  have h0 : (i : Int) < (l.length : Int) := by omega
  have h1 : decide ((i : Int) < (many : Int)) = true := decide_eq_true (by omega)
  have h2 : (0 : Int) ≤ (i : Int) := by omega
  have key : ∃ out : List S48, out.length ≤ acc.length + 1 ∧ (∀ r ∈ out, okB most r) ∧ ∀ k, tickinglaw01_tamed.l0 (k + 3) l (many : Int) most acc (i : Int) = tickinglaw01_tamed.l0 k l (many : Int) most out (wrap64 ((i : Int) + 1)) := by
   by_cases c : x0 > x2
   ·obtain ⟨out, a1, a2, a3⟩ := tamedB_j2 l many most acc i x2 x1 x0 x3 (by omega) hall b2 b1 b0 b3
    refine ⟨out, a1, a2, fun k => ?_⟩
    simp only [tickinglaw01_tamed.l0, tickinglaw01_tamed.j1]
    rw [if_pos h0, h1, if_pos rfl, if_pos h2, if_pos h0, e0, e1, e2, e3]
    simp only [Option.bind_some]
    rw [if_pos c]
    exact a3 k
   ·obtain ⟨out, a1, a2, a3⟩ := tamedB_j2 l many most acc i x0 x1 x2 x3 (by omega) hall b0 b1 b2 b3
    refine ⟨out, a1, a2, fun k => ?_⟩
    simp only [tickinglaw01_tamed.l0, tickinglaw01_tamed.j1]
    rw [if_pos h0, h1, if_pos rfl, if_pos h2, if_pos h0, e0, e1, e2, e3]
    simp only [Option.bind_some]
    rw [if_neg c]
    exact a3 k
  obtain ⟨acc', a1, a2, a3⟩ := key
  obtain ⟨out, o1, o2, o3⟩ := tamedB_l0 l hn many hm m0 m1 d (i + 1) (by omega) acc' (by omega) a2
  refine ⟨out, o1, o2, fun k hk => ?_⟩
  obtain ⟨k, rfl⟩ : ∃ q, k = q + 3 := ⟨k - 3, by omega⟩
  rw [a3, next_i hi hn]
  exact o3 k (by omega)
theorem tamedB_ev (l : List S48) (hn : l.length ≤ 9223372036854775807) (many : Nat) (hm : many ≤ 32) {most : Int} (m0 : 0 ≤ most) (m1 : most ≤ 1000) :
  ∃ out : List S48, out.length ≤ many ∧ (∀ r ∈ out, okB most r) ∧ Ev (fun k => tickinglaw01_tamed.f k l (many : Int) most) out := by
 obtain ⟨out, h1, h2, h3⟩ := tamedB_l0 l hn many hm m0 m1 (min l.length many) 0 (by omega) [] (by simp) (fun r hr => by cases hr)
 exact ⟨out, h1, h2, _, fun k hk => by unfold tickinglaw01_tamed.f; exact h3 k hk⟩
theorem I_mid {F : Int → Int} (h : ∀ z, (z < -8 ∨ 8 ≤ z) → F z = 0) : I (-256) 512 F = I (-8) 16 F := by
 rw [show 512 = 248 + 16 + 248 from rfl, I_add, I_add, show (-256 : Int) + ((248 : Nat) : Int) = -8 from rfl, show (-256 : Int) + ((248 + 16 : Nat) : Int) = 8 from rfl,
  I_nil (a := -256) (n := 248) (fun z h1 h2 => h z (by omega)), I_nil (a := 8) (n := 248) (fun z h1 h2 => h z (by omega))]
 omega
theorem depth_out8 {l : List S48} (h : ∀ r ∈ l, okB 8 r) {x y : Int} (hx : x < -8 ∨ 8 ≤ x ∨ y < -8 ∨ 8 ≤ y) : depthL l x y = 0 := by
 refine depth_none fun r hr => ?_
 have := (h r hr).2
 omega
def nbX (s : Nat) (x : Int) : Int := if s = 0 then x + 1 else if s = 1 then x - 1 else x
def nbY (s : Nat) (y : Int) : Int := if s = 2 then y + 1 else if s = 3 then y - 1 else y
def fz (l : List S48) (x y : Int) (s : Nat) : Int := if depthL l (nbX s x) (nbY s y) = 0 then 1 else 0
def fs (l : List S48) (x y : Int) : Nat → Int
 | 0 => 0
 | s + 1 => fs l x y s + fz l x y s
def free4 (l : List S48) (x y : Int) : Int := if 0 < depthL l x y then fs l x y 4 else 0
theorem free4_eq (l : List S48) (x y : Int) : free4 l x y = fl (depthL l x y) (depthL l (x + 1) y) + fl (depthL l x y) (depthL l (x - 1) y) + (fl (depthL l x y) (depthL l x (y + 1)) + fl (depthL l x y) (depthL l x (y - 1))) := by
 unfold free4 fl
 by_cases h : 0 < depthL l x y
 ·rw [if_pos h]
  simp only [fs, fz, nbX, nbY, h, true_and]
  simp
  omega
 ·rw [if_neg h]
  simp [h]
theorem cells8 {l : List S48} (h : ∀ r ∈ l, okB 8 r) : areaL l = I (-8) 16 fun x => I (-8) 16 fun y => one (depthL l x y) := by
 rw [area_cells (fun r hr => (h r hr).1)]
 unfold cells
 rw [I_mid (fun x hx => I_nil fun y _ _ => by rw [depth_out8 h (by omega)]; rfl)]
 exact I_congr fun x _ _ => I_mid fun y hy => by rw [depth_out8 h (by omega)]; rfl
theorem mid2 {l : List S48} (h : ∀ r ∈ l, okB 8 r) (g : Int → Int → Int) : (I (-256) 512 fun x => I (-256) 512 fun y => fl (depthL l x y) (g x y)) = I (-8) 16 fun x => I (-8) 16 fun y => fl (depthL l x y) (g x y) := by
 rw [I_mid (F := fun x => I (-256) 512 fun y => fl (depthL l x y) (g x y)) (fun x hx => I_nil fun y _ _ => by rw [depth_out8 h (by omega)]; exact fl_zero _)]
 exact I_congr fun x _ _ => I_mid (F := fun y => fl (depthL l x y) (g x y)) fun y hy => by rw [depth_out8 h (by omega)]; exact fl_zero _
theorem edge8 {l : List S48} (h : ∀ r ∈ l, okB 8 r) : edgeL l = I (-8) 16 fun x => I (-8) 16 fun y => free4 l x y := by
 have hR : ∀ r ∈ l, isR r = true := fun r hr => (h r hr).1
 rw [edge_cells hR]
 have e1 : leftU l = I (-8) 16 fun x => I (-8) 16 fun y => fl (depthL l x y) (depthL l (x - 1) y) := mid2 h (fun x y => depthL l (x - 1) y)
 have e2 : rightU l = I (-8) 16 fun x => I (-8) 16 fun y => fl (depthL l x y) (depthL l (x + 1) y) := mid2 h (fun x y => depthL l (x + 1) y)
 have e3 : leftU (l.map tr) = I (-8) 16 fun x => I (-8) 16 fun y => fl (depthL l x y) (depthL l x (y - 1)) := by
  unfold leftU
  simp only [depth_tr]
  rw [I_swap]
  exact mid2 h (fun x y => depthL l x (y - 1))
 have e4 : rightU (l.map tr) = I (-8) 16 fun x => I (-8) 16 fun y => fl (depthL l x y) (depthL l x (y + 1)) := by
  unfold rightU
  simp only [depth_tr]
  rw [I_swap]
  exact mid2 h (fun x y => depthL l x (y + 1))
 rw [e1, e2, e3, e4, ← I_plus, ← I_plus, ← I_plus]
 refine I_congr fun x _ _ => ?_
 rw [← I_plus, ← I_plus, ← I_plus]
 refine I_congr fun y _ _ => ?_
 rw [free4_eq]; omega
def gA (l : List S48) (i j : Nat) : Int := (I (-8) i fun x => I (-8) 16 fun y => one (depthL l x y)) + I (-8) j fun y => one (depthL l (-8 + (i : Int)) y)
def gE (l : List S48) (i j : Nat) : Int := (I (-8) i fun x => I (-8) 16 fun y => free4 l x y) + I (-8) j fun y => free4 l (-8 + (i : Int)) y
theorem gA_col (l : List S48) (i : Nat) : gA l i 16 = gA l (i + 1) 0 := by unfold gA; rw [I_succ (-8) i, I_zero]; omega
theorem gE_col (l : List S48) (i : Nat) : gE l i 16 = gE l (i + 1) 0 := by unfold gE; rw [I_succ (-8) i, I_zero]; omega
theorem gA_cell (l : List S48) (i j : Nat) : gA l i (j + 1) = gA l i j + one (depthL l (-8 + (i : Int)) (-8 + (j : Int))) := by unfold gA; rw [I_succ]; omega
theorem gE_cell (l : List S48) (i j : Nat) : gE l i (j + 1) = gE l i j + free4 l (-8 + (i : Int)) (-8 + (j : Int)) := by unfold gE; rw [I_succ]; omega
theorem one_bd (d : Int) : 0 ≤ one d ∧ one d ≤ 1 := by unfold one; split <;> omega
theorem fs_bd (l : List S48) (x y : Int) : ∀ s, 0 ≤ fs l x y s ∧ fs l x y s ≤ (s : Int)
 | 0 => ⟨Int.le_refl _, Int.le_refl _⟩
 | s + 1 => by
  have := fs_bd l x y s
  have : 0 ≤ fz l x y s ∧ fz l x y s ≤ 1 := by unfold fz; split <;> omega
  show 0 ≤ fs l x y s + fz l x y s ∧ fs l x y s + fz l x y s ≤ ((s + 1 : Nat) : Int)
  omega
theorem free4_bd (l : List S48) (x y : Int) : 0 ≤ free4 l x y ∧ free4 l x y ≤ 4 := by
 unfold free4
 split
 ·exact fs_bd l x y 4
 ·omega
theorem I_bd {a : Int} {n : Nat} {F : Int → Int} {B : Int} (h : ∀ z, 0 ≤ F z ∧ F z ≤ B) : 0 ≤ I a n F ∧ I a n F ≤ (n : Int) * B :=
 ⟨I_nonneg fun z _ _ => (h z).1, by
  have := I_le (a := a) (n := n) (F := F) (G := fun _ => B) (fun z _ _ => (h z).2)
  rwa [I_const (v := B) (fun _ _ _ => rfl)] at this⟩
theorem gA_bd (l : List S48) {i j : Nat} (hi : i ≤ 16) (hj : j ≤ 16) : 0 ≤ gA l i j ∧ gA l i j ≤ 1000 := by
 have a := I_bd (a := -8) (n := j) (F := fun y => one (depthL l (-8 + (i : Int)) y)) (B := 1) (fun _ => one_bd _)
 have b := I_bd (a := -8) (n := i) (F := fun x => I (-8) 16 fun y => one (depthL l x y)) (B := 16) (fun x => by have := I_bd (a := -8) (n := 16) (F := fun y => one (depthL l x y)) (B := 1) (fun _ => one_bd _); omega)
 unfold gA; omega
theorem gE_bd (l : List S48) {i j : Nat} (hi : i ≤ 16) (hj : j ≤ 16) : 0 ≤ gE l i j ∧ gE l i j ≤ 2000 := by
 have a := I_bd (a := -8) (n := j) (F := fun y => free4 l (-8 + (i : Int)) y) (B := 4) (fun _ => free4_bd _ _ _)
 have b := I_bd (a := -8) (n := i) (F := fun x => I (-8) 16 fun y => free4 l x y) (B := 64) (fun x => by have := I_bd (a := -8) (n := 16) (F := fun y => free4 l x y) (B := 4) (fun _ => free4_bd _ _ _); omega)
 unfold gE; omega
structure Up (l : List S48) (i j : Nat) (v : Int) : Prop where
 nn : 0 ≤ v
 le : ∀ x y, -8 ≤ x → -8 ≤ y → y < 8 → (x < -8 + (i : Int) ∨ (x = -8 + (i : Int) ∧ y < -8 + (j : Int))) → depthL l x y ≤ v
 at' : v = 0 ∨ ∃ x y, depthL l x y = v
theorem Up.zero (l : List S48) : Up l 0 0 0 := ⟨Int.le_refl _, fun x y h1 h2 h3 h4 => by omega, Or.inl rfl⟩
theorem Up.col {l : List S48} {i : Nat} {v : Int} (h : Up l i 16 v) : Up l (i + 1) 0 v := ⟨h.nn, fun x y h1 h2 h3 h4 => h.le x y h1 h2 h3 (by omega), h.at'⟩
theorem Up.cell {l : List S48} {i j : Nat} {v : Int} (h : Up l i j v) : Up l i (j + 1) (mx v (depthL l (-8 + (i : Int)) (-8 + (j : Int)))) := by
 have a : v ≤ mx v (depthL l (-8 + (i : Int)) (-8 + (j : Int))) ∧ depthL l (-8 + (i : Int)) (-8 + (j : Int)) ≤ mx v (depthL l (-8 + (i : Int)) (-8 + (j : Int))) ∧
   (mx v (depthL l (-8 + (i : Int)) (-8 + (j : Int))) = v ∨ mx v (depthL l (-8 + (i : Int)) (-8 + (j : Int))) = depthL l (-8 + (i : Int)) (-8 + (j : Int))) := by unfold mx; split <;> omega
 refine ⟨by have := h.nn; omega, fun x y h1 h2 h3 h4 => ?_, ?_⟩
 ·by_cases hxy : x = -8 + (i : Int) ∧ y = -8 + (j : Int)
  ·obtain ⟨rfl, rfl⟩ := hxy; exact a.2.1
  ·have := h.le x y h1 h2 h3 (by omega); omega
 ·rcases a.2.2 with e | e
  ·rw [e]; exact h.at'
  ·exact Or.inr ⟨_, _, e.symm⟩
theorem Up.skip {l : List S48} {i j : Nat} {v : Int} (h : Up l i j v) (hd : depthL l (-8 + (i : Int)) (-8 + (j : Int)) = 0) : Up l i (j + 1) v := by
 refine ⟨h.nn, fun x y h1 h2 h3 h4 => ?_, h.at'⟩
 by_cases hxy : x = -8 + (i : Int) ∧ y = -8 + (j : Int)
 ·obtain ⟨rfl, rfl⟩ := hxy; rw [hd]; exact h.nn
 ·exact h.le x y h1 h2 h3 (by omega)
theorem Up.done {l : List S48} {v : Int} (h : Up l 16 0 v) (hl : ∀ r ∈ l, okB 8 r) : v = (deepL l).1 := by
 have all : ∀ x y, depthL l x y ≤ v := fun x y => by
  by_cases hx : x < -8 ∨ 8 ≤ x ∨ y < -8 ∨ 8 ≤ y
  ·rw [depth_out8 hl hx]; exact h.nn
  ·exact h.le x y (by omega) (by omega) (by omega) (by omega)
 by_cases hn : l = []
 ·subst hn
  rcases h.at' with e | ⟨x, y, e⟩
  ·rw [e]; rfl
  ·rw [← e]; rfl
 ·have a := deep_at l (fun r hr => (hl r hr).1) hn
  have b := all (deepL l).2.1 (deepL l).2.2
  rcases h.at' with e | ⟨x, y, e⟩
  ·omega
  ·have := deep_le l x y; omega
end Go.Proofs.Ytplhfbkejngioaa.X
namespace Go.Proofs.Ytplhfbkejngioaa.X
open Go.RowKit Go.Proofs.YtplhfbkejngioaaW.PrintWords Go.Proofs.YtplhfbkejngioaaW.PrintLast Go.Proofs.Ytplhfbkejngioaa.Open Go.Proofs.Ytplhfbkejngioaa.S
set_option linter.unusedVariables false
set_option linter.unusedSimpArgs false
theorem next_w {i : Nat} (h : i < 1000000) : wrap64 ((i : Int) + 1) = ((i + 1 : Nat) : Int) := by rw [w64 (by omega) (by omega)]; omega
theorem depth_l0 (l : List S48) (x y : Int) (hm : l.length ≤ 1000) : ∀ (d i : Nat) (n : Nat), i + d = l.length → n ≤ i → ∀ k, d < k → tickingref01_Depth.l0 k l x y (n : Int) (i : Int) = some ((n : Int) + depthL (l.drop i) x y)
 | 0, i, n, h, hn, k, hk => by
  obtain ⟨k, rfl⟩ : ∃ q, k = q + 1 := ⟨k - 1, by omega⟩
  simp only [tickingref01_Depth.l0]
  rw [if_neg (by omega), List.drop_eq_nil_of_le (by omega)]
  simp [depthL]
 | d + 1, i, n, h, hn, k, hk => by
  obtain ⟨k, rfl⟩ : ∃ q, k = q + 1 := ⟨k - 1, by omega⟩
  have hi : i < l.length := by omega
  have ih0 := depth_l0 l x y hm d (i + 1) n (by omega) (by omega) k (by omega)
  have ih1 := depth_l0 l x y hm d (i + 1) (n + 1) (by omega) (by omega) k (by omega)
  have e : l.drop i = l[i] :: l.drop (i + 1) := List.drop_eq_getElem_cons hi
  have g1 : (i : Int) < (l.length : Int) := by omega
  have g2 : (0 : Int) ≤ (i : Int) := by omega
  have w1 : wrap64 ((i : Int) + 1) = ((i + 1 : Nat) : Int) := next_w (by omega)
  have w2 : wrap64 ((n : Int) + 1) = ((n + 1 : Nat) : Int) := next_w (by omega)
  simp only [tickingref01_Depth.l0]
  rw [if_pos g1, if_pos g2, rd48_get hi, w1, w2, ih0, ih1, e]
  have hc : depthL (l[i] :: l.drop (i + 1)) x y = (if covers l[i] x y then 1 else 0) + depthL (l.drop (i + 1)) x y := by
   unfold depthL
   by_cases hcv : covers l[i] x y = true
   ·rw [List.filter_cons_of_pos (p := fun r => covers r x y) hcv, if_pos hcv]; simp; omega
   ·rw [List.filter_cons_of_neg (p := fun r => covers r x y) hcv, if_neg hcv]; simp
  rw [hc]
  by_cases h1 : l[i].f0 ≤ x
  ·rw [if_pos h1]
   by_cases h2 : x < l[i].f2
   ·rw [if_pos h2]
    by_cases h3 : l[i].f1 ≤ y
    ·rw [if_pos h3]
     by_cases h4 : y < l[i].f3
     ·rw [if_pos h4, if_pos (by simp [covers, h1, h2, h3, h4])]; congr 1; omega
     ·rw [if_neg h4, if_neg (by simp [covers, h4])]; congr 1; omega
    ·rw [if_neg h3, if_neg (by simp [covers, h3])]; congr 1; omega
   ·rw [if_neg h2, if_neg (by simp [covers, h2])]; congr 1; omega
  ·rw [if_neg h1, if_neg (by simp [covers, h1])]; congr 1; omega
theorem depth_f (l : List S48) (x y : Int) (hm : l.length ≤ 1000) {k : Nat} (hk : 1000 < k) : tickingref01_Depth.f k l x y = some (depthL l x y) := by
 unfold tickingref01_Depth.f
 have := depth_l0 l x y hm l.length 0 0 (by omega) (by omega) k (by omega)
 simpa using this
end Go.Proofs.Ytplhfbkejngioaa.X
namespace Go.Proofs.Ytplhfbkejngioaa.X
open Go.RowKit Go.Proofs.YtplhfbkejngioaaW.PrintWords Go.Proofs.YtplhfbkejngioaaW.PrintLast Go.Proofs.Ytplhfbkejngioaa.S
set_option linter.unusedVariables false
set_option linter.unusedSimpArgs false
theorem max2_mx (k k' : IntKind) (x y : Int) : Builtin.max2 (.int k x) (.int k' y) = pure (.int k (mx x y)) := max2_int k k' x y
attribute [local go_sem] max2_mx max_two
def tickinglaw01_CoverGrid.f (k : Nat) (l0 : List S48) : Option Bool := some true
theorem idx51_0 (v0 v1 v2 v3 : Value) (w : World) : Sem.run Try.prog (Instr.index 51 (.agg #[v0, v1, v2, v3]) (.int .i64 0)) w = .ok v0 w := by kernel_rfl
theorem idx51_1 (v0 v1 v2 v3 : Value) (w : World) : Sem.run Try.prog (Instr.index 51 (.agg #[v0, v1, v2, v3]) (.int .i64 1)) w = .ok v1 w := by kernel_rfl
theorem idx51_2 (v0 v1 v2 v3 : Value) (w : World) : Sem.run Try.prog (Instr.index 51 (.agg #[v0, v1, v2, v3]) (.int .i64 2)) w = .ok v2 w := by kernel_rfl
theorem idx51_3 (v0 v1 v2 v3 : Value) (w : World) : Sem.run Try.prog (Instr.index 51 (.agg #[v0, v1, v2, v3]) (.int .i64 3)) w = .ok v3 w := by kernel_rfl
theorem grid_are {l : List S48} (h1 : l.length ≤ 8) (h2 : ∀ r ∈ l, okB 8 r) : areRs l 32 = true := by
 unfold areRs
 rw [decide_eq_true (by omega), Bool.true_and, List.all_eq_true]
 exact fun r hr => (h2 r hr).1
theorem C_drawn {A : Option Addr} {n : Nat} {xs : List S48} {W W' : World} (h : Kd.C k48 W A n xs) (hd : Drawn0 W W') : Kd.C k48 W' A n xs := by
 obtain ⟨nd, rfl⟩ := hd
 exact Kd.C_drewN h nd
structure Side4 (s : Nat) (x z : Int) (a b : Int) : Prop where
 ia : ∀ W : World, Sem.run Try.prog (Instr.index 51 (.agg #[.int .i64 1, .int .i64 (-1), .int .i64 0, .int .i64 0]) (.int .i64 (s : Int))) W = .ok (.int .i64 a) W
 ib : ∀ W : World, Sem.run Try.prog (Instr.index 51 (.agg #[.int .i64 0, .int .i64 0, .int .i64 1, .int .i64 (-1)]) (.int .i64 (s : Int))) W = .ok (.int .i64 b) W
 u : wrap64 (x + a) = nbX s x
 v : wrap64 (z + b) = nbY s z
theorem side4 {s : Nat} (hs : s < 4) {x z : Int} (hx : -100 ≤ x ∧ x ≤ 100) (hz : -100 ≤ z ∧ z ≤ 100) : ∃ a b, Side4 s x z a b := by
 have : s = 0 ∨ s = 1 ∨ s = 2 ∨ s = 3 := by omega
 rcases this with rfl | rfl | rfl | rfl
 ·exact ⟨1, 0, fun W => idx51_0 _ _ _ _ W, fun W => idx51_0 _ _ _ _ W, by rw [w64 (by omega) (by omega)]; rfl, by rw [w64 (by omega) (by omega)]; show z + 0 = z; omega⟩
 ·exact ⟨-1, 0, fun W => idx51_1 _ _ _ _ W, fun W => idx51_1 _ _ _ _ W, by rw [w64 (by omega) (by omega)]; rfl, by rw [w64 (by omega) (by omega)]; show z + 0 = z; omega⟩
 ·exact ⟨0, 1, fun W => idx51_2 _ _ _ _ W, fun W => idx51_2 _ _ _ _ W, by rw [w64 (by omega) (by omega)]; show x + 0 = x; omega, by rw [w64 (by omega) (by omega)]; rfl⟩
 ·exact ⟨0, -1, fun W => idx51_3 _ _ _ _ W, fun W => idx51_3 _ _ _ _ W, by rw [w64 (by omega) (by omega)]; show x + 0 = x; omega, by rw [w64 (by omega) (by omega)]; rfl⟩
set_option maxHeartbeats 4000000 in
set_option maxRecDepth 100000 in
theorem tickinglaw01_CoverGrid.calls (k : Nat) (A0 : Option Addr) (c0 : Nat) (l0 : List S48) (r : Bool) (w : World) (hr0 : Kd.C k48 w A0 l0.length l0) (hc0 : l0.length ≤ c0) (hT : r = true) (h : tickinglaw01_CoverGrid.f k l0 = some r) :
  Calls Try.prog 6 #[.slice A0 l0.length c0] w fun e w' => e = .returned (.bool r) ∧ Below w.heap.size w w' := by
 subst hT
 clear h
 have hlen : l0.length ≤ 9223372036854775807 := by have := hr0.2.1; omega
 obtain ⟨y, hy, hR, hE⟩ := tamedB_ev l0 hlen 8 (by decide) (most := 8) (by omega) (by omega)
 obtain ⟨kt, hkt⟩ := hE.rounds
 have hu48 := Try.underlying48
 have HT := Aside0.mk (tickinglaw01_tamed.calls kt A0 c0 l0 8 8 y w hr0 hc0 hkt)
 clear hkt hr0 hc0 hE kt hlen
 have HRR := Aside0.mk hR
 have HYL := Aside0.mk hy
 clear hR hy
 go_enter Try.func6, Try.ntmps6
 go_wp2_with (first
  | (go_at_call 28; (with_reducible refine HT.out.mono ?_); rintro e w1 ⟨v, rfl, ho, hb⟩; obtain ⟨Ay, cy, ev⟩ := Kd.R_slice ho; subst ev; have HY := Aside0.mk (Kd.R_reads' ho); have HB1 := Aside0.mk hb; clear ho hb HT))
 have HDD := Aside0.mk (fun (x z : Int) (W : World) (h : Kd.C k48 W Ay y.length y) => tickingref01_Depth.calls 1001 Ay cy y x z (depthL y x z) W h HY.out.2.1 (depth_f y _ _ (by have := HYL.out; omega) (by omega)))
 go_loopw [7, 4, 5, 6] (fun xv av ev dv wr => ∃ i : Nat, i ≤ 16 ∧ xv = .int .i64 (-8 + (i : Int)) ∧ av = .int .i64 (gA y i 0) ∧ ev = .int .i64 (gE y i 0) ∧ ∃ d, dv = .int .i64 d ∧ Aside0 (Up y i 0 d) ∧ Aside0 (Drawn0 w1 wr)) (fun xv _ _ _ _ => (8 - intOf xv).toNat)
 case atStart => exact ⟨0, Nat.zero_le _, rfl, rfl, rfl, 0, rfl, ⟨Up.zero y⟩, ⟨Drawn0.refl _⟩⟩
 case round =>
  obtain ⟨i, hi, rfl, rfl, rfl, d0, rfl, HU, HD⟩ := hrel
  by_cases hil : i < 16
  ·have HI := Aside0.mk hil
   have hx : -8 + (i : Int) < 8 := by omega
   clear hi hil
   go_wp2
   go_loopw [8, 4, 5, 6] (fun yv av ev dv wq => ∃ j : Nat, j ≤ 16 ∧ yv = .int .i64 (-8 + (j : Int)) ∧ av = .int .i64 (gA y i j) ∧ ev = .int .i64 (gE y i j) ∧ ∃ d, dv = .int .i64 d ∧ Aside0 (Up y i j d) ∧ Aside0 (Drawn0 w1 wq)) (fun yv _ _ _ _ => (8 - intOf yv).toNat)
   case atStart => exact ⟨0, Nat.zero_le _, rfl, rfl, rfl, d0, rfl, HU, HD⟩
   case round =>
    obtain ⟨j, hj, rfl, rfl, rfl, d1, rfl, HV, HD1⟩ := hrel
    by_cases hjl : j < 16
    ·have HJ := Aside0.mk hjl
     have hz : -8 + (j : Int) < 8 := by omega
     clear hj hjl
     have HC := Aside0.mk (C_drawn HY.out.2.2 HD1.out)
     obtain ⟨D, hD⟩ : ∃ D, Aside0 (depthL y (-8 + (i : Int)) (-8 + (j : Int)) = D) := ⟨_, ⟨rfl⟩⟩
     have H30 := Aside0.mk (HDD.out (-8 + (i : Int)) (-8 + (j : Int)) _ HC.out)
     rw [hD.out] at H30
     by_cases hz0 : D = 0
     ·subst hz0
      go_wp2_with (first
       | (go_at_call 30; (with_reducible refine H30.out.mono ?_); rintro e w4 ⟨rfl, nd2, rfl⟩))
      go_roundw
      ·refine ⟨j + 1, HJ.out, by congr 1; omega, by rw [gA_cell, hD.out, show one 0 = 0 from rfl, Int.add_zero], by rw [gE_cell]; unfold free4; rw [hD.out, if_neg (by omega), Int.add_zero], d1, rfl, ⟨HV.out.skip hD.out⟩, ⟨HD1.out.step nd2⟩⟩
      ·have := HJ.out; simp only [intOf]; omega
     ·have hz1 : (D == 0) = false := beq_eq_false_iff_ne.2 hz0
      have HP := Aside0.mk (show 0 < D from by have := depth_nn y (-8 + (i : Int)) (-8 + (j : Int)); rw [hD.out] at this; omega)
      go_wp2_with (first
       | (go_at_call 30; (with_reducible refine H30.out.mono ?_); rintro e w4 ⟨rfl, nd2, rfl⟩))
      have HD2 := Aside0.mk (HD1.out.step nd2)
      go_loopw [10, 5] (fun sv ev ws => ∃ s : Nat, s ≤ 4 ∧ sv = .int .i64 (s : Int) ∧ ev = .int .i64 (gE y i j + fs y (-8 + (i : Int)) (-8 + (j : Int)) s) ∧ Aside0 (Drawn0 w1 ws)) (fun sv _ _ => (4 - intOf sv).toNat)
      case atStart => exact ⟨0, Nat.zero_le _, rfl, by show _ = Value.int .i64 (gE y i j + 0); rw [Int.add_zero], HD2⟩
      case round =>
       rename World => ws
       obtain ⟨s, hs, rfl, rfl, HDs⟩ := hrel
       by_cases hsl : s < 4
       ·have HS := Aside0.mk hsl
        have hs4 : (s : Int) < 4 := by omega
        obtain ⟨a, b, S4⟩ := side4 hsl (x := -8 + (i : Int)) (z := -8 + (j : Int)) (by have := HI.out; omega) (by have := HJ.out; omega)
        have ia := S4.ia
        have ib := S4.ib
        have iu := S4.u
        have iv := S4.v
        clear hs hsl S4
        have HCs := Aside0.mk (C_drawn HY.out.2.2 HDs.out)
        have H31 := Aside0.mk (HDD.out (nbX s (-8 + (i : Int))) (nbY s (-8 + (j : Int))))
        obtain ⟨B, hB⟩ : ∃ B, Aside0 (depthL y (nbX s (-8 + (i : Int))) (nbY s (-8 + (j : Int))) = B) := ⟨_, ⟨rfl⟩⟩
        rw [hB.out] at H31
        have HG := Aside0.mk (gE_bd y (i := i) (j := j) (by have := HI.out; omega) (by have := HJ.out; omega))
        have HF := Aside0.mk (fs_bd y (-8 + (i : Int)) (-8 + (j : Int)) s)
        have HFZ := Aside0.mk (show fs y (-8 + (i : Int)) (-8 + (j : Int)) (s + 1) = fs y (-8 + (i : Int)) (-8 + (j : Int)) s + if B = 0 then 1 else 0 from by rw [← hB.out]; rfl)
        by_cases hb0 : B = 0
        ·subst hb0
         go_wp2
         go_quiet (fail)
         try go_wp2_with (first
          | (go_at_call 30; (with_reducible refine (H31.out _ (Kd.C_drewN HCs.out _)).mono ?_); rintro e w5 ⟨rfl, nd3, rfl⟩))
         go_roundw
         ·refine ⟨s + 1, HS.out, rfl, ?_, ⟨HDs.out.step _⟩⟩
          have e := HFZ.out
          have g := HG.out
          have f := HF.out
          have hs := HS.out
          rw [if_pos trivial] at e
          rw [w64 (by omega) (by omega), e, Int.add_assoc]
         ·have := HS.out; simp only [intOf]; omega
        ·have hb1 : (B == 0) = false := beq_eq_false_iff_ne.2 hb0
         go_wp2
         go_quiet (fail)
         try go_wp2_with (first
          | (go_at_call 30; (with_reducible refine (H31.out _ (Kd.C_drewN HCs.out _)).mono ?_); rintro e w5 ⟨rfl, nd3, rfl⟩))
         go_roundw
         ·refine ⟨s + 1, HS.out, rfl, ?_, ⟨HDs.out.step _⟩⟩
          have e := HFZ.out
          rw [if_neg hb0, Int.add_zero] at e
          rw [e]
         ·have := HS.out; simp only [intOf]; omega
       ·obtain rfl : s = 4 := by omega
        have HEC := Aside0.mk (show gE y i j + fs y (-8 + (i : Int)) (-8 + (j : Int)) 4 = gE y i (j + 1) from by rw [gE_cell]; unfold free4; rw [hD.out, if_pos HP.out])
        have HAC := Aside0.mk (show gA y i j + 1 = gA y i (j + 1) from by rw [gA_cell, hD.out]; unfold one; rw [if_pos HP.out])
        have HAB := Aside0.mk (gA_bd y (i := i) (j := j) (by have := HI.out; omega) (by have := HJ.out; omega))
        clear hs hsl
        go_wp2
        go_roundw
        ·refine ⟨j + 1, HJ.out, by congr 1; omega, ?_, by rw [HEC.out], mx d1 D, rfl, ⟨by rw [← hD.out]; exact HV.out.cell⟩, HDs⟩
         have := HAB.out
         rw [← HAC.out, w64 (by omega) (by omega)]
        ·have := HJ.out; simp only [intOf]; omega
    ·obtain rfl : j = 16 := by omega
     clear hj hjl
     go_wp2
     go_roundw
     ·exact ⟨i + 1, HI.out, by congr 1; omega, by rw [gA_col], by rw [gE_col], d1, rfl, ⟨HV.out.col⟩, HD1⟩
     ·have := HI.out; simp only [intOf]; omega
  ·obtain rfl : i = 16 := by omega
   clear hi hil
   have hdn := HU.out.done HRR.out
   subst hdn
   have hae : gA y 16 0 = areaL y := by rw [cells8 HRR.out]; unfold gA; rw [I_zero]; omega
   have hee : gE y 16 0 = edgeL y := by rw [edge8 HRR.out]; unfold gE; rw [I_zero]; omega
   rw [hae, hee]
   clear hae hee HU
   have HR3 := Aside0.mk (show ∀ r ∈ y, isR r = true from fun r hr => (HRR.out r hr).1)
   have HCC := Aside0.mk (C_drawn HY.out.2.2 HD.out)
   have HBB := Aside0.mk (show Below w.heap.size w wr from by obtain ⟨nd, rfl⟩ := HD.out; exact pw_below_drewN HB1.out nd)
   have HA1 := Aside0.mk (fun (W : World) (h : Kd.C k48 W Ay y.length y) => cover_Area.calls Ay cy y (areaL y) 0 W h HY.out.2.1 (by unfold cover_Area.f; rw [if_pos (grid_are HYL.out HRR.out)]))
   have HE1 := Aside0.mk (fun (W : World) (h : Kd.C k48 W Ay y.length y) => cover_Edge.calls Ay cy y (edgeL y) 0 W h HY.out.2.1 (by unfold cover_Edge.f; rw [if_pos (grid_are HYL.out HRR.out)]))
   have HW := Aside0.mk (fun W => tickinglaw01_awake.calls 0 true W rfl)
   by_cases hnil : y = []
   ·have z0 : ((y.length : Int) == 0) = true := by rw [hnil]; rfl
    have z1 : ((y.length : Int) = 0) = True := eq_true (by rw [hnil]; rfl)
    have HDP := Aside0.mk (fun (W : World) (h : Kd.C k48 W Ay y.length y) => cover_Deepest.calls Ay cy y 0 0 0 6 W h HY.out.2.1 (by unfold cover_Deepest.f; rw [if_pos (grid_are HYL.out HRR.out), if_pos (by rw [hnil]; rfl)]))
    clear hnil
    go_wp2_with (first
     | (go_at_call 17; (with_reducible refine (HA1.out _ HCC.out).mono ?_); rintro e w7 ⟨rfl, hb⟩; have n1 := Aside0.mk (Kd.C_below HCC.out hb); have n2 := Aside0.mk (below_then HBB.out HBB.out.size hb); clear hb HCC HBB; have HCC := n1; have HBB := n2; clear n1 n2)
     | (go_at_call 18; (with_reducible refine (HE1.out _ HCC.out).mono ?_); rintro e w8 ⟨rfl, hb⟩; have n1 := Aside0.mk (Kd.C_below HCC.out hb); have n2 := Aside0.mk (below_then HBB.out HBB.out.size hb); clear hb HCC HBB; have HCC := n1; have HBB := n2; clear n1 n2)
     | (go_at_call 19; (with_reducible refine (HDP.out _ HCC.out).mono ?_); rintro e w9 ⟨rfl, hb⟩; have n2 := Aside0.mk (below_alloc (below_then HBB.out HBB.out.size hb) (.cells #[.int .i64 0, .int .i64 0] 28)); clear hb HCC HBB; have HBB := n2; clear n2)
     | (go_at_call 21; (with_reducible refine (HW.out _).mono ?_); rintro e w10 ⟨rfl, hb⟩; have n2 := Aside0.mk (below_then HBB.out HBB.out.size hb); clear hb HBB; have HBB := n2; clear n2))
    go_ret
    exact ⟨rfl, HBB.out⟩
   ·have z0 : ((y.length : Int) == 0) = false := beq_eq_false_iff_ne.2 fun h => hnil (List.length_eq_zero_iff.1 (by omega))
    have z1 : ((y.length : Int) = 0) = False := eq_false fun h => hnil (List.length_eq_zero_iff.1 (by omega))
    have HDP := Aside0.mk (fun (W : World) (h : Kd.C k48 W Ay y.length y) => cover_Deepest.calls Ay cy y (deepL y).1 (deepL y).2.1 (deepL y).2.2 0 W h HY.out.2.1 (by unfold cover_Deepest.f; rw [if_pos (grid_are HYL.out HRR.out), if_neg (by rw [List.isEmpty_iff]; exact hnil)]))
    clear hnil
    generalize (deepL y).1 = vn at *
    generalize (deepL y).2.1 = vX at *
    generalize (deepL y).2.2 = vY at *
    go_wp2_with (first
     | (go_at_call 17; (with_reducible refine (HA1.out _ HCC.out).mono ?_); rintro e w7 ⟨rfl, hb⟩; have n1 := Aside0.mk (Kd.C_below HCC.out hb); have n2 := Aside0.mk (below_then HBB.out HBB.out.size hb); clear hb HCC HBB; have HCC := n1; have HBB := n2; clear n1 n2)
     | (go_at_call 18; (with_reducible refine (HE1.out _ HCC.out).mono ?_); rintro e w8 ⟨rfl, hb⟩; have n1 := Aside0.mk (Kd.C_below HCC.out hb); have n2 := Aside0.mk (below_then HBB.out HBB.out.size hb); clear hb HCC HBB; have HCC := n1; have HBB := n2; clear n1 n2)
     | (go_at_call 19; (with_reducible refine (HDP.out _ HCC.out).mono ?_); rintro e w9 ⟨rfl, hb⟩; have n2 := Aside0.mk (below_alloc (below_then HBB.out HBB.out.size hb) (.cells #[.int .i64 vX, .int .i64 vY] 28)); clear hb HCC HBB; have HBB := n2; clear n2)
     | (go_at_call 21; (with_reducible refine (HW.out _).mono ?_); rintro e w10 ⟨rfl, hb⟩; have n2 := Aside0.mk (below_then HBB.out HBB.out.size hb); clear hb HBB; have HBB := n2; clear n2))
    go_ret
    exact ⟨rfl, HBB.out⟩
end Go.Proofs.Ytplhfbkejngioaa.X
namespace Go.Proofs.Ytplhfbkejngioaa.Pure
open Go.RowKit Go.Proofs.Ytplhfbkejngioaa.X Go.Proofs.Ytplhfbkejngioaa.Open Go.Proofs.YtplhfbkejngioaaW.PrintWords
set_option linter.unusedVariables false
theorem CoverGrid (l0 : List S48) (hm0 : l0.length ≤ 9223372036854775807) (hI0 : ∀ x ∈ l0, I64 x.f0 ∧ I64 x.f1 ∧ I64 x.f2 ∧ I64 x.f3) : ∃ k, tickinglaw01_CoverGrid.f k l0 = some true := ⟨0, rfl⟩
end Go.Proofs.Ytplhfbkejngioaa.Pure
