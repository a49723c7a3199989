/- Arguments opened: slices of structs of whole numbers, structs of whole numbers by value. Texts of this claim's session, put together: Open. -/
import Derived.Deep.Slices
import Derived.Deep.Fields
import Derived.ChangeSame
import Derived.Lib.SmallJoins
import Derived.ProofKit
import Derived.Test.YtplhfbkejngioaaBc4
import Derived.Test.YtplhfbkejngioaaVWords
import Derived.Test.YtplhfbkejngioaaVLast
namespace Go.Proofs.Ytplhfbkejngioaa.Open
open Go.ChangeShapes Go.WideShapes Go.Deep Go.Joins Go.RowKit Go.Proofs.YtplhfbkejngioaaW.PrintWords
set_option linter.unusedVariables false
section
variable {H : Type} {enc : TypeId × Value → H} {P : Program} {w : World} {base : Nat} {spare : Nat → Bool} {held : Bool}
theorem open_slice_fields {t e : TypeId} {fs : Array Field} {fuel : Nat} {cs : List Value} {x : DataW H × List MemPlace} (ht : P.underlying t = some (.slice e)) (he : P.underlying e = some (.struct fs))
  (hone : oneCellFields P fs = true) (hC : P.cellsOf e = fs.size) (h : DataW.trod enc P w base spare held fuel t cs = some x) :
  (cs = [.slice none 0 0] ∧ x = (.nil, [])) ∨
  ∃ (a : Addr) (len cap m : Nat) (D : Nat → DataW H) (Pl : Nat → List MemPlace), cs = [.slice (some a) len cap] ∧ base ≤ a.block ∧ len ≤ cap ∧ cap ≤ maxLen ∧ m = (if spare a.block then cap else len) ∧
   x = (.slice ((List.range len).map D) ((List.range (m - len)).map fun j => D (len + j)), MemPlace.row a (m * fs.size) ++ (List.range m).flatMap Pl) ∧
   ∀ i, i < m → ∃ (ys : List (DataW H × List MemPlace)) (n : Nat), D i = .agg (ys.map (·.1)) ∧ Pl i = ys.flatMap (·.2) ∧ ys.length = fs.size ∧
    ∀ (j : Nat) (f : Field), fs[j]? = some f → ∃ (v : Value) (y : DataW H × List MemPlace), w.cell? (a.add (i * fs.size + j)) = some v ∧ ys[j]? = some y ∧ DataW.trod enc P w base spare held n f.type [v] = some y := by
 rcases open_slice ht h with h0 | ⟨a, len, cap, m, n, D, Pl, hcs, hb, hl, hm, hmm, hx, hi⟩
 ·exact .inl h0
 ·refine .inr ⟨a, len, cap, m, D, Pl, hcs, hb, hl, hm, hmm, by rw [hC] at hx; exact hx, fun i him => ?_⟩
  obtain ⟨cs', hc, ht'⟩ := hi i him
  rw [hC] at hc
  obtain ⟨ys, n', hn', hy, hlen, hyl, hf⟩ := DataW.trod_struct he ht'
  obtain ⟨_, hcl, hat⟩ := World.cells?_some hc
  simp only [Prod.mk.injEq] at hy
  refine ⟨ys, n', hy.1, hy.2, hyl, fun j f hj => ?_⟩
  obtain ⟨ho, hk⟩ := hone_of hone j f hj
  have hjl : j < fs.size := (Array.getElem?_eq_some_iff.1 hj).1
  have hcell := hat j hjl
  have hv : cs'[j]? = some (cs'[j]'(by omega)) := List.getElem?_eq_getElem (by omega)
  have h1 := hf j f hj
  rw [ho, hk] at h1
  have hone' : (cs'.drop j).take 1 = [cs'[j]'(by omega)] := by
   rw [List.drop_eq_getElem_cons (by omega)]
   rfl
  rw [hone'] at h1
  have hys : ys[j]? = some (ys[j]'(by omega)) := List.getElem?_eq_getElem (by omega)
  refine ⟨_, _, ?_, hys, h1.trans hys⟩
  rw [← Go.Deep.add_add, hcell, hv]
end
section
variable {H : Type} {enc : TypeId × Value → H} {P : Program} {w : World} {base : Nat} {spare : Nat → Bool} {held : Bool}
theorem open_recs {t e : TypeId} {fs : Array Field} {A : Option Addr} {len cap : Nat} {d : DataW H} {p : List MemPlace} (ht : P.underlying t = some (.slice e)) (he : P.underlying e = some (.struct fs)) (hone : oneCellFields P fs = true) (hC : P.cellsOf e = fs.size)
  (hint : ∀ f ∈ fs.toList, P.underlying f.type = some (.int .i64)) (h : DataW.Trod enc P w base spare held t (.slice A len cap) d p) :
  len ≤ cap ∧ len ≤ maxLen ∧ ∃ Z : Nat → Nat → Int, (∀ i j, (Lit.int .i64 (Z i j)).wf = true) ∧ (0 < len → ∃ a, A = some a ∧ ∀ i, i < len → ∀ j, j < fs.size → w.cell? (a.add (i * fs.size + j)) = some (.int .i64 (Z i j))) := by
 obtain ⟨fuel, hf⟩ := h
 rcases open_slice_fields ht he hone hC hf with ⟨hcs, _⟩ | ⟨a, l, c, m, D, Pl, hcs, hb, hl, hm, hmm, hx, hi⟩
 ·simp [Value.cells] at hcs
  obtain ⟨rfl, rfl, rfl⟩ := hcs
  exact ⟨Nat.le_refl _, Nat.zero_le _, fun _ _ => 0, fun _ _ => (by decide : (Lit.int .i64 0).wf = true), fun h => absurd h (Nat.lt_irrefl _)⟩
 ·simp [Value.cells] at hcs
  obtain ⟨rfl, rfl, rfl⟩ := hcs
  have hlm : len ≤ m := by rw [hmm]; split <;> omega
  refine ⟨hl, Nat.le_trans hl hm, ?_⟩
  have key : ∀ i j, ∃ z : Int, (Lit.int .i64 z).wf = true ∧ (i < len → j < fs.size → w.cell? (a.add (i * fs.size + j)) = some (.int .i64 z)) := by
   intro i j
   by_cases hij : i < len ∧ j < fs.size
   ·obtain ⟨ys, n, _, _, _, hg⟩ := hi i (by omega)
    obtain ⟨v, y, hc, _, ht'⟩ := hg j (fs[j]'hij.2) (by simp [hij.2])
    have hu := hint (fs[j]'hij.2) (by simp)
    obtain ⟨z, hz, _, hw⟩ := DataW.trod_int hu ht'
    obtain rfl : v = .int .i64 z := by simpa using hz
    exact ⟨z, hw, fun _ _ => hc⟩
   ·exact ⟨0, by decide, fun h1 h2 => absurd ⟨h1, h2⟩ hij⟩
  exact ⟨fun i j => Classical.choose (key i j), fun i j => (Classical.choose_spec (key i j)).1, fun _ => ⟨a, rfl, fun i hi j hj => (Classical.choose_spec (key i j)).2 hi hj⟩⟩
end
def I64 (x : Int) : Prop := -9223372036854775808 ≤ x ∧ x ≤ 9223372036854775807
theorem i64_of {x : Int} (h : (Lit.int .i64 x).wf = true) : I64 x := by
 simp [Lit.wf, IntKind.min, IntKind.max, IntKind.signed, IntKind.bits] at h
 unfold I64
 omega
open Go.Proofs.Ytplhfbkejngioaa.X
theorem slice28 {w : World} {A : Option Addr} {len : Nat} {Z : Nat → Nat → Int} (hl : len ≤ maxLen) (hw : ∀ i j, (Lit.int .i64 (Z i j)).wf = true) (h : 0 < len → ∃ a, A = some a ∧ ∀ i, i < len → ∀ j, j < 2 → w.cell? (a.add (i * 2 + j)) = some (.int .i64 (Z i j))) :
  ∃ l : List S28, len = l.length ∧ Kd.C k28 w A l.length l ∧ l.length ≤ 9223372036854775807 ∧ ∀ x ∈ l, I64 x.f0 ∧ I64 x.f1 := by
 have hm : len ≤ 9223372036854775807 := by unfold maxLen at hl; omega
 refine ⟨(List.range len).map fun i => ⟨Z i 0, Z i 1⟩, by simp, ⟨rfl, by simp; omega, fun hn => ?_⟩, by simp; omega, ?_⟩
 ·obtain ⟨a, e, hc⟩ := h (by simpa using hn)
  refine ⟨a, e, fun i r hi => ?_⟩
  have hin : i < len := by have := (List.getElem?_eq_some_iff.1 hi).1; simpa using this
  have hr : r = ⟨Z i 0, Z i 1⟩ := by simp [hin] at hi; exact hi.symm
  subst hr
  refine ⟨[.int .i64 (Z i 0), .int .i64 (Z i 1)], rfl, k28_mk w _, fun q u hu => ?_⟩
  have hq : q < 2 := by have := (List.getElem?_eq_some_iff.1 hu).1; simpa using this
  have hcc := hc i hin q hq
  refine Eq.trans ?_ (hcc.trans ?_)
  ·rfl
  ·obtain rfl | rfl : q = 0 ∨ q = 1 := by omega
   all_goals (simp at hu; rw [hu])
 ·intro x hx
  obtain ⟨i, _, rfl⟩ := List.mem_map.1 hx
  exact ⟨i64_of (hw i 0), i64_of (hw i 1)⟩
theorem slice48 {w : World} {A : Option Addr} {len : Nat} {Z : Nat → Nat → Int} (hl : len ≤ maxLen) (hw : ∀ i j, (Lit.int .i64 (Z i j)).wf = true) (h : 0 < len → ∃ a, A = some a ∧ ∀ i, i < len → ∀ j, j < 4 → w.cell? (a.add (i * 4 + j)) = some (.int .i64 (Z i j))) :
  ∃ l : List S48, len = l.length ∧ Kd.C k48 w A l.length l ∧ l.length ≤ 9223372036854775807 ∧ ∀ x ∈ l, I64 x.f0 ∧ I64 x.f1 ∧ I64 x.f2 ∧ I64 x.f3 := by
 have hm : len ≤ 9223372036854775807 := by unfold maxLen at hl; omega
 refine ⟨(List.range len).map fun i => ⟨Z i 0, Z i 1, Z i 2, Z i 3⟩, by simp, ⟨rfl, by simp; omega, fun hn => ?_⟩, by simp; omega, ?_⟩
 ·obtain ⟨a, e, hc⟩ := h (by simpa using hn)
  refine ⟨a, e, fun i r hi => ?_⟩
  have hin : i < len := by have := (List.getElem?_eq_some_iff.1 hi).1; simpa using this
  have hr : r = ⟨Z i 0, Z i 1, Z i 2, Z i 3⟩ := by simp [hin] at hi; exact hi.symm
  subst hr
  refine ⟨[.int .i64 (Z i 0), .int .i64 (Z i 1), .int .i64 (Z i 2), .int .i64 (Z i 3)], rfl, k48_mk w _, fun q u hu => ?_⟩
  have hq : q < 4 := by have := (List.getElem?_eq_some_iff.1 hu).1; simpa using this
  have hcc := hc i hin q hq
  refine Eq.trans ?_ (hcc.trans ?_)
  ·rfl
  ·obtain rfl | rfl | rfl | rfl : q = 0 ∨ q = 1 ∨ q = 2 ∨ q = 3 := by omega
   all_goals (simp at hu; rw [hu])
 ·intro x hx
  obtain ⟨i, _, rfl⟩ := List.mem_map.1 hx
  exact ⟨i64_of (hw i 0), i64_of (hw i 1), i64_of (hw i 2), i64_of (hw i 3)⟩
end Go.Proofs.Ytplhfbkejngioaa.Open
