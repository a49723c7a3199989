/- Arguments opened: a list of lists of whole numbers. Texts of this claim's session, put together: OpenL. -/
import Derived.Deep.Matrix
import Derived.Test.YtcploeijeedmdaaBb4
import Derived.Test.YtcploeijeedmdaaVWords
namespace Go.Proofs.Ytcploeijeedmdaa.Open
open Go.RowKit Go.Proofs.YtcploeijeedmdaaW.PrintWords
theorem open_lists {H : Type} {enc : TypeId × Value → H} {P : Program} {w : World} {t e q : TypeId} {fuel : Nat} {a : Option Addr} {len cap : Nat} {x : DataW H × List MemPlace} (ht : P.underlying t = some (.slice e)) (he : P.underlying e = some (.slice q)) (hq : P.underlying q = some (.int .i64))
  (ce : P.cellsOf e = 1) (cq : P.cellsOf q = 1) (h : DataW.trod enc P w 0 (fun _ => true) true fuel t [.slice a len cap] = some x) :
  ∃ l : List (List Int), len = l.length ∧ l.length ≤ cap ∧ Kd.C (Kd.slice 3 (Kd.int .i64)) w a l.length l := by
 rcases Go.Deep.open_int_rows ht he hq ce cq h with ⟨hcs, _⟩ | ⟨a', len', cap', A, L, C, Z, hcs, hb, hl, hm, hx, hr⟩
 ·simp at hcs
  obtain ⟨rfl, rfl, rfl⟩ := hcs
  exact ⟨[], rfl, Nat.le_refl _, rfl, by simp, fun h => absurd h (Nat.lt_irrefl 0)⟩
 ·simp at hcs
  obtain ⟨rfl, rfl, rfl⟩ := hcs
  have hlen : ((List.range len).map fun r => (Z r).take (L r)).length = len := by simp
  refine ⟨(List.range len).map fun r => (Z r).take (L r), hlen.symm, by rw [hlen]; exact hl, rfl, by rw [hlen]; unfold maxLen at hm; omega, fun h0 => ⟨a', rfl, fun j p hj => ?_⟩⟩
  rw [List.getElem?_map] at hj
  obtain ⟨j', hj', rfl⟩ := Option.map_eq_some_iff.1 hj
  obtain ⟨hlt, hj'⟩ := List.getElem?_eq_some_iff.1 hj'
  rw [List.length_range] at hlt
  rw [List.getElem_range] at hj'
  subst hj'
  obtain ⟨h1, h2, h3, h4, h5, h6, h7⟩ := hr j (by omega)
  have hp : ((Z j).take (L j)).length = L j := by rw [List.length_take]; omega
  refine ⟨[.slice (A j) (L j) (C j)], rfl, ⟨A j, C j, by rw [hp], by rw [hp]; exact h2, rfl, by rw [hp]; unfold maxLen at h3; omega, fun hpos => ?_⟩, fun i u hi => ?_⟩
  ·cases hA : A j with
   | none => rw [hp, ] at hpos; have := h6 hA; omega
   | some ad =>
    refine ⟨ad, rfl, fun c y hy => ?_⟩
    obtain ⟨_, hc⟩ := h7 ad hA
    obtain ⟨hcl, hy⟩ := List.getElem?_eq_some_iff.1 hy
    rw [hp] at hcl
    refine ⟨[.int .i64 y], rfl, rfl, fun i u hi => ?_⟩
    cases i with
    | succ i => simp at hi
    | zero =>
     simp at hi
     subst hi
     show w.cell? (ad.add (c * 1 + 0)) = _
     rw [Nat.mul_one, Nat.add_zero, hc c (by omega)]
     rw [List.getElem_take] at hy
     rw [List.getD_eq_getElem?_getD, List.getElem?_eq_getElem (by omega : c < (Z j).length), ← hy]
     rfl
  ·cases i with
   | succ i => simp at hi
   | zero =>
    simp at hi
    subst hi
    show w.cell? (a'.add (j * 1 + 0)) = _
    rw [Nat.mul_one, Nat.add_zero, h1]
end Go.Proofs.Ytcploeijeedmdaa.Open
