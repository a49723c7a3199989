/- A row of rectangles of the call's own, plain: its cells; a field of the last one written; the row sorted. Texts of this claim's session, put together: OwnR. -/
import Derived.Test.YtplhfbkejngioaaBc4
import Derived.Test.YtplhfbkejngioaaBc0
import Derived.Shelf.GgSortFunc.RowK
import Derived.Sort.OwnSortedInts
import Derived.Test.YtplhfbkejngioaaVWords
namespace Go.Proofs.Ytplhfbkejngioaa.X
open Go.RowKit Go.Sort Go.Proofs.YtplhfbkejngioaaW.PrintWords Go.Proofs.YtplhfbkejngioaaW.PrintLast Go.Proofs.Ytplhfbkejngioaa.S
set_option linter.unusedVariables false
set_option linter.unusedSimpArgs false
instance inh48 : Inhabited S48 := ⟨z48⟩
def enc48 (r : S48) : List Value := [.int .i64 r.f0, .int .i64 r.f1, .int .i64 r.f2, .int .i64 r.f3]
def flat48 (l : List S48) : List Value := l.flatMap enc48
theorem flat_len : ∀ l : List S48, (flat48 l).length = l.length * 4
 | [] => rfl
 | r :: l => by
  have := flat_len l
  unfold flat48 at this ⊢
  rw [List.flatMap_cons, List.length_append, this, List.length_cons]
  show 4 + _ = _
  omega
theorem flat_append (l m : List S48) : flat48 (l ++ m) = flat48 l ++ flat48 m := List.flatMap_append
theorem flat_at : ∀ (l : List S48) (j : Nat) (r : S48), l[j]? = some r → ((flat48 l).drop (j * 4)).take 4 = enc48 r
 | [], j, r, h => by simp at h
 | a :: l, 0, r, h => by
  have : a = r := by simpa using h
  subst this
  rfl
 | a :: l, j + 1, r, h => by
  have h' : l[j]? = some r := by simpa using h
  have e : (flat48 (a :: l)).drop ((j + 1) * 4) = (flat48 l).drop (j * 4) := by
   rw [show (j + 1) * 4 = j * 4 + 4 by omega, Nat.add_comm, ← List.drop_drop]
   rfl
  rw [e]
  exact flat_at l j r h'
theorem flat_of : ∀ (l : List S48) (cs : List Value), cs.length = l.length * 4 → (∀ j r, l[j]? = some r → (cs.drop (j * 4)).take 4 = enc48 r) → cs = flat48 l
 | [], cs, h, _ => by
  have : cs.length = 0 := by simpa using h
  rw [List.length_eq_zero_iff.1 this]; rfl
 | a :: l, cs, h, hh => by
  have h0 := hh 0 a (by simp)
  have ih := flat_of l (cs.drop 4) (by rw [List.length_drop, h, List.length_cons]; omega) (fun j r hj => by
   have := hh (j + 1) r (by simpa using hj)
   rw [List.drop_drop, show 4 + j * 4 = (j + 1) * 4 by omega]
   exact this)
  rw [Nat.zero_mul, List.drop_zero] at h0
  rw [← List.take_append_drop 4 cs, h0, ih]
  rfl
theorem reps48 {w : World} {base : Nat} {ok : Nat → Prop} {l : List S48} {cs : List Value} : Reps (k48.M w base ok) 4 l cs ↔ cs = flat48 l := by
 constructor
 ·intro h
  exact flat_of l cs h.1 (fun j r hj => k48_openM (h.2 j r hj))
 ·rintro rfl
  refine ⟨flat_len l, fun j r hj => ?_⟩
  rw [flat_at l j r hj]
  exact k48_mkM w base ok r
def OwnR (W : World) (base : Nat) (v : Value) (l : List S48) : Prop := W.ownsRow base 48 4 v l.length (flat48 l)
theorem OwnR.ofR {W : World} {base : Nat} {ok : Nat → Prop} {v : Value} {l : List S48} (h : Kd.R k48 48 W base ok v l) : OwnR W base v l := by
 obtain ⟨_, inner, ho, hr⟩ := h
 have := reps48.1 hr
 subst this
 exact ho
theorem OwnR.toR {W : World} {base : Nat} {v : Value} {l : List S48} (h : OwnR W base v l) : Kd.R k48 48 W base (fun _ => True) v l := ⟨fun _ _ => trivial, _, h, reps48.2 rfl⟩
theorem OwnR.last {W : World} {base g cap : Nat} {l : List S48} {q : S48} (h : OwnR W base (.slice (some ⟨g, 0, none⟩) (l.length + 1) cap) (l ++ [q])) (x : Int) :
  OwnR (W.setCell ⟨g, l.length * 4 + 3, none⟩ (.int .i64 x)) base (.slice (some ⟨g, 0, none⟩) (l.length + 1) cap) (l ++ [⟨q.f0, q.f1, q.f2, x⟩]) := by
 rcases h.2 with ⟨e, _⟩ | ⟨g', cap', cur, e, hb, hh, hn, hm, hs, ht⟩
 ·cases e
 ·injection e with e1 e2 e3
  injection e1 with e1
  injection e1 with e1
  subst e1 e3
  have hlen : (l ++ [q]).length = l.length + 1 := by simp
  have hlen' : (l ++ [(⟨q.f0, q.f1, q.f2, x⟩ : S48)]).length = l.length + 1 := by simp
  rw [hlen] at hn ht
  have hcs : l.length * 4 + 4 ≤ cur.size := by rw [hs]; omega
  refine ⟨flat_len _, .inr ⟨g, cap, cur.setIfInBounds (l.length * 4 + 3) (.int .i64 x), by rw [hlen'], hb, blk_put hh _ _ rfl, by rw [hlen']; exact hn, hm, by simpa using hs, ?_⟩⟩
  rw [hlen', Array.toList_setIfInBounds, List.take_set, ht, flat_append, flat_append]
  have e4 : (flat48 l).length = l.length * 4 := flat_len l
  rw [List.set_append_right _ _ (by omega), e4, show l.length * 4 + 3 - l.length * 4 = 3 by omega]
  rfl
theorem OwnR.lastCell {W : World} {base g cap : Nat} {l : List S48} {q : S48} (h : OwnR W base (.slice (some ⟨g, 0, none⟩) (l.length + 1) cap) (l ++ [q])) :
  W.cell? ⟨g, l.length * 4 + 3, none⟩ = some (.int .i64 q.f3) ∧ W.frozen? ⟨g, l.length * 4 + 3, none⟩ = false := by
 rcases h.2 with ⟨e, _⟩ | ⟨g', cap', cur, e, hb, hh, hn, hm, hs, ht⟩
 ·cases e
 ·injection e with e1 e2 e3
  injection e1 with e1
  injection e1 with e1
  subst e1 e3
  have hlen : (l ++ [q]).length = l.length + 1 := by simp
  rw [hlen] at hn ht
  have hcs : l.length * 4 + 4 ≤ cur.size := by rw [hs]; omega
  refine ⟨(blk_cell hh _).trans ?_, blk_frozen hh _⟩
  have h1 : (cur.toList.take ((l.length + 1) * 4))[l.length * 4 + 3]? = (flat48 (l ++ [q]))[l.length * 4 + 3]? := by rw [ht]
  rw [List.getElem?_take_of_lt (by omega), Array.getElem?_toList] at h1
  rw [h1, flat_append, List.getElem?_append_right (by rw [flat_len]; omega), flat_len, show l.length * 4 + 3 - l.length * 4 = 3 by omega]
  rfl
theorem flat_get : ∀ (l : List S48) (t : Nat), t < l.length * 4 → (flat48 l)[t]? = some ((enc48 (l[t / 4]!))[t % 4]!)
 | [], t, h => by simp at h
 | a :: l, t, h => by
  have e : flat48 (a :: l) = enc48 a ++ flat48 l := rfl
  by_cases ht : t < 4
  ·have h0 : t / 4 = 0 := by omega
   have h1 : t % 4 = t := by omega
   rw [e, List.getElem?_append_left (by exact ht), h0, h1]
   have : t = 0 ∨ t = 1 ∨ t = 2 ∨ t = 3 := by omega
   rcases this with rfl | rfl | rfl | rfl <;> rfl
  ·rw [List.length_cons] at h
   have ih := flat_get l (t - 4) (by omega)
   rw [e, List.getElem?_append_right (by show 4 ≤ t; omega)]
   show (flat48 l)[t - 4]? = _
   rw [ih, show (t - 4) / 4 = t / 4 - 1 by omega, show (t - 4) % 4 = t % 4 by omega]
   obtain ⟨u, hu⟩ : ∃ u, t / 4 = u + 1 := ⟨t / 4 - 1, by omega⟩
   rw [hu, Nat.add_sub_cancel]
   simp
theorem flatK_48 (l : List S48) : (flatK enc48 4 l.toArray).toList = flat48 l := by
 apply List.ext_getElem?
 intro t
 by_cases h : t < l.length * 4
 ·rw [flat_get l t h, Array.getElem?_toList]
  have hz : t < (flatK enc48 4 l.toArray).size := by rw [size_flatK]; simpa using h
  rw [Array.getElem?_eq_getElem hz, ← getElem!_pos _ t hz, get_flatK _ _ _ _ (by simpa using h)]
  simp
 ·rw [List.getElem?_eq_none (by rw [Array.length_toList, size_flatK]; simp; omega), List.getElem?_eq_none (by rw [flat_len]; omega)]
theorem OwnR.holds {W : World} {base g cap : Nat} {l : List S48} (h : OwnR W base (.slice (some ⟨g, 0, none⟩) l.length cap) l) : HoldsK enc48 4 W g 0 l.toArray ∧ g < W.heap.size := by
 rcases h.2 with ⟨e, _⟩ | ⟨g', cap', cur, e, hb, hh, hn, hm, hs, ht⟩
 ·cases e
 ·injection e with e1 e2 e3
  injection e1 with e1
  injection e1 with e1
  subst e1 e3
  refine ⟨?_, blk_lt hh⟩
  unfold HoldsK
  intro t ht'
  rw [size_flatK] at ht'
  have ht2 : t < l.length * 4 := by simpa using ht'
  rw [Nat.zero_add]
  refine ⟨(blk_cell hh t).trans ?_, blk_frozen hh t⟩
  have h1 : (cur.toList.take (l.length * 4))[t]? = (flat48 l)[t]? := by rw [ht]
  rw [List.getElem?_take_of_lt ht2, Array.getElem?_toList, flat_get l t ht2] at h1
  rw [h1, get_flatK _ _ _ _ ht']
  simp
theorem OwnR.sorted {W : World} {base g cap m : Nat} {l b : List S48} {os : Array Obj} (h : OwnR W base (.slice (some ⟨g, 0, none⟩) l.length cap) l) (hl : b.length = l.length) :
  OwnR (grow (putRowK enc48 4 (Sort.ahead W m) g 0 b.toArray) os) base (.slice (some ⟨g, 0, none⟩) b.length cap) b ∧ W.grownBy (grow (putRowK enc48 4 (Sort.ahead W m) g 0 b.toArray) os) (some g) := by
 rcases h.2 with ⟨e, _⟩ | ⟨g', cap', cur, e, hb, hh, hn, hm, hs, ht⟩
 ·cases e
 ·injection e with e1 e2 e3
  injection e1 with e1
  injection e1 with e1
  subst e1 e3
  have hg := blk_lt hh
  constructor
  ·refine ⟨flat_len b, .inr ⟨g, cap, putCells id 0 (flatK enc48 4 b.toArray) cur, rfl, hb, ?_, by omega, hm, by simpa [putCells] using hs, ?_⟩⟩
   ·rw [heap_grow_old _ _ (by simpa [putRowK, putRow, mapBlock, Sort.ahead] using hg)]
    simp [putRowK, putRow, mapBlock, Sort.ahead, Array.getElem?_modify, hh, onCells]
   ·rw [← flatK_48 b]
    apply List.ext_getElem?
    intro j
    by_cases hj : j < b.length * 4
    ·have hjc : j < cur.size := by rw [hs]; omega
     have hz : j < (flatK enc48 4 b.toArray).size := by rw [size_flatK]; simpa using hj
     rw [List.getElem?_take_of_lt hj, Array.getElem?_toList, Array.getElem?_toList, Array.getElem?_eq_getElem hz]
     simp only [putCells, Array.getElem?_mapIdx, Array.getElem?_eq_getElem hjc, Option.map_some]
     rw [if_pos (by omega), Nat.sub_zero, getElem!_pos _ j hz]
     rfl
    ·rw [List.getElem?_take_eq_none (by omega), List.getElem?_eq_none (by rw [Array.length_toList, size_flatK]; simp; omega)]
  ·refine ⟨rfl, rfl, rfl, by simp [putRowK, putRow, mapBlock, Sort.ahead, grow], fun k hk hne => ?_⟩
   rw [heap_grow_old _ _ (by simpa [putRowK, putRow, mapBlock, Sort.ahead] using hk)]
   have : g ≠ k := fun e => hne (by rw [e])
   simp [putRowK, putRow, mapBlock, Sort.ahead, Array.getElem?_modify, this]
end Go.Proofs.Ytplhfbkejngioaa.X
