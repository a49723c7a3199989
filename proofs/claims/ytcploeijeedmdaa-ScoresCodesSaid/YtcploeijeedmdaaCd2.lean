/- The contract of the reference's Made. Texts of this claim's session, put together: SPair, SJoin, STree, SEdge, SMade. -/
import Derived.Test.YtcploeijeedmdaaCd0
import Derived.Test.YtcploeijeedmdaaCd1
import Derived.Test.YtcploeijeedmdaaBb7
import Derived.Test.YtcploeijeedmdaaVWords
import Derived.Test.YtcploeijeedmdaaVLast
import Derived.Test.YtcploeijeedmdaaVTab
import Derived.Test.YtcploeijeedmdaaVRepsOne
namespace Go.Proofs.Ytcploeijeedmdaa.X
open Go.RowKit Go.Shelf Go.Sort Go.Proofs.YtcploeijeedmdaaW.PrintWords Go.Proofs.YtcploeijeedmdaaW.PrintLast Go.Proofs.Ytcploeijeedmdaa.S
set_option linter.unusedVariables false
set_option linter.unusedSimpArgs false
def cfP (p q : Int × Int) : Int := if Lib.compareInt p.1 q.1 = 0 then Lib.compareInt p.2 q.2 else Lib.compareInt p.1 q.1
theorem ltOf_P (p q : Int × Int) : ltOf cfP p q = ltP p q := by
 unfold ltOf cfP ltP Lib.compareInt
 by_cases h1 : p.1 < q.1
 ·simp [h1]
 ·by_cases h2 : q.1 < p.1
  ·have h3 : ¬ p.1 = q.1 := by omega
   simp [h1, h2, h3]
  ·have h3 : p.1 = q.1 := by omega
   by_cases h4 : p.2 < q.2
   ·simp [h1, h2, h3, h4]
   ·by_cases h5 : q.2 < p.2 <;> simp [h1, h2, h3, h4, h5]
theorem swoP : SWO (ltOf cfP) where
 irrefl x := by rw [ltOf_P, ltP_not]; omega
 trans x y z h1 h2 := by rw [ltOf_P, ltP_iff] at *; omega
 ntrans x y z h1 h2 := by rw [ltOf_P, ltP_not] at *; omega
set_option maxHeartbeats 1000000 in
theorem compare2_calls (b1 b2 : Nat) (x1 x2 y1 y2 : Int) (W : World) (h1 : W.cell? ⟨b1, 0, none⟩ = some (.int .i64 x1)) (h2 : W.cell? ⟨b1, 1, none⟩ = some (.int .i64 x2)) (h3 : W.cell? ⟨b2, 0, none⟩ = some (.int .i64 y1)) (h4 : W.cell? ⟨b2, 1, none⟩ = some (.int .i64 y2)) :
  Calls Try.prog 82 #[.slice (some ⟨b1, 0, none⟩) 2 2, .slice (some ⟨b2, 0, none⟩) 2 2] W fun e w' => e = .returned (.int .i64 (cfP (x1, x2) (y1, y2))) ∧ w' = W := by
 have HC := Aside0.mk (fun (x y : Int) => Try.cmp_Compare_int x y W)
 obtain ⟨c1, HC1⟩ : ∃ c, Aside0 (Lib.compareInt x1 y1 = c) := ⟨_, ⟨rfl⟩⟩
 obtain ⟨c2, HC2⟩ : ∃ c, Aside0 (Lib.compareInt x2 y2 = c) := ⟨_, ⟨rfl⟩⟩
 have HR := Aside0.mk (show cfP (x1, x2) (y1, y2) = if c1 = 0 then c2 else c1 from by unfold cfP; rw [← HC1.out, ← HC2.out])
 have HA := Aside0.mk (HC.out x1 y1); have HB := Aside0.mk (HC.out x2 y2)
 rw [HC1.out] at HA; rw [HC2.out] at HB
 clear HC HC1 HC2
 generalize cfP (x1, x2) (y1, y2) = r at HR ⊢
 go_enter Try.func82, Try.ntmps82
 go_wp2
 go_loopw [11] (fun iv wr => (∃ i : Nat, i ≤ 2 ∧ iv = .int .i64 (i : Int) ∧ Aside0 (1 ≤ i → c1 = 0) ∧ Aside0 (2 ≤ i → c2 = 0)) ∧ W = wr) (fun iv _ => 2 - (intOf iv).toNat)
 case atStart => exact ⟨⟨0, by omega, rfl, ⟨by omega⟩, ⟨by omega⟩⟩, rfl⟩
 case round =>
  rename World => wz
  obtain ⟨⟨i, hi, rfl, HZ1, HZ2⟩, rfl⟩ := hrel
  obtain rfl | rfl | rfl : i = 0 ∨ i = 1 ∨ i = 2 := by omega
  ·clear hi
   by_cases hc : c1 = 0
   ·have e1 : (c1 = 0) = True := eq_true hc
    have e2 : (c1 != 0) = false := by rw [hc]; rfl
    have HE := Aside0.mk hc
    clear hc
    go_wp2_with (go_at_call 93; (with_reducible refine HA.out.mono ?_); rintro e w1 ⟨rfl, rfl⟩)
    go_roundw
    ·exact ⟨⟨1, by omega, rfl, ⟨fun _ => HE.out⟩, ⟨by omega⟩⟩, trivial⟩
    ·simp only [intOf]; decide
   ·have e1 : (c1 = 0) = False := eq_false hc
    have e2 : (c1 != 0) = true := by rw [bne_iff_ne]; exact hc
    have HRF := Aside0.mk (HR.out.trans (if_neg hc))
    clear hc
    go_wp2_with (go_at_call 93; (with_reducible refine HA.out.mono ?_); rintro e w1 ⟨rfl, rfl⟩)
    go_ret
    exact ⟨by rw [HRF.out]; rfl, rfl⟩
  ·clear hi
   have hc1 := HZ1.out (Nat.le_refl _)
   by_cases hc : c2 = 0
   ·have e1 : (c2 = 0) = True := eq_true hc
    have e2 : (c2 != 0) = false := by rw [hc]; rfl
    have HE := Aside0.mk (And.intro hc1 hc)
    clear hc hc1
    go_wp2_with (go_at_call 93; (with_reducible refine HB.out.mono ?_); rintro e w1 ⟨rfl, rfl⟩)
    go_roundw
    ·exact ⟨⟨2, by omega, rfl, ⟨fun _ => HE.out.1⟩, ⟨fun _ => HE.out.2⟩⟩, trivial⟩
    ·simp only [intOf]; decide
   ·have e1 : (c2 = 0) = False := eq_false hc
    have e2 : (c2 != 0) = true := by rw [bne_iff_ne]; exact hc
    have HRF := Aside0.mk (HR.out.trans (if_pos hc1))
    clear hc hc1
    go_wp2_with (go_at_call 93; (with_reducible refine HB.out.mono ?_); rintro e w1 ⟨rfl, rfl⟩)
    go_ret
    exact ⟨by rw [HRF.out]; rfl, rfl⟩
  ·clear hi
   have HRF := Aside0.mk (HR.out.trans ((if_pos (HZ1.out (by omega))).trans (HZ2.out (by omega))))
   go_wp2
   go_ret
   exact ⟨by rw [HRF.out]; rfl, rfl⟩
theorem grow_two (W : World) (o1 o2 : Obj) : ((W.alloc o1).alloc o2).drew = grow (W.drewN 1) #[o1, o2] := by
 show World.drew { W with heap := (W.heap.push o1).push o2 } = { W.drewN 1 with heap := (W.drewN 1).heap ++ #[o1, o2] }
 unfold World.drew World.drewN
 have h : (W.heap.push o1).push o2 = W.heap ++ #[o1, o2] := by apply Array.toList_inj.1; simp
 rw [h]
set_option maxHeartbeats 1000000 in
set_option maxRecDepth 100000 in
theorem cmp81_calls (x1 x2 y1 y2 : Int) (W : World) :
  Calls Try.prog 81 #[.agg #[.int .i64 x1, .int .i64 x2], .agg #[.int .i64 y1, .int .i64 y2]] W fun e w' => e = .returned (.int .i64 (cfP (x1, x2) (y1, y2))) ∧ ∃ q os', w' = grow (W.drewN q) os' := by
 have HP := Aside0.mk (fun (b1 b2 : Nat) (W' : World) (h1 : W'.cell? ⟨b1, 0, none⟩ = some (.int .i64 x1)) (h2 : W'.cell? ⟨b1, 1, none⟩ = some (.int .i64 x2)) (h3 : W'.cell? ⟨b2, 0, none⟩ = some (.int .i64 y1)) (h4 : W'.cell? ⟨b2, 1, none⟩ = some (.int .i64 y2)) => compare2_calls b1 b2 x1 x2 y1 y2 W' h1 h2 h3 h4)
 generalize cfP (x1, x2) (y1, y2) = r at HP ⊢
 go_enter Try.func81, Try.ntmps81
 go_wp2
 have n1 := blk_alloc (blk_new W (.cells #[.int .i64 x1, .int .i64 x2] 54)) (.cells #[.int .i64 y1, .int .i64 y2] 54)
 have n2 := blk_new (W.alloc (.cells #[.int .i64 x1, .int .i64 x2] 54)) (.cells #[.int .i64 y1, .int .i64 y2] 54)
 rw [World.size_alloc] at n2
 have HG := Aside0.mk (grow_two W (.cells #[.int .i64 x1, .int .i64 x2] 54) (.cells #[.int .i64 y1, .int .i64 y2] 54))
 generalize (W.alloc (.cells #[.int .i64 x1, .int .i64 x2] 54)).alloc (.cells #[.int .i64 y1, .int .i64 y2] 54) = W2 at *
 refine stz (fun w' => w' = W2.drew) [] (bn 4 0) rfl (fun hHeld => ?_)
 refine pz 0 (some 5) (bn 4 1) ?_
 refine pz 1 (some 6) (bn 4 3) ?_
 refine oz 2 (some 7) (bn 4 7) (fun K hK => ?_)
 refine gz Try.func82 #[.slice (some ⟨W.heap.size, 0, none⟩) 2 2, .slice (some ⟨W.heap.size + 1, 0, none⟩) 2 2] ?_
 (with_reducible refine (HP.out _ _ _ ((blk_cell (blk_drew n1) 0).trans rfl) ((blk_cell (blk_drew n1) 1).trans rfl) ((blk_cell (blk_drew n2) 0).trans rfl) ((blk_cell (blk_drew n2) 1).trans rfl)).mono ?_)
 rintro e wn ⟨rfl, rfl⟩
 refine ⟨_, rfl, ?_⟩
 refine hK.out _ _ rfl (fun hHeld => ?_)
 clear hK K
 refine nz (some 7) ?_
 refine pz 3 (some 4) (bn 4 15) ?_
 refine done_ (by kernel_rfl) ?_
 go_wp2
 go_ret
 exact ⟨rfl, 1, _, HG.out⟩
def encP (p : Int × Int) : List Value := [.int .i64 p.1, .int .i64 p.2]
theorem flatP_len (P : List (Int × Int)) : (P.flatMap encP).length = P.length * 2 := by
 induction P with
 | nil => rfl
 | cons a P ih => rw [List.flatMap_cons, List.length_append, ih, List.length_cons]; simp [encP]; omega
theorem flatP_get : ∀ (P : List (Int × Int)) (i : Nat) (p : Int × Int), P[i]? = some p → (P.flatMap encP)[i * 2]? = some (.int .i64 p.1) ∧ (P.flatMap encP)[i * 2 + 1]? = some (.int .i64 p.2)
 | [], i, p, h => by simp at h
 | a :: P, 0, p, h => by
  simp at h
  subst h
  exact ⟨rfl, rfl⟩
 | a :: P, i + 1, p, h => by
  have := flatP_get P i p (by simpa using h)
  rw [List.flatMap_cons, show encP a = [.int .i64 a.1, .int .i64 a.2] from rfl, show (i + 1) * 2 = i * 2 + 1 + 1 by omega]
  exact this
def OwnP (W : World) (base : Nat) (v : Value) (P : List (Int × Int)) : Prop := W.ownsRow base 54 2 v P.length (P.flatMap encP)
theorem OwnP.nil (W : World) (base : Nat) : OwnP W base (.slice none 0 0) [] := ⟨rfl, .inl ⟨rfl, rfl⟩⟩
theorem OwnP.below {W W' : World} {base : Nat} {v : Value} {P : List (Int × Int)} (h : OwnP W base v P) (hb : RowKit.Below W.heap.size W W') : OwnP W' base v P := pw_own_below h hb
theorem OwnP.cell {W : World} {base g cap : Nat} {P : List (Int × Int)} (h : OwnP W base (.slice (some ⟨g, 0, none⟩) P.length cap) P) : ∃ cur, W.heap[g]? = some (.cells cur 54 (0, 0)) ∧ base ≤ g ∧ P.length ≤ cap ∧ cap ≤ maxLen ∧ ∀ (i : Nat) (p : Int × Int), P[i]? = some p → cur[i * 2]? = some (.int .i64 p.1) ∧ cur[i * 2 + 1]? = some (.int .i64 p.2) := by
 rcases h.2 with ⟨e, _⟩ | ⟨g', cap', cur, e, hb, hh, hn, hc, hs, ht⟩
 ·cases e
 ·cases e
  refine ⟨cur, hh, hb, hn, hc, fun i p hp => ?_⟩
  have hi := (List.getElem?_eq_some_iff.1 hp).1
  obtain ⟨h1, h2⟩ := flatP_get P i p hp
  rw [← ht, List.getElem?_take_of_lt (by omega), Array.getElem?_toList] at h1 h2
  exact ⟨h1, h2⟩
theorem OwnP.row {W : World} {base : Nat} {v : Value} {P : List (Int × Int)} (h : OwnP W base v P) (hl : P.length ≤ 1000) : ∃ A c, v = .slice A P.length c ∧ P.length ≤ c ∧ RowP W A P := by
 rcases h.2 with ⟨rfl, h0⟩ | ⟨g, cap, cur, rfl, hb, hh, hn, hc, hs, ht⟩
 ·refine ⟨none, 0, by rw [h0], by omega, by omega, fun i p hp => ?_⟩
  have := (List.getElem?_eq_some_iff.1 hp).1
  omega
 ·obtain ⟨cur', hh', _, _, _, hcell⟩ := OwnP.cell h
  refine ⟨some ⟨g, 0, none⟩, cap, rfl, hn, by omega, fun i p hp => ?_⟩
  obtain ⟨h1, h2⟩ := hcell i p hp
  exact ⟨g, 0, rfl, by rw [Nat.zero_add, blk_cell hh']; exact h1, by rw [Nat.zero_add, blk_cell hh']; exact h2⟩
theorem info54 : (Try.prog.info? 54).map (fun i => (i.zero, i.size, i.bytes)) = some (some (.agg #[.int .i64 0, .int .i64 0]), 2, 16) := by kernel_rfl
theorem append_pair {ops : Array Oper} {o : Oper} {rest : List Oper} {a : Act} {Q : Exit → Act → World → Prop} {w0 W : World} {base : Nat} {P : List (Int × Int)} (hgd : o.guard = none) (s x : Operand)
  (ho : o.op = .call { callee := .builtin .append, args := #[s, x], argTypes := #[22, 22] }) (v : Value) (p : Int × Int)
  (HO : OwnP W base v P) (HB : RowKit.Below base w0 W) (hbase : base ≤ W.heap.size) (hl : P.length < 1000) (hs : a.eval s = v) (hx : a.eval x = .slice (some ⟨W.heap.size, 0, none⟩) 1 1)
  (h : ∀ v1 w1, OwnP w1 base v1 (P ++ [p]) → RowKit.Below base w0 w1 → W.grownBy w1 v.ownBlock → wpList Try.prog ops Q rest (a.put o.dst v1) w1) :
  wpList Try.prog ops Q (o :: rest) a (W.alloc (.cells #[.int .i64 p.1, .int .i64 p.2] 54)) := by
 refine print_append_cells (w0 := w0) base hgd s x 22 54 (.agg #[.int .i64 0, .int .i64 0]) 2 16 ho Try.underlying22 info54 rfl (by decide) (by decide) v P.length (P.flatMap encP) [.int .i64 p.1, .int .i64 p.2] hs hx rfl (by intro c hc; simp at hc; rcases hc with rfl | rfl <;> rfl) HO HB (by omega) (by omega) ?_
 intro v1 w1 h1 h2 h3 _
 refine h v1 w1 ?_ h2 h3
 unfold OwnP
 rw [List.length_append, List.length_singleton, List.flatMap_append]
 exact h1
theorem toArray_get! (P : List (Int × Int)) (i : Nat) (h : i < P.length) : P.toArray[i]! = P[i] := by simp [h]
theorem sortP_calls {g cap base : Nat} (P : List (Int × Int)) (W : World) (ho : OwnP W base (.slice (some ⟨g, 0, none⟩) P.length cap) P) (hl : P.length ≤ 1000) :
  Calls Try.prog 80 #[.slice (some ⟨g, 0, none⟩) P.length cap, .func (.func 81) #[] #[]] W fun e w' => e = .returned (.tuple #[]) ∧ ∃ P' : List (Int × Int), P'.Perm P ∧ SortedP P' ∧ RowP w' (some ⟨g, 0, none⟩) P' ∧ W.grownBy w' (some g) := by
 obtain ⟨cur, hh, hb, hn, hc, hcell⟩ := ho.cell
 have hH : HoldsK encP 2 W g 0 P.toArray := by
  intro j hj
  have hj' : j < P.length * 2 := by rw [size_flatK] at hj; simpa using hj
  have hi : j / 2 < P.length := by omega
  refine ⟨?_, blk_frozen hh _⟩
  obtain ⟨h1, h2⟩ := hcell (j / 2) _ (List.getElem?_eq_getElem hi)
  rw [get_flatK _ _ _ _ (by simpa using hj'), toArray_get! P _ hi, Nat.zero_add, blk_cell hh]
  rcases Nat.mod_two_eq_zero_or_one j with h | h
  ·rw [h]
   have e : j / 2 * 2 = j := by omega
   rw [e] at h1
   exact h1
  ·rw [h]
   have e : j / 2 * 2 + 1 = j := by omega
   rw [e] at h2
   exact h2
 have hcmp : CmpLays Try.prog 81 #[] encP 2 cfP g 0 P.toArray.size W := fun m os dk _ x y => cmp81_calls x.1 x.2 y.1 y.2 _
 have hS := Try.slices_SortFunc 2 Try.isAgg54 Try.sizeOf54 encP (fun _ => rfl) (by intro x v hv; simp [encP] at hv; rcases hv with rfl | rfl <;> rfl) cfP swoP 81 #[] g 0 cap P.toArray W (enters_of Try.func81 (by kernel_rfl) rfl) hcmp hH (blk_lt hh) (by simp; omega)
 rw [List.size_toArray] at hS
 refine hS.mono ?_
 rintro e w' ⟨rfl, d', nn, os, hperm, hsort, rfl⟩
 have hsz : d'.size = P.length := by have := hperm.1; simpa using this
 refine ⟨rfl, d'.toList, ?_, ?_, ⟨by simp; omega, fun i p hp => ?_⟩, ?_⟩
 ·have := hperm.2.2
  try simp only [List.size_toArray] at this
  rw [show d'.extract 0 P.length = d' by rw [← hsz]; simp, show P.toArray.extract 0 P.length = P.toArray by simp] at this
  simpa using this
 ·unfold SortedP
  rw [List.pairwise_iff_getElem]
  intro i j hi hj hij
  have hi' : i < d'.size := by simpa using hi
  have hj' : j < d'.size := by simpa using hj
  have := hsort i j (Nat.zero_le _) hij (by first | omega | (simp; omega))
  rw [ltOf_P, getElem!_pos d' j hj', getElem!_pos d' i hi'] at this
  simpa using this
 ·have hi : i < d'.size := by have := (List.getElem?_eq_some_iff.1 hp).1; simpa using this
  have hK : HoldsK encP 2 (sortWorldK encP 2 W g 0 nn d' os) g 0 d' := holdsK_sortWorldK_c encP 2 W g 0 P.toArray d' nn os hH (blk_lt hh) (by simpa using hsz)
  have h0 := (hK.cell hi (c := 0) (by omega)).1
  have h1 := (hK.cell hi (c := 1) (by omega)).1
  have e : d'[i]! = p := by rw [getElem!_pos d' i hi]; have := (List.getElem?_eq_some_iff.1 hp).2; simpa using this
  rw [e] at h0 h1
  exact ⟨g, 0, rfl, h0, h1⟩
 ·unfold sortWorldK putRowK
  refine ⟨rfl, rfl, rfl, by simp [putRow, mapBlock, Sort.ahead], fun k hk hne => ?_⟩
  rw [heap_grow_old _ _ (by simpa [putRow, mapBlock, Sort.ahead] using hk)]
  have : g ≠ k := fun e => hne (by rw [e])
  simp [putRow, mapBlock, Sort.ahead, Array.getElem?_modify, this]
end Go.Proofs.Ytcploeijeedmdaa.X
namespace Go.Proofs.Ytcploeijeedmdaa.X
open Go.RowKit Go.Shelf Go.Proofs.YtcploeijeedmdaaW.PrintWords Go.Proofs.YtcploeijeedmdaaW.PrintLast Go.Proofs.Ytcploeijeedmdaa.S
set_option linter.unusedVariables false
set_option linter.unusedSimpArgs false
attribute [local go_sem] max2_int min2_int max_two min_two
def intsV (d : List Int) : Array Value := (d.map (Value.int .i64)).toArray
theorem intsV_get {d : List Int} {j : Nat} (hj : j < d.length) : (intsV d)[j]? = some (.int .i64 (d.getD j 0)) := by
 unfold intsV
 rw [List.getElem?_toArray, List.getElem?_map, List.getD_eq_getElem?_getD, List.getElem?_eq_getElem hj]
 rfl
theorem intsV_put {d : List Int} {j : Nat} {x : Int} : (intsV d).setIfInBounds j (.int .i64 x) = intsV (d.set j x) := by
 unfold intsV
 rw [List.setIfInBounds_toArray, List.map_set]
def prP (u v : Nat) : Int × Int := if v < u then ((v : Int), (u : Int)) else ((u : Int), (v : Int))
def decL (d : List Int) (u : Nat) : List Int := d.set u (d.getD u 0 - 1)
structure JS (w0 W : World) (base B6 B10 gd n : Nat) (vo : Value) (P : List (Int × Int)) (d : List Int) : Prop where
 len : d.length = n
 k6 : W.heap[B6]? = some (.cells #[.slice (some ⟨gd, 0, none⟩) n n] 24 (0, 0))
 kg : W.heap[gd]? = some (.cells (intsV d) 3 (0, 0))
 k10 : W.heap[B10]? = some (.cells #[vo] 22 (0, 0))
 own : OwnP W base vo P
 bl : Below base w0 W
 hb : base ≤ B6 ∧ base ≤ B10 ∧ base ≤ gd
 hs : base ≤ W.heap.size
theorem OwnP.ne {W : World} {base g : Nat} {v : Value} {P : List (Int × Int)} {t : TypeId} {cs : Array Value} (h : OwnP W base v P) (hg : W.heap[g]? = some (.cells cs t (0, 0))) (ht : t ≠ 54) : some g ≠ v.ownBlock := by
 rcases h.2 with ⟨rfl, _⟩ | ⟨g', cap, cur, rfl, hb, hh, _⟩
 ·simp [Value.ownBlock]
 ·intro e
  have e : g = g' := by simpa [Value.ownBlock] using e
  subst e
  rw [hh] at hg
  injection hg with hg
  injection hg with _ h2
  exact ht h2.symm
theorem blk_diff {W : World} {g g' : Nat} {t t' : TypeId} {cs cs' : Array Value} (h : W.heap[g]? = some (.cells cs t (0, 0))) (h' : W.heap[g']? = some (.cells cs' t' (0, 0))) (ht : t ≠ t') : g ≠ g' := by
 intro e
 subst e
 rw [h] at h'
 injection h' with h'
 injection h' with _ h2
 exact ht h2
theorem JS.drawn {w0 W W' : World} {base B6 B10 gd n : Nat} {vo : Value} {P : List (Int × Int)} {d : List Int} (h : JS w0 W base B6 B10 gd n vo P d) (hb : Below W.heap.size W W') : JS w0 W' base B6 B10 gd n vo P d :=
 ⟨h.len, blk_below h.k6 hb, blk_below h.kg hb, blk_below h.k10 hb, h.own.below hb, below_then h.bl h.hs hb, h.hb, Nat.le_trans h.hs hb.size⟩
theorem JS.set {w0 W : World} {base B6 B10 gd n : Nat} {vo : Value} {P : List (Int × Int)} {d : List Int} (h : JS w0 W base B6 B10 gd n vo P d) (u : Nat) (x : Int) : JS w0 (W.setCell ⟨gd, u, none⟩ (.int .i64 x)) base B6 B10 gd n vo P (d.set u x) := by
 refine ⟨by rw [List.length_set]; exact h.len, blk_far (p := ⟨gd, u, none⟩) h.k6 (blk_diff h.k6 h.kg (by decide)) _, ?_, blk_far (p := ⟨gd, u, none⟩) h.k10 (blk_diff h.k10 h.kg (by decide)) _, own_other h.own (grownBy_set W ⟨gd, u, none⟩ _) (.inr (fun e => OwnP.ne h.own h.kg (by decide) e.symm)), h.bl.setCell (p := ⟨gd, u, none⟩) h.hb.2.2 _, h.hb, by rw [World.size_setCell]; exact h.hs⟩
 rw [blk_set h.kg, intsV_put]
theorem JS.push {w0 W w1 : World} {base B6 B10 gd n : Nat} {vo v1 : Value} {P P1 : List (Int × Int)} {d : List Int} (h : JS w0 W base B6 B10 gd n vo P d) (ho : OwnP w1 base v1 P1) (hb : Below base w0 w1) (hg : W.grownBy w1 vo.ownBlock) : JS w0 (w1.setCell ⟨B10, 0, none⟩ v1) base B6 B10 gd n v1 P1 d := by
 have k6 := blk_grown h.k6 hg (OwnP.ne h.own h.k6 (by decide))
 have kg := blk_grown h.kg hg (OwnP.ne h.own h.kg (by decide))
 have k10 := blk_grown h.k10 hg (OwnP.ne h.own h.k10 (by decide))
 refine ⟨h.len, blk_far (p := ⟨B10, 0, none⟩) k6 (blk_diff k6 k10 (by decide)) _, blk_far (p := ⟨B10, 0, none⟩) kg (blk_diff kg k10 (by decide)) _, ?_, own_other ho (grownBy_set w1 ⟨B10, 0, none⟩ _) (.inr (fun e => OwnP.ne ho k10 (by decide) e.symm)), hb.setCell (p := ⟨B10, 0, none⟩) h.hb.2.1 _, h.hb, ?_⟩
 ·rw [blk_set k10]; rfl
 ·rw [World.size_setCell]; exact Nat.le_trans h.hs hg.size
theorem OwnP.succ {W : World} {base : Nat} {v : Value} {P : List (Int × Int)} (h : OwnP W base v P) (h0 : 0 < P.length) : ∃ g cap, v = .slice (some ⟨g, 0, none⟩) P.length cap := by
 rcases h.2 with ⟨_, h1⟩ | ⟨g, cap, _, e, _⟩
 ·omega
 ·exact ⟨g, cap, e⟩
set_option maxHeartbeats 2000000 in
set_option maxRecDepth 100000 in
theorem join_calls {w0 W : World} {base B6 B10 gd n : Nat} {vo : Value} {P : List (Int × Int)} {d : List Int} (h : JS w0 W base B6 B10 gd n vo P d) (u v : Nat) (hu : u < n) (hv : v < n) (hbd : ∀ x, -1000 ≤ d.getD x 0 ∧ d.getD x 0 ≤ 1000) (hP : P.length < 900) :
  Calls Try.prog 78 #[.int .i64 (u : Int), .int .i64 (v : Int), .pointer (some ⟨B10, 0, none⟩), .pointer (some ⟨B6, 0, none⟩)] W fun e w' => e = .returned (.tuple #[]) ∧ ∃ v1, JS w0 w' base B6 B10 gd n v1 (P ++ [prP u v]) (decL (decL d u) v) := by
 have HJ := Aside0.mk h
 have HU := Aside0.mk hu
 have HV := Aside0.mk hv
 have HP := Aside0.mk hP
 have zu : (u : Int) < (n : Int) := by omega
 have zv : (v : Int) < (n : Int) := by omega
 obtain ⟨x, HX⟩ : ∃ x, Aside0 (d.getD u 0 = x) := ⟨_, ⟨rfl⟩⟩
 have hbx := hbd u
 rw [HX.out] at hbx
 obtain ⟨y, HY⟩ : ∃ y, Aside0 (x - 1 = y) := ⟨_, ⟨rfl⟩⟩
 obtain ⟨z, HZ⟩ : ∃ z, Aside0 ((d.set u y).getD v 0 = z) := ⟨_, ⟨rfl⟩⟩
 have hbz : -1001 ≤ z ∧ z ≤ 1000 := by
  rw [← HZ.out]
  by_cases hl : u < d.length
  ·rw [getD_set d u v y hl]
   have := hbd v
   have := HY.out
   split <;> omega
  ·rw [List.set_eq_of_length_le (by omega)]
   have := hbd v
   omega
 obtain ⟨y2, HY2⟩ : ∃ y, Aside0 (z - 1 = y) := ⟨_, ⟨rfl⟩⟩
 have HW1 := Aside0.mk (show wrap64 (x - 1) = y from by rw [w64 (by omega) (by omega)]; exact HY.out)
 have HW2 := Aside0.mk (show wrap64 (z - 1) = y2 from by rw [w64 (by omega) (by omega)]; exact HY2.out)
 have HD := Aside0.mk (show decL (decL d u) v = (d.set u y).set v y2 from by
  unfold decL
  rw [HX.out, HY.out, HZ.out, HY2.out])
 have k2 := (blk_cell h.k10 0).trans rfl
 clear h hu hv hbd hP hbx hbz
 by_cases hvu : v < u
 ·have e1 : ((v : Int) < (u : Int)) = True := eq_true (by omega)
  have e2 : (v < u) = True := eq_true hvu
  have e3 : ((u : Int) < (v : Int)) = False := eq_false (by omega)
  have e4 : (u < v) = False := eq_false (by omega)
  have HPR := Aside0.mk (show prP u v = ((v : Int), (u : Int)) from if_pos hvu)
  clear hvu
  go_enter Try.func78, Try.ntmps78
  go_wp2_with (first
   | (
     (with_reducible refine gate_builtin (b := .append) (xs := #[.tmp 6, .tmp 14]) rfl ?_); at_builtin
     refine append_pair (w0 := w0) (base := base) (P := P) rfl (.tmp 6) (.tmp 14) rfl _ ((v : Int), (u : Int)) HJ.out.own HJ.out.bl HJ.out.hs (by have := HP.out; omega) (by rfl) (by rfl) ?_
     intro v1 w1 h1 h2 h3
     have J1 := Aside0.mk (HJ.out.push h1 h2 h3)
     have c10 := (blk_cell (blk_grown HJ.out.k10 h3 (OwnP.ne HJ.out.own HJ.out.k10 (by decide))) 0).trans rfl
     have f10 := blk_frozen (blk_grown HJ.out.k10 h3 (OwnP.ne HJ.out.own HJ.out.k10 (by decide))) 0
     obtain ⟨m, HM⟩ : ∃ m, Aside0 ((P ++ [((v : Int), (u : Int))]).length = m) := ⟨_, ⟨rfl⟩⟩
     obtain ⟨g1, cap1, ev⟩ := h1.succ (by simp)
     rw [HM.out] at ev
     subst ev
     have c6 := (blk_cell J1.out.k6 0).trans rfl
     have cu := (blk_cell J1.out.kg u).trans (intsV_get (by rw [J1.out.len]; exact HU.out))
     have fu := blk_frozen J1.out.kg u
     rw [HX.out] at cu
     have J2 := Aside0.mk (J1.out.set u y)
     have d6 := (blk_cell J2.out.k6 0).trans rfl
     have cv := (blk_cell J2.out.kg v).trans (intsV_get (by rw [J2.out.len]; exact HV.out))
     have fv := blk_frozen J2.out.kg v
     rw [HZ.out] at cv
     have J3 := Aside0.mk (J2.out.set v y2)
     have hw1 := HW1.out
     have hw2 := HW2.out
     clear h1 h2 h3))
  go_end0
  exact ⟨rfl, _, by rw [HD.out, HPR.out]; exact J3.out⟩
 ·have e1 : ((v : Int) < (u : Int)) = False := eq_false (by omega)
  have e2 : (v < u) = False := eq_false hvu
  have HPR := Aside0.mk (show prP u v = ((u : Int), (v : Int)) from if_neg hvu)
  by_cases huv : u < v
  ·have e3 : ((u : Int) < (v : Int)) = True := eq_true (by omega)
   have e4 : (u < v) = True := eq_true huv
   clear hvu huv
   go_enter Try.func78, Try.ntmps78
   go_wp2_with (first
    | (
      (with_reducible refine gate_builtin (b := .append) (xs := #[.tmp 6, .tmp 14]) rfl ?_); at_builtin
      refine append_pair (w0 := w0) (base := base) (P := P) rfl (.tmp 6) (.tmp 14) rfl _ ((u : Int), (v : Int)) HJ.out.own HJ.out.bl HJ.out.hs (by have := HP.out; omega) (by rfl) (by rfl) ?_
      intro v1 w1 h1 h2 h3
      have J1 := Aside0.mk (HJ.out.push h1 h2 h3)
      have c10 := (blk_cell (blk_grown HJ.out.k10 h3 (OwnP.ne HJ.out.own HJ.out.k10 (by decide))) 0).trans rfl
      have f10 := blk_frozen (blk_grown HJ.out.k10 h3 (OwnP.ne HJ.out.own HJ.out.k10 (by decide))) 0
      obtain ⟨m, HM⟩ : ∃ m, Aside0 ((P ++ [((u : Int), (v : Int))]).length = m) := ⟨_, ⟨rfl⟩⟩
      obtain ⟨g1, cap1, ev⟩ := h1.succ (by simp)
      rw [HM.out] at ev
      subst ev
      have c6 := (blk_cell J1.out.k6 0).trans rfl
      have cu := (blk_cell J1.out.kg u).trans (intsV_get (by rw [J1.out.len]; exact HU.out))
      have fu := blk_frozen J1.out.kg u
      rw [HX.out] at cu
      have J2 := Aside0.mk (J1.out.set u y)
      have d6 := (blk_cell J2.out.k6 0).trans rfl
      have cv := (blk_cell J2.out.kg v).trans (intsV_get (by rw [J2.out.len]; exact HV.out))
      have fv := blk_frozen J2.out.kg v
      rw [HZ.out] at cv
      have J3 := Aside0.mk (J2.out.set v y2)
      have hw1 := HW1.out
      have hw2 := HW2.out
      clear h1 h2 h3))
   go_end0
   exact ⟨rfl, _, by rw [HD.out, HPR.out]; exact J3.out⟩
  ·have e3 : ((u : Int) < (v : Int)) = False := eq_false (by omega)
   have e4 : (u < v) = False := eq_false huv
   obtain rfl : u = v := by omega
   clear hvu huv
   go_enter Try.func78, Try.ntmps78
   go_wp2_with (first
    | (
      (with_reducible refine gate_builtin (b := .append) (xs := #[.tmp 6, .tmp 14]) rfl ?_); at_builtin
      refine append_pair (w0 := w0) (base := base) (P := P) rfl (.tmp 6) (.tmp 14) rfl _ ((u : Int), (u : Int)) HJ.out.own HJ.out.bl HJ.out.hs (by have := HP.out; omega) (by rfl) (by rfl) ?_
      intro v1 w1 h1 h2 h3
      have J1 := Aside0.mk (HJ.out.push h1 h2 h3)
      have c10 := (blk_cell (blk_grown HJ.out.k10 h3 (OwnP.ne HJ.out.own HJ.out.k10 (by decide))) 0).trans rfl
      have f10 := blk_frozen (blk_grown HJ.out.k10 h3 (OwnP.ne HJ.out.own HJ.out.k10 (by decide))) 0
      obtain ⟨m, HM⟩ : ∃ m, Aside0 ((P ++ [((u : Int), (u : Int))]).length = m) := ⟨_, ⟨rfl⟩⟩
      obtain ⟨g1, cap1, ev⟩ := h1.succ (by simp)
      rw [HM.out] at ev
      subst ev
      have c6 := (blk_cell J1.out.k6 0).trans rfl
      have cu := (blk_cell J1.out.kg u).trans (intsV_get (by rw [J1.out.len]; exact HU.out))
      have fu := blk_frozen J1.out.kg u
      rw [HX.out] at cu
      have J2 := Aside0.mk (J1.out.set u y)
      have d6 := (blk_cell J2.out.k6 0).trans rfl
      have cv := (blk_cell J2.out.kg u).trans (intsV_get (by rw [J2.out.len]; exact HV.out))
      have fv := blk_frozen J2.out.kg u
      rw [HZ.out] at cv
      have J3 := Aside0.mk (J2.out.set u y2)
      have hw1 := HW1.out
      have hw2 := HW2.out
      clear h1 h2 h3))
   go_end0
   exact ⟨rfl, _, by rw [HD.out, HPR.out]; exact J3.out⟩
end Go.Proofs.Ytcploeijeedmdaa.X
namespace Go.Proofs.Ytcploeijeedmdaa.X
open Go.RowKit Go.Shelf Go.Proofs.YtcploeijeedmdaaW.PrintWords Go.Proofs.YtcploeijeedmdaaW.PrintLast Go.Proofs.Ytcploeijeedmdaa.S
set_option linter.unusedVariables false
set_option linter.unusedSimpArgs false
def codeOk (n : Int) (l : List Int) : Prop := (2 ≤ n ∧ n ≤ 20) ∧ (l.length : Int) = n - 2 ∧ ∀ x ∈ l, 0 ≤ x ∧ x ≤ n - 1
set_option maxHeartbeats 1000000 in
set_option maxRecDepth 100000 in
theorem pred77 (n : Int) (hn : 2 ≤ n ∧ n ≤ 20) (B : Nat) (w : World) (hB : w.heap[B]? = some (.cells #[.int .i64 n] 3 (0, 0))) : PredAt Try.prog 77 #[.pointer (some ⟨B, 0, none⟩)] (Value.int .i64) (fun x => !(inR x 0 (n - 1))) w := by
 intro W x hb
 have HN := Aside0.mk (scores_within.calls x 0 (n - 1) (inR x 0 (n - 1)) W (within_f x 0 (n - 1)))
 have k := (blk_cell (blk_below hB hb) 0).trans rfl
 obtain ⟨m, hm⟩ : ∃ m, n - 1 = m := ⟨_, rfl⟩
 have HW := Aside0.mk (show wrap64 (n - 1) = m from by rw [← hm]; exact w64 (by omega) (by omega))
 rw [hm] at HN ⊢
 clear hb hB hm hn
 have hw := HW.out
 show Calls Try.prog 77 #[.int .i64 x, .pointer (some ⟨B, 0, none⟩)] W _
 go_enter Try.func77, Try.ntmps77
 go_wp2_with (go_at_call 62; (with_reducible refine HN.out.mono ?_); rintro e w' ⟨rfl, ⟨nd, rfl⟩⟩)
 go_ret
 exact ⟨rfl, nd, rfl⟩
theorem nat_list {l : List Int} {N : Nat} (h : ∀ x ∈ l, 0 ≤ x ∧ x < (N : Int)) : ∃ cs : List Nat, l = natI cs ∧ (∀ x ∈ cs, x < N) ∧ cs.length = l.length := by
 induction l with
 | nil => exact ⟨[], rfl, fun x hx => (by cases hx), rfl⟩
 | cons a l ih =>
  obtain ⟨cs, e, h1, h2⟩ := ih (fun x hx => h x (List.mem_cons_of_mem _ hx))
  obtain ⟨b, hb⟩ := Int.eq_ofNat_of_zero_le (h a List.mem_cons_self).1
  subst hb
  refine ⟨b :: cs, by rw [e]; rfl, fun x hx => ?_, by rw [List.length_cons, List.length_cons, h2]⟩
  rcases List.mem_cons.1 hx with rfl | hx
  ·have := (h (x : Int) List.mem_cons_self).2; omega
  ·exact h1 x hx
theorem any_codeOk {l : List Int} {n : Int} : (l.any fun x => !(inR x 0 (n - 1))) = false ↔ ∀ x ∈ l, 0 ≤ x ∧ x ≤ n - 1 := by
 rw [List.any_eq_false]
 simp only [Bool.not_eq_true', Bool.not_eq_false]
 exact ⟨fun h x hx => inR_iff.1 (h x hx), fun h x hx => inR_iff.2 (h x hx)⟩
set_option maxHeartbeats 4000000 in
set_option maxRecDepth 100000 in
theorem tree_bad {m : Nat} (n : Int) (A : Option Addr) (c : Nat) (l : List Int) (w : World) (hr : RowI w A l) (hm : l.length = m) (hbad : ¬ codeOk n l) :
  Calls Try.prog 42 #[.int .i64 n, .slice A m c] w fun e w' => e = .returned (.tuple #[.slice none 0 0, .int .i64 2]) ∧ Below w.heap.size w w' := by
 have HR := Aside0.mk hr
 have hml : m ≤ 9223372036854775807 := by have := hr.len; omega
 have HB0 := Aside0.mk (below_alloc (Below.refl w.heap.size w) (.cells #[.int .i64 n] 3))
 have HK0 := Aside0.mk (blk_new w (.cells #[.int .i64 n] 3))
 have k0 := (blk_cell HK0.out 0).trans rfl
 have HM := Aside0.mk hm
 clear hr
 by_cases hn : 2 ≤ n ∧ n ≤ 20
 ·have HN := Aside0.mk hn
  have HWI := Aside0.mk (fun W => scores_within.calls n 2 20 true W (by rw [within_f, inR_iff.2 hn]))
  obtain ⟨q, HQ⟩ : ∃ q, Aside0 (n - 2 = q) := ⟨_, ⟨rfl⟩⟩
  have HW := Aside0.mk (show wrap64 (n - 2) = q from by rw [w64 (by omega) (by omega)]; exact HQ.out)
  by_cases hmq : (m : Int) = q
  ·have HAN := Aside0.mk (show (l.any fun x => !(inR x 0 (n - 1))) = true from by
    cases h : (l.any fun x => !(inR x 0 (n - 1))) with
    | true => rfl
    | false => exact absurd ⟨hn, by rw [hm, hmq]; exact HQ.out.symm, any_codeOk.1 h⟩ hbad)
   have HCC := Aside0.mk (fun (W : World) (h1 : RowI W A l) (h2 : W.heap[w.heap.size]? = some (.cells #[.int .i64 n] 3 (0, 0))) => (show Calls Try.prog 76 #[.slice A m c, .func (.func 77) #[] #[.pointer (some ⟨w.heap.size, 0, none⟩)]] W fun e w' => e = .returned (.bool true) ∧ Drawn0 W w' from by
    have h := contains_calls (fun x => !(inR x 0 (n - 1))) 77 #[.pointer (some ⟨w.heap.size, 0, none⟩)] (Go.Proofs.enters_of Try.func77 (by kernel_rfl) rfl) A c l W (pred77 n HN.out w.heap.size W h2) h1
    rw [HAN.out, HM.out] at h
    exact h))
   have p1 : ((m : Int) = q) = True := eq_true hmq
   have p2 : ((m : Int) == q) = true := beq_iff_eq.2 hmq
   have p3 : ((m : Int) != q) = false := by rw [bne, p2]; rfl
   clear hbad hmq hn hm hml
   have hw := HW.out
   go_enter Try.func42, Try.ntmps42
   go_wp2_with (first
    | (
      go_at_call 62; (with_reducible refine (HWI.out _).mono ?_); rintro e w1 ⟨rfl, hd⟩
      have HB1 := Aside0.mk (below_then HB0.out HB0.out.size hd.below); have HR1 := Aside0.mk ((HR.out.below (below_alloc (Below.refl _ _) (.cells #[.int .i64 n] 3))).drawn hd)
      have HK1 := Aside0.mk (blk_below HK0.out hd.below); have k1 := (blk_cell HK1.out 0).trans rfl; clear hd)
    | (
      go_at_call 76; (with_reducible refine (HCC.out _ HR1.out HK1.out).mono ?_); rintro e w2 ⟨rfl, hd⟩
      have HB2 := Aside0.mk (below_then HB1.out HB1.out.size hd.below); clear hd))
   go_ret2
   exact ⟨rfl, HB2.out⟩
  ·have p1 : ((m : Int) = q) = False := eq_false hmq
   have p2 : ((m : Int) == q) = false := beq_eq_false_iff_ne.2 hmq
   have p3 : ((m : Int) != q) = true := by rw [bne, p2]; rfl
   clear hbad hmq hn hm hml
   have hw := HW.out
   go_enter Try.func42, Try.ntmps42
   go_wp2_with (first
    | (
      go_at_call 62; (with_reducible refine (HWI.out _).mono ?_); rintro e w1 ⟨rfl, hd⟩
      have HB1 := Aside0.mk (below_then HB0.out HB0.out.size hd.below)
      have HK1 := Aside0.mk (blk_below HK0.out hd.below); have k1 := (blk_cell HK1.out 0).trans rfl; clear hd))
   go_ret2
   exact ⟨rfl, HB1.out⟩
 ·have HWI := Aside0.mk (fun W => scores_within.calls n 2 20 false W (by rw [within_f]; congr 1; rw [← Bool.not_eq_true, inR_iff]; exact hn))
  clear hbad hn hm hml
  go_enter Try.func42, Try.ntmps42
  go_wp2_with (first
   | (
     go_at_call 62; (with_reducible refine (HWI.out _).mono ?_); rintro e w1 ⟨rfl, hd⟩
     have HB1 := Aside0.mk (below_then HB0.out HB0.out.size hd.below); clear hd))
  go_ret2
  exact ⟨rfl, HB1.out⟩
def incL (d : List Int) (x : Nat) : List Int := d.set x (d.getD x 0 + 1)
def degL (N : Nat) (cs : List Nat) : List Int := cs.foldl incL (List.replicate N 1)
theorem inc_facts (N : Nat) : ∀ (cs : List Nat) (d : List Int), d.length = N → (∀ x ∈ cs, x < N) → (cs.foldl incL d).length = N ∧ (∀ x, (cs.foldl incL d).getD x 0 = d.getD x 0 + (cs.count x : Nat)) ∧ (cs.foldl incL d).sum = d.sum + cs.length := by
 intro cs
 induction cs with
 | nil => intro d h _; simp [h]
 | cons a cs ih =>
  intro d h hx
  have ha := hx a List.mem_cons_self
  obtain ⟨h1, h2, h3⟩ := ih (incL d a) (by unfold incL; rw [List.length_set]; exact h) (fun x hx' => hx x (List.mem_cons_of_mem _ hx'))
  refine ⟨h1, fun x => ?_, ?_⟩
  ·rw [List.foldl_cons, h2 x]
   unfold incL
   rw [getD_set d a x _ (by omega)]
   by_cases e : x = a
   ·subst e; rw [if_pos rfl, List.count_cons_self]; omega
   ·rw [if_neg e, List.count_cons_of_ne (Ne.symm e)]
  ·rw [List.foldl_cons, h3]
   unfold incL
   rw [sum_set d a _ (by omega), List.length_cons]
   omega
theorem rep_sum (N : Nat) : (List.replicate N (1 : Int)).sum = N := by
 induction N with
 | zero => rfl
 | succ N ih => rw [List.replicate_succ, List.sum_cons, ih]; omega
theorem rep_get {N x : Nat} (h : x < N) : (List.replicate N (1 : Int)).getD x 0 = 1 := by
 rw [List.getD_eq_getElem?_getD, List.getElem?_replicate, if_pos h]; rfl
theorem degL_inv {N : Nat} {cs : List Nat} (hN : N = cs.length + 2) (hx : ∀ x ∈ cs, x < N) : CInv N (degL N cs) cs := by
 obtain ⟨h1, h2, h3⟩ := inc_facts N cs (List.replicate N 1) (by simp) hx
 refine ⟨h1, fun x hxN => .inr ?_, ?_, ?_, hx⟩
 ·have := h2 x
  rw [rep_get hxN] at this
  exact this
 ·have : nzc (degL N cs) = (degL N cs).length := by
   unfold nzc
   rw [List.countP_eq_length]
   intro y hy
   obtain ⟨x, hxl, e⟩ := getD_mem hy
   have h4 := h2 x
   rw [rep_get (by unfold degL at hxl; omega)] at h4
   unfold degL at e
   rw [bne_iff_ne]
   omega
  rw [this]
  unfold degL
  omega
 ·unfold degL
  rw [h3, rep_sum]
  omega
def edL : List Int → List Nat → List (Int × Int)
 | _, [] => []
 | d, x :: cs => prP (lf d) x :: edL (stepL d x) cs
def enD : List Int → List Nat → List Int
 | d, [] => d
 | d, x :: cs => enD (stepL d x) cs
def lastE (D : List Int) : Int × Int := prP (lf D) (lf (D.set (lf D) 0))
def treeE (N : Nat) (cs : List Nat) : List (Int × Int) := edL (degL N cs) cs ++ [lastE (enD (degL N cs) cs)]
def treeL (N : Nat) (cs : List Nat) : List (Int × Int) := (treeE N cs).foldl insP []
theorem edL_len : ∀ (cs : List Nat) (d : List Int), (edL d cs).length = cs.length
 | [], _ => rfl
 | x :: cs, d => by rw [edL, List.length_cons, edL_len cs, List.length_cons]
theorem treeE_len (N : Nat) (cs : List Nat) : (treeE N cs).length = cs.length + 1 := by unfold treeE; rw [List.length_append, edL_len]; rfl
theorem treeL_len (N : Nat) (cs : List Nat) : (treeL N cs).length = cs.length + 1 := by
 have h := (foldP (treeE N cs) [] List.Pairwise.nil).2.length_eq
 rw [List.nil_append, treeE_len] at h
 exact h
theorem CInv.end_ {N : Nat} : ∀ (cs : List Nat) (d : List Int), CInv N d cs → CInv N (enD d cs) []
 | [], d, h => h
 | x :: cs, d, h => CInv.end_ cs (stepL d x) h.step.1
theorem CInv.bd {N : Nat} {d : List Int} {cs : List Nat} (h : CInv N d cs) (hc : cs.length ≤ 900) (x : Nat) : -1000 ≤ d.getD x 0 ∧ d.getD x 0 ≤ 1000 := by
 by_cases hx : x < N
 ·have h1 := List.count_le_length (a := x) (l := cs)
  rcases h.val x hx with h' | h'
  ·omega
  ·omega
 ·have : d.getD x 0 = 0 := by rw [List.getD_eq_getElem?_getD, List.getElem?_eq_none (by rw [h.len]; omega)]; rfl
  omega
theorem dec_step {N x : Nat} {d : List Int} {cs : List Nat} (h : CInv N d (x :: cs)) : decL (decL d (lf d)) x = stepL d x := by
 have h1 := (lf_lt h).2.1
 unfold decL stepL
 rw [h1]
 rfl
theorem idx_lf {d : List Int} (h : lf d < d.length) : Lib.idxOf d 1 = (lf d : Int) := by
 have h1 : d.getD (lf d) 0 = 1 := by
  have := List.findIdx_getElem (xs := d) (p := (· == 1)) (w := h)
  rw [List.getD_eq_getElem?_getD, List.getElem?_eq_getElem h]
  exact beq_iff_eq.1 this
 have h2 : ∀ j, j < lf d → d.getD j 0 ≠ 1 := fun j hj => by
  have h2 := List.not_of_lt_findIdx hj
  rw [List.getD_eq_getElem?_getD, List.getElem?_eq_getElem (Nat.lt_trans hj h)]
  simpa using h2
 have := Lib.idxFrom_hit 1 d (lf d) 0 h h1 h2
 rw [Nat.zero_add] at this
 exact this
structure JD (w0 W : World) (base B6 gd n : Nat) (arr : Array Value) : Prop where
 k6 : W.heap[B6]? = some (.cells #[.slice (some ⟨gd, 0, none⟩) n n] 24 (0, 0))
 kg : W.heap[gd]? = some (.cells arr 3 (0, 0))
 bl : Below base w0 W
 hb : base ≤ B6 ∧ base ≤ gd
 hs : base ≤ W.heap.size
theorem JD.set {w0 W : World} {base B6 gd n : Nat} {arr : Array Value} (h : JD w0 W base B6 gd n arr) (u : Nat) (v : Value) : JD w0 (W.setCell ⟨gd, u, none⟩ v) base B6 gd n (arr.setIfInBounds u v) :=
 ⟨blk_far (p := ⟨gd, u, none⟩) h.k6 (blk_diff h.k6 h.kg (by decide)) _, blk_set h.kg u v, h.bl.setCell (p := ⟨gd, u, none⟩) h.hb.2 _, h.hb, by rw [World.size_setCell]; exact h.hs⟩
theorem rowV_ints (N : Nat) (f : Nat → Int) : rowV N f = intsV ((List.range N).map f) := by
 unfold rowV intsV
 rw [List.map_map]
 rfl
set_option maxHeartbeats 8000000 in
set_option maxRecDepth 100000 in
theorem tree_calls {N m : Nat} (A : Option Addr) (c : Nat) (cs : List Nat) (w : World) (hr : RowI w A (natI cs)) (hm : cs.length = m) (hN : N = m + 2) (hN2 : N ≤ 20) (hx : ∀ x ∈ cs, x < N) :
  Calls Try.prog 42 #[.int .i64 (N : Int), .slice A m c] w fun e w' => ∃ A' c', e = .returned (.tuple #[.slice A' (m + 1) c', .int .i64 0]) ∧ m + 1 ≤ c' ∧ RowP w' A' (treeL N cs) ∧ Below w.heap.size w w' := by
 have HR := Aside0.mk hr
 have HB0 := Aside0.mk (below_alloc (Below.refl w.heap.size w) (.cells #[.int .i64 (N : Int)] 3))
 have HK0 := Aside0.mk (blk_new w (.cells #[.int .i64 (N : Int)] 3))
 have k0 := (blk_cell HK0.out 0).trans rfl
 have HM := Aside0.mk hm
 have HML := Aside0.mk (show (natI cs).length = m from by rw [natI_len]; exact hm)
 have HN := Aside0.mk (And.intro hN hN2)
 have HXC := Aside0.mk hx
 have HWI := Aside0.mk (fun W => scores_within.calls (N : Int) 2 20 true W (by rw [within_f, inR_iff.2 (by omega)]))
 have HAN := Aside0.mk (show ((natI cs).any fun x => !(inR x 0 ((N : Int) - 1))) = false from by
  rw [any_codeOk]
  intro x hx'
  obtain ⟨y, hy, rfl⟩ := List.mem_map.1 hx'
  have := hx y hy
  omega)
 have HCC := Aside0.mk (fun (W : World) (h1 : RowI W A (natI cs)) (h2 : W.heap[w.heap.size]? = some (.cells #[.int .i64 (N : Int)] 3 (0, 0))) => (show Calls Try.prog 76 #[.slice A m c, .func (.func 77) #[] #[.pointer (some ⟨w.heap.size, 0, none⟩)]] W fun e w' => e = .returned (.bool false) ∧ Drawn0 W w' from by
  have h := contains_calls (fun x => !(inR x 0 ((N : Int) - 1))) 77 #[.pointer (some ⟨w.heap.size, 0, none⟩)] (Go.Proofs.enters_of Try.func77 (by kernel_rfl) rfl) A c (natI cs) W (pred77 (N : Int) (by omega) w.heap.size W h2) h1
  rw [HAN.out, HML.out] at h
  exact h))
 have hmk : ∀ W, (Instr.makeSlice 24 (.int .i64 (N : Int)) (.int .i64 (N : Int))).run Try.prog W = .ok (.slice (some ⟨W.heap.size, 0, none⟩) N N) (W.alloc (.cells (rowV N fun _ => 0) 3)) := fun W => make_ints W N (by omega)
 have HW := Aside0.mk (show wrap64 ((N : Int) - 2) = (m : Int) from by rw [show (N : Int) - 2 = (m : Int) by omega]; exact w64 (by omega) (by omega))
 clear hr hm hN hN2 hx
 have hw := HW.out
 go_enter Try.func42, Try.ntmps42
 go_wp2_with (first
  | (
    go_at_call 62; (with_reducible refine (HWI.out _).mono ?_); rintro e w1 ⟨rfl, hd⟩
    have HB1 := Aside0.mk (below_then HB0.out HB0.out.size hd.below); have HR1 := Aside0.mk ((HR.out.below (below_alloc (Below.refl _ _) (.cells #[.int .i64 (N : Int)] 3))).drawn hd)
    have HK1 := Aside0.mk (blk_below HK0.out hd.below); have k1 := (blk_cell HK1.out 0).trans rfl; clear hd)
  | (
    go_at_call 76; (with_reducible refine (HCC.out _ HR1.out HK1.out).mono ?_); rintro e w2 ⟨rfl, hd⟩
    have HB2 := Aside0.mk (below_then HB1.out HB1.out.size hd.below); have HR2 := Aside0.mk (HR1.out.drawn hd); have k2 := (blk_cell (blk_below HK1.out hd.below) 0).trans rfl; clear hd hw))
 have J0 := Aside0.mk (show JD w ((w2.alloc (.cells (rowV N fun _ => 0) 3)).alloc (.cells #[.slice (some ⟨w2.heap.size, 0, none⟩) N N] 24)) w.heap.size (w2.heap.size + 1) w2.heap.size N (rowV N fun v => if v < 0 then 1 else 0) from by
  have h1 := blk_new (w2.alloc (.cells (rowV N fun _ => 0) 3)) (.cells #[.slice (some ⟨w2.heap.size, 0, none⟩) N N] 24)
  rw [World.size_alloc] at h1
  have hs := HB2.out.size
  refine ⟨h1, ?_, (HB2.out.alloc hs _).alloc (by rw [World.size_alloc]; omega) _, ⟨by omega, hs⟩, by rw [World.size_alloc, World.size_alloc]; omega⟩
  have h2 := blk_alloc (blk_new w2 (.cells (rowV N fun _ => 0) 3)) (.cells #[.slice (some ⟨w2.heap.size, 0, none⟩) N N] 24)
  exact h2)
 have HZ0 := Aside0.mk (show Below w2.heap.size w2 ((w2.alloc (.cells (rowV N fun _ => 0) 3)).alloc (.cells #[.slice (some ⟨w2.heap.size, 0, none⟩) N N] 24)) from ((Below.refl _ w2).alloc (Nat.le_refl _) _).alloc (by rw [World.size_alloc]; omega) _)
 generalize (w2.alloc (.cells (rowV N fun _ => 0) 3)).alloc (.cells #[.slice (some ⟨w2.heap.size, 0, none⟩) N N] 24) = w3 at J0 HZ0 ⊢
 clear k0 k1 k2 hmk
 go_loopw [35, 7] (fun iv _ wr => ∃ i : Nat, i ≤ N ∧ iv = .int .i64 (i : Int) ∧ Aside0 (JD w wr w.heap.size (w2.heap.size + 1) w2.heap.size N (rowV N fun v => if v < i then 1 else 0)) ∧ Aside0 (Below w2.heap.size w2 wr)) (fun iv _ _ => N - (intOf iv).toNat)
 case atStart => exact ⟨0, Nat.zero_le _, rfl, J0, HZ0⟩
 case round =>
  obtain ⟨i, hi, rfl, HJ, HZ⟩ := hrel
  by_cases hil : i < N
  ·have HI := Aside0.mk hil
   have hz : (i : Int) < (N : Int) := by omega
   have c6 := (blk_cell HJ.out.k6 0).trans rfl
   have cg := (blk_cell HJ.out.kg i).trans (rowV_get HI.out)
   have fg := blk_frozen HJ.out.kg i
   have HJn := Aside0.mk (HJ.out.set i (.int .i64 1))
   rw [rowV_put HI.out, show (fun b => if b = i then (1 : Int) else if b < i then 1 else 0) = (fun v => if v < i + 1 then 1 else 0) from by
    funext b
    by_cases e : b = i
    ·rw [if_pos e, if_pos (by omega)]
    ·rw [if_neg e]
     by_cases e2 : b < i
     ·rw [if_pos e2, if_pos (by omega)]
     ·rw [if_neg e2, if_neg (by omega)]] at HJn
   have HZn := Aside0.mk (HZ.out.setCell (p := ⟨w2.heap.size, i, none⟩) (Nat.le_refl _) (.int .i64 1))
   have hi1 := Aside0.mk (show wrap64 ((i : Int) + 1) = ((i + 1 : Nat) : Int) from nxtN (by have := HN.out; omega))
   clear hi hil
   go_wp2
   go_roundw
   ·exact ⟨i + 1, HI.out, congrArg (Value.int .i64) hi1.out, HJn, HZn⟩
   ·rw [hi1.out]; have := HI.out; simp only [intOf]; omega
  ·obtain rfl : N = i := by omega
   have HJ1 := Aside0.mk (show JD w wr w.heap.size (w2.heap.size + 1) w2.heap.size N (intsV (List.replicate N 1)) from by
    have h := HJ.out
    rw [rowV_ints, show (List.range N).map (fun v => if v < N then (1 : Int) else 0) = List.replicate N 1 from by
     apply List.ext_getElem
     ·simp
     ·intro q h1 h2
      simp at h1
      simp [h1]] at h
    exact h)
   clear hi hil HJ J0 HZ0
   go_wp2
   go_loopw [44, 9] (fun iv _ wr => ∃ (i : Nat) (rest : List Nat) (d : List Int), i ≤ m ∧ iv = .int .i64 (i : Int) ∧ Aside0 (cs.drop i = rest) ∧ Aside0 (d.length = N) ∧ Aside0 (rest.foldl incL d = degL N cs) ∧ Aside0 (∀ x, 0 ≤ d.getD x 0 ∧ d.getD x 0 ≤ 1 + (i : Int)) ∧ Aside0 (JD w wr w.heap.size (w2.heap.size + 1) w2.heap.size N (intsV d)) ∧ Aside0 (Below w2.heap.size w2 wr)) (fun iv _ _ => m - (intOf iv).toNat)
   case atStart =>
    refine ⟨0, cs, List.replicate N 1, Nat.zero_le _, rfl, ⟨rfl⟩, ⟨by simp⟩, ⟨rfl⟩, ⟨fun x => ?_⟩, HJ1, HZ⟩
    by_cases hx : x < N
    ·rw [rep_get hx]; omega
    ·rw [List.getD_eq_getElem?_getD, List.getElem?_eq_none (by simp; omega)]; simp
   case round =>
    rename World => wz
    obtain ⟨i, rest, d, hi, rfl, HD, HDL, HF, HBD, HJ, HZ2⟩ := hrel
    by_cases hil : i < m
    ·have HI := Aside0.mk hil
     have hz : (i : Int) < (m : Int) := by omega
     obtain ⟨x, rest', hrest, hxi⟩ : ∃ x rest', rest = x :: rest' ∧ cs[i]? = some x := by
      have h1 : i < cs.length := by rw [HM.out]; exact hil
      refine ⟨cs[i], cs.drop (i + 1), ?_, List.getElem?_eq_getElem h1⟩
      rw [← HD.out, List.drop_eq_getElem_cons h1]
     have HD' := Aside0.mk (show cs.drop (i + 1) = rest' from by
      have := congrArg (List.drop 1) HD.out
      rw [List.drop_drop, hrest] at this
      simpa [Nat.add_comm] using this)
     have hxN := HXC.out x (List.mem_of_getElem? hxi)
     have HXN := Aside0.mk hxN
     obtain ⟨ad, z, hz1, hA, cx⟩ := RowI.at_ (HR2.out.below HZ2.out) (i := i) (by rw [HML.out]; exact hil)
     obtain rfl : z = (x : Int) := by
      unfold natI at hz1
      rw [List.getElem?_map, hxi] at hz1
      exact (Option.some.inj hz1).symm
     subst hA
     have zx : (x : Int) < (N : Int) := by omega
     have c6 := (blk_cell HJ.out.k6 0).trans rfl
     obtain ⟨dx, HDX⟩ : ∃ dx, Aside0 (d.getD x 0 = dx) := ⟨_, ⟨rfl⟩⟩
     have cd := (blk_cell HJ.out.kg x).trans (intsV_get (by rw [HDL.out]; exact hxN))
     have fd := blk_frozen HJ.out.kg x
     rw [HDX.out] at cd
     have hbx := HBD.out x
     rw [HDX.out] at hbx
     obtain ⟨dy, HDY⟩ : ∃ dy, Aside0 (dx + 1 = dy) := ⟨_, ⟨rfl⟩⟩
     have HWX := Aside0.mk (show wrap64 (dx + 1) = dy from by rw [← HDY.out]; exact w64 (by omega) (by have := HN.out; omega))
     have HJn := Aside0.mk (HJ.out.set x (.int .i64 dy))
     rw [intsV_put] at HJn
     have HZn := Aside0.mk (HZ2.out.setCell (p := ⟨w2.heap.size, x, none⟩) (Nat.le_refl _) (.int .i64 dy))
     have HF' := Aside0.mk (show rest'.foldl incL (d.set x dy) = degL N cs from by
      have h := HF.out
      rw [hrest, List.foldl_cons] at h
      unfold incL at h
      rw [HDX.out, HDY.out] at h
      exact h)
     have HBD' := Aside0.mk (show ∀ y, 0 ≤ (d.set x dy).getD y 0 ∧ (d.set x dy).getD y 0 ≤ 1 + ((i + 1 : Nat) : Int) from by
      intro y
      rw [getD_set d x y dy (by rw [HDL.out]; exact hxN)]
      have := HBD.out y
      have := HDY.out
      split <;> omega)
     have hi1 := Aside0.mk (show wrap64 ((i : Int) + 1) = ((i + 1 : Nat) : Int) from nxtN (by have := HN.out; omega))
     clear hi hil hrest hxi hxN hz1 hbx
     have hw := HWX.out
     go_wp2
     clear hw
     go_roundw
     ·exact ⟨i + 1, rest', _, HI.out, congrArg (Value.int .i64) hi1.out, HD', ⟨by rw [List.length_set]; exact HDL.out⟩, HF', HBD', HJn, HZn⟩
     ·rw [hi1.out]; have := HI.out; simp only [intOf]; omega
    ·obtain rfl : m = i := by omega
     obtain rfl : rest = [] := by rw [← HD.out]; exact List.drop_of_length_le (by rw [HM.out]; exact Nat.le_refl _)
     obtain rfl : d = degL N cs := HF.out
     have HIV := Aside0.mk (degL_inv (N := N) (cs := cs) (by rw [HM.out]; exact HN.out.1) HXC.out)
     clear hi hil HD HDL HF HBD HJ1 HZ
     go_wp2
     have S0 := Aside0.mk (show JS w (wz.alloc (.cells #[.slice none 0 0] 22)) w.heap.size (w2.heap.size + 1) wz.heap.size w2.heap.size N (.slice none 0 0) [] (degL N cs) from
      ⟨HIV.out.len, blk_alloc HJ.out.k6 _, blk_alloc HJ.out.kg _, blk_new wz _, OwnP.nil _ _, HJ.out.bl.alloc HJ.out.hs _, ⟨HJ.out.hb.1, HJ.out.hs, HJ.out.hb.2⟩, by rw [World.size_alloc]; have := HJ.out.hs; omega⟩)
     clear HJ HZ2
     generalize wz.alloc (.cells #[.slice none 0 0] 22) = w4 at S0 ⊢
     generalize wz.heap.size = B10 at S0 ⊢
     have HIXG := Aside0.mk (fun (W : World) (vo : Value) (P : List (Int × Int)) (d : List Int) (h : JS w W w.heap.size (w2.heap.size + 1) B10 w2.heap.size N vo P d) (hl : lf d < N) => (show Calls Try.prog 79 #[.slice (some ⟨w2.heap.size, 0, none⟩) N N, .int .i64 1] W fun e w' => e = .returned (.int .i64 (lf d : Int)) ∧ w' = W from by
      have h1 := Try.slices_Index_int w2.heap.size 0 N N d 1 W (by rw [h.len]; exact Nat.le_refl _) (by have := HN.out; omega) (fun j hj => by rw [Nat.zero_add]; exact (blk_cell h.kg j).trans (intsV_get hj))
      rw [List.take_of_length_le (by rw [h.len]; exact Nat.le_refl _), idx_lf (by rw [h.len]; exact hl)] at h1
      exact h1))
     go_loopw [58, 13] (fun iv _ wr => ∃ (i : Nat) (rest : List Nat) (d : List Int) (vo : Value) (P : List (Int × Int)), i ≤ m ∧ iv = .int .i64 (i : Int) ∧ Aside0 (cs.drop i = rest) ∧ Aside0 (CInv N d rest) ∧ Aside0 (P ++ edL d rest = edL (degL N cs) cs) ∧ Aside0 (enD d rest = enD (degL N cs) cs) ∧ Aside0 (P.length = i) ∧ Aside0 (JS w wr w.heap.size (w2.heap.size + 1) B10 w2.heap.size N vo P d)) (fun iv _ _ => m - (intOf iv).toNat)
     case atStart => exact ⟨0, cs, degL N cs, _, [], Nat.zero_le _, rfl, ⟨rfl⟩, HIV, ⟨rfl⟩, ⟨rfl⟩, ⟨rfl⟩, S0⟩
     case round =>
      rename World => wy
      obtain ⟨i, rest, d, vo, P, hi, rfl, HD, HCI, HE, HEN, HPL, HS⟩ := hrel
      by_cases hil : i < m
      ·have HI := Aside0.mk hil
       have hz : (i : Int) < (m : Int) := by omega
       obtain ⟨x, rest', hrest, hxi⟩ : ∃ x rest', rest = x :: rest' ∧ cs[i]? = some x := by
        have h1 : i < cs.length := by rw [HM.out]; exact hil
        refine ⟨cs[i], cs.drop (i + 1), ?_, List.getElem?_eq_getElem h1⟩
        rw [← HD.out, List.drop_eq_getElem_cons h1]
       subst hrest
       have HD' := Aside0.mk (show cs.drop (i + 1) = rest' from by
        have := congrArg (List.drop 1) HD.out
        rw [List.drop_drop] at this
        simpa [Nat.add_comm] using this)
       obtain ⟨ad, z, hz1, hA, cx⟩ := RowI.at_ (HR.out.below HS.out.bl) (i := i) (by rw [HML.out]; exact hil)
       obtain rfl : z = (x : Int) := by
        unfold natI at hz1
        rw [List.getElem?_map, hxi] at hz1
        exact (Option.some.inj hz1).symm
       subst hA
       have hlf := lf_lt HCI.out
       have hst := HCI.out.step
       have HST := Aside0.mk hst.1
       have c6 := (blk_cell HS.out.k6 0).trans rfl
       have HIX := Aside0.mk (HIXG.out wy vo P d HS.out hlf.1)
       have HJO := Aside0.mk (show Calls Try.prog 78 #[.int .i64 (lf d : Int), .int .i64 (x : Int), .pointer (some ⟨B10, 0, none⟩), .pointer (some ⟨w2.heap.size + 1, 0, none⟩)] wy fun e w' => e = .returned (.tuple #[]) ∧ ∃ v1, JS w w' w.heap.size (w2.heap.size + 1) B10 w2.heap.size N v1 (P ++ [prP (lf d) x]) (stepL d x) from by
        have h := join_calls HS.out (lf d) x hlf.1 hst.2.2 (HCI.out.bd (by have := congrArg List.length HD.out; rw [List.length_drop, HM.out] at this; have := HN.out; omega)) (by rw [HPL.out]; have := HN.out; omega)
        rw [dec_step HCI.out] at h
        exact h)
       have HE' := Aside0.mk (show (P ++ [prP (lf d) x]) ++ edL (stepL d x) rest' = edL (degL N cs) cs from by rw [← HE.out, List.append_assoc]; rfl)
       have HEN' := Aside0.mk (show enD (stepL d x) rest' = enD (degL N cs) cs from HEN.out)
       have hi1 := Aside0.mk (show wrap64 ((i : Int) + 1) = ((i + 1 : Nat) : Int) from nxtN (by have := HN.out; omega))
       clear hi hil hxi hz1 hlf hst
       go_wp2_with (first
        | (go_at_call 79; (with_reducible refine HIX.out.mono ?_); rintro e w5 ⟨rfl, rfl⟩)
        | (
          go_at_call 78; (with_reducible refine HJO.out.mono ?_); rintro e w6 ⟨rfl, v1, hjs⟩
          have HSn := Aside0.mk hjs; clear hjs))
       go_roundw
       ·exact ⟨i + 1, rest', _, _, _, HI.out, congrArg (Value.int .i64) hi1.out, HD', HST, HE', HEN', ⟨by rw [List.length_append, HPL.out]; rfl⟩, HSn⟩
       ·rw [hi1.out]; have := HI.out; simp only [intOf]; omega
      ·obtain rfl : m = i := by omega
       obtain rfl : rest = [] := by rw [← HD.out]; exact List.drop_of_length_le (by rw [HM.out]; exact Nat.le_refl _)
       have HEE := Aside0.mk (show P ++ [lastE d] = treeE N cs from by
        have h1 := HE.out
        have h2 := HEN.out
        rw [edL, List.append_nil] at h1
        unfold treeE
        rw [← h1, ← h2]
        rfl)
       have htw := HCI.out.two
       have hlf := lf_lt HCI.out
       have c6 := (blk_cell HS.out.k6 0).trans rfl
       have HIX1 := Aside0.mk (HIXG.out wy vo P d HS.out hlf.1)
       have ca := (blk_cell HS.out.kg (lf d)).trans (intsV_get (by rw [HS.out.len]; exact hlf.1))
       have fa := blk_frozen HS.out.kg (lf d)
       rw [hlf.2.1] at ca
       have za : (lf d : Int) < (N : Int) := by omega
       have S1 := Aside0.mk (HS.out.set (lf d) 0)
       have c61 := (blk_cell S1.out.k6 0).trans rfl
       have HIX2 := Aside0.mk (HIXG.out _ vo P (d.set (lf d) 0) S1.out htw.2.1)
       have cb := (blk_cell S1.out.kg (lf d)).trans (intsV_get (by rw [S1.out.len]; exact hlf.1))
       have fb := blk_frozen S1.out.kg (lf d)
       rw [getD_set d (lf d) (lf d) 0 (by rw [HS.out.len]; exact hlf.1), if_pos rfl] at cb
       have S2 := Aside0.mk (S1.out.set (lf d) 1)
       have hdd : (d.set (lf d) 0).set (lf d) 1 = d := by
        rw [List.set_set]
        apply List.ext_getElem?
        intro q
        rw [List.getElem?_set]
        by_cases e : lf d = q
        ·subst e
         have h1 : lf d < d.length := by rw [HS.out.len]; exact hlf.1
         have h2 := hlf.2.1
         rw [List.getD_eq_getElem?_getD, List.getElem?_eq_getElem h1] at h2
         rw [if_pos rfl, if_pos h1, List.getElem?_eq_getElem h1]
         exact congrArg some h2.symm
        ·rw [if_neg e]
       rw [hdd] at S2
       have HJO := Aside0.mk (join_calls S2.out (lf d) (lf (d.set (lf d) 0)) hlf.1 htw.2.1 (HCI.out.bd (by simp)) (by rw [HPL.out]; have := HN.out; omega))
       have hww : wrap64 (1 - 1) = 0 := by unfold wrap64; rfl
       have hww2 : wrap64 (0 + 1) = 1 := by unfold wrap64; rfl
       clear hi hil htw hlf hdd
       go_wp2_with (first
        | (go_at_call 79; (with_reducible refine HIX1.out.mono ?_); rintro e w5 ⟨rfl, rfl⟩)
        | (go_at_call 79; (with_reducible refine HIX2.out.mono ?_); rintro e w5 ⟨rfl, rfl⟩)
        | (
          go_at_call 78; (with_reducible refine HJO.out.mono ?_); rintro e w6 ⟨rfl, v1, hjs⟩
          have hlen : (P ++ [prP (lf d) (lf (d.set (lf d) 0))]).length = m + 1 := by rw [List.length_append, HPL.out]; rfl
          obtain ⟨g1, cap1, ev⟩ := hjs.own.succ (by simp)
          have HSn := Aside0.mk hjs
          subst ev
          obtain ⟨_, _, hg1, hcap, _, _⟩ := hjs.own.cell
          have HGC := Aside0.mk (And.intro hg1 (show m + 1 ≤ cap1 by omega))
          have HSO := Aside0.mk (sortP_calls (P ++ [prP (lf d) (lf (d.set (lf d) 0))]) w6 hjs.own (by have := HN.out; omega))
          have c10 := (blk_cell hjs.k10 0).trans rfl
          rw [hlen] at HSO c10
          clear hjs hlen hg1 hcap)
        | (
          go_at_call 80; (with_reducible refine HSO.out.mono ?_); rintro e w7 ⟨rfl, P', hp, hs, hrow, hg⟩
          have c11 := (blk_cell (blk_grown HSn.out.k10 hg (by have h := OwnP.ne HSn.out.own HSn.out.k10 (by decide); simpa [Value.ownBlock] using h)) 0).trans rfl
          rw [show (P ++ [prP (lf d) (lf (d.set (lf d) 0))]).length = m + 1 from by rw [List.length_append, HPL.out]; rfl] at c11
          have HP' := Aside0.mk hp; have HSP := Aside0.mk hs; have HRW := Aside0.mk hrow; have HGR := Aside0.mk hg
          clear hp hs hrow hg))
       go_ret2
       refine ⟨_, _, rfl, HGC.out.2, ?_, HSn.out.bl.grown HGR.out HSn.out.hs (fun j hj => by cases hj; exact HGC.out.1)⟩
       have hT := foldP (treeE N cs) [] List.Pairwise.nil
       have e1 : P' = treeL N cs := sortedP_one HSP.out hT.1 (HP'.out.trans (by
        have h2 := hT.2
        rw [List.nil_append] at h2
        refine List.Perm.trans ?_ h2.symm
        rw [← HEE.out]
        exact List.Perm.refl _))
       rw [← e1]
       exact HRW.out
end Go.Proofs.Ytcploeijeedmdaa.X
namespace Go.Proofs.Ytcploeijeedmdaa.X
open Go.RowKit Go.Shelf Go.Proofs.YtcploeijeedmdaaW.PrintWords Go.Proofs.YtcploeijeedmdaaW.PrintLast Go.Proofs.Ytcploeijeedmdaa.S
set_option linter.unusedVariables false
set_option linter.unusedSimpArgs false
theorem min2_mnE (k k' : IntKind) (x y : Int) : Builtin.min2 (.int k x) (.int k' y) = pure (.int k (mn x y)) := min2_int k k' x y
theorem max2_mxE (k k' : IntKind) (x y : Int) : Builtin.max2 (.int k x) (.int k' y) = pure (.int k (mx x y)) := max2_int k k' x y
attribute [local go_sem] min2_mnE max2_mxE max_two min_two
theorem prP_mn (a b : Nat) : prP a b = (mn (a : Int) (b : Int), mx (a : Int) (b : Int)) := by
 unfold prP mn mx
 by_cases h : b < a
 ·rw [if_pos h, if_pos (by omega), if_neg (by omega)]
 ·rw [if_neg h, if_neg (by omega)]
  by_cases h2 : a < b
  ·rw [if_pos (by omega)]
  ·obtain rfl : a = b := by omega
   rw [if_neg (by omega)]
def KP : Kd (Int × Int) := Kd.pair (Kd.int .i64) (Kd.int .i64)
theorem KP_M {W : World} {base : Nat} {ok : Nat → Prop} {p : Int × Int} {cs : List Value} (h : cs = encP p) : KP.M W base ok p cs := ⟨[.int .i64 p.1], [.int .i64 p.2], h, rfl, rfl⟩
theorem KP_M' {W : World} {base : Nat} {ok : Nat → Prop} {p : Int × Int} {cs : List Value} (h : KP.M W base ok p cs) : cs = encP p := by
 obtain ⟨c0, c1, rfl, h0, h1⟩ := h
 have h0 : c0 = [.int .i64 p.1] := h0
 have h1 : c1 = [.int .i64 p.2] := h1
 rw [h0, h1]
 rfl
theorem reps_flat : ∀ (Q : List (Int × Int)), Reps (fun (p : Int × Int) cs => cs = encP p) 2 Q (Q.flatMap encP) := by
 intro Q
 refine ⟨flatP_len Q, fun j p hj => ?_⟩
 obtain ⟨h1, h2⟩ := flatP_get Q j p hj
 obtain ⟨l1, e1⟩ := List.getElem?_eq_some_iff.1 h1
 obtain ⟨l2, e2⟩ := List.getElem?_eq_some_iff.1 h2
 rw [List.drop_eq_getElem_cons l1, List.drop_eq_getElem_cons l2, e1, e2]
 rfl
theorem reps_flat' {Q : List (Int × Int)} {inner : List Value} (h : Reps (fun (p : Int × Int) cs => cs = encP p) 2 Q inner) : inner = Q.flatMap encP := by
 apply List.ext_getElem?
 intro t
 by_cases ht : t < Q.length * 2
 ·have hi : t / 2 < Q.length := by omega
  have h3 := h.2 (t / 2) _ (List.getElem?_eq_getElem hi)
  obtain ⟨h1, h2⟩ := flatP_get Q (t / 2) _ (List.getElem?_eq_getElem hi)
  have g0 : ((inner.drop (t / 2 * 2)).take 2)[0]? = (encP Q[t / 2])[0]? := by rw [h3]
  have g1 : ((inner.drop (t / 2 * 2)).take 2)[1]? = (encP Q[t / 2])[1]? := by rw [h3]
  rw [List.getElem?_take_of_lt (by omega), List.getElem?_drop] at g0 g1
  rcases Nat.mod_two_eq_zero_or_one t with hm | hm
  ·have e : t / 2 * 2 + 0 = t := by omega
   have e' : t / 2 * 2 = t := by omega
   rw [e] at g0
   rw [e'] at h1
   rw [g0, h1]
   rfl
  ·have e : t / 2 * 2 + 1 = t := by omega
   rw [e] at g1 h2
   rw [g1, h2]
   rfl
 ·rw [List.getElem?_eq_none (by rw [h.1]; omega), List.getElem?_eq_none (by rw [flatP_len]; omega)]
theorem OwnP.toR {W : World} {base : Nat} {v : Value} {Q : List (Int × Int)} (h : OwnP W base v Q) : KP.R 54 W base (fun _ => True) v Q :=
 ⟨fun _ _ => trivial, Q.flatMap encP, h, (reps_flat Q).imp_ (fun _ _ hp => KP_M hp)⟩
theorem OwnP.ofR {W : World} {base : Nat} {ok : Nat → Prop} {v : Value} {Q : List (Int × Int)} (h : KP.R 54 W base ok v Q) : OwnP W base v Q := by
 obtain ⟨_, inner, ho, hr⟩ := h
 have : inner = Q.flatMap encP := reps_flat' (hr.imp_ (fun _ _ hp => KP_M' hp))
 rw [this] at ho
 exact ho
theorem RowP.reads {W : World} {A : Option Addr} {Q : List (Int × Int)} (h : RowP W A Q) : ReadsRow (fun (p : Int × Int) cs => cs = encP p) 2 W A Q.length Q := by
 refine ⟨rfl, h.len, fun h0 => ?_⟩
 obtain ⟨b, o', e, _⟩ := h.row 0 Q[0] (List.getElem?_eq_getElem h0)
 refine ⟨_, e, fun j p hj => ⟨encP p, rfl, rfl, fun i u hi => ?_⟩⟩
 obtain ⟨b', o2, e', h1, h2⟩ := h.row j p hj
 rw [e] at e'
 cases e'
 rw [Addr.add_lit]
 cases i with
 | zero => simp [encP] at hi; subst hi; exact h1
 | succ i =>
  cases i with
  | zero => simp [encP] at hi; subst hi; exact h2
  | succ i => simp [encP] at hi
theorem RowP.take {W : World} {A : Option Addr} {Q : List (Int × Int)} (h : RowP W A Q) (k : Nat) : RowP W A (Q.take k) := by
 refine ⟨by have := h.len; rw [List.length_take]; omega, fun i p hi => h.row i p ?_⟩
 rw [List.getElem?_take] at hi
 split at hi
 ·exact hi
 ·cases hi
theorem RowP.drop {W : World} {b o' : Nat} {Q : List (Int × Int)} (h : RowP W (some ⟨b, o', none⟩) Q) (k : Nat) : RowP W (some ⟨b, o' + k * 2, none⟩) (Q.drop k) := by
 refine ⟨by have := h.len; rw [List.length_drop]; omega, fun i p hi => ?_⟩
 rw [List.getElem?_drop] at hi
 obtain ⟨b', o2, e, h1, h2⟩ := h.row (k + i) p hi
 cases e
 refine ⟨b, _, rfl, ?_, ?_⟩
 ·rw [show o' + k * 2 + i * 2 = o' + (k + i) * 2 by omega]; exact h1
 ·rw [show o' + k * 2 + i * 2 + 1 = o' + (k + i) * 2 + 1 by omega]; exact h2
theorem append_pairs {ops : Array Oper} {o : Oper} {rest : List Oper} {a : Act} {Q : Exit → Act → World → Prop} {w0 W : World} {base : Nat} (hgd : o.guard = none) (s x : Operand)
  (ho : o.op = .call { callee := .builtin .append, args := #[s, x], argTypes := #[22, 22] }) (v : Value) (xs ys : List (Int × Int)) (A : Option Addr) (m c : Nat) (hm : ys.length = m)
  (HO : OwnP W base v xs) (HR : RowP W A ys) (HB : Below base w0 W) (hbase : base ≤ W.heap.size) (hl : xs.length + m ≤ 2000) (hs : a.eval s = v) (hx : a.eval x = .slice A m c)
  (h : ∀ v1 w1, OwnP w1 base v1 (xs ++ ys) → Below base w0 w1 → W.grownBy w1 v.ownBlock → wpList Try.prog ops Q rest (a.put o.dst v1) w1) :
  wpList Try.prog ops Q (o :: rest) a W := by
 subst hm
 refine Kd.R_append_rows KP (Rr := fun (p : Int × Int) cs => cs = encP p) (w0 := w0) base hgd s x 22 54 (.agg #[.int .i64 0, .int .i64 0]) 16 ho Try.underlying22 info54 rfl (by decide) (by decide) v xs ys A ys.length c (fun _ => True) (fun _ => False) hs hx HO.toR HR.reads (fun p cs h => KP_M h) (fun k hk => hk.elim) (fun _ _ => trivial) HB hbase (by omega) ?_
 intro v1 w1 h1 h2 h3 _
 exact h v1 w1 (OwnP.ofR h1) h2 h3
theorem takeP_len (p : Int × Int → Bool) : ∀ (l : List (Int × Int)) (j : Nat), (∀ (i : Nat) (x : Int × Int), i < j → l[i]? = some x → p x = true) → (∀ x : Int × Int, l[j]? = some x → p x = false) → j ≤ l.length → l.takeWhile p = l.take j ∧ l.dropWhile p = l.drop j := by
 intro l
 induction l with
 | nil => intro j _ _ hj; simp at hj; subst hj; simp
 | cons a l ih =>
  intro j h1 h2 hj
  cases j with
  | zero =>
   have := h2 a (by simp)
   simp [List.takeWhile_cons, List.dropWhile_cons, this]
  | succ j =>
   have ha := h1 0 a (by omega) (by simp)
   obtain ⟨e1, e2⟩ := ih j (fun i x hi hl => h1 (i + 1) x (by omega) (by simpa using hl)) (fun x hl => h2 x (by simpa using hl)) (by simpa using hj)
   simp [List.takeWhile_cons, List.dropWhile_cons, ha, e1, e2]
theorem drop_pairs (b o' n c k : Nat) (hk : k ≤ n) (hc : n ≤ c) : ∃ A' : Option Addr, (∀ W : World, (Instr.slice 22 (.slice (some ⟨b, o', none⟩) n c) (some (.int .i64 (k : Int))) none none).run Try.prog W = .ok (.slice A' (n - k) (c - k)) W) ∧
  ∀ (W : World) (Q : List (Int × Int)), Q.length = n → RowP W (some ⟨b, o', none⟩) Q → RowP W A' (Q.drop k) := by
 refine ⟨if c = k then some ⟨b, o', none⟩ else some ⟨b, o' + k * 2, none⟩, fun W => ?_, fun W Q hQ h => ?_⟩
 ·have hel : Try.prog.elem 22 = 54 := by simp [Program.elem, Try.underlying22]
  have hu : Try.prog.underlying 22 = some (.slice (Try.prog.elem 22)) := by rw [hel]; exact Try.underlying22
  rw [run_slice_l W 22 (some ⟨b, o', none⟩) n c hu .i64 (k : Int) (by omega) (by omega), hel]
  simp [Try.sizeOf54, sliced, Result.andThen]
  by_cases e : c = k <;> simp [e, Addr.add_lit]
 ·by_cases e : c = k
  ·rw [if_pos e, List.drop_of_length_le (by omega)]
   exact ⟨by simp, fun i p hi => by simp at hi⟩
  ·rw [if_neg e]
   exact h.drop k
theorem insP_at {Q : List (Int × Int)} {e : Int × Int} {k : Nat} (hk : k ≤ Q.length) (h1 : ∀ (i : Nat) (x : Int × Int), i < k → Q[i]? = some x → ltP x e = true) (h2 : ∀ x : Int × Int, Q[k]? = some x → ltP x e = false) : Q.take k ++ [e] ++ Q.drop k = insP Q e := by
 obtain ⟨e1, e2⟩ := takeP_len (fun x => ltP x e) Q k h1 h2 hk
 unfold insP
 rw [e1, e2, List.append_assoc]
 rfl
set_option maxHeartbeats 8000000 in
set_option maxRecDepth 100000 in
theorem edge_calls {n : Nat} (b0 o0 : Nat) (c : Nat) (Q : List (Int × Int)) (a b : Nat) (w : World) (hr : RowP w (some ⟨b0, o0, none⟩) Q) (hn : Q.length = n) (hn2 : n ≤ 800) (hc : n ≤ c) :
  Calls Try.prog 83 #[.slice (some ⟨b0, o0, none⟩) n c, .int .i64 (a : Int), .int .i64 (b : Int)] w fun e w' => ∃ v, e = .returned v ∧ OwnP w' w.heap.size v (insP Q (prP a b)) ∧ Below w.heap.size w w' := by
 have HR := Aside0.mk hr
 have HN := Aside0.mk hn
 have HN2 := Aside0.mk hn2
 have HC := Aside0.mk hc
 clear hr hn hn2 hc
 have HPR := Aside0.mk (prP_mn a b)
 go_enter Try.func83, Try.ntmps83
 go_wp2
 have HE := Aside0.mk (blk_new w (.cells #[.int .i64 (mn (a : Int) (b : Int)), .int .i64 (mx (a : Int) (b : Int))] 54))
 have HB := Aside0.mk ((Below.refl w.heap.size w).alloc (Nat.le_refl _) (.cells #[.int .i64 (mn (a : Int) (b : Int)), .int .i64 (mx (a : Int) (b : Int))] 54))
 generalize w.alloc (.cells #[.int .i64 (mn (a : Int) (b : Int)), .int .i64 (mx (a : Int) (b : Int))] 54) = w1 at HE HB ⊢
 generalize hg1 : (mn (a : Int) (b : Int)) = p1 at HPR HE ⊢
 generalize hg2 : (mx (a : Int) (b : Int)) = p2 at HPR HE ⊢
 clear hg1 hg2
 go_loopw [8] (fun kv wr => ∃ k : Nat, k ≤ n ∧ kv = .int .i64 (k : Int) ∧ Aside0 (∀ (i : Nat) (x : Int × Int), i < k → Q[i]? = some x → ltP x (p1, p2) = true) ∧ Aside0 (Below w.heap.size w wr) ∧ Aside0 (wr.heap[w.heap.size]? = some (.cells #[.int .i64 p1, .int .i64 p2] 54 (0, 0)))) (fun kv _ => n - (intOf kv).toNat)
 case atStart => exact ⟨0, Nat.zero_le _, rfl, ⟨fun i x h => absurd h (Nat.not_lt_zero _)⟩, HB, HE⟩
 case round =>
  obtain ⟨k, hk, rfl, HLT, HBr, HEr⟩ := hrel
  have u0 := (blk_cell HEr.out 0).trans rfl
  have u1 := (blk_cell HEr.out 1).trans rfl
  by_cases hkn : k < n
  ·have HK := Aside0.mk hkn
   have hz : (k : Int) < (n : Int) := by omega
   obtain ⟨x, y, hq⟩ : ∃ x y, Q[k]? = some (x, y) := ⟨_, _, List.getElem?_eq_getElem (by rw [HN.out]; exact hkn)⟩
   obtain ⟨b', o', hA, z1, z2⟩ := (HR.out.below HBr.out).row k (x, y) hq
   cases hA
   simp only at z1 z2
   by_cases hlt : x < p1 ∨ (x = p1 ∧ y < p2)
   ·have HLT' := Aside0.mk (show ∀ (i : Nat) (x : Int × Int), i < k + 1 → Q[i]? = some x → ltP x (p1, p2) = true from fun i z hi hzz => by
     by_cases e : i = k
     ·rw [e, hq] at hzz
      cases hzz
      exact ltP_iff.2 hlt
     ·exact HLT.out i z (by omega) hzz)
    have hi1 := Aside0.mk (show wrap64 ((k : Int) + 1) = ((k + 1 : Nat) : Int) from nxtN (by have := HN2.out; omega))
    rcases hlt with hlt | ⟨hlt, hlt2⟩
    ·have f1 : (x < p1) = True := eq_true hlt
     have f2 : decide (x < p1) = true := decide_eq_true hlt
     clear hk hkn hlt hq
     go_wp2
     go_quiet (fail)
     have HBq := Aside0.mk (pw_below_drewN HBr.out nq)
     have HEq := Aside0.mk (blk_below HEr.out (pw_below_drewN (Below.refl _ _) nq))
     go_wp2
     go_roundw
     ·exact ⟨k + 1, HK.out, congrArg (Value.int .i64) hi1.out, HLT', HBq, HEq⟩
     ·rw [hi1.out]; have := HK.out; simp only [intOf]; omega
    ·have f1 : (x < p1) = False := eq_false (by omega)
     have f2 : decide (x < p1) = false := decide_eq_false (by omega)
     have f3 : (x = p1) = True := eq_true hlt
     have f4 : (x == p1) = true := beq_iff_eq.2 hlt
     have f5 : (y < p2) = True := eq_true hlt2
     have f6 : decide (y < p2) = true := decide_eq_true hlt2
     clear hk hkn hlt hlt2 hq
     go_wp2
     go_quiet (fail)
     have HBq := Aside0.mk (pw_below_drewN HBr.out nq)
     have HEq := Aside0.mk (blk_below HEr.out (pw_below_drewN (Below.refl _ _) nq))
     go_wp2
     go_roundw
     ·exact ⟨k + 1, HK.out, congrArg (Value.int .i64) hi1.out, HLT', HBq, HEq⟩
     ·rw [hi1.out]; have := HK.out; simp only [intOf]; omega
   ·have HEQ := Aside0.mk (insP_at (Q := Q) (e := (p1, p2)) (k := k) (by rw [HN.out]; omega) HLT.out (fun z hz => by rw [hq] at hz; cases hz; rw [ltP_not]; show ¬ (x < p1 ∨ (x = p1 ∧ y < p2)); omega))
    have zk : (k : Int) ≤ (c : Int) := by have := HC.out; omega
    have zk2 : (k : Int) ≤ (n : Int) := by omega
    have f1 : (x < p1) = False := eq_false (by omega)
    have f2 : decide (x < p1) = false := decide_eq_false (by omega)
    by_cases hxe : x = p1
    ·have f3 : (x = p1) = True := eq_true hxe
     have f4 : (x == p1) = true := beq_iff_eq.2 hxe
     have f5 : (y < p2) = False := eq_false (by omega)
     have f6 : decide (y < p2) = false := decide_eq_false (by omega)
     clear hk hkn hlt hxe hq
     go_wp2
     go_quiet (fail)
     have HBq := Aside0.mk (pw_below_drewN HBr.out nq)
     have HEq := Aside0.mk (blk_below HEr.out (pw_below_drewN (Below.refl _ _) nq))
     clear u0 u1 z1 z2
     obtain ⟨A', hcut, hcr⟩ := drop_pairs b0 o0 n c k (by have := HK.out; omega) HC.out
     have HCR := Aside0.mk hcr
     clear hcr
     go_wp2_with (first
      | (
        (with_reducible refine gate_builtin (b := .append) (xs := #[.tmp 53, .tmp 56]) rfl ?_); at_builtin
        refine append_pairs (w0 := w) (base := w.heap.size) rfl (.tmp 53) (.tmp 56) rfl (.slice none 0 0) [] (Q.take k) (some ⟨b0, o0, none⟩) k c (by rw [List.length_take, HN.out]; have := HN2.out; omega) (OwnP.nil _ _) ((HR.out.below HBq.out).take k) HBq.out HBq.out.size (by have := HN2.out; simp; omega) (by rfl) (by rfl) ?_
        intro v1 w5 h1 h2 h3
        have O1 := Aside0.mk (show OwnP w5 w.heap.size v1 (Q.take k) from h1)
        have B1 := Aside0.mk h2
        have E1 := Aside0.mk (blk_grown HEq.out h3 (by simp [Value.ownBlock]))
        have y0 := (blk_cell E1.out 0).trans rfl
        have y1 := (blk_cell E1.out 1).trans rfl
        clear h1 h2 h3)
      | (
        (with_reducible refine gate_builtin (b := .append) (xs := #[.tmp 58, .tmp 60]) rfl ?_); at_builtin
        refine append_pair (w0 := w) (base := w.heap.size) (P := Q.take k) rfl (.tmp 58) (.tmp 60) rfl _ (p1, p2) O1.out B1.out B1.out.size (by rw [List.length_take]; have := HN.out; have := HN2.out; omega) (by rfl) (by rfl) ?_
        intro v2 w6 h1 h2 h3
        have O2 := Aside0.mk h1
        have B2 := Aside0.mk h2
        clear h1 h2 h3)
      | (
        (with_reducible refine gate_builtin (b := .append) (xs := #[.tmp 62, .tmp 65]) rfl ?_); at_builtin
        refine append_pairs (w0 := w) (base := w.heap.size) rfl (.tmp 62) (.tmp 65) rfl _ (Q.take k ++ [(p1, p2)]) (Q.drop k) _ _ _ (by rw [List.length_drop, HN.out]) O2.out (HCR.out _ Q HN.out (HR.out.below B2.out)) B2.out B2.out.size (by rw [List.length_append, List.length_take]; have := HN.out; have := HN2.out; simp; omega) (by rfl) (by rfl) ?_
        intro v3 w7 h1 h2 h3
        have O3 := Aside0.mk h1
        have B3 := Aside0.mk h2
        clear h1 h2 h3))
     go_ret
     exact ⟨_, rfl, by rw [HPR.out, ← HEQ.out]; exact O3.out, B3.out⟩
    ·have f3 : (x = p1) = False := eq_false hxe
     have f4 : (x == p1) = false := beq_eq_false_iff_ne.2 hxe
     clear hk hkn hlt hxe hq
     go_wp2
     go_quiet (fail)
     have HBq := Aside0.mk (pw_below_drewN HBr.out nq)
     have HEq := Aside0.mk (blk_below HEr.out (pw_below_drewN (Below.refl _ _) nq))
     clear u0 u1 z1 z2
     obtain ⟨A', hcut, hcr⟩ := drop_pairs b0 o0 n c k (by have := HK.out; omega) HC.out
     have HCR := Aside0.mk hcr
     clear hcr
     go_wp2_with (first
      | (
        (with_reducible refine gate_builtin (b := .append) (xs := #[.tmp 53, .tmp 56]) rfl ?_); at_builtin
        refine append_pairs (w0 := w) (base := w.heap.size) rfl (.tmp 53) (.tmp 56) rfl (.slice none 0 0) [] (Q.take k) (some ⟨b0, o0, none⟩) k c (by rw [List.length_take, HN.out]; have := HN2.out; omega) (OwnP.nil _ _) ((HR.out.below HBq.out).take k) HBq.out HBq.out.size (by have := HN2.out; simp; omega) (by rfl) (by rfl) ?_
        intro v1 w5 h1 h2 h3
        have O1 := Aside0.mk (show OwnP w5 w.heap.size v1 (Q.take k) from h1)
        have B1 := Aside0.mk h2
        have E1 := Aside0.mk (blk_grown HEq.out h3 (by simp [Value.ownBlock]))
        have y0 := (blk_cell E1.out 0).trans rfl
        have y1 := (blk_cell E1.out 1).trans rfl
        clear h1 h2 h3)
      | (
        (with_reducible refine gate_builtin (b := .append) (xs := #[.tmp 58, .tmp 60]) rfl ?_); at_builtin
        refine append_pair (w0 := w) (base := w.heap.size) (P := Q.take k) rfl (.tmp 58) (.tmp 60) rfl _ (p1, p2) O1.out B1.out B1.out.size (by rw [List.length_take]; have := HN.out; have := HN2.out; omega) (by rfl) (by rfl) ?_
        intro v2 w6 h1 h2 h3
        have O2 := Aside0.mk h1
        have B2 := Aside0.mk h2
        clear h1 h2 h3)
      | (
        (with_reducible refine gate_builtin (b := .append) (xs := #[.tmp 62, .tmp 65]) rfl ?_); at_builtin
        refine append_pairs (w0 := w) (base := w.heap.size) rfl (.tmp 62) (.tmp 65) rfl _ (Q.take k ++ [(p1, p2)]) (Q.drop k) _ _ _ (by rw [List.length_drop, HN.out]) O2.out (HCR.out _ Q HN.out (HR.out.below B2.out)) B2.out B2.out.size (by rw [List.length_append, List.length_take]; have := HN.out; have := HN2.out; simp; omega) (by rfl) (by rfl) ?_
        intro v3 w7 h1 h2 h3
        have O3 := Aside0.mk h1
        have B3 := Aside0.mk h2
        clear h1 h2 h3))
     go_ret
     exact ⟨_, rfl, by rw [HPR.out, ← HEQ.out]; exact O3.out, B3.out⟩
  ·obtain rfl : n = k := by omega
   have HEQ := Aside0.mk (insP_at (Q := Q) (e := (p1, p2)) (k := n) (by rw [HN.out]; exact Nat.le_refl _) HLT.out (fun z hz => by have := (List.getElem?_eq_some_iff.1 hz).1; have := HN.out; omega))
   have zk : (n : Int) ≤ (c : Int) := by have := HC.out; omega
   clear hk hkn
   go_wp2
   go_quiet (fail)
   have HBq := Aside0.mk (pw_below_drewN HBr.out nq)
   have HEq := Aside0.mk (blk_below HEr.out (pw_below_drewN (Below.refl _ _) nq))
   clear u0 u1
   obtain ⟨A', hcut, hcr⟩ := drop_pairs b0 o0 n c n (by have := HN.out; omega) HC.out
   have HCR := Aside0.mk hcr
   clear hcr
   rw [Nat.sub_self] at hcut
   go_wp2_with (first
    | (
      (with_reducible refine gate_builtin (b := .append) (xs := #[.tmp 53, .tmp 56]) rfl ?_); at_builtin
      refine append_pairs (w0 := w) (base := w.heap.size) rfl (.tmp 53) (.tmp 56) rfl (.slice none 0 0) [] (Q.take n) (some ⟨b0, o0, none⟩) n c (by rw [List.length_take, HN.out]; have := HN2.out; omega) (OwnP.nil _ _) ((HR.out.below HBq.out).take n) HBq.out HBq.out.size (by have := HN2.out; simp; omega) (by rfl) (by rfl) ?_
      intro v1 w5 h1 h2 h3
      have O1 := Aside0.mk (show OwnP w5 w.heap.size v1 (Q.take n) from h1)
      have B1 := Aside0.mk h2
      have E1 := Aside0.mk (blk_grown HEq.out h3 (by simp [Value.ownBlock]))
      have y0 := (blk_cell E1.out 0).trans rfl
      have y1 := (blk_cell E1.out 1).trans rfl
      clear h1 h2 h3)
    | (
      (with_reducible refine gate_builtin (b := .append) (xs := #[.tmp 58, .tmp 60]) rfl ?_); at_builtin
      refine append_pair (w0 := w) (base := w.heap.size) (P := Q.take n) rfl (.tmp 58) (.tmp 60) rfl _ (p1, p2) O1.out B1.out B1.out.size (by rw [List.length_take]; have := HN.out; have := HN2.out; omega) (by rfl) (by rfl) ?_
      intro v2 w6 h1 h2 h3
      have O2 := Aside0.mk h1
      have B2 := Aside0.mk h2
      clear h1 h2 h3)
    | (
      (with_reducible refine gate_builtin (b := .append) (xs := #[.tmp 62, .tmp 65]) rfl ?_); at_builtin
      refine append_pairs (w0 := w) (base := w.heap.size) rfl (.tmp 62) (.tmp 65) rfl _ (Q.take n ++ [(p1, p2)]) (Q.drop n) _ 0 _ (by rw [List.length_drop, HN.out]; exact Nat.sub_self _) O2.out (HCR.out _ Q HN.out (HR.out.below B2.out)) B2.out B2.out.size (by rw [List.length_append, List.length_take]; have := HN.out; have := HN2.out; simp; omega) (by rfl) (by rfl) ?_
      intro v3 w7 h1 h2 h3
      have O3 := Aside0.mk h1
      have B3 := Aside0.mk h2
      clear h1 h2 h3))
   go_ret
   exact ⟨_, rfl, by rw [HPR.out, ← HEQ.out]; exact O3.out, B3.out⟩
theorem RowP.nil (W : World) (A : Option Addr) : RowP W A [] := ⟨by simp, fun i p hi => by simp at hi⟩
set_option maxHeartbeats 4000000 in
set_option maxRecDepth 100000 in
theorem edge_nil (a b : Nat) (w : World) :
  Calls Try.prog 83 #[.slice none 0 0, .int .i64 (a : Int), .int .i64 (b : Int)] w fun e w' => ∃ v, e = .returned v ∧ OwnP w' w.heap.size v (insP [] (prP a b)) ∧ Below w.heap.size w w' := by
 have HPR := Aside0.mk (prP_mn a b)
 go_enter Try.func83, Try.ntmps83
 go_wp2
 have HE := Aside0.mk (blk_new w (.cells #[.int .i64 (mn (a : Int) (b : Int)), .int .i64 (mx (a : Int) (b : Int))] 54))
 have HB := Aside0.mk ((Below.refl w.heap.size w).alloc (Nat.le_refl _) (.cells #[.int .i64 (mn (a : Int) (b : Int)), .int .i64 (mx (a : Int) (b : Int))] 54))
 generalize w.alloc (.cells #[.int .i64 (mn (a : Int) (b : Int)), .int .i64 (mx (a : Int) (b : Int))] 54) = w1 at HE HB ⊢
 generalize hg1 : (mn (a : Int) (b : Int)) = p1 at HPR HE ⊢
 generalize hg2 : (mx (a : Int) (b : Int)) = p2 at HPR HE ⊢
 clear hg1 hg2
 go_loopw [8] (fun kv wr => kv = .int .i64 0 ∧ Aside0 (Below w.heap.size w wr) ∧ Aside0 (wr.heap[w.heap.size]? = some (.cells #[.int .i64 p1, .int .i64 p2] 54 (0, 0)))) (fun kv _ => 0)
 case atStart => exact ⟨rfl, HB, HE⟩
 case round =>
  obtain ⟨rfl, HBr, HEr⟩ := hrel
  go_wp2
  go_quiet (fail)
  have HBq := Aside0.mk (pw_below_drewN HBr.out nq)
  have HEq := Aside0.mk (blk_below HEr.out (pw_below_drewN (Below.refl _ _) nq))
  go_wp2_with (first
   | (
     (with_reducible refine gate_builtin (b := .append) (xs := #[.tmp 53, .tmp 56]) rfl ?_); at_builtin
     refine append_pairs (w0 := w) (base := w.heap.size) rfl (.tmp 53) (.tmp 56) rfl (.slice none 0 0) [] [] none 0 0 rfl (OwnP.nil _ _) (RowP.nil _ _) HBq.out HBq.out.size (by simp) (by rfl) (by rfl) ?_
     intro v1 w5 h1 h2 h3
     have O1 := Aside0.mk (show OwnP w5 w.heap.size v1 [] from h1)
     have B1 := Aside0.mk h2
     have E1 := Aside0.mk (blk_grown HEq.out h3 (by simp [Value.ownBlock]))
     have y0 := (blk_cell E1.out 0).trans rfl
     have y1 := (blk_cell E1.out 1).trans rfl
     clear h1 h2 h3)
   | (
     (with_reducible refine gate_builtin (b := .append) (xs := #[.tmp 58, .tmp 60]) rfl ?_); at_builtin
     refine append_pair (w0 := w) (base := w.heap.size) (P := []) rfl (.tmp 58) (.tmp 60) rfl _ (p1, p2) O1.out B1.out B1.out.size (by simp) (by rfl) (by rfl) ?_
     intro v2 w6 h1 h2 h3
     have O2 := Aside0.mk h1
     have B2 := Aside0.mk h2
     clear h1 h2 h3)
   | (
     (with_reducible refine gate_builtin (b := .append) (xs := #[.tmp 62, .tmp 65]) rfl ?_); at_builtin
     refine append_pairs (w0 := w) (base := w.heap.size) rfl (.tmp 62) (.tmp 65) rfl _ ([] ++ [(p1, p2)]) [] none 0 0 rfl O2.out (RowP.nil _ _) B2.out B2.out.size (by simp) (by rfl) (by rfl) ?_
     intro v3 w7 h1 h2 h3
     have O3 := Aside0.mk h1
     have B3 := Aside0.mk h2
     clear h1 h2 h3))
  go_ret
  exact ⟨_, rfl, by rw [HPR.out]; exact O3.out, B3.out⟩
end Go.Proofs.Ytcploeijeedmdaa.X
namespace Go.Proofs.Ytcploeijeedmdaa.X
open Go.RowKit Go.Shelf Go.Proofs.YtcploeijeedmdaaW.PrintWords Go.Proofs.YtcploeijeedmdaaW.PrintLast Go.Proofs.Ytcploeijeedmdaa.S
set_option linter.unusedVariables false
set_option linter.unusedSimpArgs false
structure JM (w0 W : World) (base gd n : Nat) (vo : Value) (P : List (Int × Int)) (d : List Int) : Prop where
 len : d.length = n
 kg : W.heap[gd]? = some (.cells (intsV d) 3 (0, 0))
 own : OwnP W base vo P
 bl : Below base w0 W
 hb : base ≤ gd
 hs : base ≤ W.heap.size
theorem JM.set {w0 W : World} {base gd n : Nat} {vo : Value} {P : List (Int × Int)} {d : List Int} (h : JM w0 W base gd n vo P d) (u : Nat) (x : Int) : JM w0 (W.setCell ⟨gd, u, none⟩ (.int .i64 x)) base gd n vo P (d.set u x) := by
 refine ⟨by rw [List.length_set]; exact h.len, ?_, own_other h.own (grownBy_set W ⟨gd, u, none⟩ _) (.inr (fun e => OwnP.ne h.own h.kg (by decide) e.symm)), h.bl.setCell (p := ⟨gd, u, none⟩) h.hb _, h.hb, by rw [World.size_setCell]; exact h.hs⟩
 rw [blk_set h.kg, intsV_put]
theorem JM.edge {w0 W w1 : World} {base gd n : Nat} {vo v1 : Value} {P P1 : List (Int × Int)} {d : List Int} (h : JM w0 W base gd n vo P d) (hb : Below W.heap.size W w1) (ho : OwnP w1 W.heap.size v1 P1) : JM w0 w1 base gd n v1 P1 d :=
 ⟨h.len, blk_below h.kg hb, own_weaken ho h.hs, below_then h.bl h.hs hb, h.hb, Nat.le_trans h.hs hb.size⟩
theorem edge_own {W : World} {base n c : Nat} {A : Option Addr} {P : List (Int × Int)} (h : OwnP W base (.slice A n c) P) (hl : P.length ≤ 800) (a b : Nat) :
  Calls Try.prog 83 #[.slice A n c, .int .i64 (a : Int), .int .i64 (b : Int)] W fun e w' => ∃ v, e = .returned v ∧ OwnP w' W.heap.size v (insP P (prP a b)) ∧ Below W.heap.size W w' := by
 rcases h.2 with ⟨e, h0⟩ | ⟨g, cap, cur, e, hb, hh, hn, hc, hs, ht⟩
 ·cases e
  obtain rfl : P = [] := List.eq_nil_of_length_eq_zero h0
  exact edge_nil a b W
 ·cases e
  obtain ⟨A', c', e', hle, hr⟩ := h.row (by omega)
  cases e'
  exact edge_calls g 0 c P a b W hr rfl hl hn
theorem OwnP.shape {W : World} {base : Nat} {v : Value} {P : List (Int × Int)} (h : OwnP W base v P) : ∃ A n c, v = .slice A n c := by
 rcases h.2 with ⟨e, h0⟩ | ⟨g, cap, cur, e, _⟩
 ·exact ⟨none, 0, 0, e⟩
 ·exact ⟨_, _, _, e⟩
theorem foldl_snoc (E : List (Int × Int)) (e : Int × Int) : (E ++ [e]).foldl insP [] = insP (E.foldl insP []) e := by rw [List.foldl_append]; rfl
theorem foldP_len (E : List (Int × Int)) : (E.foldl insP []).length = E.length := by
 have := (foldP E [] List.Pairwise.nil).2.length_eq
 simpa using this
def onesU (d : List Int) (i : Nat) : List Nat := (List.range i).filter fun j => d.getD j 0 == 1
theorem onesU_succ (d : List Int) (i : Nat) : onesU d (i + 1) = if d.getD i 0 = 1 then onesU d i ++ [i] else onesU d i := by
 unfold onesU
 rw [List.range_succ, List.filter_append]
 by_cases h : d.getD i 0 = 1
 ·rw [if_pos h, List.filter_cons_of_pos (by simpa using h)]; rfl
 ·rw [if_neg h, List.filter_cons_of_neg (by simpa using h)]; simp
set_option maxHeartbeats 8000000 in
set_option maxRecDepth 100000 in
theorem made_calls {N m : Nat} (A : Option Addr) (c : Nat) (cs : List Nat) (w : World) (hr : RowI w A (natI cs)) (hm : cs.length = m) (hN : N = m + 2) (hN2 : N ≤ 20) (hx : ∀ x ∈ cs, x < N) :
  Calls Try.prog 45 #[.int .i64 (N : Int), .slice A m c] w fun e w' => ∃ v, e = .returned v ∧ OwnP w' w.heap.size v (treeL N cs) ∧ Below w.heap.size w w' := by
 have HR := Aside0.mk hr
 have HM := Aside0.mk hm
 have HML := Aside0.mk (show (natI cs).length = m from by rw [natI_len]; exact hm)
 have HN := Aside0.mk (And.intro hN hN2)
 have HXC := Aside0.mk hx
 have hmk : ∀ W, (Instr.makeSlice 24 (.int .i64 (N : Int)) (.int .i64 (N : Int))).run Try.prog W = .ok (.slice (some ⟨W.heap.size, 0, none⟩) N N) (W.alloc (.cells (rowV N fun _ => 0) 3)) := fun W => make_ints W N (by omega)
 clear hr hm hN hN2 hx
 go_enter Try.func45, Try.ntmps45
 go_wp2
 have K0 := Aside0.mk (show (w.alloc (.cells (rowV N fun _ => 0) 3)).heap[w.heap.size]? = some (.cells (rowV N fun v => if v < 0 then 1 else 0) 3 (0, 0)) from blk_new w _)
 have B0 := Aside0.mk ((Below.refl w.heap.size w).alloc (Nat.le_refl _) (.cells (rowV N fun _ => 0) 3))
 generalize w.alloc (.cells (rowV N fun _ => 0) 3) = w1 at K0 B0 ⊢
 clear hmk
 go_loopw [6] (fun iv wr => ∃ i : Nat, i ≤ N ∧ iv = .int .i64 (i : Int) ∧ Aside0 (wr.heap[w.heap.size]? = some (.cells (rowV N fun v => if v < i then 1 else 0) 3 (0, 0))) ∧ Aside0 (Below w.heap.size w wr)) (fun iv _ => N - (intOf iv).toNat)
 case atStart => exact ⟨0, Nat.zero_le _, rfl, K0, B0⟩
 case round =>
  obtain ⟨i, hi, rfl, HK, HB⟩ := hrel
  by_cases hil : i < N
  ·have HI := Aside0.mk hil
   have hz : (i : Int) < (N : Int) := by omega
   have cg := (blk_cell HK.out i).trans (rowV_get HI.out)
   have fg := blk_frozen HK.out i
   have HKn := Aside0.mk (blk_set HK.out i (.int .i64 1))
   rw [rowV_put HI.out, show (fun b => if b = i then (1 : Int) else if b < i then 1 else 0) = (fun v => if v < i + 1 then 1 else 0) from by
    funext b
    by_cases e : b = i
    ·rw [if_pos e, if_pos (by omega)]
    ·rw [if_neg e]
     by_cases e2 : b < i
     ·rw [if_pos e2, if_pos (by omega)]
     ·rw [if_neg e2, if_neg (by omega)]] at HKn
   have HBn := Aside0.mk (HB.out.setCell (p := ⟨w.heap.size, i, none⟩) (Nat.le_refl _) (.int .i64 1))
   have hi1 := Aside0.mk (show wrap64 ((i : Int) + 1) = ((i + 1 : Nat) : Int) from nxtN (by have := HN.out; omega))
   clear hi hil
   go_wp2
   go_roundw
   ·exact ⟨i + 1, HI.out, congrArg (Value.int .i64) hi1.out, HKn, HBn⟩
   ·rw [hi1.out]; have := HI.out; simp only [intOf]; omega
  ·obtain rfl : N = i := by omega
   have HJ1 := Aside0.mk (show JM w wr w.heap.size w.heap.size N (.slice none 0 0) [] (List.replicate N 1) from by
    have h := HK.out
    rw [rowV_ints, show (List.range N).map (fun v => if v < N then (1 : Int) else 0) = List.replicate N 1 from by
     apply List.ext_getElem
     ·simp
     ·intro q h1 h2
      simp at h1
      simp [h1]] at h
    exact ⟨by simp, h, OwnP.nil _ _, HB.out, Nat.le_refl _, HB.out.size⟩)
   clear hi hil HK HB K0 B0
   go_wp2
   go_loopw [7, 8] (fun iv _ wr => ∃ (i : Nat) (rest : List Nat) (d : List Int), i ≤ m ∧ iv = .int .i64 (i : Int) ∧ Aside0 (cs.drop i = rest) ∧ Aside0 (rest.foldl incL d = degL N cs) ∧ Aside0 (∀ x, 0 ≤ d.getD x 0 ∧ d.getD x 0 ≤ 1 + (i : Int)) ∧ Aside0 (JM w wr w.heap.size w.heap.size N (.slice none 0 0) [] d)) (fun iv _ _ => m - (intOf iv).toNat)
   case atStart =>
    refine ⟨0, cs, List.replicate N 1, Nat.zero_le _, rfl, ⟨rfl⟩, ⟨rfl⟩, ⟨fun x => ?_⟩, HJ1⟩
    by_cases hx : x < N
    ·rw [rep_get hx]; omega
    ·rw [List.getD_eq_getElem?_getD, List.getElem?_eq_none (by simp; omega)]; simp
   case round =>
    rename World => wz
    obtain ⟨i, rest, d, hi, rfl, HD, HF, HBD, HJ⟩ := hrel
    by_cases hil : i < m
    ·have HI := Aside0.mk hil
     have hz : (i : Int) < (m : Int) := by omega
     obtain ⟨x, rest', hrest, hxi⟩ : ∃ x rest', rest = x :: rest' ∧ cs[i]? = some x := by
      have h1 : i < cs.length := by rw [HM.out]; exact hil
      refine ⟨cs[i], cs.drop (i + 1), ?_, List.getElem?_eq_getElem h1⟩
      rw [← HD.out, List.drop_eq_getElem_cons h1]
     have HD' := Aside0.mk (show cs.drop (i + 1) = rest' from by
      have := congrArg (List.drop 1) HD.out
      rw [List.drop_drop, hrest] at this
      simpa [Nat.add_comm] using this)
     have hxN := HXC.out x (List.mem_of_getElem? hxi)
     obtain ⟨ad, z, hz1, hA, cx⟩ := RowI.at_ (HR.out.below HJ.out.bl) (i := i) (by rw [HML.out]; exact hil)
     obtain rfl : z = (x : Int) := by
      unfold natI at hz1
      rw [List.getElem?_map, hxi] at hz1
      exact (Option.some.inj hz1).symm
     subst hA
     have zx : (x : Int) < (N : Int) := by omega
     obtain ⟨dx, HDX⟩ : ∃ dx, Aside0 (d.getD x 0 = dx) := ⟨_, ⟨rfl⟩⟩
     have cd := (blk_cell HJ.out.kg x).trans (intsV_get (by rw [HJ.out.len]; exact hxN))
     have fd := blk_frozen HJ.out.kg x
     rw [HDX.out] at cd
     have hbx := HBD.out x
     rw [HDX.out] at hbx
     obtain ⟨dy, HDY⟩ : ∃ dy, Aside0 (dx + 1 = dy) := ⟨_, ⟨rfl⟩⟩
     have HWX := Aside0.mk (show wrap64 (dx + 1) = dy from by rw [← HDY.out]; exact w64 (by omega) (by have := HN.out; omega))
     have HJn := Aside0.mk (HJ.out.set x dy)
     have HF' := Aside0.mk (show rest'.foldl incL (d.set x dy) = degL N cs from by
      have h := HF.out
      rw [hrest, List.foldl_cons] at h
      unfold incL at h
      rw [HDX.out, HDY.out] at h
      exact h)
     have HBD' := Aside0.mk (show ∀ y, 0 ≤ (d.set x dy).getD y 0 ∧ (d.set x dy).getD y 0 ≤ 1 + ((i + 1 : Nat) : Int) from by
      intro y
      rw [getD_set d x y dy (by rw [HJ.out.len]; exact hxN)]
      have := HBD.out y
      have := HDY.out
      split <;> omega)
     have hi1 := Aside0.mk (show wrap64 ((i : Int) + 1) = ((i + 1 : Nat) : Int) from nxtN (by have := HN.out; omega))
     clear hi hil hrest hxi hxN hz1 hbx
     have hw := HWX.out
     go_wp2
     clear hw
     go_roundw
     ·exact ⟨i + 1, rest', _, HI.out, congrArg (Value.int .i64) hi1.out, HD', HF', HBD', HJn⟩
     ·rw [hi1.out]; have := HI.out; simp only [intOf]; omega
    ·obtain rfl : m = i := by omega
     obtain rfl : rest = [] := by rw [← HD.out]; exact List.drop_of_length_le (by rw [HM.out]; exact Nat.le_refl _)
     obtain rfl : d = degL N cs := HF.out
     have HIV := Aside0.mk (degL_inv (N := N) (cs := cs) (by rw [HM.out]; exact HN.out.1) HXC.out)
     clear hi hil HD HF HBD HJ1
     go_wp2
     go_loopw [10, 9, 11, 12] (fun iv vo _ _ wr => ∃ (i : Nat) (rest : List Nat) (d : List Int) (E : List (Int × Int)), i ≤ m ∧ iv = .int .i64 (i : Int) ∧ Aside0 (cs.drop i = rest) ∧ Aside0 (CInv N d rest) ∧ Aside0 (E ++ edL d rest = edL (degL N cs) cs) ∧ Aside0 (enD d rest = enD (degL N cs) cs) ∧ Aside0 (E.length = i) ∧ Aside0 (JM w wr w.heap.size w.heap.size N vo (E.foldl insP []) d)) (fun iv _ _ _ _ => m - (intOf iv).toNat)
     case atStart => exact ⟨0, cs, degL N cs, [], Nat.zero_le _, rfl, ⟨rfl⟩, HIV, ⟨rfl⟩, ⟨rfl⟩, ⟨rfl⟩, HJ⟩
     case round =>
      rename World => wy
      obtain ⟨i, rest, d, E, hi, rfl, HD, HCI, HE, HEN, HEL, HS⟩ := hrel
      by_cases hil : i < m
      ·have HI := Aside0.mk hil
       have hz : (i : Int) < (m : Int) := by omega
       obtain ⟨x, rest', hrest, hxi⟩ : ∃ x rest', rest = x :: rest' ∧ cs[i]? = some x := by
        have h1 : i < cs.length := by rw [HM.out]; exact hil
        refine ⟨cs[i], cs.drop (i + 1), ?_, List.getElem?_eq_getElem h1⟩
        rw [← HD.out, List.drop_eq_getElem_cons h1]
       subst hrest
       have HD' := Aside0.mk (show cs.drop (i + 1) = rest' from by
        have := congrArg (List.drop 1) HD.out
        rw [List.drop_drop] at this
        simpa [Nat.add_comm] using this)
       have HXI := Aside0.mk hxi
       have HLF := Aside0.mk (lf_lt HCI.out)
       clear hi hil hxi
       obtain ⟨ad, z, hz1, hA, cx⟩ := RowI.at_ (HR.out.below HS.out.bl) (i := i) (by rw [HML.out]; exact HI.out)
       obtain rfl : z = (x : Int) := by
        unfold natI at hz1
        rw [List.getElem?_map, HXI.out] at hz1
        exact (Option.some.inj hz1).symm
       subst hA
       clear hz1
       have hst := HCI.out.step
       have HST := Aside0.mk hst
       have HBD := Aside0.mk (HCI.out.bd (by have := congrArg List.length HD.out; rw [List.length_drop, HM.out] at this; have := HN.out; omega))
       clear hst
       go_wp2
       go_loopw [11] (fun jv wr => ∃ j : Nat, j ≤ lf d ∧ jv = .int .i64 (j : Int) ∧ wy = wr) (fun jv _ => N - (intOf jv).toNat)
       case atStart => exact ⟨0, Nat.zero_le _, rfl, rfl⟩
       case round =>
        rename World => wx
        obtain ⟨j, hj, rfl, rfl⟩ := hrel
        have zj : (j : Int) < (N : Int) := by have := HLF.out.1; omega
        have cj := (blk_cell HS.out.kg j).trans (intsV_get (by rw [HS.out.len]; have := HLF.out.1; omega))
        by_cases hjl : j < lf d
        ·have hne := HLF.out.2.2 j hjl
         have HJL := Aside0.mk hjl
         generalize d.getD j 0 = dj at cj hne
         have e1 : (dj = 1) = False := eq_false hne
         have e2 : (dj == 1) = false := beq_eq_false_iff_ne.2 hne
         have e3 : (dj != 1) = true := by rw [bne, e2]; rfl
         have hj1 := Aside0.mk (show wrap64 ((j : Int) + 1) = ((j + 1 : Nat) : Int) from nxtN (by have := HN.out; omega))
         have HJN := Aside0.mk (show j < N from by omega)
         clear hj hjl hne
         go_wp2
         go_roundw
         ·exact ⟨j + 1, HJL.out, congrArg (Value.int .i64) hj1.out, trivial⟩
         ·rw [hj1.out]; have := HJN.out; simp only [intOf]; omega
        ·obtain hje : j = lf d := by omega
         subst hje
         rw [HLF.out.2.1] at cj
         obtain ⟨A1, n1, c1, ev⟩ := HS.out.own.shape
         subst ev
         have HED := Aside0.mk (edge_own HS.out.own (by rw [foldP_len]; have := HEL.out; have := HI.out; have := HN.out; omega) (lf d) x)
         obtain ⟨z, HZ⟩ : ∃ z, Aside0 ((d.set (lf d) 0).getD x 0 = z) := ⟨_, ⟨rfl⟩⟩
         have hbz : -1000 ≤ z ∧ z ≤ 1000 := by
          rw [← HZ.out, getD_set d (lf d) x 0 (by rw [HS.out.len]; exact HLF.out.1)]
          have := HBD.out x
          split <;> omega
         obtain ⟨y2, HY2⟩ : ∃ y, Aside0 (z - 1 = y) := ⟨_, ⟨rfl⟩⟩
         have HW2 := Aside0.mk (show wrap64 (z - 1) = y2 from by rw [w64 (by omega) (by omega)]; exact HY2.out)
         have HSL := Aside0.mk (show (d.set (lf d) 0).set x y2 = stepL d x from by unfold stepL; rw [HZ.out, HY2.out])
         have zl : (lf d : Int) < (N : Int) := by have := HLF.out.1; omega
         have zx : (x : Int) < (N : Int) := by have := HST.out.2.2; omega
         have HE' := Aside0.mk (show (E ++ [prP (lf d) x]) ++ edL (stepL d x) rest' = edL (degL N cs) cs from by rw [← HE.out, List.append_assoc]; rfl)
         have HEN' := Aside0.mk (show enD (stepL d x) rest' = enD (degL N cs) cs from HEN.out)
         have hi1 := Aside0.mk (show wrap64 ((i : Int) + 1) = ((i + 1 : Nat) : Int) from nxtN (by have := HI.out; have := HN.out; omega))
         clear hj hjl hbz
         go_wp2_with (first
          | (
            go_at_call 83; (with_reducible refine HED.out.mono ?_); rintro e w5 ⟨v1, rfl, ho, hb⟩
            have J1 := Aside0.mk (HS.out.edge hb ho)
            have l1 := (blk_cell J1.out.kg (lf d)).trans (intsV_get (by rw [J1.out.len]; exact HLF.out.1))
            have f1 := blk_frozen J1.out.kg (lf d)
            have J2 := Aside0.mk (J1.out.set (lf d) 0)
            have l2 := (blk_cell J2.out.kg x).trans (intsV_get (by rw [J2.out.len]; exact HST.out.2.2))
            have f2 := blk_frozen J2.out.kg x
            rw [HZ.out] at l2
            have J3 := Aside0.mk (J2.out.set x y2)
            rw [HSL.out, ← foldl_snoc] at J3
            have d1 := pw_cell_below hb cx
            have hw2 := HW2.out
            clear ho hb))
         clear hw2
         go_roundw
         ·exact ⟨i + 1, rest', stepL d x, E ++ [prP (lf d) x], HI.out, congrArg (Value.int .i64) hi1.out, HD', ⟨HST.out.1⟩, HE', HEN', ⟨by rw [List.length_append, HEL.out]; rfl⟩, J3⟩
         ·rw [hi1.out]; have := HI.out; simp only [intOf]; omega
      ·obtain rfl : m = i := by omega
       obtain rfl : rest = [] := by rw [← HD.out]; exact List.drop_of_length_le (by rw [HM.out]; exact Nat.le_refl _)
       have HEE := Aside0.mk (show E ++ [lastE d] = treeE N cs from by
        have h1 := HE.out
        have h2 := HEN.out
        rw [edL, List.append_nil] at h1
        unfold treeE
        rw [← h1, ← h2]
        rfl)
       have HTW := Aside0.mk HCI.out.two
       clear hi hil
       go_wp2
       go_loopw [14, 13] (fun iv vv wr => ∃ i : Nat, i ≤ N ∧ iv = .int .i64 (i : Int) ∧ Aside0 (OwnI wr wy.heap.size vv (natI (onesU d i))) ∧ Aside0 (Below wy.heap.size wy wr)) (fun iv _ _ => N - (intOf iv).toNat)
       case atStart => exact ⟨0, Nat.zero_le _, rfl, ⟨OwnI.nil _ _⟩, ⟨Below.refl _ _⟩⟩
       case round =>
        rename World => wx
        obtain ⟨i, hi, rfl, HO, HBx⟩ := hrel
        by_cases hil : i < N
        ·have HI := Aside0.mk hil
         have hz : (i : Int) < (N : Int) := by omega
         have ci := (blk_cell (blk_below HS.out.kg HBx.out) i).trans (intsV_get (by rw [HS.out.len]; exact hil))
         have HSU := Aside0.mk (onesU_succ d i)
         have HLN := Aside0.mk (show (natI (onesU d i)).length < 1000000 from by
          rw [natI_len]
          unfold onesU
          have h1 := List.length_filter_le (fun j => d.getD j 0 == 1) (List.range i)
          rw [List.length_range] at h1
          have := HN.out
          omega)
         have hi1 := Aside0.mk (show wrap64 ((i : Int) + 1) = ((i + 1 : Nat) : Int) from nxtN (by have := HN.out; omega))
         clear hi hil
         by_cases hd1 : d.getD i 0 = 1
         ·rw [if_pos hd1] at HSU
          rw [hd1] at ci
          clear hd1
          go_wp2_with (first
           | (
             (with_reducible refine gate_builtin (b := .append) (xs := #[.tmp 85, .tmp 87]) rfl ?_); at_builtin
             refine append_int (w0 := wy) (base := wy.heap.size) rfl (.tmp 85) (.tmp 87) rfl _ _ _ rfl rfl HO.out HBx.out HBx.out.size HLN.out ?_
             intro v1 w5 h1 h2 h3
             have HO1 := Aside0.mk h1; have HB1 := Aside0.mk h2; clear h1 h2 h3))
          go_roundw
          ·exact ⟨i + 1, HI.out, congrArg (Value.int .i64) hi1.out, ⟨by rw [HSU.out, natI_snoc]; exact HO1.out⟩, HB1⟩
          ·rw [hi1.out]; have := HI.out; simp only [intOf]; omega
         ·rw [if_neg hd1] at HSU
          generalize d.getD i 0 = di at ci hd1
          have e1 : (di = 1) = False := eq_false hd1
          have e2 : (di == 1) = false := beq_eq_false_iff_ne.2 hd1
          clear hd1
          go_wp2
          go_roundw
          ·exact ⟨i + 1, HI.out, congrArg (Value.int .i64) hi1.out, ⟨by rw [HSU.out]; exact HO.out⟩, HBx⟩
          ·rw [hi1.out]; have := HI.out; simp only [intOf]; omega
        ·obtain rfl : N = i := by omega
         have HO2 := Aside0.mk (show OwnI wx wy.heap.size u13 (natI [lf d, lf (d.set (lf d) 0)]) from by
          have h := HO.out
          have e : onesU d N = [lf d, lf (d.set (lf d) 0)] := HTW.out.2.2.2
          rw [e] at h
          exact h)
         obtain ⟨g, cap, ev, c0, c1⟩ : ∃ g cap, u13 = .slice (some ⟨g, 0, none⟩) 2 cap ∧ wx.cell? ⟨g, 0, none⟩ = some (.int .i64 (lf d : Int)) ∧ wx.cell? ⟨g, 1, none⟩ = some (.int .i64 (lf (d.set (lf d) 0) : Int)) := by
          rcases HO2.out.2 with ⟨_, h0⟩ | ⟨g, cap, cur, e, hb, hh, hn, hc, hs, ht⟩
          ·cases h0
          ·refine ⟨g, cap, e, ?_, ?_⟩
           ·rw [blk_cell hh 0]
            have h1 : (cur.toList.take 2)[0]? = ((natI [lf d, lf (d.set (lf d) 0)]).map (Value.int .i64))[0]? := congrArg (fun l => l[0]?) ht
            rw [List.getElem?_take_of_lt (by omega), Array.getElem?_toList] at h1
            exact h1
           ·rw [blk_cell hh 1]
            have h1 : (cur.toList.take 2)[1]? = ((natI [lf d, lf (d.set (lf d) 0)]).map (Value.int .i64))[1]? := congrArg (fun l => l[1]?) ht
            rw [List.getElem?_take_of_lt (by omega), Array.getElem?_toList] at h1
            exact h1
         subst ev
         obtain ⟨A1, n1, c1', ev⟩ := HS.out.own.shape
         subst ev
         have HOW := Aside0.mk (HS.out.own.below HBx.out)
         have HBW := Aside0.mk (below_then HS.out.bl HS.out.hs HBx.out)
         have HED := Aside0.mk (edge_own (HOW.out.below (below_drew (Below.refl wx.heap.size wx))) (by rw [foldP_len]; have := HEL.out; have := HN.out; omega) (lf d) (lf (d.set (lf d) 0)))
         clear hi hil
         go_wp2
         refine stz (fun w' => w'.cell? ⟨g, 0, none⟩ = some (.int .i64 (lf d : Int)) ∧ w'.cell? ⟨g, 1, none⟩ = some (.int .i64 (lf (d.set (lf d) 0) : Int))) [] (bn 9 0) ⟨c0, c1⟩ (fun hHeld => ?_)
         refine pz 0 (some 89) (bn 9 1) ?_
         refine pz 1 (some 90) (bn 9 3) ?_
         refine pz 2 (some 91) (bn 9 7) ?_
         refine tz 3 (some 92) (bn 9 15) hHeld ?_
         refine pz 4 (some 93) (bn 9 31) ?_
         refine pz 5 (some 94) (bn 9 63) ?_
         refine tz 6 (some 95) (bn 9 127) hHeld ?_
         refine oz 7 (some 96) (bn 9 255) (fun K hK => ?_)
         refine gz Try.func83 #[.slice A1 n1 c1', .int .i64 (lf d : Int), .int .i64 (lf (d.set (lf d) 0) : Int)] ?_
         (with_reducible refine HED.out.mono ?_)
         rintro e w5 ⟨v1, rfl, ho, hb⟩
         refine ⟨_, rfl, ?_⟩
         have HO5 := Aside0.mk ho
         have HB5 := Aside0.mk (below_then (below_drew HBW.out) (below_drew HBW.out).size hb)
         refine hK.out _ _ ⟨pw_cell_below hb c0, pw_cell_below hb c1⟩ (fun hHeld => ?_)
         clear hK K ho hb
         refine nz (some 96) ?_
         refine pz 8 (some 4) (bn 9 511) ?_
         refine done_ (by kernel_rfl) ?_
         clear hHeld c0 c1
         go_wp2
         go_ret
         refine ⟨_, rfl, ?_, HB5.out⟩
         have e : treeL N cs = insP (E.foldl insP []) (prP (lf d) (lf (d.set (lf d) 0))) := by
          unfold treeL
          rw [← HEE.out, foldl_snoc]
          rfl
         rw [e]
         exact own_weaken HO5.out (below_drew HBW.out).size
end Go.Proofs.Ytcploeijeedmdaa.X
