/- awake answers true. Texts of this claim's session, put together: SSeen, SShape, SPath, SAwake. -/
import Derived.Test.YtcploeijeedmdaaBb8
import Derived.Sort.OwnSorted
import Derived.Test.YtcploeijeedmdaaBb6
import Derived.Test.YtcploeijeedmdaaVWords
import Derived.Test.YtcploeijeedmdaaVLast
import Derived.Test.YtcploeijeedmdaaVRepsOne
namespace Go.Proofs.Ytcploeijeedmdaa.X
open Go.RowKit Go.Shelf Go.Sort Go.Proofs.YtcploeijeedmdaaW.PrintWords Go.Proofs.YtcploeijeedmdaaW.PrintLast Go.Proofs.Ytcploeijeedmdaa.S
set_option linter.unusedVariables false
set_option linter.unusedSimpArgs false
def OwnS (W : World) (base : Nat) (v : Value) (ss : List (List UInt8)) : Prop := W.ownsRow base 9 1 v ss.length (ss.map encStr)
theorem OwnS.nil (W : World) (base : Nat) : OwnS W base (.slice none 0 0) [] := ⟨rfl, .inl ⟨rfl, rfl⟩⟩
theorem OwnS.below {W W' : World} {base n₀ : Nat} {v : Value} {ss : List (List UInt8)} (h : OwnS W base v ss) (hl : ∀ k, v.ownBlock = some k → k < n₀) (hb : Below n₀ W W') : OwnS W' base v ss := by
 obtain ⟨h1, h2⟩ := h
 refine ⟨h1, ?_⟩
 rcases h2 with h2 | ⟨g, cap, cur, rfl, hbb, hh, r⟩
 ·exact .inl h2
 ·exact .inr ⟨g, cap, cur, rfl, hbb, (hb.block g (hl g (by simp [Value.ownBlock]))).trans hh, r⟩
theorem OwnS.lt {W : World} {base : Nat} {v : Value} {ss : List (List UInt8)} (h : OwnS W base v ss) {k : Nat} (hk : v.ownBlock = some k) : k < W.heap.size := by
 rcases h.2 with ⟨rfl, _⟩ | ⟨g, cap, cur, rfl, hb, hh, r⟩
 ·simp [Value.ownBlock] at hk
 ·have : g = k := by simpa [Value.ownBlock] using hk
  subst this
  exact blk_lt hh
theorem info9' : (Try.prog.info? 9).map (fun i => (i.zero, i.size, i.bytes)) = some (some (.string ⟨#[]⟩), 1, 16) := by kernel_rfl
theorem append_str {ops : Array Oper} {o : Oper} {rest : List Oper} {a : Act} {Q : Exit → Act → World → Prop} {w0 W : World} {base : Nat} (hgd : o.guard = none) (s x : Operand)
  (ho : o.op = .call { callee := .builtin .append, args := #[s, x], argTypes := #[70, 70] }) (v : Value) (ss : List (List UInt8)) (p : List UInt8) (hs : a.eval s = v) (hx : a.eval x = .slice (some ⟨W.heap.size, 0, none⟩) 1 1)
  (HO : OwnS W base v ss) (HB : Below base w0 W) (hbase : base ≤ W.heap.size) (hl : ss.length < 1000000)
  (h : ∀ v1 w1, OwnS w1 base v1 (ss ++ [p]) → Below base w0 w1 → wpList Try.prog ops Q rest (a.put o.dst v1) w1) :
  wpList Try.prog ops Q (o :: rest) a (W.alloc (.cells #[.string ⟨p.toArray⟩] 9)) := by
 refine print_append_cells (w0 := w0) base hgd s x 70 9 (.string ⟨#[]⟩) 1 16 ho Try.underlying70 info9' rfl (by decide) (by decide) v ss.length (ss.map encStr) [encStr p] hs hx rfl (by intro c hc; rw [List.mem_singleton] at hc; subst hc; rfl) HO HB hbase (by omega) ?_
 intro v1 w1 h1 h2 _ _
 refine h v1 w1 ?_ h2
 unfold OwnS
 rw [List.map_append, List.length_append]
 exact h1
def seenT (T : List (List Nat)) : Nat → Nat → Int → List UInt8
 | 0, _, _ => []
 | k + 1, v, fr => (40 :: ((((nb T v).filter fun u : Nat => decide ((u : Int) ≠ fr)).map fun u => seenT T k u v).mergeSort fun x y => decide (x ≤ y)).flatten) ++ [41]
theorem seenT_succ (T : List (List Nat)) (k v : Nat) (fr : Int) : seenT T (k + 1) v fr = (40 :: ((((nb T v).filter fun u : Nat => decide ((u : Int) ≠ fr)).map fun u => seenT T k u v).mergeSort fun x y => decide (x ≤ y)).flatten) ++ [41] := rfl
theorem seenT_len (T : List (List Nat)) (k v : Nat) (fr : Int) : (seenT T (k + 1) v fr).length = ((((nb T v).filter fun u : Nat => decide ((u : Int) ≠ fr)).map fun u => seenT T k u v).mergeSort fun x y => decide (x ≤ y)).flatten.length + 2 := by
 rw [seenT_succ, List.length_append, List.length_cons, List.length_singleton]
def okF (T : List (List Nat)) : Nat → Nat → Int → Prop
 | 0, _, _ => False
 | k + 1, v, fr => ∀ u ∈ nb T v, (u : Int) ≠ fr → okF T k u v
def partsT (T : List (List Nat)) (k v : Nat) (fr : Int) (i : Nat) : List (List UInt8) := (((nb T v).take i).filter fun u : Nat => decide ((u : Int) ≠ fr)).map fun u => seenT T k u v
theorem le_flatten {α : Type} {L : List (List α)} {l : List α} (h : l ∈ L) : l.length ≤ L.flatten.length := by
 induction L with
 | nil => cases h
 | cons x L ih =>
  rw [List.flatten_cons, List.length_append]
  rcases List.mem_cons.1 h with rfl | h
  ·omega
  ·have := ih h; omega
theorem join_nil_sep (L : List (List UInt8)) : Lib.join L [] = L.flatten := by
 cases L with
 | nil => rfl
 | cons x r => rw [Lib.join_cons]; simp [Lib.joinTail]
theorem cat_strs (x : List UInt8) : (⟨#[40]⟩ ++ ⟨x.toArray⟩ ++ ⟨#[41]⟩ : ByteArray) = ⟨((40 :: x) ++ [41]).toArray⟩ := by
 apply ByteArray.ext
 simp [ByteArray.data_append]
set_option maxHeartbeats 4000000 in
set_option maxRecDepth 100000 in
theorem seen_calls (A : Option Addr) (c : Nat) (T : List (List Nat)) (N : Nat) (hN : T.length = N) (hN2 : N ≤ 20) (hT : ∀ x y, y ∈ nb T x → y < T.length) (hlen : ∀ v, (nb T v).length ≤ 1000) :
  ∀ (k v : Nat) (fr : Int) (w : World), okF T k v fr → v < N → (seenT T k v fr).length ≤ 1000000 → RowLL w A (toI T) →
   Calls Try.prog 54 #[.slice A N c, .int .i64 (v : Int), .int .i64 fr] w fun e w' => e = .returned (.string ⟨(seenT T k v fr).toArray⟩) ∧ Below w.heap.size w w' := by
 intro k
 induction k with
 | zero => intro v fr w h; exact h.elim
 | succ k ih =>
  intro v fr w hok hv hL hr
  have IH := Aside0.mk ih
  have HOK := Aside0.mk hok
  have HV := Aside0.mk hv
  have HR := Aside0.mk hr
  have HN := Aside0.mk hN
  have HN2 := Aside0.mk hN2
  have HT := Aside0.mk hT
  have HLN := Aside0.mk (show ∀ u ∈ (nb T v).filter (fun u : Nat => decide ((u : Int) ≠ fr)), (seenT T k u v).length ≤ 1000000 from fun u hu => by
   have h1 := le_flatten (List.mem_mergeSort.2 (List.mem_map_of_mem (f := fun u => seenT T k u v) hu) : seenT T k u v ∈ (((nb T v).filter fun u : Nat => decide ((u : Int) ≠ fr)).map fun u => seenT T k u v).mergeSort fun x y => decide (x ≤ y))
   have h2 := seenT_len T k v fr
   omega)
  have HFL := Aside0.mk (show ((((nb T v).filter fun u : Nat => decide ((u : Int) ≠ fr)).map fun u => seenT T k u v).mergeSort fun x y => decide (x ≤ y)).flatten.length ≤ 1000000 from by
   have h2 := seenT_len T k v fr
   omega)
  obtain ⟨ad, Ax, cx, y, hy, e, hcell, hcl', hrow⟩ := hr.at_ (i := v) (by unfold toI; rw [List.length_map, hN]; exact hv)
  subst e
  rw [nb_row (by rw [hN]; exact hv)] at hy
  injection hy with hy
  have hyl : y.length = (nb T v).length := by rw [← hy, List.length_map]
  rw [hyl] at hcell
  have HRW := Aside0.mk (by rw [← hy] at hrow; exact hrow : RowI w Ax ((nb T v).map fun x : Nat => (x : Int)))
  obtain ⟨kx, HKX⟩ : ∃ kx, Aside0 ((nb T v).length = kx) := ⟨_, ⟨rfl⟩⟩
  rw [HKX.out] at hcell
  have HKB := Aside0.mk (show kx ≤ 1000 from by rw [← HKX.out]; exact hlen v)
  have hvz : (v : Int) < (N : Int) := by omega
  clear hok hv hL hr hN hN2 hT hlen ih hy hyl hcl' hrow
  go_enter Try.func54, Try.ntmps54
  go_wp2
  go_loopw [15, 7] (fun iv pv wr => ∃ i : Nat, i ≤ kx ∧ iv = .int .i64 (i : Int) ∧ Aside0 (OwnS wr w.heap.size pv (partsT T k v fr i)) ∧ Aside0 (Below w.heap.size w wr)) (fun iv _ _ => kx - (intOf iv).toNat)
  case atStart => exact ⟨0, Nat.zero_le _, rfl, ⟨OwnS.nil _ _⟩, ⟨Below.refl _ _⟩⟩
  case round =>
   obtain ⟨i, hi, rfl, HO, HB⟩ := hrel
   by_cases hil : i < kx
   ·have HI := Aside0.mk hil
    have hz : (i : Int) < (kx : Int) := by omega
    obtain ⟨ad2, z, hz2, e, hcz⟩ := (HRW.out.below HB.out).at_ (i := i) (by rw [List.length_map, HKX.out]; exact hil)
    subst e
    rw [List.getElem?_map] at hz2
    obtain ⟨u, hu, rfl⟩ := Option.map_eq_some_iff.1 hz2
    have HU := Aside0.mk (show u < N from by rw [← HN.out]; exact HT.out v u (List.mem_of_getElem? hu))
    have HUM := Aside0.mk (List.mem_of_getElem? hu)
    have HPS := Aside0.mk (show partsT T k v fr (i + 1) = partsT T k v fr i ++ (if (u : Int) ≠ fr then [seenT T k u v] else []) from by
     unfold partsT
     rw [List.take_add_one, hu, List.filter_append, List.map_append]
     congr 1
     by_cases h : (u : Int) ≠ fr <;> simp [h])
    have HPL := Aside0.mk (show (partsT T k v fr i).length < 1000000 from by
     unfold partsT
     rw [List.length_map]
     have h1 := List.length_filter_le (fun u : Nat => decide ((u : Int) ≠ fr)) ((nb T v).take i)
     rw [List.length_take] at h1
     have h2 := HKB.out
     have h3 := HKX.out
     omega)
    clear hi hil hz2 hu
    by_cases hf : (u : Int) = fr
    ·have q1 : ((u : Int) == fr) = true := beq_iff_eq.2 hf
     have q2 : ((u : Int) = fr) = True := eq_true hf
     have q3 : ((u : Int) != fr) = false := by unfold bne; rw [q1]; rfl
     have q4 : decide ((u : Int) = fr) = true := decide_eq_true hf
     have HF := Aside0.mk hf
     clear hf
     go_wp2
     go_roundw
     ·exact ⟨i + 1, HI.out, congrArg (Value.int .i64) (nxtN (by have := HI.out; have := HKB.out; omega)), ⟨by rw [HPS.out, if_neg (fun h => h HF.out), List.append_nil]; exact HO.out⟩, HB⟩
     ·rw [nxtN (by have := HI.out; have := HKB.out; omega)]; have := HI.out; simp only [intOf]; omega
    ·have q1 : ((u : Int) == fr) = false := beq_eq_false_iff_ne.2 hf
     have q2 : ((u : Int) = fr) = False := eq_false hf
     have q3 : ((u : Int) != fr) = true := by unfold bne; rw [q1]; rfl
     have q4 : decide ((u : Int) = fr) = false := decide_eq_false hf
     have HF := Aside0.mk hf
     have HCA := Aside0.mk (IH.out u (v : Int) wr (HOK.out u HUM.out hf) HU.out (HLN.out u (List.mem_filter.2 ⟨HUM.out, decide_eq_true hf⟩)) (HR.out.below HB.out))
     clear hf
     go_wp2_with (first
      | (
        go_at_call 54; (with_reducible refine HCA.out.mono ?_); rintro e w2 ⟨rfl, hb2⟩
        have HB2 := Aside0.mk (below_then HB.out HB.out.size hb2)
        have HO2 := Aside0.mk (HO.out.below (fun k hk => HO.out.lt hk) hb2)
        clear hb2)
      | (
        (with_reducible refine gate_builtin (b := .append) (xs := #[.tmp 22, .tmp 27]) rfl ?_); at_builtin
        refine append_str (w0 := w) (base := w.heap.size) rfl (.tmp 22) (.tmp 27) rfl _ _ _ rfl rfl HO2.out HB2.out HB2.out.size HPL.out ?_
        intro v1 w3 h1 h2
        have HO3 := Aside0.mk h1
        have HB3 := Aside0.mk h2
        clear h1 h2))
     go_roundw
     ·exact ⟨i + 1, HI.out, congrArg (Value.int .i64) (nxtN (by have := HI.out; have := HKB.out; omega)), ⟨by rw [HPS.out, if_pos HF.out]; exact HO3.out⟩, HB3⟩
     ·rw [nxtN (by have := HI.out; have := HKB.out; omega)]; have := HI.out; simp only [intOf]; omega
   ·obtain rfl : kx = i := by omega
    have HPE := Aside0.mk (show partsT T k v fr kx = ((nb T v).filter fun u : Nat => decide ((u : Int) ≠ fr)).map fun u => seenT T k u v from by unfold partsT; rw [List.take_of_length_le (Nat.le_of_eq HKX.out)])
    have HSE := Aside0.mk (show seenT T (k + 1) v fr = (40 :: ((((nb T v).filter fun u : Nat => decide ((u : Int) ≠ fr)).map fun u => seenT T k u v).mergeSort fun x y => decide (x ≤ y)).flatten) ++ [41] from seenT_succ T k v fr)
    rw [HPE.out] at HO
    have HPN := Aside0.mk (show ((((nb T v).filter fun u : Nat => decide ((u : Int) ≠ fr)).map fun u => seenT T k u v)).length ≤ 1000 from by
     rw [List.length_map]
     have h1 := List.length_filter_le (fun u : Nat => decide ((u : Int) ≠ fr)) (nb T v)
     have h2 := HKB.out
     have h3 := HKX.out
     omega)
    generalize (((nb T v).filter fun u : Nat => decide ((u : Int) ≠ fr)).map fun u => seenT T k u v) = parts at HO HSE HFL HPN
    clear hi hil HPE
    rcases HO.out.2 with ⟨e0, h0⟩ | ⟨g, cap, cur, e0, hbb, hh, hn1, hn2, hn3, ht⟩
    ·obtain rfl : parts = [] := List.length_eq_zero_iff.1 h0
     subst e0
     have HSO := Aside0.mk (Try.slices_Sort_string_none none 0 wr)
     have HJO := Aside0.mk (Try.strings_Join_none none 0 ⟨#[]⟩ wr)
     clear h0
     go_wp2_with (first
      | (go_at_call 86; (with_reducible refine HSO.out.mono ?_); rintro e w2 ⟨rfl, rfl⟩)
      | (go_at_call 87; (with_reducible refine HJO.out.mono ?_); rintro e w2 ⟨rfl, rfl⟩))
     go_ret
     refine ⟨?_, HB.out⟩
     rw [HSE.out, List.mergeSort_nil]
     exact congrArg (fun x => Ending.returned (Value.string x)) (cat_strs [])
    ·subst e0
     have HSO := Aside0.mk (Try.slices_Sort_string g 0 cap parts wr (holds_of_block hh (by simpa using ht)) (blk_lt hh) (by have := HPN.out; omega))
     have HROW := Aside0.mk (fun (n : Nat) (os : Array Obj) => ownsRow_sorted (w := wr) (n := n) (os := os) (ts := parts.mergeSort fun x y => decide (x ≤ y)) (List.length_mergeSort parts) hbb hh hn1 hn2 hn3)
     have HGB := Aside0.mk (fun (n : Nat) (os : Array Obj) => grownBy_sorted (w := wr) (g := g) (n := n) (os := os) (parts.mergeSort fun x y => decide (x ≤ y)).toArray)
     have hml : (parts.mergeSort fun x y => decide (x ≤ y)).length = parts.length := List.length_mergeSort parts
     generalize (parts.mergeSort fun x y => decide (x ≤ y)) = so at HSO HROW HGB HSE HFL hml
     have HGL := Aside0.mk hbb
     have HBK := Aside0.mk hh
     have HJO := Aside0.mk (fun (W : World) (h : W.ownsRow w.heap.size 9 1 (.slice (some ⟨g, 0, none⟩) parts.length cap) parts.length (so.map encStr)) => (show Calls Try.prog 87 #[.slice (some ⟨g, 0, none⟩) parts.length cap, .string ⟨#[]⟩] W fun e w' => e = .returned (.string ⟨so.flatten.toArray⟩) ∧ Below W.heap.size W w' from by
      rcases h.2 with ⟨e1, _⟩ | ⟨g2, cap2, cur2, e1, _, hh2, hm1, hm2, hm3, ht2⟩
      ·cases e1
      ·injection e1 with e1 _ e3
       injection e1 with e1
       injection e1 with e1
       subst e1 e3
       have hxl : (so.map fun l => (⟨l.toArray⟩ : ByteArray)).length = parts.length := by rw [List.length_map, hml]
       have hxm : (so.map fun l => (⟨l.toArray⟩ : ByteArray)).map (fun x => x.data.toList) = so := by rw [List.map_map]; exact List.map_id' _
       have hj := Try.strings_Join g 0 cap (so.map fun l => (⟨l.toArray⟩ : ByteArray)) ⟨#[]⟩ W (fun j x hx => by
        rw [List.getElem?_map] at hx
        obtain ⟨l, hl, rfl⟩ := Option.map_eq_some_iff.1 hx
        have hjl : j < parts.length := by rw [← hml]; exact (List.getElem?_eq_some_iff.1 hl).1
        rw [Nat.zero_add, blk_cell hh2 j]
        have h1 : (cur2.toList.take (parts.length * 1))[j]? = (so.map encStr)[j]? := by rw [ht2]
        rw [List.getElem?_take_of_lt (by omega), Array.getElem?_toList, List.getElem?_map, hl] at h1
        rw [h1]
        rfl) (blk_lt hh2) (by rw [hxl]; have := HPN.out; omega) (by rw [hxl]; exact hm1) (by
        rw [hxm]
        show (Lib.join so []).length ≤ _
        rw [join_nil_sep]
        have := HFL.out
        omega)
       rw [hxl, hxm, show ((⟨#[]⟩ : ByteArray).data.toList : List UInt8) = [] from rfl, join_nil_sep] at hj
       exact hj))
     clear hh hn1 hn2 hn3 ht hbb HO
     generalize so.flatten = fl at HJO HSE HFL
     have p1 : (9223372036854775807 < 1 + fl.length) = False := eq_false (by have := HFL.out; omega)
     have p2 : (9223372036854775807 < 1 + fl.length + 1) = False := eq_false (by have := HFL.out; omega)
     go_wp2_with (first
      | (
        go_at_call 86; (with_reducible refine HSO.out.mono ?_); rintro e w2 ⟨rfl, n, os, rfl⟩
        have hrow2 := HROW.out n os
        have HJ2 := Aside0.mk (HJO.out _ hrow2)
        have HB2 := Aside0.mk (below_in HB.out HGL.out (HGB.out n os))
        clear hrow2)
      | (
        go_at_call 87; (with_reducible refine HJ2.out.mono ?_); rintro e w3 ⟨rfl, hb3⟩
        have HB3 := Aside0.mk (below_then HB2.out HB2.out.size hb3)
        clear hb3))
     go_ret
     refine ⟨?_, HB3.out⟩
     rw [HSE.out]
     exact congrArg (fun x => Ending.returned (Value.string x)) (cat_strs _)
end Go.Proofs.Ytcploeijeedmdaa.X
namespace Go.Proofs.Ytcploeijeedmdaa.X
open Go.RowKit Go.Shelf Go.Proofs.YtcploeijeedmdaaW.PrintWords Go.Proofs.YtcploeijeedmdaaW.PrintLast Go.Proofs.Ytcploeijeedmdaa.S
set_option linter.unusedVariables false
set_option linter.unusedSimpArgs false
def pickS (o s : List UInt8) : List UInt8 := if o = [] ∨ Op.bytesLess s o = true then s else o
def bestS (l : List (List UInt8)) : List UInt8 := l.foldl pickS []
structure ShapeOk (T : List (List Nat)) (N K D : Nat) : Prop where
 dec : ∀ i, i < K → 2 < cnt N (itS T i) ∧ cnt N (itS T (i + 1)) < cnt N (itS T i)
 end_ : cnt N (itS T K) ≤ 2
 deep : ∀ v, v < N → okF T D v (-1)
 short : ∀ v, v < N → (seenT T D v (-1)).length ≤ 1000000
def shapeOf (T : List (List Nat)) (N K D : Nat) : List UInt8 := bestS (((List.range N).filter (itS T K)).map fun v => seenT T D v (-1))
set_option maxHeartbeats 4000000 in
set_option maxRecDepth 100000 in
theorem scores_Shape.calls (n : Int) (A : Option Addr) (c : Nat) (P : List (Int × Int)) (K D : Nat) (w : World) (hr : RowP w A P) (hS : IsTree n P → ShapeOk (treeOf n.toNat P) n.toNat K D) :
  Calls Try.prog 17 #[.int .i64 n, .slice A P.length c] w fun e w' => ((¬ IsTree n P ∧ e = .returned (.tuple #[.string ⟨#[]⟩, .int .i64 2])) ∨ (IsTree n P ∧ e = .returned (.tuple #[.string ⟨(shapeOf (treeOf n.toNat P) n.toNat K D).toArray⟩, .int .i64 0]))) ∧ Below w.heap.size w w' := by
 have HT := Aside0.mk (newTree_calls n A c P w hr)
 clear hr
 by_cases ht : IsTree n P
 ·obtain ⟨N, rfl⟩ := Int.eq_ofNat_of_zero_le (show 0 ≤ n by have := ht.lo; omega)
  have hSO := hS ht
  rw [Int.toNat_natCast] at hSO
  have HSO := Aside0.mk hSO
  have HN := Aside0.mk (show 2 ≤ N ∧ N ≤ 20 from ⟨by have := ht.lo; omega, by have := ht.hi; omega⟩)
  have HIT := Aside0.mk ht
  have HLT := Aside0.mk (show ∀ x y, y ∈ nb (treeOf N P) x → y < (treeOf N P).length from fun x y hy => by rw [treeOf_len]; exact tree_lt (by have := ht.ok; simpa using this) hy)
  have HSH := Aside0.mk (show ∀ v, (nb (treeOf N P) v).length ≤ 1000 from fun v => by have := nb_short (N := N) (P := P) v; have := ht.len; have := ht.hi; omega)
  have HTL := Aside0.mk (treeOf_len N P)
  clear ht hS hSO
  generalize hP : P.length = lp at HT ⊢
  clear hP
  obtain ⟨T, HTT⟩ : ∃ T, Aside0 (treeOf N P = T) := ⟨_, ⟨rfl⟩⟩
  rw [HTT.out] at HLT HSH HTL HSO
  go_enter Try.func17, Try.ntmps17
  go_wp2_with (first
   | (
     go_at_call 48; (with_reducible refine HT.out.mono ?_); rintro e w1 ⟨A1, m1, c1, ok1, rfl, hb1, hok1, hrw1⟩
     obtain rfl : ok1 = true := hok1.2 HIT.out
     obtain ⟨hm1, hr1⟩ := hrw1 rfl
     obtain rfl : N = m1 := by omega
     rw [Int.toNat_natCast, HTT.out] at hr1
     have HB1 := Aside0.mk hb1; have HR1 := Aside0.mk (show RowLL w1 A1 (toI T) from hr1)
     have HCE := Aside0.mk (centers_calls A1 c1 T N K w1 hr1 HTL.out HN.out.2 HLT.out HSH.out HSO.out.dec HSO.out.end_)
     clear hb1 hok1 hrw1 hm1 hr1)
   | (
     go_at_call 53; (with_reducible refine HCE.out.mono ?_); rintro e w2 ⟨vc, rfl, ho, hb⟩
     obtain ⟨Ac, cc, rfl, hcc, hrc⟩ := ho.row
     rw [natI_len]
     have HRC := Aside0.mk hrc
     have HB2 := Aside0.mk hb
     clear ho hb hcc hrc))
  obtain ⟨q, HQ⟩ : ∃ q, Aside0 (((List.range N).filter (itS T K)).length = q) := ⟨_, ⟨rfl⟩⟩
  rw [HQ.out]
  have HQB := Aside0.mk (show q ≤ 20 from by rw [← HQ.out]; have h := List.length_filter_le (itS T K) (List.range N); rw [List.length_range] at h; have := HN.out; omega)
  go_loopw [23, 8] (fun iv sv wr => ∃ i : Nat, i ≤ q ∧ iv = .int .i64 (i : Int) ∧ sv = .string ⟨(bestS ((((List.range N).filter (itS T K)).take i).map fun v => seenT T D v (-1))).toArray⟩ ∧ Aside0 (Below w1.heap.size w1 wr) ∧ Aside0 (Below w2.heap.size w2 wr)) (fun iv _ _ => q - (intOf iv).toNat)
  case atStart => exact ⟨0, Nat.zero_le _, rfl, by rw [List.take_zero]; rfl, HB2, ⟨Below.refl _ _⟩⟩
  case round =>
   obtain ⟨i, hi, rfl, rfl, HBa, HBb⟩ := hrel
   by_cases hil : i < q
   ·have HI := Aside0.mk hil
    have hz : (i : Int) < (q : Int) := by omega
    obtain ⟨ad, x, hx, e, hcx⟩ := (HRC.out.below HBb.out).at_ (i := i) (by rw [natI_len, HQ.out]; exact hil)
    subst e
    unfold natI at hx
    rw [List.getElem?_map] at hx
    obtain ⟨u, hu, rfl⟩ := Option.map_eq_some_iff.1 hx
    have HU := Aside0.mk (show u < N from List.mem_range.1 (List.mem_filter.1 (List.mem_of_getElem? hu)).1)
    have HTA := Aside0.mk (show bestS ((((List.range N).filter (itS T K)).take (i + 1)).map fun v => seenT T D v (-1)) = pickS (bestS ((((List.range N).filter (itS T K)).take i).map fun v => seenT T D v (-1))) (seenT T D u (-1)) from by
     rw [List.take_add_one, hu, List.map_append]
     unfold bestS
     rw [List.foldl_append]
     rfl)
    have HSE := Aside0.mk (seen_calls A1 c1 T N HTL.out HN.out.2 HLT.out HSH.out D u (-1) wr (HSO.out.deep u HU.out) HU.out (HSO.out.short u HU.out) (HR1.out.below HBa.out))
    clear hi hil hx hu
    generalize bestS ((((List.range N).filter (itS T K)).take i).map fun v => seenT T D v (-1)) = o at HTA ⊢
    generalize seenT T D u (-1) = s at HTA HSE
    by_cases h0 : o = []
    ·subst h0
     go_wp2_with (first
      | (
        go_at_call 54; (with_reducible refine HSE.out.mono ?_); rintro e w3 ⟨rfl, hb3⟩
        have HB3a := Aside0.mk (below_then HBa.out HBa.out.size hb3)
        have HB3b := Aside0.mk (below_then HBb.out HBb.out.size hb3)
        clear hb3))
     go_roundw
     ·exact ⟨i + 1, HI.out, congrArg (Value.int .i64) (nxtN (by have := HI.out; have := HQB.out; omega)), by rw [HTA.out]; unfold pickS; rw [if_pos (.inl rfl)], HB3a, HB3b⟩
     ·rw [nxtN (by have := HI.out; have := HQB.out; omega)]; have := HI.out; simp only [intOf]; omega
    ·have q1 : (o = []) = False := eq_false h0
     have q2 : o.isEmpty = false := by cases o with | nil => exact absurd rfl h0 | cons => rfl
     have H0 := Aside0.mk h0
     clear h0
     cases hb : Op.bytesLess s o with
     | true =>
      go_wp2_with (first
       | (
         go_at_call 54; (with_reducible refine HSE.out.mono ?_); rintro e w3 ⟨rfl, hb3⟩
         have HB3a := Aside0.mk (below_then HBa.out HBa.out.size hb3)
         have HB3b := Aside0.mk (below_then HBb.out HBb.out.size hb3)
         clear hb3))
      go_roundw
      ·exact ⟨i + 1, HI.out, congrArg (Value.int .i64) (nxtN (by have := HI.out; have := HQB.out; omega)), by rw [HTA.out]; unfold pickS; rw [if_pos (.inr hb)], HB3a, HB3b⟩
      ·rw [nxtN (by have := HI.out; have := HQB.out; omega)]; have := HI.out; simp only [intOf]; omega
     | false =>
      go_wp2_with (first
       | (
         go_at_call 54; (with_reducible refine HSE.out.mono ?_); rintro e w3 ⟨rfl, hb3⟩
         have HB3a := Aside0.mk (below_then HBa.out HBa.out.size hb3)
         have HB3b := Aside0.mk (below_then HBb.out HBb.out.size hb3)
         clear hb3))
      go_roundw
      ·exact ⟨i + 1, HI.out, congrArg (Value.int .i64) (nxtN (by have := HI.out; have := HQB.out; omega)), by rw [HTA.out]; unfold pickS; rw [if_neg (by rintro (h | h); exact H0.out h; rw [hb] at h; cases h)], HB3a, HB3b⟩
      ·rw [nxtN (by have := HI.out; have := HQB.out; omega)]; have := HI.out; simp only [intOf]; omega
   ·obtain rfl : q = i := by omega
    clear hi hil
    have HTA := Aside0.mk (show ((List.range N).filter (itS T K)).take q = (List.range N).filter (itS T K) from List.take_of_length_le (Nat.le_of_eq HQ.out))
    rw [HTA.out]
    go_wp2
    go_ret2
    refine ⟨.inr ⟨HIT.out, ?_⟩, below_then HB1.out HB1.out.size HBa.out⟩
    rw [Int.toNat_natCast, HTT.out]
    rfl
 ·have HF := Aside0.mk ht
  clear ht hS
  generalize hP : P.length = lp at HT ⊢
  clear hP
  go_enter Try.func17, Try.ntmps17
  go_wp2_with (first
   | (
     go_at_call 48; (with_reducible refine HT.out.mono ?_); rintro e w1 ⟨A1, m1, c1, ok1, rfl, hb1, hok1, _⟩
     obtain rfl : ok1 = false := by
      cases ok1 with
      | false => rfl
      | true => exact absurd (hok1.1 rfl) HF.out
     have HB1 := Aside0.mk hb1
     clear hb1 hok1))
  go_ret2
  exact ⟨.inl ⟨HF.out, rfl⟩, HB1.out⟩
end Go.Proofs.Ytcploeijeedmdaa.X
namespace Go.Proofs.Ytcploeijeedmdaa.X
open Go.RowKit Go.Shelf Go.Proofs.YtcploeijeedmdaaW.PrintWords Go.Proofs.YtcploeijeedmdaaW.PrintLast Go.Proofs.Ytcploeijeedmdaa.S
set_option linter.unusedVariables false
set_option linter.unusedSimpArgs false
def P4 : List (Int × Int) := [(0, 1), (1, 2), (2, 3)]
theorem tree4 : treeOf 4 P4 = [[1], [0, 2], [1, 3], [2]] := by decide
theorem isTree4 : IsTree 4 P4 := by
 refine ⟨by decide, by decide, by decide, ?_, ?_⟩
 ·intro p hp
  unfold okP
  simp only [P4, List.mem_cons, List.not_mem_nil, or_false] at hp
  rcases hp with rfl | rfl | rfl <;> decide
 ·show ∀ x, x < 4 → Rch (treeOf 4 P4) 0 x
  rw [tree4]
  have h1 : Rch [[1], [0, 2], [1, 3], [2]] 0 1 := .step .refl (by decide)
  have h2 : Rch [[1], [0, 2], [1, 3], [2]] 0 2 := .step h1 (by decide)
  have h3 : Rch [[1], [0, 2], [1, 3], [2]] 0 3 := .step h2 (by decide)
  intro x hx
  match x, hx with
  | 0, _ => exact .refl
  | 1, _ => exact h1
  | 2, _ => exact h2
  | 3, _ => exact h3
theorem code4 : codeOf 4 P4 = [1, 2] := by decide
theorem cen4 : (List.range 4).filter (itS [[1], [0, 2], [1, 3], [2]] 1) = [1, 2] := by decide
theorem merge2 {a b : List UInt8} : [a, b].mergeSort (fun x y => decide (x ≤ y)) = if a ≤ b then [a, b] else [b, a] := by
 by_cases h : a ≤ b
 ·rw [if_pos h]
  apply List.mergeSort_of_pairwise
  simp [h]
 ·rw [if_neg h]
  have hba : b ≤ a := by
   rcases List.le_total a b with h' | h'
   ·exact absurd h' h
   ·exact h'
  have hp := List.mergeSort_perm [a, b] (fun x y => decide (x ≤ y))
  have hs := List.pairwise_mergeSort (le := fun x y : List UInt8 => decide (x ≤ y)) (by intro x y z h1 h2; simp at *; exact List.le_trans h1 h2) (by intro x y; simp; exact List.le_total x y) [a, b]
  have hq : ([b, a] : List (List UInt8)).Perm [a, b] := List.Perm.swap a b []
  refine List.Perm.eq_of_pairwise (le := fun x y => decide (x ≤ y) = true) (fun x y _ _ h1 h2 => List.le_antisymm (by simpa using h1) (by simpa using h2)) hs (by simp [hba]) (hp.trans hq.symm)
abbrev T4 : List (List Nat) := [[1], [0, 2], [1, 3], [2]]
theorem leaf4 {v : Nat} {fr : Int} {k : Nat} (h : ((nb T4 v).filter fun u : Nat => decide ((u : Int) ≠ fr)) = []) : seenT T4 (k + 1) v fr = [40, 41] := by
 rw [seenT_succ, h, List.map_nil, List.mergeSort_nil]
 rfl
theorem one4 {v u : Nat} {fr : Int} {k : Nat} {s : List UInt8} (h : ((nb T4 v).filter fun u : Nat => decide ((u : Int) ≠ fr)) = [u]) (hs : seenT T4 k u v = s) : seenT T4 (k + 1) v fr = (40 :: s) ++ [41] := by
 rw [seenT_succ, h, List.map_cons, List.map_nil, List.mergeSort_singleton, hs]
 simp
theorem two4 {v u u' : Nat} {fr : Int} {k : Nat} {s s' : List UInt8} (h : ((nb T4 v).filter fun u : Nat => decide ((u : Int) ≠ fr)) = [u, u']) (hs : seenT T4 k u v = s) (hs' : seenT T4 k u' v = s') : seenT T4 (k + 1) v fr = (40 :: (if s ≤ s' then [s, s'] else [s', s]).flatten) ++ [41] := by
 rw [seenT_succ, h, List.map_cons, List.map_cons, List.map_nil, hs, hs', merge2]
theorem e0 (k : Nat) : seenT T4 (k + 1) 0 ((1 : Nat) : Int) = [40, 41] := leaf4 (by decide)
theorem e3 (k : Nat) : seenT T4 (k + 1) 3 ((2 : Nat) : Int) = [40, 41] := leaf4 (by decide)
theorem e2 (k : Nat) : seenT T4 (k + 2) 2 ((1 : Nat) : Int) = [40, 40, 41, 41] := one4 (u := 3) (by decide) (e3 k)
theorem e1 (k : Nat) : seenT T4 (k + 2) 1 ((2 : Nat) : Int) = [40, 40, 41, 41] := one4 (u := 0) (by decide) (e0 k)
theorem f1 : seenT T4 3 1 ((0 : Nat) : Int) = [40, 40, 40, 41, 41, 41] := one4 (u := 2) (by decide) (e2 0)
theorem f2 : seenT T4 3 2 ((3 : Nat) : Int) = [40, 40, 40, 41, 41, 41] := one4 (u := 1) (by decide) (e1 0)
theorem s0 : seenT T4 4 0 (-1) = [40, 40, 40, 40, 41, 41, 41, 41] := one4 (u := 1) (by decide) f1
theorem s3 : seenT T4 4 3 (-1) = [40, 40, 40, 40, 41, 41, 41, 41] := one4 (u := 2) (by decide) f2
theorem s1 : seenT T4 4 1 (-1) = [40, 40, 40, 41, 41, 40, 41, 41] := by
 rw [two4 (u := 0) (u' := 2) (by decide) (e0 2) (e2 1)]
 decide
theorem s2 : seenT T4 4 2 (-1) = [40, 40, 40, 41, 41, 40, 41, 41] := by
 rw [two4 (u := 1) (u' := 3) (by decide) (e1 1) (e3 2)]
 decide
def okF.dec (T : List (List Nat)) : (k v : Nat) → (fr : Int) → Decidable (okF T k v fr)
 | 0, _, _ => .isFalse (fun h => h)
 | k + 1, v, fr => by
  have : ∀ u : Nat, Decidable (okF T k u (v : Int)) := fun u => okF.dec T k u (v : Int)
  unfold okF
  exact inferInstance
instance {T : List (List Nat)} {k v : Nat} {fr : Int} : Decidable (okF T k v fr) := okF.dec T k v fr
theorem ok4 : ShapeOk T4 4 1 4 := by
 refine ⟨?_, by decide, ?_, ?_⟩
 ·intro i hi
  obtain rfl : i = 0 := by omega
  decide
 ·decide
 ·intro v hv
  match v, hv with
  | 0, _ => rw [s0]; decide
  | 1, _ => rw [s1]; decide
  | 2, _ => rw [s2]; decide
  | 3, _ => rw [s3]; decide
theorem shape4 : shapeOf T4 4 1 4 = [40, 40, 40, 41, 41, 40, 41, 41] := by
 unfold shapeOf
 rw [cen4, List.map_cons, List.map_cons, List.map_nil, s1, s2]
 decide
def R3 : List (List Int) := [[0, 1, 0], [0, 0, 1], [1, 0, 0]]
theorem isC3 : IsC R3 := by
 refine ⟨by decide, fun i y h => ?_, fun i j hi hj => ?_⟩
 ·match i, h with
  | 0, h => cases h; unfold rowC; decide
  | 1, h => cases h; unfold rowC; decide
  | 2, h => cases h; unfold rowC; decide
 ·have hi : i < 3 := hi
  have hj : j < 3 := hj
  match i, hi, j, hj with
  | 0, _, 0, _ => unfold oneC; decide
  | 0, _, 1, _ => unfold oneC; decide
  | 0, _, 2, _ => unfold oneC; decide
  | 1, _, 0, _ => unfold oneC; decide
  | 1, _, 1, _ => unfold oneC; decide
  | 1, _, 2, _ => unfold oneC; decide
  | 2, _, 0, _ => unfold oneC; decide
  | 2, _, 1, _ => unfold oneC; decide
  | 2, _, 2, _ => unfold oneC; decide
theorem kings3 : kingsUp R3 3 = [0, 1, 2] := by decide
end Go.Proofs.Ytcploeijeedmdaa.X
namespace Go.Proofs.Ytcploeijeedmdaa.X
open Go.RowKit Go.Shelf Go.Proofs.YtcploeijeedmdaaW.PrintWords Go.Proofs.YtcploeijeedmdaaW.PrintLast Go.Proofs.Ytcploeijeedmdaa.S
set_option linter.unusedVariables false
set_option linter.unusedSimpArgs false
theorem row_of_blk {W : World} {b : Nat} {xs : List Int} (h : W.heap[b]? = some (.cells (xs.map (Value.int .i64)).toArray 3 (0, 0))) (hl : xs.length ≤ 1000) : RowI W (some ⟨b, 0, none⟩) xs := by
 have ho : OwnI W 0 (.slice (some ⟨b, 0, none⟩) xs.length xs.length) xs := ⟨by rw [List.length_map, Nat.mul_one], .inr ⟨b, xs.length, _, rfl, Nat.zero_le _, h, Nat.le_refl _, by unfold maxLen; omega, by simp, by rw [Nat.mul_one]; exact List.take_of_length_le (by simp)⟩⟩
 obtain ⟨A, c, e, _, hr⟩ := ho.row
 injection e with e
 subst e
 exact hr
theorem tab3 (w : World) : RowLL ((((w.alloc (.cells #[.int .i64 0, .int .i64 1, .int .i64 0] 3)).alloc (.cells #[.int .i64 0, .int .i64 0, .int .i64 1] 3)).alloc (.cells #[.int .i64 1, .int .i64 0, .int .i64 0] 3)).alloc (.cells #[.slice (some ⟨w.heap.size, 0, none⟩) 3 3, .slice (some ⟨w.heap.size + 1, 0, none⟩) 3 3, .slice (some ⟨w.heap.size + 1 + 1, 0, none⟩) 3 3] 24)) (some ⟨w.heap.size + 1 + 1 + 1, 0, none⟩) R3 := by
 have h0 := heap_alloc_new w (.cells #[.int .i64 0, .int .i64 1, .int .i64 0] 3)
 have z0 : (w.alloc (.cells #[.int .i64 0, .int .i64 1, .int .i64 0] 3)).heap.size = w.heap.size + 1 := by simp
 generalize w.alloc (.cells #[.int .i64 0, .int .i64 1, .int .i64 0] 3) = a at *
 have h1 := heap_alloc_new a (.cells #[.int .i64 0, .int .i64 0, .int .i64 1] 3)
 have h0 := blk_alloc h0 (.cells #[.int .i64 0, .int .i64 0, .int .i64 1] 3)
 have z1 : (a.alloc (.cells #[.int .i64 0, .int .i64 0, .int .i64 1] 3)).heap.size = w.heap.size + 1 + 1 := by simp [z0]
 rw [z0] at h1
 generalize a.alloc (.cells #[.int .i64 0, .int .i64 0, .int .i64 1] 3) = b at *
 have h2 := heap_alloc_new b (.cells #[.int .i64 1, .int .i64 0, .int .i64 0] 3)
 have h0 := blk_alloc h0 (.cells #[.int .i64 1, .int .i64 0, .int .i64 0] 3)
 have h1 := blk_alloc h1 (.cells #[.int .i64 1, .int .i64 0, .int .i64 0] 3)
 have z2 : (b.alloc (.cells #[.int .i64 1, .int .i64 0, .int .i64 0] 3)).heap.size = w.heap.size + 1 + 1 + 1 := by simp [z1]
 rw [z1] at h2
 generalize b.alloc (.cells #[.int .i64 1, .int .i64 0, .int .i64 0] 3) = c at *
 have h3 := heap_alloc_new c (.cells #[.slice (some ⟨w.heap.size, 0, none⟩) 3 3, .slice (some ⟨w.heap.size + 1, 0, none⟩) 3 3, .slice (some ⟨w.heap.size + 1 + 1, 0, none⟩) 3 3] 24)
 have h0 := blk_alloc h0 (.cells #[.slice (some ⟨w.heap.size, 0, none⟩) 3 3, .slice (some ⟨w.heap.size + 1, 0, none⟩) 3 3, .slice (some ⟨w.heap.size + 1 + 1, 0, none⟩) 3 3] 24)
 have h1 := blk_alloc h1 (.cells #[.slice (some ⟨w.heap.size, 0, none⟩) 3 3, .slice (some ⟨w.heap.size + 1, 0, none⟩) 3 3, .slice (some ⟨w.heap.size + 1 + 1, 0, none⟩) 3 3] 24)
 have h2 := blk_alloc h2 (.cells #[.slice (some ⟨w.heap.size, 0, none⟩) 3 3, .slice (some ⟨w.heap.size + 1, 0, none⟩) 3 3, .slice (some ⟨w.heap.size + 1 + 1, 0, none⟩) 3 3] 24)
 rw [z2] at h3
 generalize c.alloc (.cells #[.slice (some ⟨w.heap.size, 0, none⟩) 3 3, .slice (some ⟨w.heap.size + 1, 0, none⟩) 3 3, .slice (some ⟨w.heap.size + 1 + 1, 0, none⟩) 3 3] 24) = d at *
 refine ⟨by decide, fun i y hi => ?_⟩
 have hi3 : i < 3 := (List.getElem?_eq_some_iff.1 hi).1
 match i, hi3, hi with
 | 0, _, hi => cases hi; exact ⟨_, 0, _, 3, rfl, (blk_cell h3 0).trans rfl, by decide, row_of_blk h0 (by decide)⟩
 | 1, _, hi => cases hi; exact ⟨_, 0, _, 3, rfl, (blk_cell h3 1).trans rfl, by decide, row_of_blk h1 (by decide)⟩
 | 2, _, hi => cases hi; exact ⟨_, 0, _, 3, rfl, (blk_cell h3 2).trans rfl, by decide, row_of_blk h2 (by decide)⟩
theorem pairs4 (w : World) : RowP (w.alloc (.cells #[.int .i64 0, .int .i64 1, .int .i64 1, .int .i64 2, .int .i64 2, .int .i64 3] 54)) (some ⟨w.heap.size, 0, none⟩) P4 := by
 have h := heap_alloc_new w (.cells #[.int .i64 0, .int .i64 1, .int .i64 1, .int .i64 2, .int .i64 2, .int .i64 3] 54)
 refine ⟨by decide, fun i p hi => ?_⟩
 have hi3 : i < 3 := (List.getElem?_eq_some_iff.1 hi).1
 match i, hi3, hi with
 | 0, _, hi => cases hi; exact ⟨_, 0, rfl, (blk_cell h 0).trans rfl, (blk_cell h 1).trans rfl⟩
 | 1, _, hi => cases hi; exact ⟨_, 0, rfl, (blk_cell h 2).trans rfl, (blk_cell h 3).trans rfl⟩
 | 2, _, hi => cases hi; exact ⟨_, 0, rfl, (blk_cell h 4).trans rfl, (blk_cell h 5).trans rfl⟩
theorem code_awake (c : Nat) (A : Option Addr) (w : World) (hr : RowP w A P4) :
  Calls Try.prog 16 #[.int .i64 4, .slice A 3 c] w fun e w' => (∃ A' c', e = .returned (.tuple #[.slice A' 2 c', .int .i64 0]) ∧ 2 ≤ c' ∧ RowI w' A' [1, 2]) ∧ Below w.heap.size w w' := by
 refine (scores_Code.calls 4 A c P4 w hr).mono ?_
 rintro e w' ⟨⟨h, _⟩ | ⟨_, v, rfl, ho⟩, hb⟩
 ·exact absurd isTree4 h
 ·rw [show codeOf (4 : Int).toNat P4 = [1, 2] from code4] at ho
  obtain ⟨A', c', rfl, hc, hr'⟩ := ho.row
  exact ⟨⟨A', c', rfl, hc, hr'⟩, hb⟩
theorem shape_awake (c : Nat) (A : Option Addr) (w : World) (hr : RowP w A P4) :
  Calls Try.prog 17 #[.int .i64 4, .slice A 3 c] w fun e w' => e = .returned (.tuple #[.string ⟨#[40, 40, 40, 41, 41, 40, 41, 41]⟩, .int .i64 0]) ∧ Below w.heap.size w w' := by
 refine (scores_Shape.calls 4 A c P4 1 4 w hr (fun _ => by
  show ShapeOk (treeOf 4 P4) 4 1 4
  rw [tree4]; exact ok4)).mono ?_
 rintro e w' ⟨⟨h, _⟩ | ⟨_, rfl⟩, hb⟩
 ·exact absurd isTree4 h
 ·refine ⟨?_, hb⟩
  rw [show shapeOf (treeOf (4 : Int).toNat P4) (4 : Int).toNat 1 4 = [40, 40, 40, 41, 41, 40, 41, 41] from by
   show shapeOf (treeOf 4 P4) 4 1 4 = _
   rw [tree4]; exact shape4]
theorem kings_awake (c : Nat) (A : Option Addr) (w : World) (hr : RowLL w A R3) :
  Calls Try.prog 25 #[.slice A 3 c] w fun e w' => (∃ A' c', e = .returned (.tuple #[.slice A' 3 c', .int .i64 0]) ∧ 3 ≤ c' ∧ RowI w' A' [0, 1, 2]) ∧ Below w.heap.size w w' := by
 refine (scores_Kings.calls (n := 3) A c R3 w hr rfl isC3).mono ?_
 rintro e w' ⟨v, rfl, ho, hb⟩
 rw [kings3] at ho
 obtain ⟨A', c', rfl, hc, hr'⟩ := ho.row
 exact ⟨⟨A', c', rfl, hc, hr'⟩, hb⟩
theorem graphic_at (w : World) : Calls Try.prog 33 #[.slice (some ⟨w.heap.size, 0, none⟩) 4 4] (w.alloc (.cells #[.int .i64 3, .int .i64 3, .int .i64 1, .int .i64 1] 3)) fun e w' => e = .returned (.tuple #[.slice none 0 0, .int .i64 2, .int .i64 0]) ∧ Below w.heap.size w w' :=
 (graphic_awake _ 4 _ (row_of_blk (heap_alloc_new w (.cells #[.int .i64 3, .int .i64 3, .int .i64 1, .int .i64 1] 3)) (by decide)) (by decide)).mono (fun e w' h => ⟨h.1, below_then (below_alloc (Below.refl _ _) _) (by simp) h.2⟩)
theorem shapes7 (w : World) : Calls Try.prog 29 #[.int .i64 7] w fun e w' => e = .returned (.tuple #[.int .i64 11, .int .i64 0]) ∧ Below w.heap.size w w' := scores_Shapes.calls 300 7 11 0 w (by kernel_rfl)
theorem ints3 (A : Option Addr) (c : Nat) (W : World) (hc : 3 ≤ c) (hr : RowI W A [0, 1, 2]) :
  Calls Try.prog 20 #[.slice A 3 c, .slice (some ⟨W.heap.size, 0, none⟩) 3 3] (W.alloc (.cells #[.int .i64 0, .int .i64 1, .int .i64 2] 3)) fun e w' => e = .returned (.bool true) ∧ Drawn0 (W.alloc (.cells #[.int .i64 0, .int .i64 1, .int .i64 2] 3)) w' :=
 tickinglaw09_ints.calls 10 A c [0, 1, 2] _ 3 [0, 1, 2] true _ (hr.alloc _).1 hc (row_of_blk (heap_alloc_new W (.cells #[.int .i64 0, .int .i64 1, .int .i64 2] 3)) (by decide)).1 (Nat.le_refl _) (by kernel_rfl)
theorem ints2 (A : Option Addr) (c : Nat) (W : World) (hc : 2 ≤ c) (hr : RowI W A [1, 2]) :
  Calls Try.prog 20 #[.slice A 2 c, .slice (some ⟨W.heap.size, 0, none⟩) 2 2] (W.alloc (.cells #[.int .i64 1, .int .i64 2] 3)) fun e w' => e = .returned (.bool true) ∧ Drawn0 (W.alloc (.cells #[.int .i64 1, .int .i64 2] 3)) w' :=
 tickinglaw09_ints.calls 10 A c [1, 2] _ 2 [1, 2] true _ (hr.alloc _).1 hc (row_of_blk (heap_alloc_new W (.cells #[.int .i64 1, .int .i64 2] 3)) (by decide)).1 (Nat.le_refl _) (by kernel_rfl)
theorem kings_at (w : World) : Calls Try.prog 25 #[.slice (some ⟨w.heap.size + 1 + 1 + 1, 0, none⟩) 3 3] ((((w.alloc (.cells #[.int .i64 0, .int .i64 1, .int .i64 0] 3)).alloc (.cells #[.int .i64 0, .int .i64 0, .int .i64 1] 3)).alloc (.cells #[.int .i64 1, .int .i64 0, .int .i64 0] 3)).alloc (.cells #[.slice (some ⟨w.heap.size, 0, none⟩) 3 3, .slice (some ⟨w.heap.size + 1, 0, none⟩) 3 3, .slice (some ⟨w.heap.size + 1 + 1, 0, none⟩) 3 3] 24)) fun e w' => (∃ A' c', e = .returned (.tuple #[.slice A' 3 c', .int .i64 0]) ∧ 3 ≤ c' ∧ RowI w' A' [0, 1, 2]) ∧ Below w.heap.size w w' :=
 (kings_awake 3 _ _ (tab3 w)).mono (fun e w' h => ⟨h.1, below_then (below_alloc (below_alloc (below_alloc (below_alloc (Below.refl _ _) _) _) _) _) (by simp; omega) h.2⟩)
theorem code_at (w : World) : Calls Try.prog 16 #[.int .i64 4, .slice (some ⟨w.heap.size, 0, none⟩) 3 3] (w.alloc (.cells #[.int .i64 0, .int .i64 1, .int .i64 1, .int .i64 2, .int .i64 2, .int .i64 3] 54)) fun e w' => (∃ A' c', e = .returned (.tuple #[.slice A' 2 c', .int .i64 0]) ∧ 2 ≤ c' ∧ RowI w' A' [1, 2]) ∧ Below w.heap.size w w' :=
 (code_awake 3 _ _ (pairs4 w)).mono (fun e w' h => ⟨h.1, below_then (below_alloc (Below.refl _ _) _) (by simp) h.2⟩)
theorem shape_at (w : World) : Calls Try.prog 17 #[.int .i64 4, .slice (some ⟨w.heap.size, 0, none⟩) 3 3] (w.alloc (.cells #[.int .i64 0, .int .i64 1, .int .i64 1, .int .i64 2, .int .i64 2, .int .i64 3] 54)) fun e w' => e = .returned (.tuple #[.string ⟨#[40, 40, 40, 41, 41, 40, 41, 41]⟩, .int .i64 0]) ∧ Below w.heap.size w w' :=
 (shape_awake 3 _ _ (pairs4 w)).mono (fun e w' h => ⟨h.1, below_then (below_alloc (Below.refl _ _) _) (by simp) h.2⟩)
set_option maxHeartbeats 4000000 in
set_option maxRecDepth 100000 in
theorem awake_calls (w : World) : Calls Try.prog 19 #[] w fun e w' => e = .returned (.bool true) ∧ Below w.heap.size w w' := by
 go_enter Try.func19, Try.ntmps19
 go_wp2_with (first
  | (
    go_at_call 33; (with_reducible refine (graphic_at _).mono ?_); rintro e w1 ⟨rfl, hb⟩
    have HB1 := Aside0.mk hb
    clear hb)
  | (
    go_at_call 25; (with_reducible refine (kings_at _).mono ?_); rintro e w2 ⟨⟨A4, c4, rfl, hc4, hr4⟩, hb⟩
    have HB2 := Aside0.mk (below_then HB1.out HB1.out.size hb)
    have HC4 := Aside0.mk hc4
    have HR4 := Aside0.mk hr4
    clear hb hc4 hr4)
  | (
    go_at_call 16; (with_reducible refine (code_at _).mono ?_); rintro e w3 ⟨⟨A6, c6, rfl, hc6, hr6⟩, hb⟩
    have HB3 := Aside0.mk (below_then HB2.out HB2.out.size hb)
    have HC6 := Aside0.mk hc6
    have HR6 := Aside0.mk hr6
    have HR4b := Aside0.mk (HR4.out.below hb)
    clear hb hc6 hr6)
  | (
    go_at_call 17; (with_reducible refine (shape_at _).mono ?_); rintro e w4 ⟨rfl, hb⟩
    have HB4 := Aside0.mk (below_then HB3.out HB3.out.size hb)
    have HR4c := Aside0.mk (HR4b.out.below hb)
    have HR6c := Aside0.mk (HR6.out.below hb)
    clear hb)
  | (
    go_at_call 29; (with_reducible refine (shapes7 _).mono ?_); rintro e w5 ⟨rfl, hb⟩
    have HB5 := Aside0.mk (below_then HB4.out HB4.out.size hb)
    have HI4 := Aside0.mk (ints3 A4 c4 w5 HC4.out (HR4c.out.below hb))
    have HR6d := Aside0.mk (HR6c.out.below hb)
    clear hb)
  | (
    go_at_call 20; (with_reducible refine HI4.out.mono ?_); rintro e w6 ⟨rfl, hd⟩
    have HB6 := Aside0.mk (below_then HB5.out HB5.out.size (below_then (below_alloc (Below.refl w5.heap.size w5) _) (by simp) hd.below))
    have HI6 := Aside0.mk (ints2 A6 c6 w6 HC6.out (HR6d.out.below (below_then (below_alloc (Below.refl w5.heap.size w5) _) (by simp) hd.below)))
    clear hd HI4)
  | (
    go_at_call 20; (with_reducible refine HI6.out.mono ?_); rintro e w7 ⟨rfl, hd⟩
    have HB7 := Aside0.mk (below_then HB6.out HB6.out.size (below_then (below_alloc (Below.refl w6.heap.size w6) _) (by simp) hd.below))
    clear hd HI6))
 go_ret
 exact ⟨rfl, HB7.out⟩
end Go.Proofs.Ytcploeijeedmdaa.X
