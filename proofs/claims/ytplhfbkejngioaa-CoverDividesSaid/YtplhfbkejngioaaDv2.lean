/- The contract of slices.Concat at two lists of rectangles. Texts of this claim's session, put together: Concat. -/
import Derived.Test.YtplhfbkejngioaaBc0
import Derived.Test.YtplhfbkejngioaaBc4
import Derived.Lib.AppendZerosOnto
import Derived.Lib.Walk
import Derived.Test.YtplhfbkejngioaaVWords
namespace Go.Proofs.Ytplhfbkejngioaa.X
open Go.RowKit Go.Proofs.YtplhfbkejngioaaW.PrintWords Go.Proofs.YtplhfbkejngioaaW.PrintLast Go.Proofs.Ytplhfbkejngioaa.S
set_option linter.unusedVariables false
set_option linter.unusedSimpArgs false
theorem grow_calls (n : Nat) (hn : n ≤ 1000000) (w : World) :
  Calls Try.prog 92 #[.slice none 0 0, .int .i64 (n : Int)] w fun e w' => ∃ v, e = .returned v ∧ Kd.R k48 48 w' w.heap.size (fun _ => True) v [] ∧ Below w.heap.size w w' := by
 by_cases h0 : n = 0
 ·subst h0
  go_enter Try.func92, Try.ntmps92
  go_wp2
  go_ret
  exact ⟨_, rfl, Kd.R_nil _ _ _ _ _, Below.refl _ _⟩
 ·have h1 : ¬ ((n : Int) < 0) := by omega
  have h2 : wrap64 ((n : Int) - 0) = (n : Int) := by unfold wrap64; omega
  have h3 : (n : Int) > 0 := by omega
  obtain ⟨i0, hi, hz⟩ := Option.map_eq_some_iff.1 info48
  simp only [Prod.mk.injEq] at hz
  have hb : n * i0.bytes ≤ 281474976710656 := by rw [hz.2.2]; omega
  have hrz := fun ty => Go.Lib.run_append_nil_zeros (P := Try.prog) w 22 3 ty 48 i0 _ .i64 .i64 Try.underlying22 Try.underlying3 hi hz.1 n (by omega) (by rw [hz.2.1]; decide) (by omega) hb
  obtain ⟨G, hG⟩ : ∃ G, G = grownCap w n 0 48 := ⟨_, rfl⟩
  have hg1 := grownCap_ge w n 0 48
  have hg2 := grownCap_le_maxLen w n 0 48 (by unfold maxLen; omega)
  rw [← hG] at hrz hg1 hg2
  have hg3 : G ≤ 9223372036854775807 := by unfold maxLen at hg2; exact hg2
  have hcells : ∀ k : Nat, (Builtin.zeroCells (Value.agg #[.int .i64 0, .int .i64 0, .int .i64 0, .int .i64 0]).cells k).size = k * 4 := by
   intro k
   simp [Builtin.zeroCells, Value.cells]
  have hown := World.ownsRow_made (e := 48) (size := 4) w.drew (base := w.heap.size) (Builtin.zeroCells (Value.agg #[.int .i64 0, .int .i64 0, .int .i64 0, .int .i64 0]).cells n ++ Builtin.zeroCells (Value.agg #[.int .i64 0, .int .i64 0, .int .i64 0, .int .i64 0]).cells (G - n)) G (Nat.le_refl _) hg2 (by rw [Array.size_append, hcells, hcells]; omega)
  have HO := Aside0.mk hown
  have HI := Aside0.mk (show 0 ≤ G from Nat.zero_le _)
  clear hi hz hb hG hg1 hg2 hcells hown
  go_enter Try.func92, Try.ntmps92
  go_wp2_with (at_builtin; refine Go.Lib.wpList_append_run _ rfl _ _ _ _ rfl _ _ rfl rfl _ _ (hrz _) ?_)
  go_ret
  exact ⟨_, rfl, ⟨fun _ _ => trivial, [], HO.out, Reps.none _ _⟩, below_alloc (below_drew (Below.refl _ _)) _⟩
set_option maxHeartbeats 4000000 in
set_option maxRecDepth 100000 in
theorem concat_calls (A0 : Option Addr) (c0 : Nat) (l0 : List S48) (A1 : Option Addr) (c1 : Nat) (l1 : List S48) (b : Nat) (w : World) (hr0 : Kd.C k48 w A0 l0.length l0) (hr1 : Kd.C k48 w A1 l1.length l1)
  (hb : w.heap[b]? = some (.cells #[.slice A0 l0.length c0, .slice A1 l1.length c1] 22 (0, 0))) (h0 : l0.length ≤ 10000) (h1 : l1.length ≤ 10000) :
  Calls Try.prog 65 #[.slice (some ⟨b, 0, none⟩) 2 2] w fun e w' => ∃ v, e = .returned v ∧ Kd.R k48 48 w' w.heap.size (fun _ => True) v (l0 ++ l1) ∧ Below w.heap.size w w' := by
 have HR0 := Aside0.mk hr0
 have HR1 := Aside0.mk hr1
 have z0 : w.cell? ⟨b, 0, none⟩ = some (.slice A0 l0.length c0) := (blk_cell hb 0).trans rfl
 have z1 : w.cell? ⟨b, 1, none⟩ = some (.slice A1 l1.length c1) := (blk_cell hb 1).trans rfl
 have Z0 := Aside0.mk z0
 have Z1 := Aside0.mk z1
 obtain ⟨N, hN⟩ : ∃ N, N = l0.length + l1.length := ⟨_, rfl⟩
 have HS := Aside0.mk (show wrap64 ((l0.length : Int) + (l1.length : Int)) = (N : Int) by rw [w64 (by omega) (by omega)]; omega)
 have HN := Aside0.mk (show l0.length ≤ 10000 ∧ l1.length ≤ 10000 from ⟨h0, h1⟩)
 have HZ := Aside0.mk (show wrap64 (l0.length : Int) = (l0.length : Int) by rw [w64 (by omega) (by omega)])
 have HG := Aside0.mk (grow_calls N (by omega) w)
 clear hr0 hr1 hb h0 h1 hN
 go_enter Try.func65, Try.ntmps65
 go_wp2
 go_loopw [11, 3] (fun iv sv wr => w = wr ∧ ((iv = .int .i64 0 ∧ sv = .int .i64 0) ∨ (iv = .int .i64 1 ∧ sv = .int .i64 (l0.length : Int)) ∨ (iv = .int .i64 2 ∧ sv = .int .i64 (N : Int)))) (fun iv _ _ => (2 - intOf iv).toNat)
 case atStart => exact ⟨rfl, .inl ⟨rfl, rfl⟩⟩
 case round =>
  obtain ⟨rfl, ⟨rfl, rfl⟩ | ⟨rfl, rfl⟩ | ⟨rfl, rfl⟩⟩ := hrel
  ·have d1 : decide ((l0.length : Int) < 0) = false := decide_eq_false (by omega)
   have d2 : ((l0.length : Int) < 0) = False := eq_false (by omega)
   have e := HZ.out
   go_wp2
   clear e
   go_roundw
   ·exact ⟨trivial, .inr (.inl ⟨rfl, by rw [HZ.out]⟩)⟩
   ·decide
  ·have d1 : decide ((N : Int) < 0) = false := decide_eq_false (by omega)
   have d2 : ((N : Int) < 0) = False := eq_false (by omega)
   have e := HS.out
   go_wp2
   clear e
   go_roundw
   ·exact ⟨trivial, .inr (.inr ⟨rfl, by rw [HS.out]⟩)⟩
   ·decide
  ·clear z0 z1
   go_wp2_with (first
    | (go_at_call 92; (with_reducible refine HG.out.mono ?_); rintro e w1 ⟨v, rfl, hv, hbv⟩; have HV := Aside0.mk hv; have HB := Aside0.mk hbv; clear hv hbv))
   go_loopw [27, 6] (fun iv sv wr => Aside0 (Below w.heap.size w wr) ∧ ((iv = .int .i64 0 ∧ Aside0 (Kd.R k48 48 wr w.heap.size (fun _ => True) sv [])) ∨ (iv = .int .i64 1 ∧ Aside0 (Kd.R k48 48 wr w.heap.size (fun _ => True) sv l0)) ∨ (iv = .int .i64 2 ∧ Aside0 (Kd.R k48 48 wr w.heap.size (fun _ => True) sv (l0 ++ l1))))) (fun iv _ _ => (2 - intOf iv).toNat)
   case atStart => exact ⟨HB, .inl ⟨rfl, HV⟩⟩
   case round =>
    rename World => wr
    obtain ⟨HBr, ⟨rfl, HVr⟩ | ⟨rfl, HVr⟩ | ⟨rfl, HVr⟩⟩ := hrel
    ·have y0 := pw_cell_below HBr.out Z0.out
     have HC := Aside0.mk (Kd.C_below HR0.out HBr.out)
     go_wp2_with (first | ((with_reducible refine gate_builtin (b := .append) (xs := #[.tmp 31, .tmp 32]) rfl ?_); at_builtin; refine Kd.R_append_rows k48 (w0 := w) w.heap.size rfl (.tmp 31) (.tmp 32) 22 48 (.agg #[(.int .i64 0), (.int .i64 0), (.int .i64 0), (.int .i64 0)]) 32 rfl Try.underlying22 info48 rfl (by decide) (by omega) _ ([] : List S48) l0 _ _ _ (fun _ => True) (fun _ => False) rfl rfl HVr.out HC.out (fun _ _ h => h) (fun _ h => h.elim) (fun _ _ => trivial) HBr.out HBr.out.size ?aL ?_; (case aL => have := HN.out; simp only [List.length_nil]; omega); intro v177 w8 ho hb hg hat; have HO := Aside0.mk ho; have HB8 := Aside0.mk hb; clear ho hb hg hat))
     go_roundw
     ·exact ⟨HB8, .inr (.inl ⟨rfl, HO⟩)⟩
     ·decide
    ·have y0 := pw_cell_below HBr.out Z1.out
     have HC := Aside0.mk (Kd.C_below HR1.out HBr.out)
     go_wp2_with (first | ((with_reducible refine gate_builtin (b := .append) (xs := #[.tmp 31, .tmp 32]) rfl ?_); at_builtin; refine Kd.R_append_rows k48 (w0 := w) w.heap.size rfl (.tmp 31) (.tmp 32) 22 48 (.agg #[(.int .i64 0), (.int .i64 0), (.int .i64 0), (.int .i64 0)]) 32 rfl Try.underlying22 info48 rfl (by decide) (by omega) _ l0 l1 _ _ _ (fun _ => True) (fun _ => False) rfl rfl HVr.out HC.out (fun _ _ h => h) (fun _ h => h.elim) (fun _ _ => trivial) HBr.out HBr.out.size ?aL ?_; (case aL => have := HN.out; omega); intro v177 w8 ho hb hg hat; have HO := Aside0.mk ho; have HB8 := Aside0.mk hb; clear ho hb hg hat))
     go_roundw
     ·exact ⟨HB8, .inr (.inr ⟨rfl, HO⟩)⟩
     ·decide
    ·go_wp2
     go_ret
     exact ⟨_, rfl, HVr.out, HBr.out⟩
end Go.Proofs.Ytplhfbkejngioaa.X
