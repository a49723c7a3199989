/- Texts of this claim's session, put together: X0, X1, X2, X3, Spec, Leaf, Grid0, X4, X5, X6, X9. -/
import Derived.Test.YtplhfbkejngioaaProg
import Derived.Below
import Derived.Deep.Draws
import Derived.Deep.AppendLies
import Derived.Maps.AppendAt
import Derived.OwnWalk
import Derived.Laws.BytesArg
import Derived.Laws.MakeOwn
import Derived.Laws.OwnMore
import Derived.Deep.OwnRows
import Derived.Tactics
import Derived.Lib.ConvBytes
import Derived.Laws.Slices
import Derived.WalkKit
import Derived.KernelRfl
import Derived.RowKit3
import Derived.Deep.LoopGhost
import Derived.Deep.QuietTactic
import Derived.BigQuiet
import Derived.WideLaws
import Derived.Deep.DeepCutAuto
import Derived.Deep.CutBlock
import Derived.Deep.RegionHeld3
import Derived.Laws.Rows
import Derived.Lib.AppendStr
import Derived.ArgAppend
import Derived.Laws.IdiomCopy
import Derived.OrdersHeld
import Derived.Laws.BitsLemmas
import Derived.RowKit
import Derived.Test.YtplhfbkejngioaaVWords
import Derived.Test.YtplhfbkejngioaaVLast
import Derived.Test.YtplhfbkejngioaaVTab
import Derived.Test.YtplhfbkejngioaaBc0
import Derived.Test.YtplhfbkejngioaaVEqStruct
import Derived.Test.YtplhfbkejngioaaVRepsOne
namespace Go.Proofs.Ytplhfbkejngioaa.X
open Go.RowKit Go.Proofs.YtplhfbkejngioaaW.PrintWords Go.Proofs.YtplhfbkejngioaaW.PrintLast Go.Proofs.Ytplhfbkejngioaa.S
attribute [local go_sem] max2_int min2_int max_two min_two
set_option linter.unusedVariables false
set_option linter.unusedSimpArgs false
def errW : Option Int → Value
 | none => .nilIface
 | some c => .iface 0 (.int .i64 c)
theorem errW_none : errW none = .nilIface := rfl
theorem errW_some (c : Int) : errW (some c) = .iface 0 (.int .i64 c) := rfl
theorem info3 : (Try.prog.info? 3).map (fun i => (i.zero, i.size, i.bytes)) = some (some (.int .i64 0), 1, 8) := by kernel_rfl
theorem info28 : (Try.prog.info? 28).map (fun i => (i.zero, i.size, i.bytes)) = some (some (.agg #[(.int .i64 0), (.int .i64 0)]), 2, 16) := by kernel_rfl
theorem info48 : (Try.prog.info? 48).map (fun i => (i.zero, i.size, i.bytes)) = some (some (.agg #[(.int .i64 0), (.int .i64 0), (.int .i64 0), (.int .i64 0)]), 4, 32) := by kernel_rfl
structure S28 where
 f0 : Int
 f1 : Int
def z28 : S28 := ⟨(0 : Int), (0 : Int)⟩
def k28 : Kd S28 := Kd.iso (Kd.pair (Kd.int .i64) (Kd.int .i64)) (fun x : S28 => (x.f0, x.f1))
theorem k28_open {w : World} {x : S28} {cs : List Value} (h : k28.K w x cs) : cs = [.int .i64 x.f0, .int .i64 x.f1] := by
 obtain ⟨_, _, rfl, rfl, rfl⟩ := h
 exact rfl
theorem k28_openM {w : World} {base : Nat} {ok : Nat → Prop} {x : S28} {cs : List Value} (h : k28.M w base ok x cs) : cs = [.int .i64 x.f0, .int .i64 x.f1] := by
 obtain ⟨_, _, rfl, rfl, rfl⟩ := h
 exact rfl
theorem k28_mk (w : World) (x : S28)  : k28.K w x [.int .i64 x.f0, .int .i64 x.f1] := ⟨[.int .i64 x.f0], [.int .i64 x.f1], rfl, rfl, rfl⟩
theorem k28_mkM (w : World) (base : Nat) (ok : Nat → Prop) (x : S28)  : k28.M w base ok x [.int .i64 x.f0, .int .i64 x.f1] := ⟨[.int .i64 x.f0], [.int .i64 x.f1], rfl, rfl, rfl⟩
def rd_T28 (xs : List S28) (i : Int) : S28 := xs.getD i.toNat z28
theorem at_T28 {w : World} {A : Option Addr} {n : Nat} {xs : List S28} (h : Kd.C k28 w A n xs) (i : Int) (h0 : 0 ≤ i) (h1 : i < n) : ∃ ad , A = some ad ∧ w.cell? (ad.add (i.toNat * 2)) = some (.int .i64 (rd_T28 xs i).f0) ∧ w.cell? ⟨(ad.add (i.toNat * 2)).block, (ad.add (i.toNat * 2)).off + 1, none⟩ = some (.int .i64 (rd_T28 xs i).f1) := by
 obtain ⟨ad, c, e, _, hK, hc0⟩ := Kd.C_get h z28 i h0 h1
 have hc : ∀ j u, c[j]? = some u → w.cell? (ad.add (i.toNat * 2 + j)) = some u := hc0
 obtain rfl := k28_open hK
 exact ⟨ad, e, hc 0 _ rfl, by rw [← add_field _ _ 1 (by omega)]; exact hc 1 _ rfl⟩
structure S48 where
 f0 : Int
 f1 : Int
 f2 : Int
 f3 : Int
def z48 : S48 := ⟨(0 : Int), (0 : Int), (0 : Int), (0 : Int)⟩
def k48 : Kd S48 := Kd.iso (Kd.pair (Kd.int .i64) (Kd.pair (Kd.int .i64) (Kd.pair (Kd.int .i64) (Kd.int .i64)))) (fun x : S48 => (x.f0, x.f1, x.f2, x.f3))
theorem k48_open {w : World} {x : S48} {cs : List Value} (h : k48.K w x cs) : cs = [.int .i64 x.f0, .int .i64 x.f1, .int .i64 x.f2, .int .i64 x.f3] := by
 obtain ⟨_, _, rfl, rfl, ⟨_, _, rfl, rfl, ⟨_, _, rfl, rfl, rfl⟩⟩⟩ := h
 exact rfl
theorem k48_openM {w : World} {base : Nat} {ok : Nat → Prop} {x : S48} {cs : List Value} (h : k48.M w base ok x cs) : cs = [.int .i64 x.f0, .int .i64 x.f1, .int .i64 x.f2, .int .i64 x.f3] := by
 obtain ⟨_, _, rfl, rfl, ⟨_, _, rfl, rfl, ⟨_, _, rfl, rfl, rfl⟩⟩⟩ := h
 exact rfl
theorem k48_mk (w : World) (x : S48)  : k48.K w x [.int .i64 x.f0, .int .i64 x.f1, .int .i64 x.f2, .int .i64 x.f3] := ⟨[.int .i64 x.f0], [.int .i64 x.f1, .int .i64 x.f2, .int .i64 x.f3], rfl, rfl, ⟨[.int .i64 x.f1], [.int .i64 x.f2, .int .i64 x.f3], rfl, rfl, ⟨[.int .i64 x.f2], [.int .i64 x.f3], rfl, rfl, rfl⟩⟩⟩
theorem k48_mkM (w : World) (base : Nat) (ok : Nat → Prop) (x : S48)  : k48.M w base ok x [.int .i64 x.f0, .int .i64 x.f1, .int .i64 x.f2, .int .i64 x.f3] := ⟨[.int .i64 x.f0], [.int .i64 x.f1, .int .i64 x.f2, .int .i64 x.f3], rfl, rfl, ⟨[.int .i64 x.f1], [.int .i64 x.f2, .int .i64 x.f3], rfl, rfl, ⟨[.int .i64 x.f2], [.int .i64 x.f3], rfl, rfl, rfl⟩⟩⟩
def rd_T48 (xs : List S48) (i : Int) : S48 := xs.getD i.toNat z48
theorem at_T48 {w : World} {A : Option Addr} {n : Nat} {xs : List S48} (h : Kd.C k48 w A n xs) (i : Int) (h0 : 0 ≤ i) (h1 : i < n) : ∃ ad , A = some ad ∧ w.cell? (ad.add (i.toNat * 4)) = some (.int .i64 (rd_T48 xs i).f0) ∧ w.cell? ⟨(ad.add (i.toNat * 4)).block, (ad.add (i.toNat * 4)).off + 1, none⟩ = some (.int .i64 (rd_T48 xs i).f1) ∧ w.cell? ⟨(ad.add (i.toNat * 4)).block, (ad.add (i.toNat * 4)).off + 2, none⟩ = some (.int .i64 (rd_T48 xs i).f2) ∧ w.cell? ⟨(ad.add (i.toNat * 4)).block, (ad.add (i.toNat * 4)).off + 3, none⟩ = some (.int .i64 (rd_T48 xs i).f3) := by
 obtain ⟨ad, c, e, _, hK, hc0⟩ := Kd.C_get h z48 i h0 h1
 have hc : ∀ j u, c[j]? = some u → w.cell? (ad.add (i.toNat * 4 + j)) = some u := hc0
 obtain rfl := k48_open hK
 exact ⟨ad, e, hc 0 _ rfl, by rw [← add_field _ _ 1 (by omega)]; exact hc 1 _ rfl, by rw [← add_field _ _ 2 (by omega)]; exact hc 2 _ rfl, by rw [← add_field _ _ 3 (by omega)]; exact hc 3 _ rfl⟩
structure S40 where
 f0 : Int
 f1 : Int
 f2 : Int
 f3 : Int
def z40 : S40 := ⟨(0 : Int), (0 : Int), (0 : Int), (0 : Int)⟩
def k40 : Kd S40 := Kd.iso (Kd.pair (Kd.int .i64) (Kd.pair (Kd.int .i64) (Kd.pair (Kd.int .i64) (Kd.int .i64)))) (fun x : S40 => (x.f0, x.f1, x.f2, x.f3))
theorem k40_open {w : World} {x : S40} {cs : List Value} (h : k40.K w x cs) : cs = [.int .i64 x.f0, .int .i64 x.f1, .int .i64 x.f2, .int .i64 x.f3] := by
 obtain ⟨_, _, rfl, rfl, ⟨_, _, rfl, rfl, ⟨_, _, rfl, rfl, rfl⟩⟩⟩ := h
 exact rfl
theorem k40_openM {w : World} {base : Nat} {ok : Nat → Prop} {x : S40} {cs : List Value} (h : k40.M w base ok x cs) : cs = [.int .i64 x.f0, .int .i64 x.f1, .int .i64 x.f2, .int .i64 x.f3] := by
 obtain ⟨_, _, rfl, rfl, ⟨_, _, rfl, rfl, ⟨_, _, rfl, rfl, rfl⟩⟩⟩ := h
 exact rfl
theorem k40_mk (w : World) (x : S40)  : k40.K w x [.int .i64 x.f0, .int .i64 x.f1, .int .i64 x.f2, .int .i64 x.f3] := ⟨[.int .i64 x.f0], [.int .i64 x.f1, .int .i64 x.f2, .int .i64 x.f3], rfl, rfl, ⟨[.int .i64 x.f1], [.int .i64 x.f2, .int .i64 x.f3], rfl, rfl, ⟨[.int .i64 x.f2], [.int .i64 x.f3], rfl, rfl, rfl⟩⟩⟩
theorem k40_mkM (w : World) (base : Nat) (ok : Nat → Prop) (x : S40)  : k40.M w base ok x [.int .i64 x.f0, .int .i64 x.f1, .int .i64 x.f2, .int .i64 x.f3] := ⟨[.int .i64 x.f0], [.int .i64 x.f1, .int .i64 x.f2, .int .i64 x.f3], rfl, rfl, ⟨[.int .i64 x.f1], [.int .i64 x.f2, .int .i64 x.f3], rfl, rfl, ⟨[.int .i64 x.f2], [.int .i64 x.f3], rfl, rfl, rfl⟩⟩⟩
def rd_T40 (xs : List S40) (i : Int) : S40 := xs.getD i.toNat z40
theorem at_T40 {w : World} {A : Option Addr} {n : Nat} {xs : List S40} (h : Kd.C k40 w A n xs) (i : Int) (h0 : 0 ≤ i) (h1 : i < n) : ∃ ad , A = some ad ∧ w.cell? (ad.add (i.toNat * 4)) = some (.int .i64 (rd_T40 xs i).f0) ∧ w.cell? ⟨(ad.add (i.toNat * 4)).block, (ad.add (i.toNat * 4)).off + 1, none⟩ = some (.int .i64 (rd_T40 xs i).f1) ∧ w.cell? ⟨(ad.add (i.toNat * 4)).block, (ad.add (i.toNat * 4)).off + 2, none⟩ = some (.int .i64 (rd_T40 xs i).f2) ∧ w.cell? ⟨(ad.add (i.toNat * 4)).block, (ad.add (i.toNat * 4)).off + 3, none⟩ = some (.int .i64 (rd_T40 xs i).f3) := by
 obtain ⟨ad, c, e, _, hK, hc0⟩ := Kd.C_get h z40 i h0 h1
 have hc : ∀ j u, c[j]? = some u → w.cell? (ad.add (i.toNat * 4 + j)) = some u := hc0
 obtain rfl := k40_open hK
 exact ⟨ad, e, hc 0 _ rfl, by rw [← add_field _ _ 1 (by omega)]; exact hc 1 _ rfl, by rw [← add_field _ _ 2 (by omega)]; exact hc 2 _ rfl, by rw [← add_field _ _ 3 (by omega)]; exact hc 3 _ rfl⟩
end Go.Proofs.Ytplhfbkejngioaa.X
namespace Go.Proofs.Ytplhfbkejngioaa.X
open Go.RowKit Go.Proofs.YtplhfbkejngioaaW.PrintWords Go.Proofs.YtplhfbkejngioaaW.PrintLast Go.Proofs.Ytplhfbkejngioaa.S
attribute [local go_sem] max2_int min2_int max_two min_two
set_option linter.unusedVariables false
set_option linter.unusedSimpArgs false
theorem eqA28 (d : Nat) (w : World) (x0 y0 : Int) (x1 y1 : Int) :
  (Op.equalIn (d + 2) 28 (.agg #[.int .i64 x0, .int .i64 x1]) (.agg #[.int .i64 y0, .int .i64 y1])).run Try.prog w = .ok (x0 == y0 && (x1 == y1)) w := by
 refine eqA_of Try.underlying28 (by kernel_rfl) ?_
 refine eqf_cons (by rfl) (by go_simp; rfl) (by go_simp; rfl) (by go_simp) ?_
 exact eqf_last (by rfl) (by go_simp; rfl) (by go_simp; rfl) (by go_simp)
end Go.Proofs.Ytplhfbkejngioaa.X
namespace Go.Proofs.Ytplhfbkejngioaa.X
open Go.RowKit Go.Proofs.YtplhfbkejngioaaW.PrintWords Go.Proofs.YtplhfbkejngioaaW.PrintLast Go.Proofs.Ytplhfbkejngioaa.S
attribute [local go_sem] max2_int min2_int max_two min_two
set_option linter.unusedVariables false
set_option linter.unusedSimpArgs false
theorem eqA40 (d : Nat) (w : World) (x0 y0 : Int) (x1 y1 : Int) (x2 y2 : Int) (x3 y3 : Int) :
  (Op.equalIn (d + 2) 40 (.agg #[.int .i64 x0, .int .i64 x1, .int .i64 x2, .int .i64 x3]) (.agg #[.int .i64 y0, .int .i64 y1, .int .i64 y2, .int .i64 y3])).run Try.prog w = .ok (x0 == y0 && (x1 == y1 && (x2 == y2 && (x3 == y3)))) w := by
 refine eqA_of Try.underlying40 (by kernel_rfl) ?_
 refine eqf_cons (by rfl) (by go_simp; rfl) (by go_simp; rfl) (by go_simp) ?_
 refine eqf_cons (by rfl) (by go_simp; rfl) (by go_simp; rfl) (by go_simp) ?_
 refine eqf_cons (by rfl) (by go_simp; rfl) (by go_simp; rfl) (by go_simp) ?_
 exact eqf_last (by rfl) (by go_simp; rfl) (by go_simp; rfl) (by go_simp)
end Go.Proofs.Ytplhfbkejngioaa.X
namespace Go.Proofs.Ytplhfbkejngioaa.X
open Go.RowKit Go.Proofs.YtplhfbkejngioaaW.PrintWords Go.Proofs.YtplhfbkejngioaaW.PrintLast Go.Proofs.Ytplhfbkejngioaa.S
attribute [local go_sem] max2_int min2_int max_two min_two
set_option linter.unusedVariables false
set_option linter.unusedSimpArgs false
def cover_within.f (a0 : Int) (a1 : Int) (a2 : Int) : Option (Bool) := if a0 ≥ a1 then (some (decide (a0 ≤ a2))) else (some false)
set_option maxHeartbeats 8000000 in
set_option maxRecDepth 100000 in
theorem cover_within.calls (a0 : Int) (a1 : Int) (a2 : Int) (r : Bool) (w : World) (h : cover_within.f a0 a1 a2 = some r) :
  Calls Try.prog 61 #[.int .i64 a0, .int .i64 a1, .int .i64 a2] w fun e w' => e = .returned (.bool r) ∧ Drawn0 w w' := by
 have H : (if a0 ≥ a1 then (some (decide (a0 ≤ a2))) else (some false)) = some r := h
 clear h
 by_cases c4 : a0 ≥ a1
 ·rw [if_pos c4] at H
  have c4b0 : decide (a1 ≤ a0) = true := decide_eq_true c4
  clear c4
  obtain rfl := Option.some.inj H
  go_enter Try.func61, Try.ntmps61
  go_wp2
  go_ret
  exact ⟨by first | rfl | (simp; done) | (simp [*]; done), by repeat (first | exact Drawn0.refl _ | apply Drawn0.step)⟩
 ·rw [if_neg c4] at H
  have c4b0 : decide (a1 ≤ a0) = false := decide_eq_false c4
  clear c4
  obtain rfl := Option.some.inj H
  go_enter Try.func61, Try.ntmps61
  go_wp2
  go_ret
  exact ⟨by first | rfl | (simp; done) | (simp [*]; done), by repeat (first | exact Drawn0.refl _ | apply Drawn0.step)⟩
def cover_isCoord.f (a0 : Int) : Option (Bool) := (cover_within.f a0 (-256) 256).bind fun t101 => (some t101)
set_option maxHeartbeats 8000000 in
set_option maxRecDepth 100000 in
theorem cover_isCoord.calls (a0 : Int) (r : Bool) (w : World) (h : cover_isCoord.f a0 = some r) :
  Calls Try.prog 85 #[.int .i64 a0] w fun e w' => e = .returned (.bool r) ∧ Drawn0 w w' := by
 have H : ((cover_within.f a0 (-256) 256).bind fun t101 => (some t101)) = some r := h
 clear h
 replace H := Option.bind_eq_some_iff.mp H
 obtain ⟨t101, A20, H⟩ := H
 replace H : (some t101) = some r := H
 have A2 := Aside0.mk A20
 clear A20
 obtain rfl := Option.some.inj H
 go_enter Try.func85, Try.ntmps85
 go_wp2_with (first | ((with_reducible refine gate_callee (f := 61) rfl ?_); refine goesL_ (some 4) rfl rfl Try.func61 (by kernel_rfl) rfl #[.int .i64 a0, .int .i64 (-256), .int .i64 256] rfl (by (try simp only [List.map_toArray, List.map_cons, List.map_nil]); first | done | rfl | (simp only [List.length_drop, List.length_take]; rfl)) ?_; (with_reducible refine (cover_within.calls a0 (-256) 256 t101 _ A2.out).mono ?_); rintro e w' ⟨rfl, ⟨nd, rfl⟩⟩; refine ⟨_, rfl, ?_⟩))
 go_ret
 exact ⟨by first | rfl | (simp; done) | (simp [*]; done), by repeat (first | exact Drawn0.refl _ | apply Drawn0.step)⟩
def cover_isRect.f (a0_0 : Int) (a0_1 : Int) (a0_2 : Int) (a0_3 : Int) : Option (Bool) := (cover_isCoord.f a0_0).bind fun t103 => (if t103 = true then ((cover_isCoord.f a0_1).bind fun t104 => (if t104 = true then ((cover_isCoord.f a0_2).bind fun t105 => (if t105 = true then ((cover_isCoord.f a0_3).bind fun t106 => (if t106 = true then (if a0_0 < a0_2 then (some (decide (a0_1 < a0_3))) else (some false)) else (some false))) else (some false))) else (some false))) else (some false))
set_option maxHeartbeats 8000000 in
set_option maxRecDepth 100000 in
theorem cover_isRect.calls (a0_0 : Int) (a0_1 : Int) (a0_2 : Int) (a0_3 : Int) (r : Bool) (w : World) (h : cover_isRect.f a0_0 a0_1 a0_2 a0_3 = some r) :
  Calls Try.prog 76 #[.agg #[.int .i64 a0_0, .int .i64 a0_1, .int .i64 a0_2, .int .i64 a0_3]] w fun e w' => e = .returned (.bool r) ∧ Below w.heap.size w w' := by
 have hu48 := Try.underlying48
 have HB := Aside0.mk (Below.refl w.heap.size w)
 have H : ((cover_isCoord.f a0_0).bind fun t103 => (if t103 = true then ((cover_isCoord.f a0_1).bind fun t104 => (if t104 = true then ((cover_isCoord.f a0_2).bind fun t105 => (if t105 = true then ((cover_isCoord.f a0_3).bind fun t106 => (if t106 = true then (if a0_0 < a0_2 then (some (decide (a0_1 < a0_3))) else (some false)) else (some false))) else (some false))) else (some false))) else (some false))) = some r := h
 clear h
 replace H := Option.bind_eq_some_iff.mp H
 obtain ⟨t103, A20, H⟩ := H
 replace H : (if t103 = true then ((cover_isCoord.f a0_1).bind fun t104 => (if t104 = true then ((cover_isCoord.f a0_2).bind fun t105 => (if t105 = true then ((cover_isCoord.f a0_3).bind fun t106 => (if t106 = true then (if a0_0 < a0_2 then (some (decide (a0_1 < a0_3))) else (some false)) else (some false))) else (some false))) else (some false))) else (some false)) = some r := H
 have A2 := Aside0.mk A20
 clear A20
 by_cases c3 : t103 = true
 ·subst c3
  have H1 : ((cover_isCoord.f a0_1).bind fun t104 => (if t104 = true then ((cover_isCoord.f a0_2).bind fun t105 => (if t105 = true then ((cover_isCoord.f a0_3).bind fun t106 => (if t106 = true then (if a0_0 < a0_2 then (some (decide (a0_1 < a0_3))) else (some false)) else (some false))) else (some false))) else (some false))) = some r := by rw [if_pos rfl] at H; exact H
  clear H
  have H := H1
  clear H1
  replace H := Option.bind_eq_some_iff.mp H
  obtain ⟨t104, A40, H⟩ := H
  replace H : (if t104 = true then ((cover_isCoord.f a0_2).bind fun t105 => (if t105 = true then ((cover_isCoord.f a0_3).bind fun t106 => (if t106 = true then (if a0_0 < a0_2 then (some (decide (a0_1 < a0_3))) else (some false)) else (some false))) else (some false))) else (some false)) = some r := H
  have A4 := Aside0.mk A40
  clear A40
  by_cases c5 : t104 = true
  ·subst c5
   have H1 : ((cover_isCoord.f a0_2).bind fun t105 => (if t105 = true then ((cover_isCoord.f a0_3).bind fun t106 => (if t106 = true then (if a0_0 < a0_2 then (some (decide (a0_1 < a0_3))) else (some false)) else (some false))) else (some false))) = some r := by rw [if_pos rfl] at H; exact H
   clear H
   have H := H1
   clear H1
   replace H := Option.bind_eq_some_iff.mp H
   obtain ⟨t105, A60, H⟩ := H
   replace H : (if t105 = true then ((cover_isCoord.f a0_3).bind fun t106 => (if t106 = true then (if a0_0 < a0_2 then (some (decide (a0_1 < a0_3))) else (some false)) else (some false))) else (some false)) = some r := H
   have A6 := Aside0.mk A60
   clear A60
   by_cases c7 : t105 = true
   ·subst c7
    have H1 : ((cover_isCoord.f a0_3).bind fun t106 => (if t106 = true then (if a0_0 < a0_2 then (some (decide (a0_1 < a0_3))) else (some false)) else (some false))) = some r := by rw [if_pos rfl] at H; exact H
    clear H
    have H := H1
    clear H1
    replace H := Option.bind_eq_some_iff.mp H
    obtain ⟨t106, A80, H⟩ := H
    replace H : (if t106 = true then (if a0_0 < a0_2 then (some (decide (a0_1 < a0_3))) else (some false)) else (some false)) = some r := H
    have A8 := Aside0.mk A80
    clear A80
    by_cases c9 : t106 = true
    ·subst c9
     have H1 : (if a0_0 < a0_2 then (some (decide (a0_1 < a0_3))) else (some false)) = some r := by rw [if_pos rfl] at H; exact H
     clear H
     have H := H1
     clear H1
     by_cases c10 : a0_0 < a0_2
     ·rw [if_pos c10] at H
      have c10b0 : decide (a0_0 < a0_2) = true := decide_eq_true c10
      clear c10
      obtain rfl := Option.some.inj H
      go_enter Try.func76, Try.ntmps76
      go_wp2_with (first | ((with_reducible refine gate_dst (N := 1) rfl ?_); refine bxE 1 #[.int .i64 a0_0, .int .i64 a0_1, .int .i64 a0_2, .int .i64 a0_3] 48 ?_; intro gb102 hg w11 hbox hb; have n0_ := Aside0.mk (below_step HBz hb); have n1_ := Aside0.mk (hbox); have n2_ := Aside0.mk ((by rw [hg]; exact (below_size HBz) : w.heap.size ≤ gb102)); have n3_ := Aside0.mk ((by rw [hg]; exact (below_size HBz) : w.heap.size ≤ gb102)); clear HB; have HB := n0_; have BK102 := n1_; have GW102 := n2_; have GE102 := n3_; clear n0_ n1_ n2_ n3_; clear hb hbox hg; have hcz12_0 : w11.cell? ⟨gb102, 0, none⟩ = some (.int .i64 a0_0) := (blk_cell BK102.out 0).trans rfl; have hcz12_1 : w11.cell? ⟨gb102, 1, none⟩ = some (.int .i64 a0_1) := (blk_cell BK102.out 1).trans rfl; have hcz12_2 : w11.cell? ⟨gb102, 2, none⟩ = some (.int .i64 a0_2) := (blk_cell BK102.out 2).trans rfl; have hcz12_3 : w11.cell? ⟨gb102, 3, none⟩ = some (.int .i64 a0_3) := (blk_cell BK102.out 3).trans rfl; have hfz12_0 := blk_frozen BK102.out 0; have hfz12_1 := blk_frozen BK102.out 1; have hfz12_2 := blk_frozen BK102.out 2; have hfz12_3 := blk_frozen BK102.out 3) | ((with_reducible refine gate_callee (f := 85) rfl ?_); refine goesL_ (some 5) rfl rfl Try.func85 (by kernel_rfl) rfl #[.int .i64 a0_0] rfl (by (try simp only [List.map_toArray, List.map_cons, List.map_nil]); first | done | rfl | (simp only [List.length_drop, List.length_take]; rfl)) ?_; (with_reducible refine (cover_isCoord.calls a0_0 true _ A2.out).mono ?_); rintro e w' ⟨rfl, ⟨nd, rfl⟩⟩; refine ⟨_, rfl, ?_⟩) | (go_at_call 85; (with_reducible refine (cover_isCoord.calls a0_1 true _ A4.out).mono ?_); rintro e w' ⟨rfl, ⟨nd, rfl⟩⟩) | (go_at_call 85; (with_reducible refine (cover_isCoord.calls a0_2 true _ A6.out).mono ?_); rintro e w' ⟨rfl, ⟨nd, rfl⟩⟩) | (go_at_call 85; (with_reducible refine (cover_isCoord.calls a0_3 true _ A8.out).mono ?_); rintro e w' ⟨rfl, ⟨nd, rfl⟩⟩))
      go_ret
      exact ⟨by first | rfl | (simp [errW_none, errW_some] <;> rfl) | (simp [*, errW_none, errW_some] <;> rfl), HBz⟩
     ·rw [if_neg c10] at H
      have c10b0 : decide (a0_0 < a0_2) = false := decide_eq_false c10
      clear c10
      obtain rfl := Option.some.inj H
      go_enter Try.func76, Try.ntmps76
      go_wp2_with (first | ((with_reducible refine gate_dst (N := 1) rfl ?_); refine bxE 1 #[.int .i64 a0_0, .int .i64 a0_1, .int .i64 a0_2, .int .i64 a0_3] 48 ?_; intro gb102 hg w13 hbox hb; have n0_ := Aside0.mk (below_step HBz hb); have n1_ := Aside0.mk (hbox); have n2_ := Aside0.mk ((by rw [hg]; exact (below_size HBz) : w.heap.size ≤ gb102)); have n3_ := Aside0.mk ((by rw [hg]; exact (below_size HBz) : w.heap.size ≤ gb102)); clear HB; have HB := n0_; have BK102 := n1_; have GW102 := n2_; have GE102 := n3_; clear n0_ n1_ n2_ n3_; clear hb hbox hg; have hcz14_0 : w13.cell? ⟨gb102, 0, none⟩ = some (.int .i64 a0_0) := (blk_cell BK102.out 0).trans rfl; have hcz14_1 : w13.cell? ⟨gb102, 1, none⟩ = some (.int .i64 a0_1) := (blk_cell BK102.out 1).trans rfl; have hcz14_2 : w13.cell? ⟨gb102, 2, none⟩ = some (.int .i64 a0_2) := (blk_cell BK102.out 2).trans rfl; have hcz14_3 : w13.cell? ⟨gb102, 3, none⟩ = some (.int .i64 a0_3) := (blk_cell BK102.out 3).trans rfl; have hfz14_0 := blk_frozen BK102.out 0; have hfz14_1 := blk_frozen BK102.out 1; have hfz14_2 := blk_frozen BK102.out 2; have hfz14_3 := blk_frozen BK102.out 3) | ((with_reducible refine gate_callee (f := 85) rfl ?_); refine goesL_ (some 5) rfl rfl Try.func85 (by kernel_rfl) rfl #[.int .i64 a0_0] rfl (by (try simp only [List.map_toArray, List.map_cons, List.map_nil]); first | done | rfl | (simp only [List.length_drop, List.length_take]; rfl)) ?_; (with_reducible refine (cover_isCoord.calls a0_0 true _ A2.out).mono ?_); rintro e w' ⟨rfl, ⟨nd, rfl⟩⟩; refine ⟨_, rfl, ?_⟩) | (go_at_call 85; (with_reducible refine (cover_isCoord.calls a0_1 true _ A4.out).mono ?_); rintro e w' ⟨rfl, ⟨nd, rfl⟩⟩) | (go_at_call 85; (with_reducible refine (cover_isCoord.calls a0_2 true _ A6.out).mono ?_); rintro e w' ⟨rfl, ⟨nd, rfl⟩⟩) | (go_at_call 85; (with_reducible refine (cover_isCoord.calls a0_3 true _ A8.out).mono ?_); rintro e w' ⟨rfl, ⟨nd, rfl⟩⟩))
      go_ret
      exact ⟨by first | rfl | (simp [errW_none, errW_some] <;> rfl) | (simp [*, errW_none, errW_some] <;> rfl), HBz⟩
    ·replace c9 := Bool.eq_false_iff.mpr c9
     subst c9
     have H1 : (some false) = some r := by rw [if_neg (show ¬ (false = true) by decide)] at H; exact H
     clear H
     have H := H1
     clear H1
     obtain rfl := Option.some.inj H
     go_enter Try.func76, Try.ntmps76
     go_wp2_with (first | ((with_reducible refine gate_dst (N := 1) rfl ?_); refine bxE 1 #[.int .i64 a0_0, .int .i64 a0_1, .int .i64 a0_2, .int .i64 a0_3] 48 ?_; intro gb102 hg w15 hbox hb; have n0_ := Aside0.mk (below_step HBz hb); have n1_ := Aside0.mk (hbox); have n2_ := Aside0.mk ((by rw [hg]; exact (below_size HBz) : w.heap.size ≤ gb102)); have n3_ := Aside0.mk ((by rw [hg]; exact (below_size HBz) : w.heap.size ≤ gb102)); clear HB; have HB := n0_; have BK102 := n1_; have GW102 := n2_; have GE102 := n3_; clear n0_ n1_ n2_ n3_; clear hb hbox hg; have hcz16_0 : w15.cell? ⟨gb102, 0, none⟩ = some (.int .i64 a0_0) := (blk_cell BK102.out 0).trans rfl; have hcz16_1 : w15.cell? ⟨gb102, 1, none⟩ = some (.int .i64 a0_1) := (blk_cell BK102.out 1).trans rfl; have hcz16_2 : w15.cell? ⟨gb102, 2, none⟩ = some (.int .i64 a0_2) := (blk_cell BK102.out 2).trans rfl; have hcz16_3 : w15.cell? ⟨gb102, 3, none⟩ = some (.int .i64 a0_3) := (blk_cell BK102.out 3).trans rfl; have hfz16_0 := blk_frozen BK102.out 0; have hfz16_1 := blk_frozen BK102.out 1; have hfz16_2 := blk_frozen BK102.out 2; have hfz16_3 := blk_frozen BK102.out 3) | ((with_reducible refine gate_callee (f := 85) rfl ?_); refine goesL_ (some 5) rfl rfl Try.func85 (by kernel_rfl) rfl #[.int .i64 a0_0] rfl (by (try simp only [List.map_toArray, List.map_cons, List.map_nil]); first | done | rfl | (simp only [List.length_drop, List.length_take]; rfl)) ?_; (with_reducible refine (cover_isCoord.calls a0_0 true _ A2.out).mono ?_); rintro e w' ⟨rfl, ⟨nd, rfl⟩⟩; refine ⟨_, rfl, ?_⟩) | (go_at_call 85; (with_reducible refine (cover_isCoord.calls a0_1 true _ A4.out).mono ?_); rintro e w' ⟨rfl, ⟨nd, rfl⟩⟩) | (go_at_call 85; (with_reducible refine (cover_isCoord.calls a0_2 true _ A6.out).mono ?_); rintro e w' ⟨rfl, ⟨nd, rfl⟩⟩) | (go_at_call 85; (with_reducible refine (cover_isCoord.calls a0_3 false _ A8.out).mono ?_); rintro e w' ⟨rfl, ⟨nd, rfl⟩⟩))
     go_ret
     exact ⟨by first | rfl | (simp [errW_none, errW_some] <;> rfl) | (simp [*, errW_none, errW_some] <;> rfl), HBz⟩
   ·replace c7 := Bool.eq_false_iff.mpr c7
    subst c7
    have H1 : (some false) = some r := by rw [if_neg (show ¬ (false = true) by decide)] at H; exact H
    clear H
    have H := H1
    clear H1
    obtain rfl := Option.some.inj H
    go_enter Try.func76, Try.ntmps76
    go_wp2_with (first | ((with_reducible refine gate_dst (N := 1) rfl ?_); refine bxE 1 #[.int .i64 a0_0, .int .i64 a0_1, .int .i64 a0_2, .int .i64 a0_3] 48 ?_; intro gb102 hg w17 hbox hb; have n0_ := Aside0.mk (below_step HBz hb); have n1_ := Aside0.mk (hbox); have n2_ := Aside0.mk ((by rw [hg]; exact (below_size HBz) : w.heap.size ≤ gb102)); have n3_ := Aside0.mk ((by rw [hg]; exact (below_size HBz) : w.heap.size ≤ gb102)); clear HB; have HB := n0_; have BK102 := n1_; have GW102 := n2_; have GE102 := n3_; clear n0_ n1_ n2_ n3_; clear hb hbox hg; have hcz18_0 : w17.cell? ⟨gb102, 0, none⟩ = some (.int .i64 a0_0) := (blk_cell BK102.out 0).trans rfl; have hcz18_1 : w17.cell? ⟨gb102, 1, none⟩ = some (.int .i64 a0_1) := (blk_cell BK102.out 1).trans rfl; have hcz18_2 : w17.cell? ⟨gb102, 2, none⟩ = some (.int .i64 a0_2) := (blk_cell BK102.out 2).trans rfl; have hcz18_3 : w17.cell? ⟨gb102, 3, none⟩ = some (.int .i64 a0_3) := (blk_cell BK102.out 3).trans rfl; have hfz18_0 := blk_frozen BK102.out 0; have hfz18_1 := blk_frozen BK102.out 1; have hfz18_2 := blk_frozen BK102.out 2; have hfz18_3 := blk_frozen BK102.out 3) | ((with_reducible refine gate_callee (f := 85) rfl ?_); refine goesL_ (some 5) rfl rfl Try.func85 (by kernel_rfl) rfl #[.int .i64 a0_0] rfl (by (try simp only [List.map_toArray, List.map_cons, List.map_nil]); first | done | rfl | (simp only [List.length_drop, List.length_take]; rfl)) ?_; (with_reducible refine (cover_isCoord.calls a0_0 true _ A2.out).mono ?_); rintro e w' ⟨rfl, ⟨nd, rfl⟩⟩; refine ⟨_, rfl, ?_⟩) | (go_at_call 85; (with_reducible refine (cover_isCoord.calls a0_1 true _ A4.out).mono ?_); rintro e w' ⟨rfl, ⟨nd, rfl⟩⟩) | (go_at_call 85; (with_reducible refine (cover_isCoord.calls a0_2 false _ A6.out).mono ?_); rintro e w' ⟨rfl, ⟨nd, rfl⟩⟩))
    go_ret
    exact ⟨by first | rfl | (simp [errW_none, errW_some] <;> rfl) | (simp [*, errW_none, errW_some] <;> rfl), HBz⟩
  ·replace c5 := Bool.eq_false_iff.mpr c5
   subst c5
   have H1 : (some false) = some r := by rw [if_neg (show ¬ (false = true) by decide)] at H; exact H
   clear H
   have H := H1
   clear H1
   obtain rfl := Option.some.inj H
   go_enter Try.func76, Try.ntmps76
   go_wp2_with (first | ((with_reducible refine gate_dst (N := 1) rfl ?_); refine bxE 1 #[.int .i64 a0_0, .int .i64 a0_1, .int .i64 a0_2, .int .i64 a0_3] 48 ?_; intro gb102 hg w19 hbox hb; have n0_ := Aside0.mk (below_step HBz hb); have n1_ := Aside0.mk (hbox); have n2_ := Aside0.mk ((by rw [hg]; exact (below_size HBz) : w.heap.size ≤ gb102)); have n3_ := Aside0.mk ((by rw [hg]; exact (below_size HBz) : w.heap.size ≤ gb102)); clear HB; have HB := n0_; have BK102 := n1_; have GW102 := n2_; have GE102 := n3_; clear n0_ n1_ n2_ n3_; clear hb hbox hg; have hcz20_0 : w19.cell? ⟨gb102, 0, none⟩ = some (.int .i64 a0_0) := (blk_cell BK102.out 0).trans rfl; have hcz20_1 : w19.cell? ⟨gb102, 1, none⟩ = some (.int .i64 a0_1) := (blk_cell BK102.out 1).trans rfl; have hcz20_2 : w19.cell? ⟨gb102, 2, none⟩ = some (.int .i64 a0_2) := (blk_cell BK102.out 2).trans rfl; have hcz20_3 : w19.cell? ⟨gb102, 3, none⟩ = some (.int .i64 a0_3) := (blk_cell BK102.out 3).trans rfl; have hfz20_0 := blk_frozen BK102.out 0; have hfz20_1 := blk_frozen BK102.out 1; have hfz20_2 := blk_frozen BK102.out 2; have hfz20_3 := blk_frozen BK102.out 3) | ((with_reducible refine gate_callee (f := 85) rfl ?_); refine goesL_ (some 5) rfl rfl Try.func85 (by kernel_rfl) rfl #[.int .i64 a0_0] rfl (by (try simp only [List.map_toArray, List.map_cons, List.map_nil]); first | done | rfl | (simp only [List.length_drop, List.length_take]; rfl)) ?_; (with_reducible refine (cover_isCoord.calls a0_0 true _ A2.out).mono ?_); rintro e w' ⟨rfl, ⟨nd, rfl⟩⟩; refine ⟨_, rfl, ?_⟩) | (go_at_call 85; (with_reducible refine (cover_isCoord.calls a0_1 false _ A4.out).mono ?_); rintro e w' ⟨rfl, ⟨nd, rfl⟩⟩))
   go_ret
   exact ⟨by first | rfl | (simp [errW_none, errW_some] <;> rfl) | (simp [*, errW_none, errW_some] <;> rfl), HBz⟩
 ·replace c3 := Bool.eq_false_iff.mpr c3
  subst c3
  have H1 : (some false) = some r := by rw [if_neg (show ¬ (false = true) by decide)] at H; exact H
  clear H
  have H := H1
  clear H1
  obtain rfl := Option.some.inj H
  go_enter Try.func76, Try.ntmps76
  go_wp2_with (first | ((with_reducible refine gate_dst (N := 1) rfl ?_); refine bxE 1 #[.int .i64 a0_0, .int .i64 a0_1, .int .i64 a0_2, .int .i64 a0_3] 48 ?_; intro gb102 hg w21 hbox hb; have n0_ := Aside0.mk (below_step HBz hb); have n1_ := Aside0.mk (hbox); have n2_ := Aside0.mk ((by rw [hg]; exact (below_size HBz) : w.heap.size ≤ gb102)); have n3_ := Aside0.mk ((by rw [hg]; exact (below_size HBz) : w.heap.size ≤ gb102)); clear HB; have HB := n0_; have BK102 := n1_; have GW102 := n2_; have GE102 := n3_; clear n0_ n1_ n2_ n3_; clear hb hbox hg; have hcz22_0 : w21.cell? ⟨gb102, 0, none⟩ = some (.int .i64 a0_0) := (blk_cell BK102.out 0).trans rfl; have hcz22_1 : w21.cell? ⟨gb102, 1, none⟩ = some (.int .i64 a0_1) := (blk_cell BK102.out 1).trans rfl; have hcz22_2 : w21.cell? ⟨gb102, 2, none⟩ = some (.int .i64 a0_2) := (blk_cell BK102.out 2).trans rfl; have hcz22_3 : w21.cell? ⟨gb102, 3, none⟩ = some (.int .i64 a0_3) := (blk_cell BK102.out 3).trans rfl; have hfz22_0 := blk_frozen BK102.out 0; have hfz22_1 := blk_frozen BK102.out 1; have hfz22_2 := blk_frozen BK102.out 2; have hfz22_3 := blk_frozen BK102.out 3) | ((with_reducible refine gate_callee (f := 85) rfl ?_); refine goesL_ (some 5) rfl rfl Try.func85 (by kernel_rfl) rfl #[.int .i64 a0_0] rfl (by (try simp only [List.map_toArray, List.map_cons, List.map_nil]); first | done | rfl | (simp only [List.length_drop, List.length_take]; rfl)) ?_; (with_reducible refine (cover_isCoord.calls a0_0 false _ A2.out).mono ?_); rintro e w' ⟨rfl, ⟨nd, rfl⟩⟩; refine ⟨_, rfl, ?_⟩))
  go_ret
  exact ⟨by first | rfl | (simp [errW_none, errW_some] <;> rfl) | (simp [*, errW_none, errW_some] <;> rfl), HBz⟩
def cover_isPoint.f (a0_0 : Int) (a0_1 : Int) : Option (Bool) := (cover_isCoord.f a0_0).bind fun t108 => (if t108 = true then ((cover_isCoord.f a0_1).bind fun t109 => (some t109)) else (some false))
set_option maxHeartbeats 8000000 in
set_option maxRecDepth 100000 in
theorem cover_isPoint.calls (a0_0 : Int) (a0_1 : Int) (r : Bool) (w : World) (h : cover_isPoint.f a0_0 a0_1 = some r) :
  Calls Try.prog 58 #[.agg #[.int .i64 a0_0, .int .i64 a0_1]] w fun e w' => e = .returned (.bool r) ∧ Below w.heap.size w w' := by
 have hu28 := Try.underlying28
 have HB := Aside0.mk (Below.refl w.heap.size w)
 have H : ((cover_isCoord.f a0_0).bind fun t108 => (if t108 = true then ((cover_isCoord.f a0_1).bind fun t109 => (some t109)) else (some false))) = some r := h
 clear h
 replace H := Option.bind_eq_some_iff.mp H
 obtain ⟨t108, A20, H⟩ := H
 replace H : (if t108 = true then ((cover_isCoord.f a0_1).bind fun t109 => (some t109)) else (some false)) = some r := H
 have A2 := Aside0.mk A20
 clear A20
 by_cases c3 : t108 = true
 ·subst c3
  have H1 : ((cover_isCoord.f a0_1).bind fun t109 => (some t109)) = some r := by rw [if_pos rfl] at H; exact H
  clear H
  have H := H1
  clear H1
  replace H := Option.bind_eq_some_iff.mp H
  obtain ⟨t109, A40, H⟩ := H
  replace H : (some t109) = some r := H
  have A4 := Aside0.mk A40
  clear A40
  obtain rfl := Option.some.inj H
  go_enter Try.func58, Try.ntmps58
  go_wp2_with (first | ((with_reducible refine gate_dst (N := 1) rfl ?_); refine bxE 1 #[.int .i64 a0_0, .int .i64 a0_1] 28 ?_; intro gb107 hg w5 hbox hb; have n0_ := Aside0.mk (below_step HBz hb); have n1_ := Aside0.mk (hbox); have n2_ := Aside0.mk ((by rw [hg]; exact (below_size HBz) : w.heap.size ≤ gb107)); have n3_ := Aside0.mk ((by rw [hg]; exact (below_size HBz) : w.heap.size ≤ gb107)); clear HB; have HB := n0_; have BK107 := n1_; have GW107 := n2_; have GE107 := n3_; clear n0_ n1_ n2_ n3_; clear hb hbox hg; have hcz6_0 : w5.cell? ⟨gb107, 0, none⟩ = some (.int .i64 a0_0) := (blk_cell BK107.out 0).trans rfl; have hcz6_1 : w5.cell? ⟨gb107, 1, none⟩ = some (.int .i64 a0_1) := (blk_cell BK107.out 1).trans rfl; have hfz6_0 := blk_frozen BK107.out 0; have hfz6_1 := blk_frozen BK107.out 1) | ((with_reducible refine gate_callee (f := 85) rfl ?_); refine goesL_ (some 5) rfl rfl Try.func85 (by kernel_rfl) rfl #[.int .i64 a0_0] rfl (by (try simp only [List.map_toArray, List.map_cons, List.map_nil]); first | done | rfl | (simp only [List.length_drop, List.length_take]; rfl)) ?_; (with_reducible refine (cover_isCoord.calls a0_0 true _ A2.out).mono ?_); rintro e w' ⟨rfl, ⟨nd, rfl⟩⟩; refine ⟨_, rfl, ?_⟩) | (go_at_call 85; (with_reducible refine (cover_isCoord.calls a0_1 t109 _ A4.out).mono ?_); rintro e w' ⟨rfl, ⟨nd, rfl⟩⟩))
  go_ret
  exact ⟨by first | rfl | (simp [errW_none, errW_some] <;> rfl) | (simp [*, errW_none, errW_some] <;> rfl), HBz⟩
 ·replace c3 := Bool.eq_false_iff.mpr c3
  subst c3
  have H1 : (some false) = some r := by rw [if_neg (show ¬ (false = true) by decide)] at H; exact H
  clear H
  have H := H1
  clear H1
  obtain rfl := Option.some.inj H
  go_enter Try.func58, Try.ntmps58
  go_wp2_with (first | ((with_reducible refine gate_dst (N := 1) rfl ?_); refine bxE 1 #[.int .i64 a0_0, .int .i64 a0_1] 28 ?_; intro gb107 hg w7 hbox hb; have n0_ := Aside0.mk (below_step HBz hb); have n1_ := Aside0.mk (hbox); have n2_ := Aside0.mk ((by rw [hg]; exact (below_size HBz) : w.heap.size ≤ gb107)); have n3_ := Aside0.mk ((by rw [hg]; exact (below_size HBz) : w.heap.size ≤ gb107)); clear HB; have HB := n0_; have BK107 := n1_; have GW107 := n2_; have GE107 := n3_; clear n0_ n1_ n2_ n3_; clear hb hbox hg; have hcz8_0 : w7.cell? ⟨gb107, 0, none⟩ = some (.int .i64 a0_0) := (blk_cell BK107.out 0).trans rfl; have hcz8_1 : w7.cell? ⟨gb107, 1, none⟩ = some (.int .i64 a0_1) := (blk_cell BK107.out 1).trans rfl; have hfz8_0 := blk_frozen BK107.out 0; have hfz8_1 := blk_frozen BK107.out 1) | ((with_reducible refine gate_callee (f := 85) rfl ?_); refine goesL_ (some 5) rfl rfl Try.func85 (by kernel_rfl) rfl #[.int .i64 a0_0] rfl (by (try simp only [List.map_toArray, List.map_cons, List.map_nil]); first | done | rfl | (simp only [List.length_drop, List.length_take]; rfl)) ?_; (with_reducible refine (cover_isCoord.calls a0_0 false _ A2.out).mono ?_); rintro e w' ⟨rfl, ⟨nd, rfl⟩⟩; refine ⟨_, rfl, ?_⟩))
  go_ret
  exact ⟨by first | rfl | (simp [errW_none, errW_some] <;> rfl) | (simp [*, errW_none, errW_some] <;> rfl), HBz⟩
def cover_from.f (a0_0 : Int) (a0_1 : Int) (a0_2 : Int) (a0_3 : Int) (a1_0 : Int) (a1_1 : Int) : Option (Int × Int) := some (wrap64 ((wrap64 (a0_2 * a1_0)) - a0_0), wrap64 ((wrap64 (a0_2 * a1_1)) - a0_1))
set_option maxHeartbeats 8000000 in
set_option maxRecDepth 100000 in
theorem cover_from.calls (a0_0 : Int) (a0_1 : Int) (a0_2 : Int) (a0_3 : Int) (a1_0 : Int) (a1_1 : Int) (r1 : Int) (r2 : Int) (w : World) (h : cover_from.f a0_0 a0_1 a0_2 a0_3 a1_0 a1_1 = some (r1, r2)) :
  Calls Try.prog 86 #[.agg #[.int .i64 a0_0, .int .i64 a0_1, .int .i64 a0_2, .int .i64 a0_3], .agg #[.int .i64 a1_0, .int .i64 a1_1]] w fun e w' => e = .returned (.agg #[.int .i64 r1, .int .i64 r2]) ∧ Below w.heap.size w w' := by
 have hu40 := Try.underlying40
 have hu28 := Try.underlying28
 have HB := Aside0.mk (Below.refl w.heap.size w)
 have H : (some (wrap64 ((wrap64 (a0_2 * a1_0)) - a0_0), wrap64 ((wrap64 (a0_2 * a1_1)) - a0_1))) = some (r1, r2) := h
 clear h
 simp only [Option.some.injEq, Prod.mk.injEq] at H
 obtain ⟨rfl, rfl⟩ := H
 go_enter Try.func86, Try.ntmps86
 go_wp2_with (first | ((with_reducible refine gate_dst (N := 2) rfl ?_); refine bxE 2 #[.int .i64 a0_0, .int .i64 a0_1, .int .i64 a0_2, .int .i64 a0_3] 40 ?_; intro gb110 hg w3 hbox hb; have n0_ := Aside0.mk (below_step HBz hb); have n1_ := Aside0.mk (hbox); have n2_ := Aside0.mk ((by rw [hg]; exact (below_size HBz) : w.heap.size ≤ gb110)); have n3_ := Aside0.mk ((by rw [hg]; exact (below_size HBz) : w.heap.size ≤ gb110)); clear HB; have HB := n0_; have BK110 := n1_; have GW110 := n2_; have GE110 := n3_; clear n0_ n1_ n2_ n3_; clear hb hbox hg) | ((with_reducible refine gate_dst (N := 3) rfl ?_); refine bxE 3 #[.int .i64 a1_0, .int .i64 a1_1] 28 ?_; intro gb111 hg w4 hbox hb; have n0_ := Aside0.mk (blk_below (g := gb110) BKz hb); have n1_ := Aside0.mk (below_step HBz hb); have n2_ := Aside0.mk (hbox); have n3_ := Aside0.mk ((by rw [hg]; exact (below_size HBz) : w.heap.size ≤ gb111)); have n4_ := Aside0.mk ((by rw [hg]; exact (below_size HBz) : w.heap.size ≤ gb111)); have n5_ := Aside0.mk ((by rw [hg]; exact Nat.ne_of_lt (blk_lt (g := gb110) BKz) : gb110 ≠ gb111)); have n6_ := Aside0.mk ((by rw [hg]; exact Nat.ne_of_gt (blk_lt (g := gb110) BKz) : gb111 ≠ gb110)); clear BK110; clear HB; have BK110 := n0_; have HB := n1_; have BK111 := n2_; have GW111 := n3_; have GE111 := n4_; have NB110_111 := n5_; have NB111_110 := n6_; clear n0_ n1_ n2_ n3_ n4_ n5_ n6_; clear hb hbox hg) | ((with_reducible refine gate_dst (N := 4) rfl ?_); refine bxE 4 #[.int .i64 0, .int .i64 0] 28 ?_; intro gb112 hg w5 hbox hb; have n0_ := Aside0.mk (blk_below (g := gb110) BKz hb); have n1_ := Aside0.mk (blk_below (g := gb111) BKz hb); have n2_ := Aside0.mk (below_step HBz hb); have n3_ := Aside0.mk (hbox); have n4_ := Aside0.mk ((by rw [hg]; exact (below_size HBz) : w.heap.size ≤ gb112)); have n5_ := Aside0.mk ((by rw [hg]; exact (below_size HBz) : w.heap.size ≤ gb112)); have n6_ := Aside0.mk ((by rw [hg]; exact Nat.ne_of_lt (blk_lt (g := gb110) BKz) : gb110 ≠ gb112)); have n7_ := Aside0.mk ((by rw [hg]; exact Nat.ne_of_gt (blk_lt (g := gb110) BKz) : gb112 ≠ gb110)); have n8_ := Aside0.mk ((by rw [hg]; exact Nat.ne_of_lt (blk_lt (g := gb111) BKz) : gb111 ≠ gb112)); have n9_ := Aside0.mk ((by rw [hg]; exact Nat.ne_of_gt (blk_lt (g := gb111) BKz) : gb112 ≠ gb111)); clear BK110; clear BK111; clear HB; have BK110 := n0_; have BK111 := n1_; have HB := n2_; have BK112 := n3_; have GW112 := n4_; have GE112 := n5_; have NB110_112 := n6_; have NB112_110 := n7_; have NB111_112 := n8_; have NB112_111 := n9_; clear n0_ n1_ n2_ n3_ n4_ n5_ n6_ n7_ n8_ n9_; clear hb hbox hg; have hnb6 := NB110_111.out; have hnc6 := NB111_110.out; have hnb7 := NB110_112.out; have hnc7 := NB112_110.out; have hcz8_0 : w5.cell? ⟨gb110, 0, none⟩ = some (.int .i64 a0_0) := (blk_cell BK110.out 0).trans rfl; have hcz8_1 : w5.cell? ⟨gb110, 1, none⟩ = some (.int .i64 a0_1) := (blk_cell BK110.out 1).trans rfl; have hcz8_2 : w5.cell? ⟨gb110, 2, none⟩ = some (.int .i64 a0_2) := (blk_cell BK110.out 2).trans rfl; have hcz8_3 : w5.cell? ⟨gb110, 3, none⟩ = some (.int .i64 a0_3) := (blk_cell BK110.out 3).trans rfl; have hfz8_0 := blk_frozen BK110.out 0; have hfz8_1 := blk_frozen BK110.out 1; have hfz8_2 := blk_frozen BK110.out 2; have hfz8_3 := blk_frozen BK110.out 3; have hnb9 := NB111_112.out; have hnc9 := NB112_111.out; have hcz10_0 : w5.cell? ⟨gb111, 0, none⟩ = some (.int .i64 a1_0) := (blk_cell BK111.out 0).trans rfl; have hcz10_1 : w5.cell? ⟨gb111, 1, none⟩ = some (.int .i64 a1_1) := (blk_cell BK111.out 1).trans rfl; have hfz10_0 := blk_frozen BK111.out 0; have hfz10_1 := blk_frozen BK111.out 1; have hcz11_0 : w5.cell? ⟨gb112, 0, none⟩ = some (.int .i64 0) := (blk_cell BK112.out 0).trans rfl; have hcz11_1 : w5.cell? ⟨gb112, 1, none⟩ = some (.int .i64 0) := (blk_cell BK112.out 1).trans rfl; have hfz11_0 := blk_frozen BK112.out 0; have hfz11_1 := blk_frozen BK112.out 1))
 refine bodyPost_ret (results_cell_row rfl _ _ gb112 28 #[.int .i64 (wrap64 ((wrap64 (a0_2 * a1_0)) - a0_0)), .int .i64 (wrap64 ((wrap64 (a0_2 * a1_1)) - a0_1))] (0, 0) _ rfl (by (with_reducible repeat (first | refine blk_drewN ?_ _ | refine blk_drew ?_ | refine blk_alloc ?_ _)); refine blk_put (cs := #[.int .i64 (wrap64 ((wrap64 (a0_2 * a1_0)) - a0_0)), .int .i64 0]) ?_ 1 _ rfl; (with_reducible repeat (first | refine blk_drewN ?_ _ | refine blk_drew ?_ | refine blk_alloc ?_ _)); refine blk_put (cs := #[.int .i64 0, .int .i64 0]) ?_ 0 _ rfl; (with_reducible repeat (first | refine blk_drewN ?_ _ | refine blk_drew ?_ | refine blk_alloc ?_ _)); exact BK112.out) Try.underlying28 rfl (by kernel_rfl)) rfl ?_
 exact ⟨by first | rfl | (simp [errW_none, errW_some] <;> rfl) | (simp [*, errW_none, errW_some] <;> rfl), HBz⟩
def cover_dot.f (a0_0 : Int) (a0_1 : Int) (a1_0 : Int) (a1_1 : Int) : Option (Int) := some (wrap64 ((wrap64 (a0_0 * a1_0)) + (wrap64 (a0_1 * a1_1))))
set_option maxHeartbeats 8000000 in
set_option maxRecDepth 100000 in
theorem cover_dot.calls (a0_0 : Int) (a0_1 : Int) (a1_0 : Int) (a1_1 : Int) (r : Int) (w : World) (h : cover_dot.f a0_0 a0_1 a1_0 a1_1 = some r) :
  Calls Try.prog 87 #[.agg #[.int .i64 a0_0, .int .i64 a0_1], .agg #[.int .i64 a1_0, .int .i64 a1_1]] w fun e w' => e = .returned (.int .i64 r) ∧ Below w.heap.size w w' := by
 have hu28 := Try.underlying28
 have HB := Aside0.mk (Below.refl w.heap.size w)
 have H : (some (wrap64 ((wrap64 (a0_0 * a1_0)) + (wrap64 (a0_1 * a1_1))))) = some r := h
 clear h
 obtain rfl := Option.some.inj H
 go_enter Try.func87, Try.ntmps87
 go_wp2_with (first | ((with_reducible refine gate_dst (N := 2) rfl ?_); refine bxE 2 #[.int .i64 a0_0, .int .i64 a0_1] 28 ?_; intro gb113 hg w3 hbox hb; have n0_ := Aside0.mk (below_step HBz hb); have n1_ := Aside0.mk (hbox); have n2_ := Aside0.mk ((by rw [hg]; exact (below_size HBz) : w.heap.size ≤ gb113)); have n3_ := Aside0.mk ((by rw [hg]; exact (below_size HBz) : w.heap.size ≤ gb113)); clear HB; have HB := n0_; have BK113 := n1_; have GW113 := n2_; have GE113 := n3_; clear n0_ n1_ n2_ n3_; clear hb hbox hg) | ((with_reducible refine gate_dst (N := 3) rfl ?_); refine bxE 3 #[.int .i64 a1_0, .int .i64 a1_1] 28 ?_; intro gb114 hg w4 hbox hb; have n0_ := Aside0.mk (blk_below (g := gb113) BKz hb); have n1_ := Aside0.mk (below_step HBz hb); have n2_ := Aside0.mk (hbox); have n3_ := Aside0.mk ((by rw [hg]; exact (below_size HBz) : w.heap.size ≤ gb114)); have n4_ := Aside0.mk ((by rw [hg]; exact (below_size HBz) : w.heap.size ≤ gb114)); have n5_ := Aside0.mk ((by rw [hg]; exact Nat.ne_of_lt (blk_lt (g := gb113) BKz) : gb113 ≠ gb114)); have n6_ := Aside0.mk ((by rw [hg]; exact Nat.ne_of_gt (blk_lt (g := gb113) BKz) : gb114 ≠ gb113)); clear BK113; clear HB; have BK113 := n0_; have HB := n1_; have BK114 := n2_; have GW114 := n3_; have GE114 := n4_; have NB113_114 := n5_; have NB114_113 := n6_; clear n0_ n1_ n2_ n3_ n4_ n5_ n6_; clear hb hbox hg; have hnb5 := NB113_114.out; have hnc5 := NB114_113.out; have hcz6_0 : w4.cell? ⟨gb113, 0, none⟩ = some (.int .i64 a0_0) := (blk_cell BK113.out 0).trans rfl; have hcz6_1 : w4.cell? ⟨gb113, 1, none⟩ = some (.int .i64 a0_1) := (blk_cell BK113.out 1).trans rfl; have hfz6_0 := blk_frozen BK113.out 0; have hfz6_1 := blk_frozen BK113.out 1; have hcz7_0 : w4.cell? ⟨gb114, 0, none⟩ = some (.int .i64 a1_0) := (blk_cell BK114.out 0).trans rfl; have hcz7_1 : w4.cell? ⟨gb114, 1, none⟩ = some (.int .i64 a1_1) := (blk_cell BK114.out 1).trans rfl; have hfz7_0 := blk_frozen BK114.out 0; have hfz7_1 := blk_frozen BK114.out 1))
 go_ret
 exact ⟨by first | rfl | (simp [errW_none, errW_some] <;> rfl) | (simp [*, errW_none, errW_some] <;> rfl), HBz⟩
def cover_side.f (a0_0 : Int) (a0_1 : Int) (a0_2 : Int) (a0_3 : Int) (a1_0 : Int) (a1_1 : Int) : Option (Int) := (cover_from.f a0_0 a0_1 a0_2 a0_3 a1_0 a1_1).bind fun bt117 => ((cover_dot.f bt117.1 bt117.2 bt117.1 bt117.2).bind fun t120 => (if t120 < a0_3 then (some (-1)) else (if t120 > a0_3 then (some 1) else (some 0))))
set_option maxHeartbeats 8000000 in
set_option maxRecDepth 100000 in
theorem cover_side.calls (a0_0 : Int) (a0_1 : Int) (a0_2 : Int) (a0_3 : Int) (a1_0 : Int) (a1_1 : Int) (r : Int) (w : World) (h : cover_side.f a0_0 a0_1 a0_2 a0_3 a1_0 a1_1 = some r) :
  Calls Try.prog 59 #[.agg #[.int .i64 a0_0, .int .i64 a0_1, .int .i64 a0_2, .int .i64 a0_3], .agg #[.int .i64 a1_0, .int .i64 a1_1]] w fun e w' => e = .returned (.int .i64 r) ∧ Below w.heap.size w w' := by
 have hu40 := Try.underlying40
 have hu28 := Try.underlying28
 have HB := Aside0.mk (Below.refl w.heap.size w)
 have H : ((cover_from.f a0_0 a0_1 a0_2 a0_3 a1_0 a1_1).bind fun bt117 => ((cover_dot.f bt117.1 bt117.2 bt117.1 bt117.2).bind fun t120 => (if t120 < a0_3 then (some (-1)) else (if t120 > a0_3 then (some 1) else (some 0))))) = some r := h
 clear h
 replace H := Option.bind_eq_some_iff.mp H
 obtain ⟨⟨t117, t118⟩, A30, H⟩ := H
 replace H : ((cover_dot.f t117 t118 t117 t118).bind fun t120 => (if t120 < a0_3 then (some (-1)) else (if t120 > a0_3 then (some 1) else (some 0)))) = some r := H
 have A3 := Aside0.mk A30
 clear A30
 replace H := Option.bind_eq_some_iff.mp H
 obtain ⟨t120, A40, H⟩ := H
 replace H : (if t120 < a0_3 then (some (-1)) else (if t120 > a0_3 then (some 1) else (some 0))) = some r := H
 have A4 := Aside0.mk A40
 clear A40
 by_cases c5 : t120 < a0_3
 ·rw [if_pos c5] at H
  have c5b0 : decide (t120 < a0_3) = true := decide_eq_true c5
  clear c5
  obtain rfl := Option.some.inj H
  go_enter Try.func59, Try.ntmps59
  go_wp2_with (first | ((with_reducible refine gate_dst (N := 2) rfl ?_); refine bxE 2 #[.int .i64 a0_0, .int .i64 a0_1, .int .i64 a0_2, .int .i64 a0_3] 40 ?_; intro gb115 hg w6 hbox hb; have n0_ := Aside0.mk (below_step HBz hb); have n1_ := Aside0.mk (hbox); have n2_ := Aside0.mk ((by rw [hg]; exact (below_size HBz) : w.heap.size ≤ gb115)); have n3_ := Aside0.mk ((by rw [hg]; exact (below_size HBz) : w.heap.size ≤ gb115)); clear HB; have HB := n0_; have BK115 := n1_; have GW115 := n2_; have GE115 := n3_; clear n0_ n1_ n2_ n3_; clear hb hbox hg) | ((with_reducible refine gate_dst (N := 3) rfl ?_); refine bxE 3 #[.int .i64 a1_0, .int .i64 a1_1] 28 ?_; intro gb116 hg w7 hbox hb; have n0_ := Aside0.mk (blk_below (g := gb115) BKz hb); have n1_ := Aside0.mk (below_step HBz hb); have n2_ := Aside0.mk (hbox); have n3_ := Aside0.mk ((by rw [hg]; exact (below_size HBz) : w.heap.size ≤ gb116)); have n4_ := Aside0.mk ((by rw [hg]; exact (below_size HBz) : w.heap.size ≤ gb116)); have n5_ := Aside0.mk ((by rw [hg]; exact Nat.ne_of_lt (blk_lt (g := gb115) BKz) : gb115 ≠ gb116)); have n6_ := Aside0.mk ((by rw [hg]; exact Nat.ne_of_gt (blk_lt (g := gb115) BKz) : gb116 ≠ gb115)); clear BK115; clear HB; have BK115 := n0_; have HB := n1_; have BK116 := n2_; have GW116 := n3_; have GE116 := n4_; have NB115_116 := n5_; have NB116_115 := n6_; clear n0_ n1_ n2_ n3_ n4_ n5_ n6_; clear hb hbox hg; have hnb8 := NB115_116.out; have hnc8 := NB116_115.out; have hcz9_0 : w7.cell? ⟨gb115, 0, none⟩ = some (.int .i64 a0_0) := (blk_cell BK115.out 0).trans rfl; have hcz9_1 : w7.cell? ⟨gb115, 1, none⟩ = some (.int .i64 a0_1) := (blk_cell BK115.out 1).trans rfl; have hcz9_2 : w7.cell? ⟨gb115, 2, none⟩ = some (.int .i64 a0_2) := (blk_cell BK115.out 2).trans rfl; have hcz9_3 : w7.cell? ⟨gb115, 3, none⟩ = some (.int .i64 a0_3) := (blk_cell BK115.out 3).trans rfl; have hfz9_0 := blk_frozen BK115.out 0; have hfz9_1 := blk_frozen BK115.out 1; have hfz9_2 := blk_frozen BK115.out 2; have hfz9_3 := blk_frozen BK115.out 3; have hcz10_0 : w7.cell? ⟨gb116, 0, none⟩ = some (.int .i64 a1_0) := (blk_cell BK116.out 0).trans rfl; have hcz10_1 : w7.cell? ⟨gb116, 1, none⟩ = some (.int .i64 a1_1) := (blk_cell BK116.out 1).trans rfl; have hfz10_0 := blk_frozen BK116.out 0; have hfz10_1 := blk_frozen BK116.out 1) | ((with_reducible refine gate_callee (f := 86) rfl ?_); refine goesL_ (some 9) rfl rfl Try.func86 (by kernel_rfl) rfl #[.agg #[.int .i64 a0_0, .int .i64 a0_1, .int .i64 a0_2, .int .i64 a0_3], .agg #[.int .i64 a1_0, .int .i64 a1_1]] rfl (by (try simp only [List.map_toArray, List.map_cons, List.map_nil]); first | done | rfl | (simp only [List.length_drop, List.length_take]; rfl)) ?_; (with_reducible refine (cover_from.calls a0_0 a0_1 a0_2 a0_3 a1_0 a1_1 t117 t118 _ A3.out).mono ?_); rintro e w11 ⟨rfl, hb⟩; refine ⟨_, rfl, ?_⟩; have n0_ := Aside0.mk (blk_below (g := gb115) BKz hb); have n1_ := Aside0.mk (blk_below (g := gb116) BKz hb); have n2_ := Aside0.mk (below_step HBz hb); clear BK115; clear BK116; clear HB; have BK115 := n0_; have BK116 := n1_; have HB := n2_; clear n0_ n1_ n2_; (try clear hb); (try clear hb2); (try clear hk); (try clear hi)) | ((with_reducible refine gate_dst (N := 5) rfl ?_); refine bxE 5 #[.int .i64 0, .int .i64 0] 28 ?_; intro gb119 hg w12 hbox hb; have n0_ := Aside0.mk (blk_below (g := gb115) BKz hb); have n1_ := Aside0.mk (blk_below (g := gb116) BKz hb); have n2_ := Aside0.mk (below_step HBz hb); have n3_ := Aside0.mk (hbox); have n4_ := Aside0.mk ((by rw [hg]; exact (below_size HBz) : w.heap.size ≤ gb119)); have n5_ := Aside0.mk ((by rw [hg]; exact (below_size HBz) : w.heap.size ≤ gb119)); have n6_ := Aside0.mk ((by rw [hg]; exact Nat.ne_of_lt (blk_lt (g := gb115) BKz) : gb115 ≠ gb119)); have n7_ := Aside0.mk ((by rw [hg]; exact Nat.ne_of_gt (blk_lt (g := gb115) BKz) : gb119 ≠ gb115)); have n8_ := Aside0.mk ((by rw [hg]; exact Nat.ne_of_lt (blk_lt (g := gb116) BKz) : gb116 ≠ gb119)); have n9_ := Aside0.mk ((by rw [hg]; exact Nat.ne_of_gt (blk_lt (g := gb116) BKz) : gb119 ≠ gb116)); clear BK115; clear BK116; clear HB; have BK115 := n0_; have BK116 := n1_; have HB := n2_; have BK119 := n3_; have GW119 := n4_; have GE119 := n5_; have NB115_119 := n6_; have NB119_115 := n7_; have NB116_119 := n8_; have NB119_116 := n9_; clear n0_ n1_ n2_ n3_ n4_ n5_ n6_ n7_ n8_ n9_; clear hb hbox hg; have hnb13 := NB119_115.out; have hnc13 := NB115_119.out; have hnb14 := NB119_116.out; have hnc14 := NB116_119.out; have hcz15_0 : w12.cell? ⟨gb119, 0, none⟩ = some (.int .i64 0) := (blk_cell BK119.out 0).trans rfl; have hcz15_1 : w12.cell? ⟨gb119, 1, none⟩ = some (.int .i64 0) := (blk_cell BK119.out 1).trans rfl; have hfz15_0 := blk_frozen BK119.out 0; have hfz15_1 := blk_frozen BK119.out 1) | ((with_reducible refine gate_callee (f := 87) rfl ?_); refine goesL_ (some 12) rfl rfl Try.func87 (by kernel_rfl) rfl #[.agg #[.int .i64 t117, .int .i64 t118], .agg #[.int .i64 t117, .int .i64 t118]] rfl (by (try simp only [List.map_toArray, List.map_cons, List.map_nil]); first | done | rfl | (simp only [List.length_drop, List.length_take]; rfl)) ?_; (with_reducible refine (cover_dot.calls t117 t118 t117 t118 t120 _ A4.out).mono ?_); rintro e w16 ⟨rfl, hb⟩; refine ⟨_, rfl, ?_⟩; have n0_ := Aside0.mk (blk_below (g := gb115) (o := .cells #[.int .i64 a0_0, .int .i64 a0_1, .int .i64 a0_2, .int .i64 a0_3] 40 (0, 0)) (by (with_reducible repeat (first | refine blk_drewN ?_ _ | refine blk_drew ?_ | refine blk_alloc ?_ _)); refine blk_far ?_ NB115_119.out _; (with_reducible repeat (first | refine blk_drewN ?_ _ | refine blk_drew ?_ | refine blk_alloc ?_ _)); refine blk_far ?_ NB115_119.out _; (with_reducible repeat (first | refine blk_drewN ?_ _ | refine blk_drew ?_ | refine blk_alloc ?_ _)); exact BK115.out) hb); have n1_ := Aside0.mk (blk_below (g := gb116) (o := .cells #[.int .i64 a1_0, .int .i64 a1_1] 28 (0, 0)) (by (with_reducible repeat (first | refine blk_drewN ?_ _ | refine blk_drew ?_ | refine blk_alloc ?_ _)); refine blk_far ?_ NB116_119.out _; (with_reducible repeat (first | refine blk_drewN ?_ _ | refine blk_drew ?_ | refine blk_alloc ?_ _)); refine blk_far ?_ NB116_119.out _; (with_reducible repeat (first | refine blk_drewN ?_ _ | refine blk_drew ?_ | refine blk_alloc ?_ _)); exact BK116.out) hb); have n2_ := Aside0.mk (blk_below (g := gb119) (o := .cells #[.int .i64 t117, .int .i64 t118] 28 (0, 0)) (by (with_reducible repeat (first | refine blk_drewN ?_ _ | refine blk_drew ?_ | refine blk_alloc ?_ _)); refine blk_put (cs := #[.int .i64 t117, .int .i64 0]) ?_ 1 _ rfl; (with_reducible repeat (first | refine blk_drewN ?_ _ | refine blk_drew ?_ | refine blk_alloc ?_ _)); refine blk_put (cs := #[.int .i64 0, .int .i64 0]) ?_ 0 _ rfl; (with_reducible repeat (first | refine blk_drewN ?_ _ | refine blk_drew ?_ | refine blk_alloc ?_ _)); exact BK119.out) hb); have n3_ := Aside0.mk (below_step HBz hb); clear BK115; clear BK116; clear BK119; clear HB; have BK115 := n0_; have BK116 := n1_; have BK119 := n2_; have HB := n3_; clear n0_ n1_ n2_ n3_; (try clear hb); (try clear hb2); (try clear hk); (try clear hi); have hcz17_0 : w16.cell? ⟨gb115, 0, none⟩ = some (.int .i64 a0_0) := (blk_cell BK115.out 0).trans rfl; have hcz17_1 : w16.cell? ⟨gb115, 1, none⟩ = some (.int .i64 a0_1) := (blk_cell BK115.out 1).trans rfl; have hcz17_2 : w16.cell? ⟨gb115, 2, none⟩ = some (.int .i64 a0_2) := (blk_cell BK115.out 2).trans rfl; have hcz17_3 : w16.cell? ⟨gb115, 3, none⟩ = some (.int .i64 a0_3) := (blk_cell BK115.out 3).trans rfl; have hfz17_0 := blk_frozen BK115.out 0; have hfz17_1 := blk_frozen BK115.out 1; have hfz17_2 := blk_frozen BK115.out 2; have hfz17_3 := blk_frozen BK115.out 3))
  go_ret
  exact ⟨by first | rfl | (simp [errW_none, errW_some] <;> rfl) | (simp [*, errW_none, errW_some] <;> rfl), HBz⟩
 ·rw [if_neg c5] at H
  have c5b0 : decide (t120 < a0_3) = false := decide_eq_false c5
  clear c5
  by_cases c18 : t120 > a0_3
  ·rw [if_pos c18] at H
   have c18b0 : decide (a0_3 < t120) = true := decide_eq_true c18
   clear c18
   obtain rfl := Option.some.inj H
   go_enter Try.func59, Try.ntmps59
   go_wp2_with (first | ((with_reducible refine gate_dst (N := 2) rfl ?_); refine bxE 2 #[.int .i64 a0_0, .int .i64 a0_1, .int .i64 a0_2, .int .i64 a0_3] 40 ?_; intro gb115 hg w19 hbox hb; have n0_ := Aside0.mk (below_step HBz hb); have n1_ := Aside0.mk (hbox); have n2_ := Aside0.mk ((by rw [hg]; exact (below_size HBz) : w.heap.size ≤ gb115)); have n3_ := Aside0.mk ((by rw [hg]; exact (below_size HBz) : w.heap.size ≤ gb115)); clear HB; have HB := n0_; have BK115 := n1_; have GW115 := n2_; have GE115 := n3_; clear n0_ n1_ n2_ n3_; clear hb hbox hg) | ((with_reducible refine gate_dst (N := 3) rfl ?_); refine bxE 3 #[.int .i64 a1_0, .int .i64 a1_1] 28 ?_; intro gb116 hg w20 hbox hb; have n0_ := Aside0.mk (blk_below (g := gb115) BKz hb); have n1_ := Aside0.mk (below_step HBz hb); have n2_ := Aside0.mk (hbox); have n3_ := Aside0.mk ((by rw [hg]; exact (below_size HBz) : w.heap.size ≤ gb116)); have n4_ := Aside0.mk ((by rw [hg]; exact (below_size HBz) : w.heap.size ≤ gb116)); have n5_ := Aside0.mk ((by rw [hg]; exact Nat.ne_of_lt (blk_lt (g := gb115) BKz) : gb115 ≠ gb116)); have n6_ := Aside0.mk ((by rw [hg]; exact Nat.ne_of_gt (blk_lt (g := gb115) BKz) : gb116 ≠ gb115)); clear BK115; clear HB; have BK115 := n0_; have HB := n1_; have BK116 := n2_; have GW116 := n3_; have GE116 := n4_; have NB115_116 := n5_; have NB116_115 := n6_; clear n0_ n1_ n2_ n3_ n4_ n5_ n6_; clear hb hbox hg; have hnb21 := NB115_116.out; have hnc21 := NB116_115.out; have hcz22_0 : w20.cell? ⟨gb115, 0, none⟩ = some (.int .i64 a0_0) := (blk_cell BK115.out 0).trans rfl; have hcz22_1 : w20.cell? ⟨gb115, 1, none⟩ = some (.int .i64 a0_1) := (blk_cell BK115.out 1).trans rfl; have hcz22_2 : w20.cell? ⟨gb115, 2, none⟩ = some (.int .i64 a0_2) := (blk_cell BK115.out 2).trans rfl; have hcz22_3 : w20.cell? ⟨gb115, 3, none⟩ = some (.int .i64 a0_3) := (blk_cell BK115.out 3).trans rfl; have hfz22_0 := blk_frozen BK115.out 0; have hfz22_1 := blk_frozen BK115.out 1; have hfz22_2 := blk_frozen BK115.out 2; have hfz22_3 := blk_frozen BK115.out 3; have hcz23_0 : w20.cell? ⟨gb116, 0, none⟩ = some (.int .i64 a1_0) := (blk_cell BK116.out 0).trans rfl; have hcz23_1 : w20.cell? ⟨gb116, 1, none⟩ = some (.int .i64 a1_1) := (blk_cell BK116.out 1).trans rfl; have hfz23_0 := blk_frozen BK116.out 0; have hfz23_1 := blk_frozen BK116.out 1) | ((with_reducible refine gate_callee (f := 86) rfl ?_); refine goesL_ (some 9) rfl rfl Try.func86 (by kernel_rfl) rfl #[.agg #[.int .i64 a0_0, .int .i64 a0_1, .int .i64 a0_2, .int .i64 a0_3], .agg #[.int .i64 a1_0, .int .i64 a1_1]] rfl (by (try simp only [List.map_toArray, List.map_cons, List.map_nil]); first | done | rfl | (simp only [List.length_drop, List.length_take]; rfl)) ?_; (with_reducible refine (cover_from.calls a0_0 a0_1 a0_2 a0_3 a1_0 a1_1 t117 t118 _ A3.out).mono ?_); rintro e w24 ⟨rfl, hb⟩; refine ⟨_, rfl, ?_⟩; have n0_ := Aside0.mk (blk_below (g := gb115) BKz hb); have n1_ := Aside0.mk (blk_below (g := gb116) BKz hb); have n2_ := Aside0.mk (below_step HBz hb); clear BK115; clear BK116; clear HB; have BK115 := n0_; have BK116 := n1_; have HB := n2_; clear n0_ n1_ n2_; (try clear hb); (try clear hb2); (try clear hk); (try clear hi)) | ((with_reducible refine gate_dst (N := 5) rfl ?_); refine bxE 5 #[.int .i64 0, .int .i64 0] 28 ?_; intro gb119 hg w25 hbox hb; have n0_ := Aside0.mk (blk_below (g := gb115) BKz hb); have n1_ := Aside0.mk (blk_below (g := gb116) BKz hb); have n2_ := Aside0.mk (below_step HBz hb); have n3_ := Aside0.mk (hbox); have n4_ := Aside0.mk ((by rw [hg]; exact (below_size HBz) : w.heap.size ≤ gb119)); have n5_ := Aside0.mk ((by rw [hg]; exact (below_size HBz) : w.heap.size ≤ gb119)); have n6_ := Aside0.mk ((by rw [hg]; exact Nat.ne_of_lt (blk_lt (g := gb115) BKz) : gb115 ≠ gb119)); have n7_ := Aside0.mk ((by rw [hg]; exact Nat.ne_of_gt (blk_lt (g := gb115) BKz) : gb119 ≠ gb115)); have n8_ := Aside0.mk ((by rw [hg]; exact Nat.ne_of_lt (blk_lt (g := gb116) BKz) : gb116 ≠ gb119)); have n9_ := Aside0.mk ((by rw [hg]; exact Nat.ne_of_gt (blk_lt (g := gb116) BKz) : gb119 ≠ gb116)); clear BK115; clear BK116; clear HB; have BK115 := n0_; have BK116 := n1_; have HB := n2_; have BK119 := n3_; have GW119 := n4_; have GE119 := n5_; have NB115_119 := n6_; have NB119_115 := n7_; have NB116_119 := n8_; have NB119_116 := n9_; clear n0_ n1_ n2_ n3_ n4_ n5_ n6_ n7_ n8_ n9_; clear hb hbox hg; have hnb26 := NB119_115.out; have hnc26 := NB115_119.out; have hnb27 := NB119_116.out; have hnc27 := NB116_119.out; have hcz28_0 : w25.cell? ⟨gb119, 0, none⟩ = some (.int .i64 0) := (blk_cell BK119.out 0).trans rfl; have hcz28_1 : w25.cell? ⟨gb119, 1, none⟩ = some (.int .i64 0) := (blk_cell BK119.out 1).trans rfl; have hfz28_0 := blk_frozen BK119.out 0; have hfz28_1 := blk_frozen BK119.out 1) | ((with_reducible refine gate_callee (f := 87) rfl ?_); refine goesL_ (some 12) rfl rfl Try.func87 (by kernel_rfl) rfl #[.agg #[.int .i64 t117, .int .i64 t118], .agg #[.int .i64 t117, .int .i64 t118]] rfl (by (try simp only [List.map_toArray, List.map_cons, List.map_nil]); first | done | rfl | (simp only [List.length_drop, List.length_take]; rfl)) ?_; (with_reducible refine (cover_dot.calls t117 t118 t117 t118 t120 _ A4.out).mono ?_); rintro e w29 ⟨rfl, hb⟩; refine ⟨_, rfl, ?_⟩; have n0_ := Aside0.mk (blk_below (g := gb115) (o := .cells #[.int .i64 a0_0, .int .i64 a0_1, .int .i64 a0_2, .int .i64 a0_3] 40 (0, 0)) (by (with_reducible repeat (first | refine blk_drewN ?_ _ | refine blk_drew ?_ | refine blk_alloc ?_ _)); refine blk_far ?_ NB115_119.out _; (with_reducible repeat (first | refine blk_drewN ?_ _ | refine blk_drew ?_ | refine blk_alloc ?_ _)); refine blk_far ?_ NB115_119.out _; (with_reducible repeat (first | refine blk_drewN ?_ _ | refine blk_drew ?_ | refine blk_alloc ?_ _)); exact BK115.out) hb); have n1_ := Aside0.mk (blk_below (g := gb116) (o := .cells #[.int .i64 a1_0, .int .i64 a1_1] 28 (0, 0)) (by (with_reducible repeat (first | refine blk_drewN ?_ _ | refine blk_drew ?_ | refine blk_alloc ?_ _)); refine blk_far ?_ NB116_119.out _; (with_reducible repeat (first | refine blk_drewN ?_ _ | refine blk_drew ?_ | refine blk_alloc ?_ _)); refine blk_far ?_ NB116_119.out _; (with_reducible repeat (first | refine blk_drewN ?_ _ | refine blk_drew ?_ | refine blk_alloc ?_ _)); exact BK116.out) hb); have n2_ := Aside0.mk (blk_below (g := gb119) (o := .cells #[.int .i64 t117, .int .i64 t118] 28 (0, 0)) (by (with_reducible repeat (first | refine blk_drewN ?_ _ | refine blk_drew ?_ | refine blk_alloc ?_ _)); refine blk_put (cs := #[.int .i64 t117, .int .i64 0]) ?_ 1 _ rfl; (with_reducible repeat (first | refine blk_drewN ?_ _ | refine blk_drew ?_ | refine blk_alloc ?_ _)); refine blk_put (cs := #[.int .i64 0, .int .i64 0]) ?_ 0 _ rfl; (with_reducible repeat (first | refine blk_drewN ?_ _ | refine blk_drew ?_ | refine blk_alloc ?_ _)); exact BK119.out) hb); have n3_ := Aside0.mk (below_step HBz hb); clear BK115; clear BK116; clear BK119; clear HB; have BK115 := n0_; have BK116 := n1_; have BK119 := n2_; have HB := n3_; clear n0_ n1_ n2_ n3_; (try clear hb); (try clear hb2); (try clear hk); (try clear hi); have hcz30_0 : w29.cell? ⟨gb115, 0, none⟩ = some (.int .i64 a0_0) := (blk_cell BK115.out 0).trans rfl; have hcz30_1 : w29.cell? ⟨gb115, 1, none⟩ = some (.int .i64 a0_1) := (blk_cell BK115.out 1).trans rfl; have hcz30_2 : w29.cell? ⟨gb115, 2, none⟩ = some (.int .i64 a0_2) := (blk_cell BK115.out 2).trans rfl; have hcz30_3 : w29.cell? ⟨gb115, 3, none⟩ = some (.int .i64 a0_3) := (blk_cell BK115.out 3).trans rfl; have hfz30_0 := blk_frozen BK115.out 0; have hfz30_1 := blk_frozen BK115.out 1; have hfz30_2 := blk_frozen BK115.out 2; have hfz30_3 := blk_frozen BK115.out 3))
   go_ret
   exact ⟨by first | rfl | (simp [errW_none, errW_some] <;> rfl) | (simp [*, errW_none, errW_some] <;> rfl), HBz⟩
  ·rw [if_neg c18] at H
   have c18b0 : decide (a0_3 < t120) = false := decide_eq_false c18
   clear c18
   obtain rfl := Option.some.inj H
   go_enter Try.func59, Try.ntmps59
   go_wp2_with (first | ((with_reducible refine gate_dst (N := 2) rfl ?_); refine bxE 2 #[.int .i64 a0_0, .int .i64 a0_1, .int .i64 a0_2, .int .i64 a0_3] 40 ?_; intro gb115 hg w31 hbox hb; have n0_ := Aside0.mk (below_step HBz hb); have n1_ := Aside0.mk (hbox); have n2_ := Aside0.mk ((by rw [hg]; exact (below_size HBz) : w.heap.size ≤ gb115)); have n3_ := Aside0.mk ((by rw [hg]; exact (below_size HBz) : w.heap.size ≤ gb115)); clear HB; have HB := n0_; have BK115 := n1_; have GW115 := n2_; have GE115 := n3_; clear n0_ n1_ n2_ n3_; clear hb hbox hg) | ((with_reducible refine gate_dst (N := 3) rfl ?_); refine bxE 3 #[.int .i64 a1_0, .int .i64 a1_1] 28 ?_; intro gb116 hg w32 hbox hb; have n0_ := Aside0.mk (blk_below (g := gb115) BKz hb); have n1_ := Aside0.mk (below_step HBz hb); have n2_ := Aside0.mk (hbox); have n3_ := Aside0.mk ((by rw [hg]; exact (below_size HBz) : w.heap.size ≤ gb116)); have n4_ := Aside0.mk ((by rw [hg]; exact (below_size HBz) : w.heap.size ≤ gb116)); have n5_ := Aside0.mk ((by rw [hg]; exact Nat.ne_of_lt (blk_lt (g := gb115) BKz) : gb115 ≠ gb116)); have n6_ := Aside0.mk ((by rw [hg]; exact Nat.ne_of_gt (blk_lt (g := gb115) BKz) : gb116 ≠ gb115)); clear BK115; clear HB; have BK115 := n0_; have HB := n1_; have BK116 := n2_; have GW116 := n3_; have GE116 := n4_; have NB115_116 := n5_; have NB116_115 := n6_; clear n0_ n1_ n2_ n3_ n4_ n5_ n6_; clear hb hbox hg; have hnb33 := NB115_116.out; have hnc33 := NB116_115.out; have hcz34_0 : w32.cell? ⟨gb115, 0, none⟩ = some (.int .i64 a0_0) := (blk_cell BK115.out 0).trans rfl; have hcz34_1 : w32.cell? ⟨gb115, 1, none⟩ = some (.int .i64 a0_1) := (blk_cell BK115.out 1).trans rfl; have hcz34_2 : w32.cell? ⟨gb115, 2, none⟩ = some (.int .i64 a0_2) := (blk_cell BK115.out 2).trans rfl; have hcz34_3 : w32.cell? ⟨gb115, 3, none⟩ = some (.int .i64 a0_3) := (blk_cell BK115.out 3).trans rfl; have hfz34_0 := blk_frozen BK115.out 0; have hfz34_1 := blk_frozen BK115.out 1; have hfz34_2 := blk_frozen BK115.out 2; have hfz34_3 := blk_frozen BK115.out 3; have hcz35_0 : w32.cell? ⟨gb116, 0, none⟩ = some (.int .i64 a1_0) := (blk_cell BK116.out 0).trans rfl; have hcz35_1 : w32.cell? ⟨gb116, 1, none⟩ = some (.int .i64 a1_1) := (blk_cell BK116.out 1).trans rfl; have hfz35_0 := blk_frozen BK116.out 0; have hfz35_1 := blk_frozen BK116.out 1) | ((with_reducible refine gate_callee (f := 86) rfl ?_); refine goesL_ (some 9) rfl rfl Try.func86 (by kernel_rfl) rfl #[.agg #[.int .i64 a0_0, .int .i64 a0_1, .int .i64 a0_2, .int .i64 a0_3], .agg #[.int .i64 a1_0, .int .i64 a1_1]] rfl (by (try simp only [List.map_toArray, List.map_cons, List.map_nil]); first | done | rfl | (simp only [List.length_drop, List.length_take]; rfl)) ?_; (with_reducible refine (cover_from.calls a0_0 a0_1 a0_2 a0_3 a1_0 a1_1 t117 t118 _ A3.out).mono ?_); rintro e w36 ⟨rfl, hb⟩; refine ⟨_, rfl, ?_⟩; have n0_ := Aside0.mk (blk_below (g := gb115) BKz hb); have n1_ := Aside0.mk (blk_below (g := gb116) BKz hb); have n2_ := Aside0.mk (below_step HBz hb); clear BK115; clear BK116; clear HB; have BK115 := n0_; have BK116 := n1_; have HB := n2_; clear n0_ n1_ n2_; (try clear hb); (try clear hb2); (try clear hk); (try clear hi)) | ((with_reducible refine gate_dst (N := 5) rfl ?_); refine bxE 5 #[.int .i64 0, .int .i64 0] 28 ?_; intro gb119 hg w37 hbox hb; have n0_ := Aside0.mk (blk_below (g := gb115) BKz hb); have n1_ := Aside0.mk (blk_below (g := gb116) BKz hb); have n2_ := Aside0.mk (below_step HBz hb); have n3_ := Aside0.mk (hbox); have n4_ := Aside0.mk ((by rw [hg]; exact (below_size HBz) : w.heap.size ≤ gb119)); have n5_ := Aside0.mk ((by rw [hg]; exact (below_size HBz) : w.heap.size ≤ gb119)); have n6_ := Aside0.mk ((by rw [hg]; exact Nat.ne_of_lt (blk_lt (g := gb115) BKz) : gb115 ≠ gb119)); have n7_ := Aside0.mk ((by rw [hg]; exact Nat.ne_of_gt (blk_lt (g := gb115) BKz) : gb119 ≠ gb115)); have n8_ := Aside0.mk ((by rw [hg]; exact Nat.ne_of_lt (blk_lt (g := gb116) BKz) : gb116 ≠ gb119)); have n9_ := Aside0.mk ((by rw [hg]; exact Nat.ne_of_gt (blk_lt (g := gb116) BKz) : gb119 ≠ gb116)); clear BK115; clear BK116; clear HB; have BK115 := n0_; have BK116 := n1_; have HB := n2_; have BK119 := n3_; have GW119 := n4_; have GE119 := n5_; have NB115_119 := n6_; have NB119_115 := n7_; have NB116_119 := n8_; have NB119_116 := n9_; clear n0_ n1_ n2_ n3_ n4_ n5_ n6_ n7_ n8_ n9_; clear hb hbox hg; have hnb38 := NB119_115.out; have hnc38 := NB115_119.out; have hnb39 := NB119_116.out; have hnc39 := NB116_119.out; have hcz40_0 : w37.cell? ⟨gb119, 0, none⟩ = some (.int .i64 0) := (blk_cell BK119.out 0).trans rfl; have hcz40_1 : w37.cell? ⟨gb119, 1, none⟩ = some (.int .i64 0) := (blk_cell BK119.out 1).trans rfl; have hfz40_0 := blk_frozen BK119.out 0; have hfz40_1 := blk_frozen BK119.out 1) | ((with_reducible refine gate_callee (f := 87) rfl ?_); refine goesL_ (some 12) rfl rfl Try.func87 (by kernel_rfl) rfl #[.agg #[.int .i64 t117, .int .i64 t118], .agg #[.int .i64 t117, .int .i64 t118]] rfl (by (try simp only [List.map_toArray, List.map_cons, List.map_nil]); first | done | rfl | (simp only [List.length_drop, List.length_take]; rfl)) ?_; (with_reducible refine (cover_dot.calls t117 t118 t117 t118 t120 _ A4.out).mono ?_); rintro e w41 ⟨rfl, hb⟩; refine ⟨_, rfl, ?_⟩; have n0_ := Aside0.mk (blk_below (g := gb115) (o := .cells #[.int .i64 a0_0, .int .i64 a0_1, .int .i64 a0_2, .int .i64 a0_3] 40 (0, 0)) (by (with_reducible repeat (first | refine blk_drewN ?_ _ | refine blk_drew ?_ | refine blk_alloc ?_ _)); refine blk_far ?_ NB115_119.out _; (with_reducible repeat (first | refine blk_drewN ?_ _ | refine blk_drew ?_ | refine blk_alloc ?_ _)); refine blk_far ?_ NB115_119.out _; (with_reducible repeat (first | refine blk_drewN ?_ _ | refine blk_drew ?_ | refine blk_alloc ?_ _)); exact BK115.out) hb); have n1_ := Aside0.mk (blk_below (g := gb116) (o := .cells #[.int .i64 a1_0, .int .i64 a1_1] 28 (0, 0)) (by (with_reducible repeat (first | refine blk_drewN ?_ _ | refine blk_drew ?_ | refine blk_alloc ?_ _)); refine blk_far ?_ NB116_119.out _; (with_reducible repeat (first | refine blk_drewN ?_ _ | refine blk_drew ?_ | refine blk_alloc ?_ _)); refine blk_far ?_ NB116_119.out _; (with_reducible repeat (first | refine blk_drewN ?_ _ | refine blk_drew ?_ | refine blk_alloc ?_ _)); exact BK116.out) hb); have n2_ := Aside0.mk (blk_below (g := gb119) (o := .cells #[.int .i64 t117, .int .i64 t118] 28 (0, 0)) (by (with_reducible repeat (first | refine blk_drewN ?_ _ | refine blk_drew ?_ | refine blk_alloc ?_ _)); refine blk_put (cs := #[.int .i64 t117, .int .i64 0]) ?_ 1 _ rfl; (with_reducible repeat (first | refine blk_drewN ?_ _ | refine blk_drew ?_ | refine blk_alloc ?_ _)); refine blk_put (cs := #[.int .i64 0, .int .i64 0]) ?_ 0 _ rfl; (with_reducible repeat (first | refine blk_drewN ?_ _ | refine blk_drew ?_ | refine blk_alloc ?_ _)); exact BK119.out) hb); have n3_ := Aside0.mk (below_step HBz hb); clear BK115; clear BK116; clear BK119; clear HB; have BK115 := n0_; have BK116 := n1_; have BK119 := n2_; have HB := n3_; clear n0_ n1_ n2_ n3_; (try clear hb); (try clear hb2); (try clear hk); (try clear hi); have hcz42_0 : w41.cell? ⟨gb115, 0, none⟩ = some (.int .i64 a0_0) := (blk_cell BK115.out 0).trans rfl; have hcz42_1 : w41.cell? ⟨gb115, 1, none⟩ = some (.int .i64 a0_1) := (blk_cell BK115.out 1).trans rfl; have hcz42_2 : w41.cell? ⟨gb115, 2, none⟩ = some (.int .i64 a0_2) := (blk_cell BK115.out 2).trans rfl; have hcz42_3 : w41.cell? ⟨gb115, 3, none⟩ = some (.int .i64 a0_3) := (blk_cell BK115.out 3).trans rfl; have hfz42_0 := blk_frozen BK115.out 0; have hfz42_1 := blk_frozen BK115.out 1; have hfz42_2 := blk_frozen BK115.out 2; have hfz42_3 := blk_frozen BK115.out 3))
   go_ret
   exact ⟨by first | rfl | (simp [errW_none, errW_some] <;> rfl) | (simp [*, errW_none, errW_some] <;> rfl), HBz⟩
def cover_gcd.l0 : Nat → Int → Int → Option (Int)
 | 0, _, _ => none
 | k + 1, x0, x1 => if x1 = 0 then (some (mx x0 (wrap64 (-x0)))) else (cover_gcd.l0 k x1 (Int.tmod x0 x1))
def cover_gcd.f (k : Nat) (a0 : Int) (a1 : Int) : Option (Int) := cover_gcd.l0 k a0 a1
theorem cover_gcd.mono_l : ∀ k, (∀ y0 y1, LeO (cover_gcd.l0 k y0 y1) (cover_gcd.l0 (k + 1) y0 y1))
 | 0 => fun _ _ r h => by simp [cover_gcd.l0] at h
 | k + 1 => by
  have ih0 := cover_gcd.mono_l k
  ·intro y0 y1
   unfold cover_gcd.l0
   repeat' first
   | (with_reducible exact ih0 _ _)
   | (with_reducible exact LeO.refl _)
   | (with_reducible exact LeO.none _)
   | (with_reducible refine LeO.ite ?_ ?_)
   | (with_reducible refine LeO.bind ?_ (fun _ => ?_))
   | exact ih0 _ _
   | exact LeO.none _
   | refine LeO.ite ?_ ?_
   | refine LeO.bind ?_ (fun _ => ?_)
theorem cover_gcd.mono : ∀ a0 a1 k, LeO (cover_gcd.f k a0 a1) (cover_gcd.f (k + 1) a0 a1) := by
 intro a0 a1 k
 have ih0 := cover_gcd.mono_l k
 unfold cover_gcd.f
 repeat' first
   | (with_reducible exact ih0 _ _)
   | (with_reducible exact LeO.refl _)
   | (with_reducible exact LeO.none _)
   | (with_reducible refine LeO.ite ?_ ?_)
   | (with_reducible refine LeO.bind ?_ (fun _ => ?_))
   | exact ih0 _ _
   | exact LeO.none _
   | refine LeO.ite ?_ ?_
   | refine LeO.bind ?_ (fun _ => ?_)
set_option maxHeartbeats 8000000 in
set_option maxRecDepth 100000 in
theorem cover_gcd.calls (k : Nat) (a0 : Int) (a1 : Int) (r : Int) (w : World) (h : cover_gcd.f k a0 a1 = some r) :
  Calls Try.prog 84 #[.int .i64 a0, .int .i64 a1] w fun e w' => e = .returned (.int .i64 r) ∧ Below w.heap.size w w' := by
 have HB := Aside0.mk (Below.refl w.heap.size w)
 have H : (cover_gcd.l0 k a0 a1) = some r := h
 clear h
 have H' := Aside0.mk H
 clear H
 go_enter Try.func84, Try.ntmps84
 go_wp2
 repeat (go_quiet (fail); try go_wp2)
 go_loopg [0, 1] k (fun kq v0 v1 w' => ∃ (x0_1 : Int) (x1_1 : Int), v0 = .int .i64 x0_1 ∧ v1 = .int .i64 x1_1 ∧ Aside0 (cover_gcd.l0 kq x0_1 x1_1 = some r) ∧ Aside0 (kq ≤ k) ∧ Aside0 (Below w.heap.size w w'))
 case atStart => exact ⟨(a0), (a1), (by first | rfl | (simp; done) | (simp [*]; done)), (by first | rfl | (simp; done) | (simp [*]; done)), H', ⟨Nat.le_refl _⟩, ⟨HBz⟩⟩
 case round =>
  clear H'
  try clear p2
  obtain ⟨x0_1, x1_1, rfl, rfl, HA, HK1, HB⟩ := hrel
  cases gk with
  | zero => exact absurd HA.out (by simp [cover_gcd.l0])
  | succ k1 =>
   have H := HA.out
   clear HA
   simp only [cover_gcd.l0] at H
   by_cases c3 : x1_1 = 0
   ·rw [if_pos c3] at H
    have c3b0 : (x1_1 == 0) = true := beq_iff_eq.mpr c3
    have c3b1 : (x1_1 != 0) = false := bne_eq_false_iff_eq.mpr c3
    clear c3
    obtain ⟨ji4, hji4⟩ : ∃ j_ : Int, (mx x0_1 (wrap64 (-x0_1))) = j_ := ⟨_, rfl⟩
    replace H : (some ji4) = some r := by first | (rw [hji4] at H; exact H) | (simp only [hji4] at H ⊢; exact H)
    have hji4_ : (if x0_1 < (wrap64 (-x0_1)) then (wrap64 (-x0_1)) else x0_1) = ji4 := hji4
    obtain rfl := Option.some.inj H
    go_wp2
    repeat (go_quiet (fail); try go_wp2)
    go_ret
    exact ⟨by first | rfl | (simp [errW_none, errW_some] <;> rfl) | (simp only [← hji4]; first | rfl | (simp [errW_none, errW_some] <;> rfl)) | (simp [*, errW_none, errW_some] <;> rfl), HBz⟩
   ·rw [if_neg c3] at H
    have c3b0 : (x1_1 == 0) = false := beq_eq_false_iff_ne.mpr c3
    have c3b1 : (x1_1 != 0) = true := bne_iff_ne.mpr c3
    have H' := Aside0.mk H
    clear H
    go_wp2
    repeat (go_quiet (fail); try go_wp2)
    go_roundg k1
    case measure => have := HK1.out; omega
    case rel => exact ⟨(x1_1), (Int.tmod x0_1 x1_1), (by first | rfl | (simp; done) | (simp [*]; done)), (by first | rfl | (simp; done) | (simp [*]; done)), H', ⟨by have := HK1.out; omega⟩, ⟨HBz⟩⟩
end Go.Proofs.Ytplhfbkejngioaa.X
namespace Go.Proofs.Ytplhfbkejngioaa.X
def inC (n : Int) : Bool := decide (-256 ≤ n) && decide (n ≤ 256)
def isP (p : S28) : Bool := inC p.f0 && inC p.f1
def isR (r : S48) : Bool := inC r.f0 && inC r.f1 && inC r.f2 && inC r.f3 && decide (r.f0 < r.f2) && decide (r.f1 < r.f3)
def areRs (l : List S48) (most : Int) : Bool := decide ((l.length : Int) ≤ most) && l.all isR
def arePs (l : List S28) : Bool := decide (1 ≤ l.length) && decide (l.length ≤ 64) && l.all isP
structure Ci where
 X : Int
 Y : Int
 D : Int
 R : Int
deriving DecidableEq
def farC (c : Ci) (p : S28) : Int := (c.D * p.f0 - c.X) * (c.D * p.f0 - c.X) + (c.D * p.f1 - c.Y) * (c.D * p.f1 - c.Y)
def outC (c : Ci) (p : S28) : Bool := decide (c.R < farC c p)
def okC (c : Ci) : Prop := 1 ≤ c.D ∧ c.D ≤ 1048576 ∧ -1073741824 ≤ c.X ∧ c.X ≤ 1073741824 ∧ -1073741824 ≤ c.Y ∧ c.Y ≤ 1073741824 ∧ 0 ≤ c.R ∧ c.R ≤ 1152921504606846976
instance (c : Ci) : Decidable (okC c) := by unfold okC; infer_instance
def enclosesC (c : Ci) (l : List S28) : Bool := !(l.any (outC c))
def gcd3 (c : Ci) : Int := ((Nat.gcd (Nat.gcd c.X.natAbs c.Y.natAbs) c.D.natAbs : Nat) : Int)
def redC (c : Ci) : Ci :=
 let c := if c.D < 0 then ⟨-c.X, -c.Y, -c.D, c.R⟩ else c
 let g := gcd3 c
 ⟨c.X / g, c.Y / g, c.D / g, c.R / (g * g)⟩
def betC (a b : S28) : Ci := redC ⟨a.f0 + b.f0, a.f1 + b.f1, 2, (a.f0 - b.f0) * (a.f0 - b.f0) + (a.f1 - b.f1) * (a.f1 - b.f1)⟩
def crossD (a b c : S28) : Int := 2 * ((b.f0 - a.f0) * (c.f1 - a.f1) - (b.f1 - a.f1) * (c.f0 - a.f0))
def thrC (a b c : S28) : Ci :=
 let ux := b.f0 - a.f0; let uy := b.f1 - a.f1; let vx := c.f0 - a.f0; let vy := c.f1 - a.f1
 let d := crossD a b c
 let p := ux * ux + uy * uy; let q := vx * vx + vy * vy
 let wx := vy * p - uy * q; let wy := ux * q - vx * p
 redC ⟨a.f0 * d + wx, a.f1 * d + wy, d, wx * wx + wy * wy⟩
def crsC (c : Ci) (p q : S28) : Int := (c.D * p.f0 - c.X) * (c.D * q.f1 - c.Y) - (c.D * p.f1 - c.Y) * (c.D * q.f0 - c.X)
def insC3 (c : Ci) (p q r : S28) : Bool :=
 let a := crsC c p q; let b := crsC c q r; let d := crsC c r p
 (decide (0 < a) || decide (0 < b) || decide (0 < d)) != (decide (a < 0) || decide (b < 0) || decide (d < 0))
structure Cand where
 c : Ci
 s : List Int
def pt (l : List S28) (i : Nat) : S28 := l.getD i z28
def cands2 (l : List S28) : List Cand := (List.range l.length).flatMap fun j => (List.range j).map fun i => ⟨betC (pt l i) (pt l j), [(i : Int), (j : Int)]⟩
def cand3 (l : List S28) (i j k : Nat) : List Cand :=
 if crossD (pt l i) (pt l j) (pt l k) = 0 then [] else
 if insC3 (thrC (pt l i) (pt l j) (pt l k)) (pt l i) (pt l j) (pt l k) then [⟨thrC (pt l i) (pt l j) (pt l k), [(i : Int), (j : Int), (k : Int)]⟩] else []
def cands3 (l : List S28) : List Cand := (List.range l.length).flatMap fun k => (List.range k).flatMap fun j => (List.range j).flatMap fun i => cand3 l i j k
def cands (l : List S28) : List Cand := ⟨⟨(pt l 0).f0, (pt l 0).f1, 1, 0⟩, [0]⟩ :: (cands2 l ++ cands3 l)
def encloseL (l : List S28) : Option Cand := (cands l).find? fun x => enclosesC x.c l
def ins (x : Int) : List Int → List Int
 | [] => [x]
 | y :: l => if y < x then y :: ins x l else if y = x then y :: l else x :: y :: l
def linesX (l : List S48) : List Int := l.foldl (fun o r => ins r.f2 (ins r.f0 o)) []
def linesY (l : List S48) : List Int := l.foldl (fun o r => ins r.f3 (ins r.f1 o)) []
def covers (r : S48) (x y : Int) : Bool := decide (r.f0 ≤ x) && decide (x < r.f2) && decide (r.f1 ≤ y) && decide (y < r.f3)
def depthL (l : List S48) (x y : Int) : Int := ((l.filter fun r => covers r x y).length : Int)
def nbs (xs : List Int) : List (Int × Int) := xs.zip xs.tail
def sumL (l : List Int) : Int := l.foldr (· + ·) 0
def areaL (l : List S48) : Int :=
 sumL ((nbs (linesX l)).map fun x => sumL ((nbs (linesY l)).map fun y => if 0 < depthL l x.1 y.1 then (x.2 - x.1) * (y.2 - y.1) else 0))
def edgeL (l : List S48) : Int :=
 sumL ((nbs (linesX l)).map fun x => sumL ((nbs (linesY l)).map fun y => if 0 < depthL l x.1 y.1 then
  (if depthL l (x.1 - 1) y.1 = 0 then y.2 - y.1 else 0) + (if depthL l x.2 y.1 = 0 then y.2 - y.1 else 0) +
  (if depthL l x.1 (y.1 - 1) = 0 then x.2 - x.1 else 0) + (if depthL l x.1 y.2 = 0 then x.2 - x.1 else 0) else 0))
def deepStep (l : List S48) (b : Int × Int × Int) (x y : Int) : Int × Int × Int := if depthL l x y > b.1 then (depthL l x y, x, y) else b
def deepL (l : List S48) : Int × Int × Int :=
 (linesX l).foldl (fun b x => (linesY l).foldl (fun b y => deepStep l b x y) b) (0, 0, 0)
end Go.Proofs.Ytplhfbkejngioaa.X
namespace Go.Proofs.Ytplhfbkejngioaa.X
open Go.RowKit Go.Proofs.YtplhfbkejngioaaW.PrintWords Go.Proofs.YtplhfbkejngioaaW.PrintLast Go.Proofs.Ytplhfbkejngioaa.S
theorem w64 {x : Int} (h0 : -9223372036854775808 ≤ x) (h1 : x ≤ 9223372036854775807) : wrap64 x = x := by unfold wrap64; omega
theorem mul_bd {a b A B : Int} (h1 : -A ≤ a) (h2 : a ≤ A) (h3 : -B ≤ b) (h4 : b ≤ B) : -(A * B) ≤ a * b ∧ a * b ≤ A * B := by
 have p1 := Int.mul_nonneg (show 0 ≤ A - a by omega) (show 0 ≤ B + b by omega)
 have p2 := Int.mul_nonneg (show 0 ≤ A + a by omega) (show 0 ≤ B - b by omega)
 have p3 := Int.mul_nonneg (show 0 ≤ A - a by omega) (show 0 ≤ B - b by omega)
 have p4 := Int.mul_nonneg (show 0 ≤ A + a by omega) (show 0 ≤ B + b by omega)
 have e1 : (A - a) * (B + b) = A * B + A * b - a * B - a * b := by grind
 have e2 : (A + a) * (B - b) = A * B - A * b + a * B - a * b := by grind
 have e3 : (A - a) * (B - b) = A * B - A * b - a * B + a * b := by grind
 have e4 : (A + a) * (B + b) = A * B + A * b + a * B + a * b := by grind
 omega
theorem within_f (a b c : Int) : cover_within.f a b c = some (decide (b ≤ a) && decide (a ≤ c)) := by
 unfold cover_within.f
 by_cases h : a ≥ b
 ·simp [h]
 ·rw [if_neg h]; simp; omega
theorem isCoord_f (a : Int) : cover_isCoord.f a = some (inC a) := by
 unfold cover_isCoord.f inC; rw [within_f]; rfl
theorem isPoint_f (p : S28) : cover_isPoint.f p.f0 p.f1 = some (isP p) := by
 unfold cover_isPoint.f isP; rw [isCoord_f, isCoord_f]
 cases inC p.f0 <;> simp
theorem isRect_f (p : S48) : cover_isRect.f p.f0 p.f1 p.f2 p.f3 = some (isR p) := by
 unfold cover_isRect.f isR; rw [isCoord_f, isCoord_f, isCoord_f, isCoord_f]
 cases inC p.f0 <;> cases inC p.f1 <;> cases inC p.f2 <;> cases inC p.f3 <;> simp
 by_cases h : p.f0 < p.f2 <;> simp [h]
theorem isP_bd {p : S28} (h : isP p = true) : -256 ≤ p.f0 ∧ p.f0 ≤ 256 ∧ -256 ≤ p.f1 ∧ p.f1 ≤ 256 := by
 simp [isP, inC] at h; omega
theorem isR_bd {p : S48} (h : isR p = true) : -256 ≤ p.f0 ∧ p.f0 ≤ 256 ∧ -256 ≤ p.f1 ∧ p.f1 ≤ 256 ∧ -256 ≤ p.f2 ∧ p.f2 ≤ 256 ∧ -256 ≤ p.f3 ∧ p.f3 ≤ 256 ∧ p.f0 < p.f2 ∧ p.f1 < p.f3 := by
 simp [isR, inC] at h; omega
theorem vec_bd {c : Ci} (hc : okC c) {p : S28} (hp : isP p = true) :
  (-268435456 ≤ c.D * p.f0 ∧ c.D * p.f0 ≤ 268435456) ∧ (-268435456 ≤ c.D * p.f1 ∧ c.D * p.f1 ≤ 268435456) ∧
  (-1342177280 ≤ c.D * p.f0 - c.X ∧ c.D * p.f0 - c.X ≤ 1342177280) ∧ (-1342177280 ≤ c.D * p.f1 - c.Y ∧ c.D * p.f1 - c.Y ≤ 1342177280) := by
 have b := isP_bd hp
 unfold okC at hc
 have m0 := mul_bd (A := 1048576) (B := 256) (a := c.D) (b := p.f0) (by omega) (by omega) (by omega) (by omega)
 have m1 := mul_bd (A := 1048576) (B := 256) (a := c.D) (b := p.f1) (by omega) (by omega) (by omega) (by omega)
 omega
theorem from_f {c : Ci} (hc : okC c) {p : S28} (hp : isP p = true) : cover_from.f c.X c.Y c.D c.R p.f0 p.f1 = some (c.D * p.f0 - c.X, c.D * p.f1 - c.Y) := by
 have h := vec_bd hc hp
 unfold cover_from.f
 rw [w64 (x := c.D * p.f0) (by omega) (by omega), w64 (x := c.D * p.f1) (by omega) (by omega), w64 (by omega) (by omega), w64 (by omega) (by omega)]
theorem dot_f {a b c d : Int} (ha : -1342177280 ≤ a ∧ a ≤ 1342177280) (hb : -1342177280 ≤ b ∧ b ≤ 1342177280) (hc : -1342177280 ≤ c ∧ c ≤ 1342177280) (hd : -1342177280 ≤ d ∧ d ≤ 1342177280) :
  cover_dot.f a b c d = some (a * c + b * d) := by
 have m0 := mul_bd ha.1 ha.2 hc.1 hc.2
 have m1 := mul_bd hb.1 hb.2 hd.1 hd.2
 unfold cover_dot.f
 rw [w64 (x := a * c) (by omega) (by omega), w64 (x := b * d) (by omega) (by omega), w64 (by omega) (by omega)]
theorem far_bd {c : Ci} (hc : okC c) {p : S28} (hp : isP p = true) : 0 ≤ farC c p ∧ farC c p ≤ 3602879701896396800 := by
 have h := vec_bd hc hp
 have m0 := mul_bd h.2.2.1.1 h.2.2.1.2 h.2.2.1.1 h.2.2.1.2
 have m1 := mul_bd h.2.2.2.1 h.2.2.2.2 h.2.2.2.1 h.2.2.2.2
 have n0 : 0 ≤ (c.D * p.f0 - c.X) * (c.D * p.f0 - c.X) := by
  rcases Int.le_total 0 (c.D * p.f0 - c.X) with h | h
  ·exact Int.mul_nonneg h h
  ·have := Int.mul_nonneg (Int.neg_nonneg.2 h) (Int.neg_nonneg.2 h); rwa [Int.neg_mul_neg] at this
 have n1 : 0 ≤ (c.D * p.f1 - c.Y) * (c.D * p.f1 - c.Y) := by
  rcases Int.le_total 0 (c.D * p.f1 - c.Y) with h | h
  ·exact Int.mul_nonneg h h
  ·have := Int.mul_nonneg (Int.neg_nonneg.2 h) (Int.neg_nonneg.2 h); rwa [Int.neg_mul_neg] at this
 unfold farC
 omega
theorem side_f {c : Ci} (hc : okC c) {p : S28} (hp : isP p = true) : cover_side.f c.X c.Y c.D c.R p.f0 p.f1 = some (if farC c p < c.R then -1 else if c.R < farC c p then 1 else 0) := by
 have h := vec_bd hc hp
 unfold cover_side.f
 rw [from_f hc hp]
 simp only [Option.bind_some]
 rw [dot_f h.2.2.1 h.2.2.2 h.2.2.1 h.2.2.2]
 simp only [Option.bind_some]
 show (if farC c p < c.R then _ else if farC c p > c.R then _ else _) = _
 split
 ·rfl
 ·split <;> rfl
theorem side_pos {c : Ci} {p : S28} : decide ((if farC c p < c.R then (-1 : Int) else if c.R < farC c p then 1 else 0) > 0) = outC c p := by
 unfold outC
 split
 ·simp; omega
 ·split <;> simp <;> omega
end Go.Proofs.Ytplhfbkejngioaa.X
namespace Go.Proofs.Ytplhfbkejngioaa.X
open Go.RowKit Go.Proofs.YtplhfbkejngioaaW.PrintWords Go.Proofs.YtplhfbkejngioaaW.PrintLast Go.Proofs.Ytplhfbkejngioaa.S
set_option linter.unusedVariables false
set_option linter.unusedSimpArgs false
structure IsGrid (W : World) (g : Nat) (xs ys : List Int) (dep : List (List Int)) (A0 A1 A2 : Option Addr) (c0 c1 c2 : Nat) : Prop where
 blk : W.heap[g]? = some (.cells #[.slice A0 xs.length c0, .slice A1 ys.length c1, .slice A2 dep.length c2] 79 (0, 0))
 rx : Kd.C (Kd.int .i64) W A0 xs.length xs
 ry : Kd.C (Kd.int .i64) W A1 ys.length ys
 rd : Kd.C (Kd.slice 3 (Kd.int .i64)) W A2 dep.length dep
 kx : xs.length ≤ c0
 ky : ys.length ≤ c1
 kd : dep.length ≤ c2
theorem IsGrid.lt {W : World} {g : Nat} {xs ys : List Int} {dep : List (List Int)} {A0 A1 A2 : Option Addr} {c0 c1 c2 : Nat} (h : IsGrid W g xs ys dep A0 A1 A2 c0 c1 c2) : g < W.heap.size := blk_lt h.blk
theorem IsGrid.below {W W1 : World} {g : Nat} {xs ys : List Int} {dep : List (List Int)} {A0 A1 A2 : Option Addr} {c0 c1 c2 : Nat} (h : IsGrid W g xs ys dep A0 A1 A2 c0 c1 c2) (hb : Below W.heap.size W W1) : IsGrid W1 g xs ys dep A0 A1 A2 c0 c1 c2 :=
 ⟨(hb.block g h.lt).trans h.blk, Kd.C_below h.rx hb, Kd.C_below h.ry hb, Kd.C_below h.rd hb, h.kx, h.ky, h.kd⟩
def rdLL (xs : List (List Int)) (i : Int) : List Int := xs.getD i.toNat ([] : List Int)
theorem at_LL {w : World} {A : Option Addr} {n : Nat} {xs : List (List Int)} (h : Kd.C (Kd.slice 3 (Kd.int .i64)) w A n xs) (i : Int) (h0 : 0 ≤ i) (h1 : i < n) :
  ∃ ad A0 c0, A = some ad ∧ w.cell? (ad.add i.toNat) = some (.slice A0 (rdLL xs i).length c0) ∧ (rdLL xs i).length ≤ c0 ∧ (Kd.int .i64).C w A0 (rdLL xs i).length (rdLL xs i) := by
 obtain ⟨ad, c, e, _, hK, hc0⟩ := Kd.C_get h ([] : List Int) i h0 h1
 have hc : ∀ j u, c[j]? = some u → w.cell? (ad.add (i.toNat * 1 + j)) = some u := hc0
 obtain ⟨A0, c0, rfl, l0, g0⟩ := hK
 exact ⟨ad, A0, c0, e, by have hq := hc 0 _ rfl; rwa [Nat.mul_one, Nat.add_zero] at hq, l0, g0⟩
def dAt (dep : List (List Int)) (i j : Int) : Int := rd (rdLL dep i) j
def hasL (xs ys : List Int) (dep : List (List Int)) (i j : Int) : Bool :=
 (decide (0 ≤ i) && decide (i ≤ (xs.length : Int) - 1)) && ((decide (0 ≤ j) && decide (j ≤ (ys.length : Int) - 1)) && decide (0 < dAt dep i j))
def Table (xs ys : List Int) (dep : List (List Int)) : Prop := dep.length = xs.length ∧ ∀ r ∈ dep, r.length = ys.length
theorem Table.row {xs ys : List Int} {dep : List (List Int)} (h : Table xs ys dep) {i : Int} (h0 : 0 ≤ i) (h1 : i < xs.length) : (rdLL dep i).length = ys.length := by
 have hi : i.toNat < dep.length := by have := h.1; omega
 have : rdLL dep i = dep[i.toNat] := by simp [rdLL, hi]
 rw [this]; exact h.2 _ (List.getElem_mem hi)
set_option maxHeartbeats 2000000 in
set_option maxRecDepth 100000 in
theorem has_calls (g : Nat) (xs ys : List Int) (dep : List (List Int)) (A0 A1 A2 : Option Addr) (c0 c1 c2 : Nat) (i j : Int) (w : World) (hG : IsGrid w g xs ys dep A0 A1 A2 c0 c1 c2) (hT : Table xs ys dep) (hx : xs.length ≤ 1000000) (hy : ys.length ≤ 1000000) :
  Calls Try.prog 49 #[.pointer (some ⟨g, 0, none⟩), .int .i64 i, .int .i64 j] w fun e w' => e = .returned (.bool (hasL xs ys dep i j)) ∧ Drawn0 w w' := by
 have h0 : w.cell? ⟨g, 0, none⟩ = some (.slice A0 xs.length c0) := (blk_cell hG.blk 0).trans rfl
 have h1 : w.cell? ⟨g, 1, none⟩ = some (.slice A1 ys.length c1) := (blk_cell hG.blk 1).trans rfl
 have h2 : w.cell? ⟨g, 2, none⟩ = some (.slice A2 dep.length c2) := (blk_cell hG.blk 2).trans rfl
 have HT := Aside0.mk hT
 have HG := Aside0.mk hG
 clear hG hT
 have W1 := Aside0.mk (within_f i 0 ((xs.length : Int) - 1))
 have W2 := Aside0.mk (within_f j 0 ((ys.length : Int) - 1))
 by_cases hi : 0 ≤ i ∧ i < xs.length
 ·have e1 : (decide (0 ≤ i) && decide (i ≤ (xs.length : Int) - 1)) = true := by simp; omega
  rw [e1] at W1
  by_cases hj : 0 ≤ j ∧ j < ys.length
  ·have e2 : (decide (0 ≤ j) && decide (j ≤ (ys.length : Int) - 1)) = true := by simp; omega
   rw [e2] at W2
   have HV := Aside0.mk (show hasL xs ys dep i j = decide (0 < dAt dep i j) by unfold hasL; rw [e1, e2]; rfl)
   clear e1 e2
   have hlen := HT.out.1
   obtain ⟨ad, A3, c3, ea, ha, hl3, hr3⟩ := at_LL HG.out.rd i hi.1 (by omega)
   cases ea
   have hrow := HT.out.row hi.1 hi.2
   obtain ⟨ad3, e3, h3⟩ := Kd.at_int hr3 j hj.1 (by omega)
   cases e3
   have p1 : decide (0 ≤ i) = true := decide_eq_true hi.1
   have p2 : decide (i < (dep.length : Int)) = true := decide_eq_true (by omega)
   have p3 : decide (0 ≤ j) = true := decide_eq_true hj.1
   have p4 : decide (j < ((rdLL dep i).length : Int)) = true := decide_eq_true (by omega)
   have q1 := hi.1
   have q2 : i < (dep.length : Int) := by omega
   have q3 := hj.1
   have q4 : j < ((rdLL dep i).length : Int) := by omega
   clear hlen hrow hi hj hr3 hl3
   go_enter Try.func49, Try.ntmps49
   go_wp2_with (first | (go_at_call 61; (with_reducible refine (cover_within.calls i 0 _ true _ W1.out).mono ?_); rintro e w' ⟨rfl, ⟨nd, rfl⟩⟩) | (go_at_call 61; (with_reducible refine (cover_within.calls j 0 _ true _ W2.out).mono ?_); rintro e w' ⟨rfl, ⟨nd2, rfl⟩⟩))
   go_ret
   exact ⟨by rw [HV.out]; rfl, by repeat (first | exact Drawn0.refl _ | apply Drawn0.step)⟩
  ·have e2 : (decide (0 ≤ j) && decide (j ≤ (ys.length : Int) - 1)) = false := by simp; omega
   rw [e2] at W2
   have HV := Aside0.mk (show hasL xs ys dep i j = false by unfold hasL; rw [e1, e2]; rfl)
   clear e1 e2 hi hj
   go_enter Try.func49, Try.ntmps49
   go_wp2_with (first | (go_at_call 61; (with_reducible refine (cover_within.calls i 0 _ true _ W1.out).mono ?_); rintro e w' ⟨rfl, ⟨nd, rfl⟩⟩) | (go_at_call 61; (with_reducible refine (cover_within.calls j 0 _ false _ W2.out).mono ?_); rintro e w' ⟨rfl, ⟨nd2, rfl⟩⟩))
   go_ret
   exact ⟨by rw [HV.out]; rfl, by repeat (first | exact Drawn0.refl _ | apply Drawn0.step)⟩
 ·have e1 : (decide (0 ≤ i) && decide (i ≤ (xs.length : Int) - 1)) = false := by simp; omega
  rw [e1] at W1
  have HV := Aside0.mk (show hasL xs ys dep i j = false by unfold hasL; rw [e1]; rfl)
  clear e1 hi
  go_enter Try.func49, Try.ntmps49
  go_wp2_with (first | (go_at_call 61; (with_reducible refine (cover_within.calls i 0 _ false _ W1.out).mono ?_); rintro e w' ⟨rfl, ⟨nd, rfl⟩⟩))
  go_ret
  exact ⟨by rw [HV.out]; rfl, by repeat (first | exact Drawn0.refl _ | apply Drawn0.step)⟩
end Go.Proofs.Ytplhfbkejngioaa.X
namespace Go.Proofs.Ytplhfbkejngioaa.X
open Go.RowKit Go.Proofs.YtplhfbkejngioaaW.PrintWords Go.Proofs.YtplhfbkejngioaaW.PrintLast Go.Proofs.Ytplhfbkejngioaa.S
attribute [local go_sem] max2_int min2_int max_two min_two
set_option linter.unusedVariables false
set_option linter.unusedSimpArgs false
def cover_reduced.f (k : Nat) (a0_0 : Int) (a0_1 : Int) (a0_2 : Int) (a0_3 : Int) : Option (Int × Int × Int × Int) := if a0_2 < 0 then ((cover_gcd.f k (wrap64 (-a0_0)) (wrap64 (-a0_1))).bind fun t123 => ((cover_gcd.f k t123 (wrap64 (-a0_2))).bind fun t124 => (if t124 = 0 then (none) else (if (wrap64 (t124 * t124)) = 0 then (none) else (some (wrap64 (Int.tdiv (wrap64 (-a0_0)) t124), wrap64 (Int.tdiv (wrap64 (-a0_1)) t124), wrap64 (Int.tdiv (wrap64 (-a0_2)) t124), wrap64 (Int.tdiv a0_3 (wrap64 (t124 * t124))))))))) else ((cover_gcd.f k a0_0 a0_1).bind fun t125 => ((cover_gcd.f k t125 a0_2).bind fun t126 => (if t126 = 0 then (none) else (if (wrap64 (t126 * t126)) = 0 then (none) else (some (wrap64 (Int.tdiv a0_0 t126), wrap64 (Int.tdiv a0_1 t126), wrap64 (Int.tdiv a0_2 t126), wrap64 (Int.tdiv a0_3 (wrap64 (t126 * t126)))))))))
theorem cover_reduced.mono : ∀ a0 a1 a2 a3 k, LeO (cover_reduced.f k a0 a1 a2 a3) (cover_reduced.f (k + 1) a0 a1 a2 a3) := by
 intro a0 a1 a2 a3 k
 unfold cover_reduced.f
 repeat' first
   | (with_reducible exact cover_gcd.mono _ _ _)
   | (with_reducible exact LeO.refl _)
   | (with_reducible exact LeO.none _)
   | (with_reducible refine LeO.ite ?_ ?_)
   | (with_reducible refine LeO.bind ?_ (fun _ => ?_))
   | exact cover_gcd.mono _ _ _
   | exact LeO.none _
   | refine LeO.ite ?_ ?_
   | refine LeO.bind ?_ (fun _ => ?_)
def cover_reduced.T3 : Bool × List (List Nat × List Nat) := (true, [([], []), ([0], [0]), ([], []), ([2], [2]), ([1, 3], [1, 3]), ([], []), ([5], [5]), ([4, 6, 4], [4, 6]), ([7, 7, 0, 1, 2, 3, 4, 5, 6, 7], [7])])
def cover_reduced.B3 : List Nat := [0, 1, 0, 4, 15, 0, 32, 127, 255]
theorem cover_reduced.tab3 : rtab .any (opsOf Try.f100 3) = cover_reduced.T3 := by kernel_rfl
theorem cover_reduced.bits3 : waitsOk cover_reduced.T3.2 cover_reduced.B3 = true := by kernel_rfl
def cover_reduced.T4 : Bool × List (List Nat × List Nat) := (true, [([], []), ([0], [0]), ([], []), ([1, 2], [1, 2]), ([], []), ([4], [4]), ([], []), ([5, 6], [5, 6]), ([], []), ([8], [8]), ([], []), ([9, 10], [9, 10]), ([], []), ([12], [12]), ([], []), ([], []), ([14, 15], [14, 15]), ([13, 16], [13, 16]), ([3, 7, 11, 17], [3, 7, 11, 17]), ([18, 0, 1, 2, 3, 4, 5, 6, 7, 8, 9, 10, 11, 12, 13, 14, 15, 16, 17, 18], [18])])
def cover_reduced.B4 : List Nat := [0, 1, 0, 7, 0, 16, 0, 112, 0, 256, 0, 1792, 0, 4096, 0, 0, 49152, 126976, 262143, 524287]
theorem cover_reduced.tab4 : rtab .any (opsOf Try.f100 4) = cover_reduced.T4 := by kernel_rfl
theorem cover_reduced.bits4 : waitsOk cover_reduced.T4.2 cover_reduced.B4 = true := by kernel_rfl
set_option maxHeartbeats 8000000 in
set_option maxRecDepth 100000 in
theorem cover_reduced.calls (k : Nat) (a0_0 : Int) (a0_1 : Int) (a0_2 : Int) (a0_3 : Int) (r1 : Int) (r2 : Int) (r3 : Int) (r4 : Int) (w : World) (h : cover_reduced.f k a0_0 a0_1 a0_2 a0_3 = some (r1, r2, r3, r4)) :
  Calls Try.prog 100 #[.agg #[.int .i64 a0_0, .int .i64 a0_1, .int .i64 a0_2, .int .i64 a0_3]] w fun e w' => e = .returned (.agg #[.int .i64 r1, .int .i64 r2, .int .i64 r3, .int .i64 r4]) ∧ Below w.heap.size w w' := by
 have hu40 := Try.underlying40
 have HB := Aside0.mk (Below.refl w.heap.size w)
 have H : (if a0_2 < 0 then ((cover_gcd.f k (wrap64 (-a0_0)) (wrap64 (-a0_1))).bind fun t123 => ((cover_gcd.f k t123 (wrap64 (-a0_2))).bind fun t124 => (if t124 = 0 then (none) else (if (wrap64 (t124 * t124)) = 0 then (none) else (some (wrap64 (Int.tdiv (wrap64 (-a0_0)) t124), wrap64 (Int.tdiv (wrap64 (-a0_1)) t124), wrap64 (Int.tdiv (wrap64 (-a0_2)) t124), wrap64 (Int.tdiv a0_3 (wrap64 (t124 * t124))))))))) else ((cover_gcd.f k a0_0 a0_1).bind fun t125 => ((cover_gcd.f k t125 a0_2).bind fun t126 => (if t126 = 0 then (none) else (if (wrap64 (t126 * t126)) = 0 then (none) else (some (wrap64 (Int.tdiv a0_0 t126), wrap64 (Int.tdiv a0_1 t126), wrap64 (Int.tdiv a0_2 t126), wrap64 (Int.tdiv a0_3 (wrap64 (t126 * t126)))))))))) = some (r1, r2, r3, r4) := h
 clear h
 by_cases c2 : a0_2 < 0
 ·rw [if_pos c2] at H
  have c2b0 : decide (a0_2 < 0) = true := decide_eq_true c2
  clear c2
  replace H := Option.bind_eq_some_iff.mp H
  obtain ⟨t123, A30, H⟩ := H
  replace H : ((cover_gcd.f k t123 (wrap64 (-a0_2))).bind fun t124 => (if t124 = 0 then (none) else (if (wrap64 (t124 * t124)) = 0 then (none) else (some (wrap64 (Int.tdiv (wrap64 (-a0_0)) t124), wrap64 (Int.tdiv (wrap64 (-a0_1)) t124), wrap64 (Int.tdiv (wrap64 (-a0_2)) t124), wrap64 (Int.tdiv a0_3 (wrap64 (t124 * t124)))))))) = some (r1, r2, r3, r4) := H
  have A3 := Aside0.mk A30
  clear A30
  replace H := Option.bind_eq_some_iff.mp H
  obtain ⟨t124, A40, H⟩ := H
  replace H : (if t124 = 0 then (none) else (if (wrap64 (t124 * t124)) = 0 then (none) else (some (wrap64 (Int.tdiv (wrap64 (-a0_0)) t124), wrap64 (Int.tdiv (wrap64 (-a0_1)) t124), wrap64 (Int.tdiv (wrap64 (-a0_2)) t124), wrap64 (Int.tdiv a0_3 (wrap64 (t124 * t124))))))) = some (r1, r2, r3, r4) := H
  have A4 := Aside0.mk A40
  clear A40
  by_cases c5 : t124 = 0
  ·rw [if_pos c5] at H
   exact absurd H (by simp)
  ·rw [if_neg c5] at H
   have c5b0 : (t124 == 0) = false := beq_eq_false_iff_ne.mpr c5
   have c5b1 : (t124 != 0) = true := bne_iff_ne.mpr c5
   by_cases c6 : (wrap64 (t124 * t124)) = 0
   ·rw [if_pos c6] at H
    exact absurd H (by simp)
   ·rw [if_neg c6] at H
    have c6b0 : ((wrap64 (t124 * t124)) == 0) = false := beq_eq_false_iff_ne.mpr c6
    have c6b1 : ((wrap64 (t124 * t124)) != 0) = true := bne_iff_ne.mpr c6
    simp only [Option.some.injEq, Prod.mk.injEq] at H
    obtain ⟨rfl, rfl, rfl, rfl⟩ := H
    go_enter Try.func100, Try.ntmps100
    try go_wp2_with (first | ((with_reducible refine gate_dst (N := 1) rfl ?_); refine bxE 1 #[.int .i64 a0_0, .int .i64 a0_1, .int .i64 a0_2, .int .i64 a0_3] 40 ?_; intro gb121 hg w7 hbox hb; have n0_ := Aside0.mk (below_step HBz hb); have n1_ := Aside0.mk (hbox); have n2_ := Aside0.mk ((by rw [hg]; exact (below_size HBz) : w.heap.size ≤ gb121)); have n3_ := Aside0.mk ((by rw [hg]; exact (below_size HBz) : w.heap.size ≤ gb121)); clear HB; have HB := n0_; have BK121 := n1_; have GW121 := n2_; have GE121 := n3_; clear n0_ n1_ n2_ n3_; clear hb hbox hg) | ((with_reducible refine gate_dst (N := 2) rfl ?_); refine bxE 2 #[.int .i64 0, .int .i64 0, .int .i64 0, .int .i64 0] 40 ?_; intro gb122 hg w8 hbox hb; have n0_ := Aside0.mk (blk_below (g := gb121) BKz hb); have n1_ := Aside0.mk (below_step HBz hb); have n2_ := Aside0.mk (hbox); have n3_ := Aside0.mk ((by rw [hg]; exact (below_size HBz) : w.heap.size ≤ gb122)); have n4_ := Aside0.mk ((by rw [hg]; exact (below_size HBz) : w.heap.size ≤ gb122)); have n5_ := Aside0.mk ((by rw [hg]; exact Nat.ne_of_lt (blk_lt (g := gb121) BKz) : gb121 ≠ gb122)); have n6_ := Aside0.mk ((by rw [hg]; exact Nat.ne_of_gt (blk_lt (g := gb121) BKz) : gb122 ≠ gb121)); clear BK121; clear HB; have BK121 := n0_; have HB := n1_; have BK122 := n2_; have GW122 := n3_; have GE122 := n4_; have NB121_122 := n5_; have NB122_121 := n6_; clear n0_ n1_ n2_ n3_ n4_ n5_ n6_; clear hb hbox hg; have hnb9 := NB121_122.out; have hnc9 := NB122_121.out; have hcz10_0 : w8.cell? ⟨gb121, 0, none⟩ = some (.int .i64 a0_0) := (blk_cell BK121.out 0).trans rfl; have hcz10_1 : w8.cell? ⟨gb121, 1, none⟩ = some (.int .i64 a0_1) := (blk_cell BK121.out 1).trans rfl; have hcz10_2 : w8.cell? ⟨gb121, 2, none⟩ = some (.int .i64 a0_2) := (blk_cell BK121.out 2).trans rfl; have hcz10_3 : w8.cell? ⟨gb121, 3, none⟩ = some (.int .i64 a0_3) := (blk_cell BK121.out 3).trans rfl; have hfz10_0 := blk_frozen BK121.out 0; have hfz10_1 := blk_frozen BK121.out 1; have hfz10_2 := blk_frozen BK121.out 2; have hfz10_3 := blk_frozen BK121.out 3))
    have n0_ : Aside0 ((((w8.setCell ⟨gb121, 0, none⟩ (.int .i64 (wrap64 (-a0_0)))).setCell ⟨gb121, 1, none⟩ (.int .i64 (wrap64 (-a0_1)))).setCell ⟨gb121, 2, none⟩ (.int .i64 (wrap64 (-a0_2)))).heap[gb121]? = some (.cells #[.int .i64 (wrap64 (-a0_0)), .int .i64 (wrap64 (-a0_1)), .int .i64 (wrap64 (-a0_2)), .int .i64 a0_3] 40 (0, 0))) := ⟨by (with_reducible repeat (first | refine blk_drewN ?_ _ | refine blk_drew ?_ | refine blk_alloc ?_ _)); refine blk_put (cs := #[.int .i64 (wrap64 (-a0_0)), .int .i64 (wrap64 (-a0_1)), .int .i64 a0_2, .int .i64 a0_3]) ?_ 2 _ rfl; (with_reducible repeat (first | refine blk_drewN ?_ _ | refine blk_drew ?_ | refine blk_alloc ?_ _)); refine blk_put (cs := #[.int .i64 (wrap64 (-a0_0)), .int .i64 a0_1, .int .i64 a0_2, .int .i64 a0_3]) ?_ 1 _ rfl; (with_reducible repeat (first | refine blk_drewN ?_ _ | refine blk_drew ?_ | refine blk_alloc ?_ _)); refine blk_put (cs := #[.int .i64 a0_0, .int .i64 a0_1, .int .i64 a0_2, .int .i64 a0_3]) ?_ 0 _ rfl; (with_reducible repeat (first | refine blk_drewN ?_ _ | refine blk_drew ?_ | refine blk_alloc ?_ _)); exact BK121.out⟩
    have n1_ : Aside0 ((((w8.setCell ⟨gb121, 0, none⟩ (.int .i64 (wrap64 (-a0_0)))).setCell ⟨gb121, 1, none⟩ (.int .i64 (wrap64 (-a0_1)))).setCell ⟨gb121, 2, none⟩ (.int .i64 (wrap64 (-a0_2)))).heap[gb122]? = some (.cells #[.int .i64 0, .int .i64 0, .int .i64 0, .int .i64 0] 40 (0, 0))) := ⟨by (with_reducible repeat (first | refine blk_drewN ?_ _ | refine blk_drew ?_ | refine blk_alloc ?_ _)); refine blk_far ?_ NB122_121.out _; (with_reducible repeat (first | refine blk_drewN ?_ _ | refine blk_drew ?_ | refine blk_alloc ?_ _)); refine blk_far ?_ NB122_121.out _; (with_reducible repeat (first | refine blk_drewN ?_ _ | refine blk_drew ?_ | refine blk_alloc ?_ _)); refine blk_far ?_ NB122_121.out _; (with_reducible repeat (first | refine blk_drewN ?_ _ | refine blk_drew ?_ | refine blk_alloc ?_ _)); exact BK122.out⟩
    have n2_ : Aside0 (Below w.heap.size w (((w8.setCell ⟨gb121, 0, none⟩ (.int .i64 (wrap64 (-a0_0)))).setCell ⟨gb121, 1, none⟩ (.int .i64 (wrap64 (-a0_1)))).setCell ⟨gb121, 2, none⟩ (.int .i64 (wrap64 (-a0_2))))) := ⟨HBz⟩
    (try clear BK121)
    (try clear BK122)
    (try clear HB)
    generalize (((w8.setCell ⟨gb121, 0, none⟩ (.int .i64 (wrap64 (-a0_0)))).setCell ⟨gb121, 1, none⟩ (.int .i64 (wrap64 (-a0_1)))).setCell ⟨gb121, 2, none⟩ (.int .i64 (wrap64 (-a0_2)))) = w11 at n0_ n1_ n2_ ⊢
    have BK121 := n0_
    have BK122 := n1_
    have HB := n2_
    clear n0_ n1_ n2_
    have n0_ := Aside0.mk (blk_drew BK121.out)
    have n1_ := Aside0.mk (blk_drew BK122.out)
    have n2_ := Aside0.mk (below_drew1 HB.out)
    clear BK121
    clear BK122
    clear HB
    have BK121 := n0_
    have BK122 := n1_
    have HB := n2_
    clear n0_ n1_ n2_
    refine stz (fun w' => w'.cell? ⟨gb121, 0, none⟩ = some (.int .i64 (wrap64 (-a0_0))) ∧ w'.cell? ⟨gb121, 1, none⟩ = some (.int .i64 (wrap64 (-a0_1))) ∧ w'.cell? ⟨gb121, 2, none⟩ = some (.int .i64 (wrap64 (-a0_2))) ∧ w'.cell? ⟨gb121, 3, none⟩ = some (.int .i64 a0_3)) [] (bn 9 0) ⟨(blk_cell BK121.out 0).trans rfl, (blk_cell BK121.out 1).trans rfl, (blk_cell BK121.out 2).trans rfl, (blk_cell BK121.out 3).trans rfl⟩ (fun hHeld => ?_); refine with_tabW cover_reduced.tab3 cover_reduced.bits3 (fun HT_ HW_ => ?_)
    generalize w11.drew = w12 at BK121 BK122 HB hHeld ⊢
    refine pT HT_.out 0 (some 19) (bn 9 1) ?_
    refine pT HT_.out 2 (some 21) (bn 9 5) ?_
    refine pT HT_.out 5 (some 24) (bn 9 37) ?_
    refine tT HT_.out HW_.out 1 (some 20) (bn 9 39) hHeld ?_
    refine tT HT_.out HW_.out 3 (some 22) (bn 9 47) hHeld ?_
    refine tT HT_.out HW_.out 6 (some 25) (bn 9 111) hHeld ?_
    refine oT HT_.out 4 (some 23) (bn 9 127) (fun K hK => ?_)
    refine gz Try.func84 #[.int .i64 (wrap64 (-a0_0)), .int .i64 (wrap64 (-a0_1))] ?_
    with_reducible refine (cover_gcd.calls k (wrap64 (-a0_0)) (wrap64 (-a0_1)) t123 _ A3.out).mono ?_
    rintro e w13 ⟨rfl, hb⟩
    refine ⟨_, rfl, ?_⟩
    have n0_ := Aside0.mk (blk_below (g := gb121) BKz hb)
    have n1_ := Aside0.mk (blk_below (g := gb122) BKz hb)
    have n2_ := Aside0.mk (below_step HBz hb)
    clear BK121
    clear BK122
    clear HB
    have BK121 := n0_
    have BK122 := n1_
    have HB := n2_
    clear n0_ n1_ n2_
    (try clear hb)
    (try clear hb2)
    (try clear hk)
    (try clear hi)
    refine hK.out _ _ ⟨(blk_cell BK121.out 0).trans rfl, (blk_cell BK121.out 1).trans rfl, (blk_cell BK121.out 2).trans rfl, (blk_cell BK121.out 3).trans rfl⟩ (fun hHeld => ?_)
    clear hK K
    refine nz (some 23) ?_
    refine oT HT_.out 7 (some 26) (bn 9 255) (fun K hK => ?_)
    refine gz Try.func84 #[.int .i64 t123, .int .i64 (wrap64 (-a0_2))] ?_
    with_reducible refine (cover_gcd.calls k t123 (wrap64 (-a0_2)) t124 _ A4.out).mono ?_
    rintro e w14 ⟨rfl, hb⟩
    refine ⟨_, rfl, ?_⟩
    have n0_ := Aside0.mk (blk_below (g := gb121) BKz hb)
    have n1_ := Aside0.mk (blk_below (g := gb122) BKz hb)
    have n2_ := Aside0.mk (below_step HBz hb)
    clear BK121
    clear BK122
    clear HB
    have BK121 := n0_
    have BK122 := n1_
    have HB := n2_
    clear n0_ n1_ n2_
    (try clear hb)
    (try clear hb2)
    (try clear hk)
    (try clear hi)
    refine hK.out _ _ ⟨(blk_cell BK121.out 0).trans rfl, (blk_cell BK121.out 1).trans rfl, (blk_cell BK121.out 2).trans rfl, (blk_cell BK121.out 3).trans rfl⟩ (fun hHeld => ?_)
    clear hK K
    refine nz (some 26) ?_
    refine pT HT_.out 8 (some 3) (bn 9 511) ?_
    refine done_ (done_of HT_.out (by kernel_rfl)) ?_
    try go_wp2
    have n0_ := Aside0.mk (blk_drew BK121.out)
    have n1_ := Aside0.mk (blk_drew BK122.out)
    have n2_ := Aside0.mk (below_drew1 HB.out)
    clear BK121
    clear BK122
    clear HB
    have BK121 := n0_
    have BK122 := n1_
    have HB := n2_
    clear n0_ n1_ n2_
    refine stz (fun w' => w'.cell? ⟨gb121, 0, none⟩ = some (.int .i64 (wrap64 (-a0_0))) ∧ w'.cell? ⟨gb121, 1, none⟩ = some (.int .i64 (wrap64 (-a0_1))) ∧ w'.cell? ⟨gb121, 2, none⟩ = some (.int .i64 (wrap64 (-a0_2))) ∧ w'.cell? ⟨gb121, 3, none⟩ = some (.int .i64 a0_3)) [] (bn 20 0) ⟨(blk_cell BK121.out 0).trans rfl, (blk_cell BK121.out 1).trans rfl, (blk_cell BK121.out 2).trans rfl, (blk_cell BK121.out 3).trans rfl⟩ (fun hHeld => ?_); refine with_tabW cover_reduced.tab4 cover_reduced.bits4 (fun HT_ HW_ => ?_)
    generalize w14.drew = w15 at BK121 BK122 HB hHeld ⊢
    refine pT HT_.out 0 (some 27) (bn 20 1) ?_
    refine pT HT_.out 2 (some 29) (bn 20 5) ?_
    refine pT HT_.out 4 (some 31) (bn 20 21) ?_
    refine pT HT_.out 6 (some 33) (bn 20 85) ?_
    refine pT HT_.out 8 (some 35) (bn 20 341) ?_
    refine pT HT_.out 10 (some 37) (bn 20 1365) ?_
    refine pT HT_.out 12 (some 39) (bn 20 5461) ?_
    refine pT HT_.out 14 (some 41) (bn 20 21845) ?_
    refine pT HT_.out 15 (some 42) (bn 20 54613) ?_
    refine pT HT_.out 16 (some 43) (bn 20 120149) ?_
    refine tT HT_.out HW_.out 1 (some 28) (bn 20 120151) hHeld ?_
    refine pT HT_.out 3 (some 30) (bn 20 120159) ?_
    refine tT HT_.out HW_.out 5 (some 32) (bn 20 120191) hHeld ?_
    refine pT HT_.out 7 (some 34) (bn 20 120319) ?_
    refine tT HT_.out HW_.out 9 (some 36) (bn 20 120831) hHeld ?_
    refine pT HT_.out 11 (some 38) (bn 20 122879) ?_
    refine tT HT_.out HW_.out 13 (some 40) (bn 20 131071) hHeld ?_
    refine pT HT_.out 17 (some 44) (bn 20 262143) ?_
    refine pT HT_.out 18 (some 45) (bn 20 524287) ?_
    refine oT HT_.out 19 none (bn 20 1048575) (fun K hK => ?_)
    have hs16 : w15.cell? ⟨gb122, 0, none⟩ = some (.int .i64 0) := (blk_cell BK122.out 0).trans rfl
    have hfs16 := blk_frozen BK122.out 0
    have hns16_0 := NB121_122.out
    have hms16_0 := NB122_121.out
    have hs17 : w15.cell? ⟨gb122, 1, none⟩ = some (.int .i64 0) := (blk_cell BK122.out 1).trans rfl
    have hfs17 := blk_frozen BK122.out 1
    have hns17_0 := NB121_122.out
    have hms17_0 := NB122_121.out
    have hs18 : w15.cell? ⟨gb122, 2, none⟩ = some (.int .i64 0) := (blk_cell BK122.out 2).trans rfl
    have hfs18 := blk_frozen BK122.out 2
    have hns18_0 := NB121_122.out
    have hms18_0 := NB122_121.out
    have hs19 : w15.cell? ⟨gb122, 3, none⟩ = some (.int .i64 0) := (blk_cell BK122.out 3).trans rfl
    have hfs19 := blk_frozen BK122.out 3
    have hns19_0 := NB121_122.out
    have hms19_0 := NB122_121.out
    refine sz ?_
    refine hK.out _ _ ⟨((cell_far (p := ⟨gb122, _, none⟩) NB121_122.out _).trans (((cell_far (p := ⟨gb122, _, none⟩) NB121_122.out _).trans (((cell_far (p := ⟨gb122, _, none⟩) NB121_122.out _).trans (((cell_far (p := ⟨gb122, _, none⟩) NB121_122.out _).trans (hHeld.1)))))))), ((cell_far (p := ⟨gb122, _, none⟩) NB121_122.out _).trans (((cell_far (p := ⟨gb122, _, none⟩) NB121_122.out _).trans (((cell_far (p := ⟨gb122, _, none⟩) NB121_122.out _).trans (((cell_far (p := ⟨gb122, _, none⟩) NB121_122.out _).trans (hHeld.2.1)))))))), ((cell_far (p := ⟨gb122, _, none⟩) NB121_122.out _).trans (((cell_far (p := ⟨gb122, _, none⟩) NB121_122.out _).trans (((cell_far (p := ⟨gb122, _, none⟩) NB121_122.out _).trans (((cell_far (p := ⟨gb122, _, none⟩) NB121_122.out _).trans (hHeld.2.2.1)))))))), ((cell_far (p := ⟨gb122, _, none⟩) NB121_122.out _).trans (((cell_far (p := ⟨gb122, _, none⟩) NB121_122.out _).trans (((cell_far (p := ⟨gb122, _, none⟩) NB121_122.out _).trans (((cell_far (p := ⟨gb122, _, none⟩) NB121_122.out _).trans (hHeld.2.2.2))))))))⟩ (fun hHeld => ?_)
    clear hK K
    refine done_ (done_of HT_.out (by kernel_rfl)) ?_
    try go_wp2
    refine bodyPost_ret (results_cell_row rfl _ _ gb122 40 #[.int .i64 (wrap64 (Int.tdiv (wrap64 (-a0_0)) t124)), .int .i64 (wrap64 (Int.tdiv (wrap64 (-a0_1)) t124)), .int .i64 (wrap64 (Int.tdiv (wrap64 (-a0_2)) t124)), .int .i64 (wrap64 (Int.tdiv a0_3 (wrap64 (t124 * t124))))] (0, 0) _ rfl (by (with_reducible repeat (first | refine blk_drewN ?_ _ | refine blk_drew ?_ | refine blk_alloc ?_ _)); refine blk_put (cs := #[.int .i64 (wrap64 (Int.tdiv (wrap64 (-a0_0)) t124)), .int .i64 (wrap64 (Int.tdiv (wrap64 (-a0_1)) t124)), .int .i64 (wrap64 (Int.tdiv (wrap64 (-a0_2)) t124)), .int .i64 0]) ?_ 3 _ rfl; (with_reducible repeat (first | refine blk_drewN ?_ _ | refine blk_drew ?_ | refine blk_alloc ?_ _)); refine blk_put (cs := #[.int .i64 (wrap64 (Int.tdiv (wrap64 (-a0_0)) t124)), .int .i64 (wrap64 (Int.tdiv (wrap64 (-a0_1)) t124)), .int .i64 0, .int .i64 0]) ?_ 2 _ rfl; (with_reducible repeat (first | refine blk_drewN ?_ _ | refine blk_drew ?_ | refine blk_alloc ?_ _)); refine blk_put (cs := #[.int .i64 (wrap64 (Int.tdiv (wrap64 (-a0_0)) t124)), .int .i64 0, .int .i64 0, .int .i64 0]) ?_ 1 _ rfl; (with_reducible repeat (first | refine blk_drewN ?_ _ | refine blk_drew ?_ | refine blk_alloc ?_ _)); refine blk_put (cs := #[.int .i64 0, .int .i64 0, .int .i64 0, .int .i64 0]) ?_ 0 _ rfl; (with_reducible repeat (first | refine blk_drewN ?_ _ | refine blk_drew ?_ | refine blk_alloc ?_ _)); exact BK122.out) Try.underlying40 rfl (by kernel_rfl)) rfl ?_
    exact ⟨by first | rfl | (simp [errW_none, errW_some] <;> rfl) | (simp [*, errW_none, errW_some] <;> rfl), HBz⟩
 ·rw [if_neg c2] at H
  have c2b0 : decide (a0_2 < 0) = false := decide_eq_false c2
  clear c2
  replace H := Option.bind_eq_some_iff.mp H
  obtain ⟨t125, A200, H⟩ := H
  replace H : ((cover_gcd.f k t125 a0_2).bind fun t126 => (if t126 = 0 then (none) else (if (wrap64 (t126 * t126)) = 0 then (none) else (some (wrap64 (Int.tdiv a0_0 t126), wrap64 (Int.tdiv a0_1 t126), wrap64 (Int.tdiv a0_2 t126), wrap64 (Int.tdiv a0_3 (wrap64 (t126 * t126)))))))) = some (r1, r2, r3, r4) := H
  have A20 := Aside0.mk A200
  clear A200
  replace H := Option.bind_eq_some_iff.mp H
  obtain ⟨t126, A210, H⟩ := H
  replace H : (if t126 = 0 then (none) else (if (wrap64 (t126 * t126)) = 0 then (none) else (some (wrap64 (Int.tdiv a0_0 t126), wrap64 (Int.tdiv a0_1 t126), wrap64 (Int.tdiv a0_2 t126), wrap64 (Int.tdiv a0_3 (wrap64 (t126 * t126))))))) = some (r1, r2, r3, r4) := H
  have A21 := Aside0.mk A210
  clear A210
  by_cases c22 : t126 = 0
  ·rw [if_pos c22] at H
   exact absurd H (by simp)
  ·rw [if_neg c22] at H
   have c22b0 : (t126 == 0) = false := beq_eq_false_iff_ne.mpr c22
   have c22b1 : (t126 != 0) = true := bne_iff_ne.mpr c22
   by_cases c23 : (wrap64 (t126 * t126)) = 0
   ·rw [if_pos c23] at H
    exact absurd H (by simp)
   ·rw [if_neg c23] at H
    have c23b0 : ((wrap64 (t126 * t126)) == 0) = false := beq_eq_false_iff_ne.mpr c23
    have c23b1 : ((wrap64 (t126 * t126)) != 0) = true := bne_iff_ne.mpr c23
    simp only [Option.some.injEq, Prod.mk.injEq] at H
    obtain ⟨rfl, rfl, rfl, rfl⟩ := H
    go_enter Try.func100, Try.ntmps100
    try go_wp2_with (first | ((with_reducible refine gate_dst (N := 1) rfl ?_); refine bxE 1 #[.int .i64 a0_0, .int .i64 a0_1, .int .i64 a0_2, .int .i64 a0_3] 40 ?_; intro gb121 hg w24 hbox hb; have n0_ := Aside0.mk (below_step HBz hb); have n1_ := Aside0.mk (hbox); have n2_ := Aside0.mk ((by rw [hg]; exact (below_size HBz) : w.heap.size ≤ gb121)); have n3_ := Aside0.mk ((by rw [hg]; exact (below_size HBz) : w.heap.size ≤ gb121)); clear HB; have HB := n0_; have BK121 := n1_; have GW121 := n2_; have GE121 := n3_; clear n0_ n1_ n2_ n3_; clear hb hbox hg) | ((with_reducible refine gate_dst (N := 2) rfl ?_); refine bxE 2 #[.int .i64 0, .int .i64 0, .int .i64 0, .int .i64 0] 40 ?_; intro gb122 hg w25 hbox hb; have n0_ := Aside0.mk (blk_below (g := gb121) BKz hb); have n1_ := Aside0.mk (below_step HBz hb); have n2_ := Aside0.mk (hbox); have n3_ := Aside0.mk ((by rw [hg]; exact (below_size HBz) : w.heap.size ≤ gb122)); have n4_ := Aside0.mk ((by rw [hg]; exact (below_size HBz) : w.heap.size ≤ gb122)); have n5_ := Aside0.mk ((by rw [hg]; exact Nat.ne_of_lt (blk_lt (g := gb121) BKz) : gb121 ≠ gb122)); have n6_ := Aside0.mk ((by rw [hg]; exact Nat.ne_of_gt (blk_lt (g := gb121) BKz) : gb122 ≠ gb121)); clear BK121; clear HB; have BK121 := n0_; have HB := n1_; have BK122 := n2_; have GW122 := n3_; have GE122 := n4_; have NB121_122 := n5_; have NB122_121 := n6_; clear n0_ n1_ n2_ n3_ n4_ n5_ n6_; clear hb hbox hg; have hnb26 := NB121_122.out; have hnc26 := NB122_121.out; have hcz27_0 : w25.cell? ⟨gb121, 0, none⟩ = some (.int .i64 a0_0) := (blk_cell BK121.out 0).trans rfl; have hcz27_1 : w25.cell? ⟨gb121, 1, none⟩ = some (.int .i64 a0_1) := (blk_cell BK121.out 1).trans rfl; have hcz27_2 : w25.cell? ⟨gb121, 2, none⟩ = some (.int .i64 a0_2) := (blk_cell BK121.out 2).trans rfl; have hcz27_3 : w25.cell? ⟨gb121, 3, none⟩ = some (.int .i64 a0_3) := (blk_cell BK121.out 3).trans rfl; have hfz27_0 := blk_frozen BK121.out 0; have hfz27_1 := blk_frozen BK121.out 1; have hfz27_2 := blk_frozen BK121.out 2; have hfz27_3 := blk_frozen BK121.out 3))
    have n0_ := Aside0.mk (blk_drew BK121.out)
    have n1_ := Aside0.mk (blk_drew BK122.out)
    have n2_ := Aside0.mk (below_drew1 HB.out)
    clear BK121
    clear BK122
    clear HB
    have BK121 := n0_
    have BK122 := n1_
    have HB := n2_
    clear n0_ n1_ n2_
    refine stz (fun w' => w'.cell? ⟨gb121, 0, none⟩ = some (.int .i64 a0_0) ∧ w'.cell? ⟨gb121, 1, none⟩ = some (.int .i64 a0_1) ∧ w'.cell? ⟨gb121, 2, none⟩ = some (.int .i64 a0_2) ∧ w'.cell? ⟨gb121, 3, none⟩ = some (.int .i64 a0_3)) [] (bn 9 0) ⟨(blk_cell BK121.out 0).trans rfl, (blk_cell BK121.out 1).trans rfl, (blk_cell BK121.out 2).trans rfl, (blk_cell BK121.out 3).trans rfl⟩ (fun hHeld => ?_); refine with_tabW cover_reduced.tab3 cover_reduced.bits3 (fun HT_ HW_ => ?_)
    generalize w25.drew = w28 at BK121 BK122 HB hHeld ⊢
    refine pT HT_.out 0 (some 19) (bn 9 1) ?_
    refine pT HT_.out 2 (some 21) (bn 9 5) ?_
    refine pT HT_.out 5 (some 24) (bn 9 37) ?_
    refine tT HT_.out HW_.out 1 (some 20) (bn 9 39) hHeld ?_
    refine tT HT_.out HW_.out 3 (some 22) (bn 9 47) hHeld ?_
    refine tT HT_.out HW_.out 6 (some 25) (bn 9 111) hHeld ?_
    refine oT HT_.out 4 (some 23) (bn 9 127) (fun K hK => ?_)
    refine gz Try.func84 #[.int .i64 a0_0, .int .i64 a0_1] ?_
    with_reducible refine (cover_gcd.calls k a0_0 a0_1 t125 _ A20.out).mono ?_
    rintro e w29 ⟨rfl, hb⟩
    refine ⟨_, rfl, ?_⟩
    have n0_ := Aside0.mk (blk_below (g := gb121) BKz hb)
    have n1_ := Aside0.mk (blk_below (g := gb122) BKz hb)
    have n2_ := Aside0.mk (below_step HBz hb)
    clear BK121
    clear BK122
    clear HB
    have BK121 := n0_
    have BK122 := n1_
    have HB := n2_
    clear n0_ n1_ n2_
    (try clear hb)
    (try clear hb2)
    (try clear hk)
    (try clear hi)
    refine hK.out _ _ ⟨(blk_cell BK121.out 0).trans rfl, (blk_cell BK121.out 1).trans rfl, (blk_cell BK121.out 2).trans rfl, (blk_cell BK121.out 3).trans rfl⟩ (fun hHeld => ?_)
    clear hK K
    refine nz (some 23) ?_
    refine oT HT_.out 7 (some 26) (bn 9 255) (fun K hK => ?_)
    refine gz Try.func84 #[.int .i64 t125, .int .i64 a0_2] ?_
    with_reducible refine (cover_gcd.calls k t125 a0_2 t126 _ A21.out).mono ?_
    rintro e w30 ⟨rfl, hb⟩
    refine ⟨_, rfl, ?_⟩
    have n0_ := Aside0.mk (blk_below (g := gb121) BKz hb)
    have n1_ := Aside0.mk (blk_below (g := gb122) BKz hb)
    have n2_ := Aside0.mk (below_step HBz hb)
    clear BK121
    clear BK122
    clear HB
    have BK121 := n0_
    have BK122 := n1_
    have HB := n2_
    clear n0_ n1_ n2_
    (try clear hb)
    (try clear hb2)
    (try clear hk)
    (try clear hi)
    refine hK.out _ _ ⟨(blk_cell BK121.out 0).trans rfl, (blk_cell BK121.out 1).trans rfl, (blk_cell BK121.out 2).trans rfl, (blk_cell BK121.out 3).trans rfl⟩ (fun hHeld => ?_)
    clear hK K
    refine nz (some 26) ?_
    refine pT HT_.out 8 (some 3) (bn 9 511) ?_
    refine done_ (done_of HT_.out (by kernel_rfl)) ?_
    try go_wp2
    have n0_ := Aside0.mk (blk_drew BK121.out)
    have n1_ := Aside0.mk (blk_drew BK122.out)
    have n2_ := Aside0.mk (below_drew1 HB.out)
    clear BK121
    clear BK122
    clear HB
    have BK121 := n0_
    have BK122 := n1_
    have HB := n2_
    clear n0_ n1_ n2_
    refine stz (fun w' => w'.cell? ⟨gb121, 0, none⟩ = some (.int .i64 a0_0) ∧ w'.cell? ⟨gb121, 1, none⟩ = some (.int .i64 a0_1) ∧ w'.cell? ⟨gb121, 2, none⟩ = some (.int .i64 a0_2) ∧ w'.cell? ⟨gb121, 3, none⟩ = some (.int .i64 a0_3)) [] (bn 20 0) ⟨(blk_cell BK121.out 0).trans rfl, (blk_cell BK121.out 1).trans rfl, (blk_cell BK121.out 2).trans rfl, (blk_cell BK121.out 3).trans rfl⟩ (fun hHeld => ?_); refine with_tabW cover_reduced.tab4 cover_reduced.bits4 (fun HT_ HW_ => ?_)
    generalize w30.drew = w31 at BK121 BK122 HB hHeld ⊢
    refine pT HT_.out 0 (some 27) (bn 20 1) ?_
    refine pT HT_.out 2 (some 29) (bn 20 5) ?_
    refine pT HT_.out 4 (some 31) (bn 20 21) ?_
    refine pT HT_.out 6 (some 33) (bn 20 85) ?_
    refine pT HT_.out 8 (some 35) (bn 20 341) ?_
    refine pT HT_.out 10 (some 37) (bn 20 1365) ?_
    refine pT HT_.out 12 (some 39) (bn 20 5461) ?_
    refine pT HT_.out 14 (some 41) (bn 20 21845) ?_
    refine pT HT_.out 15 (some 42) (bn 20 54613) ?_
    refine pT HT_.out 16 (some 43) (bn 20 120149) ?_
    refine tT HT_.out HW_.out 1 (some 28) (bn 20 120151) hHeld ?_
    refine pT HT_.out 3 (some 30) (bn 20 120159) ?_
    refine tT HT_.out HW_.out 5 (some 32) (bn 20 120191) hHeld ?_
    refine pT HT_.out 7 (some 34) (bn 20 120319) ?_
    refine tT HT_.out HW_.out 9 (some 36) (bn 20 120831) hHeld ?_
    refine pT HT_.out 11 (some 38) (bn 20 122879) ?_
    refine tT HT_.out HW_.out 13 (some 40) (bn 20 131071) hHeld ?_
    refine pT HT_.out 17 (some 44) (bn 20 262143) ?_
    refine pT HT_.out 18 (some 45) (bn 20 524287) ?_
    refine oT HT_.out 19 none (bn 20 1048575) (fun K hK => ?_)
    have hs32 : w31.cell? ⟨gb122, 0, none⟩ = some (.int .i64 0) := (blk_cell BK122.out 0).trans rfl
    have hfs32 := blk_frozen BK122.out 0
    have hns32_0 := NB121_122.out
    have hms32_0 := NB122_121.out
    have hs33 : w31.cell? ⟨gb122, 1, none⟩ = some (.int .i64 0) := (blk_cell BK122.out 1).trans rfl
    have hfs33 := blk_frozen BK122.out 1
    have hns33_0 := NB121_122.out
    have hms33_0 := NB122_121.out
    have hs34 : w31.cell? ⟨gb122, 2, none⟩ = some (.int .i64 0) := (blk_cell BK122.out 2).trans rfl
    have hfs34 := blk_frozen BK122.out 2
    have hns34_0 := NB121_122.out
    have hms34_0 := NB122_121.out
    have hs35 : w31.cell? ⟨gb122, 3, none⟩ = some (.int .i64 0) := (blk_cell BK122.out 3).trans rfl
    have hfs35 := blk_frozen BK122.out 3
    have hns35_0 := NB121_122.out
    have hms35_0 := NB122_121.out
    refine sz ?_
    refine hK.out _ _ ⟨((cell_far (p := ⟨gb122, _, none⟩) NB121_122.out _).trans (((cell_far (p := ⟨gb122, _, none⟩) NB121_122.out _).trans (((cell_far (p := ⟨gb122, _, none⟩) NB121_122.out _).trans (((cell_far (p := ⟨gb122, _, none⟩) NB121_122.out _).trans (hHeld.1)))))))), ((cell_far (p := ⟨gb122, _, none⟩) NB121_122.out _).trans (((cell_far (p := ⟨gb122, _, none⟩) NB121_122.out _).trans (((cell_far (p := ⟨gb122, _, none⟩) NB121_122.out _).trans (((cell_far (p := ⟨gb122, _, none⟩) NB121_122.out _).trans (hHeld.2.1)))))))), ((cell_far (p := ⟨gb122, _, none⟩) NB121_122.out _).trans (((cell_far (p := ⟨gb122, _, none⟩) NB121_122.out _).trans (((cell_far (p := ⟨gb122, _, none⟩) NB121_122.out _).trans (((cell_far (p := ⟨gb122, _, none⟩) NB121_122.out _).trans (hHeld.2.2.1)))))))), ((cell_far (p := ⟨gb122, _, none⟩) NB121_122.out _).trans (((cell_far (p := ⟨gb122, _, none⟩) NB121_122.out _).trans (((cell_far (p := ⟨gb122, _, none⟩) NB121_122.out _).trans (((cell_far (p := ⟨gb122, _, none⟩) NB121_122.out _).trans (hHeld.2.2.2))))))))⟩ (fun hHeld => ?_)
    clear hK K
    refine done_ (done_of HT_.out (by kernel_rfl)) ?_
    try go_wp2
    refine bodyPost_ret (results_cell_row rfl _ _ gb122 40 #[.int .i64 (wrap64 (Int.tdiv a0_0 t126)), .int .i64 (wrap64 (Int.tdiv a0_1 t126)), .int .i64 (wrap64 (Int.tdiv a0_2 t126)), .int .i64 (wrap64 (Int.tdiv a0_3 (wrap64 (t126 * t126))))] (0, 0) _ rfl (by (with_reducible repeat (first | refine blk_drewN ?_ _ | refine blk_drew ?_ | refine blk_alloc ?_ _)); refine blk_put (cs := #[.int .i64 (wrap64 (Int.tdiv a0_0 t126)), .int .i64 (wrap64 (Int.tdiv a0_1 t126)), .int .i64 (wrap64 (Int.tdiv a0_2 t126)), .int .i64 0]) ?_ 3 _ rfl; (with_reducible repeat (first | refine blk_drewN ?_ _ | refine blk_drew ?_ | refine blk_alloc ?_ _)); refine blk_put (cs := #[.int .i64 (wrap64 (Int.tdiv a0_0 t126)), .int .i64 (wrap64 (Int.tdiv a0_1 t126)), .int .i64 0, .int .i64 0]) ?_ 2 _ rfl; (with_reducible repeat (first | refine blk_drewN ?_ _ | refine blk_drew ?_ | refine blk_alloc ?_ _)); refine blk_put (cs := #[.int .i64 (wrap64 (Int.tdiv a0_0 t126)), .int .i64 0, .int .i64 0, .int .i64 0]) ?_ 1 _ rfl; (with_reducible repeat (first | refine blk_drewN ?_ _ | refine blk_drew ?_ | refine blk_alloc ?_ _)); refine blk_put (cs := #[.int .i64 0, .int .i64 0, .int .i64 0, .int .i64 0]) ?_ 0 _ rfl; (with_reducible repeat (first | refine blk_drewN ?_ _ | refine blk_drew ?_ | refine blk_alloc ?_ _)); exact BK122.out) Try.underlying40 rfl (by kernel_rfl)) rfl ?_
    exact ⟨by first | rfl | (simp [errW_none, errW_some] <;> rfl) | (simp [*, errW_none, errW_some] <;> rfl), HBz⟩
end Go.Proofs.Ytplhfbkejngioaa.X
namespace Go.Proofs.Ytplhfbkejngioaa.X
open Go.RowKit Go.Proofs.YtplhfbkejngioaaW.PrintWords Go.Proofs.YtplhfbkejngioaaW.PrintLast Go.Proofs.Ytplhfbkejngioaa.S
attribute [local go_sem] max2_int min2_int max_two min_two
set_option linter.unusedVariables false
set_option linter.unusedSimpArgs false
def cover_between.f (k : Nat) (a0_0 : Int) (a0_1 : Int) (a1_0 : Int) (a1_1 : Int) : Option (Int × Int × Int × Int) := (cover_dot.f (wrap64 (a0_0 - a1_0)) (wrap64 (a0_1 - a1_1)) (wrap64 (a0_0 - a1_0)) (wrap64 (a0_1 - a1_1))).bind fun t131 => ((cover_reduced.f k (wrap64 (a0_0 + a1_0)) (wrap64 (a0_1 + a1_1)) 2 t131).bind fun bt132 => (some (bt132.1, bt132.2.1, bt132.2.2.1, bt132.2.2.2)))
theorem cover_between.mono : ∀ a0 a1 a2 a3 k, LeO (cover_between.f k a0 a1 a2 a3) (cover_between.f (k + 1) a0 a1 a2 a3) := by
 intro a0 a1 a2 a3 k
 unfold cover_between.f
 repeat' first
   | (with_reducible exact cover_reduced.mono _ _ _ _ _)
   | (with_reducible exact LeO.refl _)
   | (with_reducible exact LeO.none _)
   | (with_reducible refine LeO.ite ?_ ?_)
   | (with_reducible refine LeO.bind ?_ (fun _ => ?_))
   | exact cover_reduced.mono _ _ _ _ _
   | exact LeO.none _
   | refine LeO.ite ?_ ?_
   | refine LeO.bind ?_ (fun _ => ?_)
def cover_between.T2 : Bool × List (List Nat × List Nat) := (true, [([], []), ([0], [0]), ([], []), ([2], [2]), ([1, 3], [1, 3]), ([], []), ([5], [5]), ([], []), ([7], [7]), ([6, 8], [6, 8]), ([], []), ([], []), ([10, 11], [10, 11]), ([4, 9, 12], [4, 9, 12]), ([13, 12], [13]), ([14, 14, 0, 1, 2, 3, 4, 5, 6, 7, 8, 9, 10, 11, 12, 13, 14], [14])])
def cover_between.B2 : List Nat := [0, 1, 0, 4, 15, 0, 32, 0, 128, 480, 0, 0, 3072, 8191, 16383, 32767]
theorem cover_between.tab2 : rtab .any (opsOf Try.f81 2) = cover_between.T2 := by kernel_rfl
theorem cover_between.bits2 : waitsOk cover_between.T2.2 cover_between.B2 = true := by kernel_rfl
set_option maxHeartbeats 8000000 in
set_option maxRecDepth 100000 in
theorem cover_between.calls (k : Nat) (a0_0 : Int) (a0_1 : Int) (a1_0 : Int) (a1_1 : Int) (r1 : Int) (r2 : Int) (r3 : Int) (r4 : Int) (w : World) (h : cover_between.f k a0_0 a0_1 a1_0 a1_1 = some (r1, r2, r3, r4)) :
  Calls Try.prog 81 #[.agg #[.int .i64 a0_0, .int .i64 a0_1], .agg #[.int .i64 a1_0, .int .i64 a1_1]] w fun e w' => e = .returned (.agg #[.int .i64 r1, .int .i64 r2, .int .i64 r3, .int .i64 r4]) ∧ Below w.heap.size w w' := by
 have hu28 := Try.underlying28
 have hu40 := Try.underlying40
 have HB := Aside0.mk (Below.refl w.heap.size w)
 have H : ((cover_dot.f (wrap64 (a0_0 - a1_0)) (wrap64 (a0_1 - a1_1)) (wrap64 (a0_0 - a1_0)) (wrap64 (a0_1 - a1_1))).bind fun t131 => ((cover_reduced.f k (wrap64 (a0_0 + a1_0)) (wrap64 (a0_1 + a1_1)) 2 t131).bind fun bt132 => (some (bt132.1, bt132.2.1, bt132.2.2.1, bt132.2.2.2)))) = some (r1, r2, r3, r4) := h
 clear h
 replace H := Option.bind_eq_some_iff.mp H
 obtain ⟨t131, A30, H⟩ := H
 replace H : ((cover_reduced.f k (wrap64 (a0_0 + a1_0)) (wrap64 (a0_1 + a1_1)) 2 t131).bind fun bt132 => (some (bt132.1, bt132.2.1, bt132.2.2.1, bt132.2.2.2))) = some (r1, r2, r3, r4) := H
 have A3 := Aside0.mk A30
 clear A30
 replace H := Option.bind_eq_some_iff.mp H
 obtain ⟨⟨t132, t133, t134, t135⟩, A40, H⟩ := H
 replace H : (some (t132, t133, t134, t135)) = some (r1, r2, r3, r4) := H
 have A4 := Aside0.mk A40
 clear A40
 simp only [Option.some.injEq, Prod.mk.injEq] at H
 obtain ⟨rfl, rfl, rfl, rfl⟩ := H
 go_enter Try.func81, Try.ntmps81
 try go_wp2_with (first | ((with_reducible refine gate_dst (N := 2) rfl ?_); refine bxE 2 #[.int .i64 a0_0, .int .i64 a0_1] 28 ?_; intro gb127 hg w5 hbox hb; have n0_ := Aside0.mk (below_step HBz hb); have n1_ := Aside0.mk (hbox); have n2_ := Aside0.mk ((by rw [hg]; exact (below_size HBz) : w.heap.size ≤ gb127)); have n3_ := Aside0.mk ((by rw [hg]; exact (below_size HBz) : w.heap.size ≤ gb127)); clear HB; have HB := n0_; have BK127 := n1_; have GW127 := n2_; have GE127 := n3_; clear n0_ n1_ n2_ n3_; clear hb hbox hg) | ((with_reducible refine gate_dst (N := 3) rfl ?_); refine bxE 3 #[.int .i64 a1_0, .int .i64 a1_1] 28 ?_; intro gb128 hg w6 hbox hb; have n0_ := Aside0.mk (blk_below (g := gb127) BKz hb); have n1_ := Aside0.mk (below_step HBz hb); have n2_ := Aside0.mk (hbox); have n3_ := Aside0.mk ((by rw [hg]; exact (below_size HBz) : w.heap.size ≤ gb128)); have n4_ := Aside0.mk ((by rw [hg]; exact (below_size HBz) : w.heap.size ≤ gb128)); have n5_ := Aside0.mk ((by rw [hg]; exact Nat.ne_of_lt (blk_lt (g := gb127) BKz) : gb127 ≠ gb128)); have n6_ := Aside0.mk ((by rw [hg]; exact Nat.ne_of_gt (blk_lt (g := gb127) BKz) : gb128 ≠ gb127)); clear BK127; clear HB; have BK127 := n0_; have HB := n1_; have BK128 := n2_; have GW128 := n3_; have GE128 := n4_; have NB127_128 := n5_; have NB128_127 := n6_; clear n0_ n1_ n2_ n3_ n4_ n5_ n6_; clear hb hbox hg) | ((with_reducible refine gate_dst (N := 4) rfl ?_); refine bxE 4 #[.int .i64 0, .int .i64 0, .int .i64 0, .int .i64 0] 40 ?_; intro gb129 hg w7 hbox hb; have n0_ := Aside0.mk (blk_below (g := gb127) BKz hb); have n1_ := Aside0.mk (blk_below (g := gb128) BKz hb); have n2_ := Aside0.mk (below_step HBz hb); have n3_ := Aside0.mk (hbox); have n4_ := Aside0.mk ((by rw [hg]; exact (below_size HBz) : w.heap.size ≤ gb129)); have n5_ := Aside0.mk ((by rw [hg]; exact (below_size HBz) : w.heap.size ≤ gb129)); have n6_ := Aside0.mk ((by rw [hg]; exact Nat.ne_of_lt (blk_lt (g := gb127) BKz) : gb127 ≠ gb129)); have n7_ := Aside0.mk ((by rw [hg]; exact Nat.ne_of_gt (blk_lt (g := gb127) BKz) : gb129 ≠ gb127)); have n8_ := Aside0.mk ((by rw [hg]; exact Nat.ne_of_lt (blk_lt (g := gb128) BKz) : gb128 ≠ gb129)); have n9_ := Aside0.mk ((by rw [hg]; exact Nat.ne_of_gt (blk_lt (g := gb128) BKz) : gb129 ≠ gb128)); clear BK127; clear BK128; clear HB; have BK127 := n0_; have BK128 := n1_; have HB := n2_; have BK129 := n3_; have GW129 := n4_; have GE129 := n5_; have NB127_129 := n6_; have NB129_127 := n7_; have NB128_129 := n8_; have NB129_128 := n9_; clear n0_ n1_ n2_ n3_ n4_ n5_ n6_ n7_ n8_ n9_; clear hb hbox hg; have hnb8 := NB127_128.out; have hnc8 := NB128_127.out; have hnb9 := NB127_129.out; have hnc9 := NB129_127.out; have hcz10_0 : w7.cell? ⟨gb127, 0, none⟩ = some (.int .i64 a0_0) := (blk_cell BK127.out 0).trans rfl; have hcz10_1 : w7.cell? ⟨gb127, 1, none⟩ = some (.int .i64 a0_1) := (blk_cell BK127.out 1).trans rfl; have hfz10_0 := blk_frozen BK127.out 0; have hfz10_1 := blk_frozen BK127.out 1; have hnb11 := NB128_129.out; have hnc11 := NB129_128.out; have hcz12_0 : w7.cell? ⟨gb128, 0, none⟩ = some (.int .i64 a1_0) := (blk_cell BK128.out 0).trans rfl; have hcz12_1 : w7.cell? ⟨gb128, 1, none⟩ = some (.int .i64 a1_1) := (blk_cell BK128.out 1).trans rfl; have hfz12_0 := blk_frozen BK128.out 0; have hfz12_1 := blk_frozen BK128.out 1) | ((with_reducible refine gate_dst (N := 5) rfl ?_); refine bxE 5 #[.int .i64 0, .int .i64 0] 28 ?_; intro gb130 hg w13 hbox hb; have n0_ := Aside0.mk (blk_below (g := gb127) BKz hb); have n1_ := Aside0.mk (blk_below (g := gb128) BKz hb); have n2_ := Aside0.mk (blk_below (g := gb129) BKz hb); have n3_ := Aside0.mk (below_step HBz hb); have n4_ := Aside0.mk (hbox); have n5_ := Aside0.mk ((by rw [hg]; exact (below_size HBz) : w.heap.size ≤ gb130)); have n6_ := Aside0.mk ((by rw [hg]; exact (below_size HBz) : w.heap.size ≤ gb130)); have n7_ := Aside0.mk ((by rw [hg]; exact Nat.ne_of_lt (blk_lt (g := gb127) BKz) : gb127 ≠ gb130)); have n8_ := Aside0.mk ((by rw [hg]; exact Nat.ne_of_gt (blk_lt (g := gb127) BKz) : gb130 ≠ gb127)); have n9_ := Aside0.mk ((by rw [hg]; exact Nat.ne_of_lt (blk_lt (g := gb128) BKz) : gb128 ≠ gb130)); have n10_ := Aside0.mk ((by rw [hg]; exact Nat.ne_of_gt (blk_lt (g := gb128) BKz) : gb130 ≠ gb128)); have n11_ := Aside0.mk ((by rw [hg]; exact Nat.ne_of_lt (blk_lt (g := gb129) BKz) : gb129 ≠ gb130)); have n12_ := Aside0.mk ((by rw [hg]; exact Nat.ne_of_gt (blk_lt (g := gb129) BKz) : gb130 ≠ gb129)); clear BK127; clear BK128; clear BK129; clear HB; have BK127 := n0_; have BK128 := n1_; have BK129 := n2_; have HB := n3_; have BK130 := n4_; have GW130 := n5_; have GE130 := n6_; have NB127_130 := n7_; have NB130_127 := n8_; have NB128_130 := n9_; have NB130_128 := n10_; have NB129_130 := n11_; have NB130_129 := n12_; clear n0_ n1_ n2_ n3_ n4_ n5_ n6_ n7_ n8_ n9_ n10_ n11_ n12_; clear hb hbox hg; have hnb14 := NB130_127.out; have hnc14 := NB127_130.out; have hnb15 := NB130_128.out; have hnc15 := NB128_130.out; have hnb16 := NB130_129.out; have hnc16 := NB129_130.out; have hcz17_0 : w13.cell? ⟨gb130, 0, none⟩ = some (.int .i64 0) := (blk_cell BK130.out 0).trans rfl; have hcz17_1 : w13.cell? ⟨gb130, 1, none⟩ = some (.int .i64 0) := (blk_cell BK130.out 1).trans rfl; have hfz17_0 := blk_frozen BK130.out 0; have hfz17_1 := blk_frozen BK130.out 1))
 have n0_ : Aside0 (((w13.setCell ⟨gb130, 0, none⟩ (.int .i64 (wrap64 (a0_0 - a1_0)))).setCell ⟨gb130, 1, none⟩ (.int .i64 (wrap64 (a0_1 - a1_1)))).heap[gb127]? = some (.cells #[.int .i64 a0_0, .int .i64 a0_1] 28 (0, 0))) := ⟨by (with_reducible repeat (first | refine blk_drewN ?_ _ | refine blk_drew ?_ | refine blk_alloc ?_ _)); refine blk_far ?_ NB127_130.out _; (with_reducible repeat (first | refine blk_drewN ?_ _ | refine blk_drew ?_ | refine blk_alloc ?_ _)); refine blk_far ?_ NB127_130.out _; (with_reducible repeat (first | refine blk_drewN ?_ _ | refine blk_drew ?_ | refine blk_alloc ?_ _)); exact BK127.out⟩
 have n1_ : Aside0 (((w13.setCell ⟨gb130, 0, none⟩ (.int .i64 (wrap64 (a0_0 - a1_0)))).setCell ⟨gb130, 1, none⟩ (.int .i64 (wrap64 (a0_1 - a1_1)))).heap[gb128]? = some (.cells #[.int .i64 a1_0, .int .i64 a1_1] 28 (0, 0))) := ⟨by (with_reducible repeat (first | refine blk_drewN ?_ _ | refine blk_drew ?_ | refine blk_alloc ?_ _)); refine blk_far ?_ NB128_130.out _; (with_reducible repeat (first | refine blk_drewN ?_ _ | refine blk_drew ?_ | refine blk_alloc ?_ _)); refine blk_far ?_ NB128_130.out _; (with_reducible repeat (first | refine blk_drewN ?_ _ | refine blk_drew ?_ | refine blk_alloc ?_ _)); exact BK128.out⟩
 have n2_ : Aside0 (((w13.setCell ⟨gb130, 0, none⟩ (.int .i64 (wrap64 (a0_0 - a1_0)))).setCell ⟨gb130, 1, none⟩ (.int .i64 (wrap64 (a0_1 - a1_1)))).heap[gb129]? = some (.cells #[.int .i64 0, .int .i64 0, .int .i64 0, .int .i64 0] 40 (0, 0))) := ⟨by (with_reducible repeat (first | refine blk_drewN ?_ _ | refine blk_drew ?_ | refine blk_alloc ?_ _)); refine blk_far ?_ NB129_130.out _; (with_reducible repeat (first | refine blk_drewN ?_ _ | refine blk_drew ?_ | refine blk_alloc ?_ _)); refine blk_far ?_ NB129_130.out _; (with_reducible repeat (first | refine blk_drewN ?_ _ | refine blk_drew ?_ | refine blk_alloc ?_ _)); exact BK129.out⟩
 have n3_ : Aside0 (((w13.setCell ⟨gb130, 0, none⟩ (.int .i64 (wrap64 (a0_0 - a1_0)))).setCell ⟨gb130, 1, none⟩ (.int .i64 (wrap64 (a0_1 - a1_1)))).heap[gb130]? = some (.cells #[.int .i64 (wrap64 (a0_0 - a1_0)), .int .i64 (wrap64 (a0_1 - a1_1))] 28 (0, 0))) := ⟨by (with_reducible repeat (first | refine blk_drewN ?_ _ | refine blk_drew ?_ | refine blk_alloc ?_ _)); refine blk_put (cs := #[.int .i64 (wrap64 (a0_0 - a1_0)), .int .i64 0]) ?_ 1 _ rfl; (with_reducible repeat (first | refine blk_drewN ?_ _ | refine blk_drew ?_ | refine blk_alloc ?_ _)); refine blk_put (cs := #[.int .i64 0, .int .i64 0]) ?_ 0 _ rfl; (with_reducible repeat (first | refine blk_drewN ?_ _ | refine blk_drew ?_ | refine blk_alloc ?_ _)); exact BK130.out⟩
 have n4_ : Aside0 (Below w.heap.size w ((w13.setCell ⟨gb130, 0, none⟩ (.int .i64 (wrap64 (a0_0 - a1_0)))).setCell ⟨gb130, 1, none⟩ (.int .i64 (wrap64 (a0_1 - a1_1))))) := ⟨HBz⟩
 (try clear BK127)
 (try clear BK128)
 (try clear BK129)
 (try clear BK130)
 (try clear HB)
 generalize ((w13.setCell ⟨gb130, 0, none⟩ (.int .i64 (wrap64 (a0_0 - a1_0)))).setCell ⟨gb130, 1, none⟩ (.int .i64 (wrap64 (a0_1 - a1_1)))) = w18 at n0_ n1_ n2_ n3_ n4_ ⊢
 have BK127 := n0_
 have BK128 := n1_
 have BK129 := n2_
 have BK130 := n3_
 have HB := n4_
 clear n0_ n1_ n2_ n3_ n4_
 have n0_ := Aside0.mk (blk_drew BK127.out)
 have n1_ := Aside0.mk (blk_drew BK128.out)
 have n2_ := Aside0.mk (blk_drew BK129.out)
 have n3_ := Aside0.mk (blk_drew BK130.out)
 have n4_ := Aside0.mk (below_drew1 HB.out)
 clear BK127
 clear BK128
 clear BK129
 clear BK130
 clear HB
 have BK127 := n0_
 have BK128 := n1_
 have BK129 := n2_
 have BK130 := n3_
 have HB := n4_
 clear n0_ n1_ n2_ n3_ n4_
 refine stz (fun w' => w'.cell? ⟨gb127, 0, none⟩ = some (.int .i64 a0_0) ∧ w'.cell? ⟨gb127, 1, none⟩ = some (.int .i64 a0_1) ∧ w'.cell? ⟨gb128, 0, none⟩ = some (.int .i64 a1_0) ∧ w'.cell? ⟨gb128, 1, none⟩ = some (.int .i64 a1_1) ∧ w'.cell? ⟨gb130, 0, none⟩ = some (.int .i64 (wrap64 (a0_0 - a1_0))) ∧ w'.cell? ⟨gb130, 1, none⟩ = some (.int .i64 (wrap64 (a0_1 - a1_1)))) [] (bn 16 0) ⟨(blk_cell BK127.out 0).trans rfl, (blk_cell BK127.out 1).trans rfl, (blk_cell BK128.out 0).trans rfl, (blk_cell BK128.out 1).trans rfl, (blk_cell BK130.out 0).trans rfl, (blk_cell BK130.out 1).trans rfl⟩ (fun hHeld => ?_); refine with_tabW cover_between.tab2 cover_between.bits2 (fun HT_ HW_ => ?_)
 generalize w18.drew = w19 at BK127 BK128 BK129 BK130 HB hHeld ⊢
 refine pT HT_.out 0 (some 17) (bn 16 1) ?_
 refine pT HT_.out 2 (some 19) (bn 16 5) ?_
 refine pT HT_.out 5 (some 22) (bn 16 37) ?_
 refine pT HT_.out 7 (some 24) (bn 16 165) ?_
 refine tT HT_.out HW_.out 1 (some 18) (bn 16 167) hHeld ?_
 refine tT HT_.out HW_.out 3 (some 20) (bn 16 175) hHeld ?_
 refine pT HT_.out 4 (some 21) (bn 16 191) ?_
 refine tT HT_.out HW_.out 6 (some 23) (bn 16 255) hHeld ?_
 refine tT HT_.out HW_.out 8 (some 25) (bn 16 511) hHeld ?_
 refine pT HT_.out 9 (some 26) (bn 16 1023) ?_
 refine tT HT_.out HW_.out 10 (some 27) (bn 16 2047) hHeld ?_
 refine tT HT_.out HW_.out 11 (some 28) (bn 16 4095) hHeld ?_
 refine oT HT_.out 12 (some 29) (bn 16 8191) (fun K hK => ?_)
 refine gz Try.func87 #[.agg #[.int .i64 (wrap64 (a0_0 - a1_0)), .int .i64 (wrap64 (a0_1 - a1_1))], .agg #[.int .i64 (wrap64 (a0_0 - a1_0)), .int .i64 (wrap64 (a0_1 - a1_1))]] ?_
 with_reducible refine (cover_dot.calls (wrap64 (a0_0 - a1_0)) (wrap64 (a0_1 - a1_1)) (wrap64 (a0_0 - a1_0)) (wrap64 (a0_1 - a1_1)) t131 _ A3.out).mono ?_
 rintro e w20 ⟨rfl, hb⟩
 refine ⟨_, rfl, ?_⟩
 have n0_ := Aside0.mk (blk_below (g := gb127) BKz hb)
 have n1_ := Aside0.mk (blk_below (g := gb128) BKz hb)
 have n2_ := Aside0.mk (blk_below (g := gb129) BKz hb)
 have n3_ := Aside0.mk (blk_below (g := gb130) BKz hb)
 have n4_ := Aside0.mk (below_step HBz hb)
 clear BK127
 clear BK128
 clear BK129
 clear BK130
 clear HB
 have BK127 := n0_
 have BK128 := n1_
 have BK129 := n2_
 have BK130 := n3_
 have HB := n4_
 clear n0_ n1_ n2_ n3_ n4_
 (try clear hb)
 (try clear hb2)
 (try clear hk)
 (try clear hi)
 refine hK.out _ _ ⟨(blk_cell BK127.out 0).trans rfl, (blk_cell BK127.out 1).trans rfl, (blk_cell BK128.out 0).trans rfl, (blk_cell BK128.out 1).trans rfl, (blk_cell BK130.out 0).trans rfl, (blk_cell BK130.out 1).trans rfl⟩ (fun hHeld => ?_)
 clear hK K
 refine nz (some 29) ?_
 refine pT HT_.out 13 (some 30) (bn 16 16383) ?_
 refine oT HT_.out 14 (some 31) (bn 16 32767) (fun K hK => ?_)
 refine gz Try.func100 #[.agg #[.int .i64 (wrap64 (a0_0 + a1_0)), .int .i64 (wrap64 (a0_1 + a1_1)), .int .i64 2, .int .i64 t131]] ?_
 with_reducible refine (cover_reduced.calls k (wrap64 (a0_0 + a1_0)) (wrap64 (a0_1 + a1_1)) 2 t131 t132 t133 t134 t135 _ A4.out).mono ?_
 rintro e w21 ⟨rfl, hb⟩
 refine ⟨_, rfl, ?_⟩
 have n0_ := Aside0.mk (blk_below (g := gb127) BKz hb)
 have n1_ := Aside0.mk (blk_below (g := gb128) BKz hb)
 have n2_ := Aside0.mk (blk_below (g := gb129) BKz hb)
 have n3_ := Aside0.mk (blk_below (g := gb130) BKz hb)
 have n4_ := Aside0.mk (below_step HBz hb)
 clear BK127
 clear BK128
 clear BK129
 clear BK130
 clear HB
 have BK127 := n0_
 have BK128 := n1_
 have BK129 := n2_
 have BK130 := n3_
 have HB := n4_
 clear n0_ n1_ n2_ n3_ n4_
 (try clear hb)
 (try clear hb2)
 (try clear hk)
 (try clear hi)
 refine hK.out _ _ ⟨(blk_cell BK127.out 0).trans rfl, (blk_cell BK127.out 1).trans rfl, (blk_cell BK128.out 0).trans rfl, (blk_cell BK128.out 1).trans rfl, (blk_cell BK130.out 0).trans rfl, (blk_cell BK130.out 1).trans rfl⟩ (fun hHeld => ?_)
 clear hK K
 refine nz (some 31) ?_
 refine oT HT_.out 15 none (bn 16 65535) (fun K hK => ?_)
 have hs22 : w21.cell? ⟨gb129, 0, none⟩ = some (.int .i64 0) := (blk_cell BK129.out 0).trans rfl
 have hfs22 := blk_frozen BK129.out 0
 have hns22_0 := NB127_129.out
 have hns22_1 := NB128_129.out
 have hns22_3 := NB130_129.out
 have hms22_0 := NB129_127.out
 have hms22_1 := NB129_128.out
 have hms22_3 := NB129_130.out
 have hs23 : w21.cell? ⟨gb129, 1, none⟩ = some (.int .i64 0) := (blk_cell BK129.out 1).trans rfl
 have hfs23 := blk_frozen BK129.out 1
 have hns23_0 := NB127_129.out
 have hns23_1 := NB128_129.out
 have hns23_3 := NB130_129.out
 have hms23_0 := NB129_127.out
 have hms23_1 := NB129_128.out
 have hms23_3 := NB129_130.out
 have hs24 : w21.cell? ⟨gb129, 2, none⟩ = some (.int .i64 0) := (blk_cell BK129.out 2).trans rfl
 have hfs24 := blk_frozen BK129.out 2
 have hns24_0 := NB127_129.out
 have hns24_1 := NB128_129.out
 have hns24_3 := NB130_129.out
 have hms24_0 := NB129_127.out
 have hms24_1 := NB129_128.out
 have hms24_3 := NB129_130.out
 have hs25 : w21.cell? ⟨gb129, 3, none⟩ = some (.int .i64 0) := (blk_cell BK129.out 3).trans rfl
 have hfs25 := blk_frozen BK129.out 3
 have hns25_0 := NB127_129.out
 have hns25_1 := NB128_129.out
 have hns25_3 := NB130_129.out
 have hms25_0 := NB129_127.out
 have hms25_1 := NB129_128.out
 have hms25_3 := NB129_130.out
 refine sz ?_
 refine hK.out _ _ ⟨((cell_far (p := ⟨gb129, _, none⟩) NB127_129.out _).trans (((cell_far (p := ⟨gb129, _, none⟩) NB127_129.out _).trans (((cell_far (p := ⟨gb129, _, none⟩) NB127_129.out _).trans (((cell_far (p := ⟨gb129, _, none⟩) NB127_129.out _).trans (hHeld.1)))))))), ((cell_far (p := ⟨gb129, _, none⟩) NB127_129.out _).trans (((cell_far (p := ⟨gb129, _, none⟩) NB127_129.out _).trans (((cell_far (p := ⟨gb129, _, none⟩) NB127_129.out _).trans (((cell_far (p := ⟨gb129, _, none⟩) NB127_129.out _).trans (hHeld.2.1)))))))), ((cell_far (p := ⟨gb129, _, none⟩) NB128_129.out _).trans (((cell_far (p := ⟨gb129, _, none⟩) NB128_129.out _).trans (((cell_far (p := ⟨gb129, _, none⟩) NB128_129.out _).trans (((cell_far (p := ⟨gb129, _, none⟩) NB128_129.out _).trans (hHeld.2.2.1)))))))), ((cell_far (p := ⟨gb129, _, none⟩) NB128_129.out _).trans (((cell_far (p := ⟨gb129, _, none⟩) NB128_129.out _).trans (((cell_far (p := ⟨gb129, _, none⟩) NB128_129.out _).trans (((cell_far (p := ⟨gb129, _, none⟩) NB128_129.out _).trans (hHeld.2.2.2.1)))))))), ((cell_far (p := ⟨gb129, _, none⟩) NB130_129.out _).trans (((cell_far (p := ⟨gb129, _, none⟩) NB130_129.out _).trans (((cell_far (p := ⟨gb129, _, none⟩) NB130_129.out _).trans (((cell_far (p := ⟨gb129, _, none⟩) NB130_129.out _).trans (hHeld.2.2.2.2.1)))))))), ((cell_far (p := ⟨gb129, _, none⟩) NB130_129.out _).trans (((cell_far (p := ⟨gb129, _, none⟩) NB130_129.out _).trans (((cell_far (p := ⟨gb129, _, none⟩) NB130_129.out _).trans (((cell_far (p := ⟨gb129, _, none⟩) NB130_129.out _).trans (hHeld.2.2.2.2.2))))))))⟩ (fun hHeld => ?_)
 clear hK K
 refine done_ (done_of HT_.out (by kernel_rfl)) ?_
 try go_wp2
 refine bodyPost_ret (results_cell_row rfl _ _ gb129 40 #[.int .i64 t132, .int .i64 t133, .int .i64 t134, .int .i64 t135] (0, 0) _ rfl (by (with_reducible repeat (first | refine blk_drewN ?_ _ | refine blk_drew ?_ | refine blk_alloc ?_ _)); refine blk_put (cs := #[.int .i64 t132, .int .i64 t133, .int .i64 t134, .int .i64 0]) ?_ 3 _ rfl; (with_reducible repeat (first | refine blk_drewN ?_ _ | refine blk_drew ?_ | refine blk_alloc ?_ _)); refine blk_put (cs := #[.int .i64 t132, .int .i64 t133, .int .i64 0, .int .i64 0]) ?_ 2 _ rfl; (with_reducible repeat (first | refine blk_drewN ?_ _ | refine blk_drew ?_ | refine blk_alloc ?_ _)); refine blk_put (cs := #[.int .i64 t132, .int .i64 0, .int .i64 0, .int .i64 0]) ?_ 1 _ rfl; (with_reducible repeat (first | refine blk_drewN ?_ _ | refine blk_drew ?_ | refine blk_alloc ?_ _)); refine blk_put (cs := #[.int .i64 0, .int .i64 0, .int .i64 0, .int .i64 0]) ?_ 0 _ rfl; (with_reducible repeat (first | refine blk_drewN ?_ _ | refine blk_drew ?_ | refine blk_alloc ?_ _)); exact BK129.out) Try.underlying40 rfl (by kernel_rfl)) rfl ?_
 exact ⟨by first | rfl | (simp [errW_none, errW_some] <;> rfl) | (simp [*, errW_none, errW_some] <;> rfl), HBz⟩
def cover_cross.f (a0_0 : Int) (a0_1 : Int) (a1_0 : Int) (a1_1 : Int) : Option (Int) := some (wrap64 ((wrap64 (a0_0 * a1_1)) - (wrap64 (a0_1 * a1_0))))
set_option maxHeartbeats 8000000 in
set_option maxRecDepth 100000 in
theorem cover_cross.calls (a0_0 : Int) (a0_1 : Int) (a1_0 : Int) (a1_1 : Int) (r : Int) (w : World) (h : cover_cross.f a0_0 a0_1 a1_0 a1_1 = some r) :
  Calls Try.prog 88 #[.agg #[.int .i64 a0_0, .int .i64 a0_1], .agg #[.int .i64 a1_0, .int .i64 a1_1]] w fun e w' => e = .returned (.int .i64 r) ∧ Below w.heap.size w w' := by
 have hu28 := Try.underlying28
 have HB := Aside0.mk (Below.refl w.heap.size w)
 have H : (some (wrap64 ((wrap64 (a0_0 * a1_1)) - (wrap64 (a0_1 * a1_0))))) = some r := h
 clear h
 obtain rfl := Option.some.inj H
 go_enter Try.func88, Try.ntmps88
 go_wp2_with (first | ((with_reducible refine gate_dst (N := 2) rfl ?_); refine bxE 2 #[.int .i64 a0_0, .int .i64 a0_1] 28 ?_; intro gb136 hg w3 hbox hb; have n0_ := Aside0.mk (below_step HBz hb); have n1_ := Aside0.mk (hbox); have n2_ := Aside0.mk ((by rw [hg]; exact (below_size HBz) : w.heap.size ≤ gb136)); have n3_ := Aside0.mk ((by rw [hg]; exact (below_size HBz) : w.heap.size ≤ gb136)); clear HB; have HB := n0_; have BK136 := n1_; have GW136 := n2_; have GE136 := n3_; clear n0_ n1_ n2_ n3_; clear hb hbox hg) | ((with_reducible refine gate_dst (N := 3) rfl ?_); refine bxE 3 #[.int .i64 a1_0, .int .i64 a1_1] 28 ?_; intro gb137 hg w4 hbox hb; have n0_ := Aside0.mk (blk_below (g := gb136) BKz hb); have n1_ := Aside0.mk (below_step HBz hb); have n2_ := Aside0.mk (hbox); have n3_ := Aside0.mk ((by rw [hg]; exact (below_size HBz) : w.heap.size ≤ gb137)); have n4_ := Aside0.mk ((by rw [hg]; exact (below_size HBz) : w.heap.size ≤ gb137)); have n5_ := Aside0.mk ((by rw [hg]; exact Nat.ne_of_lt (blk_lt (g := gb136) BKz) : gb136 ≠ gb137)); have n6_ := Aside0.mk ((by rw [hg]; exact Nat.ne_of_gt (blk_lt (g := gb136) BKz) : gb137 ≠ gb136)); clear BK136; clear HB; have BK136 := n0_; have HB := n1_; have BK137 := n2_; have GW137 := n3_; have GE137 := n4_; have NB136_137 := n5_; have NB137_136 := n6_; clear n0_ n1_ n2_ n3_ n4_ n5_ n6_; clear hb hbox hg; have hnb5 := NB136_137.out; have hnc5 := NB137_136.out; have hcz6_0 : w4.cell? ⟨gb136, 0, none⟩ = some (.int .i64 a0_0) := (blk_cell BK136.out 0).trans rfl; have hcz6_1 : w4.cell? ⟨gb136, 1, none⟩ = some (.int .i64 a0_1) := (blk_cell BK136.out 1).trans rfl; have hfz6_0 := blk_frozen BK136.out 0; have hfz6_1 := blk_frozen BK136.out 1; have hcz7_0 : w4.cell? ⟨gb137, 0, none⟩ = some (.int .i64 a1_0) := (blk_cell BK137.out 0).trans rfl; have hcz7_1 : w4.cell? ⟨gb137, 1, none⟩ = some (.int .i64 a1_1) := (blk_cell BK137.out 1).trans rfl; have hfz7_0 := blk_frozen BK137.out 0; have hfz7_1 := blk_frozen BK137.out 1))
 go_ret
 exact ⟨by first | rfl | (simp [errW_none, errW_some] <;> rfl) | (simp [*, errW_none, errW_some] <;> rfl), HBz⟩
end Go.Proofs.Ytplhfbkejngioaa.X
namespace Go.Proofs.Ytplhfbkejngioaa.X
open Go.RowKit Go.Proofs.YtplhfbkejngioaaW.PrintWords Go.Proofs.YtplhfbkejngioaaW.PrintLast Go.Proofs.Ytplhfbkejngioaa.S
attribute [local go_sem] max2_int min2_int max_two min_two
set_option linter.unusedVariables false
set_option linter.unusedSimpArgs false
def cover_through.f (k : Nat) (a0_0 : Int) (a0_1 : Int) (a1_0 : Int) (a1_1 : Int) (a2_0 : Int) (a2_1 : Int) : Option (Int × Int × Int × Int × Bool) := (cover_cross.f (wrap64 (a1_0 - a0_0)) (wrap64 (a1_1 - a0_1)) (wrap64 (a2_0 - a0_0)) (wrap64 (a2_1 - a0_1))).bind fun t144 => (if (wrap64 (2 * t144)) = 0 then (some (0, 0, 0, 0, false)) else ((cover_dot.f (wrap64 (a1_0 - a0_0)) (wrap64 (a1_1 - a0_1)) (wrap64 (a1_0 - a0_0)) (wrap64 (a1_1 - a0_1))).bind fun t145 => ((cover_dot.f (wrap64 (a2_0 - a0_0)) (wrap64 (a2_1 - a0_1)) (wrap64 (a2_0 - a0_0)) (wrap64 (a2_1 - a0_1))).bind fun t146 => ((cover_dot.f (wrap64 ((wrap64 ((wrap64 (a2_1 - a0_1)) * t145)) - (wrap64 ((wrap64 (a1_1 - a0_1)) * t146)))) (wrap64 ((wrap64 ((wrap64 (a1_0 - a0_0)) * t146)) - (wrap64 ((wrap64 (a2_0 - a0_0)) * t145)))) (wrap64 ((wrap64 ((wrap64 (a2_1 - a0_1)) * t145)) - (wrap64 ((wrap64 (a1_1 - a0_1)) * t146)))) (wrap64 ((wrap64 ((wrap64 (a1_0 - a0_0)) * t146)) - (wrap64 ((wrap64 (a2_0 - a0_0)) * t145))))).bind fun t148 => ((cover_reduced.f k (wrap64 ((wrap64 (a0_0 * (wrap64 (2 * t144)))) + (wrap64 ((wrap64 ((wrap64 (a2_1 - a0_1)) * t145)) - (wrap64 ((wrap64 (a1_1 - a0_1)) * t146)))))) (wrap64 ((wrap64 (a0_1 * (wrap64 (2 * t144)))) + (wrap64 ((wrap64 ((wrap64 (a1_0 - a0_0)) * t146)) - (wrap64 ((wrap64 (a2_0 - a0_0)) * t145)))))) (wrap64 (2 * t144)) t148).bind fun bt149 => (some (bt149.1, bt149.2.1, bt149.2.2.1, bt149.2.2.2, true)))))))
theorem cover_through.mono : ∀ a0 a1 a2 a3 a4 a5 k, LeO (cover_through.f k a0 a1 a2 a3 a4 a5) (cover_through.f (k + 1) a0 a1 a2 a3 a4 a5) := by
 intro a0 a1 a2 a3 a4 a5 k
 unfold cover_through.f
 repeat' first
   | (with_reducible exact cover_reduced.mono _ _ _ _ _)
   | (with_reducible exact LeO.refl _)
   | (with_reducible exact LeO.none _)
   | (with_reducible refine LeO.ite ?_ ?_)
   | (with_reducible refine LeO.bind ?_ (fun _ => ?_))
   | exact cover_reduced.mono _ _ _ _ _
   | exact LeO.none _
   | refine LeO.ite ?_ ?_
   | refine LeO.bind ?_ (fun _ => ?_)
def cover_through.T1 : Bool × List (List Nat × List Nat) := (true, [([], []), ([0], [0]), ([], []), ([2], [2]), ([1, 3], [1, 3]), ([], []), ([5], [5]), ([], []), ([7], [7]), ([6, 8], [6, 8]), ([4, 9], [4, 9]), ([], []), ([11], [11]), ([], []), ([13], [13]), ([12, 14], [12, 14]), ([], []), ([16], [16]), ([], []), ([18], [18]), ([17, 19], [17, 19]), ([15, 20], [15, 20]), ([], []), ([], []), ([22, 10, 0, 1, 2, 3, 4, 5, 6, 7, 8, 9, 10, 22, 23], [10, 22]), ([23, 21, 24, 0, 1, 2, 3, 4, 5, 6, 7, 8, 9, 10, 11, 12, 13, 14, 15, 16, 17, 18, 19, 20, 21, 22, 23, 24], [21, 23])])
def cover_through.B1 : List Nat := [0, 1, 0, 4, 15, 0, 32, 0, 128, 480, 1023, 0, 2048, 0, 8192, 30720, 0, 65536, 0, 262144, 983040, 2095104, 0, 0, 12584959, 33554431]
theorem cover_through.tab1 : rtab .any (opsOf Try.f82 1) = cover_through.T1 := by kernel_rfl
theorem cover_through.bits1 : waitsOk cover_through.T1.2 cover_through.B1 = true := by kernel_rfl
def cover_through.T5 : Bool × List (List Nat × List Nat) := (true, [([], []), ([], []), ([0, 1], [0, 1]), ([], []), ([], []), ([3, 4, 2], [3, 4]), ([2, 5, 0, 1, 2], [2]), ([5, 6, 0, 1, 2, 3, 4, 5, 6], [5])])
def cover_through.B5 : List Nat := [0, 0, 3, 0, 0, 31, 63, 127]
theorem cover_through.tab5 : rtab .any (opsOf Try.f82 5) = cover_through.T5 := by kernel_rfl
theorem cover_through.bits5 : waitsOk cover_through.T5.2 cover_through.B5 = true := by kernel_rfl
def cover_through.T7 : Bool × List (List Nat × List Nat) := (true, [([], []), ([0], [0]), ([], []), ([1, 2], [1, 2]), ([], []), ([4], [4]), ([3, 5], [3, 5]), ([], []), ([7], [7]), ([], []), ([8, 9], [8, 9]), ([], []), ([11], [11]), ([10, 12], [10, 12]), ([], []), ([], []), ([], []), ([15, 16], [15, 16]), ([6, 13, 14, 17], [6, 13, 14, 17]), ([18, 17], [18]), ([19, 19, 0, 1, 2, 3, 4, 5, 6, 7, 8, 9, 10, 11, 12, 13, 14, 15, 16, 17, 18, 19], [19]), ([20, 0, 1, 2, 3, 4, 5, 6, 7, 8, 9, 10, 11, 12, 13, 14, 15, 16, 17, 18, 19, 20], [])])
def cover_through.B7 : List Nat := [0, 1, 0, 7, 0, 16, 63, 0, 128, 0, 896, 0, 2048, 8064, 0, 0, 0, 98304, 262143, 524287, 1048575, 2097151]
theorem cover_through.tab7 : rtab .any (opsOf Try.f82 7) = cover_through.T7 := by kernel_rfl
theorem cover_through.bits7 : waitsOk cover_through.T7.2 cover_through.B7 = true := by kernel_rfl
set_option maxHeartbeats 8000000 in
set_option maxRecDepth 100000 in
theorem cover_through.calls (k : Nat) (a0_0 : Int) (a0_1 : Int) (a1_0 : Int) (a1_1 : Int) (a2_0 : Int) (a2_1 : Int) (r1 : Int) (r2 : Int) (r3 : Int) (r4 : Int) (r5 : Bool) (w : World) (h : cover_through.f k a0_0 a0_1 a1_0 a1_1 a2_0 a2_1 = some (r1, r2, r3, r4, r5)) :
  Calls Try.prog 82 #[.agg #[.int .i64 a0_0, .int .i64 a0_1], .agg #[.int .i64 a1_0, .int .i64 a1_1], .agg #[.int .i64 a2_0, .int .i64 a2_1]] w fun e w' => e = .returned (.tuple #[.agg #[.int .i64 r1, .int .i64 r2, .int .i64 r3, .int .i64 r4], .bool r5]) ∧ Below w.heap.size w w' := by
 have hu28 := Try.underlying28
 have hu40 := Try.underlying40
 have HB := Aside0.mk (Below.refl w.heap.size w)
 have H : ((cover_cross.f (wrap64 (a1_0 - a0_0)) (wrap64 (a1_1 - a0_1)) (wrap64 (a2_0 - a0_0)) (wrap64 (a2_1 - a0_1))).bind fun t144 => (if (wrap64 (2 * t144)) = 0 then (some (0, 0, 0, 0, false)) else ((cover_dot.f (wrap64 (a1_0 - a0_0)) (wrap64 (a1_1 - a0_1)) (wrap64 (a1_0 - a0_0)) (wrap64 (a1_1 - a0_1))).bind fun t145 => ((cover_dot.f (wrap64 (a2_0 - a0_0)) (wrap64 (a2_1 - a0_1)) (wrap64 (a2_0 - a0_0)) (wrap64 (a2_1 - a0_1))).bind fun t146 => ((cover_dot.f (wrap64 ((wrap64 ((wrap64 (a2_1 - a0_1)) * t145)) - (wrap64 ((wrap64 (a1_1 - a0_1)) * t146)))) (wrap64 ((wrap64 ((wrap64 (a1_0 - a0_0)) * t146)) - (wrap64 ((wrap64 (a2_0 - a0_0)) * t145)))) (wrap64 ((wrap64 ((wrap64 (a2_1 - a0_1)) * t145)) - (wrap64 ((wrap64 (a1_1 - a0_1)) * t146)))) (wrap64 ((wrap64 ((wrap64 (a1_0 - a0_0)) * t146)) - (wrap64 ((wrap64 (a2_0 - a0_0)) * t145))))).bind fun t148 => ((cover_reduced.f k (wrap64 ((wrap64 (a0_0 * (wrap64 (2 * t144)))) + (wrap64 ((wrap64 ((wrap64 (a2_1 - a0_1)) * t145)) - (wrap64 ((wrap64 (a1_1 - a0_1)) * t146)))))) (wrap64 ((wrap64 (a0_1 * (wrap64 (2 * t144)))) + (wrap64 ((wrap64 ((wrap64 (a1_0 - a0_0)) * t146)) - (wrap64 ((wrap64 (a2_0 - a0_0)) * t145)))))) (wrap64 (2 * t144)) t148).bind fun bt149 => (some (bt149.1, bt149.2.1, bt149.2.2.1, bt149.2.2.2, true)))))))) = some (r1, r2, r3, r4, r5) := h
 clear h
 replace H := Option.bind_eq_some_iff.mp H
 obtain ⟨t144, A40, H⟩ := H
 replace H : (if (wrap64 (2 * t144)) = 0 then (some (0, 0, 0, 0, false)) else ((cover_dot.f (wrap64 (a1_0 - a0_0)) (wrap64 (a1_1 - a0_1)) (wrap64 (a1_0 - a0_0)) (wrap64 (a1_1 - a0_1))).bind fun t145 => ((cover_dot.f (wrap64 (a2_0 - a0_0)) (wrap64 (a2_1 - a0_1)) (wrap64 (a2_0 - a0_0)) (wrap64 (a2_1 - a0_1))).bind fun t146 => ((cover_dot.f (wrap64 ((wrap64 ((wrap64 (a2_1 - a0_1)) * t145)) - (wrap64 ((wrap64 (a1_1 - a0_1)) * t146)))) (wrap64 ((wrap64 ((wrap64 (a1_0 - a0_0)) * t146)) - (wrap64 ((wrap64 (a2_0 - a0_0)) * t145)))) (wrap64 ((wrap64 ((wrap64 (a2_1 - a0_1)) * t145)) - (wrap64 ((wrap64 (a1_1 - a0_1)) * t146)))) (wrap64 ((wrap64 ((wrap64 (a1_0 - a0_0)) * t146)) - (wrap64 ((wrap64 (a2_0 - a0_0)) * t145))))).bind fun t148 => ((cover_reduced.f k (wrap64 ((wrap64 (a0_0 * (wrap64 (2 * t144)))) + (wrap64 ((wrap64 ((wrap64 (a2_1 - a0_1)) * t145)) - (wrap64 ((wrap64 (a1_1 - a0_1)) * t146)))))) (wrap64 ((wrap64 (a0_1 * (wrap64 (2 * t144)))) + (wrap64 ((wrap64 ((wrap64 (a1_0 - a0_0)) * t146)) - (wrap64 ((wrap64 (a2_0 - a0_0)) * t145)))))) (wrap64 (2 * t144)) t148).bind fun bt149 => (some (bt149.1, bt149.2.1, bt149.2.2.1, bt149.2.2.2, true))))))) = some (r1, r2, r3, r4, r5) := H
 have A4 := Aside0.mk A40
 clear A40
 by_cases c5 : (wrap64 (2 * t144)) = 0
 ·rw [if_pos c5] at H
  have c5b0 : ((wrap64 (2 * t144)) == 0) = true := beq_iff_eq.mpr c5
  have c5b1 : ((wrap64 (2 * t144)) != 0) = false := bne_eq_false_iff_eq.mpr c5
  clear c5
  simp only [Option.some.injEq, Prod.mk.injEq] at H
  obtain ⟨rfl, rfl, rfl, rfl, rfl⟩ := H
  go_enter Try.func82, Try.ntmps82
  try go_wp2_with (first | ((with_reducible refine gate_dst (N := 3) rfl ?_); refine bxE 3 #[.int .i64 a0_0, .int .i64 a0_1] 28 ?_; intro gb138 hg w6 hbox hb; have n0_ := Aside0.mk (below_step HBz hb); have n1_ := Aside0.mk (hbox); have n2_ := Aside0.mk ((by rw [hg]; exact (below_size HBz) : w.heap.size ≤ gb138)); have n3_ := Aside0.mk ((by rw [hg]; exact (below_size HBz) : w.heap.size ≤ gb138)); clear HB; have HB := n0_; have BK138 := n1_; have GW138 := n2_; have GE138 := n3_; clear n0_ n1_ n2_ n3_; clear hb hbox hg) | ((with_reducible refine gate_dst (N := 4) rfl ?_); refine bxE 4 #[.int .i64 a1_0, .int .i64 a1_1] 28 ?_; intro gb139 hg w7 hbox hb; have n0_ := Aside0.mk (blk_below (g := gb138) BKz hb); have n1_ := Aside0.mk (below_step HBz hb); have n2_ := Aside0.mk (hbox); have n3_ := Aside0.mk ((by rw [hg]; exact (below_size HBz) : w.heap.size ≤ gb139)); have n4_ := Aside0.mk ((by rw [hg]; exact (below_size HBz) : w.heap.size ≤ gb139)); have n5_ := Aside0.mk ((by rw [hg]; exact Nat.ne_of_lt (blk_lt (g := gb138) BKz) : gb138 ≠ gb139)); have n6_ := Aside0.mk ((by rw [hg]; exact Nat.ne_of_gt (blk_lt (g := gb138) BKz) : gb139 ≠ gb138)); clear BK138; clear HB; have BK138 := n0_; have HB := n1_; have BK139 := n2_; have GW139 := n3_; have GE139 := n4_; have NB138_139 := n5_; have NB139_138 := n6_; clear n0_ n1_ n2_ n3_ n4_ n5_ n6_; clear hb hbox hg) | ((with_reducible refine gate_dst (N := 5) rfl ?_); refine bxE 5 #[.int .i64 a2_0, .int .i64 a2_1] 28 ?_; intro gb140 hg w8 hbox hb; have n0_ := Aside0.mk (blk_below (g := gb138) BKz hb); have n1_ := Aside0.mk (blk_below (g := gb139) BKz hb); have n2_ := Aside0.mk (below_step HBz hb); have n3_ := Aside0.mk (hbox); have n4_ := Aside0.mk ((by rw [hg]; exact (below_size HBz) : w.heap.size ≤ gb140)); have n5_ := Aside0.mk ((by rw [hg]; exact (below_size HBz) : w.heap.size ≤ gb140)); have n6_ := Aside0.mk ((by rw [hg]; exact Nat.ne_of_lt (blk_lt (g := gb138) BKz) : gb138 ≠ gb140)); have n7_ := Aside0.mk ((by rw [hg]; exact Nat.ne_of_gt (blk_lt (g := gb138) BKz) : gb140 ≠ gb138)); have n8_ := Aside0.mk ((by rw [hg]; exact Nat.ne_of_lt (blk_lt (g := gb139) BKz) : gb139 ≠ gb140)); have n9_ := Aside0.mk ((by rw [hg]; exact Nat.ne_of_gt (blk_lt (g := gb139) BKz) : gb140 ≠ gb139)); clear BK138; clear BK139; clear HB; have BK138 := n0_; have BK139 := n1_; have HB := n2_; have BK140 := n3_; have GW140 := n4_; have GE140 := n5_; have NB138_140 := n6_; have NB140_138 := n7_; have NB139_140 := n8_; have NB140_139 := n9_; clear n0_ n1_ n2_ n3_ n4_ n5_ n6_ n7_ n8_ n9_; clear hb hbox hg) | ((with_reducible refine gate_dst (N := 6) rfl ?_); refine bxE 6 #[.int .i64 0, .int .i64 0, .int .i64 0, .int .i64 0] 40 ?_; intro gb141 hg w9 hbox hb; have n0_ := Aside0.mk (blk_below (g := gb138) BKz hb); have n1_ := Aside0.mk (blk_below (g := gb139) BKz hb); have n2_ := Aside0.mk (blk_below (g := gb140) BKz hb); have n3_ := Aside0.mk (below_step HBz hb); have n4_ := Aside0.mk (hbox); have n5_ := Aside0.mk ((by rw [hg]; exact (below_size HBz) : w.heap.size ≤ gb141)); have n6_ := Aside0.mk ((by rw [hg]; exact (below_size HBz) : w.heap.size ≤ gb141)); have n7_ := Aside0.mk ((by rw [hg]; exact Nat.ne_of_lt (blk_lt (g := gb138) BKz) : gb138 ≠ gb141)); have n8_ := Aside0.mk ((by rw [hg]; exact Nat.ne_of_gt (blk_lt (g := gb138) BKz) : gb141 ≠ gb138)); have n9_ := Aside0.mk ((by rw [hg]; exact Nat.ne_of_lt (blk_lt (g := gb139) BKz) : gb139 ≠ gb141)); have n10_ := Aside0.mk ((by rw [hg]; exact Nat.ne_of_gt (blk_lt (g := gb139) BKz) : gb141 ≠ gb139)); have n11_ := Aside0.mk ((by rw [hg]; exact Nat.ne_of_lt (blk_lt (g := gb140) BKz) : gb140 ≠ gb141)); have n12_ := Aside0.mk ((by rw [hg]; exact Nat.ne_of_gt (blk_lt (g := gb140) BKz) : gb141 ≠ gb140)); clear BK138; clear BK139; clear BK140; clear HB; have BK138 := n0_; have BK139 := n1_; have BK140 := n2_; have HB := n3_; have BK141 := n4_; have GW141 := n5_; have GE141 := n6_; have NB138_141 := n7_; have NB141_138 := n8_; have NB139_141 := n9_; have NB141_139 := n10_; have NB140_141 := n11_; have NB141_140 := n12_; clear n0_ n1_ n2_ n3_ n4_ n5_ n6_ n7_ n8_ n9_ n10_ n11_ n12_; clear hb hbox hg))
  have n0_ := Aside0.mk (blk_drew BK138.out)
  have n1_ := Aside0.mk (blk_drew BK139.out)
  have n2_ := Aside0.mk (blk_drew BK140.out)
  have n3_ := Aside0.mk (blk_drew BK141.out)
  have n4_ := Aside0.mk (below_drew1 HB.out)
  clear BK138
  clear BK139
  clear BK140
  clear BK141
  clear HB
  have BK138 := n0_
  have BK139 := n1_
  have BK140 := n2_
  have BK141 := n3_
  have HB := n4_
  clear n0_ n1_ n2_ n3_ n4_
  refine stz (fun w' => w'.cell? ⟨gb139, 0, none⟩ = some (.int .i64 a1_0) ∧ w'.cell? ⟨gb139, 1, none⟩ = some (.int .i64 a1_1) ∧ w'.cell? ⟨gb138, 0, none⟩ = some (.int .i64 a0_0) ∧ w'.cell? ⟨gb138, 1, none⟩ = some (.int .i64 a0_1) ∧ w'.cell? ⟨gb140, 0, none⟩ = some (.int .i64 a2_0) ∧ w'.cell? ⟨gb140, 1, none⟩ = some (.int .i64 a2_1)) [] (bn 26 0) ⟨(blk_cell BK139.out 0).trans rfl, (blk_cell BK139.out 1).trans rfl, (blk_cell BK138.out 0).trans rfl, (blk_cell BK138.out 1).trans rfl, (blk_cell BK140.out 0).trans rfl, (blk_cell BK140.out 1).trans rfl⟩ (fun hHeld => ?_); refine with_tabW cover_through.tab1 cover_through.bits1 (fun HT_ HW_ => ?_)
  generalize w9.drew = w10 at BK138 BK139 BK140 BK141 HB hHeld ⊢
  refine pT HT_.out 0 (some 14) (bn 26 1) ?_
  refine pT HT_.out 2 (some 16) (bn 26 5) ?_
  refine pT HT_.out 5 (some 19) (bn 26 37) ?_
  refine pT HT_.out 7 (some 21) (bn 26 165) ?_
  refine pT HT_.out 11 (some 25) (bn 26 2213) ?_
  refine pT HT_.out 13 (some 27) (bn 26 10405) ?_
  refine pT HT_.out 16 (some 30) (bn 26 75941) ?_
  refine pT HT_.out 18 (some 32) (bn 26 338085) ?_
  refine tT HT_.out HW_.out 1 (some 15) (bn 26 338087) hHeld ?_
  refine tT HT_.out HW_.out 3 (some 17) (bn 26 338095) hHeld ?_
  refine pT HT_.out 4 (some 18) (bn 26 338111) ?_
  refine tT HT_.out HW_.out 6 (some 20) (bn 26 338175) hHeld ?_
  refine tT HT_.out HW_.out 8 (some 22) (bn 26 338431) hHeld ?_
  refine pT HT_.out 9 (some 23) (bn 26 338943) ?_
  refine pT HT_.out 10 (some 24) (bn 26 339967) ?_
  refine tT HT_.out HW_.out 12 (some 26) (bn 26 344063) hHeld ?_
  refine tT HT_.out HW_.out 14 (some 28) (bn 26 360447) hHeld ?_
  refine pT HT_.out 15 (some 29) (bn 26 393215) ?_
  refine tT HT_.out HW_.out 17 (some 31) (bn 26 524287) hHeld ?_
  refine tT HT_.out HW_.out 19 (some 33) (bn 26 1048575) hHeld ?_
  refine pT HT_.out 20 (some 34) (bn 26 2097151) ?_
  refine pT HT_.out 21 (some 35) (bn 26 4194303) ?_
  refine join_ (σ := Nat × Nat) 2 #[true, true, true, true, true, true, true, true, true, true, true, true, true, true, true, true, true, true, true, true, true, true, true, true, false, false] (fun s_ => [(8, .pointer (some ⟨s_.1, 0, none⟩)), (9, .pointer (some ⟨s_.2, 0, none⟩))]) (fun s_ w' => (w'.cell? ⟨gb139, 0, none⟩ = some (.int .i64 a1_0) ∧ w'.cell? ⟨gb139, 1, none⟩ = some (.int .i64 a1_1) ∧ w'.cell? ⟨gb138, 0, none⟩ = some (.int .i64 a0_0) ∧ w'.cell? ⟨gb138, 1, none⟩ = some (.int .i64 a0_1) ∧ w'.cell? ⟨gb140, 0, none⟩ = some (.int .i64 a2_0) ∧ w'.cell? ⟨gb140, 1, none⟩ = some (.int .i64 a2_1)) ∧ (w'.heap[gb138]? = some (.cells #[.int .i64 a0_0, .int .i64 a0_1] 28 (0, 0))) ∧ (w'.heap[gb139]? = some (.cells #[.int .i64 a1_0, .int .i64 a1_1] 28 (0, 0))) ∧ (w'.heap[gb140]? = some (.cells #[.int .i64 a2_0, .int .i64 a2_1] 28 (0, 0))) ∧ (w'.heap[gb141]? = some (.cells #[.int .i64 0, .int .i64 0, .int .i64 0, .int .i64 0] 40 (0, 0))) ∧ (w'.heap[s_.1]? = some (.cells #[.int .i64 0, .int .i64 0] 28 (0, 0))) ∧ (w'.heap[s_.2]? = some (.cells #[.int .i64 0, .int .i64 0] 28 (0, 0))) ∧ (w.heap.size ≤ s_.1) ∧ (w.heap.size ≤ s_.1) ∧ (gb138 ≠ s_.1) ∧ (s_.1 ≠ gb138) ∧ (gb139 ≠ s_.1) ∧ (s_.1 ≠ gb139) ∧ (gb140 ≠ s_.1) ∧ (s_.1 ≠ gb140) ∧ (gb141 ≠ s_.1) ∧ (s_.1 ≠ gb141) ∧ (s_.2 ≠ s_.1) ∧ (s_.1 ≠ s_.2) ∧ (w.heap.size ≤ s_.2) ∧ (w.heap.size ≤ s_.2) ∧ (gb138 ≠ s_.2) ∧ (s_.2 ≠ gb138) ∧ (gb139 ≠ s_.2) ∧ (s_.2 ≠ gb139) ∧ (gb140 ≠ s_.2) ∧ (s_.2 ≠ gb140) ∧ (gb141 ≠ s_.2) ∧ (s_.2 ≠ gb141) ∧ (Below w.heap.size w w')) ?_ ?_
  rotate_left
  ·intro hCont
   refine two_ (i := 22) (j := 23) (Ni := some 8) (Nj := some 9) #[true, true, true, true, true, true, true, true, true, true, true, true, true, true, true, true, true, true, true, true, true, true, true, false, false, false] #[true, true, true, true, true, true, true, true, true, true, true, true, true, true, true, true, true, true, true, true, true, true, false, true, false, false] rfl rfl rfl rfl (two_of HT_.out (by kernel_rfl)) (by decide) (by decide) (fun K hK => ?_) (fun K hK => ?_)
   ·skip
    refine bxS 8 #[.int .i64 0, .int .i64 0] 28 ?_
    intro gb142 hg w11 hbox hb
    have n0_ := Aside0.mk (blk_below (g := gb138) BKz hb)
    have n1_ := Aside0.mk (blk_below (g := gb139) BKz hb)
    have n2_ := Aside0.mk (blk_below (g := gb140) BKz hb)
    have n3_ := Aside0.mk (blk_below (g := gb141) BKz hb)
    have n4_ := Aside0.mk (below_step HBz hb)
    have n5_ := Aside0.mk (hbox)
    have n6_ := Aside0.mk ((by rw [hg]; exact (below_size HBz) : w.heap.size ≤ gb142))
    have n7_ := Aside0.mk ((by rw [hg]; exact (below_size HBz) : w.heap.size ≤ gb142))
    have n8_ := Aside0.mk ((by rw [hg]; exact Nat.ne_of_lt (blk_lt (g := gb138) BKz) : gb138 ≠ gb142))
    have n9_ := Aside0.mk ((by rw [hg]; exact Nat.ne_of_gt (blk_lt (g := gb138) BKz) : gb142 ≠ gb138))
    have n10_ := Aside0.mk ((by rw [hg]; exact Nat.ne_of_lt (blk_lt (g := gb139) BKz) : gb139 ≠ gb142))
    have n11_ := Aside0.mk ((by rw [hg]; exact Nat.ne_of_gt (blk_lt (g := gb139) BKz) : gb142 ≠ gb139))
    have n12_ := Aside0.mk ((by rw [hg]; exact Nat.ne_of_lt (blk_lt (g := gb140) BKz) : gb140 ≠ gb142))
    have n13_ := Aside0.mk ((by rw [hg]; exact Nat.ne_of_gt (blk_lt (g := gb140) BKz) : gb142 ≠ gb140))
    have n14_ := Aside0.mk ((by rw [hg]; exact Nat.ne_of_lt (blk_lt (g := gb141) BKz) : gb141 ≠ gb142))
    have n15_ := Aside0.mk ((by rw [hg]; exact Nat.ne_of_gt (blk_lt (g := gb141) BKz) : gb142 ≠ gb141))
    clear BK138
    clear BK139
    clear BK140
    clear BK141
    clear HB
    have BK138 := n0_
    have BK139 := n1_
    have BK140 := n2_
    have BK141 := n3_
    have HB := n4_
    have BK142 := n5_
    have GW142 := n6_
    have GE142 := n7_
    have NB138_142 := n8_
    have NB142_138 := n9_
    have NB139_142 := n10_
    have NB142_139 := n11_
    have NB140_142 := n12_
    have NB142_140 := n13_
    have NB141_142 := n14_
    have NB142_141 := n15_
    clear n0_ n1_ n2_ n3_ n4_ n5_ n6_ n7_ n8_ n9_ n10_ n11_ n12_ n13_ n14_ n15_
    clear hb hbox hg
    refine hK.out _ _ ⟨(blk_cell BK139.out 0).trans rfl, (blk_cell BK139.out 1).trans rfl, (blk_cell BK138.out 0).trans rfl, (blk_cell BK138.out 1).trans rfl, (blk_cell BK140.out 0).trans rfl, (blk_cell BK140.out 1).trans rfl⟩ (fun hHeld => ?_)
    clear hK K
    refine nz (some 8) ?_
    refine oT HT_.out 23 (some 9) (bn 26 16777215) (fun K hK => ?_)
    refine bxS 9 #[.int .i64 0, .int .i64 0] 28 ?_
    intro gb143 hg w12 hbox hb
    have n0_ := Aside0.mk (blk_below (g := gb138) BKz hb)
    have n1_ := Aside0.mk (blk_below (g := gb139) BKz hb)
    have n2_ := Aside0.mk (blk_below (g := gb140) BKz hb)
    have n3_ := Aside0.mk (blk_below (g := gb141) BKz hb)
    have n4_ := Aside0.mk (blk_below (g := gb142) BKz hb)
    have n5_ := Aside0.mk (below_step HBz hb)
    have n6_ := Aside0.mk (hbox)
    have n7_ := Aside0.mk ((by rw [hg]; exact (below_size HBz) : w.heap.size ≤ gb143))
    have n8_ := Aside0.mk ((by rw [hg]; exact (below_size HBz) : w.heap.size ≤ gb143))
    have n9_ := Aside0.mk ((by rw [hg]; exact Nat.ne_of_lt (blk_lt (g := gb138) BKz) : gb138 ≠ gb143))
    have n10_ := Aside0.mk ((by rw [hg]; exact Nat.ne_of_gt (blk_lt (g := gb138) BKz) : gb143 ≠ gb138))
    have n11_ := Aside0.mk ((by rw [hg]; exact Nat.ne_of_lt (blk_lt (g := gb139) BKz) : gb139 ≠ gb143))
    have n12_ := Aside0.mk ((by rw [hg]; exact Nat.ne_of_gt (blk_lt (g := gb139) BKz) : gb143 ≠ gb139))
    have n13_ := Aside0.mk ((by rw [hg]; exact Nat.ne_of_lt (blk_lt (g := gb140) BKz) : gb140 ≠ gb143))
    have n14_ := Aside0.mk ((by rw [hg]; exact Nat.ne_of_gt (blk_lt (g := gb140) BKz) : gb143 ≠ gb140))
    have n15_ := Aside0.mk ((by rw [hg]; exact Nat.ne_of_lt (blk_lt (g := gb141) BKz) : gb141 ≠ gb143))
    have n16_ := Aside0.mk ((by rw [hg]; exact Nat.ne_of_gt (blk_lt (g := gb141) BKz) : gb143 ≠ gb141))
    have n17_ := Aside0.mk ((by rw [hg]; exact Nat.ne_of_lt (blk_lt (g := gb142) BKz) : gb142 ≠ gb143))
    have n18_ := Aside0.mk ((by rw [hg]; exact Nat.ne_of_gt (blk_lt (g := gb142) BKz) : gb143 ≠ gb142))
    clear BK138
    clear BK139
    clear BK140
    clear BK141
    clear BK142
    clear HB
    have BK138 := n0_
    have BK139 := n1_
    have BK140 := n2_
    have BK141 := n3_
    have BK142 := n4_
    have HB := n5_
    have BK143 := n6_
    have GW143 := n7_
    have GE143 := n8_
    have NB138_143 := n9_
    have NB143_138 := n10_
    have NB139_143 := n11_
    have NB143_139 := n12_
    have NB140_143 := n13_
    have NB143_140 := n14_
    have NB141_143 := n15_
    have NB143_141 := n16_
    have NB142_143 := n17_
    have NB143_142 := n18_
    clear n0_ n1_ n2_ n3_ n4_ n5_ n6_ n7_ n8_ n9_ n10_ n11_ n12_ n13_ n14_ n15_ n16_ n17_ n18_
    clear hb hbox hg
    refine hK.out _ _ ⟨(blk_cell BK139.out 0).trans rfl, (blk_cell BK139.out 1).trans rfl, (blk_cell BK138.out 0).trans rfl, (blk_cell BK138.out 1).trans rfl, (blk_cell BK140.out 0).trans rfl, (blk_cell BK140.out 1).trans rfl⟩ (fun hHeld => ?_)
    clear hK K
    refine nz (some 9) ?_
    exact norm_ (by simp only [putAll, Act.put, List.setIfInBounds_toArray, List.set_cons_zero, List.set_cons_succ]) (hCont (gb142, gb143) _ ⟨hHeld, BKz, BKz, BKz, BKz, BKz, BKz, GW142.out, GE142.out, NB138_142.out, NB142_138.out, NB139_142.out, NB142_139.out, NB140_142.out, NB142_140.out, NB141_142.out, NB142_141.out, NB143_142.out, NB142_143.out, GW143.out, GE143.out, NB138_143.out, NB143_138.out, NB139_143.out, NB143_139.out, NB140_143.out, NB143_140.out, NB141_143.out, NB143_141.out, HBz⟩)
   ·skip
    refine bxS 9 #[.int .i64 0, .int .i64 0] 28 ?_
    intro gb143 hg w11 hbox hb
    have n0_ := Aside0.mk (blk_below (g := gb138) BKz hb)
    have n1_ := Aside0.mk (blk_below (g := gb139) BKz hb)
    have n2_ := Aside0.mk (blk_below (g := gb140) BKz hb)
    have n3_ := Aside0.mk (blk_below (g := gb141) BKz hb)
    have n4_ := Aside0.mk (below_step HBz hb)
    have n5_ := Aside0.mk (hbox)
    have n6_ := Aside0.mk ((by rw [hg]; exact (below_size HBz) : w.heap.size ≤ gb143))
    have n7_ := Aside0.mk ((by rw [hg]; exact (below_size HBz) : w.heap.size ≤ gb143))
    have n8_ := Aside0.mk ((by rw [hg]; exact Nat.ne_of_lt (blk_lt (g := gb138) BKz) : gb138 ≠ gb143))
    have n9_ := Aside0.mk ((by rw [hg]; exact Nat.ne_of_gt (blk_lt (g := gb138) BKz) : gb143 ≠ gb138))
    have n10_ := Aside0.mk ((by rw [hg]; exact Nat.ne_of_lt (blk_lt (g := gb139) BKz) : gb139 ≠ gb143))
    have n11_ := Aside0.mk ((by rw [hg]; exact Nat.ne_of_gt (blk_lt (g := gb139) BKz) : gb143 ≠ gb139))
    have n12_ := Aside0.mk ((by rw [hg]; exact Nat.ne_of_lt (blk_lt (g := gb140) BKz) : gb140 ≠ gb143))
    have n13_ := Aside0.mk ((by rw [hg]; exact Nat.ne_of_gt (blk_lt (g := gb140) BKz) : gb143 ≠ gb140))
    have n14_ := Aside0.mk ((by rw [hg]; exact Nat.ne_of_lt (blk_lt (g := gb141) BKz) : gb141 ≠ gb143))
    have n15_ := Aside0.mk ((by rw [hg]; exact Nat.ne_of_gt (blk_lt (g := gb141) BKz) : gb143 ≠ gb141))
    clear BK138
    clear BK139
    clear BK140
    clear BK141
    clear HB
    have BK138 := n0_
    have BK139 := n1_
    have BK140 := n2_
    have BK141 := n3_
    have HB := n4_
    have BK143 := n5_
    have GW143 := n6_
    have GE143 := n7_
    have NB138_143 := n8_
    have NB143_138 := n9_
    have NB139_143 := n10_
    have NB143_139 := n11_
    have NB140_143 := n12_
    have NB143_140 := n13_
    have NB141_143 := n14_
    have NB143_141 := n15_
    clear n0_ n1_ n2_ n3_ n4_ n5_ n6_ n7_ n8_ n9_ n10_ n11_ n12_ n13_ n14_ n15_
    clear hb hbox hg
    refine hK.out _ _ ⟨(blk_cell BK139.out 0).trans rfl, (blk_cell BK139.out 1).trans rfl, (blk_cell BK138.out 0).trans rfl, (blk_cell BK138.out 1).trans rfl, (blk_cell BK140.out 0).trans rfl, (blk_cell BK140.out 1).trans rfl⟩ (fun hHeld => ?_)
    clear hK K
    refine nz (some 9) ?_
    refine oT HT_.out 22 (some 8) (bn 26 16777215) (fun K hK => ?_)
    refine bxS 8 #[.int .i64 0, .int .i64 0] 28 ?_
    intro gb142 hg w12 hbox hb
    have n0_ := Aside0.mk (blk_below (g := gb138) BKz hb)
    have n1_ := Aside0.mk (blk_below (g := gb139) BKz hb)
    have n2_ := Aside0.mk (blk_below (g := gb140) BKz hb)
    have n3_ := Aside0.mk (blk_below (g := gb141) BKz hb)
    have n4_ := Aside0.mk (blk_below (g := gb143) BKz hb)
    have n5_ := Aside0.mk (below_step HBz hb)
    have n6_ := Aside0.mk (hbox)
    have n7_ := Aside0.mk ((by rw [hg]; exact (below_size HBz) : w.heap.size ≤ gb142))
    have n8_ := Aside0.mk ((by rw [hg]; exact (below_size HBz) : w.heap.size ≤ gb142))
    have n9_ := Aside0.mk ((by rw [hg]; exact Nat.ne_of_lt (blk_lt (g := gb138) BKz) : gb138 ≠ gb142))
    have n10_ := Aside0.mk ((by rw [hg]; exact Nat.ne_of_gt (blk_lt (g := gb138) BKz) : gb142 ≠ gb138))
    have n11_ := Aside0.mk ((by rw [hg]; exact Nat.ne_of_lt (blk_lt (g := gb139) BKz) : gb139 ≠ gb142))
    have n12_ := Aside0.mk ((by rw [hg]; exact Nat.ne_of_gt (blk_lt (g := gb139) BKz) : gb142 ≠ gb139))
    have n13_ := Aside0.mk ((by rw [hg]; exact Nat.ne_of_lt (blk_lt (g := gb140) BKz) : gb140 ≠ gb142))
    have n14_ := Aside0.mk ((by rw [hg]; exact Nat.ne_of_gt (blk_lt (g := gb140) BKz) : gb142 ≠ gb140))
    have n15_ := Aside0.mk ((by rw [hg]; exact Nat.ne_of_lt (blk_lt (g := gb141) BKz) : gb141 ≠ gb142))
    have n16_ := Aside0.mk ((by rw [hg]; exact Nat.ne_of_gt (blk_lt (g := gb141) BKz) : gb142 ≠ gb141))
    have n17_ := Aside0.mk ((by rw [hg]; exact Nat.ne_of_lt (blk_lt (g := gb143) BKz) : gb143 ≠ gb142))
    have n18_ := Aside0.mk ((by rw [hg]; exact Nat.ne_of_gt (blk_lt (g := gb143) BKz) : gb142 ≠ gb143))
    clear BK138
    clear BK139
    clear BK140
    clear BK141
    clear BK143
    clear HB
    have BK138 := n0_
    have BK139 := n1_
    have BK140 := n2_
    have BK141 := n3_
    have BK143 := n4_
    have HB := n5_
    have BK142 := n6_
    have GW142 := n7_
    have GE142 := n8_
    have NB138_142 := n9_
    have NB142_138 := n10_
    have NB139_142 := n11_
    have NB142_139 := n12_
    have NB140_142 := n13_
    have NB142_140 := n14_
    have NB141_142 := n15_
    have NB142_141 := n16_
    have NB143_142 := n17_
    have NB142_143 := n18_
    clear n0_ n1_ n2_ n3_ n4_ n5_ n6_ n7_ n8_ n9_ n10_ n11_ n12_ n13_ n14_ n15_ n16_ n17_ n18_
    clear hb hbox hg
    refine hK.out _ _ ⟨(blk_cell BK139.out 0).trans rfl, (blk_cell BK139.out 1).trans rfl, (blk_cell BK138.out 0).trans rfl, (blk_cell BK138.out 1).trans rfl, (blk_cell BK140.out 0).trans rfl, (blk_cell BK140.out 1).trans rfl⟩ (fun hHeld => ?_)
    clear hK K
    refine nz (some 8) ?_
    exact norm_ (by simp only [putAll, Act.put, List.setIfInBounds_toArray, List.set_cons_zero, List.set_cons_succ]) (hCont (gb142, gb143) _ ⟨hHeld, BKz, BKz, BKz, BKz, BKz, BKz, GW142.out, GE142.out, NB138_142.out, NB142_138.out, NB139_142.out, NB142_139.out, NB140_142.out, NB142_140.out, NB141_142.out, NB142_141.out, NB143_142.out, NB142_143.out, GW143.out, GE143.out, NB138_143.out, NB143_138.out, NB139_143.out, NB143_139.out, NB140_143.out, NB143_140.out, NB141_143.out, NB143_141.out, HBz⟩)
  rintro ⟨gb142, gb143⟩ w13 ⟨hS_, h0_, h1_, h2_, h3_, h4_, h5_, h6_, h7_, h8_, h9_, h10_, h11_, h12_, h13_, h14_, h15_, h16_, h17_, h18_, h19_, h20_, h21_, h22_, h23_, h24_, h25_, h26_, h27_, h28_⟩
  have n0_ : Aside0 (w13.heap[gb138]? = some (.cells #[.int .i64 a0_0, .int .i64 a0_1] 28 (0, 0))) := ⟨h0_⟩
  have n1_ : Aside0 (w13.heap[gb139]? = some (.cells #[.int .i64 a1_0, .int .i64 a1_1] 28 (0, 0))) := ⟨h1_⟩
  have n2_ : Aside0 (w13.heap[gb140]? = some (.cells #[.int .i64 a2_0, .int .i64 a2_1] 28 (0, 0))) := ⟨h2_⟩
  have n3_ : Aside0 (w13.heap[gb141]? = some (.cells #[.int .i64 0, .int .i64 0, .int .i64 0, .int .i64 0] 40 (0, 0))) := ⟨h3_⟩
  have n4_ : Aside0 (w13.heap[gb142]? = some (.cells #[.int .i64 0, .int .i64 0] 28 (0, 0))) := ⟨h4_⟩
  have n5_ : Aside0 (w13.heap[gb143]? = some (.cells #[.int .i64 0, .int .i64 0] 28 (0, 0))) := ⟨h5_⟩
  have n6_ : Aside0 (w.heap.size ≤ gb142) := ⟨h6_⟩
  have n7_ : Aside0 (w.heap.size ≤ gb142) := ⟨h7_⟩
  have n8_ : Aside0 (gb138 ≠ gb142) := ⟨h8_⟩
  have n9_ : Aside0 (gb142 ≠ gb138) := ⟨h9_⟩
  have n10_ : Aside0 (gb139 ≠ gb142) := ⟨h10_⟩
  have n11_ : Aside0 (gb142 ≠ gb139) := ⟨h11_⟩
  have n12_ : Aside0 (gb140 ≠ gb142) := ⟨h12_⟩
  have n13_ : Aside0 (gb142 ≠ gb140) := ⟨h13_⟩
  have n14_ : Aside0 (gb141 ≠ gb142) := ⟨h14_⟩
  have n15_ : Aside0 (gb142 ≠ gb141) := ⟨h15_⟩
  have n16_ : Aside0 (gb143 ≠ gb142) := ⟨h16_⟩
  have n17_ : Aside0 (gb142 ≠ gb143) := ⟨h17_⟩
  have n18_ : Aside0 (w.heap.size ≤ gb143) := ⟨h18_⟩
  have n19_ : Aside0 (w.heap.size ≤ gb143) := ⟨h19_⟩
  have n20_ : Aside0 (gb138 ≠ gb143) := ⟨h20_⟩
  have n21_ : Aside0 (gb143 ≠ gb138) := ⟨h21_⟩
  have n22_ : Aside0 (gb139 ≠ gb143) := ⟨h22_⟩
  have n23_ : Aside0 (gb143 ≠ gb139) := ⟨h23_⟩
  have n24_ : Aside0 (gb140 ≠ gb143) := ⟨h24_⟩
  have n25_ : Aside0 (gb143 ≠ gb140) := ⟨h25_⟩
  have n26_ : Aside0 (gb141 ≠ gb143) := ⟨h26_⟩
  have n27_ : Aside0 (gb143 ≠ gb141) := ⟨h27_⟩
  have n28_ : Aside0 (Below w.heap.size w w13) := ⟨h28_⟩
  clear BK138
  clear BK139
  clear BK140
  clear BK141
  clear HB
  clear h0_ h1_ h2_ h3_ h4_ h5_ h6_ h7_ h8_ h9_ h10_ h11_ h12_ h13_ h14_ h15_ h16_ h17_ h18_ h19_ h20_ h21_ h22_ h23_ h24_ h25_ h26_ h27_ h28_
  have BK138 := n0_
  have BK139 := n1_
  have BK140 := n2_
  have BK141 := n3_
  have BK142 := n4_
  have BK143 := n5_
  have GW142 := n6_
  have GE142 := n7_
  have NB138_142 := n8_
  have NB142_138 := n9_
  have NB139_142 := n10_
  have NB142_139 := n11_
  have NB140_142 := n12_
  have NB142_140 := n13_
  have NB141_142 := n14_
  have NB142_141 := n15_
  have NB143_142 := n16_
  have NB142_143 := n17_
  have GW143 := n18_
  have GE143 := n19_
  have NB138_143 := n20_
  have NB143_138 := n21_
  have NB139_143 := n22_
  have NB143_139 := n23_
  have NB140_143 := n24_
  have NB143_140 := n25_
  have NB141_143 := n26_
  have NB143_141 := n27_
  have HB := n28_
  clear n0_ n1_ n2_ n3_ n4_ n5_ n6_ n7_ n8_ n9_ n10_ n11_ n12_ n13_ n14_ n15_ n16_ n17_ n18_ n19_ n20_ n21_ n22_ n23_ n24_ n25_ n26_ n27_ n28_
  have hHeld : w13.cell? ⟨gb139, 0, none⟩ = some (.int .i64 a1_0) ∧ w13.cell? ⟨gb139, 1, none⟩ = some (.int .i64 a1_1) ∧ w13.cell? ⟨gb138, 0, none⟩ = some (.int .i64 a0_0) ∧ w13.cell? ⟨gb138, 1, none⟩ = some (.int .i64 a0_1) ∧ w13.cell? ⟨gb140, 0, none⟩ = some (.int .i64 a2_0) ∧ w13.cell? ⟨gb140, 1, none⟩ = some (.int .i64 a2_1) := hS_
  refine norm_ (a' := ?_) ?_ ?_
  rotate_left
  ·simp only [putAll, Act.put, List.setIfInBounds_toArray, List.set_cons_zero, List.set_cons_succ]
   rfl
  refine oT HT_.out 24 none (bn 26 33554431) (fun K hK => ?_)
  have hs14 : w13.cell? ⟨gb142, 0, none⟩ = some (.int .i64 0) := (blk_cell BK142.out 0).trans rfl
  have hfs14 := blk_frozen BK142.out 0
  have hns14_0 := NB138_142.out
  have hns14_1 := NB139_142.out
  have hns14_2 := NB140_142.out
  have hns14_3 := NB141_142.out
  have hns14_5 := NB143_142.out
  have hms14_0 := NB142_138.out
  have hms14_1 := NB142_139.out
  have hms14_2 := NB142_140.out
  have hms14_3 := NB142_141.out
  have hms14_5 := NB142_143.out
  have hs15 : w13.cell? ⟨gb142, 1, none⟩ = some (.int .i64 0) := (blk_cell BK142.out 1).trans rfl
  have hfs15 := blk_frozen BK142.out 1
  have hns15_0 := NB138_142.out
  have hns15_1 := NB139_142.out
  have hns15_2 := NB140_142.out
  have hns15_3 := NB141_142.out
  have hns15_5 := NB143_142.out
  have hms15_0 := NB142_138.out
  have hms15_1 := NB142_139.out
  have hms15_2 := NB142_140.out
  have hms15_3 := NB142_141.out
  have hms15_5 := NB142_143.out
  refine sz ?_
  refine hK.out _ _ ⟨((cell_far (p := ⟨gb142, _, none⟩) NB139_142.out _).trans (((cell_far (p := ⟨gb142, _, none⟩) NB139_142.out _).trans (hHeld.1)))), ((cell_far (p := ⟨gb142, _, none⟩) NB139_142.out _).trans (((cell_far (p := ⟨gb142, _, none⟩) NB139_142.out _).trans (hHeld.2.1)))), ((cell_far (p := ⟨gb142, _, none⟩) NB138_142.out _).trans (((cell_far (p := ⟨gb142, _, none⟩) NB138_142.out _).trans (hHeld.2.2.1)))), ((cell_far (p := ⟨gb142, _, none⟩) NB138_142.out _).trans (((cell_far (p := ⟨gb142, _, none⟩) NB138_142.out _).trans (hHeld.2.2.2.1)))), ((cell_far (p := ⟨gb142, _, none⟩) NB140_142.out _).trans (((cell_far (p := ⟨gb142, _, none⟩) NB140_142.out _).trans (hHeld.2.2.2.2.1)))), ((cell_far (p := ⟨gb142, _, none⟩) NB140_142.out _).trans (((cell_far (p := ⟨gb142, _, none⟩) NB140_142.out _).trans (hHeld.2.2.2.2.2))))⟩ (fun hHeld => ?_)
  clear hK K
  refine oT HT_.out 25 none (bn 26 67108863) (fun K hK => ?_)
  have hs16 : w13.cell? ⟨gb143, 0, none⟩ = some (.int .i64 0) := (blk_cell BK143.out 0).trans rfl
  have hfs16 := blk_frozen BK143.out 0
  have hns16_0 := NB138_143.out
  have hns16_1 := NB139_143.out
  have hns16_2 := NB140_143.out
  have hns16_3 := NB141_143.out
  have hns16_4 := NB142_143.out
  have hms16_0 := NB143_138.out
  have hms16_1 := NB143_139.out
  have hms16_2 := NB143_140.out
  have hms16_3 := NB143_141.out
  have hms16_4 := NB143_142.out
  have hs17 : w13.cell? ⟨gb143, 1, none⟩ = some (.int .i64 0) := (blk_cell BK143.out 1).trans rfl
  have hfs17 := blk_frozen BK143.out 1
  have hns17_0 := NB138_143.out
  have hns17_1 := NB139_143.out
  have hns17_2 := NB140_143.out
  have hns17_3 := NB141_143.out
  have hns17_4 := NB142_143.out
  have hms17_0 := NB143_138.out
  have hms17_1 := NB143_139.out
  have hms17_2 := NB143_140.out
  have hms17_3 := NB143_141.out
  have hms17_4 := NB143_142.out
  refine sz ?_
  refine hK.out _ _ ⟨((cell_far (p := ⟨gb143, _, none⟩) NB139_143.out _).trans (((cell_far (p := ⟨gb143, _, none⟩) NB139_143.out _).trans (hHeld.1)))), ((cell_far (p := ⟨gb143, _, none⟩) NB139_143.out _).trans (((cell_far (p := ⟨gb143, _, none⟩) NB139_143.out _).trans (hHeld.2.1)))), ((cell_far (p := ⟨gb143, _, none⟩) NB138_143.out _).trans (((cell_far (p := ⟨gb143, _, none⟩) NB138_143.out _).trans (hHeld.2.2.1)))), ((cell_far (p := ⟨gb143, _, none⟩) NB138_143.out _).trans (((cell_far (p := ⟨gb143, _, none⟩) NB138_143.out _).trans (hHeld.2.2.2.1)))), ((cell_far (p := ⟨gb143, _, none⟩) NB140_143.out _).trans (((cell_far (p := ⟨gb143, _, none⟩) NB140_143.out _).trans (hHeld.2.2.2.2.1)))), ((cell_far (p := ⟨gb143, _, none⟩) NB140_143.out _).trans (((cell_far (p := ⟨gb143, _, none⟩) NB140_143.out _).trans (hHeld.2.2.2.2.2))))⟩ (fun hHeld => ?_)
  clear hK K
  refine done_ (done_of HT_.out (by kernel_rfl)) ?_
  have hnb18 := NB142_138.out
  have hnc18 := NB138_142.out
  have hnb19 := NB142_139.out
  have hnc19 := NB139_142.out
  have hnb20 := NB142_140.out
  have hnc20 := NB140_142.out
  have hnb21 := NB142_141.out
  have hnc21 := NB141_142.out
  have hnb22 := NB142_143.out
  have hnc22 := NB143_142.out
  have hcz23_0 : w13.cell? ⟨gb142, 0, none⟩ = some (.int .i64 0) := (blk_cell BK142.out 0).trans rfl
  have hcz23_1 : w13.cell? ⟨gb142, 1, none⟩ = some (.int .i64 0) := (blk_cell BK142.out 1).trans rfl
  have hfz23_0 := blk_frozen BK142.out 0
  have hfz23_1 := blk_frozen BK142.out 1
  have hnb24 := NB143_138.out
  have hnc24 := NB138_143.out
  have hnb25 := NB143_139.out
  have hnc25 := NB139_143.out
  have hnb26 := NB143_140.out
  have hnc26 := NB140_143.out
  have hnb27 := NB143_141.out
  have hnc27 := NB141_143.out
  have hcz28_0 : w13.cell? ⟨gb143, 0, none⟩ = some (.int .i64 0) := (blk_cell BK143.out 0).trans rfl
  have hcz28_1 : w13.cell? ⟨gb143, 1, none⟩ = some (.int .i64 0) := (blk_cell BK143.out 1).trans rfl
  have hfz28_0 := blk_frozen BK143.out 0
  have hfz28_1 := blk_frozen BK143.out 1
  try go_wp2_with (first | ((with_reducible refine gate_callee (f := 88) rfl ?_); refine goesL_ (some 38) rfl rfl Try.func88 (by kernel_rfl) rfl #[.agg #[.int .i64 (wrap64 (a1_0 - a0_0)), .int .i64 (wrap64 (a1_1 - a0_1))], .agg #[.int .i64 (wrap64 (a2_0 - a0_0)), .int .i64 (wrap64 (a2_1 - a0_1))]] rfl (by (try simp only [List.map_toArray, List.map_cons, List.map_nil]); first | done | rfl | (simp only [List.length_drop, List.length_take]; rfl)) ?_; (with_reducible refine (cover_cross.calls (wrap64 (a1_0 - a0_0)) (wrap64 (a1_1 - a0_1)) (wrap64 (a2_0 - a0_0)) (wrap64 (a2_1 - a0_1)) t144 _ A4.out).mono ?_); rintro e w29 ⟨rfl, hb⟩; refine ⟨_, rfl, ?_⟩; have n0_ := Aside0.mk (blk_below (g := gb138) (o := .cells #[.int .i64 a0_0, .int .i64 a0_1] 28 (0, 0)) (by (with_reducible repeat (first | refine blk_drewN ?_ _ | refine blk_drew ?_ | refine blk_alloc ?_ _)); refine blk_far ?_ NB138_143.out _; (with_reducible repeat (first | refine blk_drewN ?_ _ | refine blk_drew ?_ | refine blk_alloc ?_ _)); refine blk_far ?_ NB138_143.out _; (with_reducible repeat (first | refine blk_drewN ?_ _ | refine blk_drew ?_ | refine blk_alloc ?_ _)); refine blk_far ?_ NB138_142.out _; (with_reducible repeat (first | refine blk_drewN ?_ _ | refine blk_drew ?_ | refine blk_alloc ?_ _)); refine blk_far ?_ NB138_142.out _; (with_reducible repeat (first | refine blk_drewN ?_ _ | refine blk_drew ?_ | refine blk_alloc ?_ _)); exact BK138.out) hb); have n1_ := Aside0.mk (blk_below (g := gb139) (o := .cells #[.int .i64 a1_0, .int .i64 a1_1] 28 (0, 0)) (by (with_reducible repeat (first | refine blk_drewN ?_ _ | refine blk_drew ?_ | refine blk_alloc ?_ _)); refine blk_far ?_ NB139_143.out _; (with_reducible repeat (first | refine blk_drewN ?_ _ | refine blk_drew ?_ | refine blk_alloc ?_ _)); refine blk_far ?_ NB139_143.out _; (with_reducible repeat (first | refine blk_drewN ?_ _ | refine blk_drew ?_ | refine blk_alloc ?_ _)); refine blk_far ?_ NB139_142.out _; (with_reducible repeat (first | refine blk_drewN ?_ _ | refine blk_drew ?_ | refine blk_alloc ?_ _)); refine blk_far ?_ NB139_142.out _; (with_reducible repeat (first | refine blk_drewN ?_ _ | refine blk_drew ?_ | refine blk_alloc ?_ _)); exact BK139.out) hb); have n2_ := Aside0.mk (blk_below (g := gb140) (o := .cells #[.int .i64 a2_0, .int .i64 a2_1] 28 (0, 0)) (by (with_reducible repeat (first | refine blk_drewN ?_ _ | refine blk_drew ?_ | refine blk_alloc ?_ _)); refine blk_far ?_ NB140_143.out _; (with_reducible repeat (first | refine blk_drewN ?_ _ | refine blk_drew ?_ | refine blk_alloc ?_ _)); refine blk_far ?_ NB140_143.out _; (with_reducible repeat (first | refine blk_drewN ?_ _ | refine blk_drew ?_ | refine blk_alloc ?_ _)); refine blk_far ?_ NB140_142.out _; (with_reducible repeat (first | refine blk_drewN ?_ _ | refine blk_drew ?_ | refine blk_alloc ?_ _)); refine blk_far ?_ NB140_142.out _; (with_reducible repeat (first | refine blk_drewN ?_ _ | refine blk_drew ?_ | refine blk_alloc ?_ _)); exact BK140.out) hb); have n3_ := Aside0.mk (blk_below (g := gb141) (o := .cells #[.int .i64 0, .int .i64 0, .int .i64 0, .int .i64 0] 40 (0, 0)) (by (with_reducible repeat (first | refine blk_drewN ?_ _ | refine blk_drew ?_ | refine blk_alloc ?_ _)); refine blk_far ?_ NB141_143.out _; (with_reducible repeat (first | refine blk_drewN ?_ _ | refine blk_drew ?_ | refine blk_alloc ?_ _)); refine blk_far ?_ NB141_143.out _; (with_reducible repeat (first | refine blk_drewN ?_ _ | refine blk_drew ?_ | refine blk_alloc ?_ _)); refine blk_far ?_ NB141_142.out _; (with_reducible repeat (first | refine blk_drewN ?_ _ | refine blk_drew ?_ | refine blk_alloc ?_ _)); refine blk_far ?_ NB141_142.out _; (with_reducible repeat (first | refine blk_drewN ?_ _ | refine blk_drew ?_ | refine blk_alloc ?_ _)); exact BK141.out) hb); have n4_ := Aside0.mk (blk_below (g := gb142) (o := .cells #[.int .i64 (wrap64 (a1_0 - a0_0)), .int .i64 (wrap64 (a1_1 - a0_1))] 28 (0, 0)) (by (with_reducible repeat (first | refine blk_drewN ?_ _ | refine blk_drew ?_ | refine blk_alloc ?_ _)); refine blk_far ?_ NB142_143.out _; (with_reducible repeat (first | refine blk_drewN ?_ _ | refine blk_drew ?_ | refine blk_alloc ?_ _)); refine blk_far ?_ NB142_143.out _; (with_reducible repeat (first | refine blk_drewN ?_ _ | refine blk_drew ?_ | refine blk_alloc ?_ _)); refine blk_put (cs := #[.int .i64 (wrap64 (a1_0 - a0_0)), .int .i64 0]) ?_ 1 _ rfl; (with_reducible repeat (first | refine blk_drewN ?_ _ | refine blk_drew ?_ | refine blk_alloc ?_ _)); refine blk_put (cs := #[.int .i64 0, .int .i64 0]) ?_ 0 _ rfl; (with_reducible repeat (first | refine blk_drewN ?_ _ | refine blk_drew ?_ | refine blk_alloc ?_ _)); exact BK142.out) hb); have n5_ := Aside0.mk (blk_below (g := gb143) (o := .cells #[.int .i64 (wrap64 (a2_0 - a0_0)), .int .i64 (wrap64 (a2_1 - a0_1))] 28 (0, 0)) (by (with_reducible repeat (first | refine blk_drewN ?_ _ | refine blk_drew ?_ | refine blk_alloc ?_ _)); refine blk_put (cs := #[.int .i64 (wrap64 (a2_0 - a0_0)), .int .i64 0]) ?_ 1 _ rfl; (with_reducible repeat (first | refine blk_drewN ?_ _ | refine blk_drew ?_ | refine blk_alloc ?_ _)); refine blk_put (cs := #[.int .i64 0, .int .i64 0]) ?_ 0 _ rfl; (with_reducible repeat (first | refine blk_drewN ?_ _ | refine blk_drew ?_ | refine blk_alloc ?_ _)); refine blk_far ?_ NB143_142.out _; (with_reducible repeat (first | refine blk_drewN ?_ _ | refine blk_drew ?_ | refine blk_alloc ?_ _)); refine blk_far ?_ NB143_142.out _; (with_reducible repeat (first | refine blk_drewN ?_ _ | refine blk_drew ?_ | refine blk_alloc ?_ _)); exact BK143.out) hb); have n6_ := Aside0.mk (below_step HBz hb); clear BK138; clear BK139; clear BK140; clear BK141; clear BK142; clear BK143; clear HB; have BK138 := n0_; have BK139 := n1_; have BK140 := n2_; have BK141 := n3_; have BK142 := n4_; have BK143 := n5_; have HB := n6_; clear n0_ n1_ n2_ n3_ n4_ n5_ n6_; (try clear hb); (try clear hb2); (try clear hk); (try clear hi); have hnb30 := NB141_138.out; have hnc30 := NB138_141.out; have hnb31 := NB141_139.out; have hnc31 := NB139_141.out; have hnb32 := NB141_140.out; have hnc32 := NB140_141.out; have hcz33_0 : w29.cell? ⟨gb141, 0, none⟩ = some (.int .i64 0) := (blk_cell BK141.out 0).trans rfl; have hcz33_1 : w29.cell? ⟨gb141, 1, none⟩ = some (.int .i64 0) := (blk_cell BK141.out 1).trans rfl; have hcz33_2 : w29.cell? ⟨gb141, 2, none⟩ = some (.int .i64 0) := (blk_cell BK141.out 2).trans rfl; have hcz33_3 : w29.cell? ⟨gb141, 3, none⟩ = some (.int .i64 0) := (blk_cell BK141.out 3).trans rfl; have hfz33_0 := blk_frozen BK141.out 0; have hfz33_1 := blk_frozen BK141.out 1; have hfz33_2 := blk_frozen BK141.out 2; have hfz33_3 := blk_frozen BK141.out 3))
  refine bodyPost_ret (results_ct rfl _ _ gb141 40 #[.int .i64 0, .int .i64 0, .int .i64 0, .int .i64 0] (0, 0) _ rfl (by (with_reducible repeat (first | refine blk_drewN ?_ _ | refine blk_drew ?_ | refine blk_alloc ?_ _)); refine blk_put (cs := #[.int .i64 0, .int .i64 0, .int .i64 0, .int .i64 0]) ?_ 3 _ rfl; (with_reducible repeat (first | refine blk_drewN ?_ _ | refine blk_drew ?_ | refine blk_alloc ?_ _)); refine blk_put (cs := #[.int .i64 0, .int .i64 0, .int .i64 0, .int .i64 0]) ?_ 2 _ rfl; (with_reducible repeat (first | refine blk_drewN ?_ _ | refine blk_drew ?_ | refine blk_alloc ?_ _)); refine blk_put (cs := #[.int .i64 0, .int .i64 0, .int .i64 0, .int .i64 0]) ?_ 1 _ rfl; (with_reducible repeat (first | refine blk_drewN ?_ _ | refine blk_drew ?_ | refine blk_alloc ?_ _)); refine blk_put (cs := #[.int .i64 0, .int .i64 0, .int .i64 0, .int .i64 0]) ?_ 0 _ rfl; (with_reducible repeat (first | refine blk_drewN ?_ _ | refine blk_drew ?_ | refine blk_alloc ?_ _)); exact BK141.out) Try.underlying40 rfl (by kernel_rfl)) rfl ?_
  exact ⟨by first | rfl | (simp [errW_none, errW_some] <;> rfl) | (simp [*, errW_none, errW_some] <;> rfl), HBz⟩
 ·rw [if_neg c5] at H
  have c5b0 : ((wrap64 (2 * t144)) == 0) = false := beq_eq_false_iff_ne.mpr c5
  have c5b1 : ((wrap64 (2 * t144)) != 0) = true := bne_iff_ne.mpr c5
  replace H := Option.bind_eq_some_iff.mp H
  obtain ⟨t145, A340, H⟩ := H
  replace H : ((cover_dot.f (wrap64 (a2_0 - a0_0)) (wrap64 (a2_1 - a0_1)) (wrap64 (a2_0 - a0_0)) (wrap64 (a2_1 - a0_1))).bind fun t146 => ((cover_dot.f (wrap64 ((wrap64 ((wrap64 (a2_1 - a0_1)) * t145)) - (wrap64 ((wrap64 (a1_1 - a0_1)) * t146)))) (wrap64 ((wrap64 ((wrap64 (a1_0 - a0_0)) * t146)) - (wrap64 ((wrap64 (a2_0 - a0_0)) * t145)))) (wrap64 ((wrap64 ((wrap64 (a2_1 - a0_1)) * t145)) - (wrap64 ((wrap64 (a1_1 - a0_1)) * t146)))) (wrap64 ((wrap64 ((wrap64 (a1_0 - a0_0)) * t146)) - (wrap64 ((wrap64 (a2_0 - a0_0)) * t145))))).bind fun t148 => ((cover_reduced.f k (wrap64 ((wrap64 (a0_0 * (wrap64 (2 * t144)))) + (wrap64 ((wrap64 ((wrap64 (a2_1 - a0_1)) * t145)) - (wrap64 ((wrap64 (a1_1 - a0_1)) * t146)))))) (wrap64 ((wrap64 (a0_1 * (wrap64 (2 * t144)))) + (wrap64 ((wrap64 ((wrap64 (a1_0 - a0_0)) * t146)) - (wrap64 ((wrap64 (a2_0 - a0_0)) * t145)))))) (wrap64 (2 * t144)) t148).bind fun bt149 => (some (bt149.1, bt149.2.1, bt149.2.2.1, bt149.2.2.2, true))))) = some (r1, r2, r3, r4, r5) := H
  have A34 := Aside0.mk A340
  clear A340
  replace H := Option.bind_eq_some_iff.mp H
  obtain ⟨t146, A350, H⟩ := H
  replace H : ((cover_dot.f (wrap64 ((wrap64 ((wrap64 (a2_1 - a0_1)) * t145)) - (wrap64 ((wrap64 (a1_1 - a0_1)) * t146)))) (wrap64 ((wrap64 ((wrap64 (a1_0 - a0_0)) * t146)) - (wrap64 ((wrap64 (a2_0 - a0_0)) * t145)))) (wrap64 ((wrap64 ((wrap64 (a2_1 - a0_1)) * t145)) - (wrap64 ((wrap64 (a1_1 - a0_1)) * t146)))) (wrap64 ((wrap64 ((wrap64 (a1_0 - a0_0)) * t146)) - (wrap64 ((wrap64 (a2_0 - a0_0)) * t145))))).bind fun t148 => ((cover_reduced.f k (wrap64 ((wrap64 (a0_0 * (wrap64 (2 * t144)))) + (wrap64 ((wrap64 ((wrap64 (a2_1 - a0_1)) * t145)) - (wrap64 ((wrap64 (a1_1 - a0_1)) * t146)))))) (wrap64 ((wrap64 (a0_1 * (wrap64 (2 * t144)))) + (wrap64 ((wrap64 ((wrap64 (a1_0 - a0_0)) * t146)) - (wrap64 ((wrap64 (a2_0 - a0_0)) * t145)))))) (wrap64 (2 * t144)) t148).bind fun bt149 => (some (bt149.1, bt149.2.1, bt149.2.2.1, bt149.2.2.2, true)))) = some (r1, r2, r3, r4, r5) := H
  have A35 := Aside0.mk A350
  clear A350
  replace H := Option.bind_eq_some_iff.mp H
  obtain ⟨t148, A360, H⟩ := H
  replace H : ((cover_reduced.f k (wrap64 ((wrap64 (a0_0 * (wrap64 (2 * t144)))) + (wrap64 ((wrap64 ((wrap64 (a2_1 - a0_1)) * t145)) - (wrap64 ((wrap64 (a1_1 - a0_1)) * t146)))))) (wrap64 ((wrap64 (a0_1 * (wrap64 (2 * t144)))) + (wrap64 ((wrap64 ((wrap64 (a1_0 - a0_0)) * t146)) - (wrap64 ((wrap64 (a2_0 - a0_0)) * t145)))))) (wrap64 (2 * t144)) t148).bind fun bt149 => (some (bt149.1, bt149.2.1, bt149.2.2.1, bt149.2.2.2, true))) = some (r1, r2, r3, r4, r5) := H
  have A36 := Aside0.mk A360
  clear A360
  replace H := Option.bind_eq_some_iff.mp H
  obtain ⟨⟨t149, t150, t151, t152⟩, A370, H⟩ := H
  replace H : (some (t149, t150, t151, t152, true)) = some (r1, r2, r3, r4, r5) := H
  have A37 := Aside0.mk A370
  clear A370
  simp only [Option.some.injEq, Prod.mk.injEq] at H
  obtain ⟨rfl, rfl, rfl, rfl, rfl⟩ := H
  go_enter Try.func82, Try.ntmps82
  try go_wp2_with (first | ((with_reducible refine gate_dst (N := 3) rfl ?_); refine bxE 3 #[.int .i64 a0_0, .int .i64 a0_1] 28 ?_; intro gb138 hg w38 hbox hb; have n0_ := Aside0.mk (below_step HBz hb); have n1_ := Aside0.mk (hbox); have n2_ := Aside0.mk ((by rw [hg]; exact (below_size HBz) : w.heap.size ≤ gb138)); have n3_ := Aside0.mk ((by rw [hg]; exact (below_size HBz) : w.heap.size ≤ gb138)); clear HB; have HB := n0_; have BK138 := n1_; have GW138 := n2_; have GE138 := n3_; clear n0_ n1_ n2_ n3_; clear hb hbox hg) | ((with_reducible refine gate_dst (N := 4) rfl ?_); refine bxE 4 #[.int .i64 a1_0, .int .i64 a1_1] 28 ?_; intro gb139 hg w39 hbox hb; have n0_ := Aside0.mk (blk_below (g := gb138) BKz hb); have n1_ := Aside0.mk (below_step HBz hb); have n2_ := Aside0.mk (hbox); have n3_ := Aside0.mk ((by rw [hg]; exact (below_size HBz) : w.heap.size ≤ gb139)); have n4_ := Aside0.mk ((by rw [hg]; exact (below_size HBz) : w.heap.size ≤ gb139)); have n5_ := Aside0.mk ((by rw [hg]; exact Nat.ne_of_lt (blk_lt (g := gb138) BKz) : gb138 ≠ gb139)); have n6_ := Aside0.mk ((by rw [hg]; exact Nat.ne_of_gt (blk_lt (g := gb138) BKz) : gb139 ≠ gb138)); clear BK138; clear HB; have BK138 := n0_; have HB := n1_; have BK139 := n2_; have GW139 := n3_; have GE139 := n4_; have NB138_139 := n5_; have NB139_138 := n6_; clear n0_ n1_ n2_ n3_ n4_ n5_ n6_; clear hb hbox hg) | ((with_reducible refine gate_dst (N := 5) rfl ?_); refine bxE 5 #[.int .i64 a2_0, .int .i64 a2_1] 28 ?_; intro gb140 hg w40 hbox hb; have n0_ := Aside0.mk (blk_below (g := gb138) BKz hb); have n1_ := Aside0.mk (blk_below (g := gb139) BKz hb); have n2_ := Aside0.mk (below_step HBz hb); have n3_ := Aside0.mk (hbox); have n4_ := Aside0.mk ((by rw [hg]; exact (below_size HBz) : w.heap.size ≤ gb140)); have n5_ := Aside0.mk ((by rw [hg]; exact (below_size HBz) : w.heap.size ≤ gb140)); have n6_ := Aside0.mk ((by rw [hg]; exact Nat.ne_of_lt (blk_lt (g := gb138) BKz) : gb138 ≠ gb140)); have n7_ := Aside0.mk ((by rw [hg]; exact Nat.ne_of_gt (blk_lt (g := gb138) BKz) : gb140 ≠ gb138)); have n8_ := Aside0.mk ((by rw [hg]; exact Nat.ne_of_lt (blk_lt (g := gb139) BKz) : gb139 ≠ gb140)); have n9_ := Aside0.mk ((by rw [hg]; exact Nat.ne_of_gt (blk_lt (g := gb139) BKz) : gb140 ≠ gb139)); clear BK138; clear BK139; clear HB; have BK138 := n0_; have BK139 := n1_; have HB := n2_; have BK140 := n3_; have GW140 := n4_; have GE140 := n5_; have NB138_140 := n6_; have NB140_138 := n7_; have NB139_140 := n8_; have NB140_139 := n9_; clear n0_ n1_ n2_ n3_ n4_ n5_ n6_ n7_ n8_ n9_; clear hb hbox hg) | ((with_reducible refine gate_dst (N := 6) rfl ?_); refine bxE 6 #[.int .i64 0, .int .i64 0, .int .i64 0, .int .i64 0] 40 ?_; intro gb141 hg w41 hbox hb; have n0_ := Aside0.mk (blk_below (g := gb138) BKz hb); have n1_ := Aside0.mk (blk_below (g := gb139) BKz hb); have n2_ := Aside0.mk (blk_below (g := gb140) BKz hb); have n3_ := Aside0.mk (below_step HBz hb); have n4_ := Aside0.mk (hbox); have n5_ := Aside0.mk ((by rw [hg]; exact (below_size HBz) : w.heap.size ≤ gb141)); have n6_ := Aside0.mk ((by rw [hg]; exact (below_size HBz) : w.heap.size ≤ gb141)); have n7_ := Aside0.mk ((by rw [hg]; exact Nat.ne_of_lt (blk_lt (g := gb138) BKz) : gb138 ≠ gb141)); have n8_ := Aside0.mk ((by rw [hg]; exact Nat.ne_of_gt (blk_lt (g := gb138) BKz) : gb141 ≠ gb138)); have n9_ := Aside0.mk ((by rw [hg]; exact Nat.ne_of_lt (blk_lt (g := gb139) BKz) : gb139 ≠ gb141)); have n10_ := Aside0.mk ((by rw [hg]; exact Nat.ne_of_gt (blk_lt (g := gb139) BKz) : gb141 ≠ gb139)); have n11_ := Aside0.mk ((by rw [hg]; exact Nat.ne_of_lt (blk_lt (g := gb140) BKz) : gb140 ≠ gb141)); have n12_ := Aside0.mk ((by rw [hg]; exact Nat.ne_of_gt (blk_lt (g := gb140) BKz) : gb141 ≠ gb140)); clear BK138; clear BK139; clear BK140; clear HB; have BK138 := n0_; have BK139 := n1_; have BK140 := n2_; have HB := n3_; have BK141 := n4_; have GW141 := n5_; have GE141 := n6_; have NB138_141 := n7_; have NB141_138 := n8_; have NB139_141 := n9_; have NB141_139 := n10_; have NB140_141 := n11_; have NB141_140 := n12_; clear n0_ n1_ n2_ n3_ n4_ n5_ n6_ n7_ n8_ n9_ n10_ n11_ n12_; clear hb hbox hg))
  have n0_ := Aside0.mk (blk_drew BK138.out)
  have n1_ := Aside0.mk (blk_drew BK139.out)
  have n2_ := Aside0.mk (blk_drew BK140.out)
  have n3_ := Aside0.mk (blk_drew BK141.out)
  have n4_ := Aside0.mk (below_drew1 HB.out)
  clear BK138
  clear BK139
  clear BK140
  clear BK141
  clear HB
  have BK138 := n0_
  have BK139 := n1_
  have BK140 := n2_
  have BK141 := n3_
  have HB := n4_
  clear n0_ n1_ n2_ n3_ n4_
  refine stz (fun w' => w'.cell? ⟨gb139, 0, none⟩ = some (.int .i64 a1_0) ∧ w'.cell? ⟨gb139, 1, none⟩ = some (.int .i64 a1_1) ∧ w'.cell? ⟨gb138, 0, none⟩ = some (.int .i64 a0_0) ∧ w'.cell? ⟨gb138, 1, none⟩ = some (.int .i64 a0_1) ∧ w'.cell? ⟨gb140, 0, none⟩ = some (.int .i64 a2_0) ∧ w'.cell? ⟨gb140, 1, none⟩ = some (.int .i64 a2_1)) [] (bn 26 0) ⟨(blk_cell BK139.out 0).trans rfl, (blk_cell BK139.out 1).trans rfl, (blk_cell BK138.out 0).trans rfl, (blk_cell BK138.out 1).trans rfl, (blk_cell BK140.out 0).trans rfl, (blk_cell BK140.out 1).trans rfl⟩ (fun hHeld => ?_); refine with_tabW cover_through.tab1 cover_through.bits1 (fun HT_ HW_ => ?_)
  generalize w41.drew = w42 at BK138 BK139 BK140 BK141 HB hHeld ⊢
  refine pT HT_.out 0 (some 14) (bn 26 1) ?_
  refine pT HT_.out 2 (some 16) (bn 26 5) ?_
  refine pT HT_.out 5 (some 19) (bn 26 37) ?_
  refine pT HT_.out 7 (some 21) (bn 26 165) ?_
  refine pT HT_.out 11 (some 25) (bn 26 2213) ?_
  refine pT HT_.out 13 (some 27) (bn 26 10405) ?_
  refine pT HT_.out 16 (some 30) (bn 26 75941) ?_
  refine pT HT_.out 18 (some 32) (bn 26 338085) ?_
  refine tT HT_.out HW_.out 1 (some 15) (bn 26 338087) hHeld ?_
  refine tT HT_.out HW_.out 3 (some 17) (bn 26 338095) hHeld ?_
  refine pT HT_.out 4 (some 18) (bn 26 338111) ?_
  refine tT HT_.out HW_.out 6 (some 20) (bn 26 338175) hHeld ?_
  refine tT HT_.out HW_.out 8 (some 22) (bn 26 338431) hHeld ?_
  refine pT HT_.out 9 (some 23) (bn 26 338943) ?_
  refine pT HT_.out 10 (some 24) (bn 26 339967) ?_
  refine tT HT_.out HW_.out 12 (some 26) (bn 26 344063) hHeld ?_
  refine tT HT_.out HW_.out 14 (some 28) (bn 26 360447) hHeld ?_
  refine pT HT_.out 15 (some 29) (bn 26 393215) ?_
  refine tT HT_.out HW_.out 17 (some 31) (bn 26 524287) hHeld ?_
  refine tT HT_.out HW_.out 19 (some 33) (bn 26 1048575) hHeld ?_
  refine pT HT_.out 20 (some 34) (bn 26 2097151) ?_
  refine pT HT_.out 21 (some 35) (bn 26 4194303) ?_
  refine join_ (σ := Nat × Nat) 2 #[true, true, true, true, true, true, true, true, true, true, true, true, true, true, true, true, true, true, true, true, true, true, true, true, false, false] (fun s_ => [(8, .pointer (some ⟨s_.1, 0, none⟩)), (9, .pointer (some ⟨s_.2, 0, none⟩))]) (fun s_ w' => (w'.cell? ⟨gb139, 0, none⟩ = some (.int .i64 a1_0) ∧ w'.cell? ⟨gb139, 1, none⟩ = some (.int .i64 a1_1) ∧ w'.cell? ⟨gb138, 0, none⟩ = some (.int .i64 a0_0) ∧ w'.cell? ⟨gb138, 1, none⟩ = some (.int .i64 a0_1) ∧ w'.cell? ⟨gb140, 0, none⟩ = some (.int .i64 a2_0) ∧ w'.cell? ⟨gb140, 1, none⟩ = some (.int .i64 a2_1)) ∧ (w'.heap[gb138]? = some (.cells #[.int .i64 a0_0, .int .i64 a0_1] 28 (0, 0))) ∧ (w'.heap[gb139]? = some (.cells #[.int .i64 a1_0, .int .i64 a1_1] 28 (0, 0))) ∧ (w'.heap[gb140]? = some (.cells #[.int .i64 a2_0, .int .i64 a2_1] 28 (0, 0))) ∧ (w'.heap[gb141]? = some (.cells #[.int .i64 0, .int .i64 0, .int .i64 0, .int .i64 0] 40 (0, 0))) ∧ (w'.heap[s_.1]? = some (.cells #[.int .i64 0, .int .i64 0] 28 (0, 0))) ∧ (w'.heap[s_.2]? = some (.cells #[.int .i64 0, .int .i64 0] 28 (0, 0))) ∧ (w.heap.size ≤ s_.1) ∧ (w.heap.size ≤ s_.1) ∧ (gb138 ≠ s_.1) ∧ (s_.1 ≠ gb138) ∧ (gb139 ≠ s_.1) ∧ (s_.1 ≠ gb139) ∧ (gb140 ≠ s_.1) ∧ (s_.1 ≠ gb140) ∧ (gb141 ≠ s_.1) ∧ (s_.1 ≠ gb141) ∧ (s_.2 ≠ s_.1) ∧ (s_.1 ≠ s_.2) ∧ (w.heap.size ≤ s_.2) ∧ (w.heap.size ≤ s_.2) ∧ (gb138 ≠ s_.2) ∧ (s_.2 ≠ gb138) ∧ (gb139 ≠ s_.2) ∧ (s_.2 ≠ gb139) ∧ (gb140 ≠ s_.2) ∧ (s_.2 ≠ gb140) ∧ (gb141 ≠ s_.2) ∧ (s_.2 ≠ gb141) ∧ (Below w.heap.size w w')) ?_ ?_
  rotate_left
  ·intro hCont
   refine two_ (i := 22) (j := 23) (Ni := some 8) (Nj := some 9) #[true, true, true, true, true, true, true, true, true, true, true, true, true, true, true, true, true, true, true, true, true, true, true, false, false, false] #[true, true, true, true, true, true, true, true, true, true, true, true, true, true, true, true, true, true, true, true, true, true, false, true, false, false] rfl rfl rfl rfl (two_of HT_.out (by kernel_rfl)) (by decide) (by decide) (fun K hK => ?_) (fun K hK => ?_)
   ·skip
    refine bxS 8 #[.int .i64 0, .int .i64 0] 28 ?_
    intro gb142 hg w43 hbox hb
    have n0_ := Aside0.mk (blk_below (g := gb138) BKz hb)
    have n1_ := Aside0.mk (blk_below (g := gb139) BKz hb)
    have n2_ := Aside0.mk (blk_below (g := gb140) BKz hb)
    have n3_ := Aside0.mk (blk_below (g := gb141) BKz hb)
    have n4_ := Aside0.mk (below_step HBz hb)
    have n5_ := Aside0.mk (hbox)
    have n6_ := Aside0.mk ((by rw [hg]; exact (below_size HBz) : w.heap.size ≤ gb142))
    have n7_ := Aside0.mk ((by rw [hg]; exact (below_size HBz) : w.heap.size ≤ gb142))
    have n8_ := Aside0.mk ((by rw [hg]; exact Nat.ne_of_lt (blk_lt (g := gb138) BKz) : gb138 ≠ gb142))
    have n9_ := Aside0.mk ((by rw [hg]; exact Nat.ne_of_gt (blk_lt (g := gb138) BKz) : gb142 ≠ gb138))
    have n10_ := Aside0.mk ((by rw [hg]; exact Nat.ne_of_lt (blk_lt (g := gb139) BKz) : gb139 ≠ gb142))
    have n11_ := Aside0.mk ((by rw [hg]; exact Nat.ne_of_gt (blk_lt (g := gb139) BKz) : gb142 ≠ gb139))
    have n12_ := Aside0.mk ((by rw [hg]; exact Nat.ne_of_lt (blk_lt (g := gb140) BKz) : gb140 ≠ gb142))
    have n13_ := Aside0.mk ((by rw [hg]; exact Nat.ne_of_gt (blk_lt (g := gb140) BKz) : gb142 ≠ gb140))
    have n14_ := Aside0.mk ((by rw [hg]; exact Nat.ne_of_lt (blk_lt (g := gb141) BKz) : gb141 ≠ gb142))
    have n15_ := Aside0.mk ((by rw [hg]; exact Nat.ne_of_gt (blk_lt (g := gb141) BKz) : gb142 ≠ gb141))
    clear BK138
    clear BK139
    clear BK140
    clear BK141
    clear HB
    have BK138 := n0_
    have BK139 := n1_
    have BK140 := n2_
    have BK141 := n3_
    have HB := n4_
    have BK142 := n5_
    have GW142 := n6_
    have GE142 := n7_
    have NB138_142 := n8_
    have NB142_138 := n9_
    have NB139_142 := n10_
    have NB142_139 := n11_
    have NB140_142 := n12_
    have NB142_140 := n13_
    have NB141_142 := n14_
    have NB142_141 := n15_
    clear n0_ n1_ n2_ n3_ n4_ n5_ n6_ n7_ n8_ n9_ n10_ n11_ n12_ n13_ n14_ n15_
    clear hb hbox hg
    refine hK.out _ _ ⟨(blk_cell BK139.out 0).trans rfl, (blk_cell BK139.out 1).trans rfl, (blk_cell BK138.out 0).trans rfl, (blk_cell BK138.out 1).trans rfl, (blk_cell BK140.out 0).trans rfl, (blk_cell BK140.out 1).trans rfl⟩ (fun hHeld => ?_)
    clear hK K
    refine nz (some 8) ?_
    refine oT HT_.out 23 (some 9) (bn 26 16777215) (fun K hK => ?_)
    refine bxS 9 #[.int .i64 0, .int .i64 0] 28 ?_
    intro gb143 hg w44 hbox hb
    have n0_ := Aside0.mk (blk_below (g := gb138) BKz hb)
    have n1_ := Aside0.mk (blk_below (g := gb139) BKz hb)
    have n2_ := Aside0.mk (blk_below (g := gb140) BKz hb)
    have n3_ := Aside0.mk (blk_below (g := gb141) BKz hb)
    have n4_ := Aside0.mk (blk_below (g := gb142) BKz hb)
    have n5_ := Aside0.mk (below_step HBz hb)
    have n6_ := Aside0.mk (hbox)
    have n7_ := Aside0.mk ((by rw [hg]; exact (below_size HBz) : w.heap.size ≤ gb143))
    have n8_ := Aside0.mk ((by rw [hg]; exact (below_size HBz) : w.heap.size ≤ gb143))
    have n9_ := Aside0.mk ((by rw [hg]; exact Nat.ne_of_lt (blk_lt (g := gb138) BKz) : gb138 ≠ gb143))
    have n10_ := Aside0.mk ((by rw [hg]; exact Nat.ne_of_gt (blk_lt (g := gb138) BKz) : gb143 ≠ gb138))
    have n11_ := Aside0.mk ((by rw [hg]; exact Nat.ne_of_lt (blk_lt (g := gb139) BKz) : gb139 ≠ gb143))
    have n12_ := Aside0.mk ((by rw [hg]; exact Nat.ne_of_gt (blk_lt (g := gb139) BKz) : gb143 ≠ gb139))
    have n13_ := Aside0.mk ((by rw [hg]; exact Nat.ne_of_lt (blk_lt (g := gb140) BKz) : gb140 ≠ gb143))
    have n14_ := Aside0.mk ((by rw [hg]; exact Nat.ne_of_gt (blk_lt (g := gb140) BKz) : gb143 ≠ gb140))
    have n15_ := Aside0.mk ((by rw [hg]; exact Nat.ne_of_lt (blk_lt (g := gb141) BKz) : gb141 ≠ gb143))
    have n16_ := Aside0.mk ((by rw [hg]; exact Nat.ne_of_gt (blk_lt (g := gb141) BKz) : gb143 ≠ gb141))
    have n17_ := Aside0.mk ((by rw [hg]; exact Nat.ne_of_lt (blk_lt (g := gb142) BKz) : gb142 ≠ gb143))
    have n18_ := Aside0.mk ((by rw [hg]; exact Nat.ne_of_gt (blk_lt (g := gb142) BKz) : gb143 ≠ gb142))
    clear BK138
    clear BK139
    clear BK140
    clear BK141
    clear BK142
    clear HB
    have BK138 := n0_
    have BK139 := n1_
    have BK140 := n2_
    have BK141 := n3_
    have BK142 := n4_
    have HB := n5_
    have BK143 := n6_
    have GW143 := n7_
    have GE143 := n8_
    have NB138_143 := n9_
    have NB143_138 := n10_
    have NB139_143 := n11_
    have NB143_139 := n12_
    have NB140_143 := n13_
    have NB143_140 := n14_
    have NB141_143 := n15_
    have NB143_141 := n16_
    have NB142_143 := n17_
    have NB143_142 := n18_
    clear n0_ n1_ n2_ n3_ n4_ n5_ n6_ n7_ n8_ n9_ n10_ n11_ n12_ n13_ n14_ n15_ n16_ n17_ n18_
    clear hb hbox hg
    refine hK.out _ _ ⟨(blk_cell BK139.out 0).trans rfl, (blk_cell BK139.out 1).trans rfl, (blk_cell BK138.out 0).trans rfl, (blk_cell BK138.out 1).trans rfl, (blk_cell BK140.out 0).trans rfl, (blk_cell BK140.out 1).trans rfl⟩ (fun hHeld => ?_)
    clear hK K
    refine nz (some 9) ?_
    exact norm_ (by simp only [putAll, Act.put, List.setIfInBounds_toArray, List.set_cons_zero, List.set_cons_succ]) (hCont (gb142, gb143) _ ⟨hHeld, BKz, BKz, BKz, BKz, BKz, BKz, GW142.out, GE142.out, NB138_142.out, NB142_138.out, NB139_142.out, NB142_139.out, NB140_142.out, NB142_140.out, NB141_142.out, NB142_141.out, NB143_142.out, NB142_143.out, GW143.out, GE143.out, NB138_143.out, NB143_138.out, NB139_143.out, NB143_139.out, NB140_143.out, NB143_140.out, NB141_143.out, NB143_141.out, HBz⟩)
   ·skip
    refine bxS 9 #[.int .i64 0, .int .i64 0] 28 ?_
    intro gb143 hg w43 hbox hb
    have n0_ := Aside0.mk (blk_below (g := gb138) BKz hb)
    have n1_ := Aside0.mk (blk_below (g := gb139) BKz hb)
    have n2_ := Aside0.mk (blk_below (g := gb140) BKz hb)
    have n3_ := Aside0.mk (blk_below (g := gb141) BKz hb)
    have n4_ := Aside0.mk (below_step HBz hb)
    have n5_ := Aside0.mk (hbox)
    have n6_ := Aside0.mk ((by rw [hg]; exact (below_size HBz) : w.heap.size ≤ gb143))
    have n7_ := Aside0.mk ((by rw [hg]; exact (below_size HBz) : w.heap.size ≤ gb143))
    have n8_ := Aside0.mk ((by rw [hg]; exact Nat.ne_of_lt (blk_lt (g := gb138) BKz) : gb138 ≠ gb143))
    have n9_ := Aside0.mk ((by rw [hg]; exact Nat.ne_of_gt (blk_lt (g := gb138) BKz) : gb143 ≠ gb138))
    have n10_ := Aside0.mk ((by rw [hg]; exact Nat.ne_of_lt (blk_lt (g := gb139) BKz) : gb139 ≠ gb143))
    have n11_ := Aside0.mk ((by rw [hg]; exact Nat.ne_of_gt (blk_lt (g := gb139) BKz) : gb143 ≠ gb139))
    have n12_ := Aside0.mk ((by rw [hg]; exact Nat.ne_of_lt (blk_lt (g := gb140) BKz) : gb140 ≠ gb143))
    have n13_ := Aside0.mk ((by rw [hg]; exact Nat.ne_of_gt (blk_lt (g := gb140) BKz) : gb143 ≠ gb140))
    have n14_ := Aside0.mk ((by rw [hg]; exact Nat.ne_of_lt (blk_lt (g := gb141) BKz) : gb141 ≠ gb143))
    have n15_ := Aside0.mk ((by rw [hg]; exact Nat.ne_of_gt (blk_lt (g := gb141) BKz) : gb143 ≠ gb141))
    clear BK138
    clear BK139
    clear BK140
    clear BK141
    clear HB
    have BK138 := n0_
    have BK139 := n1_
    have BK140 := n2_
    have BK141 := n3_
    have HB := n4_
    have BK143 := n5_
    have GW143 := n6_
    have GE143 := n7_
    have NB138_143 := n8_
    have NB143_138 := n9_
    have NB139_143 := n10_
    have NB143_139 := n11_
    have NB140_143 := n12_
    have NB143_140 := n13_
    have NB141_143 := n14_
    have NB143_141 := n15_
    clear n0_ n1_ n2_ n3_ n4_ n5_ n6_ n7_ n8_ n9_ n10_ n11_ n12_ n13_ n14_ n15_
    clear hb hbox hg
    refine hK.out _ _ ⟨(blk_cell BK139.out 0).trans rfl, (blk_cell BK139.out 1).trans rfl, (blk_cell BK138.out 0).trans rfl, (blk_cell BK138.out 1).trans rfl, (blk_cell BK140.out 0).trans rfl, (blk_cell BK140.out 1).trans rfl⟩ (fun hHeld => ?_)
    clear hK K
    refine nz (some 9) ?_
    refine oT HT_.out 22 (some 8) (bn 26 16777215) (fun K hK => ?_)
    refine bxS 8 #[.int .i64 0, .int .i64 0] 28 ?_
    intro gb142 hg w44 hbox hb
    have n0_ := Aside0.mk (blk_below (g := gb138) BKz hb)
    have n1_ := Aside0.mk (blk_below (g := gb139) BKz hb)
    have n2_ := Aside0.mk (blk_below (g := gb140) BKz hb)
    have n3_ := Aside0.mk (blk_below (g := gb141) BKz hb)
    have n4_ := Aside0.mk (blk_below (g := gb143) BKz hb)
    have n5_ := Aside0.mk (below_step HBz hb)
    have n6_ := Aside0.mk (hbox)
    have n7_ := Aside0.mk ((by rw [hg]; exact (below_size HBz) : w.heap.size ≤ gb142))
    have n8_ := Aside0.mk ((by rw [hg]; exact (below_size HBz) : w.heap.size ≤ gb142))
    have n9_ := Aside0.mk ((by rw [hg]; exact Nat.ne_of_lt (blk_lt (g := gb138) BKz) : gb138 ≠ gb142))
    have n10_ := Aside0.mk ((by rw [hg]; exact Nat.ne_of_gt (blk_lt (g := gb138) BKz) : gb142 ≠ gb138))
    have n11_ := Aside0.mk ((by rw [hg]; exact Nat.ne_of_lt (blk_lt (g := gb139) BKz) : gb139 ≠ gb142))
    have n12_ := Aside0.mk ((by rw [hg]; exact Nat.ne_of_gt (blk_lt (g := gb139) BKz) : gb142 ≠ gb139))
    have n13_ := Aside0.mk ((by rw [hg]; exact Nat.ne_of_lt (blk_lt (g := gb140) BKz) : gb140 ≠ gb142))
    have n14_ := Aside0.mk ((by rw [hg]; exact Nat.ne_of_gt (blk_lt (g := gb140) BKz) : gb142 ≠ gb140))
    have n15_ := Aside0.mk ((by rw [hg]; exact Nat.ne_of_lt (blk_lt (g := gb141) BKz) : gb141 ≠ gb142))
    have n16_ := Aside0.mk ((by rw [hg]; exact Nat.ne_of_gt (blk_lt (g := gb141) BKz) : gb142 ≠ gb141))
    have n17_ := Aside0.mk ((by rw [hg]; exact Nat.ne_of_lt (blk_lt (g := gb143) BKz) : gb143 ≠ gb142))
    have n18_ := Aside0.mk ((by rw [hg]; exact Nat.ne_of_gt (blk_lt (g := gb143) BKz) : gb142 ≠ gb143))
    clear BK138
    clear BK139
    clear BK140
    clear BK141
    clear BK143
    clear HB
    have BK138 := n0_
    have BK139 := n1_
    have BK140 := n2_
    have BK141 := n3_
    have BK143 := n4_
    have HB := n5_
    have BK142 := n6_
    have GW142 := n7_
    have GE142 := n8_
    have NB138_142 := n9_
    have NB142_138 := n10_
    have NB139_142 := n11_
    have NB142_139 := n12_
    have NB140_142 := n13_
    have NB142_140 := n14_
    have NB141_142 := n15_
    have NB142_141 := n16_
    have NB143_142 := n17_
    have NB142_143 := n18_
    clear n0_ n1_ n2_ n3_ n4_ n5_ n6_ n7_ n8_ n9_ n10_ n11_ n12_ n13_ n14_ n15_ n16_ n17_ n18_
    clear hb hbox hg
    refine hK.out _ _ ⟨(blk_cell BK139.out 0).trans rfl, (blk_cell BK139.out 1).trans rfl, (blk_cell BK138.out 0).trans rfl, (blk_cell BK138.out 1).trans rfl, (blk_cell BK140.out 0).trans rfl, (blk_cell BK140.out 1).trans rfl⟩ (fun hHeld => ?_)
    clear hK K
    refine nz (some 8) ?_
    exact norm_ (by simp only [putAll, Act.put, List.setIfInBounds_toArray, List.set_cons_zero, List.set_cons_succ]) (hCont (gb142, gb143) _ ⟨hHeld, BKz, BKz, BKz, BKz, BKz, BKz, GW142.out, GE142.out, NB138_142.out, NB142_138.out, NB139_142.out, NB142_139.out, NB140_142.out, NB142_140.out, NB141_142.out, NB142_141.out, NB143_142.out, NB142_143.out, GW143.out, GE143.out, NB138_143.out, NB143_138.out, NB139_143.out, NB143_139.out, NB140_143.out, NB143_140.out, NB141_143.out, NB143_141.out, HBz⟩)
  rintro ⟨gb142, gb143⟩ w45 ⟨hS_, h0_, h1_, h2_, h3_, h4_, h5_, h6_, h7_, h8_, h9_, h10_, h11_, h12_, h13_, h14_, h15_, h16_, h17_, h18_, h19_, h20_, h21_, h22_, h23_, h24_, h25_, h26_, h27_, h28_⟩
  have n0_ : Aside0 (w45.heap[gb138]? = some (.cells #[.int .i64 a0_0, .int .i64 a0_1] 28 (0, 0))) := ⟨h0_⟩
  have n1_ : Aside0 (w45.heap[gb139]? = some (.cells #[.int .i64 a1_0, .int .i64 a1_1] 28 (0, 0))) := ⟨h1_⟩
  have n2_ : Aside0 (w45.heap[gb140]? = some (.cells #[.int .i64 a2_0, .int .i64 a2_1] 28 (0, 0))) := ⟨h2_⟩
  have n3_ : Aside0 (w45.heap[gb141]? = some (.cells #[.int .i64 0, .int .i64 0, .int .i64 0, .int .i64 0] 40 (0, 0))) := ⟨h3_⟩
  have n4_ : Aside0 (w45.heap[gb142]? = some (.cells #[.int .i64 0, .int .i64 0] 28 (0, 0))) := ⟨h4_⟩
  have n5_ : Aside0 (w45.heap[gb143]? = some (.cells #[.int .i64 0, .int .i64 0] 28 (0, 0))) := ⟨h5_⟩
  have n6_ : Aside0 (w.heap.size ≤ gb142) := ⟨h6_⟩
  have n7_ : Aside0 (w.heap.size ≤ gb142) := ⟨h7_⟩
  have n8_ : Aside0 (gb138 ≠ gb142) := ⟨h8_⟩
  have n9_ : Aside0 (gb142 ≠ gb138) := ⟨h9_⟩
  have n10_ : Aside0 (gb139 ≠ gb142) := ⟨h10_⟩
  have n11_ : Aside0 (gb142 ≠ gb139) := ⟨h11_⟩
  have n12_ : Aside0 (gb140 ≠ gb142) := ⟨h12_⟩
  have n13_ : Aside0 (gb142 ≠ gb140) := ⟨h13_⟩
  have n14_ : Aside0 (gb141 ≠ gb142) := ⟨h14_⟩
  have n15_ : Aside0 (gb142 ≠ gb141) := ⟨h15_⟩
  have n16_ : Aside0 (gb143 ≠ gb142) := ⟨h16_⟩
  have n17_ : Aside0 (gb142 ≠ gb143) := ⟨h17_⟩
  have n18_ : Aside0 (w.heap.size ≤ gb143) := ⟨h18_⟩
  have n19_ : Aside0 (w.heap.size ≤ gb143) := ⟨h19_⟩
  have n20_ : Aside0 (gb138 ≠ gb143) := ⟨h20_⟩
  have n21_ : Aside0 (gb143 ≠ gb138) := ⟨h21_⟩
  have n22_ : Aside0 (gb139 ≠ gb143) := ⟨h22_⟩
  have n23_ : Aside0 (gb143 ≠ gb139) := ⟨h23_⟩
  have n24_ : Aside0 (gb140 ≠ gb143) := ⟨h24_⟩
  have n25_ : Aside0 (gb143 ≠ gb140) := ⟨h25_⟩
  have n26_ : Aside0 (gb141 ≠ gb143) := ⟨h26_⟩
  have n27_ : Aside0 (gb143 ≠ gb141) := ⟨h27_⟩
  have n28_ : Aside0 (Below w.heap.size w w45) := ⟨h28_⟩
  clear BK138
  clear BK139
  clear BK140
  clear BK141
  clear HB
  clear h0_ h1_ h2_ h3_ h4_ h5_ h6_ h7_ h8_ h9_ h10_ h11_ h12_ h13_ h14_ h15_ h16_ h17_ h18_ h19_ h20_ h21_ h22_ h23_ h24_ h25_ h26_ h27_ h28_
  have BK138 := n0_
  have BK139 := n1_
  have BK140 := n2_
  have BK141 := n3_
  have BK142 := n4_
  have BK143 := n5_
  have GW142 := n6_
  have GE142 := n7_
  have NB138_142 := n8_
  have NB142_138 := n9_
  have NB139_142 := n10_
  have NB142_139 := n11_
  have NB140_142 := n12_
  have NB142_140 := n13_
  have NB141_142 := n14_
  have NB142_141 := n15_
  have NB143_142 := n16_
  have NB142_143 := n17_
  have GW143 := n18_
  have GE143 := n19_
  have NB138_143 := n20_
  have NB143_138 := n21_
  have NB139_143 := n22_
  have NB143_139 := n23_
  have NB140_143 := n24_
  have NB143_140 := n25_
  have NB141_143 := n26_
  have NB143_141 := n27_
  have HB := n28_
  clear n0_ n1_ n2_ n3_ n4_ n5_ n6_ n7_ n8_ n9_ n10_ n11_ n12_ n13_ n14_ n15_ n16_ n17_ n18_ n19_ n20_ n21_ n22_ n23_ n24_ n25_ n26_ n27_ n28_
  have hHeld : w45.cell? ⟨gb139, 0, none⟩ = some (.int .i64 a1_0) ∧ w45.cell? ⟨gb139, 1, none⟩ = some (.int .i64 a1_1) ∧ w45.cell? ⟨gb138, 0, none⟩ = some (.int .i64 a0_0) ∧ w45.cell? ⟨gb138, 1, none⟩ = some (.int .i64 a0_1) ∧ w45.cell? ⟨gb140, 0, none⟩ = some (.int .i64 a2_0) ∧ w45.cell? ⟨gb140, 1, none⟩ = some (.int .i64 a2_1) := hS_
  refine norm_ (a' := ?_) ?_ ?_
  rotate_left
  ·simp only [putAll, Act.put, List.setIfInBounds_toArray, List.set_cons_zero, List.set_cons_succ]
   rfl
  refine oT HT_.out 24 none (bn 26 33554431) (fun K hK => ?_)
  have hs46 : w45.cell? ⟨gb142, 0, none⟩ = some (.int .i64 0) := (blk_cell BK142.out 0).trans rfl
  have hfs46 := blk_frozen BK142.out 0
  have hns46_0 := NB138_142.out
  have hns46_1 := NB139_142.out
  have hns46_2 := NB140_142.out
  have hns46_3 := NB141_142.out
  have hns46_5 := NB143_142.out
  have hms46_0 := NB142_138.out
  have hms46_1 := NB142_139.out
  have hms46_2 := NB142_140.out
  have hms46_3 := NB142_141.out
  have hms46_5 := NB142_143.out
  have hs47 : w45.cell? ⟨gb142, 1, none⟩ = some (.int .i64 0) := (blk_cell BK142.out 1).trans rfl
  have hfs47 := blk_frozen BK142.out 1
  have hns47_0 := NB138_142.out
  have hns47_1 := NB139_142.out
  have hns47_2 := NB140_142.out
  have hns47_3 := NB141_142.out
  have hns47_5 := NB143_142.out
  have hms47_0 := NB142_138.out
  have hms47_1 := NB142_139.out
  have hms47_2 := NB142_140.out
  have hms47_3 := NB142_141.out
  have hms47_5 := NB142_143.out
  refine sz ?_
  refine hK.out _ _ ⟨((cell_far (p := ⟨gb142, _, none⟩) NB139_142.out _).trans (((cell_far (p := ⟨gb142, _, none⟩) NB139_142.out _).trans (hHeld.1)))), ((cell_far (p := ⟨gb142, _, none⟩) NB139_142.out _).trans (((cell_far (p := ⟨gb142, _, none⟩) NB139_142.out _).trans (hHeld.2.1)))), ((cell_far (p := ⟨gb142, _, none⟩) NB138_142.out _).trans (((cell_far (p := ⟨gb142, _, none⟩) NB138_142.out _).trans (hHeld.2.2.1)))), ((cell_far (p := ⟨gb142, _, none⟩) NB138_142.out _).trans (((cell_far (p := ⟨gb142, _, none⟩) NB138_142.out _).trans (hHeld.2.2.2.1)))), ((cell_far (p := ⟨gb142, _, none⟩) NB140_142.out _).trans (((cell_far (p := ⟨gb142, _, none⟩) NB140_142.out _).trans (hHeld.2.2.2.2.1)))), ((cell_far (p := ⟨gb142, _, none⟩) NB140_142.out _).trans (((cell_far (p := ⟨gb142, _, none⟩) NB140_142.out _).trans (hHeld.2.2.2.2.2))))⟩ (fun hHeld => ?_)
  clear hK K
  refine oT HT_.out 25 none (bn 26 67108863) (fun K hK => ?_)
  have hs48 : w45.cell? ⟨gb143, 0, none⟩ = some (.int .i64 0) := (blk_cell BK143.out 0).trans rfl
  have hfs48 := blk_frozen BK143.out 0
  have hns48_0 := NB138_143.out
  have hns48_1 := NB139_143.out
  have hns48_2 := NB140_143.out
  have hns48_3 := NB141_143.out
  have hns48_4 := NB142_143.out
  have hms48_0 := NB143_138.out
  have hms48_1 := NB143_139.out
  have hms48_2 := NB143_140.out
  have hms48_3 := NB143_141.out
  have hms48_4 := NB143_142.out
  have hs49 : w45.cell? ⟨gb143, 1, none⟩ = some (.int .i64 0) := (blk_cell BK143.out 1).trans rfl
  have hfs49 := blk_frozen BK143.out 1
  have hns49_0 := NB138_143.out
  have hns49_1 := NB139_143.out
  have hns49_2 := NB140_143.out
  have hns49_3 := NB141_143.out
  have hns49_4 := NB142_143.out
  have hms49_0 := NB143_138.out
  have hms49_1 := NB143_139.out
  have hms49_2 := NB143_140.out
  have hms49_3 := NB143_141.out
  have hms49_4 := NB143_142.out
  refine sz ?_
  refine hK.out _ _ ⟨((cell_far (p := ⟨gb143, _, none⟩) NB139_143.out _).trans (((cell_far (p := ⟨gb143, _, none⟩) NB139_143.out _).trans (hHeld.1)))), ((cell_far (p := ⟨gb143, _, none⟩) NB139_143.out _).trans (((cell_far (p := ⟨gb143, _, none⟩) NB139_143.out _).trans (hHeld.2.1)))), ((cell_far (p := ⟨gb143, _, none⟩) NB138_143.out _).trans (((cell_far (p := ⟨gb143, _, none⟩) NB138_143.out _).trans (hHeld.2.2.1)))), ((cell_far (p := ⟨gb143, _, none⟩) NB138_143.out _).trans (((cell_far (p := ⟨gb143, _, none⟩) NB138_143.out _).trans (hHeld.2.2.2.1)))), ((cell_far (p := ⟨gb143, _, none⟩) NB140_143.out _).trans (((cell_far (p := ⟨gb143, _, none⟩) NB140_143.out _).trans (hHeld.2.2.2.2.1)))), ((cell_far (p := ⟨gb143, _, none⟩) NB140_143.out _).trans (((cell_far (p := ⟨gb143, _, none⟩) NB140_143.out _).trans (hHeld.2.2.2.2.2))))⟩ (fun hHeld => ?_)
  clear hK K
  refine done_ (done_of HT_.out (by kernel_rfl)) ?_
  have hnb50 := NB142_138.out
  have hnc50 := NB138_142.out
  have hnb51 := NB142_139.out
  have hnc51 := NB139_142.out
  have hnb52 := NB142_140.out
  have hnc52 := NB140_142.out
  have hnb53 := NB142_141.out
  have hnc53 := NB141_142.out
  have hnb54 := NB142_143.out
  have hnc54 := NB143_142.out
  have hcz55_0 : w45.cell? ⟨gb142, 0, none⟩ = some (.int .i64 0) := (blk_cell BK142.out 0).trans rfl
  have hcz55_1 : w45.cell? ⟨gb142, 1, none⟩ = some (.int .i64 0) := (blk_cell BK142.out 1).trans rfl
  have hfz55_0 := blk_frozen BK142.out 0
  have hfz55_1 := blk_frozen BK142.out 1
  have hnb56 := NB143_138.out
  have hnc56 := NB138_143.out
  have hnb57 := NB143_139.out
  have hnc57 := NB139_143.out
  have hnb58 := NB143_140.out
  have hnc58 := NB140_143.out
  have hnb59 := NB143_141.out
  have hnc59 := NB141_143.out
  have hcz60_0 : w45.cell? ⟨gb143, 0, none⟩ = some (.int .i64 0) := (blk_cell BK143.out 0).trans rfl
  have hcz60_1 : w45.cell? ⟨gb143, 1, none⟩ = some (.int .i64 0) := (blk_cell BK143.out 1).trans rfl
  have hfz60_0 := blk_frozen BK143.out 0
  have hfz60_1 := blk_frozen BK143.out 1
  try go_wp2_with (first | ((with_reducible refine gate_callee (f := 88) rfl ?_); refine goesL_ (some 38) rfl rfl Try.func88 (by kernel_rfl) rfl #[.agg #[.int .i64 (wrap64 (a1_0 - a0_0)), .int .i64 (wrap64 (a1_1 - a0_1))], .agg #[.int .i64 (wrap64 (a2_0 - a0_0)), .int .i64 (wrap64 (a2_1 - a0_1))]] rfl (by (try simp only [List.map_toArray, List.map_cons, List.map_nil]); first | done | rfl | (simp only [List.length_drop, List.length_take]; rfl)) ?_; (with_reducible refine (cover_cross.calls (wrap64 (a1_0 - a0_0)) (wrap64 (a1_1 - a0_1)) (wrap64 (a2_0 - a0_0)) (wrap64 (a2_1 - a0_1)) t144 _ A4.out).mono ?_); rintro e w61 ⟨rfl, hb⟩; refine ⟨_, rfl, ?_⟩; have n0_ := Aside0.mk (blk_below (g := gb138) (o := .cells #[.int .i64 a0_0, .int .i64 a0_1] 28 (0, 0)) (by (with_reducible repeat (first | refine blk_drewN ?_ _ | refine blk_drew ?_ | refine blk_alloc ?_ _)); refine blk_far ?_ NB138_143.out _; (with_reducible repeat (first | refine blk_drewN ?_ _ | refine blk_drew ?_ | refine blk_alloc ?_ _)); refine blk_far ?_ NB138_143.out _; (with_reducible repeat (first | refine blk_drewN ?_ _ | refine blk_drew ?_ | refine blk_alloc ?_ _)); refine blk_far ?_ NB138_142.out _; (with_reducible repeat (first | refine blk_drewN ?_ _ | refine blk_drew ?_ | refine blk_alloc ?_ _)); refine blk_far ?_ NB138_142.out _; (with_reducible repeat (first | refine blk_drewN ?_ _ | refine blk_drew ?_ | refine blk_alloc ?_ _)); exact BK138.out) hb); have n1_ := Aside0.mk (blk_below (g := gb139) (o := .cells #[.int .i64 a1_0, .int .i64 a1_1] 28 (0, 0)) (by (with_reducible repeat (first | refine blk_drewN ?_ _ | refine blk_drew ?_ | refine blk_alloc ?_ _)); refine blk_far ?_ NB139_143.out _; (with_reducible repeat (first | refine blk_drewN ?_ _ | refine blk_drew ?_ | refine blk_alloc ?_ _)); refine blk_far ?_ NB139_143.out _; (with_reducible repeat (first | refine blk_drewN ?_ _ | refine blk_drew ?_ | refine blk_alloc ?_ _)); refine blk_far ?_ NB139_142.out _; (with_reducible repeat (first | refine blk_drewN ?_ _ | refine blk_drew ?_ | refine blk_alloc ?_ _)); refine blk_far ?_ NB139_142.out _; (with_reducible repeat (first | refine blk_drewN ?_ _ | refine blk_drew ?_ | refine blk_alloc ?_ _)); exact BK139.out) hb); have n2_ := Aside0.mk (blk_below (g := gb140) (o := .cells #[.int .i64 a2_0, .int .i64 a2_1] 28 (0, 0)) (by (with_reducible repeat (first | refine blk_drewN ?_ _ | refine blk_drew ?_ | refine blk_alloc ?_ _)); refine blk_far ?_ NB140_143.out _; (with_reducible repeat (first | refine blk_drewN ?_ _ | refine blk_drew ?_ | refine blk_alloc ?_ _)); refine blk_far ?_ NB140_143.out _; (with_reducible repeat (first | refine blk_drewN ?_ _ | refine blk_drew ?_ | refine blk_alloc ?_ _)); refine blk_far ?_ NB140_142.out _; (with_reducible repeat (first | refine blk_drewN ?_ _ | refine blk_drew ?_ | refine blk_alloc ?_ _)); refine blk_far ?_ NB140_142.out _; (with_reducible repeat (first | refine blk_drewN ?_ _ | refine blk_drew ?_ | refine blk_alloc ?_ _)); exact BK140.out) hb); have n3_ := Aside0.mk (blk_below (g := gb141) (o := .cells #[.int .i64 0, .int .i64 0, .int .i64 0, .int .i64 0] 40 (0, 0)) (by (with_reducible repeat (first | refine blk_drewN ?_ _ | refine blk_drew ?_ | refine blk_alloc ?_ _)); refine blk_far ?_ NB141_143.out _; (with_reducible repeat (first | refine blk_drewN ?_ _ | refine blk_drew ?_ | refine blk_alloc ?_ _)); refine blk_far ?_ NB141_143.out _; (with_reducible repeat (first | refine blk_drewN ?_ _ | refine blk_drew ?_ | refine blk_alloc ?_ _)); refine blk_far ?_ NB141_142.out _; (with_reducible repeat (first | refine blk_drewN ?_ _ | refine blk_drew ?_ | refine blk_alloc ?_ _)); refine blk_far ?_ NB141_142.out _; (with_reducible repeat (first | refine blk_drewN ?_ _ | refine blk_drew ?_ | refine blk_alloc ?_ _)); exact BK141.out) hb); have n4_ := Aside0.mk (blk_below (g := gb142) (o := .cells #[.int .i64 (wrap64 (a1_0 - a0_0)), .int .i64 (wrap64 (a1_1 - a0_1))] 28 (0, 0)) (by (with_reducible repeat (first | refine blk_drewN ?_ _ | refine blk_drew ?_ | refine blk_alloc ?_ _)); refine blk_far ?_ NB142_143.out _; (with_reducible repeat (first | refine blk_drewN ?_ _ | refine blk_drew ?_ | refine blk_alloc ?_ _)); refine blk_far ?_ NB142_143.out _; (with_reducible repeat (first | refine blk_drewN ?_ _ | refine blk_drew ?_ | refine blk_alloc ?_ _)); refine blk_put (cs := #[.int .i64 (wrap64 (a1_0 - a0_0)), .int .i64 0]) ?_ 1 _ rfl; (with_reducible repeat (first | refine blk_drewN ?_ _ | refine blk_drew ?_ | refine blk_alloc ?_ _)); refine blk_put (cs := #[.int .i64 0, .int .i64 0]) ?_ 0 _ rfl; (with_reducible repeat (first | refine blk_drewN ?_ _ | refine blk_drew ?_ | refine blk_alloc ?_ _)); exact BK142.out) hb); have n5_ := Aside0.mk (blk_below (g := gb143) (o := .cells #[.int .i64 (wrap64 (a2_0 - a0_0)), .int .i64 (wrap64 (a2_1 - a0_1))] 28 (0, 0)) (by (with_reducible repeat (first | refine blk_drewN ?_ _ | refine blk_drew ?_ | refine blk_alloc ?_ _)); refine blk_put (cs := #[.int .i64 (wrap64 (a2_0 - a0_0)), .int .i64 0]) ?_ 1 _ rfl; (with_reducible repeat (first | refine blk_drewN ?_ _ | refine blk_drew ?_ | refine blk_alloc ?_ _)); refine blk_put (cs := #[.int .i64 0, .int .i64 0]) ?_ 0 _ rfl; (with_reducible repeat (first | refine blk_drewN ?_ _ | refine blk_drew ?_ | refine blk_alloc ?_ _)); refine blk_far ?_ NB143_142.out _; (with_reducible repeat (first | refine blk_drewN ?_ _ | refine blk_drew ?_ | refine blk_alloc ?_ _)); refine blk_far ?_ NB143_142.out _; (with_reducible repeat (first | refine blk_drewN ?_ _ | refine blk_drew ?_ | refine blk_alloc ?_ _)); exact BK143.out) hb); have n6_ := Aside0.mk (below_step HBz hb); clear BK138; clear BK139; clear BK140; clear BK141; clear BK142; clear BK143; clear HB; have BK138 := n0_; have BK139 := n1_; have BK140 := n2_; have BK141 := n3_; have BK142 := n4_; have BK143 := n5_; have HB := n6_; clear n0_ n1_ n2_ n3_ n4_ n5_ n6_; (try clear hb); (try clear hb2); (try clear hk); (try clear hi)))
  have n0_ := Aside0.mk (blk_drew BK138.out)
  have n1_ := Aside0.mk (blk_drew BK139.out)
  have n2_ := Aside0.mk (blk_drew BK140.out)
  have n3_ := Aside0.mk (blk_drew BK141.out)
  have n4_ := Aside0.mk (blk_drew BK142.out)
  have n5_ := Aside0.mk (blk_drew BK143.out)
  have n6_ := Aside0.mk (below_drew1 HB.out)
  clear BK138
  clear BK139
  clear BK140
  clear BK141
  clear BK142
  clear BK143
  clear HB
  have BK138 := n0_
  have BK139 := n1_
  have BK140 := n2_
  have BK141 := n3_
  have BK142 := n4_
  have BK143 := n5_
  have HB := n6_
  clear n0_ n1_ n2_ n3_ n4_ n5_ n6_
  refine stz (fun w' => w'.cell? ⟨gb142, 0, none⟩ = some (.int .i64 (wrap64 (a1_0 - a0_0))) ∧ w'.cell? ⟨gb142, 1, none⟩ = some (.int .i64 (wrap64 (a1_1 - a0_1))) ∧ w'.cell? ⟨gb143, 0, none⟩ = some (.int .i64 (wrap64 (a2_0 - a0_0))) ∧ w'.cell? ⟨gb143, 1, none⟩ = some (.int .i64 (wrap64 (a2_1 - a0_1)))) [] (bn 8 0) ⟨(blk_cell BK142.out 0).trans rfl, (blk_cell BK142.out 1).trans rfl, (blk_cell BK143.out 0).trans rfl, (blk_cell BK143.out 1).trans rfl⟩ (fun hHeld => ?_); refine with_tabW cover_through.tab5 cover_through.bits5 (fun HT_ HW_ => ?_)
  generalize w61.drew = w62 at BK138 BK139 BK140 BK141 BK142 BK143 HB hHeld ⊢
  refine tT HT_.out HW_.out 0 (some 43) (bn 8 1) hHeld ?_
  refine tT HT_.out HW_.out 1 (some 44) (bn 8 3) hHeld ?_
  refine tT HT_.out HW_.out 3 (some 46) (bn 8 11) hHeld ?_
  refine tT HT_.out HW_.out 4 (some 47) (bn 8 27) hHeld ?_
  refine oT HT_.out 2 (some 45) (bn 8 31) (fun K hK => ?_)
  refine gz Try.func87 #[.agg #[.int .i64 (wrap64 (a1_0 - a0_0)), .int .i64 (wrap64 (a1_1 - a0_1))], .agg #[.int .i64 (wrap64 (a1_0 - a0_0)), .int .i64 (wrap64 (a1_1 - a0_1))]] ?_
  with_reducible refine (cover_dot.calls (wrap64 (a1_0 - a0_0)) (wrap64 (a1_1 - a0_1)) (wrap64 (a1_0 - a0_0)) (wrap64 (a1_1 - a0_1)) t145 _ A34.out).mono ?_
  rintro e w63 ⟨rfl, hb⟩
  refine ⟨_, rfl, ?_⟩
  have n0_ := Aside0.mk (blk_below (g := gb138) BKz hb)
  have n1_ := Aside0.mk (blk_below (g := gb139) BKz hb)
  have n2_ := Aside0.mk (blk_below (g := gb140) BKz hb)
  have n3_ := Aside0.mk (blk_below (g := gb141) BKz hb)
  have n4_ := Aside0.mk (blk_below (g := gb142) BKz hb)
  have n5_ := Aside0.mk (blk_below (g := gb143) BKz hb)
  have n6_ := Aside0.mk (below_step HBz hb)
  clear BK138
  clear BK139
  clear BK140
  clear BK141
  clear BK142
  clear BK143
  clear HB
  have BK138 := n0_
  have BK139 := n1_
  have BK140 := n2_
  have BK141 := n3_
  have BK142 := n4_
  have BK143 := n5_
  have HB := n6_
  clear n0_ n1_ n2_ n3_ n4_ n5_ n6_
  (try clear hb)
  (try clear hb2)
  (try clear hk)
  (try clear hi)
  refine hK.out _ _ ⟨(blk_cell BK142.out 0).trans rfl, (blk_cell BK142.out 1).trans rfl, (blk_cell BK143.out 0).trans rfl, (blk_cell BK143.out 1).trans rfl⟩ (fun hHeld => ?_)
  clear hK K
  refine nz (some 45) ?_
  refine oT HT_.out 5 (some 48) (bn 8 63) (fun K hK => ?_)
  refine gz Try.func87 #[.agg #[.int .i64 (wrap64 (a2_0 - a0_0)), .int .i64 (wrap64 (a2_1 - a0_1))], .agg #[.int .i64 (wrap64 (a2_0 - a0_0)), .int .i64 (wrap64 (a2_1 - a0_1))]] ?_
  with_reducible refine (cover_dot.calls (wrap64 (a2_0 - a0_0)) (wrap64 (a2_1 - a0_1)) (wrap64 (a2_0 - a0_0)) (wrap64 (a2_1 - a0_1)) t146 _ A35.out).mono ?_
  rintro e w64 ⟨rfl, hb⟩
  refine ⟨_, rfl, ?_⟩
  have n0_ := Aside0.mk (blk_below (g := gb138) BKz hb)
  have n1_ := Aside0.mk (blk_below (g := gb139) BKz hb)
  have n2_ := Aside0.mk (blk_below (g := gb140) BKz hb)
  have n3_ := Aside0.mk (blk_below (g := gb141) BKz hb)
  have n4_ := Aside0.mk (blk_below (g := gb142) BKz hb)
  have n5_ := Aside0.mk (blk_below (g := gb143) BKz hb)
  have n6_ := Aside0.mk (below_step HBz hb)
  clear BK138
  clear BK139
  clear BK140
  clear BK141
  clear BK142
  clear BK143
  clear HB
  have BK138 := n0_
  have BK139 := n1_
  have BK140 := n2_
  have BK141 := n3_
  have BK142 := n4_
  have BK143 := n5_
  have HB := n6_
  clear n0_ n1_ n2_ n3_ n4_ n5_ n6_
  (try clear hb)
  (try clear hb2)
  (try clear hk)
  (try clear hi)
  refine hK.out _ _ ⟨(blk_cell BK142.out 0).trans rfl, (blk_cell BK142.out 1).trans rfl, (blk_cell BK143.out 0).trans rfl, (blk_cell BK143.out 1).trans rfl⟩ (fun hHeld => ?_)
  clear hK K
  refine nz (some 48) ?_
  refine pT HT_.out 6 (some 11) (bn 8 127) ?_
  refine pT HT_.out 7 (some 12) (bn 8 255) ?_
  refine done_ (done_of HT_.out (by kernel_rfl)) ?_
  have hcz65_0 : w64.cell? ⟨gb143, 0, none⟩ = some (.int .i64 (wrap64 (a2_0 - a0_0))) := (blk_cell BK143.out 0).trans rfl
  have hcz65_1 : w64.cell? ⟨gb143, 1, none⟩ = some (.int .i64 (wrap64 (a2_1 - a0_1))) := (blk_cell BK143.out 1).trans rfl
  have hfz65_0 := blk_frozen BK143.out 0
  have hfz65_1 := blk_frozen BK143.out 1
  have hcz66_0 : w64.cell? ⟨gb142, 0, none⟩ = some (.int .i64 (wrap64 (a1_0 - a0_0))) := (blk_cell BK142.out 0).trans rfl
  have hcz66_1 : w64.cell? ⟨gb142, 1, none⟩ = some (.int .i64 (wrap64 (a1_1 - a0_1))) := (blk_cell BK142.out 1).trans rfl
  have hfz66_0 := blk_frozen BK142.out 0
  have hfz66_1 := blk_frozen BK142.out 1
  try go_wp2_with (first | ((with_reducible refine gate_dst (N := 13) rfl ?_); refine bxE 13 #[.int .i64 0, .int .i64 0] 28 ?_; intro gb147 hg w67 hbox hb; have n0_ := Aside0.mk (blk_below (g := gb138) BKz hb); have n1_ := Aside0.mk (blk_below (g := gb139) BKz hb); have n2_ := Aside0.mk (blk_below (g := gb140) BKz hb); have n3_ := Aside0.mk (blk_below (g := gb141) BKz hb); have n4_ := Aside0.mk (blk_below (g := gb142) BKz hb); have n5_ := Aside0.mk (blk_below (g := gb143) BKz hb); have n6_ := Aside0.mk (below_step HBz hb); have n7_ := Aside0.mk (hbox); have n8_ := Aside0.mk ((by rw [hg]; exact (below_size HBz) : w.heap.size ≤ gb147)); have n9_ := Aside0.mk ((by rw [hg]; exact (below_size HBz) : w.heap.size ≤ gb147)); have n10_ := Aside0.mk ((by rw [hg]; exact Nat.ne_of_lt (blk_lt (g := gb138) BKz) : gb138 ≠ gb147)); have n11_ := Aside0.mk ((by rw [hg]; exact Nat.ne_of_gt (blk_lt (g := gb138) BKz) : gb147 ≠ gb138)); have n12_ := Aside0.mk ((by rw [hg]; exact Nat.ne_of_lt (blk_lt (g := gb139) BKz) : gb139 ≠ gb147)); have n13_ := Aside0.mk ((by rw [hg]; exact Nat.ne_of_gt (blk_lt (g := gb139) BKz) : gb147 ≠ gb139)); have n14_ := Aside0.mk ((by rw [hg]; exact Nat.ne_of_lt (blk_lt (g := gb140) BKz) : gb140 ≠ gb147)); have n15_ := Aside0.mk ((by rw [hg]; exact Nat.ne_of_gt (blk_lt (g := gb140) BKz) : gb147 ≠ gb140)); have n16_ := Aside0.mk ((by rw [hg]; exact Nat.ne_of_lt (blk_lt (g := gb141) BKz) : gb141 ≠ gb147)); have n17_ := Aside0.mk ((by rw [hg]; exact Nat.ne_of_gt (blk_lt (g := gb141) BKz) : gb147 ≠ gb141)); have n18_ := Aside0.mk ((by rw [hg]; exact Nat.ne_of_lt (blk_lt (g := gb142) BKz) : gb142 ≠ gb147)); have n19_ := Aside0.mk ((by rw [hg]; exact Nat.ne_of_gt (blk_lt (g := gb142) BKz) : gb147 ≠ gb142)); have n20_ := Aside0.mk ((by rw [hg]; exact Nat.ne_of_lt (blk_lt (g := gb143) BKz) : gb143 ≠ gb147)); have n21_ := Aside0.mk ((by rw [hg]; exact Nat.ne_of_gt (blk_lt (g := gb143) BKz) : gb147 ≠ gb143)); clear BK138; clear BK139; clear BK140; clear BK141; clear BK142; clear BK143; clear HB; have BK138 := n0_; have BK139 := n1_; have BK140 := n2_; have BK141 := n3_; have BK142 := n4_; have BK143 := n5_; have HB := n6_; have BK147 := n7_; have GW147 := n8_; have GE147 := n9_; have NB138_147 := n10_; have NB147_138 := n11_; have NB139_147 := n12_; have NB147_139 := n13_; have NB140_147 := n14_; have NB147_140 := n15_; have NB141_147 := n16_; have NB147_141 := n17_; have NB142_147 := n18_; have NB147_142 := n19_; have NB143_147 := n20_; have NB147_143 := n21_; clear n0_ n1_ n2_ n3_ n4_ n5_ n6_ n7_ n8_ n9_ n10_ n11_ n12_ n13_ n14_ n15_ n16_ n17_ n18_ n19_ n20_ n21_; clear hb hbox hg; have hnb68 := NB147_138.out; have hnc68 := NB138_147.out; have hnb69 := NB147_139.out; have hnc69 := NB139_147.out; have hnb70 := NB147_140.out; have hnc70 := NB140_147.out; have hnb71 := NB147_141.out; have hnc71 := NB141_147.out; have hnb72 := NB147_142.out; have hnc72 := NB142_147.out; have hnb73 := NB147_143.out; have hnc73 := NB143_147.out; have hcz74_0 : w67.cell? ⟨gb147, 0, none⟩ = some (.int .i64 0) := (blk_cell BK147.out 0).trans rfl; have hcz74_1 : w67.cell? ⟨gb147, 1, none⟩ = some (.int .i64 0) := (blk_cell BK147.out 1).trans rfl; have hfz74_0 := blk_frozen BK147.out 0; have hfz74_1 := blk_frozen BK147.out 1))
  have n0_ : Aside0 (((w67.setCell ⟨gb147, 0, none⟩ (.int .i64 (wrap64 ((wrap64 ((wrap64 (a2_1 - a0_1)) * t145)) - (wrap64 ((wrap64 (a1_1 - a0_1)) * t146)))))).setCell ⟨gb147, 1, none⟩ (.int .i64 (wrap64 ((wrap64 ((wrap64 (a1_0 - a0_0)) * t146)) - (wrap64 ((wrap64 (a2_0 - a0_0)) * t145)))))).heap[gb138]? = some (.cells #[.int .i64 a0_0, .int .i64 a0_1] 28 (0, 0))) := ⟨by (with_reducible repeat (first | refine blk_drewN ?_ _ | refine blk_drew ?_ | refine blk_alloc ?_ _)); refine blk_far ?_ NB138_147.out _; (with_reducible repeat (first | refine blk_drewN ?_ _ | refine blk_drew ?_ | refine blk_alloc ?_ _)); refine blk_far ?_ NB138_147.out _; (with_reducible repeat (first | refine blk_drewN ?_ _ | refine blk_drew ?_ | refine blk_alloc ?_ _)); exact BK138.out⟩
  have n1_ : Aside0 (((w67.setCell ⟨gb147, 0, none⟩ (.int .i64 (wrap64 ((wrap64 ((wrap64 (a2_1 - a0_1)) * t145)) - (wrap64 ((wrap64 (a1_1 - a0_1)) * t146)))))).setCell ⟨gb147, 1, none⟩ (.int .i64 (wrap64 ((wrap64 ((wrap64 (a1_0 - a0_0)) * t146)) - (wrap64 ((wrap64 (a2_0 - a0_0)) * t145)))))).heap[gb139]? = some (.cells #[.int .i64 a1_0, .int .i64 a1_1] 28 (0, 0))) := ⟨by (with_reducible repeat (first | refine blk_drewN ?_ _ | refine blk_drew ?_ | refine blk_alloc ?_ _)); refine blk_far ?_ NB139_147.out _; (with_reducible repeat (first | refine blk_drewN ?_ _ | refine blk_drew ?_ | refine blk_alloc ?_ _)); refine blk_far ?_ NB139_147.out _; (with_reducible repeat (first | refine blk_drewN ?_ _ | refine blk_drew ?_ | refine blk_alloc ?_ _)); exact BK139.out⟩
  have n2_ : Aside0 (((w67.setCell ⟨gb147, 0, none⟩ (.int .i64 (wrap64 ((wrap64 ((wrap64 (a2_1 - a0_1)) * t145)) - (wrap64 ((wrap64 (a1_1 - a0_1)) * t146)))))).setCell ⟨gb147, 1, none⟩ (.int .i64 (wrap64 ((wrap64 ((wrap64 (a1_0 - a0_0)) * t146)) - (wrap64 ((wrap64 (a2_0 - a0_0)) * t145)))))).heap[gb140]? = some (.cells #[.int .i64 a2_0, .int .i64 a2_1] 28 (0, 0))) := ⟨by (with_reducible repeat (first | refine blk_drewN ?_ _ | refine blk_drew ?_ | refine blk_alloc ?_ _)); refine blk_far ?_ NB140_147.out _; (with_reducible repeat (first | refine blk_drewN ?_ _ | refine blk_drew ?_ | refine blk_alloc ?_ _)); refine blk_far ?_ NB140_147.out _; (with_reducible repeat (first | refine blk_drewN ?_ _ | refine blk_drew ?_ | refine blk_alloc ?_ _)); exact BK140.out⟩
  have n3_ : Aside0 (((w67.setCell ⟨gb147, 0, none⟩ (.int .i64 (wrap64 ((wrap64 ((wrap64 (a2_1 - a0_1)) * t145)) - (wrap64 ((wrap64 (a1_1 - a0_1)) * t146)))))).setCell ⟨gb147, 1, none⟩ (.int .i64 (wrap64 ((wrap64 ((wrap64 (a1_0 - a0_0)) * t146)) - (wrap64 ((wrap64 (a2_0 - a0_0)) * t145)))))).heap[gb141]? = some (.cells #[.int .i64 0, .int .i64 0, .int .i64 0, .int .i64 0] 40 (0, 0))) := ⟨by (with_reducible repeat (first | refine blk_drewN ?_ _ | refine blk_drew ?_ | refine blk_alloc ?_ _)); refine blk_far ?_ NB141_147.out _; (with_reducible repeat (first | refine blk_drewN ?_ _ | refine blk_drew ?_ | refine blk_alloc ?_ _)); refine blk_far ?_ NB141_147.out _; (with_reducible repeat (first | refine blk_drewN ?_ _ | refine blk_drew ?_ | refine blk_alloc ?_ _)); exact BK141.out⟩
  have n4_ : Aside0 (((w67.setCell ⟨gb147, 0, none⟩ (.int .i64 (wrap64 ((wrap64 ((wrap64 (a2_1 - a0_1)) * t145)) - (wrap64 ((wrap64 (a1_1 - a0_1)) * t146)))))).setCell ⟨gb147, 1, none⟩ (.int .i64 (wrap64 ((wrap64 ((wrap64 (a1_0 - a0_0)) * t146)) - (wrap64 ((wrap64 (a2_0 - a0_0)) * t145)))))).heap[gb142]? = some (.cells #[.int .i64 (wrap64 (a1_0 - a0_0)), .int .i64 (wrap64 (a1_1 - a0_1))] 28 (0, 0))) := ⟨by (with_reducible repeat (first | refine blk_drewN ?_ _ | refine blk_drew ?_ | refine blk_alloc ?_ _)); refine blk_far ?_ NB142_147.out _; (with_reducible repeat (first | refine blk_drewN ?_ _ | refine blk_drew ?_ | refine blk_alloc ?_ _)); refine blk_far ?_ NB142_147.out _; (with_reducible repeat (first | refine blk_drewN ?_ _ | refine blk_drew ?_ | refine blk_alloc ?_ _)); exact BK142.out⟩
  have n5_ : Aside0 (((w67.setCell ⟨gb147, 0, none⟩ (.int .i64 (wrap64 ((wrap64 ((wrap64 (a2_1 - a0_1)) * t145)) - (wrap64 ((wrap64 (a1_1 - a0_1)) * t146)))))).setCell ⟨gb147, 1, none⟩ (.int .i64 (wrap64 ((wrap64 ((wrap64 (a1_0 - a0_0)) * t146)) - (wrap64 ((wrap64 (a2_0 - a0_0)) * t145)))))).heap[gb143]? = some (.cells #[.int .i64 (wrap64 (a2_0 - a0_0)), .int .i64 (wrap64 (a2_1 - a0_1))] 28 (0, 0))) := ⟨by (with_reducible repeat (first | refine blk_drewN ?_ _ | refine blk_drew ?_ | refine blk_alloc ?_ _)); refine blk_far ?_ NB143_147.out _; (with_reducible repeat (first | refine blk_drewN ?_ _ | refine blk_drew ?_ | refine blk_alloc ?_ _)); refine blk_far ?_ NB143_147.out _; (with_reducible repeat (first | refine blk_drewN ?_ _ | refine blk_drew ?_ | refine blk_alloc ?_ _)); exact BK143.out⟩
  have n6_ : Aside0 (((w67.setCell ⟨gb147, 0, none⟩ (.int .i64 (wrap64 ((wrap64 ((wrap64 (a2_1 - a0_1)) * t145)) - (wrap64 ((wrap64 (a1_1 - a0_1)) * t146)))))).setCell ⟨gb147, 1, none⟩ (.int .i64 (wrap64 ((wrap64 ((wrap64 (a1_0 - a0_0)) * t146)) - (wrap64 ((wrap64 (a2_0 - a0_0)) * t145)))))).heap[gb147]? = some (.cells #[.int .i64 (wrap64 ((wrap64 ((wrap64 (a2_1 - a0_1)) * t145)) - (wrap64 ((wrap64 (a1_1 - a0_1)) * t146)))), .int .i64 (wrap64 ((wrap64 ((wrap64 (a1_0 - a0_0)) * t146)) - (wrap64 ((wrap64 (a2_0 - a0_0)) * t145))))] 28 (0, 0))) := ⟨by (with_reducible repeat (first | refine blk_drewN ?_ _ | refine blk_drew ?_ | refine blk_alloc ?_ _)); refine blk_put (cs := #[.int .i64 (wrap64 ((wrap64 ((wrap64 (a2_1 - a0_1)) * t145)) - (wrap64 ((wrap64 (a1_1 - a0_1)) * t146)))), .int .i64 0]) ?_ 1 _ rfl; (with_reducible repeat (first | refine blk_drewN ?_ _ | refine blk_drew ?_ | refine blk_alloc ?_ _)); refine blk_put (cs := #[.int .i64 0, .int .i64 0]) ?_ 0 _ rfl; (with_reducible repeat (first | refine blk_drewN ?_ _ | refine blk_drew ?_ | refine blk_alloc ?_ _)); exact BK147.out⟩
  have n7_ : Aside0 (Below w.heap.size w ((w67.setCell ⟨gb147, 0, none⟩ (.int .i64 (wrap64 ((wrap64 ((wrap64 (a2_1 - a0_1)) * t145)) - (wrap64 ((wrap64 (a1_1 - a0_1)) * t146)))))).setCell ⟨gb147, 1, none⟩ (.int .i64 (wrap64 ((wrap64 ((wrap64 (a1_0 - a0_0)) * t146)) - (wrap64 ((wrap64 (a2_0 - a0_0)) * t145))))))) := ⟨HBz⟩
  (try clear BK138)
  (try clear BK139)
  (try clear BK140)
  (try clear BK141)
  (try clear BK142)
  (try clear BK143)
  (try clear BK147)
  (try clear HB)
  generalize ((w67.setCell ⟨gb147, 0, none⟩ (.int .i64 (wrap64 ((wrap64 ((wrap64 (a2_1 - a0_1)) * t145)) - (wrap64 ((wrap64 (a1_1 - a0_1)) * t146)))))).setCell ⟨gb147, 1, none⟩ (.int .i64 (wrap64 ((wrap64 ((wrap64 (a1_0 - a0_0)) * t146)) - (wrap64 ((wrap64 (a2_0 - a0_0)) * t145)))))) = w75 at n0_ n1_ n2_ n3_ n4_ n5_ n6_ n7_ ⊢
  have BK138 := n0_
  have BK139 := n1_
  have BK140 := n2_
  have BK141 := n3_
  have BK142 := n4_
  have BK143 := n5_
  have BK147 := n6_
  have HB := n7_
  clear n0_ n1_ n2_ n3_ n4_ n5_ n6_ n7_
  have n0_ := Aside0.mk (blk_drew BK138.out)
  have n1_ := Aside0.mk (blk_drew BK139.out)
  have n2_ := Aside0.mk (blk_drew BK140.out)
  have n3_ := Aside0.mk (blk_drew BK141.out)
  have n4_ := Aside0.mk (blk_drew BK142.out)
  have n5_ := Aside0.mk (blk_drew BK143.out)
  have n6_ := Aside0.mk (blk_drew BK147.out)
  have n7_ := Aside0.mk (below_drew1 HB.out)
  clear BK138
  clear BK139
  clear BK140
  clear BK141
  clear BK142
  clear BK143
  clear BK147
  clear HB
  have BK138 := n0_
  have BK139 := n1_
  have BK140 := n2_
  have BK141 := n3_
  have BK142 := n4_
  have BK143 := n5_
  have BK147 := n6_
  have HB := n7_
  clear n0_ n1_ n2_ n3_ n4_ n5_ n6_ n7_
  refine stz (fun w' => w'.cell? ⟨gb138, 0, none⟩ = some (.int .i64 a0_0) ∧ w'.cell? ⟨gb138, 1, none⟩ = some (.int .i64 a0_1) ∧ w'.cell? ⟨gb147, 0, none⟩ = some (.int .i64 (wrap64 ((wrap64 ((wrap64 (a2_1 - a0_1)) * t145)) - (wrap64 ((wrap64 (a1_1 - a0_1)) * t146))))) ∧ w'.cell? ⟨gb147, 1, none⟩ = some (.int .i64 (wrap64 ((wrap64 ((wrap64 (a1_0 - a0_0)) * t146)) - (wrap64 ((wrap64 (a2_0 - a0_0)) * t145)))))) [] (bn 22 0) ⟨(blk_cell BK138.out 0).trans rfl, (blk_cell BK138.out 1).trans rfl, (blk_cell BK147.out 0).trans rfl, (blk_cell BK147.out 1).trans rfl⟩ (fun hHeld => ?_); refine with_tabW cover_through.tab7 cover_through.bits7 (fun HT_ HW_ => ?_)
  generalize w75.drew = w76 at BK138 BK139 BK140 BK141 BK142 BK143 BK147 HB hHeld ⊢
  refine pT HT_.out 0 (some 68) (bn 22 1) ?_
  refine pT HT_.out 2 (some 70) (bn 22 5) ?_
  refine pT HT_.out 4 (some 72) (bn 22 21) ?_
  refine pT HT_.out 7 (some 75) (bn 22 149) ?_
  refine pT HT_.out 9 (some 77) (bn 22 661) ?_
  refine pT HT_.out 11 (some 79) (bn 22 2709) ?_
  refine pT HT_.out 14 (some 82) (bn 22 19093) ?_
  refine tT HT_.out HW_.out 1 (some 69) (bn 22 19095) hHeld ?_
  refine pT HT_.out 3 (some 71) (bn 22 19103) ?_
  refine tT HT_.out HW_.out 5 (some 73) (bn 22 19135) hHeld ?_
  refine pT HT_.out 6 (some 74) (bn 22 19199) ?_
  refine tT HT_.out HW_.out 8 (some 76) (bn 22 19455) hHeld ?_
  refine pT HT_.out 10 (some 78) (bn 22 20479) ?_
  refine tT HT_.out HW_.out 12 (some 80) (bn 22 24575) hHeld ?_
  refine pT HT_.out 13 (some 81) (bn 22 32767) ?_
  refine tT HT_.out HW_.out 15 (some 83) (bn 22 65535) hHeld ?_
  refine tT HT_.out HW_.out 16 (some 84) (bn 22 131071) hHeld ?_
  refine oT HT_.out 17 (some 85) (bn 22 262143) (fun K hK => ?_)
  refine gz Try.func87 #[.agg #[.int .i64 (wrap64 ((wrap64 ((wrap64 (a2_1 - a0_1)) * t145)) - (wrap64 ((wrap64 (a1_1 - a0_1)) * t146)))), .int .i64 (wrap64 ((wrap64 ((wrap64 (a1_0 - a0_0)) * t146)) - (wrap64 ((wrap64 (a2_0 - a0_0)) * t145))))], .agg #[.int .i64 (wrap64 ((wrap64 ((wrap64 (a2_1 - a0_1)) * t145)) - (wrap64 ((wrap64 (a1_1 - a0_1)) * t146)))), .int .i64 (wrap64 ((wrap64 ((wrap64 (a1_0 - a0_0)) * t146)) - (wrap64 ((wrap64 (a2_0 - a0_0)) * t145))))]] ?_
  with_reducible refine (cover_dot.calls (wrap64 ((wrap64 ((wrap64 (a2_1 - a0_1)) * t145)) - (wrap64 ((wrap64 (a1_1 - a0_1)) * t146)))) (wrap64 ((wrap64 ((wrap64 (a1_0 - a0_0)) * t146)) - (wrap64 ((wrap64 (a2_0 - a0_0)) * t145)))) (wrap64 ((wrap64 ((wrap64 (a2_1 - a0_1)) * t145)) - (wrap64 ((wrap64 (a1_1 - a0_1)) * t146)))) (wrap64 ((wrap64 ((wrap64 (a1_0 - a0_0)) * t146)) - (wrap64 ((wrap64 (a2_0 - a0_0)) * t145)))) t148 _ A36.out).mono ?_
  rintro e w77 ⟨rfl, hb⟩
  refine ⟨_, rfl, ?_⟩
  have n0_ := Aside0.mk (blk_below (g := gb138) BKz hb)
  have n1_ := Aside0.mk (blk_below (g := gb139) BKz hb)
  have n2_ := Aside0.mk (blk_below (g := gb140) BKz hb)
  have n3_ := Aside0.mk (blk_below (g := gb141) BKz hb)
  have n4_ := Aside0.mk (blk_below (g := gb142) BKz hb)
  have n5_ := Aside0.mk (blk_below (g := gb143) BKz hb)
  have n6_ := Aside0.mk (blk_below (g := gb147) BKz hb)
  have n7_ := Aside0.mk (below_step HBz hb)
  clear BK138
  clear BK139
  clear BK140
  clear BK141
  clear BK142
  clear BK143
  clear BK147
  clear HB
  have BK138 := n0_
  have BK139 := n1_
  have BK140 := n2_
  have BK141 := n3_
  have BK142 := n4_
  have BK143 := n5_
  have BK147 := n6_
  have HB := n7_
  clear n0_ n1_ n2_ n3_ n4_ n5_ n6_ n7_
  (try clear hb)
  (try clear hb2)
  (try clear hk)
  (try clear hi)
  refine hK.out _ _ ⟨(blk_cell BK138.out 0).trans rfl, (blk_cell BK138.out 1).trans rfl, (blk_cell BK147.out 0).trans rfl, (blk_cell BK147.out 1).trans rfl⟩ (fun hHeld => ?_)
  clear hK K
  refine nz (some 85) ?_
  refine pT HT_.out 18 (some 86) (bn 22 524287) ?_
  refine oT HT_.out 19 (some 87) (bn 22 1048575) (fun K hK => ?_)
  refine gz Try.func100 #[.agg #[.int .i64 (wrap64 ((wrap64 (a0_0 * (wrap64 (2 * t144)))) + (wrap64 ((wrap64 ((wrap64 (a2_1 - a0_1)) * t145)) - (wrap64 ((wrap64 (a1_1 - a0_1)) * t146)))))), .int .i64 (wrap64 ((wrap64 (a0_1 * (wrap64 (2 * t144)))) + (wrap64 ((wrap64 ((wrap64 (a1_0 - a0_0)) * t146)) - (wrap64 ((wrap64 (a2_0 - a0_0)) * t145)))))), .int .i64 (wrap64 (2 * t144)), .int .i64 t148]] ?_
  with_reducible refine (cover_reduced.calls k (wrap64 ((wrap64 (a0_0 * (wrap64 (2 * t144)))) + (wrap64 ((wrap64 ((wrap64 (a2_1 - a0_1)) * t145)) - (wrap64 ((wrap64 (a1_1 - a0_1)) * t146)))))) (wrap64 ((wrap64 (a0_1 * (wrap64 (2 * t144)))) + (wrap64 ((wrap64 ((wrap64 (a1_0 - a0_0)) * t146)) - (wrap64 ((wrap64 (a2_0 - a0_0)) * t145)))))) (wrap64 (2 * t144)) t148 t149 t150 t151 t152 _ A37.out).mono ?_
  rintro e w78 ⟨rfl, hb⟩
  refine ⟨_, rfl, ?_⟩
  have n0_ := Aside0.mk (blk_below (g := gb138) BKz hb)
  have n1_ := Aside0.mk (blk_below (g := gb139) BKz hb)
  have n2_ := Aside0.mk (blk_below (g := gb140) BKz hb)
  have n3_ := Aside0.mk (blk_below (g := gb141) BKz hb)
  have n4_ := Aside0.mk (blk_below (g := gb142) BKz hb)
  have n5_ := Aside0.mk (blk_below (g := gb143) BKz hb)
  have n6_ := Aside0.mk (blk_below (g := gb147) BKz hb)
  have n7_ := Aside0.mk (below_step HBz hb)
  clear BK138
  clear BK139
  clear BK140
  clear BK141
  clear BK142
  clear BK143
  clear BK147
  clear HB
  have BK138 := n0_
  have BK139 := n1_
  have BK140 := n2_
  have BK141 := n3_
  have BK142 := n4_
  have BK143 := n5_
  have BK147 := n6_
  have HB := n7_
  clear n0_ n1_ n2_ n3_ n4_ n5_ n6_ n7_
  (try clear hb)
  (try clear hb2)
  (try clear hk)
  (try clear hi)
  refine hK.out _ _ ⟨(blk_cell BK138.out 0).trans rfl, (blk_cell BK138.out 1).trans rfl, (blk_cell BK147.out 0).trans rfl, (blk_cell BK147.out 1).trans rfl⟩ (fun hHeld => ?_)
  clear hK K
  refine nz (some 87) ?_
  refine oT HT_.out 20 none (bn 22 2097151) (fun K hK => ?_)
  have hs79 : w78.cell? ⟨gb141, 0, none⟩ = some (.int .i64 0) := (blk_cell BK141.out 0).trans rfl
  have hfs79 := blk_frozen BK141.out 0
  have hns79_0 := NB138_141.out
  have hns79_1 := NB139_141.out
  have hns79_2 := NB140_141.out
  have hns79_4 := NB142_141.out
  have hns79_5 := NB143_141.out
  have hns79_6 := NB147_141.out
  have hms79_0 := NB141_138.out
  have hms79_1 := NB141_139.out
  have hms79_2 := NB141_140.out
  have hms79_4 := NB141_142.out
  have hms79_5 := NB141_143.out
  have hms79_6 := NB141_147.out
  have hs80 : w78.cell? ⟨gb141, 1, none⟩ = some (.int .i64 0) := (blk_cell BK141.out 1).trans rfl
  have hfs80 := blk_frozen BK141.out 1
  have hns80_0 := NB138_141.out
  have hns80_1 := NB139_141.out
  have hns80_2 := NB140_141.out
  have hns80_4 := NB142_141.out
  have hns80_5 := NB143_141.out
  have hns80_6 := NB147_141.out
  have hms80_0 := NB141_138.out
  have hms80_1 := NB141_139.out
  have hms80_2 := NB141_140.out
  have hms80_4 := NB141_142.out
  have hms80_5 := NB141_143.out
  have hms80_6 := NB141_147.out
  have hs81 : w78.cell? ⟨gb141, 2, none⟩ = some (.int .i64 0) := (blk_cell BK141.out 2).trans rfl
  have hfs81 := blk_frozen BK141.out 2
  have hns81_0 := NB138_141.out
  have hns81_1 := NB139_141.out
  have hns81_2 := NB140_141.out
  have hns81_4 := NB142_141.out
  have hns81_5 := NB143_141.out
  have hns81_6 := NB147_141.out
  have hms81_0 := NB141_138.out
  have hms81_1 := NB141_139.out
  have hms81_2 := NB141_140.out
  have hms81_4 := NB141_142.out
  have hms81_5 := NB141_143.out
  have hms81_6 := NB141_147.out
  have hs82 : w78.cell? ⟨gb141, 3, none⟩ = some (.int .i64 0) := (blk_cell BK141.out 3).trans rfl
  have hfs82 := blk_frozen BK141.out 3
  have hns82_0 := NB138_141.out
  have hns82_1 := NB139_141.out
  have hns82_2 := NB140_141.out
  have hns82_4 := NB142_141.out
  have hns82_5 := NB143_141.out
  have hns82_6 := NB147_141.out
  have hms82_0 := NB141_138.out
  have hms82_1 := NB141_139.out
  have hms82_2 := NB141_140.out
  have hms82_4 := NB141_142.out
  have hms82_5 := NB141_143.out
  have hms82_6 := NB141_147.out
  refine sz ?_
  refine hK.out _ _ ⟨((cell_far (p := ⟨gb141, _, none⟩) NB138_141.out _).trans (((cell_far (p := ⟨gb141, _, none⟩) NB138_141.out _).trans (((cell_far (p := ⟨gb141, _, none⟩) NB138_141.out _).trans (((cell_far (p := ⟨gb141, _, none⟩) NB138_141.out _).trans (hHeld.1)))))))), ((cell_far (p := ⟨gb141, _, none⟩) NB138_141.out _).trans (((cell_far (p := ⟨gb141, _, none⟩) NB138_141.out _).trans (((cell_far (p := ⟨gb141, _, none⟩) NB138_141.out _).trans (((cell_far (p := ⟨gb141, _, none⟩) NB138_141.out _).trans (hHeld.2.1)))))))), ((cell_far (p := ⟨gb141, _, none⟩) NB147_141.out _).trans (((cell_far (p := ⟨gb141, _, none⟩) NB147_141.out _).trans (((cell_far (p := ⟨gb141, _, none⟩) NB147_141.out _).trans (((cell_far (p := ⟨gb141, _, none⟩) NB147_141.out _).trans (hHeld.2.2.1)))))))), ((cell_far (p := ⟨gb141, _, none⟩) NB147_141.out _).trans (((cell_far (p := ⟨gb141, _, none⟩) NB147_141.out _).trans (((cell_far (p := ⟨gb141, _, none⟩) NB147_141.out _).trans (((cell_far (p := ⟨gb141, _, none⟩) NB147_141.out _).trans (hHeld.2.2.2))))))))⟩ (fun hHeld => ?_)
  clear hK K
  refine pT HT_.out 21 (some 7) (bn 22 4194303) ?_
  refine done_ (done_of HT_.out (by kernel_rfl)) ?_
  try go_wp2
  refine bodyPost_ret (results_ct rfl _ _ gb141 40 #[.int .i64 t149, .int .i64 t150, .int .i64 t151, .int .i64 t152] (0, 0) _ rfl (by (with_reducible repeat (first | refine blk_drewN ?_ _ | refine blk_drew ?_ | refine blk_alloc ?_ _)); refine blk_put (cs := #[.int .i64 t149, .int .i64 t150, .int .i64 t151, .int .i64 0]) ?_ 3 _ rfl; (with_reducible repeat (first | refine blk_drewN ?_ _ | refine blk_drew ?_ | refine blk_alloc ?_ _)); refine blk_put (cs := #[.int .i64 t149, .int .i64 t150, .int .i64 0, .int .i64 0]) ?_ 2 _ rfl; (with_reducible repeat (first | refine blk_drewN ?_ _ | refine blk_drew ?_ | refine blk_alloc ?_ _)); refine blk_put (cs := #[.int .i64 t149, .int .i64 0, .int .i64 0, .int .i64 0]) ?_ 1 _ rfl; (with_reducible repeat (first | refine blk_drewN ?_ _ | refine blk_drew ?_ | refine blk_alloc ?_ _)); refine blk_put (cs := #[.int .i64 0, .int .i64 0, .int .i64 0, .int .i64 0]) ?_ 0 _ rfl; (with_reducible repeat (first | refine blk_drewN ?_ _ | refine blk_drew ?_ | refine blk_alloc ?_ _)); exact BK141.out) Try.underlying40 rfl (by kernel_rfl)) rfl ?_
  exact ⟨by first | rfl | (simp [errW_none, errW_some] <;> rfl) | (simp [*, errW_none, errW_some] <;> rfl), HBz⟩
end Go.Proofs.Ytplhfbkejngioaa.X
namespace Go.Proofs.Ytplhfbkejngioaa.X
open Go.RowKit Go.Proofs.YtplhfbkejngioaaW.PrintWords Go.Proofs.YtplhfbkejngioaaW.PrintLast Go.Proofs.Ytplhfbkejngioaa.S
attribute [local go_sem] max2_int min2_int max_two min_two
set_option linter.unusedVariables false
set_option linter.unusedSimpArgs false
def tickingref01_Inside.f (a0 : Int) : Option (Bool) := if a0 ≥ (-256) then (some (decide (a0 ≤ 256))) else (some false)
set_option maxHeartbeats 8000000 in
set_option maxRecDepth 100000 in
theorem tickingref01_Inside.calls (a0 : Int) (r : Bool) (w : World) (h : tickingref01_Inside.f a0 = some r) :
  Calls Try.prog 60 #[.int .i64 a0] w fun e w' => e = .returned (.bool r) ∧ Drawn0 w w' := by
 have H : (if a0 ≥ (-256) then (some (decide (a0 ≤ 256))) else (some false)) = some r := h
 clear h
 by_cases c2 : a0 ≥ (-256)
 ·rw [if_pos c2] at H
  have c2b0 : decide ((-256) ≤ a0) = true := decide_eq_true c2
  clear c2
  obtain rfl := Option.some.inj H
  go_enter Try.func60, Try.ntmps60
  go_wp2
  go_ret
  exact ⟨by first | rfl | (simp; done) | (simp [*]; done), by repeat (first | exact Drawn0.refl _ | apply Drawn0.step)⟩
 ·rw [if_neg c2] at H
  have c2b0 : decide ((-256) ≤ a0) = false := decide_eq_false c2
  clear c2
  obtain rfl := Option.some.inj H
  go_enter Try.func60, Try.ntmps60
  go_wp2
  go_ret
  exact ⟨by first | rfl | (simp; done) | (simp [*]; done), by repeat (first | exact Drawn0.refl _ | apply Drawn0.step)⟩
def tickingref01_Rect.f (a0_0 : Int) (a0_1 : Int) (a0_2 : Int) (a0_3 : Int) : Option (Bool) := (tickingref01_Inside.f a0_0).bind fun t180 => (if t180 = true then ((tickingref01_Inside.f a0_1).bind fun t181 => (if t181 = true then ((tickingref01_Inside.f a0_2).bind fun t182 => (if t182 = true then ((tickingref01_Inside.f a0_3).bind fun t183 => (if t183 = true then (if a0_0 < a0_2 then (some (decide (a0_1 < a0_3))) else (some false)) else (some false))) else (some false))) else (some false))) else (some false))
set_option maxHeartbeats 8000000 in
set_option maxRecDepth 100000 in
theorem tickingref01_Rect.calls (a0_0 : Int) (a0_1 : Int) (a0_2 : Int) (a0_3 : Int) (r : Bool) (w : World) (h : tickingref01_Rect.f a0_0 a0_1 a0_2 a0_3 = some r) :
  Calls Try.prog 50 #[.agg #[.int .i64 a0_0, .int .i64 a0_1, .int .i64 a0_2, .int .i64 a0_3]] w fun e w' => e = .returned (.bool r) ∧ Below w.heap.size w w' := by
 have hu48 := Try.underlying48
 have HB := Aside0.mk (Below.refl w.heap.size w)
 have H : ((tickingref01_Inside.f a0_0).bind fun t180 => (if t180 = true then ((tickingref01_Inside.f a0_1).bind fun t181 => (if t181 = true then ((tickingref01_Inside.f a0_2).bind fun t182 => (if t182 = true then ((tickingref01_Inside.f a0_3).bind fun t183 => (if t183 = true then (if a0_0 < a0_2 then (some (decide (a0_1 < a0_3))) else (some false)) else (some false))) else (some false))) else (some false))) else (some false))) = some r := h
 clear h
 replace H := Option.bind_eq_some_iff.mp H
 obtain ⟨t180, A20, H⟩ := H
 replace H : (if t180 = true then ((tickingref01_Inside.f a0_1).bind fun t181 => (if t181 = true then ((tickingref01_Inside.f a0_2).bind fun t182 => (if t182 = true then ((tickingref01_Inside.f a0_3).bind fun t183 => (if t183 = true then (if a0_0 < a0_2 then (some (decide (a0_1 < a0_3))) else (some false)) else (some false))) else (some false))) else (some false))) else (some false)) = some r := H
 have A2 := Aside0.mk A20
 clear A20
 by_cases c3 : t180 = true
 ·subst c3
  have H1 : ((tickingref01_Inside.f a0_1).bind fun t181 => (if t181 = true then ((tickingref01_Inside.f a0_2).bind fun t182 => (if t182 = true then ((tickingref01_Inside.f a0_3).bind fun t183 => (if t183 = true then (if a0_0 < a0_2 then (some (decide (a0_1 < a0_3))) else (some false)) else (some false))) else (some false))) else (some false))) = some r := by rw [if_pos rfl] at H; exact H
  clear H
  have H := H1
  clear H1
  replace H := Option.bind_eq_some_iff.mp H
  obtain ⟨t181, A40, H⟩ := H
  replace H : (if t181 = true then ((tickingref01_Inside.f a0_2).bind fun t182 => (if t182 = true then ((tickingref01_Inside.f a0_3).bind fun t183 => (if t183 = true then (if a0_0 < a0_2 then (some (decide (a0_1 < a0_3))) else (some false)) else (some false))) else (some false))) else (some false)) = some r := H
  have A4 := Aside0.mk A40
  clear A40
  by_cases c5 : t181 = true
  ·subst c5
   have H1 : ((tickingref01_Inside.f a0_2).bind fun t182 => (if t182 = true then ((tickingref01_Inside.f a0_3).bind fun t183 => (if t183 = true then (if a0_0 < a0_2 then (some (decide (a0_1 < a0_3))) else (some false)) else (some false))) else (some false))) = some r := by rw [if_pos rfl] at H; exact H
   clear H
   have H := H1
   clear H1
   replace H := Option.bind_eq_some_iff.mp H
   obtain ⟨t182, A60, H⟩ := H
   replace H : (if t182 = true then ((tickingref01_Inside.f a0_3).bind fun t183 => (if t183 = true then (if a0_0 < a0_2 then (some (decide (a0_1 < a0_3))) else (some false)) else (some false))) else (some false)) = some r := H
   have A6 := Aside0.mk A60
   clear A60
   by_cases c7 : t182 = true
   ·subst c7
    have H1 : ((tickingref01_Inside.f a0_3).bind fun t183 => (if t183 = true then (if a0_0 < a0_2 then (some (decide (a0_1 < a0_3))) else (some false)) else (some false))) = some r := by rw [if_pos rfl] at H; exact H
    clear H
    have H := H1
    clear H1
    replace H := Option.bind_eq_some_iff.mp H
    obtain ⟨t183, A80, H⟩ := H
    replace H : (if t183 = true then (if a0_0 < a0_2 then (some (decide (a0_1 < a0_3))) else (some false)) else (some false)) = some r := H
    have A8 := Aside0.mk A80
    clear A80
    by_cases c9 : t183 = true
    ·subst c9
     have H1 : (if a0_0 < a0_2 then (some (decide (a0_1 < a0_3))) else (some false)) = some r := by rw [if_pos rfl] at H; exact H
     clear H
     have H := H1
     clear H1
     by_cases c10 : a0_0 < a0_2
     ·rw [if_pos c10] at H
      have c10b0 : decide (a0_0 < a0_2) = true := decide_eq_true c10
      clear c10
      obtain rfl := Option.some.inj H
      go_enter Try.func50, Try.ntmps50
      go_wp2_with (first | ((with_reducible refine gate_dst (N := 1) rfl ?_); refine bxE 1 #[.int .i64 a0_0, .int .i64 a0_1, .int .i64 a0_2, .int .i64 a0_3] 48 ?_; intro gb179 hg w11 hbox hb; have n0_ := Aside0.mk (below_step HBz hb); have n1_ := Aside0.mk (hbox); have n2_ := Aside0.mk ((by rw [hg]; exact (below_size HBz) : w.heap.size ≤ gb179)); have n3_ := Aside0.mk ((by rw [hg]; exact (below_size HBz) : w.heap.size ≤ gb179)); clear HB; have HB := n0_; have BK179 := n1_; have GW179 := n2_; have GE179 := n3_; clear n0_ n1_ n2_ n3_; clear hb hbox hg; have hcz12_0 : w11.cell? ⟨gb179, 0, none⟩ = some (.int .i64 a0_0) := (blk_cell BK179.out 0).trans rfl; have hcz12_1 : w11.cell? ⟨gb179, 1, none⟩ = some (.int .i64 a0_1) := (blk_cell BK179.out 1).trans rfl; have hcz12_2 : w11.cell? ⟨gb179, 2, none⟩ = some (.int .i64 a0_2) := (blk_cell BK179.out 2).trans rfl; have hcz12_3 : w11.cell? ⟨gb179, 3, none⟩ = some (.int .i64 a0_3) := (blk_cell BK179.out 3).trans rfl; have hfz12_0 := blk_frozen BK179.out 0; have hfz12_1 := blk_frozen BK179.out 1; have hfz12_2 := blk_frozen BK179.out 2; have hfz12_3 := blk_frozen BK179.out 3) | ((with_reducible refine gate_callee (f := 60) rfl ?_); refine goesL_ (some 5) rfl rfl Try.func60 (by kernel_rfl) rfl #[.int .i64 a0_0] rfl (by (try simp only [List.map_toArray, List.map_cons, List.map_nil]); first | done | rfl | (simp only [List.length_drop, List.length_take]; rfl)) ?_; (with_reducible refine (tickingref01_Inside.calls a0_0 true _ A2.out).mono ?_); rintro e w' ⟨rfl, ⟨nd, rfl⟩⟩; refine ⟨_, rfl, ?_⟩) | (go_at_call 60; (with_reducible refine (tickingref01_Inside.calls a0_1 true _ A4.out).mono ?_); rintro e w' ⟨rfl, ⟨nd, rfl⟩⟩) | (go_at_call 60; (with_reducible refine (tickingref01_Inside.calls a0_2 true _ A6.out).mono ?_); rintro e w' ⟨rfl, ⟨nd, rfl⟩⟩) | (go_at_call 60; (with_reducible refine (tickingref01_Inside.calls a0_3 true _ A8.out).mono ?_); rintro e w' ⟨rfl, ⟨nd, rfl⟩⟩))
      go_ret
      exact ⟨by first | rfl | (simp [errW_none, errW_some] <;> rfl) | (simp [*, errW_none, errW_some] <;> rfl), HBz⟩
     ·rw [if_neg c10] at H
      have c10b0 : decide (a0_0 < a0_2) = false := decide_eq_false c10
      clear c10
      obtain rfl := Option.some.inj H
      go_enter Try.func50, Try.ntmps50
      go_wp2_with (first | ((with_reducible refine gate_dst (N := 1) rfl ?_); refine bxE 1 #[.int .i64 a0_0, .int .i64 a0_1, .int .i64 a0_2, .int .i64 a0_3] 48 ?_; intro gb179 hg w13 hbox hb; have n0_ := Aside0.mk (below_step HBz hb); have n1_ := Aside0.mk (hbox); have n2_ := Aside0.mk ((by rw [hg]; exact (below_size HBz) : w.heap.size ≤ gb179)); have n3_ := Aside0.mk ((by rw [hg]; exact (below_size HBz) : w.heap.size ≤ gb179)); clear HB; have HB := n0_; have BK179 := n1_; have GW179 := n2_; have GE179 := n3_; clear n0_ n1_ n2_ n3_; clear hb hbox hg; have hcz14_0 : w13.cell? ⟨gb179, 0, none⟩ = some (.int .i64 a0_0) := (blk_cell BK179.out 0).trans rfl; have hcz14_1 : w13.cell? ⟨gb179, 1, none⟩ = some (.int .i64 a0_1) := (blk_cell BK179.out 1).trans rfl; have hcz14_2 : w13.cell? ⟨gb179, 2, none⟩ = some (.int .i64 a0_2) := (blk_cell BK179.out 2).trans rfl; have hcz14_3 : w13.cell? ⟨gb179, 3, none⟩ = some (.int .i64 a0_3) := (blk_cell BK179.out 3).trans rfl; have hfz14_0 := blk_frozen BK179.out 0; have hfz14_1 := blk_frozen BK179.out 1; have hfz14_2 := blk_frozen BK179.out 2; have hfz14_3 := blk_frozen BK179.out 3) | ((with_reducible refine gate_callee (f := 60) rfl ?_); refine goesL_ (some 5) rfl rfl Try.func60 (by kernel_rfl) rfl #[.int .i64 a0_0] rfl (by (try simp only [List.map_toArray, List.map_cons, List.map_nil]); first | done | rfl | (simp only [List.length_drop, List.length_take]; rfl)) ?_; (with_reducible refine (tickingref01_Inside.calls a0_0 true _ A2.out).mono ?_); rintro e w' ⟨rfl, ⟨nd, rfl⟩⟩; refine ⟨_, rfl, ?_⟩) | (go_at_call 60; (with_reducible refine (tickingref01_Inside.calls a0_1 true _ A4.out).mono ?_); rintro e w' ⟨rfl, ⟨nd, rfl⟩⟩) | (go_at_call 60; (with_reducible refine (tickingref01_Inside.calls a0_2 true _ A6.out).mono ?_); rintro e w' ⟨rfl, ⟨nd, rfl⟩⟩) | (go_at_call 60; (with_reducible refine (tickingref01_Inside.calls a0_3 true _ A8.out).mono ?_); rintro e w' ⟨rfl, ⟨nd, rfl⟩⟩))
      go_ret
      exact ⟨by first | rfl | (simp [errW_none, errW_some] <;> rfl) | (simp [*, errW_none, errW_some] <;> rfl), HBz⟩
    ·replace c9 := Bool.eq_false_iff.mpr c9
     subst c9
     have H1 : (some false) = some r := by rw [if_neg (show ¬ (false = true) by decide)] at H; exact H
     clear H
     have H := H1
     clear H1
     obtain rfl := Option.some.inj H
     go_enter Try.func50, Try.ntmps50
     go_wp2_with (first | ((with_reducible refine gate_dst (N := 1) rfl ?_); refine bxE 1 #[.int .i64 a0_0, .int .i64 a0_1, .int .i64 a0_2, .int .i64 a0_3] 48 ?_; intro gb179 hg w15 hbox hb; have n0_ := Aside0.mk (below_step HBz hb); have n1_ := Aside0.mk (hbox); have n2_ := Aside0.mk ((by rw [hg]; exact (below_size HBz) : w.heap.size ≤ gb179)); have n3_ := Aside0.mk ((by rw [hg]; exact (below_size HBz) : w.heap.size ≤ gb179)); clear HB; have HB := n0_; have BK179 := n1_; have GW179 := n2_; have GE179 := n3_; clear n0_ n1_ n2_ n3_; clear hb hbox hg; have hcz16_0 : w15.cell? ⟨gb179, 0, none⟩ = some (.int .i64 a0_0) := (blk_cell BK179.out 0).trans rfl; have hcz16_1 : w15.cell? ⟨gb179, 1, none⟩ = some (.int .i64 a0_1) := (blk_cell BK179.out 1).trans rfl; have hcz16_2 : w15.cell? ⟨gb179, 2, none⟩ = some (.int .i64 a0_2) := (blk_cell BK179.out 2).trans rfl; have hcz16_3 : w15.cell? ⟨gb179, 3, none⟩ = some (.int .i64 a0_3) := (blk_cell BK179.out 3).trans rfl; have hfz16_0 := blk_frozen BK179.out 0; have hfz16_1 := blk_frozen BK179.out 1; have hfz16_2 := blk_frozen BK179.out 2; have hfz16_3 := blk_frozen BK179.out 3) | ((with_reducible refine gate_callee (f := 60) rfl ?_); refine goesL_ (some 5) rfl rfl Try.func60 (by kernel_rfl) rfl #[.int .i64 a0_0] rfl (by (try simp only [List.map_toArray, List.map_cons, List.map_nil]); first | done | rfl | (simp only [List.length_drop, List.length_take]; rfl)) ?_; (with_reducible refine (tickingref01_Inside.calls a0_0 true _ A2.out).mono ?_); rintro e w' ⟨rfl, ⟨nd, rfl⟩⟩; refine ⟨_, rfl, ?_⟩) | (go_at_call 60; (with_reducible refine (tickingref01_Inside.calls a0_1 true _ A4.out).mono ?_); rintro e w' ⟨rfl, ⟨nd, rfl⟩⟩) | (go_at_call 60; (with_reducible refine (tickingref01_Inside.calls a0_2 true _ A6.out).mono ?_); rintro e w' ⟨rfl, ⟨nd, rfl⟩⟩) | (go_at_call 60; (with_reducible refine (tickingref01_Inside.calls a0_3 false _ A8.out).mono ?_); rintro e w' ⟨rfl, ⟨nd, rfl⟩⟩))
     go_ret
     exact ⟨by first | rfl | (simp [errW_none, errW_some] <;> rfl) | (simp [*, errW_none, errW_some] <;> rfl), HBz⟩
   ·replace c7 := Bool.eq_false_iff.mpr c7
    subst c7
    have H1 : (some false) = some r := by rw [if_neg (show ¬ (false = true) by decide)] at H; exact H
    clear H
    have H := H1
    clear H1
    obtain rfl := Option.some.inj H
    go_enter Try.func50, Try.ntmps50
    go_wp2_with (first | ((with_reducible refine gate_dst (N := 1) rfl ?_); refine bxE 1 #[.int .i64 a0_0, .int .i64 a0_1, .int .i64 a0_2, .int .i64 a0_3] 48 ?_; intro gb179 hg w17 hbox hb; have n0_ := Aside0.mk (below_step HBz hb); have n1_ := Aside0.mk (hbox); have n2_ := Aside0.mk ((by rw [hg]; exact (below_size HBz) : w.heap.size ≤ gb179)); have n3_ := Aside0.mk ((by rw [hg]; exact (below_size HBz) : w.heap.size ≤ gb179)); clear HB; have HB := n0_; have BK179 := n1_; have GW179 := n2_; have GE179 := n3_; clear n0_ n1_ n2_ n3_; clear hb hbox hg; have hcz18_0 : w17.cell? ⟨gb179, 0, none⟩ = some (.int .i64 a0_0) := (blk_cell BK179.out 0).trans rfl; have hcz18_1 : w17.cell? ⟨gb179, 1, none⟩ = some (.int .i64 a0_1) := (blk_cell BK179.out 1).trans rfl; have hcz18_2 : w17.cell? ⟨gb179, 2, none⟩ = some (.int .i64 a0_2) := (blk_cell BK179.out 2).trans rfl; have hcz18_3 : w17.cell? ⟨gb179, 3, none⟩ = some (.int .i64 a0_3) := (blk_cell BK179.out 3).trans rfl; have hfz18_0 := blk_frozen BK179.out 0; have hfz18_1 := blk_frozen BK179.out 1; have hfz18_2 := blk_frozen BK179.out 2; have hfz18_3 := blk_frozen BK179.out 3) | ((with_reducible refine gate_callee (f := 60) rfl ?_); refine goesL_ (some 5) rfl rfl Try.func60 (by kernel_rfl) rfl #[.int .i64 a0_0] rfl (by (try simp only [List.map_toArray, List.map_cons, List.map_nil]); first | done | rfl | (simp only [List.length_drop, List.length_take]; rfl)) ?_; (with_reducible refine (tickingref01_Inside.calls a0_0 true _ A2.out).mono ?_); rintro e w' ⟨rfl, ⟨nd, rfl⟩⟩; refine ⟨_, rfl, ?_⟩) | (go_at_call 60; (with_reducible refine (tickingref01_Inside.calls a0_1 true _ A4.out).mono ?_); rintro e w' ⟨rfl, ⟨nd, rfl⟩⟩) | (go_at_call 60; (with_reducible refine (tickingref01_Inside.calls a0_2 false _ A6.out).mono ?_); rintro e w' ⟨rfl, ⟨nd, rfl⟩⟩))
    go_ret
    exact ⟨by first | rfl | (simp [errW_none, errW_some] <;> rfl) | (simp [*, errW_none, errW_some] <;> rfl), HBz⟩
  ·replace c5 := Bool.eq_false_iff.mpr c5
   subst c5
   have H1 : (some false) = some r := by rw [if_neg (show ¬ (false = true) by decide)] at H; exact H
   clear H
   have H := H1
   clear H1
   obtain rfl := Option.some.inj H
   go_enter Try.func50, Try.ntmps50
   go_wp2_with (first | ((with_reducible refine gate_dst (N := 1) rfl ?_); refine bxE 1 #[.int .i64 a0_0, .int .i64 a0_1, .int .i64 a0_2, .int .i64 a0_3] 48 ?_; intro gb179 hg w19 hbox hb; have n0_ := Aside0.mk (below_step HBz hb); have n1_ := Aside0.mk (hbox); have n2_ := Aside0.mk ((by rw [hg]; exact (below_size HBz) : w.heap.size ≤ gb179)); have n3_ := Aside0.mk ((by rw [hg]; exact (below_size HBz) : w.heap.size ≤ gb179)); clear HB; have HB := n0_; have BK179 := n1_; have GW179 := n2_; have GE179 := n3_; clear n0_ n1_ n2_ n3_; clear hb hbox hg; have hcz20_0 : w19.cell? ⟨gb179, 0, none⟩ = some (.int .i64 a0_0) := (blk_cell BK179.out 0).trans rfl; have hcz20_1 : w19.cell? ⟨gb179, 1, none⟩ = some (.int .i64 a0_1) := (blk_cell BK179.out 1).trans rfl; have hcz20_2 : w19.cell? ⟨gb179, 2, none⟩ = some (.int .i64 a0_2) := (blk_cell BK179.out 2).trans rfl; have hcz20_3 : w19.cell? ⟨gb179, 3, none⟩ = some (.int .i64 a0_3) := (blk_cell BK179.out 3).trans rfl; have hfz20_0 := blk_frozen BK179.out 0; have hfz20_1 := blk_frozen BK179.out 1; have hfz20_2 := blk_frozen BK179.out 2; have hfz20_3 := blk_frozen BK179.out 3) | ((with_reducible refine gate_callee (f := 60) rfl ?_); refine goesL_ (some 5) rfl rfl Try.func60 (by kernel_rfl) rfl #[.int .i64 a0_0] rfl (by (try simp only [List.map_toArray, List.map_cons, List.map_nil]); first | done | rfl | (simp only [List.length_drop, List.length_take]; rfl)) ?_; (with_reducible refine (tickingref01_Inside.calls a0_0 true _ A2.out).mono ?_); rintro e w' ⟨rfl, ⟨nd, rfl⟩⟩; refine ⟨_, rfl, ?_⟩) | (go_at_call 60; (with_reducible refine (tickingref01_Inside.calls a0_1 false _ A4.out).mono ?_); rintro e w' ⟨rfl, ⟨nd, rfl⟩⟩))
   go_ret
   exact ⟨by first | rfl | (simp [errW_none, errW_some] <;> rfl) | (simp [*, errW_none, errW_some] <;> rfl), HBz⟩
 ·replace c3 := Bool.eq_false_iff.mpr c3
  subst c3
  have H1 : (some false) = some r := by rw [if_neg (show ¬ (false = true) by decide)] at H; exact H
  clear H
  have H := H1
  clear H1
  obtain rfl := Option.some.inj H
  go_enter Try.func50, Try.ntmps50
  go_wp2_with (first | ((with_reducible refine gate_dst (N := 1) rfl ?_); refine bxE 1 #[.int .i64 a0_0, .int .i64 a0_1, .int .i64 a0_2, .int .i64 a0_3] 48 ?_; intro gb179 hg w21 hbox hb; have n0_ := Aside0.mk (below_step HBz hb); have n1_ := Aside0.mk (hbox); have n2_ := Aside0.mk ((by rw [hg]; exact (below_size HBz) : w.heap.size ≤ gb179)); have n3_ := Aside0.mk ((by rw [hg]; exact (below_size HBz) : w.heap.size ≤ gb179)); clear HB; have HB := n0_; have BK179 := n1_; have GW179 := n2_; have GE179 := n3_; clear n0_ n1_ n2_ n3_; clear hb hbox hg; have hcz22_0 : w21.cell? ⟨gb179, 0, none⟩ = some (.int .i64 a0_0) := (blk_cell BK179.out 0).trans rfl; have hcz22_1 : w21.cell? ⟨gb179, 1, none⟩ = some (.int .i64 a0_1) := (blk_cell BK179.out 1).trans rfl; have hcz22_2 : w21.cell? ⟨gb179, 2, none⟩ = some (.int .i64 a0_2) := (blk_cell BK179.out 2).trans rfl; have hcz22_3 : w21.cell? ⟨gb179, 3, none⟩ = some (.int .i64 a0_3) := (blk_cell BK179.out 3).trans rfl; have hfz22_0 := blk_frozen BK179.out 0; have hfz22_1 := blk_frozen BK179.out 1; have hfz22_2 := blk_frozen BK179.out 2; have hfz22_3 := blk_frozen BK179.out 3) | ((with_reducible refine gate_callee (f := 60) rfl ?_); refine goesL_ (some 5) rfl rfl Try.func60 (by kernel_rfl) rfl #[.int .i64 a0_0] rfl (by (try simp only [List.map_toArray, List.map_cons, List.map_nil]); first | done | rfl | (simp only [List.length_drop, List.length_take]; rfl)) ?_; (with_reducible refine (tickingref01_Inside.calls a0_0 false _ A2.out).mono ?_); rintro e w' ⟨rfl, ⟨nd, rfl⟩⟩; refine ⟨_, rfl, ?_⟩))
  go_ret
  exact ⟨by first | rfl | (simp [errW_none, errW_some] <;> rfl) | (simp [*, errW_none, errW_some] <;> rfl), HBz⟩
def tickingref01_Rects.l0 : Nat → List (S48) → Int → Int → Option (Bool)
 | 0, _, _, _ => none
 | k + 1, x0, x1, x5 => if x5 < (x0.length : Int) then (if 0 ≤ x5 then ((tickingref01_Rect.f ((rd_T48 x0 x5).f0) ((rd_T48 x0 x5).f1) ((rd_T48 x0 x5).f2) ((rd_T48 x0 x5).f3)).bind fun t185 => (if t185 = true then (tickingref01_Rects.l0 k x0 x1 (wrap64 (x5 + 1))) else (some false))) else (none)) else (some (decide ((x0.length : Int) ≤ x1)))
def tickingref01_Rects.f (k : Nat) (l0 : List (S48)) (a1 : Int) : Option (Bool) := tickingref01_Rects.l0 k l0 a1 0
theorem tickingref01_Rects.mono_l : ∀ k, (∀ y0 y1 y2, LeO (tickingref01_Rects.l0 k y0 y1 y2) (tickingref01_Rects.l0 (k + 1) y0 y1 y2))
 | 0 => fun _ _ _ r h => by simp [tickingref01_Rects.l0] at h
 | k + 1 => by
  have ih0 := tickingref01_Rects.mono_l k
  ·intro y0 y1 y2
   unfold tickingref01_Rects.l0
   repeat' first
   | (with_reducible exact ih0 _ _ _)
   | (with_reducible exact LeO.refl _)
   | (with_reducible exact LeO.none _)
   | (with_reducible refine LeO.ite ?_ ?_)
   | (with_reducible refine LeO.bind ?_ (fun _ => ?_))
   | exact ih0 _ _ _
   | exact LeO.none _
   | refine LeO.ite ?_ ?_
   | refine LeO.bind ?_ (fun _ => ?_)
theorem tickingref01_Rects.mono : ∀ a0 a1 k, LeO (tickingref01_Rects.f k a0 a1) (tickingref01_Rects.f (k + 1) a0 a1) := by
 intro a0 a1 k
 have ih0 := tickingref01_Rects.mono_l k
 unfold tickingref01_Rects.f
 repeat' first
   | (with_reducible exact ih0 _ _ _)
   | (with_reducible exact LeO.refl _)
   | (with_reducible exact LeO.none _)
   | (with_reducible refine LeO.ite ?_ ?_)
   | (with_reducible refine LeO.bind ?_ (fun _ => ?_))
   | exact ih0 _ _ _
   | exact LeO.none _
   | refine LeO.ite ?_ ?_
   | refine LeO.bind ?_ (fun _ => ?_)
set_option maxHeartbeats 8000000 in
set_option maxRecDepth 100000 in
theorem tickingref01_Rects.calls (k : Nat) (A0 : Option Addr) (c0 : Nat) (l0 : List (S48)) (a1 : Int) (r : Bool) (w : World) (hr0 : Kd.C k48 w A0 l0.length l0) (hc0 : l0.length ≤ c0) (h : tickingref01_Rects.f k l0 a1 = some r) :
  Calls Try.prog 20 #[.slice A0 l0.length c0, .int .i64 a1] w fun e w' => e = .returned (.bool r) ∧ Below w.heap.size w w' := by
 have hu48 := Try.underlying48
 have HR0 := Aside0.mk hr0
 have HC0 := Aside0.mk hc0
 clear hr0 hc0
 have HB := Aside0.mk (Below.refl w.heap.size w)
 have H : (tickingref01_Rects.l0 k l0 a1 0) = some r := h
 clear h
 have H' := Aside0.mk H
 clear H
 go_enter Try.func20, Try.ntmps20
 go_wp2
 go_loopg [5] k (fun kq v5 w' => ∃ (x5_1 : Int), v5 = .int .i64 x5_1 ∧ Aside0 (tickingref01_Rects.l0 kq l0 a1 x5_1 = some r) ∧ Aside0 (kq ≤ k) ∧ Aside0 (Below w.heap.size w w'))
 case atStart => exact ⟨(0), (by first | rfl | (simp; done) | (simp [*]; done)), H', ⟨Nat.le_refl _⟩, ⟨HBz⟩⟩
 case round =>
  clear H'
  try clear c2
  try clear p2
  obtain ⟨x5_1, rfl, HA, HK1, HB⟩ := hrel
  cases gk with
  | zero => exact absurd HA.out (by simp [tickingref01_Rects.l0])
  | succ k1 =>
   have H := HA.out
   clear HA
   simp only [tickingref01_Rects.l0] at H
   by_cases c3 : x5_1 < (l0.length : Int)
   ·rw [if_pos c3] at H
    have c3b0 : decide (x5_1 < (l0.length : Int)) = true := decide_eq_true c3
    clear c3
    by_cases c4 : 0 ≤ x5_1
    ·rw [if_pos c4] at H
     have c4b0 : decide (0 ≤ x5_1) = true := decide_eq_true c4
     clear c4
     replace H := Option.bind_eq_some_iff.mp H
     obtain ⟨t185, A50, H⟩ := H
     replace H : (if t185 = true then (tickingref01_Rects.l0 k1 l0 a1 (wrap64 (x5_1 + 1))) else (some false)) = some r := H
     have A5 := Aside0.mk A50
     clear A50
     by_cases c6 : t185 = true
     ·subst c6
      have H1 : (tickingref01_Rects.l0 k1 l0 a1 (wrap64 (x5_1 + 1))) = some r := by rw [if_pos rfl] at H; exact H
      clear H
      have H := H1
      clear H1
      have H' := Aside0.mk H
      clear H
      have p184 : 0 ≤ (x5_1 : Int) := of_decide_eq_true (by first | (with_reducible assumption) | assumption)
      have q184 : x5_1 < (l0.length : Int) := of_decide_eq_true (by first | (with_reducible assumption) | assumption)
      obtain ⟨ad184, e184, hx184_0, hx184_1, hx184_2, hx184_3⟩ := at_T48 HR0.out x5_1 p184 q184
      cases e184
      replace hx184_0 := (HB.out.cell (World.block_lt_of_cell? w _ hx184_0)).trans hx184_0
      replace hx184_1 := (HB.out.cell (World.block_lt_of_cell? w _ hx184_1)).trans hx184_1
      replace hx184_2 := (HB.out.cell (World.block_lt_of_cell? w _ hx184_2)).trans hx184_2
      replace hx184_3 := (HB.out.cell (World.block_lt_of_cell? w _ hx184_3)).trans hx184_3
      replace p184 := eq_true p184
      replace q184 := eq_true q184
      go_wp2_with (first | ((with_reducible refine gate_callee (f := 50) rfl ?_); refine goesL_ (some 16) rfl rfl Try.func50 (by kernel_rfl) rfl #[.agg #[.int .i64 ((rd_T48 l0 x5_1).f0), .int .i64 ((rd_T48 l0 x5_1).f1), .int .i64 ((rd_T48 l0 x5_1).f2), .int .i64 ((rd_T48 l0 x5_1).f3)]] rfl (by (try simp only [List.map_toArray, List.map_cons, List.map_nil]); first | done | rfl | (simp only [List.length_drop, List.length_take]; rfl)) ?_; (with_reducible refine (tickingref01_Rect.calls ((rd_T48 l0 x5_1).f0) ((rd_T48 l0 x5_1).f1) ((rd_T48 l0 x5_1).f2) ((rd_T48 l0 x5_1).f3) true _ A5.out).mono ?_); rintro e w7 ⟨rfl, hb⟩; refine ⟨_, rfl, ?_⟩; have n0_ := Aside0.mk (below_step HBz hb); clear HB; have HB := n0_; clear n0_; (try clear hb); (try clear hb2); (try clear hk); (try clear hi)))
      go_roundg k1
      case measure => have := HK1.out; omega
      case rel => exact ⟨(wrap64 (x5_1 + 1)), (by first | rfl | (simp; done) | (simp [*]; done)), H', ⟨by have := HK1.out; omega⟩, ⟨HBz⟩⟩
     ·replace c6 := Bool.eq_false_iff.mpr c6
      subst c6
      have H1 : (some false) = some r := by rw [if_neg (show ¬ (false = true) by decide)] at H; exact H
      clear H
      have H := H1
      clear H1
      obtain rfl := Option.some.inj H
      have p184 : 0 ≤ (x5_1 : Int) := of_decide_eq_true (by first | (with_reducible assumption) | assumption)
      have q184 : x5_1 < (l0.length : Int) := of_decide_eq_true (by first | (with_reducible assumption) | assumption)
      obtain ⟨ad184, e184, hx184_0, hx184_1, hx184_2, hx184_3⟩ := at_T48 HR0.out x5_1 p184 q184
      cases e184
      replace hx184_0 := (HB.out.cell (World.block_lt_of_cell? w _ hx184_0)).trans hx184_0
      replace hx184_1 := (HB.out.cell (World.block_lt_of_cell? w _ hx184_1)).trans hx184_1
      replace hx184_2 := (HB.out.cell (World.block_lt_of_cell? w _ hx184_2)).trans hx184_2
      replace hx184_3 := (HB.out.cell (World.block_lt_of_cell? w _ hx184_3)).trans hx184_3
      replace p184 := eq_true p184
      replace q184 := eq_true q184
      go_wp2_with (first | ((with_reducible refine gate_callee (f := 50) rfl ?_); refine goesL_ (some 16) rfl rfl Try.func50 (by kernel_rfl) rfl #[.agg #[.int .i64 ((rd_T48 l0 x5_1).f0), .int .i64 ((rd_T48 l0 x5_1).f1), .int .i64 ((rd_T48 l0 x5_1).f2), .int .i64 ((rd_T48 l0 x5_1).f3)]] rfl (by (try simp only [List.map_toArray, List.map_cons, List.map_nil]); first | done | rfl | (simp only [List.length_drop, List.length_take]; rfl)) ?_; (with_reducible refine (tickingref01_Rect.calls ((rd_T48 l0 x5_1).f0) ((rd_T48 l0 x5_1).f1) ((rd_T48 l0 x5_1).f2) ((rd_T48 l0 x5_1).f3) false _ A5.out).mono ?_); rintro e w8 ⟨rfl, hb⟩; refine ⟨_, rfl, ?_⟩; have n0_ := Aside0.mk (below_step HBz hb); clear HB; have HB := n0_; clear n0_; (try clear hb); (try clear hb2); (try clear hk); (try clear hi)))
      go_ret
      exact ⟨by first | rfl | (simp [errW_none, errW_some] <;> rfl) | (simp [*, errW_none, errW_some] <;> rfl), HBz⟩
    ·rw [if_neg c4] at H
     exact absurd H (by simp)
   ·rw [if_neg c3] at H
    have c3b0 : decide (x5_1 < (l0.length : Int)) = false := decide_eq_false c3
    clear c3
    obtain rfl := Option.some.inj H
    go_wp2
    go_ret
    exact ⟨by first | rfl | (simp [errW_none, errW_some] <;> rfl) | (simp [*, errW_none, errW_some] <;> rfl), HBz⟩
end Go.Proofs.Ytplhfbkejngioaa.X
