/- The contract of encloses. Texts of this claim's session, put together: EIdx, EAreRects, EArePoints, EEncloses. -/
import Derived.Test.YtplhfbkejngioaaBc4
import Derived.Shelf.SlicesQ.IndexFunc
import Derived.Test.YtplhfbkejngioaaVWords
namespace Go.Proofs.Ytplhfbkejngioaa.X
open Go.RowKit Go.Proofs.YtplhfbkejngioaaW.PrintWords Go.Proofs.YtplhfbkejngioaaW.PrintLast Go.Proofs.Ytplhfbkejngioaa.S
set_option linter.unusedVariables false
set_option linter.unusedSimpArgs false
def idxI {α : Type} (p : α → Bool) (l : List α) : Int := match l.findIdx? p with | some i => (i : Int) | none => -1
theorem idxI_hit {α : Type} (p : α → Bool) (l : List α) (k : Nat) (hk : k < l.length) (h1 : ∀ j (hj : j < k), p (l[j]'(by omega)) = false) (h2 : p l[k] = true) : idxI p l = k := by
 have : l.findIdx? p = some k := by
  rw [List.findIdx?_eq_some_iff_getElem]
  exact ⟨hk, h2, fun j hj => by simp [h1 j hj]⟩
 simp [idxI, this]
theorem idxI_miss {α : Type} (p : α → Bool) (l : List α) (h1 : ∀ j (hj : j < l.length), p (l[j]) = false) : idxI p l = -1 := by
 have : l.findIdx? p = none := by
  rw [List.findIdx?_eq_none_iff]
  intro x hx
  obtain ⟨i, hi, rfl⟩ := List.getElem_of_mem hx
  simp [h1 i hi]
 simp [idxI, this]
theorem idxI_any {α : Type} (p : α → Bool) (l : List α) : decide (0 ≤ idxI p l) = l.any p := by
 unfold idxI
 cases h : l.findIdx? p with
 | none =>
  rw [List.findIdx?_eq_none_iff] at h
  symm; simpa using h
 | some i =>
  rw [List.findIdx?_eq_some_iff_getElem] at h
  obtain ⟨hi, h1, _⟩ := h
  have : l.any p = true := List.any_eq_true.2 ⟨l[i], List.getElem_mem hi, h1⟩
  rw [this]; simp
def Pred48 (g : Nat) (lb : Array Value) (p : S48 → Bool) (l : List S48) (w : World) : Prop :=
 ∀ (W : World) (x : S48), Below w.heap.size w W → x ∈ l → Calls Try.prog g (#[.agg #[.int .i64 x.f0, .int .i64 x.f1, .int .i64 x.f2, .int .i64 x.f3]] ++ lb) W fun e w' => e = .returned (.bool (p x)) ∧ Below w.heap.size w w'
set_option maxHeartbeats 1000000 in
set_option maxRecDepth 100000 in
theorem idx48 (p : S48 → Bool) (g : Nat) (lb : Array Value) (A0 : Option Addr) (c0 : Nat) (l0 : List S48) (w : World)
  (eg : ∀ args w, (callFunc g args).run Try.prog w = .ok (.enter g args) w)
  (hp : Pred48 g lb p l0 w) (hr0 : Kd.C k48 w A0 l0.length l0) (hc0 : l0.length ≤ c0) :
  Calls Try.prog 98 #[.slice A0 l0.length c0, .func (.func g) #[] lb] w fun e w' => e = .returned (.int .i64 (idxI p l0)) ∧ Below w.heap.size w w' := by
 have hu48 := Try.underlying48
 have hn := hr0.2.1
 have HR0 := Aside0.mk hr0
 have HP := Aside0.mk hp
 have HC0 := Aside0.mk hc0
 clear hr0 hc0 hp
 go_enter Try.func98, Try.ntmps98
 go_wp2
 go_loopg [5, 8] l0.length (fun gg _ s8 wr => ∃ kk : Nat, kk ≤ l0.length ∧ l0.length - kk ≤ gg ∧ s8 = .int .i64 kk ∧ Aside0 (Below w.heap.size w wr) ∧ Aside0 (∀ j (hj : j < kk) (hl : j < l0.length), p (l0[j]) = false))
 case atStart => exact ⟨0, Nat.zero_le _, by omega, rfl, ⟨Below.refl _ w⟩, ⟨fun j hj => absurd hj (Nat.not_lt_zero _)⟩⟩
 case round =>
  obtain ⟨kk, hkk, hg, rfl, BW, AA⟩ := hrel
  by_cases hlt : kk < l0.length
  ·have hltz : (kk : Int) < (l0.length : Int) := by omega
   obtain ⟨ad, e, h0, h1, h2, h3⟩ := at_T48 HR0.out (kk : Int) (by omega) hltz
   cases e
   have hx : rd_T48 l0 (kk : Int) = l0[kk] := by simp [rd_T48, hlt]
   rw [hx] at h0 h1 h2 h3
   simp only [Int.toNat_natCast] at h0 h1 h2 h3
   have hcall := HP.out wr l0[kk] BW.out (List.getElem_mem hlt)
   replace h0 := (BW.out.cell (World.block_lt_of_cell? w _ h0)).trans h0
   replace h1 := (BW.out.cell (World.block_lt_of_cell? w _ h1)).trans h1
   replace h2 := (BW.out.cell (World.block_lt_of_cell? w _ h2)).trans h2
   replace h3 := (BW.out.cell (World.block_lt_of_cell? w _ h3)).trans h3
   clear hx
   have hq' : ∃ b, p l0[kk] = b := ⟨_, rfl⟩
   obtain ⟨b, hq⟩ := hq'
   rw [hq] at hcall
   have HQ := Aside0.mk hq
   clear hq
   cases b with
   | true =>
    go_wp2_with (go_at_fn g; refine hcall.mono ?_; rintro e w' ⟨rfl, hb'⟩)
    go_ret
    exact ⟨by rw [idxI_hit p l0 kk hlt (fun j hj => AA.out j hj (by omega)) HQ.out]; rfl, hb'⟩
   | false =>
    go_wp2_with (go_at_fn g; refine hcall.mono ?_; rintro e w' ⟨rfl, hb'⟩)
    go_roundg (l0.length - (kk + 1))
    case measure => omega
    case rel =>
     refine ⟨kk + 1, by omega, by omega, by go_num, ⟨hb'⟩, ⟨fun j hj hl => ?_⟩⟩
     by_cases e : j = kk
     ·subst e; exact HQ.out
     ·exact AA.out j (by omega) hl
  ·have hltz : ¬ (kk : Int) < (l0.length : Int) := by omega
   have hk0 : kk = l0.length := by omega
   have HM := Aside0.mk (idxI_miss p l0 (fun j hj => AA.out j (by omega) hj))
   clear hk0
   go_wp2
   go_ret
   exact ⟨by rw [HM.out]; rfl, BW.out⟩
set_option maxHeartbeats 1000000 in
set_option maxRecDepth 100000 in
theorem has48 (p : S48 → Bool) (g : Nat) (lb : Array Value) (A0 : Option Addr) (c0 : Nat) (l0 : List S48) (w : World)
  (eg : ∀ args w, (callFunc g args).run Try.prog w = .ok (.enter g args) w)
  (hp : Pred48 g lb p l0 w) (hr0 : Kd.C k48 w A0 l0.length l0) (hc0 : l0.length ≤ c0) :
  Calls Try.prog 74 #[.slice A0 l0.length c0, .func (.func g) #[] lb] w fun e w' => e = .returned (.bool (l0.any p)) ∧ Below w.heap.size w w' := by
 rw [← idxI_any]
 have HR0 := Aside0.mk hr0
 have HP := Aside0.mk hp
 have HC0 := Aside0.mk hc0
 clear hr0 hc0 hp
 go_enter Try.func74, Try.ntmps74
 go_wp2_with (go_at_call 98; refine (idx48 p g lb _ _ _ _ eg HP.out HR0.out HC0.out).mono ?_; rintro e w' ⟨rfl, hb'⟩)
 go_ret
 exact ⟨rfl, hb'⟩
def Pred28 (g : Nat) (lb : Array Value) (p : S28 → Bool) (l : List S28) (w : World) : Prop :=
 ∀ (W : World) (x : S28), Below w.heap.size w W → x ∈ l → Calls Try.prog g (#[.agg #[.int .i64 x.f0, .int .i64 x.f1]] ++ lb) W fun e w' => e = .returned (.bool (p x)) ∧ Below w.heap.size w w'
set_option maxHeartbeats 1000000 in
set_option maxRecDepth 100000 in
theorem idx28 (p : S28 → Bool) (g : Nat) (lb : Array Value) (A0 : Option Addr) (c0 : Nat) (l0 : List S28) (w : World)
  (eg : ∀ args w, (callFunc g args).run Try.prog w = .ok (.enter g args) w)
  (hp : Pred28 g lb p l0 w) (hr0 : Kd.C k28 w A0 l0.length l0) (hc0 : l0.length ≤ c0) :
  Calls Try.prog 99 #[.slice A0 l0.length c0, .func (.func g) #[] lb] w fun e w' => e = .returned (.int .i64 (idxI p l0)) ∧ Below w.heap.size w w' := by
 have hu28 := Try.underlying28
 have hn := hr0.2.1
 have HR0 := Aside0.mk hr0
 have HP := Aside0.mk hp
 have HC0 := Aside0.mk hc0
 clear hr0 hc0 hp
 go_enter Try.func99, Try.ntmps99
 go_wp2
 go_loopg [5, 8] l0.length (fun gg _ s8 wr => ∃ kk : Nat, kk ≤ l0.length ∧ l0.length - kk ≤ gg ∧ s8 = .int .i64 kk ∧ Aside0 (Below w.heap.size w wr) ∧ Aside0 (∀ j (hj : j < kk) (hl : j < l0.length), p (l0[j]) = false))
 case atStart => exact ⟨0, Nat.zero_le _, by omega, rfl, ⟨Below.refl _ w⟩, ⟨fun j hj => absurd hj (Nat.not_lt_zero _)⟩⟩
 case round =>
  obtain ⟨kk, hkk, hg, rfl, BW, AA⟩ := hrel
  by_cases hlt : kk < l0.length
  ·have hltz : (kk : Int) < (l0.length : Int) := by omega
   obtain ⟨ad, e, h0, h1⟩ := at_T28 HR0.out (kk : Int) (by omega) hltz
   cases e
   have hx : rd_T28 l0 (kk : Int) = l0[kk] := by simp [rd_T28, hlt]
   rw [hx] at h0 h1
   simp only [Int.toNat_natCast] at h0 h1
   have hcall := HP.out wr l0[kk] BW.out (List.getElem_mem hlt)
   replace h0 := (BW.out.cell (World.block_lt_of_cell? w _ h0)).trans h0
   replace h1 := (BW.out.cell (World.block_lt_of_cell? w _ h1)).trans h1
   clear hx
   have hq' : ∃ b, p l0[kk] = b := ⟨_, rfl⟩
   obtain ⟨b, hq⟩ := hq'
   rw [hq] at hcall
   have HQ := Aside0.mk hq
   clear hq
   cases b with
   | true =>
    go_wp2_with (go_at_fn g; refine hcall.mono ?_; rintro e w' ⟨rfl, hb'⟩)
    go_ret
    exact ⟨by rw [idxI_hit p l0 kk hlt (fun j hj => AA.out j hj (by omega)) HQ.out]; rfl, hb'⟩
   | false =>
    go_wp2_with (go_at_fn g; refine hcall.mono ?_; rintro e w' ⟨rfl, hb'⟩)
    go_roundg (l0.length - (kk + 1))
    case measure => omega
    case rel =>
     refine ⟨kk + 1, by omega, by omega, by go_num, ⟨hb'⟩, ⟨fun j hj hl => ?_⟩⟩
     by_cases e : j = kk
     ·subst e; exact HQ.out
     ·exact AA.out j (by omega) hl
  ·have hltz : ¬ (kk : Int) < (l0.length : Int) := by omega
   have hk0 : kk = l0.length := by omega
   have HM := Aside0.mk (idxI_miss p l0 (fun j hj => AA.out j (by omega) hj))
   clear hk0
   go_wp2
   go_ret
   exact ⟨by rw [HM.out]; rfl, BW.out⟩
set_option maxHeartbeats 1000000 in
set_option maxRecDepth 100000 in
theorem has28 (p : S28 → Bool) (g : Nat) (lb : Array Value) (A0 : Option Addr) (c0 : Nat) (l0 : List S28) (w : World)
  (eg : ∀ args w, (callFunc g args).run Try.prog w = .ok (.enter g args) w)
  (hp : Pred28 g lb p l0 w) (hr0 : Kd.C k28 w A0 l0.length l0) (hc0 : l0.length ≤ c0) :
  Calls Try.prog 78 #[.slice A0 l0.length c0, .func (.func g) #[] lb] w fun e w' => e = .returned (.bool (l0.any p)) ∧ Below w.heap.size w w' := by
 rw [← idxI_any]
 have HR0 := Aside0.mk hr0
 have HP := Aside0.mk hp
 have HC0 := Aside0.mk hc0
 clear hr0 hc0 hp
 go_enter Try.func78, Try.ntmps78
 go_wp2_with (go_at_call 99; refine (idx28 p g lb _ _ _ _ eg HP.out HR0.out HC0.out).mono ?_; rintro e w' ⟨rfl, hb'⟩)
 go_ret
 exact ⟨rfl, hb'⟩
end Go.Proofs.Ytplhfbkejngioaa.X
namespace Go.Proofs.Ytplhfbkejngioaa.X
open Go.RowKit Go.Proofs.YtplhfbkejngioaaW.PrintWords Go.Proofs.YtplhfbkejngioaaW.PrintLast Go.Proofs.Ytplhfbkejngioaa.S
set_option linter.unusedVariables false
set_option linter.unusedSimpArgs false
def cover_areRects.f (l0 : List S48) (a1 : Int) : Option Bool := some (areRs l0 a1)
set_option maxHeartbeats 1000000 in
set_option maxRecDepth 100000 in
theorem pred75 (l : List S48) (w : World) : Pred48 75 #[] (fun x => !(isR x)) l w := by
 intro W x hb hm
 clear hm
 have HB := Aside0.mk hb
 clear hb
 go_enter Try.func75, Try.ntmps75
 go_wp2_with (go_at_call 76; refine (cover_isRect.calls _ _ _ _ (isR x) _ (isRect_f x)).mono ?_; rintro e w' ⟨rfl, hb'⟩)
 go_ret
 exact ⟨rfl, below_then (below_alloc HB.out _) (below_alloc HB.out _).size hb'⟩
theorem anyR (l : List S48) : (!(l.any fun x => !(isR x))) = l.all isR := by
 rw [Bool.eq_iff_iff]; simp
set_option maxHeartbeats 1000000 in
set_option maxRecDepth 100000 in
theorem cover_areRects.calls (A0 : Option Addr) (c0 : Nat) (l0 : List S48) (a1 : Int) (r : Bool) (w : World) (hr0 : Kd.C k48 w A0 l0.length l0) (hc0 : l0.length ≤ c0) (h : cover_areRects.f l0 a1 = some r) :
  Calls Try.prog 46 #[.slice A0 l0.length c0, .int .i64 a1] w fun e w' => e = .returned (.bool r) ∧ Below w.heap.size w w' := by
 obtain rfl := Option.some.inj h
 have HR0 := Aside0.mk hr0
 have HC0 := Aside0.mk hc0
 clear hr0 hc0 h
 by_cases hm : (l0.length : Int) ≤ a1
 ·have hmb : decide ((l0.length : Int) ≤ a1) = true := decide_eq_true hm
  have HV := Aside0.mk (show areRs l0 a1 = !(l0.any fun x => !(isR x)) by unfold areRs; rw [hmb, anyR]; rfl)
  clear hm
  go_enter Try.func46, Try.ntmps46
  go_wp2_with (go_at_call 74; refine (has48 (fun x => !(isR x)) 75 #[] _ _ _ _ (Go.Proofs.enters_of Try.func75 (by kernel_rfl) rfl) (pred75 _ _) HR0.out HC0.out).mono ?_; rintro e w' ⟨rfl, hb'⟩)
  go_ret
  exact ⟨by rw [HV.out]; rfl, hb'⟩
 ·have hmb : decide ((l0.length : Int) ≤ a1) = false := decide_eq_false hm
  have HV := Aside0.mk (show areRs l0 a1 = false by unfold areRs; rw [hmb]; rfl)
  clear hm
  go_enter Try.func46, Try.ntmps46
  go_wp2
  go_ret
  exact ⟨by rw [HV.out]; rfl, Below.refl _ _⟩
end Go.Proofs.Ytplhfbkejngioaa.X
namespace Go.Proofs.Ytplhfbkejngioaa.X
open Go.RowKit Go.Proofs.YtplhfbkejngioaaW.PrintWords Go.Proofs.YtplhfbkejngioaaW.PrintLast Go.Proofs.Ytplhfbkejngioaa.S
set_option linter.unusedVariables false
set_option linter.unusedSimpArgs false
def cover_arePoints.f (l0 : List S28) : Option Bool := some (arePs l0)
set_option maxHeartbeats 1000000 in
set_option maxRecDepth 100000 in
theorem pred79 (l : List S28) (w : World) : Pred28 79 #[] (fun x => !(isP x)) l w := by
 intro W x hb hm
 clear hm
 have HB := Aside0.mk hb
 clear hb
 go_enter Try.func79, Try.ntmps79
 go_wp2_with (go_at_call 58; refine (cover_isPoint.calls _ _ (isP x) _ (isPoint_f x)).mono ?_; rintro e w' ⟨rfl, hb'⟩)
 go_ret
 exact ⟨rfl, below_then (below_alloc HB.out _) (below_alloc HB.out _).size hb'⟩
theorem anyP (l : List S28) : (!(l.any fun x => !(isP x))) = l.all isP := by
 rw [Bool.eq_iff_iff]; simp
set_option maxHeartbeats 1000000 in
set_option maxRecDepth 100000 in
theorem cover_arePoints.calls (A0 : Option Addr) (c0 : Nat) (l0 : List S28) (r : Bool) (w : World) (hr0 : Kd.C k28 w A0 l0.length l0) (hc0 : l0.length ≤ c0) (h : cover_arePoints.f l0 = some r) :
  Calls Try.prog 52 #[.slice A0 l0.length c0] w fun e w' => e = .returned (.bool r) ∧ Below w.heap.size w w' := by
 obtain rfl := Option.some.inj h
 have HR0 := Aside0.mk hr0
 have HC0 := Aside0.mk hc0
 clear hr0 hc0 h
 have HW := Aside0.mk (within_f (l0.length : Int) 1 64)
 by_cases hm : 1 ≤ l0.length ∧ l0.length ≤ 64
 ·have hmb : (decide ((1 : Int) ≤ (l0.length : Int)) && decide ((l0.length : Int) ≤ 64)) = true := by simp; omega
  rw [hmb] at HW
  have HV := Aside0.mk (show arePs l0 = !(l0.any fun x => !(isP x)) by unfold arePs; rw [anyP, decide_eq_true hm.1, decide_eq_true hm.2]; rfl)
  clear hm hmb
  go_enter Try.func52, Try.ntmps52
  go_wp2_with (first | (go_at_call 61; refine (cover_within.calls _ _ _ true _ HW.out).mono ?_; rintro e w' ⟨rfl, ⟨nd, rfl⟩⟩) | (go_at_call 78; refine (has28 (fun x => !(isP x)) 79 #[] _ _ _ _ (Go.Proofs.enters_of Try.func79 (by kernel_rfl) rfl) (pred79 _ _) (Kd.C_drewN HR0.out _) HC0.out).mono ?_; rintro e w' ⟨rfl, hb'⟩))
  go_ret
  exact ⟨by rw [HV.out]; rfl, below_then (pw_below_drewN (Below.refl w.heap.size w) nd) (pw_below_drewN (Below.refl w.heap.size w) nd).size hb'⟩
 ·have hmb : (decide ((1 : Int) ≤ (l0.length : Int)) && decide ((l0.length : Int) ≤ 64)) = false := by simp; omega
  rw [hmb] at HW
  have HV := Aside0.mk (show arePs l0 = false by
   unfold arePs
   have : (decide (1 ≤ l0.length) && decide (l0.length ≤ 64)) = false := by simp; omega
   rw [this]; rfl)
  clear hm hmb
  go_enter Try.func52, Try.ntmps52
  go_wp2_with (first | (go_at_call 61; refine (cover_within.calls _ _ _ false _ HW.out).mono ?_; rintro e w' ⟨rfl, ⟨nd, rfl⟩⟩))
  go_ret
  exact ⟨by rw [HV.out]; rfl, pw_below_drewN (Below.refl _ _) _⟩
end Go.Proofs.Ytplhfbkejngioaa.X
namespace Go.Proofs.Ytplhfbkejngioaa.X
open Go.RowKit Go.Proofs.YtplhfbkejngioaaW.PrintWords Go.Proofs.YtplhfbkejngioaaW.PrintLast Go.Proofs.Ytplhfbkejngioaa.S
set_option linter.unusedVariables false
set_option linter.unusedSimpArgs false
def cover_encloses.f (a0_0 a0_1 a0_2 a0_3 : Int) (l1 : List S28) : Option Bool := if okC ⟨a0_0, a0_1, a0_2, a0_3⟩ ∧ l1.all isP = true then some (enclosesC ⟨a0_0, a0_1, a0_2, a0_3⟩ l1) else none
set_option maxHeartbeats 1000000 in
set_option maxRecDepth 100000 in
theorem pred83 (w : World) (B : Nat) (c : Ci) (hc : okC c) (hB : B < w.heap.size) (hb0 : w.heap[B]? = some (.cells #[.int .i64 c.X, .int .i64 c.Y, .int .i64 c.D, .int .i64 c.R] 40 (0, 0))) (W : World) (x : S28) (hx : isP x = true) (hb : Below w.heap.size w W) :
  Calls Try.prog 83 #[.agg #[.int .i64 x.f0, .int .i64 x.f1], .pointer (some ⟨B, 0, none⟩)] W fun e w' => e = .returned (.bool (outC c x)) ∧ Below w.heap.size w w' := by
 have h0 : W.cell? ⟨B, 0, none⟩ = some (.int .i64 c.X) := (hb.cell (p := ⟨B, 0, none⟩) hB).trans ((blk_cell hb0 0).trans rfl)
 have h1 : W.cell? ⟨B, 1, none⟩ = some (.int .i64 c.Y) := (hb.cell (p := ⟨B, 1, none⟩) hB).trans ((blk_cell hb0 1).trans rfl)
 have h2 : W.cell? ⟨B, 2, none⟩ = some (.int .i64 c.D) := (hb.cell (p := ⟨B, 2, none⟩) hB).trans ((blk_cell hb0 2).trans rfl)
 have h3 : W.cell? ⟨B, 3, none⟩ = some (.int .i64 c.R) := (hb.cell (p := ⟨B, 3, none⟩) hB).trans ((blk_cell hb0 3).trans rfl)
 have hu40 := Try.underlying40
 have hBW : B < W.heap.size := Nat.lt_of_lt_of_le hB hb.size
 have HB := Aside0.mk hb
 have HS := Aside0.mk (side_f hc hx)
 have HP := Aside0.mk (side_pos (c := c) (p := x))
 clear hb hb0 hc hx
 generalize hv : (if farC c x < c.R then (-1 : Int) else if c.R < farC c x then 1 else 0) = v at HS HP
 clear hv
 go_enter Try.func83, Try.ntmps83
 go_wp2_with (first | (go_at_call 59; refine (cover_side.calls _ _ _ _ _ _ v _ HS.out).mono ?_; rintro e w' ⟨rfl, hb'⟩))
 go_ret
 exact ⟨by rw [← HP.out]; rfl, below_then (below_alloc HB.out _) (below_alloc HB.out _).size hb'⟩
set_option maxHeartbeats 1000000 in
set_option maxRecDepth 100000 in
theorem cover_encloses.calls (a0_0 : Int) (a0_1 : Int) (a0_2 : Int) (a0_3 : Int) (A1 : Option Addr) (c1 : Nat) (l1 : List S28) (r : Bool) (w : World) (hr1 : Kd.C k28 w A1 l1.length l1) (hc1 : l1.length ≤ c1) (h : cover_encloses.f a0_0 a0_1 a0_2 a0_3 l1 = some r) :
  Calls Try.prog 54 #[.agg #[.int .i64 a0_0, .int .i64 a0_1, .int .i64 a0_2, .int .i64 a0_3], .slice A1 l1.length c1] w fun e w' => e = .returned (.bool r) ∧ Below w.heap.size w w' := by
 unfold cover_encloses.f at h
 split at h
 ·rename_i hok
  obtain rfl := Option.some.inj h
  obtain ⟨hok, hall⟩ := hok
  have HOK := Aside0.mk hok
  have HA := Aside0.mk (List.all_eq_true.1 hall)
  have HR1 := Aside0.mk hr1
  have HC1 := Aside0.mk hc1
  clear hr1 hc1 h hok hall
  have hn := heap_alloc_new w (.cells #[.int .i64 a0_0, .int .i64 a0_1, .int .i64 a0_2, .int .i64 a0_3] 40)
  have HP := Aside0.mk (pred83 (w.alloc (.cells #[.int .i64 a0_0, .int .i64 a0_1, .int .i64 a0_2, .int .i64 a0_3] 40)) w.heap.size ⟨a0_0, a0_1, a0_2, a0_3⟩ HOK.out (by simp) (by simpa using hn))
  clear hn
  have hu40 := Try.underlying40
  go_enter Try.func54, Try.ntmps54
  go_wp2_with (first | (go_at_call 78; refine (has28 (outC ⟨a0_0, a0_1, a0_2, a0_3⟩) 83 #[.pointer (some ⟨w.heap.size, 0, none⟩)] _ _ _ _ (Go.Proofs.enters_of Try.func83 (by kernel_rfl) rfl) (fun W x hb hm => HP.out W x (HA.out x hm) hb) (Kd.C_alloc HR1.out _) HC1.out).mono ?_; rintro e w' ⟨rfl, hb'⟩))
  go_ret
  exact ⟨rfl, below_then (below_alloc (Below.refl _ w) _) (below_alloc (Below.refl _ w) _).size hb'⟩
 ·simp at h
end Go.Proofs.Ytplhfbkejngioaa.X
