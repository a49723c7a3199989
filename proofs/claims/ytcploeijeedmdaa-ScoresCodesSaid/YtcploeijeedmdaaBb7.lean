/- A square table that is being made: rows of one's own, written in place. Texts of this claim's session, put together: SMap, SVis, STr, SRng, SCt. -/
import Derived.Test.YtcploeijeedmdaaBb6
import Derived.Maps.OwnOps
import Derived.Maps.OwnSet
import Derived.Maps.RangeWalk
import Derived.Test.YtcploeijeedmdaaVWords
import Derived.Test.YtcploeijeedmdaaVLast
import Derived.Test.YtcploeijeedmdaaVRepsOne
namespace Go.Proofs.Ytcploeijeedmdaa.X
open Go.RowKit Go.Shelf Go.Maps Go.Proofs.YtcploeijeedmdaaW.PrintWords Go.Proofs.YtcploeijeedmdaaW.PrintLast Go.Proofs.Ytcploeijeedmdaa.S
set_option linter.unusedVariables false
set_option linter.unusedSimpArgs false
theorem key3 : Keyed Try.prog 3 := int_keyed Try.underlying3
theorem zero4 (w : World) : (zeroValue 4).run Try.prog w = .ok (.bool false) w := Try.zeroValue4 w
def ik (x : Nat) : Lit := .int .i64 (x : Int)
theorem ik_wf {x : Nat} (h : x < 1000) : (ik x).wf = true := WalkArith.wf_i64 (by omega)
theorem ik_key {x : Nat} (h : x < 1000) : keyOf Try.prog 3 (.int .i64 (x : Int)) = some (ik x) := keyOf_int_mk Try.underlying3 (ik_wf h)
theorem ik_ne {x y : Nat} (h : x ≠ y) : ik x ≠ ik y := by unfold ik; intro e; injection e with _ e; omega
structure SetM (W : World) (b n : Nat) (s : Nat → Bool) (c : Nat) : Prop where
 ex : ∃ D : DataW Unit, W.ownsMap Try.prog 3 (plainElem Try.prog 4) b n D ∧ (∀ x, D.atKey (ik x) (.lit (.bool false)) = .lit (.bool (s x))) ∧ (∀ x, Maps.has D (ik x) = s x) ∧ Maps.size D = c ∧ ∀ kl, Maps.has D kl = true → ∃ x, kl = ik x
def putS (s : Nat → Bool) (v : Nat) : Nat → Bool := fun x => if x = v then true else s x
def delS (s : Nat → Bool) (v : Nat) : Nat → Bool := fun x => if x = v then false else s x
theorem SetM.made (w : World) : SetM (w.alloc (.map #[] 0)) w.heap.size 0 (fun _ => false) 0 := ⟨.map [], World.ownsMap_made _ _ _ _, fun x => rfl, fun x => rfl, rfl, fun kl h => by cases h⟩
theorem SetM.kept {W W' : World} {b n c : Nat} {s : Nat → Bool} {row : Option Nat} (h : SetM W b n s c) (hg : W.grownBy W' row) (hne : some b ≠ row) : SetM W' b n s c := by
 obtain ⟨D, h1, h2⟩ := h.ex
 exact ⟨D, h1.kept hg hne, h2⟩
theorem SetM.map {W : World} {b n c : Nat} {s : Nat → Bool} (h : SetM W b n s c) : ∃ es clk, W.heap[b]? = some (.map es clk) := by
 obtain ⟨D, ⟨es, clk, h1, _⟩, _⟩ := h.ex
 exact ⟨es, clk, h1⟩
theorem SetM.ne {W : World} {b n c g : Nat} {s : Nat → Bool} {t : TypeId} {cs : Array Value} {fz : Nat × Nat} (h : SetM W b n s c) (hg : W.heap[g]? = some (.cells cs t fz)) : g ≠ b := by
 obtain ⟨es, clk, hm⟩ := h.map
 rintro rfl
 rw [hg] at hm
 cases hm
theorem SetM.neCell {W : World} {b n c : Nat} {s : Nat → Bool} {a : Addr} {v : Value} (h : SetM W b n s c) (hc : W.cell? a = some v) : some a.block ≠ some b := by
 obtain ⟨es, clk, hm⟩ := h.map
 intro e
 injection e with e
 unfold World.cell? at hc
 rw [e, hm] at hc
 simp at hc
section
variable {ops : Array Oper} {o : Oper} {rest : List Oper} {a : Act} {Q : Exit → Act → World → Prop} {w : World} {b n c : Nat} {s : Nat → Bool}
theorem set_lookup (hg : o.guard = none) (m x : Operand) (hop : o.op = Op.lookup 93 m x false) (hm : a.eval m = .map (some b)) (h : SetM w b n s c) (v : Nat) (hv : v < 1000) (hx : a.eval x = .int .i64 (v : Int))
  (hK : wpList Try.prog ops Q rest (a.put o.dst (.bool (s v))) w) : wpList Try.prog ops Q (o :: rest) a w := by
 obtain ⟨D, h1, h2, h3, h4, h5⟩ := h.ex
 refine wpList_plain hg fun K' hK' => ?_
 obtain ⟨val, ps, hrun, hval⟩ := h1.lookup (t := 93) (e := 4) key3 Try.underlying93 (zero4 w) (plainElem_bool Try.underlying4 false) (ik_key hv)
 rw [h2 v] at hval
 have hb : val = .bool (s v) := by
  cases val <;> simp [plainElem, Try.underlying4] at hval
  rename_i bb
  rw [hval.1]
 rw [hb] at hrun
 unfold Oper.wp
 simp [execOp, hop, hm, hx, hrun, Result.andThen]
 exact hK' _ _ hK
theorem set_put (hg : o.guard = none) (m x v : Operand) (hop : o.op = Op.mapUpdate 93 m x v) (hm : a.eval m = .map (some b)) (h : SetM w b n s c) (hn : n < 1000) (u : Nat) (hu : u < 1000) (hx : a.eval x = .int .i64 (u : Int)) (hv : a.eval v = .bool true)
  (hK : ∀ w', SetM w' b (n + 1) (putS s u) (if s u then c else c + 1) → w.grownBy w' (some b) → wpList Try.prog ops Q rest (a.put o.dst undef) w') : wpList Try.prog ops Q (o :: rest) a w := by
 obtain ⟨D, h1, h2, h3, h4, h5⟩ := h.ex
 refine wpList_mapUpdate_own w hg m x v 93 hop 3 4 key3 Try.underlying93 _ b n D hm h1 (by unfold maxLen; omega) _ _ (ik u) hx hv (ik_key hu) (.lit (.bool true)) [] (plainElem_bool Try.underlying4 true) ?_
 intro w' r1 r2
 have hl : WideAt.IsKeyLit (ik u) := trivial
 refine hK w' ⟨_, r1, fun x => ?_, fun x => ?_, ?_, fun kl hkl => ?_⟩ r2
 ·unfold putS
  by_cases hxu : x = u
  ·subst hxu; rw [if_pos rfl]; exact atKey_put_same h1.isMap hl _ _
  ·rw [if_neg hxu, atKey_put_other (ik_ne hxu)]; exact h2 x
 ·unfold putS
  by_cases hxu : x = u
  ·subst hxu; rw [if_pos rfl]; exact has_put_same h1.isMap hl _
  ·rw [if_neg hxu, has_put_other (ik_ne hxu)]; exact h3 x
 ·rw [size_put (h1.tidy key3), h3 u, h4]
 ·by_cases hku : kl = ik u
  ·exact ⟨u, hku⟩
  ·rw [has_put_other hku] at hkl
   exact h5 kl hkl
theorem set_len (hg : o.guard = none) (m : Operand) (hop : o.op = Op.call { callee := Callee.builtin Builtin.len, args := #[m], argTypes := #[93] }) (hm : a.eval m = .map (some b)) (h : SetM w b n s c)
  (hK : wpList Try.prog ops Q rest (a.put o.dst (.int .i64 (c : Int))) w) : wpList Try.prog ops Q (o :: rest) a w := by
 obtain ⟨D, h1, h2, h3, h4, h5⟩ := h.ex
 refine wpList_len_own w hg m 93 hop 3 4 Try.underlying93 _ b n D hm h1 ?_
 rw [h4]
 exact hK
end
end Go.Proofs.Ytcploeijeedmdaa.X
namespace Go.Proofs.Ytcploeijeedmdaa.X
open Go.RowKit Go.Shelf Go.Maps Go.Proofs.YtcploeijeedmdaaW.PrintWords Go.Proofs.YtcploeijeedmdaaW.PrintLast Go.Proofs.Ytcploeijeedmdaa.S
set_option linter.unusedVariables false
set_option linter.unusedSimpArgs false
def cnt (N : Nat) (s : Nat → Bool) : Nat := (List.range N).countP s
theorem cnt_le (N : Nat) (s : Nat → Bool) : cnt N s ≤ N := by
 have := List.countP_le_length (p := s) (l := List.range N)
 rw [List.length_range] at this
 exact this
theorem cnt_mono {N : Nat} {s s' : Nat → Bool} (h : ∀ x, s x = true → s' x = true) : cnt N s ≤ cnt N s' := List.countP_mono_left (fun x _ hx => h x hx)
theorem cnt_succ (N : Nat) (s : Nat → Bool) : cnt (N + 1) s = cnt N s + if s N then 1 else 0 := by
 unfold cnt
 rw [List.range_succ, List.countP_append, List.countP_singleton]
theorem cnt_put : ∀ {N : Nat} {s : Nat → Bool} {v : Nat}, v < N → s v = false → cnt N (putS s v) = cnt N s + 1
 | 0, s, v, h, _ => absurd h (Nat.not_lt_zero _)
 | N + 1, s, v, h, hs => by
  rw [cnt_succ, cnt_succ]
  rcases Nat.lt_or_eq_of_le (Nat.le_of_lt_succ h) with h' | rfl
  ·rw [cnt_put h' hs]
   have : putS s v N = s N := by unfold putS; rw [if_neg (by omega)]
   rw [this]
   omega
  ·have e : cnt v (putS s v) = cnt v s := by
    unfold cnt
    refine List.countP_congr (fun x hx => ?_)
    have : x ≠ v := by have := List.mem_range.1 hx; omega
    unfold putS
    rw [if_neg this]
   have e2 : putS s v v = true := by unfold putS; rw [if_pos rfl]
   rw [e, e2, hs]
   rfl
theorem cnt_zero (N : Nat) : cnt N (fun _ => false) = 0 := by unfold cnt; simp
def nb (T : List (List Nat)) (x : Nat) : List Nat := T.getD x []
def toI (T : List (List Nat)) : List (List Int) := T.map fun y => y.map fun x : Nat => (x : Int)
inductive Rch (T : List (List Nat)) (v : Nat) : Nat → Prop
 | refl : Rch T v v
 | step {x y : Nat} : Rch T v x → y ∈ nb T x → Rch T v y
theorem Rch.head {T : List (List Nat)} {v u x : Nat} (h : u ∈ nb T v) (k : Rch T u x) : Rch T v x := by
 induction k with
 | refl => exact .step .refl h
 | step _ hy ih => exact .step ih hy
theorem RowI.kept {W W' : World} {A : Option Addr} {xs : List Int} {bm n c : Nat} {s : Nat → Bool} (h : RowI W A xs) (hm : SetM W bm n s c) (hg : W.grownBy W' (some bm)) : RowI W' A xs := by
 refine ⟨?_, h.2⟩
 have hr := Kd.reads_of_C (d := (0 : Int)) h.1
 refine Kd.C_of_reads (d := (0 : Int)) (h1 := fun _ => rfl) ⟨hr.1, hr.2.1, fun hn => ?_⟩
 obtain ⟨ad, e, hc⟩ := hr.2.2 hn
 exact ⟨ad, e, fun j hj => hg.cell (hc j hj) (hm.neCell (hc j hj))⟩
theorem RowLL.kept {W W' : World} {A : Option Addr} {t : List (List Int)} {bm n c : Nat} {s : Nat → Bool} (h : RowLL W A t) (hm : SetM W bm n s c) (hg : W.grownBy W' (some bm)) : RowLL W' A t := by
 refine ⟨h.len, fun i y hi => ?_⟩
 obtain ⟨b, o, Ai, ci, e, h1, h2, h3⟩ := h.row i y hi
 exact ⟨b, o, Ai, ci, e, hg.cell h1 (hm.neCell h1), h2, h3.kept hm hg⟩
structure VE (A : Option Addr) (c : Nat) (T : List (List Nat)) (b9 b6 b10 bm : Nat) (W : World) : Prop where
 h9 : W.cell? ⟨b9, 0, none⟩ = some (.map (some bm))
 h6 : W.cell? ⟨b6, 0, none⟩ = some (.slice A T.length c)
 h10 : W.cell? ⟨b10, 0, none⟩ = some (.func (.func 84) #[] #[.pointer (some ⟨b9, 0, none⟩), .pointer (some ⟨b6, 0, none⟩), .pointer (some ⟨b10, 0, none⟩)])
 rows : RowLL W A (toI T)
theorem VE.kept {A : Option Addr} {c b9 b6 b10 bm n k : Nat} {T : List (List Nat)} {s : Nat → Bool} {W W' : World} (h : VE A c T b9 b6 b10 bm W) (hm : SetM W bm n s k) (hg : W.grownBy W' (some bm)) : VE A c T b9 b6 b10 bm W' :=
 ⟨hg.cell h.h9 (hm.neCell h.h9), hg.cell h.h6 (hm.neCell h.h6), hg.cell h.h10 (hm.neCell h.h10), h.rows.kept hm hg⟩
structure Vis (T : List (List Nat)) (v : Nat) (s s' : Nat → Bool) : Prop where
 up : ∀ x, s x = true → s' x = true
 at_ : s' v = true
 rch : ∀ x, s' x = true → s x = true ∨ Rch T v x
 shut : ∀ x, s' x = true → s x = false → ∀ y ∈ nb T x, s' y = true
structure VisI (T : List (List Nat)) (v : Nat) (s s' : Nat → Bool) (i : Nat) : Prop where
 up : ∀ x, s x = true → s' x = true
 at_ : s' v = true
 rch : ∀ x, s' x = true → s x = true ∨ Rch T v x
 shut : ∀ x, s' x = true → s x = false → x ≠ v → ∀ y ∈ nb T x, s' y = true
 done : ∀ j y, j < i → (nb T v)[j]? = some y → s' y = true
theorem VisI.start (T : List (List Nat)) (v : Nat) (s : Nat → Bool) : VisI T v s (putS s v) 0 := by
 refine ⟨fun x h => ?_, ?_, fun x h => ?_, fun x h h1 h2 => ?_, fun j y h => absurd h (Nat.not_lt_zero _)⟩
 ·unfold putS; split
  ·rfl
  ·exact h
 ·unfold putS; rw [if_pos rfl]
 ·unfold putS at h; split at h
  ·rename_i e; subst e; exact .inr .refl
  ·exact .inl h
 ·unfold putS at h; rw [if_neg h2, h1] at h; cases h
theorem VisI.skip {T : List (List Nat)} {v : Nat} {s s' : Nat → Bool} {i u : Nat} (h : VisI T v s s' i) (hu : (nb T v)[i]? = some u) (hs : s' u = true) : VisI T v s s' (i + 1) := by
 refine ⟨h.up, h.at_, h.rch, h.shut, fun j y hj hy => ?_⟩
 rcases Nat.lt_or_eq_of_le (Nat.le_of_lt_succ hj) with hj | rfl
 ·exact h.done j y hj hy
 ·rw [hu] at hy; cases hy; exact hs
theorem VisI.call {T : List (List Nat)} {v : Nat} {s s' s2 : Nat → Bool} {i u : Nat} (h : VisI T v s s' i) (hu : (nb T v)[i]? = some u) (k : Vis T u s' s2) : VisI T v s s2 (i + 1) := by
 refine ⟨fun x hx => k.up x (h.up x hx), k.up v h.at_, fun x hx => ?_, fun x hx h1 h2 y hy => ?_, fun j y hj hy => ?_⟩
 ·rcases k.rch x hx with hx | hx
  ·exact h.rch x hx
  ·exact .inr (Rch.head (List.mem_of_getElem? hu) hx)
 ·cases hs : s' x with
  | true => exact k.up y (h.shut x hs h1 h2 y hy)
  | false => exact k.shut x hx hs y hy
 ·rcases Nat.lt_or_eq_of_le (Nat.le_of_lt_succ hj) with hj | rfl
  ·exact k.up y (h.done j y hj hy)
  ·rw [hu] at hy; cases hy; exact k.at_
theorem VisI.all {T : List (List Nat)} {v : Nat} {s s' : Nat → Bool} (h : VisI T v s s' (nb T v).length) : Vis T v s s' := by
 refine ⟨h.up, h.at_, h.rch, fun x hx h1 y hy => ?_⟩
 by_cases hxv : x = v
 ·subst hxv
  obtain ⟨j, hj, rfl⟩ := List.getElem_of_mem hy
  exact h.done j _ hj (List.getElem?_eq_getElem hj)
 ·exact h.shut x hx h1 hxv y hy
theorem nb_row {T : List (List Nat)} {v : Nat} (hv : v < T.length) : (toI T)[v]? = some ((nb T v).map fun x : Nat => (x : Int)) := by
 unfold toI nb
 rw [List.getElem?_map, List.getElem?_eq_getElem hv, List.getD_eq_getElem?_getD, List.getElem?_eq_getElem hv]
 rfl
set_option maxHeartbeats 2000000 in
set_option maxRecDepth 100000 in
theorem visit_calls (A : Option Addr) (c : Nat) (T : List (List Nat)) (b9 b6 b10 bm : Nat) (hN : T.length ≤ 20) (hT : ∀ x y, y ∈ nb T x → y < T.length) :
  ∀ (m : Nat) (s : Nat → Bool) (W : World) (v : Nat), T.length - cnt T.length s ≤ m → v < T.length → s v = false → VE A c T b9 b6 b10 bm W → SetM W bm (cnt T.length s) s (cnt T.length s) →
   Calls Try.prog 84 #[.int .i64 (v : Int), .pointer (some ⟨b9, 0, none⟩), .pointer (some ⟨b6, 0, none⟩), .pointer (some ⟨b10, 0, none⟩)] W fun e w' => e = .returned (.tuple #[]) ∧ ∃ s', SetM w' bm (cnt T.length s') s' (cnt T.length s') ∧ Vis T v s s' ∧ W.grownBy w' (some bm) := by
 intro m
 induction m with
 | zero =>
  intro s W v hm hv hs _ _
  exfalso
  have h1 := cnt_put hv hs
  have h2 := cnt_le T.length (putS s v)
  omega
 | succ m ih =>
  intro s W v hm hv hs hE hS
  have IH := Aside0.mk ih
  have HM := Aside0.mk hm
  have HV := Aside0.mk hv
  have HS := Aside0.mk hs
  have HE := Aside0.mk hE
  have HST := Aside0.mk hS
  have HN := Aside0.mk hN
  have HT := Aside0.mk hT
  have HC1 := Aside0.mk (show cnt T.length s < 1000 by have := cnt_le T.length s; omega)
  have c9 := hE.h9
  clear ih hm hv hs hE hS hN hT
  go_enter Try.func84, Try.ntmps84
  go_wp2_with (first
   | (
     at_mapUpdate
     refine set_put (b := bm) rfl (.tmp 7) (.tmp 8) _ rfl rfl HST.out HC1.out v (by have := HV.out; have := HN.out; omega) rfl rfl ?_
     intro w1 hs1 hg1
     have HG1 := Aside0.mk hg1
     have HE1 := Aside0.mk (HE.out.kept HST.out hg1)
     have hs1' : SetM w1 bm (cnt T.length (putS s v)) (putS s v) (cnt T.length (putS s v)) := by rw [cnt_put HV.out HS.out]; rw [HS.out] at hs1; exact hs1
     have HS1 := Aside0.mk hs1'
     have c6 := HE1.out.h6
     obtain ⟨ad, Av, cv, y, hy, e, hcell, hcl, hrow⟩ := HE1.out.rows.at_ (i := v) (by unfold toI; rw [List.length_map]; exact HV.out)
     have HA := Aside0.mk e
     rw [e] at c6
     rw [nb_row HV.out] at hy
     injection hy with hy
     have hyl : y.length = (nb T v).length := by rw [← hy, List.length_map]
     rw [hyl] at hcell
     have HRW := Aside0.mk (by rw [← hy] at hrow; exact hrow : RowI w1 Av ((nb T v).map fun x : Nat => (x : Int)))
     have hvz : (v : Int) < (T.length : Int) := by have := HV.out; omega
     clear hs1 hs1' hg1 c9 e hy hyl hcl hrow))
  obtain ⟨k, HK⟩ : ∃ k, Aside0 ((nb T v).length = k) := ⟨_, ⟨rfl⟩⟩
  rw [HK.out]
  have HKB := Aside0.mk (show k ≤ 9223372036854775807 by have h := HRW.out.len; rw [List.length_map, HK.out] at h; exact h)
  go_loopw [14] (fun iv wr => ∃ (i : Nat) (s2 : Nat → Bool), i ≤ k ∧ iv = .int .i64 (i : Int) ∧ Aside0 (VisI T v s s2 i) ∧ Aside0 (SetM wr bm (cnt T.length s2) s2 (cnt T.length s2)) ∧ Aside0 (VE A c T b9 b6 b10 bm wr) ∧ Aside0 (W.grownBy wr (some bm)) ∧ Aside0 (RowI wr Av ((nb T v).map fun x : Nat => (x : Int)))) (fun iv _ => k - (intOf iv).toNat)
  case atStart => exact ⟨0, putS s v, Nat.zero_le _, rfl, ⟨VisI.start T v s⟩, HS1, HE1, HG1, HRW⟩
  case round =>
   obtain ⟨i, s2, hi, rfl, HVI, HSr, HEr, HGr, HRr⟩ := hrel
   by_cases hil : i < k
   ·have HI := Aside0.mk hil
    have hz : (i : Int) < (k : Int) := by omega
    obtain ⟨av, x, hx, e, hcx⟩ := HRr.out.at_ (i := i) (by rw [List.length_map, HK.out]; exact hil)
    subst e
    rw [List.getElem?_map] at hx
    obtain ⟨u, hu, rfl⟩ := Option.map_eq_some_iff.1 hx
    have HU := Aside0.mk hu
    have hut : u < T.length := HT.out v u (List.mem_of_getElem? hu)
    have HUT := Aside0.mk hut
    have c9 := HEr.out.h9
    have c10 := HEr.out.h10
    clear hx hu hut hi hil
    cases hsu : s2 u with
    | true =>
     have HSU := Aside0.mk hsu
     go_wp2_with (first
      | (
        at_lookup
        refine set_lookup (b := bm) rfl (.tmp 18) (.tmp 19) rfl rfl HSr.out u (by have := HUT.out; have := HN.out; omega) rfl ?_
        rw [hsu]))
     go_roundw
     ·exact ⟨i + 1, s2, HI.out, congrArg (Value.int .i64) (nxtN (by have := HI.out; have := HKB.out; omega)), ⟨HVI.out.skip HU.out HSU.out⟩, HSr, HEr, HGr, HRr⟩
     ·rw [nxtN (by have := HI.out; have := HKB.out; omega)]; have := HI.out; simp only [intOf]; omega
    | false =>
     have HSU := Aside0.mk hsu
     have HCA := Aside0.mk (IH.out s2 wr u (by
      have h1 := HM.out
      have h2 := cnt_put HV.out HS.out
      have h3 := cnt_mono (N := T.length) (s := putS s v) (s' := s2) (fun x hx => by
       unfold putS at hx
       split at hx
       ·rename_i e; subst e; exact HVI.out.at_
       ·exact HVI.out.up x hx)
      have h4 := cnt_le T.length s2
      omega) HUT.out hsu HEr.out HSr.out)
     go_wp2_with (first
      | (
        at_lookup
        refine set_lookup (b := bm) rfl (.tmp 18) (.tmp 19) rfl rfl HSr.out u (by have := HUT.out; have := HN.out; omega) rfl ?_
        rw [hsu])
      | (
        go_at_call 84; (with_reducible refine HCA.out.mono ?_); rintro e w3 ⟨rfl, s3, hs3, hv3, hg3⟩
        have HS3 := Aside0.mk hs3
        have HV3 := Aside0.mk hv3
        have HE3 := Aside0.mk (HEr.out.kept HSr.out hg3)
        have HR3 := Aside0.mk (HRr.out.kept HSr.out hg3)
        have HG3 := Aside0.mk (HGr.out.trans hg3)
        clear hs3 hv3 hg3 HCA))
     go_roundw
     ·exact ⟨i + 1, s3, HI.out, congrArg (Value.int .i64) (nxtN (by have := HI.out; have := HKB.out; omega)), ⟨HVI.out.call HU.out HV3.out⟩, HS3, HE3, HG3, HR3⟩
     ·rw [nxtN (by have := HI.out; have := HKB.out; omega)]; have := HI.out; simp only [intOf]; omega
   ·obtain rfl : k = i := by omega
    have HVA := Aside0.mk (show Vis T v s s2 from by have h := HVI.out; rw [← HK.out] at h; exact h.all)
    clear hi hil
    go_wp2
    go_end0
    exact ⟨rfl, s2, HSr.out, HVA.out, HGr.out⟩
end Go.Proofs.Ytcploeijeedmdaa.X
namespace Go.Proofs.Ytcploeijeedmdaa.X
open Go.RowKit Go.Shelf Go.Maps Go.Proofs.YtcploeijeedmdaaW.PrintWords Go.Proofs.YtcploeijeedmdaaW.PrintLast Go.Proofs.Ytcploeijeedmdaa.S
set_option linter.unusedVariables false
set_option linter.unusedSimpArgs false
theorem grownBy_set (W : World) (p : Addr) (u : Value) : W.grownBy (W.setCell p u) (some p.block) := by
 refine ⟨rfl, rfl, rfl, by simp, fun k hk hne => ?_⟩
 show (W.heap.modify p.block _)[k]? = _
 rw [Array.getElem?_modify, if_neg (fun e => hne (by rw [e]))]
structure RowP (W : World) (A : Option Addr) (P : List (Int × Int)) : Prop where
 len : P.length ≤ 9223372036854775807
 row : ∀ (i : Nat) (p : Int × Int), P[i]? = some p → ∃ b o, A = some ⟨b, o, none⟩ ∧ W.cell? ⟨b, o + i * 2, none⟩ = some (.int .i64 p.1) ∧ W.cell? ⟨b, o + i * 2 + 1, none⟩ = some (.int .i64 p.2)
theorem RowP.below {W W' : World} {A : Option Addr} {P : List (Int × Int)} (h : RowP W A P) (hb : Below W.heap.size W W') : RowP W' A P := by
 refine ⟨h.len, fun i p hi => ?_⟩
 obtain ⟨b, o, e, h1, h2⟩ := h.row i p hi
 exact ⟨b, o, e, pw_cell_below hb h1, pw_cell_below hb h2⟩
theorem RowP.at_ {W : World} {A : Option Addr} {P : List (Int × Int)} (h : RowP W A P) {i : Nat} (hi : i < P.length) : ∃ ad x y, P[i]? = some (x, y) ∧ A = some ad ∧ W.cell? (ad.add (i * 2)) = some (.int .i64 x) ∧ W.cell? ⟨(ad.add (i * 2)).block, (ad.add (i * 2)).off + 1, none⟩ = some (.int .i64 y) := by
 obtain ⟨b, o, e, h1, h2⟩ := h.row i P[i] (List.getElem?_eq_getElem hi)
 exact ⟨_, _, _, List.getElem?_eq_getElem hi, e, by rw [Addr.add_lit]; exact h1, by rw [Addr.add_lit]; exact h2⟩
def natI (l : List Nat) : List Int := l.map fun x : Nat => (x : Int)
theorem natI_len (l : List Nat) : (natI l).length = l.length := by unfold natI; rw [List.length_map]
theorem natI_snoc (l : List Nat) (b : Nat) : natI (l ++ [b]) = natI l ++ [(b : Int)] := by unfold natI; rw [List.map_append]; rfl
theorem grow_below {w0 W w1 : World} {v : Value} {xs : List Int} {base : Nat} (hb : Below base w0 W) (ho : OwnI W base v xs) (hg : W.grownBy w1 v.ownBlock) (hB : base ≤ W.heap.size) : Below base w0 w1 := pw_below_grown hb _ hB hg (fun k hk => (ho.lt hk).2)
structure Tr (W : World) (base g n : Nat) (f : Nat → List Nat) (vs : List Value) : Prop where
 hb : base ≤ g
 len : vs.length = n
 blk : W.heap[g]? = some (.cells vs.toArray 24 (0, 0))
 row : ∀ (i : Nat) (v : Value), vs[i]? = some v → OwnI W base v (natI (f i))
 apart : ∀ (i j : Nat) (v u : Value) (k : Nat), i ≠ j → vs[i]? = some v → vs[j]? = some u → v.ownBlock = some k → u.ownBlock ≠ some k
theorem Tr.grown {W W' : World} {base g n : Nat} {f : Nat → List Nat} {vs : List Value} (h : Tr W base g n f vs) (hb : Below W.heap.size W W') : Tr W' base g n f vs := by
 refine ⟨h.hb, h.len, (hb.block g (blk_lt h.blk)).trans h.blk, fun i v hi => (h.row i v hi).below (fun k hk => ((h.row i v hi).lt hk).1) hb, h.apart⟩
theorem Tr.far {W : World} {base g g' n i : Nat} {f : Nat → List Nat} {vs : List Value} (h : Tr W base g n f vs) (hne : g' ≠ g) (u : Value) {t : TypeId} {cs : Array Value} (hg : W.heap[g']? = some (.cells cs t (0, 0))) (ht : t ≠ 3) : Tr (W.setCell ⟨g', i, none⟩ u) base g n f vs := by
 have hgs : W.grownBy (W.setCell ⟨g', i, none⟩ u) (some g') := grownBy_set W ⟨g', i, none⟩ u
 refine ⟨h.hb, h.len, blk_grown h.blk hgs (fun e => hne (by injection e with e; exact e.symm)), fun i v hi => (h.row i v hi).grown hgs (fun k hk e => ((h.row i v hi).ne hg ht) (by rw [hk, e])), h.apart⟩
theorem Tr.step {W w1 : World} {base g n a b : Nat} {f : Nat → List Nat} {vs : List Value} {v v1 : Value} (h : Tr W base g n f vs) (hv : vs[a]? = some v) (ho : OwnI w1 base v1 (natI (f a) ++ [(b : Int)])) (hg : W.grownBy w1 v.ownBlock)
  (hat : v1.ownBlock = v.ownBlock ∨ ∃ c, v1.ownBlock = some c ∧ W.heap.size ≤ c) :
  Tr (w1.setCell ⟨g, a, none⟩ v1) base g n (fun x => if x = a then f a ++ [b] else f x) (vs.set a v1) := by
 have hgb : w1.heap[g]? = some (.cells vs.toArray 24 (0, 0)) := blk_grown h.blk hg ((h.row a v hv).ne h.blk (by decide))
 have hgs : w1.grownBy (w1.setCell ⟨g, a, none⟩ v1) (some g) := grownBy_set w1 ⟨g, a, none⟩ v1
 have hal : a < vs.length := (List.getElem?_eq_some_iff.1 hv).1
 have hne : ∀ {x : Value} {xs : List Int}, OwnI w1 base x xs → ∀ k, x.ownBlock = some k → some k ≠ some g := fun hx k hk e => (hx.ne hgb (by decide)) (by rw [hk, e])
 have hkey : ∀ i u k, i ≠ a → vs[i]? = some u → u.ownBlock = some k → v1.ownBlock ≠ some k := by
  intro i u k hia hi hk e
  rcases hat with hat | ⟨c, hc, hcl⟩
  ·exact h.apart i a u v k hia hi hv hk (by rw [← hat]; exact e)
  ·rw [hc] at e
   injection e with e
   subst e
   have := ((h.row i u hi).lt hk).1
   omega
 refine ⟨h.hb, by rw [List.length_set]; exact h.len, ?_, fun i u hi => ?_, fun i j u x k hij hi hj hk => ?_⟩
 ·rw [blk_set hgb, List.setIfInBounds_toArray]
 ·rw [List.getElem?_set] at hi
  by_cases hia : i = a
  ·subst hia
   rw [if_pos rfl, if_pos hal] at hi
   injection hi with hi
   subst hi
   rw [if_pos rfl, natI_snoc]
   exact ho.grown hgs (hne ho)
  ·rw [if_neg (Ne.symm hia)] at hi
   rw [if_neg hia]
   have h1 : OwnI w1 base u (natI (f i)) := (h.row i u hi).grown hg (fun k hk e => h.apart i a u v k hia hi hv hk e.symm)
   exact h1.grown hgs (hne h1)
 ·rw [List.getElem?_set] at hi hj
  by_cases hia : i = a
  ·subst hia
   rw [if_pos rfl, if_pos hal] at hi
   rw [if_neg hij] at hj
   injection hi with hi
   subst hi
   intro e
   exact hkey j x k (Ne.symm hij) hj e hk
  ·rw [if_neg (Ne.symm hia)] at hi
   by_cases hja : j = a
   ·subst hja
    rw [if_pos rfl, if_pos hal] at hj
    injection hj with hj
    subst hj
    exact hkey i u k hia hi hk
   ·rw [if_neg (Ne.symm hja)] at hj
    exact h.apart i j u x k hij hi hj hk
theorem Tr.rows {W : World} {base g n : Nat} {f : Nat → List Nat} {vs : List Value} (h : Tr W base g n f vs) (hn : n ≤ 9223372036854775807) : RowLL W (some ⟨g, 0, none⟩) (toI ((List.range n).map f)) := by
 refine ⟨by simpa [toI] using hn, fun i y hi => ?_⟩
 unfold toI at hi
 rw [List.getElem?_map, List.getElem?_map] at hi
 obtain ⟨z, hz, rfl⟩ := Option.map_eq_some_iff.1 hi
 obtain ⟨q, hq, rfl⟩ := Option.map_eq_some_iff.1 hz
 obtain ⟨hin, hq⟩ := List.getElem?_eq_some_iff.1 hq
 rw [List.length_range] at hin
 rw [List.getElem_range] at hq
 subst hq
 have hil : i < vs.length := by rw [h.len]; exact hin
 have hv : vs[i]? = some (vs[i]'hil) := List.getElem?_eq_getElem hil
 obtain ⟨A, c, e, hc, hr⟩ := (h.row i _ hv).row
 refine ⟨g, 0, A, c, rfl, ?_, hc, hr⟩
 rw [Nat.zero_add, blk_cell h.blk, List.getElem?_toArray, hv, e]
 rfl
theorem append_int_step {ops : Array Oper} {o : Oper} {a : Act} {Q : Exit → Act → World → Prop} {Kc : Act → World → Prop} {W : World} {base : Nat} (hw : Region.wanted o (yielded ops a.tmps) = true) (s x : Operand)
  (ho : o.op = .call { callee := .builtin .append, args := #[s, x], argTypes := #[24, 24] }) (v : Value) (xs : List Int) (y : Int) (hs : a.eval s = v) (hx : a.eval x = .slice (some ⟨W.heap.size, 0, none⟩) 1 1)
  (HO : OwnI W base v xs) (hbase : base ≤ W.heap.size) (hl : xs.length < 1000000)
  (h : ∀ v1 w1, OwnI w1 base v1 (xs ++ [y]) → W.grownBy w1 v.ownBlock → (v1.ownBlock = v.ownBlock ∨ ∃ c, v1.ownBlock = some c ∧ W.heap.size ≤ c) → Kc (a.put o.dst v1) w1) :
  if Region.wanted o (yielded ops a.tmps) = true then Oper.wp Try.prog o a (W.alloc (.cells #[.int .i64 y] 3)) Kc Q else Kc (a.put o.dst undef) (W.alloc (.cells #[.int .i64 y] 3)) := by
 refine Kd.R_append_step (Kd.int .i64) (w0 := W) base hw s x 24 3 (.int .i64 0) 8 ho Try.underlying24 info3 rfl (by decide) (by decide) v xs y [.int .i64 y] (fun _ => True) (fun _ => False) hs hx rfl (fun _ hk => hk.elim) (fun _ _ => trivial) HO.toR (Below.refl _ _) hbase (by omega) ?_
 intro v1 w1 h1 h2 h3 h4
 exact h v1 w1 (OwnI.ofR h1) h3 h4
theorem made_one (z : Value) (h : z.cells = #[z]) (n : Nat) : madeCells z.cells (n * 1) = (List.replicate n z).toArray := by
 rw [h]; unfold madeCells
 apply Array.ext'
 simp only [Array.toList_map, Array.toList_range]
 apply List.ext_getElem?
 intro i
 by_cases hi : i < n
 ·simp [hi, Nat.mod_one]
 ·simp [hi]
theorem info24' : (Try.prog.info? 24).map (fun i => (i.zero, i.size, i.bytes)) = some (some (.slice none 0 0), 1, 24) := by kernel_rfl
theorem make_rows (w : World) (m : Nat) (hm : m ≤ 1000) : (Instr.makeSlice 71 (.int .i64 (m : Int)) (.int .i64 (m : Int))).run Try.prog w = .ok (.slice (some ⟨w.heap.size, 0, none⟩) m m) (w.alloc (.cells (List.replicate m (.slice none 0 0)).toArray 24)) := by
 obtain ⟨i0, hi, hz⟩ := Option.map_eq_some_iff.1 info24'
 simp only [Prod.mk.injEq] at hz
 have := run_make (P := Try.prog) w 71 24 i0 (.slice none 0 0) Try.underlying71 hi hz.1 .i64 .i64 (m : Int) (m : Int) (by omega) (by omega) (by rw [hz.2.2]; omega) (by omega)
 rw [hz.2.1, Int.toNat_natCast] at this
 rw [this, made_one _ rfl]
theorem Tr.made (w : World) (base n : Nat) (hb : base ≤ w.heap.size) : Tr (w.alloc (.cells (List.replicate n (.slice none 0 0)).toArray 24)) base w.heap.size n (fun _ => []) (List.replicate n (.slice none 0 0)) := by
 refine ⟨hb, List.length_replicate, heap_alloc_new w _, fun i v hi => ?_, fun i j v u k _ hi _ hk => ?_⟩
 ·obtain ⟨_, rfl⟩ := List.getElem?_eq_some_iff.1 hi
  rw [List.getElem_replicate]
  exact OwnI.nil _ _
 ·obtain ⟨_, rfl⟩ := List.getElem?_eq_some_iff.1 hi
  rw [List.getElem_replicate] at hk
  simp [Value.ownBlock] at hk
def nbs (P : List (Int × Int)) (x : Nat) : List Nat := P.flatMap fun p => (if p.1 = (x : Int) then [p.2.toNat] else []) ++ (if p.2 = (x : Int) then [p.1.toNat] else [])
theorem nbs_length (P : List (Int × Int)) (x : Nat) : (nbs P x).length ≤ 2 * P.length := by
 unfold nbs
 induction P with
 | nil => simp
 | cons p P ih =>
  rw [List.flatMap_cons, List.length_append, List.length_append, List.length_cons]
  have h1 : (if p.1 = (x : Int) then [p.2.toNat] else []).length ≤ 1 := by split <;> simp
  have h2 : (if p.2 = (x : Int) then [p.1.toNat] else []).length ≤ 1 := by split <;> simp
  omega
def treeOf (n : Nat) (P : List (Int × Int)) : List (List Nat) := (List.range n).map (nbs P)
theorem treeOf_len (n : Nat) (P : List (Int × Int)) : (treeOf n P).length = n := by simp [treeOf]
theorem nb_treeOf {n : Nat} {P : List (Int × Int)} {x : Nat} (hx : x < n) : nb (treeOf n P) x = nbs P x := by
 simp [nb, treeOf, List.getD_eq_getElem?_getD, hx]
theorem nbs_snoc (P : List (Int × Int)) (a b : Nat) (hab : a ≠ b) : nbs (P ++ [((a : Int), (b : Int))]) = fun x => if x = b then (if b = a then nbs P a ++ [b] else nbs P b) ++ [a] else if x = a then nbs P a ++ [b] else nbs P x := by
 funext x
 unfold nbs
 rw [List.flatMap_append]
 by_cases h1 : x = b
 ·subst h1
  rw [if_pos rfl, if_neg (Ne.symm hab)]
  have : ¬ ((a : Int) = (x : Int)) := by omega
  simp [this]
 ·by_cases h2 : x = a
  ·subst h2
   have : ¬ ((b : Int) = (x : Int)) := by omega
   rw [if_neg h1, if_pos rfl]
   simp [this]
  ·have h3 : ¬ ((b : Int) = (x : Int)) := by omega
   have h4 : ¬ ((a : Int) = (x : Int)) := by omega
   rw [if_neg h1, if_neg h2]
   simp [h3, h4]
def okP (n : Nat) (p : Int × Int) : Prop := (0 ≤ p.1 ∧ p.1 < n) ∧ (0 ≤ p.2 ∧ p.2 < n) ∧ p.1 ≠ p.2
structure IsTree (n : Int) (P : List (Int × Int)) : Prop where
 lo : 2 ≤ n
 hi : n ≤ 20
 len : (P.length : Int) = n - 1
 ok : ∀ p ∈ P, okP n.toNat p
 conn : ∀ x, x < n.toNat → Rch (treeOf n.toNat P) 0 x
theorem nbs_lt {n : Nat} {P : List (Int × Int)} (h : ∀ p ∈ P, okP n p) {x y : Nat} (hy : y ∈ nbs P x) : y < n := by
 unfold nbs at hy
 rw [List.mem_flatMap] at hy
 obtain ⟨p, hp, hy⟩ := hy
 obtain ⟨h1, h2, h3⟩ := h p hp
 rw [List.mem_append] at hy
 rcases hy with hy | hy
 ·split at hy
  ·simp at hy; omega
  ·simp at hy
 ·split at hy
  ·simp at hy; omega
  ·simp at hy
theorem made_ve {wr w9 w10 : World} {T : List (List Nat)} {A : Option Addr} {c b6 g10 : Nat} (h6 : wr.cell? ⟨b6, 0, none⟩ = some (.slice A T.length c)) (hr : RowLL wr A (toI T))
  (hb9 : w9.heap[wr.heap.size + 1]? = some (.cells #[.map none] 93 (0, 0))) (hB9 : Below (wr.alloc (.map #[] 0)).heap.size (wr.alloc (.map #[] 0)) w9)
  (hg10 : g10 = (w9.setCell ⟨wr.heap.size + 1, 0, none⟩ (.map (some wr.heap.size))).heap.size) (hb10 : w10.heap[g10]? = some (.cells #[.nilFunc] 94 (0, 0)))
  (hB10 : Below (w9.setCell ⟨wr.heap.size + 1, 0, none⟩ (.map (some wr.heap.size))).heap.size (w9.setCell ⟨wr.heap.size + 1, 0, none⟩ (.map (some wr.heap.size))) w10) :
  VE A c T (wr.heap.size + 1) b6 g10 wr.heap.size (w10.setCell ⟨g10, 0, none⟩ (.func (.func 84) #[] #[.pointer (some ⟨wr.heap.size + 1, 0, none⟩), .pointer (some ⟨b6, 0, none⟩), .pointer (some ⟨g10, 0, none⟩)])) ∧
  SetM (w10.setCell ⟨g10, 0, none⟩ (.func (.func 84) #[] #[.pointer (some ⟨wr.heap.size + 1, 0, none⟩), .pointer (some ⟨b6, 0, none⟩), .pointer (some ⟨g10, 0, none⟩)])) wr.heap.size 0 (fun _ => false) 0 ∧
  Below wr.heap.size wr (w10.setCell ⟨g10, 0, none⟩ (.func (.func 84) #[] #[.pointer (some ⟨wr.heap.size + 1, 0, none⟩), .pointer (some ⟨b6, 0, none⟩), .pointer (some ⟨g10, 0, none⟩)])) := by
 have hlt : wr.heap.size + 1 < g10 := by
  rw [hg10]
  have := blk_lt hb9
  simpa using this
 have b9 : Below wr.heap.size wr w9 := below_then (below_alloc (Below.refl _ _) _) (by simp) hB9
 have s9 : SetM w9 wr.heap.size 0 (fun _ => false) 0 := (SetM.made wr).kept (grown_of_below hB9 none) (by simp)
 have k9 : (w9.setCell ⟨wr.heap.size + 1, 0, none⟩ (.map (some wr.heap.size))).heap[wr.heap.size + 1]? = some (.cells #[.map (some wr.heap.size)] 93 (0, 0)) := by rw [blk_set hb9]; rfl
 have b9s : Below wr.heap.size wr (w9.setCell ⟨wr.heap.size + 1, 0, none⟩ (.map (some wr.heap.size))) := b9.setCell (p := ⟨wr.heap.size + 1, 0, none⟩) (Nat.le_succ _) _
 have s9s := s9.kept (grownBy_set w9 ⟨wr.heap.size + 1, 0, none⟩ (.map (some wr.heap.size))) (by simp)
 generalize w9.setCell ⟨wr.heap.size + 1, 0, none⟩ (.map (some wr.heap.size)) = v9 at *
 have b10 : Below wr.heap.size wr w10 := below_then b9s b9s.size hB10
 have s10 := s9s.kept (grown_of_below hB10 none) (by simp)
 have k10 := (hB10.block _ (blk_lt k9)).trans k9
 have b11 : Below wr.heap.size wr (w10.setCell ⟨g10, 0, none⟩ (.func (.func 84) #[] #[.pointer (some ⟨wr.heap.size + 1, 0, none⟩), .pointer (some ⟨b6, 0, none⟩), .pointer (some ⟨g10, 0, none⟩)])) := b10.setCell (p := ⟨g10, 0, none⟩) (by simp only; omega) _
 have k11 := blk_far k10 (p := ⟨g10, 0, none⟩) (by simp only; omega) (.func (.func 84) #[] #[.pointer (some ⟨wr.heap.size + 1, 0, none⟩), .pointer (some ⟨b6, 0, none⟩), .pointer (some ⟨g10, 0, none⟩)])
 have s11 := s10.kept (grownBy_set w10 ⟨g10, 0, none⟩ (.func (.func 84) #[] #[.pointer (some ⟨wr.heap.size + 1, 0, none⟩), .pointer (some ⟨b6, 0, none⟩), .pointer (some ⟨g10, 0, none⟩)])) (by simp; omega)
 refine ⟨⟨(blk_cell k11 0).trans rfl, pw_cell_below b11 h6, ?_, hr.below b11⟩, s11, b11⟩
 have : (w10.setCell ⟨g10, 0, none⟩ (.func (.func 84) #[] #[.pointer (some ⟨wr.heap.size + 1, 0, none⟩), .pointer (some ⟨b6, 0, none⟩), .pointer (some ⟨g10, 0, none⟩)])).heap[g10]? = some (.cells #[.func (.func 84) #[] #[.pointer (some ⟨wr.heap.size + 1, 0, none⟩), .pointer (some ⟨b6, 0, none⟩), .pointer (some ⟨g10, 0, none⟩)]] 94 (0, 0)) := by rw [blk_set hb10]; rfl
 exact (blk_cell this 0).trans rfl
theorem cnt_all {N : Nat} {s : Nat → Bool} : cnt N s = N ↔ ∀ x, x < N → s x = true := by
 unfold cnt
 have h := List.countP_eq_length (p := s) (l := List.range N)
 rw [List.length_range] at h
 rw [h]
 simp
theorem Vis.all {T : List (List Nat)} {s' : Nat → Bool} (h : Vis T 0 (fun _ => false) s') (x : Nat) : s' x = true ↔ Rch T 0 x := by
 refine ⟨fun hx => ?_, fun hx => ?_⟩
 ·rcases h.rch x hx with h1 | h1
  ·cases h1
  ·exact h1
 ·induction hx with
  | refl => exact h.at_
  | step _ hy ih => exact h.shut _ ih rfl _ hy
end Go.Proofs.Ytcploeijeedmdaa.X
namespace Go.Proofs.Ytcploeijeedmdaa.X
open Go.RowKit Go.Shelf Go.Maps Go.Proofs.YtcploeijeedmdaaW.PrintWords Go.Proofs.YtcploeijeedmdaaW.PrintLast Go.Proofs.Ytcploeijeedmdaa.S
set_option linter.unusedVariables false
set_option linter.unusedSimpArgs false
structure RgM (W : World) (b r n : Nat) (s : Nat → Bool) (c : Nat) (left : Nat → Bool) (cnt : Nat) : Prop where
 ex : ∃ (D : DataW Unit) (lf : Lit → Bool), W.ranges Try.prog 3 (plainElem Try.prog 4) b r n D lf cnt ∧ ((∀ x, D.atKey (ik x) (.lit (.bool false)) = .lit (.bool (s x))) ∧ (∀ x, Maps.has D (ik x) = s x) ∧ Maps.size D = c ∧ ∀ kl, Maps.has D kl = true → ∃ x, kl = ik x) ∧ (∀ x, lf (ik x) = left x) ∧ ∀ kl, lf kl = true → ∃ x, kl = ik x
theorem RgM.set {W : World} {b r n c cnt : Nat} {s left : Nat → Bool} (h : RgM W b r n s c left cnt) : SetM W b n s c := by
 obtain ⟨D, lf, h1, h2, _⟩ := h.ex
 exact ⟨D, h1.owns, h2⟩
theorem RgM.kept {W W' : World} {b r n c cnt : Nat} {s left : Nat → Bool} {row : Option Nat} (h : RgM W b r n s c left cnt) (hg : W.grownBy W' row) (hb : some b ≠ row) (hr : some r ≠ row) : RgM W' b r n s c left cnt := by
 obtain ⟨D, lf, h1, h2⟩ := h.ex
 exact ⟨D, lf, h1.kept hg hb hr, h2⟩
theorem RgM.left_eq {W : World} {b r n c cnt : Nat} {s left : Nat → Bool} (h : RgM W b r n s c left cnt) : W.rangeLeft b r = cnt := by
 obtain ⟨D, lf, h1, h2⟩ := h.ex
 exact h1.left_eq
theorem RgM.lt {W : World} {b r n c cnt : Nat} {s left : Nat → Bool} (h : RgM W b r n s c left cnt) : r < W.heap.size := by
 obtain ⟨D, lf, h1, h2⟩ := h.ex
 exact h1.lt
theorem RgM.state {W : World} {b r n c cnt : Nat} {s left : Nat → Bool} (h : RgM W b r n s c left cnt) {g : Nat} {t : TypeId} {cs : Array Value} {fz : Nat × Nat} (hg : W.heap[g]? = some (.cells cs t fz)) : g ≠ r := by
 obtain ⟨D, lf, h1, h2⟩ := h.ex
 unfold World.ranges at h1
 rintro rfl
 obtain ⟨es, x1, x2, x3, x4⟩ := h1
 simp_all
section
variable {ops : Array Oper} {o : Oper} {rest : List Oper} {a : Act} {Q : Exit → Act → World → Prop} {w : World} {b n c : Nat} {s : Nat → Bool}
theorem set_del (hg : o.guard = none) (m x : Operand) (hop : o.op = Op.call { callee := Callee.builtin Builtin.delete, args := #[m, x], argTypes := #[93, 3] }) (hm : a.eval m = .map (some b)) (h : SetM w b n s c) (u : Nat) (hu : u < 1000) (hx : a.eval x = .int .i64 (u : Int))
  (hK : ∀ w', SetM w' b n (delS s u) (if s u then c - 1 else c) → w.grownBy w' (some b) → wpList Try.prog ops Q rest (a.put o.dst (.tuple #[])) w') : wpList Try.prog ops Q (o :: rest) a w := by
 obtain ⟨D, h1, h2, h3, h4, h5⟩ := h.ex
 refine wpList_delete_own w hg m x 93 3 hop 4 key3 Try.underlying93 _ b n D hm h1 _ (ik u) hx (ik_key hu) ?_
 intro w' r1 r2
 refine hK w' ⟨_, r1, fun x => ?_, fun x => ?_, ?_, fun kl hkl => ?_⟩ r2.grown
 ·unfold delS
  by_cases hxu : x = u
  ·subst hxu; rw [if_pos rfl]; exact atKey_del_same _
  ·rw [if_neg hxu, atKey_del_other (ik_ne hxu)]; exact h2 x
 ·unfold delS
  by_cases hxu : x = u
  ·subst hxu; rw [if_pos rfl]; exact has_del_same
  ·rw [if_neg hxu, has_del_other (ik_ne hxu)]; exact h3 x
 ·have := size_del (k := ik u) (h1.tidy key3)
  rw [h3 u, h4] at this
  cases hs : s u <;> rw [hs] at this <;> simp at this ⊢ <;> omega
 ·by_cases hku : kl = ik u
  ·exact ⟨u, hku⟩
  ·rw [has_del_other hku] at hkl
   exact h5 kl hkl
theorem set_range (hg : o.guard = none) (m : Operand) (hop : o.op = Op.range 93 m) (hm : a.eval m = .map (some b)) (h : SetM w b n s c)
  (hK : ∀ w', RgM w' b w.heap.size n s c s c → w.grownBy w' none → wpList Try.prog ops Q rest (a.put o.dst (.pointer (some ⟨w.heap.size, 0, none⟩))) w') : wpList Try.prog ops Q (o :: rest) a w := by
 obtain ⟨D, h1, h2, h3, h4, h5⟩ := h.ex
 refine wpList_range_own w hg m 93 hop 3 4 key3 Try.underlying93 _ b n D hm h1 ?_
 intro w' r1 r2 _
 refine hK w' ⟨D, _, ?_, ⟨h2, h3, h4, h5⟩, h3, h5⟩ r2
 rw [h4] at r1
 exact r1
theorem set_next {r cnt : Nat} {left : Nat → Bool} (hg : o.guard = none) (it : Operand) (hop : o.op = Op.next it false) (hit : a.eval it = .pointer (some ⟨r, 0, none⟩)) (h : RgM w b r n s c left cnt)
  (hDone : (∀ x, left x = false) → wpList Try.prog ops Q rest (a.put o.dst (.tuple #[.bool false])) w)
  (hMore : ∀ (x : Nat) (v : Value) (w' : World) (cnt' : Nat), left x = true → RgM w' b r n s c (delS left x) cnt' → cnt' < cnt → w.grownBy w' (some r) →
   (Instr.entry (.pointer (some ⟨r, 0, none⟩))).run Try.prog w' = .ok (.tuple #[.int .i64 (x : Int), v]) w' → wpList Try.prog ops Q rest (a.put o.dst (.tuple #[.bool true, .int .i64 (x : Int), v])) w') :
  wpList Try.prog ops Q (o :: rest) a w := by
 obtain ⟨D, lf, h1, h2, h3, h4⟩ := h.ex
 refine wpList_next_ranges (α := Int) (β := Bool) w hg it hop 3 key3 _ (Value.int .i64) Value.bool (fun key kl hkey => ?_) (fun v y hv => ?_) b r n D lf cnt hit h1 (fun _ hl => hDone (fun x => by rw [← h3]; exact hl _)) ?_
 ·obtain ⟨x, e, _⟩ := keyOf_int_inv Try.underlying3 hkey
  exact ⟨x, e⟩
 ·cases v <;> simp [plainElem, Try.underlying4] at hv
  exact ⟨_, rfl⟩
 ·intro x v kl y w' cnt' hkey hlf _ _ hrg hlt hgr _ hen
  obtain ⟨z, ez⟩ := h4 kl hlf
  obtain ⟨x', ex, ekl, _⟩ := keyOf_int_inv Try.underlying3 hkey
  injection ex with _ ex
  subst ex
  have hxz : x = (z : Int) := by
   have e1 : Lit.int IntKind.i64 (z : Int) = Lit.int IntKind.i64 x := ez.symm.trans ekl
   exact (Lit.int.inj e1).2.symm
  subst hxz
  subst ez
  refine hMore z (.bool v) w' cnt' (by rw [← h3]; exact hlf) ⟨D, _, hrg, h2, fun q => ?_, fun q hq => ?_⟩ hlt hgr hen
  ·unfold delS
   by_cases hqz : q = z
   ·subst hqz
    rw [if_pos rfl]
    have : (ik q).sameKey (ik q) = true := by simp [ik, Lit.sameKey]
    rw [this]; simp
   ·rw [if_neg hqz, sameKey_ne (ik_ne hqz), h3]; simp
  ·simp only [Bool.and_eq_true] at hq
   exact h4 q hq.1
end
end Go.Proofs.Ytcploeijeedmdaa.X
namespace Go.Proofs.Ytcploeijeedmdaa.X
open Go.RowKit Go.Shelf Go.Proofs.YtcploeijeedmdaaW.PrintWords Go.Proofs.YtcploeijeedmdaaW.PrintLast Go.Proofs.Ytcploeijeedmdaa.S
set_option linter.unusedVariables false
set_option linter.unusedSimpArgs false
def rowV (n : Nat) (f : Nat → Int) : Array Value := ((List.range n).map fun j => Value.int .i64 (f j)).toArray
theorem rowV_get {n : Nat} {f : Nat → Int} {j : Nat} (hj : j < n) : (rowV n f)[j]? = some (.int .i64 (f j)) := by
 unfold rowV
 rw [List.getElem?_toArray, List.getElem?_map, List.getElem?_range hj]
 rfl
theorem rowV_put {n j : Nat} {f : Nat → Int} {x : Int} (hj : j < n) : (rowV n f).setIfInBounds j (.int .i64 x) = rowV n (fun b => if b = j then x else f b) := by
 unfold rowV
 rw [List.setIfInBounds_toArray]
 congr 1
 apply List.ext_getElem?
 intro i
 rw [List.getElem?_set]
 by_cases h : j = i
 ·subst h
  rw [if_pos rfl, if_pos (by simpa using hj), List.getElem?_map, List.getElem?_range hj]
  simp
 ·rw [if_neg h, List.getElem?_map, List.getElem?_map]
  by_cases hi : i < n
  ·rw [List.getElem?_range hi]
   simp [Ne.symm h]
  ·rw [List.getElem?_eq_none (by simpa using hi)]
   rfl
theorem make_ints (w : World) (m : Nat) (hm : m ≤ 1000) : (Instr.makeSlice 24 (.int .i64 (m : Int)) (.int .i64 (m : Int))).run Try.prog w = .ok (.slice (some ⟨w.heap.size, 0, none⟩) m m) (w.alloc (.cells (rowV m fun _ => 0) 3)) := by
 obtain ⟨i0, hi, hz⟩ := Option.map_eq_some_iff.1 info3
 simp only [Prod.mk.injEq] at hz
 have := run_make (P := Try.prog) w 24 3 i0 (.int .i64 0) Try.underlying24 hi hz.1 .i64 .i64 (m : Int) (m : Int) (by omega) (by omega) (by rw [hz.2.2]; omega) (by omega)
 rw [hz.2.1, Int.toNat_natCast] at this
 rw [this, made_one _ rfl, show rowV m (fun _ => 0) = (List.replicate m (Value.int .i64 0)).toArray by
  unfold rowV; rw [List.map_const', List.length_range]]
def sl (n : Nat) (gs : Nat → Nat) (i : Nat) : Value := .slice (some ⟨gs i, 0, none⟩) n n
structure Tc (W : World) (base n m : Nat) (v : Value) (gs : Nat → Nat) (t : Nat → Nat → Int) : Prop where
 own : W.ownsRow base 24 1 v m ((List.range m).map (sl n gs))
 row : ∀ i, i < m → base ≤ gs i ∧ W.heap[gs i]? = some (.cells (rowV n (t i)) 3 (0, 0))
 inj : ∀ i j, i < m → j < m → gs i = gs j → i = j
theorem Tc.nil (W : World) (base n : Nat) (gs : Nat → Nat) (t : Nat → Nat → Int) : Tc W base n 0 (.slice none 0 0) gs t :=
 ⟨⟨rfl, .inl ⟨rfl, rfl⟩⟩, fun i h => absurd h (Nat.not_lt_zero _), fun i j h => absurd h (Nat.not_lt_zero _)⟩
theorem Tc.below {W W' : World} {base n m : Nat} {v : Value} {gs : Nat → Nat} {t : Nat → Nat → Int} (h : Tc W base n m v gs t) (hb : Below W.heap.size W W') : Tc W' base n m v gs t :=
 ⟨pw_own_below h.own hb, fun i hi => ⟨(h.row i hi).1, (hb.block _ (blk_lt (h.row i hi).2)).trans (h.row i hi).2⟩, h.inj⟩
theorem Tc.top {W : World} {base n m : Nat} {v : Value} {gs : Nat → Nat} {t : Nat → Nat → Int} (h : Tc W base n m v gs t) (hm : 0 < m) : ∃ go cap cur, v = .slice (some ⟨go, 0, none⟩) m cap ∧ base ≤ go ∧ W.heap[go]? = some (.cells cur 24 (0, 0)) ∧ m ≤ cap ∧ ∀ i, i < m → cur[i]? = some (sl n gs i) := by
 rcases h.own.2 with ⟨_, h0⟩ | ⟨g, cap, cur, e, hb, hh, hn, hc, hs, ht⟩
 ·omega
 ·refine ⟨g, cap, cur, e, hb, hh, hn, fun i hi => ?_⟩
  have h1 : (cur.toList.take (m * 1))[i]? = ((List.range m).map (sl n gs))[i]? := by rw [ht]
  rw [List.getElem?_take_of_lt (by omega), Array.getElem?_toList, List.getElem?_map, List.getElem?_range hi] at h1
  exact h1
theorem Tc.apart {W : World} {base n m : Nat} {v : Value} {gs : Nat → Nat} {t : Nat → Nat → Int} (h : Tc W base n m v gs t) {i : Nat} (hi : i < m) : some (gs i) ≠ v.ownBlock := by
 intro e
 have hr := (h.row i hi).2
 rcases h.own.2 with ⟨rfl, _⟩ | ⟨g', cap, cur, rfl, _, hh, _⟩
 ·simp [Value.ownBlock] at e
 ·have e : gs i = g' := by simpa [Value.ownBlock] using e
  rw [e, hh] at hr
  injection hr with hr
  injection hr with _ h2
  cases h2
theorem Tc.put {W : World} {base n m : Nat} {v : Value} {gs : Nat → Nat} {t : Nat → Nat → Int} (h : Tc W base n m v gs t) {i j : Nat} (hi : i < m) (hj : j < n) (x : Int) :
  Tc (W.setCell ⟨gs i, j, none⟩ (.int .i64 x)) base n m v gs (fun a b => if a = i ∧ b = j then x else t a b) := by
 have hg := grownBy_set W ⟨gs i, j, none⟩ (.int .i64 x)
 refine ⟨own_other h.own hg (.inr (fun e => h.apart hi e.symm)), fun a ha => ⟨(h.row a ha).1, ?_⟩, h.inj⟩
 by_cases hai : a = i
 ·subst hai
  rw [blk_set (h.row a ha).2, rowV_put hj]
  congr 2
  congr 1
  funext b
  simp
 ·rw [blk_far (p := ⟨gs i, j, none⟩) (h.row a ha).2 (fun e => hai (h.inj a i ha hi e))]
  congr 2
  congr 1
  funext b
  simp [hai]
def tabL (n : Nat) (t : Nat → Nat → Int) : List (List Int) := (List.range n).map fun i => (List.range n).map (t i)
theorem tabL_len (n : Nat) (t : Nat → Nat → Int) : (tabL n t).length = n := by simp [tabL]
theorem tabL_at {n : Nat} {t : Nat → Nat → Int} {i : Nat} {y : List Int} (h : (tabL n t)[i]? = some y) : i < n ∧ y = (List.range n).map (t i) := by
 unfold tabL at h
 rw [List.getElem?_map] at h
 obtain ⟨q, hq, rfl⟩ := Option.map_eq_some_iff.1 h
 obtain ⟨hl, hq⟩ := List.getElem?_eq_some_iff.1 hq
 rw [List.length_range] at hl
 rw [List.getElem_range] at hq
 subst hq
 exact ⟨hl, rfl⟩
theorem g2_tab {n : Nat} {t : Nat → Nat → Int} {i j : Nat} (hi : i < n) (hj : j < n) : g2 (tabL n t) i j = t i j := by
 refine g2_at (y := (List.range n).map (t i)) ?_ ?_
 ·unfold tabL; rw [List.getElem?_map, List.getElem?_range hi]; rfl
 ·rw [List.getElem?_map, List.getElem?_range hj]; rfl
theorem row_blk {W : World} {b : Nat} {xs : List Int} (h : W.heap[b]? = some (.cells (xs.map (Value.int .i64)).toArray 3 (0, 0))) (hl : xs.length ≤ 1000) : RowI W (some ⟨b, 0, none⟩) xs := by
 have ho : OwnI W 0 (.slice (some ⟨b, 0, none⟩) xs.length xs.length) xs := ⟨by rw [List.length_map, Nat.mul_one], .inr ⟨b, xs.length, _, rfl, Nat.zero_le _, h, Nat.le_refl _, by unfold maxLen; omega, by simp, by rw [Nat.mul_one]; exact List.take_of_length_le (by simp)⟩⟩
 obtain ⟨A, c, e, _, hr⟩ := ho.row
 injection e with e
 subst e
 exact hr
theorem Tc.rows {W : World} {base n : Nat} {gs : Nat → Nat} {t : Nat → Nat → Int} {go cap : Nat} (h : Tc W base n n (.slice (some ⟨go, 0, none⟩) n cap) gs t) (hn : n ≤ 1000) (h0 : 0 < n) : RowLL W (some ⟨go, 0, none⟩) (tabL n t) := by
 obtain ⟨go', cap', cur, e, hb, hh, hc, hcur⟩ := h.top h0
 cases e
 refine ⟨by rw [tabL_len]; omega, fun i y hi => ?_⟩
 obtain ⟨hin, rfl⟩ := tabL_at hi
 refine ⟨go, 0, some ⟨gs i, 0, none⟩, n, rfl, ?_, ?_, ?_⟩
 ·rw [Nat.zero_add, blk_cell hh, hcur i hin]
  unfold sl
  rw [List.length_map, List.length_range]
 ·rw [List.length_map, List.length_range]; exact Nat.le_refl _
 ·refine row_blk ?_ (by rw [List.length_map, List.length_range]; exact hn)
  rw [(h.row i hin).2]
  unfold rowV
  rw [List.map_map]
  rfl
theorem append_slice {ops : Array Oper} {o : Oper} {rest : List Oper} {a : Act} {Q : Exit → Act → World → Prop} {w0 W : World} {base n m : Nat} {gs : Nat → Nat} (hgd : o.guard = none) (s x : Operand)
  (ho : o.op = .call { callee := .builtin .append, args := #[s, x], argTypes := #[35, 35] }) (v : Value) (hs : a.eval s = v) (hx : a.eval x = .slice (some ⟨W.heap.size + 1, 0, none⟩) 1 1)
  (HT : Tc W base n m v gs (fun _ _ => 0)) (HB : Below base w0 W) (hbase : base ≤ W.heap.size) (hl : m < 1000)
  (h : ∀ v1 w1 gs1, Tc w1 base n (m + 1) v1 gs1 (fun _ _ => 0) → Below base w0 w1 → wpList Try.prog ops Q rest (a.put o.dst v1) w1) :
  wpList Try.prog ops Q (o :: rest) a ((W.alloc (.cells (rowV n fun _ => 0) 3)).alloc (.cells #[.slice (some ⟨W.heap.size, 0, none⟩) n n] 24)) := by
 have hz : (W.alloc (.cells (rowV n fun _ => 0) 3)).heap.size = W.heap.size + 1 := by simp
 have hn := heap_alloc_new W (.cells (rowV n fun _ => 0) 3)
 have HT1 := HT.below (below_alloc (Below.refl _ _) (.cells (rowV n fun _ => 0) 3))
 have HB1 := below_then HB hbase (below_alloc (Below.refl W.heap.size W) (.cells (rowV n fun _ => 0) 3))
 have hlt : ∀ i, i < m → gs i < W.heap.size := fun i hi => blk_lt (HT.row i hi).2
 generalize W.alloc (.cells (rowV n fun _ => 0) 3) = W1 at *
 rw [← hz] at hx
 refine print_append_cells (w0 := w0) base hgd s x 35 24 (.slice none 0 0) 1 24 ho Try.underlying35 info24' rfl (by decide) (by decide) v m ((List.range m).map (sl n gs)) [.slice (some ⟨W.heap.size, 0, none⟩) n n] hs hx rfl (by intro c hc; rw [List.mem_singleton] at hc; subst hc; rfl) HT1.own HB1 (by omega) (by omega) ?_
 intro v1 w1 h1 h2 h3 _
 refine h v1 w1 (fun i => if i = m then W.heap.size else gs i) ⟨?_, fun i hi => ?_, fun i j hi hj hij => ?_⟩ h2
 ·rw [List.range_succ, List.map_append, List.map_cons, List.map_nil]
  have e1 : (List.range m).map (sl n fun i => if i = m then W.heap.size else gs i) = (List.range m).map (sl n gs) := by
   apply List.map_congr_left
   intro i hi
   have := List.mem_range.1 hi
   show Value.slice (some ⟨if i = m then W.heap.size else gs i, 0, none⟩) n n = Value.slice (some ⟨gs i, 0, none⟩) n n
   rw [if_neg (by omega)]
  have e2 : sl n (fun i => if i = m then W.heap.size else gs i) m = .slice (some ⟨W.heap.size, 0, none⟩) n n := by
   show Value.slice (some ⟨if m = m then W.heap.size else gs m, 0, none⟩) n n = _
   rw [if_pos rfl]
  rw [e1, e2]
  exact h1
 ·by_cases him : i = m
  ·subst him
   rw [if_pos rfl]
   refine ⟨hbase, blk_grown hn h3 ?_⟩
   intro e
   rcases HT1.own.2 with ⟨rfl, _⟩ | ⟨g', cap, cur, rfl, _, hh, _⟩
   ·simp [Value.ownBlock] at e
   ·have e : W.heap.size = g' := by simpa [Value.ownBlock] using e
    rw [← e, hn] at hh
    injection hh with hh
    injection hh with _ h2
    cases h2
  ·rw [if_neg him]
   exact ⟨(HT1.row i (by omega)).1, blk_grown (HT1.row i (by omega)).2 h3 (HT1.apart (by omega))⟩
 ·by_cases him : i = m
  ·by_cases hjm : j = m
   ·omega
   ·rw [if_pos him, if_neg hjm] at hij
    have := hlt j (by omega)
    omega
  ·by_cases hjm : j = m
   ·rw [if_neg him, if_pos hjm] at hij
    have := hlt i (by omega)
    omega
   ·rw [if_neg him, if_neg hjm] at hij
    exact HT.inj i j (by omega) (by omega) hij
end Go.Proofs.Ytcploeijeedmdaa.X
