/- table: a copy of at most 31 lists, each of at most 31 numbers. Texts of this claim's session, put together: SKings, STab. -/
import Derived.Test.YtcploeijeedmdaaBb6
import Derived.Test.YtcploeijeedmdaaBb7
import Derived.Test.YtcploeijeedmdaaBb2
import Derived.Test.YtcploeijeedmdaaVWords
import Derived.Test.YtcploeijeedmdaaVLast
import Derived.Test.YtcploeijeedmdaaVRepsOne
namespace Go.Proofs.Ytcploeijeedmdaa.X
open Go.RowKit Go.Shelf Go.Proofs.YtcploeijeedmdaaW.PrintWords Go.Proofs.YtcploeijeedmdaaW.PrintLast Go.Proofs.Ytcploeijeedmdaa.S
set_option linter.unusedVariables false
set_option linter.unusedSimpArgs false
section
variable {n : Nat} {b : Nat → Nat → Bool} {K : List Nat}
end
def kl (t : List (List Int)) : List Nat := (List.range t.length).filter (kingB t)
theorem leo_up {α : Type} (f : Nat → Option α) (h : ∀ k, LeO (f k) (f (k + 1))) {k m : Nat} (hkm : k ≤ m) : LeO (f k) (f m) := by
 induction hkm with
 | refl => exact LeO.refl _
 | step _ ih => exact fun r hr => h _ r (ih r hr)
theorem scores_run {t : List (List Int)} (hC : IsC t) : ∀ (ds : List (List Int)) (i : Nat) (acc : List Int), t.drop i = ds → acc.length = i → ∃ k, tickingref09_Scores.l0 k t acc (i : Int) = some (acc ++ ds.map List.sum)
 | [], i, acc, hd, ha => by
  have hi : t.length ≤ i := by have := congrArg List.length hd; simp at this; omega
  exact ⟨1, by unfold tickingref09_Scores.l0; rw [if_neg (by omega)]; simp⟩
 | d :: ds, i, acc, hd, ha => by
  have hi : i < t.length := by have := congrArg List.length hd; simp at this; omega
  have hdi : t[i]? = some d := by
   have := congrArg (fun l => l[0]?) hd
   simpa using this
  have hd' : t.drop (i + 1) = ds := by
   have := congrArg (List.drop 1) hd
   rw [List.drop_drop] at this
   simpa [Nat.add_comm] using this
  have hr := hC.rows i d hdi
  have hl := hC.len
  obtain ⟨k1, hk1⟩ := total_f (l := d) (by have := hr.1; omega) (fun x hx => by have := inR_iff.1 (hr.2 x hx); omega)
  obtain ⟨k2, hk2⟩ := scores_run hC ds (i + 1) (acc ++ [d.sum]) hd' (by simp [ha])
  obtain ⟨k, h1, h2⟩ : ∃ k, tickingref09_total.f k d = some d.sum ∧ tickingref09_Scores.l0 k t (acc ++ [d.sum]) ((i + 1 : Nat) : Int) = some ((acc ++ [d.sum]) ++ ds.map List.sum) := ⟨max k1 k2, leo_up (fun k => tickingref09_total.f k d) (fun k => tickingref09_total.mono d k) (Nat.le_max_left _ _) _ hk1, leo_up (fun k => tickingref09_Scores.l0 k t (acc ++ [d.sum]) ((i + 1 : Nat) : Int)) (fun k => tickingref09_Scores.mono_l k _ _ _) (Nat.le_max_right _ _) _ hk2⟩
  refine ⟨k + 1, ?_⟩
  have e : rd_L2 t (i : Int) = d := by unfold rd_L2; rw [Int.toNat_natCast, List.getD_eq_getElem?_getD, hdi]; rfl
  unfold tickingref09_Scores.l0
  rw [if_pos (by omega), if_pos (by omega), e, h1]
  simp only [Option.bind_some]
  rw [if_pos (by omega), nxtN (by omega), h2]
  simp
theorem scores_f {t : List (List Int)} (hC : IsC t) : ∃ k, tickingref09_Scores.f k t = some (t.map List.sum) := by
 obtain ⟨k, hk⟩ := scores_run hC t 0 [] rfl rfl
 exact ⟨k, by unfold tickingref09_Scores.f; simpa using hk⟩
end Go.Proofs.Ytcploeijeedmdaa.X
namespace Go.Proofs.Ytcploeijeedmdaa.X
open Go.RowKit Go.Shelf Go.Proofs.YtcploeijeedmdaaW.PrintWords Go.Proofs.YtcploeijeedmdaaW.PrintLast Go.Proofs.Ytcploeijeedmdaa.S
set_option linter.unusedVariables false
set_option linter.unusedSimpArgs false
structure Tl (W : World) (base : Nat) (v : Value) (vs : List Value) (ts : List (List Int)) : Prop where
 own : W.ownsRow base 24 1 v vs.length vs
 len : vs.length = ts.length
 row : ∀ (i : Nat) (u : Value) (y : List Int), vs[i]? = some u → ts[i]? = some y → OwnI W base u y
theorem Tl.nil (W : World) (base : Nat) : Tl W base (.slice none 0 0) [] [] := ⟨⟨rfl, .inl ⟨rfl, rfl⟩⟩, rfl, fun i u y h => by simp at h⟩
theorem Tl.below {W W' : World} {base : Nat} {v : Value} {vs : List Value} {ts : List (List Int)} (h : Tl W base v vs ts) (hb : Below W.heap.size W W') : Tl W' base v vs ts :=
 ⟨pw_own_below h.own hb, h.len, fun i u y hu hy => (h.row i u y hu hy).below (fun k hk => ((h.row i u y hu hy).lt hk).1) hb⟩
theorem own24_ne {W : World} {base base' : Nat} {v u : Value} {m : Nat} {vs : List Value} {y : List Int} (ho : W.ownsRow base 24 1 v m vs) (hu : OwnI W base' u y) : ∀ k, u.ownBlock = some k → some k ≠ v.ownBlock := by
 intro k hk e
 rcases ho.2 with ⟨rfl, _⟩ | ⟨g', cap, cur, rfl, _, hh, _⟩
 ·simp [Value.ownBlock] at e
 ·have e : k = g' := by simpa [Value.ownBlock] using e
  subst e
  exact OwnI.ne hu hh (by decide) hk.symm
theorem append_own {ops : Array Oper} {o : Oper} {rest : List Oper} {a : Act} {Q : Exit → Act → World → Prop} {w0 W : World} {base : Nat} {vs : List Value} {ts : List (List Int)} (hgd : o.guard = none) (s x : Operand)
  (ho : o.op = .call { callee := .builtin .append, args := #[s, x], argTypes := #[35, 35] }) (v : Value) (A : Option Addr) (c : Nat) (y : List Int)
  (HT : Tl W base v vs ts) (HU : OwnI W base (.slice A y.length c) y) (HB : Below base w0 W) (hbase : base ≤ W.heap.size) (hl : vs.length < 1000) (hs : a.eval s = v) (hx : a.eval x = .slice (some ⟨W.heap.size, 0, none⟩) 1 1)
  (h : ∀ v1 w1, Tl w1 base v1 (vs ++ [.slice A y.length c]) (ts ++ [y]) → Below base w0 w1 → wpList Try.prog ops Q rest (a.put o.dst v1) w1) :
  wpList Try.prog ops Q (o :: rest) a (W.alloc (.cells #[.slice A y.length c] 24)) := by
 refine print_append_cells (w0 := w0) base hgd s x 35 24 (.slice none 0 0) 1 24 ho Try.underlying35 info24' rfl (by decide) (by decide) v vs.length vs [.slice A y.length c] hs hx rfl (by intro c' hc'; rw [List.mem_singleton] at hc'; subst hc'; rfl) HT.own HB (by omega) (by omega) ?_
 intro v1 w1 h1 h2 h3 _
 refine h v1 w1 ⟨by rw [List.length_append, List.length_singleton]; exact h1, by rw [List.length_append, List.length_append, HT.len]; rfl, fun i u y' hu hy => ?_⟩ h2
 have key : ∀ (u : Value) (y' : List Int), OwnI W base u y' → OwnI w1 base u y' := fun u y' hu => OwnI.grown hu h3 (own24_ne HT.own hu)
 by_cases hi : i < vs.length
 ·rw [List.getElem?_append_left hi] at hu
  rw [List.getElem?_append_left (by rw [← HT.len]; exact hi)] at hy
  exact key _ _ (HT.row i u y' hu hy)
 ·rw [List.getElem?_append_right (by omega)] at hu
  rw [List.getElem?_append_right (by rw [← HT.len]; omega), ← HT.len] at hy
  cases hz : i - vs.length with
  | succ q => rw [hz] at hu; simp at hu
  | zero =>
   rw [hz] at hu hy
   simp at hu hy
   subst hu; subst hy
   exact key _ _ HU
theorem Tl.rows {W : World} {base : Nat} {v : Value} {vs : List Value} {ts : List (List Int)} (h : Tl W base v vs ts) (hl : ts.length ≤ 1000) : ∃ A c, v = .slice A ts.length c ∧ ts.length ≤ c ∧ RowLL W A ts := by
 rcases h.own.2 with ⟨rfl, h0⟩ | ⟨g, cap, cur, rfl, hb, hh, hn, hc, hs, ht⟩
 ·have h1 := h.len
  exact ⟨none, 0, by rw [← h1, h0], by omega, by omega, fun i y hi => by have := (List.getElem?_eq_some_iff.1 hi).1; omega⟩
 ·have h1 := h.len
  refine ⟨some ⟨g, 0, none⟩, cap, by rw [h1], by omega, by omega, fun i y hi => ?_⟩
  have hlt := (List.getElem?_eq_some_iff.1 hi).1
  have hu : vs[i]? = some (vs[i]'(by omega)) := List.getElem?_eq_getElem (by omega)
  obtain ⟨Ai, ci, e, hle, hr⟩ := (h.row i _ y hu hi).row
  refine ⟨g, 0, Ai, ci, rfl, ?_, hle, hr⟩
  rw [Nat.zero_add, blk_cell hh]
  have h2 : (cur.toList.take (vs.length * 1))[i]? = vs[i]? := by rw [ht]
  rw [List.getElem?_take_of_lt (by omega), Array.getElem?_toList, hu, e] at h2
  exact h2
def tabT (l : List (List Int)) : List (List Int) := (l.take 31).map fun y => y.take 31
theorem tabT_len (l : List (List Int)) : (tabT l).length ≤ 31 := by simp [tabT]; omega
set_option maxHeartbeats 4000000 in
set_option maxRecDepth 100000 in
theorem table_calls (A : Option Addr) (c : Nat) (l : List (List Int)) (w : World) (hr : Kd.C (Kd.slice 3 (Kd.int .i64)) w A l.length l) (hc : l.length ≤ c) :
  Calls Try.prog 38 #[.slice A l.length c] w fun e w' => ∃ A' c', e = .returned (.slice A' (tabT l).length c') ∧ (tabT l).length ≤ c' ∧ RowLL w' A' (tabT l) ∧ Below w.heap.size w w' := by
 have HR := Aside0.mk hr
 have HLM := Aside0.mk (show l.length ≤ 9223372036854775807 from by have := hr.2.1; omega)
 obtain ⟨L, HL⟩ : ∃ L, Aside0 (l.length = L) := ⟨_, ⟨rfl⟩⟩
 rw [HL.out] at hc HLM ⊢
 clear hr hc
 go_enter Try.func38, Try.ntmps38
 go_wp2
 go_loopw [4, 3] (fun iv vv wr => ∃ (i : Nat) (vs : List Value), i ≤ L ∧ i ≤ 31 ∧ iv = .int .i64 (i : Int) ∧ Aside0 (Tl wr w.heap.size vv vs ((l.take i).map fun y => y.take 31)) ∧ Aside0 (Below w.heap.size w wr)) (fun iv _ _ => 31 - (intOf iv).toNat)
 case atStart => exact ⟨0, [], Nat.zero_le _, by omega, rfl, ⟨Tl.nil _ _⟩, ⟨Below.refl _ _⟩⟩
 case round =>
  obtain ⟨i, vs, hi, hi2, rfl, HT, HB⟩ := hrel
  have HVL := Aside0.mk (show vs.length = i from by rw [HT.out.len, List.length_map, List.length_take, HL.out]; omega)
  by_cases hil : i < L
  ·have q1 : ((i : Int) < (L : Int)) = True := eq_true (by omega)
   have q2 : decide ((i : Int) < (L : Int)) = true := decide_eq_true (by omega)
   have q3 : (i < L) = True := eq_true hil
   have hz : (i : Int) < (L : Int) := by omega
   by_cases hi3 : i ≤ 30
   ·have q4 : ((i : Int) ≤ 30) = True := eq_true (by omega)
    have q5 : decide ((i : Int) ≤ 30) = true := decide_eq_true (by omega)
    have HI := Aside0.mk (And.intro hil hi3)
    obtain ⟨ad, A0, c0, hA, hcl, hle, hC0⟩ := at_L2 (Kd.C_below HR.out HB.out) (i : Int) (by omega) (by rw [HL.out]; omega)
    subst hA
    rw [Int.toNat_natCast] at hcl
    have hyy : l[i]? = some (rd_L2 l (i : Int)) := by
     unfold rd_L2
     rw [Int.toNat_natCast, List.getD_eq_getElem?_getD, List.getElem?_eq_getElem (by rw [HL.out]; exact hil)]
     rfl
    generalize rd_L2 l (i : Int) = y at *
    have HY := Aside0.mk (show (l.take (i + 1)).map (fun y => y.take 31) = (l.take i).map (fun y => y.take 31) ++ [y.take 31] from by
     rw [List.take_add_one, hyy, List.map_append]; rfl)
    have HLC := Aside0.mk (list_calls A0 c0 y wr hC0 hle)
    have hi1 := Aside0.mk (show wrap64 ((i : Int) + 1) = ((i + 1 : Nat) : Int) from nxtN (by omega))
    clear hi hi2 hil hi3 hC0 hyy hle
    generalize y.length = ly at hcl HLC
    generalize y.take 31 = yt at HY HLC
    go_wp2_with (first
     | (
       go_at_call 27; (with_reducible refine HLC.out.mono ?_); rintro e w1 ⟨v1, rfl, ho, hb⟩
       obtain ⟨A1, c1, rfl, hc1, hr1⟩ := ho.row
       have HO1 := Aside0.mk (own_weaken ho HB.out.size)
       have HT1 := Aside0.mk (HT.out.below hb)
       have HB1 := Aside0.mk (below_then HB.out HB.out.size hb)
       clear ho hb hc1 hr1)
     | (
       (with_reducible refine gate_builtin (b := .append) (xs := #[.tmp 15, .tmp 21]) rfl ?_); at_builtin
       refine append_own (w0 := w) (base := w.heap.size) (vs := vs) rfl (.tmp 15) (.tmp 21) rfl _ A1 c1 yt HT1.out HO1.out HB1.out HB1.out.size (by have := HVL.out; have := HI.out; omega) (by rfl) (by rfl) ?_
       intro v2 w2 h1 h2
       have HT2 := Aside0.mk h1
       have HB2 := Aside0.mk h2
       clear h1 h2))
    go_roundw
    ·exact ⟨i + 1, _, HI.out.1, by have := HI.out; omega, congrArg (Value.int .i64) hi1.out, ⟨by rw [HY.out]; exact HT2.out⟩, HB2⟩
    ·rw [hi1.out]; have := HI.out; simp only [intOf]; omega
   ·have q4 : ((i : Int) ≤ 30) = False := eq_false (by omega)
    have q5 : decide ((i : Int) ≤ 30) = false := decide_eq_false (by omega)
    have HE := Aside0.mk (show i = 31 from by omega)
    clear hi hi2 hil hi3
    go_wp2
    obtain ⟨A', c', e, h1, h2⟩ := HT.out.rows (by rw [List.length_map, List.length_take]; have := HE.out; omega)
    subst e
    have e2 : (l.take i).map (fun y => y.take 31) = tabT l := by rw [HE.out]; rfl
    rw [e2] at h1 h2 ⊢
    have H1 := Aside0.mk h1
    have H2 := Aside0.mk h2
    clear h1 h2 e2
    go_wp2
    go_ret
    exact ⟨_, _, rfl, H1.out, H2.out, HB.out⟩
  ·obtain rfl : L = i := by omega
   have HE := Aside0.mk hi2
   clear hi hi2 hil
   obtain ⟨A', c', e, h1, h2⟩ := HT.out.rows (by rw [List.length_map, List.length_take]; have := HE.out; omega)
   subst e
   have e2 : (l.take L).map (fun y => y.take 31) = tabT l := by
    unfold tabT
    rw [← HL.out, List.take_length, List.take_of_length_le (by rw [HL.out]; exact HE.out)]
   rw [e2] at h1 h2 ⊢
   have H1 := Aside0.mk h1
   have H2 := Aside0.mk h2
   clear h1 h2 e2
   go_wp2
   go_ret
   exact ⟨_, _, rfl, H1.out, H2.out, HB.out⟩
end Go.Proofs.Ytcploeijeedmdaa.X
