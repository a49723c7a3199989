/- The sums of the changes at the corners are the depths. Texts of this claim's session, put together: NewGrid, Count0, Count, Lines, Depth. -/
import Derived.Test.YtplhfbkejngioaaBc0
import Derived.Test.YtplhfbkejngioaaBc8
import Derived.Test.YtplhfbkejngioaaVLast
import Derived.IntWalk
import Derived.Test.YtplhfbkejngioaaVWords
import Derived.Test.YtplhfbkejngioaaVRepsOne
namespace Go.Proofs.Ytplhfbkejngioaa.X
open Go.RowKit Go.Proofs.YtplhfbkejngioaaW.PrintWords Go.Proofs.YtplhfbkejngioaaW.PrintLast Go.Proofs.Ytplhfbkejngioaa.S
set_option linter.unusedVariables false
set_option linter.unusedSimpArgs false
def allX (l : List S48) : List Int := l.flatMap fun r => [r.f0, r.f2]
def allY (l : List S48) : List Int := l.flatMap fun r => [r.f1, r.f3]
theorem own_ne_blk {W : World} {base : Nat} {v : Value} {xs : List Int} {g : Nat} {cs : Array Value} {t : TypeId} (h : OwnI W base v xs) (hb : W.heap[g]? = some (.cells cs t (0, 0))) (ht : t ≠ 3) : ∀ k, v.ownBlock = some k → k ≠ g := by
 intro k hk e
 subst e
 rcases h.2 with ⟨rfl, _⟩ | ⟨g, cap, cur, rfl, hbb, hh, r⟩
 ·simp [Value.ownBlock] at hk
 ·have : g = k := by simpa [Value.ownBlock] using hk
  subst this
  rw [hh] at hb
  injection hb with hb
  injection hb with _ h2
  exact ht h2.symm
theorem OwnI.alloc_drew {W : World} {base : Nat} {v : Value} {xs : List Int} (h : OwnI W base v xs) (o : Obj) : OwnI (W.drew.alloc o) base v xs :=
 OwnI.grown (W := W.drew) (row := none) h (World.grownBy_alloc _ _ none) (fun _ _ e => by cases e)
theorem own_slice {W : World} {base : Nat} {v : Value} {xs : List Int} (h : OwnI W base v xs) (hn : xs ≠ []) : ∃ g cap, v = .slice (some ⟨g, 0, none⟩) xs.length cap := by
 rcases h.2 with ⟨rfl, h0⟩ | ⟨g, cap, cur, rfl, hbb, hh, r⟩
 ·simp at h0; exact absurd h0 hn
 ·exact ⟨g, cap, rfl⟩
theorem own_form {W : World} {base : Nat} {v : Value} {xs : List Int} (h : OwnI W base v xs) : ∃ A c, v = .slice A xs.length c := by
 rcases h.2 with ⟨rfl, h0⟩ | ⟨g, cap, cur, rfl, hbb, hh, r⟩
 ·have : xs.length = 0 := by simpa using h0
  exact ⟨none, 0, by rw [this]⟩
 ·exact ⟨_, cap, rfl⟩
theorem grownBy_set (W : World) (p : Addr) (u : Value) : W.grownBy (W.setCell p u) (some p.block) := by
 refine ⟨rfl, rfl, rfl, by simp, fun k hk hne => ?_⟩
 show (W.heap.modify p.block _)[k]? = _
 rw [Array.getElem?_modify, if_neg (fun e => hne (by rw [e]))]
theorem allX_take (l : List S48) (k : Nat) (h : k < l.length) : allX (l.take (k + 1)) = allX (l.take k) ++ [l[k].f0, l[k].f2] := by
 unfold allX; rw [List.take_succ_eq_append_getElem h, List.flatMap_append]; simp only [List.flatMap_cons, List.flatMap_nil, List.append_nil]
theorem allY_take (l : List S48) (k : Nat) (h : k < l.length) : allY (l.take (k + 1)) = allY (l.take k) ++ [l[k].f1, l[k].f3] := by
 unfold allY; rw [List.take_succ_eq_append_getElem h, List.flatMap_append]; simp only [List.flatMap_cons, List.flatMap_nil, List.append_nil]
theorem allX_len (l : List S48) : (allX l).length = 2 * l.length := by
 unfold allX; induction l with
 | nil => rfl
 | cons a t ih => simp [ih]; omega
theorem allY_len (l : List S48) : (allY l).length = 2 * l.length := by
 unfold allY; induction l with
 | nil => rfl
 | cons a t ih => simp [ih]; omega
structure HereN (w W : World) (vx vy : Value) (lx ly : List Int) : Prop where
 G : W.heap[w.heap.size]? = some (.cells #[vx, vy, .slice none 0 0] 79 (0, 0))
 X : OwnI W w.heap.size vx lx
 Y : OwnI W w.heap.size vy ly
 A : ∀ k, vx.ownBlock = some k → vy.ownBlock ≠ some k
 B : Below w.heap.size w W
set_option maxHeartbeats 8000000 in
set_option maxRecDepth 100000 in
theorem newGrid_calls (A0 : Option Addr) (c0 : Nat) (l0 : List S48) (w : World) (hr0 : Kd.C k48 w A0 l0.length l0) (hc0 : l0.length ≤ c0) (hlen : l0.length ≤ 1000000) :
  Calls Try.prog 64 #[.slice A0 l0.length c0] w fun e w' => e = .returned (.pointer (some ⟨w.heap.size, 0, none⟩)) ∧ ∃ vx vy, HereN w w' vx vy (Lib.compact (sorted (allX l0))) (Lib.compact (sorted (allY l0))) := by
 have hu48 := Try.underlying48
 have HR0 := Aside0.mk hr0
 have HC0 := Aside0.mk hc0
 clear hr0 hc0
 go_enter Try.func64, Try.ntmps64
 go_wp2
 go_loopw [10] (fun i wr => ∃ k : Nat, k ≤ l0.length ∧ i = .int .i64 k ∧ ∃ vx vy, Aside0 (HereN w wr vx vy (allX (l0.take k)) (allY (l0.take k)))) (fun i _ => l0.length - (intOf i).toNat)
 case atStart => exact ⟨0, Nat.zero_le _, rfl, .slice none 0 0, .slice none 0 0, ⟨⟨heap_alloc_new w _, OwnI.nil _ _, OwnI.nil _ _, fun k hk => by simp [Value.ownBlock] at hk, below_alloc (Below.refl _ _) _⟩⟩⟩
 case round =>
  obtain ⟨k, hk, rfl, vx, vy, HH⟩ := hrel
  by_cases hlt : k < l0.length
  ·have hltz : (k : Int) < (l0.length : Int) := by omega
   obtain ⟨ad, e, h0, h1, h2, h3⟩ := at_T48 HR0.out (k : Int) (by omega) hltz
   cases e
   have hx : rd_T48 l0 (k : Int) = l0[k] := by simp [rd_T48, hlt]
   rw [hx] at h0 h1 h2 h3
   simp only [Int.toNat_natCast] at h0 h1 h2 h3
   replace h0 := pw_cell_below HH.out.B h0
   replace h1 := pw_cell_below HH.out.B h1
   replace h2 := pw_cell_below HH.out.B h2
   replace h3 := pw_cell_below HH.out.B h3
   clear hx
   have HL5 := Aside0.mk (show ((allX (l0.take k)).length + [l0[k].f0, l0[k].f2].length) * 8 ≤ 140737488355328 by rw [allX_len, List.length_take]; simp; omega)
   have HL6 := Aside0.mk (show ((allY (l0.take k)).length + [l0[k].f1, l0[k].f3].length) * 8 ≤ 140737488355328 by rw [allY_len, List.length_take]; simp; omega)
   have HTX := Aside0.mk (allX_take l0 k hlt)
   have HTY := Aside0.mk (allY_take l0 k hlt)
   generalize allX (l0.take k) = lx at HH HL5 HTX
   generalize allY (l0.take k) = ly at HH HL6 HTY
   have HBW := Aside0.mk HH.out.B
   have HG2 := Aside0.mk (blk_alloc HH.out.G (.cells #[.int .i64 l0[k].f0, .int .i64 l0[k].f1, .int .i64 l0[k].f2, .int .i64 l0[k].f3] 48))
   have HR2 := Aside0.mk (heap_alloc_new wr (.cells #[.int .i64 l0[k].f0, .int .i64 l0[k].f1, .int .i64 l0[k].f2, .int .i64 l0[k].f3] 48))
   have HX2 := Aside0.mk (HH.out.X.grown (World.grownBy_alloc wr (.cells #[.int .i64 l0[k].f0, .int .i64 l0[k].f1, .int .i64 l0[k].f2, .int .i64 l0[k].f3] 48) none) (fun _ _ h => by cases h))
   have HY2 := Aside0.mk (HH.out.Y.grown (World.grownBy_alloc wr (.cells #[.int .i64 l0[k].f0, .int .i64 l0[k].f1, .int .i64 l0[k].f2, .int .i64 l0[k].f3] 48) none) (fun _ _ h => by cases h))
   go_wp2
   have c1_0 := (blk_cell HG2.out 0).trans rfl
   have c1_1 := (blk_cell HR2.out 0).trans rfl
   have c1_2 := (blk_cell HR2.out 2).trans rfl
   refine stz (fun w' => w'.cell? ⟨w.heap.size, 0, none⟩ = some (vx) ∧ w'.cell? ⟨wr.heap.size, 0, none⟩ = some (.int .i64 l0[k].f0) ∧ w'.cell? ⟨wr.heap.size, 2, none⟩ = some (.int .i64 l0[k].f2)) [13] (bn 14 0) ⟨c1_0, c1_1, c1_2⟩ (fun hHeld => ?_)
   refine pz 0 (some 14) (bn 14 1) ?_
   refine pz 1 (some 15) (bn 14 3) ?_
   refine pz 2 (some 16) (bn 14 7) ?_
   refine pz 3 (some 17) (bn 14 15) ?_
   refine pz 5 (some 19) (bn 14 47) ?_
   refine pz 7 (some 21) (bn 14 175) ?_
   refine tz 4 (some 18) (bn 14 191) hHeld ?_
   refine tz 6 (some 20) (bn 14 255) hHeld ?_
   refine tz 8 (some 22) (bn 14 511) hHeld ?_
   refine oz 9 (some 23) (bn 14 1023) (fun K hK => ?_)
   refine vz ?_
   try simp only [Value.cells]
   refine hK.out _ _ ⟨(pw_cell_below (below_alloc (Below.refl _ _) _) c1_0), (pw_cell_below (below_alloc (Below.refl _ _) _) c1_1), (pw_cell_below (below_alloc (Below.refl _ _) _) c1_2)⟩ (fun hHeld => ?_)
   clear hK K
   refine nz (some 23) ?_
   refine oz 10 (some 24) (bn 14 2047) (fun K hK => ?_)
   refine append_step (base := w.heap.size) (by rfl) (.tmp 18) (.tmp 23) rfl vx lx [l0[k].f0, l0[k].f2] _ 2 2 rfl (by rfl) (by rfl) (OwnI.alloc_drew HX2.out _) ?hb5 ?hs5 HL5.out ?_
   case hb5 => have hz := heap_alloc_new (wr.alloc (.cells #[.int .i64 l0[k].f0, .int .i64 l0[k].f1, .int .i64 l0[k].f2, .int .i64 l0[k].f3] 48)).drew (.cells #[.int .i64 l0[k].f0, .int .i64 l0[k].f2] 3); simp only [World.size_drew, World.size_alloc] at hz; exact hz
   case hs5 => have := HBW.out.size; simp; omega
   intro vx1 w5 hox hgx hax
   obtain ⟨gx, capx, rfl⟩ := own_slice hox (by simp)
   have HG5 := Aside0.mk (blk_grown (blk_alloc (blk_drew HG2.out) _) hgx (fun e => (own_ne_blk HX2.out HG2.out (by decide) _ e.symm rfl)))
   have HR5 := Aside0.mk (blk_grown (blk_alloc (blk_drew HR2.out) _) hgx (fun e => (own_ne_blk HX2.out HR2.out (by decide) _ e.symm rfl)))
   refine hK.out _ _ ⟨((blk_cell HG5.out 0).trans rfl), ((blk_cell HR5.out 0).trans rfl), ((blk_cell HR5.out 2).trans rfl)⟩ (fun hHeld => ?_)
   clear hK K
   refine nz (some 24) ?_
   refine pz 11 (some 25) (bn 14 4095) ?_
   refine pz 12 (some 26) (bn 14 8191) ?_
   refine last_ (i := 13) (N := none) #[true, true, true, true, true, true, true, true, true, true, true, true, true, true] rfl rfl (by kernel_rfl) (by decide) (fun K hK => ?_)
   have cst : w5.cell? ⟨w.heap.size, 0, none⟩ = some vx := (blk_cell HG5.out 0).trans rfl
   have fst : w5.frozen? ⟨w.heap.size, 0, none⟩ = false := blk_frozen HG5.out 0
   refine sz ?_
   refine hK.out _ _ ?_
   clear hK K
   refine done_ (by kernel_rfl) ?_
   have HG6 : Aside0 ((w5.setCell ⟨w.heap.size, 0, none⟩ (.slice (some ⟨gx, 0, none⟩) (lx.length + 2) capx)).heap[w.heap.size]? = some (.cells #[.slice (some ⟨gx, 0, none⟩) (lx.length + 2) capx, vy, .slice none 0 0] 79 (0, 0))) := Aside0.mk (blk_put HG5.out 0 (.slice (some ⟨gx, 0, none⟩) (lx.length + 2) capx) rfl)
   have gw := grownBy_set w5 ⟨w.heap.size, 0, none⟩ (.slice (some ⟨gx, 0, none⟩) (lx.length + 2) capx)
   have hlx : (lx ++ [l0[k].f0, l0[k].f2]).length = lx.length + 2 := by simp
   have HX6 := Aside0.mk (hox.grown gw (fun q hq e => own_ne_blk hox HG5.out (by decide) q hq (by injection e)))
   rw [hlx] at HX6
   have hz5 := hgx.size
   simp only [World.size_drew, World.size_alloc] at hz5
   have hzw := HBW.out.size
   have hzl := blk_lt HH.out.G
   have HR6 := Aside0.mk (blk_grown HR5.out gw (fun e => by injection e with e; dsimp only at e; omega))
   have hy5 := OwnI.grown (OwnI.alloc_drew HY2.out _) hgx (fun q hq e => HH.out.A q e.symm hq)
   have HY6 := Aside0.mk (hy5.grown gw (fun q hq e => own_ne_blk hy5 HG5.out (by decide) q hq (by injection e)))
   have HBW6 := Aside0.mk ((((HBW.out.alloc hzw _).drew.alloc (by simp; omega) _).grown hgx (by simp; omega) (fun q hq => (HX2.out.lt hq).2)).grown gw (by omega) (fun q e => by cases e; exact Nat.le_refl _))
   have HA6 : Aside0 (∀ q, (Value.slice (some ⟨gx, 0, none⟩) (lx.length + 2) capx).ownBlock = some q → vy.ownBlock ≠ some q) := by
    refine ⟨fun q hq hv => ?_⟩
    obtain rfl : gx = q := by simpa [Value.ownBlock] using hq
    rcases hax with e | ⟨c, e, hc⟩
    ·exact HH.out.A gx (e.symm.trans (by simp [Value.ownBlock])) hv
    ·obtain rfl : gx = c := by simpa [Value.ownBlock] using e
     have := (HY2.out.lt hv).1
     simp only [World.size_drew, World.size_alloc] at hc this
     omega
   have hzr : Aside0 (w.heap.size < wr.heap.size) := ⟨hzl⟩
   clear hz5 hzw hzl hy5 gw hlx cst fst hax hgx hox HG5 HR5 HY2 HX2 HG2 HR2 HBW HH c1_0 c1_1 c1_2 h0 h1 h2 h3 hHeld
   generalize w5.setCell ⟨w.heap.size, 0, none⟩ (.slice (some ⟨gx, 0, none⟩) (lx.length + 2) capx) = w6 at *
   generalize (Value.slice (some ⟨gx, 0, none⟩) (lx.length + 2) capx) = vx6 at *
   go_wp2
   have d1_0 := (blk_cell HG6.out 1).trans rfl
   have d1_1 := (blk_cell HR6.out 1).trans rfl
   have d1_2 := (blk_cell HR6.out 3).trans rfl
   refine stz (fun w' => w'.cell? ⟨w.heap.size, 1, none⟩ = some (vy) ∧ w'.cell? ⟨wr.heap.size, 1, none⟩ = some (.int .i64 l0[k].f1) ∧ w'.cell? ⟨wr.heap.size, 3, none⟩ = some (.int .i64 l0[k].f3)) [13] (bn 14 0) ⟨d1_0, d1_1, d1_2⟩ (fun hHeld => ?_)
   refine pz 0 (some 27) (bn 14 1) ?_
   refine pz 1 (some 28) (bn 14 3) ?_
   refine pz 2 (some 29) (bn 14 7) ?_
   refine pz 3 (some 30) (bn 14 15) ?_
   refine pz 5 (some 32) (bn 14 47) ?_
   refine pz 7 (some 34) (bn 14 175) ?_
   refine tz 4 (some 31) (bn 14 191) hHeld ?_
   refine tz 6 (some 33) (bn 14 255) hHeld ?_
   refine tz 8 (some 35) (bn 14 511) hHeld ?_
   refine oz 9 (some 36) (bn 14 1023) (fun K hK => ?_)
   refine vz ?_
   try simp only [Value.cells]
   refine hK.out _ _ ⟨(pw_cell_below (below_alloc (Below.refl _ _) _) d1_0), (pw_cell_below (below_alloc (Below.refl _ _) _) d1_1), (pw_cell_below (below_alloc (Below.refl _ _) _) d1_2)⟩ (fun hHeld => ?_)
   clear hK K
   refine nz (some 36) ?_
   refine oz 10 (some 37) (bn 14 2047) (fun K hK => ?_)
   refine append_step (base := w.heap.size) (by rfl) (.tmp 31) (.tmp 36) rfl vy ly [l0[k].f1, l0[k].f3] _ 2 2 rfl (by rfl) (by rfl) (OwnI.alloc_drew HY6.out _) ?hb6 ?hs6 HL6.out ?_
   case hb6 => have hz := heap_alloc_new w6.drew (.cells #[.int .i64 l0[k].f1, .int .i64 l0[k].f3] 3); simp only [World.size_drew] at hz; exact hz
   case hs6 => have := HBW6.out.size; simp; omega
   intro vy1 w7 hoy hgy hay
   obtain ⟨gy, capy, rfl⟩ := own_slice hoy (by simp)
   have HG7 := Aside0.mk (blk_grown (blk_alloc (blk_drew HG6.out) _) hgy (fun e => (own_ne_blk HY6.out HG6.out (by decide) _ e.symm rfl)))
   have HR7 := Aside0.mk (blk_grown (blk_alloc (blk_drew HR6.out) _) hgy (fun e => (own_ne_blk HY6.out HR6.out (by decide) _ e.symm rfl)))
   refine hK.out _ _ ⟨((blk_cell HG7.out 1).trans rfl), ((blk_cell HR7.out 1).trans rfl), ((blk_cell HR7.out 3).trans rfl)⟩ (fun hHeld => ?_)
   clear hK K
   refine nz (some 37) ?_
   refine pz 11 (some 38) (bn 14 4095) ?_
   refine pz 12 (some 39) (bn 14 8191) ?_
   refine last_ (i := 13) (N := none) #[true, true, true, true, true, true, true, true, true, true, true, true, true, true] rfl rfl (by kernel_rfl) (by decide) (fun K hK => ?_)
   have cst7 : w7.cell? ⟨w.heap.size, 1, none⟩ = some vy := (blk_cell HG7.out 1).trans rfl
   have fst7 : w7.frozen? ⟨w.heap.size, 1, none⟩ = false := blk_frozen HG7.out 1
   refine sz ?_
   refine hK.out _ _ ?_
   clear hK K
   refine done_ (by kernel_rfl) ?_
   have HG8 : Aside0 ((w7.setCell ⟨w.heap.size, 1, none⟩ (.slice (some ⟨gy, 0, none⟩) (ly.length + 2) capy)).heap[w.heap.size]? = some (.cells #[vx6, .slice (some ⟨gy, 0, none⟩) (ly.length + 2) capy, .slice none 0 0] 79 (0, 0))) := Aside0.mk (blk_put HG7.out 1 (.slice (some ⟨gy, 0, none⟩) (ly.length + 2) capy) rfl)
   have gw := grownBy_set w7 ⟨w.heap.size, 1, none⟩ (.slice (some ⟨gy, 0, none⟩) (ly.length + 2) capy)
   have hly : (ly ++ [l0[k].f1, l0[k].f3]).length = ly.length + 2 := by simp
   have HY8 := Aside0.mk (hoy.grown gw (fun q hq e => own_ne_blk hoy HG7.out (by decide) q hq (by injection e)))
   rw [hly] at HY8
   have hz7 := hgy.size
   simp only [World.size_drew, World.size_alloc] at hz7
   have hzw := HBW6.out.size
   have hx7 := OwnI.grown (OwnI.alloc_drew HX6.out _) hgy (fun q hq e => HA6.out q hq e.symm)
   have HX8 := Aside0.mk (hx7.grown gw (fun q hq e => own_ne_blk hx7 HG7.out (by decide) q hq (by injection e)))
   have HBW8 := Aside0.mk (((HBW6.out.drew.alloc (by simp; omega) _).grown hgy (by simp; omega) (fun q hq => (HY6.out.lt hq).2)).grown gw (by omega) (fun q e => by cases e; exact Nat.le_refl _))
   have HA8 : Aside0 (∀ q, vx6.ownBlock = some q → (Value.slice (some ⟨gy, 0, none⟩) (ly.length + 2) capy).ownBlock ≠ some q) := by
    refine ⟨fun q hq hv => ?_⟩
    obtain rfl : gy = q := by simpa [Value.ownBlock] using hv
    rcases hay with e | ⟨c, e, hc⟩
    ·exact HA6.out gy hq (e.symm.trans (by simp [Value.ownBlock]))
    ·obtain rfl : gy = c := by simpa [Value.ownBlock] using e
     have := (HX6.out.lt hq).1
     simp only [World.size_drew, World.size_alloc] at hc this
     omega
   clear hz7 hzw hx7 gw hly cst7 fst7 hay hgy hoy HG7 HR7 HY6 HX6 HG6 HR6 HBW6 d1_0 d1_1 d1_2 hHeld HA6
   rw [← HTX.out] at HX8
   have hyy := HY8.out
   rw [← HTY.out] at hyy
   clear HY8
   generalize w7.setCell ⟨w.heap.size, 1, none⟩ (.slice (some ⟨gy, 0, none⟩) (ly.length + 2) capy) = w8 at *
   generalize (Value.slice (some ⟨gy, 0, none⟩) (ly.length + 2) capy) = vy8 at *
   go_wp2
   go_roundw
   ·exact ⟨k + 1, hlt, by rw [Int.natCast_add]; rfl, vx6, vy8, ⟨⟨HG8.out, HX8.out, hyy, HA8.out, HBW8.out⟩⟩⟩
   ·simp only [intOf]
    omega
  ·obtain rfl : k = l0.length := by omega
   rw [List.take_length] at HH
   have HLX := Aside0.mk (allX_len l0)
   have HLY := Aside0.mk (allY_len l0)
   generalize hX0 : allX l0 = lx at HH HLX
   generalize hY0 : allY l0 = ly at HH HLY
   replace hX0 := Aside0.mk hX0
   replace hY0 := Aside0.mk hY0
   have c0 := (blk_cell HH.out.G 0).trans rfl
   have HLX0 := Aside0.mk (show lx.length < 4611686018427387904 by have := HLX.out; omega)
   have HLY0 := Aside0.mk (show ly.length < 4611686018427387904 by have := HLY.out; omega)
   have HG := Aside0.mk HH.out.G
   have HX := Aside0.mk HH.out.X
   have HY := Aside0.mk HH.out.Y
   have HA3 := Aside0.mk HH.out.A
   have HB := Aside0.mk HH.out.B
   clear HH
   go_wp2_with (first
    | (go_at_call 68; (with_reducible refine (sort_own HX.out HLX0.out).mono ?_); rintro e w2 ⟨rfl, hx2, g2⟩; have HX2 := Aside0.mk hx2; have HG2 := Aside0.mk (blk_grown HG.out g2 (fun e => (own_ne_blk HX.out HG.out (by decide) _ e.symm rfl))); have HY2 := Aside0.mk (OwnI.grown HY.out g2 (fun q hq e => HA3.out q e.symm hq)); have HB2 := Aside0.mk (HB.out.grown g2 HB.out.size (fun q hq => (HX.out.lt hq).2)); have c2 := (blk_cell HG2.out 1).trans rfl; clear hx2 g2)
    | (go_at_call 68; (with_reducible refine (sort_own HY2.out HLY0.out).mono ?_); rintro e w3 ⟨rfl, hy3, g3⟩; have HY3 := Aside0.mk hy3; have HG3 := Aside0.mk (blk_grown HG2.out g3 (fun e => (own_ne_blk HY2.out HG2.out (by decide) _ e.symm rfl))); have HX3 := Aside0.mk (OwnI.grown HX2.out g3 (fun q hq e => HA3.out q hq e.symm)); have HB3 := Aside0.mk (HB2.out.grown g3 HB2.out.size (fun q hq => (HY2.out.lt hq).2)); clear hy3 g3))
   have HLX := Aside0.mk (show (sorted lx).length < 4611686018427387904 by rw [sorted_length]; have := HLX.out; omega)
   have HLY := Aside0.mk (show (sorted ly).length < 4611686018427387904 by rw [sorted_length]; have := HLY.out; omega)
   have HX3d := Aside0.mk (OwnI.grown (W' := w3.drew) (row := none) HX3.out ⟨rfl, rfl, rfl, Nat.le_refl _, fun _ _ _ => rfl⟩ (fun _ _ e => by cases e))
   have HY3d := Aside0.mk (OwnI.grown (W' := w3.drew) (row := none) HY3.out ⟨rfl, rfl, rfl, Nat.le_refl _, fun _ _ _ => rfl⟩ (fun _ _ e => by cases e))
   have HB3d := Aside0.mk HB3.out.drew
   have c3_0 := (blk_cell HG3.out 0).trans rfl
   have c3_1 := (blk_cell HG3.out 1).trans rfl
   refine stz (fun w' => w'.cell? ⟨w.heap.size, 0, none⟩ = some (vx) ∧ w'.cell? ⟨w.heap.size, 1, none⟩ = some (vy)) [14, 17] (bn 18 0) ⟨c3_0, c3_1⟩ (fun hHeld => ?_)
   refine pz 0 (some 51) (bn 18 1) ?_
   refine pz 1 (some 52) (bn 18 3) ?_
   refine pz 2 (some 53) (bn 18 7) ?_
   refine pz 3 (some 54) (bn 18 15) ?_
   refine pz 4 (some 55) (bn 18 31) ?_
   refine pz 7 (some 58) (bn 18 159) ?_
   refine pz 8 (some 59) (bn 18 415) ?_
   refine pz 9 (some 60) (bn 18 927) ?_
   refine tz 5 (some 56) (bn 18 959) hHeld ?_
   refine tz 10 (some 61) (bn 18 1983) hHeld ?_
   refine oz 6 (some 57) (bn 18 2047) (fun K hK => ?_)
   refine gz Try.func69 #[vx] ?_
   with_reducible refine (compact_own HX3d.out HLX.out).mono ?_
   rintro e w5 ⟨vx5, rfl, hx5, g5, ho5⟩
   refine ⟨_, rfl, ?_⟩
   obtain ⟨A5, c5, rfl⟩ := own_form hx5
   have HG5 := Aside0.mk (blk_grown (blk_drew HG3.out) g5 (fun e => (own_ne_blk HX3.out HG3.out (by decide) _ e.symm rfl)))
   have HX5 := Aside0.mk hx5
   have HY5 := Aside0.mk (OwnI.grown HY3d.out g5 (fun q hq e => HA3.out q e.symm hq))
   have HB5 := Aside0.mk (HB3d.out.grown g5 (by simpa using HB3.out.size) (fun q hq => (HX3.out.lt hq).2))
   have HO5 := Aside0.mk ho5
   clear hx5 g5 ho5
   refine hK.out _ _ ⟨((blk_cell HG5.out 0).trans rfl), ((blk_cell HG5.out 1).trans rfl)⟩ (fun hHeld => ?_)
   clear hK K
   refine nz (some 57) ?_
   refine oz 11 (some 62) (bn 18 4095) (fun K hK => ?_)
   refine gz Try.func69 #[vy] ?_
   with_reducible refine (compact_own HY5.out HLY.out).mono ?_
   rintro e w6 ⟨vy6, rfl, hy6, g6, ho6⟩
   refine ⟨_, rfl, ?_⟩
   obtain ⟨A6, c6, rfl⟩ := own_form hy6
   have HG6 := Aside0.mk (blk_grown HG5.out g6 (fun e => (own_ne_blk HY5.out HG5.out (by decide) _ e.symm rfl)))
   have HY6 := Aside0.mk hy6
   have HX6 := Aside0.mk (OwnI.grown HX5.out g6 (fun q hq e => HA3.out q (HO5.out.symm.trans hq) e.symm))
   have HB6 := Aside0.mk (HB5.out.grown g6 HB5.out.size (fun q hq => (HY5.out.lt hq).2))
   have HO6 := Aside0.mk ho6
   clear hy6 g6 ho6
   refine hK.out _ _ ⟨((blk_cell HG6.out 0).trans rfl), ((blk_cell HG6.out 1).trans rfl)⟩ (fun hHeld => ?_)
   clear hK K
   refine nz (some 62) ?_
   refine pz 12 (some 63) (bn 18 8191) ?_
   refine pz 13 (some 64) (bn 18 16383) ?_
   refine last_ (i := 14) (N := none) #[true, true, true, true, true, true, true, true, true, true, true, true, true, true, true, false, false, false] rfl rfl (by kernel_rfl) (by decide) (fun K hK => ?_)
   have cst := (blk_cell HG6.out 0).trans rfl
   have fst := blk_frozen HG6.out 0
   refine sz ?_
   have HG7 : Aside0 ((w6.setCell ⟨w.heap.size, 0, none⟩ (.slice A5 (Lib.compact (sorted lx)).length c5)).heap[w.heap.size]? = some (.cells #[.slice A5 (Lib.compact (sorted lx)).length c5, vy, .slice none 0 0] 79 (0, 0))) := Aside0.mk (blk_put HG6.out 0 _ rfl)
   have cst7 := (blk_cell HG7.out 1).trans rfl
   have fst7 := blk_frozen HG7.out 1
   refine hK.out _ _ ?_
   clear hK K
   refine pz 15 (some 65) (bn 18 65535) ?_
   refine pz 16 (some 66) (bn 18 131071) ?_
   refine last_ (i := 17) (N := none) #[true, true, true, true, true, true, true, true, true, true, true, true, true, true, true, true, true, true] rfl rfl (by kernel_rfl) (by decide) (fun K hK => ?_)
   refine sz ?_
   refine hK.out _ _ ?_
   clear hK K
   refine done_ (by kernel_rfl) ?_
   have HG8 : Aside0 (((w6.setCell ⟨w.heap.size, 0, none⟩ (.slice A5 (Lib.compact (sorted lx)).length c5)).setCell ⟨w.heap.size, 1, none⟩ (.slice A6 (Lib.compact (sorted ly)).length c6)).heap[w.heap.size]? = some (.cells #[.slice A5 (Lib.compact (sorted lx)).length c5, .slice A6 (Lib.compact (sorted ly)).length c6, .slice none 0 0] 79 (0, 0))) := Aside0.mk (blk_put HG7.out 1 _ rfl)
   have g7 := grownBy_set w6 ⟨w.heap.size, 0, none⟩ (.slice A5 (Lib.compact (sorted lx)).length c5)
   have g8 := grownBy_set (w6.setCell ⟨w.heap.size, 0, none⟩ (.slice A5 (Lib.compact (sorted lx)).length c5)) ⟨w.heap.size, 1, none⟩ (.slice A6 (Lib.compact (sorted ly)).length c6)
   have hx7 := OwnI.grown HX6.out g7 (fun q hq e => own_ne_blk HX6.out HG6.out (by decide) q hq (by injection e))
   have hy7 := OwnI.grown HY6.out g7 (fun q hq e => own_ne_blk HY6.out HG6.out (by decide) q hq (by injection e))
   have HX8 := Aside0.mk (OwnI.grown hx7 g8 (fun q hq e => own_ne_blk hx7 HG7.out (by decide) q hq (by injection e)))
   have HY8 := Aside0.mk (OwnI.grown hy7 g8 (fun q hq e => own_ne_blk hy7 HG7.out (by decide) q hq (by injection e)))
   have hz7 := HB6.out.size
   have HB8 := Aside0.mk ((HB6.out.grown g7 hz7 (fun q e => by cases e; exact Nat.le_refl _)).grown g8 (by simpa using hz7) (fun q e => by cases e; exact Nat.le_refl _))
   have HA8 : Aside0 (∀ q, (Value.slice A5 (Lib.compact (sorted lx)).length c5).ownBlock = some q → (Value.slice A6 (Lib.compact (sorted ly)).length c6).ownBlock ≠ some q) := ⟨fun q hq hv => HA3.out q (HO5.out.symm.trans hq) (HO6.out.symm.trans hv)⟩
   clear hx7 hy7 g7 g8 hz7 HG7 HG6 HX6 HY6 HB6 HG5 HX5 HY5 HB5 HO5 HO6 cst fst cst7 fst7 c3_0 c3_1 HB3d HY3d HX3d HX3 HY3 HB3 HG3 HX2 HY2 HB2 HG2 HX HY HB HG c0
   generalize (w6.setCell ⟨w.heap.size, 0, none⟩ (.slice A5 (Lib.compact (sorted lx)).length c5)).setCell ⟨w.heap.size, 1, none⟩ (.slice A6 (Lib.compact (sorted ly)).length c6) = w8 at *
   go_wp2
   replace hX0 := hX0.out
   replace hY0 := hY0.out
   subst hX0 hY0
   refine bodyPost_ret (results_tmp rfl _ _ _) rfl ⟨rfl, _, _, ⟨HG8.out, HX8.out, HY8.out, HA8.out, HB8.out⟩⟩
end Go.Proofs.Ytplhfbkejngioaa.X
namespace Go.Proofs.Ytplhfbkejngioaa.X
open Go.RowKit Go.Proofs.YtplhfbkejngioaaW.PrintWords Go.Proofs.YtplhfbkejngioaaW.PrintLast Go.Proofs.Ytplhfbkejngioaa.S
set_option linter.unusedVariables false
set_option linter.unusedSimpArgs false
def topV (D n m k : Nat) : Array Value := ((List.range n).map fun i => if i < k then Value.slice (some ⟨D + 1 + i, 0, none⟩) m m else Value.slice none 0 0).toArray
def rowV (m : Nat) (f : Nat → Int) : Array Value := ((List.range m).map fun j => Value.int .i64 (f j)).toArray
theorem topV_get (D n m k i : Nat) (h : i < n) : (topV D n m k)[i]? = some (if i < k then Value.slice (some ⟨D + 1 + i, 0, none⟩) m m else Value.slice none 0 0) := by
 simp [topV, h]
theorem rowV_get (m : Nat) (f : Nat → Int) (j : Nat) (h : j < m) : (rowV m f)[j]? = some (.int .i64 (f j)) := by
 simp [rowV, h]
theorem topV_put (D n m k : Nat) (h : k < n) : (topV D n m k).setIfInBounds k (.slice (some ⟨D + 1 + k, 0, none⟩) m m) = topV D n m (k + 1) := by
 apply Array.ext'
 apply List.ext_getElem?
 intro i
 simp only [topV, List.setIfInBounds_toArray, List.getElem?_set, List.length_map, List.length_range, List.getElem?_map]
 by_cases hi : i < n
 ·by_cases hk : k = i
  ·subst hk; simp [h]
  ·have : (i < k + 1) = (i < k) := by apply propext; omega
   simp [hi, hk, this]
 ·have : ¬ k = i := by omega
  simp [hi, this]
theorem rowV_put (m : Nat) (f f' : Nat → Int) (j : Nat) (x : Int) (h : j < m) (hf : ∀ i, i < m → f' i = if i = j then x else f i) : (rowV m f).setIfInBounds j (.int .i64 x) = rowV m f' := by
 apply Array.ext'
 apply List.ext_getElem?
 intro i
 simp only [rowV, List.setIfInBounds_toArray, List.getElem?_set, List.length_map, List.length_range, List.getElem?_map]
 by_cases hi : i < m
 ·by_cases hk : j = i
  ·subst hk; simp [h, hf j h]
  ·have : ¬ i = j := fun e => hk e.symm
   simp [hi, hk, hf i hi, this]
 ·have : ¬ j = i := by omega
  simp [hi, this]
theorem rowV_congr (m : Nat) (f f' : Nat → Int) (h : ∀ i, i < m → f i = f' i) : rowV m f = rowV m f' := by
 unfold rowV; congr 1; exact List.map_congr_left fun i hi => by rw [h i (by simpa using hi)]
theorem info41 : (Try.prog.info? 41).map (fun i => (i.zero, i.size, i.bytes)) = some (some (.slice none 0 0), 1, 24) := by kernel_rfl
theorem made_one (z : Value) (h : z.cells = #[z]) (n : Nat) : madeCells z.cells (n * 1) = (List.replicate n z).toArray := by
 rw [h]; unfold madeCells
 apply Array.ext'
 simp only [Array.toList_map, Array.toList_range]
 apply List.ext_getElem?
 intro i
 by_cases hi : i < n
 ·simp [hi, Nat.mod_one]
 ·simp [hi]
theorem make_top (w : World) (n m D : Nat) (hn : n ≤ 1000000) : (Instr.makeSlice 77 (.int .i64 (n : Int)) (.int .i64 (n : Int))).run Try.prog w = .ok (.slice (some ⟨w.heap.size, 0, none⟩) n n) (w.alloc (.cells (topV D n m 0) 41)) := by
 obtain ⟨i0, hi, hz⟩ := Option.map_eq_some_iff.1 info41
 simp only [Prod.mk.injEq] at hz
 have := run_make (P := Try.prog) w 77 41 i0 (.slice none 0 0) Try.underlying77 hi hz.1 .i64 .i64 (n : Int) (n : Int) (by omega) (by omega) (by rw [hz.2.2]; omega) (by omega)
 rw [hz.2.1, Int.toNat_natCast] at this
 rw [this, made_one _ rfl, show topV D n m 0 = (List.replicate n (Value.slice none 0 0)).toArray by
  simp only [topV, Nat.not_lt_zero, if_false]; rw [List.map_const', List.length_range]]
theorem make_row (w : World) (m : Nat) (hm : m ≤ 1000000) : (Instr.makeSlice 41 (.int .i64 (m : Int)) (.int .i64 (m : Int))).run Try.prog w = .ok (.slice (some ⟨w.heap.size, 0, none⟩) m m) (w.alloc (.cells (rowV m fun _ => 0) 3)) := by
 obtain ⟨i0, hi, hz⟩ := Option.map_eq_some_iff.1 info3'
 simp only [Prod.mk.injEq] at hz
 have := run_make (P := Try.prog) w 41 3 i0 (.int .i64 0) Try.underlying41 hi hz.1 .i64 .i64 (m : Int) (m : Int) (by omega) (by omega) (by rw [hz.2.2]; omega) (by omega)
 rw [hz.2.1, Int.toNat_natCast] at this
 rw [this, made_one _ rfl, show rowV m (fun _ => 0) = (List.replicate m (Value.int .i64 0)).toArray by
  simp only [rowV]; rw [List.map_const', List.length_range]]
structure Tab (wg : World) (D n m : Nat) (T : Nat → Nat → Int) (W : World) : Prop where
 B : Below D wg W
 top : W.heap[D]? = some (.cells (topV D n m n) 41 (0, 0))
 rows : ∀ i, i < n → W.heap[D + 1 + i]? = some (.cells (rowV m (T i)) 3 (0, 0))
structure TabA (wg : World) (D n m k : Nat) (W : World) : Prop where
 B : Below D wg W
 top : W.heap[D]? = some (.cells (topV D n m k) 41 (0, 0))
 rows : ∀ i, i < k → W.heap[D + 1 + i]? = some (.cells (rowV m fun _ => 0) 3 (0, 0))
 size : W.heap.size = D + 1 + k
theorem Tab.size {wg : World} {D n m : Nat} {T : Nat → Nat → Int} {W : World} (h : Tab wg D n m T W) : D + n < W.heap.size := by
 have h0 := blk_lt h.top
 by_cases hn : n = 0
 ·omega
 ·have := blk_lt (h.rows (n - 1) (by omega)); omega
theorem Tab.grown {wg : World} {D n m : Nat} {T : Nat → Nat → Int} {W W' : World} (h : Tab wg D n m T W) (hD : D ≤ W.heap.size) (hg : W.grownBy W' none) : Tab wg D n m T W' :=
 ⟨h.B.grown hg hD (fun _ e => by cases e), blk_grown h.top hg (by simp), fun i hi => blk_grown (h.rows i hi) hg (by simp)⟩
theorem grownBy_drew (W : World) : W.grownBy W.drew none := ⟨rfl, rfl, rfl, Nat.le_refl _, fun _ _ _ => rfl⟩
theorem grownBy_drewN (W : World) (q : Nat) : W.grownBy (W.drewN q) none := ⟨rfl, rfl, rfl, Nat.le_refl _, fun _ _ _ => rfl⟩
theorem Tab.put {wg : World} {D n m : Nat} {T T' : Nat → Nat → Int} {W : World} (h : Tab wg D n m T W) (i j : Nat) (x : Int) (hi : i < n) (hj : j < m)
  (hT : ∀ a b, a < n → b < m → T' a b = if a = i ∧ b = j then x else T a b) : Tab wg D n m T' (W.setCell ⟨D + 1 + i, j, none⟩ (.int .i64 x)) := by
 refine ⟨h.B.setCell (by simp; omega) _, ?_, fun a ha => ?_⟩
 ·rw [show (W.setCell ⟨D + 1 + i, j, none⟩ (.int .i64 x)).heap[D]? = W.heap[D]? by
   show (W.heap.modify (D + 1 + i) _)[D]? = _
   rw [Array.getElem?_modify, if_neg (by omega)]]
  exact h.top
 ·by_cases e : a = i
  ·subst e
   rw [blk_put (h.rows a ha) j (.int .i64 x) rfl]
   rw [rowV_put m (T a) (T' a) j x hj (fun b hb => by rw [hT a b ha hb]; simp)]
  ·rw [show (W.setCell ⟨D + 1 + i, j, none⟩ (.int .i64 x)).heap[D + 1 + a]? = W.heap[D + 1 + a]? by
    show (W.heap.modify (D + 1 + i) _)[D + 1 + a]? = _
    rw [Array.getElem?_modify, if_neg (by omega)]]
   rw [h.rows a ha, rowV_congr m (T a) (T' a) (fun b hb => by rw [hT a b ha hb]; simp [e])]
theorem OwnI.below {W W' : World} {base n₀ : Nat} {v : Value} {xs : List Int} (h : OwnI W base v xs) (hl : ∀ k, v.ownBlock = some k → k < n₀) (hb : Below n₀ W W') : OwnI W' base v xs := by
 obtain ⟨h1, h2⟩ := h
 refine ⟨h1, ?_⟩
 rcases h2 with h2 | ⟨g, cap, cur, rfl, hbb, hh, r⟩
 ·exact .inl h2
 ·exact .inr ⟨g, cap, cur, rfl, hbb, (hb.block g (hl g (by simp [Value.ownBlock]))).trans hh, r⟩
def pos (xs : List Int) (x : Int) : Nat := xs.countP (· < x)
theorem search_own {W : World} {base : Nat} {v : Value} {xs : List Int} (h : OwnI W base v xs) (hs : xs.Pairwise (· ≤ ·)) (hl : xs.length < 4611686018427387904) (x : Int) :
  Calls Try.prog 93 #[v, .int .i64 x] W fun e w' => e = .returned (.tuple #[.int .i64 (pos xs x : Nat), .bool (xs.contains x)]) ∧ ∃ q, w' = W.drewN q := by
 rcases h.2 with ⟨rfl, h0⟩ | ⟨g, cap, cur, rfl, hb, hh, hn, hc, hss, ht⟩
 ·obtain rfl : xs = [] := by simpa using h0
  refine (Try.slices_BinarySearch_int_empty none 0 x W).mono ?_
  rintro e w' ⟨rfl, rfl⟩
  exact ⟨rfl, 0, rfl⟩
 ·have ht' : cur.toList.take xs.length = xs.map (Value.int .i64) := by simpa using ht
  have hcell : ∀ j, j < xs.length → W.cell? ⟨g, 0 + j, none⟩ = some (.int .i64 (xs.getD j 0)) := by
   intro j hj
   rw [Nat.zero_add, blk_cell hh j]
   have : (cur.toList.take xs.length)[j]? = some (.int .i64 (xs.getD j 0)) := by rw [ht']; simp [hj]
   rw [List.getElem?_take, if_pos hj] at this
   rw [← this]; simp
  refine (Try.slices_BinarySearch_int g 0 xs.length cap xs x W (Nat.le_refl _) hl hcell (by rw [List.take_length]; exact hs)).mono ?_
  rintro e w' ⟨rfl, q, rfl⟩
  rw [List.take_length]
  exact ⟨rfl, q, rfl⟩
theorem pos_lt {xs : List Int} {x : Int} (hx : x ∈ xs) : pos xs x < xs.length := by
 have h1 : pos xs x ≤ xs.length := List.countP_le_length
 rcases Nat.lt_or_ge (pos xs x) xs.length with h | h
 ·exact h
 ·have := List.countP_eq_length.1 (Nat.le_antisymm h1 h) x hx
  simp at this
end Go.Proofs.Ytplhfbkejngioaa.X
namespace Go.Proofs.Ytplhfbkejngioaa.X
open Go.RowKit Go.Proofs.YtplhfbkejngioaaW.PrintWords
def four (r : S48) : List (Int × Int × Int) := [(r.f0, r.f1, 1), (r.f2, r.f1, -1), (r.f0, r.f3, -1), (r.f2, r.f3, 1)]
def D1 (xs ys : List Int) (cs : List (Int × Int × Int)) (i j : Nat) : Int := sumL (cs.map fun c => if pos xs c.1 = i ∧ pos ys c.2.1 = j then c.2.2 else 0)
def rowS (T : Nat → Nat → Int) (i : Nat) : Nat → Int
 | 0 => 0
 | j + 1 => rowS T i j + T i j
def PT (T : Nat → Nat → Int) : Nat → Nat → Int
 | 0, j => rowS T 0 (j + 1)
 | i + 1, j => rowS T (i + 1) (j + 1) + PT T i j
theorem sumL_append (a b : List Int) : sumL (a ++ b) = sumL a + sumL b := by
 induction a with
 | nil => simp [sumL]
 | cons x t ih => simp only [sumL, List.cons_append, List.foldr_cons] at *; omega
theorem D1_snoc (xs ys : List Int) (cs : List (Int × Int × Int)) (x : Int × Int × Int) (i j : Nat) : D1 xs ys (cs ++ [x]) i j = D1 xs ys cs i j + if pos xs x.1 = i ∧ pos ys x.2.1 = j then x.2.2 else 0 := by
 unfold D1; rw [List.map_append, sumL_append]; simp [sumL]
theorem wrap64_add (a b : Int) : wrap64 (wrap64 a + wrap64 b) = wrap64 (a + b) := by unfold wrap64; omega
theorem wrap64_add' (a b : Int) : wrap64 (wrap64 a + b) = wrap64 (a + b) := by unfold wrap64; omega
theorem TabA.step {wg : World} {D n m k : Nat} {W : World} (h : TabA wg D n m k W) (hk : k < n) :
  TabA wg D n m (k + 1) ((W.alloc (.cells (rowV m fun _ => 0) 3 (0, 0))).setCell ⟨D, k, none⟩ (.slice (some ⟨W.heap.size, 0, none⟩) m m)).drew := by
 show TabA wg D n m (k + 1) ((W.drew.alloc (.cells (rowV m fun _ => 0) 3 (0, 0))).setCell ⟨D, k, none⟩ (.slice (some ⟨W.heap.size, 0, none⟩) m m))
 have hz := h.size
 have hto := blk_put (blk_alloc (blk_drew h.top) (.cells (rowV m fun _ => 0) 3 (0, 0))) k (.slice (some ⟨W.heap.size, 0, none⟩) m m) rfl
 have hne : ∀ i, ((W.drew.alloc (.cells (rowV m fun _ => 0) 3 (0, 0))).setCell ⟨D, k, none⟩ (.slice (some ⟨W.heap.size, 0, none⟩) m m)).heap[D + 1 + i]? = (W.drew.alloc (.cells (rowV m fun _ => 0) 3 (0, 0))).heap[D + 1 + i]? := by
  intro i
  show ((W.drew.alloc (.cells (rowV m fun _ => 0) 3 (0, 0))).heap.modify D _)[D + 1 + i]? = _
  rw [Array.getElem?_modify, if_neg (by omega)]
 refine ⟨(h.B.drew.alloc (by simp; omega) _).setCell (Nat.le_refl _) _, ?_, fun i hi => ?_, by simp; omega⟩
 ·rw [hto, hz, topV_put D n m k hk]
 ·rw [hne]
  by_cases e : i = k
  ·subst e
   have := heap_alloc_new W.drew (.cells (rowV m fun _ => 0) 3 (0, 0))
   rw [World.size_drew, hz] at this
   exact this
  ·exact blk_alloc (blk_drew (h.rows i (by omega))) _
theorem TabA.done {wg : World} {D n m : Nat} {W : World} (h : TabA wg D n m n W) : Tab wg D n m (fun _ _ => 0) W := ⟨h.B, h.top, h.rows⟩
theorem Tab.congr {wg : World} {D n m : Nat} {T T' : Nat → Nat → Int} {W : World} (h : Tab wg D n m T W) (hT : ∀ a b, a < n → b < m → T a b = T' a b) : Tab wg D n m T' W :=
 ⟨h.B, h.top, fun i hi => by rw [h.rows i hi, rowV_congr m (T i) (T' i) (fun b hb => hT i b hi hb)]⟩
theorem Tab.cell {wg : World} {D n m : Nat} {T : Nat → Nat → Int} {W : World} (h : Tab wg D n m T W) {i j : Nat} (hi : i < n) (hj : j < m) : W.cell? ⟨D + 1 + i, j, none⟩ = some (.int .i64 (T i j)) :=
 (blk_cell (h.rows i hi) j).trans (rowV_get m (T i) j hj)
theorem Tab.free {wg : World} {D n m : Nat} {T : Nat → Nat → Int} {W : World} (h : Tab wg D n m T W) {i : Nat} (j : Nat) (hi : i < n) : W.frozen? ⟨D + 1 + i, j, none⟩ = false := blk_frozen (h.rows i hi) j
theorem Tab.line {wg : World} {D n m : Nat} {T : Nat → Nat → Int} {W : World} (h : Tab wg D n m T W) {i : Nat} (hi : i < n) : W.cell? ⟨D, i, none⟩ = some (.slice (some ⟨D + 1 + i, 0, none⟩) m m) := by
 rw [(blk_cell h.top i).trans (topV_get D n m n i hi), if_pos hi]
theorem Tab.putD {wg : World} {D n m : Nat} {xs ys : List Int} {cs : List (Int × Int × Int)} {W : World} (h : Tab wg D n m (fun i j => wrap64 (D1 xs ys cs i j)) W) (x y d : Int) (hi : pos xs x < n) (hj : pos ys y < m) :
  Tab wg D n m (fun i j => wrap64 (D1 xs ys (cs ++ [(x, y, d)]) i j)) ((W.setCell ⟨D + 1 + pos xs x, pos ys y, none⟩ (.int .i64 (wrap64 (wrap64 (D1 xs ys cs (pos xs x) (pos ys y)) + d)))).drew) := by
 show Tab wg D n m _ (W.drew.setCell ⟨D + 1 + pos xs x, pos ys y, none⟩ _)
 refine (h.grown (Nat.le_of_lt (by have := h.size; omega)) (grownBy_drew W)).put _ _ _ hi hj (fun a b ha hb => ?_)
 rw [D1_snoc]
 by_cases e : a = pos xs x ∧ b = pos ys y
 ·rw [if_pos e, if_pos ⟨e.1.symm, e.2.symm⟩, e.1, e.2, wrap64_add']
 ·rw [if_neg e, if_neg (fun q => e ⟨q.1.symm, q.2.symm⟩), Int.add_zero]
theorem idx114_0 (v0 v1 v2 v3 v4 v5 v6 v7 v8 v9 v10 v11 : Value) (w : World) : Sem.run Try.prog (Instr.index 114 (.agg #[v0, v1, v2, v3, v4, v5, v6, v7, v8, v9, v10, v11]) (.int .i64 0)) w = .ok (.agg #[v0, v1, v2]) w := by kernel_rfl
theorem idx114_1 (v0 v1 v2 v3 v4 v5 v6 v7 v8 v9 v10 v11 : Value) (w : World) : Sem.run Try.prog (Instr.index 114 (.agg #[v0, v1, v2, v3, v4, v5, v6, v7, v8, v9, v10, v11]) (.int .i64 1)) w = .ok (.agg #[v3, v4, v5]) w := by kernel_rfl
theorem idx114_2 (v0 v1 v2 v3 v4 v5 v6 v7 v8 v9 v10 v11 : Value) (w : World) : Sem.run Try.prog (Instr.index 114 (.agg #[v0, v1, v2, v3, v4, v5, v6, v7, v8, v9, v10, v11]) (.int .i64 2)) w = .ok (.agg #[v6, v7, v8]) w := by kernel_rfl
theorem idx114_3 (v0 v1 v2 v3 v4 v5 v6 v7 v8 v9 v10 v11 : Value) (w : World) : Sem.run Try.prog (Instr.index 114 (.agg #[v0, v1, v2, v3, v4, v5, v6, v7, v8, v9, v10, v11]) (.int .i64 3)) w = .ok (.agg #[v9, v10, v11]) w := by kernel_rfl
def mixT (T : Nat → Nat → Int) (i j a b : Nat) : Int := if a < i ∨ (a = i ∧ b < j) then wrap64 (PT T a b) else wrap64 (T a b)
theorem mixT_here (T : Nat → Nat → Int) (i j : Nat) : mixT T i j i j = wrap64 (T i j) := by unfold mixT; rw [if_neg (by omega)]
theorem mixT_over (T : Nat → Nat → Int) (i' j i : Nat) (h : i = i' + 1) : mixT T i j i' j = wrap64 (PT T i' j) := by unfold mixT; rw [if_pos (by omega)]
theorem Tab.mix0 {wg : World} {D n m : Nat} {T : Nat → Nat → Int} {W : World} (h : Tab wg D n m (fun i j => wrap64 (T i j)) W) : Tab wg D n m (mixT T 0 0) W :=
 h.congr fun a b _ _ => by unfold mixT; rw [if_neg (by omega)]
theorem Tab.mixNext {wg : World} {D n m : Nat} {T : Nat → Nat → Int} {W : World} {i : Nat} (h : Tab wg D n m (mixT T i m) W) : Tab wg D n m (mixT T (i + 1) 0) W :=
 h.congr fun a b _ hb => by
  unfold mixT
  by_cases e : a < i ∨ (a = i ∧ b < m)
  ·rw [if_pos e, if_pos (by omega)]
  ·rw [if_neg e, if_neg (by omega)]
theorem Tab.mixEnd {wg : World} {D n m : Nat} {T : Nat → Nat → Int} {W : World} (h : Tab wg D n m (mixT T n 0) W) : Tab wg D n m (fun i j => wrap64 (PT T i j)) W :=
 h.congr fun _ _ ha _ => by unfold mixT; rw [if_pos (by omega)]
def midT (T : Nat → Nat → Int) (i j : Nat) (x : Int) (a b : Nat) : Int := if a = i ∧ b = j then x else mixT T i j a b
theorem Tab.mid {wg : World} {D n m : Nat} {T : Nat → Nat → Int} {W : World} {i j : Nat} (h : Tab wg D n m (mixT T i j) W) (x : Int) (hi : i < n) (hj : j < m) :
  Tab wg D n m (midT T i j x) (W.setCell ⟨D + 1 + i, j, none⟩ (.int .i64 x)) := h.put i j x hi hj (fun _ _ _ _ => rfl)
theorem Tab.mid2 {wg : World} {D n m : Nat} {T : Nat → Nat → Int} {W : World} {i j : Nat} {x : Int} (h : Tab wg D n m (midT T i j x) W) (y : Int) (hi : i < n) (hj : j < m) :
  Tab wg D n m (midT T i j y) (W.setCell ⟨D + 1 + i, j, none⟩ (.int .i64 y)).drew := by
 show Tab wg D n m _ (W.drew.setCell ⟨D + 1 + i, j, none⟩ _)
 refine (h.grown (Nat.le_of_lt (by have := h.size; omega)) (grownBy_drew W)).put i j y hi hj (fun a b _ _ => ?_)
 unfold midT
 by_cases e : a = i ∧ b = j
 ·rw [if_pos e, if_pos e]
 ·rw [if_neg e, if_neg e, if_neg e]
theorem Tab.midOut {wg : World} {D n m : Nat} {T : Nat → Nat → Int} {W : World} {i j : Nat} {x : Int} (h : Tab wg D n m (midT T i j x) W) (hx : x = wrap64 (PT T i j)) : Tab wg D n m (mixT T i (j + 1)) W :=
 h.congr fun a b _ _ => by
  subst hx
  unfold midT
  by_cases e : a = i ∧ b = j
  ·obtain ⟨rfl, rfl⟩ := e
   rw [if_pos ⟨rfl, rfl⟩]; unfold mixT; rw [if_pos (by omega)]
  ·rw [if_neg e]; unfold mixT
   by_cases e2 : a < i ∨ (a = i ∧ b < j)
   ·rw [if_pos e2, if_pos (by omega)]
   ·rw [if_neg e2, if_neg (by omega)]
theorem midT_here (T : Nat → Nat → Int) (i j : Nat) (x : Int) : midT T i j x i j = x := by unfold midT; rw [if_pos ⟨rfl, rfl⟩]
theorem midT_over (T : Nat → Nat → Int) (i' j i : Nat) (x : Int) (h : i = i' + 1) : midT T i j x i' j = wrap64 (PT T i' j) := by unfold midT; rw [if_neg (by omega), mixT_over T i' j i h]
theorem sum_one (T : Nat → Nat → Int) (i j : Nat) : wrap64 (wrap64 (rowS T i j) + wrap64 (T i j)) = wrap64 (rowS T i (j + 1)) := by rw [wrap64_add]; rfl
theorem sum_two (T : Nat → Nat → Int) (i' j i : Nat) (h : i = i' + 1) : wrap64 (wrap64 (rowS T i (j + 1)) + wrap64 (PT T i' j)) = wrap64 (PT T i j) := by subst h; rw [wrap64_add]; rfl
end Go.Proofs.Ytplhfbkejngioaa.X
namespace Go.Proofs.Ytplhfbkejngioaa.X
open Go.RowKit Go.Proofs.YtplhfbkejngioaaW.PrintWords Go.Proofs.YtplhfbkejngioaaW.PrintLast Go.Proofs.Ytplhfbkejngioaa.S
set_option linter.unusedVariables false
set_option linter.unusedSimpArgs false
def TabC (wg : World) (D n m : Nat) (xs ys : List Int) (cs : List (Int × Int × Int)) (r : S48) (c : Nat) (W : World) : Prop := Tab wg D n m (fun i j => wrap64 (D1 xs ys (cs ++ (four r).take c) i j)) W
theorem pred_w {i i' n : Nat} (h : i = i' + 1) (hl : i < n) (hn : n ≤ 1000000) : wrap64 ((i : Int) - 1) = (i' : Int) := by unfold wrap64; omega
def wgOf (w : World) (g n : Nat) : World := w.setCell ⟨g, 2, none⟩ (.slice (some ⟨w.heap.size, 0, none⟩) n n)
set_option maxHeartbeats 8000000 in
set_option maxRecDepth 100000 in
theorem count_calls (A0 : Option Addr) (c0 : Nat) (l0 : List S48) (w0 w : World) (g : Nat) (Ax Ay : Option Addr) (cx cy : Nat) (xs ys : List Int)
  (hr0 : Kd.C k48 w0 A0 l0.length l0) (hc0 : l0.length ≤ c0) (hlen : l0.length ≤ 1000000) (hb0 : Below w0.heap.size w0 w) (hg0 : w0.heap.size ≤ g)
  (hg : w.heap[g]? = some (.cells #[.slice Ax xs.length cx, .slice Ay ys.length cy, .slice none 0 0] 79 (0, 0))) (hX : OwnI w 0 (.slice Ax xs.length cx) xs) (hY : OwnI w 0 (.slice Ay ys.length cy) ys)
  (hsx : xs.Pairwise (· ≤ ·)) (hsy : ys.Pairwise (· ≤ ·)) (hnx : xs.length ≤ 1000000) (hny : ys.length ≤ 1000000)
  (hm : ∀ r ∈ l0, r.f0 ∈ xs ∧ r.f1 ∈ ys ∧ r.f2 ∈ xs ∧ r.f3 ∈ ys) :
  Calls Try.prog 66 #[.pointer (some ⟨g, 0, none⟩), .slice A0 l0.length c0] w fun e w' => e = .returned (.tuple #[]) ∧ Tab (wgOf w g xs.length) w.heap.size xs.length ys.length (fun i j => wrap64 (PT (D1 xs ys (l0.flatMap four)) i j)) w' := by
 have hu48 := Try.underlying48
 have HR0 := Aside0.mk hr0
 have HC0 := Aside0.mk hc0
 have HB0 := Aside0.mk hb0
 have HX := Aside0.mk hX
 have HY := Aside0.mk hY
 have HSX := Aside0.mk hsx
 have HSY := Aside0.mk hsy
 have HNX := Aside0.mk hnx
 have HNY := Aside0.mk hny
 have HM := Aside0.mk hm
 have HG := Aside0.mk hg
 have hgs := blk_lt hg
 clear hr0 hc0 hb0 hX hY hsx hsy hm hg
 have y0 := (blk_cell HG.out 0).trans rfl
 have y1 := (blk_cell HG.out 1).trans rfl
 have HGw : Aside0 ((wgOf w g xs.length).heap[g]? = some (.cells #[.slice Ax xs.length cx, .slice Ay ys.length cy, .slice (some ⟨w.heap.size, 0, none⟩) xs.length xs.length] 79 (0, 0))) := Aside0.mk (blk_put HG.out 2 (.slice (some ⟨w.heap.size, 0, none⟩) xs.length xs.length) rfl)
 have hmk := make_top w xs.length ys.length w.heap.size HNX.out
 have HG1 := Aside0.mk (blk_alloc HG.out (.cells (topV w.heap.size xs.length ys.length 0) 41 (0, 0)))
 have HG2 : Aside0 (((w.setCell ⟨g, 2, none⟩ (.slice (some ⟨w.heap.size, 0, none⟩) xs.length xs.length)).alloc (.cells (topV w.heap.size xs.length ys.length 0) 41 (0, 0))).heap[g]? = some (.cells #[.slice Ax xs.length cx, .slice Ay ys.length cy, .slice (some ⟨w.heap.size, 0, none⟩) xs.length xs.length] 79 (0, 0))) := Aside0.mk (blk_alloc (blk_put HG.out 2 (.slice (some ⟨w.heap.size, 0, none⟩) xs.length xs.length) rfl) _)
 have y2 := (blk_cell HG1.out 2).trans rfl
 have y3 := blk_frozen HG1.out 2
 have y4 := (blk_cell HG2.out 2).trans rfl
 go_enter Try.func66, Try.ntmps66
 go_wp2
 have HTA : Aside0 (TabA (wgOf w g xs.length) w.heap.size xs.length ys.length 0 ((w.setCell ⟨g, 2, none⟩ (.slice (some ⟨w.heap.size, 0, none⟩) xs.length xs.length)).alloc (.cells (topV w.heap.size xs.length ys.length 0) 41 (0, 0)))) := by
  refine ⟨⟨(Below.refl _ _).alloc (by simp [wgOf]) _, ?_, fun i hi => absurd hi (Nat.not_lt_zero i), by simp⟩⟩
  have := heap_alloc_new (w.setCell ⟨g, 2, none⟩ (.slice (some ⟨w.heap.size, 0, none⟩) xs.length xs.length)) (.cells (topV w.heap.size xs.length ys.length 0) 41 (0, 0))
  simpa using this
 clear y0 y1 y2 y3 y4 hmk HG1
 generalize (w.setCell ⟨g, 2, none⟩ (.slice (some ⟨w.heap.size, 0, none⟩) xs.length xs.length)).alloc (.cells (topV w.heap.size xs.length ys.length 0) 41 (0, 0)) = W0 at HTA HG2 ⊢
 go_loopw [32] (fun i wr => ∃ k : Nat, k ≤ xs.length ∧ i = .int .i64 k ∧ Aside0 (TabA (wgOf w g xs.length) w.heap.size xs.length ys.length k wr)) (fun i _ => xs.length - (intOf i).toNat)
 case atStart => exact ⟨0, Nat.zero_le _, rfl, HTA⟩
 case round =>
  obtain ⟨k, hk, rfl, HT⟩ := hrel
  have HGr : Aside0 (wr.heap[g]? = some (.cells #[.slice Ax xs.length cx, .slice Ay ys.length cy, .slice (some ⟨w.heap.size, 0, none⟩) xs.length xs.length] 79 (0, 0))) := ⟨(HT.out.B.block g hgs).trans HGw.out⟩
  by_cases hlt : k < xs.length
  ·have hltz : (k : Int) < (xs.length : Int) := by omega
   have z1 := (blk_cell HGr.out 2).trans rfl
   have z2 := (blk_cell HGr.out 1).trans rfl
   go_wp2
   refine stz (fun w' => w'.cell? ⟨g, 2, none⟩ = some (.slice (some ⟨w.heap.size, 0, none⟩) xs.length xs.length) ∧ w'.cell? ⟨g, 1, none⟩ = some (.slice Ay ys.length cy)) [12] (bn 13 0) ⟨z1, z2⟩ (fun hHeld => ?_)
   refine pz 0 (some 35) (bn 13 1) ?_
   refine pz 1 (some 36) (bn 13 3) ?_
   refine pz 2 (some 37) (bn 13 7) ?_
   refine pz 4 (some 39) (bn 13 23) ?_
   refine pz 5 (some 40) (bn 13 55) ?_
   refine pz 6 (some 41) (bn 13 119) ?_
   refine pz 7 (some 42) (bn 13 247) ?_
   refine tz 3 (some 38) (bn 13 255) hHeld ?_
   refine tz 8 (some 43) (bn 13 511) hHeld ?_
   refine pz 9 (some 44) (bn 13 1023) ?_
   refine oz 10 (some 45) (bn 13 2047) (fun K hK => ?_)
   have hmk := make_row wr.drew ys.length HNY.out
   refine vz ?_
   refine hK.out _ _ ⟨(pw_cell_below (below_alloc (Below.refl _ _) _) z1), (pw_cell_below (below_alloc (Below.refl _ _) _) z2)⟩ (fun hHeld => ?_)
   clear hK K
   refine nz (some 45) ?_
   refine pz 11 (some 46) (bn 13 4095) ?_
   refine last_ (i := 12) (N := none) #[true, true, true, true, true, true, true, true, true, true, true, true, true] rfl rfl (by kernel_rfl) (by decide) (fun K hK => ?_)
   have HT4 := Aside0.mk (blk_alloc HT.out.top (.cells (rowV ys.length fun _ => 0) 3 (0, 0)))
   have cst := (blk_cell HT4.out k).trans (topV_get w.heap.size xs.length ys.length k k hlt)
   rw [if_neg (Nat.lt_irrefl k)] at cst
   have fst := blk_frozen HT4.out k
   refine sz ?_
   refine hK.out _ _ ?_
   clear hK K
   refine done_ (by kernel_rfl) ?_
   have HT5 := Aside0.mk (HT.out.step hlt)
   clear HT4 cst fst hmk z1 z2 HGr HT hHeld
   generalize ((wr.alloc (.cells (rowV ys.length fun _ => 0) 3 (0, 0))).setCell ⟨w.heap.size, k, none⟩ (.slice (some ⟨wr.heap.size, 0, none⟩) ys.length ys.length)).drew = w5 at HT5 ⊢
   go_wp2
   go_roundw
   ·exact ⟨k + 1, hlt, by rw [Int.natCast_add]; rfl, HT5⟩
   ·simp only [intOf]
    omega
  ·obtain rfl : k = xs.length := by omega
   have HT6 : Aside0 (Tab (wgOf w g xs.length) w.heap.size xs.length ys.length (fun i j => wrap64 (D1 xs ys ((l0.take 0).flatMap four) i j)) wr) := ⟨HT.out.done.congr (fun a b _ _ => by rw [List.take_zero]; simp [D1, sumL, wrap64])⟩
   have hgw : Aside0 (w.grownBy (wgOf w g xs.length) (some g)) := ⟨grownBy_set w ⟨g, 2, none⟩ _⟩
   have HXg : Aside0 (∀ W, Below w.heap.size (wgOf w g xs.length) W → OwnI W 0 (.slice Ax xs.length cx) xs) :=
    ⟨fun W hW => (HX.out.grown hgw.out (fun q hq e => own_ne_blk HX.out HG.out (by decide) q hq (by injection e))).below (fun q hq => (HX.out.lt hq).1) hW⟩
   have HYg : Aside0 (∀ W, Below w.heap.size (wgOf w g xs.length) W → OwnI W 0 (.slice Ay ys.length cy) ys) :=
    ⟨fun W hW => (HY.out.grown hgw.out (fun q hq e => own_ne_blk HY.out HG.out (by decide) q hq (by injection e))).below (fun q hq => (HY.out.lt hq).1) hW⟩
   have HBw : Aside0 (Below w0.heap.size w0 (wgOf w g xs.length)) := ⟨HB0.out.setCell hg0 _⟩
   have HNX' := Aside0.mk (show xs.length < 4611686018427387904 by have := HNX.out; omega)
   have HNY' := Aside0.mk (show ys.length < 4611686018427387904 by have := HNY.out; omega)
   have hw0 : w0.heap.size ≤ w.heap.size := HB0.out.size
   clear HT HGr
   go_wp2
   go_loopw [50] (fun i wr => ∃ k : Nat, k ≤ l0.length ∧ i = .int .i64 k ∧ Aside0 (Tab (wgOf w g xs.length) w.heap.size xs.length ys.length (fun i j => wrap64 (D1 xs ys ((l0.take k).flatMap four) i j)) wr)) (fun i _ => l0.length - (intOf i).toNat)
   case atStart => exact ⟨0, Nat.zero_le _, rfl, HT6⟩
   case round =>
    obtain ⟨k, hk, rfl, HT⟩ := hrel
    by_cases hlt : k < l0.length
    ·have hltz : (k : Int) < (l0.length : Int) := by omega
     have hBr : Below w0.heap.size w0 wr := HBw.out.trans (HT.out.B.mono hw0)
     obtain ⟨ad, e, h0, h1, h2, h3⟩ := at_T48 HR0.out (k : Int) (by omega) hltz
     cases e
     have hx : rd_T48 l0 (k : Int) = l0[k] := by simp [rd_T48, hlt]
     rw [hx] at h0 h1 h2 h3
     simp only [Int.toNat_natCast] at h0 h1 h2 h3
     replace h0 := pw_cell_below hBr h0
     replace h1 := pw_cell_below hBr h1
     replace h2 := pw_cell_below hBr h2
     replace h3 := pw_cell_below hBr h3
     clear hx hBr
     go_wp2
     have HTb := Aside0.mk (HT.out.grown (Nat.le_of_lt (by have := HT.out.size; omega)) (World.grownBy_alloc wr (.cells #[.int .i64 l0[k].f0, .int .i64 l0[k].f1, .int .i64 l0[k].f2, .int .i64 l0[k].f3] 48 (0, 0)) none))
     clear HT h0 h1 h2 h3
     generalize wr.alloc (.cells #[.int .i64 l0[k].f0, .int .i64 l0[k].f1, .int .i64 l0[k].f2, .int .i64 l0[k].f3] 48 (0, 0)) = wb at HTb ⊢
     go_loopw [75] (fun i wc => (i = .int .i64 0 ∧ Aside0 (TabC (wgOf w g xs.length) w.heap.size xs.length ys.length xs ys ((l0.take k).flatMap four) l0[k] 0 wc)) ∨ (i = .int .i64 1 ∧ Aside0 (TabC (wgOf w g xs.length) w.heap.size xs.length ys.length xs ys ((l0.take k).flatMap four) l0[k] 1 wc)) ∨ (i = .int .i64 2 ∧ Aside0 (TabC (wgOf w g xs.length) w.heap.size xs.length ys.length xs ys ((l0.take k).flatMap four) l0[k] 2 wc)) ∨ (i = .int .i64 3 ∧ Aside0 (TabC (wgOf w g xs.length) w.heap.size xs.length ys.length xs ys ((l0.take k).flatMap four) l0[k] 3 wc)) ∨ (i = .int .i64 4 ∧ Aside0 (TabC (wgOf w g xs.length) w.heap.size xs.length ys.length xs ys ((l0.take k).flatMap four) l0[k] 4 wc))) (fun i _ => 4 - (intOf i).toNat)
     case atStart => exact .inl ⟨rfl, ⟨HTb.out.congr (fun a b _ _ => by rw [List.take_zero, List.append_nil])⟩⟩
     case round =>
      rename World => wc
      obtain ⟨rfl, HTc⟩ | ⟨rfl, HTc⟩ | ⟨rfl, HTc⟩ | ⟨rfl, HTc⟩ | ⟨rfl, HTc⟩ := hrel
      ·skip
       have hp : pos xs (l0[k].f0) < xs.length := pos_lt (HM.out l0[k] (List.getElem_mem hlt)).1
       have hq : pos ys (l0[k].f1) < ys.length := pos_lt (HM.out l0[k] (List.getElem_mem hlt)).2.1
       have hpz : ((pos xs (l0[k].f0) : Nat) : Int) < (xs.length : Int) := by omega
       have hqz : ((pos ys (l0[k].f1) : Nat) : Int) < (ys.length : Int) := by omega
       have HTn := Aside0.mk (show ∀ W, Tab (wgOf w g xs.length) w.heap.size xs.length ys.length (fun i j => wrap64 (D1 xs ys (((l0.take k).flatMap four ++ (four l0[k]).take 0) ++ [(l0[k].f0, l0[k].f1, 1)]) i j)) W → TabC (wgOf w g xs.length) w.heap.size xs.length ys.length xs ys ((l0.take k).flatMap four) l0[k] (0 + 1) W from fun W h => by rw [List.append_assoc] at h; exact h)
       unfold TabC at HTc
       generalize (l0.take k).flatMap four ++ (four l0[k]).take 0 = cs at HTc HTn
       have hix := idx114_0 (.int .i64 l0[k].f0) (.int .i64 l0[k].f1) (.int .i64 1) (.int .i64 l0[k].f2) (.int .i64 l0[k].f1) (.int .i64 (-1)) (.int .i64 l0[k].f0) (.int .i64 l0[k].f3) (.int .i64 (-1)) (.int .i64 l0[k].f2) (.int .i64 l0[k].f3) (.int .i64 1) wc
       go_wp2
       clear hix
       have HTd := Aside0.mk (HTc.out.grown (Nat.le_of_lt (by have := HTc.out.size; omega)) (World.grownBy_alloc wc (.cells #[.int .i64 l0[k].f0, .int .i64 l0[k].f1, .int .i64 1] 113 (0, 0)) none))
       have HBd := Aside0.mk (heap_alloc_new wc (.cells #[.int .i64 l0[k].f0, .int .i64 l0[k].f1, .int .i64 1] 113 (0, 0)))
       generalize wc.heap.size = b at *
       generalize wc.alloc (.cells #[.int .i64 l0[k].f0, .int .i64 l0[k].f1, .int .i64 1] 113 (0, 0)) = wd at HTd HBd ⊢
       clear HTc
       have z0 := (blk_cell ((HTd.out.B.block g hgs).trans HGw.out) 0).trans rfl
       have x0 := (blk_cell HBd.out 0).trans rfl
       refine stz (fun w' => w'.cell? ⟨g, 0, none⟩ = some (.slice Ax xs.length cx) ∧ w'.cell? ⟨b, 0, none⟩ = some (.int .i64 l0[k].f0)) [] (bn 12 0) ⟨z0, x0⟩ (fun hHeld => ?_)
       refine pz 0 (some 79) (bn 12 1) ?_
       refine pz 1 (some 80) (bn 12 3) ?_
       refine pz 2 (some 81) (bn 12 7) ?_
       refine pz 4 (some 83) (bn 12 23) ?_
       refine tz 3 (some 82) (bn 12 31) hHeld ?_
       refine tz 5 (some 84) (bn 12 63) hHeld ?_
       refine oz 6 (some 85) (bn 12 127) (fun K hK => ?_)
       refine gz Try.func93 #[.slice Ax xs.length cx, .int .i64 l0[k].f0] ?_
       with_reducible refine (search_own (HXg.out wd.drew HTd.out.B.drew) HSX.out HNX'.out l0[k].f0).mono ?_
       rintro e we ⟨rfl, hwe⟩
       refine ⟨_, rfl, ?_⟩
       refine hK.out _ _ ⟨(by obtain ⟨q1, rfl⟩ := hwe; exact z0), (by obtain ⟨q1, rfl⟩ := hwe; exact x0)⟩ (fun hHeld => ?_)
       clear hK K
       refine nz (some 85) ?_
       refine pz 7 (some 78) (bn 12 255) ?_
       refine pz 8 (some 86) (bn 12 511) ?_
       refine pz 9 (some 87) (bn 12 1023) ?_
       refine pz 10 (some 9) (bn 12 2047) ?_
       refine pz 11 (some 10) (bn 12 4095) ?_
       refine done_ (by kernel_rfl) ?_
       have HTe := Aside0.mk (show Tab _ _ _ _ _ we from by obtain ⟨q1, rfl⟩ := hwe; exact (HTd.out.grown (Nat.le_of_lt (by have := HTd.out.size; omega)) ⟨rfl, rfl, rfl, Nat.le_refl _, fun _ _ _ => rfl⟩))
       have HBe := Aside0.mk (show we.heap[b]? = some (.cells #[.int .i64 l0[k].f0, .int .i64 l0[k].f1, .int .i64 1] 113 (0, 0)) from by obtain ⟨q1, rfl⟩ := hwe; exact HBd.out)
       clear hwe hHeld z0 x0 HTd HBd
       have z0 := (blk_cell ((HTe.out.B.block g hgs).trans HGw.out) 1).trans rfl
       have x0 := (blk_cell HBe.out 1).trans rfl
       go_wp2
       refine stz (fun w' => w'.cell? ⟨g, 1, none⟩ = some (.slice Ay ys.length cy) ∧ w'.cell? ⟨b, 1, none⟩ = some (.int .i64 l0[k].f1)) [] (bn 12 0) ⟨z0, x0⟩ (fun hHeld => ?_)
       refine pz 0 (some 89) (bn 12 1) ?_
       refine pz 1 (some 90) (bn 12 3) ?_
       refine pz 2 (some 91) (bn 12 7) ?_
       refine pz 4 (some 93) (bn 12 23) ?_
       refine tz 3 (some 92) (bn 12 31) hHeld ?_
       refine tz 5 (some 94) (bn 12 63) hHeld ?_
       refine oz 6 (some 95) (bn 12 127) (fun K hK => ?_)
       refine gz Try.func93 #[.slice Ay ys.length cy, .int .i64 l0[k].f1] ?_
       with_reducible refine (search_own (HYg.out we.drew HTe.out.B.drew) HSY.out HNY'.out l0[k].f1).mono ?_
       rintro e wf ⟨rfl, hwf⟩
       refine ⟨_, rfl, ?_⟩
       refine hK.out _ _ ⟨(by obtain ⟨q1, rfl⟩ := hwf; exact z0), (by obtain ⟨q1, rfl⟩ := hwf; exact x0)⟩ (fun hHeld => ?_)
       clear hK K
       refine nz (some 95) ?_
       refine pz 7 (some 88) (bn 12 255) ?_
       refine pz 8 (some 96) (bn 12 511) ?_
       refine pz 9 (some 97) (bn 12 1023) ?_
       refine pz 10 (some 11) (bn 12 2047) ?_
       refine pz 11 (some 12) (bn 12 4095) ?_
       refine done_ (by kernel_rfl) ?_
       have HTf := Aside0.mk (show Tab _ _ _ _ _ wf from by obtain ⟨q1, rfl⟩ := hwf; exact (HTe.out.grown (Nat.le_of_lt (by have := HTe.out.size; omega)) ⟨rfl, rfl, rfl, Nat.le_refl _, fun _ _ _ => rfl⟩))
       have HBf := Aside0.mk (show wf.heap[b]? = some (.cells #[.int .i64 l0[k].f0, .int .i64 l0[k].f1, .int .i64 1] 113 (0, 0)) from by obtain ⟨q1, rfl⟩ := hwf; exact HBe.out)
       clear hwf hHeld z0 x0 HTe HBe
       have z0 := (blk_cell ((HTf.out.B.block g hgs).trans HGw.out) 2).trans rfl
       have z1 := HTf.out.line hp
       have z2 := HTf.out.cell hp hq
       have x0 := (blk_cell HBf.out 2).trans rfl
       have fst := HTf.out.free (pos ys (l0[k].f1)) hp
       go_wp2
       refine stz (fun w' => w'.cell? ⟨g, 2, none⟩ = some (.slice (some ⟨w.heap.size, 0, none⟩) xs.length xs.length) ∧ w'.cell? ⟨w.heap.size, pos xs (l0[k].f0), none⟩ = some (.slice (some ⟨w.heap.size + 1 + pos xs (l0[k].f0), 0, none⟩) ys.length ys.length) ∧ w'.cell? ⟨w.heap.size + 1 + pos xs (l0[k].f0), pos ys (l0[k].f1), none⟩ = some (.int .i64 (wrap64 (D1 xs ys cs (pos xs (l0[k].f0)) (pos ys (l0[k].f1))))) ∧ w'.cell? ⟨b, 2, none⟩ = some (.int .i64 1)) [14] (bn 15 0) ⟨z0, z1, z2, x0⟩ (fun hHeld => ?_)
       refine pz 0 (some 98) (bn 15 1) ?_
       refine pz 1 (some 99) (bn 15 3) ?_
       refine pz 2 (some 100) (bn 15 7) ?_
       refine pz 4 (some 102) (bn 15 23) ?_
       refine pz 7 (some 105) (bn 15 151) ?_
       refine pz 10 (some 108) (bn 15 1175) ?_
       refine tz 3 (some 101) (bn 15 1183) hHeld ?_
       refine pz 5 (some 103) (bn 15 1215) ?_
       refine tz 6 (some 104) (bn 15 1279) hHeld ?_
       refine pz 8 (some 106) (bn 15 1535) ?_
       refine tz 9 (some 107) (bn 15 2047) hHeld ?_
       refine tz 11 (some 109) (bn 15 4095) hHeld ?_
       refine pz 12 (some 110) (bn 15 8191) ?_
       refine pz 13 (some 111) (bn 15 16383) ?_
       refine last_ (i := 14) (N := none) #[true, true, true, true, true, true, true, true, true, true, true, true, true, true, true] rfl rfl (by kernel_rfl) (by decide) (fun K hK => ?_)
       refine sz ?_
       refine hK.out _ _ ?_
       clear hK K
       refine done_ (by kernel_rfl) ?_
       have HTg := Aside0.mk (HTn.out _ (HTf.out.putD (l0[k].f0) (l0[k].f1) (1) hp hq))
       clear fst z0 z1 z2 x0 HTf HBf HTn hHeld
       generalize (wf.setCell ⟨w.heap.size + 1 + pos xs (l0[k].f0), pos ys (l0[k].f1), none⟩ (.int .i64 (wrap64 (wrap64 (D1 xs ys cs (pos xs (l0[k].f0)) (pos ys (l0[k].f1))) + 1)))).drew = wg' at HTg ⊢
       go_wp2
       go_roundw
       ·exact .inr (.inl ⟨rfl, ⟨HTg.out⟩⟩)
       ·simp only [intOf]
        omega
      ·skip
       have hp : pos xs (l0[k].f2) < xs.length := pos_lt (HM.out l0[k] (List.getElem_mem hlt)).2.2.1
       have hq : pos ys (l0[k].f1) < ys.length := pos_lt (HM.out l0[k] (List.getElem_mem hlt)).2.1
       have hpz : ((pos xs (l0[k].f2) : Nat) : Int) < (xs.length : Int) := by omega
       have hqz : ((pos ys (l0[k].f1) : Nat) : Int) < (ys.length : Int) := by omega
       have HTn := Aside0.mk (show ∀ W, Tab (wgOf w g xs.length) w.heap.size xs.length ys.length (fun i j => wrap64 (D1 xs ys (((l0.take k).flatMap four ++ (four l0[k]).take 1) ++ [(l0[k].f2, l0[k].f1, -1)]) i j)) W → TabC (wgOf w g xs.length) w.heap.size xs.length ys.length xs ys ((l0.take k).flatMap four) l0[k] (1 + 1) W from fun W h => by rw [List.append_assoc] at h; exact h)
       unfold TabC at HTc
       generalize (l0.take k).flatMap four ++ (four l0[k]).take 1 = cs at HTc HTn
       have hix := idx114_1 (.int .i64 l0[k].f0) (.int .i64 l0[k].f1) (.int .i64 1) (.int .i64 l0[k].f2) (.int .i64 l0[k].f1) (.int .i64 (-1)) (.int .i64 l0[k].f0) (.int .i64 l0[k].f3) (.int .i64 (-1)) (.int .i64 l0[k].f2) (.int .i64 l0[k].f3) (.int .i64 1) wc
       go_wp2
       clear hix
       have HTd := Aside0.mk (HTc.out.grown (Nat.le_of_lt (by have := HTc.out.size; omega)) (World.grownBy_alloc wc (.cells #[.int .i64 l0[k].f2, .int .i64 l0[k].f1, .int .i64 (-1)] 113 (0, 0)) none))
       have HBd := Aside0.mk (heap_alloc_new wc (.cells #[.int .i64 l0[k].f2, .int .i64 l0[k].f1, .int .i64 (-1)] 113 (0, 0)))
       generalize wc.heap.size = b at *
       generalize wc.alloc (.cells #[.int .i64 l0[k].f2, .int .i64 l0[k].f1, .int .i64 (-1)] 113 (0, 0)) = wd at HTd HBd ⊢
       clear HTc
       have z0 := (blk_cell ((HTd.out.B.block g hgs).trans HGw.out) 0).trans rfl
       have x0 := (blk_cell HBd.out 0).trans rfl
       refine stz (fun w' => w'.cell? ⟨g, 0, none⟩ = some (.slice Ax xs.length cx) ∧ w'.cell? ⟨b, 0, none⟩ = some (.int .i64 l0[k].f2)) [] (bn 12 0) ⟨z0, x0⟩ (fun hHeld => ?_)
       refine pz 0 (some 79) (bn 12 1) ?_
       refine pz 1 (some 80) (bn 12 3) ?_
       refine pz 2 (some 81) (bn 12 7) ?_
       refine pz 4 (some 83) (bn 12 23) ?_
       refine tz 3 (some 82) (bn 12 31) hHeld ?_
       refine tz 5 (some 84) (bn 12 63) hHeld ?_
       refine oz 6 (some 85) (bn 12 127) (fun K hK => ?_)
       refine gz Try.func93 #[.slice Ax xs.length cx, .int .i64 l0[k].f2] ?_
       with_reducible refine (search_own (HXg.out wd.drew HTd.out.B.drew) HSX.out HNX'.out l0[k].f2).mono ?_
       rintro e we ⟨rfl, hwe⟩
       refine ⟨_, rfl, ?_⟩
       refine hK.out _ _ ⟨(by obtain ⟨q1, rfl⟩ := hwe; exact z0), (by obtain ⟨q1, rfl⟩ := hwe; exact x0)⟩ (fun hHeld => ?_)
       clear hK K
       refine nz (some 85) ?_
       refine pz 7 (some 78) (bn 12 255) ?_
       refine pz 8 (some 86) (bn 12 511) ?_
       refine pz 9 (some 87) (bn 12 1023) ?_
       refine pz 10 (some 9) (bn 12 2047) ?_
       refine pz 11 (some 10) (bn 12 4095) ?_
       refine done_ (by kernel_rfl) ?_
       have HTe := Aside0.mk (show Tab _ _ _ _ _ we from by obtain ⟨q1, rfl⟩ := hwe; exact (HTd.out.grown (Nat.le_of_lt (by have := HTd.out.size; omega)) ⟨rfl, rfl, rfl, Nat.le_refl _, fun _ _ _ => rfl⟩))
       have HBe := Aside0.mk (show we.heap[b]? = some (.cells #[.int .i64 l0[k].f2, .int .i64 l0[k].f1, .int .i64 (-1)] 113 (0, 0)) from by obtain ⟨q1, rfl⟩ := hwe; exact HBd.out)
       clear hwe hHeld z0 x0 HTd HBd
       have z0 := (blk_cell ((HTe.out.B.block g hgs).trans HGw.out) 1).trans rfl
       have x0 := (blk_cell HBe.out 1).trans rfl
       go_wp2
       refine stz (fun w' => w'.cell? ⟨g, 1, none⟩ = some (.slice Ay ys.length cy) ∧ w'.cell? ⟨b, 1, none⟩ = some (.int .i64 l0[k].f1)) [] (bn 12 0) ⟨z0, x0⟩ (fun hHeld => ?_)
       refine pz 0 (some 89) (bn 12 1) ?_
       refine pz 1 (some 90) (bn 12 3) ?_
       refine pz 2 (some 91) (bn 12 7) ?_
       refine pz 4 (some 93) (bn 12 23) ?_
       refine tz 3 (some 92) (bn 12 31) hHeld ?_
       refine tz 5 (some 94) (bn 12 63) hHeld ?_
       refine oz 6 (some 95) (bn 12 127) (fun K hK => ?_)
       refine gz Try.func93 #[.slice Ay ys.length cy, .int .i64 l0[k].f1] ?_
       with_reducible refine (search_own (HYg.out we.drew HTe.out.B.drew) HSY.out HNY'.out l0[k].f1).mono ?_
       rintro e wf ⟨rfl, hwf⟩
       refine ⟨_, rfl, ?_⟩
       refine hK.out _ _ ⟨(by obtain ⟨q1, rfl⟩ := hwf; exact z0), (by obtain ⟨q1, rfl⟩ := hwf; exact x0)⟩ (fun hHeld => ?_)
       clear hK K
       refine nz (some 95) ?_
       refine pz 7 (some 88) (bn 12 255) ?_
       refine pz 8 (some 96) (bn 12 511) ?_
       refine pz 9 (some 97) (bn 12 1023) ?_
       refine pz 10 (some 11) (bn 12 2047) ?_
       refine pz 11 (some 12) (bn 12 4095) ?_
       refine done_ (by kernel_rfl) ?_
       have HTf := Aside0.mk (show Tab _ _ _ _ _ wf from by obtain ⟨q1, rfl⟩ := hwf; exact (HTe.out.grown (Nat.le_of_lt (by have := HTe.out.size; omega)) ⟨rfl, rfl, rfl, Nat.le_refl _, fun _ _ _ => rfl⟩))
       have HBf := Aside0.mk (show wf.heap[b]? = some (.cells #[.int .i64 l0[k].f2, .int .i64 l0[k].f1, .int .i64 (-1)] 113 (0, 0)) from by obtain ⟨q1, rfl⟩ := hwf; exact HBe.out)
       clear hwf hHeld z0 x0 HTe HBe
       have z0 := (blk_cell ((HTf.out.B.block g hgs).trans HGw.out) 2).trans rfl
       have z1 := HTf.out.line hp
       have z2 := HTf.out.cell hp hq
       have x0 := (blk_cell HBf.out 2).trans rfl
       have fst := HTf.out.free (pos ys (l0[k].f1)) hp
       go_wp2
       refine stz (fun w' => w'.cell? ⟨g, 2, none⟩ = some (.slice (some ⟨w.heap.size, 0, none⟩) xs.length xs.length) ∧ w'.cell? ⟨w.heap.size, pos xs (l0[k].f2), none⟩ = some (.slice (some ⟨w.heap.size + 1 + pos xs (l0[k].f2), 0, none⟩) ys.length ys.length) ∧ w'.cell? ⟨w.heap.size + 1 + pos xs (l0[k].f2), pos ys (l0[k].f1), none⟩ = some (.int .i64 (wrap64 (D1 xs ys cs (pos xs (l0[k].f2)) (pos ys (l0[k].f1))))) ∧ w'.cell? ⟨b, 2, none⟩ = some (.int .i64 (-1))) [14] (bn 15 0) ⟨z0, z1, z2, x0⟩ (fun hHeld => ?_)
       refine pz 0 (some 98) (bn 15 1) ?_
       refine pz 1 (some 99) (bn 15 3) ?_
       refine pz 2 (some 100) (bn 15 7) ?_
       refine pz 4 (some 102) (bn 15 23) ?_
       refine pz 7 (some 105) (bn 15 151) ?_
       refine pz 10 (some 108) (bn 15 1175) ?_
       refine tz 3 (some 101) (bn 15 1183) hHeld ?_
       refine pz 5 (some 103) (bn 15 1215) ?_
       refine tz 6 (some 104) (bn 15 1279) hHeld ?_
       refine pz 8 (some 106) (bn 15 1535) ?_
       refine tz 9 (some 107) (bn 15 2047) hHeld ?_
       refine tz 11 (some 109) (bn 15 4095) hHeld ?_
       refine pz 12 (some 110) (bn 15 8191) ?_
       refine pz 13 (some 111) (bn 15 16383) ?_
       refine last_ (i := 14) (N := none) #[true, true, true, true, true, true, true, true, true, true, true, true, true, true, true] rfl rfl (by kernel_rfl) (by decide) (fun K hK => ?_)
       refine sz ?_
       refine hK.out _ _ ?_
       clear hK K
       refine done_ (by kernel_rfl) ?_
       have HTg := Aside0.mk (HTn.out _ (HTf.out.putD (l0[k].f2) (l0[k].f1) (-1) hp hq))
       clear fst z0 z1 z2 x0 HTf HBf HTn hHeld
       generalize (wf.setCell ⟨w.heap.size + 1 + pos xs (l0[k].f2), pos ys (l0[k].f1), none⟩ (.int .i64 (wrap64 (wrap64 (D1 xs ys cs (pos xs (l0[k].f2)) (pos ys (l0[k].f1))) + (-1))))).drew = wg' at HTg ⊢
       go_wp2
       go_roundw
       ·exact .inr (.inr (.inl ⟨rfl, ⟨HTg.out⟩⟩))
       ·simp only [intOf]
        omega
      ·skip
       have hp : pos xs (l0[k].f0) < xs.length := pos_lt (HM.out l0[k] (List.getElem_mem hlt)).1
       have hq : pos ys (l0[k].f3) < ys.length := pos_lt (HM.out l0[k] (List.getElem_mem hlt)).2.2.2
       have hpz : ((pos xs (l0[k].f0) : Nat) : Int) < (xs.length : Int) := by omega
       have hqz : ((pos ys (l0[k].f3) : Nat) : Int) < (ys.length : Int) := by omega
       have HTn := Aside0.mk (show ∀ W, Tab (wgOf w g xs.length) w.heap.size xs.length ys.length (fun i j => wrap64 (D1 xs ys (((l0.take k).flatMap four ++ (four l0[k]).take 2) ++ [(l0[k].f0, l0[k].f3, -1)]) i j)) W → TabC (wgOf w g xs.length) w.heap.size xs.length ys.length xs ys ((l0.take k).flatMap four) l0[k] (2 + 1) W from fun W h => by rw [List.append_assoc] at h; exact h)
       unfold TabC at HTc
       generalize (l0.take k).flatMap four ++ (four l0[k]).take 2 = cs at HTc HTn
       have hix := idx114_2 (.int .i64 l0[k].f0) (.int .i64 l0[k].f1) (.int .i64 1) (.int .i64 l0[k].f2) (.int .i64 l0[k].f1) (.int .i64 (-1)) (.int .i64 l0[k].f0) (.int .i64 l0[k].f3) (.int .i64 (-1)) (.int .i64 l0[k].f2) (.int .i64 l0[k].f3) (.int .i64 1) wc
       go_wp2
       clear hix
       have HTd := Aside0.mk (HTc.out.grown (Nat.le_of_lt (by have := HTc.out.size; omega)) (World.grownBy_alloc wc (.cells #[.int .i64 l0[k].f0, .int .i64 l0[k].f3, .int .i64 (-1)] 113 (0, 0)) none))
       have HBd := Aside0.mk (heap_alloc_new wc (.cells #[.int .i64 l0[k].f0, .int .i64 l0[k].f3, .int .i64 (-1)] 113 (0, 0)))
       generalize wc.heap.size = b at *
       generalize wc.alloc (.cells #[.int .i64 l0[k].f0, .int .i64 l0[k].f3, .int .i64 (-1)] 113 (0, 0)) = wd at HTd HBd ⊢
       clear HTc
       have z0 := (blk_cell ((HTd.out.B.block g hgs).trans HGw.out) 0).trans rfl
       have x0 := (blk_cell HBd.out 0).trans rfl
       refine stz (fun w' => w'.cell? ⟨g, 0, none⟩ = some (.slice Ax xs.length cx) ∧ w'.cell? ⟨b, 0, none⟩ = some (.int .i64 l0[k].f0)) [] (bn 12 0) ⟨z0, x0⟩ (fun hHeld => ?_)
       refine pz 0 (some 79) (bn 12 1) ?_
       refine pz 1 (some 80) (bn 12 3) ?_
       refine pz 2 (some 81) (bn 12 7) ?_
       refine pz 4 (some 83) (bn 12 23) ?_
       refine tz 3 (some 82) (bn 12 31) hHeld ?_
       refine tz 5 (some 84) (bn 12 63) hHeld ?_
       refine oz 6 (some 85) (bn 12 127) (fun K hK => ?_)
       refine gz Try.func93 #[.slice Ax xs.length cx, .int .i64 l0[k].f0] ?_
       with_reducible refine (search_own (HXg.out wd.drew HTd.out.B.drew) HSX.out HNX'.out l0[k].f0).mono ?_
       rintro e we ⟨rfl, hwe⟩
       refine ⟨_, rfl, ?_⟩
       refine hK.out _ _ ⟨(by obtain ⟨q1, rfl⟩ := hwe; exact z0), (by obtain ⟨q1, rfl⟩ := hwe; exact x0)⟩ (fun hHeld => ?_)
       clear hK K
       refine nz (some 85) ?_
       refine pz 7 (some 78) (bn 12 255) ?_
       refine pz 8 (some 86) (bn 12 511) ?_
       refine pz 9 (some 87) (bn 12 1023) ?_
       refine pz 10 (some 9) (bn 12 2047) ?_
       refine pz 11 (some 10) (bn 12 4095) ?_
       refine done_ (by kernel_rfl) ?_
       have HTe := Aside0.mk (show Tab _ _ _ _ _ we from by obtain ⟨q1, rfl⟩ := hwe; exact (HTd.out.grown (Nat.le_of_lt (by have := HTd.out.size; omega)) ⟨rfl, rfl, rfl, Nat.le_refl _, fun _ _ _ => rfl⟩))
       have HBe := Aside0.mk (show we.heap[b]? = some (.cells #[.int .i64 l0[k].f0, .int .i64 l0[k].f3, .int .i64 (-1)] 113 (0, 0)) from by obtain ⟨q1, rfl⟩ := hwe; exact HBd.out)
       clear hwe hHeld z0 x0 HTd HBd
       have z0 := (blk_cell ((HTe.out.B.block g hgs).trans HGw.out) 1).trans rfl
       have x0 := (blk_cell HBe.out 1).trans rfl
       go_wp2
       refine stz (fun w' => w'.cell? ⟨g, 1, none⟩ = some (.slice Ay ys.length cy) ∧ w'.cell? ⟨b, 1, none⟩ = some (.int .i64 l0[k].f3)) [] (bn 12 0) ⟨z0, x0⟩ (fun hHeld => ?_)
       refine pz 0 (some 89) (bn 12 1) ?_
       refine pz 1 (some 90) (bn 12 3) ?_
       refine pz 2 (some 91) (bn 12 7) ?_
       refine pz 4 (some 93) (bn 12 23) ?_
       refine tz 3 (some 92) (bn 12 31) hHeld ?_
       refine tz 5 (some 94) (bn 12 63) hHeld ?_
       refine oz 6 (some 95) (bn 12 127) (fun K hK => ?_)
       refine gz Try.func93 #[.slice Ay ys.length cy, .int .i64 l0[k].f3] ?_
       with_reducible refine (search_own (HYg.out we.drew HTe.out.B.drew) HSY.out HNY'.out l0[k].f3).mono ?_
       rintro e wf ⟨rfl, hwf⟩
       refine ⟨_, rfl, ?_⟩
       refine hK.out _ _ ⟨(by obtain ⟨q1, rfl⟩ := hwf; exact z0), (by obtain ⟨q1, rfl⟩ := hwf; exact x0)⟩ (fun hHeld => ?_)
       clear hK K
       refine nz (some 95) ?_
       refine pz 7 (some 88) (bn 12 255) ?_
       refine pz 8 (some 96) (bn 12 511) ?_
       refine pz 9 (some 97) (bn 12 1023) ?_
       refine pz 10 (some 11) (bn 12 2047) ?_
       refine pz 11 (some 12) (bn 12 4095) ?_
       refine done_ (by kernel_rfl) ?_
       have HTf := Aside0.mk (show Tab _ _ _ _ _ wf from by obtain ⟨q1, rfl⟩ := hwf; exact (HTe.out.grown (Nat.le_of_lt (by have := HTe.out.size; omega)) ⟨rfl, rfl, rfl, Nat.le_refl _, fun _ _ _ => rfl⟩))
       have HBf := Aside0.mk (show wf.heap[b]? = some (.cells #[.int .i64 l0[k].f0, .int .i64 l0[k].f3, .int .i64 (-1)] 113 (0, 0)) from by obtain ⟨q1, rfl⟩ := hwf; exact HBe.out)
       clear hwf hHeld z0 x0 HTe HBe
       have z0 := (blk_cell ((HTf.out.B.block g hgs).trans HGw.out) 2).trans rfl
       have z1 := HTf.out.line hp
       have z2 := HTf.out.cell hp hq
       have x0 := (blk_cell HBf.out 2).trans rfl
       have fst := HTf.out.free (pos ys (l0[k].f3)) hp
       go_wp2
       refine stz (fun w' => w'.cell? ⟨g, 2, none⟩ = some (.slice (some ⟨w.heap.size, 0, none⟩) xs.length xs.length) ∧ w'.cell? ⟨w.heap.size, pos xs (l0[k].f0), none⟩ = some (.slice (some ⟨w.heap.size + 1 + pos xs (l0[k].f0), 0, none⟩) ys.length ys.length) ∧ w'.cell? ⟨w.heap.size + 1 + pos xs (l0[k].f0), pos ys (l0[k].f3), none⟩ = some (.int .i64 (wrap64 (D1 xs ys cs (pos xs (l0[k].f0)) (pos ys (l0[k].f3))))) ∧ w'.cell? ⟨b, 2, none⟩ = some (.int .i64 (-1))) [14] (bn 15 0) ⟨z0, z1, z2, x0⟩ (fun hHeld => ?_)
       refine pz 0 (some 98) (bn 15 1) ?_
       refine pz 1 (some 99) (bn 15 3) ?_
       refine pz 2 (some 100) (bn 15 7) ?_
       refine pz 4 (some 102) (bn 15 23) ?_
       refine pz 7 (some 105) (bn 15 151) ?_
       refine pz 10 (some 108) (bn 15 1175) ?_
       refine tz 3 (some 101) (bn 15 1183) hHeld ?_
       refine pz 5 (some 103) (bn 15 1215) ?_
       refine tz 6 (some 104) (bn 15 1279) hHeld ?_
       refine pz 8 (some 106) (bn 15 1535) ?_
       refine tz 9 (some 107) (bn 15 2047) hHeld ?_
       refine tz 11 (some 109) (bn 15 4095) hHeld ?_
       refine pz 12 (some 110) (bn 15 8191) ?_
       refine pz 13 (some 111) (bn 15 16383) ?_
       refine last_ (i := 14) (N := none) #[true, true, true, true, true, true, true, true, true, true, true, true, true, true, true] rfl rfl (by kernel_rfl) (by decide) (fun K hK => ?_)
       refine sz ?_
       refine hK.out _ _ ?_
       clear hK K
       refine done_ (by kernel_rfl) ?_
       have HTg := Aside0.mk (HTn.out _ (HTf.out.putD (l0[k].f0) (l0[k].f3) (-1) hp hq))
       clear fst z0 z1 z2 x0 HTf HBf HTn hHeld
       generalize (wf.setCell ⟨w.heap.size + 1 + pos xs (l0[k].f0), pos ys (l0[k].f3), none⟩ (.int .i64 (wrap64 (wrap64 (D1 xs ys cs (pos xs (l0[k].f0)) (pos ys (l0[k].f3))) + (-1))))).drew = wg' at HTg ⊢
       go_wp2
       go_roundw
       ·exact .inr (.inr (.inr (.inl ⟨rfl, ⟨HTg.out⟩⟩)))
       ·simp only [intOf]
        omega
      ·skip
       have hp : pos xs (l0[k].f2) < xs.length := pos_lt (HM.out l0[k] (List.getElem_mem hlt)).2.2.1
       have hq : pos ys (l0[k].f3) < ys.length := pos_lt (HM.out l0[k] (List.getElem_mem hlt)).2.2.2
       have hpz : ((pos xs (l0[k].f2) : Nat) : Int) < (xs.length : Int) := by omega
       have hqz : ((pos ys (l0[k].f3) : Nat) : Int) < (ys.length : Int) := by omega
       have HTn := Aside0.mk (show ∀ W, Tab (wgOf w g xs.length) w.heap.size xs.length ys.length (fun i j => wrap64 (D1 xs ys (((l0.take k).flatMap four ++ (four l0[k]).take 3) ++ [(l0[k].f2, l0[k].f3, 1)]) i j)) W → TabC (wgOf w g xs.length) w.heap.size xs.length ys.length xs ys ((l0.take k).flatMap four) l0[k] (3 + 1) W from fun W h => by rw [List.append_assoc] at h; exact h)
       unfold TabC at HTc
       generalize (l0.take k).flatMap four ++ (four l0[k]).take 3 = cs at HTc HTn
       have hix := idx114_3 (.int .i64 l0[k].f0) (.int .i64 l0[k].f1) (.int .i64 1) (.int .i64 l0[k].f2) (.int .i64 l0[k].f1) (.int .i64 (-1)) (.int .i64 l0[k].f0) (.int .i64 l0[k].f3) (.int .i64 (-1)) (.int .i64 l0[k].f2) (.int .i64 l0[k].f3) (.int .i64 1) wc
       go_wp2
       clear hix
       have HTd := Aside0.mk (HTc.out.grown (Nat.le_of_lt (by have := HTc.out.size; omega)) (World.grownBy_alloc wc (.cells #[.int .i64 l0[k].f2, .int .i64 l0[k].f3, .int .i64 1] 113 (0, 0)) none))
       have HBd := Aside0.mk (heap_alloc_new wc (.cells #[.int .i64 l0[k].f2, .int .i64 l0[k].f3, .int .i64 1] 113 (0, 0)))
       generalize wc.heap.size = b at *
       generalize wc.alloc (.cells #[.int .i64 l0[k].f2, .int .i64 l0[k].f3, .int .i64 1] 113 (0, 0)) = wd at HTd HBd ⊢
       clear HTc
       have z0 := (blk_cell ((HTd.out.B.block g hgs).trans HGw.out) 0).trans rfl
       have x0 := (blk_cell HBd.out 0).trans rfl
       refine stz (fun w' => w'.cell? ⟨g, 0, none⟩ = some (.slice Ax xs.length cx) ∧ w'.cell? ⟨b, 0, none⟩ = some (.int .i64 l0[k].f2)) [] (bn 12 0) ⟨z0, x0⟩ (fun hHeld => ?_)
       refine pz 0 (some 79) (bn 12 1) ?_
       refine pz 1 (some 80) (bn 12 3) ?_
       refine pz 2 (some 81) (bn 12 7) ?_
       refine pz 4 (some 83) (bn 12 23) ?_
       refine tz 3 (some 82) (bn 12 31) hHeld ?_
       refine tz 5 (some 84) (bn 12 63) hHeld ?_
       refine oz 6 (some 85) (bn 12 127) (fun K hK => ?_)
       refine gz Try.func93 #[.slice Ax xs.length cx, .int .i64 l0[k].f2] ?_
       with_reducible refine (search_own (HXg.out wd.drew HTd.out.B.drew) HSX.out HNX'.out l0[k].f2).mono ?_
       rintro e we ⟨rfl, hwe⟩
       refine ⟨_, rfl, ?_⟩
       refine hK.out _ _ ⟨(by obtain ⟨q1, rfl⟩ := hwe; exact z0), (by obtain ⟨q1, rfl⟩ := hwe; exact x0)⟩ (fun hHeld => ?_)
       clear hK K
       refine nz (some 85) ?_
       refine pz 7 (some 78) (bn 12 255) ?_
       refine pz 8 (some 86) (bn 12 511) ?_
       refine pz 9 (some 87) (bn 12 1023) ?_
       refine pz 10 (some 9) (bn 12 2047) ?_
       refine pz 11 (some 10) (bn 12 4095) ?_
       refine done_ (by kernel_rfl) ?_
       have HTe := Aside0.mk (show Tab _ _ _ _ _ we from by obtain ⟨q1, rfl⟩ := hwe; exact (HTd.out.grown (Nat.le_of_lt (by have := HTd.out.size; omega)) ⟨rfl, rfl, rfl, Nat.le_refl _, fun _ _ _ => rfl⟩))
       have HBe := Aside0.mk (show we.heap[b]? = some (.cells #[.int .i64 l0[k].f2, .int .i64 l0[k].f3, .int .i64 1] 113 (0, 0)) from by obtain ⟨q1, rfl⟩ := hwe; exact HBd.out)
       clear hwe hHeld z0 x0 HTd HBd
       have z0 := (blk_cell ((HTe.out.B.block g hgs).trans HGw.out) 1).trans rfl
       have x0 := (blk_cell HBe.out 1).trans rfl
       go_wp2
       refine stz (fun w' => w'.cell? ⟨g, 1, none⟩ = some (.slice Ay ys.length cy) ∧ w'.cell? ⟨b, 1, none⟩ = some (.int .i64 l0[k].f3)) [] (bn 12 0) ⟨z0, x0⟩ (fun hHeld => ?_)
       refine pz 0 (some 89) (bn 12 1) ?_
       refine pz 1 (some 90) (bn 12 3) ?_
       refine pz 2 (some 91) (bn 12 7) ?_
       refine pz 4 (some 93) (bn 12 23) ?_
       refine tz 3 (some 92) (bn 12 31) hHeld ?_
       refine tz 5 (some 94) (bn 12 63) hHeld ?_
       refine oz 6 (some 95) (bn 12 127) (fun K hK => ?_)
       refine gz Try.func93 #[.slice Ay ys.length cy, .int .i64 l0[k].f3] ?_
       with_reducible refine (search_own (HYg.out we.drew HTe.out.B.drew) HSY.out HNY'.out l0[k].f3).mono ?_
       rintro e wf ⟨rfl, hwf⟩
       refine ⟨_, rfl, ?_⟩
       refine hK.out _ _ ⟨(by obtain ⟨q1, rfl⟩ := hwf; exact z0), (by obtain ⟨q1, rfl⟩ := hwf; exact x0)⟩ (fun hHeld => ?_)
       clear hK K
       refine nz (some 95) ?_
       refine pz 7 (some 88) (bn 12 255) ?_
       refine pz 8 (some 96) (bn 12 511) ?_
       refine pz 9 (some 97) (bn 12 1023) ?_
       refine pz 10 (some 11) (bn 12 2047) ?_
       refine pz 11 (some 12) (bn 12 4095) ?_
       refine done_ (by kernel_rfl) ?_
       have HTf := Aside0.mk (show Tab _ _ _ _ _ wf from by obtain ⟨q1, rfl⟩ := hwf; exact (HTe.out.grown (Nat.le_of_lt (by have := HTe.out.size; omega)) ⟨rfl, rfl, rfl, Nat.le_refl _, fun _ _ _ => rfl⟩))
       have HBf := Aside0.mk (show wf.heap[b]? = some (.cells #[.int .i64 l0[k].f2, .int .i64 l0[k].f3, .int .i64 1] 113 (0, 0)) from by obtain ⟨q1, rfl⟩ := hwf; exact HBe.out)
       clear hwf hHeld z0 x0 HTe HBe
       have z0 := (blk_cell ((HTf.out.B.block g hgs).trans HGw.out) 2).trans rfl
       have z1 := HTf.out.line hp
       have z2 := HTf.out.cell hp hq
       have x0 := (blk_cell HBf.out 2).trans rfl
       have fst := HTf.out.free (pos ys (l0[k].f3)) hp
       go_wp2
       refine stz (fun w' => w'.cell? ⟨g, 2, none⟩ = some (.slice (some ⟨w.heap.size, 0, none⟩) xs.length xs.length) ∧ w'.cell? ⟨w.heap.size, pos xs (l0[k].f2), none⟩ = some (.slice (some ⟨w.heap.size + 1 + pos xs (l0[k].f2), 0, none⟩) ys.length ys.length) ∧ w'.cell? ⟨w.heap.size + 1 + pos xs (l0[k].f2), pos ys (l0[k].f3), none⟩ = some (.int .i64 (wrap64 (D1 xs ys cs (pos xs (l0[k].f2)) (pos ys (l0[k].f3))))) ∧ w'.cell? ⟨b, 2, none⟩ = some (.int .i64 1)) [14] (bn 15 0) ⟨z0, z1, z2, x0⟩ (fun hHeld => ?_)
       refine pz 0 (some 98) (bn 15 1) ?_
       refine pz 1 (some 99) (bn 15 3) ?_
       refine pz 2 (some 100) (bn 15 7) ?_
       refine pz 4 (some 102) (bn 15 23) ?_
       refine pz 7 (some 105) (bn 15 151) ?_
       refine pz 10 (some 108) (bn 15 1175) ?_
       refine tz 3 (some 101) (bn 15 1183) hHeld ?_
       refine pz 5 (some 103) (bn 15 1215) ?_
       refine tz 6 (some 104) (bn 15 1279) hHeld ?_
       refine pz 8 (some 106) (bn 15 1535) ?_
       refine tz 9 (some 107) (bn 15 2047) hHeld ?_
       refine tz 11 (some 109) (bn 15 4095) hHeld ?_
       refine pz 12 (some 110) (bn 15 8191) ?_
       refine pz 13 (some 111) (bn 15 16383) ?_
       refine last_ (i := 14) (N := none) #[true, true, true, true, true, true, true, true, true, true, true, true, true, true, true] rfl rfl (by kernel_rfl) (by decide) (fun K hK => ?_)
       refine sz ?_
       refine hK.out _ _ ?_
       clear hK K
       refine done_ (by kernel_rfl) ?_
       have HTg := Aside0.mk (HTn.out _ (HTf.out.putD (l0[k].f2) (l0[k].f3) (1) hp hq))
       clear fst z0 z1 z2 x0 HTf HBf HTn hHeld
       generalize (wf.setCell ⟨w.heap.size + 1 + pos xs (l0[k].f2), pos ys (l0[k].f3), none⟩ (.int .i64 (wrap64 (wrap64 (D1 xs ys cs (pos xs (l0[k].f2)) (pos ys (l0[k].f3))) + 1)))).drew = wg' at HTg ⊢
       go_wp2
       go_roundw
       ·exact .inr (.inr (.inr (.inr (⟨rfl, ⟨HTg.out⟩⟩))))
       ·simp only [intOf]
        omega
      ·have HTo : Aside0 (Tab (wgOf w g xs.length) w.heap.size xs.length ys.length (fun i j => wrap64 (D1 xs ys ((l0.take (k + 1)).flatMap four) i j)) wc) := ⟨HTc.out.congr (fun a b _ _ => by rw [List.take_succ_eq_append_getElem hlt, List.flatMap_append]; simp only [List.flatMap_cons, List.flatMap_nil, List.append_nil]; rfl)⟩
       clear HTc
       go_wp2
       go_roundw
       ·exact ⟨k + 1, hlt, by rw [Int.natCast_add]; rfl, HTo⟩
       ·simp only [intOf]
        omega
    ·obtain rfl : k = l0.length := by omega
     rw [List.take_length] at HT
     generalize hTT : D1 xs ys (l0.flatMap four) = T at HT
     replace hTT := Aside0.mk hTT
     have HT7 := Aside0.mk HT.out.mix0
     have z0 := (blk_cell ((HT.out.B.block g hgs).trans HGw.out) 2).trans rfl
     clear HT
     go_wp2
     clear z0
     go_loopw [119] (fun iv wr => ∃ i : Nat, i ≤ xs.length ∧ iv = .int .i64 i ∧ Aside0 (Tab (wgOf w g xs.length) w.heap.size xs.length ys.length (mixT T i 0) wr)) (fun iv _ => xs.length - (intOf iv).toNat)
     case atStart => exact ⟨0, Nat.zero_le _, rfl, HT7⟩
     case round =>
      rename World => ws
      obtain ⟨i, hi, rfl, HT⟩ := hrel
      by_cases hil : i < xs.length
      ·have hilz : (i : Int) < (xs.length : Int) := by omega
       have z1 := HT.out.line hil
       go_wp2
       clear z1
       go_loopw [126, 15] (fun jv sv wr => ∃ j : Nat, j ≤ ys.length ∧ jv = .int .i64 j ∧ sv = .int .i64 (wrap64 (rowS T i j)) ∧ Aside0 (Tab (wgOf w g xs.length) w.heap.size xs.length ys.length (mixT T i j) wr)) (fun jv _ _ => ys.length - (intOf jv).toNat)
       case atStart => exact ⟨0, Nat.zero_le _, rfl, by simp [rowS, wrap64], HT⟩
       case round =>
        rename World => wt
        obtain ⟨j, hj, rfl, rfl, HTj⟩ := hrel
        by_cases hjl : j < ys.length
        ·have hjlz : (j : Int) < (ys.length : Int) := by omega
         have z2 : wt.cell? ⟨w.heap.size + 1 + i, j, none⟩ = some (.int .i64 (wrap64 (T i j))) := by rw [HTj.out.cell hil hjl, mixT_here]
         have z7 := HTj.out.free j hil
         have hs1 : wrap64 (wrap64 (rowS T i j) + wrap64 (T i j)) = wrap64 (rowS T i (j + 1)) := sum_one T i j
         have HTm := Aside0.mk (HTj.out.mid (wrap64 (rowS T i (j + 1))) hil hjl)
         by_cases hi0 : i = 0
         ·have hi0z : ¬ 0 < (i : Int) := by omega
          have HI0 := Aside0.mk hi0
          clear hi0
          go_wp2
          have HTn := Aside0.mk (HTm.out.midOut (show wrap64 (rowS T i (j + 1)) = wrap64 (PT T i j) by have := HI0.out; subst this; rfl))
          clear z2 z7 hs1 HTm
          generalize wt.setCell ⟨w.heap.size + 1 + i, j, none⟩ (.int .i64 (wrap64 (rowS T i (j + 1)))) = wv at HTn ⊢
          go_roundw
          ·exact ⟨j + 1, hjl, by rw [Int.natCast_add]; rfl, by rw [sum_one], HTn⟩
          ·simp only [intOf]
           omega
         ·obtain ⟨i', hi'⟩ : ∃ i', Aside0 (i = i' + 1) := ⟨i - 1, ⟨by omega⟩⟩
          have hi0z : 0 < (i : Int) := by omega
          have hil' : i' < xs.length := Nat.lt_of_succ_lt (Nat.lt_of_le_of_lt (Nat.le_of_eq hi'.out.symm) hil)
          have hilz' : (i' : Int) < (xs.length : Int) := Int.ofNat_lt.2 hil'
          have hs3 : wrap64 ((i : Int) - 1) = (i' : Int) := pred_w hi'.out hil hnx
          have hs2 : wrap64 (wrap64 (rowS T i (j + 1)) + wrap64 (PT T i' j)) = wrap64 (PT T i j) := sum_two T i' j i hi'.out
          clear hi0
          go_wp2
          clear z2 z7 hs1
          generalize wt.setCell ⟨w.heap.size + 1 + i, j, none⟩ (.int .i64 (wrap64 (rowS T i (j + 1)))) = wu at HTm ⊢
          have z3 : wu.cell? ⟨w.heap.size + 1 + i, j, none⟩ = some (.int .i64 (wrap64 (rowS T i (j + 1)))) := by rw [HTm.out.cell hil hjl, midT_here]
          have z4 := (blk_cell ((HTm.out.B.block g hgs).trans HGw.out) 2).trans rfl
          have z5 := HTm.out.line hil'
          have z6 : wu.cell? ⟨w.heap.size + 1 + i', j, none⟩ = some (.int .i64 (wrap64 (PT T i' j))) := by rw [HTm.out.cell hil' hjl, midT_over T i' j i _ hi'.out]
          have z7 := HTm.out.free j hil
          refine stz (fun w' => w'.cell? ⟨w.heap.size + 1 + i, j, none⟩ = some (.int .i64 (wrap64 (rowS T i (j + 1)))) ∧ w'.cell? ⟨g, 2, none⟩ = some (.slice (some ⟨w.heap.size, 0, none⟩) xs.length xs.length) ∧ w'.cell? ⟨w.heap.size, i', none⟩ = some (.slice (some ⟨w.heap.size + 1 + i', 0, none⟩) ys.length ys.length) ∧ w'.cell? ⟨w.heap.size + 1 + i', j, none⟩ = some (.int .i64 (wrap64 (PT T i' j)))) [17] (bn 18 0) ⟨z3, z4, z5, z6⟩ (fun hHeld => ?_)
          refine pz 0 (some 140) (bn 18 1) ?_
          refine pz 1 (some 141) (bn 18 3) ?_
          refine pz 2 (some 142) (bn 18 7) ?_
          refine pz 4 (some 144) (bn 18 23) ?_
          refine pz 5 (some 145) (bn 18 55) ?_
          refine pz 6 (some 146) (bn 18 119) ?_
          refine pz 8 (some 148) (bn 18 375) ?_
          refine pz 9 (some 149) (bn 18 887) ?_
          refine pz 12 (some 152) (bn 18 4983) ?_
          refine tz 3 (some 143) (bn 18 4991) hHeld ?_
          refine tz 7 (some 147) (bn 18 5119) hHeld ?_
          refine pz 10 (some 150) (bn 18 6143) ?_
          refine tz 11 (some 151) (bn 18 8191) hHeld ?_
          refine pz 13 (some 153) (bn 18 16383) ?_
          refine tz 14 (some 154) (bn 18 32767) hHeld ?_
          refine pz 15 (some 155) (bn 18 65535) ?_
          refine pz 16 (some 156) (bn 18 131071) ?_
          refine last_ (i := 17) (N := none) #[true, true, true, true, true, true, true, true, true, true, true, true, true, true, true, true, true, true] rfl rfl (by kernel_rfl) (by decide) (fun K hK => ?_)
          refine sz ?_
          refine hK.out _ _ ?_
          clear hK K
          refine done_ (by kernel_rfl) ?_
          have HTn := Aside0.mk ((HTm.out.mid2 (wrap64 (PT T i j)) hil hjl).midOut rfl)
          clear z3 z4 z5 z6 z7 hs2 hs3 hHeld HTm
          generalize (wu.setCell ⟨w.heap.size + 1 + i, j, none⟩ (.int .i64 (wrap64 (PT T i j)))).drew = wv at HTn ⊢
          go_wp2
          go_roundw
          ·exact ⟨j + 1, hjl, by rw [Int.natCast_add]; rfl, by rw [sum_one], HTn⟩
          ·simp only [intOf]
           omega
        ·obtain rfl : j = ys.length := by omega
         have HTn := Aside0.mk HTj.out.mixNext
         go_wp2
         go_roundw
         ·exact ⟨i + 1, hil, by rw [Int.natCast_add]; rfl, HTn⟩
         ·simp only [intOf]
          omega
      ·obtain rfl : i = xs.length := by omega
       have HTn := Aside0.mk HT.out.mixEnd
       go_wp2
       replace hTT := hTT.out
       subst hTT
       exact bodyPost_end (results_none rfl _ _ _) rfl ⟨rfl, HTn.out⟩
end Go.Proofs.Ytplhfbkejngioaa.X
namespace Go.Proofs.Ytplhfbkejngioaa.X
set_option linter.unusedVariables false
theorem sorted_le (l : List Int) : (sorted l).Pairwise (· ≤ ·) := by
 have := List.pairwise_mergeSort (le := fun x y : Int => decide (x ≤ y)) (by simp; omega) (by simp; omega) l
 exact this.imp (by simp)
theorem sorted_mem (l : List Int) (x : Int) : x ∈ sorted l ↔ x ∈ l := by unfold sorted; exact List.mem_mergeSort
theorem bang_get (zs : List Int) (i : Nat) (h : i < zs.length) : zs.toArray[i]! = zs[i] := by simp [h]
theorem compact_lt {zs : List Int} (hs : zs.Pairwise (· ≤ ·)) : (Lib.compact zs).Pairwise (· < ·) := by
 unfold Lib.compact Lib.compactUpTo
 rw [List.pairwise_map]
 have h1 : ((List.range zs.length).filter (Lib.keeps zs.toArray)).Pairwise (· < ·) := List.Pairwise.filter _ List.pairwise_lt_range
 refine h1.imp_of_mem (fun {i j} hi hj hij => ?_)
 have hjk := (List.mem_filter.1 hj).2
 have hjl : j < zs.length := by simpa using (List.mem_filter.1 hj).1
 have hj0 : 0 < j := by omega
 have hne : zs.toArray[j]! ≠ zs.toArray[j - 1]! := fun e => by rw [Lib.keeps_neg hj0 e] at hjk; cases hjk
 rw [bang_get zs j hjl] at hne ⊢
 rw [bang_get zs (j - 1) (by omega)] at hne
 rw [bang_get zs i (by omega)]
 have h2 : zs[i]'(by omega) ≤ zs[j - 1]'(by omega) := by
  rcases Nat.lt_or_ge i (j - 1) with h | h
  ·exact List.pairwise_iff_getElem.1 hs i (j - 1) (by omega) (by omega) h
  ·have : i = j - 1 := by omega
   subst this; exact Int.le_refl _
 have h3 : zs[j - 1]'(by omega) ≤ zs[j] := List.pairwise_iff_getElem.1 hs (j - 1) j (by omega) (by omega) (by omega)
 omega
theorem compact_mem (zs : List Int) (x : Int) : x ∈ Lib.compact zs ↔ x ∈ zs := by
 unfold Lib.compact Lib.compactUpTo
 simp only [List.mem_map, List.mem_filter, List.mem_range]
 constructor
 ·rintro ⟨i, ⟨hi, _⟩, rfl⟩
  rw [bang_get zs i hi]; exact List.getElem_mem hi
 ·intro hx
  obtain ⟨i, hi, rfl⟩ := List.mem_iff_getElem.1 hx
  have key : ∀ i (hi : i < zs.length), ∃ a, (a < zs.length ∧ Lib.keeps zs.toArray a = true) ∧ zs.toArray[a]! = zs[i] := by
   intro i
   induction i with
   | zero => intro hi; exact ⟨0, ⟨hi, Lib.keeps_lt_one _ _ (by omega)⟩, bang_get zs 0 hi⟩
   | succ i ih =>
    intro hi
    by_cases e : zs.toArray[i + 1]! = zs.toArray[i]!
    ·obtain ⟨a, h1, h2⟩ := ih (by omega)
     refine ⟨a, h1, ?_⟩
     rw [bang_get zs (i + 1) hi, bang_get zs i (by omega)] at e
     rw [h2, e]
    ·exact ⟨i + 1, ⟨hi, Lib.keeps_pos (by simpa using e)⟩, bang_get zs (i + 1) hi⟩
  exact key i hi
theorem ins_mem (x y : Int) : ∀ l : List Int, y ∈ ins x l ↔ y = x ∨ y ∈ l
 | [] => by simp [ins]
 | z :: l => by
  unfold ins
  split
  ·rw [List.mem_cons, ins_mem x y l, List.mem_cons]; constructor <;> (intro h; rcases h with h | h | h <;> simp [h])
  ·split
   ·rename_i h; subst h; simp
   ·simp
theorem ins_lt (x : Int) : ∀ l : List Int, l.Pairwise (· < ·) → (ins x l).Pairwise (· < ·)
 | [], _ => by simp [ins]
 | z :: l, h => by
  unfold ins
  obtain ⟨h1, h2⟩ := List.pairwise_cons.1 h
  split
  ·rename_i hz
   refine List.pairwise_cons.2 ⟨fun y hy => ?_, ins_lt x l h2⟩
   rcases (ins_mem x y l).1 hy with rfl | hy
   ·exact hz
   ·exact h1 y hy
  ·split
   ·exact h
   ·refine List.pairwise_cons.2 ⟨fun y hy => ?_, h⟩
    rcases List.mem_cons.1 hy with rfl | hy
    ·omega
    ·have := h1 y hy; omega
theorem linesX_lt_from (l : List S48) : ∀ o : List Int, o.Pairwise (· < ·) → (l.foldl (fun o r => ins r.f2 (ins r.f0 o)) o).Pairwise (· < ·) := by
 induction l with
 | nil => intro o h; exact h
 | cons r t ih => intro o h; exact ih _ (ins_lt _ _ (ins_lt _ _ h))
theorem linesY_lt_from (l : List S48) : ∀ o : List Int, o.Pairwise (· < ·) → (l.foldl (fun o r => ins r.f3 (ins r.f1 o)) o).Pairwise (· < ·) := by
 induction l with
 | nil => intro o h; exact h
 | cons r t ih => intro o h; exact ih _ (ins_lt _ _ (ins_lt _ _ h))
theorem linesX_lt (l : List S48) : (linesX l).Pairwise (· < ·) := linesX_lt_from l [] List.Pairwise.nil
theorem linesY_lt (l : List S48) : (linesY l).Pairwise (· < ·) := linesY_lt_from l [] List.Pairwise.nil
theorem linesX_mem_from (l : List S48) (x : Int) : ∀ o : List Int, x ∈ (l.foldl (fun o r => ins r.f2 (ins r.f0 o)) o) ↔ x ∈ o ∨ x ∈ allX l := by
 induction l with
 | nil => intro o; simp [allX]
 | cons r t ih => intro o; simp only [List.foldl_cons]; rw [ih]; simp only [ins_mem, allX, List.flatMap_cons, List.mem_append, List.mem_cons, List.not_mem_nil, or_false]; grind
theorem linesY_mem_from (l : List S48) (x : Int) : ∀ o : List Int, x ∈ (l.foldl (fun o r => ins r.f3 (ins r.f1 o)) o) ↔ x ∈ o ∨ x ∈ allY l := by
 induction l with
 | nil => intro o; simp [allY]
 | cons r t ih => intro o; simp only [List.foldl_cons]; rw [ih]; simp only [ins_mem, allY, List.flatMap_cons, List.mem_append, List.mem_cons, List.not_mem_nil, or_false]; grind
theorem linesX_mem (l : List S48) (x : Int) : x ∈ linesX l ↔ x ∈ allX l := by unfold linesX; rw [linesX_mem_from]; simp
theorem linesY_mem (l : List S48) (x : Int) : x ∈ linesY l ↔ x ∈ allY l := by unfold linesY; rw [linesY_mem_from]; simp
theorem asc_ext : ∀ {a b : List Int}, a.Pairwise (· < ·) → b.Pairwise (· < ·) → (∀ x, x ∈ a ↔ x ∈ b) → a = b
 | [], [], _, _, _ => rfl
 | [], y :: b, _, _, h => absurd ((h y).2 (List.mem_cons_self ..)) (by simp)
 | x :: a, [], _, _, h => absurd ((h x).1 (List.mem_cons_self ..)) (by simp)
 | x :: a, y :: b, ha, hb, h => by
  obtain ⟨ha1, ha2⟩ := List.pairwise_cons.1 ha
  obtain ⟨hb1, hb2⟩ := List.pairwise_cons.1 hb
  have hxy : x = y := by
   rcases List.mem_cons.1 ((h x).1 (List.mem_cons_self ..)) with e | e
   ·exact e
   ·rcases List.mem_cons.1 ((h y).2 (List.mem_cons_self ..)) with e' | e'
    ·exact e'.symm
    ·have h1 := hb1 x e; have h2 := ha1 y e'; omega
  subst hxy
  congr 1
  refine asc_ext ha2 hb2 (fun z => ?_)
  constructor
  ·intro hz
   rcases List.mem_cons.1 ((h z).1 (List.mem_cons_of_mem _ hz)) with e | e
   ·have := ha1 z hz; omega
   ·exact e
  ·intro hz
   rcases List.mem_cons.1 ((h z).2 (List.mem_cons_of_mem _ hz)) with e | e
   ·have := hb1 z hz; omega
   ·exact e
theorem linesX_is (l : List S48) : Lib.compact (sorted (allX l)) = linesX l :=
 asc_ext (compact_lt (sorted_le _)) (linesX_lt l) (fun x => by rw [compact_mem, sorted_mem, linesX_mem])
theorem linesY_is (l : List S48) : Lib.compact (sorted (allY l)) = linesY l :=
 asc_ext (compact_lt (sorted_le _)) (linesY_lt l) (fun x => by rw [compact_mem, sorted_mem, linesY_mem])
end Go.Proofs.Ytplhfbkejngioaa.X
namespace Go.Proofs.Ytplhfbkejngioaa.X
set_option linter.unusedVariables false
theorem pos_at : ∀ {xs : List Int}, xs.Pairwise (· < ·) → ∀ p (hp : p < xs.length), pos xs xs[p] = p
 | [], _, p, hp => absurd hp (by simp)
 | a :: t, h, 0, _ => by
  obtain ⟨h1, h2⟩ := List.pairwise_cons.1 h
  unfold pos
  rw [List.countP_eq_zero]
  intro b hb
  rcases List.mem_cons.1 hb with rfl | hb
  ·simp
  ·have := h1 b hb; simp; omega
 | a :: t, h, p + 1, hp => by
  obtain ⟨h1, h2⟩ := List.pairwise_cons.1 h
  have ih := pos_at h2 p (by simpa using hp)
  have := h1 (t[p]'(by simpa using hp)) (List.getElem_mem _)
  unfold pos at ih ⊢
  rw [List.getElem_cons_succ, List.countP_cons_of_pos (by simpa using this), ih]
theorem pos_le_iff {xs : List Int} (h : xs.Pairwise (· < ·)) {i : Nat} (hi : i < xs.length) {x : Int} (hx : x ∈ xs) : pos xs x ≤ i ↔ x ≤ xs[i] := by
 obtain ⟨p, hp, rfl⟩ := List.mem_iff_getElem.1 hx
 rw [pos_at h p hp]
 have hm := List.pairwise_iff_getElem.1 h
 constructor
 ·intro hpi
  rcases Nat.lt_or_ge p i with e | e
  ·exact Int.le_of_lt (hm p i hp hi e)
  ·have : p = i := by omega
   subst this; exact Int.le_refl _
 ·intro hle
  rcases Nat.lt_or_ge i p with e | e
  ·have := hm i p hi hp e; omega
  ·exact e
theorem rowS_add (S T : Nat → Nat → Int) (i j : Nat) : rowS (fun a b => S a b + T a b) i j = rowS S i j + rowS T i j := by
 induction j with
 | zero => rfl
 | succ j ih => simp only [rowS, ih]; omega
theorem PT_add (S T : Nat → Nat → Int) (i j : Nat) : PT (fun a b => S a b + T a b) i j = PT S i j + PT T i j := by
 induction i with
 | zero => simp only [PT, rowS_add]
 | succ i ih => simp only [PT, rowS_add, ih]; omega
theorem rowS_one (p q : Nat) (d : Int) (i j : Nat) : rowS (fun a b => if p = a ∧ q = b then d else 0) i j = if p = i ∧ q < j then d else 0 := by
 induction j with
 | zero => simp [rowS]
 | succ j ih =>
  simp only [rowS, ih]
  by_cases h1 : p = i
  ·by_cases h2 : q < j
   ·rw [if_pos ⟨h1, h2⟩, if_neg (by omega), if_pos (by omega)]; omega
   ·by_cases h3 : q = j
    ·rw [if_neg (by omega), if_pos ⟨h1, h3⟩, if_pos (by omega)]; omega
    ·rw [if_neg (by omega), if_neg (by omega), if_neg (by omega)]; rfl
  ·rw [if_neg (fun e => h1 e.1), if_neg (fun e => h1 e.1), if_neg (fun e => h1 e.1)]; rfl
theorem PT_one (p q : Nat) (d : Int) (i j : Nat) : PT (fun a b => if p = a ∧ q = b then d else 0) i j = if p ≤ i ∧ q ≤ j then d else 0 := by
 induction i with
 | zero =>
  simp only [PT, rowS_one]
  by_cases h : p = 0 ∧ q ≤ j
  ·rw [if_pos (by omega), if_pos (by omega)]
  ·rw [if_neg (by omega), if_neg (by omega)]
 | succ i ih =>
  simp only [PT, rowS_one, ih]
  by_cases h2 : q ≤ j
  ·by_cases h1 : p = i + 1
   ·rw [if_pos (by omega), if_neg (by omega), if_pos (by omega)]; omega
   ·by_cases h3 : p ≤ i
    ·rw [if_neg (by omega), if_pos (by omega), if_pos (by omega)]; omega
    ·rw [if_neg (by omega), if_neg (by omega), if_neg (by omega)]; rfl
  ·rw [if_neg (by omega), if_neg (by omega), if_neg (by omega)]; rfl
theorem rowS_zero (i j : Nat) : rowS (fun _ _ => 0) i j = 0 := by
 induction j with
 | zero => rfl
 | succ j ih => simp only [rowS, ih]; rfl
theorem PT_zero (i j : Nat) : PT (fun _ _ => 0) i j = 0 := by
 induction i with
 | zero => simp only [PT, rowS_zero]
 | succ i ih => simp only [PT, rowS_zero, ih]; rfl
theorem PT_D1 (xs ys : List Int) (cs : List (Int × Int × Int)) (i j : Nat) : PT (D1 xs ys cs) i j = sumL (cs.map fun c => if pos xs c.1 ≤ i ∧ pos ys c.2.1 ≤ j then c.2.2 else 0) := by
 induction cs with
 | nil => exact PT_zero i j
 | cons c t ih =>
  have : D1 xs ys (c :: t) = fun a b => (if pos xs c.1 = a ∧ pos ys c.2.1 = b then c.2.2 else 0) + D1 xs ys t a b := by
   funext a b; simp [D1, sumL]
  rw [this, PT_add, PT_one, ih]; simp [sumL]
theorem four_sum {xs ys : List Int} (hx : xs.Pairwise (· < ·)) (hy : ys.Pairwise (· < ·)) {i j : Nat} (hi : i < xs.length) (hj : j < ys.length) {r : S48} (hr : r.f0 ∈ xs ∧ r.f1 ∈ ys ∧ r.f2 ∈ xs ∧ r.f3 ∈ ys) (hlt : r.f0 < r.f2 ∧ r.f1 < r.f3) :
  sumL ((four r).map fun c => if pos xs c.1 ≤ i ∧ pos ys c.2.1 ≤ j then c.2.2 else 0) = if covers r xs[i] ys[j] then 1 else 0 := by
 simp only [four, List.map_cons, List.map_nil, sumL, List.foldr_cons, List.foldr_nil, pos_le_iff hx hi hr.1, pos_le_iff hx hi hr.2.2.1, pos_le_iff hy hj hr.2.1, pos_le_iff hy hj hr.2.2.2, covers, Bool.and_eq_true, decide_eq_true_eq]
 by_cases a : r.f0 ≤ xs[i] <;> by_cases b : r.f2 ≤ xs[i] <;> by_cases c : r.f1 ≤ ys[j] <;> by_cases d : r.f3 ≤ ys[j] <;> simp [a, b, c, d] <;> omega
theorem depth_is {xs ys : List Int} (hx : xs.Pairwise (· < ·)) (hy : ys.Pairwise (· < ·)) {i j : Nat} (hi : i < xs.length) (hj : j < ys.length) : ∀ (l : List S48), (∀ r ∈ l, r.f0 ∈ xs ∧ r.f1 ∈ ys ∧ r.f2 ∈ xs ∧ r.f3 ∈ ys) → (∀ r ∈ l, r.f0 < r.f2 ∧ r.f1 < r.f3) →
  PT (D1 xs ys (l.flatMap four)) i j = depthL l xs[i] ys[j]
 | [], _, _ => by rw [PT_D1]; rfl
 | r :: l, hm, hlt => by
  have ih := depth_is hx hy hi hj l (fun r hr => hm r (List.mem_cons_of_mem _ hr)) (fun r hr => hlt r (List.mem_cons_of_mem _ hr))
  rw [PT_D1] at ih ⊢
  rw [List.flatMap_cons, List.map_append, sumL_append, ih, four_sum hx hy hi hj (hm r (List.mem_cons_self ..)) (hlt r (List.mem_cons_self ..))]
  unfold depthL
  by_cases h : covers r xs[i] ys[j] = true
  ·rw [if_pos h, List.filter_cons, if_pos h, List.length_cons]; omega
  ·rw [if_neg h, List.filter_cons, if_neg h]; omega
theorem depthL_range (l : List S48) (x y : Int) : 0 ≤ depthL l x y ∧ depthL l x y ≤ l.length := by
 unfold depthL
 have := List.length_filter_le (fun r => covers r x y) l
 omega
end Go.Proofs.Ytplhfbkejngioaa.X
