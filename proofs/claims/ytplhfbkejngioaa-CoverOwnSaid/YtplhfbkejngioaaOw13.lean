/- The contract of the law's own tamed, at 16 rectangles: at most 16 rectangles, each of them valid. Texts of this claim's session, put together: ETamed. -/
import Derived.Test.YtplhfbkejngioaaBc4
import Derived.Test.YtplhfbkejngioaaOw10
import Derived.Test.YtplhfbkejngioaaOw12
import Derived.Test.YtplhfbkejngioaaOw9
import Derived.Test.YtplhfbkejngioaaVWords
import Derived.Test.YtplhfbkejngioaaVLast
namespace Go.Proofs.Ytplhfbkejngioaa.X
open Go.RowKit Go.Proofs.YtplhfbkejngioaaW.PrintWords Go.Proofs.YtplhfbkejngioaaW.PrintLast Go.Proofs.Ytplhfbkejngioaa.S
set_option linter.unusedVariables false
set_option linter.unusedSimpArgs false
theorem OwnR.far {W : World} {base : Nat} {v : Value} {l : List S48} (h : OwnR W base v l) {p : Addr} (hne : v.ownBlock ≠ some p.block) (u : Value) : OwnR (W.setCell p u) base v l := by
 obtain ⟨h1, h2⟩ := h
 rcases h2 with h2 | ⟨g', cap, cur, rfl, hb, hh, r⟩
 ·exact ⟨h1, .inl h2⟩
 ·exact ⟨h1, .inr ⟨g', cap, cur, rfl, hb, blk_far hh (fun e => hne (by rw [← e]; rfl)) u, r⟩⟩
structure Tm (w : World) (v : Value) (z : List S48) (W : World) : Prop where
 b : Below w.heap.size w W
 o : OwnR W w.heap.size v z
theorem Tm.drawn {w W W' : World} {v : Value} {z : List S48} (h : Tm w v z W) (hd : Drawn0 W W') : Tm w v z W' := by
 obtain ⟨n, rfl⟩ := hd
 exact ⟨pw_below_drewN h.b n, h.o⟩
structure Tb (w : World) (v : Value) (z : List S48) (g : Nat) (x0 x1 x2 x3 : Int) (W : World) : Prop where
 b : Below w.heap.size w W
 o : OwnR W w.heap.size v z
 n : v.ownBlock ≠ some g
 gw : w.heap.size ≤ g
 x : W.heap[g]? = some (.cells #[.int .i64 x0, .int .i64 x1, .int .i64 x2, .int .i64 x3] 48 (0, 0))
theorem Tm.box {w W W' : World} {v : Value} {z : List S48} {g : Nat} (h : Tm w v z W) (hg : g = W.heap.size) (hx : W'.heap[g]? = some (.cells #[.int .i64 0, .int .i64 0, .int .i64 0, .int .i64 0] 48 (0, 0))) (hb : Below W.heap.size W W') : Tb w v z g 0 0 0 0 W' := by
 refine ⟨below_then h.b h.b.size hb, h.o.below hb, fun e => ?_, by rw [hg]; exact h.b.size, hx⟩
 have := own_lt h.o g e
 omega
section
variable {w W W' : World} {v : Value} {z : List S48} {g : Nat} {x0 x1 x2 x3 : Int}
theorem Tb.drawn (h : Tb w v z g x0 x1 x2 x3 W) (hd : Drawn0 W W') : Tb w v z g x0 x1 x2 x3 W' := by
 obtain ⟨n, rfl⟩ := hd
 exact ⟨pw_below_drewN h.b n, h.o, h.n, h.gw, h.x⟩
theorem Tb.below (h : Tb w v z g x0 x1 x2 x3 W) (hb : Below W.heap.size W W') : Tb w v z g x0 x1 x2 x3 W' := ⟨below_then h.b h.b.size hb, h.o.below hb, h.n, h.gw, blk_below h.x hb⟩
theorem Tb.facts (h : Tb w v z g x0 x1 x2 x3 W) : W.cell? ⟨g, 0, none⟩ = some (.int .i64 x0) ∧ W.cell? ⟨g, 1, none⟩ = some (.int .i64 x1) ∧ W.cell? ⟨g, 2, none⟩ = some (.int .i64 x2) ∧ W.cell? ⟨g, 3, none⟩ = some (.int .i64 x3) ∧
  W.frozen? ⟨g, 0, none⟩ = false ∧ W.frozen? ⟨g, 1, none⟩ = false ∧ W.frozen? ⟨g, 2, none⟩ = false ∧ W.frozen? ⟨g, 3, none⟩ = false :=
 ⟨(blk_cell h.x 0).trans rfl, (blk_cell h.x 1).trans rfl, (blk_cell h.x 2).trans rfl, (blk_cell h.x 3).trans rfl, blk_frozen h.x 0, blk_frozen h.x 1, blk_frozen h.x 2, blk_frozen h.x 3⟩
theorem Tb.set (h : Tb w v z g x0 x1 x2 x3 W) (y0 y1 y2 y3 : Int) : Tb w v z g y0 y1 y2 y3 ((((W.setCell ⟨g, 0, none⟩ (.int .i64 y0)).setCell ⟨g, 1, none⟩ (.int .i64 y1)).setCell ⟨g, 2, none⟩ (.int .i64 y2)).setCell ⟨g, 3, none⟩ (.int .i64 y3)) :=
 ⟨(((h.b.setCell (p := ⟨g, 0, none⟩) h.gw _).setCell (p := ⟨g, 1, none⟩) h.gw _).setCell (p := ⟨g, 2, none⟩) h.gw _).setCell (p := ⟨g, 3, none⟩) h.gw _,
  (((h.o.far (p := ⟨g, 0, none⟩) h.n _).far (p := ⟨g, 1, none⟩) h.n _).far (p := ⟨g, 2, none⟩) h.n _).far (p := ⟨g, 3, none⟩) h.n _, h.n, h.gw,
  blk_put (blk_put (blk_put (blk_put h.x 0 _ rfl) 1 _ rfl) 2 _ rfl) 3 _ rfl⟩
end
set_option maxHeartbeats 4000000 in
set_option maxRecDepth 100000 in
theorem ownTamed.calls (A0 : Option Addr) (c0 : Nat) (l0 : List S48) (w : World) (hr0 : Kd.C k48 w A0 l0.length l0) (hc0 : l0.length ≤ c0) :
  Calls Try.prog 28 #[.slice A0 l0.length c0, .int .i64 16, .int .i64 256] w fun e w' => ∃ z v, e = .returned v ∧ z.length ≤ 16 ∧ (∀ r ∈ z, isR r = true) ∧ Kd.R k48 48 w' w.heap.size (fun _ => True) v z ∧ Below w.heap.size w w' := by
 have hu48 := Try.underlying48
 have HR0 := Aside0.mk hr0
 have HNR := Aside0.mk (fun (a : Int) => show ∃ x, ∀ W : World, Calls Try.prog 35 #[.int .i64 a, .int .i64 256] W fun e w' => e = .returned (.int .i64 x) ∧ Drawn0 W w' from by
  obtain ⟨x, e, _⟩ := near_in a (most := 256) (by omega) (by omega)
  exact ⟨x, fun W => tickinglaw01_near.calls a 256 x W e⟩)
 have HRC := Aside0.mk (fun (a b c d : Int) (W : World) => tickingref01_Rect.calls a b c d (isR ⟨a, b, c, d⟩) W (rect_f ⟨a, b, c, d⟩))
 clear hr0
 go_enter Try.func28, Try.ntmps28
 go_wp2
 go_loopw [8, 7] (fun iv vv wr => ∃ (i : Nat) (z : List S48), i ≤ 16 ∧ iv = .int .i64 (i : Int) ∧ Aside0 (z.length ≤ i ∧ ∀ r ∈ z, isR r = true) ∧ Aside0 (Tm w vv z wr)) (fun iv _ _ => 16 - (intOf iv).toNat)
 case atStart => exact ⟨0, [], Nat.zero_le _, rfl, ⟨Nat.le_refl _, fun r h => (by cases h)⟩, ⟨Below.refl _ _, OwnR.nil _ _⟩⟩
 case round =>
  obtain ⟨i, z, hi, rfl, HZ, HS⟩ := hrel
  by_cases hil : i < l0.length
  ·have hz : (i : Int) < (l0.length : Int) := by omega
   by_cases him : i < 16
   ·have hm : (i : Int) < 16 := by omega
    have HI := Aside0.mk him
    obtain ⟨a, ea, h0, h1, h2, h3⟩ := at_T48 HR0.out (i : Int) (by omega) hz
    subst ea
    simp only [Int.toNat_natCast] at h0 h1 h2 h3
    generalize (rd_T48 l0 (i : Int)).f0 = r0 at h0
    generalize (rd_T48 l0 (i : Int)).f1 = r1 at h1
    generalize (rd_T48 l0 (i : Int)).f2 = r2 at h2
    generalize (rd_T48 l0 (i : Int)).f3 = r3 at h3
    obtain ⟨x0, hn0⟩ := HNR.out r0
    obtain ⟨x1, hn1⟩ := HNR.out r1
    obtain ⟨x2, hn2⟩ := HNR.out r2
    obtain ⟨x3, hn3⟩ := HNR.out r3
    have HN0 := Aside0.mk hn0
    have HN1 := Aside0.mk hn1
    have HN2 := Aside0.mk hn2
    have HN3 := Aside0.mk hn3
    have HLD := Aside0.mk (fun (W : World) (h : Below w.heap.size w W) => show W.cell? (a.add (i * 4)) = some (.int .i64 r0) ∧ W.cell? ⟨(a.add (i * 4)).block, (a.add (i * 4)).off + 1, none⟩ = some (.int .i64 r1) ∧ W.cell? ⟨(a.add (i * 4)).block, (a.add (i * 4)).off + 2, none⟩ = some (.int .i64 r2) ∧ W.cell? ⟨(a.add (i * 4)).block, (a.add (i * 4)).off + 3, none⟩ = some (.int .i64 r3) from ⟨pw_cell_below h h0, pw_cell_below h h1, pw_cell_below h h2, pw_cell_below h h3⟩)
    clear h0 h1 h2 h3 hn0 hn1 hn2 hn3 hi hil him
    go_wp2
    obtain ⟨Av, cv, rfl⟩ := HS.out.o.form
    refine stz (fun w' => w'.cell? (a.add (i * 4)) = some (.int .i64 r0) ∧ w'.cell? ⟨(a.add (i * 4)).block, (a.add (i * 4)).off + 1, none⟩ = some (.int .i64 r1) ∧ w'.cell? ⟨(a.add (i * 4)).block, (a.add (i * 4)).off + 2, none⟩ = some (.int .i64 r2) ∧ w'.cell? ⟨(a.add (i * 4)).block, (a.add (i * 4)).off + 3, none⟩ = some (.int .i64 r3)) [] (bn 31 0) (HLD.out _ (below_drew HS.out.b)) (fun hHeld => ?_)
    have n0 := Aside0.mk (show Tm w _ z (World.drew _) from ⟨below_drew HS.out.b, HS.out.o⟩)
    clear HS; have HS := n0; clear n0
    refine pz 0 (some 21) (bn 31 1) ?_
    refine pz 1 (some 22) (bn 31 3) ?_
    refine pz 2 (some 23) (bn 31 7) ?_
    refine pz 3 (some 24) (bn 31 15) ?_
    refine pz 5 (some 26) (bn 31 47) ?_
    refine pz 7 (some 28) (bn 31 175) ?_
    refine pz 8 (some 29) (bn 31 431) ?_
    refine pz 9 (some 30) (bn 31 943) ?_
    refine pz 10 (some 31) (bn 31 1967) ?_
    refine pz 12 (some 33) (bn 31 6063) ?_
    refine pz 14 (some 35) (bn 31 22447) ?_
    refine pz 15 (some 36) (bn 31 55215) ?_
    refine pz 16 (some 37) (bn 31 120751) ?_
    refine pz 17 (some 38) (bn 31 251823) ?_
    refine pz 19 (some 40) (bn 31 776111) ?_
    refine pz 21 (some 42) (bn 31 2873263) ?_
    refine pz 22 (some 43) (bn 31 7067567) ?_
    refine pz 23 (some 44) (bn 31 15456175) ?_
    refine pz 24 (some 45) (bn 31 32233391) ?_
    refine pz 26 (some 47) (bn 31 99342255) ?_
    refine tz 4 (some 25) (bn 31 99342271) hHeld ?_
    refine tz 11 (some 32) (bn 31 99344319) hHeld ?_
    refine tz 18 (some 39) (bn 31 99606463) hHeld ?_
    refine tz 25 (some 46) (bn 31 133160895) hHeld ?_
    refine join_ (σ := Nat) 1 (bn 31 1073741823) (fun g => [(27, .int .i64 x0), (34, .int .i64 x1), (41, .int .i64 x2), (48, .int .i64 x3), (49, .agg #[.int .i64 x0, .int .i64 x1, .int .i64 x2, .int .i64 x3]), (9, .pointer (some ⟨g, 0, none⟩))]) (fun g w' => Tb w (.slice Av z.length cv) z g 0 0 0 0 w') ?cJ ?mJ
    case mJ =>
     intro J
     refine two_ (i := 6) (j := 29) (Ni := some 27) (Nj := some 9) (bn 31 133160959) (bn 31 670031807) rfl rfl rfl rfl (by kernel_rfl) (by decide) (by decide) (fun K hK => ?_) (fun K hK => ?_)
     ·skip
      refine gz Try.func35 #[.int .i64 r0, .int .i64 256] ?_
      with_reducible refine (HN0.out _).mono ?_
      rintro e wq1 ⟨rfl, hd⟩
      refine ⟨_, rfl, ?_⟩
      have n0 := Aside0.mk (HS.out.drawn hd)
      clear hd HS; have HS := n0; clear n0
      refine hK.out _ _ (HLD.out _ HS.out.b) (fun hHeld => ?_)
      clear hK K
      refine nz (some 27) ?_
      refine two_ (i := 13) (j := 29) (Ni := some 34) (Nj := some 9) (bn 31 133169151) (bn 31 670031871) rfl rfl rfl rfl (by kernel_rfl) (by decide) (by decide) (fun K hK => ?_) (fun K hK => ?_)
      ·skip
       refine gz Try.func35 #[.int .i64 r1, .int .i64 256] ?_
       with_reducible refine (HN1.out _).mono ?_
       rintro e wq2 ⟨rfl, hd⟩
       refine ⟨_, rfl, ?_⟩
       have n0 := Aside0.mk (HS.out.drawn hd)
       clear hd HS; have HS := n0; clear n0
       refine hK.out _ _ (HLD.out _ HS.out.b) (fun hHeld => ?_)
       clear hK K
       refine nz (some 34) ?_
       refine two_ (i := 20) (j := 29) (Ni := some 41) (Nj := some 9) (bn 31 134217727) (bn 31 670040063) rfl rfl rfl rfl (by kernel_rfl) (by decide) (by decide) (fun K hK => ?_) (fun K hK => ?_)
       ·skip
        refine gz Try.func35 #[.int .i64 r2, .int .i64 256] ?_
        with_reducible refine (HN2.out _).mono ?_
        rintro e wq3 ⟨rfl, hd⟩
        refine ⟨_, rfl, ?_⟩
        have n0 := Aside0.mk (HS.out.drawn hd)
        clear hd HS; have HS := n0; clear n0
        refine hK.out _ _ (HLD.out _ HS.out.b) (fun hHeld => ?_)
        clear hK K
        refine nz (some 41) ?_
        refine two_ (i := 27) (j := 29) (Ni := some 48) (Nj := some 9) (bn 31 268435455) (bn 31 671088639) rfl rfl rfl rfl (by kernel_rfl) (by decide) (by decide) (fun K hK => ?_) (fun K hK => ?_)
        ·skip
         refine gz Try.func35 #[.int .i64 r3, .int .i64 256] ?_
         with_reducible refine (HN3.out _).mono ?_
         rintro e wq4 ⟨rfl, hd⟩
         refine ⟨_, rfl, ?_⟩
         have n0 := Aside0.mk (HS.out.drawn hd)
         clear hd HS; have HS := n0; clear n0
         refine hK.out _ _ (HLD.out _ HS.out.b) (fun hHeld => ?_)
         clear hK K
         refine nz (some 48) ?_
         refine pz 28 (some 49) (bn 31 536870911) ?_
         refine oz 29 (some 9) (bn 31 1073741823) (fun K hK => ?_)
         refine bxS 9 #[.int .i64 0, .int .i64 0, .int .i64 0, .int .i64 0] 48 ?_
         intro g hg wq5 hbox hb
         have n0 := Aside0.mk (HS.out.box hg hbox hb)
         clear hg hbox hb HS; have HS := n0; clear n0
         refine hK.out _ _ (HLD.out _ HS.out.b) (fun hHeld => ?_)
         clear hK K
         refine nz (some 9) ?_
         exact norm_ (by first | (simp only [putAll, Act.put, List.setIfInBounds_toArray, List.set_cons_zero, List.set_cons_succ]; done) | (simp only [putAll, Act.put, List.setIfInBounds_toArray, List.set_cons_zero, List.set_cons_succ]; rfl)) (J g _ HS.out)
        ·skip
         refine bxS 9 #[.int .i64 0, .int .i64 0, .int .i64 0, .int .i64 0] 48 ?_
         intro g hg wq6 hbox hb
         have n0 := Aside0.mk (HS.out.box hg hbox hb)
         clear hg hbox hb HS; have HS := n0; clear n0
         refine hK.out _ _ (HLD.out _ HS.out.b) (fun hHeld => ?_)
         clear hK K
         refine nz (some 9) ?_
         refine oz 27 (some 48) (bn 31 805306367) (fun K hK => ?_)
         refine gz Try.func35 #[.int .i64 r3, .int .i64 256] ?_
         with_reducible refine (HN3.out _).mono ?_
         rintro e wq7 ⟨rfl, hd⟩
         refine ⟨_, rfl, ?_⟩
         have n0 := Aside0.mk (HS.out.drawn hd)
         clear hd HS; have HS := n0; clear n0
         refine hK.out _ _ (HLD.out _ HS.out.b) (fun hHeld => ?_)
         clear hK K
         refine nz (some 48) ?_
         refine pz 28 (some 49) (bn 31 1073741823) ?_
         exact norm_ (by first | (simp only [putAll, Act.put, List.setIfInBounds_toArray, List.set_cons_zero, List.set_cons_succ]; done) | (simp only [putAll, Act.put, List.setIfInBounds_toArray, List.set_cons_zero, List.set_cons_succ]; rfl)) (J g _ HS.out)
       ·skip
        refine bxS 9 #[.int .i64 0, .int .i64 0, .int .i64 0, .int .i64 0] 48 ?_
        intro g hg wq8 hbox hb
        have n0 := Aside0.mk (HS.out.box hg hbox hb)
        clear hg hbox hb HS; have HS := n0; clear n0
        refine hK.out _ _ (HLD.out _ HS.out.b) (fun hHeld => ?_)
        clear hK K
        refine nz (some 9) ?_
        refine oz 20 (some 41) (bn 31 671088639) (fun K hK => ?_)
        refine gz Try.func35 #[.int .i64 r2, .int .i64 256] ?_
        with_reducible refine (HN2.out _).mono ?_
        rintro e wq9 ⟨rfl, hd⟩
        refine ⟨_, rfl, ?_⟩
        have n0 := Aside0.mk (HS.out.drawn hd)
        clear hd HS; have HS := n0; clear n0
        refine hK.out _ _ (HLD.out _ HS.out.b) (fun hHeld => ?_)
        clear hK K
        refine nz (some 41) ?_
        refine oz 27 (some 48) (bn 31 805306367) (fun K hK => ?_)
        refine gz Try.func35 #[.int .i64 r3, .int .i64 256] ?_
        with_reducible refine (HN3.out _).mono ?_
        rintro e wq10 ⟨rfl, hd⟩
        refine ⟨_, rfl, ?_⟩
        have n0 := Aside0.mk (HS.out.drawn hd)
        clear hd HS; have HS := n0; clear n0
        refine hK.out _ _ (HLD.out _ HS.out.b) (fun hHeld => ?_)
        clear hK K
        refine nz (some 48) ?_
        refine pz 28 (some 49) (bn 31 1073741823) ?_
        exact norm_ (by first | (simp only [putAll, Act.put, List.setIfInBounds_toArray, List.set_cons_zero, List.set_cons_succ]; done) | (simp only [putAll, Act.put, List.setIfInBounds_toArray, List.set_cons_zero, List.set_cons_succ]; rfl)) (J g _ HS.out)
      ·skip
       refine bxS 9 #[.int .i64 0, .int .i64 0, .int .i64 0, .int .i64 0] 48 ?_
       intro g hg wq11 hbox hb
       have n0 := Aside0.mk (HS.out.box hg hbox hb)
       clear hg hbox hb HS; have HS := n0; clear n0
       refine hK.out _ _ (HLD.out _ HS.out.b) (fun hHeld => ?_)
       clear hK K
       refine nz (some 9) ?_
       refine oz 13 (some 34) (bn 31 670040063) (fun K hK => ?_)
       refine gz Try.func35 #[.int .i64 r1, .int .i64 256] ?_
       with_reducible refine (HN1.out _).mono ?_
       rintro e wq12 ⟨rfl, hd⟩
       refine ⟨_, rfl, ?_⟩
       have n0 := Aside0.mk (HS.out.drawn hd)
       clear hd HS; have HS := n0; clear n0
       refine hK.out _ _ (HLD.out _ HS.out.b) (fun hHeld => ?_)
       clear hK K
       refine nz (some 34) ?_
       refine oz 20 (some 41) (bn 31 671088639) (fun K hK => ?_)
       refine gz Try.func35 #[.int .i64 r2, .int .i64 256] ?_
       with_reducible refine (HN2.out _).mono ?_
       rintro e wq13 ⟨rfl, hd⟩
       refine ⟨_, rfl, ?_⟩
       have n0 := Aside0.mk (HS.out.drawn hd)
       clear hd HS; have HS := n0; clear n0
       refine hK.out _ _ (HLD.out _ HS.out.b) (fun hHeld => ?_)
       clear hK K
       refine nz (some 41) ?_
       refine oz 27 (some 48) (bn 31 805306367) (fun K hK => ?_)
       refine gz Try.func35 #[.int .i64 r3, .int .i64 256] ?_
       with_reducible refine (HN3.out _).mono ?_
       rintro e wq14 ⟨rfl, hd⟩
       refine ⟨_, rfl, ?_⟩
       have n0 := Aside0.mk (HS.out.drawn hd)
       clear hd HS; have HS := n0; clear n0
       refine hK.out _ _ (HLD.out _ HS.out.b) (fun hHeld => ?_)
       clear hK K
       refine nz (some 48) ?_
       refine pz 28 (some 49) (bn 31 1073741823) ?_
       exact norm_ (by first | (simp only [putAll, Act.put, List.setIfInBounds_toArray, List.set_cons_zero, List.set_cons_succ]; done) | (simp only [putAll, Act.put, List.setIfInBounds_toArray, List.set_cons_zero, List.set_cons_succ]; rfl)) (J g _ HS.out)
     ·skip
      refine bxS 9 #[.int .i64 0, .int .i64 0, .int .i64 0, .int .i64 0] 48 ?_
      intro g hg wq15 hbox hb
      have n0 := Aside0.mk (HS.out.box hg hbox hb)
      clear hg hbox hb HS; have HS := n0; clear n0
      refine hK.out _ _ (HLD.out _ HS.out.b) (fun hHeld => ?_)
      clear hK K
      refine nz (some 9) ?_
      refine oz 6 (some 27) (bn 31 670031871) (fun K hK => ?_)
      refine gz Try.func35 #[.int .i64 r0, .int .i64 256] ?_
      with_reducible refine (HN0.out _).mono ?_
      rintro e wq16 ⟨rfl, hd⟩
      refine ⟨_, rfl, ?_⟩
      have n0 := Aside0.mk (HS.out.drawn hd)
      clear hd HS; have HS := n0; clear n0
      refine hK.out _ _ (HLD.out _ HS.out.b) (fun hHeld => ?_)
      clear hK K
      refine nz (some 27) ?_
      refine oz 13 (some 34) (bn 31 670040063) (fun K hK => ?_)
      refine gz Try.func35 #[.int .i64 r1, .int .i64 256] ?_
      with_reducible refine (HN1.out _).mono ?_
      rintro e wq17 ⟨rfl, hd⟩
      refine ⟨_, rfl, ?_⟩
      have n0 := Aside0.mk (HS.out.drawn hd)
      clear hd HS; have HS := n0; clear n0
      refine hK.out _ _ (HLD.out _ HS.out.b) (fun hHeld => ?_)
      clear hK K
      refine nz (some 34) ?_
      refine oz 20 (some 41) (bn 31 671088639) (fun K hK => ?_)
      refine gz Try.func35 #[.int .i64 r2, .int .i64 256] ?_
      with_reducible refine (HN2.out _).mono ?_
      rintro e wq18 ⟨rfl, hd⟩
      refine ⟨_, rfl, ?_⟩
      have n0 := Aside0.mk (HS.out.drawn hd)
      clear hd HS; have HS := n0; clear n0
      refine hK.out _ _ (HLD.out _ HS.out.b) (fun hHeld => ?_)
      clear hK K
      refine nz (some 41) ?_
      refine oz 27 (some 48) (bn 31 805306367) (fun K hK => ?_)
      refine gz Try.func35 #[.int .i64 r3, .int .i64 256] ?_
      with_reducible refine (HN3.out _).mono ?_
      rintro e wq19 ⟨rfl, hd⟩
      refine ⟨_, rfl, ?_⟩
      have n0 := Aside0.mk (HS.out.drawn hd)
      clear hd HS; have HS := n0; clear n0
      refine hK.out _ _ (HLD.out _ HS.out.b) (fun hHeld => ?_)
      clear hK K
      refine nz (some 48) ?_
      refine pz 28 (some 49) (bn 31 1073741823) ?_
      exact norm_ (by first | (simp only [putAll, Act.put, List.setIfInBounds_toArray, List.set_cons_zero, List.set_cons_succ]; done) | (simp only [putAll, Act.put, List.setIfInBounds_toArray, List.set_cons_zero, List.set_cons_succ]; rfl)) (J g _ HS.out)
    case cJ =>
     intro g wj hJ
     have HS := Aside0.mk hJ
     clear hJ
     refine norm_ (a' := ?_) ?_ ?_
     rotate_left
     ·simp only [putAll, Act.put, List.setIfInBounds_toArray, List.set_cons_zero, List.set_cons_succ]
      rfl
     refine oz 30 none (bn 31 2147483647) (fun K hK => ?_)
     obtain ⟨s0, s1, s2, s3, f0, f1, f2, f3⟩ := HS.out.facts
     refine sz ?_
     have n0 := Aside0.mk (HS.out.set x0 x1 x2 x3)
     clear HS s0 s1 s2 s3 f0 f1 f2 f3; have HS := n0; clear n0
     refine hK.out _ _ (HLD.out _ HS.out.b) (fun hHeld => ?_)
     clear hK K hHeld
     refine done_ (by kernel_rfl) ?_
     generalize ((((wj.setCell ⟨g, 0, none⟩ (.int .i64 x0)).setCell ⟨g, 1, none⟩ (.int .i64 x1)).setCell ⟨g, 2, none⟩ (.int .i64 x2)).setCell ⟨g, 3, none⟩ (.int .i64 x3)) = w5 at HS ⊢
     obtain ⟨s0, s1, s2, s3, f0, f1, f2, f3⟩ := HS.out.facts
     go_upto_if 54 with (fail)
     go_cut [] (fun wc => ∃ a0 a1 a2 a3 : Int, Aside0 (Tb w (.slice Av z.length cv) z g a0 a1 a2 a3 wc))
     case first =>
      by_cases c1 : x2 < x0
      ·have p1 : decide (x2 < x0) = true := decide_eq_true c1
       have HSS := Aside0.mk (HS.out.set x2 x1 x0 x3)
       clear c1
       rw [p1]
       go_wp2
       go_meet
       case rel => exact ⟨x2, x1, x0, x3, HSS⟩
      ·have p1 : decide (x2 < x0) = false := decide_eq_false c1
       clear c1
       rw [p1]
       go_wp2
       go_meet
       case rel => exact ⟨x0, x1, x2, x3, HS⟩
     case rest =>
      clear HS s0 s1 s2 s3 f0 f1 f2 f3
      obtain ⟨a0, a1, a2, a3, HS⟩ := hcut
      obtain ⟨s0, s1, s2, s3, f0, f1, f2, f3⟩ := HS.out.facts
      go_upto_if 68 with (fail)
      go_cut [] (fun wd => ∃ b0 b1 b2 b3 : Int, Aside0 (Tb w (.slice Av z.length cv) z g b0 b1 b2 b3 wd))
      case first =>
       by_cases c1 : a3 < a1
       ·have p1 : decide (a3 < a1) = true := decide_eq_true c1
        have HSS := Aside0.mk (HS.out.set a0 a3 a2 a1)
        clear c1
        rw [p1]
        go_wp2
        go_meet
        case rel => exact ⟨a0, a3, a2, a1, HSS⟩
       ·have p1 : decide (a3 < a1) = false := decide_eq_false c1
        clear c1
        rw [p1]
        go_wp2
        go_meet
        case rel => exact ⟨a0, a1, a2, a3, HS⟩
      case rest =>
       clear HS s0 s1 s2 s3 f0 f1 f2 f3
       obtain ⟨b0, b1, b2, b3, HS⟩ := hcut
       obtain ⟨s0, s1, s2, s3, f0, f1, f2, f3⟩ := HS.out.facts
       have H50 := Aside0.mk (HRC.out b0 b1 b2 b3)
       cases hR : isR ⟨b0, b1, b2, b3⟩ with
       | true =>
        rw [hR] at H50
        have HIR := Aside0.mk hR
        clear hR
        go_wp2_with (first
         | (go_at_call 50; (with_reducible refine (H50.out _).mono ?_); rintro e w8 ⟨rfl, hb⟩; have n0 := Aside0.mk (HS.out.below hb); clear HS hb s0 s1 s2 s3 f0 f1 f2 f3; have HS := n0; clear n0; obtain ⟨s0, s1, s2, s3, f0, f1, f2, f3⟩ := HS.out.facts)
         | ((with_reducible refine gate_builtin (b := .append) (xs := #[.tmp 80, .tmp 82]) rfl ?_); at_builtin; refine Kd.R_append k48 (w0 := w) w.heap.size rfl (.tmp 80) (.tmp 82) 22 48 (.agg #[(.int .i64 0), (.int .i64 0), (.int .i64 0), (.int .i64 0)]) 32 rfl Try.underlying22 info48 rfl (by decide) (by omega) (.slice Av z.length cv) z (⟨b0, b1, b2, b3⟩ : S48) [.int .i64 b0, .int .i64 b1, .int .i64 b2, .int .i64 b3] (fun _ => True) (fun _ => False) rfl rfl ?aP (fun _ hk => hk.elim) ?aF ?aO ?aB ?aS ?aL ?_; (case aP => exact k48_mkM _ _ _ (⟨b0, b1, b2, b3⟩ : S48)); (case aB => exact HS.out.b); (case aF => exact (fun _ _ => trivial)); (case aO => exact HS.out.o.toR); (case aS => exact HS.out.b.size); (case aL => have h1 := HZ.out.1; have h2 := HI.out; omega); intro v9 w9 ho hb hg hat; have HO9 := Aside0.mk (OwnR.ofR ho); have HB9 := Aside0.mk hb; clear ho hb hg hat))
        go_roundw
        ·refine ⟨i + 1, z ++ [⟨b0, b1, b2, b3⟩], HI.out, by rw [Int.natCast_add]; rfl, ⟨by have := HZ.out.1; simp; omega, fun r hr => ?_⟩, ⟨HB9.out, HO9.out⟩⟩
         rcases List.mem_append.1 hr with hr | hr
         ·exact HZ.out.2 r hr
         ·rw [List.mem_singleton.1 hr]; exact HIR.out
        ·have := HI.out; simp only [intOf]; omega
       | false =>
        rw [hR] at H50
        clear hR
        go_wp2_with (first
         | (go_at_call 50; (with_reducible refine (H50.out _).mono ?_); rintro e w8 ⟨rfl, hb⟩; have n0 := Aside0.mk (HS.out.below hb); clear HS hb s0 s1 s2 s3 f0 f1 f2 f3; have HS := n0; clear n0))
        go_roundw
        ·exact ⟨i + 1, z, HI.out, by rw [Int.natCast_add]; rfl, ⟨by have := HZ.out.1; omega, HZ.out.2⟩, ⟨HS.out.b, HS.out.o⟩⟩
        ·have := HI.out; simp only [intOf]; omega
   ·obtain rfl : i = 16 := by omega
    clear hi him
    obtain ⟨Av, cv, rfl⟩ := HS.out.o.form
    go_wp2
    go_ret
    exact ⟨z, _, rfl, HZ.out.1, HZ.out.2, HS.out.o.toR, HS.out.b⟩
  ·have hz : ¬ (i : Int) < (l0.length : Int) := by omega
   have p1 : decide ((i : Int) < (l0.length : Int)) = false := decide_eq_false hz
   have p2 : ((i : Int) < (l0.length : Int)) = False := eq_false hz
   have HI := Aside0.mk hi
   obtain ⟨Av, cv, rfl⟩ := HS.out.o.form
   clear hi hil hz
   go_wp2
   go_ret
   exact ⟨z, _, rfl, Nat.le_trans HZ.out.1 HI.out, HZ.out.2, HS.out.o.toR, HS.out.b⟩
end Go.Proofs.Ytplhfbkejngioaa.X
