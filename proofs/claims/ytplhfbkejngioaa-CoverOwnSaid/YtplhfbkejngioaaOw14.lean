/- The plain statement of CoverOwn (the walk itself holds the law: see EOwn). Texts of this claim's session, put together: EOwn, PureCoverOwn. -/
import Derived.Test.YtplhfbkejngioaaBc4
import Derived.Test.YtplhfbkejngioaaOw2
import Derived.Test.YtplhfbkejngioaaBc13
import Derived.Test.YtplhfbkejngioaaOw10
import Derived.Test.YtplhfbkejngioaaOw12
import Derived.Test.YtplhfbkejngioaaOw11
import Derived.Test.YtplhfbkejngioaaOw13
import Derived.Test.YtplhfbkejngioaaOw5
import Derived.IntWalk
import Derived.Test.YtplhfbkejngioaaOw4
import Derived.Test.YtplhfbkejngioaaVWords
import Derived.Test.YtplhfbkejngioaaVEqStruct
import Derived.Test.YtplhfbkejngioaaVRepsOne
namespace Go.Proofs.Ytplhfbkejngioaa.X
open Go.RowKit Go.Proofs.YtplhfbkejngioaaW.PrintWords Go.Proofs.YtplhfbkejngioaaW.PrintLast Go.Proofs.Ytplhfbkejngioaa.S
set_option linter.unusedVariables false
set_option linter.unusedSimpArgs false
attribute [local go_sem high] eqA40 eqA28
def tickinglaw01_CoverOwn.f (k : Nat) (l0 : List S28) (l1 : List S48) : Option Bool := some true
theorem ownR_f (l : List S48) (m : Nat) (hm : l.length ≤ m) (hm2 : m ≤ 10000) : tickinglaw01_rects.f l (m : Int) = some l := by
 unfold tickinglaw01_rects.f mn
 have hn : ¬ (m : Int) < (l.length : Int) := by omega
 simp only [hn, if_false]
 rw [if_pos (by omega), if_pos (by omega), Int.toNat_natCast, List.take_length]
 simp only [Option.bind_some, List.length_nil, List.nil_append]
 rw [if_pos (by omega)]
theorem own_pts (l : List S28) (h : l.length ≤ 30) : tickinglaw01_points.f l = some l := by
 unfold tickinglaw01_points.f mn
 have hn : ¬ (65 : Int) < (l.length : Int) := by omega
 simp only [hn, if_false]
 rw [if_pos (by omega), if_pos (by omega), Int.toNat_natCast, List.take_length]
 simp only [Option.bind_some, List.length_nil, List.nil_append]
 rw [if_pos (by omega)]
theorem own_are {l : List S28} (h1 : 1 ≤ l.length) (h2 : l.length ≤ 64) (h3 : ∀ p ∈ l, withinP 256 p) : arePs l = true := by
 unfold arePs
 simp only [Bool.and_eq_true, decide_eq_true_eq, List.all_eq_true]
 refine ⟨⟨h1, h2⟩, fun p hp => ?_⟩
 have h := h3 p hp
 unfold withinP at h
 unfold isP inC
 simp only [Bool.and_eq_true, decide_eq_true_eq]
 omega
theorem own_areR {l : List S48} (h2 : l.length ≤ 16) (h3 : ∀ r ∈ l, isR r = true) : areRs l 32 = true := by
 unfold areRs
 simp only [Bool.and_eq_true, decide_eq_true_eq, List.all_eq_true]
 exact ⟨by omega, h3⟩
theorem own_encl {l : List S28} (h : arePs l = true) : ∃ X Y D R s, cover_Enclose.f l = some (X, Y, D, R, s, 0) := by
 have ha := h
 unfold arePs at h
 simp only [Bool.and_eq_true, decide_eq_true_eq] at h
 obtain ⟨x, e, _⟩ := enclose_some (l := l) (by omega)
 refine ⟨x.c.X, x.c.Y, x.c.D, x.c.R, x.s, ?_⟩
 unfold cover_Enclose.f
 rw [if_pos ha, e]
theorem own_tiles {y b : List S48} (h : areRs y 32 = true) (hp : b.Perm y) (hs : b.Pairwise (fun u v => u.f1 ≤ v.f1)) :
  ∃ k, tickingref01_Tiles.f k y (divL (linesX y) b) = some true := by
 have hl : ∀ r ∈ y, isR r = true := by simp only [areRs, Bool.and_eq_true, List.all_eq_true] at h; exact h.2
 have hn : y.length ≤ 32 := by simp only [areRs, Bool.and_eq_true, decide_eq_true_eq] at h; omega
 have ha := div_are hl hn hp hs
 have hr : ∀ r ∈ divL (linesX y) b, isR r = true := by simp only [areRs, Bool.and_eq_true, List.all_eq_true] at ha; exact ha.2
 have hL := div_len hl hn hp hs
 exact (tiles_ev h (by omega) (v := true) ⟨fun _ => ⟨ha, (part_iff hl hr).2 (div_look hl hp hs)⟩, fun _ => rfl⟩).rounds
theorem eqA48 (d : Nat) (w : World) (x0 y0 : Int) (x1 y1 : Int) (x2 y2 : Int) (x3 y3 : Int) :
  (Op.equalIn (d + 2) 48 (.agg #[.int .i64 x0, .int .i64 x1, .int .i64 x2, .int .i64 x3]) (.agg #[.int .i64 y0, .int .i64 y1, .int .i64 y2, .int .i64 y3])).run Try.prog w = .ok (x0 == y0 && (x1 == y1 && (x2 == y2 && (x3 == y3)))) w := by
 refine eqA_of Try.underlying48 (by kernel_rfl) ?_
 refine eqf_cons (by rfl) (by go_simp; rfl) (by go_simp; rfl) (by go_simp) ?_
 refine eqf_cons (by rfl) (by go_simp; rfl) (by go_simp; rfl) (by go_simp) ?_
 refine eqf_cons (by rfl) (by go_simp; rfl) (by go_simp; rfl) (by go_simp) ?_
 exact eqf_last (by rfl) (by go_simp; rfl) (by go_simp; rfl) (by go_simp)
attribute [local go_sem high] eqA48
theorem ownC_drawn {α : Type} {d : Kd α} {W W' : World} {A : Option Addr} {n : Nat} {xs : List α} (h : Kd.C d W A n xs) (hd : Drawn0 W W') : Kd.C d W' A n xs := by
 obtain ⟨nd, rfl⟩ := hd
 exact Kd.C_drewN h nd
theorem nxtG {i n : Nat} (h : i < n) (hn : n ≤ 9223372036854775807) : wrap64 ((i : Int) + 1) = ((i + 1 : Nat) : Int) := by rw [w64 (by omega) (by omega), Int.natCast_add]; rfl
set_option maxHeartbeats 4000000 in
set_option maxRecDepth 100000 in
theorem tickinglaw01_CoverOwn.calls (k : Nat) (A0 : Option Addr) (c0 : Nat) (l0 : List S28) (A1 : Option Addr) (c1 : Nat) (l1 : List S48) (r : Bool) (w : World) (hr0 : Kd.C k28 w A0 l0.length l0) (hc0 : l0.length ≤ c0) (hr1 : Kd.C k48 w A1 l1.length l1) (hc1 : l1.length ≤ c1) (hT : r = true) (h : tickinglaw01_CoverOwn.f k l0 l1 = some r) :
  Calls Try.prog 14 #[.slice A0 l0.length c0, .slice A1 l1.length c1] w fun e w' => e = .returned (.bool r) ∧ Below w.heap.size w w' := by
 subst hT
 clear h
 have hlen0 : l0.length ≤ 9223372036854775807 := by have := hr0.2.1; omega
 have hlen1 : l1.length ≤ 9223372036854775807 := by have := hr1.2.1; omega
 obtain ⟨y, y1, y2, ys, hE⟩ := tameG_ev l0 hlen0 16 (by decide) (most := 256) (by omega) (by omega)
 obtain ⟨kt, hkt⟩ := hE.rounds
 have hu28 := Try.underlying28
 have hu40 := Try.underlying40
 have hu48 := Try.underlying48
 have HR1 := Aside0.mk hr1
 have HC1 := Aside0.mk hc1
 have HT1 := Aside0.mk (tickinglaw01_tame.calls kt A0 c0 l0 16 256 y w hr0 hc0 hkt)
 have HT2 := Aside0.mk (fun (W : World) (h : Kd.C k48 W A1 l1.length l1) => ownTamed.calls A1 c1 l1 W h HC1.out)
 have AY : arePs y = true := own_are y1 (by omega) ys
 obtain ⟨cX, cY, cD, cR, sl, e0⟩ := own_encl AY
 have HEN := Aside0.mk (fun (A : Option Addr) (c : Nat) (W : World) (h : Kd.C k28 W A y.length y) (hc : y.length ≤ c) => cover_Enclose.calls A c y cX cY cD cR sl 0 W h hc e0)
 have HPT := Aside0.mk (fun (A : Option Addr) (c : Nat) (W : World) (h : Kd.C k28 W A y.length y) (hc : y.length ≤ c) => tickinglaw01_points.calls A c y y W h hc (own_pts y (by omega)))
 have HW := Aside0.mk (fun W => tickinglaw01_awake.calls 0 true W rfl)
 have HYL := Aside0.mk y2
 clear hr0 hc0 hr1 hc1 hkt hE hlen0 hlen1 AY e0 ys y1 y2
 go_enter Try.func14, Try.ntmps14
 go_wp2_with (first
  | (go_at_call 25; (with_reducible refine HT1.out.mono ?_); rintro e w1 ⟨v, rfl, ho, hb⟩; obtain ⟨Ay, cy, ev, hcy, hcc⟩ := Kd.R_reads ho; subst ev; have HCY := Aside0.mk hcy; have HY := Aside0.mk hcc; have HB := Aside0.mk hb; clear ho hb HT1 hcy hcc)
  | (go_at_call 28; (with_reducible refine (HT2.out _ (Kd.C_below HR1.out HB.out)).mono ?_); rintro e w2 ⟨z, v, rfl, hzl, hzr, ho, hb⟩; have AZ := own_areR hzl hzr; have HZL := Aside0.mk hzl; have HRT := Aside0.mk (fun (A : Option Addr) (c : Nat) (W : World) (h : Kd.C k48 W A z.length z) (hc : z.length ≤ c) => tickinglaw01_rects.calls A c z 16 z W h hc (ownR_f z 16 hzl (by decide))); have HDV := Aside0.mk (fun (A : Option Addr) (c : Nat) (W : World) (h : Kd.C k48 W A z.length z) (hc : z.length ≤ c) => cover_Divide.calls A c z W h hc AZ); have HTL := Aside0.mk (fun b hp hs => own_tiles (y := z) (b := b) AZ hp hs); clear AZ hzr hzl; obtain ⟨Az, cz, ev, hcy, hcc⟩ := Kd.R_reads ho; subst ev; have HCZ := Aside0.mk hcy; have HZ := Aside0.mk hcc; have n0 := Aside0.mk (Kd.C_below HY.out hb); have n1 := Aside0.mk (below_then HB.out HB.out.size hb); clear HY HB; have HY := n0; have HB := n1; clear n0 n1 ho hb HT2 HR1 HC1 hcy hcc)
  | (go_at_call 34; (with_reducible refine (HPT.out _ _ _ HY.out HCY.out).mono ?_); rintro e w3 ⟨v, rfl, ho, hb⟩; obtain ⟨Aa, ca, ev, hcy, hcc⟩ := Kd.R_reads ho; subst ev; have HA := Aside0.mk hcc; have n0 := Aside0.mk (Kd.C_below HY.out hb); have n1 := Aside0.mk (Kd.C_below HZ.out hb); have n2 := Aside0.mk (below_then HB.out HB.out.size hb); clear HY HZ HB; have HY := n0; have HZ := n1; have HB := n2; clear n0 n1 n2 ho hb HPT hcy hcc)
  | (go_at_call 16; (with_reducible refine (HRT.out _ _ _ HZ.out HCZ.out).mono ?_); rintro e w4 ⟨v, rfl, ho, hb⟩; obtain ⟨Ab, cb, ev, hcy, hcc⟩ := Kd.R_reads ho; subst ev; have HCB := Aside0.mk hcy; have HBB := Aside0.mk hcc; have n0 := Aside0.mk (Kd.C_below HY.out hb); have n1 := Aside0.mk (Kd.C_below HZ.out hb); have n2 := Aside0.mk (below_then HB.out HB.out.size hb); have n3 := Aside0.mk (Kd.C_below HA.out hb); clear HY HZ HB HA; have HY := n0; have HZ := n1; have HB := n2; have HA := n3; clear n0 n1 n2 n3 ho hb HRT hcy hcc)
  | (go_at_call 26; (with_reducible refine (HEN.out _ _ _ HY.out HCY.out).mono ?_); rintro e w5 ⟨v, rfl, ho, hb⟩; obtain ⟨As, cs, ev, _, _⟩ := Kd.R_reads ho; subst ev; have HS5 := Aside0.mk ho; have HG5 := Aside0.mk (heap_alloc_new w5 (.cells #[.int .i64 cX, .int .i64 cY, .int .i64 cD, .int .i64 cR] 40)); have HB5 := Aside0.mk (below_alloc hb (.cells #[.int .i64 cX, .int .i64 cY, .int .i64 cD, .int .i64 cR] 40)); clear ho hb)
  | (go_at_call 45; (with_reducible refine (HDV.out _ _ _ (Kd.C_below HZ.out HB5.out) HCZ.out).mono ?_); rintro e w6 ⟨b, v, hp, hs, rfl, ho, hb⟩; obtain ⟨Ad, cd, ev, _, _⟩ := Kd.R_reads ho; subst ev; have HD6 := Aside0.mk ho; have HG6 := Aside0.mk (blk_below HG5.out hb); have HB6 := Aside0.mk (below_then HB5.out HB5.out.size hb); have HS6 := Aside0.mk (Kd.R_below (Kd.R_alloc HS5.out _) hb); clear ho hb hp hs))
 have HST := Aside0.mk (show OwnSt w4 w5.heap.size #[.int .i64 cX, .int .i64 cY, .int .i64 cD, .int .i64 cR] As sl.length cs Ad (divL (linesX z) b).length cd w6 from ⟨HB6.out, HG6.out, Kd.R_own HS6.out, Kd.R_own (Kd.R_lower HD6.out HB5.out.size)⟩)
 have HNS := Aside0.mk (show sl.length ≤ 9223372036854775807 from by have := (Kd.R_reads' HS6.out).2.2.2.1; omega)
 have HND := Aside0.mk (show (divL (linesX z) b).length ≤ 9223372036854775807 from by have := (Kd.R_reads' HD6.out).2.2.2.1; omega)
 generalize (divL (linesX z) b).length = nd at *
 generalize sl.length = ns at *
 generalize w5.heap.size = g9 at *
 clear HS5 HG5 HB5 HD6 HG6 HB6 HS6
 go_loopw [14] (fun iv wr => ∃ i : Nat, i ≤ ns ∧ iv = .int .i64 (i : Int) ∧ Aside0 (OwnSt w4 g9 #[.int .i64 cX, .int .i64 cY, .int .i64 cD, .int .i64 cR] As ns cs Ad nd cd wr)) (fun iv _ => ns - (intOf iv).toNat)
 case atStart => exact ⟨0, Nat.zero_le _, rfl, HST⟩
 case round =>
  rename World => wr
  obtain ⟨i, hi, rfl, HU⟩ := hrel
  by_cases hil : i < ns
  ·have HI := Aside0.mk hil
   have hz : (i : Int) < (ns : Int) := by omega
   obtain ⟨a, v, ea, k0, f0, hput⟩ := HU.out.putS hil
   subst ea
   have HPUT := Aside0.mk hput
   clear hput hi hil
   go_wp2
   go_roundw
   ·exact ⟨i + 1, HI.out, congrArg (Value.int .i64) (nxtG HI.out HNS.out), ⟨HPUT.out _⟩⟩
   ·rw [nxtG HI.out HNS.out]; have := HI.out; simp only [intOf]; omega
  ·obtain rfl : ns = i := by omega
   clear hi hil
   go_wp2
   go_loopw [15] (fun iv wq => ∃ i : Nat, i ≤ nd ∧ iv = .int .i64 (i : Int) ∧ Aside0 (OwnSt w4 g9 #[.int .i64 cX, .int .i64 cY, .int .i64 cD, .int .i64 cR] As ns cs Ad nd cd wq)) (fun iv _ => nd - (intOf iv).toNat)
   case atStart => exact ⟨0, Nat.zero_le _, rfl, HU⟩
   case round =>
    rename World => wq
    obtain ⟨i, hi, rfl, HV⟩ := hrel
    by_cases hil : i < nd
    ·have HI := Aside0.mk hil
     have hz : (i : Int) < (nd : Int) := by omega
     obtain ⟨g, cur, ea, _, _, _, _⟩ := HV.out.d.blk (Nat.lt_of_le_of_lt (Nat.zero_le _) hil)
     subst ea
     clear hi hil
     go_wp2_with (first
      | ((with_reducible refine gateS (.store 48 (.tmp 60) (.tmp 59)) rfl ?_); refine OwnSt.store_ (i := i) (seg := [.int .i64 0, .int .i64 0, .int .i64 0, .int .i64 0]) rfl rfl (.tmp 60) (.tmp 59) rfl rfl (by simp) rfl rfl rfl (by simp [Value.oneCell']) HV.out HI.out ?_; intro w8 hw8; have HV8 := Aside0.mk hw8; clear hw8))
     go_roundw
     ·exact ⟨i + 1, HI.out, congrArg (Value.int .i64) (nxtG HI.out HND.out), HV8⟩
     ·rw [nxtG HI.out HND.out]; have := HI.out; simp only [intOf]; omega
    ·obtain rfl : nd = i := by omega
     clear hi hil
     have HVB := Aside0.mk HV.out.b
     have HVX := Aside0.mk HV.out.bx
     clear HU HV HST
     go_wp2_with (first
      | (
        go_at_call 26; (with_reducible refine (HEN.out _ _ _ (Kd.C_below HY.out HVB.out) HCY.out).mono ?_); rintro e w7 ⟨v, rfl, ho, hb⟩; obtain ⟨A7, c7, ev, _, _⟩ := Kd.R_reads ho; subst ev
        have HG7 := Aside0.mk (blk_alloc (blk_below HVX.out hb) (.cells #[.int .i64 cX, .int .i64 cY, .int .i64 cD, .int .i64 cR] 40))
        have HH7 := Aside0.mk (heap_alloc_new w7 (.cells #[.int .i64 cX, .int .i64 cY, .int .i64 cD, .int .i64 cR] 40))
        have HB7 := Aside0.mk (below_alloc (below_then HVB.out HVB.out.size hb) (.cells #[.int .i64 cX, .int .i64 cY, .int .i64 cD, .int .i64 cR] 40))
        clear ho hb)
      | (
        go_at_call 45; (with_reducible refine (HDV.out _ _ _ (Kd.C_below HZ.out HB7.out) HCZ.out).mono ?_); rintro e w8 ⟨b2, v, hp, hs, rfl, ho, hb⟩; obtain ⟨Ap, cp, ev, hcp, hrp⟩ := Kd.R_reads ho; subst ev
        obtain ⟨kq, hkq⟩ := HTL.out b2 hp hs
        generalize divL (linesX z) b2 = pl at *
        have H44 := Aside0.mk (fun (W : World) (h1 : Kd.C k48 W Ab z.length z) (h2 : Kd.C k48 W Ap pl.length pl) => tickingref01_Tiles.calls kq Ab cb z Ap cp pl true W h1 HCB.out h2 hcp hkq)
        have HB8 := Aside0.mk (below_then HB7.out HB7.out.size hb)
        have HRP := Aside0.mk hrp
        have HG8 := Aside0.mk (blk_below HG7.out hb)
        have HH8 := Aside0.mk (blk_below HH7.out hb)
        have z0 := (blk_cell HG8.out 0).trans rfl; have z1 := (blk_cell HG8.out 1).trans rfl; have z2 := (blk_cell HG8.out 2).trans rfl; have z3 := (blk_cell HG8.out 3).trans rfl
        have y0 := (blk_cell HH8.out 0).trans rfl; have y1 := (blk_cell HH8.out 1).trans rfl; have y2 := (blk_cell HH8.out 2).trans rfl; have y3 := (blk_cell HH8.out 3).trans rfl
        clear ho hb hp hs hkq hrp hcp)
      | (go_at_call 44; (with_reducible refine (H44.out _ (Kd.C_below HBB.out HB8.out) HRP.out).mono ?_); rintro e w9 ⟨rfl, hb⟩; have HB9 := Aside0.mk (below_then HB8.out HB8.out.size hb); clear hb z0 z1 z2 z3 y0 y1 y2 y3))
     have HY9 := Aside0.mk (Kd.C_below HY.out HB9.out)
     have HA9 := Aside0.mk (Kd.C_below HA.out HB9.out)
     have HZ9 := Aside0.mk (Kd.C_below HZ.out HB9.out)
     have HQ9 := Aside0.mk (Kd.C_below HBB.out HB9.out)
     have HW9 := Aside0.mk (below_then HB.out HB.out.size HB9.out)
     clear HVB HVX HG7 HH7 HB7 HB8 HG8 HH8 HRP H44 HTL
     go_loopw [21] (fun iv wr => ∃ i : Nat, i ≤ y.length ∧ iv = .int .i64 (i : Int) ∧ Aside0 (Drawn0 w9 wr)) (fun iv _ => y.length - (intOf iv).toNat)
     case atStart => exact ⟨0, Nat.zero_le _, rfl, ⟨Drawn0.refl _⟩⟩
     case round =>
      rename World => wr
      obtain ⟨i, hi, rfl, HD⟩ := hrel
      by_cases hil : i < y.length
      ·have HI := Aside0.mk hil
       have hz : (i : Int) < (y.length : Int) := by omega
       obtain ⟨a, ea, z0, z1⟩ := at_T28 (ownC_drawn HY9.out HD.out) (i : Int) (by omega) hz
       obtain ⟨a', ea', y0, y1⟩ := at_T28 (ownC_drawn HA9.out HD.out) (i : Int) (by omega) hz
       subst ea
       subst ea'
       simp only [Int.toNat_natCast] at z0 z1 y0 y1
       generalize (rd_T28 y (i : Int)).f0 = p0 at *
       generalize (rd_T28 y (i : Int)).f1 = p1 at *
       clear hi hil
       go_wp2
       go_quiet (fail)
       go_wp2
       go_roundw
       ·exact ⟨i + 1, HI.out, congrArg (Value.int .i64) (nxtG HI.out (by have := HYL.out; omega)), ⟨HD.out.step _⟩⟩
       ·rw [nxtG HI.out (by have := HYL.out; omega)]; have := HI.out; simp only [intOf]; omega
      ·obtain rfl : i = y.length := by omega
       clear hi hil
       go_wp2
       go_loopw [22] (fun iv wq => ∃ i : Nat, i ≤ z.length ∧ iv = .int .i64 (i : Int) ∧ Aside0 (Drawn0 w9 wq)) (fun iv _ => z.length - (intOf iv).toNat)
       case atStart => exact ⟨0, Nat.zero_le _, rfl, HD⟩
       case round =>
        rename World => wq
        obtain ⟨i, hi, rfl, HE⟩ := hrel
        by_cases hil : i < z.length
        ·have HI := Aside0.mk hil
         have hz : (i : Int) < (z.length : Int) := by omega
         obtain ⟨a, ea, z0, z1, z2, z3⟩ := at_T48 (ownC_drawn HZ9.out HE.out) (i : Int) (by omega) hz
         obtain ⟨a', ea', y0, y1, y2, y3⟩ := at_T48 (ownC_drawn HQ9.out HE.out) (i : Int) (by omega) hz
         subst ea
         subst ea'
         simp only [Int.toNat_natCast] at z0 z1 z2 z3 y0 y1 y2 y3
         generalize (rd_T48 z (i : Int)).f0 = p0 at *
         generalize (rd_T48 z (i : Int)).f1 = p1 at *
         generalize (rd_T48 z (i : Int)).f2 = p2 at *
         generalize (rd_T48 z (i : Int)).f3 = p3 at *
         clear hi hil
         go_wp2
         go_quiet (fail)
         go_wp2
         go_roundw
         ·exact ⟨i + 1, HI.out, congrArg (Value.int .i64) (nxtG HI.out (by have := HZL.out; omega)), ⟨HE.out.step _⟩⟩
         ·rw [nxtG HI.out (by have := HZL.out; omega)]; have := HI.out; simp only [intOf]; omega
        ·obtain rfl : i = z.length := by omega
         clear hi hil
         have HBB2 := Aside0.mk (show Below w.heap.size w wq from by obtain ⟨nd, rfl⟩ := HE.out; exact pw_below_drewN HW9.out nd)
         go_wp2_with (first
          | (go_at_call 21; (with_reducible refine (HW.out _).mono ?_); rintro e w10 ⟨rfl, hb⟩; have HB10 := Aside0.mk (below_then HBB2.out HBB2.out.size hb); clear hb))
         go_ret
         exact ⟨rfl, HB10.out⟩
end Go.Proofs.Ytplhfbkejngioaa.X
namespace Go.Proofs.Ytplhfbkejngioaa.Pure
open Go.RowKit Go.Proofs.Ytplhfbkejngioaa.X Go.Proofs.Ytplhfbkejngioaa.Open Go.Proofs.YtplhfbkejngioaaW.PrintWords
set_option linter.unusedVariables false
theorem CoverOwn (l0 : List S28) (hm0 : l0.length ≤ 9223372036854775807) (hI0 : ∀ x ∈ l0, I64 x.f0 ∧ I64 x.f1) (l1 : List S48) (hm1 : l1.length ≤ 9223372036854775807) (hI1 : ∀ x ∈ l1, I64 x.f0 ∧ I64 x.f1 ∧ I64 x.f2 ∧ I64 x.f3) : ∃ k, tickinglaw01_CoverOwn.f k l0 l1 = some true := ⟨0, rfl⟩
end Go.Proofs.Ytplhfbkejngioaa.Pure
