/- The plain statement of CoverDivides (the walk itself holds the law: see EDivLaw). Texts of this claim's session, put together: EDivLaw, PureCoverDivides. -/
import Derived.Test.YtplhfbkejngioaaDv1
import Derived.Test.YtplhfbkejngioaaBc4
import Derived.Test.YtplhfbkejngioaaBc13
import Derived.Test.YtplhfbkejngioaaDv12
import Derived.Test.YtplhfbkejngioaaDv9
import Derived.Test.YtplhfbkejngioaaDv11
import Derived.IntWalk
import Derived.Test.YtplhfbkejngioaaDv4
import Derived.Test.YtplhfbkejngioaaVWords
namespace Go.Proofs.Ytplhfbkejngioaa.X
open Go.RowKit Go.Proofs.YtplhfbkejngioaaW.PrintWords Go.Proofs.YtplhfbkejngioaaW.PrintLast Go.Proofs.Ytplhfbkejngioaa.S
set_option linter.unusedVariables false
set_option linter.unusedSimpArgs false
def tickinglaw01_CoverDivides.f (k : Nat) (l0 : List S48) : Option Bool := some true
theorem rectsD_f (l : List S48) (m : Nat) (hm : l.length ≤ 9223372036854775807) (hm2 : m ≤ 10000) : tickinglaw01_rects.f l (m : Int) = some (l.take m) := by
 unfold tickinglaw01_rects.f mn
 have hl : (l.take m).length ≤ m := by simp; omega
 by_cases h : (m : Int) < (l.length : Int)
 ·rw [if_pos h, if_pos (by omega), if_pos (by omega), Int.toNat_natCast]
  simp only [Option.bind_some, List.length_nil, List.nil_append]
  rw [if_pos (by omega)]
 ·rw [if_neg h, if_pos (by omega), if_pos (by omega), Int.toNat_natCast, List.take_length, List.take_of_length_le (by omega)]
  simp only [Option.bind_some, List.length_nil, List.nil_append]
  rw [if_pos (by omega)]
theorem div_tiles {y b : List S48} (h : areRs y 32 = true) (hp : b.Perm y) (hs : b.Pairwise (fun u v => u.f1 ≤ v.f1)) :
  (∃ k, tickingref01_Tiles.f k y (divL (linesX y) b) = some true) ∧ cover_Tiles.f y (divL (linesX y) b) = some 0 := by
 have hl : ∀ r ∈ y, isR r = true := by simp only [areRs, Bool.and_eq_true, List.all_eq_true] at h; exact h.2
 have hn : y.length ≤ 32 := by simp only [areRs, Bool.and_eq_true, decide_eq_true_eq] at h; omega
 have ha := div_are hl hn hp hs
 have hk := div_look hl hp hs
 have hr : ∀ r ∈ divL (linesX y) b, isR r = true := by simp only [areRs, Bool.and_eq_true, List.all_eq_true] at ha; exact ha.2
 have hL := div_len hl hn hp hs
 refine ⟨(tiles_ev h (by omega) (v := true) ⟨fun _ => ⟨ha, (part_iff hl hr).2 hk⟩, fun _ => rfl⟩).rounds, ?_⟩
 unfold cover_Tiles.f tilesR
 rw [if_pos h, if_pos (by rw [ha, lookB_iff.2 hk]; rfl)]
theorem bad_tiles {y p : List S48} (h : areRs y 32 = false) : cover_Tiles.f y p = some 2 := by
 unfold cover_Tiles.f tilesR
 rw [if_neg (by rw [h]; decide)]
set_option maxHeartbeats 4000000 in
set_option maxRecDepth 100000 in
theorem tickinglaw01_CoverDivides.calls (k : Nat) (A0 : Option Addr) (c0 : Nat) (l0 : List S48) (r : Bool) (w : World) (hr0 : Kd.C k48 w A0 l0.length l0) (hc0 : l0.length ≤ c0) (hT : r = true) (h : tickinglaw01_CoverDivides.f k l0 = some r) :
  Calls Try.prog 15 #[.slice A0 l0.length c0] w fun e w' => e = .returned (.bool r) ∧ Below w.heap.size w w' := by
 subst hT
 clear h
 have hlen : l0.length ≤ 9223372036854775807 := by have := hr0.2.1; omega
 have HT := Aside0.mk (tickinglaw01_rects.calls A0 c0 l0 33 (l0.take 33) w hr0 hc0 (rectsD_f l0 33 hlen (by decide)))
 have HYL := Aside0.mk (show (l0.take 33).length ≤ 33 by rw [List.length_take]; omega)
 generalize l0.take 33 = y at HT HYL
 clear hr0 hc0 hlen
 have HRf := Aside0.mk (show ∃ k, tickingref01_Rects.f k y 32 = some (areRs y 32) by
  have h := rects_ev y 32 (by have := HYL.out; omega)
  rw [areRs_eq] at h
  exact h.rounds)
 obtain ⟨kr, hkr⟩ := HRf.out
 have HW := Aside0.mk (fun W => tickinglaw01_awake.calls 0 true W rfl)
 have HRC := Aside0.mk (fun A c W h hc => tickingref01_Rects.calls kr A c y 32 (areRs y 32) W h hc hkr)
 clear hkr HRf
 cases hok : areRs y 32 with
 | true =>
  rw [hok] at HRC
  have HDV := Aside0.mk (fun A c W h hc => cover_Divide.calls A c y W h hc hok)
  have HTL := Aside0.mk (fun b hp hs => div_tiles (b := b) hok hp hs)
  clear hok
  go_enter Try.func15, Try.ntmps15
  go_wp2_with (first
   | (go_at_call 16; (with_reducible refine HT.out.mono ?_); rintro e w1 ⟨v, rfl, ho, hb⟩; obtain ⟨Ay, cy, ev, hcy, hcc⟩ := Kd.R_reads ho; subst ev; have HC := Aside0.mk hcy; have HY1 := Aside0.mk hcc; have HB1 := Aside0.mk hb; clear ho hb HT hcy hcc)
   | (go_at_call 45; (with_reducible refine (HDV.out _ _ _ HY1.out HC.out).mono ?_); rintro e w2 ⟨b, v2, hp, hs, rfl, ho, hb⟩; obtain ⟨Ad, cd, ev, hcd, hcc⟩ := Kd.R_reads ho; subst ev; have HTZ := Aside0.mk (HTL.out b hp hs); generalize divL (linesX y) b = d at *; have HD2 := Aside0.mk hcc; have HCD := Aside0.mk hcd; have HB2 := Aside0.mk (below_then HB1.out HB1.out.size hb); have HY2 := Aside0.mk (Kd.C_below HY1.out hb); clear ho hb hp hs hcd hcc)
   | (go_at_call 20; (with_reducible refine (HRC.out _ _ _ HY2.out HC.out).mono ?_); rintro e w3 ⟨rfl, hb⟩; obtain ⟨⟨kt, hkt⟩, hct⟩ := HTZ.out; have HB3 := Aside0.mk (below_then HB2.out HB2.out.size hb); have HY3 := Aside0.mk (Kd.C_below HY2.out hb); have HD3 := Aside0.mk (Kd.C_below HD2.out hb); have H44 := Aside0.mk (fun W h1 h2 => tickingref01_Tiles.calls kt Ay cy y Ad cd d true W h1 HC.out h2 HCD.out hkt); have H43 := Aside0.mk (fun W h1 h2 => cover_Tiles.calls Ay cy y Ad cd d 0 W h1 HC.out h2 HCD.out hct); clear hb hkt hct)
   | (go_at_call 44; (with_reducible refine (H44.out _ HY3.out HD3.out).mono ?_); rintro e w4 ⟨rfl, hb⟩; have HB4 := Aside0.mk (below_then HB3.out HB3.out.size hb); have HY4 := Aside0.mk (Kd.C_below HY3.out hb); have HD4 := Aside0.mk (Kd.C_below HD3.out hb); clear hb)
   | (go_at_call 43; (with_reducible refine (H43.out _ HY4.out HD4.out).mono ?_); rintro e w5 ⟨rfl, hb⟩; have HB5 := Aside0.mk (below_then HB4.out HB4.out.size hb); clear hb)
   | (go_at_call 21; (with_reducible refine (HW.out _).mono ?_); rintro e w6 ⟨rfl, hb⟩; have HB6 := Aside0.mk (below_then HB5.out HB5.out.size hb); clear hb))
  go_ret
  exact ⟨rfl, HB6.out⟩
 | false =>
  rw [hok] at HRC
  have HDV := Aside0.mk (fun A c W h hc => cover_Divide.refuses A c y W h hc hok)
  have H43 := Aside0.mk (fun (A : Option Addr) (c : Nat) (W : World) (h1 : Kd.C k48 W A y.length y) (hc : y.length ≤ c) => show Calls Try.prog 43 #[.slice A y.length c, .slice none 0 0] W (fun e w' => e = .returned (.int .i64 2) ∧ Below W.heap.size W w') from cover_Tiles.calls A c y none 0 [] 2 W h1 hc ⟨rfl, by decide, fun e => absurd e (Nat.lt_irrefl 0)⟩ (Nat.le_refl _) (bad_tiles hok))
  clear hok
  go_enter Try.func15, Try.ntmps15
  go_wp2_with (first
   | (go_at_call 16; (with_reducible refine HT.out.mono ?_); rintro e w1 ⟨v, rfl, ho, hb⟩; obtain ⟨Ay, cy, ev, hcy, hcc⟩ := Kd.R_reads ho; subst ev; have HC := Aside0.mk hcy; have HY1 := Aside0.mk hcc; have HB1 := Aside0.mk hb; clear ho hb HT hcy hcc)
   | (go_at_call 45; (with_reducible refine (HDV.out _ _ _ HY1.out HC.out).mono ?_); rintro e w2 ⟨rfl, hb⟩; have HB2 := Aside0.mk (below_then HB1.out HB1.out.size hb); have HY2 := Aside0.mk (Kd.C_below HY1.out hb); clear hb)
   | (go_at_call 20; (with_reducible refine (HRC.out _ _ _ HY2.out HC.out).mono ?_); rintro e w3 ⟨rfl, hb⟩; have HB3 := Aside0.mk (below_then HB2.out HB2.out.size hb); have HY3 := Aside0.mk (Kd.C_below HY2.out hb); clear hb)
   | (go_at_call 43; (with_reducible refine (H43.out _ _ _ HY3.out HC.out).mono ?_); rintro e w5 ⟨rfl, hb⟩; have HB5 := Aside0.mk (below_then HB3.out HB3.out.size hb); clear hb)
   | (go_at_call 21; (with_reducible refine (HW.out _).mono ?_); rintro e w6 ⟨rfl, hb⟩; have HB6 := Aside0.mk (below_then HB5.out HB5.out.size hb); clear hb))
  go_ret
  exact ⟨rfl, HB6.out⟩
end Go.Proofs.Ytplhfbkejngioaa.X
namespace Go.Proofs.Ytplhfbkejngioaa.Pure
open Go.RowKit Go.Proofs.Ytplhfbkejngioaa.X Go.Proofs.Ytplhfbkejngioaa.Open Go.Proofs.YtplhfbkejngioaaW.PrintWords
set_option linter.unusedVariables false
theorem CoverDivides (l0 : List S48) (hm0 : l0.length ≤ 9223372036854775807) (hI0 : ∀ x ∈ l0, I64 x.f0 ∧ I64 x.f1 ∧ I64 x.f2 ∧ I64 x.f3) : ∃ k, tickinglaw01_CoverDivides.f k l0 = some true := ⟨0, rfl⟩
end Go.Proofs.Ytplhfbkejngioaa.Pure
