/- The plain statement of CoverTiles: the program looks at every corner; the reference asks for a partition: the same. Texts of this claim's session, put together: PureCoverTiles. -/
import Derived.Test.YtplhfbkejngioaaTi6
import Derived.Test.YtplhfbkejngioaaTi7
import Derived.Test.YtplhfbkejngioaaVWords
namespace Go.Proofs.Ytplhfbkejngioaa.Pure
open Go.RowKit Go.Proofs.Ytplhfbkejngioaa.X Go.Proofs.Ytplhfbkejngioaa.Open Go.Proofs.YtplhfbkejngioaaW.PrintWords Go.Proofs.YtplhfbkejngioaaW.PrintLast Go.Proofs.Ytplhfbkejngioaa.S
set_option linter.unusedVariables false
set_option linter.unusedSimpArgs false
theorem rectsT_f (l : List S48) (m : Nat) (hm : l.length ≤ 9223372036854775807) (hm2 : m ≤ 10000) : tickinglaw01_rects.f l (m : Int) = some (l.take m) := by
 unfold tickinglaw01_rects.f mn
 have hl : (l.take m).length ≤ m := by simp; omega
 by_cases h : (m : Int) < (l.length : Int)
 ·rw [if_pos h, if_pos (by omega), if_pos (by omega), Int.toNat_natCast]
  simp only [Option.bind_some, List.length_nil, List.nil_append]
  rw [if_pos (by omega)]
 ·rw [if_neg h, if_pos (by omega), if_pos (by omega), Int.toNat_natCast, List.take_length, List.take_of_length_le (by omega)]
  simp only [Option.bind_some, List.length_nil, List.nil_append]
  rw [if_pos (by omega)]
theorem rectsT_areRs (l : List S48) (hm : l.length ≤ 9223372036854775807) : Ev (fun k => tickingref01_Rects.f k l 32) (areRs l 32) := by rw [← areRs_eq]; exact rects_ev l 32 hm
theorem tilesR_part {l p : List S48} (hl : areRs l 32 = true) : tilesR l p = if areRs p 1024 = true ∧ lookB l p = true then 0 else 10 := by
 unfold tilesR
 rw [if_pos hl]
 cases areRs p 1024 <;> cases lookB l p <;> rfl
theorem tiles_j0 (l0 y : List S48) (m : Nat) (hm0 : l0.length ≤ 9223372036854775807) (hy : y.length ≤ 33) (hm : m ≤ 10000) : Ev (fun k => tickinglaw01_CoverTiles.j0 k l0 y (m : Int)) true := by
 have hp : (l0.take m).length ≤ 9223372036854775807 := by simp; omega
 have hr := rectsT_f l0 m hm0 hm
 generalize l0.take m = p at hp hr
 have hq := rectsT_areRs y (by omega)
 refine Ev.step (f := fun k => (some p).bind fun t768 => ((cover_Tiles.f y t768).bind fun t771 => ((tickingref01_Rects.f k y 32).bind fun t772 => (if t772 = true then ((tickingref01_Tiles.f k y t768).bind fun t774 => (if t774 = true then (if t771 = 0 then ((tickinglaw01_awake.f k).bind fun t775 => (some t775)) else (some false)) else (if t771 = 10 then ((tickinglaw01_awake.f k).bind fun t776 => (some t776)) else (some false)))) else (if t771 = 2 then ((tickinglaw01_awake.f k).bind fun t773 => (some t773)) else (some false)))))) (fun k => ?_) ?_
 ·simp only [tickinglaw01_CoverTiles.j0]
  rw [hr]
 ·unfold cover_Tiles.f
  simp only [Option.bind_some]
  by_cases h : areRs y 32 = true
  ·rw [h] at hq
   refine Ev.bind hq ?_
   simp only [if_true]
   have hpl : ∀ r ∈ y, isR r = true := by simp only [areRs, Bool.and_eq_true, List.all_eq_true] at h; exact h.2
   rw [tilesR_part h]
   by_cases hv : areRs p 1024 = true ∧ lookB y p = true
   ·have hpr : ∀ r ∈ p, isR r = true := by have := hv.1; simp only [areRs, Bool.and_eq_true, List.all_eq_true] at this; exact this.2
    refine Ev.bind (tiles_ev h hp (v := true) ⟨fun _ => ⟨hv.1, (part_iff hpl hpr).2 (lookB_iff.1 hv.2)⟩, fun _ => rfl⟩) ?_
    rw [if_pos hv]
    simp only [if_true]
    exact Ev.bind awake_ev (Ev.now _)
   ·refine Ev.bind (tiles_ev h hp (v := false) ⟨(fun e => absurd e (by decide)), fun e => ?_⟩) ?_
    ·have hpr : ∀ r ∈ p, isR r = true := by have := e.1; simp only [areRs, Bool.and_eq_true, List.all_eq_true] at this; exact this.2
     exact absurd ⟨e.1, lookB_iff.2 ((part_iff hpl hpr).1 e.2)⟩ hv
    ·rw [if_neg hv]
     simp only [Bool.false_eq_true, if_false, if_true]
     exact Ev.bind awake_ev (Ev.now _)
  ·rw [Bool.eq_false_iff.2 h] at hq
   refine Ev.bind hq ?_
   have e : tilesR y p = 2 := by unfold tilesR; rw [if_neg h]
   rw [e]
   simp only [Bool.false_eq_true, if_false, if_true]
   exact Ev.bind awake_ev (Ev.now _)
theorem CoverTiles (l0 : List S48) (hm0 : l0.length ≤ 9223372036854775807) (hI0 : ∀ x ∈ l0, I64 x.f0 ∧ I64 x.f1 ∧ I64 x.f2 ∧ I64 x.f3) (l1 : List S48) (hm1 : l1.length ≤ 9223372036854775807) (hI1 : ∀ x ∈ l1, I64 x.f0 ∧ I64 x.f1 ∧ I64 x.f2 ∧ I64 x.f3) : ∃ k, tickinglaw01_CoverTiles.f k l0 l1 = some true := by
 refine Ev.rounds ?_
 unfold tickinglaw01_CoverTiles.f
 have h33 := rectsT_f l0 33 hm0 (by omega)
 have e33 : ((33 : Nat) : Int) = 33 := rfl
 rw [e33] at h33
 rw [h33]
 have hy : (l0.take 33).length ≤ 33 := by simp; omega
 simp only [Option.bind_some]
 split
 ·exact tiles_j0 l1 _ 1025 hm1 hy (by omega)
 ·exact tiles_j0 l1 _ 100 hm1 hy (by omega)
end Go.Proofs.Ytplhfbkejngioaa.Pure
