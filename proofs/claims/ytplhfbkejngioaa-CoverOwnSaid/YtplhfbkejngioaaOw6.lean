/- The contract of slices.SortFunc at a row of rectangles, by their lower sides; of slices.Clone. Texts of this claim's session, put together: SortR. -/
import Derived.Test.YtplhfbkejngioaaOw1
import Derived.Test.YtplhfbkejngioaaBc3
import Derived.Test.YtplhfbkejngioaaOw3
import Derived.Test.YtplhfbkejngioaaBc4
import Derived.Shelf.SlSortCmp.InsertionK
import Derived.Test.YtplhfbkejngioaaVWords
namespace Go.Proofs.Ytplhfbkejngioaa.X
open Go.RowKit Go.Sort Go.Proofs.YtplhfbkejngioaaW.PrintWords Go.Proofs.YtplhfbkejngioaaW.PrintLast Go.Proofs.Ytplhfbkejngioaa.S
set_option linter.unusedVariables false
set_option linter.unusedSimpArgs false
def cf48 (x y : S48) : Int := Lib.compareInt x.f1 y.f1
theorem closure72 (x y : S48) (W : World) : Calls Try.prog 72 #[.agg (enc48 x).toArray, .agg (enc48 y).toArray] W fun e w' => e = .returned (.int .i64 (cf48 x y)) ∧ ∃ q os', w' = grow (W.drewN q) os' := by
 have hcon := fun W' => Try.cmp_Compare_int x.f1 y.f1 W'
 unfold cf48 enc48
 generalize Lib.compareInt x.f1 y.f1 = r at hcon ⊢
 go_enter Try.func72, Try.ntmps72
 go_wp2_with (go_at_call 73; refine (hcon _).mono ?_; rintro e w' ⟨rfl, rfl⟩)
 go_ret
 exact ⟨rfl, 0, _, by rw [alloc_eq_grow, alloc_eq_grow, grow_grow]; rfl⟩
theorem cmpLays72 (blk off size : Nat) (w : World) : CmpLays Try.prog 72 #[] enc48 4 cf48 blk off size w :=
 fun _ _ _ _ x y => closure72 x y _
theorem lt48 (x y : S48) : ltOf cf48 x y = decide (x.f1 < y.f1) := by
 unfold ltOf cf48 Lib.compareInt
 by_cases h1 : x.f1 < y.f1
 ·simp [h1]
 ·by_cases h2 : y.f1 < x.f1 <;> simp [h1, h2]
theorem swo48 : SWO (ltOf cf48) where
 irrefl x := by rw [lt48]; simp
 trans x y z h1 h2 := by rw [lt48] at *; simp at *; omega
 ntrans x y z h1 h2 := by rw [lt48] at *; simp at *; omega
theorem perm_in {l : List S48} {d' : Array S48} (h : PermIn 0 l.toArray.size l.toArray d') : d'.toList.Perm l := by
 obtain ⟨h1, _, h3⟩ := h
 have e1 : (d'.extract 0 l.toArray.size).toList = d'.toList := by rw [← h1]; simp
 have e2 : (l.toArray.extract 0 l.toArray.size).toList = l := by simp
 rw [e1, e2] at h3
 exact h3
theorem sorted_in {n : Nat} {d' : Array S48} (hn : d'.size = n) (h : SortedIn (ltOf cf48) 0 n d') : d'.toList.Pairwise (fun a b => a.f1 ≤ b.f1) := by
 rw [List.pairwise_iff_getElem]
 intro i j hi hj hij
 have := h i j (Nat.zero_le _) hij (by rw [← hn]; simpa using hj)
 rw [lt48, getElem!_pos d' i (by simpa using hi), getElem!_pos d' j (by simpa using hj)] at this
 simp at this
 simpa using this
set_option maxHeartbeats 1000000 in
set_option maxRecDepth 100000 in
theorem clone_calls (A0 : Option Addr) (c0 : Nat) (l0 : List S48) (w : World) (hr0 : Kd.C k48 w A0 l0.length l0) (hc0 : l0.length ≤ c0) (hlen : l0.length ≤ 10000) :
  Calls Try.prog 70 #[.slice A0 l0.length c0] w fun e w' => ∃ v, e = .returned v ∧ Kd.R k48 48 w' w.heap.size (fun _ => True) v l0 ∧ Below w.heap.size w w' := by
 cases A0 with
 | none =>
  have h0 : l0 = [] := by
   rcases l0 with _ | ⟨a, l⟩
   ·rfl
   ·obtain ⟨ad, e, _⟩ := hr0.2.2 (by simp)
    cases e
  subst h0
  have heq : Sem.run Try.prog (binOp .eql 22 (.slice none 0 c0) (.slice none 0 0)) w = .ok (.bool true) w := Lib.run_eql_slice_nil (P := Try.prog) w 22 48 none 0 c0 0 0 Try.underlying22
  go_enter Try.func70, Try.ntmps70
  go_wp2
  go_ret
  exact ⟨_, rfl, Kd.R_nil _ _ _ _ _, Below.refl _ _⟩
 | some ad =>
  have heq : Sem.run Try.prog (binOp .eql 22 (.slice (some ad) l0.length c0) (.slice none 0 0)) w = .ok (.bool false) w := Lib.run_eql_slice_nil (P := Try.prog) w 22 48 (some ad) l0.length c0 0 0 Try.underlying22
  have HR := Aside0.mk hr0
  have HL := Aside0.mk hlen
  have HO := Aside0.mk (show Kd.R k48 48 (w.alloc (.cells #[] 48)) w.heap.size (fun _ => True) (.slice (some ⟨w.heap.size, 0, none⟩) 0 0) [] from ⟨fun _ _ => trivial, [], World.ownsRow_made (e := 48) (size := 4) w #[] 0 (Nat.le_refl _) (Nat.zero_le _) (by simp), Reps.none _ _⟩)
  have HB := Aside0.mk (below_alloc (Below.refl w.heap.size w) (.cells #[] 48))
  clear hr0 hlen
  go_enter Try.func70, Try.ntmps70
  go_wp2_with (first | ((with_reducible refine gate_builtin (b := .append) (xs := #[.tmp 5, .tmp 6]) rfl ?_); at_builtin; refine Kd.R_append_rows k48 (w0 := w) w.heap.size rfl (.tmp 5) (.tmp 6) 22 48 (.agg #[(.int .i64 0), (.int .i64 0), (.int .i64 0), (.int .i64 0)]) 32 rfl Try.underlying22 info48 rfl (by decide) (by omega) _ ([] : List S48) l0 _ _ _ (fun _ => True) (fun _ => False) rfl rfl HO.out (Kd.C_alloc HR.out _) (fun _ _ h => h) (fun _ h => h.elim) (fun _ _ => trivial) HB.out HB.out.size ?aL ?_; (case aL => have := HL.out; simp only [List.length_nil]; omega); intro v177 w8 ho hb hg hat; have HO2 := Aside0.mk ho; have HB8 := Aside0.mk hb; clear ho hb hg hat))
  go_ret
  exact ⟨_, rfl, HO2.out, HB8.out⟩
end Go.Proofs.Ytplhfbkejngioaa.X
