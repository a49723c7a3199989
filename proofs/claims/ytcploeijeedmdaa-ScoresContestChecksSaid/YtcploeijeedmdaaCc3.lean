/- What the reference's Contest, same, sorted, Short and ContestAnswer compute. Texts of this claim's session, put together: PCon. -/
import Derived.Test.YtcploeijeedmdaaCc0
import Derived.Test.YtcploeijeedmdaaCc2
import Derived.Test.YtcploeijeedmdaaCc1
import Derived.Test.YtcploeijeedmdaaVWords
import Derived.Test.YtcploeijeedmdaaVLast
import Derived.Test.YtcploeijeedmdaaVRepsOne
namespace Go.Proofs.Ytcploeijeedmdaa.X
open Go.RowKit Go.Shelf Go.Proofs.YtcploeijeedmdaaW.PrintWords Go.Proofs.YtcploeijeedmdaaW.PrintLast Go.Proofs.Ytcploeijeedmdaa.S
open Go.Proofs.Ytcploeijeedmdaa.Q (sortL sortL_len sortL_perm lackL lack_calls)
set_option linter.unusedVariables false
set_option linter.unusedSimpArgs false
def insI (l : List Int) (e : Int) : List Int := l.takeWhile (fun x => decide (x ≤ e)) ++ e :: l.dropWhile (fun x => decide (x ≤ e))
theorem insI_perm (l : List Int) (e : Int) : (insI l e).Perm (e :: l) := by
 unfold insI
 refine List.perm_middle.trans ?_
 rw [List.takeWhile_append_dropWhile]
theorem insI_sorted {l : List Int} (h : l.Pairwise (· ≤ ·)) (e : Int) : (insI l e).Pairwise (· ≤ ·) := by
 induction l with
 | nil => simp [insI]
 | cons a l ih =>
  rw [List.pairwise_cons] at h
  unfold insI
  rw [List.takeWhile_cons, List.dropWhile_cons]
  by_cases hc : a ≤ e
  ·rw [if_pos (by simpa using hc), if_pos (by simpa using hc)]
   show (a :: insI l e).Pairwise (· ≤ ·)
   rw [List.pairwise_cons]
   refine ⟨fun b hb => ?_, ih h.2⟩
   rcases List.mem_cons.1 ((insI_perm l e).mem_iff.1 hb) with rfl | hb
   ·exact hc
   ·exact h.1 b hb
  ·rw [if_neg (by simpa using hc), if_neg (by simpa using hc)]
   show (e :: a :: l).Pairwise (· ≤ ·)
   rw [List.pairwise_cons, List.pairwise_cons]
   refine ⟨fun b hb => ?_, h⟩
   rcases List.mem_cons.1 hb with rfl | hb
   ·omega
   ·have := h.1 b hb; omega
theorem foldI : ∀ (E l : List Int), l.Pairwise (· ≤ ·) → (E.foldl insI l).Pairwise (· ≤ ·) ∧ (E.foldl insI l).Perm (l ++ E) := by
 intro E
 induction E with
 | nil => intro l h; simpa using h
 | cons e E ih =>
  intro l h
  obtain ⟨h1, h2⟩ := ih (insI l e) (insI_sorted h e)
  refine ⟨h1, h2.trans ?_⟩
  refine ((insI_perm l e).append_right E).trans ?_
  exact List.perm_middle.symm
theorem foldI_eq (l : List Int) : l.foldl insI [] = sortL l := by
 obtain ⟨h1, h2⟩ := foldI l [] List.Pairwise.nil
 have h3 : (sortL l).Pairwise (· ≤ ·) := by
  have := List.pairwise_mergeSort (le := fun x y : Int => decide (x ≤ y)) (fun a b c h1 h2 => by simp at *; omega) (fun a b => by simp; omega) l
  exact this.imp (fun h => by simpa using h)
 exact List.Perm.eq_of_pairwise (le := fun a b : Int => a ≤ b) (fun a b _ _ h1 h2 => by omega) h1 h3 ((h2.trans (by simp)).trans (sortL_perm l).symm)
theorem insI_len (l : List Int) (e : Int) : (insI l e).length = l.length + 1 := (insI_perm l e).length_eq
theorem takeW_len (p : Int → Bool) : ∀ (l : List Int) (j : Nat), (∀ i, (h : i < j) → (hl : i < l.length) → p l[i] = true) → (j < l.length → p (l.getD j 0) = false) → j ≤ l.length → l.takeWhile p = l.take j ∧ l.dropWhile p = l.drop j := by
 intro l
 induction l with
 | nil => intro j _ _ hj; simp at hj; subst hj; simp
 | cons a l ih =>
  intro j h1 h2 hj
  cases j with
  | zero =>
   have := h2 (by simp)
   simp at this
   simp [List.takeWhile_cons, List.dropWhile_cons, this]
  | succ j =>
   have ha := h1 0 (by omega) (by simp)
   simp at ha
   obtain ⟨e1, e2⟩ := ih j (fun i hi hl => by have := h1 (i + 1) (by omega) (by simpa using hl); simpa using this) (fun hl => by have := h2 (by simpa using hl); simpa using this) (by simpa using hj)
   simp [List.takeWhile_cons, List.dropWhile_cons, ha, e1, e2]
theorem sorted_l1 {x0 : List Int} (i : Nat) (hi : i < x0.length) (x3 : List Int) (h3 : x3.length ≤ 1000) (r : List Int) (hr : ∃ k, tickingref09_sorted.l0 k x0 (insI x3 (rd x0 (i : Int))) ((i + 1 : Nat) : Int) = some r) (hi2 : i < 1000) :
  ∀ (m j : Nat), j + m = x3.length → (∀ q, (h : q < j) → (hl : q < x3.length) → x3[q] ≤ rd x0 (i : Int)) → ∃ k, tickingref09_sorted.l1 k x0 x3 (i : Int) (j : Int) = some r := by
 have fin : ∀ j : Nat, j ≤ x3.length → (∀ q, (h : q < j) → (hl : q < x3.length) → x3[q] ≤ rd x0 (i : Int)) → (j < x3.length → ¬ rd x3 (j : Int) ≤ rd x0 (i : Int)) → x3.take j ++ [rd x0 (i : Int)] ++ x3.drop j = insI x3 (rd x0 (i : Int)) := by
  intro j hj h1 h2
  obtain ⟨e1, e2⟩ := takeW_len (fun x => decide (x ≤ rd x0 (i : Int))) x3 j (fun q h hl => by simpa using h1 q h hl) (fun hl => decide_eq_false (h2 hl)) hj
  unfold insI
  rw [e1, e2, List.append_assoc]
  rfl
 intro m
 induction m with
 | zero =>
  intro j hjm h1
  obtain rfl : j = x3.length := by omega
  obtain ⟨k, hk⟩ := hr
  refine ⟨k + 1, ?_⟩
  have hf := fin x3.length (Nat.le_refl _) h1 (fun h => absurd h (Nat.lt_irrefl _))
  rw [tickingref09_sorted.l1, if_neg (by omega), if_pos (by omega), if_pos (by omega)]
  simp only [Option.bind_some, List.length_nil, Int.toNat_natCast, List.nil_append]
  rw [if_pos (by rw [List.length_take]; omega), if_pos (by omega), if_pos (by omega), if_pos (by rw [List.length_take]; omega), if_pos (by rw [List.length_append, List.length_take, List.length_drop]; simp; omega), nxtN (by omega), hf, hk]
 | succ m ih =>
  intro j hjm h1
  by_cases hc : rd x3 (j : Int) ≤ rd x0 (i : Int)
  ·obtain ⟨k, hk⟩ := ih (j + 1) (by omega) (fun q h hl => by
    by_cases e : q = j
    ·subst e
     unfold rd at hc
     rw [Int.toNat_natCast, List.getD_eq_getElem?_getD, List.getElem?_eq_getElem hl] at hc
     exact hc
    ·exact h1 q (by omega) hl)
   refine ⟨k + 1, ?_⟩
   rw [tickingref09_sorted.l1, if_pos (by omega), if_pos (by omega), if_pos (by omega), if_pos (by omega), if_pos hc, nxtN (by omega), hk]
  ·obtain ⟨k, hk⟩ := hr
   refine ⟨k + 1, ?_⟩
   have hf := fin j (by omega) h1 (fun _ => hc)
   rw [tickingref09_sorted.l1, if_pos (by omega), if_pos (by omega), if_pos (by omega), if_pos (by omega), if_neg hc, if_pos (by omega)]
   simp only [Option.bind_some, List.length_nil, Int.toNat_natCast, List.nil_append]
   rw [if_pos (by rw [List.length_take]; omega), if_pos (by rw [List.length_take]; omega), if_pos (by rw [List.length_append, List.length_take, List.length_drop]; simp; omega), nxtN (by omega), hf, hk]
theorem sorted_l0 {x0 : List Int} (h0 : x0.length ≤ 900) : ∀ (ds : List Int) (i : Nat) (x3 : List Int), x0.drop i = ds → x3.length = i → ∃ k, tickingref09_sorted.l0 k x0 x3 (i : Int) = some (ds.foldl insI x3)
 | [], i, x3, hd, h3 => by
  have hi : x0.length ≤ i := by have := congrArg List.length hd; simp at this; omega
  exact ⟨1, by rw [tickingref09_sorted.l0, if_neg (by omega)]; rfl⟩
 | d :: ds, i, x3, hd, h3 => by
  have hi : i < x0.length := by have := congrArg List.length hd; simp at this; omega
  have hdi : rd x0 (i : Int) = d := by
   have := congrArg (fun l => l[0]?) hd
   unfold rd
   rw [Int.toNat_natCast, List.getD_eq_getElem?_getD]
   simp at this
   rw [this]
   rfl
  have hd' : x0.drop (i + 1) = ds := by
   have := congrArg (List.drop 1) hd
   rw [List.drop_drop] at this
   simpa [Nat.add_comm] using this
  have hrec := sorted_l0 h0 ds (i + 1) (insI x3 d) hd' (by rw [insI_len]; omega)
  rw [← hdi] at hrec
  obtain ⟨k, hk⟩ := sorted_l1 i hi x3 (by omega) _ hrec (by omega) x3.length 0 (by omega) (fun q h => absurd h (Nat.not_lt_zero _))
  refine ⟨k + 1, ?_⟩
  rw [tickingref09_sorted.l0, if_pos (by omega)]
  rw [List.foldl_cons, ← hdi]
  exact hk
theorem sorted_f {l : List Int} (h : l.length ≤ 900) : ∃ k, tickingref09_sorted.f k l = some (sortL l) := by
 obtain ⟨k, hk⟩ := sorted_l0 h l 0 [] rfl rfl
 rw [foldI_eq] at hk
 exact ⟨k, hk⟩
theorem short_f {l : List Int} (hl : l.length ≤ 30) (h : ∀ d ∈ l, 0 ≤ d ∧ d ≤ 30) {a : Nat} (ha : a ≤ l.length) : ∃ k, tickingref09_Short.f k l (a : Int) = some (decide (0 < lackL l a)) := by
 obtain ⟨k1, h1⟩ := sorted_f (l := l) (by omega)
 obtain ⟨k2, h2⟩ := total_f (l := (sortL l).take a) (by rw [List.length_take]; omega) (fun d hd => h d ((sortL_perm l).mem_iff.1 (List.mem_of_mem_take hd)))
 refine ⟨max k1 k2, ?_⟩
 have h1' := leo_up (fun k => tickingref09_sorted.f k l) (fun k => tickingref09_sorted.mono l k) (Nat.le_max_left k1 k2) _ h1
 have h2' := leo_up (fun k => tickingref09_total.f k ((sortL l).take a)) (fun k => tickingref09_total.mono _ k) (Nat.le_max_right k1 k2) _ h2
 have kk := kk_bd a (by omega)
 have e1 : wrap64 ((a : Int) - 1) = (a : Int) - 1 := w64 (by omega) (by omega)
 have e2 : wrap64 ((a : Int) * ((a : Int) - 1)) = (a : Int) * ((a : Int) - 1) := w64 (by omega) (by omega)
 have e3 : wrap64 (((a : Int) * ((a : Int) - 1)).tdiv 2) = ((a : Int) * ((a : Int) - 1)).tdiv 2 := by
  rw [Int.tdiv_eq_ediv_of_nonneg kk.1]
  exact w64 (by omega) (by omega)
 unfold tickingref09_Short.f
 try simp only at h1' h2'
 rw [h1', Option.bind_some, if_pos (by omega), if_pos (by rw [sortL_len]; omega), Int.toNat_natCast, h2', Option.bind_some, e1, e2, e3]
 congr 1
 unfold lackL
 by_cases hc : ((sortL l).take a).sum < ((a : Int) * ((a : Int) - 1)).tdiv 2
 ·rw [decide_eq_true hc, decide_eq_true (by omega)]
 ·rw [decide_eq_false hc, decide_eq_false (by omega)]
theorem same_run {a b : List Int} (hab : a.length = b.length) (ha : a.length ≤ 900) : ∀ (m i : Nat), i + m = a.length → ∃ k, tickingref09_same.l0 k a b (i : Int) = some (decide (a.drop i = b.drop i)) := by
 intro m
 induction m with
 | zero =>
  intro i him
  refine ⟨1, ?_⟩
  rw [tickingref09_same.l0, if_neg (by omega), List.drop_of_length_le (by omega), List.drop_of_length_le (by omega)]
  rfl
 | succ m ih =>
  intro i him
  have h1 : a.drop i = rd a (i : Int) :: a.drop (i + 1) := by
   rw [List.drop_eq_getElem_cons (by omega : i < a.length)]
   unfold rd
   rw [Int.toNat_natCast, List.getD_eq_getElem?_getD, List.getElem?_eq_getElem (by omega)]
   rfl
  have h2 : b.drop i = rd b (i : Int) :: b.drop (i + 1) := by
   rw [List.drop_eq_getElem_cons (by omega : i < b.length)]
   unfold rd
   rw [Int.toNat_natCast, List.getD_eq_getElem?_getD, List.getElem?_eq_getElem (by omega)]
   rfl
  by_cases hc : rd a (i : Int) = rd b (i : Int)
  ·obtain ⟨k, hk⟩ := ih (i + 1) (by omega)
   refine ⟨k + 1, ?_⟩
   rw [tickingref09_same.l0, if_pos (by omega), if_pos (by omega), if_pos (by omega), if_pos hc, nxtN (by omega), hk]
   congr 1
   rw [h1, h2, hc]
   simp
  ·refine ⟨1, ?_⟩
   rw [tickingref09_same.l0, if_pos (by omega), if_pos (by omega), if_pos (by omega), if_neg hc, h1, h2]
   rw [decide_eq_false (by intro h; exact hc (List.cons.inj h).1)]
theorem same_f {a b : List Int} (ha : a.length ≤ 900) : ∃ k, tickingref09_same.f k a b = some (decide (a = b)) := by
 by_cases hab : a.length = b.length
 ·obtain ⟨k, hk⟩ := same_run hab ha a.length 0 (by omega)
  refine ⟨k, ?_⟩
  unfold tickingref09_same.f
  rw [if_pos (by omega)]
  simpa using hk
 ·refine ⟨0, ?_⟩
  unfold tickingref09_same.f
  rw [if_neg (by omega), decide_eq_false (by intro h; exact hab (by rw [h]))]
def cB (t : List (List Int)) (i j : Nat) : Bool := decide (0 ≤ g2 t i j) && decide (g2 t i j ≤ 1) && (if i = j then decide (g2 t i j = 0) else decide (wrap64 (g2 t i j + g2 t j i) = 1))
theorem rd_g2 (t : List (List Int)) (i j : Nat) : rd (rd_L2 t (i : Int)) (j : Int) = g2 t i j := rfl
theorem c2_run {t : List (List Int)} {n : Nat} (hl : t.length = n) (hrow : ∀ i, i < n → (rd_L2 t (i : Int)).length = n) (hn : n ≤ 900) (i : Nat) (hi : i < n) (r : Bool) (hr : ∃ k, tickingref09_Contest.l1 k t (n : Int) ((i + 1 : Nat) : Int) = some r) :
  ∀ (m j : Nat), j + m = n → ∃ k, tickingref09_Contest.l2 k t (n : Int) (i : Int) (j : Int) = some ((List.range' j m).all (cB t i) && r) := by
 intro m
 induction m with
 | zero =>
  intro j hj
  obtain ⟨k, hk⟩ := hr
  refine ⟨k + 1, ?_⟩
  rw [tickingref09_Contest.l2, if_neg (by omega), nxtN (by omega), hk]
  simp
 | succ m ih =>
  intro j hj
  obtain ⟨k, hk⟩ := ih (j + 1) (by omega)
  refine ⟨k + 1, ?_⟩
  have hri := hrow i hi
  have hrj := hrow j (by omega)
  rw [tickingref09_Contest.l2, if_pos (by omega), if_pos (by omega), if_pos (by omega), if_pos (by omega), if_pos (by omega), rd_g2, rd_g2, List.range'_succ, List.all_cons]
  rw [show cB t i j = (decide (0 ≤ g2 t i j) && decide (g2 t i j ≤ 1) && (if i = j then decide (g2 t i j = 0) else decide (wrap64 (g2 t i j + g2 t j i) = 1))) from rfl]
  by_cases h1 : g2 t i j < 0
  ·rw [if_pos h1, decide_eq_false (by omega : ¬ 0 ≤ g2 t i j)]
   simp
  ·rw [if_neg h1, decide_eq_true (by omega : 0 ≤ g2 t i j)]
   by_cases h2 : g2 t i j > 1
   ·rw [if_pos h2, decide_eq_false (by omega : ¬ g2 t i j ≤ 1)]
    simp
   ·rw [if_neg h2, decide_eq_true (by omega : g2 t i j ≤ 1)]
    by_cases h3 : i = j
    ·rw [if_pos (by omega), if_pos h3]
     by_cases h4 : g2 t i j = 0
     ·rw [if_pos h4, decide_eq_true h4, nxtN (by omega), hk]; simp
     ·rw [if_neg h4, decide_eq_false h4]; simp
    ·rw [if_neg (by omega), if_neg h3, if_pos (by omega), if_pos (by omega)]
     by_cases h4 : wrap64 (g2 t i j + g2 t j i) = 1
     ·rw [if_pos h4, decide_eq_true h4, nxtN (by omega), hk]; simp
     ·rw [if_neg h4, decide_eq_false h4]; simp
theorem c1_run {t : List (List Int)} {n : Nat} (hl : t.length = n) (hrow : ∀ i, i < n → (rd_L2 t (i : Int)).length = n) (hn : n ≤ 900) :
  ∀ (m i : Nat), i + m = n → ∃ k, tickingref09_Contest.l1 k t (n : Int) (i : Int) = some ((List.range' i m).all fun i => (List.range' 0 n).all (cB t i)) := by
 intro m
 induction m with
 | zero =>
  intro i hi
  exact ⟨1, by rw [tickingref09_Contest.l1, if_neg (by omega)]; simp⟩
 | succ m ih =>
  intro i hi
  obtain ⟨k, hk⟩ := c2_run hl hrow hn i (by omega) _ (ih (i + 1) (by omega)) n 0 (by omega)
  refine ⟨k + 1, ?_⟩
  rw [tickingref09_Contest.l1, if_pos (by omega), List.range'_succ, List.all_cons]
  exact hk
theorem c0_run {t : List (List Int)} {n : Nat} (hl : t.length = n) (hn : n ≤ 900) :
  ∀ (m i : Nat), i + m = n → (∀ q, q < i → (rd_L2 t (q : Int)).length = n) → ∃ k r, tickingref09_Contest.l0 k t (n : Int) (i : Int) = some r ∧ (r = true ↔ (∀ q, q < n → (rd_L2 t (q : Int)).length = n) ∧ ∀ i j, i < n → j < n → cB t i j = true) := by
 intro m
 induction m with
 | zero =>
  intro i hi hq
  have hq' : ∀ q, q < n → (rd_L2 t (q : Int)).length = n := fun q h => hq q (by omega)
  obtain ⟨k, hk⟩ := c1_run hl hq' hn n 0 (by omega)
  refine ⟨k + 1, _, by rw [tickingref09_Contest.l0, if_neg (by omega)]; exact hk, ?_⟩
  rw [List.all_eq_true]
  simp only [List.all_eq_true, List.mem_range', Nat.zero_add, Nat.one_mul]
  constructor
  ·intro h
   exact ⟨hq', fun i j hi hj => h i ⟨i, hi, rfl⟩ j ⟨j, hj, rfl⟩⟩
  ·rintro ⟨_, h⟩ i ⟨_, hi, rfl⟩ j ⟨_, hj, rfl⟩
   exact h _ _ hi hj
 | succ m ih =>
  intro i hi hq
  by_cases hc : (rd_L2 t (i : Int)).length = n
  ·obtain ⟨k, r, hk, hr⟩ := ih (i + 1) (by omega) (fun q h => by
    by_cases e : q = i
    ·subst e; exact hc
    ·exact hq q (by omega))
   refine ⟨k + 1, r, ?_, hr⟩
   rw [tickingref09_Contest.l0, if_pos (by omega), if_pos (by omega), if_pos (by omega), if_pos (by omega), nxtN (by omega), hk]
  ·refine ⟨1, false, ?_, ?_⟩
   ·rw [tickingref09_Contest.l0, if_pos (by omega), if_pos (by omega), if_pos (by omega), if_neg (by omega)]
   ·constructor
    ·intro h; cases h
    ·intro h; exact absurd (h.1 i (by omega)) hc
theorem cB_isC {t : List (List Int)} (h30 : t.length ≤ 30) (h1 : ∀ q, q < t.length → (rd_L2 t (q : Int)).length = t.length) (h2 : ∀ i j, i < t.length → j < t.length → cB t i j = true) : IsC t := by
 have e : ∀ (i : Nat) (y : List Int), t[i]? = some y → rd_L2 t (i : Int) = y := fun i y hy => by
  unfold rd_L2
  rw [Int.toNat_natCast, List.getD_eq_getElem?_getD, hy]
  rfl
 have hb : ∀ i j, i < t.length → j < t.length → 0 ≤ g2 t i j ∧ g2 t i j ≤ 1 := fun i j hi hj => by
  have := h2 i j hi hj
  unfold cB at this
  simp only [Bool.and_eq_true, decide_eq_true_eq] at this
  exact this.1
 refine ⟨h30, fun i y hy => ?_, fun i j hi hj => ?_⟩
 ·have hi := (List.getElem?_eq_some_iff.1 hy).1
  have hyl := h1 i hi
  rw [e i y hy] at hyl
  refine ⟨hyl, fun x hx => ?_⟩
  obtain ⟨j, hj, rfl⟩ := List.getElem_of_mem hx
  have := hb i j hi (by omega)
  rw [g2_at hy (List.getElem?_eq_getElem hj)] at this
  exact inR_iff.2 this
 ·have := h2 i j hi hj
  unfold cB at this
  simp only [Bool.and_eq_true] at this
  have b1 := hb i j hi hj
  have b2 := hb j i hj hi
  refine ⟨fun ee => ?_, fun ee => ?_⟩
  ·have h3 := this.2
   rw [if_pos ee] at h3
   simpa using h3
  ·have h3 := this.2
   rw [if_neg ee, decide_eq_true_eq, w64 (by omega) (by omega)] at h3
   exact h3
theorem isC_cB {t : List (List Int)} (h : IsC t) : (∀ q, q < t.length → (rd_L2 t (q : Int)).length = t.length) ∧ ∀ i j, i < t.length → j < t.length → cB t i j = true := by
 refine ⟨fun q hq => ?_, fun i j hi hj => ?_⟩
 ·have hy : t[q]? = some t[q] := List.getElem?_eq_getElem hq
  unfold rd_L2
  rw [Int.toNat_natCast, List.getD_eq_getElem?_getD, hy]
  exact (h.rows q _ hy).1
 ·have b1 := rowC_bd h.rows hi hj
  have b2 := rowC_bd h.rows hj hi
  have h1 := h.one i j hi hj
  unfold cB
  rw [decide_eq_true b1.1, decide_eq_true b1.2]
  by_cases e : i = j
  ·rw [if_pos e, decide_eq_true (h1.1 e)]; rfl
  ·rw [if_neg e, w64 (by omega) (by omega), decide_eq_true (h1.2 e)]; rfl
theorem contestRef_f {t : List (List Int)} (ht : t.length ≤ 900) : ∃ k r, tickingref09_Contest.f k t = some r ∧ (r = true ↔ IsC t) := by
 by_cases h30 : t.length ≤ 30
 ·obtain ⟨k, r, hk, hr⟩ := c0_run (t := t) rfl ht t.length 0 (by omega) (fun q h => absurd h (Nat.not_lt_zero _))
  refine ⟨k, r, ?_, hr.trans ⟨fun h => cB_isC h30 h.1 h.2, fun h => isC_cB h⟩⟩
  unfold tickingref09_Contest.f
  rw [if_neg (by omega)]
  exact hk
 ·refine ⟨0, false, ?_, ?_⟩
  ·unfold tickingref09_Contest.f
   rw [if_pos (by omega)]
  ·constructor
   ·intro h; cases h
   ·intro h; exact absurd h.len h30
theorem answer_f {s : List Int} {t : List (List Int)} (hs : numsB s = true) (ht : t.length ≤ 900) (a : Int) : ∃ k r, tickingref09_ContestAnswer.f k s t a = some r ∧ (r = true ↔ okC s t a) := by
 obtain ⟨hl, hall⟩ := numsB_iff.1 hs
 by_cases ha0 : a = 0
 ·obtain ⟨k1, r1, h1, hr1⟩ := contestRef_f ht
  cases hr : r1 with
  | false =>
   rw [hr] at h1 hr1
   refine ⟨k1, false, ?_, ?_⟩
   ·unfold tickingref09_ContestAnswer.f
    rw [if_pos ha0, h1]
    rfl
   ·constructor
    ·intro h; cases h
    ·rintro (h | h | h)
     ·exact hr1.2 h.2.1
     ·omega
     ·omega
  | true =>
   rw [hr] at h1 hr1
   have hC := hr1.1 rfl
   obtain ⟨k2, h2⟩ := scores_f hC
   obtain ⟨k3, h3⟩ := same_f (a := t.map List.sum) (b := s) (by rw [List.length_map]; exact ht)
   refine ⟨max k1 (max k2 k3), decide (t.map List.sum = s), ?_, ?_⟩
   ·have h1' := leo_up (fun k => tickingref09_Contest.f k t) (fun k => tickingref09_Contest.mono t k) (Nat.le_max_left k1 (max k2 k3)) _ h1
    have h2' := leo_up (fun k => tickingref09_Scores.f k t) (fun k => tickingref09_Scores.mono t k) (Nat.le_trans (Nat.le_max_left k2 k3) (Nat.le_max_right k1 (max k2 k3))) _ h2
    have h3' := leo_up (fun k => tickingref09_same.f k (t.map List.sum) s) (fun k => tickingref09_same.mono _ s k) (Nat.le_trans (Nat.le_max_right k2 k3) (Nat.le_max_right k1 (max k2 k3))) _ h3
    try simp only at h1' h2' h3'
    unfold tickingref09_ContestAnswer.f
    rw [if_pos ha0, h1', Option.bind_some, if_pos rfl, h2', Option.bind_some, h3', Option.bind_some]
   ·rw [decide_eq_true_eq]
    constructor
    ·intro h; exact .inl ⟨ha0, hC, h⟩
    ·rintro (h | h | h)
     ·exact h.2.2
     ·omega
     ·omega
 ·by_cases ht0 : t.length = 0
  ·by_cases ha1 : a = -1
   ·subst ha1
    obtain ⟨k, hk⟩ := total_f (l := s) (by omega) hall
    have kk := kk_bd s.length (by omega)
    have e1 : wrap64 ((s.length : Int) - 1) = (s.length : Int) - 1 := w64 (by omega) (by omega)
    have e2 : wrap64 ((s.length : Int) * ((s.length : Int) - 1)) = (s.length : Int) * ((s.length : Int) - 1) := w64 (by omega) (by omega)
    have e3 : wrap64 (((s.length : Int) * ((s.length : Int) - 1)).tdiv 2) = ((s.length : Int) * ((s.length : Int) - 1)).tdiv 2 := by
     rw [Int.tdiv_eq_ediv_of_nonneg kk.1]
     exact w64 (by omega) (by omega)
    refine ⟨k, s.sum != ((s.length : Int) * ((s.length : Int) - 1)).tdiv 2, ?_, ?_⟩
    ·unfold tickingref09_ContestAnswer.f
     rw [if_neg ha0, if_neg (by omega), if_pos rfl, hk, Option.bind_some, e1, e2, e3]
    ·rw [bne_iff_ne]
     constructor
     ·intro h; exact .inr (.inl ⟨rfl, ht0, h⟩)
     ·rintro (h | h | h)
      ·omega
      ·exact h.2.2
      ·omega
   ·by_cases hr : 1 ≤ a ∧ a ≤ s.length
    ·obtain ⟨b, rfl⟩ := Int.eq_ofNat_of_zero_le (show 0 ≤ a by omega)
     obtain ⟨k, hk⟩ := short_f hl hall (a := b) (by omega)
     refine ⟨k, decide (0 < lackL s b), ?_, ?_⟩
     ·unfold tickingref09_ContestAnswer.f
      rw [if_neg ha0, if_neg (by omega), if_neg ha1, if_pos (by omega), if_pos (by omega), hk, Option.bind_some]
     ·rw [decide_eq_true_eq]
      constructor
      ·intro h; exact .inr (.inr ⟨hr, ht0, by rw [Int.toNat_natCast]; exact h⟩)
      ·rintro (h | h | h)
       ·omega
       ·omega
       ·have := h.2.2; rwa [Int.toNat_natCast] at this
    ·refine ⟨0, false, ?_, ?_⟩
     ·unfold tickingref09_ContestAnswer.f
      rw [if_neg ha0, if_neg (by omega), if_neg ha1]
      by_cases h1 : a ≥ 1
      ·rw [if_pos h1, if_neg (by omega)]
      ·rw [if_neg h1]
     ·constructor
      ·intro h; cases h
      ·rintro (h | h | h)
       ·omega
       ·omega
       ·exact absurd h.1 hr
  ·refine ⟨0, false, ?_, ?_⟩
   ·unfold tickingref09_ContestAnswer.f
    rw [if_neg ha0, if_pos (by omega)]
   ·constructor
    ·intro h; cases h
    ·rintro (h | h | h)
     ·omega
     ·exact absurd h.2.1 ht0
     ·exact absurd h.2.1 ht0
end Go.Proofs.Ytcploeijeedmdaa.X
