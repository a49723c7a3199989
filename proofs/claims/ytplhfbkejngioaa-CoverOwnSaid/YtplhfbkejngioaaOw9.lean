/- What the walk of Divide needs, plain: the strips up to the k-th line; a row of one's own across the steps. Texts of this claim's session, put together: DivW. -/
import Derived.Test.YtplhfbkejngioaaOw3
import Derived.Test.YtplhfbkejngioaaOw8
import Derived.Test.YtplhfbkejngioaaBc8
import Derived.Test.YtplhfbkejngioaaVWords
import Derived.Test.YtplhfbkejngioaaVLast
namespace Go.Proofs.Ytplhfbkejngioaa.X
open Go.RowKit Go.Proofs.YtplhfbkejngioaaW.PrintWords Go.Proofs.YtplhfbkejngioaaW.PrintLast Go.Proofs.Ytplhfbkejngioaa.S
set_option linter.unusedVariables false
set_option linter.unusedSimpArgs false
theorem append_list {ops : Array Oper} {o : Oper} {rest : List Oper} {a : Act} {Q : Exit → Act → World → Prop} {w0 W : World} {base : Nat} (hgd : o.guard = none) (s x : Operand)
  (ho : o.op = .call { callee := .builtin .append, args := #[s, x], argTypes := #[41, 41] }) (v : Value) (xs ys : List Int) (b m c : Nat) (hm : ys.length = m) (hs : a.eval s = v) (hx : a.eval x = .slice (some ⟨b, 0, none⟩) m c)
  (HO : OwnI W base v xs) (hb : W.heap[b]? = some (.cells (ys.map (Value.int .i64)).toArray 3 (0, 0))) (HB : Below base w0 W) (hbase : base ≤ W.heap.size) (hl : (xs.length + ys.length) * 8 ≤ 140737488355328)
  (h : ∀ v1 w1, OwnI w1 base v1 (xs ++ ys) → Below base w0 w1 → wpList Try.prog ops Q rest (a.put o.dst v1) w1) :
  wpList Try.prog ops Q (o :: rest) a W := by
 subst hm
 refine Kd.R_append_rows (Kd.int .i64) (Rr := fun x cs => cs = [.int .i64 x]) (w0 := w0) base hgd s x 41 3 (.int .i64 0) 8 ho Try.underlying41 info3' rfl (by decide) (by decide) v xs ys (some ⟨b, 0, none⟩) ys.length c (fun _ => True) (fun _ => False) hs hx HO.toR ?_ (fun x cs h => h) (fun k hk => hk.elim) (fun _ _ => trivial) HB hbase hl ?_
 ·refine ⟨rfl, by omega, fun _ => ⟨_, rfl, fun j p hj => ⟨[.int .i64 p], rfl, rfl, fun i u hu => ?_⟩⟩⟩
  have hi : i = 0 ∧ u = .int .i64 p := by
   cases i with
   | zero => simp at hu; exact ⟨rfl, hu.symm⟩
   | succ i => simp at hu
  obtain ⟨rfl, rfl⟩ := hi
  show W.cell? (Addr.add ⟨b, 0, none⟩ (j * 1 + 0)) = _
  rw [Addr.add_lit, Nat.mul_one, Nat.add_zero, Nat.zero_add, blk_cell hb j]
  rw [List.getElem?_toArray, List.getElem?_map, hj]; rfl
 ·intro v1 w1 h1 h2 h3 h4
  exact h v1 w1 (OwnI.ofR h1) h2
theorem cell_allocD {W : World} {a : Addr} {v : Value} {o : Obj} (h : W.cell? a = some v) : (W.alloc o).cell? a = some v := (World.cell?_alloc_lt _ _ _ (World.block_lt_of_cell? _ _ h)).trans h
theorem nbs_length (xs : List Int) : (nbs xs).length = xs.length - 1 := by
 unfold nbs
 rw [List.length_zip, List.length_tail]
 omega
theorem nbs_at (xs : List Int) (k : Nat) (h : k + 1 < xs.length) : (nbs xs)[k]? = some (xs[k], xs[k + 1]) := by
 unfold nbs
 rw [List.getElem?_eq_getElem (by rw [List.length_zip, List.length_tail]; omega)]
 simp [List.getElem_zip, List.getElem_tail]
def divUp (xs : List Int) (b : List S48) (k : Nat) : List S48 := ((nbs xs).take k).flatMap fun x => (strip x.1 x.2 b).reverse
theorem divUp_succ (xs : List Int) (b : List S48) (k : Nat) (h : k + 1 < xs.length) : divUp xs b (k + 1) = divUp xs b k ++ (strip xs[k] xs[k + 1] b).reverse := by
 unfold divUp
 rw [List.take_add_one, nbs_at xs k h, List.flatMap_append]
 simp
theorem divUp_all (xs : List Int) (b : List S48) (k : Nat) (h : xs.length ≤ k + 1) : divUp xs b k = divL xs b := by
 unfold divUp divL
 rw [List.take_of_length_le (by rw [nbs_length]; omega)]
theorem OwnR.form {W : World} {base : Nat} {v : Value} {l : List S48} (h : OwnR W base v l) : ∃ A c, v = .slice A l.length c := Kd.R_slice h.toR
theorem OwnR.nil (W : World) (base : Nat) : OwnR W base (.slice none 0 0) [] := ⟨rfl, .inl ⟨rfl, rfl⟩⟩
theorem OwnR.below {W W' : World} {base : Nat} {v : Value} {l : List S48} (h : OwnR W base v l) (hb : Below W.heap.size W W') : OwnR W' base v l := pw_own_below h hb
theorem OwnR.own {W : World} {base : Nat} {v : Value} {l : List S48} (h : OwnR W base v l) {q : Nat} (hq : v.ownBlock = some q) : base ≤ q := own_base h q hq
theorem OwnR.addr {W : World} {base n : Nat} {A : Option Addr} {c : Nat} {l : List S48} (h : OwnR W base (.slice A n c) l) (hn : l ≠ []) : ∃ g, A = some ⟨g, 0, none⟩ ∧ n = l.length ∧ base ≤ g ∧ g < W.heap.size := by
 rcases h.2 with ⟨e, h0⟩ | ⟨g, cap, cur, e, hb, hh, _⟩
 ·exact absurd (List.length_eq_zero_iff.1 h0) hn
 ·injection e with e1 e2 e3
  exact ⟨g, e1, e2, hb, blk_lt hh⟩
theorem OwnR.top {W : World} {base n c : Nat} {A : Option Addr} {G : List S48} {q : S48} (h : OwnR W base (.slice A n c) (G ++ [q])) :
  ∃ a : Addr, A = some a ∧ n = G.length + 1 ∧ base ≤ (a.add (G.length * 4)).block ∧ W.cell? ⟨(a.add (G.length * 4)).block, (a.add (G.length * 4)).off + 3, none⟩ = some (.int .i64 q.f3) ∧ W.frozen? ⟨(a.add (G.length * 4)).block, (a.add (G.length * 4)).off + 3, none⟩ = false ∧
   ∀ (W' : World) (x : Int), OwnR W' base (.slice A n c) (G ++ [q]) → OwnR (W'.setCell ⟨(a.add (G.length * 4)).block, (a.add (G.length * 4)).off + 3, none⟩ (.int .i64 x)) base (.slice A n c) (G ++ [⟨q.f0, q.f1, q.f2, x⟩]) := by
 obtain ⟨g, rfl, hn, hb, _⟩ := h.addr (by simp)
 have hn' : n = G.length + 1 := by simpa using hn
 subst hn'
 refine ⟨_, rfl, rfl, ?_⟩
 rw [Addr.add_lit, Nat.zero_add]
 exact ⟨hb, h.lastCell.1, h.lastCell.2, fun W' x h' => h'.last x⟩
theorem OwnR.len {W : World} {base n : Nat} {A : Option Addr} {c : Nat} {l : List S48} (h : OwnR W base (.slice A n c) l) : n = l.length ∧ l.length ≤ c := by
 rcases h.2 with ⟨e, h0⟩ | ⟨g, cap, cur, e, hb, hh, hn, _⟩
 ·injection e with e1 e2 e3
  omega
 ·injection e with e1 e2 e3
  omega
theorem fold_take {α β : Type} (f : β → α → β) (z : β) (l : List α) (j : Nat) (h : j < l.length) : (l.take (j + 1)).foldl f z = f ((l.take j).foldl f z) l[j] := by
 rw [List.take_add_one, List.getElem?_eq_getElem h, List.foldl_append]
 rfl
theorem nxtD {i : Nat} (h : i < 100000) : wrap64 ((i : Int) + 1) = ((i + 1 : Nat) : Int) := by rw [w64 (by omega) (by omega), Int.natCast_add]; rfl
theorem preD {i n : Nat} (h : n = i + 1) (hn : n < 100000) : wrap64 ((n : Int) - 1) = (i : Int) := by subst h; rw [w64 (by omega) (by omega)]; omega
theorem strip_len {c d : Int} : ∀ (b : List S48) (acc : List S48), (b.foldl (stripStep c d) acc).length ≤ acc.length + b.length
 | [], acc => by simp
 | r :: b, acc => by
  have h := strip_len (c := c) (d := d) b (stripStep c d acc r)
  have e : (stripStep c d acc r).length ≤ acc.length + 1 := by
   unfold stripStep
   split
   ·unfold put
    cases acc with
    | nil => simp
    | cons q t => simp only; split <;> simp
   ·omega
  rw [List.foldl_cons, List.length_cons]
  omega
theorem flatMap_len {α β : Type} (f : α → List β) (m : Nat) : ∀ (l : List α), (∀ x ∈ l, (f x).length ≤ m) → (l.flatMap f).length ≤ l.length * m
 | [], _ => by simp
 | x :: l, h => by
  have ih := flatMap_len f m l (fun y hy => h y (List.mem_cons_of_mem _ hy))
  have h0 := h x (List.mem_cons_self ..)
  rw [List.flatMap_cons, List.length_append, List.length_cons, Nat.succ_mul]
  omega
theorem divUp_len (xs : List Int) (b : List S48) (k : Nat) (hx : xs.length ≤ 64) (hb : b.length ≤ 32) : (divUp xs b k).length ≤ 2016 := by
 unfold divUp
 have h := flatMap_len (fun x : Int × Int => (strip x.1 x.2 b).reverse) 32 ((nbs xs).take k) (fun x _ => by
  rw [List.length_reverse]
  have := strip_len (c := x.1) (d := x.2) b []
  simp at this
  unfold strip
  omega)
 have h2 : ((nbs xs).take k).length ≤ 63 := by
  rw [List.length_take, nbs_length]
  omega
 have h3 : ((nbs xs).take k).length * 32 ≤ 63 * 32 := Nat.mul_le_mul_right _ h2
 omega
end Go.Proofs.Ytplhfbkejngioaa.X
