/- What CoverOwn keeps while it writes into the results: all that lay there before, the circle's box, both rows as rows of one's own. Texts of this claim's session, put together: OwnSt. -/
import Derived.Test.YtplhfbkejngioaaOw3
import Derived.Test.YtplhfbkejngioaaBc8
import Derived.Test.YtplhfbkejngioaaVWords
import Derived.Test.YtplhfbkejngioaaVLast
namespace Go.Proofs.Ytplhfbkejngioaa.X
open Go.RowKit Go.Proofs.YtplhfbkejngioaaW.PrintWords Go.Proofs.YtplhfbkejngioaaW.PrintLast Go.Proofs.Ytplhfbkejngioaa.S
set_option linter.unusedVariables false
set_option linter.unusedSimpArgs false
theorem gateS {P : Program} {ops : Array Oper} {rest : List Oper} {o : Oper} {a : Act} {Q : Exit → Act → World → Prop} {W : World} (op : Op) (_ho : o.op = op) (h : wpList P ops Q (o :: rest) a W) : wpList P ops Q (o :: rest) a W := h
theorem blk_apart {w : World} {g g' : Nat} {t t' : TypeId} {cs cs' : Array Value} (h : w.heap[g]? = some (.cells cs t (0, 0))) (h' : w.heap[g']? = some (.cells cs' t' (0, 0))) (hne : t ≠ t') : g ≠ g' := by
 rintro rfl
 rw [h] at h'
 injection h' with h'
 injection h' with _ h2
 exact hne h2
theorem store_seg {P : Program} {w : World} {g o : Nat} {e : TypeId} {cur : Array Value} (t : TypeId) (u : Value) (seg : List Value) (hh : w.heap[g]? = some (.cells cur e (0, 0))) (hu : u.cells.toList = seg) (ht : (P.info? t).map (·.size) = some seg.length)
  (hfit : o + seg.length ≤ cur.size) (h1 : ∀ q ∈ seg, q.oneCell' = true) : (Instr.storeAt t (.pointer (some ⟨g, o, none⟩)) u).run P w = .ok () (w.setCells g o seg) := by
 obtain ⟨i, hi, hsz⟩ := Option.map_eq_some_iff.1 ht
 have hc : u.cells.size = i.size := by rw [hsz, ← hu, Array.length_toList]
 have hst := run_storeCells_cells (P := P) g o seg 0 w (fun j hj => by rw [blk_cell hh]; simp; omega) (fun j _ => blk_frozen hh _) h1
 simp only [Nat.add_zero] at hst
 simp [Instr.storeAt, Instr.sureAddr, storeVar, sizeOf, typeInfo, hi, hc, hu, hst]
def AnyRow (W : World) (base : Nat) (e : TypeId) (sz : Nat) (A : Option Addr) (n c : Nat) : Prop := ∃ xs, W.ownsRow base e sz (.slice A n c) n xs
theorem AnyRow.blk {W : World} {base : Nat} {e : TypeId} {sz : Nat} {A : Option Addr} {n c : Nat} (h : AnyRow W base e sz A n c) (hn : 0 < n) :
  ∃ g cur, A = some ⟨g, 0, none⟩ ∧ base ≤ g ∧ W.heap[g]? = some (.cells cur e (0, 0)) ∧ cur.size = c * sz ∧ n ≤ c := by
 obtain ⟨xs, h0, h⟩ := h
 rcases h with ⟨e1, h1⟩ | ⟨g, cap, cur, e1, hb, hh, hn', hm, hs, ht⟩
 ·omega
 ·injection e1 with e1 e2 e3
  subst e1 e3
  exact ⟨g, cur, rfl, hb, hh, hs, hn'⟩
theorem AnyRow.put {W : World} {base : Nat} {e : TypeId} {sz : Nat} {g n c : Nat} (h : AnyRow W base e sz (some ⟨g, 0, none⟩) n c) (j : Nat) (u : Value) : AnyRow (W.setCell ⟨g, j, none⟩ u) base e sz (some ⟨g, 0, none⟩) n c := by
 obtain ⟨xs, h0, h⟩ := h
 rcases h with ⟨e1, h1⟩ | ⟨g', cap, cur, e1, hb, hh, hn', hm, hs, ht⟩
 ·cases e1
 ·injection e1 with e1 e2 e3
  injection e1 with e1
  injection e1 with e1
  subst e1 e3
  refine ⟨(cur.setIfInBounds j u).toList.take (n * sz), ?_, .inr ⟨g, c, cur.setIfInBounds j u, rfl, hb, blk_put hh _ _ rfl, hn', hm, by simpa using hs, rfl⟩⟩
  rw [List.length_take, Array.length_toList, Array.size_setIfInBounds, hs]
  exact Nat.min_eq_left (Nat.mul_le_mul_right _ hn')
theorem AnyRow.far {W : World} {base : Nat} {e : TypeId} {sz : Nat} {A : Option Addr} {n c : Nat} (h : AnyRow W base e sz A n c) {g : Nat} {t : TypeId} {cs : Array Value} (hg : W.heap[g]? = some (.cells cs t (0, 0))) (hne : e ≠ t) (j : Nat) (u : Value) : AnyRow (W.setCell ⟨g, j, none⟩ u) base e sz A n c := by
 obtain ⟨xs, h0, h⟩ := h
 rcases h with ⟨e1, h1⟩ | ⟨g', cap, cur, e1, hb, hh, r⟩
 ·exact ⟨xs, h0, .inl ⟨e1, h1⟩⟩
 ·exact ⟨xs, h0, .inr ⟨g', cap, cur, e1, hb, blk_far hh (p := ⟨g, j, none⟩) (blk_apart hh hg hne) u, r⟩⟩
structure OwnSt (w4 : World) (g9 : Nat) (cs9 : Array Value) (As : Option Addr) (ns cs : Nat) (Ad : Option Addr) (nd cd : Nat) (W : World) : Prop where
 b : Below w4.heap.size w4 W
 bx : W.heap[g9]? = some (.cells cs9 40 (0, 0))
 s : AnyRow W w4.heap.size 3 1 As ns cs
 d : AnyRow W w4.heap.size 48 4 Ad nd cd
variable {w4 : World} {g9 : Nat} {cs9 : Array Value} {As : Option Addr} {ns cs : Nat} {Ad : Option Addr} {nd cd : Nat} {W : World}
theorem OwnSt.drewN (h : OwnSt w4 g9 cs9 As ns cs Ad nd cd W) (m : Nat) : OwnSt w4 g9 cs9 As ns cs Ad nd cd (W.drewN m) := ⟨pw_below_drewN h.b m, h.bx, h.s, h.d⟩
theorem OwnSt.putS (h : OwnSt w4 g9 cs9 As ns cs Ad nd cd W) {i : Nat} (hi : i < ns) :
  ∃ a v, As = some a ∧ W.cell? (a.add i) = some v ∧ W.frozen? (a.add i) = false ∧ ∀ u, OwnSt w4 g9 cs9 As ns cs Ad nd cd (W.setCell (a.add i) u) := by
 obtain ⟨g, cur, rfl, hb, hh, hs, hn⟩ := h.s.blk (by omega)
 have hc : i < cur.size := by rw [hs]; omega
 refine ⟨_, cur[i], rfl, ?_⟩
 rw [Addr.add_lit, Nat.zero_add]
 refine ⟨by rw [blk_cell hh, Array.getElem?_eq_getElem hc], blk_frozen hh _, fun u => ⟨h.b.setCell (p := ⟨g, i, none⟩) hb _, blk_far h.bx (p := ⟨g, i, none⟩) (blk_apart h.bx hh (by decide)) u, h.s.put i u, h.d.far hh (by decide) i u⟩⟩
theorem OwnSt.putC {g : Nat} (h : OwnSt w4 g9 cs9 As ns cs (some ⟨g, 0, none⟩) nd cd W) (hn : 0 < nd) : ∀ (seg : List Value) (o : Nat), OwnSt w4 g9 cs9 As ns cs (some ⟨g, 0, none⟩) nd cd (W.setCells g o seg) := by
 intro seg
 induction seg generalizing W with
 | nil => intro o; exact h
 | cons u r ih =>
  intro o
  rw [World.setCells]
  refine ih ?_ _
  obtain ⟨g', cur, e, hb, hh, hs, hc⟩ := h.d.blk hn
  injection e with e
  injection e with e
  subst e
  exact ⟨h.b.setCell (p := ⟨g, o, none⟩) hb _, blk_far h.bx (p := ⟨g, o, none⟩) (blk_apart h.bx hh (by decide)) u, h.s.far hh (by decide) o u, h.d.put o u⟩
theorem OwnSt.store_ {ops : Array Oper} {rest : List Oper} {o : Oper} {a : Act} {Q : Exit → Act → World → Prop} {g o' i : Nat} {u : Value} {seg : List Value} (hN : o.dst = none) (hgd : o.guard = none) (p x : Operand) (ho : o.op = .store 48 p x)
  (haddr : a.eval p = .pointer (some ⟨g, o', none⟩)) (hoff : o' = i * 4) (hx : a.eval x = u) (hu : u.cells.toList = seg) (hl : seg.length = 4) (h1 : ∀ q ∈ seg, q.oneCell' = true)
  (HU : OwnSt w4 g9 cs9 As ns cs (some ⟨g, 0, none⟩) nd cd W) (hi : i < nd) (h : ∀ w1, OwnSt w4 g9 cs9 As ns cs (some ⟨g, 0, none⟩) nd cd w1 → wpList Try.prog ops Q rest a w1) : wpList Try.prog ops Q (o :: rest) a W := by
 subst hoff
 obtain ⟨g', cur, e, hb, hh, hs, hc⟩ := HU.d.blk (by omega)
 injection e with e
 injection e with e
 subst e
 refine wpList_plain hgd fun K hK => ?_
 have hrun : (Instr.storeAt 48 (.pointer (some ⟨g, i * 4, none⟩)) u).run Try.prog W = .ok () (W.setCells g (i * 4) seg) :=
  store_seg 48 u seg hh hu (by rw [hl]; kernel_rfl) (by rw [hl, hs]; omega) h1
 unfold Oper.wp execOp
 simp only [ho, haddr, hx, Sem.run_bind, Sem.run_pure, Result.andThen_ok, hrun]
 show K (a.put o.dst undef) _
 rw [hN]
 exact hK a _ (h _ (HU.putC (by omega) seg _))
end Go.Proofs.Ytplhfbkejngioaa.X
