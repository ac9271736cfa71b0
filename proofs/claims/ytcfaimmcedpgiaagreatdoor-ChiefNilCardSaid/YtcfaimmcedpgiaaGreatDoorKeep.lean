/-
  What a store or an allocation keeps; a slice in a new block; append in a region that draws. A lemma file: no statement of the seat is proved here.
-/
import Derived.Test.YtcfaimmcedpgiaaGreatDoorSlices
namespace Go.Proofs.YtcfaimmcedpgiaaGreatDoor
set_option linter.unusedVariables false
set_option linter.unusedSimpArgs false
open Go.RowKit

theorem lt_sz {n : Nat} {W w1 : World} (h : n < W.heap.size) (hb : Below W.heap.size W w1) : n < w1.heap.size := Nat.lt_of_lt_of_le h hb.size
theorem below_nxt {wr W w1 : World} (h : Below wr.heap.size wr W) (hb : Below W.heap.size W w1) : Below wr.heap.size wr w1 := h.trans (hb.mono h.size)
theorem cell_keep {wr w1 : World} {b i : Nat} {v : Value} (hb : Below wr.heap.size wr w1) (hc : wr.cell? ⟨b, i, none⟩ = some v) : w1.cell? ⟨b, i, none⟩ = some v := by rw [hb.cell (World.block_lt_of_cell? wr _ hc)]; exact hc
theorem lt_keep {wr w1 : World} {n : Nat} (hb : Below wr.heap.size wr w1) (hn : n < wr.heap.size) : n < w1.heap.size := Nat.lt_of_lt_of_le hn hb.size
theorem below_alloc1 {n : Nat} {a W : World} {o : Obj} (h : Below n a W) (hn : n ≤ W.heap.size) : Below n a (W.alloc o) := h.alloc hn o
theorem modify_push {α : Type} (xs : Array α) (x : α) (f : α → α) : (xs.push x).modify xs.size f = xs.push (f x) := by
  apply Array.ext_getElem?
  intro j
  rw [Array.getElem?_modify, Array.getElem?_push, Array.getElem?_push]
  by_cases hj : j = xs.size
  · subst hj; simp
  · simp [hj, Ne.symm hj]
theorem setCell_alloc (w : World) (c : Array Value) (t : TypeId) (i : Nat) (v : Value) :
    (w.alloc (.cells c t (0, 0))).setCell ⟨w.heap.size, i, none⟩ v = w.alloc (.cells (c.setIfInBounds i v) t (0, 0)) := by
  simp only [World.setCell, World.alloc]
  rw [modify_push]
  rfl
theorem cell_alloc_keep {w : World} {b i : Nat} {v : Value} (o : Obj) (h : w.cell? ⟨b, i, none⟩ = some v) : (w.alloc o).cell? ⟨b, i, none⟩ = some v := by
  rw [World.cell?_alloc_old _ _ _ (Nat.ne_of_lt (World.block_lt_of_cell? w _ h))]; exact h
theorem cell_drew_keep {w : World} {b i : Nat} {v : Value} (h : w.cell? ⟨b, i, none⟩ = some v) : w.drew.cell? ⟨b, i, none⟩ = some v := h
theorem cell_drewN_keep {w : World} {b i n : Nat} {v : Value} (h : w.cell? ⟨b, i, none⟩ = some v) : (w.drewN n).cell? ⟨b, i, none⟩ = some v := h
theorem cell_set_keep {w : World} {b i b' i' : Nat} {v u : Value} (hb : b' ≠ b) (h : w.cell? ⟨b, i, none⟩ = some v) : (w.setCell ⟨b', i', none⟩ u).cell? ⟨b, i, none⟩ = some v := by
  rw [World.cell?]
  rw [World.cell?] at h
  rw [Below.heap_setCell _ _ _ _ (by exact Ne.symm hb)]; exact h
theorem SlR.lit {α : Type} {enc : α → List Value} {size : Nat} {e : TypeId} {b : Nat} {l : List α} {n : Nat} {c : Array Value} (he : Enc enc size) (hn : l.length = n) (hc : c = (l.flatMap enc).toArray) (hm : n ≤ 1000) : SlR enc size e (.slice (some ⟨b, 0, none⟩) n n) l [(b, .cells c e)] := by
  subst hn hc
  exact .inr ⟨b, l.length, _, rfl, rfl, Nat.le_refl _, by simp only [maxLen]; omega, by simp [flat_len he], List.take_of_length_le (Nat.le_of_eq (flat_len he l))⟩
theorem owp_append_has {P : Program} {w : World} {o : Oper} {a : Act} {K : Act → World → Prop} {Q : Exit → Act → World → Prop} (s x : Operand) (t : TypeId)
    (ho : o.op = .call { callee := .builtin .append, args := #[s, x], argTypes := #[t, t] })
    {α : Type} {enc : α → List Value} {size bytes : Nat} {e : TypeId} (he : Enc enc size) (hE : Elem P t e size bytes)
    {v xv : Value} {l news : List α} {L F : HL} (hs : a.eval s = v) (hxv : a.eval x = xv) (hR : SlR enc size e v l L) (hw : Has w (L ++ F)) (hx : SlAt w enc size xv news) (hb : l.length + news.length ≤ 1000000000)
    (h : ∀ v' w' L', SlR enc size e v' (l ++ news) L' → Has w' (L' ++ F) → Kin w w' → K (a.put o.dst v') w') : o.wp P a w K Q := by
  obtain ⟨v', w', L', hr, h1, h2, h3⟩ := run_append_has (ty := o.type) he hE hR hw hx hb
  unfold Oper.wp execOp
  simp only [ho, resolve, invoke, builtin, Sem.run_bind, Sem.run_pure, Result.andThen_ok, List.map_toArray, List.map_cons, List.map_nil, hs, hxv, hr]
  exact h v' w' L' h1 h2 h3

end Go.Proofs.YtcfaimmcedpgiaaGreatDoor
