/-
  Blocks of memory as lists: 'Has w L': each block of L lies in the world w as L says, and no block is named twice. No condition. A lemma file: no statement of the seat is proved here.
-/
import Derived.WalkKit
import Derived.OwnWalk
import Derived.Deep.Draws
namespace Go.Proofs.YtcfaimmcedpgiaaGreatDoor
set_option linter.unusedVariables false
set_option linter.unusedSimpArgs false
open Go.RowKit

abbrev HL := List (Nat × Obj)

open Classical in
/-- How often a block stands in a list. -/
noncomputable def cnt (x : Nat × Obj) (L : HL) : Nat := L.count x
theorem cnt_nil (x : Nat × Obj) : cnt x [] = 0 := by simp [cnt]
theorem cnt_append (x : Nat × Obj) (A B : HL) : cnt x (A ++ B) = cnt x A + cnt x B := by simp [cnt]
/-- How often one block is another (0 or 1). -/
noncomputable def cnt1 (x y : Nat × Obj) : Nat := cnt x [y]
open Classical in
theorem cnt_cons (x y : Nat × Obj) (A : HL) : cnt x (y :: A) = cnt1 x y + cnt x A := by
  simp only [cnt1, cnt, List.count_cons, List.count_nil]; omega
open Classical in
theorem perm_of_cnt {A B : HL} (h : ∀ x, cnt x A = cnt x B) : A.Perm B := List.perm_iff_count.2 h
open Classical in
theorem cnt_of_perm {A B : HL} (h : A.Perm B) (x : Nat × Obj) : cnt x A = cnt x B := List.Perm.count_eq h x

def Has (w : World) (L : HL) : Prop := (L.map Prod.fst).Nodup ∧ ∀ x ∈ L, w.heap[x.1]? = some x.2

theorem Has.perm {w : World} {A B : HL} (h : Has w A) (p : A.Perm B) : Has w B :=
  ⟨(p.map Prod.fst).nodup_iff.1 h.1, fun x hx => h.2 x (p.mem_iff.2 hx)⟩
theorem Has.re {w : World} {A B : HL} (h : Has w A) (p : ∀ x, cnt x A = cnt x B) : Has w B := h.perm (perm_of_cnt p)
theorem Has.get {w : World} {L : HL} (h : Has w L) {b : Nat} {o : Obj} (m : (b, o) ∈ L) : w.heap[b]? = some o := h.2 _ m
theorem Has.lt {w : World} {L : HL} (h : Has w L) {b : Nat} {o : Obj} (m : (b, o) ∈ L) : b < w.heap.size :=
  (Array.getElem?_eq_some_iff.1 (h.get m)).1
theorem Has.right {w : World} {A B : HL} (h : Has w (A ++ B)) : Has w B :=
  ⟨(List.nodup_append.1 (by simpa using h.1)).2.1, fun x hx => h.2 x (List.mem_append.2 (.inr hx))⟩
theorem Has.left {w : World} {A B : HL} (h : Has w (A ++ B)) : Has w A :=
  ⟨(List.nodup_append.1 (by simpa using h.1)).1, fun x hx => h.2 x (List.mem_append.2 (.inl hx))⟩
theorem Has.tail {w : World} {x : Nat × Obj} {B : HL} (h : Has w (x :: B)) : Has w B := Has.right (A := [x]) h
theorem Has.head {w : World} {b : Nat} {o : Obj} {B : HL} (h : Has w ((b, o) :: B)) : w.heap[b]? = some o := h.get (by simp)
open Classical in
theorem sub_perm : ∀ (L M : HL), (∀ x, cnt x L ≤ cnt x M) → ∃ R, M.Perm (L ++ R)
  | [], M, _ => ⟨M, .refl _⟩
  | y :: L, M, h => by
    have hy : y ∈ M := List.count_pos_iff.1 (by have := h y; simp only [cnt, List.count_cons_self] at this; omega)
    have hp := List.perm_cons_erase hy
    obtain ⟨R, hR⟩ := sub_perm L (M.erase y) (fun x => by have := h x; rw [cnt_of_perm hp] at this; simp only [cnt_cons] at this; omega)
    exact ⟨R, hp.trans (hR.cons y)⟩
/-- Blocks may be forgotten. -/
theorem Has.sub {w : World} {A B : HL} (h : Has w A) (p : ∀ x, cnt x B ≤ cnt x A) : Has w B := by
  obtain ⟨R, hR⟩ := sub_perm B A p
  exact (h.perm hR).left
theorem Has.nil (w : World) : Has w [] := ⟨by simp, by simp⟩

theorem Has.of_heap {w w' : World} {L : HL} (h : Has w L) (e : w'.heap = w.heap) : Has w' L := ⟨h.1, fun x hx => by rw [e]; exact h.2 x hx⟩
theorem Has.drew {w : World} {L : HL} (h : Has w L) : Has w.drew L := h.of_heap rfl
theorem Has.drewN {w : World} {L : HL} (h : Has w L) (n : Nat) : Has (w.drewN n) L := h.of_heap rfl
theorem Has.undrew {w : World} {L : HL} (h : Has w.drew L) : Has w L := h.of_heap rfl

theorem Has.cell {w : World} {L : HL} (h : Has w L) {b : Nat} {c : Array Value} {t : TypeId} {f : Nat × Nat} (m : (b, .cells c t f) ∈ L) (i : Nat) :
    w.cell? ⟨b, i, none⟩ = c[i]? := by simp [World.cell?, h.get m]
theorem Has.free {w : World} {L : HL} (h : Has w L) {b : Nat} {c : Array Value} {t : TypeId} (m : (b, .cells c t (0, 0)) ∈ L) (i : Nat) :
    w.frozen? ⟨b, i, none⟩ = false := by simp [World.frozen?, h.get m]

theorem Has.cellh {w : World} {L : HL} {b : Nat} {c : Array Value} {t : TypeId} {f : Nat × Nat} (h : Has w ((b, .cells c t f) :: L)) (i : Nat) : w.cell? ⟨b, i, none⟩ = c[i]? := h.cell (List.mem_cons_self ..) i
theorem Has.freeh {w : World} {L : HL} {b : Nat} {c : Array Value} {t : TypeId} (h : Has w ((b, .cells c t (0, 0)) :: L)) (i : Nat) : w.frozen? ⟨b, i, none⟩ = false := h.free (List.mem_cons_self ..) i
theorem Has.lth {w : World} {L : HL} {b : Nat} {o : Obj} (h : Has w ((b, o) :: L)) : b < w.heap.size := h.lt (List.mem_cons_self ..)
theorem Has.alloc {w : World} {L : HL} (h : Has w L) (o : Obj) : Has (w.alloc o) ((w.heap.size, o) :: L) := by
  refine ⟨?_, ?_⟩
  · simp only [List.map_cons, List.nodup_cons]
    refine ⟨fun hm => ?_, h.1⟩
    obtain ⟨x, hx, e⟩ := List.mem_map.1 hm
    have := h.lt (b := x.1) (o := x.2) hx
    omega
  · intro x hx
    rcases List.mem_cons.1 hx with rfl | hx
    · rw [World.alloc]; exact Array.getElem?_push_size
    · have := h.lt (b := x.1) (o := x.2) hx
      rw [World.alloc]
      show (w.heap.push o)[x.1]? = _
      rw [Array.getElem?_push, if_neg (by omega)]
      exact h.2 x hx
theorem Has.old_alloc {w : World} {L : HL} (h : Has w L) (o : Obj) : Has (w.alloc o) L := (h.alloc o).tail

theorem Has.ne {w : World} {b : Nat} {o : Obj} {L : HL} (h : Has w ((b, o) :: L)) {x : Nat × Obj} (m : x ∈ L) : x.1 ≠ b := by
  have := h.1
  simp only [List.map_cons, List.nodup_cons, List.mem_map, not_exists, not_and] at this
  exact this.1 x m

theorem Has.set {w w' : World} {b : Nat} {o o' : Obj} {L : HL} (h : Has w ((b, o) :: L)) (e : w'.heap = w.heap.setIfInBounds b o') : Has w' ((b, o') :: L) := by
  refine ⟨h.1, ?_⟩
  intro x hx
  have hb : b < w.heap.size := h.lt (List.mem_cons_self ..)
  rcases List.mem_cons.1 hx with rfl | hx
  · simp [e, hb]
  · rw [e, Array.getElem?_setIfInBounds_ne (h.ne hx).symm]
    exact h.2 x (List.mem_cons_of_mem _ hx)

theorem setCell_heap (w : World) (b i : Nat) (v : Value) {c : Array Value} {t : TypeId} {f : Nat × Nat} (h : w.heap[b]? = some (.cells c t f)) :
    (w.setCell ⟨b, i, none⟩ v).heap = w.heap.setIfInBounds b (.cells (c.setIfInBounds i v) t f) := by
  apply Array.ext_getElem?
  intro j
  simp only [World.setCell, Array.getElem?_modify, Array.getElem?_setIfInBounds]
  have hb := (Array.getElem?_eq_some_iff.1 h).1
  by_cases hj : b = j
  · subst hj
    simp only [↓reduceIte, h, Option.map_some, if_pos hb]
    rfl
  · simp [hj]

theorem Has.setCell {w : World} {b : Nat} {c : Array Value} {t : TypeId} {f : Nat × Nat} {L : HL} (h : Has w ((b, .cells c t f) :: L)) (i : Nat) (v : Value) :
    Has (w.setCell ⟨b, i, none⟩ v) ((b, .cells (c.setIfInBounds i v) t f) :: L) :=
  h.set (setCell_heap w b i v h.head)

/-- The blocks of a list that lie in a world all the same behind a callee that kept what was there. -/
theorem Has.below {w w' : World} {L : HL} {B : Nat} (h : Has w L) (hb : Below B w w') (hL : ∀ x ∈ L, x.1 < B) : Has w' L :=
  ⟨h.1, fun x hx => (hb.block x.1 (hL x hx)).trans (h.2 x hx)⟩
theorem Has.below_all {w w' : World} {L : HL} (h : Has w L) (hb : Below w.heap.size w w') : Has w' L :=
  h.below hb fun x hx => h.lt (b := x.1) (o := x.2) hx

theorem below_then {B : Nat} {w w1 w2 : World} (h : Below w1.heap.size w1 w2) (hB : B ≤ w1.heap.size) (h0 : Below B w w1) : Below B w w2 := h0.trans (h.mono hB)
theorem Below.drewN {B : Nat} {a w : World} (h : Below B a w) (n : Nat) : Below B a (w.drewN n) := ⟨h.os, h.tape, h.output, h.size, h.block⟩
/-- All that lay in a world, block by block. -/
def oldBlocks (w : World) : HL := (List.range w.heap.size).map fun i => (i, w.heap.getD i default)
theorem has_old (w : World) : Has w (oldBlocks w) := by
  refine ⟨?_, ?_⟩
  · have : (oldBlocks w).map Prod.fst = List.range w.heap.size := by simp [oldBlocks, Function.comp_def]
    rw [this]; exact List.nodup_range
  · intro x hx
    simp only [oldBlocks, List.mem_map, List.mem_range] at hx
    obtain ⟨i, hi, rfl⟩ := hx
    simp [hi]
theorem old_of_has {w w' : World} {L : HL} (h : Has w' (L ++ oldBlocks w)) : ∀ k, k < w.heap.size → w'.heap[k]? = w.heap[k]? := by
  intro k hk
  have hm : (k, w.heap.getD k default) ∈ oldBlocks w := by
    simp only [oldBlocks, List.mem_map, List.mem_range]; exact ⟨k, hk, rfl⟩
  rw [h.get (List.mem_append.2 (.inr hm))]
  simp [hk]
theorem size_of_has {w w' : World} {L : HL} (h : Has w' (L ++ oldBlocks w)) : w.heap.size ≤ w'.heap.size := by
  by_cases h0 : w.heap.size = 0
  · omega
  · have hm : (w.heap.size - 1, w.heap.getD (w.heap.size - 1) default) ∈ oldBlocks w := by
      simp only [oldBlocks, List.mem_map, List.mem_range]; exact ⟨_, by omega, rfl⟩
    have := h.lt (List.mem_append.2 (.inr hm))
    omega

/-- Behind a call os, tape and output are as they were. -/
structure Kin (w w' : World) : Prop where
  os : w'.os = w.os
  tape : w'.tape = w.tape
  output : w'.output = w.output
theorem Kin.refl (w : World) : Kin w w := ⟨rfl, rfl, rfl⟩
theorem Kin.trans {a b c : World} (h : Kin a b) (k : Kin b c) : Kin a c := ⟨k.os.trans h.os, k.tape.trans h.tape, k.output.trans h.output⟩
theorem Kin.alloc {a w : World} (h : Kin a w) (o : Obj) : Kin a (w.alloc o) := ⟨h.os, h.tape, h.output⟩
theorem Kin.setCell {a w : World} (h : Kin a w) (p : Addr) (v : Value) : Kin a (w.setCell p v) := ⟨h.os, h.tape, h.output⟩
theorem Kin.drew {a w : World} (h : Kin a w) : Kin a w.drew := ⟨h.os, h.tape, h.output⟩
theorem Kin.drewN {a w : World} (h : Kin a w) (n : Nat) : Kin a (w.drewN n) := ⟨h.os, h.tape, h.output⟩
theorem Kin.of_below {B : Nat} {w w' : World} (h : Below B w w') : Kin w w' := ⟨h.os, h.tape, h.output⟩
theorem Kin.of_grown {w w' : World} {r : Option Nat} (h : w.grownBy w' r) : Kin w w' := ⟨h.os, h.tape, h.output⟩
theorem below_of_has {w w' : World} {L : HL} (h : Has w' (L ++ oldBlocks w)) (k : Kin w w') : Below w.heap.size w w' :=
  ⟨k.os, k.tape, k.output, size_of_has h, old_of_has h⟩

theorem Has.swap {w : World} {x y : Nat × Obj} {L : HL} (h : Has w (x :: y :: L)) : Has w (y :: x :: L) := h.perm (List.Perm.swap _ _ _)
theorem Has.third {w : World} {x y z : Nat × Obj} {L : HL} (h : Has w (x :: y :: z :: L)) : Has w (z :: x :: y :: L) := h.re (by intro c; simp only [cnt_cons]; omega)

end Go.Proofs.YtcfaimmcedpgiaaGreatDoor
