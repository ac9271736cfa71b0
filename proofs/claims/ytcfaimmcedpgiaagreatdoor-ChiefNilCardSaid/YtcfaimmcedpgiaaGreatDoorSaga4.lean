/-
  saga: undo: the contract. A lemma file: no statement of the seat is proved here.
-/
import Derived.Test.YtcfaimmcedpgiaaGreatDoorSaga3
namespace Go.Proofs.YtcfaimmcedpgiaaGreatDoor
set_option linter.unusedVariables false
set_option linter.unusedSimpArgs false
open Go.RowKit

attribute [local go_sem] Oper.semAt_some

def undoMsg (o : Order) (i : Nat) (s : Step) : Msg := { kind := 4, frm := 0, dest := s.sv, id := o.id, step := i, a := 0, b := 0 }
def undoM (o : Order) (f : Facts) : List Msg :=
  match (bwd o.steps).find? (fun x => f.undone[x.2]? == some false) with
  | some (s, i) => [undoMsg o i s]
  | none => []

set_option maxRecDepth 100000 in
set_option maxHeartbeats 1600000 in
theorem undo_call (o : Order) (f : Facts) (sl dv uv : Value) (w : World) (F : HL) (hw : Has w F) (hs : ∀ W M, Has W (M ++ F) → SlAt W Step.enc 2 sl o.steps) (hu : ∀ W M, Has W (M ++ F) → SlAt W bEnc 1 uv f.undone) (hn : o.steps.length < 1000000) (hlen : f.undone.length = o.steps.length) :
    Calls Tryz.prog 111 #[.agg (o.cells sl), .agg (f.cells dv uv)] w fun e w' => ∃ v L, e = .returned v ∧ SlR Msg.enc 7 39 v (undoM o f) L ∧ Has w' (L ++ F) ∧ Kin w w' := by
  obtain ⟨a, cap, rfl⟩ := (hs w [] hw).len
  unfold Order.cells Facts.cells
  have Hw := Lib.hid hw; clear hw
  have Hs := Lib.hid hs; clear hs
  have Hu := Lib.hid hu; clear hu
  have Hlen := Lib.hid hlen; clear hlen
  refine (callsIn_wide (n := 5)).1 ?_
  refine callsIn_of_wp_marks Tryz.func111 rfl trivial ?_ rfl
  simp only [Tryz.ntmps111, List.size_toArray, List.length_cons, List.length_nil, Nat.reduceAdd, Nat.reduceSub, Array.replicate_succ, Array.replicate_zero, List.push_toArray, List.append_toArray, List.nil_append, List.cons_append]
  gi_wp2
  refine wpIn_scope ?_
  refine wpIn_seq_k ?_
  intro K1 hK1
  refine wpIn_label ?_
  refine hK1 _ _ ?_
  clear hK1
  have Hw4 := Lib.hid (((((Hw.out.alloc (.cells #[(Value.int .i64 o.id), (Value.int .i64 o.item), (Value.int .i64 o.qty), (Value.int .i64 o.client), (Value.int .i64 o.price), .slice a o.steps.length cap] 27)).alloc (.cells #[dv, uv, .bool f.asked, .bool f.yes, .bool f.turned, .bool f.ack0, .bool f.ack1, .bool f.shipped, .bool f.dmg0, .bool f.dmg1, .bool f.accepted] 53)).alloc (.cells #[.slice none 0 0] 28)).alloc (.cells #[.slice a o.steps.length cap] 25)))
  gi_wp2_with (refine ⟨trivial, ?_⟩; gi_at_call 129; go_loud (refine (callsIn_wide.2 (backward_step _ _ _ _)).mono ?_; rintro e w' ⟨rfl, rfl⟩))
  obtain ⟨b3, hb3⟩ : ∃ b3 : Value → HL, ∀ v, b3 v = (w.heap.size + 1 + 1, .cells #[v] 28) :: (w.heap.size + 1, .cells #[dv, uv, .bool f.asked, .bool f.yes, .bool f.turned, .bool f.ack0, .bool f.ack1, .bool f.shipped, .bool f.dmg0, .bool f.dmg1, .bool f.accepted] 53) :: (w.heap.size, .cells #[(Value.int .i64 o.id), (Value.int .i64 o.item), (Value.int .i64 o.qty), (Value.int .i64 o.client), (Value.int .i64 o.price), .slice a o.steps.length cap] 27) :: [] := ⟨_, fun _ => rfl⟩
  refine wpIn_range_has (gf := 156) rfl (enters_of Tryz.func156 (by kernel_rfl) rfl) (backward_it_step o.steps a cap _ hn) (fun _ => rfl)
    (fun pre L => (∀ x ∈ pre, f.undone[x.2]? = some true) ∧ ∃ G, L = b3 (.slice none 0 0) ++ F ++ G)
    (fun c pre L => c = .ret ∧ ∃ x pre', pre = pre' ++ [x] ∧ (∀ x ∈ pre', f.undone[x.2]? = some true) ∧ f.undone[x.2]? = some false ∧ ∃ v Lm G, SlR Msg.enc 7 39 v [undoMsg o x.2 x.1] Lm ∧ L = b3 v ++ F ++ Lm ++ G)
    ?hSh (b3 (.slice none 0 0) ++ F) ⟨by simp, [], by simp⟩ ?hw ?round ?done ?stop
  case hSh =>
    rintro pre L M ⟨_, G, rfl⟩ W M' hW
    exact Hs.out W (M' ++ M ++ G ++ b3 (.slice none 0 0)) (hW.re (by intro x; simp only [cnt_append, cnt_cons, cnt_nil, List.tail_cons, World.size_alloc, World.size_setCell, World.size_drew, List.setIfInBounds_toArray, List.set_cons_zero, List.set_cons_succ] <;> omega))
  case hw =>
    rw [hb3]
    have := Hw4.out
    simp only [World.size_alloc] at this ⊢
    exact this
  case round =>
    rintro l pre ⟨s, i⟩ post W B L hx ⟨hall, G, rfl⟩ hB
    have hsi := bwd_mem hx
    have hil : i < f.undone.length := by rw [Hlen.out]; exact (List.getElem?_eq_some_iff.1 hsi).1
    obtain ⟨u, hui⟩ : ∃ u, f.undone[i]? = some u := ⟨f.undone[i], by simp [hil]⟩
    have h0 : Has W (b3 (.slice none 0 0) ++ (F ++ G ++ B)) := hB.re (by intro x; simp only [cnt_append, cnt_cons, cnt_nil, List.tail_cons, World.size_alloc, World.size_setCell, World.size_drew, List.setIfInBounds_toArray, List.set_cons_zero, List.set_cons_succ] <;> omega)
    rw [hb3] at h0
    have q2 := h0.lth; have q1 := h0.tail.lth; have q0 := h0.tail.tail.lth
    have HB := Lib.hid hB; have Hx := Lib.hid hx; have Hall := Lib.hid hall; have Hui := Lib.hid hui; have Hsi := Lib.hid hsi
    clear hB hx hall hui hsi h0
    dsimp only [Step.agg]
    gi_wp2
    refine ⟨(W.heap.size, .cells #[(Value.int .i64 s.sv), (Value.int .i64 s.n)] 42) :: (b3 (.slice none 0 0) ++ F ++ G), (HB.out.alloc _).re (by intro x; simp only [cnt_append, cnt_cons, cnt_nil, List.tail_cons, World.size_alloc, World.size_setCell, World.size_drew, List.setIfInBounds_toArray, List.set_cons_zero, List.set_cons_succ] <;> omega), (Kin.refl _).alloc _, ?_⟩
    intro W₂ B2 hW2 hk2
    have h1 : Has W₂ ((W.heap.size, .cells #[(Value.int .i64 s.sv), (Value.int .i64 s.n)] 42) :: (b3 (.slice none 0 0) ++ (F ++ G ++ B2))) := hW2.re (by intro x; simp only [cnt_append, cnt_cons, cnt_nil, List.tail_cons, World.size_alloc, World.size_setCell, World.size_drew, List.setIfInBounds_toArray, List.set_cons_zero, List.set_cons_succ] <;> omega)
    have hu2 := Hu.out W₂ (B2 ++ ((W.heap.size, .cells #[(Value.int .i64 s.sv), (Value.int .i64 s.n)] 42) :: b3 (.slice none 0 0)) ++ G) (hW2.re (by intro x; simp only [cnt_append, cnt_cons, cnt_nil, List.tail_cons, World.size_alloc, World.size_setCell, World.size_drew, List.setIfInBounds_toArray, List.set_cons_zero, List.set_cons_succ] <;> omega))
    have s0 := h1.cellh 0; have s1 := h1.cellh 1; have p0 := h1.lth
    have h2 := h1.tail
    rw [hb3] at h2
    have r0 := h2.cellh 0; have p1 := h2.lth; have fr0 := h2.freeh 0
    have u1 := h2.tail.cellh 1; have p2 := h2.tail.lth
    have o0 := h2.tail.tail.cellh 0; have o1 := h2.tail.tail.cellh 1; have o2 := h2.tail.tail.cellh 2; have o3 := h2.tail.tail.cellh 3; have o4 := h2.tail.tail.cellh 4; have o5 := h2.tail.tail.cellh 5; have p3 := h2.tail.tail.lth
    simp at s0 s1 r0 u1 o0 o1 o2 o3 o4 o5
    rcases hu2 with ⟨e0, e1⟩ | ⟨b', off, cap', e0, hcs⟩
    · exfalso; rw [e1] at hil; simp at hil
    · subst e0
      have c0 := hcs i u Hui.out 0 (.bool u) rfl
      simp only [Nat.add_zero, Nat.mul_one] at c0
      have HW2 := Lib.hid hW2
      clear hcs h1 h2 hW2
      cases u
      · gi_wp2_with fail
        refine ⟨trivial, (CallsIn.inRound l (callsIn_wide.2 (tell_call 4 s.sv o (.slice a o.steps.length cap) W₂))).mono ?_⟩
        rintro e w1 ⟨rfl, hb1⟩
        obtain ⟨hc1, hf1⟩ := bcell hb1
        have hz := hb1.size
        have z0 : W.heap.size < w1.heap.size := by omega
        have z1 : w.heap.size + 1 + 1 < w1.heap.size := by omega
        have z2 : w.heap.size + 1 < w1.heap.size := by omega
        have z3 : w.heap.size < w1.heap.size := by omega
        gi_wp2
        have g0 := HW2.out.below_all hb1
        rw [hb3] at g0
        have g1 : Has w1 ((w.heap.size + 1 + 1, .cells #[.slice none 0 0] 28) :: ((w.heap.size + 1, .cells #[dv, .slice (some ⟨b', off, none⟩) f.undone.length cap', .bool f.asked, .bool f.yes, .bool f.turned, .bool f.ack0, .bool f.ack1, .bool f.shipped, .bool f.dmg0, .bool f.dmg1, .bool f.accepted] 53) :: (w.heap.size, .cells #[(Value.int .i64 o.id), (Value.int .i64 o.item), (Value.int .i64 o.qty), (Value.int .i64 o.client), (Value.int .i64 o.price), .slice a o.steps.length cap] 27) :: (F ++ (B2 ++ ((W.heap.size, .cells #[(Value.int .i64 s.sv), (Value.int .i64 s.n)] 42) :: G))))) := g0.re (by intro x; simp only [cnt_append, cnt_cons, cnt_nil, List.tail_cons, World.size_alloc, World.size_setCell, World.size_drew, List.setIfInBounds_toArray, List.set_cons_zero, List.set_cons_succ] <;> omega)
        have g2 := ((g1.setCell 0 (.slice (some ⟨w1.heap.size + 1, 0, none⟩) 1 1)).alloc (.cells #[(Value.int .i64 4), (Value.int .i64 0), (Value.int .i64 s.sv), (Value.int .i64 o.id), (Value.int .i64 i), (Value.int .i64 0), (Value.int .i64 0)] 39)).alloc (.cells #[(Value.int .i64 4), (Value.int .i64 0), (Value.int .i64 s.sv), (Value.int .i64 o.id), (Value.int .i64 i), (Value.int .i64 0), (Value.int .i64 0)] 39)
        refine ⟨hk2.trans ((Kin.of_below hb1).trans ((((Kin.refl _).setCell _ _).alloc _).alloc _)), _, ⟨rfl, (s, i), pre, rfl, Hall.out, Hui.out, .slice (some ⟨w1.heap.size + 1, 0, none⟩) 1 1, [(w1.heap.size + 1, .cells #[(Value.int .i64 4), (Value.int .i64 0), (Value.int .i64 s.sv), (Value.int .i64 o.id), (Value.int .i64 i), (Value.int .i64 0), (Value.int .i64 0)] 39)], (w1.heap.size, .cells #[(Value.int .i64 4), (Value.int .i64 0), (Value.int .i64 s.sv), (Value.int .i64 o.id), (Value.int .i64 i), (Value.int .i64 0), (Value.int .i64 0)] 39) :: (W.heap.size, .cells #[(Value.int .i64 s.sv), (Value.int .i64 s.n)] 42) :: G, ?_, rfl⟩, ?_⟩
        · exact .inr ⟨w1.heap.size + 1, 1, _, rfl, rfl, by simp, by simp [maxLen], by simp, by simp [Msg.enc, undoMsg]⟩
        · rw [hb3]
          simp only [World.size_alloc, World.size_setCell] at g2
          refine g2.re ?_
          simp only [List.setIfInBounds_toArray, List.set_cons_zero]
          exact (by intro x; simp only [cnt_append, cnt_cons, cnt_nil, List.tail_cons, World.size_alloc, World.size_setCell, World.size_drew, List.setIfInBounds_toArray, List.set_cons_zero, List.set_cons_succ] <;> omega)
      · gi_wp2
        refine ⟨hk2, _, ⟨?_, (W.heap.size, .cells #[(Value.int .i64 s.sv), (Value.int .i64 s.n)] 42) :: G, rfl⟩, HW2.out.re (by intro x; simp only [cnt_append, cnt_cons, cnt_nil, List.tail_cons, World.size_alloc, World.size_setCell, World.size_drew, List.setIfInBounds_toArray, List.set_cons_zero, List.set_cons_succ] <;> omega)⟩
        intro y hy
        rcases List.mem_append.1 hy with hy | hy
        · exact Hall.out y hy
        · simp at hy; subst hy; exact Hui.out
  case done =>
    rintro D W L ⟨hall, G, rfl⟩ hk hW
    have h1 := hW.re (B := b3 (.slice none 0 0) ++ ((D, .deferred (some [])) :: (F ++ G))) (by intro x; simp only [cnt_append, cnt_cons, cnt_nil, List.tail_cons, World.size_alloc, World.size_setCell, World.size_drew, List.setIfInBounds_toArray, List.set_cons_zero, List.set_cons_succ] <;> omega)
    rw [hb3] at h1
    have r0 := h1.cellh 0; have fr0 := h1.freeh 0; have p1 := h1.lth
    simp at r0
    have HW := Lib.hid hW
    clear h1 hW
    gi_wp2
    have g1 : Has W ((w.heap.size + 1 + 1, .cells #[.slice none 0 0] 28) :: ((D, .deferred (some [])) :: ((b3 (.slice none 0 0)).tail ++ (F ++ G)))) := by
      have := HW.out; rw [hb3] at this ⊢; exact this.re (by intro x; simp only [cnt_append, cnt_cons, cnt_nil, List.tail_cons, World.size_alloc, World.size_setCell, World.size_drew, List.setIfInBounds_toArray, List.set_cons_zero, List.set_cons_succ] <;> omega)
    have g2 := g1.setCell 0 (.slice none 0 0)
    have g3 : Has (W.setCell ⟨w.heap.size + 1 + 1, 0, none⟩ (.slice none 0 0)) ((D, .deferred (some [])) :: ((w.heap.size + 1 + 1, .cells #[.slice none 0 0] 28) :: ((b3 (.slice none 0 0)).tail ++ (F ++ G)))) := g2.re (by intro x; simp only [cnt_append, cnt_cons, cnt_nil, List.tail_cons, World.size_alloc, World.size_setCell, World.size_drew, List.setIfInBounds_toArray, List.set_cons_zero, List.set_cons_succ] <;> omega)
    have g4 := g3.putObj (.deferred none)
    have c4 := g4.tail.cellh 0
    simp at c4
    refine ⟨by simp, .inl ⟨_, _, rfl, run_takeDeferred g3.head, ?_⟩⟩
    refine ⟨.slice none 0 0, by simp [results, Tryz.results111, go_sem, c4], .slice none 0 0, [], rfl, ?_, (g4.re (B := F ++ (((D, .deferred none) :: (w.heap.size + 1 + 1, .cells #[.slice none 0 0] 28) :: (b3 (.slice none 0 0)).tail) ++ G)) (by intro x; simp only [cnt_append, cnt_cons, cnt_nil, List.tail_cons, World.size_alloc, World.size_setCell, World.size_drew, List.setIfInBounds_toArray, List.set_cons_zero, List.set_cons_succ] <;> omega)).left, ?_⟩
    · have : undoM o f = [] := by
        unfold undoM
        have : (bwd o.steps).find? (fun x => f.undone[x.2]? == some false) = none := by
          rw [List.find?_eq_none]
          intro x hx; rw [hall x hx]; simp
        rw [this]
      rw [this]; exact .nil
    · exact ((((((Kin.refl w).alloc _).alloc _).alloc _).alloc _).trans hk).setCell _ _ |>.putObj _ _
  case stop =>
    rintro D c pre post W L hx ⟨rfl, ⟨s, i⟩, pre', rfl, hall, hu0, v, Lm, G, hv, rfl⟩ hk hW
    gi_wp2
    have g4 := hW.putObj (.deferred none)
    have g5 : Has (W.putObj D (.deferred none)) ((w.heap.size + 1 + 1, .cells #[v] 28) :: ((b3 v).tail ++ ((D, .deferred none) :: (F ++ Lm ++ G)))) := by
      have := g4; rw [hb3] at this ⊢; exact this.re (by intro x; simp only [cnt_append, cnt_cons, cnt_nil, List.tail_cons, World.size_alloc, World.size_setCell, World.size_drew, List.setIfInBounds_toArray, List.set_cons_zero, List.set_cons_succ] <;> omega)
    have c4 := g5.cellh 0
    simp at c4
    refine ⟨by simp, .inl ⟨_, _, rfl, run_takeDeferred hW.head, ?_⟩⟩
    refine ⟨v, by simp [results, Tryz.results111, go_sem, c4], v, Lm, rfl, ?_, (g5.re (B := (Lm ++ F) ++ (((w.heap.size + 1 + 1, .cells #[v] 28) :: (D, .deferred none) :: (b3 v).tail) ++ G)) (by intro x; simp only [cnt_append, cnt_cons, cnt_nil, List.tail_cons, World.size_alloc, World.size_setCell, World.size_drew, List.setIfInBounds_toArray, List.set_cons_zero, List.set_cons_succ] <;> omega)).left, ?_⟩
    · have : undoM o f = [undoMsg o i s] := by
        unfold undoM
        have : (bwd o.steps).find? (fun x => f.undone[x.2]? == some false) = some (s, i) := by
          rw [hx, List.find?_append, List.find?_append]
          have : pre'.find? (fun x => f.undone[x.2]? == some false) = none := by
            rw [List.find?_eq_none]
            intro x hx; rw [hall x hx]; simp
          rw [this]
          simp [hu0]
        rw [this]
      rw [this]; exact hv
    · exact ((((((Kin.refl w).alloc _).alloc _).alloc _).alloc _).trans hk).putObj _ _

end Go.Proofs.YtcfaimmcedpgiaaGreatDoor
