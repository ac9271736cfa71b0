/-
  saga: State, Over, ends: the contracts. A lemma file: no statement of the seat is proved here.
-/
import Derived.Test.YtcfaimmcedpgiaaGreatDoorSaga
namespace Go.Proofs.YtcfaimmcedpgiaaGreatDoor
set_option linter.unusedVariables false
set_option linter.unusedSimpArgs false
open Go.RowKit

set_option maxRecDepth 100000 in
set_option maxHeartbeats 1600000 in
theorem ends_call (f : Facts) (dv uv : Value) (w : World) (hu : SlAt w bEnc 1 uv f.undone) (hn : f.undone.length < 1000000) :
    Calls Tryz.prog 62 #[.agg (f.cells dv uv)] w fun e w' => e = .returned ((Value.int .i64 (fEnds f))) ∧ Below w.heap.size w w' := by
  have B1 : Below w.heap.size w (w.alloc (.cells (f.cells dv uv) 53)) := (by repeat' (first | with_reducible exact Below.refl _ _ | with_reducible assumption | refine Below.alloc ?_ ?_ _ | refine Below.setCell ?_ ?_ _ | refine Below.drew ?_ | refine Below.drewN ?_ _ | (apply below_then; with_reducible assumption) | omega | (simp only [World.size_alloc, World.size_setCell, World.size_drew]; omega)))
  have Hu := Lib.hid (hu.below B1)
  clear hu B1
  obtain ⟨done, undone, asked, yes, turned, ack0, ack1, shipped, dmg0, dmg1, accepted⟩ := f
  unfold Facts.cells at *
  dsimp only at *
  cases turned <;> cases yes <;> cases asked <;> cases shipped
  all_goals
   go_enter Tryz.func62, Tryz.ntmps62
   go_wp2_with (first
    | (go_at_call 93; refine (containsB_call undone _ _ _ (by exact Hu.out.below (by repeat' (first | with_reducible exact Below.refl _ _ | with_reducible assumption | refine Below.alloc ?_ ?_ _ | refine Below.setCell ?_ ?_ _ | refine Below.drew ?_ | refine Below.drewN ?_ _ | (apply below_then; with_reducible assumption) | omega | (simp only [World.size_alloc, World.size_setCell, World.size_drew]; omega)))) hn).mono ?_; rintro e w2 ⟨rfl, rfl⟩)
    | (go_at_call 92; refine (both_call _ _ _).mono ?_; rintro e w1 ⟨rfl, rfl⟩))
   all_goals
    go_ret
    refine ⟨?_, (by repeat' (first | with_reducible exact Below.refl _ _ | with_reducible assumption | refine Below.alloc ?_ ?_ _ | refine Below.setCell ?_ ?_ _ | refine Below.drew ?_ | refine Below.drewN ?_ _ | (apply below_then; with_reducible assumption) | omega | (simp only [World.size_alloc, World.size_setCell, World.size_drew]; omega)))⟩
    first
      | (simp [fEnds, *]; done)
      | (exfalso; simp_all; done)

set_option maxRecDepth 100000 in
set_option maxHeartbeats 1600000 in
theorem state_call (o : Order) (f : Facts) (sl dv uv : Value) (w : World) (hs : SlAt w Step.enc 2 sl o.steps) (hd : SlAt w bEnc 1 dv f.done) (hu : SlAt w bEnc 1 uv f.undone) (hn : o.steps.length < 1000000) (hn2 : f.undone.length < 1000000) :
    Calls Tryz.prog 56 #[.agg (o.cells sl), .agg (f.cells dv uv)] w fun e w' => e = .returned ((Value.int .i64 (fState o f))) ∧ Below w.heap.size w w' := by
  have B2 : Below w.heap.size w ((w.alloc (.cells (o.cells sl) 27)).alloc (.cells (f.cells dv uv) 53)) := (by repeat' (first | with_reducible exact Below.refl _ _ | with_reducible assumption | refine Below.alloc ?_ ?_ _ | refine Below.setCell ?_ ?_ _ | refine Below.drew ?_ | refine Below.drewN ?_ _ | (apply below_then; with_reducible assumption) | omega | (simp only [World.size_alloc, World.size_setCell, World.size_drew]; omega)))
  have Hs := Lib.hid (hs.below B2); have Hd := Lib.hid (hd.below B2); have Hu := Lib.hid (hu.below B2)
  clear hs hd hu B2
  unfold Order.cells Facts.cells at *
  go_enter Tryz.func56, Tryz.ntmps56
  go_wp2_with (first
    | (go_at_call 63; go_loud (refine (fmay_call o f _ _ _ _ (by exact Hs.out) (by exact Hd.out) (by exact Hu.out) hn).mono ?_; rintro e w1 ⟨rfl, hb1⟩; obtain ⟨hc1, hf1⟩ := bcell hb1; obtain ⟨hz1, hz2⟩ := below_two hb1); have Hu3 := Lib.hid (Hu.out.below hb1))
    | (go_at_call 87; refine (either_call _ _ _).mono ?_; rintro e w1 ⟨rfl, rfl⟩)
    | (go_at_call 62; go_loud (refine (ends_call f _ _ _ (by exact Hu3.out.below (by repeat' (first | with_reducible exact Below.refl _ _ | with_reducible assumption | refine Below.alloc ?_ ?_ _ | refine Below.setCell ?_ ?_ _ | refine Below.drew ?_ | refine Below.drewN ?_ _ | (apply below_then; with_reducible assumption) | omega | (simp only [World.size_alloc, World.size_setCell, World.size_drew]; omega)))) hn2).mono ?_; rintro e w1 ⟨rfl, hb9⟩)))
  all_goals
    go_ret
    refine ⟨?_, (by repeat' (first | with_reducible exact Below.refl _ _ | with_reducible assumption | refine Below.alloc ?_ ?_ _ | refine Below.setCell ?_ ?_ _ | refine Below.drew ?_ | refine Below.drewN ?_ _ | (apply below_then; with_reducible assumption) | omega | (simp only [World.size_alloc, World.size_setCell, World.size_drew]; omega)))⟩
    first
      | (simp [fState, *]; done)
      | (exfalso; simp_all; done)
  all_goals trace_state

set_option maxRecDepth 100000 in
set_option maxHeartbeats 1600000 in
theorem over_call (o : Order) (f : Facts) (sl dv uv : Value) (w : World) (hs : SlAt w Step.enc 2 sl o.steps) (hd : SlAt w bEnc 1 dv f.done) (hu : SlAt w bEnc 1 uv f.undone) (hn : o.steps.length < 1000000) (hn2 : f.undone.length < 1000000) :
    Calls Tryz.prog 28 #[.agg (o.cells sl), .agg (f.cells dv uv)] w fun e w' => e = .returned (.bool (fOver o f)) ∧ Below w.heap.size w w' := by
  have B2 : Below w.heap.size w ((w.alloc (.cells (o.cells sl) 27)).alloc (.cells (f.cells dv uv) 53)) := (by repeat' (first | with_reducible exact Below.refl _ _ | with_reducible assumption | refine Below.alloc ?_ ?_ _ | refine Below.setCell ?_ ?_ _ | refine Below.drew ?_ | refine Below.drewN ?_ _ | (apply below_then; with_reducible assumption) | omega | (simp only [World.size_alloc, World.size_setCell, World.size_drew]; omega)))
  have Hs := Lib.hid (hs.below B2); have Hd := Lib.hid (hd.below B2); have Hu := Lib.hid (hu.below B2)
  clear hs hd hu B2
  unfold Order.cells Facts.cells at *
  go_enter Tryz.func28, Tryz.ntmps28
  go_wp2_with (first
    | (go_at_call 62; go_loud (refine (ends_call f _ _ _ (by exact Hu.out) hn2).mono ?_; rintro e w1 ⟨rfl, hb1⟩; obtain ⟨hc1, hf1⟩ := bcell hb1; obtain ⟨hz1, hz2⟩ := below_two hb1); have Hu3 := Lib.hid (Hu.out.below hb1); have Hs3 := Lib.hid (Hs.out.below hb1); have Hd3 := Lib.hid (Hd.out.below hb1))
    | (go_at_call 63; go_loud (refine (fmay_call o f _ _ _ _ (by exact Hs3.out) (by exact Hd3.out) (by exact Hu3.out) hn).mono ?_; rintro e w1 ⟨rfl, hb2⟩)))
  all_goals
    go_ret
    refine ⟨?_, (by repeat' (first | with_reducible exact Below.refl _ _ | with_reducible assumption | refine Below.alloc ?_ ?_ _ | refine Below.setCell ?_ ?_ _ | refine Below.drew ?_ | refine Below.drewN ?_ _ | (apply below_then; with_reducible assumption) | omega | (simp only [World.size_alloc, World.size_setCell, World.size_drew]; omega)))⟩
    first
      | (simp [fOver, *]; done)
      | (exfalso; simp_all; done)
  all_goals trace_state

end Go.Proofs.YtcfaimmcedpgiaaGreatDoor
