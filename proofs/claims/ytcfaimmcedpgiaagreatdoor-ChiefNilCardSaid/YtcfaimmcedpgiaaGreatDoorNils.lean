/-
  chief: the methods at a chief that there isn't: contracts. A lemma file: no statement of the seat is proved here.
-/
import Derived.Test.YtcfaimmcedpgiaaGreatDoorSaga2
namespace Go.Proofs.YtcfaimmcedpgiaaGreatDoor
set_option linter.unusedVariables false
set_option linter.unusedSimpArgs false
open Go.RowKit

def zeroOrderV : Value := .agg #[(Value.int .i64 0), (Value.int .i64 0), (Value.int .i64 0), (Value.int .i64 0), (Value.int .i64 0), .slice none 0 0]
def zeroFactsV : Value := .agg #[.slice none 0 0, .slice none 0 0, .bool false, .bool false, .bool false, .bool false, .bool false, .bool false, .bool false, .bool false, .bool false]

theorem down_nil   (w : World) :
    Calls Tryz.prog 24 #[.pointer none ] w fun r w' => r = .returned (.bool false) ∧ Below w.heap.size w w' := by
  go_enter Tryz.func24, Tryz.ntmps24
  go_wp2
  all_goals exact bodyPost_ret (v := .bool false) (by simp [results, Tryz.results24, go_sem]) rfl ⟨rfl, (by repeat' (first | with_reducible exact Below.refl _ _ | with_reducible assumption | refine Below.alloc ?_ ?_ _ | refine Below.setCell ?_ ?_ _ | refine Below.drew ?_ | refine Below.drewN ?_ _ | (apply below_then; with_reducible assumption) | omega | (simp only [World.size_alloc, World.size_setCell, World.size_drew]; omega)))⟩
theorem crash_nil (a b : Int) (w : World) :
    Calls Tryz.prog 15 #[.pointer none, (Value.int .i64 a), (Value.int .i64 b)] w fun r w' => r = .returned (.tuple #[]) ∧ Below w.heap.size w w' := by
  go_enter Tryz.func15, Tryz.ntmps15
  go_wp2
  all_goals exact bodyPost_ret (v := .tuple #[]) (by simp [results, Tryz.results15, go_sem]) rfl ⟨rfl, (by repeat' (first | with_reducible exact Below.refl _ _ | with_reducible assumption | refine Below.alloc ?_ ?_ _ | refine Below.setCell ?_ ?_ _ | refine Below.drew ?_ | refine Below.drewN ?_ _ | (apply below_then; with_reducible assumption) | omega | (simp only [World.size_alloc, World.size_setCell, World.size_drew]; omega)))⟩
theorem start_nil   (w : World) :
    Calls Tryz.prog 16 #[.pointer none ] w fun r w' => r = .returned (.tuple #[]) ∧ Below w.heap.size w w' := by
  go_enter Tryz.func16, Tryz.ntmps16
  go_wp2
  all_goals exact bodyPost_ret (v := .tuple #[]) (by simp [results, Tryz.results16, go_sem]) rfl ⟨rfl, (by repeat' (first | with_reducible exact Below.refl _ _ | with_reducible assumption | refine Below.alloc ?_ ?_ _ | refine Below.setCell ?_ ?_ _ | refine Below.drew ?_ | refine Below.drewN ?_ _ | (apply below_then; with_reducible assumption) | omega | (simp only [World.size_alloc, World.size_setCell, World.size_drew]; omega)))⟩
theorem begin_nil (o0 o1 o2 o3 o4 : Int) (a : Option Addr) (n c : Nat) (w : World) :
    Calls Tryz.prog 17 #[.pointer none, .agg #[(Value.int .i64 o0), (Value.int .i64 o1), (Value.int .i64 o2), (Value.int .i64 o3), (Value.int .i64 o4), .slice a n c]] w fun r w' => r = .returned (.tuple #[.slice none 0 0, (Value.int .i64 1)]) ∧ Below w.heap.size w w' := by
  go_enter Tryz.func17, Tryz.ntmps17
  go_wp2
  all_goals exact bodyPost_ret (v := .tuple #[.slice none 0 0, (Value.int .i64 1)]) (by simp [results, Tryz.results17, go_sem]) rfl ⟨rfl, (by repeat' (first | with_reducible exact Below.refl _ _ | with_reducible assumption | refine Below.alloc ?_ ?_ _ | refine Below.setCell ?_ ?_ _ | refine Below.drew ?_ | refine Below.drewN ?_ _ | (apply below_then; with_reducible assumption) | omega | (simp only [World.size_alloc, World.size_setCell, World.size_drew]; omega)))⟩
theorem cancel_nil (a : Int) (w : World) :
    Calls Tryz.prog 18 #[.pointer none, (Value.int .i64 a)] w fun r w' => r = .returned (.tuple #[.slice none 0 0, (Value.int .i64 1)]) ∧ Below w.heap.size w w' := by
  go_enter Tryz.func18, Tryz.ntmps18
  go_wp2
  all_goals exact bodyPost_ret (v := .tuple #[.slice none 0 0, (Value.int .i64 1)]) (by simp [results, Tryz.results18, go_sem]) rfl ⟨rfl, (by repeat' (first | with_reducible exact Below.refl _ _ | with_reducible assumption | refine Below.alloc ?_ ?_ _ | refine Below.setCell ?_ ?_ _ | refine Below.drew ?_ | refine Below.drewN ?_ _ | (apply below_then; with_reducible assumption) | omega | (simp only [World.size_alloc, World.size_setCell, World.size_drew]; omega)))⟩
theorem ring_nil (a : Int) (w : World) :
    Calls Tryz.prog 20 #[.pointer none, (Value.int .i64 a)] w fun r w' => r = .returned (.slice none 0 0) ∧ Below w.heap.size w w' := by
  go_enter Tryz.func20, Tryz.ntmps20
  go_wp2
  all_goals exact bodyPost_ret (v := .slice none 0 0) (by simp [results, Tryz.results20, go_sem]) rfl ⟨rfl, (by repeat' (first | with_reducible exact Below.refl _ _ | with_reducible assumption | refine Below.alloc ?_ ?_ _ | refine Below.setCell ?_ ?_ _ | refine Below.drew ?_ | refine Below.drewN ?_ _ | (apply below_then; with_reducible assumption) | omega | (simp only [World.size_alloc, World.size_setCell, World.size_drew]; omega)))⟩
theorem accept_nil (a : Int) (w : World) :
    Calls Tryz.prog 22 #[.pointer none, (Value.int .i64 a)] w fun r w' => r = .returned ((Value.int .i64 1)) ∧ Below w.heap.size w w' := by
  go_enter Tryz.func22, Tryz.ntmps22
  go_wp2
  all_goals exact bodyPost_ret (v := (Value.int .i64 1)) (by simp [results, Tryz.results22, go_sem]) rfl ⟨rfl, (by repeat' (first | with_reducible exact Below.refl _ _ | with_reducible assumption | refine Below.alloc ?_ ?_ _ | refine Below.setCell ?_ ?_ _ | refine Below.drew ?_ | refine Below.drewN ?_ _ | (apply below_then; with_reducible assumption) | omega | (simp only [World.size_alloc, World.size_setCell, World.size_drew]; omega)))⟩
theorem state_nil (a : Int) (w : World) :
    Calls Tryz.prog 23 #[.pointer none, (Value.int .i64 a)] w fun r w' => r = .returned ((Value.int .i64 0)) ∧ Below w.heap.size w w' := by
  go_enter Tryz.func23, Tryz.ntmps23
  go_wp2
  all_goals exact bodyPost_ret (v := (Value.int .i64 0)) (by simp [results, Tryz.results23, go_sem]) rfl ⟨rfl, (by repeat' (first | with_reducible exact Below.refl _ _ | with_reducible assumption | refine Below.alloc ?_ ?_ _ | refine Below.setCell ?_ ?_ _ | refine Below.drew ?_ | refine Below.drewN ?_ _ | (apply below_then; with_reducible assumption) | omega | (simp only [World.size_alloc, World.size_setCell, World.size_drew]; omega)))⟩
theorem handle_nil (m0 m1 m2 m3 m4 m5 m6 : Int) (w : World) :
    Calls Tryz.prog 12 #[.pointer none, .agg #[(Value.int .i64 m0), (Value.int .i64 m1), (Value.int .i64 m2), (Value.int .i64 m3), (Value.int .i64 m4), (Value.int .i64 m5), (Value.int .i64 m6)]] w fun r w' => r = .returned (.slice none 0 0) ∧ Below w.heap.size w w' := by
  go_enter Tryz.func12, Tryz.ntmps12
  go_wp2
  all_goals exact bodyPost_ret (v := .slice none 0 0) (by simp [results, Tryz.results12, go_sem]) rfl ⟨rfl, (by repeat' (first | with_reducible exact Below.refl _ _ | with_reducible assumption | refine Below.alloc ?_ ?_ _ | refine Below.setCell ?_ ?_ _ | refine Below.drew ?_ | refine Below.drewN ?_ _ | (apply below_then; with_reducible assumption) | omega | (simp only [World.size_alloc, World.size_setCell, World.size_drew]; omega)))⟩

theorem facts_nil (a : Int) (w : World) :
    Calls Tryz.prog 19 #[.pointer none, (Value.int .i64 a)] w fun r w' => r = .returned (.tuple #[.agg #[(Value.int .i64 0), (Value.int .i64 0), (Value.int .i64 0), (Value.int .i64 0), (Value.int .i64 0), .slice none 0 0], .agg #[.slice none 0 0, .slice none 0 0, .bool false, .bool false, .bool false, .bool false, .bool false, .bool false, .bool false, .bool false, .bool false], .bool false]) ∧ Below w.heap.size w w' := by
  go_enter Tryz.func19, Tryz.ntmps19
  go_wp2
  have hA : Has ((w.alloc (.cells #[(Value.int .i64 0), (Value.int .i64 0), (Value.int .i64 0), (Value.int .i64 0), (Value.int .i64 0), .slice none 0 0] 27)).alloc (.cells #[.slice none 0 0, .slice none 0 0, .bool false, .bool false, .bool false, .bool false, .bool false, .bool false, .bool false, .bool false, .bool false] 53)) ((w.heap.size + 1, .cells #[.slice none 0 0, .slice none 0 0, .bool false, .bool false, .bool false, .bool false, .bool false, .bool false, .bool false, .bool false, .bool false] 53) :: (w.heap.size, .cells #[(Value.int .i64 0), (Value.int .i64 0), (Value.int .i64 0), (Value.int .i64 0), (Value.int .i64 0), .slice none 0 0] 27) :: []) := (((Has.nil w).alloc _).alloc _).sub (by intro x; simp only [cnt_append, cnt_cons, cnt_nil, List.tail_cons, World.size_alloc, World.size_setCell, World.size_drew, List.setIfInBounds_toArray, List.set_cons_zero, List.set_cons_succ] <;> omega)
  have x0 := (hA).cellh 0; have x1 := (hA).cellh 1; have x2 := (hA).cellh 2; have x3 := (hA).cellh 3; have x4 := (hA).cellh 4; have x5 := (hA).cellh 5; have x6 := (hA).cellh 6; have x7 := (hA).cellh 7; have x8 := (hA).cellh 8; have x9 := (hA).cellh 9; have x10 := (hA).cellh 10; simp at x0 x1 x2 x3 x4 x5 x6 x7 x8 x9 x10
  have y0 := (hA.tail).cellh 0; have y1 := (hA.tail).cellh 1; have y2 := (hA.tail).cellh 2; have y3 := (hA.tail).cellh 3; have y4 := (hA.tail).cellh 4; have y5 := (hA.tail).cellh 5; simp at y0 y1 y2 y3 y4 y5
  exact bodyPost_ret (v := .tuple #[.agg #[(Value.int .i64 0), (Value.int .i64 0), (Value.int .i64 0), (Value.int .i64 0), (Value.int .i64 0), .slice none 0 0], .agg #[.slice none 0 0, .slice none 0 0, .bool false, .bool false, .bool false, .bool false, .bool false, .bool false, .bool false, .bool false, .bool false], .bool false]) (by simp [results, Tryz.results19, go_sem]) rfl ⟨rfl, (by repeat' (first | with_reducible exact Below.refl _ _ | with_reducible assumption | refine Below.alloc ?_ ?_ _ | refine Below.setCell ?_ ?_ _ | refine Below.drew ?_ | refine Below.drewN ?_ _ | (apply below_then; with_reducible assumption) | omega | (simp only [World.size_alloc, World.size_setCell, World.size_drew]; omega)))⟩

theorem values_nil (w : World) :
    Calls Tryz.prog 59 #[.slice none 0 0] w fun r w' => r = .returned (.func (.func 88) #[] #[.pointer (some ⟨w.heap.size, 0, none⟩)]) ∧ w' = w.alloc (.cells #[.slice none 0 0] 57) := by
  go_enter Tryz.func59, Tryz.ntmps59
  go_wp2
  exact bodyPost_ret (v := .func (.func 88) #[] #[.pointer (some ⟨w.heap.size, 0, none⟩)]) (by simp [results, Tryz.results59, go_sem]) rfl ⟨rfl, rfl⟩

theorem ids_nil0 (w : World) :
    Calls Tryz.prog 27 #[.pointer none] w fun r w' => r = .returned (.func (.func 88) #[] #[.pointer (some ⟨w.heap.size, 0, none⟩)]) ∧ w' = w.alloc (.cells #[.slice none 0 0] 57) := by
  go_enter Tryz.func27, Tryz.ntmps27
  go_wp2_with fail
  refine (values_nil w).mono ?_
  rintro r w1 ⟨rfl, rfl⟩
  go_wp2
  exact bodyPost_ret (v := .func (.func 88) #[] #[.pointer (some ⟨w.heap.size, 0, none⟩)]) (by simp [results, Tryz.results27, go_sem]) rfl ⟨rfl, rfl⟩

theorem run_eql_func (w : World) (fn : Fn) (lb rb : Array Value) : (binOp .eql 66 (.func fn lb rb) .nilFunc).run Tryz.prog w = .ok (.bool false) w := by
  have h : ∀ d : Nat, (Op.equalIn (d + 1) 66 (.func fn lb rb) .nilFunc).run Tryz.prog w = .ok false w := fun d => by
    simp [Op.equalIn, run_underlying Tryz.underlying66]
  simp only [binOp]
  simp [Op.equal, Op.maxDepth, h 9999]

end Go.Proofs.YtcfaimmcedpgiaaGreatDoor
