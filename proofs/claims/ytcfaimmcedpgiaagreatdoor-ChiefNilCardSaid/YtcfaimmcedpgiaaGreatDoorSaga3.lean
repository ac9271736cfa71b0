/-
  saga: what is sent: tell, decision, undo, forward, Next: the contracts. A lemma file: no statement of the seat is proved here.
-/
import Derived.Test.YtcfaimmcedpgiaaGreatDoorSaga2
import Derived.Test.YtcfaimmcedpgiaaGreatDoorIter
namespace Go.Proofs.YtcfaimmcedpgiaaGreatDoor
set_option linter.unusedVariables false
set_option linter.unusedSimpArgs false
open Go.RowKit

def Msg.agg (m : Msg) : Value := .agg #[(Value.int .i64 m.kind), (Value.int .i64 m.frm), (Value.int .i64 m.dest), (Value.int .i64 m.id), (Value.int .i64 m.step), (Value.int .i64 m.a), (Value.int .i64 m.b)]
def tellM (kind to_ : Int) (o : Order) : Msg := { kind, frm := 0, dest := to_, id := o.id, step := 0, a := 0, b := 0 }
def decide1 (kind : Int) (o : Order) (ack : Bool) (to_ : Int) : List Msg := if ack then [] else [tellM kind to_ o]
def decisionM (kind : Int) (o : Order) (f : Facts) : List Msg := decide1 kind o f.ack0 1 ++ decide1 kind o f.ack1 2

theorem tell_call (kind to_ : Int) (o : Order) (sl : Value) (w : World) :
    Calls Tryz.prog 112 #[(Value.int .i64 kind), (Value.int .i64 to_), .agg (o.cells sl)] w fun e w' => e = .returned (.agg #[(Value.int .i64 kind), (Value.int .i64 0), (Value.int .i64 to_), (Value.int .i64 o.id), (Value.int .i64 0), (Value.int .i64 0), (Value.int .i64 0)]) ∧ Below w.heap.size w w' := by
  unfold Order.cells
  go_enter Tryz.func112, Tryz.ntmps112
  go_wp2
  refine bodyPost_ret (v := .agg #[(Value.int .i64 kind), (Value.int .i64 0), (Value.int .i64 to_), (Value.int .i64 o.id), (Value.int .i64 0), (Value.int .i64 0), (Value.int .i64 0)]) (by simp [results, Tryz.results112, go_sem]) rfl ⟨rfl, ?_⟩
  exact (by repeat' (first | with_reducible exact Below.refl _ _ | with_reducible assumption | refine Below.alloc ?_ ?_ _ | refine Below.setCell ?_ ?_ _ | refine Below.drew ?_ | refine Below.drewN ?_ _ | (apply below_then; with_reducible assumption) | omega | (simp only [World.size_alloc, World.size_setCell, World.size_drew]; omega)))


theorem elem_msg : Elem Tryz.prog 28 39 7 56 := by
  refine ⟨Tryz.underlying28, ?_, by decide, by decide⟩
  obtain ⟨i, h1, h2, h3, h4⟩ := info_parts (show (Tryz.prog.info? 39).map (fun i => (i.zero, i.size, i.bytes)) = some (some (.agg #[(Value.int .i64 0), (Value.int .i64 0), (Value.int .i64 0), (Value.int .i64 0), (Value.int .i64 0), (Value.int .i64 0), (Value.int .i64 0)]), 7, 56) by kernel_rfl)
  exact ⟨i, _, h1, h2, h3, h4, rfl⟩

/-- One message in a new block of its own, as a slice. -/
theorem SlAt.one {w : World} {b : Nat} {m : Msg} (h : w.heap[b]? = some (.cells #[(Value.int .i64 m.kind), (Value.int .i64 m.frm), (Value.int .i64 m.dest), (Value.int .i64 m.id), (Value.int .i64 m.step), (Value.int .i64 m.a), (Value.int .i64 m.b)] 39)) (cap : Nat) : SlAt w Msg.enc 7 (.slice (some ⟨b, 0, none⟩) 1 cap) [m] := by
  refine .inr ⟨b, 0, cap, rfl, fun k x hx j u hu => ?_⟩
  obtain rfl : k = 0 := by have := (List.getElem?_eq_some_iff.1 hx).1; simp at this; exact this
  obtain rfl : m = x := by simpa using hx
  simp only [World.cell?, Nat.zero_mul, Nat.add_zero, Nat.zero_add, h]
  simpa [Msg.enc] using hu

def decUpto (kind : Int) (o : Order) (f : Facts) : Nat → List Msg
  | 0 => []
  | 1 => decide1 kind o f.ack0 1
  | _ => decisionM kind o f

theorem two_at0 (w : World) : (Instr.index 175 (.agg #[.int .i64 1, .int .i64 2]) (.int .i64 0)).run Tryz.prog w = .ok (.int .i64 1) w := by kernel_rfl
theorem two_at1 (w : World) : (Instr.index 175 (.agg #[.int .i64 1, .int .i64 2]) (.int .i64 1)).run Tryz.prog w = .ok (.int .i64 2) w := by kernel_rfl
set_option maxRecDepth 100000 in
set_option maxHeartbeats 1600000 in
theorem decision_call (kind : Int) (o : Order) (f : Facts) (sl dv uv : Value) (w : World) (F : HL) (hw : Has w F) :
    Calls Tryz.prog 110 #[(Value.int .i64 kind), .agg (o.cells sl), .agg (f.cells dv uv)] w fun e w' => ∃ v L, e = .returned v ∧ SlR Msg.enc 7 39 v (decisionM kind o f) L ∧ Has w' (L ++ F) ∧ Kin w w' := by
  obtain ⟨done, undone, asked, yes, turned, ack0, ack1, shipped, dmg0, dmg1, accepted⟩ := f
  unfold Order.cells Facts.cells
  dsimp only
  have hE := Lib.hid elem_msg
  have Hw := Lib.hid ((hw.alloc (.cells #[(Value.int .i64 o.id), (Value.int .i64 o.item), (Value.int .i64 o.qty), (Value.int .i64 o.client), (Value.int .i64 o.price), sl] 27)).alloc (.cells #[dv, uv, .bool asked, .bool yes, .bool turned, .bool ack0, .bool ack1, .bool shipped, .bool dmg0, .bool dmg1, .bool accepted] 53))
  clear hw
  go_enter Tryz.func110, Tryz.ntmps110
  go_wp2
  go_loopw [7, 11] (fun out i wr => ∃ L, ((i = .int .i64 0 ∧ SlR Msg.enc 7 39 out [] L) ∨ (i = .int .i64 1 ∧ SlR Msg.enc 7 39 out (decide1 kind o ack0 1) L) ∨ (i = .int .i64 2 ∧ SlR Msg.enc 7 39 out (decide1 kind o ack0 1 ++ decide1 kind o ack1 2) L)) ∧
      Has wr (L ++ ((w.heap.size + 1, .cells #[dv, uv, .bool asked, .bool yes, .bool turned, .bool ack0, .bool ack1, .bool shipped, .bool dmg0, .bool dmg1, .bool accepted] 53) :: (w.heap.size, .cells #[(Value.int .i64 o.id), (Value.int .i64 o.item), (Value.int .i64 o.qty), (Value.int .i64 o.client), (Value.int .i64 o.price), sl] 27) :: F)) ∧ Kin w wr) (fun _ i _ => (2 - intOf i).toNat)
  case atStart => exact ⟨[], .inl ⟨rfl, .nil⟩, by have := Hw.out; simpa using this, ((Kin.refl w).alloc _).alloc _⟩
  case round =>
    obtain ⟨L, hd, hwr, hkin⟩ := hrel
    have hF := hwr.right
    have hO := hF.tail
    have b0 := hO.lth
    have b1 := hF.lth
    have x0 := hO.cellh 0; have x1 := hO.cellh 1; have x2 := hO.cellh 2; have x3 := hO.cellh 3; have x4 := hO.cellh 4; have x5 := hO.cellh 5
    have y5 := hF.cellh 5; have y6 := hF.cellh 6
    simp at x0 x1 x2 x3 x4 x5 y5 y6
    have hle : w.heap.size ≤ wr.heap.size := by omega
    have Hwr := Lib.hid hwr
    clear hwr hF hO
    have i0 := two_at0; have i1 := two_at1
    rcases hd with ⟨rfl, hR⟩ | ⟨rfl, hR⟩ | ⟨rfl, hR⟩
    · have HR := Lib.hid hR; clear hR
      cases ack0
      · go_wp2_with fail
        refine (tell_call kind 1 o sl wr).mono ?_
        rintro e w1 ⟨rfl, hb1⟩
        have hw1 := (Hwr.out.below_all hb1).alloc (.cells #[(Value.int .i64 kind), (Value.int .i64 0), (Value.int .i64 1), (Value.int .i64 o.id), (Value.int .i64 0), (Value.int .i64 0), (Value.int .i64 0)] 39)
        have hx := SlAt.one (m := tellM kind 1 o) (w := w1.alloc (.cells #[(Value.int .i64 kind), (Value.int .i64 0), (Value.int .i64 1), (Value.int .i64 o.id), (Value.int .i64 0), (Value.int .i64 0), (Value.int .i64 0)] 39)) (b := w1.heap.size) hw1.head 1
        have Hw1 := Lib.hid hw1.tail; have Hx := Lib.hid hx
        clear hw1 hx
        go_wp2_with (at_builtin; go_loud (refine wpList_append_has rfl _ _ 28 rfl encMsg hE.out rfl rfl HR.out Hw1.out Hx.out (by simp) ?_); intro v' w' L' h1 h2 h3)
        go_roundw
        case rel => exact ⟨L', .inr (.inl ⟨rfl, h1⟩), h2, hkin.trans ((Kin.of_below hb1).trans (((Kin.refl _).alloc _).trans h3))⟩
        case measure => simp [intOf]
      · go_wp2
        go_roundw
        case rel => exact ⟨L, .inr (.inl ⟨rfl, HR.out⟩), Hwr.out, hkin⟩
        case measure => simp [intOf]
    · have HR := Lib.hid hR; clear hR
      cases ack1
      · go_wp2_with fail
        refine (tell_call kind 2 o sl wr).mono ?_
        rintro e w1 ⟨rfl, hb1⟩
        have hw1 := (Hwr.out.below_all hb1).alloc (.cells #[(Value.int .i64 kind), (Value.int .i64 0), (Value.int .i64 2), (Value.int .i64 o.id), (Value.int .i64 0), (Value.int .i64 0), (Value.int .i64 0)] 39)
        have hx := SlAt.one (m := tellM kind 2 o) (w := w1.alloc (.cells #[(Value.int .i64 kind), (Value.int .i64 0), (Value.int .i64 2), (Value.int .i64 o.id), (Value.int .i64 0), (Value.int .i64 0), (Value.int .i64 0)] 39)) (b := w1.heap.size) hw1.head 1
        have Hw1 := Lib.hid hw1.tail; have Hx := Lib.hid hx
        clear hw1 hx
        have Hlen := Lib.hid (show (decide1 kind o ack0 1).length + [tellM kind 2 o].length ≤ 1000000000 by unfold decide1; split <;> simp)
        go_wp2_with (at_builtin; go_loud (refine wpList_append_has rfl _ _ 28 rfl encMsg hE.out rfl rfl HR.out Hw1.out Hx.out Hlen.out ?_); intro v' w' L' h1 h2 h3)
        go_roundw
        case rel => exact ⟨L', .inr (.inr ⟨rfl, h1⟩), h2, hkin.trans ((Kin.of_below hb1).trans (((Kin.refl _).alloc _).trans h3))⟩
        case measure => simp [intOf]
      · go_wp2
        go_roundw
        case rel => exact ⟨L, .inr (.inr ⟨rfl, by simpa [decide1] using HR.out⟩), Hwr.out, hkin⟩
        case measure => simp [intOf]
    · have HR := Lib.hid hR; clear hR
      go_wp2
      go_ret
      exact ⟨_, L, rfl, HR.out, (Hwr.out.re (B := L ++ F ++ [(w.heap.size + 1, .cells #[dv, uv, .bool asked, .bool yes, .bool turned, .bool ack0, .bool ack1, .bool shipped, .bool dmg0, .bool dmg1, .bool accepted] 53), (w.heap.size, .cells #[(Value.int .i64 o.id), (Value.int .i64 o.item), (Value.int .i64 o.qty), (Value.int .i64 o.client), (Value.int .i64 o.price), sl] 27)]) (by intro x; simp only [cnt_append, cnt_cons, cnt_nil, List.tail_cons, World.size_alloc, World.size_setCell, World.size_drew, List.setIfInBounds_toArray, List.set_cons_zero, List.set_cons_succ] <;> omega)).left, hkin⟩

end Go.Proofs.YtcfaimmcedpgiaaGreatDoor
