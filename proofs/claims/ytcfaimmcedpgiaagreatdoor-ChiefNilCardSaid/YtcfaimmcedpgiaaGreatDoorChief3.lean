/-
  chief: facts: the contract. A lemma file: no statement of the seat is proved here.
-/
import Derived.Test.YtcfaimmcedpgiaaGreatDoorChief2
namespace Go.Proofs.YtcfaimmcedpgiaaGreatDoor
set_option linter.unusedVariables false
set_option linter.unusedSimpArgs false
open Go.RowKit

def kAsked : ByteArray := ⟨#[97, 115, 107, 101, 100]⟩
def kDone : ByteArray := ⟨#[100, 111, 110, 101]⟩
def kUndone : ByteArray := ⟨#[117, 110, 100, 111, 110, 101]⟩
def kYes : ByteArray := ⟨#[121, 101, 115]⟩
def kTurn : ByteArray := ⟨#[116, 117, 114, 110]⟩
def kAck : ByteArray := ⟨#[97, 99, 107]⟩
def kDamage : ByteArray := ⟨#[100, 97, 109, 97, 103, 101]⟩
def kShipped : ByteArray := ⟨#[115, 104, 105, 112, 112, 101, 100]⟩
def kAccept : ByteArray := ⟨#[97, 99, 99, 101, 112, 116]⟩

set_option maxRecDepth 100000 in
theorem facts_shipped (p : Nat) (o : Order) (done undone : List Bool) (asked yes turned ack0 ack1 shipped dmg0 dmg1 accepted : Bool) (t : Option TallyM) (n : Int) (w : World) (L F : HL) (hw : Has w (L ++ F)) (hx : LedR p ⟨o, ⟨done, undone, asked, yes, turned, ack0, ack1, shipped, dmg0, dmg1, accepted⟩, t⟩ L) :
    Calls Tryz.prog 80 #[.pointer (some ⟨p, 0, none⟩), .string kShipped, (Value.int .i64 n)] w fun e w' => e = .returned (.tuple #[]) ∧ ∃ L', LedR p ⟨o, ⟨done, undone, asked, yes, turned, ack0, ack1, true, dmg0, dmg1, accepted⟩, t⟩ L' ∧ Has w' (L' ++ F) ∧ Kin w w' := by
  obtain ⟨sl, dv, uv, tp, Ls, Ld, Lu, Lt, rfl, hS, hD, hU, hT⟩ := hx
  unfold Led.cells at hw
  dsimp only at hw hS hD hU hT
  have hw0 : Has w ((p, .cells #[(Value.int .i64 o.id), (Value.int .i64 o.item), (Value.int .i64 o.qty), (Value.int .i64 o.client), (Value.int .i64 o.price), sl, dv, uv, .bool asked, .bool yes, .bool turned, .bool ack0, .bool ack1, .bool shipped, .bool dmg0, .bool dmg1, .bool accepted, tp] 78) :: (Ls ++ Ld ++ Lu ++ Lt ++ F)) := hw
  obtain ⟨tq, rfl⟩ : ∃ q, tp = .pointer q := by
    rcases hT with ⟨_, rfl, _⟩ | ⟨b, x, rfl, _⟩
    · exact ⟨_, rfl⟩
    · exact ⟨_, rfl⟩
  have p0 := hw0.lth
  have x0 := (hw0).cellh 0; have x1 := (hw0).cellh 1; have x2 := (hw0).cellh 2; have x3 := (hw0).cellh 3; have x4 := (hw0).cellh 4; have x5 := (hw0).cellh 5; have x6 := (hw0).cellh 6; have x7 := (hw0).cellh 7; have x8 := (hw0).cellh 8; have x9 := (hw0).cellh 9; have x10 := (hw0).cellh 10; have x11 := (hw0).cellh 11; have x12 := (hw0).cellh 12; have x13 := (hw0).cellh 13; have x14 := (hw0).cellh 14; have x15 := (hw0).cellh 15; have x16 := (hw0).cellh 16; have x17 := (hw0).cellh 17; simp at x0 x1 x2 x3 x4 x5 x6 x7 x8 x9 x10 x11 x12 x13 x14 x15 x16 x17
  have f0 := (hw0).freeh 0; have f1 := (hw0).freeh 1; have f2 := (hw0).freeh 2; have f3 := (hw0).freeh 3; have f4 := (hw0).freeh 4; have f5 := (hw0).freeh 5; have f6 := (hw0).freeh 6; have f7 := (hw0).freeh 7; have f8 := (hw0).freeh 8; have f9 := (hw0).freeh 9; have f10 := (hw0).freeh 10; have f11 := (hw0).freeh 11; have f12 := (hw0).freeh 12; have f13 := (hw0).freeh 13; have f14 := (hw0).freeh 14; have f15 := (hw0).freeh 15; have f16 := (hw0).freeh 16; have f17 := (hw0).freeh 17
  have Hw := Lib.hid hw0
  clear hw hw0
  unfold kShipped
  go_enter Tryz.func80, Tryz.ntmps80
  go_wp2
  refine bodyPost_end (v := .tuple #[]) (by simp [results, Tryz.results80, go_sem]) rfl ⟨rfl, _, ⟨sl, dv, uv, (.pointer tq), Ls, Ld, Lu, Lt, rfl, hS, hD, hU, hT⟩, ?_, ⟨rfl, rfl, rfl⟩⟩
  · unfold Led.cells
    refine Has.sub (Hw.out.setCell 13 (.bool true)) ?_
    intro x; simp only [cnt_append, cnt_cons, cnt_nil, List.tail_cons, World.size_alloc, World.size_setCell, World.size_drew, List.setIfInBounds_toArray, List.set_cons_zero, List.set_cons_succ] <;> omega

set_option maxRecDepth 100000 in
theorem facts_accept (p : Nat) (o : Order) (done undone : List Bool) (asked yes turned ack0 ack1 shipped dmg0 dmg1 accepted : Bool) (t : Option TallyM) (n : Int) (w : World) (L F : HL) (hw : Has w (L ++ F)) (hx : LedR p ⟨o, ⟨done, undone, asked, yes, turned, ack0, ack1, shipped, dmg0, dmg1, accepted⟩, t⟩ L) :
    Calls Tryz.prog 80 #[.pointer (some ⟨p, 0, none⟩), .string kAccept, (Value.int .i64 n)] w fun e w' => e = .returned (.tuple #[]) ∧ ∃ L', LedR p ⟨o, ⟨done, undone, asked, yes, turned, ack0, ack1, shipped, dmg0, dmg1, true⟩, t⟩ L' ∧ Has w' (L' ++ F) ∧ Kin w w' := by
  obtain ⟨sl, dv, uv, tp, Ls, Ld, Lu, Lt, rfl, hS, hD, hU, hT⟩ := hx
  unfold Led.cells at hw
  dsimp only at hw hS hD hU hT
  have hw0 : Has w ((p, .cells #[(Value.int .i64 o.id), (Value.int .i64 o.item), (Value.int .i64 o.qty), (Value.int .i64 o.client), (Value.int .i64 o.price), sl, dv, uv, .bool asked, .bool yes, .bool turned, .bool ack0, .bool ack1, .bool shipped, .bool dmg0, .bool dmg1, .bool accepted, tp] 78) :: (Ls ++ Ld ++ Lu ++ Lt ++ F)) := hw
  obtain ⟨tq, rfl⟩ : ∃ q, tp = .pointer q := by
    rcases hT with ⟨_, rfl, _⟩ | ⟨b, x, rfl, _⟩
    · exact ⟨_, rfl⟩
    · exact ⟨_, rfl⟩
  have p0 := hw0.lth
  have x0 := (hw0).cellh 0; have x1 := (hw0).cellh 1; have x2 := (hw0).cellh 2; have x3 := (hw0).cellh 3; have x4 := (hw0).cellh 4; have x5 := (hw0).cellh 5; have x6 := (hw0).cellh 6; have x7 := (hw0).cellh 7; have x8 := (hw0).cellh 8; have x9 := (hw0).cellh 9; have x10 := (hw0).cellh 10; have x11 := (hw0).cellh 11; have x12 := (hw0).cellh 12; have x13 := (hw0).cellh 13; have x14 := (hw0).cellh 14; have x15 := (hw0).cellh 15; have x16 := (hw0).cellh 16; have x17 := (hw0).cellh 17; simp at x0 x1 x2 x3 x4 x5 x6 x7 x8 x9 x10 x11 x12 x13 x14 x15 x16 x17
  have f0 := (hw0).freeh 0; have f1 := (hw0).freeh 1; have f2 := (hw0).freeh 2; have f3 := (hw0).freeh 3; have f4 := (hw0).freeh 4; have f5 := (hw0).freeh 5; have f6 := (hw0).freeh 6; have f7 := (hw0).freeh 7; have f8 := (hw0).freeh 8; have f9 := (hw0).freeh 9; have f10 := (hw0).freeh 10; have f11 := (hw0).freeh 11; have f12 := (hw0).freeh 12; have f13 := (hw0).freeh 13; have f14 := (hw0).freeh 14; have f15 := (hw0).freeh 15; have f16 := (hw0).freeh 16; have f17 := (hw0).freeh 17
  have Hw := Lib.hid hw0
  clear hw hw0
  unfold kAccept
  go_enter Tryz.func80, Tryz.ntmps80
  go_wp2
  refine bodyPost_end (v := .tuple #[]) (by simp [results, Tryz.results80, go_sem]) rfl ⟨rfl, _, ⟨sl, dv, uv, (.pointer tq), Ls, Ld, Lu, Lt, rfl, hS, hD, hU, hT⟩, ?_, ⟨rfl, rfl, rfl⟩⟩
  · unfold Led.cells
    refine Has.sub (Hw.out.setCell 16 (.bool true)) ?_
    intro x; simp only [cnt_append, cnt_cons, cnt_nil, List.tail_cons, World.size_alloc, World.size_setCell, World.size_drew, List.setIfInBounds_toArray, List.set_cons_zero, List.set_cons_succ] <;> omega

set_option maxRecDepth 100000 in
theorem facts_yes (p : Nat) (o : Order) (done undone : List Bool) (asked yes turned ack0 ack1 shipped dmg0 dmg1 accepted : Bool) (t : Option TallyM) (n : Int) (w : World) (L F : HL) (hw : Has w (L ++ F)) (hx : LedR p ⟨o, ⟨done, undone, asked, yes, turned, ack0, ack1, shipped, dmg0, dmg1, accepted⟩, t⟩ L) :
    Calls Tryz.prog 80 #[.pointer (some ⟨p, 0, none⟩), .string kYes, (Value.int .i64 n)] w fun e w' => e = .returned (.tuple #[]) ∧ ∃ L', LedR p ⟨o, ⟨done, undone, asked, true, turned, ack0, ack1, shipped, dmg0, dmg1, accepted⟩, none⟩ L' ∧ Has w' (L' ++ F) ∧ Kin w w' := by
  obtain ⟨sl, dv, uv, tp, Ls, Ld, Lu, Lt, rfl, hS, hD, hU, hT⟩ := hx
  unfold Led.cells at hw
  dsimp only at hw hS hD hU hT
  have hw0 : Has w ((p, .cells #[(Value.int .i64 o.id), (Value.int .i64 o.item), (Value.int .i64 o.qty), (Value.int .i64 o.client), (Value.int .i64 o.price), sl, dv, uv, .bool asked, .bool yes, .bool turned, .bool ack0, .bool ack1, .bool shipped, .bool dmg0, .bool dmg1, .bool accepted, tp] 78) :: (Ls ++ Ld ++ Lu ++ Lt ++ F)) := hw
  obtain ⟨tq, rfl⟩ : ∃ q, tp = .pointer q := by
    rcases hT with ⟨_, rfl, _⟩ | ⟨b, x, rfl, _⟩
    · exact ⟨_, rfl⟩
    · exact ⟨_, rfl⟩
  have p0 := hw0.lth
  have x0 := (hw0).cellh 0; have x1 := (hw0).cellh 1; have x2 := (hw0).cellh 2; have x3 := (hw0).cellh 3; have x4 := (hw0).cellh 4; have x5 := (hw0).cellh 5; have x6 := (hw0).cellh 6; have x7 := (hw0).cellh 7; have x8 := (hw0).cellh 8; have x9 := (hw0).cellh 9; have x10 := (hw0).cellh 10; have x11 := (hw0).cellh 11; have x12 := (hw0).cellh 12; have x13 := (hw0).cellh 13; have x14 := (hw0).cellh 14; have x15 := (hw0).cellh 15; have x16 := (hw0).cellh 16; have x17 := (hw0).cellh 17; simp at x0 x1 x2 x3 x4 x5 x6 x7 x8 x9 x10 x11 x12 x13 x14 x15 x16 x17
  have f0 := (hw0).freeh 0; have f1 := (hw0).freeh 1; have f2 := (hw0).freeh 2; have f3 := (hw0).freeh 3; have f4 := (hw0).freeh 4; have f5 := (hw0).freeh 5; have f6 := (hw0).freeh 6; have f7 := (hw0).freeh 7; have f8 := (hw0).freeh 8; have f9 := (hw0).freeh 9; have f10 := (hw0).freeh 10; have f11 := (hw0).freeh 11; have f12 := (hw0).freeh 12; have f13 := (hw0).freeh 13; have f14 := (hw0).freeh 14; have f15 := (hw0).freeh 15; have f16 := (hw0).freeh 16; have f17 := (hw0).freeh 17
  have Hw := Lib.hid hw0
  clear hw hw0
  unfold kYes
  go_enter Tryz.func80, Tryz.ntmps80
  go_wp2
  refine bodyPost_end (v := .tuple #[]) (by simp [results, Tryz.results80, go_sem]) rfl ⟨rfl, _, ⟨sl, dv, uv, (.pointer none), Ls, Ld, Lu, [], rfl, hS, hD, hU, (.inl ⟨rfl, rfl, rfl⟩)⟩, ?_, ⟨rfl, rfl, rfl⟩⟩
  · unfold Led.cells
    refine Has.sub (Hw.out.setCell 9 (.bool true) |>.setCell 17 (.pointer none)) ?_
    intro x; simp only [cnt_append, cnt_cons, cnt_nil, List.tail_cons, World.size_alloc, World.size_setCell, World.size_drew, List.setIfInBounds_toArray, List.set_cons_zero, List.set_cons_succ] <;> omega

set_option maxRecDepth 100000 in
theorem facts_turn (p : Nat) (o : Order) (done undone : List Bool) (asked yes turned ack0 ack1 shipped dmg0 dmg1 accepted : Bool) (t : Option TallyM) (n : Int) (w : World) (L F : HL) (hw : Has w (L ++ F)) (hx : LedR p ⟨o, ⟨done, undone, asked, yes, turned, ack0, ack1, shipped, dmg0, dmg1, accepted⟩, t⟩ L) :
    Calls Tryz.prog 80 #[.pointer (some ⟨p, 0, none⟩), .string kTurn, (Value.int .i64 n)] w fun e w' => e = .returned (.tuple #[]) ∧ ∃ L', LedR p ⟨o, ⟨done, undone, asked, yes, true, ack0, ack1, shipped, dmg0, dmg1, accepted⟩, none⟩ L' ∧ Has w' (L' ++ F) ∧ Kin w w' := by
  obtain ⟨sl, dv, uv, tp, Ls, Ld, Lu, Lt, rfl, hS, hD, hU, hT⟩ := hx
  unfold Led.cells at hw
  dsimp only at hw hS hD hU hT
  have hw0 : Has w ((p, .cells #[(Value.int .i64 o.id), (Value.int .i64 o.item), (Value.int .i64 o.qty), (Value.int .i64 o.client), (Value.int .i64 o.price), sl, dv, uv, .bool asked, .bool yes, .bool turned, .bool ack0, .bool ack1, .bool shipped, .bool dmg0, .bool dmg1, .bool accepted, tp] 78) :: (Ls ++ Ld ++ Lu ++ Lt ++ F)) := hw
  obtain ⟨tq, rfl⟩ : ∃ q, tp = .pointer q := by
    rcases hT with ⟨_, rfl, _⟩ | ⟨b, x, rfl, _⟩
    · exact ⟨_, rfl⟩
    · exact ⟨_, rfl⟩
  have p0 := hw0.lth
  have x0 := (hw0).cellh 0; have x1 := (hw0).cellh 1; have x2 := (hw0).cellh 2; have x3 := (hw0).cellh 3; have x4 := (hw0).cellh 4; have x5 := (hw0).cellh 5; have x6 := (hw0).cellh 6; have x7 := (hw0).cellh 7; have x8 := (hw0).cellh 8; have x9 := (hw0).cellh 9; have x10 := (hw0).cellh 10; have x11 := (hw0).cellh 11; have x12 := (hw0).cellh 12; have x13 := (hw0).cellh 13; have x14 := (hw0).cellh 14; have x15 := (hw0).cellh 15; have x16 := (hw0).cellh 16; have x17 := (hw0).cellh 17; simp at x0 x1 x2 x3 x4 x5 x6 x7 x8 x9 x10 x11 x12 x13 x14 x15 x16 x17
  have f0 := (hw0).freeh 0; have f1 := (hw0).freeh 1; have f2 := (hw0).freeh 2; have f3 := (hw0).freeh 3; have f4 := (hw0).freeh 4; have f5 := (hw0).freeh 5; have f6 := (hw0).freeh 6; have f7 := (hw0).freeh 7; have f8 := (hw0).freeh 8; have f9 := (hw0).freeh 9; have f10 := (hw0).freeh 10; have f11 := (hw0).freeh 11; have f12 := (hw0).freeh 12; have f13 := (hw0).freeh 13; have f14 := (hw0).freeh 14; have f15 := (hw0).freeh 15; have f16 := (hw0).freeh 16; have f17 := (hw0).freeh 17
  have Hw := Lib.hid hw0
  clear hw hw0
  unfold kTurn
  go_enter Tryz.func80, Tryz.ntmps80
  go_wp2
  refine bodyPost_end (v := .tuple #[]) (by simp [results, Tryz.results80, go_sem]) rfl ⟨rfl, _, ⟨sl, dv, uv, (.pointer none), Ls, Ld, Lu, [], rfl, hS, hD, hU, (.inl ⟨rfl, rfl, rfl⟩)⟩, ?_, ⟨rfl, rfl, rfl⟩⟩
  · unfold Led.cells
    refine Has.sub (Hw.out.setCell 10 (.bool true) |>.setCell 17 (.pointer none)) ?_
    intro x; simp only [cnt_append, cnt_cons, cnt_nil, List.tail_cons, World.size_alloc, World.size_setCell, World.size_drew, List.setIfInBounds_toArray, List.set_cons_zero, List.set_cons_succ] <;> omega

set_option maxRecDepth 100000 in
theorem facts_ack0 (p : Nat) (o : Order) (done undone : List Bool) (asked yes turned ack0 ack1 shipped dmg0 dmg1 accepted : Bool) (t : Option TallyM) (n : Int) (w : World) (L F : HL) (hw : Has w (L ++ F)) (hx : LedR p ⟨o, ⟨done, undone, asked, yes, turned, ack0, ack1, shipped, dmg0, dmg1, accepted⟩, t⟩ L) :
    Calls Tryz.prog 80 #[.pointer (some ⟨p, 0, none⟩), .string kAck, (Value.int .i64 1)] w fun e w' => e = .returned (.tuple #[]) ∧ ∃ L', LedR p ⟨o, ⟨done, undone, asked, yes, turned, true, ack1, shipped, dmg0, dmg1, accepted⟩, t⟩ L' ∧ Has w' (L' ++ F) ∧ Kin w w' := by
  obtain ⟨sl, dv, uv, tp, Ls, Ld, Lu, Lt, rfl, hS, hD, hU, hT⟩ := hx
  unfold Led.cells at hw
  dsimp only at hw hS hD hU hT
  have hw0 : Has w ((p, .cells #[(Value.int .i64 o.id), (Value.int .i64 o.item), (Value.int .i64 o.qty), (Value.int .i64 o.client), (Value.int .i64 o.price), sl, dv, uv, .bool asked, .bool yes, .bool turned, .bool ack0, .bool ack1, .bool shipped, .bool dmg0, .bool dmg1, .bool accepted, tp] 78) :: (Ls ++ Ld ++ Lu ++ Lt ++ F)) := hw
  obtain ⟨tq, rfl⟩ : ∃ q, tp = .pointer q := by
    rcases hT with ⟨_, rfl, _⟩ | ⟨b, x, rfl, _⟩
    · exact ⟨_, rfl⟩
    · exact ⟨_, rfl⟩
  have p0 := hw0.lth
  have x0 := (hw0).cellh 0; have x1 := (hw0).cellh 1; have x2 := (hw0).cellh 2; have x3 := (hw0).cellh 3; have x4 := (hw0).cellh 4; have x5 := (hw0).cellh 5; have x6 := (hw0).cellh 6; have x7 := (hw0).cellh 7; have x8 := (hw0).cellh 8; have x9 := (hw0).cellh 9; have x10 := (hw0).cellh 10; have x11 := (hw0).cellh 11; have x12 := (hw0).cellh 12; have x13 := (hw0).cellh 13; have x14 := (hw0).cellh 14; have x15 := (hw0).cellh 15; have x16 := (hw0).cellh 16; have x17 := (hw0).cellh 17; simp at x0 x1 x2 x3 x4 x5 x6 x7 x8 x9 x10 x11 x12 x13 x14 x15 x16 x17
  have f0 := (hw0).freeh 0; have f1 := (hw0).freeh 1; have f2 := (hw0).freeh 2; have f3 := (hw0).freeh 3; have f4 := (hw0).freeh 4; have f5 := (hw0).freeh 5; have f6 := (hw0).freeh 6; have f7 := (hw0).freeh 7; have f8 := (hw0).freeh 8; have f9 := (hw0).freeh 9; have f10 := (hw0).freeh 10; have f11 := (hw0).freeh 11; have f12 := (hw0).freeh 12; have f13 := (hw0).freeh 13; have f14 := (hw0).freeh 14; have f15 := (hw0).freeh 15; have f16 := (hw0).freeh 16; have f17 := (hw0).freeh 17
  have Hw := Lib.hid hw0
  clear hw hw0
  unfold kAck
  go_enter Tryz.func80, Tryz.ntmps80
  go_wp2
  refine bodyPost_end (v := .tuple #[]) (by simp [results, Tryz.results80, go_sem]) rfl ⟨rfl, _, ⟨sl, dv, uv, (.pointer tq), Ls, Ld, Lu, Lt, rfl, hS, hD, hU, hT⟩, ?_, ⟨rfl, rfl, rfl⟩⟩
  · unfold Led.cells
    refine Has.sub (Hw.out.setCell 11 (.bool true)) ?_
    intro x; simp only [cnt_append, cnt_cons, cnt_nil, List.tail_cons, World.size_alloc, World.size_setCell, World.size_drew, List.setIfInBounds_toArray, List.set_cons_zero, List.set_cons_succ] <;> omega

set_option maxRecDepth 100000 in
theorem facts_ack1 (p : Nat) (o : Order) (done undone : List Bool) (asked yes turned ack0 ack1 shipped dmg0 dmg1 accepted : Bool) (t : Option TallyM) (n : Int) (w : World) (L F : HL) (hw : Has w (L ++ F)) (hx : LedR p ⟨o, ⟨done, undone, asked, yes, turned, ack0, ack1, shipped, dmg0, dmg1, accepted⟩, t⟩ L) :
    Calls Tryz.prog 80 #[.pointer (some ⟨p, 0, none⟩), .string kAck, (Value.int .i64 2)] w fun e w' => e = .returned (.tuple #[]) ∧ ∃ L', LedR p ⟨o, ⟨done, undone, asked, yes, turned, ack0, true, shipped, dmg0, dmg1, accepted⟩, t⟩ L' ∧ Has w' (L' ++ F) ∧ Kin w w' := by
  obtain ⟨sl, dv, uv, tp, Ls, Ld, Lu, Lt, rfl, hS, hD, hU, hT⟩ := hx
  unfold Led.cells at hw
  dsimp only at hw hS hD hU hT
  have hw0 : Has w ((p, .cells #[(Value.int .i64 o.id), (Value.int .i64 o.item), (Value.int .i64 o.qty), (Value.int .i64 o.client), (Value.int .i64 o.price), sl, dv, uv, .bool asked, .bool yes, .bool turned, .bool ack0, .bool ack1, .bool shipped, .bool dmg0, .bool dmg1, .bool accepted, tp] 78) :: (Ls ++ Ld ++ Lu ++ Lt ++ F)) := hw
  obtain ⟨tq, rfl⟩ : ∃ q, tp = .pointer q := by
    rcases hT with ⟨_, rfl, _⟩ | ⟨b, x, rfl, _⟩
    · exact ⟨_, rfl⟩
    · exact ⟨_, rfl⟩
  have p0 := hw0.lth
  have x0 := (hw0).cellh 0; have x1 := (hw0).cellh 1; have x2 := (hw0).cellh 2; have x3 := (hw0).cellh 3; have x4 := (hw0).cellh 4; have x5 := (hw0).cellh 5; have x6 := (hw0).cellh 6; have x7 := (hw0).cellh 7; have x8 := (hw0).cellh 8; have x9 := (hw0).cellh 9; have x10 := (hw0).cellh 10; have x11 := (hw0).cellh 11; have x12 := (hw0).cellh 12; have x13 := (hw0).cellh 13; have x14 := (hw0).cellh 14; have x15 := (hw0).cellh 15; have x16 := (hw0).cellh 16; have x17 := (hw0).cellh 17; simp at x0 x1 x2 x3 x4 x5 x6 x7 x8 x9 x10 x11 x12 x13 x14 x15 x16 x17
  have f0 := (hw0).freeh 0; have f1 := (hw0).freeh 1; have f2 := (hw0).freeh 2; have f3 := (hw0).freeh 3; have f4 := (hw0).freeh 4; have f5 := (hw0).freeh 5; have f6 := (hw0).freeh 6; have f7 := (hw0).freeh 7; have f8 := (hw0).freeh 8; have f9 := (hw0).freeh 9; have f10 := (hw0).freeh 10; have f11 := (hw0).freeh 11; have f12 := (hw0).freeh 12; have f13 := (hw0).freeh 13; have f14 := (hw0).freeh 14; have f15 := (hw0).freeh 15; have f16 := (hw0).freeh 16; have f17 := (hw0).freeh 17
  have Hw := Lib.hid hw0
  clear hw hw0
  unfold kAck
  go_enter Tryz.func80, Tryz.ntmps80
  go_wp2
  refine bodyPost_end (v := .tuple #[]) (by simp [results, Tryz.results80, go_sem]) rfl ⟨rfl, _, ⟨sl, dv, uv, (.pointer tq), Ls, Ld, Lu, Lt, rfl, hS, hD, hU, hT⟩, ?_, ⟨rfl, rfl, rfl⟩⟩
  · unfold Led.cells
    refine Has.sub (Hw.out.setCell 12 (.bool true)) ?_
    intro x; simp only [cnt_append, cnt_cons, cnt_nil, List.tail_cons, World.size_alloc, World.size_setCell, World.size_drew, List.setIfInBounds_toArray, List.set_cons_zero, List.set_cons_succ] <;> omega

set_option maxRecDepth 100000 in
theorem facts_dmg0 (p : Nat) (o : Order) (done undone : List Bool) (asked yes turned ack0 ack1 shipped dmg0 dmg1 accepted : Bool) (t : Option TallyM) (n : Int) (w : World) (L F : HL) (hw : Has w (L ++ F)) (hx : LedR p ⟨o, ⟨done, undone, asked, yes, turned, ack0, ack1, shipped, dmg0, dmg1, accepted⟩, t⟩ L) :
    Calls Tryz.prog 80 #[.pointer (some ⟨p, 0, none⟩), .string kDamage, (Value.int .i64 1)] w fun e w' => e = .returned (.tuple #[]) ∧ ∃ L', LedR p ⟨o, ⟨done, undone, asked, yes, turned, true, ack1, shipped, true, dmg1, accepted⟩, t⟩ L' ∧ Has w' (L' ++ F) ∧ Kin w w' := by
  obtain ⟨sl, dv, uv, tp, Ls, Ld, Lu, Lt, rfl, hS, hD, hU, hT⟩ := hx
  unfold Led.cells at hw
  dsimp only at hw hS hD hU hT
  have hw0 : Has w ((p, .cells #[(Value.int .i64 o.id), (Value.int .i64 o.item), (Value.int .i64 o.qty), (Value.int .i64 o.client), (Value.int .i64 o.price), sl, dv, uv, .bool asked, .bool yes, .bool turned, .bool ack0, .bool ack1, .bool shipped, .bool dmg0, .bool dmg1, .bool accepted, tp] 78) :: (Ls ++ Ld ++ Lu ++ Lt ++ F)) := hw
  obtain ⟨tq, rfl⟩ : ∃ q, tp = .pointer q := by
    rcases hT with ⟨_, rfl, _⟩ | ⟨b, x, rfl, _⟩
    · exact ⟨_, rfl⟩
    · exact ⟨_, rfl⟩
  have p0 := hw0.lth
  have x0 := (hw0).cellh 0; have x1 := (hw0).cellh 1; have x2 := (hw0).cellh 2; have x3 := (hw0).cellh 3; have x4 := (hw0).cellh 4; have x5 := (hw0).cellh 5; have x6 := (hw0).cellh 6; have x7 := (hw0).cellh 7; have x8 := (hw0).cellh 8; have x9 := (hw0).cellh 9; have x10 := (hw0).cellh 10; have x11 := (hw0).cellh 11; have x12 := (hw0).cellh 12; have x13 := (hw0).cellh 13; have x14 := (hw0).cellh 14; have x15 := (hw0).cellh 15; have x16 := (hw0).cellh 16; have x17 := (hw0).cellh 17; simp at x0 x1 x2 x3 x4 x5 x6 x7 x8 x9 x10 x11 x12 x13 x14 x15 x16 x17
  have f0 := (hw0).freeh 0; have f1 := (hw0).freeh 1; have f2 := (hw0).freeh 2; have f3 := (hw0).freeh 3; have f4 := (hw0).freeh 4; have f5 := (hw0).freeh 5; have f6 := (hw0).freeh 6; have f7 := (hw0).freeh 7; have f8 := (hw0).freeh 8; have f9 := (hw0).freeh 9; have f10 := (hw0).freeh 10; have f11 := (hw0).freeh 11; have f12 := (hw0).freeh 12; have f13 := (hw0).freeh 13; have f14 := (hw0).freeh 14; have f15 := (hw0).freeh 15; have f16 := (hw0).freeh 16; have f17 := (hw0).freeh 17
  have Hw := Lib.hid hw0
  clear hw hw0
  unfold kDamage
  go_enter Tryz.func80, Tryz.ntmps80
  go_wp2; go_region; all_goals go_wp2
  refine bodyPost_end (v := .tuple #[]) (by simp [results, Tryz.results80, go_sem]) rfl ⟨rfl, _, ⟨sl, dv, uv, (.pointer tq), Ls, Ld, Lu, Lt, rfl, hS, hD, hU, hT⟩, ?_, ⟨rfl, rfl, rfl⟩⟩
  · unfold Led.cells
    refine Has.sub (Hw.out.setCell 14 (.bool true) |>.setCell 11 (.bool true) |>.drew) ?_
    intro x; simp only [cnt_append, cnt_cons, cnt_nil, List.tail_cons, World.size_alloc, World.size_setCell, World.size_drew, List.setIfInBounds_toArray, List.set_cons_zero, List.set_cons_succ] <;> omega

set_option maxRecDepth 100000 in
theorem facts_dmg1 (p : Nat) (o : Order) (done undone : List Bool) (asked yes turned ack0 ack1 shipped dmg0 dmg1 accepted : Bool) (t : Option TallyM) (n : Int) (w : World) (L F : HL) (hw : Has w (L ++ F)) (hx : LedR p ⟨o, ⟨done, undone, asked, yes, turned, ack0, ack1, shipped, dmg0, dmg1, accepted⟩, t⟩ L) :
    Calls Tryz.prog 80 #[.pointer (some ⟨p, 0, none⟩), .string kDamage, (Value.int .i64 2)] w fun e w' => e = .returned (.tuple #[]) ∧ ∃ L', LedR p ⟨o, ⟨done, undone, asked, yes, turned, ack0, true, shipped, dmg0, true, accepted⟩, t⟩ L' ∧ Has w' (L' ++ F) ∧ Kin w w' := by
  obtain ⟨sl, dv, uv, tp, Ls, Ld, Lu, Lt, rfl, hS, hD, hU, hT⟩ := hx
  unfold Led.cells at hw
  dsimp only at hw hS hD hU hT
  have hw0 : Has w ((p, .cells #[(Value.int .i64 o.id), (Value.int .i64 o.item), (Value.int .i64 o.qty), (Value.int .i64 o.client), (Value.int .i64 o.price), sl, dv, uv, .bool asked, .bool yes, .bool turned, .bool ack0, .bool ack1, .bool shipped, .bool dmg0, .bool dmg1, .bool accepted, tp] 78) :: (Ls ++ Ld ++ Lu ++ Lt ++ F)) := hw
  obtain ⟨tq, rfl⟩ : ∃ q, tp = .pointer q := by
    rcases hT with ⟨_, rfl, _⟩ | ⟨b, x, rfl, _⟩
    · exact ⟨_, rfl⟩
    · exact ⟨_, rfl⟩
  have p0 := hw0.lth
  have x0 := (hw0).cellh 0; have x1 := (hw0).cellh 1; have x2 := (hw0).cellh 2; have x3 := (hw0).cellh 3; have x4 := (hw0).cellh 4; have x5 := (hw0).cellh 5; have x6 := (hw0).cellh 6; have x7 := (hw0).cellh 7; have x8 := (hw0).cellh 8; have x9 := (hw0).cellh 9; have x10 := (hw0).cellh 10; have x11 := (hw0).cellh 11; have x12 := (hw0).cellh 12; have x13 := (hw0).cellh 13; have x14 := (hw0).cellh 14; have x15 := (hw0).cellh 15; have x16 := (hw0).cellh 16; have x17 := (hw0).cellh 17; simp at x0 x1 x2 x3 x4 x5 x6 x7 x8 x9 x10 x11 x12 x13 x14 x15 x16 x17
  have f0 := (hw0).freeh 0; have f1 := (hw0).freeh 1; have f2 := (hw0).freeh 2; have f3 := (hw0).freeh 3; have f4 := (hw0).freeh 4; have f5 := (hw0).freeh 5; have f6 := (hw0).freeh 6; have f7 := (hw0).freeh 7; have f8 := (hw0).freeh 8; have f9 := (hw0).freeh 9; have f10 := (hw0).freeh 10; have f11 := (hw0).freeh 11; have f12 := (hw0).freeh 12; have f13 := (hw0).freeh 13; have f14 := (hw0).freeh 14; have f15 := (hw0).freeh 15; have f16 := (hw0).freeh 16; have f17 := (hw0).freeh 17
  have Hw := Lib.hid hw0
  clear hw hw0
  unfold kDamage
  go_enter Tryz.func80, Tryz.ntmps80
  go_wp2; go_region; all_goals go_wp2
  refine bodyPost_end (v := .tuple #[]) (by simp [results, Tryz.results80, go_sem]) rfl ⟨rfl, _, ⟨sl, dv, uv, (.pointer tq), Ls, Ld, Lu, Lt, rfl, hS, hD, hU, hT⟩, ?_, ⟨rfl, rfl, rfl⟩⟩
  · unfold Led.cells
    refine Has.sub (Hw.out.setCell 15 (.bool true) |>.setCell 12 (.bool true) |>.drew) ?_
    intro x; simp only [cnt_append, cnt_cons, cnt_nil, List.tail_cons, World.size_alloc, World.size_setCell, World.size_drew, List.setIfInBounds_toArray, List.set_cons_zero, List.set_cons_succ] <;> omega


set_option maxRecDepth 100000 in
theorem facts_asked (p : Nat) (o : Order) (done undone : List Bool) (asked yes turned ack0 ack1 shipped dmg0 dmg1 accepted : Bool) (t : Option TallyM) (n : Int) (w : World) (L F : HL) (hw : Has w (L ++ F)) (hx : LedR p ⟨o, ⟨done, undone, asked, yes, turned, ack0, ack1, shipped, dmg0, dmg1, accepted⟩, t⟩ L) :
    Calls Tryz.prog 80 #[.pointer (some ⟨p, 0, none⟩), .string kAsked, (Value.int .i64 n)] w fun e w' => e = .returned (.tuple #[]) ∧ ∃ L', LedR p ⟨o, ⟨done, undone, true, yes, turned, ack0, ack1, shipped, dmg0, dmg1, accepted⟩, some ⟨[0, 0], false, false⟩⟩ L' ∧ Has w' (L' ++ F) ∧ Kin w w' := by
  obtain ⟨sl, dv, uv, tp, Ls, Ld, Lu, Lt, rfl, hS, hD, hU, hT⟩ := hx
  unfold Led.cells at hw
  dsimp only at hw hS hD hU hT
  have hw0 : Has w ((p, .cells #[(Value.int .i64 o.id), (Value.int .i64 o.item), (Value.int .i64 o.qty), (Value.int .i64 o.client), (Value.int .i64 o.price), sl, dv, uv, .bool asked, .bool yes, .bool turned, .bool ack0, .bool ack1, .bool shipped, .bool dmg0, .bool dmg1, .bool accepted, tp] 78) :: (Ls ++ Ld ++ Lu ++ Lt ++ F)) := hw
  obtain ⟨tq, rfl⟩ : ∃ q, tp = .pointer q := by
    rcases hT with ⟨_, rfl, _⟩ | ⟨b, x, rfl, _⟩
    · exact ⟨_, rfl⟩
    · exact ⟨_, rfl⟩
  have p0 := hw0.lth
  have x0 := (hw0).cellh 0; have x1 := (hw0).cellh 1; have x2 := (hw0).cellh 2; have x3 := (hw0).cellh 3; have x4 := (hw0).cellh 4; have x5 := (hw0).cellh 5; have x6 := (hw0).cellh 6; have x7 := (hw0).cellh 7; have x8 := (hw0).cellh 8; have x9 := (hw0).cellh 9; have x10 := (hw0).cellh 10; have x11 := (hw0).cellh 11; have x12 := (hw0).cellh 12; have x13 := (hw0).cellh 13; have x14 := (hw0).cellh 14; have x15 := (hw0).cellh 15; have x16 := (hw0).cellh 16; have x17 := (hw0).cellh 17; simp at x0 x1 x2 x3 x4 x5 x6 x7 x8 x9 x10 x11 x12 x13 x14 x15 x16 x17
  have f0 := (hw0).freeh 0; have f1 := (hw0).freeh 1; have f2 := (hw0).freeh 2; have f3 := (hw0).freeh 3; have f4 := (hw0).freeh 4; have f5 := (hw0).freeh 5; have f6 := (hw0).freeh 6; have f7 := (hw0).freeh 7; have f8 := (hw0).freeh 8; have f9 := (hw0).freeh 9; have f10 := (hw0).freeh 10; have f11 := (hw0).freeh 11; have f12 := (hw0).freeh 12; have f13 := (hw0).freeh 13; have f14 := (hw0).freeh 14; have f15 := (hw0).freeh 15; have f16 := (hw0).freeh 16; have f17 := (hw0).freeh 17
  have Hw := Lib.hid hw0
  clear hw hw0
  unfold kAsked
  go_enter Tryz.func80, Tryz.ntmps80
  go_wp2_with fail
  refine (tnew_call _ _ Hw.out).mono ?_
  rintro e w1 ⟨tb, L1, rfl, hT1, hw1, hk1⟩
  have hz : Has w1 ((p, .cells #[(Value.int .i64 o.id), (Value.int .i64 o.item), (Value.int .i64 o.qty), (Value.int .i64 o.client), (Value.int .i64 o.price), sl, dv, uv, .bool asked, .bool yes, .bool turned, .bool ack0, .bool ack1, .bool shipped, .bool dmg0, .bool dmg1, .bool accepted, .pointer tq] 78) :: (Ls ++ Ld ++ Lu ++ L1 ++ F)) := hw1.sub (by intro x; simp only [cnt_append, cnt_cons, cnt_nil, List.tail_cons, World.size_alloc, World.size_setCell, World.size_drew, List.setIfInBounds_toArray, List.set_cons_zero, List.set_cons_succ] <;> omega)
  have q0 := hz.lth
  have y0 := (hz).cellh 0; have y1 := (hz).cellh 1; have y2 := (hz).cellh 2; have y3 := (hz).cellh 3; have y4 := (hz).cellh 4; have y5 := (hz).cellh 5; have y6 := (hz).cellh 6; have y7 := (hz).cellh 7; have y8 := (hz).cellh 8; have y9 := (hz).cellh 9; have y10 := (hz).cellh 10; have y11 := (hz).cellh 11; have y12 := (hz).cellh 12; have y13 := (hz).cellh 13; have y14 := (hz).cellh 14; have y15 := (hz).cellh 15; have y16 := (hz).cellh 16; have y17 := (hz).cellh 17; simp at y0 y1 y2 y3 y4 y5 y6 y7 y8 y9 y10 y11 y12 y13 y14 y15 y16 y17
  have g0 := (hz).freeh 0; have g1 := (hz).freeh 1; have g2 := (hz).freeh 2; have g3 := (hz).freeh 3; have g4 := (hz).freeh 4; have g5 := (hz).freeh 5; have g6 := (hz).freeh 6; have g7 := (hz).freeh 7; have g8 := (hz).freeh 8; have g9 := (hz).freeh 9; have g10 := (hz).freeh 10; have g11 := (hz).freeh 11; have g12 := (hz).freeh 12; have g13 := (hz).freeh 13; have g14 := (hz).freeh 14; have g15 := (hz).freeh 15; have g16 := (hz).freeh 16; have g17 := (hz).freeh 17
  have Hz := Lib.hid hz; have Hk1 := Lib.hid hk1
  clear hz hw1 hk1
  go_wp2
  refine bodyPost_end (v := .tuple #[]) (by simp [results, Tryz.results80, go_sem]) rfl ⟨rfl, _, ⟨sl, dv, uv, .pointer (some ⟨tb, 0, none⟩), Ls, Ld, Lu, L1, rfl, hS, hD, hU, .inr ⟨tb, _, rfl, rfl, hT1⟩⟩, ?_, (Hk1.out.setCell _ _).setCell _ _⟩
  · unfold Led.cells
    refine Has.sub ((Hz.out.setCell 8 (.bool true)).setCell 17 (.pointer (some ⟨tb, 0, none⟩))) ?_
    intro x; simp only [cnt_append, cnt_cons, cnt_nil, List.tail_cons, World.size_alloc, World.size_setCell, World.size_drew, List.setIfInBounds_toArray, List.set_cons_zero, List.set_cons_succ] <;> omega

set_option maxRecDepth 100000 in
theorem facts_done (p : Nat) (o : Order) (done undone : List Bool) (asked yes turned ack0 ack1 shipped dmg0 dmg1 accepted : Bool) (t : Option TallyM) (i : Nat) (hi : i < done.length) (w : World) (L F : HL) (hw : Has w (L ++ F)) (hx : LedR p ⟨o, ⟨done, undone, asked, yes, turned, ack0, ack1, shipped, dmg0, dmg1, accepted⟩, t⟩ L) :
    Calls Tryz.prog 80 #[.pointer (some ⟨p, 0, none⟩), .string kDone, .int .i64 i] w fun e w' => e = .returned (.tuple #[]) ∧ ∃ L', LedR p ⟨o, ⟨done.set i true, undone, asked, yes, turned, ack0, ack1, shipped, dmg0, dmg1, accepted⟩, t⟩ L' ∧ Has w' (L' ++ F) ∧ Kin w w' := by
  obtain ⟨sl, dv, uv, tp, Ls, Ld, Lu, Lt, rfl, hS, hD, hU, hT⟩ := hx
  unfold Led.cells at hw
  dsimp only at hw hS hD hU hT
  have hw0 : Has w ((p, .cells #[(Value.int .i64 o.id), (Value.int .i64 o.item), (Value.int .i64 o.qty), (Value.int .i64 o.client), (Value.int .i64 o.price), sl, dv, uv, .bool asked, .bool yes, .bool turned, .bool ack0, .bool ack1, .bool shipped, .bool dmg0, .bool dmg1, .bool accepted, tp] 78) :: (Ls ++ Ld ++ Lu ++ Lt ++ F)) := hw
  obtain ⟨tq, rfl⟩ : ∃ q, tp = .pointer q := by
    rcases hT with ⟨_, rfl, _⟩ | ⟨b, x, rfl, _⟩
    · exact ⟨_, rfl⟩
    · exact ⟨_, rfl⟩
  have p0 := hw0.lth
  have x0 := (hw0).cellh 0; have x1 := (hw0).cellh 1; have x2 := (hw0).cellh 2; have x3 := (hw0).cellh 3; have x4 := (hw0).cellh 4; have x5 := (hw0).cellh 5; have x6 := (hw0).cellh 6; have x7 := (hw0).cellh 7; have x8 := (hw0).cellh 8; have x9 := (hw0).cellh 9; have x10 := (hw0).cellh 10; have x11 := (hw0).cellh 11; have x12 := (hw0).cellh 12; have x13 := (hw0).cellh 13; have x14 := (hw0).cellh 14; have x15 := (hw0).cellh 15; have x16 := (hw0).cellh 16; have x17 := (hw0).cellh 17; simp at x0 x1 x2 x3 x4 x5 x6 x7 x8 x9 x10 x11 x12 x13 x14 x15 x16 x17
  have f0 := (hw0).freeh 0; have f1 := (hw0).freeh 1; have f2 := (hw0).freeh 2; have f3 := (hw0).freeh 3; have f4 := (hw0).freeh 4; have f5 := (hw0).freeh 5; have f6 := (hw0).freeh 6; have f7 := (hw0).freeh 7; have f8 := (hw0).freeh 8; have f9 := (hw0).freeh 9; have f10 := (hw0).freeh 10; have f11 := (hw0).freeh 11; have f12 := (hw0).freeh 12; have f13 := (hw0).freeh 13; have f14 := (hw0).freeh 14; have f15 := (hw0).freeh 15; have f16 := (hw0).freeh 16; have f17 := (hw0).freeh 17
  obtain ⟨b', cap, cur, rfl, rfl, hSet⟩ := hD.set1 (i := i) (x := true) (u := .bool true) encB rfl hi
  have hz : Has w ((b', .cells cur 4) :: (p, .cells #[(Value.int .i64 o.id), (Value.int .i64 o.item), (Value.int .i64 o.qty), (Value.int .i64 o.client), (Value.int .i64 o.price), sl, .slice (some ⟨b', 0, none⟩) done.length cap, uv, .bool asked, .bool yes, .bool turned, .bool ack0, .bool ack1, .bool shipped, .bool dmg0, .bool dmg1, .bool accepted, .pointer tq] 78) :: (Ls ++ Lu ++ Lt ++ F)) := hw0.sub (by intro x; simp only [cnt_append, cnt_cons, cnt_nil, List.tail_cons, World.size_alloc, World.size_setCell, World.size_drew, List.setIfInBounds_toArray, List.set_cons_zero, List.set_cons_succ] <;> omega)
  have pb := hz.lth
  have fb := hz.freeh i
  rcases hD.at encB (w := w) (F := []) (hw.sub (by intro x; simp only [cnt_append, cnt_cons, cnt_nil, List.tail_cons, World.size_alloc, World.size_setCell, World.size_drew, List.setIfInBounds_toArray, List.set_cons_zero, List.set_cons_succ] <;> omega)) with ⟨h1, _⟩ | ⟨b2, off, cap2, h1, hcs⟩
  · cases h1
  have h2 := (Value.slice.inj h1).1
  simp only [Option.some.injEq, Addr.mk.injEq] at h2
  obtain ⟨rfl, rfl, _⟩ := h2
  obtain ⟨s, hsi⟩ : ∃ s, done[i]? = some s := ⟨done[i], by simp [hi]⟩
  have c0 := hcs i s hsi 0 (.bool s) rfl
  simp only [Nat.add_zero, Nat.mul_one, Nat.zero_add] at c0
  have e63 : (0 : Int) ≤ (i : Int) := by omega
  have e64 : (i : Int) < (done.length : Int) := by omega
  have Hz := Lib.hid hz
  clear hw hw0 hz hcs h1
  unfold kDone
  go_enter Tryz.func80, Tryz.ntmps80
  go_wp2
  refine bodyPost_end (v := .tuple #[]) (by simp [results, Tryz.results80, go_sem]) rfl ⟨rfl, _, ⟨sl, .slice (some ⟨b', 0, none⟩) done.length cap, uv, .pointer tq, Ls, [(b', .cells (cur.setIfInBounds i (.bool true)) 4)], Lu, Lt, rfl, hS, hSet, hU, hT⟩, ?_, ⟨rfl, rfl, rfl⟩⟩
  · unfold Led.cells
    refine Has.sub (Hz.out.setCell i (.bool true)) ?_
    intro x; simp only [cnt_append, cnt_cons, cnt_nil, List.tail_cons, World.size_alloc, World.size_setCell, World.size_drew, List.setIfInBounds_toArray, List.set_cons_zero, List.set_cons_succ] <;> omega

set_option maxRecDepth 100000 in
theorem facts_undone (p : Nat) (o : Order) (done undone : List Bool) (asked yes turned ack0 ack1 shipped dmg0 dmg1 accepted : Bool) (t : Option TallyM) (i : Nat) (hi : i < undone.length) (w : World) (L F : HL) (hw : Has w (L ++ F)) (hx : LedR p ⟨o, ⟨done, undone, asked, yes, turned, ack0, ack1, shipped, dmg0, dmg1, accepted⟩, t⟩ L) :
    Calls Tryz.prog 80 #[.pointer (some ⟨p, 0, none⟩), .string kUndone, .int .i64 i] w fun e w' => e = .returned (.tuple #[]) ∧ ∃ L', LedR p ⟨o, ⟨done, undone.set i true, asked, yes, turned, ack0, ack1, shipped, dmg0, dmg1, accepted⟩, t⟩ L' ∧ Has w' (L' ++ F) ∧ Kin w w' := by
  obtain ⟨sl, dv, uv, tp, Ls, Ld, Lu, Lt, rfl, hS, hD, hU, hT⟩ := hx
  unfold Led.cells at hw
  dsimp only at hw hS hD hU hT
  have hw0 : Has w ((p, .cells #[(Value.int .i64 o.id), (Value.int .i64 o.item), (Value.int .i64 o.qty), (Value.int .i64 o.client), (Value.int .i64 o.price), sl, dv, uv, .bool asked, .bool yes, .bool turned, .bool ack0, .bool ack1, .bool shipped, .bool dmg0, .bool dmg1, .bool accepted, tp] 78) :: (Ls ++ Ld ++ Lu ++ Lt ++ F)) := hw
  obtain ⟨tq, rfl⟩ : ∃ q, tp = .pointer q := by
    rcases hT with ⟨_, rfl, _⟩ | ⟨b, x, rfl, _⟩
    · exact ⟨_, rfl⟩
    · exact ⟨_, rfl⟩
  have p0 := hw0.lth
  have x0 := (hw0).cellh 0; have x1 := (hw0).cellh 1; have x2 := (hw0).cellh 2; have x3 := (hw0).cellh 3; have x4 := (hw0).cellh 4; have x5 := (hw0).cellh 5; have x6 := (hw0).cellh 6; have x7 := (hw0).cellh 7; have x8 := (hw0).cellh 8; have x9 := (hw0).cellh 9; have x10 := (hw0).cellh 10; have x11 := (hw0).cellh 11; have x12 := (hw0).cellh 12; have x13 := (hw0).cellh 13; have x14 := (hw0).cellh 14; have x15 := (hw0).cellh 15; have x16 := (hw0).cellh 16; have x17 := (hw0).cellh 17; simp at x0 x1 x2 x3 x4 x5 x6 x7 x8 x9 x10 x11 x12 x13 x14 x15 x16 x17
  have f0 := (hw0).freeh 0; have f1 := (hw0).freeh 1; have f2 := (hw0).freeh 2; have f3 := (hw0).freeh 3; have f4 := (hw0).freeh 4; have f5 := (hw0).freeh 5; have f6 := (hw0).freeh 6; have f7 := (hw0).freeh 7; have f8 := (hw0).freeh 8; have f9 := (hw0).freeh 9; have f10 := (hw0).freeh 10; have f11 := (hw0).freeh 11; have f12 := (hw0).freeh 12; have f13 := (hw0).freeh 13; have f14 := (hw0).freeh 14; have f15 := (hw0).freeh 15; have f16 := (hw0).freeh 16; have f17 := (hw0).freeh 17
  obtain ⟨b', cap, cur, rfl, rfl, hSet⟩ := hU.set1 (i := i) (x := true) (u := .bool true) encB rfl hi
  have hz : Has w ((b', .cells cur 4) :: (p, .cells #[(Value.int .i64 o.id), (Value.int .i64 o.item), (Value.int .i64 o.qty), (Value.int .i64 o.client), (Value.int .i64 o.price), sl, dv, .slice (some ⟨b', 0, none⟩) undone.length cap, .bool asked, .bool yes, .bool turned, .bool ack0, .bool ack1, .bool shipped, .bool dmg0, .bool dmg1, .bool accepted, .pointer tq] 78) :: (Ls ++ Ld ++ Lt ++ F)) := hw0.sub (by intro x; simp only [cnt_append, cnt_cons, cnt_nil, List.tail_cons, World.size_alloc, World.size_setCell, World.size_drew, List.setIfInBounds_toArray, List.set_cons_zero, List.set_cons_succ] <;> omega)
  have pb := hz.lth
  have fb := hz.freeh i
  rcases hU.at encB (w := w) (F := []) (hw.sub (by intro x; simp only [cnt_append, cnt_cons, cnt_nil, List.tail_cons, World.size_alloc, World.size_setCell, World.size_drew, List.setIfInBounds_toArray, List.set_cons_zero, List.set_cons_succ] <;> omega)) with ⟨h1, _⟩ | ⟨b2, off, cap2, h1, hcs⟩
  · cases h1
  have h2 := (Value.slice.inj h1).1
  simp only [Option.some.injEq, Addr.mk.injEq] at h2
  obtain ⟨rfl, rfl, _⟩ := h2
  obtain ⟨s, hsi⟩ : ∃ s, undone[i]? = some s := ⟨undone[i], by simp [hi]⟩
  have c0 := hcs i s hsi 0 (.bool s) rfl
  simp only [Nat.add_zero, Nat.mul_one, Nat.zero_add] at c0
  have e63 : (0 : Int) ≤ (i : Int) := by omega
  have e64 : (i : Int) < (undone.length : Int) := by omega
  have Hz := Lib.hid hz
  clear hw hw0 hz hcs h1
  unfold kUndone
  go_enter Tryz.func80, Tryz.ntmps80
  go_wp2
  refine bodyPost_end (v := .tuple #[]) (by simp [results, Tryz.results80, go_sem]) rfl ⟨rfl, _, ⟨sl, dv, .slice (some ⟨b', 0, none⟩) undone.length cap, .pointer tq, Ls, Ld, [(b', .cells (cur.setIfInBounds i (.bool true)) 4)], Lt, rfl, hS, hD, hSet, hT⟩, ?_, ⟨rfl, rfl, rfl⟩⟩
  · unfold Led.cells
    refine Has.sub (Hz.out.setCell i (.bool true)) ?_
    intro x; simp only [cnt_append, cnt_cons, cnt_nil, List.tail_cons, World.size_alloc, World.size_setCell, World.size_drew, List.setIfInBounds_toArray, List.set_cons_zero, List.set_cons_succ] <;> omega

def Led.note (x : Led) (kind : ByteArray) (n : Int) : Led :=
  if kind = kAsked then { x with f := { x.f with asked := true }, t := some ⟨[0, 0], false, false⟩ }
  else if kind = kDone then { x with f := { x.f with done := x.f.done.set n.toNat true } }
  else if kind = kUndone then { x with f := { x.f with undone := x.f.undone.set n.toNat true } }
  else if kind = kYes then { x with f := { x.f with yes := true }, t := none }
  else if kind = kTurn then { x with f := { x.f with turned := true }, t := none }
  else if kind = kAck then { x with f := if n = 1 then { x.f with ack0 := true } else { x.f with ack1 := true } }
  else if kind = kDamage then { x with f := if n = 1 then { x.f with dmg0 := true, ack0 := true } else { x.f with dmg1 := true, ack1 := true } }
  else if kind = kShipped then { x with f := { x.f with shipped := true } }
  else if kind = kAccept then { x with f := { x.f with accepted := true } }
  else x
theorem kne {k : ByteArray} {l : List UInt8} (h : k ≠ ⟨l.toArray⟩) : (k.toList == l) = false := by
  rw [ByteArray.toList_eq]
  simp only [beq_eq_false_iff_ne, ne_eq]
  intro e
  apply h
  cases k
  simp only [ByteArray.mk.injEq]
  exact Array.ext' e
/-- The number of an entry fits the order. -/
def Led.fits (x : Led) (kind : ByteArray) (n : Int) : Prop :=
  (kind = kDone → 0 ≤ n ∧ n < x.f.done.length) ∧ (kind = kUndone → 0 ≤ n ∧ n < x.f.undone.length) ∧ (kind = kAck ∨ kind = kDamage → n = 1 ∨ n = 2)

set_option maxRecDepth 100000 in
set_option maxHeartbeats 1600000 in
theorem facts_call (p : Nat) (x : Led) (kind : ByteArray) (n : Int) (hfit : x.fits kind n) (w : World) (L F : HL) (hw : Has w (L ++ F)) (hx : LedR p x L) :
    Calls Tryz.prog 80 #[.pointer (some ⟨p, 0, none⟩), .string kind, (Value.int .i64 n)] w fun e w' => e = .returned (.tuple #[]) ∧ ∃ L', LedR p (x.note kind n) L' ∧ Has w' (L' ++ F) ∧ Kin w w' := by
  have hx0 := hx
  obtain ⟨o, ⟨done, undone, asked, yes, turned, ack0, ack1, shipped, dmg0, dmg1, accepted⟩, t⟩ := x
  obtain ⟨g1, g2, g3⟩ := hfit
  dsimp only at g1 g2 g3
  by_cases h1 : kind = kAsked
  · subst h1; exact facts_asked p o _ _ _ _ _ _ _ _ _ _ _ t n w L F hw hx
  by_cases h2 : kind = kDone
  · subst h2
    obtain ⟨a1, a2⟩ := g1 rfl
    obtain ⟨i, rfl⟩ : ∃ i : Nat, n = i := ⟨n.toNat, by omega⟩
    have e : (⟨o, ⟨done, undone, asked, yes, turned, ack0, ack1, shipped, dmg0, dmg1, accepted⟩, t⟩ : Led).note kDone i = ⟨o, ⟨done.set i true, undone, asked, yes, turned, ack0, ack1, shipped, dmg0, dmg1, accepted⟩, t⟩ := by
      simp only [Led.note, if_neg h1, if_true]; rfl
    rw [e]
    exact facts_done p o _ _ _ _ _ _ _ _ _ _ _ t i (by omega) w L F hw hx
  by_cases h3 : kind = kUndone
  · subst h3
    obtain ⟨a1, a2⟩ := g2 rfl
    obtain ⟨i, rfl⟩ : ∃ i : Nat, n = i := ⟨n.toNat, by omega⟩
    have e : (⟨o, ⟨done, undone, asked, yes, turned, ack0, ack1, shipped, dmg0, dmg1, accepted⟩, t⟩ : Led).note kUndone i = ⟨o, ⟨done, undone.set i true, asked, yes, turned, ack0, ack1, shipped, dmg0, dmg1, accepted⟩, t⟩ := by
      simp only [Led.note, if_neg h1, if_neg h2, if_true]; rfl
    rw [e]
    exact facts_undone p o _ _ _ _ _ _ _ _ _ _ _ t i (by omega) w L F hw hx
  by_cases h4 : kind = kYes
  · subst h4
    simp only [Led.note, if_neg h1, if_neg h2, if_neg h3, if_true]
    exact facts_yes p o _ _ _ _ _ _ _ _ _ _ _ t n w L F hw hx
  by_cases h5 : kind = kTurn
  · subst h5
    simp only [Led.note, if_neg h1, if_neg h2, if_neg h3, if_neg h4, if_true]
    exact facts_turn p o _ _ _ _ _ _ _ _ _ _ _ t n w L F hw hx
  by_cases h6 : kind = kAck
  · subst h6
    simp only [Led.note, if_neg h1, if_neg h2, if_neg h3, if_neg h4, if_neg h5, if_true]
    rcases g3 (.inl rfl) with rfl | rfl
    · exact facts_ack0 p o _ _ _ _ _ _ _ _ _ _ _ t 0 w L F hw hx
    · exact facts_ack1 p o _ _ _ _ _ _ _ _ _ _ _ t 0 w L F hw hx
  by_cases h7 : kind = kDamage
  · subst h7
    simp only [Led.note, if_neg h1, if_neg h2, if_neg h3, if_neg h4, if_neg h5, if_neg h6, if_true]
    rcases g3 (.inr rfl) with rfl | rfl
    · exact facts_dmg0 p o _ _ _ _ _ _ _ _ _ _ _ t 0 w L F hw hx
    · exact facts_dmg1 p o _ _ _ _ _ _ _ _ _ _ _ t 0 w L F hw hx
  by_cases h8 : kind = kShipped
  · subst h8
    simp only [Led.note, if_neg h1, if_neg h2, if_neg h3, if_neg h4, if_neg h5, if_neg h6, if_neg h7, if_true]
    exact facts_shipped p o _ _ _ _ _ _ _ _ _ _ _ t n w L F hw hx
  by_cases h9 : kind = kAccept
  · subst h9
    simp only [Led.note, if_neg h1, if_neg h2, if_neg h3, if_neg h4, if_neg h5, if_neg h6, if_neg h7, if_neg h8, if_true]
    exact facts_accept p o _ _ _ _ _ _ _ _ _ _ _ t n w L F hw hx
  have e : (⟨o, ⟨done, undone, asked, yes, turned, ack0, ack1, shipped, dmg0, dmg1, accepted⟩, t⟩ : Led).note kind n = ⟨o, ⟨done, undone, asked, yes, turned, ack0, ack1, shipped, dmg0, dmg1, accepted⟩, t⟩ := by
    simp only [Led.note, if_neg h1, if_neg h2, if_neg h3, if_neg h4, if_neg h5, if_neg h6, if_neg h7, if_neg h8, if_neg h9]
  rw [e]
  unfold kAsked at h1
  unfold kDone at h2
  unfold kUndone at h3
  unfold kYes at h4
  unfold kTurn at h5
  unfold kAck at h6
  unfold kDamage at h7
  unfold kShipped at h8
  unfold kAccept at h9
  have c1 := kne h1; have c2 := kne h2; have c3 := kne h3; have c4 := kne h4; have c5 := kne h5; have c6 := kne h6; have c7 := kne h7; have c8 := kne h8; have c9 := kne h9
  have Hx := Lib.hid hx0; have Hw := Lib.hid hw
  clear hx hx0 hw g1 g2 g3 e h1 h2 h3 h4 h5 h6 h7 h8 h9
  go_enter Tryz.func80, Tryz.ntmps80
  go_wp2
  refine bodyPost_end (v := .tuple #[]) (by simp [results, Tryz.results80, go_sem]) rfl ⟨rfl, _, Hx.out, Hw.out, Kin.refl w⟩

end Go.Proofs.YtcfaimmcedpgiaaGreatDoor
