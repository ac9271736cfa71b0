/-
  chief: decided, over, keeper, Down, entry, forget, New: contracts. A lemma file: no statement of the seat is proved here.
-/
import Derived.Test.YtcfaimmcedpgiaaGreatDoorChief0
namespace Go.Proofs.YtcfaimmcedpgiaaGreatDoor
set_option linter.unusedVariables false
set_option linter.unusedSimpArgs false
open Go.RowKit

def Led.decided (x : Led) : Bool := x.f.yes || x.f.turned
def Led.over (x : Led) : Bool := fOver x.o x.f

theorem decided_call (p : Nat) (x : Led) (w : World) (L F : HL) (hw : Has w (L ++ F)) (hx : LedR p x L) :
    Calls Tryz.prog 45 #[.pointer (some ⟨p, 0, none⟩)] w fun e w' => e = .returned (.bool x.decided) ∧ w' = w := by
  obtain ⟨o, ⟨done, undone, asked, yes, turned, ack0, ack1, shipped, dmg0, dmg1, accepted⟩, t⟩ := x
  obtain ⟨sl, dv, uv, tp, Ls, Ld, Lu, Lt, rfl, hS, hD, hU, hT⟩ := hx
  unfold Led.cells at hw
  dsimp only at hw
  have h0 := hw.lt (.head _)
  have hw0 : Has w ((p, .cells #[(Value.int .i64 o.id), (Value.int .i64 o.item), (Value.int .i64 o.qty), (Value.int .i64 o.client), (Value.int .i64 o.price), sl, dv, uv, .bool asked, .bool yes, .bool turned, .bool ack0, .bool ack1, .bool shipped, .bool dmg0, .bool dmg1, .bool accepted, tp] 78) :: (Ls ++ Ld ++ Lu ++ Lt ++ F)) := hw
  have x0 := (hw0).cellh 0; have x1 := (hw0).cellh 1; have x2 := (hw0).cellh 2; have x3 := (hw0).cellh 3; have x4 := (hw0).cellh 4; have x5 := (hw0).cellh 5; have x6 := (hw0).cellh 6; have x7 := (hw0).cellh 7; have x8 := (hw0).cellh 8; have x9 := (hw0).cellh 9; have x10 := (hw0).cellh 10; have x11 := (hw0).cellh 11; have x12 := (hw0).cellh 12; have x13 := (hw0).cellh 13; have x14 := (hw0).cellh 14; have x15 := (hw0).cellh 15; have x16 := (hw0).cellh 16; have x17 := (hw0).cellh 17; simp at x0 x1 x2 x3 x4 x5 x6 x7 x8 x9 x10 x11 x12 x13 x14 x15 x16 x17
  clear hw hw0 hS hD hU hT
  go_enter Tryz.func45, Tryz.ntmps45
  cases yes
  · go_wp2
    go_ret
    exact ⟨rfl, rfl⟩
  · go_wp2
    go_ret
    exact ⟨rfl, rfl⟩

set_option maxRecDepth 100000 in
theorem lover_call (p : Nat) (x : Led) (n : Nat) (hsm : x.small n) (hn : n < 100000) (w : World) (L F : HL) (hw : Has w (L ++ F)) (hx : LedR p x L) :
    Calls Tryz.prog 43 #[.pointer (some ⟨p, 0, none⟩)] w fun e w' => e = .returned (.bool x.over) ∧ Below w.heap.size w w' := by
  obtain ⟨o, ⟨done, undone, asked, yes, turned, ack0, ack1, shipped, dmg0, dmg1, accepted⟩, t⟩ := x
  obtain ⟨sl, dv, uv, tp, Ls, Ld, Lu, Lt, rfl, hS, hD, hU, hT⟩ := hx
  obtain ⟨s1, s2, s3⟩ := hsm
  unfold Led.cells at hw
  dsimp only at hw hS hD hU hT s1 s2 s3
  have h0 := hw.lt (.head _)
  have hw0 : Has w ((p, .cells #[(Value.int .i64 o.id), (Value.int .i64 o.item), (Value.int .i64 o.qty), (Value.int .i64 o.client), (Value.int .i64 o.price), sl, dv, uv, .bool asked, .bool yes, .bool turned, .bool ack0, .bool ack1, .bool shipped, .bool dmg0, .bool dmg1, .bool accepted, tp] 78) :: (Ls ++ Ld ++ Lu ++ Lt ++ F)) := hw
  have x0 := (hw0).cellh 0; have x1 := (hw0).cellh 1; have x2 := (hw0).cellh 2; have x3 := (hw0).cellh 3; have x4 := (hw0).cellh 4; have x5 := (hw0).cellh 5; have x6 := (hw0).cellh 6; have x7 := (hw0).cellh 7; have x8 := (hw0).cellh 8; have x9 := (hw0).cellh 9; have x10 := (hw0).cellh 10; have x11 := (hw0).cellh 11; have x12 := (hw0).cellh 12; have x13 := (hw0).cellh 13; have x14 := (hw0).cellh 14; have x15 := (hw0).cellh 15; have x16 := (hw0).cellh 16; have x17 := (hw0).cellh 17; simp at x0 x1 x2 x3 x4 x5 x6 x7 x8 x9 x10 x11 x12 x13 x14 x15 x16 x17
  have AS := Lib.hid (hS.at encStep (w := w.drew) (F := []) (hw.drew.sub (by intro x; simp only [cnt_append, cnt_cons, cnt_nil, List.tail_cons, World.size_alloc, World.size_setCell, World.size_drew, List.setIfInBounds_toArray, List.set_cons_zero, List.set_cons_succ] <;> omega))); have AD := Lib.hid (hD.at encB (w := w.drew) (F := []) (hw.drew.sub (by intro x; simp only [cnt_append, cnt_cons, cnt_nil, List.tail_cons, World.size_alloc, World.size_setCell, World.size_drew, List.setIfInBounds_toArray, List.set_cons_zero, List.set_cons_succ] <;> omega))); have AU := Lib.hid (hU.at encB (w := w.drew) (F := []) (hw.drew.sub (by intro x; simp only [cnt_append, cnt_cons, cnt_nil, List.tail_cons, World.size_alloc, World.size_setCell, World.size_drew, List.setIfInBounds_toArray, List.set_cons_zero, List.set_cons_succ] <;> omega)))
  clear hw hw0 hS hD hU hT
  go_enter Tryz.func43, Tryz.ntmps43
  go_wp2
  go_still_tail 8, (by kernel_rfl)
  change wpList _ _ _ _ _ w.drew
  go_wp2_with fail
  refine (over_call o ⟨done, undone, asked, yes, turned, ack0, ack1, shipped, dmg0, dmg1, accepted⟩ sl dv uv w.drew AS.out AD.out AU.out (by omega) (by dsimp only; omega)).mono ?_
  rintro e w1 ⟨rfl, hb⟩
  go_wp2
  go_ret
  exact ⟨rfl, (Below.refl _ w).drew.trans hb⟩

def isKeeper (n : Int) : Bool := n == 1 || n == 2
theorem keeper_call (n : Int) (w : World) :
    Calls Tryz.prog 64 #[(Value.int .i64 n)] w fun e w' => (∃ v, e = .returned (.tuple #[(Value.int .i64 v), .bool (isKeeper n)]) ∧ (isKeeper n = true → v = n - 1)) ∧ w' = w := by
  go_enter Tryz.func64, Tryz.ntmps64
  by_cases h1 : n = 1
  · subst h1
    go_wp2
    refine bodyPost_ret (v := .tuple #[(Value.int .i64 0), .bool true]) (by simp [results, Tryz.results64, go_sem]) rfl ⟨⟨0, rfl, fun _ => rfl⟩, rfl⟩
  · by_cases h2 : n = 2
    · subst h2
      go_wp2
      refine bodyPost_ret (v := .tuple #[(Value.int .i64 1), .bool true]) (by simp [results, Tryz.results64, go_sem]) rfl ⟨⟨1, rfl, fun _ => rfl⟩, rfl⟩
    · have h3 : isKeeper n = false := by simp [isKeeper, h1, h2]
      go_wp2
      refine bodyPost_ret (v := .tuple #[(Value.int .i64 (wrap64 (n - 1))), .bool false]) (by simp [results, Tryz.results64, go_sem, h1, h2]) rfl ⟨⟨_, by rw [h3], fun h => ?_⟩, rfl⟩
      rw [h3] at h; cases h

theorem down_call (b : Nat) (c : Chief) (w : World) (L F : HL) (hw : Has w (L ++ F)) (hc : ChiefR b c L) :
    Calls Tryz.prog 24 #[.pointer (some ⟨b, 0, none⟩)] w fun e w' => e = .returned (.bool c.j.down) ∧ w' = w := by
  obtain ⟨hok, jb, mb, tb, ps, Lj, Lm, Ll, Lt, rfl, hJ, hM, hL, hT⟩ := hc
  have hw0 : Has w ((b, .cells #[(Value.int .i64 c.most), (Value.int .i64 c.room), (Value.int .i64 c.tries), pV jb, (Value.int .i64 c.used), .map (some mb), pV tb] 74) :: (Lj ++ Lm ++ Ll ++ Lt ++ F)) := hw
  unfold pV at hw0
  have p0 := hw0.lth
  have x0 := (hw0).cellh 0; have x1 := (hw0).cellh 1; have x2 := (hw0).cellh 2; have x3 := (hw0).cellh 3; have x4 := (hw0).cellh 4; have x5 := (hw0).cellh 5; have x6 := (hw0).cellh 6; simp at x0 x1 x2 x3 x4 x5 x6
  have Hj := Lib.hid (hw0.sub (B := Lj ++ []) (by intro x; simp only [cnt_append, cnt_cons, cnt_nil, List.tail_cons, World.size_alloc, World.size_setCell, World.size_drew, List.setIfInBounds_toArray, List.set_cons_zero, List.set_cons_succ] <;> omega))
  clear hw hw0
  go_enter Tryz.func24, Tryz.ntmps24
  go_wp2_with fail
  refine (jdown_call jb c.j _ Lj [] Hj.out hJ).mono ?_
  rintro e w1 ⟨rfl, rfl⟩
  go_wp2
  go_ret
  exact ⟨rfl, rfl⟩

theorem entry_call (k : ByteArray) (id : Int) (a : Option Addr) (n cap : Nat) (w : World) :
    Calls Tryz.prog 34 #[.string k, (Value.int .i64 id), .slice a n cap] w fun e w' => e = .returned (.agg #[.string k, (Value.int .i64 id), .slice a n cap]) ∧ Below w.heap.size w w' := by
  go_enter Tryz.func34, Tryz.ntmps34
  go_wp2
  refine bodyPost_ret (v := .agg #[.string k, (Value.int .i64 id), .slice a n cap]) (by simp [results, Tryz.results34, go_sem]) rfl ⟨rfl, ?_⟩
  ((repeat' (first | with_reducible exact Below.refl _ _ | with_reducible assumption | refine Below.alloc ?_ ?_ _ | refine Below.setCell ?_ ?_ _ | refine Below.drew ?_ | refine Below.drewN ?_ _ | (apply below_then; with_reducible assumption) | omega | (simp only [World.size_alloc, World.size_setCell, World.size_drew]; omega))); done)

def freshChief (most room tries : Int) (j : JournalM) : Chief := { most, room, tries, j, used := 0, l := [], bells := newTower tries }
theorem run_mk (t : TypeId) (w : World) : (Instr.makeMap t none).run Tryz.prog w = .ok (.map (some w.heap.size)) (w.alloc (.map #[] 0)) := rfl
set_option maxRecDepth 100000 in
theorem forget_call (b jb : Nat) (most room tries : Int) (u : Int) (m : Option Nat) (t : Option Addr) (j : JournalM) (w : World) (Lj F : HL) (hm1 : 1 ≤ most) (hm2 : most ≤ 64) (hr1 : 1 ≤ room) (hr2 : room ≤ 4096)
    (hw : Has w ((b, .cells #[(Value.int .i64 most), (Value.int .i64 room), (Value.int .i64 tries), .pointer (some ⟨jb, 0, none⟩), (Value.int .i64 u), .map m, .pointer t] 74) :: (Lj ++ F))) (hJ : JournalR jb j Lj) :
    Calls Tryz.prog 39 #[.pointer (some ⟨b, 0, none⟩)] w fun e w' => e = .returned (.tuple #[]) ∧ ∃ L', ChiefR b (freshChief most room tries j) L' ∧ Has w' (L' ++ F) ∧ Kin w w' := by
  have p0 := hw.lth
  have x0 := (hw).cellh 0; have x1 := (hw).cellh 1; have x2 := (hw).cellh 2; have x3 := (hw).cellh 3; have x4 := (hw).cellh 4; have x5 := (hw).cellh 5; have x6 := (hw).cellh 6; simp at x0 x1 x2 x3 x4 x5 x6
  have Hw := Lib.hid hw
  have hmk := fun w => run_mk 71 w
  clear hw
  go_enter Tryz.func39, Tryz.ntmps39
  go_wp2_with fail
  refine (bnew_call tries _ _ (Hw.out.alloc (.map #[] 0))).mono ?_
  rintro e w1 ⟨tb, Lt, rfl, hT, hw1, hk1⟩
  have hz : Has w1 ((b, .cells #[(Value.int .i64 most), (Value.int .i64 room), (Value.int .i64 tries), .pointer (some ⟨jb, 0, none⟩), (Value.int .i64 u), .map m, .pointer t] 74) :: (Lj ++ [(w.heap.size, .map #[] 0)] ++ Lt ++ F)) := hw1.sub (by intro x; simp only [cnt_append, cnt_cons, cnt_nil, List.tail_cons, World.size_alloc, World.size_setCell, World.size_drew, List.setIfInBounds_toArray, List.set_cons_zero, List.set_cons_succ] <;> omega)
  have q0 := hz.lth
  have y0 := (hz).cellh 0; have y1 := (hz).cellh 1; have y2 := (hz).cellh 2; have y3 := (hz).cellh 3; have y4 := (hz).cellh 4; have y5 := (hz).cellh 5; have y6 := (hz).cellh 6; simp at y0 y1 y2 y3 y4 y5 y6
  have f4 := hz.freeh 4; have f5 := hz.freeh 5; have f6 := hz.freeh 6
  have Hz := Lib.hid hz; have Hk1 := Lib.hid hk1
  clear hz hw1 hk1
  go_wp2
  refine bodyPost_end (v := .tuple #[]) (by simp [results, Tryz.results39, go_sem]) rfl ⟨rfl, (b, .cells #[(Value.int .i64 most), (Value.int .i64 room), (Value.int .i64 tries), .pointer (some ⟨jb, 0, none⟩), (Value.int .i64 0), .map (some w.heap.size), .pointer (some ⟨tb, 0, none⟩)] 74) :: (Lj ++ [(w.heap.size, .map #[] 0)] ++ [] ++ Lt), ⟨⟨hm1, hm2, hr1, hr2, by simp [freshChief, Keys1], by simp [freshChief]⟩, jb, _, tb, [], Lj, _, [], Lt, rfl, hJ, ⟨_, _, rfl, MapE.empty 0⟩, rfl, hT⟩, ?_, ?_⟩
  · refine Has.sub (((Hz.out.setCell 4 ((Value.int .i64 0))).setCell 5 (.map (some w.heap.size))).setCell 6 (.pointer (some ⟨tb, 0, none⟩))) ?_
    intro x; simp only [cnt_append, cnt_cons, cnt_nil, List.tail_cons, World.size_alloc, World.size_setCell, World.size_drew, List.setIfInBounds_toArray, List.set_cons_zero, List.set_cons_succ] <;> omega
  · exact ((((Kin.refl w).alloc _).trans Hk1.out).setCell _ _ |>.setCell _ _).setCell _ _

def newChief (orders room tries : Int) : Chief := freshChief (clamp 1 64 orders) (clamp 1 4096 room) tries (newJournal room)
set_option maxRecDepth 100000 in
theorem cnew_call (orders room tries : Int) (w : World) (F : HL) (hw : Has w F) :
    Calls Tryz.prog 26 #[(Value.int .i64 orders), (Value.int .i64 room), (Value.int .i64 tries)] w fun e w' => ∃ b L, e = .returned (.pointer (some ⟨b, 0, none⟩)) ∧ ChiefR b (newChief orders room tries) L ∧ Has w' (L ++ F) ∧ Kin w w' := by
  have Hw := Lib.hid hw; clear hw
  go_enter Tryz.func26, Tryz.ntmps26
  go_wp2_with fail
  refine (jnew_call room _ F Hw.out).mono ?_
  rintro e w1 ⟨jb, Lj, rfl, hJ, hw1, hk1⟩
  have Hk1 := Lib.hid hk1
  have Hw1 := Lib.hid (hw1.alloc (.cells #[(Value.int .i64 (max 1 (min orders 64))), (Value.int .i64 (max 1 (min room 4096))), (Value.int .i64 tries), .pointer (some ⟨jb, 0, none⟩), (Value.int .i64 0), .map none, .pointer none] 74))
  clear hw1 hk1
  go_wp2_with fail
  refine (forget_call w1.heap.size jb (max 1 (min orders 64)) (max 1 (min room 4096)) tries 0 none none (newJournal room) _ Lj F (by omega) (by omega) (by omega) (by omega) Hw1.out hJ).mono ?_
  rintro e w2 ⟨rfl, L', hC, hw2, hk2⟩
  go_wp2
  refine bodyPost_ret (v := .pointer (some ⟨w1.heap.size, 0, none⟩)) (by simp [results, Tryz.results26, go_sem]) rfl ⟨_, L', rfl, hC, hw2, (Hk1.out.alloc _).trans hk2⟩

end Go.Proofs.YtcfaimmcedpgiaaGreatDoor
