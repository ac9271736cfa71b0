/-
  chief: begins, facts, plays: contracts. A lemma file: no statement of the seat is proved here.
-/
import Derived.Test.YtcfaimmcedpgiaaGreatDoorChief1
namespace Go.Proofs.YtcfaimmcedpgiaaGreatDoor
set_option linter.unusedVariables false
set_option linter.unusedSimpArgs false
open Go.RowKit

def noFacts : Facts := { done := [], undone := [], asked := false, yes := false, turned := false, ack0 := false, ack1 := false, shipped := false, dmg0 := false, dmg1 := false, accepted := false }
def bareLed (id item qty client price : Int) : Led := { o := { id, item, qty, client, price, steps := [] }, f := noFacts, t := none }
def Chief.begins (c : Chief) (e : Entry) : Chief := match e.n with
  | [n0, n1, n2, n3] => { c with l := mput c.l e.id (bareLed e.id n0 n1 n2 n3) }
  | _ => c
theorem bareLed_R (p : Nat) (id item qty client price : Int) : LedR p (bareLed id item qty client price) [(p, .cells #[(Value.int .i64 id), (Value.int .i64 item), (Value.int .i64 qty), (Value.int .i64 client), (Value.int .i64 price), .slice none 0 0, .slice none 0 0, .slice none 0 0, .bool false, .bool false, .bool false, .bool false, .bool false, .bool false, .bool false, .bool false, .bool false, .pointer none] 78)] :=
  ⟨_, _, _, _, [], [], [], [], rfl, .nil, .nil, .nil, .inl ⟨rfl, rfl, rfl⟩⟩

set_option maxRecDepth 100000 in
set_option maxHeartbeats 1600000 in
theorem begins_call (b : Nat) (c : Chief) (e : Entry) (nv : Value) (w : World) (L F : HL) (hw : Has w (L ++ F)) (hc : ChiefR b c L) (hl : ∀ W M, Has W (M ++ F) → SlAt W iEnc 1 nv e.n) (hn : e.n.length < 1000000) :
    Calls Tryz.prog 79 #[.pointer (some ⟨b, 0, none⟩), .agg (e.cells nv)] w fun r w' => r = .returned (.tuple #[]) ∧ ∃ L', ChiefR b (c.begins e) L' ∧ Has w' (L' ++ F) ∧ Kin w w' := by
  have hc0 := hc
  obtain ⟨hok, jb, mb, tb, ps, Lj, Lm, Ll, Lt, rfl, hJ, hM, hL, hT⟩ := hc
  obtain ⟨a1, cap1, rfl⟩ := (hl w _ hw).len
  have ho := hw.alloc (.cells #[.string e.kind, (Value.int .i64 e.id), .slice a1 e.n.length cap1] 81)
  have hs := hl _ ((w.heap.size, .cells #[.string e.kind, (Value.int .i64 e.id), .slice a1 e.n.length cap1] 81) :: (b, .cells #[(Value.int .i64 c.most), (Value.int .i64 c.room), (Value.int .i64 c.tries), pV jb, (Value.int .i64 c.used), .map (some mb), pV tb] 74) :: (Lj ++ Lm ++ Ll ++ Lt)) ho
  have hw0 : Has w ((b, .cells #[(Value.int .i64 c.most), (Value.int .i64 c.room), (Value.int .i64 c.tries), .pointer (some ⟨jb, 0, none⟩), (Value.int .i64 c.used), .map (some mb), .pointer (some ⟨tb, 0, none⟩)] 74) :: (Lj ++ Lm ++ Ll ++ Lt ++ F)) := hw
  have p0 := hw0.lth
  have x0 := (hw0).cellh 0; have x1 := (hw0).cellh 1; have x2 := (hw0).cellh 2; have x3 := (hw0).cellh 3; have x4 := (hw0).cellh 4; have x5 := (hw0).cellh 5; have x6 := (hw0).cellh 6; simp at x0 x1 x2 x3 x4 x5 x6
  have Ho := Lib.hid ho; have Hw := Lib.hid hw; have Hc := Lib.hid hc0; have Hl := Lib.hid hl
  clear hw hw0 ho hc0 hl
  unfold Entry.cells
  by_cases h4 : e.n.length = 4
  · obtain ⟨kind, id, n⟩ := e
    dsimp only at h4 hs
    obtain ⟨n0, n1, n2, n3, rfl⟩ : ∃ a b c d, n = [a, b, c, d] := by
      match n, h4 with
      | [a, b, c, d], _ => exact ⟨a, b, c, d, rfl⟩
    rcases hs with ⟨h0, h1⟩ | ⟨b', off, cap', h0, hcs⟩
    · cases h1
    obtain rfl : a1 = some ⟨b', off, none⟩ := by simpa using (Value.slice.inj h0).1
    have hcs : ∀ (k : Nat) (x : Int), [n0, n1, n2, n3][k]? = some x → ∀ (j : Nat) (u : Value), (iEnc x)[j]? = some u → (w.alloc (.cells #[.string kind, (Value.int .i64 id), .slice (some ⟨b', off, none⟩) 4 cap1] 81)).cell? ⟨b', off + k * 1 + j, none⟩ = some u := hcs
    have c0 := hcs 0 n0 rfl 0 ((Value.int .i64 n0)) rfl
    have c1 := hcs 1 n1 rfl 0 ((Value.int .i64 n1)) rfl
    have c2 := hcs 2 n2 rfl 0 ((Value.int .i64 n2)) rfl
    have c3 := hcs 3 n3 rfl 0 ((Value.int .i64 n3)) rfl
    simp only [Nat.add_zero, Nat.mul_one, Nat.zero_mul] at c0 c1 c2 c3
    clear hcs h0
    go_enter Tryz.func79, Tryz.ntmps79
    have hO : Has (w.alloc (.cells #[.string kind, (Value.int .i64 id), .slice (some ⟨b', off, none⟩) 4 cap1] 81)) ((w.heap.size, .cells #[.string kind, (Value.int .i64 id), .slice (some ⟨b', off, none⟩) 4 cap1] 81) :: (b, .cells #[(Value.int .i64 c.most), (Value.int .i64 c.room), (Value.int .i64 c.tries), pV jb, (Value.int .i64 c.used), .map (some mb), pV tb] 74) :: (Lj ++ Lm ++ Ll ++ Lt ++ F)) := Ho.out
    have g1 := hO.cellh 1; have g2 := hO.cellh 2
    simp only [List.getElem?_toArray, List.getElem?_cons_succ, List.getElem?_cons_zero] at g1 g2
    have hA : Has (((w.alloc (.cells #[.string kind, (Value.int .i64 id), .slice (some ⟨b', off, none⟩) 4 cap1] 81)).alloc (.cells #[(Value.int .i64 id), (Value.int .i64 n0), (Value.int .i64 n1), (Value.int .i64 n2), (Value.int .i64 n3), .slice none 0 0, .slice none 0 0, .slice none 0 0, .bool false, .bool false, .bool false, .bool false, .bool false, .bool false, .bool false, .bool false, .bool false, .pointer none] 78)).drew) (Lm ++ ((w.heap.size + 1, .cells #[(Value.int .i64 id), (Value.int .i64 n0), (Value.int .i64 n1), (Value.int .i64 n2), (Value.int .i64 n3), .slice none 0 0, .slice none 0 0, .slice none 0 0, .bool false, .bool false, .bool false, .bool false, .bool false, .bool false, .bool false, .bool false, .bool false, .pointer none] 78) :: (w.heap.size, .cells #[.string kind, (Value.int .i64 id), .slice (some ⟨b', off, none⟩) 4 cap1] 81) :: (b, .cells #[(Value.int .i64 c.most), (Value.int .i64 c.room), (Value.int .i64 c.tries), pV jb, (Value.int .i64 c.used), .map (some mb), pV tb] 74) :: (Lj ++ Ll ++ Lt ++ F))) := ((hO.alloc _).drew).sub (by intro x; simp only [cnt_append, cnt_cons, cnt_nil, List.tail_cons, World.size_alloc, World.size_setCell, World.size_drew, List.setIfInBounds_toArray, List.set_cons_zero, List.set_cons_succ] <;> omega)
    obtain ⟨w2, L2, hr, hM2, hw2, hk2, hs2⟩ := run_update_map hA hM Tryz.underlying3 Tryz.underlying71 id (w.heap.size + 1)
    have hz : Has w2 ((w.heap.size, .cells #[.string kind, (Value.int .i64 id), .slice (some ⟨b', off, none⟩) 4 cap1] 81) :: (b, .cells #[(Value.int .i64 c.most), (Value.int .i64 c.room), (Value.int .i64 c.tries), pV jb, (Value.int .i64 c.used), .map (some mb), pV tb] 74) :: (w.heap.size + 1, .cells #[(Value.int .i64 id), (Value.int .i64 n0), (Value.int .i64 n1), (Value.int .i64 n2), (Value.int .i64 n3), .slice none 0 0, .slice none 0 0, .slice none 0 0, .bool false, .bool false, .bool false, .bool false, .bool false, .bool false, .bool false, .bool false, .bool false, .pointer none] 78) :: (L2 ++ Lj ++ Ll ++ Lt ++ F)) := hw2.sub (by intro x; simp only [cnt_append, cnt_cons, cnt_nil, List.tail_cons, World.size_alloc, World.size_setCell, World.size_drew, List.setIfInBounds_toArray, List.set_cons_zero, List.set_cons_succ] <;> omega)
    have y0 := (hz).cellh 0; have y1 := (hz).cellh 1; have y2 := (hz).cellh 2; simp at y0 y1 y2
    have z5 := hz.tail.cellh 5
    simp at z5
    rcases Hl.out w2 [] (hw2.sub (B := [] ++ F) (by intro x; simp only [cnt_append, cnt_cons, cnt_nil, List.tail_cons, World.size_alloc, World.size_setCell, World.size_drew, List.setIfInBounds_toArray, List.set_cons_zero, List.set_cons_succ] <;> omega)) with ⟨_, h1⟩ | ⟨b3, off3, cap3, h0', hcs'⟩
    · cases h1
    have h2 := (Value.slice.inj h0').1
    simp only [Option.some.injEq, Addr.mk.injEq] at h2
    obtain ⟨rfl, rfl, _⟩ := h2
    have d0 := hcs' 0 n0 rfl 0 ((Value.int .i64 n0)) rfl
    have d1 := hcs' 1 n1 rfl 0 ((Value.int .i64 n1)) rfl
    have d2 := hcs' 2 n2 rfl 0 ((Value.int .i64 n2)) rfl
    have d3 := hcs' 3 n3 rfl 0 ((Value.int .i64 n3)) rfl
    simp only [Nat.add_zero, Nat.mul_one, Nat.zero_mul] at d0 d1 d2 d3
    have HL := Lib.hid hL; have HM2 := Lib.hid hM2; have Hz := Lib.hid hz; have Hk2 := Lib.hid hk2
    clear hL hM hA hw2 hz hM2 hk2 hcs' h0'
    unfold pV at hr
    go_wp2
    go_region_held3 (fun wx => wx.cell? ⟨b, 5, none⟩ = some (.map (some mb)) ∧ wx.cell? ⟨w.heap.size, 1, none⟩ = some ((Value.int .i64 id)) ∧ wx.cell? ⟨w.heap.size, 2, none⟩ = some (.slice (some ⟨b', off, none⟩) 4 cap1) ∧ wx.cell? ⟨b', off, none⟩ = some ((Value.int .i64 n0)) ∧ wx.cell? ⟨b', off + 1, none⟩ = some ((Value.int .i64 n1)) ∧ wx.cell? ⟨b', off + 2, none⟩ = some ((Value.int .i64 n2)) ∧ wx.cell? ⟨b', off + 3, none⟩ = some ((Value.int .i64 n3))) ((repeat' apply And.intro) <;> (repeat' (first | with_reducible assumption | with_reducible refine cell_alloc_keep _ ?_ | with_reducible refine cell_drew_keep ?_ | with_reducible refine cell_set_keep ?_ ?_ | (simp only [World.size_alloc, World.size_setCell, World.size_drew]; omega)))) (fail)
    all_goals go_wp2
    all_goals
      obtain ⟨L3, f1, f2⟩ := HL.out.put id (bareLed_R (w.heap.size + 1) id n0 n1 n2 n3)
      refine bodyPost_end (v := .tuple #[]) (by simp [results, Tryz.results79, go_sem]) rfl ⟨rfl, (b, .cells #[(Value.int .i64 c.most), (Value.int .i64 c.room), (Value.int .i64 c.tries), pV jb, (Value.int .i64 c.used), .map (some mb), pV tb] 74) :: (Lj ++ L2 ++ L3 ++ Lt), ⟨⟨hok.1, hok.2.1, hok.2.2.1, hok.2.2.2.1, keys1_mput hok.2.2.2.2.1 _ _, ?_⟩, jb, mb, tb, _, Lj, L2, L3, Lt, rfl, hJ, HM2.out, f1, hT⟩, ?_, ?_⟩
      · intro q hq
        rcases mput_mem hq with rfl | hq
        · exact ⟨Nat.zero_le _, Nat.zero_le _, Nat.zero_le _⟩
        · exact hok.2.2.2.2.2 q hq
      · refine Hz.out.sub ?_
        intro x
        have := f2 x
        simp only [cnt_append, cnt_cons, cnt_nil] at this ⊢
        omega
      · exact (((Kin.refl w).alloc _).alloc _).drew.trans Hk2.out
  · go_enter Tryz.func79, Tryz.ntmps79
    have h4' : ((e.n.length : Int) == 4) = false := by simp; omega
    have hb : c.begins e = c := by
      unfold Chief.begins
      split
      · rename_i h; rw [h] at h4; simp at h4
      · rfl
    go_wp2
    refine bodyPost_end (v := .tuple #[]) (by simp [results, Tryz.results79, go_sem]) rfl ⟨rfl, _, by rw [hb]; exact Hc.out, Ho.out.tail, (Kin.refl w).alloc _⟩

end Go.Proofs.YtcfaimmcedpgiaaGreatDoor
