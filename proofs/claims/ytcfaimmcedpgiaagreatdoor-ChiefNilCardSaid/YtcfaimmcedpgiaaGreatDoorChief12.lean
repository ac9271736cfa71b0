/-
  chief: State, Handle of a vote: contracts. A lemma file: no statement of the seat is proved here.
-/
import Derived.Test.YtcfaimmcedpgiaaGreatDoorChief11
namespace Go.Proofs.YtcfaimmcedpgiaaGreatDoor
set_option linter.unusedVariables false
set_option linter.unusedSimpArgs false
open Go.RowKit

def Chief.state (c : Chief) (id : Int) : Int := match mget c.l id with | some x => fState x.o x.f | none => 0

set_option maxRecDepth 100000 in
set_option maxHeartbeats 1600000 in
theorem cstate_call (b : Nat) (c : Chief) (id : Int) (w : World) (L F : HL) (hw : Has w (L ++ F)) (hc : ChiefR b c L) (hu : c.used ≤ 4096) :
    Calls Tryz.prog 23 #[.pointer (some ⟨b, 0, none⟩), (Value.int .i64 id)] w fun r w' => r = .returned ((Value.int .i64 (c.state id))) ∧ Below w.heap.size w w' := by
  obtain ⟨ps, hQ⟩ := hc.q
  obtain ⟨st, hst⟩ : ∃ st, c.state id = st := ⟨_, rfl⟩
  rw [hst]
  unfold Chief.state at hst
  have Hst := Lib.hid hst
  obtain ⟨hok, jb, mb, tb, Lj, Lm, Ll, Lt, rfl, hJ, hM, hL, hTw⟩ := hQ
  have ho : Has w ((b, .cells #[(Value.int .i64 c.most), (Value.int .i64 c.room), (Value.int .i64 c.tries), .pointer (some ⟨jb, 0, none⟩), (Value.int .i64 c.used), .map (some mb), .pointer (some ⟨tb, 0, none⟩)] 74) :: (Lj ++ Lm ++ Ll ++ Lt ++ F)) := hw
  have q0 := ho.lth
  have y0 := (ho).cellh 0; have y1 := (ho).cellh 1; have y2 := (ho).cellh 2; have y3 := (ho).cellh 3; have y4 := (ho).cellh 4; have y5 := (ho).cellh 5; have y6 := (ho).cellh 6; simp at y0 y1 y2 y3 y4 y5 y6
  have hlk := run_lookup_map (P := Tryz.prog) (w := w) (L := Lm) (F := (b, .cells #[(Value.int .i64 c.most), (Value.int .i64 c.room), (Value.int .i64 c.tries), .pointer (some ⟨jb, 0, none⟩), (Value.int .i64 c.used), .map (some mb), .pointer (some ⟨tb, 0, none⟩)] 74) :: (Lj ++ Ll ++ Lt ++ F)) (ho.re (by intro x; simp only [cnt_append, cnt_cons, cnt_nil, List.tail_cons, World.size_alloc, World.size_setCell, World.size_drew, List.setIfInBounds_toArray, List.set_cons_zero, List.set_cons_succ] <;> omega)) hM Tryz.underlying3 Tryz.underlying71 (zeroLed _) id false
  have hlk2 := run_lookup_map (P := Tryz.prog) (w := w.drew) (L := Lm) (F := (b, .cells #[(Value.int .i64 c.most), (Value.int .i64 c.room), (Value.int .i64 c.tries), .pointer (some ⟨jb, 0, none⟩), (Value.int .i64 c.used), .map (some mb), .pointer (some ⟨tb, 0, none⟩)] 74) :: (Lj ++ Ll ++ Lt ++ F)) (ho.drew.re (by intro x; simp only [cnt_append, cnt_cons, cnt_nil, List.tail_cons, World.size_alloc, World.size_setCell, World.size_drew, List.setIfInBounds_toArray, List.set_cons_zero, List.set_cons_succ] <;> omega)) hM Tryz.underlying3 Tryz.underlying71 (zeroLed _) id false
  simp only [Bool.false_eq_true, if_false] at hlk hlk2
  obtain ⟨g, hg⟩ : ∃ g, mget ps id = g := ⟨_, rfl⟩
  have hgn := LedsR.none hL id
  rw [hg] at hlk hlk2 hgn
  have Hgn := Lib.hid hgn; have Hg := Lib.hid hg; have Ho := Lib.hid ho; have HL := Lib.hid hL; have Hok := Lib.hid hok; have Hu := Lib.hid hu
  clear hgn hg hw ho hc hst hJ hM hL hTw hok hu
  go_enter Tryz.func23, Tryz.ntmps23
  cases g with
  | none =>
    have h0 := Hst.out
    rw [Hgn.out.1 rfl] at h0
    simp only [] at h0
    subst h0
    simp only [Option.map_none, Option.getD_none] at hlk
    clear hlk2
    go_wp2
    exact bodyPost_ret (v := (Value.int .i64 0)) (by simp [results, Tryz.results23, go_sem]) rfl ⟨rfl, Below.refl _ _⟩
  | some q =>
    obtain ⟨x, hx⟩ : ∃ x, mget c.l id = some x := by
      cases h : mget c.l id with
      | none => have := Hgn.out.2 h; cases this
      | some x => exact ⟨x, rfl⟩
    have h0 := Hst.out
    rw [hx] at h0
    simp only [] at h0
    obtain ⟨q', L1, L2, hq, hX, hcnt, _⟩ := LedsR.get HL.out hx
    rw [Hg.out] at hq
    cases hq
    have hsm := Hok.out.2.2.2.2.2 _ (mem_of_mget hx)
    obtain ⟨o, ⟨done, undone, asked, yes, turned, ack0, ack1, shipped, dmg0, dmg1, accepted⟩, t⟩ := x
    obtain ⟨sl, dv, uv, tp, Ls, Ld, Lu, Ly, rfl, hS, hD, hU, hTa⟩ := hX
    obtain ⟨as0, caps, rfl⟩ := hS.val; obtain ⟨ad, capd, rfl⟩ := hD.val; obtain ⟨au, capu, rfl⟩ := hU.val
    unfold Led.cells at hcnt
    dsimp only at hcnt hS hD hU h0 hsm
    have hwx : Has w ((q, .cells #[(Value.int .i64 o.id), (Value.int .i64 o.item), (Value.int .i64 o.qty), (Value.int .i64 o.client), (Value.int .i64 o.price), .slice as0 o.steps.length caps, .slice ad done.length capd, .slice au undone.length capu, .bool asked, .bool yes, .bool turned, .bool ack0, .bool ack1, .bool shipped, .bool dmg0, .bool dmg1, .bool accepted, tp] 78) :: (Ls ++ Ld ++ Lu ++ Ly ++ (b, .cells #[(Value.int .i64 c.most), (Value.int .i64 c.room), (Value.int .i64 c.tries), .pointer (some ⟨jb, 0, none⟩), (Value.int .i64 c.used), .map (some mb), .pointer (some ⟨tb, 0, none⟩)] 74) :: (Lj ++ Lm ++ L2 ++ Lt ++ F))) := by
      refine Ho.out.sub ?_
      intro y
      have := hcnt y
      simp only [cnt_append, cnt_cons] at this ⊢
      omega
    have p0 := hwx.lth
    have x0 := (hwx).cellh 0; have x1 := (hwx).cellh 1; have x2 := (hwx).cellh 2; have x3 := (hwx).cellh 3; have x4 := (hwx).cellh 4; have x5 := (hwx).cellh 5; have x6 := (hwx).cellh 6; have x7 := (hwx).cellh 7; have x8 := (hwx).cellh 8; have x9 := (hwx).cellh 9; have x10 := (hwx).cellh 10; have x11 := (hwx).cellh 11; have x12 := (hwx).cellh 12; have x13 := (hwx).cellh 13; have x14 := (hwx).cellh 14; have x15 := (hwx).cellh 15; have x16 := (hwx).cellh 16; have x17 := (hwx).cellh 17; simp at x0 x1 x2 x3 x4 x5 x6 x7 x8 x9 x10 x11 x12 x13 x14 x15 x16 x17
    simp only [Option.map_some, Option.getD_some, pV] at hlk hlk2
    have Hwx := Lib.hid hwx; have HS := Lib.hid hS; have HD := Lib.hid hD; have HU := Lib.hid hU; have Hsm := Lib.hid hsm; have H0 := Lib.hid h0
    clear hwx hS hD hU hcnt hsm h0 hx hTa
    go_upto_region 3 with fail
    go_still_tail 18, (by kernel_rfl)
    change wpList _ _ _ _ _ w.drew
    go_wp2_with fail
    refine (state_call o ⟨done, undone, asked, yes, turned, ack0, ack1, shipped, dmg0, dmg1, accepted⟩ (.slice as0 o.steps.length caps) (.slice ad done.length capd) (.slice au undone.length capu) _ (HS.out.at encStep (F := []) (Hwx.out.drew.sub (by intro x; simp only [cnt_append, cnt_cons, cnt_nil, List.tail_cons, World.size_alloc, World.size_setCell, World.size_drew, List.setIfInBounds_toArray, List.set_cons_zero, List.set_cons_succ] <;> omega))) (HD.out.at encB (F := []) (Hwx.out.drew.sub (by intro x; simp only [cnt_append, cnt_cons, cnt_nil, List.tail_cons, World.size_alloc, World.size_setCell, World.size_drew, List.setIfInBounds_toArray, List.set_cons_zero, List.set_cons_succ] <;> omega))) (HU.out.at encB (F := []) (Hwx.out.drew.sub (by intro x; simp only [cnt_append, cnt_cons, cnt_nil, List.tail_cons, World.size_alloc, World.size_setCell, World.size_drew, List.setIfInBounds_toArray, List.set_cons_zero, List.set_cons_succ] <;> omega))) (by have h1 := Hsm.out.1; have := Hu.out; dsimp only at h1; omega) (by have h1 := Hsm.out.2.2; have := Hu.out; dsimp only at h1 ⊢; omega)).mono ?_
    rintro r w1 ⟨rfl, hb⟩
    rw [H0.out]
    have Hb := Lib.hid hb
    clear hb
    go_wp2
    exact bodyPost_ret (v := (Value.int .i64 st)) (by simp [results, Tryz.results23, go_sem]) rfl ⟨rfl, (Below.refl _ w).drew.trans Hb.out⟩

end Go.Proofs.YtcfaimmcedpgiaaGreatDoor
