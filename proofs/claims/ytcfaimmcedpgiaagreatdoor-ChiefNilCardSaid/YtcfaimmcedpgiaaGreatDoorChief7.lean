/-
  chief: sends: the contract. A lemma file: no statement of the seat is proved here.
-/
import Derived.Test.YtcfaimmcedpgiaaGreatDoorChief6
namespace Go.Proofs.YtcfaimmcedpgiaaGreatDoor
set_option linter.unusedVariables false
set_option linter.unusedSimpArgs false
open Go.RowKit

/-- Messages are given back, and the chief stands as c. -/
def Out (b : Nat) (c : Chief) (ps : List (Int × Nat)) (ms : List Msg) (F : HL) (w : World) (r : Ending) (w' : World) : Prop :=
  ∃ v Lv L', r = .returned v ∧ SlR Msg.enc 7 39 v ms Lv ∧ ChiefQ b c ps L' ∧ Has w' (Lv ++ (L' ++ F)) ∧ Kin w w'
set_option maxRecDepth 100000 in
set_option maxHeartbeats 1600000 in
theorem sends_call (b : Nat) (c : Chief) (ps : List (Int × Nat)) (id : Int) (x : Led) (p : Nat) (w : World) (L F : HL) (hw : Has w (L ++ F)) (hc : ChiefQ b c ps L) (hT : Tab F) (hx : mget c.l id = some x) (hp : mget ps id = some p) (hid : x.o.id = id) (hu : c.used ≤ 4096) :
    Calls Tryz.prog 54 #[.pointer (some ⟨b, 0, none⟩), .pointer (some ⟨p, 0, none⟩)] w (Out b (c.sends x).2 ps (c.sends x).1 F w) := by
  have hsm := hc.small hx
  obtain ⟨L1, L2, hX, hcnt⟩ := hc.led hx hp
  obtain ⟨o, ⟨done, undone, asked, yes, turned, ack0, ack1, shipped, dmg0, dmg1, accepted⟩, t⟩ := x
  obtain ⟨sl, dv, uv, tp, Ls, Ld, Lu, Ly, rfl, hS, hD, hU, hTa⟩ := hX
  dsimp only at hid hS hD hU hTa hsm
  have hwx : Has w ((p, .cells #[(Value.int .i64 o.id), (Value.int .i64 o.item), (Value.int .i64 o.qty), (Value.int .i64 o.client), (Value.int .i64 o.price), sl, dv, uv, .bool asked, .bool yes, .bool turned, .bool ack0, .bool ack1, .bool shipped, .bool dmg0, .bool dmg1, .bool accepted, tp] 78) :: (Ls ++ Ld ++ Lu ++ Ly ++ L2 ++ F)) := by
    refine hw.sub ?_
    intro y
    have := hcnt y
    simp only [cnt_append, cnt_cons, Led.cells] at this ⊢
    omega
  have hback : ∀ W M, Has W (M ++ ((p, .cells #[(Value.int .i64 o.id), (Value.int .i64 o.item), (Value.int .i64 o.qty), (Value.int .i64 o.client), (Value.int .i64 o.price), sl, dv, uv, .bool asked, .bool yes, .bool turned, .bool ack0, .bool ack1, .bool shipped, .bool dmg0, .bool dmg1, .bool accepted, tp] 78) :: (Ls ++ Ld ++ Lu ++ Ly ++ L2 ++ F))) → Has W (M ++ (L ++ F)) := by
    intro W M h
    refine h.sub ?_
    intro y
    have := hcnt y
    simp only [cnt_append, cnt_cons, Led.cells] at this ⊢
    omega
  obtain ⟨as0, caps, rfl⟩ := hS.val; obtain ⟨ad, capd, rfl⟩ := hD.val; obtain ⟨au, capu, rfl⟩ := hU.val
  have q0 := hwx.lth
  have x0 := (hwx).cellh 0; have x1 := (hwx).cellh 1; have x2 := (hwx).cellh 2; have x3 := (hwx).cellh 3; have x4 := (hwx).cellh 4; have x5 := (hwx).cellh 5; have x6 := (hwx).cellh 6; have x7 := (hwx).cellh 7; have x8 := (hwx).cellh 8; have x9 := (hwx).cellh 9; have x10 := (hwx).cellh 10; have x11 := (hwx).cellh 11; have x12 := (hwx).cellh 12; have x13 := (hwx).cellh 13; have x14 := (hwx).cellh 14; have x15 := (hwx).cellh 15; have x16 := (hwx).cellh 16; have x17 := (hwx).cellh 17; simp at x0 x1 x2 x3 x4 x5 x6 x7 x8 x9 x10 x11 x12 x13 x14 x15 x16 x17
  have Hoid := Lib.hid hid; clear hid
  have Hx := Lib.hid hx; have Hp := Lib.hid hp
  have Hc := Lib.hid hc; have HT := Lib.hid hT; have Hwx := Lib.hid hwx; have Hback := Lib.hid hback; have Hu := Lib.hid hu; have Hsm := Lib.hid hsm; have HS := Lib.hid hS; have HD := Lib.hid hD; have HU := Lib.hid hU
  clear hc hT hwx hback hu hsm hw hcnt hS hD hU hTa hx hp
  obtain ⟨ms, hms⟩ : ∃ ms, nextM o ⟨done, undone, asked, yes, turned, ack0, ack1, shipped, dmg0, dmg1, accepted⟩ = ms := ⟨_, rfl⟩
  obtain ⟨q, hq⟩ : ∃ q, (⟨o, ⟨done, undone, asked, yes, turned, ack0, ack1, shipped, dmg0, dmg1, accepted⟩, t⟩ : Led).asks = q := ⟨_, rfl⟩
  obtain ⟨fi, hfi⟩ : ∃ fi, c.fitsIn 1 = fi := ⟨_, rfl⟩
  have hsd : c.sends ⟨o, ⟨done, undone, asked, yes, turned, ack0, ack1, shipped, dmg0, dmg1, accepted⟩, t⟩ = if q then (if fi then (ms, c.noted [⟨kAsked, o.id, []⟩]) else ([], c)) else (ms, c) := by
    unfold Chief.sends
    rw [hq, hfi, hms]
  obtain ⟨⟨oms, oc⟩, hout⟩ : ∃ ou, c.sends ⟨o, ⟨done, undone, asked, yes, turned, ack0, ack1, shipped, dmg0, dmg1, accepted⟩, t⟩ = ou := ⟨_, rfl⟩
  rw [hout] at hsd ⊢
  dsimp only
  have Hout := Lib.hid hsd.symm
  clear hout
  unfold Led.asks at hq
  dsimp only at hq
  rw [hms] at hq
  have Hq := Lib.hid hq; have Hms := Lib.hid hms; have Hfi := Lib.hid hfi
  clear hsd hq hms hfi
  go_enter Tryz.func54, Tryz.ntmps54
  go_upto_region 1 with fail
  go_still_tail 8, (by kernel_rfl)
  change wpList _ _ _ _ _ w.drew
  go_wp2_with fail
  refine (next_call o ⟨done, undone, asked, yes, turned, ack0, ack1, shipped, dmg0, dmg1, accepted⟩ (.slice as0 o.steps.length caps) (.slice ad done.length capd) (.slice au undone.length capu) _ ((p, .cells #[(Value.int .i64 o.id), (Value.int .i64 o.item), (Value.int .i64 o.qty), (Value.int .i64 o.client), (Value.int .i64 o.price), .slice as0 o.steps.length caps, .slice ad done.length capd, .slice au undone.length capu, .bool asked, .bool yes, .bool turned, .bool ack0, .bool ack1, .bool shipped, .bool dmg0, .bool dmg1, .bool accepted, tp] 78) :: (Ls ++ Ld ++ Lu ++ Ly ++ L2 ++ F)) Hwx.out.drew (fun W M h => HS.out.at encStep (F := []) (h.sub (B := Ls ++ []) (by intro x; simp only [cnt_append, cnt_cons, cnt_nil, List.tail_cons, World.size_alloc, World.size_setCell, World.size_drew, List.setIfInBounds_toArray, List.set_cons_zero, List.set_cons_succ] <;> omega))) (fun W M h => HD.out.at encB (F := []) (h.sub (B := Ld ++ []) (by intro x; simp only [cnt_append, cnt_cons, cnt_nil, List.tail_cons, World.size_alloc, World.size_setCell, World.size_drew, List.setIfInBounds_toArray, List.set_cons_zero, List.set_cons_succ] <;> omega))) (fun W M h => HU.out.at encB (F := []) (h.sub (B := Lu ++ []) (by intro x; simp only [cnt_append, cnt_cons, cnt_nil, List.tail_cons, World.size_alloc, World.size_setCell, World.size_drew, List.setIfInBounds_toArray, List.set_cons_zero, List.set_cons_succ] <;> omega))) (by have h1 := Hsm.out.1; have := Hu.out; dsimp only at h1; omega)).mono ?_
  rintro r w1 ⟨v, Lv, rfl, hV, hw1, hk1⟩
  rw [Hms.out] at hV
  obtain ⟨am, capm, rfl⟩ := hV.val
  have hz := hw1.sub (B := (p, .cells #[(Value.int .i64 o.id), (Value.int .i64 o.item), (Value.int .i64 o.qty), (Value.int .i64 o.client), (Value.int .i64 o.price), .slice as0 o.steps.length caps, .slice ad done.length capd, .slice au undone.length capu, .bool asked, .bool yes, .bool turned, .bool ack0, .bool ack1, .bool shipped, .bool dmg0, .bool dmg1, .bool accepted, tp] 78) :: (Lv ++ Ls ++ Ld ++ Lu ++ Ly ++ L2 ++ F)) (by intro x; simp only [cnt_append, cnt_cons, cnt_nil, List.tail_cons, World.size_alloc, World.size_setCell, World.size_drew, List.setIfInBounds_toArray, List.set_cons_zero, List.set_cons_succ] <;> omega)
  clear x0 x1 x2 x3 x4 x5 x6 x7 x8 x9 x10 x11 x12 x13 x14 x15 x16 x17 q0
  have q0 := hz.lth
  have x0 := (hz).cellh 0; have x1 := (hz).cellh 1; have x2 := (hz).cellh 2; have x3 := (hz).cellh 3; have x4 := (hz).cellh 4; have x5 := (hz).cellh 5; have x6 := (hz).cellh 6; have x7 := (hz).cellh 7; have x8 := (hz).cellh 8; have x9 := (hz).cellh 9; have x10 := (hz).cellh 10; have x11 := (hz).cellh 11; have x12 := (hz).cellh 12; have x13 := (hz).cellh 13; have x14 := (hz).cellh 14; have x15 := (hz).cellh 15; have x16 := (hz).cellh 16; have x17 := (hz).cellh 17; simp at x0 x1 x2 x3 x4 x5 x6 x7 x8 x9 x10 x11 x12 x13 x14 x15 x16 x17
  have hcell := hV.at encMsg (F := (p, .cells #[(Value.int .i64 o.id), (Value.int .i64 o.item), (Value.int .i64 o.qty), (Value.int .i64 o.client), (Value.int .i64 o.price), .slice as0 o.steps.length caps, .slice ad done.length capd, .slice au undone.length capu, .bool asked, .bool yes, .bool turned, .bool ack0, .bool ack1, .bool shipped, .bool dmg0, .bool dmg1, .bool accepted, tp] 78) :: (Ls ++ Ld ++ Lu ++ Ly ++ L2 ++ F)) hw1
  have hfin : Has w1 (Lv ++ (L ++ F)) := Hback.out w1 Lv hw1
  have Hw1 := Lib.hid hw1; have HV := Lib.hid hV; have Hfin := Lib.hid hfin; have Hk1 := Lib.hid hk1
  clear hw1 hV hz hfin hk1
  cases ms with
  | nil =>
    obtain rfl : q = false := Hq.out.symm
    go_wp2
    have e := Hout.out; simp only [if_true, Bool.false_eq_true, if_false, Prod.mk.injEq] at e; obtain ⟨rfl, rfl⟩ := e
    exact bodyPost_ret (v := .slice am 0 capm) (by simp [results, Tryz.results54, go_sem]) rfl ⟨_, Lv, L, rfl, HV.out, Hc.out, Hfin.out, (Kin.refl w).drew.trans Hk1.out⟩
  | cons m rest =>
    rcases hcell with ⟨_, h1⟩ | ⟨b', off, cap', h0, hcs⟩
    · cases h1
    obtain rfl : am = some ⟨b', off, none⟩ := (Value.slice.inj h0).1
    have c0 := hcs 0 m rfl 0 ((Value.int .i64 m.kind)) rfl
    simp only [Nat.add_zero, Nat.zero_mul] at c0
    clear hcs h0
    obtain ⟨N, hN⟩ : ∃ N, (m :: rest).length = N := ⟨_, rfl⟩
    have hN1 : (0 : Int) < (N : Int) := by rw [← hN, List.length_cons]; omega
    rw [hN]
    have HN := Lib.hid hN
    clear hN
    by_cases hk6 : m.kind = 6
    · rw [hk6] at c0
      cases asked with
      | true =>
        obtain rfl : q = false := by have := Hq.out; simpa using this.symm
        have Hk6 := Lib.hid hk6
        clear hk6
        go_wp2
        have e := Hout.out; simp only [if_true, Bool.false_eq_true, if_false, Prod.mk.injEq] at e; obtain ⟨rfl, rfl⟩ := e
        refine bodyPost_ret (v := .slice (some ⟨b', off, none⟩) N capm) (by simp [results, Tryz.results54, go_sem]) rfl ⟨_, Lv, L, rfl, ?_, Hc.out, Hfin.out, (Kin.refl w).drew.trans Hk1.out⟩
        rw [← HN.out]; exact HV.out
      | false =>
        obtain rfl : q = true := by have := Hq.out; rw [← this]; simp [hk6]
        have Hk6 := Lib.hid hk6
        clear hk6
        go_wp2_with fail
        refine (entry_call kAsked o.id none 0 0 w1).mono ?_
        rintro r w2 ⟨rfl, hb2⟩
        have hw2 := (Hw1.out.below_all hb2).alloc (.cells #[.string kAsked, (Value.int .i64 o.id), .slice none 0 0] 81)
        have hn2 := Hback.out _ ((w2.heap.size, .cells #[.string kAsked, (Value.int .i64 o.id), .slice none 0 0] 81) :: Lv) hw2
        have Hn2 := Lib.hid hn2; have Hk2 := Lib.hid (Kin.of_below hb2)
        clear hb2 hw2 hn2
        unfold kAsked
        go_wp2_with fail
        refine (notes_call b c ps (.slice (some ⟨w2.heap.size, 0, none⟩) 1 1) [(⟨kAsked, o.id, []⟩, (none, 0))] _ L ((w2.heap.size, .cells #[.string kAsked, (Value.int .i64 o.id), .slice none 0 0] 81) :: (Lv ++ F)) (Hn2.out.re (by intro x; simp only [cnt_append, cnt_cons, cnt_nil, List.tail_cons, World.size_alloc, World.size_setCell, World.size_drew, List.setIfInBounds_toArray, List.set_cons_zero, List.set_cons_succ] <;> omega)) Hc.out (fun W M h => HT.out W (M ++ ((w2.heap.size, .cells #[.string kAsked, (Value.int .i64 o.id), .slice none 0 0] 81) :: Lv)) (h.re (by intro x; simp only [cnt_append, cnt_cons, cnt_nil, List.tail_cons, World.size_alloc, World.size_setCell, World.size_drew, List.setIfInBounds_toArray, List.set_cons_zero, List.set_cons_succ] <;> omega))) (ents_one kAsked o.id w2.heap.size (Lv ++ F)) (entsOk_one _ _ (by decide)) Hu.out ⟨Chief.takes_plain _ (by unfold plainKind; decide) _ _, trivial⟩).mono ?_
        rintro r w3 ⟨rfl, L', ps', hQ, hps, hw3, hk3⟩
        obtain rfl : ps' = ps := hps (by intro p hp; have h := List.mem_singleton.1 hp; rw [h]; show kAsked ≠ bBegin; decide)
        have hn1 : c.notes ([((⟨kAsked, o.id, []⟩, (none, 0)) : EV)].map (·.1)) = if fi then c.noted [⟨kAsked, o.id, []⟩] else c := by
          unfold Chief.notes
          rw [← Hfi.out]; rfl
        rw [hn1] at hQ
        have hfl : c.fitsIn [((⟨kAsked, o.id, []⟩, (none, 0)) : EV)].length = fi := Hfi.out
        rw [hfl]
        have hw4 : Has w3 (Lv ++ (L' ++ F)) := hw3.sub (by intro x; simp only [cnt_append, cnt_cons, cnt_nil, List.tail_cons, World.size_alloc, World.size_setCell, World.size_drew, List.setIfInBounds_toArray, List.set_cons_zero, List.set_cons_succ] <;> omega)
        have hkk : Kin w w3 := (((Kin.refl w).drew.trans Hk1.out).trans (Hk2.out.alloc _)).trans hk3
        clear hfl hn1 hps hw3
        cases fi with
        | true =>
          go_wp2
          have e := Hout.out; simp only [if_true, Bool.false_eq_true, if_false, Prod.mk.injEq] at e; obtain ⟨rfl, rfl⟩ := e
          refine bodyPost_ret (v := .slice (some ⟨b', off, none⟩) N capm) (by simp [results, Tryz.results54, go_sem]) rfl ⟨_, Lv, L', rfl, ?_, hQ, hw4, hkk⟩
          rw [← HN.out]; exact HV.out
        | false =>
          go_wp2
          have e := Hout.out; simp only [if_true, Bool.false_eq_true, if_false, Prod.mk.injEq] at e; obtain ⟨rfl, rfl⟩ := e
          exact bodyPost_ret (v := .slice none 0 0) (by simp [results, Tryz.results54, go_sem]) rfl ⟨_, [], L', rfl, .nil, hQ, hw4.right, hkk⟩
    · obtain rfl : q = false := by have := Hq.out; simpa [hk6] using this.symm
      go_wp2
      have e := Hout.out; simp only [if_true, Bool.false_eq_true, if_false, Prod.mk.injEq] at e; obtain ⟨rfl, rfl⟩ := e
      refine bodyPost_ret (v := .slice (some ⟨b', off, none⟩) N capm) (by simp [results, Tryz.results54, go_sem]) rfl ⟨_, Lv, L, rfl, ?_, Hc.out, Hfin.out, (Kin.refl w).drew.trans Hk1.out⟩
      rw [← HN.out]; exact HV.out

end Go.Proofs.YtcfaimmcedpgiaaGreatDoor
