/-
  chief: Handle of a vote: the contract. A lemma file: no statement of the seat is proved here.
-/
import Derived.Test.YtcfaimmcedpgiaaGreatDoorChief11
namespace Go.Proofs.YtcfaimmcedpgiaaGreatDoor
set_option linter.unusedVariables false
set_option linter.unusedSimpArgs false
open Go.RowKit

def OutX (b : Nat) (c : Chief) (ms : List Msg) (F : HL) (w : World) (r : Ending) (w' : World) : Prop := ∃ ps, Out b c ps ms F w r w'
set_option maxRecDepth 100000 in
set_option maxHeartbeats 1600000 in
theorem handle_vote (b : Nat) (c : Chief) (x : Led) (m : Msg) (w : World) (L F : HL) (hw : Has w (L ++ F)) (hc : ChiefR b c L) (hT : Tab F) (hx : mget c.l m.id = some x) (hid : m.id = x.o.id) (hu : c.used ≤ 4096) (ht : ∀ t, x.t = some t → t.said.length = 2)
    (hdn : c.j.down = false) (hto : m.dest = 0) (hk : m.kind = 7 ∨ m.kind = 8) :
    Calls Tryz.prog 12 #[.pointer (some ⟨b, 0, none⟩), .agg m.enc.toArray] w (OutX b (c.votes x m).2 (c.votes x m).1 F w) := by
  obtain ⟨kind, frm, dest, mid, step, ma, mb0⟩ := m
  dsimp only at hx hid hto hk
  subst hto
  obtain ⟨ps, hQ⟩ := hc.q
  obtain ⟨p, hp⟩ := hQ.ptr hx
  have hQ0 := hQ
  obtain ⟨hok, jb, mb, tb, Lj, Lm, Ll, Lt, rfl, hJ, hM, hL, hTw⟩ := hQ
  rcases hk with rfl | rfl
  · have ho : Has (w.alloc (.cells #[(Value.int .i64 7), (Value.int .i64 frm), (Value.int .i64 0), (Value.int .i64 mid), (Value.int .i64 step), (Value.int .i64 ma), (Value.int .i64 mb0)] 39)) ((w.heap.size, .cells #[(Value.int .i64 7), (Value.int .i64 frm), (Value.int .i64 0), (Value.int .i64 mid), (Value.int .i64 step), (Value.int .i64 ma), (Value.int .i64 mb0)] 39) :: (b, .cells #[(Value.int .i64 c.most), (Value.int .i64 c.room), (Value.int .i64 c.tries), .pointer (some ⟨jb, 0, none⟩), (Value.int .i64 c.used), .map (some mb), .pointer (some ⟨tb, 0, none⟩)] 74) :: (Lj ++ Lm ++ Ll ++ Lt ++ F)) := hw.alloc (.cells #[(Value.int .i64 7), (Value.int .i64 frm), (Value.int .i64 0), (Value.int .i64 mid), (Value.int .i64 step), (Value.int .i64 ma), (Value.int .i64 mb0)] 39)
    have q0 := ho.lth; have q1 := ho.tail.lth
    have y0 := (ho.tail).cellh 0; have y1 := (ho.tail).cellh 1; have y2 := (ho.tail).cellh 2; have y3 := (ho.tail).cellh 3; have y4 := (ho.tail).cellh 4; have y5 := (ho.tail).cellh 5; have y6 := (ho.tail).cellh 6; simp at y0 y1 y2 y3 y4 y5 y6
    have hlk := run_lookup_map (P := Tryz.prog) (w := (w.alloc (.cells #[(Value.int .i64 7), (Value.int .i64 frm), (Value.int .i64 0), (Value.int .i64 mid), (Value.int .i64 step), (Value.int .i64 ma), (Value.int .i64 mb0)] 39)).drew) (L := Lm) (F := (w.heap.size, .cells #[(Value.int .i64 7), (Value.int .i64 frm), (Value.int .i64 0), (Value.int .i64 mid), (Value.int .i64 step), (Value.int .i64 ma), (Value.int .i64 mb0)] 39) :: (b, .cells #[(Value.int .i64 c.most), (Value.int .i64 c.room), (Value.int .i64 c.tries), .pointer (some ⟨jb, 0, none⟩), (Value.int .i64 c.used), .map (some mb), .pointer (some ⟨tb, 0, none⟩)] 74) :: (Lj ++ Ll ++ Lt ++ F)) (ho.drew.re (by intro x; simp only [cnt_append, cnt_cons, cnt_nil, List.tail_cons, World.size_alloc, World.size_setCell, World.size_drew, List.setIfInBounds_toArray, List.set_cons_zero, List.set_cons_succ] <;> omega)) hM Tryz.underlying3 Tryz.underlying71 (zeroLed _) mid false
    simp only [Bool.false_eq_true, if_false, hp, Option.map_some, Option.getD_some, pV] at hlk
    rw [hid] at hx hp
    have HQ := Lib.hid hQ0; have Ho := Lib.hid ho; have Hx := Lib.hid hx; have Hp := Lib.hid hp; have Hid' := Lib.hid hid; have HT := Lib.hid hT; have Hu := Lib.hid hu; have Ht := Lib.hid ht; have Hdn := Lib.hid hdn
    clear hw hc hQ0 ho hx hp hid hT hu ht hdn hJ hM hL hTw hok
    unfold Msg.enc
    go_enter Tryz.func12, Tryz.ntmps12
    go_wp2_with fail
    refine (down_call b c _ _ ((w.heap.size, .cells #[(Value.int .i64 7), (Value.int .i64 frm), (Value.int .i64 0), (Value.int .i64 mid), (Value.int .i64 step), (Value.int .i64 ma), (Value.int .i64 mb0)] 39) :: F) (Ho.out.re (B := ((b, .cells #[(Value.int .i64 c.most), (Value.int .i64 c.room), (Value.int .i64 c.tries), pV jb, (Value.int .i64 c.used), .map (some mb), pV tb] 74) :: (Lj ++ Lm ++ Ll ++ Lt)) ++ ((w.heap.size, .cells #[(Value.int .i64 7), (Value.int .i64 frm), (Value.int .i64 0), (Value.int .i64 mid), (Value.int .i64 step), (Value.int .i64 ma), (Value.int .i64 mb0)] 39) :: F)) (by intro x; simp only [cnt_append, cnt_cons, cnt_nil, pV, List.tail_cons, World.size_alloc, World.size_setCell, World.size_drew, List.setIfInBounds_toArray, List.set_cons_zero, List.set_cons_succ] <;> omega)) HQ.out.r).mono ?_
    rintro e w1 ⟨rfl, rfl⟩
    rw [Hdn.out]
    go_upto_region 3 with fail
    go_region
    clear hlk
    have hwd := Ho.out.drew
    have hwd2 : Has (w.alloc (.cells #[(Value.int .i64 7), (Value.int .i64 frm), (Value.int .i64 0), (Value.int .i64 mid), (Value.int .i64 step), (Value.int .i64 ma), (Value.int .i64 mb0)] 39)).drew (((b, .cells #[(Value.int .i64 c.most), (Value.int .i64 c.room), (Value.int .i64 c.tries), pV jb, (Value.int .i64 c.used), .map (some mb), pV tb] 74) :: (Lj ++ Lm ++ Ll ++ Lt)) ++ F) := hwd.tail.re (by intro x; simp only [cnt_append, cnt_cons, cnt_nil, pV, List.tail_cons, World.size_alloc, World.size_setCell, World.size_drew, List.setIfInBounds_toArray, List.set_cons_zero, List.set_cons_succ] <;> omega)
    have Hwd := Lib.hid hwd; have Hwd2 := Lib.hid hwd2
    clear hwd hwd2
    go_wp2_with fail
    refine (votes_call b c ps x p ⟨7, frm, 0, mid, step, ma, mb0⟩ _ _ F Hwd2.out HQ.out HT.out Hx.out Hp.out Hid'.out Hu.out Ht.out).mono ?_
    rintro r w5 ⟨v, Lv, L5, rfl, hV, hQ5, hw5, hk5⟩
    obtain ⟨av, capv, rfl⟩ := hV.val
    have HV := Lib.hid hV; have HQ5 := Lib.hid hQ5; have Hw5 := Lib.hid hw5; have Hk5 := Lib.hid hk5
    clear hV hQ5 hw5 hk5
    obtain ⟨nv, hnv⟩ : ∃ nv, (c.votes x ⟨7, frm, 0, mid, step, ma, mb0⟩).1.length = nv := ⟨_, rfl⟩
    rw [hnv]
    have Hnv := Lib.hid hnv
    clear hnv
    go_wp2
    refine bodyPost_ret (v := .slice av nv capv) (by simp [results, Tryz.results12, go_sem]) rfl ⟨ps, _, Lv, L5, rfl, ?_, HQ5.out, Hw5.out, (((Kin.refl w).alloc (.cells #[(Value.int .i64 7), (Value.int .i64 frm), (Value.int .i64 0), (Value.int .i64 mid), (Value.int .i64 step), (Value.int .i64 ma), (Value.int .i64 mb0)] 39)).drew).trans Hk5.out⟩
    rw [← Hnv.out]; exact HV.out
  · have ho : Has (w.alloc (.cells #[(Value.int .i64 8), (Value.int .i64 frm), (Value.int .i64 0), (Value.int .i64 mid), (Value.int .i64 step), (Value.int .i64 ma), (Value.int .i64 mb0)] 39)) ((w.heap.size, .cells #[(Value.int .i64 8), (Value.int .i64 frm), (Value.int .i64 0), (Value.int .i64 mid), (Value.int .i64 step), (Value.int .i64 ma), (Value.int .i64 mb0)] 39) :: (b, .cells #[(Value.int .i64 c.most), (Value.int .i64 c.room), (Value.int .i64 c.tries), .pointer (some ⟨jb, 0, none⟩), (Value.int .i64 c.used), .map (some mb), .pointer (some ⟨tb, 0, none⟩)] 74) :: (Lj ++ Lm ++ Ll ++ Lt ++ F)) := hw.alloc (.cells #[(Value.int .i64 8), (Value.int .i64 frm), (Value.int .i64 0), (Value.int .i64 mid), (Value.int .i64 step), (Value.int .i64 ma), (Value.int .i64 mb0)] 39)
    have q0 := ho.lth; have q1 := ho.tail.lth
    have y0 := (ho.tail).cellh 0; have y1 := (ho.tail).cellh 1; have y2 := (ho.tail).cellh 2; have y3 := (ho.tail).cellh 3; have y4 := (ho.tail).cellh 4; have y5 := (ho.tail).cellh 5; have y6 := (ho.tail).cellh 6; simp at y0 y1 y2 y3 y4 y5 y6
    have hlk := run_lookup_map (P := Tryz.prog) (w := (w.alloc (.cells #[(Value.int .i64 8), (Value.int .i64 frm), (Value.int .i64 0), (Value.int .i64 mid), (Value.int .i64 step), (Value.int .i64 ma), (Value.int .i64 mb0)] 39)).drew) (L := Lm) (F := (w.heap.size, .cells #[(Value.int .i64 8), (Value.int .i64 frm), (Value.int .i64 0), (Value.int .i64 mid), (Value.int .i64 step), (Value.int .i64 ma), (Value.int .i64 mb0)] 39) :: (b, .cells #[(Value.int .i64 c.most), (Value.int .i64 c.room), (Value.int .i64 c.tries), .pointer (some ⟨jb, 0, none⟩), (Value.int .i64 c.used), .map (some mb), .pointer (some ⟨tb, 0, none⟩)] 74) :: (Lj ++ Ll ++ Lt ++ F)) (ho.drew.re (by intro x; simp only [cnt_append, cnt_cons, cnt_nil, List.tail_cons, World.size_alloc, World.size_setCell, World.size_drew, List.setIfInBounds_toArray, List.set_cons_zero, List.set_cons_succ] <;> omega)) hM Tryz.underlying3 Tryz.underlying71 (zeroLed _) mid false
    simp only [Bool.false_eq_true, if_false, hp, Option.map_some, Option.getD_some, pV] at hlk
    rw [hid] at hx hp
    have HQ := Lib.hid hQ0; have Ho := Lib.hid ho; have Hx := Lib.hid hx; have Hp := Lib.hid hp; have Hid' := Lib.hid hid; have HT := Lib.hid hT; have Hu := Lib.hid hu; have Ht := Lib.hid ht; have Hdn := Lib.hid hdn
    clear hw hc hQ0 ho hx hp hid hT hu ht hdn hJ hM hL hTw hok
    unfold Msg.enc
    go_enter Tryz.func12, Tryz.ntmps12
    go_wp2_with fail
    refine (down_call b c _ _ ((w.heap.size, .cells #[(Value.int .i64 8), (Value.int .i64 frm), (Value.int .i64 0), (Value.int .i64 mid), (Value.int .i64 step), (Value.int .i64 ma), (Value.int .i64 mb0)] 39) :: F) (Ho.out.re (B := ((b, .cells #[(Value.int .i64 c.most), (Value.int .i64 c.room), (Value.int .i64 c.tries), pV jb, (Value.int .i64 c.used), .map (some mb), pV tb] 74) :: (Lj ++ Lm ++ Ll ++ Lt)) ++ ((w.heap.size, .cells #[(Value.int .i64 8), (Value.int .i64 frm), (Value.int .i64 0), (Value.int .i64 mid), (Value.int .i64 step), (Value.int .i64 ma), (Value.int .i64 mb0)] 39) :: F)) (by intro x; simp only [cnt_append, cnt_cons, cnt_nil, pV, List.tail_cons, World.size_alloc, World.size_setCell, World.size_drew, List.setIfInBounds_toArray, List.set_cons_zero, List.set_cons_succ] <;> omega)) HQ.out.r).mono ?_
    rintro e w1 ⟨rfl, rfl⟩
    rw [Hdn.out]
    go_upto_region 3 with fail
    go_region
    clear hlk
    have hwd := Ho.out.drew
    have hwd2 : Has (w.alloc (.cells #[(Value.int .i64 8), (Value.int .i64 frm), (Value.int .i64 0), (Value.int .i64 mid), (Value.int .i64 step), (Value.int .i64 ma), (Value.int .i64 mb0)] 39)).drew (((b, .cells #[(Value.int .i64 c.most), (Value.int .i64 c.room), (Value.int .i64 c.tries), pV jb, (Value.int .i64 c.used), .map (some mb), pV tb] 74) :: (Lj ++ Lm ++ Ll ++ Lt)) ++ F) := hwd.tail.re (by intro x; simp only [cnt_append, cnt_cons, cnt_nil, pV, List.tail_cons, World.size_alloc, World.size_setCell, World.size_drew, List.setIfInBounds_toArray, List.set_cons_zero, List.set_cons_succ] <;> omega)
    have Hwd := Lib.hid hwd; have Hwd2 := Lib.hid hwd2
    clear hwd hwd2
    go_wp2_with fail
    refine (votes_call b c ps x p ⟨8, frm, 0, mid, step, ma, mb0⟩ _ _ F Hwd2.out HQ.out HT.out Hx.out Hp.out Hid'.out Hu.out Ht.out).mono ?_
    rintro r w5 ⟨v, Lv, L5, rfl, hV, hQ5, hw5, hk5⟩
    obtain ⟨av, capv, rfl⟩ := hV.val
    have HV := Lib.hid hV; have HQ5 := Lib.hid hQ5; have Hw5 := Lib.hid hw5; have Hk5 := Lib.hid hk5
    clear hV hQ5 hw5 hk5
    obtain ⟨nv, hnv⟩ : ∃ nv, (c.votes x ⟨8, frm, 0, mid, step, ma, mb0⟩).1.length = nv := ⟨_, rfl⟩
    rw [hnv]
    have Hnv := Lib.hid hnv
    clear hnv
    go_wp2
    refine bodyPost_ret (v := .slice av nv capv) (by simp [results, Tryz.results12, go_sem]) rfl ⟨ps, _, Lv, L5, rfl, ?_, HQ5.out, Hw5.out, (((Kin.refl w).alloc (.cells #[(Value.int .i64 8), (Value.int .i64 frm), (Value.int .i64 0), (Value.int .i64 mid), (Value.int .i64 step), (Value.int .i64 ma), (Value.int .i64 mb0)] 39)).drew).trans Hk5.out⟩
    rw [← Hnv.out]; exact HV.out

end Go.Proofs.YtcfaimmcedpgiaaGreatDoor
