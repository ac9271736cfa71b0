/-
  chief: goes, turns: contracts. A lemma file: no statement of the seat is proved here.
-/
import Derived.Test.YtcfaimmcedpgiaaGreatDoorChief7
namespace Go.Proofs.YtcfaimmcedpgiaaGreatDoor
set_option linter.unusedVariables false
set_option linter.unusedSimpArgs false
open Go.RowKit

def Chief.withB (c : Chief) (t : Tower) : Chief := { c with bells := t }
def Chief.again (c : Chief) (id : Int) : Chief := c.withB (c.bells.again id)
def Chief.cutB (c : Chief) (id : Int) : Chief := c.withB (c.bells.cut id)
def Chief.goes (c : Chief) (x : Led) : List Msg × Chief := if x.over then ([], (c.again x.o.id).cutB x.o.id) else (c.again x.o.id).sends x

/-- A chief's blocks: its own, its bells', a led's, and the rest. -/
theorem ChiefQ.parts {b : Nat} {c : Chief} {ps : List (Int × Nat)} {L : HL} (hQ : ChiefQ b c ps L) {id : Int} {x : Led} {p : Nat} (hx : mget c.l id = some x) (hp : mget ps id = some p) :
    ∃ jb mb tb Lt L1 R, TowerR tb c.bells Lt ∧ LedR p x L1 ∧ (∀ y, cnt y L = cnt y ((b, .cells #[(Value.int .i64 c.most), (Value.int .i64 c.room), (Value.int .i64 c.tries), .pointer (some ⟨jb, 0, none⟩), (Value.int .i64 c.used), .map (some mb), .pointer (some ⟨tb, 0, none⟩)] 74) :: (Lt ++ L1 ++ R))) ∧
      ∀ t' Lt', TowerR tb t' Lt' → ∃ L', ChiefQ b (c.withB t') ps L' ∧ ∀ y, cnt y L' = cnt y ((b, .cells #[(Value.int .i64 c.most), (Value.int .i64 c.room), (Value.int .i64 c.tries), .pointer (some ⟨jb, 0, none⟩), (Value.int .i64 c.used), .map (some mb), .pointer (some ⟨tb, 0, none⟩)] 74) :: (Lt' ++ L1 ++ R)) := by
  obtain ⟨hok, jb, mb, tb, Lj, Lm, Ll, Lt, rfl, hJ, hM, hL, hTw⟩ := hQ
  obtain ⟨q, L1, L2, hq, hX, hcnt, _⟩ := LedsR.get hL hx
  rw [hp] at hq
  cases hq
  refine ⟨jb, mb, tb, Lt, L1, Lj ++ Lm ++ L2, hTw, hX, ?_, fun t' Lt' ht' => ⟨(b, .cells #[(Value.int .i64 c.most), (Value.int .i64 c.room), (Value.int .i64 c.tries), pV jb, (Value.int .i64 c.used), .map (some mb), pV tb] 74) :: (Lj ++ Lm ++ Ll ++ Lt'), ⟨hok, jb, mb, tb, Lj, Lm, Ll, Lt', rfl, hJ, hM, hL, ht'⟩, ?_⟩⟩
  · intro y
    have := hcnt y
    simp only [cnt_append, cnt_cons, pV] at this ⊢
    omega
  · intro y
    have := hcnt y
    simp only [cnt_append, cnt_cons, pV] at this ⊢
    omega

set_option maxRecDepth 100000 in
set_option maxHeartbeats 1600000 in
theorem goes_call (b : Nat) (c : Chief) (ps : List (Int × Nat)) (id : Int) (x : Led) (p : Nat) (w : World) (L F : HL) (hw : Has w (L ++ F)) (hc : ChiefQ b c ps L) (hT : Tab F) (hx : mget c.l id = some x) (hp : mget ps id = some p) (hid : x.o.id = id) (hu : c.used ≤ 4096) :
    Calls Tryz.prog 35 #[.pointer (some ⟨b, 0, none⟩), .pointer (some ⟨p, 0, none⟩)] w (Out b (c.goes x).2 ps (c.goes x).1 F w) := by
  have hsm := hc.small hx
  obtain ⟨jb, mb, tb, Lt, L1, R, hTw, hX, hcnt, hput⟩ := hc.parts hx hp
  have hX0 := hX
  obtain ⟨sl, dv, uv, tp, Ls, Ld, Lu, Ly, rfl, hS, hD, hU, hTa⟩ := hX
  unfold Led.cells at hcnt hput
  have hwx : Has w ((b, .cells #[(Value.int .i64 c.most), (Value.int .i64 c.room), (Value.int .i64 c.tries), .pointer (some ⟨jb, 0, none⟩), (Value.int .i64 c.used), .map (some mb), .pointer (some ⟨tb, 0, none⟩)] 74) :: (p, .cells #[(Value.int .i64 x.o.id), (Value.int .i64 x.o.item), (Value.int .i64 x.o.qty), (Value.int .i64 x.o.client), (Value.int .i64 x.o.price), sl, dv, uv, .bool x.f.asked, .bool x.f.yes, .bool x.f.turned, .bool x.f.ack0, .bool x.f.ack1, .bool x.f.shipped, .bool x.f.dmg0, .bool x.f.dmg1, .bool x.f.accepted, tp] 78) :: (Lt ++ Ls ++ Ld ++ Lu ++ Ly ++ R ++ F)) := by
    refine hw.sub ?_
    intro y
    have := hcnt y
    simp only [cnt_append, cnt_cons] at this ⊢
    omega
  have q0 := hwx.lth; have q1 := hwx.tail.lth
  have x0 := (hwx).cellh 0; have x1 := (hwx).cellh 1; have x2 := (hwx).cellh 2; have x3 := (hwx).cellh 3; have x4 := (hwx).cellh 4; have x5 := (hwx).cellh 5; have x6 := (hwx).cellh 6; simp at x0 x1 x2 x3 x4 x5 x6
  have y0 := hwx.tail.cellh 0
  simp at y0
  obtain ⟨ov, hov⟩ : ∃ ov, x.over = ov := ⟨_, rfl⟩
  obtain ⟨⟨oms, oc⟩, hout⟩ : ∃ ou, c.goes x = ou := ⟨_, rfl⟩
  have hgo : (if ov then ([], (c.again x.o.id).cutB x.o.id) else (c.again x.o.id).sends x) = (oms, oc) := by rw [← hout, Chief.goes, hov]
  rw [hout]
  dsimp only
  have Hov := Lib.hid hov; have Hgo := Lib.hid hgo; have Hid' := Lib.hid hid; have HT := Lib.hid hT; have Hwx := Lib.hid hwx; have Hput := Lib.hid hput; have Hx := Lib.hid hx; have Hp := Lib.hid hp; have Hu := Lib.hid hu; have Hsm := Lib.hid hsm; have HX := Lib.hid hX0
  clear hov hgo hout hid hT hwx hput hx hp hu hsm hw hc hcnt hX0 hS hD hU hTa
  go_enter Tryz.func35, Tryz.ntmps35
  go_upto_region 1 with fail
  go_still_tail 9, (by kernel_rfl)
  change wpList _ _ _ _ _ w.drew
  go_wp2_with fail
  refine (again_call tb c.bells x.o.id w.drew Lt ((b, .cells #[(Value.int .i64 c.most), (Value.int .i64 c.room), (Value.int .i64 c.tries), .pointer (some ⟨jb, 0, none⟩), (Value.int .i64 c.used), .map (some mb), .pointer (some ⟨tb, 0, none⟩)] 74) :: (p, .cells #[(Value.int .i64 x.o.id), (Value.int .i64 x.o.item), (Value.int .i64 x.o.qty), (Value.int .i64 x.o.client), (Value.int .i64 x.o.price), sl, dv, uv, .bool x.f.asked, .bool x.f.yes, .bool x.f.turned, .bool x.f.ack0, .bool x.f.ack1, .bool x.f.shipped, .bool x.f.dmg0, .bool x.f.dmg1, .bool x.f.accepted, tp] 78) :: (Ls ++ Ld ++ Lu ++ Ly ++ R ++ F)) (Hwx.out.drew.re (by intro x; simp only [cnt_append, cnt_cons, cnt_nil, List.tail_cons, World.size_alloc, World.size_setCell, World.size_drew, List.setIfInBounds_toArray, List.set_cons_zero, List.set_cons_succ] <;> omega)) hTw).mono ?_
  rintro r w1 ⟨rfl, Lt', hTw', hw1, hk1⟩
  obtain ⟨L2, hQ2, hcnt2⟩ := Hput.out _ _ hTw'
  have hwb : Has w1 (L2 ++ F) := by
    refine hw1.sub ?_
    intro y
    have := hcnt2 y
    simp only [cnt_append, cnt_cons] at this ⊢
    omega
  have hz := hw1.sub (B := (b, .cells #[(Value.int .i64 c.most), (Value.int .i64 c.room), (Value.int .i64 c.tries), .pointer (some ⟨jb, 0, none⟩), (Value.int .i64 c.used), .map (some mb), .pointer (some ⟨tb, 0, none⟩)] 74) :: (p, .cells #[(Value.int .i64 x.o.id), (Value.int .i64 x.o.item), (Value.int .i64 x.o.qty), (Value.int .i64 x.o.client), (Value.int .i64 x.o.price), sl, dv, uv, .bool x.f.asked, .bool x.f.yes, .bool x.f.turned, .bool x.f.ack0, .bool x.f.ack1, .bool x.f.shipped, .bool x.f.dmg0, .bool x.f.dmg1, .bool x.f.accepted, tp] 78) :: (Lt' ++ Ls ++ Ld ++ Lu ++ Ly ++ R ++ F)) (by intro x; simp only [cnt_append, cnt_cons, cnt_nil, List.tail_cons, World.size_alloc, World.size_setCell, World.size_drew, List.setIfInBounds_toArray, List.set_cons_zero, List.set_cons_succ] <;> omega)
  clear q0 q1 x0 x1 x2 x3 x4 x5 x6 y0
  have Hz := Lib.hid hz; have Hk1 := Lib.hid hk1; have Hwb := Lib.hid hwb; have HQ2 := Lib.hid hQ2
  clear hz hw1 hk1 hwb hQ2 hcnt2
  go_wp2_with fail
  refine (lover_call p x c.used Hsm.out (by have := Hu.out; omega) w1 ((p, .cells #[(Value.int .i64 x.o.id), (Value.int .i64 x.o.item), (Value.int .i64 x.o.qty), (Value.int .i64 x.o.client), (Value.int .i64 x.o.price), sl, dv, uv, .bool x.f.asked, .bool x.f.yes, .bool x.f.turned, .bool x.f.ack0, .bool x.f.ack1, .bool x.f.shipped, .bool x.f.dmg0, .bool x.f.dmg1, .bool x.f.accepted, tp] 78) :: (Ls ++ Ld ++ Lu ++ Ly)) ((b, .cells #[(Value.int .i64 c.most), (Value.int .i64 c.room), (Value.int .i64 c.tries), .pointer (some ⟨jb, 0, none⟩), (Value.int .i64 c.used), .map (some mb), .pointer (some ⟨tb, 0, none⟩)] 74) :: (Lt' ++ R ++ F)) (Hz.out.re (by intro x; simp only [cnt_append, cnt_cons, cnt_nil, List.tail_cons, World.size_alloc, World.size_setCell, World.size_drew, List.setIfInBounds_toArray, List.set_cons_zero, List.set_cons_succ] <;> omega)) HX.out).mono ?_
  rintro r w2 ⟨rfl, hb2⟩
  rw [Hov.out]
  have Hk2 := Lib.hid (Kin.of_below hb2)
  have hz2 := Hz.out.below_all hb2
  have hwb2 := Hwb.out.below_all hb2
  have r0 := hz2.lth; have r1 := hz2.tail.lth
  have z0 := (hz2).cellh 0; have z1 := (hz2).cellh 1; have z2 := (hz2).cellh 2; have z3 := (hz2).cellh 3; have z4 := (hz2).cellh 4; have z5 := (hz2).cellh 5; have z6 := (hz2).cellh 6; simp at z0 z1 z2 z3 z4 z5 z6
  have s0 := hz2.tail.cellh 0
  simp at s0
  have Hz2 := Lib.hid hz2; have Hwb2 := Lib.hid hwb2
  clear hz2 hwb2 hb2
  cases ov with
  | true =>
    go_upto_region 3 with fail
    go_still_tail 9, (by kernel_rfl)
    change wpList _ _ _ _ _ w2.drew
    go_wp2_with fail
    refine (cut_call tb (c.bells.again x.o.id) x.o.id w2.drew Lt' ((b, .cells #[(Value.int .i64 c.most), (Value.int .i64 c.room), (Value.int .i64 c.tries), .pointer (some ⟨jb, 0, none⟩), (Value.int .i64 c.used), .map (some mb), .pointer (some ⟨tb, 0, none⟩)] 74) :: (p, .cells #[(Value.int .i64 x.o.id), (Value.int .i64 x.o.item), (Value.int .i64 x.o.qty), (Value.int .i64 x.o.client), (Value.int .i64 x.o.price), sl, dv, uv, .bool x.f.asked, .bool x.f.yes, .bool x.f.turned, .bool x.f.ack0, .bool x.f.ack1, .bool x.f.shipped, .bool x.f.dmg0, .bool x.f.dmg1, .bool x.f.accepted, tp] 78) :: (Ls ++ Ld ++ Lu ++ Ly ++ R ++ F)) (Hz2.out.drew.re (by intro x; simp only [cnt_append, cnt_cons, cnt_nil, List.tail_cons, World.size_alloc, World.size_setCell, World.size_drew, List.setIfInBounds_toArray, List.set_cons_zero, List.set_cons_succ] <;> omega)) hTw').mono ?_
    rintro r w3 ⟨rfl, Lt3, hTw3, hw3, hk3⟩
    obtain ⟨L3, hQ3, hcnt3⟩ := Hput.out _ _ hTw3
    have hwb3 : Has w3 (L3 ++ F) := by
      refine hw3.sub ?_
      intro y
      have := hcnt3 y
      simp only [cnt_append, cnt_cons] at this ⊢
      omega
    have Hwb3 := Lib.hid hwb3; have HQ3 := Lib.hid hQ3
    clear hwb3 hQ3 hcnt3 hw3
    go_wp2
    have e := Hgo.out; simp only [if_true, Prod.mk.injEq] at e; obtain ⟨rfl, rfl⟩ := e
    exact bodyPost_ret (v := .slice none 0 0) (by simp [results, Tryz.results35, go_sem]) rfl ⟨_, [], L3, rfl, .nil, HQ3.out, Hwb3.out, ((((Kin.refl w).drew.trans Hk1.out).trans Hk2.out).drew).trans hk3⟩
  | false =>
    go_wp2_with fail
    refine (sends_call b (c.again x.o.id) ps id x p w2 L2 F Hwb2.out HQ2.out HT.out Hx.out Hp.out Hid'.out Hu.out).mono ?_
    rintro r w3 ⟨v, Lv, L3, rfl, hV, hQ3, hw3, hk3⟩
    have e := Hgo.out; simp only [Bool.false_eq_true, if_false] at e
    rw [e] at hV hQ3
    obtain ⟨av, capv, rfl⟩ := hV.val
    clear e
    go_wp2
    exact bodyPost_ret (v := .slice av oms.length capv) (by simp [results, Tryz.results35, go_sem]) rfl ⟨_, Lv, L3, rfl, hV, hQ3, hw3, (((Kin.refl w).drew.trans Hk1.out).trans Hk2.out).trans hk3⟩


/-- A plain entry of an order that there is: what it notes. -/
theorem Chief.note1_plain (c : Chief) {k : ByteArray} {id : Int} {n : List Int} {x : Led} (hk : k ≠ bBegin) (hs : ¬ (k = bStep ∧ n.length = 3)) (hx : mget c.l id = some x) :
    c.note1 ⟨k, id, n⟩ = { (c.withJ (c.j.add ⟨k, id, n⟩)) with used := c.used + 1, l := mput c.l id (x.note k (n.headD 0)) } := by
  have h1 : mget (c.withJ (c.j.add ⟨k, id, n⟩)).l id = some x := hx
  unfold Chief.note1 Chief.play
  rw [if_neg hk, h1]
  simp only [Led.play, if_neg hs]
  rfl
theorem Chief.note1_led (c : Chief) {k : ByteArray} {id : Int} {n : List Int} {x : Led} (hk : k ≠ bBegin) (hs : ¬ (k = bStep ∧ n.length = 3)) (hx : mget c.l id = some x) : mget (c.note1 ⟨k, id, n⟩).l id = some (x.note k (n.headD 0)) := by
  rw [Chief.note1_plain c hk hs hx]
  show mget (mput c.l id _) id = _
  rw [mget_mput, if_pos rfl]
theorem Led.note_o (x : Led) (k : ByteArray) (n : Int) : (x.note k n).o = x.o := by
  unfold Led.note
  repeat' split
  all_goals rfl

def Chief.sured1 (c : Chief) (e : Entry) : Chief := (c.noted [e]).synced
theorem Chief.sures_one (c : Chief) (e : Entry) : c.sures [e] = if c.fitsIn 1 then c.sured1 e else c := rfl
theorem Chief.sured1_led (c : Chief) {k : ByteArray} {id : Int} {n : List Int} {x : Led} (hk : k ≠ bBegin) (hs : ¬ (k = bStep ∧ n.length = 3)) (hx : mget c.l id = some x) : mget (c.sured1 ⟨k, id, n⟩).l id = some (x.note k (n.headD 0)) := Chief.note1_led c hk hs hx
theorem Chief.sured1_low (c : Chief) (e : Entry) (hr : c.room ≤ 4096) (hf : c.fitsIn 1 = true) : (c.sured1 e).used ≤ 4096 := by
  have h1 : (c.sured1 e).used = c.used + 1 := Chief.noted_used [e] c
  simp [Chief.fitsIn] at hf
  omega

def Out2 (b : Nat) (c : Chief) (ps : List (Int × Nat)) (ms : List Msg) (err : Int) (F : HL) (w : World) (r : Ending) (w' : World) : Prop :=
  ∃ v Lv L', r = .returned (.tuple #[v, (Value.int .i64 err)]) ∧ SlR Msg.enc 7 39 v ms Lv ∧ ChiefQ b c ps L' ∧ Has w' (Lv ++ (L' ++ F)) ∧ Kin w w'
def Chief.turns (c : Chief) (x : Led) : (List Msg × Int) × Chief :=
  if c.fitsIn 1 then ((((c.sured1 ⟨kTurn, x.o.id, []⟩).goes (x.note kTurn 0)).1, 0), ((c.sured1 ⟨kTurn, x.o.id, []⟩).goes (x.note kTurn 0)).2) else (([], 5), c)

set_option maxRecDepth 100000 in
set_option maxHeartbeats 1600000 in
theorem turns_call (b : Nat) (c : Chief) (ps : List (Int × Nat)) (id : Int) (x : Led) (p : Nat) (w : World) (L F : HL) (hw : Has w (L ++ F)) (hc : ChiefQ b c ps L) (hT : Tab F) (hx : mget c.l id = some x) (hp : mget ps id = some p) (hid : x.o.id = id) (hu : c.used ≤ 4096) :
    Calls Tryz.prog 49 #[.pointer (some ⟨b, 0, none⟩), .pointer (some ⟨p, 0, none⟩)] w (Out2 b (c.turns x).2 ps (c.turns x).1.1 (c.turns x).1.2 F w) := by
  have hr : c.room ≤ 4096 := hc.1.2.2.2.1
  obtain ⟨jb, mb, tb, Lt, L1, R, hTw, hX, hcnt, hput⟩ := hc.parts hx hp
  obtain ⟨sl, dv, uv, tp, Ls, Ld, Lu, Ly, rfl, hS, hD, hU, hTa⟩ := hX
  unfold Led.cells at hcnt
  have hwx : Has w ((p, .cells #[(Value.int .i64 x.o.id), (Value.int .i64 x.o.item), (Value.int .i64 x.o.qty), (Value.int .i64 x.o.client), (Value.int .i64 x.o.price), sl, dv, uv, .bool x.f.asked, .bool x.f.yes, .bool x.f.turned, .bool x.f.ack0, .bool x.f.ack1, .bool x.f.shipped, .bool x.f.dmg0, .bool x.f.dmg1, .bool x.f.accepted, tp] 78) :: (Lt ++ Ls ++ Ld ++ Lu ++ Ly ++ R ++ F)) := by
    refine hw.sub ?_
    intro y
    have := hcnt y
    simp only [cnt_append, cnt_cons] at this ⊢
    omega
  have q1 := hwx.lth
  have y0 := hwx.cellh 0
  simp at y0
  obtain ⟨fi, hfi⟩ : ∃ fi, c.fitsIn 1 = fi := ⟨_, rfl⟩
  obtain ⟨⟨⟨oms, oe⟩, oc⟩, hout⟩ : ∃ ou, c.turns x = ou := ⟨_, rfl⟩
  have hgo : (if fi then ((((c.sured1 ⟨kTurn, x.o.id, []⟩).goes (x.note kTurn 0)).1, 0), ((c.sured1 ⟨kTurn, x.o.id, []⟩).goes (x.note kTurn 0)).2) else (([], 5), c)) = ((oms, oe), oc) := by rw [← hout, Chief.turns, hfi]
  rw [hout]
  dsimp only
  have Hfi := Lib.hid hfi; have Hgo := Lib.hid hgo; have Hid' := Lib.hid hid; have HT := Lib.hid hT; have Hx := Lib.hid hx; have Hp := Lib.hid hp; have Hu := Lib.hid hu; have Hw := Lib.hid hw; have Hc := Lib.hid hc; have Hr := Lib.hid hr
  clear hfi hgo hout hid hT hwx hput hx hp hu hw hc hcnt hS hD hU hTa hr hTw
  go_enter Tryz.func49, Tryz.ntmps49
  go_wp2_with fail
  refine (entry_call kTurn x.o.id none 0 0 w).mono ?_
  rintro r w2 ⟨rfl, hb2⟩
  have hw2 := (Hw.out.below_all hb2).alloc (.cells #[.string kTurn, (Value.int .i64 x.o.id), .slice none 0 0] 81)
  have Hw2 := Lib.hid hw2; have Hk2 := Lib.hid (Kin.of_below hb2)
  clear hb2 hw2
  go_wp2_with fail
  refine (sures_call b c ps (.slice (some ⟨w2.heap.size, 0, none⟩) 1 1) [(⟨kTurn, x.o.id, []⟩, (none, 0))] _ L ((w2.heap.size, .cells #[.string kTurn, (Value.int .i64 x.o.id), .slice none 0 0] 81) :: F) (Hw2.out.re (by intro x; simp only [cnt_append, cnt_cons, cnt_nil, List.tail_cons, World.size_alloc, World.size_setCell, World.size_drew, List.setIfInBounds_toArray, List.set_cons_zero, List.set_cons_succ] <;> omega)) Hc.out (fun W M h => HT.out W (M ++ [(w2.heap.size, .cells #[.string kTurn, (Value.int .i64 x.o.id), .slice none 0 0] 81)]) (h.re (by intro x; simp only [cnt_append, cnt_cons, cnt_nil, List.tail_cons, World.size_alloc, World.size_setCell, World.size_drew, List.setIfInBounds_toArray, List.set_cons_zero, List.set_cons_succ] <;> omega))) (ents_one kTurn x.o.id w2.heap.size F) (entsOk_one _ _ (by decide)) Hu.out ⟨Chief.takes_plain _ (by unfold plainKind; decide) _ _, trivial⟩).mono ?_
  rintro r w3 ⟨rfl, L', ps', hQ, hps, hw3, hk3⟩
  obtain rfl : ps' = ps := hps (by intro p hp; have h := List.mem_singleton.1 hp; rw [h]; show kTurn ≠ bBegin; decide)
  have hn1 : c.sures ([((⟨kTurn, x.o.id, []⟩, (none, 0)) : EV)].map (·.1)) = if fi then c.sured1 ⟨kTurn, x.o.id, []⟩ else c := by
    rw [← Hfi.out]; rfl
  rw [hn1] at hQ
  have hfl : c.fitsIn [((⟨kTurn, x.o.id, []⟩, (none, 0)) : EV)].length = fi := Hfi.out
  rw [hfl]
  have hw4 : Has w3 (L' ++ F) := hw3.sub (by intro x; simp only [cnt_append, cnt_cons, cnt_nil, List.tail_cons, World.size_alloc, World.size_setCell, World.size_drew, List.setIfInBounds_toArray, List.set_cons_zero, List.set_cons_succ] <;> omega)
  have hkk : Kin w w3 := (Hk2.out.alloc _).trans hk3
  clear hfl hn1 hps hw3 y0 q1
  have Hw4 := Lib.hid hw4; have Hkk := Lib.hid hkk
  clear hw4 hkk hk3
  cases fi with
  | true =>
    simp only [if_true] at hQ
    have hx' := Chief.sured1_led c (k := kTurn) (id := id) (n := []) (by decide) (by decide) Hx.out
    have hid' : x.o.id = id := Hid'.out
    have hlow := c.sured1_low ⟨kTurn, x.o.id, []⟩ Hr.out Hfi.out
    rw [← hid'] at hx'
    have Hx' := Lib.hid hx'; have Hlow := Lib.hid hlow; have HQ := Lib.hid hQ
    have Hp' : Hid (mget ps' x.o.id = some p) := Lib.hid (by rw [hid']; exact Hp.out)
    clear hx' hid' hlow hQ
    go_wp2_with fail
    refine (goes_call b (c.sured1 ⟨kTurn, x.o.id, []⟩) ps' x.o.id (x.note kTurn 0) p w3 L' F Hw4.out HQ.out HT.out Hx'.out Hp'.out (by rw [Led.note_o]) Hlow.out).mono ?_
    rintro r w5 ⟨v, Lv, L3, rfl, hV, hQ3, hw5, hk5⟩
    have e := Hgo.out; simp only [if_true, Prod.mk.injEq] at e; obtain ⟨⟨e1, e2⟩, e3⟩ := e
    rw [e1] at hV
    rw [e3] at hQ3
    subst e2
    clear e1 e3
    obtain ⟨av, capv, rfl⟩ := hV.val
    go_wp2
    exact bodyPost_ret (v := .tuple #[.slice av oms.length capv, (Value.int .i64 0)]) (by simp [results, Tryz.results49, go_sem]) rfl ⟨_, Lv, L3, rfl, hV, hQ3, hw5, Hkk.out.trans hk5⟩
  | false =>
    simp only [Bool.false_eq_true, if_false] at hQ
    have HQ := Lib.hid hQ
    clear hQ
    have e := Hgo.out; simp only [Bool.false_eq_true, if_false, Prod.mk.injEq] at e; obtain ⟨⟨rfl, rfl⟩, rfl⟩ := e
    go_wp2
    exact bodyPost_ret (v := .tuple #[.slice none 0 0, (Value.int .i64 5)]) (by simp [results, Tryz.results49, go_sem]) rfl ⟨_, [], L', rfl, .nil, HQ.out, Hw4.out, Hkk.out⟩

end Go.Proofs.YtcfaimmcedpgiaaGreatDoor
