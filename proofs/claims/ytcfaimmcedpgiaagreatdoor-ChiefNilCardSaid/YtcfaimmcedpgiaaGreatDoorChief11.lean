/-
  chief: votes, State: contracts. A lemma file: no statement of the seat is proved here.
-/
import Derived.Test.YtcfaimmcedpgiaaGreatDoorChief8
import Derived.Test.YtcfaimmcedpgiaaGreatDoorEqual
import Derived.Test.YtcfaimmcedpgiaaGreatDoorSaga2
namespace Go.Proofs.YtcfaimmcedpgiaaGreatDoor
set_option linter.unusedVariables false
set_option linter.unusedSimpArgs false
open Go.RowKit

def Chief.withL (c : Chief) (id : Int) (x : Led) : Chief := { c with l := mput c.l id x }
theorem ChiefQ.ledput {b : Nat} {c : Chief} {ps : List (Int × Nat)} {L : HL} (hQ : ChiefQ b c ps L) {id : Int} {x : Led} {p : Nat} (hx : mget c.l id = some x) (hp : mget ps id = some p) :
    ∃ L1 R, LedR p x L1 ∧ (∀ y, cnt y L = cnt y (L1 ++ R)) ∧ ∀ x' L1', LedR p x' L1' → x'.small c.used → ∃ L', ChiefQ b (c.withL id x') ps L' ∧ ∀ y, cnt y L' = cnt y (L1' ++ R) := by
  obtain ⟨hok, jb, mb, tb, Lj, Lm, Ll, Lt, rfl, hJ, hM, hL, hTw⟩ := hQ
  obtain ⟨q, L1, L2, hq, hX, hcnt, hput⟩ := LedsR.get hL hx
  rw [hp] at hq
  cases hq
  refine ⟨L1, (b, .cells #[(Value.int .i64 c.most), (Value.int .i64 c.room), (Value.int .i64 c.tries), pV jb, (Value.int .i64 c.used), .map (some mb), pV tb] 74) :: (Lj ++ Lm ++ L2 ++ Lt), hX, ?_, fun x' L1' hx' hsm => ?_⟩
  · intro y
    have := hcnt y
    simp only [cnt_append, cnt_cons] at this ⊢
    omega
  · obtain ⟨L3, f1, f2⟩ := hput x' L1' hx'
    refine ⟨(b, .cells #[(Value.int .i64 c.most), (Value.int .i64 c.room), (Value.int .i64 c.tries), pV jb, (Value.int .i64 c.used), .map (some mb), pV tb] 74) :: (Lj ++ Lm ++ L3 ++ Lt), ⟨⟨hok.1, hok.2.1, hok.2.2.1, hok.2.2.2.1, keys1_mput hok.2.2.2.2.1 _ _, ?_⟩, jb, mb, tb, Lj, Lm, L3, Lt, rfl, hJ, hM, f1, hTw⟩, ?_⟩
    · intro q hq
      rcases mput_mem hq with rfl | hq
      · exact hsm
      · exact hok.2.2.2.2.2 q hq
    · intro y
      have := f2 y
      simp only [cnt_append, cnt_cons] at this ⊢
      omega

/-- A decision is noted, and made sure; the order goes on. -/
def Chief.decides (c : Chief) (x : Led) (k : ByteArray) : List Msg × Chief :=
  if c.fitsIn 1 then (c.sured1 ⟨k, x.o.id, []⟩).goes (x.note k 0) else ([], c)
def Chief.votes (c : Chief) (x : Led) (m : Msg) : List Msg × Chief :=
  if !isKeeper m.frm then ([], c) else match x.t with
  | none => ([], c)
  | some t => if m.kind ≠ 7 then c.decides x kTurn else if t.waits = [m.frm - 1] then c.decides x kYes else ([], c.withL x.o.id { x with t := some (t.say (m.frm - 1).toNat) })

set_option maxRecDepth 100000 in
set_option maxHeartbeats 3200000 in
theorem votes_call (b : Nat) (c : Chief) (ps : List (Int × Nat)) (x : Led) (p : Nat) (m : Msg) (w : World) (L F : HL) (hw : Has w (L ++ F)) (hc : ChiefQ b c ps L) (hT : Tab F) (hx : mget c.l x.o.id = some x) (hp : mget ps x.o.id = some p) (hid : m.id = x.o.id) (hu : c.used ≤ 4096) (ht : ∀ t, x.t = some t → t.said.length = 2) :
    Calls Tryz.prog 31 #[.pointer (some ⟨b, 0, none⟩), .pointer (some ⟨p, 0, none⟩), .agg m.enc.toArray] w (Out b (c.votes x m).2 ps (c.votes x m).1 F w) := by
  have hsm := hc.small hx
  have hr : c.room ≤ 4096 := hc.1.2.2.2.1
  obtain ⟨⟨oms, oc⟩, hout⟩ : ∃ ou, c.votes x m = ou := ⟨_, rfl⟩
  rw [hout]
  dsimp only
  unfold Chief.votes at hout
  obtain ⟨L1, R, hX, hcnt, hput⟩ := hc.ledput hx hp
  obtain ⟨o, ⟨done, undone, asked, yes, turned, ack0, ack1, shipped, dmg0, dmg1, accepted⟩, t⟩ := x
  obtain ⟨sl, dv, uv, tp, Ls, Ld, Lu, Ly, rfl, hS, hD, hU, hTa⟩ := hX
  dsimp only at hid hS hD hU hTa hsm ht hx hp hout hput
  obtain ⟨tq, rfl⟩ : ∃ q, tp = .pointer q := by
    rcases hTa with ⟨_, rfl, _⟩ | ⟨b, x, rfl, _⟩
    · exact ⟨_, rfl⟩
    · exact ⟨_, rfl⟩
  unfold Led.cells at hcnt
  dsimp only at hcnt
  have hwx : Has w ((p, .cells #[(Value.int .i64 o.id), (Value.int .i64 o.item), (Value.int .i64 o.qty), (Value.int .i64 o.client), (Value.int .i64 o.price), sl, dv, uv, .bool asked, .bool yes, .bool turned, .bool ack0, .bool ack1, .bool shipped, .bool dmg0, .bool dmg1, .bool accepted, .pointer tq] 78) :: (Ls ++ Ld ++ Lu ++ Ly ++ R ++ F)) := by
    refine hw.sub ?_
    intro y
    have := hcnt y
    simp only [cnt_append, cnt_cons] at this ⊢
    omega
  obtain ⟨kp, hkp⟩ : ∃ kp, isKeeper m.frm = kp := ⟨_, rfl⟩
  rw [hkp] at hout
  have ho := hwx.alloc (.cells #[(Value.int .i64 m.kind), (Value.int .i64 m.frm), (Value.int .i64 m.dest), (Value.int .i64 m.id), (Value.int .i64 m.step), (Value.int .i64 m.a), (Value.int .i64 m.b)] 39)
  have q0 := ho.lth; have q1 := ho.tail.lth
  have x0 := (ho).cellh 0; have x1 := (ho).cellh 1; have x2 := (ho).cellh 2; have x3 := (ho).cellh 3; have x4 := (ho).cellh 4; have x5 := (ho).cellh 5; have x6 := (ho).cellh 6; simp at x0 x1 x2 x3 x4 x5 x6
  have y0 := (ho.tail).cellh 0; have y1 := (ho.tail).cellh 1; have y2 := (ho.tail).cellh 2; have y3 := (ho.tail).cellh 3; have y4 := (ho.tail).cellh 4; have y5 := (ho.tail).cellh 5; have y6 := (ho.tail).cellh 6; have y7 := (ho.tail).cellh 7; have y8 := (ho.tail).cellh 8; have y9 := (ho.tail).cellh 9; have y10 := (ho.tail).cellh 10; have y11 := (ho.tail).cellh 11; have y12 := (ho.tail).cellh 12; have y13 := (ho.tail).cellh 13; have y14 := (ho.tail).cellh 14; have y15 := (ho.tail).cellh 15; have y16 := (ho.tail).cellh 16; have y17 := (ho.tail).cellh 17; simp at y0 y1 y2 y3 y4 y5 y6 y7 y8 y9 y10 y11 y12 y13 y14 y15 y16 y17
  have hwb := hw.alloc (.cells #[(Value.int .i64 m.kind), (Value.int .i64 m.frm), (Value.int .i64 m.dest), (Value.int .i64 m.id), (Value.int .i64 m.step), (Value.int .i64 m.a), (Value.int .i64 m.b)] 39)
  have Hout := Lib.hid hout; have Hkp := Lib.hid hkp; have Hid' := Lib.hid hid; have HT := Lib.hid hT; have Ho := Lib.hid ho; have Hwb := Lib.hid hwb; have Hput := Lib.hid hput; have Hx := Lib.hid hx; have Hp := Lib.hid hp; have Hu := Lib.hid hu; have Hsm := Lib.hid hsm; have Ht := Lib.hid ht; have Hc := Lib.hid hc; have Hr := Lib.hid hr; have HTa := Lib.hid hTa; have Hcnt := Lib.hid hcnt
  clear hout hkp hid hT ho hwb hput hx hp hu hsm ht hc hw hwx hr hTa hcnt
  unfold Msg.enc
  go_enter Tryz.func31, Tryz.ntmps31
  go_wp2_with fail
  refine (keeper_call m.frm _).mono ?_
  rintro e w1 ⟨⟨kv, rfl, hkv⟩, rfl⟩
  rw [Hkp.out] at hkv ⊢
  cases kp with
  | false =>
    have e := Hout.out; simp only [Bool.not_false, if_true, Prod.mk.injEq] at e; obtain ⟨rfl, rfl⟩ := e
    clear hkv
    go_wp2
    exact bodyPost_ret (v := .slice none 0 0) (by simp [results, Tryz.results31, go_sem]) rfl ⟨_, [], L, rfl, .nil, Hc.out, Hwb.out.tail, (Kin.refl w).alloc _⟩
  | true =>
    obtain rfl := hkv rfl
    have e := Hout.out; simp only [Bool.not_true, Bool.false_eq_true, if_false] at e
    have Hout2 := Lib.hid e
    clear e Hout hkv
    rcases HTa.out with ⟨rfl, h2, rfl⟩ | ⟨tb, tx, h2, rfl, hTR⟩
    · cases h2
      have e := Hout2.out; simp only [Prod.mk.injEq] at e; obtain ⟨rfl, rfl⟩ := e
      go_wp2
      exact bodyPost_ret (v := .slice none 0 0) (by simp [results, Tryz.results31, go_sem]) rfl ⟨_, [], L, rfl, .nil, Hc.out, Hwb.out.tail, (Kin.refl w).alloc _⟩
    · cases h2
      have e := Hout2.out; simp only [] at e
      have Hout3 := Lib.hid e
      clear e Hout2
      go_wp2_with fail
      obtain ⟨i, hi, hi2⟩ : ∃ i : Nat, m.frm - 1 = i ∧ i < 2 := by
        have := Hkp.out
        simp only [isKeeper, Bool.or_eq_true, beq_iff_eq] at this
        exact ⟨(m.frm - 1).toNat, by omega, by omega⟩
      have e := Hout3.out
      rw [hi] at e ⊢
      have Hout4 := Lib.hid e
      have Hi := Lib.hid hi
      clear e hi Hout3
      have htl := Ht.out tx rfl
      refine (waits_call tb tx _ Ly ((w.heap.size, .cells #[(Value.int .i64 m.kind), (Value.int .i64 m.frm), (Value.int .i64 m.dest), (Value.int .i64 m.id), (Value.int .i64 m.step), (Value.int .i64 m.a), (Value.int .i64 m.b)] 39) :: (p, .cells #[(Value.int .i64 o.id), (Value.int .i64 o.item), (Value.int .i64 o.qty), (Value.int .i64 o.client), (Value.int .i64 o.price), sl, dv, uv, .bool asked, .bool yes, .bool turned, .bool ack0, .bool ack1, .bool shipped, .bool dmg0, .bool dmg1, .bool accepted, .pointer (some ⟨tb, 0, none⟩)] 78) :: (Ls ++ Ld ++ Lu ++ R ++ F)) (Ho.out.re (by intro x; simp only [cnt_append, cnt_cons, cnt_nil, List.tail_cons, World.size_alloc, World.size_setCell, World.size_drew, List.setIfInBounds_toArray, List.set_cons_zero, List.set_cons_succ] <;> omega)) hTR).mono ?_
      rintro r w2 ⟨vw, Lv, rfl, hvw, hw2, hk2⟩
      obtain ⟨aw, capw, rfl⟩ := hvw.val
      have hz := hw2.sub (B := (w.heap.size, .cells #[(Value.int .i64 m.kind), (Value.int .i64 m.frm), (Value.int .i64 m.dest), (Value.int .i64 m.id), (Value.int .i64 m.step), (Value.int .i64 m.a), (Value.int .i64 m.b)] 39) :: (p, .cells #[(Value.int .i64 o.id), (Value.int .i64 o.item), (Value.int .i64 o.qty), (Value.int .i64 o.client), (Value.int .i64 o.price), sl, dv, uv, .bool asked, .bool yes, .bool turned, .bool ack0, .bool ack1, .bool shipped, .bool dmg0, .bool dmg1, .bool accepted, .pointer (some ⟨tb, 0, none⟩)] 78) :: (Lv ++ Ly ++ Ls ++ Ld ++ Lu ++ R ++ F)) (by intro x; simp only [cnt_append, cnt_cons, cnt_nil, List.tail_cons, World.size_alloc, World.size_setCell, World.size_drew, List.setIfInBounds_toArray, List.set_cons_zero, List.set_cons_succ] <;> omega)
      have hfull : Has w2 (L ++ (Lv ++ [(w.heap.size, .cells #[(Value.int .i64 m.kind), (Value.int .i64 m.frm), (Value.int .i64 m.dest), (Value.int .i64 m.id), (Value.int .i64 m.step), (Value.int .i64 m.a), (Value.int .i64 m.b)] 39)] ++ F)) := by
        refine hz.sub ?_
        intro y
        have := Hcnt.out y
        simp only [cnt_append, cnt_cons, cnt_nil] at this ⊢
        omega
      clear q0 q1 x0 x1 x2 x3 x4 x5 x6 y0 y1 y2 y3 y4 y5 y6 y7 y8 y9 y10 y11 y12 y13 y14 y15 y16 y17
      have q0 := hz.lth; have q1 := hz.tail.lth
      have x0 := (hz).cellh 0; have x1 := (hz).cellh 1; have x2 := (hz).cellh 2; have x3 := (hz).cellh 3; have x4 := (hz).cellh 4; have x5 := (hz).cellh 5; have x6 := (hz).cellh 6; simp at x0 x1 x2 x3 x4 x5 x6
      have y0 := (hz.tail).cellh 0; have y1 := (hz.tail).cellh 1; have y2 := (hz.tail).cellh 2; have y3 := (hz.tail).cellh 3; have y4 := (hz.tail).cellh 4; have y5 := (hz.tail).cellh 5; have y6 := (hz.tail).cellh 6; have y7 := (hz.tail).cellh 7; have y8 := (hz.tail).cellh 8; have y9 := (hz.tail).cellh 9; have y10 := (hz.tail).cellh 10; have y11 := (hz.tail).cellh 11; have y12 := (hz.tail).cellh 12; have y13 := (hz.tail).cellh 13; have y14 := (hz.tail).cellh 14; have y15 := (hz.tail).cellh 15; have y16 := (hz.tail).cellh 16; have y17 := (hz.tail).cellh 17; simp at y0 y1 y2 y3 y4 y5 y6 y7 y8 y9 y10 y11 y12 y13 y14 y15 y16 y17
      have Hz := Lib.hid hz; have Hfull := Lib.hid hfull; have Hk2 := Lib.hid (((Kin.refl w).alloc (.cells #[(Value.int .i64 m.kind), (Value.int .i64 m.frm), (Value.int .i64 m.dest), (Value.int .i64 m.id), (Value.int .i64 m.step), (Value.int .i64 m.a), (Value.int .i64 m.b)] 39)).trans hk2); have Hvw := Lib.hid hvw; have Htl := Lib.hid htl; have Hw2 := Lib.hid hw2
      clear hz hfull hk2 hvw htl hw2
      by_cases h7 : m.kind = 7
      · have e := Hout4.out
        simp only [h7, ne_eq, not_true_eq_false, if_false] at e
        have Hout5 := Lib.hid e
        clear e
        have h7b : (m.kind == 7) = true := by simp [h7]
        have H7 := Lib.hid h7
        clear h7
        go_wp2_with fail
        have hwq := Hw2.out.alloc (.cells #[.int .i64 i] 3)
        refine (equal_call tx.waits [(i : Int)] (.slice aw tx.waits.length capw) (.slice (some ⟨w2.heap.size, 0, none⟩) 1 1) _ (Hvw.out.at encI (F := (w2.heap.size, .cells #[.int .i64 i] 3) :: (Ly ++ ((w.heap.size, .cells #[(Value.int .i64 m.kind), (Value.int .i64 m.frm), (Value.int .i64 m.dest), (Value.int .i64 m.id), (Value.int .i64 m.step), (Value.int .i64 m.a), (Value.int .i64 m.b)] 39) :: (p, .cells #[(Value.int .i64 o.id), (Value.int .i64 o.item), (Value.int .i64 o.qty), (Value.int .i64 o.client), (Value.int .i64 o.price), sl, dv, uv, .bool asked, .bool yes, .bool turned, .bool ack0, .bool ack1, .bool shipped, .bool dmg0, .bool dmg1, .bool accepted, .pointer (some ⟨tb, 0, none⟩)] 78) :: (Ls ++ Ld ++ Lu ++ R ++ F)))) (hwq.re (by intro x; simp only [cnt_append, cnt_cons, cnt_nil, List.tail_cons, World.size_alloc, World.size_setCell, World.size_drew, List.setIfInBounds_toArray, List.set_cons_zero, List.set_cons_succ] <;> omega))) (SlR.at (L := [(w2.heap.size, .cells #[.int .i64 i] 3)]) (e := 3) (SlR.lit (l := [(i : Int)]) encI rfl rfl (by simp)) encI (F := _) hwq) (by have := waitsL_le tx.said; have := Htl.out; unfold TallyM.waits; split <;> simp <;> omega) (by simp)).mono ?_
        rintro r w3 ⟨rfl, hb3⟩
        obtain ⟨we, hwe⟩ : ∃ we, decide (tx.waits = [(i : Int)]) = we := ⟨_, rfl⟩
        rw [hwe]
        have hz3 := ((Hz.out.alloc (.cells #[.int .i64 i] 3)).below_all hb3).tail
        have hfull3 := ((Hfull.out.alloc (.cells #[.int .i64 i] 3)).below_all hb3).tail
        have hk3 := (Hk2.out.alloc (.cells #[.int .i64 i] 3)).trans (Kin.of_below hb3)
        clear q0 q1 x0 x1 x2 x3 x4 x5 x6 y0 y1 y2 y3 y4 y5 y6 y7 y8 y9 y10 y11 y12 y13 y14 y15 y16 y17 hwq hb3
        have q0 := hz3.lth; have q1 := hz3.tail.lth
        have x0 := (hz3).cellh 0; have x1 := (hz3).cellh 1; have x2 := (hz3).cellh 2; have x3 := (hz3).cellh 3; have x4 := (hz3).cellh 4; have x5 := (hz3).cellh 5; have x6 := (hz3).cellh 6; simp at x0 x1 x2 x3 x4 x5 x6
        have y0 := (hz3.tail).cellh 0; have y1 := (hz3.tail).cellh 1; have y2 := (hz3.tail).cellh 2; have y3 := (hz3.tail).cellh 3; have y4 := (hz3.tail).cellh 4; have y5 := (hz3.tail).cellh 5; have y6 := (hz3.tail).cellh 6; have y7 := (hz3.tail).cellh 7; have y8 := (hz3.tail).cellh 8; have y9 := (hz3.tail).cellh 9; have y10 := (hz3.tail).cellh 10; have y11 := (hz3.tail).cellh 11; have y12 := (hz3.tail).cellh 12; have y13 := (hz3.tail).cellh 13; have y14 := (hz3.tail).cellh 14; have y15 := (hz3.tail).cellh 15; have y16 := (hz3.tail).cellh 16; have y17 := (hz3.tail).cellh 17; simp at y0 y1 y2 y3 y4 y5 y6 y7 y8 y9 y10 y11 y12 y13 y14 y15 y16 y17
        have Hz3 := Lib.hid hz3; have Hfull3 := Lib.hid hfull3; have Hk3 := Lib.hid hk3; have Hwe := Lib.hid hwe
        clear hz3 hfull3 hk3 hwe
        cases we with
        | true =>
          have hw' : tx.waits = [(i : Int)] := by simpa using Hwe.out
          have e := Hout5.out
          simp only [hw', if_true] at e
          have Hout6 := Lib.hid e
          clear e hw'
          go_wp2_with fail
          refine (entry_call kYes m.id none 0 0 _).mono ?_
          rintro r w5 ⟨rfl, hb5⟩
          have hfull5 := (Hfull3.out.below_all hb5).alloc (.cells #[.string kYes, (Value.int .i64 m.id), .slice none 0 0] 81)
          have hk5 := ((Hk3.out).trans (Kin.of_below hb5)).alloc (.cells #[.string kYes, (Value.int .i64 m.id), .slice none 0 0] 81)
          clear q0 q1 x0 x1 x2 x3 x4 x5 x6 y0 y1 y2 y3 y4 y5 y6 y7 y8 y9 y10 y11 y12 y13 y14 y15 y16 y17 hb5
          have Hfull5 := Lib.hid hfull5; have Hk5 := Lib.hid hk5
          clear hfull5 hk5
          unfold kYes
          go_wp2_with fail
          refine (sures_call b c ps (.slice (some ⟨w5.heap.size, 0, none⟩) 1 1) [(⟨kYes, m.id, []⟩, (none, 0))] _ L ((w5.heap.size, .cells #[.string kYes, (Value.int .i64 m.id), .slice none 0 0] 81) :: F) (Hfull5.out.sub (by intro x; simp only [cnt_append, cnt_cons, cnt_nil, List.tail_cons, World.size_alloc, World.size_setCell, World.size_drew, List.setIfInBounds_toArray, List.set_cons_zero, List.set_cons_succ] <;> omega)) Hc.out (fun W M h => HT.out W (M ++ [(w5.heap.size, .cells #[.string kYes, (Value.int .i64 m.id), .slice none 0 0] 81)]) (h.re (by intro x; simp only [cnt_append, cnt_cons, cnt_nil, List.tail_cons, World.size_alloc, World.size_setCell, World.size_drew, List.setIfInBounds_toArray, List.set_cons_zero, List.set_cons_succ] <;> omega))) (ents_one kYes m.id w5.heap.size F) (entsOk_one _ _ (by decide)) Hu.out ⟨Chief.takes_plain _ (by unfold plainKind; decide) _ _, trivial⟩).mono ?_
          rintro r w6 ⟨rfl, L6, ps6, hQ, hps, hw6, hk6⟩
          obtain rfl : ps6 = ps := hps (by intro p hp; have h := List.mem_singleton.1 hp; rw [h]; show kYes ≠ bBegin; decide)
          obtain ⟨fi, hfi⟩ : ∃ fi, c.fitsIn 1 = fi := ⟨_, rfl⟩
          have hn1 : c.sures ([((⟨kYes, m.id, []⟩, (none, 0)) : EV)].map (·.1)) = if fi then c.sured1 ⟨kYes, o.id, []⟩ else c := by
            rw [← hfi, Hid'.out]; rfl
          rw [hn1] at hQ
          have hfl : c.fitsIn [((⟨kYes, m.id, []⟩, (none, 0)) : EV)].length = fi := hfi
          rw [hfl]
          have e := Hout6.out
          unfold Chief.decides at e
          rw [hfi] at e
          have hw7 : Has w6 (L6 ++ F) := hw6.sub (by intro x; simp only [cnt_append, cnt_cons, cnt_nil, List.tail_cons, World.size_alloc, World.size_setCell, World.size_drew, List.setIfInBounds_toArray, List.set_cons_zero, List.set_cons_succ] <;> omega)
          have Hw7 := Lib.hid hw7; have Hk6 := Lib.hid (Hk5.out.trans hk6); have Hfi := Lib.hid hfi
          clear hw6 hw7 hk6 hfl hn1 hps hfi
          cases fi with
          | true =>
            simp only [if_true] at hQ e
            have Hx' := Lib.hid (Chief.sured1_led c (k := kYes) (n := []) (by decide) (by decide) Hx.out)
            have Hlow := Lib.hid (c.sured1_low ⟨kYes, o.id, []⟩ Hr.out Hfi.out)
            have HQ := Lib.hid hQ; have Hout7 := Lib.hid e
            clear hQ e
            go_wp2_with fail
            refine (goes_call b (c.sured1 ⟨kYes, o.id, []⟩) _ o.id _ p w6 L6 F Hw7.out HQ.out HT.out Hx'.out Hp.out (by rw [Led.note_o]) Hlow.out).mono ?_
            rintro r w8 ⟨v, Lv8, L8, rfl, hV, hQ8, hw8, hk8⟩
            have e := Hout7.out
            simp only [List.headD_nil] at hV hQ8
            rw [e] at hV hQ8
            clear e
            obtain ⟨av, capv, rfl⟩ := hV.val
            go_wp2
            exact bodyPost_ret (v := .slice av oms.length capv) (by simp [results, Tryz.results31, go_sem]) rfl ⟨_, Lv8, L8, rfl, hV, hQ8, hw8, Hk6.out.trans hk8⟩
          | false =>
            simp only [Bool.false_eq_true, if_false, Prod.mk.injEq] at hQ e
            obtain ⟨rfl, rfl⟩ := e
            have HQ := Lib.hid hQ
            clear hQ
            go_wp2
            exact bodyPost_ret (v := .slice none 0 0) (by simp [results, Tryz.results31, go_sem]) rfl ⟨_, [], L6, rfl, .nil, HQ.out, Hw7.out, Hk6.out⟩
        | false =>
          have hw' : ¬ tx.waits = [(i : Int)] := by simpa using Hwe.out
          have e := Hout5.out
          simp only [hw', if_false, Prod.mk.injEq] at e
          obtain ⟨rfl, rfl⟩ := e
          clear hw'
          go_wp2_with fail
          refine (say_call tb tx i _ Ly ((w.heap.size, .cells #[(Value.int .i64 m.kind), (Value.int .i64 m.frm), (Value.int .i64 m.dest), (Value.int .i64 m.id), (Value.int .i64 m.step), (Value.int .i64 m.a), (Value.int .i64 m.b)] 39) :: (p, .cells #[(Value.int .i64 o.id), (Value.int .i64 o.item), (Value.int .i64 o.qty), (Value.int .i64 o.client), (Value.int .i64 o.price), sl, dv, uv, .bool asked, .bool yes, .bool turned, .bool ack0, .bool ack1, .bool shipped, .bool dmg0, .bool dmg1, .bool accepted, .pointer (some ⟨tb, 0, none⟩)] 78) :: (Lv ++ Ls ++ Ld ++ Lu ++ R ++ F)) (Hz3.out.re (by intro x; simp only [cnt_append, cnt_cons, cnt_nil, List.tail_cons, World.size_alloc, World.size_setCell, World.size_drew, List.setIfInBounds_toArray, List.set_cons_zero, List.set_cons_succ] <;> omega)) hTR (by have := Htl.out; omega)).mono ?_
          rintro r w4 ⟨rfl, L4, hT4, hw4, hk4⟩
          have hX4 : LedR p ⟨o, ⟨done, undone, asked, yes, turned, ack0, ack1, shipped, dmg0, dmg1, accepted⟩, some (tx.say i)⟩ ((p, .cells #[(Value.int .i64 o.id), (Value.int .i64 o.item), (Value.int .i64 o.qty), (Value.int .i64 o.client), (Value.int .i64 o.price), sl, dv, uv, .bool asked, .bool yes, .bool turned, .bool ack0, .bool ack1, .bool shipped, .bool dmg0, .bool dmg1, .bool accepted, .pointer (some ⟨tb, 0, none⟩)] 78) :: (Ls ++ Ld ++ Lu ++ L4)) := ⟨sl, dv, uv, _, Ls, Ld, Lu, L4, rfl, hS, hD, hU, .inr ⟨tb, _, rfl, rfl, hT4⟩⟩
          obtain ⟨L5, hQ5, hcnt5⟩ := Hput.out _ _ hX4 Hsm.out
          have hw5 : Has w4 (L5 ++ F) := by
            refine hw4.sub ?_
            intro y
            have := hcnt5 y
            simp only [cnt_append, cnt_cons] at this ⊢
            omega
          have Hw5 := Lib.hid hw5; have HQ5 := Lib.hid hQ5; have Hk4 := Lib.hid hk4
          clear hw5 hQ5 hk4 hw4 hcnt5 hX4
          go_wp2
          exact bodyPost_ret (v := .slice none 0 0) (by simp [results, Tryz.results31, go_sem]) rfl ⟨_, [], L5, rfl, .nil, HQ5.out, Hw5.out, Hk3.out.trans Hk4.out⟩
      · have e := Hout4.out
        simp only [h7, ne_eq, not_false_eq_true, if_true] at e
        have Hout6 := Lib.hid e
        clear e
        have h7b : (m.kind == 7) = false := by simp [h7]
        have H7 := Lib.hid h7
        clear h7
        go_wp2_with fail
        refine (entry_call kTurn m.id none 0 0 _).mono ?_
        rintro r w5 ⟨rfl, hb5⟩
        have hfull5 := (Hfull.out.below_all hb5).alloc (.cells #[.string kTurn, (Value.int .i64 m.id), .slice none 0 0] 81)
        have hk5 := ((Hk2.out).trans (Kin.of_below hb5)).alloc (.cells #[.string kTurn, (Value.int .i64 m.id), .slice none 0 0] 81)
        clear q0 q1 x0 x1 x2 x3 x4 x5 x6 y0 y1 y2 y3 y4 y5 y6 y7 y8 y9 y10 y11 y12 y13 y14 y15 y16 y17 hb5
        have Hfull5 := Lib.hid hfull5; have Hk5 := Lib.hid hk5
        clear hfull5 hk5
        unfold kTurn
        go_wp2_with fail
        refine (sures_call b c ps (.slice (some ⟨w5.heap.size, 0, none⟩) 1 1) [(⟨kTurn, m.id, []⟩, (none, 0))] _ L ((w5.heap.size, .cells #[.string kTurn, (Value.int .i64 m.id), .slice none 0 0] 81) :: F) (Hfull5.out.sub (by intro x; simp only [cnt_append, cnt_cons, cnt_nil, List.tail_cons, World.size_alloc, World.size_setCell, World.size_drew, List.setIfInBounds_toArray, List.set_cons_zero, List.set_cons_succ] <;> omega)) Hc.out (fun W M h => HT.out W (M ++ [(w5.heap.size, .cells #[.string kTurn, (Value.int .i64 m.id), .slice none 0 0] 81)]) (h.re (by intro x; simp only [cnt_append, cnt_cons, cnt_nil, List.tail_cons, World.size_alloc, World.size_setCell, World.size_drew, List.setIfInBounds_toArray, List.set_cons_zero, List.set_cons_succ] <;> omega))) (ents_one kTurn m.id w5.heap.size F) (entsOk_one _ _ (by decide)) Hu.out ⟨Chief.takes_plain _ (by unfold plainKind; decide) _ _, trivial⟩).mono ?_
        rintro r w6 ⟨rfl, L6, ps6, hQ, hps, hw6, hk6⟩
        obtain rfl : ps6 = ps := hps (by intro p hp; have h := List.mem_singleton.1 hp; rw [h]; show kTurn ≠ bBegin; decide)
        obtain ⟨fi, hfi⟩ : ∃ fi, c.fitsIn 1 = fi := ⟨_, rfl⟩
        have hn1 : c.sures ([((⟨kTurn, m.id, []⟩, (none, 0)) : EV)].map (·.1)) = if fi then c.sured1 ⟨kTurn, o.id, []⟩ else c := by
          rw [← hfi, Hid'.out]; rfl
        rw [hn1] at hQ
        have hfl : c.fitsIn [((⟨kTurn, m.id, []⟩, (none, 0)) : EV)].length = fi := hfi
        rw [hfl]
        have e := Hout6.out
        unfold Chief.decides at e
        rw [hfi] at e
        have hw7 : Has w6 (L6 ++ F) := hw6.sub (by intro x; simp only [cnt_append, cnt_cons, cnt_nil, List.tail_cons, World.size_alloc, World.size_setCell, World.size_drew, List.setIfInBounds_toArray, List.set_cons_zero, List.set_cons_succ] <;> omega)
        have Hw7 := Lib.hid hw7; have Hk6 := Lib.hid (Hk5.out.trans hk6); have Hfi := Lib.hid hfi
        clear hw6 hw7 hk6 hfl hn1 hps hfi
        cases fi with
        | true =>
          simp only [if_true] at hQ e
          have Hx' := Lib.hid (Chief.sured1_led c (k := kTurn) (n := []) (by decide) (by decide) Hx.out)
          have Hlow := Lib.hid (c.sured1_low ⟨kTurn, o.id, []⟩ Hr.out Hfi.out)
          have HQ := Lib.hid hQ; have Hout7 := Lib.hid e
          clear hQ e
          go_wp2_with fail
          refine (goes_call b (c.sured1 ⟨kTurn, o.id, []⟩) _ o.id _ p w6 L6 F Hw7.out HQ.out HT.out Hx'.out Hp.out (by rw [Led.note_o]) Hlow.out).mono ?_
          rintro r w8 ⟨v, Lv8, L8, rfl, hV, hQ8, hw8, hk8⟩
          have e := Hout7.out
          simp only [List.headD_nil] at hV hQ8
          rw [e] at hV hQ8
          clear e
          obtain ⟨av, capv, rfl⟩ := hV.val
          go_wp2
          exact bodyPost_ret (v := .slice av oms.length capv) (by simp [results, Tryz.results31, go_sem]) rfl ⟨_, Lv8, L8, rfl, hV, hQ8, hw8, Hk6.out.trans hk8⟩
        | false =>
          simp only [Bool.false_eq_true, if_false, Prod.mk.injEq] at hQ e
          obtain ⟨rfl, rfl⟩ := e
          have HQ := Lib.hid hQ
          clear hQ
          go_wp2
          exact bodyPost_ret (v := .slice none 0 0) (by simp [results, Tryz.results31, go_sem]) rfl ⟨_, [], L6, rfl, .nil, HQ.out, Hw7.out, Hk6.out⟩

end Go.Proofs.YtcfaimmcedpgiaaGreatDoor
