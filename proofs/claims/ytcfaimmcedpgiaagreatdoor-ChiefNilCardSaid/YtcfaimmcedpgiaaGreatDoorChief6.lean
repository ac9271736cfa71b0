/-
  chief: sures, sends: contracts. A lemma file: no statement of the seat is proved here.
-/
import Derived.Test.YtcfaimmcedpgiaaGreatDoorChief5
namespace Go.Proofs.YtcfaimmcedpgiaaGreatDoor
set_option linter.unusedVariables false
set_option linter.unusedSimpArgs false
open Go.RowKit

def Chief.synced (c : Chief) : Chief := c.withJ c.j.sync
def Chief.sures (c : Chief) (l : List Entry) : Chief := if c.fitsIn l.length then (c.noted l).synced else c
theorem Chief.notes_low {c : Chief} {l : List Entry} (h : c.used ≤ 4096) (hr : c.room ≤ 4096) : (c.notes l).used ≤ 4096 := by
  unfold Chief.notes Chief.fitsIn
  split
  · rename_i h1
    simp at h1
    rw [Chief.noted_used]; omega
  · exact h

theorem ents_one (k : ByteArray) (id : Int) (bs : Nat) (F : HL) : EntsAt ((bs, .cells #[.string k, (Value.int .i64 id), .slice none 0 0] 81) :: F) (.slice (some ⟨bs, 0, none⟩) 1 1) [(⟨k, id, []⟩, (none, 0))] := by
  intro W M h
  refine ⟨SlR.at (L := [(bs, .cells #[.string k, (Value.int .i64 id), .slice none 0 0] 81)]) (e := 81) (SlR.lit (l := [((⟨k, id, []⟩, (none, 0)) : EV)]) encE rfl rfl (by simp)) encE (F := M ++ F) (h.re (by intro x; simp only [cnt_append, cnt_cons, cnt_nil, List.tail_cons, World.size_alloc, World.size_setCell, World.size_drew, List.setIfInBounds_toArray, List.set_cons_zero, List.set_cons_succ] <;> omega)), ?_⟩
  intro p hp
  obtain rfl : p = (⟨k, id, []⟩, (none, 0)) := by simpa using hp
  exact .inl ⟨rfl, rfl⟩
theorem entsOk_one (k : ByteArray) (id : Int) (hk : k.size < 1000000) : entsOk [(⟨k, id, []⟩, (none, 0))] :=
  ⟨by simp, fun p hp => by obtain rfl : p = (⟨k, id, []⟩, (none, 0)) := by simpa using hp
                           exact ⟨by simp, hk⟩⟩
/-- Kinds whose entries fit any order. -/
def plainKind (k : ByteArray) : Prop := k ≠ bBegin ∧ k ≠ kDone ∧ k ≠ kUndone ∧ k ≠ kAck ∧ k ≠ kDamage
theorem Chief.takes_plain (c : Chief) {k : ByteArray} (h : plainKind k) (id : Int) (n : List Int) : c.takes ⟨k, id, n⟩ := by
  intro x _ _ _
  obtain ⟨_, h2, h3, h4, h5⟩ := h
  exact ⟨fun h => absurd h h2, fun h => absurd h h3, fun h => by rcases h with h | h; exact absurd h h4; exact absurd h h5⟩

set_option maxRecDepth 100000 in
theorem sures_call (b : Nat) (c : Chief) (ps : List (Int × Nat)) (lv : Value) (es : List EV) (w : World) (L F : HL) (hw : Has w (L ++ F)) (hc : ChiefQ b c ps L) (hT : Tab F) (hl : EntsAt F lv es) (hn : entsOk es) (hu : c.used ≤ 4096) (hk : c.takesAll (es.map (·.1))) :
    Calls Tryz.prog 46 #[.pointer (some ⟨b, 0, none⟩), lv] w fun r w' => r = .returned (.bool (c.fitsIn es.length)) ∧ ∃ L' ps', ChiefQ b (c.sures (es.map (·.1))) ps' L' ∧ (noBegin es → ps' = ps) ∧ Has w' (L' ++ F) ∧ Kin w w' := by
  obtain ⟨al, capl, rfl⟩ := (hl w _ hw).1.len
  obtain ⟨f, hf⟩ : ∃ f, c.fitsIn es.length = f := ⟨_, rfl⟩
  have Hc := Lib.hid hc; have Hw := Lib.hid hw; have Hl := Lib.hid hl; have HT := Lib.hid hT; have Hn := Lib.hid hn; have Hk := Lib.hid hk; have Hu := Lib.hid hu; have Hf := Lib.hid hf
  rw [hf]
  clear hc hw hl hT hn hk hu hf
  have hc2 : c.notes (es.map (·.1)) = if f then c.noted (es.map (·.1)) else c := by unfold Chief.notes; rw [List.length_map, Hf.out]
  have hc3 : c.sures (es.map (·.1)) = if f then (c.noted (es.map (·.1))).synced else c := by unfold Chief.sures; rw [List.length_map, Hf.out]
  rw [hc3]
  cases f with
  | false =>
    simp only [Bool.false_eq_true, if_false] at hc2 ⊢
    have Hc2 := Lib.hid hc2
    clear hc2 hc3
    go_enter Tryz.func46, Tryz.ntmps46
    go_wp2_with fail
    refine (notes_call b c ps _ es _ L F Hw.out Hc.out HT.out Hl.out Hn.out Hu.out Hk.out).mono ?_
    rintro r w1 ⟨rfl, L1, ps1, hQ, hps, hw1, hk1⟩
    rw [Hc2.out] at hQ
    rw [Hf.out]
    have Hps := Lib.hid hps
    clear hps
    go_wp2
    exact bodyPost_ret (v := .bool false) (by simp [results, Tryz.results46, go_sem]) rfl ⟨rfl, L1, ps1, hQ, Hps.out, hw1, hk1⟩
  | true =>
    simp only [if_true] at hc2 ⊢
    have Hc2 := Lib.hid hc2
    clear hc2 hc3
    obtain ⟨ck, hck⟩ : ∃ ck, c.noted (es.map (·.1)) = ck := ⟨_, rfl⟩
    rw [hck]
    have Hck := Lib.hid hck
    clear hck
    go_enter Tryz.func46, Tryz.ntmps46
    go_wp2_with fail
    refine (notes_call b c ps _ es _ L F Hw.out Hc.out HT.out Hl.out Hn.out Hu.out Hk.out).mono ?_
    rintro r w1 ⟨rfl, L1, ps1, hQ, hps, hw1, hk1⟩
    rw [Hc2.out, Hck.out] at hQ
    rw [Hf.out]
    have Hps := Lib.hid hps
    clear hps
    obtain ⟨hok, jb, mb, tb, Lj, Lm, Ll, Lt, rfl, hJ, hM, hL, hTw⟩ := hQ
    have hoo : Has w1 ((b, .cells #[(Value.int .i64 ck.most), (Value.int .i64 ck.room), (Value.int .i64 ck.tries), .pointer (some ⟨jb, 0, none⟩), (Value.int .i64 ck.used), .map (some mb), .pointer (some ⟨tb, 0, none⟩)] 74) :: (Lj ++ Lm ++ Ll ++ Lt ++ F)) := hw1
    have q0 := hoo.lth
    have x0 := (hoo).cellh 0; have x1 := (hoo).cellh 1; have x2 := (hoo).cellh 2; have x3 := (hoo).cellh 3; have x4 := (hoo).cellh 4; have x5 := (hoo).cellh 5; have x6 := (hoo).cellh 6; simp at x0 x1 x2 x3 x4 x5 x6
    have Hoo := Lib.hid hoo; have Hk1 := Lib.hid hk1; have Hok := Lib.hid hok
    clear hoo hk1 hw1 hok
    go_wp2_with fail
    refine (jsync_call jb ck.j w1 Lj ((b, .cells #[(Value.int .i64 ck.most), (Value.int .i64 ck.room), (Value.int .i64 ck.tries), .pointer (some ⟨jb, 0, none⟩), (Value.int .i64 ck.used), .map (some mb), .pointer (some ⟨tb, 0, none⟩)] 74) :: (Lm ++ Ll ++ Lt ++ F)) (Hoo.out.re (by intro x; simp only [cnt_append, cnt_cons, cnt_nil, List.tail_cons, World.size_alloc, World.size_setCell, World.size_drew, List.setIfInBounds_toArray, List.set_cons_zero, List.set_cons_succ] <;> omega)) hJ).mono ?_
    rintro r w2 ⟨rfl, Lj', hJ', hw2, hk2⟩
    go_wp2
    all_goals exact bodyPost_ret (v := .bool true) (by simp [results, Tryz.results46, go_sem]) rfl ⟨rfl, (b, .cells #[(Value.int .i64 ck.most), (Value.int .i64 ck.room), (Value.int .i64 ck.tries), pV jb, (Value.int .i64 ck.used), .map (some mb), pV tb] 74) :: (Lj' ++ Lm ++ Ll ++ Lt), ps1, ⟨Hok.out, jb, mb, tb, Lj', Lm, Ll, Lt, rfl, hJ', hM, hL, hTw⟩, Hps.out, hw2.re (by intro x; simp only [cnt_append, cnt_cons, cnt_nil, pV, List.tail_cons, World.size_alloc, World.size_setCell, World.size_drew, List.setIfInBounds_toArray, List.set_cons_zero, List.set_cons_succ] <;> omega), Hk1.out.trans hk2⟩

theorem ChiefQ.led {b : Nat} {c : Chief} {ps : List (Int × Nat)} {L : HL} (hQ : ChiefQ b c ps L) {id : Int} {x : Led} {p : Nat} (hx : mget c.l id = some x) (hp : mget ps id = some p) : ∃ L1 L2, LedR p x L1 ∧ ∀ y, cnt y L = cnt y L1 + cnt y L2 := by
  obtain ⟨hok, jb, mb, tb, Lj, Lm, Ll, Lt, rfl, hJ, hM, hL, hTw⟩ := hQ
  obtain ⟨q, L1, L2, hq, hX, hcnt, _⟩ := LedsR.get hL hx
  rw [hp] at hq
  cases hq
  refine ⟨L1, (b, .cells #[(Value.int .i64 c.most), (Value.int .i64 c.room), (Value.int .i64 c.tries), pV jb, (Value.int .i64 c.used), .map (some mb), pV tb] 74) :: (Lj ++ Lm ++ L2 ++ Lt), hX, ?_⟩
  intro y
  have := hcnt y
  simp only [cnt_append, cnt_cons] at this ⊢
  omega
theorem ChiefQ.ptr {b : Nat} {c : Chief} {ps : List (Int × Nat)} {L : HL} (hQ : ChiefQ b c ps L) {id : Int} {x : Led} (hx : mget c.l id = some x) : ∃ p, mget ps id = some p := by
  obtain ⟨hok, jb, mb, tb, Lj, Lm, Ll, Lt, rfl, hJ, hM, hL, hTw⟩ := hQ
  obtain ⟨q, L1, L2, hq, _⟩ := LedsR.get hL hx
  exact ⟨q, hq⟩
theorem ChiefQ.small {b : Nat} {c : Chief} {ps : List (Int × Nat)} {L : HL} (hQ : ChiefQ b c ps L) {id : Int} {x : Led} (hx : mget c.l id = some x) : x.small c.used := hQ.1.2.2.2.2.2 _ (mem_of_mget hx)

def Led.asks (x : Led) : Bool := match nextM x.o x.f with | [] => false | m :: _ => decide (m.kind = 6) && !x.f.asked
def Chief.sends (c : Chief) (x : Led) : List Msg × Chief :=
  if x.asks then (if c.fitsIn 1 then (nextM x.o x.f, c.noted [⟨kAsked, x.o.id, []⟩]) else ([], c)) else (nextM x.o x.f, c)

end Go.Proofs.YtcfaimmcedpgiaaGreatDoor
