/-
  chief: notes: the contract. A lemma file: no statement of the seat is proved here.
-/
import Derived.Test.YtcfaimmcedpgiaaGreatDoorChief4
namespace Go.Proofs.YtcfaimmcedpgiaaGreatDoor
set_option linter.unusedVariables false
set_option linter.unusedSimpArgs false
open Go.RowKit

def Chief.withJ (c : Chief) (j : JournalM) : Chief := { c with j := j }
def Chief.note1 (c : Chief) (e : Entry) : Chief := (c.withJ (c.j.add e)).play e
def Chief.fitsIn (c : Chief) (n : Nat) : Bool := !decide (c.room < (c.used : Int) + n)
def Chief.noted (c : Chief) (l : List Entry) : Chief := l.foldl Chief.note1 c
def Chief.notes (c : Chief) (l : List Entry) : Chief := if c.fitsIn l.length then c.noted l else c
def Chief.takesAll : Chief → List Entry → Prop
  | _, [] => True
  | c, e :: l => c.takes e ∧ (c.note1 e).takesAll l
theorem Chief.begins_used (c : Chief) (e : Entry) : (c.begins e).used = c.used := by unfold Chief.begins; split <;> rfl
theorem Chief.play_used (c : Chief) (e : Entry) : (c.play e).used = c.used + 1 := by
  unfold Chief.play
  split
  · rw [Chief.begins_used]; rfl
  · split <;> rfl
theorem Chief.note1_used (c : Chief) (e : Entry) : (c.note1 e).used = c.used + 1 := by rw [Chief.note1, Chief.play_used]; rfl
theorem Chief.noted_used (l : List Entry) : ∀ c : Chief, (c.noted l).used = c.used + l.length := by
  induction l with
  | nil => intro c; rfl
  | cons e l ih => intro c; rw [Chief.noted, List.foldl_cons]; change ((c.note1 e).noted l).used = _; rw [ih, Chief.note1_used, List.length_cons]; omega
theorem Chief.takesAll_get : ∀ {l : List Entry} {c : Chief} {k : Nat} {e : Entry}, c.takesAll l → l[k]? = some e → (c.noted (l.take k)).takes e
  | [], _, _, _, _, h => by simp at h
  | x :: l, c, 0, e, h, hk => by
    have : x = e := by simpa using hk
    subst this
    exact h.1
  | x :: l, c, k + 1, e, h, hk => by
    have : l[k]? = some e := by simpa using hk
    simpa [Chief.noted] using Chief.takesAll_get h.2 this
theorem Chief.noted_succ (c : Chief) {l : List Entry} {k : Nat} {e : Entry} (h : l[k]? = some e) : c.noted (l.take (k + 1)) = (c.noted (l.take k)).note1 e := by
  unfold Chief.noted
  rw [List.take_add_one, h, List.foldl_append]
  rfl

/-- An entry with the place of its numbers. -/
abbrev EV := Entry × (Option Addr × Nat)
def EV.v (p : EV) : Value := .slice p.2.1 p.1.n.length p.2.2
def eEnc (p : EV) : List Value := [.string p.1.kind, (Value.int .i64 p.1.id), p.v]
theorem encE : Enc eEnc 3 := ⟨fun _ => rfl, fun x u hu => by simp [eEnc, EV.v] at hu; rcases hu with rfl | rfl | rfl <;> rfl⟩
/-- A slice of entries that can be read as long as the blocks of F lie there. -/
def EntsAt (F : HL) (lv : Value) (es : List EV) : Prop :=
  ∀ W M, Has W (M ++ F) → SlAt W eEnc 3 lv es ∧ ∀ p ∈ es, SlAt W iEnc 1 p.v p.1.n
def noBegin (es : List EV) : Prop := ∀ p ∈ es, p.1.kind ≠ bBegin
def entsOk (es : List EV) : Prop := es.length ≤ 4096 ∧ ∀ p ∈ es, p.1.n.length < 1000000 ∧ p.1.kind.size < 1000000

set_option maxRecDepth 100000 in
set_option maxHeartbeats 3200000 in
theorem notes_call (b : Nat) (c : Chief) (ps : List (Int × Nat)) (lv : Value) (es : List EV) (w : World) (L F : HL) (hw : Has w (L ++ F)) (hc : ChiefQ b c ps L) (hT : Tab F) (hl : EntsAt F lv es) (hn : entsOk es) (hu : c.used ≤ 4096) (hk : c.takesAll (es.map (·.1))) :
    Calls Tryz.prog 33 #[.pointer (some ⟨b, 0, none⟩), lv] w fun r w' => r = .returned (.bool (c.fitsIn es.length)) ∧ ∃ L' ps', ChiefQ b (c.notes (es.map (·.1))) ps' L' ∧ (noBegin es → ps' = ps) ∧ Has w' (L' ++ F) ∧ Kin w w' := by
  have hc0 := hc
  obtain ⟨hok, jb, mb, tb, Lj, Lm, Ll, Lt, rfl, hJ, hM, hL, hTw⟩ := hc
  obtain ⟨al, capl, rfl⟩ := (hl w _ hw).1.len
  have ho : Has w ((b, .cells #[(Value.int .i64 c.most), (Value.int .i64 c.room), (Value.int .i64 c.tries), .pointer (some ⟨jb, 0, none⟩), (Value.int .i64 c.used), .map (some mb), .pointer (some ⟨tb, 0, none⟩)] 74) :: (Lj ++ Lm ++ Ll ++ Lt ++ F)) := hw
  have p0 := ho.lth
  have x0 := (ho).cellh 0; have x1 := (ho).cellh 1; have x2 := (ho).cellh 2; have x3 := (ho).cellh 3; have x4 := (ho).cellh 4; have x5 := (ho).cellh 5; have x6 := (ho).cellh 6; simp at x0 x1 x2 x3 x4 x5 x6
  have hlen := hn.1
  have h63 : (c.used : Int) + (es.length : Int) < 9223372036854775808 := by omega
  have Hc := Lib.hid hc0; have Hw := Lib.hid hw; have Hl := Lib.hid hl; have HT := Lib.hid hT; have Hn := Lib.hid hn; have Hk := Lib.hid hk; have Hu := Lib.hid hu; have Hlen := Lib.hid hlen
  clear hc0 hw hl hT hn hk ho hok hJ hM hL hTw hu hlen
  obtain ⟨N, hN⟩ : ∃ N, es.length = N := ⟨_, rfl⟩
  rw [hN] at h63 ⊢
  have HN := Lib.hid hN
  go_enter Tryz.func33, Tryz.ntmps33
  by_cases hfit : c.room < (c.used : Int) + N
  · have hf : c.fitsIn N = false := by simp [Chief.fitsIn, hfit]
    rw [hf]
    clear hN
    go_wp2
    go_region
    all_goals go_wp2
    all_goals
      refine bodyPost_ret (v := .bool false) (by simp [results, Tryz.results33, go_sem]) rfl ⟨rfl, _, ps, ?_, fun _ => rfl, Hw.out.drew, (Kin.refl w).drew⟩
      have : c.notes (es.map (·.1)) = c := by
        unfold Chief.notes
        rw [List.length_map, HN.out, hf]
        rfl
      rw [this]
      exact Hc.out
  · have hf : c.fitsIn N = true := by simp [Chief.fitsIn, hfit]
    rw [hf]
    clear hN
    have Hf := Lib.hid hf
    clear hf
    go_wp2
    go_region
    clear h63
    go_wp2
    go_loopw [21] (fun i wr => ∃ k : Nat, ∃ L' ps', k ≤ N ∧ i = .int .i64 k ∧ ChiefQ b (c.noted ((es.map (·.1)).take k)) ps' L' ∧ (noBegin es → ps' = ps) ∧ Has wr (L' ++ F) ∧ Kin w wr) (fun i _ => N - (intOf i).toNat)
    case atStart => exact ⟨0, _, ps, Nat.zero_le _, rfl, Hc.out, fun _ => rfl, Hw.out.drew, (Kin.refl w).drew⟩
    case round =>
      obtain ⟨k, L', ps', hk, rfl, hQ, hps, hwr, hkin⟩ := hrel
      have hps := Lib.hid hps
      clear x0 x1 x2 x3 x4 x5 x6 p0
      by_cases hlt : k < N
      · obtain ⟨⟨⟨kind, id, n⟩, ⟨a1, cap1⟩⟩, hek⟩ : ∃ e, es[k]? = some e := ⟨es[k]'(by rw [HN.out]; exact hlt), by simp⟩
        have hem : ((⟨kind, id, n⟩, (a1, cap1)) : EV) ∈ es := List.mem_of_getElem? hek
        have hemap : (es.map (·.1))[k]? = some ⟨kind, id, n⟩ := by simp [hek]
        have hsucc := Chief.noted_succ c hemap
        have htk := Chief.takesAll_get Hk.out hemap
        have husd : (c.noted ((es.map (·.1)).take k)).used ≤ 4096 + 4096 := by
          rw [Chief.noted_used]; have := Hu.out; have := Hn.out.1; have := HN.out; simp; omega
        obtain ⟨ck, hck⟩ : ∃ ck, c.noted ((es.map (·.1)).take k) = ck := ⟨_, rfl⟩
        rw [hck] at hQ hsucc htk husd
        obtain ⟨hok, jb, mb, tb, Lj, Lm, Ll, Lt, rfl, hJ, hM, hL, hTw⟩ := hQ
        have hread := Hl.out wr _ hwr
        have hne := Hn.out.2 _ hem
        dsimp only at hne
        have hoo : Has wr ((b, .cells #[(Value.int .i64 ck.most), (Value.int .i64 ck.room), (Value.int .i64 ck.tries), .pointer (some ⟨jb, 0, none⟩), (Value.int .i64 ck.used), .map (some mb), .pointer (some ⟨tb, 0, none⟩)] 74) :: (Lj ++ Lm ++ Ll ++ Lt ++ F)) := hwr
        have q0 := hoo.lth
        have x0 := (hoo).cellh 0; have x1 := (hoo).cellh 1; have x2 := (hoo).cellh 2; have x3 := (hoo).cellh 3; have x4 := (hoo).cellh 4; have x5 := (hoo).cellh 5; have x6 := (hoo).cellh 6; simp at x0 x1 x2 x3 x4 x5 x6
        rcases hread.1 with ⟨_, h1⟩ | ⟨b', off, cap', h0, hcs⟩
        · rw [h1] at hek; simp at hek
        obtain rfl : al = some ⟨b', off, none⟩ := (Value.slice.inj h0).1
        have c0 := hcs k _ hek 0 (.string kind) rfl
        have c1 := hcs k _ hek 1 ((Value.int .i64 id)) rfl
        have c2 := hcs k _ hek 2 (.slice a1 n.length cap1) rfl
        simp only [Nat.add_zero] at c0 c1 c2
        have Hoo := Lib.hid hoo; have Hkin := Lib.hid hkin; have Hsucc := Lib.hid hsucc; have Htk := Lib.hid htk; have Husd := Lib.hid husd; have Hem := Lib.hid hem; have Hne := Lib.hid hne; have Hok := Lib.hid hok
        clear hread hcs h0 hoo hwr hkin hsucc htk husd hem hek hemap hck hne hok
        go_upto_region 5 with fail
        go_cut [6] from 23 (fun q wx => q = .pointer (some ⟨wr.heap.size, 0, none⟩) ∧ Has wx ((wr.heap.size, .cells #[.string kind, (Value.int .i64 id), .slice a1 n.length cap1] 81) :: (b, .cells #[(Value.int .i64 ck.most), (Value.int .i64 ck.room), (Value.int .i64 ck.tries), .pointer (some ⟨jb, 0, none⟩), (Value.int .i64 ck.used), .map (some mb), .pointer (some ⟨tb, 0, none⟩)] 74) :: (Lj ++ Lm ++ Ll ++ Lt ++ F)) ∧ Kin w wx)
        case first =>
          go_wp2
          go_meet
          case rel => exact ⟨rfl, Hoo.out.alloc _, Hkin.out.alloc _⟩
        case rest =>
          obtain ⟨rfl, hwc, hkc⟩ := hcut
          have pe := hwc.lth; have pb := hwc.tail.lth
          have y0 := (hwc).cellh 0; have y1 := (hwc).cellh 1; have y2 := (hwc).cellh 2; simp at y0 y1 y2
          have z0 := (hwc.tail).cellh 0; have z1 := (hwc.tail).cellh 1; have z2 := (hwc.tail).cellh 2; have z3 := (hwc.tail).cellh 3; have z4 := (hwc.tail).cellh 4; have z5 := (hwc.tail).cellh 5; have z6 := (hwc.tail).cellh 6; simp at z0 z1 z2 z3 z4 z5 z6
          have Hwc := Lib.hid hwc; have Hkc := Lib.hid hkc
          clear hwc hkc c0 c1 c2 x0 x1 x2 x3 x4 x5 x6 q0
          go_upto_region 6 with fail
          go_still_tail 5, (by kernel_rfl)
          change wpList _ _ _ _ _ wc.drew
          go_wp2_with fail
          refine (jadd_call jb ck.j ⟨kind, id, n⟩ (.slice a1 n.length cap1) _ Lj ((wr.heap.size, .cells #[.string kind, (Value.int .i64 id), .slice a1 n.length cap1] 81) :: (b, .cells #[(Value.int .i64 ck.most), (Value.int .i64 ck.room), (Value.int .i64 ck.tries), .pointer (some ⟨jb, 0, none⟩), (Value.int .i64 ck.used), .map (some mb), .pointer (some ⟨tb, 0, none⟩)] 74) :: (Lm ++ Ll ++ Lt ++ F)) (Hwc.out.drew.re (by intro x; simp only [cnt_append, cnt_cons, cnt_nil, List.tail_cons, World.size_alloc, World.size_setCell, World.size_drew, List.setIfInBounds_toArray, List.set_cons_zero, List.set_cons_succ] <;> omega)) hJ (fun W M h => HT.out W (M ++ ((wr.heap.size, .cells #[.string kind, (Value.int .i64 id), .slice a1 n.length cap1] 81) :: (b, .cells #[(Value.int .i64 ck.most), (Value.int .i64 ck.room), (Value.int .i64 ck.tries), .pointer (some ⟨jb, 0, none⟩), (Value.int .i64 ck.used), .map (some mb), .pointer (some ⟨tb, 0, none⟩)] 74) :: (Lm ++ Ll ++ Lt))) (h.re (by intro x; simp only [cnt_append, cnt_cons, cnt_nil, List.tail_cons, World.size_alloc, World.size_setCell, World.size_drew, List.setIfInBounds_toArray, List.set_cons_zero, List.set_cons_succ] <;> omega))) (fun W M h => (Hl.out W (M ++ ((wr.heap.size, .cells #[.string kind, (Value.int .i64 id), .slice a1 n.length cap1] 81) :: (b, .cells #[(Value.int .i64 ck.most), (Value.int .i64 ck.room), (Value.int .i64 ck.tries), .pointer (some ⟨jb, 0, none⟩), (Value.int .i64 ck.used), .map (some mb), .pointer (some ⟨tb, 0, none⟩)] 74) :: (Lm ++ Ll ++ Lt))) (h.re (by intro x; simp only [cnt_append, cnt_cons, cnt_nil, List.tail_cons, World.size_alloc, World.size_setCell, World.size_drew, List.setIfInBounds_toArray, List.set_cons_zero, List.set_cons_succ] <;> omega))).2 _ Hem.out) Hne.out.1 Hne.out.2).mono ?_
          rintro r w1 ⟨rfl, Lj', hJ', hw1, hk1⟩
          clear y0 y1 y2 z0 z1 z2 z3 z4 z5 z6 pe pb
          have hz := hw1.sub (B := (wr.heap.size, .cells #[.string kind, (Value.int .i64 id), .slice a1 n.length cap1] 81) :: (b, .cells #[(Value.int .i64 ck.most), (Value.int .i64 ck.room), (Value.int .i64 ck.tries), .pointer (some ⟨jb, 0, none⟩), (Value.int .i64 ck.used), .map (some mb), .pointer (some ⟨tb, 0, none⟩)] 74) :: (Lj' ++ Lm ++ Ll ++ Lt ++ F)) (by intro x; simp only [cnt_append, cnt_cons, cnt_nil, List.tail_cons, World.size_alloc, World.size_setCell, World.size_drew, List.setIfInBounds_toArray, List.set_cons_zero, List.set_cons_succ] <;> omega)
          have qe := hz.lth; have qb := hz.tail.lth
          have s0 := (hz).cellh 0; have s1 := (hz).cellh 1; have s2 := (hz).cellh 2; simp at s0 s1 s2
          have Hz := Lib.hid hz; have Hk1 := Lib.hid hk1
          clear hz hw1 hk1
          go_wp2_with fail
          refine (plays_call b (ck.withJ (ck.j.add ⟨kind, id, n⟩)) ps' ⟨kind, id, n⟩ (.slice a1 n.length cap1) _ ((b, .cells #[(Value.int .i64 ck.most), (Value.int .i64 ck.room), (Value.int .i64 ck.tries), .pointer (some ⟨jb, 0, none⟩), (Value.int .i64 ck.used), .map (some mb), .pointer (some ⟨tb, 0, none⟩)] 74) :: (Lj' ++ Lm ++ Ll ++ Lt)) F (Hz.out.sub (by intro x; simp only [cnt_append, cnt_cons, cnt_nil, List.tail_cons, World.size_alloc, World.size_setCell, World.size_drew, List.setIfInBounds_toArray, List.set_cons_zero, List.set_cons_succ] <;> omega)) ⟨Hok.out, jb, mb, tb, Lj', Lm, Ll, Lt, rfl, hJ', hM, hL, hTw⟩ (fun W M h => (Hl.out W M h).2 _ Hem.out) Hne.out.1 (by have := Husd.out; dsimp only [Chief.withJ]; omega) Htk.out).mono ?_
          rintro r w2 ⟨rfl, L2, ps2, hQ2, hps2, hw2, hk2⟩
          have hkb : (k : Int) + 1 < 9223372036854775808 := by have := Hlen.out; have := HN.out; omega
          go_wp2
          go_roundw
          case rel => exact ⟨k + 1, L2, ps2, by omega, by go_num, by rw [Hsucc.out]; exact hQ2, fun h => (hps2 (h _ Hem.out)).trans (hps.out h), hw2, (Hkc.out.drew.trans Hk1.out).trans hk2⟩
          case measure => simp [intOf]; omega
      · go_wp2
        go_ret
        have e : (es.map (·.1)).take k = es.map (·.1) := List.take_of_length_le (by have := HN.out; simp; omega)
        rw [e] at hQ
        refine ⟨rfl, L', ps', ?_, hps.out, hwr, hkin⟩
        unfold Chief.notes
        rw [List.length_map, HN.out, Hf.out]
        exact hQ

end Go.Proofs.YtcfaimmcedpgiaaGreatDoor
