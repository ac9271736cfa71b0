/-
  chief: plays: the contract (under way). A lemma file: no statement of the seat is proved here.
-/
import Derived.Test.YtcfaimmcedpgiaaGreatDoorChief3
import Derived.Test.YtcfaimmcedpgiaaGreatDoorDrawn
namespace Go.Proofs.YtcfaimmcedpgiaaGreatDoor
set_option linter.unusedVariables false
set_option linter.unusedSimpArgs false
open Go.RowKit

def Led.step (x : Led) (sv n : Int) : Led :=
  { x with o := { x.o with steps := x.o.steps ++ [⟨sv, n⟩] }, f := { x.f with done := x.f.done ++ [false], undone := x.f.undone ++ [false] } }
def Led.play (x : Led) (e : Entry) : Led :=
  if e.kind = bStep ∧ e.n.length = 3 then x.step (e.n.getD 1 0) (e.n.getD 2 0) else x.note e.kind (e.n.headD 0)
def Chief.tick (c : Chief) : Chief := { c with used := c.used + 1 }
def Chief.play (c : Chief) (e : Entry) : Chief :=
  if e.kind = bBegin then c.tick.begins e else match mget c.l e.id with
    | none => c.tick
    | some x => { c.tick with l := mput c.l e.id (x.play e) }
def Chief.takes (c : Chief) (e : Entry) : Prop := ∀ x, mget c.l e.id = some x → e.kind ≠ bBegin → ¬ (e.kind = bStep ∧ e.n.length = 3) → x.fits e.kind (e.n.headD 0)

/-- A chief whose pointers are known. -/
def ChiefQ (b : Nat) (c : Chief) (ps : List (Int × Nat)) (L : HL) : Prop :=
  c.ok ∧ ∃ jb mb tb Lj Lm Ll Lt, L = (b, .cells #[(Value.int .i64 c.most), (Value.int .i64 c.room), (Value.int .i64 c.tries), pV jb, (Value.int .i64 c.used), .map (some mb), pV tb] 74) :: (Lj ++ Lm ++ Ll ++ Lt) ∧ JournalR jb c.j Lj ∧ MapR pV mb ps Lm ∧ LedsR ps c.l Ll ∧ TowerR tb c.bells Lt
theorem ChiefQ.r {b : Nat} {c : Chief} {ps : List (Int × Nat)} {L : HL} (h : ChiefQ b c ps L) : ChiefR b c L := by
  obtain ⟨hok, jb, mb, tb, Lj, Lm, Ll, Lt, h⟩ := h
  exact ⟨hok, jb, mb, tb, ps, Lj, Lm, Ll, Lt, h⟩
theorem ChiefR.q {b : Nat} {c : Chief} {L : HL} (h : ChiefR b c L) : ∃ ps, ChiefQ b c ps L := by
  obtain ⟨hok, jb, mb, tb, ps, Lj, Lm, Ll, Lt, h⟩ := h
  exact ⟨ps, hok, jb, mb, tb, Lj, Lm, Ll, Lt, h⟩
theorem Led.small.mono {x : Led} {n m : Nat} (h : x.small n) (hm : n ≤ m) : x.small m := ⟨Nat.le_trans h.1 hm, Nat.le_trans h.2.1 hm, Nat.le_trans h.2.2 hm⟩
theorem Led.small.note {x : Led} {n : Nat} (h : x.small n) (kind : ByteArray) (k : Int) : (x.note kind k).small n := by
  unfold Led.note
  split
  · exact h
  split
  · exact ⟨h.1, by simpa using h.2.1, h.2.2⟩
  split
  · exact ⟨h.1, h.2.1, by simpa using h.2.2⟩
  split
  · exact h
  split
  · exact h
  split
  · split <;> exact h
  split
  · split <;> exact h
  split
  · exact h
  split <;> exact h
theorem Led.small.step {x : Led} {n : Nat} (h : x.small n) (sv k : Int) : (x.step sv k).small (n + 1) := by
  obtain ⟨h1, h2, h3⟩ := h
  refine ⟨?_, ?_, ?_⟩ <;> simp only [Led.step, List.length_append, List.length_cons, List.length_nil] <;> omega
theorem Led.small.play {x : Led} {n : Nat} (h : x.small n) (e : Entry) : (x.play e).small (n + 1) := by
  unfold Led.play
  split
  · exact h.step _ _
  · exact (h.note _ _).mono (by omega)

theorem elem_step : Elem Tryz.prog 25 42 2 16 := by
  refine ⟨Tryz.underlying25, ?_, by decide, by decide⟩
  obtain ⟨i, h1, h2, h3, h4⟩ := info_parts (show (Tryz.prog.info? 42).map (fun i => (i.zero, i.size, i.bytes)) = some (some (.agg #[(Value.int .i64 0), (Value.int .i64 0)]), 2, 16) by kernel_rfl)
  exact ⟨i, _, h1, h2, h3, h4, rfl⟩
theorem step_at (s : Step) {w : World} {b : Nat} {F : HL} (h : Has w ((b, .cells #[(Value.int .i64 s.sv), (Value.int .i64 s.n)] 42) :: F)) : SlAt w Step.enc 2 (.slice (some ⟨b, 0, none⟩) 1 1) [s] :=
  SlR.at (L := [(b, .cells #[(Value.int .i64 s.sv), (Value.int .i64 s.n)] 42)]) (SlR.lit (l := [s]) encStep rfl rfl (by simp)) encStep (F := F) h
theorem bool_at (x : Bool) {w : World} {b : Nat} {F : HL} (h : Has w ((b, .cells #[.bool x] 4) :: F)) : SlAt w bEnc 1 (.slice (some ⟨b, 0, none⟩) 1 1) [x] :=
  SlR.at (L := [(b, .cells #[.bool x] 4)]) (SlR.lit (l := [x]) encB rfl rfl (by simp)) encB (F := F) h
theorem three_at {W : World} {b off N cap : Nat} {n0 n1 n2 : Int} (h : SlAt W iEnc 1 (.slice (some ⟨b, off, none⟩) N cap) [n0, n1, n2]) : W.cell? ⟨b, off + 1, none⟩ = some ((Value.int .i64 n1)) ∧ W.cell? ⟨b, off + 2, none⟩ = some ((Value.int .i64 n2)) := by
  rcases h with ⟨_, h1⟩ | ⟨b', off', cap', h0, hcs⟩
  · cases h1
  · have h1 := (Value.slice.inj h0).1
    simp only [Option.some.injEq, Addr.mk.injEq] at h1
    obtain ⟨rfl, rfl, _⟩ := h1
    have c1 := hcs 1 n1 rfl 0 ((Value.int .i64 n1)) rfl
    have c2 := hcs 2 n2 rfl 0 ((Value.int .i64 n2)) rfl
    simp only [Nat.add_zero, Nat.mul_one] at c1 c2
    exact ⟨c1, c2⟩
theorem zeroLed (w : World) : (zeroValue 69).run Tryz.prog w = .ok (.pointer none) w := Tryz.zeroValue69 w

set_option maxRecDepth 100000 in
set_option maxHeartbeats 3200000 in
theorem plays_call (b : Nat) (c : Chief) (ps : List (Int × Nat)) (e : Entry) (nv : Value) (w : World) (L F : HL) (hw : Has w (L ++ F)) (hc : ChiefQ b c ps L) (hl : ∀ W M, Has W (M ++ F) → SlAt W iEnc 1 nv e.n) (hn : e.n.length < 1000000) (hu : c.used < 50000) (hk : c.takes e) :
    Calls Tryz.prog 42 #[.pointer (some ⟨b, 0, none⟩), .agg (e.cells nv)] w fun r w' => r = .returned (.tuple #[]) ∧ ∃ L' ps', ChiefQ b (c.play e) ps' L' ∧ (e.kind ≠ bBegin → ps' = ps) ∧ Has w' (L' ++ F) ∧ Kin w w' := by
  obtain ⟨hok, jb, mb, tb, Lj, Lm, Ll, Lt, rfl, hJ, hM, hL, hT⟩ := hc
  obtain ⟨a1, cap1, rfl⟩ := (hl w _ hw).len
  obtain ⟨kind, id, n⟩ := e
  dsimp only at hl hn hk
  have ho : Has w ((b, .cells #[(Value.int .i64 c.most), (Value.int .i64 c.room), (Value.int .i64 c.tries), .pointer (some ⟨jb, 0, none⟩), (Value.int .i64 c.used), .map (some mb), .pointer (some ⟨tb, 0, none⟩)] 74) :: (Lj ++ Lm ++ Ll ++ Lt ++ F)) := hw
  have p0 := ho.lth
  have x0 := (ho).cellh 0; have x1 := (ho).cellh 1; have x2 := (ho).cellh 2; have x3 := (ho).cellh 3; have x4 := (ho).cellh 4; have x5 := (ho).cellh 5; have x6 := (ho).cellh 6; simp at x0 x1 x2 x3 x4 x5 x6
  have f4 := ho.freeh 4
  -- the count of lines goes up
  have h0 := (ho.setCell 4 ((Value.int .i64 (c.used + 1)))).alloc (.cells #[.string kind, (Value.int .i64 id), .slice a1 n.length cap1] 81)
  simp only [List.setIfInBounds_toArray, List.set_cons_succ, List.set_cons_zero, World.size_setCell] at h0
  have h1 := h0.swap
  have H1 := Lib.hid h1; have Hl := Lib.hid hl; have Hw := Lib.hid hw
  clear hl hw ho h0 h1
  have hu1 : ((c.used : Int) + 1) < 9223372036854775807 := by omega
  unfold Entry.cells
  go_enter Tryz.func42, Tryz.ntmps42
  go_upto_region 1 with fail
  go_cut [3] from 6 (fun q wx => q = .pointer (some ⟨w.heap.size, 0, none⟩) ∧ Has wx ((b, .cells #[(Value.int .i64 c.most), (Value.int .i64 c.room), (Value.int .i64 c.tries), .pointer (some ⟨jb, 0, none⟩), (Value.int .i64 (c.used + 1)), .map (some mb), .pointer (some ⟨tb, 0, none⟩)] 74) :: (w.heap.size, .cells #[.string kind, (Value.int .i64 id), .slice a1 n.length cap1] 81) :: (Lj ++ Lm ++ Ll ++ Lt ++ F)) ∧ Kin w wx)
  case first =>
    go_wp2
    go_meet
    case rel => exact ⟨rfl, H1.out, ((Kin.refl w).setCell _ _).alloc _⟩
  case rest =>
    obtain ⟨rfl, hwc, hkc⟩ := hcut
    have q0 := hwc.lth; have q1 := hwc.tail.lth
    clear x0 x1 x2 x3 x4 x5 x6 f4 p0
    have x0 := (hwc).cellh 0; have x1 := (hwc).cellh 1; have x2 := (hwc).cellh 2; have x3 := (hwc).cellh 3; have x4 := (hwc).cellh 4; have x5 := (hwc).cellh 5; have x6 := (hwc).cellh 6; simp at x0 x1 x2 x3 x4 x5 x6
    have y0 := (hwc.tail).cellh 0; have y1 := (hwc.tail).cellh 1; have y2 := (hwc.tail).cellh 2; simp at y0 y1 y2
    have hlk := run_lookup_map (P := Tryz.prog) (w := wc.drew) (L := Lm) (F := (b, .cells #[(Value.int .i64 c.most), (Value.int .i64 c.room), (Value.int .i64 c.tries), .pointer (some ⟨jb, 0, none⟩), (Value.int .i64 (c.used + 1)), .map (some mb), .pointer (some ⟨tb, 0, none⟩)] 74) :: (w.heap.size, .cells #[.string kind, (Value.int .i64 id), .slice a1 n.length cap1] 81) :: (Lj ++ Ll ++ Lt ++ F)) (hwc.drew.re (by intro x; simp only [cnt_append, cnt_cons, cnt_nil, List.tail_cons, World.size_alloc, World.size_setCell, World.size_drew, List.setIfInBounds_toArray, List.set_cons_zero, List.set_cons_succ] <;> omega)) hM Tryz.underlying3 Tryz.underlying71 (zeroLed _) id false
    simp only [Bool.false_eq_true, if_false] at hlk
    have hs := Hl.out wc _ (hwc.re (B := ((b, .cells #[(Value.int .i64 c.most), (Value.int .i64 c.room), (Value.int .i64 c.tries), .pointer (some ⟨jb, 0, none⟩), (Value.int .i64 (c.used + 1)), .map (some mb), .pointer (some ⟨tb, 0, none⟩)] 74) :: (w.heap.size, .cells #[.string kind, (Value.int .i64 id), .slice a1 n.length cap1] 81) :: (Lj ++ Lm ++ Ll ++ Lt)) ++ F) (by intro x; simp only [cnt_append, cnt_cons, cnt_nil, List.tail_cons, World.size_alloc, World.size_setCell, World.size_drew, List.setIfInBounds_toArray, List.set_cons_zero, List.set_cons_succ] <;> omega))
    have Hwc := Lib.hid hwc; have Hkc := Lib.hid hkc
    clear hwc hkc
    obtain ⟨g, hg⟩ : ∃ g, mget ps id = g := ⟨_, rfl⟩
    have Hg := Lib.hid hg
    rw [hg] at hlk
    clear hg
    go_upto_region 2 with fail
    go_cut [4, 5] from 13 (fun x num wx => x = .pointer (g.map fun q => ⟨q, 0, none⟩) ∧ num = (Value.int .i64 0) ∧ wx = wc.drew)
    case first =>
      cases g with
      | none =>
        simp only [Option.map_none, Option.getD_none] at hlk
        go_region
        all_goals go_wp2
        all_goals go_meet
        case rel => exact ⟨rfl, rfl, rfl⟩
      | some q =>
        simp only [Option.map_some, Option.getD_some, pV] at hlk
        go_region
        all_goals go_wp2
        all_goals go_meet
        case rel => exact ⟨rfl, rfl, rfl⟩
    case rest =>
      obtain ⟨rfl, rfl, rfl⟩ := hcut
      clear hlk
      have Hs := Lib.hid hs; have Hn := Lib.hid hn; have Hk := Lib.hid hk; have Hu := Lib.hid hu; have Hok := Lib.hid hok
      clear hs hn hk hu hok hu1 x0 x1 x2 x3 x4 x5 x6
      have hnn : ∃ num : Int, num = n.headD 0 ∧ (∀ W, SlAt W iEnc 1 (.slice a1 n.length cap1) n → 0 < n.length → ∃ b' off, a1 = some ⟨b', off, none⟩ ∧ W.cell? ⟨b', off, none⟩ = some ((Value.int .i64 num))) := by
        refine ⟨_, rfl, ?_⟩
        intro W h hp
        rcases h with ⟨_, h1⟩ | ⟨b', off, cap', h0, hcs⟩
        · subst h1; simp at hp
        · cases n with
          | nil => simp at hp
          | cons n0 nr =>
            have c0 := hcs 0 n0 rfl 0 ((Value.int .i64 n0)) rfl
            simp only [Nat.add_zero, Nat.mul_one, Nat.zero_mul] at c0
            have := (Value.slice.inj h0).1
            exact ⟨_, _, this, c0⟩
      obtain ⟨num, hnum, hnn⟩ := hnn
      have hd := hnn _ Hs.out
      obtain ⟨N, hN⟩ : ∃ N, n.length = N := ⟨_, rfl⟩
      rw [hN] at hd y2 ⊢
      have HN := Lib.hid hN; have Hnum := Lib.hid hnum
      clear hN hnn hnum
      go_upto_if 23 with fail
      go_cut [5] from 23 (fun q wx => q = (Value.int .i64 num) ∧ wx = wc.drew)
      case first =>
        by_cases h0 : 0 < N
        · obtain ⟨b', off, rfl, hca⟩ := hd h0
          have h0' : (0 : Int) < (N : Int) := by omega
          go_wp2
          go_meet
          case rel => exact ⟨rfl, rfl⟩
        · have h0' : ¬ (0 : Int) < (N : Int) := by omega
          obtain rfl : num = 0 := by
            have h1 := HN.out; have h2 := Hnum.out
            rw [h2]
            cases n with
            | nil => rfl
            | cons => simp at h1; omega
          go_wp2
          go_meet
          case rel => exact ⟨rfl, rfl⟩
      case rest =>
        obtain ⟨rfl, rfl⟩ := hcut
        have hwd : Has wc.drew ((b, .cells #[(Value.int .i64 c.most), (Value.int .i64 c.room), (Value.int .i64 c.tries), .pointer (some ⟨jb, 0, none⟩), (Value.int .i64 (c.used + 1)), .map (some mb), .pointer (some ⟨tb, 0, none⟩)] 74) :: (w.heap.size, .cells #[.string kind, (Value.int .i64 id), .slice a1 n.length cap1] 81) :: (Lj ++ Lm ++ Ll ++ Lt ++ F)) := Hwc.out.drew
        have Hwd := Lib.hid hwd
        clear hwd
        by_cases hkb : kind = bBegin
        · subst hkb
          unfold bBegin at y0 ⊢
          go_wp2_with fail
          have hok1 : c.tick.ok := ⟨Hok.out.1, Hok.out.2.1, Hok.out.2.2.1, Hok.out.2.2.2.1, Hok.out.2.2.2.2.1, fun p hp => (Hok.out.2.2.2.2.2 p hp).mono (Nat.le_succ _)⟩
          refine (begins_call b c.tick ⟨bBegin, id, n⟩ (.slice a1 N cap1) _ ((b, .cells #[(Value.int .i64 c.most), (Value.int .i64 c.room), (Value.int .i64 c.tries), pV jb, (Value.int .i64 (c.used + 1)), .map (some mb), pV tb] 74) :: (Lj ++ Lm ++ Ll ++ Lt)) F (Hwd.out.sub (by intro x; simp only [cnt_append, cnt_cons, cnt_nil, pV, List.tail_cons, World.size_alloc, World.size_setCell, World.size_drew, List.setIfInBounds_toArray, List.set_cons_zero, List.set_cons_succ] <;> omega)) ⟨hok1, jb, mb, tb, ps, Lj, Lm, Ll, Lt, rfl, hJ, hM, hL, hT⟩ (by rw [← HN.out]; exact Hl.out) Hn.out).mono ?_
          rintro r w1 ⟨rfl, L', hC, hw1, hk1⟩
          obtain ⟨ps', hQ⟩ := hC.q
          go_wp2
          refine bodyPost_end (v := .tuple #[]) (by simp [results, Tryz.results42, go_sem]) rfl ⟨rfl, L', ps', ?_, fun h => absurd rfl h, hw1, Hkc.out.drew.trans hk1⟩
          simp only [Chief.play, if_true]
          exact hQ
        · have Hkb := Lib.hid hkb
          unfold bBegin at hkb
          have c1 := kne hkb
          clear hkb
          cases g with
          | none =>
            simp only [Option.map_none]
            go_wp2
            refine bodyPost_end (v := .tuple #[]) (by simp [results, Tryz.results42, go_sem]) rfl ⟨rfl, (b, .cells #[(Value.int .i64 c.most), (Value.int .i64 c.room), (Value.int .i64 c.tries), pV jb, (Value.int .i64 (c.used + 1)), .map (some mb), pV tb] 74) :: (Lj ++ Lm ++ Ll ++ Lt), ps, ?_, fun _ => rfl, Hwd.out.sub (by intro x; simp only [cnt_append, cnt_cons, cnt_nil, pV, List.tail_cons, World.size_alloc, World.size_setCell, World.size_drew, List.setIfInBounds_toArray, List.set_cons_zero, List.set_cons_succ] <;> omega), Hkc.out.drew⟩
            have h0 := (LedsR.none hL id).1 Hg.out
            simp only [Chief.play, if_neg Hkb.out, h0]
            exact ⟨⟨Hok.out.1, Hok.out.2.1, Hok.out.2.2.1, Hok.out.2.2.2.1, Hok.out.2.2.2.2.1, fun p hp => (Hok.out.2.2.2.2.2 p hp).mono (Nat.le_succ _)⟩, jb, mb, tb, Lj, Lm, Ll, Lt, rfl, hJ, hM, hL, hT⟩
          | some q =>
            simp only [Option.map_some]
            obtain ⟨x, hx⟩ : ∃ x, mget c.l id = some x := by
              cases h : mget c.l id with
              | none => rw [(LedsR.none hL id).2 h] at Hg; cases Hg.out
              | some x => exact ⟨x, rfl⟩
            obtain ⟨q', L1, L2, hq, hX, hcnt, hput⟩ := LedsR.get hL hx
            rw [Hg.out] at hq
            cases hq
            have hsm := Hok.out.2.2.2.2.2 _ (mem_of_mget hx)
            have hwx : Has wc.drew (L1 ++ ((b, .cells #[(Value.int .i64 c.most), (Value.int .i64 c.room), (Value.int .i64 c.tries), .pointer (some ⟨jb, 0, none⟩), (Value.int .i64 (c.used + 1)), .map (some mb), .pointer (some ⟨tb, 0, none⟩)] 74) :: (w.heap.size, .cells #[.string kind, (Value.int .i64 id), .slice a1 n.length cap1] 81) :: (Lj ++ Lm ++ L2 ++ Lt ++ F))) := by
              refine Hwd.out.sub ?_
              intro y
              have := hcnt y
              simp only [cnt_append, cnt_cons, cnt_nil] at this ⊢
              omega
            have Hwx := Lib.hid hwx; have HX := Lib.hid hX; have Hput := Lib.hid hput; have Hx := Lib.hid hx; have Hcnt := Lib.hid hcnt; have HLR := Lib.hid hL
            clear hwx hX hput hx hcnt
            -- the end: the led stands as the entry says
            have hend : ∀ (w1 : World) (L1' : HL), LedR q (x.play ⟨kind, id, n⟩) L1' → Has w1 (L1' ++ ((b, .cells #[(Value.int .i64 c.most), (Value.int .i64 c.room), (Value.int .i64 c.tries), .pointer (some ⟨jb, 0, none⟩), (Value.int .i64 (c.used + 1)), .map (some mb), .pointer (some ⟨tb, 0, none⟩)] 74) :: (w.heap.size, .cells #[.string kind, (Value.int .i64 id), .slice a1 n.length cap1] 81) :: (Lj ++ Lm ++ L2 ++ Lt ++ F))) →
                ∃ L' ps', ChiefQ b (c.play ⟨kind, id, n⟩) ps' L' ∧ (kind ≠ bBegin → ps' = ps) ∧ Has w1 (L' ++ F) := by
              intro w1 L1' h1 h2
              obtain ⟨L3, f1, f2⟩ := Hput.out _ _ h1
              refine ⟨(b, .cells #[(Value.int .i64 c.most), (Value.int .i64 c.room), (Value.int .i64 c.tries), pV jb, (Value.int .i64 (c.used + 1)), .map (some mb), pV tb] 74) :: (Lj ++ Lm ++ L3 ++ Lt), ps, ?_, fun _ => rfl, ?_⟩
              · simp only [Chief.play, if_neg Hkb.out, Hx.out]
                refine ⟨⟨Hok.out.1, Hok.out.2.1, Hok.out.2.2.1, Hok.out.2.2.2.1, keys1_mput Hok.out.2.2.2.2.1 _ _, ?_⟩, jb, mb, tb, Lj, Lm, L3, Lt, rfl, hJ, hM, f1, hT⟩
                intro p hp
                rcases mput_mem hp with rfl | hp
                · exact hsm.play _
                · exact (Hok.out.2.2.2.2.2 p hp).mono (Nat.le_succ _)
              · refine h2.sub ?_
                intro y
                have := f2 y
                simp only [cnt_append, cnt_cons, cnt_nil, pV] at this ⊢
                omega
            have Hend := Lib.hid hend; have Hsm := Lib.hid hsm
            clear hend hsm hJ hM hL hT
            by_cases hks : kind = bStep ∧ n.length = 3
            · obtain ⟨rfl, hn3⟩ := hks
              obtain ⟨n0, n1, n2, rfl⟩ : ∃ n0 n1 n2, n = [n0, n1, n2] := by
                match n, hn3 with
                | [n0, n1, n2], _ => exact ⟨n0, n1, n2, rfl⟩
              obtain rfl : N = 3 := HN.out.symm
              obtain ⟨⟨oid, oit, oqt, ocl, opr, steps⟩, ⟨done, undone, asked, yes, turned, ack0, ack1, shipped, dmg0, dmg1, accepted⟩, t⟩ := x
              have hs3 := Hs.out
              obtain ⟨b', off, rfl, e1, e2⟩ : ∃ b' off, a1 = some ⟨b', off, none⟩ ∧ wc.cell? ⟨b', off + 1, none⟩ = some ((Value.int .i64 n1)) ∧ wc.cell? ⟨b', off + 2, none⟩ = some ((Value.int .i64 n2)) := by
                rcases hs3 with ⟨_, h1⟩ | ⟨b', off, cap', h0, hcs⟩
                · cases h1
                · have c1 := hcs 1 n1 rfl 0 ((Value.int .i64 n1)) rfl
                  have c2 := hcs 2 n2 rfl 0 ((Value.int .i64 n2)) rfl
                  simp only [Nat.add_zero, Nat.mul_one] at c1 c2
                  exact ⟨_, _, (Value.slice.inj h0).1, c1, c2⟩
              obtain ⟨sl, dv, uv, tp, Ls, Ld, Lu, Ly, rfl, hS, hD, hU, hT⟩ := HX.out
              obtain ⟨asl, caps, rfl⟩ := hS.val; obtain ⟨ad, capd, rfl⟩ := hD.val; obtain ⟨au, capu, rfl⟩ := hU.val
              obtain ⟨tq, rfl⟩ : ∃ q, tp = .pointer q := by
                rcases hT with ⟨_, rfl, _⟩ | ⟨b, x, rfl, _⟩
                · exact ⟨_, rfl⟩
                · exact ⟨_, rfl⟩
              have hwx := Hwx.out
              unfold Led.cells at hwx
              have hl3 : [n0, n1, n2].length = 3 := rfl
              rw [hl3] at hwx Hend
              dsimp only at hwx hS hD hU hT e1 e2
              obtain ⟨wd, hwd⟩ : ∃ wd, wd = wc.drew := ⟨_, rfl⟩
              rw [← hwd] at hwx
              have d1 : wd.cell? ⟨b', off + 1, none⟩ = some ((Value.int .i64 n1)) := by rw [hwd]; exact e1
              have d2 : wd.cell? ⟨b', off + 2, none⟩ = some ((Value.int .i64 n2)) := by rw [hwd]; exact e2
              have hkd : Kin w wd := by rw [hwd]; exact Hkc.out.drew
              have hwz : Has wd ((q, .cells #[(Value.int .i64 oid), (Value.int .i64 oit), (Value.int .i64 oqt), (Value.int .i64 ocl), (Value.int .i64 opr), .slice asl steps.length caps, .slice ad done.length capd, .slice au undone.length capu, .bool asked, .bool yes, .bool turned, .bool ack0, .bool ack1, .bool shipped, .bool dmg0, .bool dmg1, .bool accepted, .pointer tq] 78) :: (b, .cells #[(Value.int .i64 c.most), (Value.int .i64 c.room), (Value.int .i64 c.tries), .pointer (some ⟨jb, 0, none⟩), (Value.int .i64 (c.used + 1)), .map (some mb), .pointer (some ⟨tb, 0, none⟩)] 74) :: (w.heap.size, .cells #[.string bStep, (Value.int .i64 id), .slice (some ⟨b', off, none⟩) 3 cap1] 81) :: (Ls ++ Ld ++ Lu ++ Ly ++ Lj ++ Lm ++ L2 ++ Lt ++ F)) := hwx.sub (by intro x; simp only [cnt_append, cnt_cons, cnt_nil, List.tail_cons, World.size_alloc, World.size_setCell, World.size_drew, List.setIfInBounds_toArray, List.set_cons_zero, List.set_cons_succ] <;> omega)
              rw [← hwd]
              have Hkd := Lib.hid hkd; have Hwz := Lib.hid hwz
              have p0 := hwz.lth; have p1 := hwz.tail.lth; have p2 := hwz.tail.tail.lth
              have x0 := (hwz).cellh 0; have x1 := (hwz).cellh 1; have x2 := (hwz).cellh 2; have x3 := (hwz).cellh 3; have x4 := (hwz).cellh 4; have x5 := (hwz).cellh 5; have x6 := (hwz).cellh 6; have x7 := (hwz).cellh 7; have x8 := (hwz).cellh 8; have x9 := (hwz).cellh 9; have x10 := (hwz).cellh 10; have x11 := (hwz).cellh 11; have x12 := (hwz).cellh 12; have x13 := (hwz).cellh 13; have x14 := (hwz).cellh 14; have x15 := (hwz).cellh 15; have x16 := (hwz).cellh 16; have x17 := (hwz).cellh 17; simp at x0 x1 x2 x3 x4 x5 x6 x7 x8 x9 x10 x11 x12 x13 x14 x15 x16 x17
              have z0 := (hwz.tail.tail).cellh 0; have z1 := (hwz.tail.tail).cellh 1; have z2 := (hwz.tail.tail).cellh 2; simp at z0 z1 z2
              clear hs3 hwx hwd e1 e2 y0 y1 y2 q0 q1 hkd hwz Hwx Hwc Hwd H1 Hs HX Hk hd
              have Hend1 := Hend
              clear Hend
              unfold bStep at z0 ⊢
              go_upto_region 10 with fail
              go_cut [5] from 53 (fun _ wx => ∃ sl L1', SlR Step.enc 2 42 sl (steps ++ [⟨n1, n2⟩]) L1' ∧ Has wx ((q, .cells #[(Value.int .i64 oid), (Value.int .i64 oit), (Value.int .i64 oqt), (Value.int .i64 ocl), (Value.int .i64 opr), sl, .slice ad done.length capd, .slice au undone.length capu, .bool asked, .bool yes, .bool turned, .bool ack0, .bool ack1, .bool shipped, .bool dmg0, .bool dmg1, .bool accepted, .pointer tq] 78) :: (b, .cells #[(Value.int .i64 c.most), (Value.int .i64 c.room), (Value.int .i64 c.tries), .pointer (some ⟨jb, 0, none⟩), (Value.int .i64 (c.used + 1)), .map (some mb), .pointer (some ⟨tb, 0, none⟩)] 74) :: (w.heap.size, .cells #[.string bStep, (Value.int .i64 id), .slice (some ⟨b', off, none⟩) 3 cap1] 81) :: (L1' ++ Ld ++ Lu ++ Ly ++ Lj ++ Lm ++ L2 ++ Lt ++ F)) ∧ Kin w wx)
              case first =>
                clear hn3 hl3
                have nq : q ≠ w.heap.size := Ne.symm (Hwz.out.ne (x := (w.heap.size, .cells #[.string bStep, (Value.int .i64 id), .slice (some ⟨b', off, none⟩) 3 cap1] 81)) (.tail _ (.head _)))
                refine wp_region_G 17 (fun wx => wx.cell? ⟨q, 5, none⟩ = some (.slice asl steps.length caps) ∧ wx.cell? ⟨w.heap.size, 2, none⟩ = some (.slice (some ⟨b', off, none⟩) 3 cap1) ∧ wx.cell? ⟨b', off + 1, none⟩ = some ((Value.int .i64 n1)) ∧ wx.cell? ⟨b', off + 2, none⟩ = some ((Value.int .i64 n2))) (by kernel_rfl) ⟨x5, z2, d1, d2⟩ (fun HS => ?_)
                (refine wpAnyG_takeW (i := 0) (v := ?gv8) rfl (by kernel_rfl) (by kernel_rfl) (by kernel_rfl) (by kernel_rfl) (fun _ _ _ h => h) HS (Or.inl ⟨by rfl, ?ghy8⟩) ?grest8; case ghy8 => ((intro w hSw; go_simp); try with_reducible rfl); try simp only [Act.put, List.setIfInBounds_toArray, List.set_cons_zero, List.set_cons_succ])
                (refine wpAnyG_takeW (i := 1) (v := ?gv9) rfl (by kernel_rfl) (by kernel_rfl) (by kernel_rfl) (by kernel_rfl) (fun _ _ _ h => h) HS (Or.inl ⟨by rfl, ?ghy9⟩) ?grest9; case ghy9 => ((intro w hSw; go_simp); try with_reducible rfl); try simp only [Act.put, List.setIfInBounds_toArray, List.set_cons_zero, List.set_cons_succ])
                (refine wpAnyG_takeW (i := 2) (v := ?gv10) rfl (by kernel_rfl) (by kernel_rfl) (by kernel_rfl) (by kernel_rfl) (fun _ _ _ h => h) HS (Or.inl ⟨by rfl, ?ghy10⟩) ?grest10; case ghy10 => ((intro w hSw; go_simp); try with_reducible rfl); try simp only [Act.put, List.setIfInBounds_toArray, List.set_cons_zero, List.set_cons_succ])
                (refine wpAnyG_takeW (i := 3) (v := ?gv11) rfl (by kernel_rfl) (by kernel_rfl) (by kernel_rfl) (by kernel_rfl) (fun _ _ _ h => h) HS (Or.inl ⟨by rfl, ?ghy11⟩) ?grest11; case ghy11 => ((intro w hSw; go_simp); try with_reducible rfl); try simp only [Act.put, List.setIfInBounds_toArray, List.set_cons_zero, List.set_cons_succ])
                (refine wpAnyG_takeW (i := 4) (v := ?gv12) rfl (by kernel_rfl) (by kernel_rfl) (by kernel_rfl) (by kernel_rfl) (fun _ _ _ h => h) HS (Or.inl ⟨by rfl, ?ghy12⟩) ?grest12; case ghy12 => ((intro w hSw; go_simp); try with_reducible rfl); try simp only [Act.put, List.setIfInBounds_toArray, List.set_cons_zero, List.set_cons_succ])
                (refine wpAnyG_takeW (i := 6) (v := ?gv13) rfl (by kernel_rfl) (by kernel_rfl) (by kernel_rfl) (by kernel_rfl) (fun _ _ _ h => h) HS (Or.inl ⟨by rfl, ?ghy13⟩) ?grest13; case ghy13 => ((intro w hSw; go_simp); try with_reducible rfl); try simp only [Act.put, List.setIfInBounds_toArray, List.set_cons_zero, List.set_cons_succ])
                (refine wpAnyG_takeW (i := 10) (v := ?gv14) rfl (by kernel_rfl) (by kernel_rfl) (by kernel_rfl) (by kernel_rfl) (fun _ _ _ h => h) HS (Or.inl ⟨by rfl, ?ghy14⟩) ?grest14; case ghy14 => ((intro w hSw; go_simp); try with_reducible rfl); try simp only [Act.put, List.setIfInBounds_toArray, List.set_cons_zero, List.set_cons_succ])
                (refine wpAnyG_takeL (i := 5) (v := ?gv1) rfl (by kernel_rfl) (by kernel_rfl) (by kernel_rfl) (by kernel_rfl) (by kernel_rfl) (fun _ _ _ h => h) HS (Or.inl ⟨by rfl, ?ghy1⟩) ?grest1; case ghy1 => ((intro w hSw; (try dsimp only at hSw); go_simp); try with_reducible rfl); try simp only [Act.put, List.setIfInBounds_toArray, List.set_cons_zero, List.set_cons_succ])
                (refine wpAnyG_takeL (i := 7) (v := ?gv2) rfl (by kernel_rfl) (by kernel_rfl) (by kernel_rfl) (by kernel_rfl) (by kernel_rfl) (fun _ _ _ h => h) HS (Or.inl ⟨by rfl, ?ghy2⟩) ?grest2; case ghy2 => ((intro w hSw; (try dsimp only at hSw); go_simp); try with_reducible rfl); try simp only [Act.put, List.setIfInBounds_toArray, List.set_cons_zero, List.set_cons_succ])
                (refine wpAnyG_takeW (i := 8) (v := ?gv15) rfl (by kernel_rfl) (by kernel_rfl) (by kernel_rfl) (by kernel_rfl) (fun _ _ _ h => h) HS (Or.inl ⟨by rfl, ?ghy15⟩) ?grest15; case ghy15 => ((intro w hSw; go_simp); try with_reducible rfl); try simp only [Act.put, List.setIfInBounds_toArray, List.set_cons_zero, List.set_cons_succ])
                (refine wpAnyG_takeL (i := 9) (v := ?gv3) rfl (by kernel_rfl) (by kernel_rfl) (by kernel_rfl) (by kernel_rfl) (by kernel_rfl) (fun _ _ _ h => h) HS (Or.inl ⟨by rfl, ?ghy3⟩) ?grest3; case ghy3 => ((intro w hSw; (try dsimp only at hSw); go_simp); try with_reducible rfl); try simp only [Act.put, List.setIfInBounds_toArray, List.set_cons_zero, List.set_cons_succ])
                (refine wpAnyG_takeL (i := 11) (v := ?gv4) rfl (by kernel_rfl) (by kernel_rfl) (by kernel_rfl) (by kernel_rfl) (by kernel_rfl) (fun _ _ _ h => h) HS (Or.inl ⟨by rfl, ?ghy4⟩) ?grest4; case ghy4 => ((intro w hSw; (try dsimp only at hSw); go_simp); try with_reducible rfl); try simp only [Act.put, List.setIfInBounds_toArray, List.set_cons_zero, List.set_cons_succ])
                (refine wpAnyG_takeW (i := 12) (v := ?gv16) rfl (by kernel_rfl) (by kernel_rfl) (by kernel_rfl) (by kernel_rfl) (fun _ _ _ h => h) HS (Or.inl ⟨by rfl, ?ghy16⟩) ?grest16; case ghy16 => ((intro w hSw; go_simp); try with_reducible rfl); try simp only [Act.put, List.setIfInBounds_toArray, List.set_cons_zero, List.set_cons_succ])
                (refine wpAnyG_takeL (i := 13) (v := ?gv5) rfl (by kernel_rfl) (by kernel_rfl) (by kernel_rfl) (by kernel_rfl) (by kernel_rfl) (fun _ _ _ h => h) HS (Or.inl ⟨by rfl, ?ghy5⟩) ?grest5; case ghy5 => ((intro w hSw; (try dsimp only at hSw); go_simp); try with_reducible rfl); try simp only [Act.put, List.setIfInBounds_toArray, List.set_cons_zero, List.set_cons_succ])
                (refine wpAnyG_takeW (i := 14) (v := ?gv17) rfl (by kernel_rfl) (by kernel_rfl) (by kernel_rfl) (by kernel_rfl) (fun _ _ _ h => h) HS (Or.inl ⟨by rfl, ?ghy17⟩) ?grest17; case ghy17 => ((intro w hSw; go_simp); try with_reducible rfl); try simp only [Act.put, List.setIfInBounds_toArray, List.set_cons_zero, List.set_cons_succ])
                refine wpAnyG_oneL (i := 15) rfl (by kernel_rfl) (fun K hK => ?_)
                go_simp
                have HS2 : Hid (Has (wd.drew.alloc (.cells #[(Value.int .i64 n1), (Value.int .i64 n2)] 42)) ((wd.heap.size, .cells #[(Value.int .i64 n1), (Value.int .i64 n2)] 42) :: (q, .cells #[(Value.int .i64 oid), (Value.int .i64 oit), (Value.int .i64 oqt), (Value.int .i64 ocl), (Value.int .i64 opr), .slice asl steps.length caps, .slice ad done.length capd, .slice au undone.length capu, .bool asked, .bool yes, .bool turned, .bool ack0, .bool ack1, .bool shipped, .bool dmg0, .bool dmg1, .bool accepted, .pointer tq] 78) :: (b, .cells #[(Value.int .i64 c.most), (Value.int .i64 c.room), (Value.int .i64 c.tries), .pointer (some ⟨jb, 0, none⟩), (Value.int .i64 (c.used + 1)), .map (some mb), .pointer (some ⟨tb, 0, none⟩)] 74) :: (w.heap.size, .cells #[.string bStep, (Value.int .i64 id), .slice (some ⟨b', off, none⟩) 3 cap1] 81) :: (Ls ++ Ld ++ Lu ++ Ly ++ Lj ++ Lm ++ L2 ++ Lt ++ F))) := Lib.hid (Hwz.out.drew.alloc (.cells #[(Value.int .i64 n1), (Value.int .i64 n2)] 42))
                have m1 : (wd.drew.alloc (.cells #[(Value.int .i64 n1), (Value.int .i64 n2)] 42)).cell? ⟨q, 5, none⟩ = some (.slice asl steps.length caps) := cell_alloc_keep _ x5
                have m2 : (wd.drew.alloc (.cells #[(Value.int .i64 n1), (Value.int .i64 n2)] 42)).cell? ⟨w.heap.size, 2, none⟩ = some (.slice (some ⟨b', off, none⟩) 3 cap1) := cell_alloc_keep _ z2
                have m3 : (wd.drew.alloc (.cells #[(Value.int .i64 n1), (Value.int .i64 n2)] 42)).cell? ⟨b', off + 1, none⟩ = some ((Value.int .i64 n1)) := cell_alloc_keep _ d1
                have m4 : (wd.drew.alloc (.cells #[(Value.int .i64 n1), (Value.int .i64 n2)] 42)).cell? ⟨b', off + 2, none⟩ = some ((Value.int .i64 n2)) := cell_alloc_keep _ d2
                refine hK.out _ _ ⟨m1, m2, m3, m4⟩ ?_
                clear hK K
                refine wpAnyG_oneL (i := 16) rfl (by kernel_rfl) (fun K hK => ?_)
                rw [if_pos (by rfl)]
                refine owp_append_has _ _ _ rfl encStep elem_step (news := [⟨n1, n2⟩]) rfl rfl hS (F := (wd.heap.size, .cells #[(Value.int .i64 n1), (Value.int .i64 n2)] 42) :: (q, .cells #[(Value.int .i64 oid), (Value.int .i64 oit), (Value.int .i64 oqt), (Value.int .i64 ocl), (Value.int .i64 opr), .slice asl steps.length caps, .slice ad done.length capd, .slice au undone.length capu, .bool asked, .bool yes, .bool turned, .bool ack0, .bool ack1, .bool shipped, .bool dmg0, .bool dmg1, .bool accepted, .pointer tq] 78) :: (b, .cells #[(Value.int .i64 c.most), (Value.int .i64 c.room), (Value.int .i64 c.tries), .pointer (some ⟨jb, 0, none⟩), (Value.int .i64 (c.used + 1)), .map (some mb), .pointer (some ⟨tb, 0, none⟩)] 74) :: (w.heap.size, .cells #[.string bStep, (Value.int .i64 id), .slice (some ⟨b', off, none⟩) 3 cap1] 81) :: (Ld ++ Lu ++ Ly ++ Lj ++ Lm ++ L2 ++ Lt ++ F)) (HS2.out.sub (by intro x; simp only [cnt_append, cnt_cons, cnt_nil, List.tail_cons, World.size_alloc, World.size_setCell, World.size_drew, List.setIfInBounds_toArray, List.set_cons_zero, List.set_cons_succ] <;> omega)) (step_at ⟨n1, n2⟩ HS2.out) (by have := Hsm.out.1; have := Hu.out; dsimp only at *; simp; omega) ?_
                intro v' w1 L1 hR1 hw1 hk1
                obtain ⟨a3, cap3, rfl⟩ := hR1.val
                have hHs := hw1.sub (B := (q, .cells #[(Value.int .i64 oid), (Value.int .i64 oit), (Value.int .i64 oqt), (Value.int .i64 ocl), (Value.int .i64 opr), .slice asl steps.length caps, .slice ad done.length capd, .slice au undone.length capu, .bool asked, .bool yes, .bool turned, .bool ack0, .bool ack1, .bool shipped, .bool dmg0, .bool dmg1, .bool accepted, .pointer tq] 78) :: (b, .cells #[(Value.int .i64 c.most), (Value.int .i64 c.room), (Value.int .i64 c.tries), .pointer (some ⟨jb, 0, none⟩), (Value.int .i64 (c.used + 1)), .map (some mb), .pointer (some ⟨tb, 0, none⟩)] 74) :: (w.heap.size, .cells #[.string bStep, (Value.int .i64 id), .slice (some ⟨b', off, none⟩) 3 cap1] 81) :: (L1 ++ Ld ++ Lu ++ Ly ++ Lj ++ Lm ++ L2 ++ Lt ++ F)) (by intro x; simp only [cnt_append, cnt_cons, cnt_nil, List.tail_cons, World.size_alloc, World.size_setCell, World.size_drew, List.setIfInBounds_toArray, List.set_cons_zero, List.set_cons_succ] <;> omega)
                have pq := hHs.lth; have fq := hHs.freeh 5
                have y0 := (hHs).cellh 0; have y1 := (hHs).cellh 1; have y2 := (hHs).cellh 2; have y3 := (hHs).cellh 3; have y4 := (hHs).cellh 4; have y5 := (hHs).cellh 5; have y6 := (hHs).cellh 6; have y7 := (hHs).cellh 7; have y8 := (hHs).cellh 8; have y9 := (hHs).cellh 9; have y10 := (hHs).cellh 10; have y11 := (hHs).cellh 11; have y12 := (hHs).cellh 12; have y13 := (hHs).cellh 13; have y14 := (hHs).cellh 14; have y15 := (hHs).cellh 15; have y16 := (hHs).cellh 16; have y17 := (hHs).cellh 17; simp at y0 y1 y2 y3 y4 y5 y6 y7 y8 y9 y10 y11 y12 y13 y14 y15 y16 y17
                have t0 := (hHs.third).cellh 0; have t1 := (hHs.third).cellh 1; have t2 := (hHs.third).cellh 2; simp at t0 t1 t2
                obtain ⟨s1, s2⟩ := three_at (Hl.out w1 _ (hw1.sub (B := L1 ++ F) (by intro x; simp only [cnt_append, cnt_cons, cnt_nil, List.tail_cons, World.size_alloc, World.size_setCell, World.size_drew, List.setIfInBounds_toArray, List.set_cons_zero, List.set_cons_succ] <;> omega)))
                refine hK.out _ _ ⟨y5, t2, s1, s2⟩ ?_
                clear hK K
                refine wpAnyG_tail 17 rfl (by kernel_rfl) (.inr rfl) ?_
                simp only [List.drop_succ_cons, List.drop_zero]
                go_wp2
                go_meet
                case rel =>
                  exact ⟨_, L1, hR1, by simpa using hHs.setCell 5 (.slice a3 (steps ++ [(⟨n1, n2⟩ : Step)]).length cap3), ((Hkd.out.drew.alloc _).trans hk1).setCell _ _⟩
              case rest =>
                obtain ⟨sl, L1, hR1, hx1, hk1⟩ := hcut
                obtain ⟨a4, cap4, rfl⟩ := hR1.val
                have HX1 := Lib.hid hx1; have HK1 := Lib.hid hk1
                have y0 := (hx1).cellh 0; have y1 := (hx1).cellh 1; have y2 := (hx1).cellh 2; have y3 := (hx1).cellh 3; have y4 := (hx1).cellh 4; have y5 := (hx1).cellh 5; have y6 := (hx1).cellh 6; have y7 := (hx1).cellh 7; have y8 := (hx1).cellh 8; have y9 := (hx1).cellh 9; have y10 := (hx1).cellh 10; have y11 := (hx1).cellh 11; have y12 := (hx1).cellh 12; have y13 := (hx1).cellh 13; have y14 := (hx1).cellh 14; have y15 := (hx1).cellh 15; have y16 := (hx1).cellh 16; have y17 := (hx1).cellh 17; simp at y0 y1 y2 y3 y4 y5 y6 y7 y8 y9 y10 y11 y12 y13 y14 y15 y16 y17
                have q0 := hx1.lth
                clear hx1 hk1 x0 x1 x2 x3 x4 x5 x6 x7 x8 x9 x10 x11 x12 x13 x14 x15 x16 x17 z0 z1 z2 d1 d2 Hwz hS
                -- a bool in a block of its own, behind any world; an append to done, and to undone
                go_upto_region 11 with fail
                refine wp_region_G 16 (fun wx => wx.cell? ⟨q, 6, none⟩ = some (.slice ad done.length capd) ∧ wx.cell? ⟨q, 7, none⟩ = some (.slice au undone.length capu)) (by kernel_rfl) ⟨y6, y7⟩ (fun HS => ?_)
                (refine wpAnyG_takeW (i := 0) (v := ?gv18) rfl (by kernel_rfl) (by kernel_rfl) (by kernel_rfl) (by kernel_rfl) (fun _ _ _ h => h) HS (Or.inl ⟨by rfl, ?ghy18⟩) ?grest18; case ghy18 => ((intro w hSw; go_simp); try with_reducible rfl); try simp only [Act.put, List.setIfInBounds_toArray, List.set_cons_zero, List.set_cons_succ])
                (refine wpAnyG_takeW (i := 1) (v := ?gv19) rfl (by kernel_rfl) (by kernel_rfl) (by kernel_rfl) (by kernel_rfl) (fun _ _ _ h => h) HS (Or.inl ⟨by rfl, ?ghy19⟩) ?grest19; case ghy19 => ((intro w hSw; go_simp); try with_reducible rfl); try simp only [Act.put, List.setIfInBounds_toArray, List.set_cons_zero, List.set_cons_succ])
                (refine wpAnyG_takeW (i := 2) (v := ?gv20) rfl (by kernel_rfl) (by kernel_rfl) (by kernel_rfl) (by kernel_rfl) (fun _ _ _ h => h) HS (Or.inl ⟨by rfl, ?ghy20⟩) ?grest20; case ghy20 => ((intro w hSw; go_simp); try with_reducible rfl); try simp only [Act.put, List.setIfInBounds_toArray, List.set_cons_zero, List.set_cons_succ])
                (refine wpAnyG_takeW (i := 3) (v := ?gv21) rfl (by kernel_rfl) (by kernel_rfl) (by kernel_rfl) (by kernel_rfl) (fun _ _ _ h => h) HS (Or.inl ⟨by rfl, ?ghy21⟩) ?grest21; case ghy21 => ((intro w hSw; go_simp); try with_reducible rfl); try simp only [Act.put, List.setIfInBounds_toArray, List.set_cons_zero, List.set_cons_succ])
                (refine wpAnyG_takeW (i := 4) (v := ?gv22) rfl (by kernel_rfl) (by kernel_rfl) (by kernel_rfl) (by kernel_rfl) (fun _ _ _ h => h) HS (Or.inl ⟨by rfl, ?ghy22⟩) ?grest22; case ghy22 => ((intro w hSw; go_simp); try with_reducible rfl); try simp only [Act.put, List.setIfInBounds_toArray, List.set_cons_zero, List.set_cons_succ])
                (refine wpAnyG_takeW (i := 5) (v := ?gv23) rfl (by kernel_rfl) (by kernel_rfl) (by kernel_rfl) (by kernel_rfl) (fun _ _ _ h => h) HS (Or.inl ⟨by rfl, ?ghy23⟩) ?grest23; case ghy23 => ((intro w hSw; go_simp); try with_reducible rfl); try simp only [Act.put, List.setIfInBounds_toArray, List.set_cons_zero, List.set_cons_succ])
                (refine wpAnyG_takeW (i := 9) (v := ?gv24) rfl (by kernel_rfl) (by kernel_rfl) (by kernel_rfl) (by kernel_rfl) (fun _ _ _ h => h) HS (Or.inl ⟨by rfl, ?ghy24⟩) ?grest24; case ghy24 => ((intro w hSw; go_simp); try with_reducible rfl); try simp only [Act.put, List.setIfInBounds_toArray, List.set_cons_zero, List.set_cons_succ])
                (refine wpAnyG_takeW (i := 10) (v := ?gv25) rfl (by kernel_rfl) (by kernel_rfl) (by kernel_rfl) (by kernel_rfl) (fun _ _ _ h => h) HS (Or.inl ⟨by rfl, ?ghy25⟩) ?grest25; case ghy25 => ((intro w hSw; go_simp); try with_reducible rfl); try simp only [Act.put, List.setIfInBounds_toArray, List.set_cons_zero, List.set_cons_succ])
                (refine wpAnyG_takeW (i := 11) (v := ?gv26) rfl (by kernel_rfl) (by kernel_rfl) (by kernel_rfl) (by kernel_rfl) (fun _ _ _ h => h) HS (Or.inl ⟨by rfl, ?ghy26⟩) ?grest26; case ghy26 => ((intro w hSw; go_simp); try with_reducible rfl); try simp only [Act.put, List.setIfInBounds_toArray, List.set_cons_zero, List.set_cons_succ])
                (refine wpAnyG_takeW (i := 12) (v := ?gv27) rfl (by kernel_rfl) (by kernel_rfl) (by kernel_rfl) (by kernel_rfl) (fun _ _ _ h => h) HS (Or.inl ⟨by rfl, ?ghy27⟩) ?grest27; case ghy27 => ((intro w hSw; go_simp); try with_reducible rfl); try simp only [Act.put, List.setIfInBounds_toArray, List.set_cons_zero, List.set_cons_succ])
                (refine wpAnyG_takeL (i := 6) (v := ?gv6) rfl (by kernel_rfl) (by kernel_rfl) (by kernel_rfl) (by kernel_rfl) (by kernel_rfl) (fun _ _ _ h => h) HS (Or.inl ⟨by rfl, ?ghy6⟩) ?grest6; case ghy6 => ((intro w hSw; (try dsimp only at hSw); go_simp); try with_reducible rfl); try simp only [Act.put, List.setIfInBounds_toArray, List.set_cons_zero, List.set_cons_succ])
                (refine wpAnyG_takeL (i := 13) (v := ?gv7) rfl (by kernel_rfl) (by kernel_rfl) (by kernel_rfl) (by kernel_rfl) (by kernel_rfl) (fun _ _ _ h => h) HS (Or.inl ⟨by rfl, ?ghy7⟩) ?grest7; case ghy7 => ((intro w hSw; (try dsimp only at hSw); go_simp); try with_reducible rfl); try simp only [Act.put, List.setIfInBounds_toArray, List.set_cons_zero, List.set_cons_succ])
                have hplay : (⟨⟨oid, oit, oqt, ocl, opr, steps⟩, ⟨done, undone, asked, yes, turned, ack0, ack1, shipped, dmg0, dmg1, accepted⟩, t⟩ : Led).play ⟨bStep, id, [n0, n1, n2]⟩ = ⟨⟨oid, oit, oqt, ocl, opr, steps ++ [⟨n1, n2⟩]⟩, ⟨done ++ [false], undone ++ [false], asked, yes, turned, ack0, ack1, shipped, dmg0, dmg1, accepted⟩, t⟩ := by
                  simp [Led.play, Led.step]
                have HA := Lib.hid (HX1.out.drew.alloc (.cells #[.bool false] 4))
                have HAA := Lib.hid ((HX1.out.drew.alloc (.cells #[.bool false] 4)).alloc (.cells #[.bool false] 4))
                refine wpAnyG_twoL (i := 7) (k := 14) rfl rfl (by kernel_rfl) (fun K hK => ?_) (fun K hK => ?_)
                · go_simp
                  refine hK.out _ _ ⟨cell_alloc_keep _ y6, cell_alloc_keep _ y7⟩ ?_
                  clear hK K
                  refine wpAnyG_twoL (i := 8) (k := 14) rfl rfl (by kernel_rfl) (fun K hK => ?_) (fun K hK => ?_)
                  · rw [if_pos (by rfl)]
                    refine owp_append_has _ _ _ rfl encB elem_bool (news := [false]) rfl rfl hD (F := (wc.heap.size, .cells #[.bool false] 4) :: (q, .cells #[(Value.int .i64 oid), (Value.int .i64 oit), (Value.int .i64 oqt), (Value.int .i64 ocl), (Value.int .i64 opr), .slice a4 (steps ++ [(⟨n1, n2⟩ : Step)]).length cap4, .slice ad done.length capd, .slice au undone.length capu, .bool asked, .bool yes, .bool turned, .bool ack0, .bool ack1, .bool shipped, .bool dmg0, .bool dmg1, .bool accepted, .pointer tq] 78) :: (b, .cells #[(Value.int .i64 c.most), (Value.int .i64 c.room), (Value.int .i64 c.tries), .pointer (some ⟨jb, 0, none⟩), (Value.int .i64 (c.used + 1)), .map (some mb), .pointer (some ⟨tb, 0, none⟩)] 74) :: (w.heap.size, .cells #[.string bStep, (Value.int .i64 id), .slice (some ⟨b', off, none⟩) 3 cap1] 81) :: (L1 ++ Lu ++ Ly ++ Lj ++ Lm ++ L2 ++ Lt ++ F)) ((HA.out).sub (by intro x; simp only [cnt_append, cnt_cons, cnt_nil, List.tail_cons, World.size_alloc, World.size_setCell, World.size_drew, List.setIfInBounds_toArray, List.set_cons_zero, List.set_cons_succ] <;> omega)) (bool_at false (HA.out)) (by have := Hsm.out.2.1; have := Hu.out; dsimp only at *; simp; omega) ?_
                    intro v2 w2 M2 hR2 hw2 hk2
                    obtain ⟨a5, cap5, rfl⟩ := hR2.val
                    have hH2 := hw2.sub (B := (q, .cells #[(Value.int .i64 oid), (Value.int .i64 oit), (Value.int .i64 oqt), (Value.int .i64 ocl), (Value.int .i64 opr), .slice a4 (steps ++ [(⟨n1, n2⟩ : Step)]).length cap4, .slice ad done.length capd, .slice au undone.length capu, .bool asked, .bool yes, .bool turned, .bool ack0, .bool ack1, .bool shipped, .bool dmg0, .bool dmg1, .bool accepted, .pointer tq] 78) :: (b, .cells #[(Value.int .i64 c.most), (Value.int .i64 c.room), (Value.int .i64 c.tries), .pointer (some ⟨jb, 0, none⟩), (Value.int .i64 (c.used + 1)), .map (some mb), .pointer (some ⟨tb, 0, none⟩)] 74) :: (w.heap.size, .cells #[.string bStep, (Value.int .i64 id), .slice (some ⟨b', off, none⟩) 3 cap1] 81) :: (M2 ++ L1 ++ Lu ++ Ly ++ Lj ++ Lm ++ L2 ++ Lt ++ F)) (by intro x; simp only [cnt_append, cnt_cons, cnt_nil, List.tail_cons, World.size_alloc, World.size_setCell, World.size_drew, List.setIfInBounds_toArray, List.set_cons_zero, List.set_cons_succ] <;> omega)
                    have p0 := (hH2).cellh 0; have p1 := (hH2).cellh 1; have p2 := (hH2).cellh 2; have p3 := (hH2).cellh 3; have p4 := (hH2).cellh 4; have p5 := (hH2).cellh 5; have p6 := (hH2).cellh 6; have p7 := (hH2).cellh 7; have p8 := (hH2).cellh 8; have p9 := (hH2).cellh 9; have p10 := (hH2).cellh 10; have p11 := (hH2).cellh 11; have p12 := (hH2).cellh 12; have p13 := (hH2).cellh 13; have p14 := (hH2).cellh 14; have p15 := (hH2).cellh 15; have p16 := (hH2).cellh 16; have p17 := (hH2).cellh 17; simp at p0 p1 p2 p3 p4 p5 p6 p7 p8 p9 p10 p11 p12 p13 p14 p15 p16 p17
                    refine hK.out _ _ ⟨p6, p7⟩ ?_
                    clear hK K
                    refine wpAnyG_oneL (i := 14) rfl (by kernel_rfl) (fun K hK => ?_)
                    go_simp
                    refine hK.out _ _ ⟨cell_alloc_keep _ p6, cell_alloc_keep _ p7⟩ ?_
                    clear hK K
                    have HB := Lib.hid (hw2.alloc (.cells #[.bool false] 4))
                    refine wpAnyG_oneL (i := 15) rfl (by kernel_rfl) (fun K hK => ?_)
                    rw [if_pos (by rfl)]
                    refine owp_append_has _ _ _ rfl encB elem_bool (news := [false]) rfl rfl hU (F := (w2.heap.size, .cells #[.bool false] 4) :: (wc.heap.size, .cells #[.bool false] 4) :: (q, .cells #[(Value.int .i64 oid), (Value.int .i64 oit), (Value.int .i64 oqt), (Value.int .i64 ocl), (Value.int .i64 opr), .slice a4 (steps ++ [(⟨n1, n2⟩ : Step)]).length cap4, .slice ad done.length capd, .slice au undone.length capu, .bool asked, .bool yes, .bool turned, .bool ack0, .bool ack1, .bool shipped, .bool dmg0, .bool dmg1, .bool accepted, .pointer tq] 78) :: (b, .cells #[(Value.int .i64 c.most), (Value.int .i64 c.room), (Value.int .i64 c.tries), .pointer (some ⟨jb, 0, none⟩), (Value.int .i64 (c.used + 1)), .map (some mb), .pointer (some ⟨tb, 0, none⟩)] 74) :: (w.heap.size, .cells #[.string bStep, (Value.int .i64 id), .slice (some ⟨b', off, none⟩) 3 cap1] 81) :: (M2 ++ L1 ++ Ly ++ Lj ++ Lm ++ L2 ++ Lt ++ F)) ((HB.out).sub (by intro x; simp only [cnt_append, cnt_cons, cnt_nil, List.tail_cons, World.size_alloc, World.size_setCell, World.size_drew, List.setIfInBounds_toArray, List.set_cons_zero, List.set_cons_succ] <;> omega)) (bool_at false (HB.out)) (by have := Hsm.out.2.2; have := Hu.out; dsimp only at *; simp; omega) ?_
                    intro v3 w3 M3 hR3 hw3 hk3
                    obtain ⟨a6, cap6, rfl⟩ := hR3.val
                    have hH3 := hw3.sub (B := (q, .cells #[(Value.int .i64 oid), (Value.int .i64 oit), (Value.int .i64 oqt), (Value.int .i64 ocl), (Value.int .i64 opr), .slice a4 (steps ++ [(⟨n1, n2⟩ : Step)]).length cap4, .slice ad done.length capd, .slice au undone.length capu, .bool asked, .bool yes, .bool turned, .bool ack0, .bool ack1, .bool shipped, .bool dmg0, .bool dmg1, .bool accepted, .pointer tq] 78) :: (b, .cells #[(Value.int .i64 c.most), (Value.int .i64 c.room), (Value.int .i64 c.tries), .pointer (some ⟨jb, 0, none⟩), (Value.int .i64 (c.used + 1)), .map (some mb), .pointer (some ⟨tb, 0, none⟩)] 74) :: (w.heap.size, .cells #[.string bStep, (Value.int .i64 id), .slice (some ⟨b', off, none⟩) 3 cap1] 81) :: (M3 ++ M2 ++ L1 ++ Ly ++ Lj ++ Lm ++ L2 ++ Lt ++ F)) (by intro x; simp only [cnt_append, cnt_cons, cnt_nil, List.tail_cons, World.size_alloc, World.size_setCell, World.size_drew, List.setIfInBounds_toArray, List.set_cons_zero, List.set_cons_succ] <;> omega)
                    have r0 := hH3.lth
                    have r0 := (hH3).cellh 0; have r1 := (hH3).cellh 1; have r2 := (hH3).cellh 2; have r3 := (hH3).cellh 3; have r4 := (hH3).cellh 4; have r5 := (hH3).cellh 5; have r6 := (hH3).cellh 6; have r7 := (hH3).cellh 7; have r8 := (hH3).cellh 8; have r9 := (hH3).cellh 9; have r10 := (hH3).cellh 10; have r11 := (hH3).cellh 11; have r12 := (hH3).cellh 12; have r13 := (hH3).cellh 13; have r14 := (hH3).cellh 14; have r15 := (hH3).cellh 15; have r16 := (hH3).cellh 16; have r17 := (hH3).cellh 17; simp at r0 r1 r2 r3 r4 r5 r6 r7 r8 r9 r10 r11 r12 r13 r14 r15 r16 r17
                    have f0 := (hH3).freeh 0; have f1 := (hH3).freeh 1; have f2 := (hH3).freeh 2; have f3 := (hH3).freeh 3; have f4 := (hH3).freeh 4; have f5 := (hH3).freeh 5; have f6 := (hH3).freeh 6; have f7 := (hH3).freeh 7; have f8 := (hH3).freeh 8; have f9 := (hH3).freeh 9; have f10 := (hH3).freeh 10; have f11 := (hH3).freeh 11; have f12 := (hH3).freeh 12; have f13 := (hH3).freeh 13; have f14 := (hH3).freeh 14; have f15 := (hH3).freeh 15; have f16 := (hH3).freeh 16; have f17 := (hH3).freeh 17
                    refine hK.out _ _ ⟨r6, r7⟩ ?_
                    clear hK K
                    have HKW := Lib.hid ((((HK1.out.drew.alloc (.cells #[.bool false] 4)).trans hk2).alloc (.cells #[.bool false] 4)).trans hk3)
                    refine wpAnyG_tail 16 rfl (by kernel_rfl) (.inr rfl) ?_
                    simp only [List.drop_succ_cons, List.drop_zero]
                    go_wp2
                    have hfin := (hH3.setCell 6 (.slice a5 (done ++ [false]).length cap5)).setCell 7 (.slice a6 (undone ++ [false]).length cap6)
                    obtain ⟨L', ps', g1, g2, g3⟩ := Hend1.out _ ((q, .cells #[(Value.int .i64 oid), (Value.int .i64 oit), (Value.int .i64 oqt), (Value.int .i64 ocl), (Value.int .i64 opr), .slice a4 (steps ++ [(⟨n1, n2⟩ : Step)]).length cap4, .slice a5 (done ++ [false]).length cap5, .slice a6 (undone ++ [false]).length cap6, .bool asked, .bool yes, .bool turned, .bool ack0, .bool ack1, .bool shipped, .bool dmg0, .bool dmg1, .bool accepted, .pointer tq] 78) :: (L1 ++ M2 ++ M3 ++ Ly)) (by rw [hplay]; exact ⟨_, _, _, _, L1, M2, M3, Ly, rfl, hR1, hR2, hR3, hT⟩) (hfin.sub (by intro x; simp only [cnt_append, cnt_cons, cnt_nil, List.tail_cons, World.size_alloc, World.size_setCell, World.size_drew, List.setIfInBounds_toArray, List.set_cons_zero, List.set_cons_succ] <;> omega))
                    refine bodyPost_end (v := .tuple #[]) (by simp [results, Tryz.results42, go_sem]) rfl ⟨rfl, L', ps', g1, g2, ?_, (HKW.out.setCell _ _).setCell _ _⟩
                    simpa using g3
                  · go_simp
                    refine hK.out _ _ ⟨cell_alloc_keep _ (cell_alloc_keep _ y6), cell_alloc_keep _ (cell_alloc_keep _ y7)⟩ ?_
                    clear hK K
                    refine wpAnyG_oneL (i := 8) rfl (by kernel_rfl) (fun K hK => ?_)
                    rw [if_pos (by rfl)]
                    refine owp_append_has _ _ _ rfl encB elem_bool (news := [false]) rfl rfl hD (F := (wc.heap.size + 1, .cells #[.bool false] 4) :: (wc.heap.size, .cells #[.bool false] 4) :: (q, .cells #[(Value.int .i64 oid), (Value.int .i64 oit), (Value.int .i64 oqt), (Value.int .i64 ocl), (Value.int .i64 opr), .slice a4 (steps ++ [(⟨n1, n2⟩ : Step)]).length cap4, .slice ad done.length capd, .slice au undone.length capu, .bool asked, .bool yes, .bool turned, .bool ack0, .bool ack1, .bool shipped, .bool dmg0, .bool dmg1, .bool accepted, .pointer tq] 78) :: (b, .cells #[(Value.int .i64 c.most), (Value.int .i64 c.room), (Value.int .i64 c.tries), .pointer (some ⟨jb, 0, none⟩), (Value.int .i64 (c.used + 1)), .map (some mb), .pointer (some ⟨tb, 0, none⟩)] 74) :: (w.heap.size, .cells #[.string bStep, (Value.int .i64 id), .slice (some ⟨b', off, none⟩) 3 cap1] 81) :: (L1 ++ Lu ++ Ly ++ Lj ++ Lm ++ L2 ++ Lt ++ F)) ((HAA.out).sub (by intro x; simp only [cnt_append, cnt_cons, cnt_nil, List.tail_cons, World.size_alloc, World.size_setCell, World.size_drew, List.setIfInBounds_toArray, List.set_cons_zero, List.set_cons_succ] <;> omega)) (bool_at false ((HAA.out.swap))) (by have := Hsm.out.2.1; have := Hu.out; dsimp only at *; simp; omega) ?_
                    intro v2 w2 M2 hR2 hw2 hk2
                    obtain ⟨a5, cap5, rfl⟩ := hR2.val
                    have hH2 := hw2.sub (B := (q, .cells #[(Value.int .i64 oid), (Value.int .i64 oit), (Value.int .i64 oqt), (Value.int .i64 ocl), (Value.int .i64 opr), .slice a4 (steps ++ [(⟨n1, n2⟩ : Step)]).length cap4, .slice ad done.length capd, .slice au undone.length capu, .bool asked, .bool yes, .bool turned, .bool ack0, .bool ack1, .bool shipped, .bool dmg0, .bool dmg1, .bool accepted, .pointer tq] 78) :: (b, .cells #[(Value.int .i64 c.most), (Value.int .i64 c.room), (Value.int .i64 c.tries), .pointer (some ⟨jb, 0, none⟩), (Value.int .i64 (c.used + 1)), .map (some mb), .pointer (some ⟨tb, 0, none⟩)] 74) :: (w.heap.size, .cells #[.string bStep, (Value.int .i64 id), .slice (some ⟨b', off, none⟩) 3 cap1] 81) :: (M2 ++ L1 ++ Lu ++ Ly ++ Lj ++ Lm ++ L2 ++ Lt ++ F)) (by intro x; simp only [cnt_append, cnt_cons, cnt_nil, List.tail_cons, World.size_alloc, World.size_setCell, World.size_drew, List.setIfInBounds_toArray, List.set_cons_zero, List.set_cons_succ] <;> omega)
                    have p0 := (hH2).cellh 0; have p1 := (hH2).cellh 1; have p2 := (hH2).cellh 2; have p3 := (hH2).cellh 3; have p4 := (hH2).cellh 4; have p5 := (hH2).cellh 5; have p6 := (hH2).cellh 6; have p7 := (hH2).cellh 7; have p8 := (hH2).cellh 8; have p9 := (hH2).cellh 9; have p10 := (hH2).cellh 10; have p11 := (hH2).cellh 11; have p12 := (hH2).cellh 12; have p13 := (hH2).cellh 13; have p14 := (hH2).cellh 14; have p15 := (hH2).cellh 15; have p16 := (hH2).cellh 16; have p17 := (hH2).cellh 17; simp at p0 p1 p2 p3 p4 p5 p6 p7 p8 p9 p10 p11 p12 p13 p14 p15 p16 p17
                    refine hK.out _ _ ⟨p6, p7⟩ ?_
                    clear hK K
                    refine wpAnyG_oneL (i := 15) rfl (by kernel_rfl) (fun K hK => ?_)
                    rw [if_pos (by rfl)]
                    refine owp_append_has _ _ _ rfl encB elem_bool (news := [false]) rfl rfl hU (F := (wc.heap.size + 1, .cells #[.bool false] 4) :: (wc.heap.size, .cells #[.bool false] 4) :: (q, .cells #[(Value.int .i64 oid), (Value.int .i64 oit), (Value.int .i64 oqt), (Value.int .i64 ocl), (Value.int .i64 opr), .slice a4 (steps ++ [(⟨n1, n2⟩ : Step)]).length cap4, .slice ad done.length capd, .slice au undone.length capu, .bool asked, .bool yes, .bool turned, .bool ack0, .bool ack1, .bool shipped, .bool dmg0, .bool dmg1, .bool accepted, .pointer tq] 78) :: (b, .cells #[(Value.int .i64 c.most), (Value.int .i64 c.room), (Value.int .i64 c.tries), .pointer (some ⟨jb, 0, none⟩), (Value.int .i64 (c.used + 1)), .map (some mb), .pointer (some ⟨tb, 0, none⟩)] 74) :: (w.heap.size, .cells #[.string bStep, (Value.int .i64 id), .slice (some ⟨b', off, none⟩) 3 cap1] 81) :: (M2 ++ L1 ++ Ly ++ Lj ++ Lm ++ L2 ++ Lt ++ F)) ((hw2).sub (by intro x; simp only [cnt_append, cnt_cons, cnt_nil, List.tail_cons, World.size_alloc, World.size_setCell, World.size_drew, List.setIfInBounds_toArray, List.set_cons_zero, List.set_cons_succ] <;> omega)) (bool_at false ((hw2.re (B := (wc.heap.size + 1, .cells #[.bool false] 4) :: ((wc.heap.size, .cells #[.bool false] 4) :: (q, .cells #[(Value.int .i64 oid), (Value.int .i64 oit), (Value.int .i64 oqt), (Value.int .i64 ocl), (Value.int .i64 opr), .slice a4 (steps ++ [(⟨n1, n2⟩ : Step)]).length cap4, .slice ad done.length capd, .slice au undone.length capu, .bool asked, .bool yes, .bool turned, .bool ack0, .bool ack1, .bool shipped, .bool dmg0, .bool dmg1, .bool accepted, .pointer tq] 78) :: (b, .cells #[(Value.int .i64 c.most), (Value.int .i64 c.room), (Value.int .i64 c.tries), .pointer (some ⟨jb, 0, none⟩), (Value.int .i64 (c.used + 1)), .map (some mb), .pointer (some ⟨tb, 0, none⟩)] 74) :: (w.heap.size, .cells #[.string bStep, (Value.int .i64 id), .slice (some ⟨b', off, none⟩) 3 cap1] 81) :: (M2 ++ L1 ++ Lu ++ Ly ++ Lj ++ Lm ++ L2 ++ Lt ++ F))) (by intro x; simp only [cnt_append, cnt_cons, cnt_nil, List.tail_cons, World.size_alloc, World.size_setCell, World.size_drew, List.setIfInBounds_toArray, List.set_cons_zero, List.set_cons_succ] <;> omega)))) (by have := Hsm.out.2.2; have := Hu.out; dsimp only at *; simp; omega) ?_
                    intro v3 w3 M3 hR3 hw3 hk3
                    obtain ⟨a6, cap6, rfl⟩ := hR3.val
                    have hH3 := hw3.sub (B := (q, .cells #[(Value.int .i64 oid), (Value.int .i64 oit), (Value.int .i64 oqt), (Value.int .i64 ocl), (Value.int .i64 opr), .slice a4 (steps ++ [(⟨n1, n2⟩ : Step)]).length cap4, .slice ad done.length capd, .slice au undone.length capu, .bool asked, .bool yes, .bool turned, .bool ack0, .bool ack1, .bool shipped, .bool dmg0, .bool dmg1, .bool accepted, .pointer tq] 78) :: (b, .cells #[(Value.int .i64 c.most), (Value.int .i64 c.room), (Value.int .i64 c.tries), .pointer (some ⟨jb, 0, none⟩), (Value.int .i64 (c.used + 1)), .map (some mb), .pointer (some ⟨tb, 0, none⟩)] 74) :: (w.heap.size, .cells #[.string bStep, (Value.int .i64 id), .slice (some ⟨b', off, none⟩) 3 cap1] 81) :: (M3 ++ M2 ++ L1 ++ Ly ++ Lj ++ Lm ++ L2 ++ Lt ++ F)) (by intro x; simp only [cnt_append, cnt_cons, cnt_nil, List.tail_cons, World.size_alloc, World.size_setCell, World.size_drew, List.setIfInBounds_toArray, List.set_cons_zero, List.set_cons_succ] <;> omega)
                    have r0 := hH3.lth
                    have r0 := (hH3).cellh 0; have r1 := (hH3).cellh 1; have r2 := (hH3).cellh 2; have r3 := (hH3).cellh 3; have r4 := (hH3).cellh 4; have r5 := (hH3).cellh 5; have r6 := (hH3).cellh 6; have r7 := (hH3).cellh 7; have r8 := (hH3).cellh 8; have r9 := (hH3).cellh 9; have r10 := (hH3).cellh 10; have r11 := (hH3).cellh 11; have r12 := (hH3).cellh 12; have r13 := (hH3).cellh 13; have r14 := (hH3).cellh 14; have r15 := (hH3).cellh 15; have r16 := (hH3).cellh 16; have r17 := (hH3).cellh 17; simp at r0 r1 r2 r3 r4 r5 r6 r7 r8 r9 r10 r11 r12 r13 r14 r15 r16 r17
                    have f0 := (hH3).freeh 0; have f1 := (hH3).freeh 1; have f2 := (hH3).freeh 2; have f3 := (hH3).freeh 3; have f4 := (hH3).freeh 4; have f5 := (hH3).freeh 5; have f6 := (hH3).freeh 6; have f7 := (hH3).freeh 7; have f8 := (hH3).freeh 8; have f9 := (hH3).freeh 9; have f10 := (hH3).freeh 10; have f11 := (hH3).freeh 11; have f12 := (hH3).freeh 12; have f13 := (hH3).freeh 13; have f14 := (hH3).freeh 14; have f15 := (hH3).freeh 15; have f16 := (hH3).freeh 16; have f17 := (hH3).freeh 17
                    refine hK.out _ _ ⟨r6, r7⟩ ?_
                    clear hK K
                    have HKW := Lib.hid (((HK1.out.drew.alloc (.cells #[.bool false] 4)).alloc (.cells #[.bool false] 4)).trans hk2 |>.trans hk3)
                    refine wpAnyG_tail 16 rfl (by kernel_rfl) (.inr rfl) ?_
                    simp only [List.drop_succ_cons, List.drop_zero]
                    go_wp2
                    have hfin := (hH3.setCell 6 (.slice a5 (done ++ [false]).length cap5)).setCell 7 (.slice a6 (undone ++ [false]).length cap6)
                    obtain ⟨L', ps', g1, g2, g3⟩ := Hend1.out _ ((q, .cells #[(Value.int .i64 oid), (Value.int .i64 oit), (Value.int .i64 oqt), (Value.int .i64 ocl), (Value.int .i64 opr), .slice a4 (steps ++ [(⟨n1, n2⟩ : Step)]).length cap4, .slice a5 (done ++ [false]).length cap5, .slice a6 (undone ++ [false]).length cap6, .bool asked, .bool yes, .bool turned, .bool ack0, .bool ack1, .bool shipped, .bool dmg0, .bool dmg1, .bool accepted, .pointer tq] 78) :: (L1 ++ M2 ++ M3 ++ Ly)) (by rw [hplay]; exact ⟨_, _, _, _, L1, M2, M3, Ly, rfl, hR1, hR2, hR3, hT⟩) (hfin.sub (by intro x; simp only [cnt_append, cnt_cons, cnt_nil, List.tail_cons, World.size_alloc, World.size_setCell, World.size_drew, List.setIfInBounds_toArray, List.set_cons_zero, List.set_cons_succ] <;> omega))
                    refine bodyPost_end (v := .tuple #[]) (by simp [results, Tryz.results42, go_sem]) rfl ⟨rfl, L', ps', g1, g2, ?_, (HKW.out.setCell _ _).setCell _ _⟩
                    simpa using g3
                · go_simp
                  refine hK.out _ _ ⟨cell_alloc_keep _ y6, cell_alloc_keep _ y7⟩ ?_
                  clear hK K
                  refine wpAnyG_oneL (i := 7) rfl (by kernel_rfl) (fun K hK => ?_)
                  go_simp
                  refine hK.out _ _ ⟨cell_alloc_keep _ (cell_alloc_keep _ y6), cell_alloc_keep _ (cell_alloc_keep _ y7)⟩ ?_
                  clear hK K
                  refine wpAnyG_oneL (i := 8) rfl (by kernel_rfl) (fun K hK => ?_)
                  rw [if_pos (by rfl)]
                  refine owp_append_has _ _ _ rfl encB elem_bool (news := [false]) rfl rfl hD (F := (wc.heap.size + 1, .cells #[.bool false] 4) :: (wc.heap.size, .cells #[.bool false] 4) :: (q, .cells #[(Value.int .i64 oid), (Value.int .i64 oit), (Value.int .i64 oqt), (Value.int .i64 ocl), (Value.int .i64 opr), .slice a4 (steps ++ [(⟨n1, n2⟩ : Step)]).length cap4, .slice ad done.length capd, .slice au undone.length capu, .bool asked, .bool yes, .bool turned, .bool ack0, .bool ack1, .bool shipped, .bool dmg0, .bool dmg1, .bool accepted, .pointer tq] 78) :: (b, .cells #[(Value.int .i64 c.most), (Value.int .i64 c.room), (Value.int .i64 c.tries), .pointer (some ⟨jb, 0, none⟩), (Value.int .i64 (c.used + 1)), .map (some mb), .pointer (some ⟨tb, 0, none⟩)] 74) :: (w.heap.size, .cells #[.string bStep, (Value.int .i64 id), .slice (some ⟨b', off, none⟩) 3 cap1] 81) :: (L1 ++ Lu ++ Ly ++ Lj ++ Lm ++ L2 ++ Lt ++ F)) ((HAA.out).sub (by intro x; simp only [cnt_append, cnt_cons, cnt_nil, List.tail_cons, World.size_alloc, World.size_setCell, World.size_drew, List.setIfInBounds_toArray, List.set_cons_zero, List.set_cons_succ] <;> omega)) (bool_at false (HAA.out.re (B := (wc.heap.size + 1, .cells #[.bool false] 4) :: ((wc.heap.size, .cells #[.bool false] 4) :: (q, .cells #[(Value.int .i64 oid), (Value.int .i64 oit), (Value.int .i64 oqt), (Value.int .i64 ocl), (Value.int .i64 opr), .slice a4 (steps ++ [(⟨n1, n2⟩ : Step)]).length cap4, .slice ad done.length capd, .slice au undone.length capu, .bool asked, .bool yes, .bool turned, .bool ack0, .bool ack1, .bool shipped, .bool dmg0, .bool dmg1, .bool accepted, .pointer tq] 78) :: (b, .cells #[(Value.int .i64 c.most), (Value.int .i64 c.room), (Value.int .i64 c.tries), .pointer (some ⟨jb, 0, none⟩), (Value.int .i64 (c.used + 1)), .map (some mb), .pointer (some ⟨tb, 0, none⟩)] 74) :: (w.heap.size, .cells #[.string bStep, (Value.int .i64 id), .slice (some ⟨b', off, none⟩) 3 cap1] 81) :: (L1 ++ Ld ++ Lu ++ Ly ++ Lj ++ Lm ++ L2 ++ Lt ++ F))) (by intro x; simp only [cnt_append, cnt_cons, cnt_nil, List.tail_cons, World.size_alloc, World.size_setCell, World.size_drew, List.setIfInBounds_toArray, List.set_cons_zero, List.set_cons_succ] <;> omega))) (by have := Hsm.out.2.1; have := Hu.out; dsimp only at *; simp; omega) ?_
                  intro v2 w2 M2 hR2 hw2 hk2
                  obtain ⟨a5, cap5, rfl⟩ := hR2.val
                  have hH2 := hw2.sub (B := (q, .cells #[(Value.int .i64 oid), (Value.int .i64 oit), (Value.int .i64 oqt), (Value.int .i64 ocl), (Value.int .i64 opr), .slice a4 (steps ++ [(⟨n1, n2⟩ : Step)]).length cap4, .slice ad done.length capd, .slice au undone.length capu, .bool asked, .bool yes, .bool turned, .bool ack0, .bool ack1, .bool shipped, .bool dmg0, .bool dmg1, .bool accepted, .pointer tq] 78) :: (b, .cells #[(Value.int .i64 c.most), (Value.int .i64 c.room), (Value.int .i64 c.tries), .pointer (some ⟨jb, 0, none⟩), (Value.int .i64 (c.used + 1)), .map (some mb), .pointer (some ⟨tb, 0, none⟩)] 74) :: (w.heap.size, .cells #[.string bStep, (Value.int .i64 id), .slice (some ⟨b', off, none⟩) 3 cap1] 81) :: (M2 ++ L1 ++ Lu ++ Ly ++ Lj ++ Lm ++ L2 ++ Lt ++ F)) (by intro x; simp only [cnt_append, cnt_cons, cnt_nil, List.tail_cons, World.size_alloc, World.size_setCell, World.size_drew, List.setIfInBounds_toArray, List.set_cons_zero, List.set_cons_succ] <;> omega)
                  have p0 := (hH2).cellh 0; have p1 := (hH2).cellh 1; have p2 := (hH2).cellh 2; have p3 := (hH2).cellh 3; have p4 := (hH2).cellh 4; have p5 := (hH2).cellh 5; have p6 := (hH2).cellh 6; have p7 := (hH2).cellh 7; have p8 := (hH2).cellh 8; have p9 := (hH2).cellh 9; have p10 := (hH2).cellh 10; have p11 := (hH2).cellh 11; have p12 := (hH2).cellh 12; have p13 := (hH2).cellh 13; have p14 := (hH2).cellh 14; have p15 := (hH2).cellh 15; have p16 := (hH2).cellh 16; have p17 := (hH2).cellh 17; simp at p0 p1 p2 p3 p4 p5 p6 p7 p8 p9 p10 p11 p12 p13 p14 p15 p16 p17
                  refine hK.out _ _ ⟨p6, p7⟩ ?_
                  clear hK K
                  refine wpAnyG_oneL (i := 15) rfl (by kernel_rfl) (fun K hK => ?_)
                  rw [if_pos (by rfl)]
                  refine owp_append_has _ _ _ rfl encB elem_bool (news := [false]) rfl rfl hU (F := (wc.heap.size + 1, .cells #[.bool false] 4) :: (wc.heap.size, .cells #[.bool false] 4) :: (q, .cells #[(Value.int .i64 oid), (Value.int .i64 oit), (Value.int .i64 oqt), (Value.int .i64 ocl), (Value.int .i64 opr), .slice a4 (steps ++ [(⟨n1, n2⟩ : Step)]).length cap4, .slice ad done.length capd, .slice au undone.length capu, .bool asked, .bool yes, .bool turned, .bool ack0, .bool ack1, .bool shipped, .bool dmg0, .bool dmg1, .bool accepted, .pointer tq] 78) :: (b, .cells #[(Value.int .i64 c.most), (Value.int .i64 c.room), (Value.int .i64 c.tries), .pointer (some ⟨jb, 0, none⟩), (Value.int .i64 (c.used + 1)), .map (some mb), .pointer (some ⟨tb, 0, none⟩)] 74) :: (w.heap.size, .cells #[.string bStep, (Value.int .i64 id), .slice (some ⟨b', off, none⟩) 3 cap1] 81) :: (M2 ++ L1 ++ Ly ++ Lj ++ Lm ++ L2 ++ Lt ++ F)) ((hw2).sub (by intro x; simp only [cnt_append, cnt_cons, cnt_nil, List.tail_cons, World.size_alloc, World.size_setCell, World.size_drew, List.setIfInBounds_toArray, List.set_cons_zero, List.set_cons_succ] <;> omega)) (bool_at false ((hw2.re (B := (wc.heap.size, .cells #[.bool false] 4) :: ((wc.heap.size + 1, .cells #[.bool false] 4) :: (q, .cells #[(Value.int .i64 oid), (Value.int .i64 oit), (Value.int .i64 oqt), (Value.int .i64 ocl), (Value.int .i64 opr), .slice a4 (steps ++ [(⟨n1, n2⟩ : Step)]).length cap4, .slice ad done.length capd, .slice au undone.length capu, .bool asked, .bool yes, .bool turned, .bool ack0, .bool ack1, .bool shipped, .bool dmg0, .bool dmg1, .bool accepted, .pointer tq] 78) :: (b, .cells #[(Value.int .i64 c.most), (Value.int .i64 c.room), (Value.int .i64 c.tries), .pointer (some ⟨jb, 0, none⟩), (Value.int .i64 (c.used + 1)), .map (some mb), .pointer (some ⟨tb, 0, none⟩)] 74) :: (w.heap.size, .cells #[.string bStep, (Value.int .i64 id), .slice (some ⟨b', off, none⟩) 3 cap1] 81) :: (M2 ++ L1 ++ Lu ++ Ly ++ Lj ++ Lm ++ L2 ++ Lt ++ F))) (by intro x; simp only [cnt_append, cnt_cons, cnt_nil, List.tail_cons, World.size_alloc, World.size_setCell, World.size_drew, List.setIfInBounds_toArray, List.set_cons_zero, List.set_cons_succ] <;> omega)))) (by have := Hsm.out.2.2; have := Hu.out; dsimp only at *; simp; omega) ?_
                  intro v3 w3 M3 hR3 hw3 hk3
                  obtain ⟨a6, cap6, rfl⟩ := hR3.val
                  have hH3 := hw3.sub (B := (q, .cells #[(Value.int .i64 oid), (Value.int .i64 oit), (Value.int .i64 oqt), (Value.int .i64 ocl), (Value.int .i64 opr), .slice a4 (steps ++ [(⟨n1, n2⟩ : Step)]).length cap4, .slice ad done.length capd, .slice au undone.length capu, .bool asked, .bool yes, .bool turned, .bool ack0, .bool ack1, .bool shipped, .bool dmg0, .bool dmg1, .bool accepted, .pointer tq] 78) :: (b, .cells #[(Value.int .i64 c.most), (Value.int .i64 c.room), (Value.int .i64 c.tries), .pointer (some ⟨jb, 0, none⟩), (Value.int .i64 (c.used + 1)), .map (some mb), .pointer (some ⟨tb, 0, none⟩)] 74) :: (w.heap.size, .cells #[.string bStep, (Value.int .i64 id), .slice (some ⟨b', off, none⟩) 3 cap1] 81) :: (M3 ++ M2 ++ L1 ++ Ly ++ Lj ++ Lm ++ L2 ++ Lt ++ F)) (by intro x; simp only [cnt_append, cnt_cons, cnt_nil, List.tail_cons, World.size_alloc, World.size_setCell, World.size_drew, List.setIfInBounds_toArray, List.set_cons_zero, List.set_cons_succ] <;> omega)
                  have r0 := hH3.lth
                  have r0 := (hH3).cellh 0; have r1 := (hH3).cellh 1; have r2 := (hH3).cellh 2; have r3 := (hH3).cellh 3; have r4 := (hH3).cellh 4; have r5 := (hH3).cellh 5; have r6 := (hH3).cellh 6; have r7 := (hH3).cellh 7; have r8 := (hH3).cellh 8; have r9 := (hH3).cellh 9; have r10 := (hH3).cellh 10; have r11 := (hH3).cellh 11; have r12 := (hH3).cellh 12; have r13 := (hH3).cellh 13; have r14 := (hH3).cellh 14; have r15 := (hH3).cellh 15; have r16 := (hH3).cellh 16; have r17 := (hH3).cellh 17; simp at r0 r1 r2 r3 r4 r5 r6 r7 r8 r9 r10 r11 r12 r13 r14 r15 r16 r17
                  have f0 := (hH3).freeh 0; have f1 := (hH3).freeh 1; have f2 := (hH3).freeh 2; have f3 := (hH3).freeh 3; have f4 := (hH3).freeh 4; have f5 := (hH3).freeh 5; have f6 := (hH3).freeh 6; have f7 := (hH3).freeh 7; have f8 := (hH3).freeh 8; have f9 := (hH3).freeh 9; have f10 := (hH3).freeh 10; have f11 := (hH3).freeh 11; have f12 := (hH3).freeh 12; have f13 := (hH3).freeh 13; have f14 := (hH3).freeh 14; have f15 := (hH3).freeh 15; have f16 := (hH3).freeh 16; have f17 := (hH3).freeh 17
                  refine hK.out _ _ ⟨r6, r7⟩ ?_
                  clear hK K
                  have HKW := Lib.hid (((HK1.out.drew.alloc (.cells #[.bool false] 4)).alloc (.cells #[.bool false] 4)).trans hk2 |>.trans hk3)
                  refine wpAnyG_tail 16 rfl (by kernel_rfl) (.inr rfl) ?_
                  simp only [List.drop_succ_cons, List.drop_zero]
                  go_wp2
                  have hfin := (hH3.setCell 6 (.slice a5 (done ++ [false]).length cap5)).setCell 7 (.slice a6 (undone ++ [false]).length cap6)
                  obtain ⟨L', ps', g1, g2, g3⟩ := Hend1.out _ ((q, .cells #[(Value.int .i64 oid), (Value.int .i64 oit), (Value.int .i64 oqt), (Value.int .i64 ocl), (Value.int .i64 opr), .slice a4 (steps ++ [(⟨n1, n2⟩ : Step)]).length cap4, .slice a5 (done ++ [false]).length cap5, .slice a6 (undone ++ [false]).length cap6, .bool asked, .bool yes, .bool turned, .bool ack0, .bool ack1, .bool shipped, .bool dmg0, .bool dmg1, .bool accepted, .pointer tq] 78) :: (L1 ++ M2 ++ M3 ++ Ly)) (by rw [hplay]; exact ⟨_, _, _, _, L1, M2, M3, Ly, rfl, hR1, hR2, hR3, hT⟩) (hfin.sub (by intro x; simp only [cnt_append, cnt_cons, cnt_nil, List.tail_cons, World.size_alloc, World.size_setCell, World.size_drew, List.setIfInBounds_toArray, List.set_cons_zero, List.set_cons_succ] <;> omega))
                  refine bodyPost_end (v := .tuple #[]) (by simp [results, Tryz.results42, go_sem]) rfl ⟨rfl, L', ps', g1, g2, ?_, (HKW.out.setCell _ _).setCell _ _⟩
                  simpa using g3
            · have Hks := Lib.hid hks
              have hfit := Hk.out x Hx.out Hkb.out hks
              have hplay : x.play ⟨kind, id, n⟩ = x.note kind num := by
                simp only [Led.play, if_neg hks, Hnum.out]
              rw [hplay] at Hend
              dsimp only at hfit
              rw [← Hnum.out] at hfit
              have Hfit := Lib.hid hfit
              clear hfit hplay
              have hstep : ((kind.toList == [115, 116, 101, 112]) = true ∧ N = 3) → False := by
                rintro ⟨g1, g2⟩
                refine Hks.out ⟨?_, HN.out.trans g2⟩
                refine Classical.byContradiction fun hc => ?_
                unfold bStep at hc
                rw [kne hc] at g1
                cases g1
              by_cases h3 : N = 3
              · have c2 : (kind.toList == [115, 116, 101, 112]) = false := by
                  cases h : (kind.toList == [115, 116, 101, 112]) with
                  | false => rfl
                  | true => exact (hstep ⟨h, h3⟩).elim
                clear hstep
                go_wp2_with fail
                refine (facts_call q x kind num Hfit.out _ _ _ Hwx.out HX.out).mono ?_
                rintro r w1 ⟨rfl, L1', hX', hw1, hk1⟩
                obtain ⟨L', ps', g1, g2, g3⟩ := Hend.out w1 L1' hX' hw1
                go_wp2
                exact bodyPost_end (v := .tuple #[]) (by simp [results, Tryz.results42, go_sem]) rfl ⟨rfl, L', ps', g1, g2, g3, Hkc.out.drew.trans hk1⟩
              · have h3' : ((N : Int) == 3) = false := by simp; omega
                clear hstep
                go_wp2_with fail
                all_goals
                  refine (facts_call q x kind num Hfit.out _ _ _ Hwx.out HX.out).mono ?_
                  rintro r w1 ⟨rfl, L1', hX', hw1, hk1⟩
                  obtain ⟨L', ps', g1, g2, g3⟩ := Hend.out w1 L1' hX' hw1
                  go_wp2
                  exact bodyPost_end (v := .tuple #[]) (by simp [results, Tryz.results42, go_sem]) rfl ⟨rfl, L', ps', g1, g2, g3, Hkc.out.drew.trans hk1⟩

end Go.Proofs.YtcfaimmcedpgiaaGreatDoor
