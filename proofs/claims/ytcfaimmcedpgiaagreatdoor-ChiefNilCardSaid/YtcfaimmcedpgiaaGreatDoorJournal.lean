/-
  journal: New, Add, Sync, Down: contracts. A lemma file: no statement of the seat is proved here.
-/
import Derived.Test.YtcfaimmcedpgiaaGreatDoorEntry
import Derived.Test.YtcfaimmcedpgiaaGreatDoorBell
namespace Go.Proofs.YtcfaimmcedpgiaaGreatDoor
set_option linter.unusedVariables false
set_option linter.unusedSimpArgs false
open Go.RowKit

structure JournalM where
  room : Int
  lines : List ByteArray
  sure : Int
  down : Bool
def JournalM.ok (j : JournalM) : Prop := 1 ≤ j.room ∧ j.room ≤ 4096 ∧ j.lines.length ≤ 4096
def JournalR (b : Nat) (j : JournalM) (L : HL) : Prop := j.ok ∧ ∃ lv Ll, L = (b, .cells #[(Value.int .i64 j.room), lv, (Value.int .i64 j.sure), .bool j.down] 114) :: Ll ∧ SlR sEnc 1 9 lv j.lines Ll
def JournalM.adds (j : JournalM) (e : Entry) : Bool := !j.down && e.may && decide ((j.lines.length : Int) < j.room)
def JournalM.add (j : JournalM) (e : Entry) : JournalM := if j.adds e then { j with lines := j.lines ++ [e.line] } else j
def JournalM.addErr (j : JournalM) (e : Entry) : Int := if j.down then 10 else if !e.may then 1 else if j.room ≤ j.lines.length then 5 else 0
def JournalM.sync (j : JournalM) : JournalM := if j.down then j else { j with sure := j.lines.length }
def newJournal (room : Int) : JournalM := { room := clamp 1 4096 room, lines := [], sure := 0, down := false }

theorem elem_str : Elem Tryz.prog 112 9 1 16 := by
  refine ⟨Tryz.underlying112, ?_, by decide, by decide⟩
  obtain ⟨i, h1, h2, h3, h4⟩ := info_parts (show (Tryz.prog.info? 9).map (fun i => (i.zero, i.size, i.bytes)) = some (some (.string ⟨#[]⟩), 1, 16) by kernel_rfl)
  exact ⟨i, _, h1, h2, h3, h4, rfl⟩

theorem jnew_call (n : Int) (w : World) (F : HL) (hw : Has w F) :
    Calls Tryz.prog 58 #[(Value.int .i64 n)] w fun e w' => ∃ b L, e = .returned (.pointer (some ⟨b, 0, none⟩)) ∧ JournalR b (newJournal n) L ∧ Has w' (L ++ F) ∧ Kin w w' := by
  have Hw := Lib.hid hw; clear hw
  go_enter Tryz.func58, Tryz.ntmps58
  go_wp2
  all_goals refine bodyPost_ret (v := .pointer (some ⟨w.heap.size, 0, none⟩)) (by simp [results, Tryz.results58, go_sem]) rfl ⟨_, [(w.heap.size, .cells #[(Value.int .i64 (clamp 1 4096 n)), .slice none 0 0, (Value.int .i64 0), .bool false] 114)], rfl, ⟨⟨by simp only [newJournal, clamp]; omega, by simp only [newJournal, clamp]; omega, by simp [newJournal]⟩, _, _, rfl, .nil⟩, ?_, (Kin.refl w).alloc _⟩
  all_goals exact Hw.out.alloc _

theorem jdown_call (b : Nat) (j : JournalM) (w : World) (L F : HL) (hw : Has w (L ++ F)) (hJ : JournalR b j L) :
    Calls Tryz.prog 57 #[.pointer (some ⟨b, 0, none⟩)] w fun e w' => e = .returned (.bool j.down) ∧ w' = w := by
  obtain ⟨room, lines, sure, down⟩ := j
  obtain ⟨hok, lv, Ll, rfl, hS⟩ := hJ
  have h0 : Has w ((b, .cells #[(Value.int .i64 room), lv, (Value.int .i64 sure), .bool down] 114) :: (Ll ++ F)) := hw
  have p0 := h0.lth
  have x0 := (h0).cellh 0; have x1 := (h0).cellh 1; have x2 := (h0).cellh 2; have x3 := (h0).cellh 3; simp at x0 x1 x2 x3
  clear hw h0
  go_enter Tryz.func57, Tryz.ntmps57
  go_wp2
  go_ret
  exact ⟨rfl, rfl⟩

theorem jsync_call (b : Nat) (j : JournalM) (w : World) (L F : HL) (hw : Has w (L ++ F)) (hJ : JournalR b j L) :
    Calls Tryz.prog 82 #[.pointer (some ⟨b, 0, none⟩)] w fun e w' => e = .returned ((Value.int .i64 (if j.down then 10 else 0))) ∧ ∃ L', JournalR b j.sync L' ∧ Has w' (L' ++ F) ∧ Kin w w' := by
  have hJ0 := hJ
  obtain ⟨room, lines, sure, down⟩ := j
  obtain ⟨hok, lv, Ll, rfl, hS⟩ := hJ
  dsimp only at hS hw
  have h0 : Has w ((b, .cells #[(Value.int .i64 room), lv, (Value.int .i64 sure), .bool down] 114) :: (Ll ++ F)) := hw
  have p0 := h0.lth
  have x0 := (h0).cellh 0; have x1 := (h0).cellh 1; have x2 := (h0).cellh 2; have x3 := (h0).cellh 3; simp at x0 x1 x2 x3
  have f2 := h0.freeh 2
  obtain ⟨a, cap, rfl⟩ := hS.val
  have H0 := Lib.hid h0; have HS := Lib.hid hS; have HJ := Lib.hid hJ0; have Hw := Lib.hid hw
  clear hw h0 hS hJ0
  go_enter Tryz.func82, Tryz.ntmps82
  cases down
  · go_wp2
    refine bodyPost_ret (v := (Value.int .i64 0)) (by simp [results, Tryz.results82, go_sem]) rfl ⟨rfl, (b, .cells #[(Value.int .i64 room), .slice a lines.length cap, (Value.int .i64 lines.length), .bool false] 114) :: Ll, ⟨hok, _, _, rfl, HS.out⟩, H0.out.setCell 2 ((Value.int .i64 lines.length)), (Kin.refl w).setCell _ _⟩
  · go_wp2
    refine bodyPost_ret (v := (Value.int .i64 10)) (by simp [results, Tryz.results82, go_sem]) rfl ⟨rfl, _, HJ.out, Hw.out, Kin.refl w⟩

set_option maxRecDepth 100000 in
set_option maxHeartbeats 1600000 in
theorem jadd_call (b : Nat) (j : JournalM) (e : Entry) (nv : Value) (w : World) (L F : HL) (hw : Has w (L ++ F)) (hJ : JournalR b j L) (hT : Tab F) (hl : ∀ W M, Has W (M ++ F) → SlAt W iEnc 1 nv e.n) (hn : e.n.length < 1000000) (hk : e.kind.size < 1000000) :
    Calls Tryz.prog 71 #[.pointer (some ⟨b, 0, none⟩), .agg (e.cells nv)] w fun r w' => r = .returned ((Value.int .i64 (j.addErr e))) ∧ ∃ L', JournalR b (j.add e) L' ∧ Has w' (L' ++ F) ∧ Kin w w' := by
  have hJ0 := hJ
  obtain ⟨room, lines, sure, down⟩ := j
  obtain ⟨hok, lv, Ll, rfl, hS⟩ := hJ
  obtain ⟨hr1, hr2, hll⟩ := hok
  dsimp only at hS hw hr1 hr2 hll
  obtain ⟨a, cap, rfl⟩ := hS.val
  obtain ⟨a1, cap1, hnv⟩ := (hl w _ hw).len
  have ho : Has (w.alloc (.cells #[.string e.kind, (Value.int .i64 e.id), nv] 81)) ((w.heap.size, .cells #[.string e.kind, (Value.int .i64 e.id), nv] 81) :: (b, .cells #[(Value.int .i64 room), .slice a lines.length cap, (Value.int .i64 sure), .bool down] 114) :: (Ll ++ F)) := hw.alloc _
  have p1 := ho.lth; have p0 := hw.lt (b := b) (.head _)
  have h0 : Has w ((b, .cells #[(Value.int .i64 room), .slice a lines.length cap, (Value.int .i64 sure), .bool down] 114) :: (Ll ++ F)) := hw
  have x0 := (h0).cellh 0; have x1 := (h0).cellh 1; have x2 := (h0).cellh 2; have x3 := (h0).cellh 3; simp at x0 x1 x2 x3
  have Ho := Lib.hid ho; have HS := Lib.hid hS; have HJ := Lib.hid hJ0; have Hw := Lib.hid hw; have Hl := Lib.hid hl
  clear ho hS hJ0 hw hl h0
  unfold Entry.cells
  subst hnv
  go_enter Tryz.func71, Tryz.ntmps71
  cases down
  · go_wp2_with fail
    refine (line_call e (.slice a1 e.n.length cap1) _ ((w.heap.size, .cells #[.string e.kind, (Value.int .i64 e.id), .slice a1 e.n.length cap1] 81) :: (b, .cells #[(Value.int .i64 room), .slice a lines.length cap, (Value.int .i64 sure), .bool false] 114) :: (Ll ++ F)) Ho.out (fun W M h => hT W (M ++ (w.heap.size, .cells #[.string e.kind, (Value.int .i64 e.id), .slice a1 e.n.length cap1] 81) :: (b, .cells #[(Value.int .i64 room), .slice a lines.length cap, (Value.int .i64 sure), .bool false] 114) :: Ll) (h.sub (by intro x; simp only [cnt_append, cnt_cons, cnt_nil, List.tail_cons, World.size_alloc, World.size_setCell, World.size_drew, List.setIfInBounds_toArray, List.set_cons_zero, List.set_cons_succ] <;> omega))) (fun W M h => Hl.out W (M ++ (w.heap.size, .cells #[.string e.kind, (Value.int .i64 e.id), .slice a1 e.n.length cap1] 81) :: (b, .cells #[(Value.int .i64 room), .slice a lines.length cap, (Value.int .i64 sure), .bool false] 114) :: Ll) (h.sub (by intro x; simp only [cnt_append, cnt_cons, cnt_nil, List.tail_cons, World.size_alloc, World.size_setCell, World.size_drew, List.setIfInBounds_toArray, List.set_cons_zero, List.set_cons_succ] <;> omega))) hn hk).mono ?_
    rintro r w1 ⟨rfl, hw1, hk1⟩
    have q0 := hw1.lth; have q1 := hw1.tail.lth
    have y0 := (hw1.tail).cellh 0; have y1 := (hw1.tail).cellh 1; have y2 := (hw1.tail).cellh 2; have y3 := (hw1.tail).cellh 3; simp at y0 y1 y2 y3
    have f1 := hw1.tail.freeh 1
    have Hw1 := Lib.hid hw1; have Hk1 := Lib.hid hk1; clear hw1 hk1
    cases hm : e.may with
    | false =>
      have e1 : e.errno = 1 := by simp [Entry.errno, hm]
      have Hm := Lib.hid hm; clear hm
      rw [e1]; clear e1
      go_wp2
      refine bodyPost_ret (v := (Value.int .i64 1)) (by simp [results, Tryz.results71, go_sem]) rfl ⟨by simp [JournalM.addErr, Hm.out], (b, .cells #[(Value.int .i64 room), .slice a lines.length cap, (Value.int .i64 sure), .bool false] 114) :: Ll, ?_, Hw1.out.tail, ((Kin.refl w).alloc _).trans Hk1.out⟩
      simp only [JournalM.add, JournalM.adds, Hm.out, Bool.and_false, Bool.false_and, Bool.false_eq_true, if_false]
      exact HJ.out
    | true =>
      have e1 : e.errno = 0 := by simp [Entry.errno, hm]
      have e2 : e.text = e.line := by simp [Entry.text, hm]
      have Hm := Lib.hid hm; clear hm
      rw [e1, e2]; clear e1 e2
      have hx : SlAt ((w1.alloc (.cells #[.string e.line] 9)).drew) sEnc 1 (.slice (some ⟨w1.heap.size, 0, none⟩) 1 1) [e.line] := SlR.at (L := [(w1.heap.size, .cells #[.string e.line] 9)]) (SlR.lit (l := [e.line]) encS rfl rfl (by simp)) encS (F := _) ((Hw1.out.alloc _).drew)
      have hA : Has ((w1.alloc (.cells #[.string e.line] 9)).drew) (Ll ++ ((b, .cells #[(Value.int .i64 room), .slice a lines.length cap, (Value.int .i64 sure), .bool false] 114) :: F)) := ((Hw1.out.alloc (.cells #[.string e.line] 9)).drew).sub (by intro x; simp only [cnt_append, cnt_cons, cnt_nil, List.tail_cons, World.size_alloc, World.size_setCell, World.size_drew, List.setIfInBounds_toArray, List.set_cons_zero, List.set_cons_succ] <;> omega)
      have Hx := Lib.hid hx; have HA := Lib.hid hA; clear hx hA
      by_cases hfull : room ≤ lines.length
      · have Hfull := Lib.hid hfull
        go_wp2
        go_region
        all_goals go_wp2
        all_goals
          refine bodyPost_ret (v := (Value.int .i64 5)) (by simp [results, Tryz.results71, go_sem]) rfl ⟨by simp [JournalM.addErr, Hm.out, Hfull.out], (b, .cells #[(Value.int .i64 room), .slice a lines.length cap, (Value.int .i64 sure), .bool false] 114) :: Ll, ?_, Hw1.out.tail.drew, (((Kin.refl w).alloc _).trans Hk1.out).drew⟩
          have : decide ((lines.length : Int) < room) = false := decide_eq_false (by have := Hfull.out; omega)
          simp only [JournalM.add, JournalM.adds, this, Bool.and_false, Bool.false_and, Bool.false_eq_true, if_false]
          exact HJ.out
      · have Hfull := Lib.hid hfull
        go_wp2
        go_region
        go_wp2_with (at_builtin; go_loud (refine wpList_append_has rfl _ _ 112 rfl encS elem_str rfl rfl HS.out HA.out Hx.out (by simp; omega) ?_); intro v' w2 L2 hR2 hw2 hk2; obtain ⟨a3, cap3, rfl⟩ := hR2.val; (have hz := hw2.sub (B := (b, .cells #[(Value.int .i64 room), .slice a lines.length cap, (Value.int .i64 sure), .bool false] 114) :: (L2 ++ F)) (by intro x; simp only [cnt_append, cnt_cons, cnt_nil, List.tail_cons, World.size_alloc, World.size_setCell, World.size_drew, List.setIfInBounds_toArray, List.set_cons_zero, List.set_cons_succ] <;> omega)); (have pz := hz.lth); (have g1 := hz.freeh 1); (have g2 := hz.cellh 1); simp at g2)
        have ha : (⟨room, lines, sure, false⟩ : JournalM).adds e = true := by
          have : decide ((lines.length : Int) < room) = true := decide_eq_true (by have := Hfull.out; omega)
          simp only [JournalM.adds, this, Hm.out, Bool.and_true, Bool.not_false]
        refine bodyPost_ret (v := (Value.int .i64 0)) (by simp [results, Tryz.results71, go_sem]) rfl ⟨by simp [JournalM.addErr, Hm.out]; have := Hfull.out; omega, (b, .cells #[(Value.int .i64 room), .slice a3 (lines ++ [e.line]).length cap3, (Value.int .i64 sure), .bool false] 114) :: L2, ?_, ?_, ?_⟩
        · rw [JournalM.add, ha]
          exact ⟨⟨hr1, hr2, by simp; omega⟩, _, _, rfl, hR2⟩
        · have h := hz.setCell 1 (.slice a3 (lines ++ [e.line]).length cap3)
          simp only [List.length_append, List.length_cons, List.length_nil, Nat.zero_add] at h ⊢
          exact h
        · exact ((((Kin.refl w).alloc _).trans Hk1.out).trans ((((Kin.refl w1).alloc _).drew).trans hk2)).setCell _ _
  · go_wp2
    refine bodyPost_ret (v := (Value.int .i64 10)) (by simp [results, Tryz.results71, go_sem]) rfl ⟨rfl, _, HJ.out, Hw.out.alloc _ |>.tail, (Kin.refl w).alloc _⟩

end Go.Proofs.YtcfaimmcedpgiaaGreatDoor
