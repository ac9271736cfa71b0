/-
  bell, again: contracts. A lemma file: no statement of the seat is proved here.
-/
import Derived.Test.YtcfaimmcedpgiaaGreatDoorMaps
import Derived.Test.YtcfaimmcedpgiaaGreatDoorSlices
import Derived.StillTailTactics
namespace Go.Proofs.YtcfaimmcedpgiaaGreatDoor
set_option linter.unusedVariables false
set_option linter.unusedSimpArgs false
open Go.RowKit

structure Tower where
  tries : Int
  left : List (Int × Int)
  deriving Repr, DecidableEq
def Tower.ok (t : Tower) : Prop := 1 ≤ t.tries ∧ t.tries ≤ 20 ∧ ∀ p ∈ t.left, 0 ≤ p.2 ∧ p.2 ≤ 20
def Tower.has (t : Tower) (id : Int) : Bool := (mget t.left id).isSome
def Tower.set (t : Tower) (id : Int) : Tower := { t with left := mput t.left id t.tries }
def Tower.cut (t : Tower) (id : Int) : Tower := if t.has id then { t with left := mdel t.left id } else t
def Tower.again (t : Tower) (id : Int) : Tower := if t.has id then t.set id else t
def Tower.hangs (t : Tower) (id : Int) : Bool := !(decide (id < 1) || decide (999 < id) || t.has id)
def Tower.hang (t : Tower) (id : Int) : Tower := if t.hangs id then t.set id else t
def Tower.often (t : Tower) (id : Int) : Bool := mget t.left id == some 0
def Tower.ring (t : Tower) (id : Int) : Tower := match mget t.left id with
  | none => t
  | some n => if n = 0 then t else { t with left := mput t.left id (n - 1) }
def iV (n : Int) : Value := (Value.int .i64 n)
def TowerR (b : Nat) (t : Tower) (L : HL) : Prop := t.ok ∧ ∃ m Lm, L = (b, .cells #[(Value.int .i64 t.tries), .map (some m)] 123) :: Lm ∧ MapR iV m t.left Lm

theorem mput_mem {α : Type} {l : List (Int × α)} {n : Int} {v : α} {p : Int × α} (h : p ∈ mput l n v) : p = (n, v) ∨ p ∈ l := by
  unfold mput at h
  split at h
  · rcases List.mem_or_eq_of_mem_set h with h | h
    · exact .inr h
    · exact .inl h
  · rcases List.mem_append.1 h with h | h
    · exact .inr h
    · exact .inl (by simpa using h)
theorem Tower.ok.set {t : Tower} (h : t.ok) (id : Int) : (t.set id).ok := ⟨h.1, h.2.1, fun p hp => by
  rcases mput_mem hp with rfl | hp
  · exact ⟨by have := h.1; dsimp only; omega, h.2.1⟩
  · exact h.2.2 p hp⟩
theorem zero3 (w : World) : (zeroValue 3).run Tryz.prog w = .ok (.int .i64 0) w := Tryz.zeroValue3 w

theorem has_call (b : Nat) (t : Tower) (id : Int) (w : World) (L F : HL) (hw : Has w (L ++ F)) (hT : TowerR b t L) :
    Calls Tryz.prog 81 #[.pointer (some ⟨b, 0, none⟩), (Value.int .i64 id)] w fun e w' => e = .returned (.bool (t.has id)) ∧ w' = w := by
  obtain ⟨hok, m, Lm, rfl, hM⟩ := hT
  have hw0 : Has w ((b, .cells #[(Value.int .i64 t.tries), .map (some m)] 123) :: (Lm ++ F)) := hw
  have p0 := hw0.lth
  have x0 := (hw0).cellh 0; have x1 := (hw0).cellh 1; simp at x0 x1
  have Hm := Lib.hid (hw0.tail); clear hw hw0
  go_enter Tryz.func81, Tryz.ntmps81
  go_wp2_with (at_lookup; refine wpList_lookup_map (enc := iV) rfl _ _ true rfl rfl rfl Hm.out hM Tryz.underlying3 Tryz.underlying62 (zero3 _) ?_)
  refine bodyPost_ret (v := .bool (t.has id)) (by simp [results, Tryz.results81, go_sem]; rfl) rfl ⟨rfl, rfl⟩

set_option maxRecDepth 100000 in
theorem cut_call (b : Nat) (t : Tower) (id : Int) (w : World) (L F : HL) (hw : Has w (L ++ F)) (hT : TowerR b t L) :
    Calls Tryz.prog 55 #[.pointer (some ⟨b, 0, none⟩), (Value.int .i64 id)] w fun e w' => e = .returned (.bool (t.has id)) ∧ ∃ L', TowerR b (t.cut id) L' ∧ Has w' (L' ++ F) ∧ Kin w w' := by
  have hT0 := hT
  obtain ⟨hok, m, Lm, rfl, hM⟩ := hT
  have hw0 : Has w ((b, .cells #[(Value.int .i64 t.tries), .map (some m)] 123) :: (Lm ++ F)) := hw
  have p0 := hw0.lth
  have x0 := (hw0).cellh 0; have x1 := (hw0).cellh 1; simp at x0 x1
  have Hm := Lib.hid (hw0.sub (B := Lm ++ ((b, .cells #[(Value.int .i64 t.tries), .map (some m)] 123) :: F)) (by intro x; simp only [cnt_append, cnt_cons, cnt_nil, List.tail_cons, World.size_alloc, World.size_setCell, World.size_drew, List.setIfInBounds_toArray, List.set_cons_zero, List.set_cons_succ] <;> omega)); have HT := Lib.hid hT0; have Hw := Lib.hid hw
  clear hw hw0 hT0
  go_enter Tryz.func55, Tryz.ntmps55
  go_wp2_with fail
  refine (has_call b t id w _ F Hw.out HT.out).mono ?_
  rintro e w' ⟨rfl, rfl⟩
  obtain ⟨h, hh⟩ : ∃ h, t.has id = h := ⟨_, rfl⟩
  have Hh := Lib.hid hh
  rw [hh]; clear hh
  cases h
  · go_wp2
    refine bodyPost_ret (v := .bool false) (by simp [results, Tryz.results55, go_sem]) rfl ⟨by rw [Hh.out], _, ?_, Hw.out, Kin.refl _⟩
    rw [Tower.cut, Hh.out]; exact HT.out
  · go_wp2_with (at_delete; refine wpList_delete_map (enc := iV) rfl _ _ rfl rfl rfl Hm.out hM Tryz.underlying3 Tryz.underlying62 ?_; intro w2 L2 hM2 hw2 hk2 hs2)
    refine bodyPost_ret (v := .bool true) (by simp [results, Tryz.results55, go_sem]) rfl ⟨by rw [Hh.out], _, ?_, hw2.re (B := ((b, .cells #[(Value.int .i64 t.tries), .map (some m)] 123) :: L2) ++ F) (by intro x; simp only [cnt_append, cnt_cons, cnt_nil, List.tail_cons, World.size_alloc, World.size_setCell, World.size_drew, List.setIfInBounds_toArray, List.set_cons_zero, List.set_cons_succ] <;> omega), hk2⟩
    rw [Tower.cut, Hh.out]
    exact ⟨⟨hok.1, hok.2.1, fun p hp => hok.2.2 p ((mdel_sub _ _).subset hp)⟩, m, L2, rfl, hM2⟩

set_option maxRecDepth 100000 in
theorem again_call (b : Nat) (t : Tower) (id : Int) (w : World) (L F : HL) (hw : Has w (L ++ F)) (hT : TowerR b t L) :
    Calls Tryz.prog 53 #[.pointer (some ⟨b, 0, none⟩), (Value.int .i64 id)] w fun e w' => e = .returned (.bool (t.has id)) ∧ ∃ L', TowerR b (t.again id) L' ∧ Has w' (L' ++ F) ∧ Kin w w' := by
  have hT0 := hT
  obtain ⟨hok, m, Lm, rfl, hM⟩ := hT
  have hw0 : Has w ((b, .cells #[(Value.int .i64 t.tries), .map (some m)] 123) :: (Lm ++ F)) := hw
  have p0 := hw0.lth
  have x0 := (hw0).cellh 0; have x1 := (hw0).cellh 1; simp at x0 x1
  have Hm := Lib.hid (hw0.sub (B := Lm ++ ((b, .cells #[(Value.int .i64 t.tries), .map (some m)] 123) :: F)) (by intro x; simp only [cnt_append, cnt_cons, cnt_nil, List.tail_cons, World.size_alloc, World.size_setCell, World.size_drew, List.setIfInBounds_toArray, List.set_cons_zero, List.set_cons_succ] <;> omega)); have HT := Lib.hid hT0; have Hw := Lib.hid hw
  clear hw hw0 hT0
  go_enter Tryz.func53, Tryz.ntmps53
  go_wp2_with fail
  refine (has_call b t id w _ F Hw.out HT.out).mono ?_
  rintro e w' ⟨rfl, rfl⟩
  obtain ⟨h, hh⟩ : ∃ h, t.has id = h := ⟨_, rfl⟩
  have Hh := Lib.hid hh
  rw [hh]; clear hh
  cases h
  · go_wp2
    refine bodyPost_ret (v := .bool false) (by simp [results, Tryz.results53, go_sem]) rfl ⟨by rw [Hh.out], _, ?_, Hw.out, Kin.refl _⟩
    rw [Tower.again, Hh.out]; exact HT.out
  · go_wp2
    go_still_tail 9, (by kernel_rfl)
    change wpList _ _ _ _ _ w'.drew
    go_wp2_with (refine wpList_update_map (enc := iV) (u := t.tries) rfl _ _ _ rfl rfl rfl rfl Hm.out.drew hM Tryz.underlying3 Tryz.underlying62 ?_; intro w2 L2 hM2 hw2 hk2 hs2)
    refine bodyPost_ret (v := .bool true) (by simp [results, Tryz.results53, go_sem]) rfl ⟨by rw [Hh.out], _, ?_, hw2.re (B := ((b, .cells #[(Value.int .i64 t.tries), .map (some m)] 123) :: L2) ++ F) (by intro x; simp only [cnt_append, cnt_cons, cnt_nil, List.tail_cons, World.size_alloc, World.size_setCell, World.size_drew, List.setIfInBounds_toArray, List.set_cons_zero, List.set_cons_succ] <;> omega), (Kin.refl w').drew.trans hk2⟩
    rw [Tower.again, Hh.out]
    exact ⟨hok.set id, m, L2, rfl, hM2⟩

set_option maxRecDepth 100000 in
theorem hang_call (b : Nat) (t : Tower) (id : Int) (w : World) (L F : HL) (hw : Has w (L ++ F)) (hT : TowerR b t L) :
    Calls Tryz.prog 44 #[.pointer (some ⟨b, 0, none⟩), (Value.int .i64 id)] w fun e w' => e = .returned (.bool (t.hangs id)) ∧ ∃ L', TowerR b (t.hang id) L' ∧ Has w' (L' ++ F) ∧ Kin w w' := by
  have hT0 := hT
  obtain ⟨hok, m, Lm, rfl, hM⟩ := hT
  have hw0 : Has w ((b, .cells #[(Value.int .i64 t.tries), .map (some m)] 123) :: (Lm ++ F)) := hw
  have p0 := hw0.lth
  have x0 := (hw0).cellh 0; have x1 := (hw0).cellh 1; simp at x0 x1
  have Hm := Lib.hid (hw0.sub (B := Lm ++ ((b, .cells #[(Value.int .i64 t.tries), .map (some m)] 123) :: F)) (by intro x; simp only [cnt_append, cnt_cons, cnt_nil, List.tail_cons, World.size_alloc, World.size_setCell, World.size_drew, List.setIfInBounds_toArray, List.set_cons_zero, List.set_cons_succ] <;> omega)); have HT := Lib.hid hT0; have Hw := Lib.hid hw
  clear hw hw0 hT0
  go_enter Tryz.func44, Tryz.ntmps44
  by_cases h1 : id < 1
  · go_wp2_with fail
    have e : t.hangs id = false := by simp [Tower.hangs, h1]
    refine bodyPost_ret (v := .bool false) (by simp [results, Tryz.results44, go_sem]) rfl ⟨by rw [e], _, ?_, Hw.out, Kin.refl _⟩
    rw [Tower.hang, e]; exact HT.out
  · by_cases h2 : 999 < id
    · go_wp2_with fail
      have e : t.hangs id = false := by simp [Tower.hangs, h2]
      refine bodyPost_ret (v := .bool false) (by simp [results, Tryz.results44, go_sem]) rfl ⟨by rw [e], _, ?_, Hw.out, Kin.refl _⟩
      rw [Tower.hang, e]; exact HT.out
    · go_wp2_with fail
      refine (has_call b t id w _ F Hw.out HT.out).mono ?_
      rintro e w' ⟨rfl, rfl⟩
      obtain ⟨h, hh⟩ : ∃ h, t.has id = h := ⟨_, rfl⟩
      have Hh := Lib.hid hh
      rw [hh]; clear hh
      cases h
      · go_wp2
        go_still_tail 9, (by kernel_rfl)
        change wpList _ _ _ _ _ w'.drew
        go_wp2_with (refine wpList_update_map (enc := iV) (u := t.tries) rfl _ _ _ rfl rfl rfl rfl Hm.out.drew hM Tryz.underlying3 Tryz.underlying62 ?_; intro w2 L2 hM2 hw2 hk2 hs2)
        have e : t.hangs id = true := by simp [Tower.hangs, h1, h2, Hh.out]
        refine bodyPost_ret (v := .bool true) (by simp [results, Tryz.results44, go_sem]) rfl ⟨by rw [e], _, ?_, hw2.re (B := ((b, .cells #[(Value.int .i64 t.tries), .map (some m)] 123) :: L2) ++ F) (by intro x; simp only [cnt_append, cnt_cons, cnt_nil, List.tail_cons, World.size_alloc, World.size_setCell, World.size_drew, List.setIfInBounds_toArray, List.set_cons_zero, List.set_cons_succ] <;> omega), (Kin.refl w').drew.trans hk2⟩
        rw [Tower.hang, e]
        exact ⟨hok.set id, m, L2, rfl, hM2⟩
      · go_wp2
        have e : t.hangs id = false := by simp [Tower.hangs, Hh.out]
        refine bodyPost_ret (v := .bool false) (by simp [results, Tryz.results44, go_sem]) rfl ⟨by rw [e], _, ?_, Hw.out, Kin.refl _⟩
        rw [Tower.hang, e]; exact HT.out

theorem Tower.ok.get {t : Tower} (h : t.ok) {id n : Int} (hg : mget t.left id = some n) : 0 ≤ n ∧ n ≤ 20 := h.2.2 _ (mem_of_mget hg)
set_option maxRecDepth 100000 in
theorem ring_call (b : Nat) (t : Tower) (id : Int) (w : World) (L F : HL) (hw : Has w (L ++ F)) (hT : TowerR b t L) :
    Calls Tryz.prog 52 #[.pointer (some ⟨b, 0, none⟩), (Value.int .i64 id)] w fun e w' => e = .returned (.tuple #[.bool (t.has id), .bool (t.often id)]) ∧ ∃ L', TowerR b (t.ring id) L' ∧ Has w' (L' ++ F) ∧ Kin w w' := by
  have hT0 := hT
  obtain ⟨hok, m, Lm, rfl, hM⟩ := hT
  have hw0 : Has w ((b, .cells #[(Value.int .i64 t.tries), .map (some m)] 123) :: (Lm ++ F)) := hw
  have p0 := hw0.lth
  have x0 := (hw0).cellh 0; have x1 := (hw0).cellh 1; simp at x0 x1
  have Hm := Lib.hid (hw0.sub (B := Lm ++ ((b, .cells #[(Value.int .i64 t.tries), .map (some m)] 123) :: F)) (by intro x; simp only [cnt_append, cnt_cons, cnt_nil, List.tail_cons, World.size_alloc, World.size_setCell, World.size_drew, List.setIfInBounds_toArray, List.set_cons_zero, List.set_cons_succ] <;> omega)); have HT := Lib.hid hT0; have Hw := Lib.hid hw
  clear hw hw0 hT0
  go_enter Tryz.func52, Tryz.ntmps52
  go_wp2_with fail
  refine (has_call b t id w _ F Hw.out HT.out).mono ?_
  rintro e w' ⟨rfl, rfl⟩
  obtain ⟨g, hg⟩ : ∃ g, mget t.left id = g := ⟨_, rfl⟩
  cases g with
  | none =>
    have hh : t.has id = false := by simp [Tower.has, hg]
    have ho : t.often id = false := by simp [Tower.often, hg]
    rw [hh]
    have Hg := Lib.hid hg; have Hh := Lib.hid hh; have Ho := Lib.hid ho; clear hg hh ho
    go_wp2
    refine bodyPost_ret (v := .tuple #[.bool false, .bool false]) (by simp [results, Tryz.results52, go_sem]) rfl ⟨by rw [Hh.out, Ho.out], _, ?_, Hw.out, Kin.refl _⟩
    rw [Tower.ring, Hg.out]; exact HT.out
  | some n =>
    have hh : t.has id = true := by simp [Tower.has, hg]
    have hn := hok.get hg
    obtain ⟨hn0, hn1⟩ := hn
    rw [hh]
    have Hg := Lib.hid hg; have Hh := Lib.hid hh; clear hh
    by_cases hz : n = 0
    · subst hz
      have ho : t.often id = true := by simp [Tower.often, hg]
      have Ho := Lib.hid ho; clear ho
      go_wp2_with (at_lookup; refine wpList_lookup_map (enc := iV) rfl _ _ false rfl rfl rfl Hm.out hM Tryz.underlying3 Tryz.underlying62 (zero3 _) ?_; rw [Hg.out]; dsimp only [Option.map_some, Option.getD_some, iV, Bool.false_eq_true, if_false])
      refine bodyPost_ret (v := .tuple #[.bool true, .bool true]) (by simp [results, Tryz.results52, go_sem]) rfl ⟨by rw [Hh.out, Ho.out], _, ?_, Hw.out, Kin.refl _⟩
      rw [Tower.ring, Hg.out]; exact HT.out
    · have ho : t.often id = false := by simp [Tower.often, hg, hz]
      have Ho := Lib.hid ho; clear ho
      go_wp2_with (first | (at_lookup; refine wpList_lookup_map (enc := iV) rfl _ _ false rfl rfl rfl Hm.out hM Tryz.underlying3 Tryz.underlying62 (zero3 _) ?_; rw [Hg.out]; dsimp only [Option.map_some, Option.getD_some, iV, Bool.false_eq_true, if_false]) | (refine wpList_update_map (enc := iV) (u := n - 1) rfl _ _ _ rfl rfl rfl (by simp only [iV]; go_num) Hm.out hM Tryz.underlying3 Tryz.underlying62 ?_; intro w2 L2 hM2 hw2 hk2 hs2))
      refine bodyPost_ret (v := .tuple #[.bool true, .bool false]) (by simp [results, Tryz.results52, go_sem]) rfl ⟨by rw [Hh.out, Ho.out], _, ?_, hw2.re (B := ((b, .cells #[(Value.int .i64 t.tries), .map (some m)] 123) :: L2) ++ F) (by intro x; simp only [cnt_append, cnt_cons, cnt_nil, List.tail_cons, World.size_alloc, World.size_setCell, World.size_drew, List.setIfInBounds_toArray, List.set_cons_zero, List.set_cons_succ] <;> omega), hk2⟩
      rw [Tower.ring, Hg.out]
      dsimp only
      rw [if_neg hz]
      refine ⟨⟨hok.1, hok.2.1, fun p hp => ?_⟩, m, L2, rfl, hM2⟩
      rcases mput_mem hp with rfl | hp
      · dsimp only; omega
      · exact hok.2.2 p hp

def clamp (lo hi n : Int) : Int := max lo (min n hi)
theorem anew_call (n : Int) (w : World) :
    Calls Tryz.prog 99 #[(Value.int .i64 n)] w fun e w' => e = .returned (.pointer (some ⟨w.heap.size, 0, none⟩)) ∧ w' = w.alloc (.cells #[(Value.int .i64 (clamp 1 20 n)), (Value.int .i64 0), (Value.int .i64 1)] 170) := by
  go_enter Tryz.func99, Tryz.ntmps99
  go_wp2
  all_goals refine bodyPost_ret (v := .pointer (some ⟨w.heap.size, 0, none⟩)) (by simp [results, Tryz.results99, go_sem]) rfl ⟨rfl, ?_⟩
  · rw [show clamp 1 20 n = 20 by unfold clamp; omega]
  · rw [show clamp 1 20 n = n by unfold clamp; omega]
  · rw [show clamp 1 20 n = 1 by unfold clamp; omega]
theorem aleft_call (b : Nat) (n x y : Int) (w : World) (F : HL) (hw : Has w ((b, .cells #[(Value.int .i64 n), (Value.int .i64 x), (Value.int .i64 y)] 170) :: F)) :
    Calls Tryz.prog 100 #[.pointer (some ⟨b, 0, none⟩)] w fun e w' => e = .returned ((Value.int .i64 n)) ∧ w' = w := by
  have p0 := hw.lth
  have x0 := (hw).cellh 0; have x1 := (hw).cellh 1; have x2 := (hw).cellh 2; simp at x0 x1 x2
  clear hw
  go_enter Tryz.func100, Tryz.ntmps100
  go_wp2
  refine bodyPost_ret (v := (Value.int .i64 n)) (by simp [results, Tryz.results100, go_sem]) rfl ⟨rfl, rfl⟩

def newTower (n : Int) : Tower := { tries := clamp 1 20 n, left := [] }
theorem bnew_call (n : Int) (w : World) (F : HL) (hw : Has w F) :
    Calls Tryz.prog 75 #[(Value.int .i64 n)] w fun e w' => ∃ b L, e = .returned (.pointer (some ⟨b, 0, none⟩)) ∧ TowerR b (newTower n) L ∧ Has w' (L ++ F) ∧ Kin w w' := by
  have Hw := Lib.hid hw; clear hw
  have hmk : ∀ w : World, (Instr.makeMap 62 none).run Tryz.prog w = .ok (.map (some w.heap.size)) (w.alloc (.map #[] 0)) := fun w => by simp [Instr.makeMap, run_underlying Tryz.underlying62]
  go_enter Tryz.func75, Tryz.ntmps75
  go_wp2_with (first
    | (go_at_call 99; refine (anew_call n _).mono ?_; rintro e w1 ⟨rfl, rfl⟩)
    | (go_at_call 100; refine (aleft_call _ _ _ _ _ F (Hw.out.alloc _)).mono ?_; rintro e w1 ⟨rfl, rfl⟩))
  refine bodyPost_ret (v := .pointer (some ⟨w.heap.size + 1 + 1, 0, none⟩)) (by simp [results, Tryz.results75, go_sem]) rfl
    ⟨_, (w.heap.size + 1 + 1, .cells #[(Value.int .i64 (clamp 1 20 n)), .map (some (w.heap.size + 1))] 123) :: [(w.heap.size + 1, .map #[] 0)], rfl, ⟨⟨?_, ?_, ?_⟩, _, _, rfl, _, _, rfl, MapE.empty 0⟩, ?_, ?_⟩
  · simp only [newTower, clamp]; omega
  · simp only [newTower, clamp]; omega
  · simp [newTower]
  · refine Has.sub (((Hw.out.alloc _).alloc _).alloc _) ?_
    intro x; simp only [cnt_append, cnt_cons, cnt_nil, List.tail_cons, World.size_alloc, World.size_setCell, World.size_drew, List.setIfInBounds_toArray, List.set_cons_zero, List.set_cons_succ] <;> omega
  · exact (((Kin.refl w).alloc _).alloc _).alloc _

end Go.Proofs.YtcfaimmcedpgiaaGreatDoor
