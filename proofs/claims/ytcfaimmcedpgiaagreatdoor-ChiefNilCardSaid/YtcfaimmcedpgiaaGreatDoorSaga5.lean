/-
  saga: forward: the contract. A lemma file: no statement of the seat is proved here.
-/
import Derived.Test.YtcfaimmcedpgiaaGreatDoorSaga3
import Derived.Test.YtcfaimmcedpgiaaGreatDoorKeep
import Derived.Deep.RegionHeld3
import Derived.Deep.CutRange
import Derived.Deep.RegionWith
namespace Go.Proofs.YtcfaimmcedpgiaaGreatDoor
set_option linter.unusedVariables false
set_option linter.unusedSimpArgs false
open Go.RowKit

theorem tell_exact (kind to_ : Int) (o : Order) (sl : Value) (w : World) :
    Calls Tryz.prog 112 #[(Value.int .i64 kind), (Value.int .i64 to_), .agg (o.cells sl)] w fun e w' => e = .returned (.agg #[(Value.int .i64 kind), (Value.int .i64 0), (Value.int .i64 to_), (Value.int .i64 o.id), (Value.int .i64 0), (Value.int .i64 0), (Value.int .i64 0)]) ∧ w' = (w.alloc (.cells (o.cells sl) 27)).alloc (.cells #[(Value.int .i64 kind), (Value.int .i64 0), (Value.int .i64 to_), (Value.int .i64 o.id), (Value.int .i64 0), (Value.int .i64 0), (Value.int .i64 0)] 39) := by
  unfold Order.cells
  go_enter Tryz.func112, Tryz.ntmps112
  go_wp2
  refine bodyPost_ret (v := .agg #[(Value.int .i64 kind), (Value.int .i64 0), (Value.int .i64 to_), (Value.int .i64 o.id), (Value.int .i64 0), (Value.int .i64 0), (Value.int .i64 0)]) (by simp [results, Tryz.results112, go_sem]) rfl ⟨rfl, ?_⟩
  have e : w.heap.size + 1 = (w.alloc (.cells #[(Value.int .i64 o.id), (Value.int .i64 o.item), (Value.int .i64 o.qty), (Value.int .i64 o.client), (Value.int .i64 o.price), sl] 27)).heap.size := by simp
  simp only [e, setCell_alloc]
def doMsg (o : Order) (i : Nat) (s : Step) : Msg := { kind := 1, frm := 0, dest := s.sv, id := o.id, step := i, a := s.n, b := 0 }
def prepM (o : Order) : List Msg := [{ kind := 6, frm := 0, dest := 1, id := o.id, step := 0, a := o.item, b := o.qty }, { kind := 6, frm := 0, dest := 2, id := o.id, step := 0, a := o.client, b := o.price }]
def fwdM (o : Order) (f : Facts) : List Msg :=
  match o.steps.zipIdx.find? (fun x => f.done[x.2]? == some false) with
  | some (s, i) => [doMsg o i s]
  | none => prepM o
theorem find_zip {β : Type} {l : List β} {p : β × Nat → Bool} {k : Nat} {x : β} (hk : l[k]? = some x) (hp : p (x, k) = true) (hno : ∀ j y, j < k → l[j]? = some y → p (y, j) = false) : l.zipIdx.find? p = some (x, k) := by
  have hlt := (List.getElem?_eq_some_iff.1 hk).1
  rw [List.find?_eq_some_iff_getElem]
  refine ⟨hp, k, by simpa using hlt, ?_, fun j hj => ?_⟩
  · rw [List.getElem_zipIdx]; simp [(List.getElem?_eq_some_iff.1 hk).2]
  · rw [List.getElem_zipIdx]
    have := hno j l[j] hj (by simp)
    simpa using this
theorem find_zip_none {β : Type} {l : List β} {p : β × Nat → Bool} (hno : ∀ j y, l[j]? = some y → p (y, j) = false) : l.zipIdx.find? p = none := by
  rw [List.find?_eq_none]
  rintro ⟨y, j⟩ hm
  have := hno j y (List.mem_zipIdx_iff_getElem?.1 hm)
  simp [this]

set_option maxRecDepth 100000 in
set_option maxHeartbeats 3200000 in
theorem forward_call (o : Order) (f : Facts) (sl dv uv : Value) (w : World) (F : HL) (hw : Has w F) (hs : ∀ W M, Has W (M ++ F) → SlAt W Step.enc 2 sl o.steps) (hd : ∀ W M, Has W (M ++ F) → SlAt W bEnc 1 dv f.done) (hn : o.steps.length < 1000000) (hlen : f.done.length = o.steps.length) :
    Calls Tryz.prog 113 #[.agg (o.cells sl), .agg (f.cells dv uv)] w fun e w' => ∃ v L, e = .returned v ∧ SlR Msg.enc 7 39 v (fwdM o f) L ∧ Has w' (L ++ F) ∧ Kin w w' := by
  obtain ⟨a, cap, rfl⟩ := (hs w [] hw).len
  obtain ⟨a1, cap1, rfl⟩ := (hd w [] hw).len
  rw [hlen] at hd
  rw [hlen]
  unfold Order.cells Facts.cells
  have Hs := Lib.hid hs; have Hd := Lib.hid hd
  obtain ⟨b2, hb2⟩ : ∃ b2 : HL, b2 = (w.heap.size + 1, .cells #[.slice a1 o.steps.length cap1, uv, .bool f.asked, .bool f.yes, .bool f.turned, .bool f.ack0, .bool f.ack1, .bool f.shipped, .bool f.dmg0, .bool f.dmg1, .bool f.accepted] 53) :: (w.heap.size, .cells #[(Value.int .i64 o.id), (Value.int .i64 o.item), (Value.int .i64 o.qty), (Value.int .i64 o.client), (Value.int .i64 o.price), .slice a o.steps.length cap] 27) :: [] := ⟨_, rfl⟩
  have Hw := Lib.hid ((hw.alloc (.cells #[(Value.int .i64 o.id), (Value.int .i64 o.item), (Value.int .i64 o.qty), (Value.int .i64 o.client), (Value.int .i64 o.price), .slice a o.steps.length cap] 27)).alloc (.cells #[.slice a1 o.steps.length cap1, uv, .bool f.asked, .bool f.yes, .bool f.turned, .bool f.ack0, .bool f.ack1, .bool f.shipped, .bool f.dmg0, .bool f.dmg1, .bool f.accepted] 53))
  have Hb2 := Lib.hid hb2; have Hlen := Lib.hid hlen
  clear hw hs hd hb2 hlen
  go_enter Tryz.func113, Tryz.ntmps113
  go_wp2
  go_loopw [13] (fun i wr => ∃ k : Nat, ∃ G, k ≤ o.steps.length ∧ i = .int .i64 k ∧ (∀ j, j < k → f.done[j]? = some true) ∧ Has wr (b2 ++ F ++ G) ∧ Kin w wr) (fun i _ => o.steps.length - (intOf i).toNat)
  case atStart => exact ⟨0, [], Nat.zero_le _, rfl, fun j h => by omega, by have := Hw.out; rw [Hb2.out]; simpa using this, ((Kin.refl w).alloc _).alloc _⟩
  case round =>
    obtain ⟨k, G, hk, rfl, hall, hwr, hkin⟩ := hrel
    have h1 : Has wr (b2 ++ (F ++ G)) := hwr.re (by intro x; simp only [cnt_append, cnt_cons, cnt_nil, List.tail_cons, World.size_alloc, World.size_setCell, World.size_drew, List.setIfInBounds_toArray, List.set_cons_zero, List.set_cons_succ] <;> omega)
    rw [Hb2.out] at h1
    have p1 := h1.lth; have p0 := h1.tail.lth
    have y0 := h1.cellh 0
    have x0 := h1.tail.cellh 0; have x1 := h1.tail.cellh 1; have x2 := h1.tail.cellh 2; have x3 := h1.tail.cellh 3; have x4 := h1.tail.cellh 4; have x5 := h1.tail.cellh 5
    simp at y0 x0 x1 x2 x3 x4 x5
    have hle : w.heap.size ≤ wr.heap.size := by omega
    have hsl := Hs.out wr (b2 ++ G) (hwr.re (by intro x; simp only [cnt_append, cnt_cons, cnt_nil, List.tail_cons, World.size_alloc, World.size_setCell, World.size_drew, List.setIfInBounds_toArray, List.set_cons_zero, List.set_cons_succ] <;> omega))
    have hdl := Hd.out wr (b2 ++ G) (hwr.re (by intro x; simp only [cnt_append, cnt_cons, cnt_nil, List.tail_cons, World.size_alloc, World.size_setCell, World.size_drew, List.setIfInBounds_toArray, List.set_cons_zero, List.set_cons_succ] <;> omega))
    have Hwr := Lib.hid hwr; have Hall := Lib.hid hall
    clear h1 hwr hall
    by_cases hlt : k < o.steps.length
    · obtain ⟨s, hsk⟩ : ∃ s, o.steps[k]? = some s := ⟨o.steps[k], by simp [hlt]⟩
      obtain ⟨d, hdk⟩ : ∃ s, f.done[k]? = some s := ⟨f.done[k]'(by rw [Hlen.out]; exact hlt), by simp⟩
      rcases hsl with ⟨h0, h1⟩ | ⟨b', off, cap', h0, hcs⟩
      · rw [h1] at hlt; simp at hlt
      rcases hdl with ⟨h0', h1⟩ | ⟨b1', off1, cap1', h0', hcd⟩
      · have := Hlen.out; rw [h1] at this; simp at this; omega
      obtain rfl : a = some ⟨b', off, none⟩ := by simpa using (Value.slice.inj h0).1
      obtain rfl : a1 = some ⟨b1', off1, none⟩ := by simpa using (Value.slice.inj h0').1
      have c0 := hcs k s hsk 0 ((Value.int .i64 s.sv)) rfl
      have c1 := hcs k s hsk 1 ((Value.int .i64 s.n)) rfl
      have d0 := hcd k d hdk 0 (.bool d) rfl
      simp only [Nat.add_zero, Nat.mul_one] at c0 d0
      have bl := World.block_lt_of_cell? wr _ c0
      have bl1 := World.block_lt_of_cell? wr _ d0
      dsimp only at bl bl1
      have Hsk := Lib.hid hsk; have Hdk := Lib.hid hdk
      clear hcs hcd h0 h0' hsk hdk
      cases d
      · go_wp2_with fail
        refine (tell_exact 1 s.sv o (.slice (some ⟨b', off, none⟩) o.steps.length cap) _).mono ?_
        rintro e w1 ⟨rfl, rfl⟩
        unfold Order.cells
        go_wp2
        go_region
        all_goals go_wp2
        all_goals
          refine bodyPost_ret (v := .slice (some ⟨wr.heap.size + 1 + 1 + 1 + 1, 0, none⟩) 1 1) (by simp [results, Tryz.results113, go_sem]) rfl ⟨_, [(wr.heap.size + 1 + 1 + 1 + 1, .cells #[(Value.int .i64 1), (Value.int .i64 0), (Value.int .i64 s.sv), (Value.int .i64 o.id), (Value.int .i64 k), (Value.int .i64 s.n), (Value.int .i64 0)] 39)], rfl, ?_, ?_, ?_⟩
          rotate_left 1
          · refine Has.sub (Has.drew ((((((Hwr.out.alloc _).alloc _).alloc _).alloc _).alloc _))) ?_
            intro x; simp only [cnt_append, cnt_cons, cnt_nil, List.tail_cons, World.size_alloc, World.size_setCell, World.size_drew, List.setIfInBounds_toArray, List.set_cons_zero, List.set_cons_succ] <;> omega
          · exact (((((Kin.drew hkin).alloc _).alloc _).alloc _).alloc _).alloc _
          · rw [fwdM, find_zip (k := k) (x := s) Hsk.out (by simp [Hdk.out]) (fun j y hj hy => by rw [Hall.out j hj]; rfl)]
            exact SlR.lit encMsg rfl rfl (by decide)
      · go_wp2
        go_roundw
        case rel =>
          refine ⟨k + 1, (wr.heap.size, .cells #[(Value.int .i64 s.sv), (Value.int .i64 s.n)] 42) :: G, by omega, by go_num, ?_, (Hwr.out.alloc _).re (by intro x; simp only [cnt_append, cnt_cons, cnt_nil, List.tail_cons, World.size_alloc, World.size_setCell, World.size_drew, List.setIfInBounds_toArray, List.set_cons_zero, List.set_cons_succ] <;> omega), hkin.alloc _⟩
          intro j hj
          by_cases hjk : j = k
          · subst hjk; exact Hdk.out
          · exact Hall.out j (by omega)
        case measure => simp [intOf]; omega
    · clear hsl hdl
      have hall2 : o.steps.zipIdx.find? (fun x => f.done[x.2]? == some false) = none := find_zip_none fun j y hj => by
        rw [Hall.out j (by have := (List.getElem?_eq_some_iff.1 hj).1; omega)]; rfl
      have Hall2 := Lib.hid hall2; clear hall2
      have hbr := Below.refl wr.heap.size wr
      go_wp2
      go_cut [8, 9] from 36 (fun p q wx => ∃ b8 b9, p = .pointer (some ⟨b8, 0, none⟩) ∧ q = .pointer (some ⟨b9, 0, none⟩) ∧ Has wx ((b8, .cells #[(Value.int .i64 6), (Value.int .i64 0), (Value.int .i64 1), (Value.int .i64 o.id), (Value.int .i64 0), (Value.int .i64 0), (Value.int .i64 0)] 39) :: (b9, .cells #[(Value.int .i64 6), (Value.int .i64 0), (Value.int .i64 2), (Value.int .i64 o.id), (Value.int .i64 0), (Value.int .i64 0), (Value.int .i64 0)] 39) :: (b2 ++ F)) ∧ Kin w wx)
      case first =>
        have Hk := Lib.hid hkin
        clear Hs Hd Hall2 hkin
        go_region_held3 (fun wx => wx.cell? ⟨w.heap.size, 0, none⟩ = some ((Value.int .i64 o.id)) ∧ wx.cell? ⟨w.heap.size, 1, none⟩ = some ((Value.int .i64 o.item)) ∧ wx.cell? ⟨w.heap.size, 2, none⟩ = some ((Value.int .i64 o.qty)) ∧ wx.cell? ⟨w.heap.size, 3, none⟩ = some ((Value.int .i64 o.client)) ∧ wx.cell? ⟨w.heap.size, 4, none⟩ = some ((Value.int .i64 o.price)) ∧ wx.cell? ⟨w.heap.size, 5, none⟩ = some (.slice a o.steps.length cap)) ((repeat' apply And.intro) <;> (repeat' (first | with_reducible assumption | with_reducible refine cell_alloc_keep _ ?_ | with_reducible refine cell_drew_keep ?_ | with_reducible refine cell_set_keep ?_ ?_ | (simp only [World.size_alloc, World.size_setCell, World.size_drew]; omega)))) (first | (go_at_call 112; refine (tell_exact _ _ o _ _).mono ?_; rintro e w1 ⟨rfl, rfl⟩; unfold Order.cells))
        all_goals
          go_wp2
          go_meet
          case rel =>
            refine ⟨_, _, rfl, rfl, ?_, ?_⟩
            · refine Has.sub (Has.drew ((((((Hwr.out.alloc _).alloc _).alloc _).alloc _).alloc _).alloc _)) ?_
              intro x; simp only [cnt_cons, cnt_append, cnt_nil, World.size_alloc]; omega
            · exact (((((((Kin.drew Hk.out).alloc _).alloc _).alloc _).alloc _).alloc _).alloc _)
      case rest =>
        obtain ⟨b8, b9, rfl, rfl, hwx, hkx⟩ := hcut
        rw [Hb2.out] at hwx
        have p8 := hwx.lth; have p9 := hwx.tail.lth
        have f8 := hwx.freeh 5; have f8' := hwx.freeh 6; have f9 := hwx.tail.freeh 5; have f9' := hwx.tail.freeh 6
        have c80 := (hwx).cellh 0; have c81 := (hwx).cellh 1; have c82 := (hwx).cellh 2; have c83 := (hwx).cellh 3; have c84 := (hwx).cellh 4; have c85 := (hwx).cellh 5; have c86 := (hwx).cellh 6; simp at c80 c81 c82 c83 c84 c85 c86
        have c90 := (hwx.tail).cellh 0; have c91 := (hwx.tail).cellh 1; have c92 := (hwx.tail).cellh 2; have c93 := (hwx.tail).cellh 3; have c94 := (hwx.tail).cellh 4; have c95 := (hwx.tail).cellh 5; have c96 := (hwx.tail).cellh 6; simp at c90 c91 c92 c93 c94 c95 c96
        have y := hwx.tail.tail.tail
        have n1 : b9 ≠ b8 := hwx.ne (.head _); have n2 : w.heap.size ≠ b8 := hwx.ne (.tail _ (.tail _ (.head _))); have n3 : w.heap.size ≠ b9 := hwx.tail.ne (.tail _ (.head _))
        have n1' := Ne.symm n1; have n2' := Ne.symm n2; have n3' := Ne.symm n3
        have p0 := y.lth
        have x0 := y.cellh 0; have x1 := y.cellh 1; have x2 := y.cellh 2; have x3 := y.cellh 3; have x4 := y.cellh 4; have x5 := y.cellh 5
        simp at x0 x1 x2 x3 x4 x5
        have Hwx := Lib.hid hwx; have Hkx := Lib.hid hkx; clear y hwx hkx
        go_wp2
        go_region
        all_goals go_wp2
        all_goals go_region
        all_goals go_wp2
        all_goals
          refine bodyPost_ret (v := .slice (some ⟨wc.heap.size, 0, none⟩) 2 2) (by simp [results, Tryz.results113, go_sem]) rfl ⟨_, [(wc.heap.size, .cells #[(Value.int .i64 6), (Value.int .i64 0), (Value.int .i64 1), (Value.int .i64 o.id), (Value.int .i64 0), (Value.int .i64 o.item), (Value.int .i64 o.qty), (Value.int .i64 6), (Value.int .i64 0), (Value.int .i64 2), (Value.int .i64 o.id), (Value.int .i64 0), (Value.int .i64 o.client), (Value.int .i64 o.price)] 39)], rfl, ?_, ?_, ?_⟩
          · rw [fwdM, Hall2.out]
            exact SlR.lit encMsg rfl rfl (by decide)
          · refine Has.sub ((((((Hwx.out.setCell 5 _).setCell 6 _).swap.setCell 5 _).setCell 6 _).alloc _).drew.drew) ?_
            intro x; simp only [cnt_append, cnt_cons, cnt_nil, List.tail_cons, World.size_alloc, World.size_setCell, World.size_drew, List.setIfInBounds_toArray, List.set_cons_zero, List.set_cons_succ] <;> omega
          · exact (((((Hkx.out.setCell _ _).setCell _ _).setCell _ _).setCell _ _).alloc _).drew.drew

end Go.Proofs.YtcfaimmcedpgiaaGreatDoor
