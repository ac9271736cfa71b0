/-
  law22: awake: the contract. A lemma file: no statement of the seat is proved here.
-/
import Derived.Test.YtcfaimmcedpgiaaGreatDoorChief10
import Derived.Test.YtcfaimmcedpgiaaGreatDoorChief12
import Derived.Test.YtcfaimmcedpgiaaGreatDoorChief13
import Derived.KernelRfl
namespace Go.Proofs.YtcfaimmcedpgiaaGreatDoor
set_option linter.unusedVariables false
set_option linter.unusedSimpArgs false
open Go.RowKit

def o7 : Order := { id := 7, item := 0, qty := 1, client := 0, price := 1, steps := [] }
def c7 : Chief := newChief 5 50 3
def c7b : Chief := (c7.begin o7).2
def x7 : Led := { o := o7, f := { noFacts with asked := true }, t := some ⟨[0, 0], false, false⟩ }
def m7 : Msg := { kind := 8, frm := 2, dest := 0, id := 7, step := 0, a := 0, b := 0 }
def c7c : Chief := (c7b.votes x7 m7).2
theorem a7_err : (c7.begin o7).1.2 = 0 := by kernel_rfl
theorem a7_len : (c7.begin o7).1.1.map (·.kind) = [6, 6] := by kernel_rfl
theorem a7_led : mget c7b.l 7 = some x7 := by kernel_rfl
theorem a7_used : c7b.used = 2 := by kernel_rfl
theorem a7_down : c7b.j.down = false := by kernel_rfl
theorem a7_votes : (c7b.votes x7 m7).1.map (·.kind) = [10, 10] := by kernel_rfl
theorem a7_used2 : c7c.used = 3 := by kernel_rfl
theorem a7_state : c7c.state 7 = 4 := by kernel_rfl

theorem two_of_map {ms : List Msg} {a b : Int} (h : ms.map (·.kind) = [a, b]) : ∃ m n, ms = [m, n] ∧ m.kind = a ∧ n.kind = b := by
  match ms, h with
  | [m, n], h =>
    simp only [List.map_cons, List.map_nil, List.cons.injEq, and_true] at h
    exact ⟨m, n, rfl, h.1, h.2⟩

set_option maxRecDepth 100000 in
set_option maxHeartbeats 1600000 in
theorem awake22_call (w : World) (F : HL) (hw : Has w F) (hT : Tab F) :
    Calls Tryz.prog 25 #[] w fun r w' => r = .returned (.bool true) ∧ Has w' F ∧ Kin w w' := by
  have Hw := Lib.hid hw; have HT := Lib.hid hT
  clear hw hT
  go_enter Tryz.func25, Tryz.ntmps25
  go_wp2_with fail
  refine (cnew_call 5 50 3 _ F Hw.out).mono ?_
  rintro r w1 ⟨b, L1, rfl, hC1, hw1, hk1⟩
  have HC1 := Lib.hid hC1; have Hw1 := Lib.hid hw1; have Hk1 := Lib.hid hk1
  clear hC1 hw1 hk1
  go_wp2_with fail
  refine (begin_call b c7 o7 (.slice none 0 0) w1 L1 F Hw1.out HC1.out HT.out (fun _ _ _ => .inl ⟨rfl, rfl⟩) (by decide) (by decide) (by decide)).mono ?_
  rintro r w2 ⟨ps, v1, Lv1, L2, rfl, hV1, hQ2, hw2, hk2⟩
  rw [a7_err]
  obtain ⟨m0, m1, hms, hm0, hm1⟩ := two_of_map a7_len
  rw [hms] at hV1
  obtain ⟨a1, cap1, hv1⟩ := hV1.val
  subst hv1
  have HV1 := Lib.hid hV1; have HQ2 := Lib.hid hQ2; have Hw2 := Lib.hid hw2; have Hk2 := Lib.hid hk2; have Hm0 := Lib.hid hm0
  clear hV1 hQ2 hw2 hk2 hms hm0 hm1
  go_wp2_with fail
  refine (handle_vote b c7b x7 m7 w2 L2 (Lv1 ++ F) (Hw2.out.re (by intro x; simp only [cnt_append, cnt_cons, cnt_nil, List.tail_cons, World.size_alloc, World.size_setCell, World.size_drew, List.setIfInBounds_toArray, List.set_cons_zero, List.set_cons_succ] <;> omega)) HQ2.out.r (fun W M h => HT.out W (M ++ Lv1) (h.re (by intro x; simp only [cnt_append, cnt_cons, cnt_nil, List.tail_cons, World.size_alloc, World.size_setCell, World.size_drew, List.setIfInBounds_toArray, List.set_cons_zero, List.set_cons_succ] <;> omega))) a7_led rfl (by rw [a7_used]; decide) (fun t h => by cases h; rfl) a7_down rfl (.inr rfl)).mono ?_
  rintro r w3 ⟨ps3, v2, Lv2, L3, rfl, hV2, hQ3, hw3, hk3⟩
  obtain ⟨n0, n1, hns, hn0, hn1⟩ := two_of_map a7_votes
  rw [hns] at hV2
  obtain ⟨a2, cap2, hv2⟩ := hV2.val
  subst hv2
  have c1 : ∃ b1 o1, a1 = some ⟨b1, o1, none⟩ ∧ w3.cell? ⟨b1, o1, none⟩ = some ((Value.int .i64 6)) := by
    rcases HV1.out.at encMsg (w := w3) (F := Lv2 ++ L3 ++ F) (hw3.re (by intro x; simp only [cnt_append, cnt_cons, cnt_nil, List.tail_cons, World.size_alloc, World.size_setCell, World.size_drew, List.setIfInBounds_toArray, List.set_cons_zero, List.set_cons_succ] <;> omega)) with ⟨_, h⟩ | ⟨b1, o1, _, h, hc⟩
    · cases h
    · have := hc 0 m0 rfl 0 ((Value.int .i64 m0.kind)) rfl
      simp only [Nat.add_zero, Nat.zero_mul] at this
      rw [Hm0.out] at this
      exact ⟨b1, o1, (Value.slice.inj h).1, this⟩
  have c2 : ∃ b2 o2, a2 = some ⟨b2, o2, none⟩ ∧ w3.cell? ⟨b2, o2 + 7, none⟩ = some ((Value.int .i64 10)) := by
    rcases hV2.at encMsg (w := w3) (F := L3 ++ (Lv1 ++ F)) (hw3.re (by intro x; simp only [cnt_append, cnt_cons, cnt_nil, List.tail_cons, World.size_alloc, World.size_setCell, World.size_drew, List.setIfInBounds_toArray, List.set_cons_zero, List.set_cons_succ] <;> omega)) with ⟨_, h⟩ | ⟨b2, o2, _, h, hc⟩
    · cases h
    · have := hc 1 n1 rfl 0 ((Value.int .i64 n1.kind)) rfl
      simp only [Nat.add_zero, Nat.one_mul] at this
      rw [hn1] at this
      exact ⟨b2, o2, (Value.slice.inj h).1, this⟩
  obtain ⟨b1, o1, rfl, c1⟩ := c1
  obtain ⟨b2, o2, rfl, c2⟩ := c2
  have HQ3 := Lib.hid hQ3; have Hw3 := Lib.hid (hw3.re (B := L3 ++ (Lv2 ++ Lv1 ++ F)) (by intro x; simp only [cnt_append, cnt_cons, cnt_nil, List.tail_cons, World.size_alloc, World.size_setCell, World.size_drew, List.setIfInBounds_toArray, List.set_cons_zero, List.set_cons_succ] <;> omega)); have Hk3 := Lib.hid hk3
  clear hV2 hQ3 hw3 hk3 hns hn0 hn1
  go_wp2_with fail
  refine (cstate_call b c7c 7 w3 L3 (Lv2 ++ Lv1 ++ F) Hw3.out HQ3.out.r (by rw [a7_used2]; decide)).mono ?_
  rintro r w4 ⟨rfl, hb4⟩
  rw [a7_state]
  have Hb4 := Lib.hid hb4
  clear hb4
  go_wp2
  exact bodyPost_ret (v := .bool true) (by simp [results, Tryz.results25, go_sem]) rfl ⟨rfl, (Hw3.out.below_all Hb4.out).sub (by intro x; simp only [cnt_append, cnt_cons, cnt_nil, List.tail_cons, World.size_alloc, World.size_setCell, World.size_drew, List.setIfInBounds_toArray, List.set_cons_zero, List.set_cons_succ] <;> omega), ((Hk1.out.trans Hk2.out).trans Hk3.out).trans (Kin.of_below Hb4.out)⟩

end Go.Proofs.YtcfaimmcedpgiaaGreatDoor
