/-
  The library's iterators over slices: slices.Backward at []Step and []bool, slices.Values at []int. No condition but lengths. A lemma file: no statement of the seat is proved here.
-/
import Derived.Test.YtcfaimmcedpgiaaGreatDoorRange
import Derived.Shelf.Abstract
import Derived.OwnWalkIn
import Derived.TacticsInMore
import Derived.LoopNIn
import Derived.LoopIn
namespace Go.Proofs.YtcfaimmcedpgiaaGreatDoor
set_option linter.unusedVariables false
set_option linter.unusedSimpArgs false
open Go.RowKit

/-- What Backward yields: the last one first, each with its place. -/
def bwd {β : Type} (l : List β) : List (β × Nat) := l.zipIdx.reverse
theorem bwd_split {β : Type} {l : List β} {k : Nat} {s : β} (hs : l[k]? = some s) : bwd l = (bwd l).take (l.length - 1 - k) ++ (s, k) :: (bwd l).drop (l.length - k) := by
  have hk := (List.getElem?_eq_some_iff.1 hs).1
  have hlen : (bwd l).length = l.length := by simp [bwd]
  have hget : (bwd l)[l.length - 1 - k]? = some (s, k) := by
    unfold bwd
    rw [List.getElem?_reverse (by simp; omega)]
    simp only [List.length_zipIdx]
    rw [show l.length - 1 - (l.length - 1 - k) = k by omega]
    rw [List.getElem?_zipIdx, hs]; simp
  have h1 : l.length - 1 - k < (bwd l).length := by omega
  have h2 : (bwd l)[l.length - 1 - k] = (s, k) := by simpa [List.getElem?_eq_getElem h1] using hget
  calc bwd l = (bwd l).take (l.length - 1 - k) ++ (bwd l).drop (l.length - 1 - k) := (List.take_append_drop _ _).symm
    _ = _ := by rw [List.drop_eq_getElem_cons h1, h2]; congr 2; congr 1; omega

theorem bwd_mem {β : Type} {l : List β} {x : β} {i : Nat} {pre post : List (β × Nat)} (h : bwd l = pre ++ (x, i) :: post) : l[i]? = some x := by
  have : (x, i) ∈ bwd l := by rw [h]; simp
  unfold bwd at this
  rw [List.mem_reverse] at this
  exact List.mem_zipIdx_iff_getElem?.1 this

def Step.agg (s : Step) : Value := .agg #[(Value.int .i64 s.sv), (Value.int .i64 s.n)]
set_option maxHeartbeats 1000000 in
set_option maxRecDepth 100000 in
theorem backward_step (a : Option Addr) (n cap : Nat) (w : World) : Calls Tryz.prog 129 #[.slice a n cap] w fun e w' => e = .returned (.func (.func 156) #[] #[.pointer (some ⟨w.heap.size, 0, none⟩)]) ∧ w.alloc (.cells #[.slice a n cap] 25) = w' := by
  go_enter Tryz.func129, Tryz.ntmps129
  go_wp2
  go_ret
  exact ⟨rfl, rfl⟩

set_option maxHeartbeats 1000000 in
set_option maxRecDepth 100000 in
theorem backward_it_step (l : List Step) (a : Option Addr) (cap cb : Nat) (hn : l.length < 1000000) :
    IterH Tryz.prog 156 #[.pointer (some ⟨cb, 0, none⟩)] (fun x : Step × Nat => #[(Value.int .i64 x.2), Step.agg x.1]) (bwd l) (fun _ => [(cb, .cells #[.slice a l.length cap] 25)])
      (fun R => ∀ W M, Has W (M ++ R) → SlAt W Step.enc 2 (.slice a l.length cap) l) := by
  intro n lp K Kx hK hY W R hR hW
  refine callsIn_of_wp Tryz.func156 rfl trivial ?_ rfl
  simp only [Tryz.ntmps156, List.size_toArray, List.length_cons, List.length_nil, Nat.reduceAdd, Nat.reduceSub, Array.replicate_succ, Array.replicate_zero, List.push_toArray, List.append_toArray, List.nil_append, List.cons_append]
  have hc0 := hW.cell (b := cb) (c := #[.slice a l.length cap]) (t := 25) (f := (0, 0)) (by simp) 0
  simp only [List.getElem?_toArray, List.getElem?_cons_zero] at hc0
  gi_wp2
  gi_loopw [3] (fun i wr => ∃ k : Nat, ∃ R', k ≤ l.length ∧ i = .int .i64 ((k : Int) - 1) ∧ K ((bwd l).take (l.length - k)) R' ∧ Has wr ([(cb, .cells #[.slice a l.length cap] 25)] ++ R') ∧ Kin W wr) (fun i _ => (intOf i + 1).toNat)
  case atStart => exact ⟨l.length, R, Nat.le_refl _, rfl, by simpa using hR, hW, Kin.refl _⟩
  case round =>
    obtain ⟨k, R', hk, rfl, hKk, hwr, hkin⟩ := hrel
    have hc1 := hwr.cell (b := cb) (c := #[.slice a l.length cap]) (t := 25) (f := (0, 0)) (by simp) 0
    simp only [List.getElem?_toArray, List.getElem?_cons_zero] at hc1
    have Hwr := Lib.hid hwr; clear hwr
    cases k with
    | zero =>
      gi_wp2
      refine bodyPost_end (results_none rfl _ _ _) rfl ?_
      exact ⟨⟨_, rfl⟩, hkin, .inl ⟨R', by have : (bwd l).take (l.length - 0) = bwd l := List.take_of_length_le (by simp [bwd]); rwa [this] at hKk, Hwr.out.right⟩⟩
    | succ k =>
      have hlt : k < l.length := by omega
      obtain ⟨s, hs⟩ : ∃ s, l[k]? = some s := ⟨l[k], by simp [hlt]⟩
      have hsp := bwd_split hs
      obtain ⟨fn, tmps, assign, body, hy, hRd⟩ := hY _ (s, k) _ wr R' hsp (by rw [show l.length - 1 - k = l.length - (k + 1) by omega]; exact hKk) Hwr.out
      have ek : (((k + 1 : Nat) : Int) - 1) = (k : Int) := by omega
      rw [ek]
      rcases hK _ R' hKk wr [(cb, .cells #[.slice a l.length cap] 25)] Hwr.out with ⟨h0, h1⟩ | ⟨b', off, cap', h0, hcs⟩
      · rw [h1] at hlt; simp at hlt
      · obtain rfl : a = some ⟨b', off, none⟩ := by simpa using (Value.slice.inj h0).1
        have Hs := Lib.hid hs; clear hs; have Hsp := Lib.hid hsp; clear hsp; clear ek h0
        have c0 := hcs k s Hs.out 0 ((Value.int .i64 s.sv)) rfl; have c1 := hcs k s Hs.out 1 ((Value.int .i64 s.n)) rfl; simp only [Nat.add_zero] at c0; simp only [Step.agg] at hy
        clear hcs
        gi_wp2
        refine ⟨deep_wide, (roundIn_wide hRd).mono ?_⟩
        rintro e W3 ⟨hk3, (⟨rfl, R3, hK3, hh3⟩ | ⟨rfl, R3, hK3, hh3⟩)⟩
        · gi_wp2
          go_roundw
          case rel =>
            refine ⟨k, R3, by omega, rfl, ?_, hh3, hkin.trans hk3⟩
            have : (bwd l).take (l.length - k) = (bwd l).take (l.length - 1 - k) ++ [(s, k)] := by
              conv => lhs; rw [Hsp.out]
              rw [List.take_append, List.take_of_length_le (by simp; omega)]
              congr 1
              have : l.length - k - ((bwd l).take (l.length - 1 - k)).length = 1 := by simp [bwd]; omega
              rw [this]; simp
            rw [this]; exact hK3
          case measure => simp [intOf]
        · gi_wp2
          refine bodyPost_ret (results_none rfl _ _ _) rfl ?_
          exact ⟨⟨_, rfl⟩, hkin.trans hk3, .inr ⟨_, (bwd l).drop (l.length - k), R3, by rw [List.append_assoc]; exact Hsp.out, hK3, hh3.right⟩⟩
set_option maxHeartbeats 1000000 in
set_option maxRecDepth 100000 in
theorem backward_bool (a : Option Addr) (n cap : Nat) (w : World) : Calls Tryz.prog 96 #[.slice a n cap] w fun e w' => e = .returned (.func (.func 118) #[] #[.pointer (some ⟨w.heap.size, 0, none⟩)]) ∧ w.alloc (.cells #[.slice a n cap] 50) = w' := by
  go_enter Tryz.func96, Tryz.ntmps96
  go_wp2
  go_ret
  exact ⟨rfl, rfl⟩

set_option maxHeartbeats 1000000 in
set_option maxRecDepth 100000 in
theorem backward_it_bool (l : List Bool) (a : Option Addr) (cap cb : Nat) (hn : l.length < 1000000) :
    IterH Tryz.prog 118 #[.pointer (some ⟨cb, 0, none⟩)] (fun x : Bool × Nat => #[(Value.int .i64 x.2), .bool x.1]) (bwd l) (fun _ => [(cb, .cells #[.slice a l.length cap] 50)])
      (fun R => ∀ W M, Has W (M ++ R) → SlAt W bEnc 1 (.slice a l.length cap) l) := by
  intro n lp K Kx hK hY W R hR hW
  refine callsIn_of_wp Tryz.func118 rfl trivial ?_ rfl
  simp only [Tryz.ntmps118, List.size_toArray, List.length_cons, List.length_nil, Nat.reduceAdd, Nat.reduceSub, Array.replicate_succ, Array.replicate_zero, List.push_toArray, List.append_toArray, List.nil_append, List.cons_append]
  have hc0 := hW.cell (b := cb) (c := #[.slice a l.length cap]) (t := 50) (f := (0, 0)) (by simp) 0
  simp only [List.getElem?_toArray, List.getElem?_cons_zero] at hc0
  gi_wp2
  gi_loopw [3] (fun i wr => ∃ k : Nat, ∃ R', k ≤ l.length ∧ i = .int .i64 ((k : Int) - 1) ∧ K ((bwd l).take (l.length - k)) R' ∧ Has wr ([(cb, .cells #[.slice a l.length cap] 50)] ++ R') ∧ Kin W wr) (fun i _ => (intOf i + 1).toNat)
  case atStart => exact ⟨l.length, R, Nat.le_refl _, rfl, by simpa using hR, hW, Kin.refl _⟩
  case round =>
    obtain ⟨k, R', hk, rfl, hKk, hwr, hkin⟩ := hrel
    have hc1 := hwr.cell (b := cb) (c := #[.slice a l.length cap]) (t := 50) (f := (0, 0)) (by simp) 0
    simp only [List.getElem?_toArray, List.getElem?_cons_zero] at hc1
    have Hwr := Lib.hid hwr; clear hwr
    cases k with
    | zero =>
      gi_wp2
      refine bodyPost_end (results_none rfl _ _ _) rfl ?_
      exact ⟨⟨_, rfl⟩, hkin, .inl ⟨R', by have : (bwd l).take (l.length - 0) = bwd l := List.take_of_length_le (by simp [bwd]); rwa [this] at hKk, Hwr.out.right⟩⟩
    | succ k =>
      have hlt : k < l.length := by omega
      obtain ⟨s, hs⟩ : ∃ s, l[k]? = some s := ⟨l[k], by simp [hlt]⟩
      have hsp := bwd_split hs
      obtain ⟨fn, tmps, assign, body, hy, hRd⟩ := hY _ (s, k) _ wr R' hsp (by rw [show l.length - 1 - k = l.length - (k + 1) by omega]; exact hKk) Hwr.out
      have ek : (((k + 1 : Nat) : Int) - 1) = (k : Int) := by omega
      rw [ek]
      rcases hK _ R' hKk wr [(cb, .cells #[.slice a l.length cap] 50)] Hwr.out with ⟨h0, h1⟩ | ⟨b', off, cap', h0, hcs⟩
      · rw [h1] at hlt; simp at hlt
      · obtain rfl : a = some ⟨b', off, none⟩ := by simpa using (Value.slice.inj h0).1
        have Hs := Lib.hid hs; clear hs; have Hsp := Lib.hid hsp; clear hsp; clear ek h0
        have c0 := hcs k s Hs.out 0 (.bool s) rfl; simp only [Nat.add_zero, Nat.mul_one] at c0
        clear hcs
        gi_wp2
        refine ⟨deep_wide, (roundIn_wide hRd).mono ?_⟩
        rintro e W3 ⟨hk3, (⟨rfl, R3, hK3, hh3⟩ | ⟨rfl, R3, hK3, hh3⟩)⟩
        · gi_wp2
          go_roundw
          case rel =>
            refine ⟨k, R3, by omega, rfl, ?_, hh3, hkin.trans hk3⟩
            have : (bwd l).take (l.length - k) = (bwd l).take (l.length - 1 - k) ++ [(s, k)] := by
              conv => lhs; rw [Hsp.out]
              rw [List.take_append, List.take_of_length_le (by simp; omega)]
              congr 1
              have : l.length - k - ((bwd l).take (l.length - 1 - k)).length = 1 := by simp [bwd]; omega
              rw [this]; simp
            rw [this]; exact hK3
          case measure => simp [intOf]
        · gi_wp2
          refine bodyPost_ret (results_none rfl _ _ _) rfl ?_
          exact ⟨⟨_, rfl⟩, hkin.trans hk3, .inr ⟨_, (bwd l).drop (l.length - k), R3, by rw [List.append_assoc]; exact Hsp.out, hK3, hh3.right⟩⟩

end Go.Proofs.YtcfaimmcedpgiaaGreatDoor
