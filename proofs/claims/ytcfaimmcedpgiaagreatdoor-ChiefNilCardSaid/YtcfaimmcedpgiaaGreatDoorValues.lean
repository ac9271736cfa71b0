/-
  slices.Values at ints as an iterator; law22.ids of no chief. A lemma file: no statement of the seat is proved here.
-/
import Derived.Test.YtcfaimmcedpgiaaGreatDoorNils
import Derived.Test.YtcfaimmcedpgiaaGreatDoorIter
namespace Go.Proofs.YtcfaimmcedpgiaaGreatDoor
set_option linter.unusedVariables false
set_option linter.unusedSimpArgs false
open Go.RowKit

set_option maxHeartbeats 1000000 in
set_option maxRecDepth 100000 in
theorem values_it (l : List Int) (a : Option Addr) (cap cb : Nat) (hn : l.length < 1000000) :
    IterH Tryz.prog 88 #[.pointer (some ⟨cb, 0, none⟩)] (fun x : Int => #[(Value.int .i64 x)]) l (fun _ => [(cb, .cells #[.slice a l.length cap] 57)])
      (fun R => ∀ W M, Has W (M ++ R) → SlAt W iEnc 1 (.slice a l.length cap) l) := by
  intro n lp K Kx hK hY W R hR hW
  refine callsIn_of_wp Tryz.func88 rfl trivial ?_ rfl
  simp only [Tryz.ntmps88, List.size_toArray, List.length_cons, List.length_nil, Nat.reduceAdd, Nat.reduceSub, Array.replicate_succ, Array.replicate_zero, List.push_toArray, List.append_toArray, List.nil_append, List.cons_append]
  have hc0 := hW.cell (b := cb) (c := #[.slice a l.length cap]) (t := 57) (f := (0, 0)) (by simp) 0
  simp only [List.getElem?_toArray, List.getElem?_cons_zero] at hc0
  gi_wp2
  gi_loopw [7] (fun i wr => ∃ k : Nat, ∃ R', k ≤ l.length ∧ i = .int .i64 k ∧ K (l.take k) R' ∧ Has wr ([(cb, .cells #[.slice a l.length cap] 57)] ++ R') ∧ Kin W wr) (fun i _ => l.length - (intOf i).toNat)
  case atStart => exact ⟨0, R, Nat.zero_le _, rfl, by simpa using hR, hW, Kin.refl _⟩
  case round =>
    obtain ⟨k, R', hk, rfl, hKk, hwr, hkin⟩ := hrel
    have Hwr := Lib.hid hwr; clear hwr
    by_cases hlt : k < l.length
    · obtain ⟨s, hs⟩ : ∃ s, l[k]? = some s := ⟨l[k], by simp [hlt]⟩
      have htk : l.take (k + 1) = l.take k ++ [s] := by rw [List.take_add_one, hs]; rfl
      have hsp : l = l.take k ++ s :: l.drop (k + 1) := by
        conv => lhs; rw [← List.take_append_drop (k + 1) l, htk]
        simp
      obtain ⟨fn, tmps, assign, body, hy, hRd⟩ := hY _ s _ wr R' hsp hKk Hwr.out
      rcases hK _ R' hKk wr [(cb, .cells #[.slice a l.length cap] 57)] Hwr.out with ⟨h0, h1⟩ | ⟨b', off, cap', h0, hcs⟩
      · rw [h1] at hlt; simp at hlt
      · obtain rfl : a = some ⟨b', off, none⟩ := by simpa using (Value.slice.inj h0).1
        have c0 := hcs k s hs 0 ((Value.int .i64 s)) rfl
        simp only [Nat.add_zero, Nat.mul_one] at c0
        have Htk := Lib.hid htk; have Hsp := Lib.hid hsp
        clear htk hsp hs h0 hcs
        have hkb : (k : Int) + 1 < 9223372036854775808 := by omega
        gi_wp2
        refine ⟨deep_wide, (roundIn_wide hRd).mono ?_⟩
        rintro e W3 ⟨hk3, (⟨rfl, R3, hK3, hh3⟩ | ⟨rfl, R3, hK3, hh3⟩)⟩
        · gi_wp2
          go_roundw
          case rel => exact ⟨k + 1, R3, by omega, by go_num, by rw [Htk.out]; exact hK3, hh3, hkin.trans hk3⟩
          case measure => simp [intOf]; omega
        · gi_wp2
          refine bodyPost_ret (results_none rfl _ _ _) rfl ?_
          exact ⟨⟨_, rfl⟩, hkin.trans hk3, .inr ⟨_, s :: l.drop (k + 1) |>.tail, R3, by rw [List.append_assoc]; exact Hsp.out, hK3, hh3.right⟩⟩
    · gi_wp2
      refine bodyPost_end (results_none rfl _ _ _) rfl ?_
      exact ⟨⟨_, rfl⟩, hkin, .inl ⟨R', by rwa [List.take_of_length_le (by omega)] at hKk, Hwr.out.right⟩⟩

set_option maxHeartbeats 1000000 in
set_option maxRecDepth 100000 in
theorem ids22_nil (k : Int) (w : World) :
    Calls Tryz.prog 21 #[.pointer none, (Value.int .i64 k)] w fun r w' => r = .returned (.slice none 0 0) ∧ Below w.heap.size w w' := by
  have Hw := Lib.hid (has_old w)
  have hq := fun (w : World) (fn : Fn) (lb rb : Array Value) => run_eql_func w fn lb rb
  refine (callsIn_wide (n := 5)).1 ?_
  refine callsIn_of_wp_marks Tryz.func21 rfl trivial ?_ rfl
  simp only [Tryz.ntmps21, List.size_toArray, List.length_cons, List.length_nil, Nat.reduceAdd, Nat.reduceSub, Array.replicate_succ, Array.replicate_zero, List.push_toArray, List.append_toArray, List.nil_append, List.cons_append]
  gi_wp2_with (refine ⟨trivial, ?_⟩; gi_at_call 27; go_loud (refine (callsIn_wide.2 (ids_nil0 _)).mono ?_; rintro e w' ⟨rfl, rfl⟩))
  have Hw3 := Lib.hid (((Hw.out.alloc (.cells #[(Value.int .i64 k)] 3)).alloc (.cells #[.slice none 0 0] 57)).alloc (.cells #[.slice none 0 0] 57))
  refine wpIn_range_has (gf := 88) rfl (enters_of Tryz.func88 (by kernel_rfl) rfl) (values_it [] none 0 (w.heap.size + 1 + 1) (by simp)) (fun _ => rfl)
    (fun pre L => L = (w.heap.size + 1, .cells #[.slice none 0 0] 57) :: (w.heap.size, .cells #[(Value.int .i64 k)] 3) :: oldBlocks w) (fun _ _ _ => False)
    ?hSh ((w.heap.size + 1, .cells #[.slice none 0 0] 57) :: (w.heap.size, .cells #[(Value.int .i64 k)] 3) :: oldBlocks w) rfl ?hw ?round ?done ?stop
  case hSh =>
    rintro pre L M rfl W M' hW
    exact .inl ⟨rfl, rfl⟩
  case hw =>
    have := Hw3.out
    simp only [World.size_alloc] at this ⊢
    exact this
  case round =>
    rintro l pre x post W B L hx
    simp at hx
  case done =>
    rintro D W L rfl hk hW
    have h1 := hW.re (B := (w.heap.size + 1, .cells #[.slice none 0 0] 57) :: (D, .deferred (some [])) :: (w.heap.size, .cells #[(Value.int .i64 k)] 3) :: oldBlocks w) (by intro x; simp only [cnt_append, cnt_cons, cnt_nil, List.tail_cons, World.size_alloc, World.size_setCell, World.size_drew, List.setIfInBounds_toArray, List.set_cons_zero, List.set_cons_succ] <;> omega)
    have r0 := h1.cellh 0; have p1 := h1.lth
    simp at r0
    have HW := Lib.hid hW
    clear h1 hW hq
    gi_wp2
    have g4 := HW.out.putObj (.deferred none)
    refine ⟨by simp, .inl ⟨_, _, rfl, run_takeDeferred HW.out.head, ?_⟩⟩
    refine ⟨.slice none 0 0, by simp [results, Tryz.results21, go_sem], rfl, below_of_has (L := (D, .deferred none) :: (w.heap.size + 1, .cells #[.slice none 0 0] 57) :: (w.heap.size, .cells #[(Value.int .i64 k)] 3) :: []) g4 ?_⟩
    exact ((((Kin.refl w).alloc _).alloc _).alloc _).trans (hk.putObj _ _)
  case stop =>
    rintro D c pre post W L hx hF
    exact hF.elim

end Go.Proofs.YtcfaimmcedpgiaaGreatDoor
