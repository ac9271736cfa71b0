/-
  saga: what is known of an order and what it needs next: the contracts. A lemma file: no statement of the seat is proved here.
-/
import Derived.Test.YtcfaimmcedpgiaaGreatDoorLib
namespace Go.Proofs.YtcfaimmcedpgiaaGreatDoor
set_option linter.unusedVariables false
set_option linter.unusedSimpArgs false
open Go.RowKit

structure Facts where
  done : List Bool
  undone : List Bool
  asked : Bool
  yes : Bool
  turned : Bool
  ack0 : Bool
  ack1 : Bool
  shipped : Bool
  dmg0 : Bool
  dmg1 : Bool
  accepted : Bool
  deriving DecidableEq, Repr

def Facts.cells (f : Facts) (dv uv : Value) : Array Value :=
  #[dv, uv, .bool f.asked, .bool f.yes, .bool f.turned, .bool f.ack0, .bool f.ack1, .bool f.shipped, .bool f.dmg0, .bool f.dmg1, .bool f.accepted]

/-- Those that are so are the first ones. -/
def firstOk : List Bool → Bool
  | x :: y :: l => (x || !y) && firstOk (y :: l)
  | _ => true
def lastOk (l : List Bool) : Bool := firstOk l.reverse

def eitherB (x y : Bool) : Bool := x || y
def bothB (x y : Bool) : Bool := x && y
def fMay (o : Order) (f : Facts) : Bool :=
  if !o.may || f.done.length != o.steps.length || f.undone.length != o.steps.length || (f.yes && f.turned) then false
  else if f.yes && (hasB f.done false || hasB f.undone true || !f.asked) then false
  else if hasB f.undone true && !f.turned then false
  else if f.shipped && !f.yes then false
  else if (eitherB f.ack0 f.ack1 || eitherB f.dmg0 f.dmg1) && !f.yes && !f.turned then false
  else (firstOk f.done || f.turned) && lastOk f.undone
def fEnds (f : Facts) : Int :=
  if f.turned && bothB f.ack0 f.ack1 && !hasB f.undone false then 6
  else if f.turned then 4
  else if f.yes && bothB f.ack0 f.ack1 && f.shipped then 5
  else if f.yes then 3
  else if f.asked then 2
  else 1
def fState (o : Order) (f : Facts) : Int :=
  if !fMay o f then 0 else if eitherB f.dmg0 f.dmg1 && !f.accepted then 7 else fEnds f
def fOver (o : Order) (f : Facts) : Bool := fMay o f && (fEnds f == 5 || fEnds f == 6)

theorem fMay_len {o : Order} {f : Facts} (h1 : f.done.length = o.steps.length) (h2 : f.undone.length = o.steps.length) : fMay o f =
    (o.may && !(f.yes && f.turned) && !(f.yes && (hasB f.done false || hasB f.undone true || !f.asked)) && !(hasB f.undone true && !f.turned) && !(f.shipped && !f.yes) &&
      !((eitherB f.ack0 f.ack1 || eitherB f.dmg0 f.dmg1) && !f.yes && !f.turned) && ((firstOk f.done || f.turned) && lastOk f.undone)) := by
  unfold fMay
  simp only [h1, h2, bne_self_eq_false, Bool.or_false]
  cases o.may <;> cases f.yes <;> cases f.turned <;> cases hasB f.done false <;> cases hasB f.undone true <;> cases f.asked <;> cases f.shipped <;> cases eitherB f.ack0 f.ack1 <;> cases eitherB f.dmg0 f.dmg1 <;> simp
theorem either_call (x y : Bool) (w : World) : Calls Tryz.prog 87 #[.agg #[.bool x, .bool y]] w fun e w' => e = .returned (.bool (eitherB x y)) ∧ w.alloc (.cells #[.bool x, .bool y] 51) = w' := by
  cases x <;> go_enter Tryz.func87, Tryz.ntmps87 <;> go_wp2 <;> go_ret <;> exact ⟨rfl, rfl⟩
theorem both_call (x y : Bool) (w : World) : Calls Tryz.prog 92 #[.agg #[.bool x, .bool y]] w fun e w' => e = .returned (.bool (bothB x y)) ∧ w.alloc (.cells #[.bool x, .bool y] 51) = w' := by
  cases x <;> go_enter Tryz.func92, Tryz.ntmps92 <;> go_wp2 <;> go_ret <;> exact ⟨rfl, rfl⟩
theorem bcell {W w1 : World} (hb : Below W.heap.size W w1) : (∀ b o, b < W.heap.size → w1.cell? ⟨b, o, none⟩ = W.cell? ⟨b, o, none⟩) ∧ (∀ b o, b < W.heap.size → w1.frozen? ⟨b, o, none⟩ = W.frozen? ⟨b, o, none⟩) :=
  ⟨fun b o h => hb.cell (p := ⟨b, o, none⟩) h, fun b o h => hb.frozen (p := ⟨b, o, none⟩) h⟩

theorem below_two {w w1 : World} {A B : Obj} (hb : Below ((w.alloc A).alloc B).heap.size ((w.alloc A).alloc B) w1) : w.heap.size < w1.heap.size ∧ w.heap.size + 1 < w1.heap.size := by
  have := hb.size; simp at this; omega
theorem below_one {w w1 : World} {A : Obj} (hb : Below (w.alloc A).heap.size (w.alloc A) w1) : w.heap.size < w1.heap.size := by
  have := hb.size; simp at this; omega
theorem firstOk_iff (l : List Bool) : firstOk l = true ↔ ∀ k x y, l[k]? = some x → l[k + 1]? = some y → (x || !y) = true := by
  induction l with
  | nil => simp [firstOk]
  | cons a l ih =>
    cases l with
    | nil => simp [firstOk]
    | cons b l =>
      simp only [firstOk, Bool.and_eq_true, ih]
      constructor
      · rintro ⟨h0, h⟩ k x y hx hy
        cases k with
        | zero => simp at hx hy; subst hx; subst hy; exact h0
        | succ k => exact h k x y (by simpa using hx) (by simpa using hy)
      · intro h
        exact ⟨h 0 a b rfl rfl, fun k x y hx hy => h (k + 1) x y (by simpa using hx) (by simpa using hy)⟩

set_option maxHeartbeats 400000 in
theorem first_call (l : List Bool) (v : Value) (w : World) (hl : SlAt w bEnc 1 v l) (hn : l.length < 1000000) :
    Calls Tryz.prog 94 #[v] w fun e w' => e = .returned (.bool (firstOk l)) ∧ w = w' := by
  obtain ⟨a, cap, rfl⟩ := hl.len
  go_enter Tryz.func94, Tryz.ntmps94
  go_wp2
  go_loop [6] (fun i => ∃ k : Nat, k ≤ l.length ∧ i = .int .i64 k ∧ (∀ j x y, j + 1 < k → l[j]? = some x → l[j + 1]? = some y → (x || !y) = true)) (fun i => l.length - (intOf i).toNat)
  case atStart => exact ⟨0, Nat.zero_le _, rfl, fun j x y h => by omega⟩
  case round =>
    obtain ⟨k, hk, rfl, hno⟩ := hrel
    have Hno := Lib.hid hno; clear hno
    by_cases hlt : k < l.length
    · obtain ⟨y, hy⟩ : ∃ s, l[k]? = some s := ⟨l[k], by simp [hlt]⟩
      rcases hl with ⟨h0, h1⟩ | ⟨b', off, cap', h0, hcs⟩
      · rw [h1] at hlt; simp at hlt
      · obtain rfl : a = some ⟨b', off, none⟩ := by simpa using (Value.slice.inj h0).1
        have c1 := hcs k y hy 0 (.bool y) rfl
        simp only [Nat.add_zero, Nat.mul_one] at c1
        by_cases h0 : 0 < k
        · obtain ⟨x, hx⟩ : ∃ s, l[k - 1]? = some s := ⟨l[k - 1], by simp⟩
          have c0 := hcs (k - 1) x hx 0 (.bool x) rfl
          clear hcs
          simp only [Nat.add_zero, Nat.mul_one] at c0
          have hi0 : (0 : Int) ≤ (k : Int) - 1 := by omega
          have hi1 : (k : Int) - 1 < l.length := by omega
          have Hy := Lib.hid hy; have Hx := Lib.hid hx; clear hx hy
          by_cases hq : (x || !y) = true
          · have hstep : ∃ k_1 : Nat, k_1 ≤ l.length ∧ ((k : Int) + 1) = (k_1 : Int) ∧ ∀ (j : Nat) (x y : Bool), j + 1 < k_1 → l[j]? = some x → l[j + 1]? = some y → (x || !y) = true := by
              refine ⟨k + 1, by omega, by omega, ?_⟩
              intro j x' y' hj hx' hy'
              by_cases hjk : j = k - 1
              · subst hjk
                rw [Hx.out] at hx'; rw [show k - 1 + 1 = k by omega, Hy.out] at hy'; cases hx'; cases hy'; exact hq
              · exact Hno.out j x' y' (by omega) hx' hy'
            have Hs := Lib.hid hstep; clear hstep
            cases x <;> cases y <;> (try cases hq)
            all_goals
              go_wp2
              go_round
              case rel => obtain ⟨m, h1, h2, h3⟩ := Hs.out; exact ⟨m, h1, by rw [h2], h3⟩
              case measure => simp [intOf]; omega
          · have hff : firstOk l = false := by
              rw [Bool.eq_false_iff]; intro hf
              exact hq ((firstOk_iff l).1 hf (k - 1) x y Hx.out (by rw [show k - 1 + 1 = k by omega]; exact Hy.out))
            have Hff := Lib.hid hff; clear hff
            cases x <;> cases y <;> (try exact absurd rfl hq)
            go_wp2
            go_ret
            exact ⟨by rw [Hff.out]; rfl, rfl⟩
        · clear hcs
          go_wp2
          go_round
          case rel => exact ⟨k + 1, by omega, by go_num, fun j x y h => by omega⟩
          case measure => simp [intOf]; omega
    · go_wp2
      go_ret
      refine ⟨?_, rfl⟩
      rw [(firstOk_iff l).2 fun j x y hx hy => Hno.out j x y (by have := (List.getElem?_eq_some_iff.1 hy).1; omega) hx hy]; rfl

theorem last_call (l : List Bool) (v : Value) (w : World) (hl : SlAt w bEnc 1 v l) (hn : l.length < 1000000) :
    Calls Tryz.prog 95 #[v] w fun e w' => e = .returned (.bool (lastOk l)) ∧ Below w.heap.size w w' := by
  have Hl := Lib.hid hl; clear hl
  go_enter Tryz.func95, Tryz.ntmps95
  go_wp2_with fail
  refine (clone_bool l v w (oldBlocks w) (has_old w) Hl.out (by omega)).mono ?_
  rintro e w1 ⟨v1, L1, rfl, hR1, hH1, hk1⟩
  go_wp2_with fail
  refine (reverseB_call l v1 w1 L1 (oldBlocks w) hR1 hH1 hn).mono ?_
  rintro e w2 ⟨rfl, L2, hR2, hH2, hk2⟩
  go_wp2_with fail
  refine (first_call l.reverse v1 w2 (hR2.at encB hH2) (by simpa using hn)).mono ?_
  rintro e w3 ⟨rfl, rfl⟩
  go_wp2_with fail
  go_ret
  exact ⟨rfl, below_of_has hH2 (hk1.trans hk2)⟩

theorem SlAt.eqlen {α : Type} {w : World} {enc : α → List Value} {size : Nat} {a : Option Addr} {n cap : Nat} {l : List α} (h : SlAt w enc size (.slice a n cap) l) : n = l.length := by
  rcases h with ⟨h, rfl⟩ | ⟨b, off, cap', h, _⟩
  · exact (Value.slice.inj h).2.1
  · exact (Value.slice.inj h).2.1

set_option maxRecDepth 100000 in
set_option maxHeartbeats 1600000 in
theorem fmay_no (o : Order) (f : Facts) (a0 a1 a2 : Option Addr) (n0 n1 n2 cap0 cap1 cap2 : Nat) (w : World) (Hs : Hid (SlAt w Step.enc 2 (.slice a0 n0 cap0) o.steps)) (Hn : Hid (o.steps.length < 1000000)) (Hv : Hid (fMay o f = false)) (hne : ¬ (n1 = n0 ∧ n2 = n0)) :
    Calls Tryz.prog 63 #[.agg #[(Value.int .i64 o.id), (Value.int .i64 o.item), (Value.int .i64 o.qty), (Value.int .i64 o.client), (Value.int .i64 o.price), .slice a0 n0 cap0], .agg (f.cells (.slice a1 n1 cap1) (.slice a2 n2 cap2))] w fun e w' => e = .returned (.bool (fMay o f)) ∧ Below w.heap.size w w' := by
  unfold Facts.cells
  have Hs2 := Lib.hid (Hs.out.below (show Below w.heap.size w ((w.alloc (.cells #[(Value.int .i64 o.id), (Value.int .i64 o.item), (Value.int .i64 o.qty), (Value.int .i64 o.client), (Value.int .i64 o.price), .slice a0 n0 cap0] 27)).alloc (.cells (f.cells (.slice a1 n1 cap1) (.slice a2 n2 cap2)) 53)) from (by repeat' (first | with_reducible exact Below.refl _ _ | with_reducible assumption | refine Below.alloc ?_ ?_ _ | refine Below.setCell ?_ ?_ _ | refine Below.drew ?_ | refine Below.drewN ?_ _ | (apply below_then; with_reducible assumption) | omega | (simp only [World.size_alloc, World.size_setCell, World.size_drew]; omega)))))
  unfold Facts.cells at *
  by_cases h1 : n1 = n0
  · have h2 : ¬ n2 = n0 := fun h => hne ⟨h1, h⟩
    subst h1
    go_enter Tryz.func63, Tryz.ntmps63
    go_wp2_with (go_at_call 47; refine (omay_call o _ _ (by exact Hs2.out) Hn.out).mono ?_; rintro e w1 ⟨rfl, hb1⟩; obtain ⟨hc1, hf1⟩ := bcell hb1; have hz1 := hb1.size; simp at hz1)
    all_goals
      go_ret
      exact ⟨by rw [Hv.out]; rfl, (by repeat' (first | with_reducible exact Below.refl _ _ | with_reducible assumption | refine Below.alloc ?_ ?_ _ | refine Below.setCell ?_ ?_ _ | refine Below.drew ?_ | refine Below.drewN ?_ _ | (apply below_then; with_reducible assumption) | omega | (simp only [World.size_alloc, World.size_setCell, World.size_drew]; omega)))⟩
  · go_enter Tryz.func63, Tryz.ntmps63
    go_wp2_with (go_at_call 47; refine (omay_call o _ _ (by exact Hs2.out) Hn.out).mono ?_; rintro e w1 ⟨rfl, hb1⟩; obtain ⟨hc1, hf1⟩ := bcell hb1; have hz1 := hb1.size; simp at hz1)
    all_goals
      go_ret
      exact ⟨by rw [Hv.out]; rfl, (by repeat' (first | with_reducible exact Below.refl _ _ | with_reducible assumption | refine Below.alloc ?_ ?_ _ | refine Below.setCell ?_ ?_ _ | refine Below.drew ?_ | refine Below.drewN ?_ _ | (apply below_then; with_reducible assumption) | omega | (simp only [World.size_alloc, World.size_setCell, World.size_drew]; omega)))⟩

set_option maxRecDepth 100000 in
set_option maxHeartbeats 4000000 in
theorem fmay_yes (o : Order) (f : Facts) (a0 a1 a2 : Option Addr) (n cap0 cap1 cap2 : Nat) (w : World) (Hs : Hid (SlAt w Step.enc 2 (.slice a0 n cap0) o.steps)) (Hd : Hid (SlAt w bEnc 1 (.slice a1 n cap1) f.done)) (Hu : Hid (SlAt w bEnc 1 (.slice a2 n cap2) f.undone)) (Hn : Hid (n < 1000000)) :
    Calls Tryz.prog 63 #[.agg #[(Value.int .i64 o.id), (Value.int .i64 o.item), (Value.int .i64 o.qty), (Value.int .i64 o.client), (Value.int .i64 o.price), .slice a0 n cap0], .agg (f.cells (.slice a1 n cap1) (.slice a2 n cap2))] w fun e w' => e = .returned (.bool (fMay o f)) ∧ Below w.heap.size w w' := by
  unfold Facts.cells
  have B2 : Below w.heap.size w ((w.alloc (.cells #[(Value.int .i64 o.id), (Value.int .i64 o.item), (Value.int .i64 o.qty), (Value.int .i64 o.client), (Value.int .i64 o.price), .slice a0 n cap0] 27)).alloc (.cells (f.cells (.slice a1 n cap1) (.slice a2 n cap2)) 53)) := (by repeat' (first | with_reducible exact Below.refl _ _ | with_reducible assumption | refine Below.alloc ?_ ?_ _ | refine Below.setCell ?_ ?_ _ | refine Below.drew ?_ | refine Below.drewN ?_ _ | (apply below_then; with_reducible assumption) | omega | (simp only [World.size_alloc, World.size_setCell, World.size_drew]; omega)))
  unfold Facts.cells at B2
  have Hs2 := Lib.hid (Hs.out.below B2)
  have Hd2 := Lib.hid (Hd.out.below B2)
  have Hu2 := Lib.hid (Hu.out.below B2)
  have e0 := Lib.hid Hs.out.eqlen; have e1 := Lib.hid Hd.out.eqlen; have e2 := Lib.hid Hu.out.eqlen
  have Hf := Lib.hid (fMay_len (o := o) (f := f) (e1.out.symm.trans e0.out) (e2.out.symm.trans e0.out))
  go_enter Tryz.func63, Tryz.ntmps63
  go_wp2_with (first
    | (go_at_call 47; go_loud (refine (omay_call o _ _ (by exact Hs2.out) (by rw [← e0.out]; exact Hn.out)).mono ?_; rintro e w1 ⟨rfl, hb1⟩; obtain ⟨hc1, hf1⟩ := bcell hb1; obtain ⟨hz1, hz2⟩ := below_two hb1); have Hd3 := Lib.hid (Hd2.out.below hb1); have Hu3 := Lib.hid (Hu2.out.below hb1))
    | (go_at_call 93; refine (containsB_call f.undone _ _ _ (by exact Hu3.out) (by rw [← e2.out]; exact Hn.out)).mono ?_; rintro e w2 ⟨rfl, rfl⟩)
    | (go_at_call 93; refine (containsB_call f.done _ _ _ (by exact Hd3.out) (by rw [← e1.out]; exact Hn.out)).mono ?_; rintro e w2 ⟨rfl, rfl⟩)
    | (go_at_call 87; refine (either_call _ _ _).mono ?_; rintro e w1 ⟨rfl, rfl⟩)
    | (go_at_call 94; refine (first_call f.done _ _ (by exact Hd3.out.below (by repeat' (first | with_reducible exact Below.refl _ _ | with_reducible assumption | refine Below.alloc ?_ ?_ _ | refine Below.setCell ?_ ?_ _ | refine Below.drew ?_ | refine Below.drewN ?_ _ | (apply below_then; with_reducible assumption) | omega | (simp only [World.size_alloc, World.size_setCell, World.size_drew]; omega)))) (by rw [← e1.out]; exact Hn.out)).mono ?_; rintro e w1 ⟨rfl, rfl⟩)
    | (go_at_call 95; refine (last_call f.undone _ _ (by exact Hu3.out.below (by repeat' (first | with_reducible exact Below.refl _ _ | with_reducible assumption | refine Below.alloc ?_ ?_ _ | refine Below.setCell ?_ ?_ _ | refine Below.drew ?_ | refine Below.drewN ?_ _ | (apply below_then; with_reducible assumption) | omega | (simp only [World.size_alloc, World.size_setCell, World.size_drew]; omega)))) (by rw [← e2.out]; exact Hn.out)).mono ?_; rintro e w1 ⟨rfl, hb9⟩)
    )
  all_goals
    go_ret
    refine ⟨?_, (by repeat' (first | with_reducible exact Below.refl _ _ | with_reducible assumption | refine Below.alloc ?_ ?_ _ | refine Below.setCell ?_ ?_ _ | refine Below.drew ?_ | refine Below.drewN ?_ _ | (apply below_then; with_reducible assumption) | omega | (simp only [World.size_alloc, World.size_setCell, World.size_drew]; omega)))⟩
    rw [Hf.out]
    first
      | (exfalso; have q1 : (!f.turned) = true := by assumption
         have q2 : (!f.turned) = false := by assumption
         rw [q1] at q2; cases q2)
      | (simp [*]; done)

theorem fmay_call (o : Order) (f : Facts) (sl dv uv : Value) (w : World) (hs : SlAt w Step.enc 2 sl o.steps) (hd : SlAt w bEnc 1 dv f.done) (hu : SlAt w bEnc 1 uv f.undone) (hn : o.steps.length < 1000000) :
    Calls Tryz.prog 63 #[.agg (o.cells sl), .agg (f.cells dv uv)] w fun e w' => e = .returned (.bool (fMay o f)) ∧ Below w.heap.size w w' := by
  obtain ⟨a0, cap0, rfl⟩ := hs.len
  obtain ⟨a1, cap1, rfl⟩ := hd.len
  obtain ⟨a2, cap2, rfl⟩ := hu.len
  by_cases h : f.done.length = o.steps.length ∧ f.undone.length = o.steps.length
  · rw [h.1] at hd ⊢; rw [h.2] at hu ⊢
    exact fmay_yes o f a0 a1 a2 _ cap0 cap1 cap2 w (Lib.hid hs) (Lib.hid hd) (Lib.hid hu) (Lib.hid hn)
  · refine fmay_no o f a0 a1 a2 _ _ _ cap0 cap1 cap2 w (Lib.hid hs) (Lib.hid hn) (Lib.hid ?_) h
    unfold fMay; rw [if_pos]
    by_cases h1 : f.done.length = o.steps.length
    · have h2 : f.undone.length ≠ o.steps.length := fun e => h ⟨h1, e⟩
      simp [h2]
    · simp [h1]

end Go.Proofs.YtcfaimmcedpgiaaGreatDoor
