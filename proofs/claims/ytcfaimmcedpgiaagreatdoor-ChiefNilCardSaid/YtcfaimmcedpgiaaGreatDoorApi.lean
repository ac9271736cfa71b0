/-
  The model's plain types: steps, orders, messages as Lean structures, how they lie in cells, and slices that read as lists. No condition. A lemma file: no statement of the seat is proved here.
-/
import Derived.Test.YtcfaimmcedpgiaaGreatDoorBase
import Derived.Test.YtcfaimmcedpgiaaGreatDoorProg
import Derived.Lib.Hide
import Derived.Outline
namespace Go.Proofs.YtcfaimmcedpgiaaGreatDoor
set_option linter.unusedVariables false
set_option linter.unusedSimpArgs false
open Go.RowKit


structure Step where
  sv : Int
  n : Int
  deriving DecidableEq, Repr
structure Order where
  id : Int
  item : Int
  qty : Int
  client : Int
  price : Int
  steps : List Step
  deriving DecidableEq, Repr
structure Msg where
  kind : Int
  frm : Int
  dest : Int
  id : Int
  step : Int
  a : Int
  b : Int
  deriving DecidableEq, Repr

def Step.enc (s : Step) : List Value := [(Value.int .i64 s.sv), (Value.int .i64 s.n)]
def Msg.enc (m : Msg) : List Value := [(Value.int .i64 m.kind), (Value.int .i64 m.frm), (Value.int .i64 m.dest), (Value.int .i64 m.id), (Value.int .i64 m.step), (Value.int .i64 m.a), (Value.int .i64 m.b)]
def Order.cells (o : Order) (sv : Value) : Array Value := #[(Value.int .i64 o.id), (Value.int .i64 o.item), (Value.int .i64 o.qty), (Value.int .i64 o.client), (Value.int .i64 o.price), sv]

/-- A slice's value reads as a list of elements (each `size` cells). -/
def SlAt {α : Type} (w : World) (enc : α → List Value) (size : Nat) (v : Value) (l : List α) : Prop :=
  (v = .slice none 0 0 ∧ l = []) ∨
  ∃ b off cap, v = .slice (some ⟨b, off, none⟩) l.length cap ∧ (∀ k x, l[k]? = some x → ∀ j u, (enc x)[j]? = some u → w.cell? ⟨b, off + k * size + j, none⟩ = some u)

/-- In Go's ints. -/
def I64 (x : Int) : Prop := -9223372036854775808 ≤ x ∧ x ≤ 9223372036854775807
def Step.wf (s : Step) : Prop := I64 s.sv ∧ I64 s.n
def Order.wf (o : Order) : Prop := I64 o.id ∧ I64 o.item ∧ I64 o.qty ∧ I64 o.client ∧ I64 o.price ∧ ∀ s ∈ o.steps, s.wf

theorem SlAt.below {α : Type} {w w' : World} {enc : α → List Value} {size : Nat} {v : Value} {l : List α} (h : SlAt w enc size v l) (hb : Below w.heap.size w w') : SlAt w' enc size v l := by
  rcases h with h | ⟨b, off, cap, rfl, h⟩
  · exact .inl h
  · refine .inr ⟨b, off, cap, rfl, fun k x hx j u hu => ?_⟩
    have := h k x hx j u hu
    rw [hb.cell (World.block_lt_of_cell? w _ this)]; exact this

-- amounts
def amay (x : Int) : Bool := decide (0 ≤ x) && decide (x ≤ 1000000000)
def oin (n a b : Int) : Bool := decide (a ≤ n) && decide (n ≤ b)
def osome (n : Int) : Bool := decide (0 < n) && amay n
def Order.at (o : Order) (sv : Int) : Int := match o.steps.findIdx? (fun s => s.sv == sv) with | some i => (i : Int) | none => -1
def Order.stepOk (o : Order) (i : Nat) (s : Step) : Bool := oin s.sv 4 6 && osome s.n && o.at s.sv == (i : Int)
def Order.stepsOk (o : Order) : Bool := (o.steps.zipIdx).all fun x => o.stepOk x.2 x.1
def Order.may (o : Order) : Bool := o.stepsOk && decide (o.steps.length ≤ 3) && oin o.id 1 999 && oin o.item 0 7 && oin o.client 0 7 && osome o.qty && osome o.price

theorem amay_call (x : Int) (w : World) : Calls Tryz.prog 107 #[(Value.int .i64 x)] w fun e w' => e = .returned (.bool (amay x)) ∧ w = w' := by
  go_enter Tryz.func107, Tryz.ntmps107
  go_wp2
  all_goals (go_ret; refine ⟨?_, rfl⟩; simp [amay, *]; try omega)

theorem oin_call (x a b : Int) (w : World) : Calls Tryz.prog 83 #[(Value.int .i64 x), (Value.int .i64 a), (Value.int .i64 b)] w fun e w' => e = .returned (.bool (oin x a b)) ∧ w = w' := by
  go_enter Tryz.func83, Tryz.ntmps83
  go_wp2
  all_goals (go_ret; refine ⟨?_, rfl⟩; simp [oin, *]; try omega)

theorem osome_call (x : Int) (w : World) : Calls Tryz.prog 84 #[(Value.int .i64 x)] w fun e w' => e = .returned (.bool (osome x)) ∧ w = w' := by
  by_cases h : 0 < x
  · go_enter Tryz.func84, Tryz.ntmps84
    go_wp2_with (go_at_call 107; refine (amay_call x w).mono ?_; rintro e w' ⟨rfl, rfl⟩)
    go_ret
    refine ⟨?_, rfl⟩; simp [osome, h]
  · have h' : decide (0 < x) = false := by simpa using h
    go_enter Tryz.func84, Tryz.ntmps84
    go_wp2_with (go_at_call 107; refine (amay_call x w).mono ?_; rintro e w' ⟨rfl, rfl⟩)
    go_ret
    refine ⟨?_, rfl⟩; simp [osome, h']



theorem SlAt.len {α : Type} {w : World} {enc : α → List Value} {size : Nat} {v : Value} {l : List α} (h : SlAt w enc size v l) :
    ∃ a cap, v = .slice a l.length cap := by
  rcases h with ⟨rfl, rfl⟩ | ⟨b, off, cap, rfl, _⟩
  · exact ⟨_, _, rfl⟩
  · exact ⟨_, _, rfl⟩

/-- slices.IndexFunc at []Step with order.At's function: where the first step of that service is. -/
def idxFrom (l : List Step) (sv : Int) : Int := match l.findIdx? (fun s => s.sv == sv) with | some i => (i : Int) | none => -1

theorem at1_call (s : Step) (sv : Int) (b : Nat) (w : World) (hc : w.cell? ⟨b, 0, none⟩ = some ((Value.int .i64 sv))) :
    Calls Tryz.prog 109 #[.agg #[(Value.int .i64 s.sv), (Value.int .i64 s.n)], .pointer (some ⟨b, 0, none⟩)] w fun e w' => e = .returned (.bool (s.sv == sv)) ∧ Below w.heap.size w w' := by
  have hb : b < w.heap.size := World.block_lt_of_cell? w _ hc
  go_enter Tryz.func109, Tryz.ntmps109
  go_wp2
  go_ret
  exact ⟨rfl, (Below.refl _ _).alloc (Nat.le_refl _) _⟩

theorem idx_call (l : List Step) (v : Value) (sv : Int) (b : Nat) (w : World) (hc : w.cell? ⟨b, 0, none⟩ = some ((Value.int .i64 sv))) (hl : SlAt w Step.enc 2 v l) (hn : l.length < 1000000) :
    Calls Tryz.prog 108 #[v, .func (.func 109) #[] #[.pointer (some ⟨b, 0, none⟩)]] w fun e w' => e = .returned ((Value.int .i64 (idxFrom l sv))) ∧ Below w.heap.size w w' := by
  have hb : b < w.heap.size := World.block_lt_of_cell? w _ hc
  obtain ⟨a, cap, rfl⟩ := hl.len
  go_enter Tryz.func108, Tryz.ntmps108
  go_wp2
  go_loopw [8] (fun i wr => ∃ k : Nat, k ≤ l.length ∧ i = .int .i64 k ∧ (∀ j s, j < k → l[j]? = some s → (s.sv == sv) = false) ∧ Below w.heap.size w wr) (fun i _ => l.length - (intOf i).toNat)
  case atStart => exact ⟨0, Nat.zero_le _, rfl, fun j s h => by omega, Below.refl _ _⟩
  case round =>
    obtain ⟨k, hk, rfl, hno, hbw⟩ := hrel
    have hl' := hl.below hbw
    have hc' : wr.cell? ⟨b, 0, none⟩ = some ((Value.int .i64 sv)) := by rw [hbw.cell hb]; exact hc
    by_cases hlt : k < l.length
    · obtain ⟨s, hs⟩ : ∃ s, l[k]? = some s := ⟨l[k], by simp [hlt]⟩
      rcases hl' with ⟨h0, h1⟩ | ⟨b', off, cap', h0, hcs⟩
      · rw [h1] at hlt; simp at hlt
      · obtain rfl : a = some ⟨b', off, none⟩ := by simpa using (Value.slice.inj h0).1
        have c0 := hcs k s hs 0 ((Value.int .i64 s.sv)) rfl
        have c1 := hcs k s hs 1 ((Value.int .i64 s.n)) rfl
        simp only [Nat.add_zero] at c0
        cases hq : s.sv == sv with
        | true =>
          go_wp2_with (go_at_call 109; refine (at1_call s sv b wr hc').mono ?_; rintro e w' ⟨rfl, hb1⟩; rw [hq])
          go_ret
          refine ⟨?_, hbw.trans (hb1.mono hbw.size)⟩
          congr 2
          have : l.findIdx? (fun s => s.sv == sv) = some k := by
            rw [List.findIdx?_eq_some_iff_getElem]
            exact ⟨hlt, by simpa [List.getElem?_eq_getElem hlt] using (show ((l[k]?).map (fun s => s.sv == sv)) = some true by rw [hs]; simp [hq]), fun j hj => by have := hno j l[j] hj (by simp); simp [this]⟩
          simp [idxFrom, this]
        | false =>
          go_wp2_with (go_at_call 109; refine (at1_call s sv b wr hc').mono ?_; rintro e w' ⟨rfl, hb1⟩; rw [hq])
          go_roundw
          case rel =>
            refine ⟨k + 1, by omega, by go_num, ?_, hbw.trans (hb1.mono hbw.size)⟩
            intro j t hj ht
            by_cases hjk : j = k
            · subst hjk; rw [hs] at ht; cases ht; exact hq
            · exact hno j t (by omega) ht
          case measure => simp [intOf]; omega
    · go_wp2
      go_ret
      refine ⟨?_, hbw⟩
      congr 2
      have : l.findIdx? (fun s => s.sv == sv) = none := by
        rw [List.findIdx?_eq_none_iff]
        intro s hs
        obtain ⟨j, hj⟩ := List.mem_iff_getElem?.1 hs
        have := (List.getElem?_eq_some_iff.1 hj).1
        exact hno j s (by omega) hj
      simp [idxFrom, this]

theorem oat_call (o : Order) (sl : Value) (sv : Int) (w : World) (hl : SlAt w Step.enc 2 sl o.steps) (hn : o.steps.length < 1000000) :
    Calls Tryz.prog 85 #[.agg (o.cells sl), (Value.int .i64 sv)] w fun e w' => e = .returned ((Value.int .i64 (idxFrom o.steps sv))) ∧ Below w.heap.size w w' := by
  unfold Order.cells
  have B2 : Below w.heap.size w ((w.alloc (.cells #[(Value.int .i64 o.id), (Value.int .i64 o.item), (Value.int .i64 o.qty), (Value.int .i64 o.client), (Value.int .i64 o.price), sl] 27)).alloc (.cells #[(Value.int .i64 sv)] 3)) := ((Below.refl _ w).alloc (Nat.le_refl _) _).alloc (by simp) _
  have hl2 := hl.below B2
  have hc := (World.cell?_alloc_new (w.alloc (.cells #[(Value.int .i64 o.id), (Value.int .i64 o.item), (Value.int .i64 o.qty), (Value.int .i64 o.client), (Value.int .i64 o.price), sl] 27)) #[(Value.int .i64 sv)] 3 0)
  simp only [World.size_alloc] at hc
  have H := Lib.hid hc; clear hc
  have H2 := Lib.hid hl2; clear hl2
  go_enter Tryz.func85, Tryz.ntmps85
  go_wp2_with (go_at_call 108; refine (idx_call o.steps sl sv (w.heap.size + 1) _ (by exact H.out) (by exact H2.out) hn).mono ?_; rintro e w' ⟨rfl, hb1⟩)
  go_ret
  exact ⟨rfl, B2.trans (hb1.mono (by simp; omega))⟩

theorem all_upto (o : Order) (h : ∀ j s, o.steps[j]? = some s → o.stepOk j s = true) : o.stepsOk = true := by
  unfold Order.stepsOk
  rw [List.all_eq_true]
  rintro ⟨s, j⟩ hm
  have := List.mem_zipIdx_iff_getElem?.1 hm
  exact h j s this
theorem not_all (o : Order) {j : Nat} {s : Step} (hs : o.steps[j]? = some s) (h : o.stepOk j s = false) : o.stepsOk = false := by
  unfold Order.stepsOk
  rw [List.all_eq_false]
  exact ⟨(s, j), List.mem_zipIdx_iff_getElem?.2 hs, by simp [h]⟩

set_option maxHeartbeats 800000 in
theorem omay_call (o : Order) (sl : Value) (w : World) (hl : SlAt w Step.enc 2 sl o.steps) (hn : o.steps.length < 1000000) :
    Calls Tryz.prog 47 #[.agg (o.cells sl)] w fun e w' => e = .returned (.bool o.may) ∧ Below w.heap.size w w' := by
  unfold Order.cells
  have B1 : Below w.heap.size w (w.alloc (.cells #[(Value.int .i64 o.id), (Value.int .i64 o.item), (Value.int .i64 o.qty), (Value.int .i64 o.client), (Value.int .i64 o.price), sl] 27)) := (Below.refl _ w).alloc (Nat.le_refl _) _
  obtain ⟨a, cap, rfl⟩ := hl.len
  go_enter Tryz.func47, Tryz.ntmps47
  go_wp2
  go_loopw [8] (fun i wr => ∃ k : Nat, k ≤ o.steps.length ∧ i = .int .i64 k ∧ (∀ j s, j < k → o.steps[j]? = some s → o.stepOk j s = true) ∧
      Below (w.heap.size + 1) (w.alloc (.cells #[(Value.int .i64 o.id), (Value.int .i64 o.item), (Value.int .i64 o.qty), (Value.int .i64 o.client), (Value.int .i64 o.price), .slice a o.steps.length cap] 27)) wr) (fun i _ => o.steps.length - (intOf i).toNat)
  case atStart => exact ⟨0, Nat.zero_le _, rfl, fun j s h => by omega, Below.refl _ _⟩
  case round =>
    obtain ⟨k, hk, rfl, hall, hbw⟩ := hrel
    have hbw0 : Below w.heap.size w wr := B1.trans (hbw.mono (by omega))
    have hl' := hl.below hbw0
    have hsz : w.heap.size < wr.heap.size := by have := hbw.size; simp at this; omega
    have hx : ∀ i, wr.cell? ⟨w.heap.size, i, none⟩ = #[(Value.int .i64 o.id), (Value.int .i64 o.item), (Value.int .i64 o.qty), (Value.int .i64 o.client), (Value.int .i64 o.price), .slice a o.steps.length cap][i]? := fun i => by
      rw [hbw.cell (by simp)]; exact World.cell?_alloc_new _ _ _ _
    have x0 := hx 0; have x1 := hx 1; have x2 := hx 2; have x3 := hx 3; have x4 := hx 4; have x5 := hx 5
    clear hx
    simp at x0 x1 x2 x3 x4 x5
    by_cases hlt : k < o.steps.length
    · obtain ⟨s, hs⟩ : ∃ s, o.steps[k]? = some s := ⟨o.steps[k], by simp [hlt]⟩
      rcases hl' with ⟨h0, h1⟩ | ⟨b', off, cap', h0, hcs⟩
      · rw [h1] at hlt; simp at hlt
      · obtain rfl : a = some ⟨b', off, none⟩ := by simpa using (Value.slice.inj h0).1
        have c0 := hcs k s hs 0 ((Value.int .i64 s.sv)) rfl
        have c1 := hcs k s hs 1 ((Value.int .i64 s.n)) rfl
        simp only [Nat.add_zero] at c0
        have hl3 := (hl.below hbw0).below ((Below.refl _ wr).alloc (Nat.le_refl _) (.cells #[(Value.int .i64 s.sv), (Value.int .i64 s.n)] 42))
        have H3 := Lib.hid hl3; clear hl3
        have hat : o.at s.sv = idxFrom o.steps s.sv := rfl
        have Hat := Lib.hid hat; clear hat
        by_cases hq : idxFrom o.steps s.sv = (k : Int)
        · have hq' : (idxFrom o.steps s.sv != (k : Int)) = false := by simp [hq]
          have Hq := Lib.hid hq; clear hq
          go_wp2_with (first | (go_at_call 83; refine (oin_call _ _ _ _).mono ?_; rintro e w' ⟨rfl, rfl⟩) | (go_at_call 84; refine (osome_call _ _).mono ?_; rintro e w' ⟨rfl, rfl⟩) | (go_at_call 85; refine (oat_call o _ _ _ (by exact H3.out) hn).mono ?_; rintro e w' ⟨rfl, hb3⟩))
          · go_roundw
            case rel =>
              refine ⟨k + 1, by omega, by go_num, ?_, hbw.trans (((Below.refl _ wr).alloc (by omega) _).trans (hb3.mono (by simp; omega)))⟩
              intro j t hj ht
              by_cases hjk : j = k
              · subst hjk; rw [hs] at ht; cases ht
                simp only [Order.stepOk, Hat.out, Hq.out, beq_self_eq_true, Bool.and_true, Bool.and_eq_true]
                exact ⟨by assumption, by assumption⟩
              · exact hall j t (by omega) ht
            case measure => simp [intOf]; omega
          all_goals
            go_ret
            refine ⟨?_, hbw0.trans ((Below.refl _ wr).alloc hbw0.size _)⟩
            rw [show o.may = false by unfold Order.may; rw [not_all o hs (by simp [Order.stepOk, *])]; rfl]
            rfl
        · have hq' : (idxFrom o.steps s.sv != (k : Int)) = true := by simp [hq]
          have hno : o.may = false := by
            unfold Order.may
            rw [not_all o hs (by simp only [Order.stepOk, Hat.out]; rw [show (idxFrom o.steps s.sv == (k : Int)) = false by simpa using hq]; simp)]; rfl
          have Hq := Lib.hid hq; clear hq
          go_wp2_with (first | (go_at_call 83; refine (oin_call _ _ _ _).mono ?_; rintro e w' ⟨rfl, rfl⟩) | (go_at_call 84; refine (osome_call _ _).mono ?_; rintro e w' ⟨rfl, rfl⟩) | (go_at_call 85; refine (oat_call o _ _ _ (by exact H3.out) hn).mono ?_; rintro e w' ⟨rfl, hb3⟩))
          · go_ret
            exact ⟨by rw [hno]; rfl, hbw0.trans (((Below.refl _ wr).alloc (Nat.le_refl _) _).trans (hb3.mono (by simp)) |>.mono hbw0.size)⟩
          all_goals
            go_ret
            exact ⟨by rw [hno]; rfl, hbw0.trans ((Below.refl _ wr).alloc hbw0.size _)⟩
    · have hok : o.stepsOk = true := all_upto o fun j s hj => hall j s (by have := (List.getElem?_eq_some_iff.1 hj).1; omega) hj
      have Hok := Lib.hid hok; clear hok
      go_wp2_with (first | (go_at_call 83; refine (oin_call _ _ _ _).mono ?_; rintro e w' ⟨rfl, rfl⟩) | (go_at_call 84; refine (osome_call _ _).mono ?_; rintro e w' ⟨rfl, rfl⟩))
      all_goals
        go_ret
        refine ⟨?_, hbw0⟩
        simp only [Order.may, Hok.out]
        simp [*]
        try omega

end Go.Proofs.YtcfaimmcedpgiaaGreatDoor
