/-
  entry: named, numbered, May, Line: contracts. A lemma file: no statement of the seat is proved here.
-/
import Derived.Test.YtcfaimmcedpgiaaGreatDoorCheck
import Derived.Test.YtcfaimmcedpgiaaGreatDoorItoa
import Derived.Test.YtcfaimmcedpgiaaGreatDoorTally
namespace Go.Proofs.YtcfaimmcedpgiaaGreatDoor
set_option linter.unusedVariables false
set_option linter.unusedSimpArgs false
open Go.RowKit

structure Entry where
  kind : ByteArray
  id : Int
  n : List Int
def letterB (b : UInt8) : Bool := !(decide (b.toNat < 97) || decide (122 < b.toNat))
def namedB (s : ByteArray) : Bool := s.data.toList.all letterB && decide (1 ≤ s.size) && decide (s.size ≤ 8)
def amidB (n : Int) : Bool := !(decide (n < -1000000000) || decide (1000000000 < n))
def numberedB (l : List Int) : Bool := decide (l.length ≤ 4) && l.all amidB
def Entry.may (e : Entry) : Bool := namedB e.kind && decide (0 ≤ e.id) && decide (e.id ≤ 999) && numberedB e.n
def lineFrom (s : ByteArray) (l : List Int) : ByteArray := l.foldl (fun s n => s ++ (⟨#[32]⟩ ++ itoaB n)) s
def Entry.line (e : Entry) : ByteArray := signB (lineFrom e.kind (e.id :: e.n))
def Entry.cells (e : Entry) (nv : Value) : Array Value := #[.string e.kind, (Value.int .i64 e.id), nv]

set_option maxRecDepth 100000 in
theorem named_call (s : ByteArray) (w : World) (hs : s.size < 1000000) :
    Calls Tryz.prog 127 #[.string s] w fun e w' => e = .returned (.bool (namedB s)) ∧ w' = w := by
  go_enter Tryz.func127, Tryz.ntmps127
  go_wp2
  go_loopw [6] (fun i wr => ∃ k : Nat, k ≤ s.size ∧ i = .int .i64 k ∧ (s.data.toList.take k).all letterB = true ∧ wr = w) (fun i _ => s.size - (intOf i).toNat)
  case atStart => exact ⟨0, by omega, rfl, rfl, rfl⟩
  case round =>
    obtain ⟨k, hk, rfl, hall, rfl⟩ := hrel
    have Hall := Lib.hid hall; clear hall
    by_cases hlt : k < s.size
    · have h1 : s.data.toList[k]? = some s[k] := by rw [List.getElem?_eq_getElem (by simpa using hlt)]; rfl
      obtain ⟨c, hc⟩ : ∃ c, s[k] = c := ⟨_, rfl⟩
      rw [hc] at h1
      have hcn : c.toNat < 256 := c.toNat_lt
      by_cases hlo : c.toNat < 97
      · have hlo' : ((c.toNat : Int) < 97) := by omega
        have Hh := Lib.hid h1; clear h1
        go_wp2
        go_ret
        refine ⟨?_, rfl⟩
        have : s.data.toList.all letterB = false := List.all_eq_false.2 ⟨c, List.mem_of_getElem? Hh.out, by simp [letterB, hlo]⟩
        rw [namedB, this]; rfl
      · by_cases hhi : 122 < c.toNat
        · have hlo' : ¬ ((c.toNat : Int) < 97) := by omega
          have hhi' : ((122 : Int) < (c.toNat : Int)) := by omega
          have Hh := Lib.hid h1; clear h1
          go_wp2
          go_ret
          refine ⟨?_, rfl⟩
          have : s.data.toList.all letterB = false := List.all_eq_false.2 ⟨c, List.mem_of_getElem? Hh.out, by simp [letterB, hhi]⟩
          rw [namedB, this]; rfl
        · have hlo' : ¬ ((c.toNat : Int) < 97) := by omega
          have hhi' : ¬ ((122 : Int) < (c.toNat : Int)) := by omega
          have Hh := Lib.hid h1; clear h1
          go_wp2
          go_roundw
          case rel =>
            refine ⟨k + 1, by omega, by go_num, ?_, trivial⟩
            rw [List.take_add_one, Hh.out, List.all_append, Hall.out]
            simp [letterB, hlo, hhi]
          case measure => simp [intOf]; omega
    · have e : s.data.toList.take k = s.data.toList := List.take_of_length_le (by simpa using Nat.not_lt.1 hlt)
      have hal := Hall.out
      rw [e] at hal
      have Hal := Lib.hid hal; clear hal
      by_cases h1 : 1 ≤ s.size
      · go_wp2
        go_ret
        refine ⟨?_, rfl⟩
        rw [namedB, Hal.out]
        simp [h1]
        omega
      · go_wp2
        go_ret
        refine ⟨?_, rfl⟩
        rw [namedB, Hal.out]
        simp [h1]

theorem amid_call (n : Int) (w : World) : Calls Tryz.prog 155 #[(Value.int .i64 n)] w fun e w' => e = .returned (.bool (!amidB n)) ∧ w' = w := by
  go_enter Tryz.func155, Tryz.ntmps155
  by_cases h1 : n < -1000000000
  · go_wp2
    go_ret
    exact ⟨by simp [amidB, h1], rfl⟩
  · by_cases h2 : 1000000000 < n
    · go_wp2
      go_ret
      exact ⟨by simp [amidB, h2], rfl⟩
    · go_wp2
      go_ret
      exact ⟨by simp [amidB, h1, h2], rfl⟩

def oddFrom (l : List Int) : Int := match l.findIdx? (fun n => !amidB n) with
  | some i => i
  | none => -1
set_option maxRecDepth 100000 in
theorem odd_call (l : List Int) (v : Value) (w : World) (hl : SlAt w iEnc 1 v l) (hn : l.length < 1000000) :
    Calls Tryz.prog 170 #[v, .func (.func 155) #[] #[]] w fun e w' => e = .returned ((Value.int .i64 (oddFrom l))) ∧ w' = w := by
  obtain ⟨a, cap, rfl⟩ := hl.len
  go_enter Tryz.func170, Tryz.ntmps170
  go_wp2
  go_loopw [8] (fun i wr => ∃ k : Nat, k ≤ l.length ∧ i = .int .i64 k ∧ (∀ j s, j < k → l[j]? = some s → amidB s = true) ∧ wr = w) (fun i _ => l.length - (intOf i).toNat)
  case atStart => exact ⟨0, Nat.zero_le _, rfl, fun j s h => by omega, rfl⟩
  case round =>
    obtain ⟨k, hk, rfl, hno, rfl⟩ := hrel
    have Hno := Lib.hid hno; clear hno
    by_cases hlt : k < l.length
    · obtain ⟨s, hs⟩ : ∃ s, l[k]? = some s := ⟨l[k], by simp [hlt]⟩
      rcases hl with ⟨h0, h1⟩ | ⟨b', off, cap', h0, hcs⟩
      · rw [h1] at hlt; simp at hlt
      · obtain rfl : a = some ⟨b', off, none⟩ := by simpa using (Value.slice.inj h0).1
        have c0 := hcs k s hs 0 ((Value.int .i64 s)) rfl
        simp only [Nat.add_zero, Nat.mul_one] at c0
        have Hs := Lib.hid hs; clear hs hcs h0
        cases hq : amidB s with
        | false =>
          go_wp2_with (go_at_call 155; refine (amid_call s wr).mono ?_; rintro e w' ⟨rfl, rfl⟩; rw [hq])
          go_ret
          refine ⟨?_, rfl⟩
          congr 2
          have : l.findIdx? (fun n => !amidB n) = some k := by
            rw [List.findIdx?_eq_some_iff_getElem]
            refine ⟨hlt, ?_, fun j hj => ?_⟩
            · have : l[k] = s := by have := Hs.out; rw [List.getElem?_eq_getElem hlt] at this; exact Option.some.inj this
              rw [this, hq]; rfl
            · have := Hno.out j l[j] hj (by simp); simp [this]
          simp [oddFrom, this]
        | true =>
          go_wp2_with (go_at_call 155; refine (amid_call s wr).mono ?_; rintro e w' ⟨rfl, rfl⟩; rw [hq])
          go_roundw
          case rel =>
            refine ⟨k + 1, by omega, by go_num, ?_, trivial⟩
            intro j t hj ht
            by_cases hjk : j = k
            · subst hjk; rw [Hs.out] at ht; cases ht; exact hq
            · exact Hno.out j t (by omega) ht
          case measure => simp [intOf]; omega
    · clear hl
      go_wp2
      go_ret
      refine ⟨?_, rfl⟩
      congr 2
      have : l.findIdx? (fun n => !amidB n) = none := by
        rw [List.findIdx?_eq_none_iff]
        intro x hx
        obtain ⟨j, hj, rfl⟩ := List.mem_iff_getElem.1 hx
        have := Hno.out j l[j] (by omega) (by simp)
        simp [this]
      simp [oddFrom, this]
theorem oddFrom_neg (l : List Int) : (0 ≤ oddFrom l) ↔ l.all amidB = false := by
  unfold oddFrom
  cases h : l.findIdx? (fun n => !amidB n) with
  | none =>
    rw [List.findIdx?_eq_none_iff] at h
    have : l.all amidB = true := List.all_eq_true.2 fun x hx => by have := h x hx; simpa using this
    simp [this]
  | some i =>
    rw [List.findIdx?_eq_some_iff_getElem] at h
    obtain ⟨h1, h2, _⟩ := h
    have : l.all amidB = false := List.all_eq_false.2 ⟨l[i], by simp, by simpa using h2⟩
    simp [this]
theorem anyodd_call (l : List Int) (v : Value) (w : World) (hl : SlAt w iEnc 1 v l) (hn : l.length < 1000000) :
    Calls Tryz.prog 154 #[v, .func (.func 155) #[] #[]] w fun e w' => e = .returned (.bool (!l.all amidB)) ∧ w' = w := by
  have hodd := oddFrom_neg l
  go_enter Tryz.func154, Tryz.ntmps154
  go_wp2_with fail
  refine (odd_call l v w hl hn).mono ?_
  rintro e w' ⟨rfl, rfl⟩
  cases h : l.all amidB with
  | true =>
    have h2 : ¬ (0 ≤ oddFrom l) := by rw [hodd, h]; simp
    have H := Lib.hid h
    clear hodd h
    go_wp2
    refine bodyPost_ret (v := .bool false) (by simp [results, Tryz.results154, go_sem, h2]) rfl ⟨by rw [H.out]; rfl, rfl⟩
  | false =>
    have h2 : 0 ≤ oddFrom l := by rw [hodd, h]
    have H := Lib.hid h
    clear hodd h
    go_wp2
    refine bodyPost_ret (v := .bool true) (by simp [results, Tryz.results154, go_sem, h2]) rfl ⟨by rw [H.out]; rfl, rfl⟩
theorem numbered_call (l : List Int) (v : Value) (w : World) (hl : SlAt w iEnc 1 v l) (hn : l.length < 1000000) :
    Calls Tryz.prog 128 #[v] w fun e w' => e = .returned (.bool (numberedB l)) ∧ w' = w := by
  obtain ⟨a, cap, rfl⟩ := hl.len
  have Hl := Lib.hid hl; clear hl
  go_enter Tryz.func128, Tryz.ntmps128
  by_cases h4 : l.length ≤ 4
  · go_wp2_with fail
    refine (anyodd_call l _ w Hl.out hn).mono ?_
    rintro e w' ⟨rfl, rfl⟩
    cases h : l.all amidB with
    | true =>
      go_wp2
      go_ret
      exact ⟨by simp only [numberedB, h, h4]; rfl, rfl⟩
    | false =>
      go_wp2
      go_ret
      exact ⟨by simp only [numberedB, h, h4]; rfl, rfl⟩
  · go_wp2
    go_ret
    exact ⟨by simp [numberedB, h4], rfl⟩

set_option maxRecDepth 100000 in
theorem emay_call (e : Entry) (nv : Value) (w : World) (hl : SlAt w iEnc 1 nv e.n) (hn : e.n.length < 1000000) (hk : e.kind.size < 1000000) :
    Calls Tryz.prog 105 #[.agg (e.cells nv)] w fun r w' => r = .returned (.bool e.may) ∧ Below w.heap.size w w' := by
  obtain ⟨kind, id, n⟩ := e
  dsimp only at hl hn hk
  obtain ⟨a, cap, rfl⟩ := hl.len
  unfold Entry.cells
  dsimp only
  have Hl := Lib.hid (hl.below ((Below.refl w.heap.size w).alloc (Nat.le_refl _) (.cells #[.string kind, (Value.int .i64 id), .slice a n.length cap] 81)))
  clear hl
  go_enter Tryz.func105, Tryz.ntmps105
  go_wp2_with fail
  refine (named_call kind _ hk).mono ?_
  rintro r w' ⟨rfl, rfl⟩
  obtain ⟨nb, hnb⟩ : ∃ b, namedB kind = b := ⟨_, rfl⟩
  have Hnb := Lib.hid hnb
  rw [hnb]
  clear hnb
  cases nb
  · go_wp2
    go_ret
    exact ⟨by simp [Entry.may, Hnb.out], by ((repeat' (first | with_reducible exact Below.refl _ _ | with_reducible assumption | refine Below.alloc ?_ ?_ _ | refine Below.setCell ?_ ?_ _ | refine Below.drew ?_ | refine Below.drewN ?_ _ | (apply below_then; with_reducible assumption) | omega | (simp only [World.size_alloc, World.size_setCell, World.size_drew]; omega))); done)⟩
  · by_cases h0 : 0 ≤ id
    · by_cases h1 : id ≤ 999
      · go_wp2_with fail
        refine (numbered_call n _ _ Hl.out hn).mono ?_
        rintro r w' ⟨rfl, rfl⟩
        obtain ⟨mb, hmb⟩ : ∃ b, numberedB n = b := ⟨_, rfl⟩
        have Hmb := Lib.hid hmb
        rw [hmb]
        clear hmb
        cases mb
        · go_wp2
          go_ret
          exact ⟨by simp [Entry.may, Hnb.out, Hmb.out, h0, h1], by ((repeat' (first | with_reducible exact Below.refl _ _ | with_reducible assumption | refine Below.alloc ?_ ?_ _ | refine Below.setCell ?_ ?_ _ | refine Below.drew ?_ | refine Below.drewN ?_ _ | (apply below_then; with_reducible assumption) | omega | (simp only [World.size_alloc, World.size_setCell, World.size_drew]; omega))); done)⟩
        · go_wp2
          go_ret
          exact ⟨by simp [Entry.may, Hnb.out, Hmb.out, h0, h1], by ((repeat' (first | with_reducible exact Below.refl _ _ | with_reducible assumption | refine Below.alloc ?_ ?_ _ | refine Below.setCell ?_ ?_ _ | refine Below.drew ?_ | refine Below.drewN ?_ _ | (apply below_then; with_reducible assumption) | omega | (simp only [World.size_alloc, World.size_setCell, World.size_drew]; omega))); done)⟩
      · go_wp2
        go_ret
        exact ⟨by have h : decide (id ≤ 999) = false := decide_eq_false (by omega)
                  simp only [Entry.may, h, Bool.and_false, Bool.false_and]; rfl, by ((repeat' (first | with_reducible exact Below.refl _ _ | with_reducible assumption | refine Below.alloc ?_ ?_ _ | refine Below.setCell ?_ ?_ _ | refine Below.drew ?_ | refine Below.drewN ?_ _ | (apply below_then; with_reducible assumption) | omega | (simp only [World.size_alloc, World.size_setCell, World.size_drew]; omega))); done)⟩
    · go_wp2
      go_ret
      exact ⟨by have h : decide (0 ≤ id) = false := decide_eq_false (by omega)
                simp only [Entry.may, h, Bool.and_false, Bool.false_and]; rfl, by ((repeat' (first | with_reducible exact Below.refl _ _ | with_reducible assumption | refine Below.alloc ?_ ?_ _ | refine Below.setCell ?_ ?_ _ | refine Below.drew ?_ | refine Below.drewN ?_ _ | (apply below_then; with_reducible assumption) | omega | (simp only [World.size_alloc, World.size_setCell, World.size_drew]; omega))); done)⟩

theorem lineFrom_snoc (s : ByteArray) (l : List Int) (n : Int) : lineFrom s (l ++ [n]) = lineFrom s l ++ (⟨#[32]⟩ ++ itoaB n) := by simp [lineFrom]
theorem itoaB_size (n : Int) (h0 : -1000000000 ≤ n) (h1 : n ≤ 1000000000) : (itoaB n).size ≤ 21 := by
  have := Lib.itoa_length_le n (by omega) (by omega)
  show (Lib.itoa n).toArray.size ≤ 21
  simpa using this
theorem lineFrom_size (s : ByteArray) (l : List Int) (h : ∀ n ∈ l, -1000000000 ≤ n ∧ n ≤ 1000000000) : (lineFrom s l).size ≤ s.size + 22 * l.length := by
  induction l generalizing s with
  | nil => simp [lineFrom]
  | cons n l ih =>
    have h1 := ih (s ++ (⟨#[32]⟩ ++ itoaB n)) (fun m hm => h m (List.mem_cons_of_mem _ hm))
    have h2 := itoaB_size n (h n (List.mem_cons_self ..)).1 (h n (List.mem_cons_self ..)).2
    have h3 : (⟨#[32]⟩ : ByteArray).size = 1 := rfl
    simp only [lineFrom, List.foldl_cons, ByteArray.size_append, h3, List.length_cons] at h1 ⊢
    omega
theorem may_facts {e : Entry} (h : e.may = true) : e.kind.size ≤ 8 ∧ 0 ≤ e.id ∧ e.id ≤ 999 ∧ e.n.length ≤ 4 ∧ ∀ n ∈ e.n, -1000000000 ≤ n ∧ n ≤ 1000000000 := by
  simp only [Entry.may, namedB, numberedB, Bool.and_eq_true, decide_eq_true_eq, List.all_eq_true] at h
  refine ⟨h.1.1.1.2, h.1.1.2, h.1.2, h.2.1, fun n hn => ?_⟩
  have := h.2.2 n hn
  simp [amidB] at this
  omega

def Entry.errno (e : Entry) : Int := if e.may then 0 else 1
def Entry.text (e : Entry) : ByteArray := if e.may then e.line else ⟨#[]⟩
set_option maxRecDepth 100000 in
set_option maxHeartbeats 1600000 in
theorem line_call (e : Entry) (nv : Value) (w : World) (F : HL) (hw : Has w F) (hT : Tab F) (hl : ∀ W M, Has W (M ++ F) → SlAt W iEnc 1 nv e.n) (hn : e.n.length < 1000000) (hk : e.kind.size < 1000000) :
    Calls Tryz.prog 97 #[.agg (e.cells nv)] w fun r w' => r = .returned (.tuple #[.string e.text, (Value.int .i64 e.errno)]) ∧ Has w' F ∧ Kin w w' := by
  obtain ⟨kind, id, n⟩ := e
  dsimp only at hl hn hk
  obtain ⟨a, cap, rfl⟩ := (hl w [] hw).len
  unfold Entry.cells
  dsimp only
  have Hl := Lib.hid hl; have Hw := Lib.hid (hw.alloc (.cells #[.string kind, (Value.int .i64 id), .slice a n.length cap] 81))
  clear hl hw
  go_enter Tryz.func97, Tryz.ntmps97
  go_wp2_with fail
  refine (emay_call ⟨kind, id, n⟩ (.slice a n.length cap) _ (Hl.out _ [_] Hw.out) hn hk).mono ?_
  rintro r w1 ⟨rfl, hb1⟩
  have hw1 := Hw.out.below_all hb1
  have p0 := hw1.lth
  have x0 := (hw1).cellh 0; have x1 := (hw1).cellh 1; have x2 := (hw1).cellh 2; simp at x0 x1 x2
  have Hw1 := Lib.hid hw1; have Hb1 := Lib.hid hb1; clear hw1 hb1
  obtain ⟨m, hm⟩ : ∃ m, Entry.may ⟨kind, id, n⟩ = m := ⟨_, rfl⟩
  have Hm := Lib.hid hm
  rw [hm]
  cases m
  · clear hm
    go_wp2
    refine bodyPost_ret (v := .tuple #[.string ⟨#[]⟩, (Value.int .i64 1)]) (by simp [results, Tryz.results97, go_sem]) rfl ⟨by simp only [Entry.text, Entry.errno, Hm.out]; rfl, Hw1.out.tail, ((Kin.refl w).alloc _).trans (Kin.of_below Hb1.out)⟩
  · obtain ⟨b1, b2, b3, b4, b5⟩ := may_facts hm
    dsimp only at b1 b2 b3 b4 b5
    clear hm
    have Hb5 := Lib.hid b5; clear b5
    have hx : SlAt (w1.alloc (.cells #[(Value.int .i64 id)] 3)) iEnc 1 (.slice a n.length cap) n := Hl.out _ ((w1.heap.size, .cells #[(Value.int .i64 id)] 3) :: (w.heap.size, .cells #[.string kind, (Value.int .i64 id), .slice a n.length cap] 81) :: []) (Hw1.out.alloc _)
    have Hx := Lib.hid hx; clear hx
    have hA : Has (w1.alloc (.cells #[(Value.int .i64 id)] 3)) ([(w1.heap.size, .cells #[(Value.int .i64 id)] 3)] ++ ((w.heap.size, .cells #[.string kind, (Value.int .i64 id), .slice a n.length cap] 81) :: F)) := Hw1.out.alloc _
    have HA := Lib.hid hA; clear hA
    go_wp2_with (at_builtin; go_loud (refine wpList_append_has rfl _ _ 57 rfl encI elem_int rfl rfl (SlR.lit (l := [id]) (n := 1) encI rfl rfl (by decide)) HA.out Hx.out (by simp; omega) ?_); intro v' w2 L2 hR2 hw2 hk2; obtain ⟨a2, cap2, rfl⟩ := hR2.val)
    obtain ⟨l, hl⟩ : ∃ l, l = [id] ++ n := ⟨_, rfl⟩
    have hl5 : ∀ m ∈ l, -1000000000 ≤ m ∧ m ≤ 1000000000 := by
      subst hl
      intro m hm
      rcases List.mem_append.1 hm with hm | hm
      · simp at hm; omega
      · exact Hb5.out m hm
    have hll : l.length ≤ 5 := by subst hl; simp; omega
    have hlen : l.length = n.length + 1 := by subst hl; simp
    rw [← hl] at hR2
    have Hll := Lib.hid hl; have Hl5 := Lib.hid hl5; have HR2 := Lib.hid hR2; have Hw2 := Lib.hid hw2
    have Hk2 := Lib.hid ((((Kin.refl w).alloc (.cells #[.string kind, (Value.int .i64 id), .slice a n.length cap] 81)).trans (Kin.of_below Hb1.out)).trans (((Kin.refl w1).alloc _).trans hk2))
    clear hl hl5 hR2 hw2 hk2
    go_loopw [19, 4] (fun i s wr => ∃ k : Nat, k ≤ l.length ∧ i = .int .i64 k ∧ s = .string (lineFrom kind (l.take k)) ∧ Has wr (L2 ++ ((w.heap.size, .cells #[.string kind, (Value.int .i64 id), .slice a n.length cap] 81) :: F)) ∧ Kin w wr) (fun i _ _ => l.length - (intOf i).toNat)
    case atStart => exact ⟨0, Nat.zero_le _, rfl, rfl, Hw2.out, Hk2.out⟩
    case round =>
      obtain ⟨k, hk, rfl, rfl, hwr, hkin⟩ := hrel
      have hsl := HR2.out.at encI hwr
      have htab : TabAt wr := hT wr (L2 ++ [(w.heap.size, .cells #[.string kind, (Value.int .i64 id), .slice a n.length cap] 81)]) (hwr.re (by intro x; simp only [cnt_append, cnt_cons, cnt_nil, List.tail_cons, World.size_alloc, World.size_setCell, World.size_drew, List.setIfInBounds_toArray, List.set_cons_zero, List.set_cons_succ] <;> omega))
      have Hwr := Lib.hid hwr; have Htab := Lib.hid htab; have Hkin := Lib.hid hkin; clear hwr htab hkin
      have hsz := lineFrom_size kind (l.take k) (fun m hm => Hl5.out m (List.mem_of_mem_take hm))
      have hlt2 : (l.take k).length ≤ 5 := by simp; omega
      have hsz2 : (lineFrom kind (l.take k)).size ≤ 118 := by omega
      clear hsz hlt2
      by_cases hlt : k < l.length
      · obtain ⟨x, hxk⟩ : ∃ x, l[k]? = some x := ⟨l[k], by simp [hlt]⟩
        have hstep : l.take (k + 1) = l.take k ++ [x] := by rw [List.take_add_one, hxk]; rfl
        obtain ⟨x1, x2⟩ := Hl5.out x (List.mem_of_getElem? hxk)
        have hix := itoaB_size x x1 x2
        rcases hsl with ⟨h0, h1⟩ | ⟨b', off, cap', h0, hcs⟩
        · rw [h1] at hlt; simp at hlt
        obtain rfl : a2 = some ⟨b', off, none⟩ := by simpa using (Value.slice.inj h0).1
        have c0 := hcs k x hxk 0 ((Value.int .i64 x)) rfl
        simp only [Nat.add_zero, Nat.mul_one] at c0
        have Hstep := Lib.hid hstep
        clear hcs h0 hxk hstep
        have hlt3 : (k : Int) < (n.length : Int) + 1 := by omega
        have hlt4 : k < n.length + 1 := by omega
        have z1 : ¬ 9223372036854775807 < 1 + (itoaB x).size := by omega
        have z2 : ¬ 9223372036854775807 < (lineFrom kind (l.take k)).size + (1 + (itoaB x).size) := by omega
        have z3 : 1 + (itoaB x).size ≤ 9223372036854775807 := by omega
        have z4 : (lineFrom kind (l.take k)).size + (1 + (itoaB x).size) ≤ 9223372036854775807 := by omega
        go_wp2_with fail
        refine (itoa_call x (by omega) (by omega) wr Htab.out).mono ?_
        rintro r w3 ⟨rfl, hb3⟩
        go_wp2
        go_roundw
        case rel => exact ⟨k + 1, by omega, by go_num, by rw [Hstep.out, lineFrom_snoc], Hwr.out.below_all hb3, Hkin.out.trans (Kin.of_below hb3)⟩
        case measure => simp [intOf]; omega
      · clear hsl
        have e : l.take k = l := List.take_of_length_le (by omega)
        have hlt3 : ¬ ((k : Int) < (n.length : Int) + 1) := by omega
        rw [e] at hsz2 ⊢
        go_wp2_with fail
        refine (sign_call _ _ (by omega)).mono ?_
        rintro r w3 ⟨rfl, hb3⟩
        go_wp2
        refine bodyPost_ret (v := .tuple #[.string (signB (lineFrom kind l)), (Value.int .i64 0)]) (by simp [results, Tryz.results97, go_sem]) rfl ⟨by simp only [Entry.text, Entry.errno, Hm.out, if_true, Entry.line, Hll.out]; rfl, ((Hwr.out.below_all hb3).sub (by intro x; simp only [cnt_append, cnt_cons, cnt_nil, List.tail_cons, World.size_alloc, World.size_setCell, World.size_drew, List.setIfInBounds_toArray, List.set_cons_zero, List.set_cons_succ] <;> omega)), Hkin.out.trans (Kin.of_below hb3)⟩

end Go.Proofs.YtcfaimmcedpgiaaGreatDoor
