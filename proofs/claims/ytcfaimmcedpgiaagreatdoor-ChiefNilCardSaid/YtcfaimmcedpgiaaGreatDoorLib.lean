/-
  Functions of Go's library at the types that the program uses: Clone, Index, Contains, Reverse, Equal. No condition but lengths. A lemma file: no statement of the seat is proved here.
-/
import Derived.Test.YtcfaimmcedpgiaaGreatDoorSlices
import Derived.BigQuiet
import Derived.WalkSpells
import Derived.Deep.QuietTactic
namespace Go.Proofs.YtcfaimmcedpgiaaGreatDoor
set_option linter.unusedVariables false
set_option linter.unusedSimpArgs false
open Go.RowKit

theorem elem_bool : Elem Tryz.prog 50 4 1 1 := by
  refine ⟨Tryz.underlying50, ?_, by decide, by decide⟩
  obtain ⟨i, h1, h2, h3, h4⟩ := info_parts (show (Tryz.prog.info? 4).map (fun i => (i.zero, i.size, i.bytes)) = some (some (.bool false), 1, 1) by kernel_rfl)
  exact ⟨i, (.bool false), h1, h2, h3, h4, rfl⟩
set_option maxRecDepth 100000 in
theorem clone_bool (l : List Bool) (v : Value) (w : World) (F : HL) (hw : Has w F) (hl : SlAt w bEnc 1 v l) (hn : l.length ≤ 1000000) :
    Calls Tryz.prog 51 #[v] w fun e w' => ∃ v' L', e = .returned v' ∧ SlR bEnc 1 4 v' l L' ∧ Has w' (L' ++ F) ∧ Kin w w' := by
  have hE := Lib.hid elem_bool
  have hl0 := Lib.hid hl
  have k0 := fun (w : World) (a : Option Addr) (n c n' c' : Nat) => Lib.run_eql_slice_nil (P := Tryz.prog) w 50 4 a n c n' c' Tryz.underlying50
  rcases hl with ⟨rfl, rfl⟩ | ⟨b, off, cap, rfl, hcs⟩
  · go_enter Tryz.func51, Tryz.ntmps51
    go_wp2
    go_ret
    exact ⟨_, [], rfl, .nil, hw, Kin.refl _⟩
  · clear hcs
    have hw1 := Lib.hid (hw.alloc (.cells #[] 4))
    have hR := Lib.hid (SlR.empty bEnc 1 4 w.heap.size)
    have hx := Lib.hid (hl0.out.below ((Below.refl _ w).alloc (Nat.le_refl _) (.cells #[] 4)))
    go_enter Tryz.func51, Tryz.ntmps51
    go_wp2_with (at_builtin; refine wpList_append_has rfl _ _ 50 rfl encB hE.out rfl rfl hR.out hw1.out hx.out (by simp; omega) ?_; intro v' w' L' h1 h2 h3)
    go_ret
    exact ⟨_, L', rfl, h1, h2, ((Kin.refl w).alloc _).trans h3⟩

-- slices.Index, slices.Contains at []bool
def idxB (l : List Bool) (x : Bool) : Int := match l.findIdx? (fun y => x == y) with | some i => (i : Int) | none => -1
theorem idxB_some {l : List Bool} {x : Bool} {k : Nat} (hk : l[k]? = some x) (hno : ∀ (j : Nat) (y : Bool), j < k → l[j]? = some y → (x == y) = false) : idxB l x = k := by
  have hlt := (List.getElem?_eq_some_iff.1 hk).1
  have : l.findIdx? (fun y => x == y) = some k := by
    rw [List.findIdx?_eq_some_iff_getElem]
    refine ⟨hlt, by have := (List.getElem?_eq_some_iff.1 hk).2; simp [this], fun j hj => by have := hno j l[j] hj (by simp); simp [this]⟩
  simp [idxB, this]
theorem idxB_none {l : List Bool} {x : Bool} (hno : ∀ (j : Nat) (y : Bool), l[j]? = some y → (x == y) = false) : idxB l x = -1 := by
  have : l.findIdx? (fun y => x == y) = none := by
    rw [List.findIdx?_eq_none_iff]
    intro y hy
    obtain ⟨j, hj⟩ := List.mem_iff_getElem?.1 hy
    exact hno j y hj
  simp [idxB, this]
theorem idxB_contains (l : List Bool) (x : Bool) : decide (0 ≤ idxB l x) = l.contains x := by
  unfold idxB
  cases h : l.findIdx? (fun y => x == y) with
  | none =>
    rw [List.findIdx?_eq_none_iff] at h
    have : l.contains x = false := by
      rw [Bool.eq_false_iff]; intro hc
      have := h x (by simpa using hc); simp at this
    rw [this]; rfl
  | some i =>
    rw [List.findIdx?_eq_some_iff_getElem] at h
    obtain ⟨hi, hx, _⟩ := h
    have : l.contains x = true := by
      rw [List.contains_iff_mem]; rw [show x = l[i] by simpa using hx]; exact List.getElem_mem _
    rw [this]; simp

set_option maxHeartbeats 400000 in
theorem indexB_call (l : List Bool) (v : Value) (x : Bool) (w : World) (hl : SlAt w bEnc 1 v l) (hn : l.length < 1000000) :
    Calls Tryz.prog 66 #[v, .bool x] w fun e w' => e = .returned ((Value.int .i64 (idxB l x))) ∧ w = w' := by
  obtain ⟨a, cap, rfl⟩ := hl.len
  go_enter Tryz.func66, Tryz.ntmps66
  go_wp2
  go_loop [8] (fun i => ∃ k : Nat, k ≤ l.length ∧ i = .int .i64 k ∧ (∀ j y, j < k → l[j]? = some y → (x == y) = false)) (fun i => l.length - (intOf i).toNat)
  case atStart => exact ⟨0, Nat.zero_le _, rfl, fun j s h => by omega⟩
  case round =>
    obtain ⟨k, hk, rfl, hno⟩ := hrel
    have Hno := Lib.hid hno; clear hno
    by_cases hlt : k < l.length
    · obtain ⟨y, hy⟩ : ∃ s, l[k]? = some s := ⟨l[k], by simp [hlt]⟩
      rcases hl with ⟨h0, h1⟩ | ⟨b', off, cap', h0, hcs⟩
      · rw [h1] at hlt; simp at hlt
      · obtain rfl : a = some ⟨b', off, none⟩ := by simpa using (Value.slice.inj h0).1
        have c0 := hcs k y hy 0 (.bool y) rfl
        clear hcs
        simp only [Nat.add_zero, Nat.mul_one] at c0
        have Hy := Lib.hid hy; clear hy
        cases hq : x == y with
        | true =>
          go_wp2
          go_ret
          refine ⟨?_, rfl⟩
          rw [idxB_some (by rw [Hy.out]; simpa using (by simpa using hq : x = y).symm) Hno.out]; rfl
        | false =>
          go_wp2
          go_round
          case rel =>
            refine ⟨k + 1, by omega, by go_num, ?_⟩
            intro j t hj ht
            by_cases hjk : j = k
            · subst hjk; rw [Hy.out] at ht; cases ht; exact hq
            · exact Hno.out j t (by omega) ht
          case measure => simp [intOf]; omega
    · go_wp2
      go_ret
      refine ⟨?_, rfl⟩
      rw [idxB_none fun j y hj => Hno.out j y (by have := (List.getElem?_eq_some_iff.1 hj).1; omega) hj]; rfl

/-- Whether one of a list is so (a name of its own: the walk does not open it). -/
def hasB (l : List Bool) (x : Bool) : Bool := l.contains x
theorem containsB_call (l : List Bool) (v : Value) (x : Bool) (w : World) (hl : SlAt w bEnc 1 v l) (hn : l.length < 1000000) :
    Calls Tryz.prog 93 #[v, .bool x] w fun e w' => e = .returned (.bool (hasB l x)) ∧ w = w' := by
  have H := Lib.hid (idxB_contains l x)
  have Hl := Lib.hid hl; clear hl
  go_enter Tryz.func93, Tryz.ntmps93
  go_wp2_with (go_at_call 66; refine (indexB_call l v x w Hl.out hn).mono ?_; rintro e w' ⟨rfl, rfl⟩)
  go_ret
  refine ⟨?_, rfl⟩
  unfold hasB; rw [← H.out]; rfl

-- slices.Reverse at []bool, of a slice that is owned
/-- k of each end exchanged. -/
def RevTo (l : List Bool) (k : Nat) (c : List Bool) : Prop := c.length = l.length ∧ ∀ p, p < l.length → c[p]? = if p < k ∨ l.length - 1 - p < k then l[l.length - 1 - p]? else l[p]?
theorem revTo_zero (l : List Bool) : RevTo l 0 l := ⟨rfl, fun p _ => by simp⟩
theorem revTo_end {l c : List Bool} {k : Nat} (h : RevTo l k c) (hk : l.length ≤ 2 * k + 1) : c = l.reverse := by
  apply List.ext_getElem?
  intro p
  by_cases hp : p < l.length
  · rw [h.2 p hp, List.getElem?_reverse hp]
    split
    · rfl
    · rw [show l.length - 1 - p = p by omega]
  · rw [List.getElem?_eq_none (by rw [h.1]; omega), List.getElem?_eq_none (by simp; omega)]
theorem revTo_step {l c : List Bool} {k : Nat} (h : RevTo l k c) (hk : 2 * k + 1 < l.length) {x y : Bool} (hx : c[k]? = some x) (hy : c[l.length - 1 - k]? = some y) :
    RevTo l (k + 1) ((c.set k y).set (l.length - 1 - k) x) := by
  refine ⟨by simp [h.1], fun p hp => ?_⟩
  have hxl := h.2 k (by omega)
  have hyl := h.2 (l.length - 1 - k) (by omega)
  rw [if_neg (by omega)] at hxl hyl
  rw [List.getElem?_set]
  by_cases e1 : l.length - 1 - k = p
  · rw [if_pos e1, if_pos (by rw [List.length_set, h.1]; omega), if_pos (by omega)]
    rw [← hx, hxl]; congr 1; omega
  · rw [if_neg e1, List.getElem?_set]
    by_cases e2 : k = p
    · rw [if_pos e2, if_pos (by rw [h.1]; omega), if_pos (by omega), ← hy, hyl]; congr 1; omega
    · rw [if_neg e2, h.2 p hp]
      by_cases e3 : p < k ∨ l.length - 1 - p < k
      · rw [if_pos e3, if_pos (by omega)]
      · rw [if_neg e3, if_neg (by omega)]

theorem flat_bool (l : List Bool) : l.flatMap bEnc = l.map .bool := by induction l <;> simp_all [bEnc]
/-- A row of bools in a block. -/
def BRow (b : Nat) (e : TypeId) (cap : Nat) (c : List Bool) (cur : Array Value) (L : HL) : Prop := L = [(b, .cells cur e)] ∧ cur.size = cap ∧ cur.toList.take c.length = c.map .bool
theorem brow_get {b : Nat} {e : TypeId} {cap : Nat} {c : List Bool} {cur : Array Value} {L : HL} (h : BRow b e cap c cur L) {k : Nat} {x : Bool} (hx : c[k]? = some x) : cur[k]? = some (.bool x) := by
  have hk := (List.getElem?_eq_some_iff.1 hx).1
  have := congrArg (fun l => l[k]?) h.2.2
  simp only [List.getElem?_take, if_pos hk, List.getElem?_map, hx, Option.map_some] at this
  simpa using this
theorem brow_set {b : Nat} {e : TypeId} {cap : Nat} {c : List Bool} {cur : Array Value} {L : HL} (h : BRow b e cap c cur L) (k : Nat) (x : Bool) :
    BRow b e cap (c.set k x) (cur.setIfInBounds k (.bool x)) [(b, .cells (cur.setIfInBounds k (.bool x)) e)] := by
  refine ⟨rfl, by simp [h.2.1], ?_⟩
  rw [List.length_set, Array.toList_setIfInBounds, List.take_set, h.2.2, List.map_set]

set_option maxHeartbeats 800000 in
set_option maxRecDepth 100000 in
theorem reverseB_call (l : List Bool) (v : Value) (w : World) (L F : HL) (hl : SlR bEnc 1 4 v l L) (hw : Has w (L ++ F)) (hn : l.length < 1000000) :
    Calls Tryz.prog 117 #[v] w fun e w' => e = .returned (.tuple #[]) ∧ ∃ L', SlR bEnc 1 4 v l.reverse L' ∧ Has w' (L' ++ F) ∧ Kin w w' := by
  rcases hl with ⟨rfl, rfl, rfl⟩ | ⟨b, cap, cur0, rfl, rfl, hc, hm, hs, ht⟩
  · go_enter Tryz.func117, Tryz.ntmps117
    go_wp2
    go_loopw [2, 3] (fun i j wr => i = .int .i64 0 ∧ j = .int .i64 (-1) ∧ wr = w) (fun _ _ _ => 0)
    case atStart => exact ⟨rfl, rfl, rfl⟩
    case round =>
      obtain ⟨rfl, rfl, rfl⟩ := hrel
      go_wp2
      go_end0
      exact ⟨rfl, [], .nil, hw, Kin.refl _⟩
  · have hb0 : BRow b 4 cap l cur0 [(b, .cells cur0 4)] := ⟨rfl, by rw [hs]; omega, by rw [← flat_bool, ← ht, Nat.mul_one]⟩
    clear ht hs
    have Hw := Lib.hid hw; clear hw
    go_enter Tryz.func117, Tryz.ntmps117
    go_wp2
    go_loopw [2, 3] (fun i j wr => ∃ k : Nat, ∃ c cur L', i = .int .i64 k ∧ j = .int .i64 ((l.length : Int) - 1 - k) ∧ 2 * k ≤ l.length + 1 ∧ RevTo l k c ∧ BRow b 4 cap c cur L' ∧ Has wr (L' ++ F) ∧ Kin w wr) (fun i j _ => (intOf j + 2 - intOf i).toNat)
    case atStart => exact ⟨0, l, cur0, _, rfl, by simp, by omega, revTo_zero l, hb0, Hw.out, Kin.refl _⟩
    case round =>
      obtain ⟨k, c, cur, L', rfl, rfl, hk, hrev, hrow, hwr, hkin⟩ := hrel
      obtain ⟨rfl, hsz, htk⟩ := id hrow
      by_cases hlt : 2 * k + 1 < l.length
      · obtain ⟨x, hx⟩ : ∃ x, c[k]? = some x := ⟨c[k]'(by rw [hrev.1]; omega), by simp⟩
        obtain ⟨y, hy⟩ : ∃ x, c[l.length - 1 - k]? = some x := ⟨c[l.length - 1 - k]'(by rw [hrev.1]; omega), by simp⟩
        have c0 := hwr.cell (b := b) (c := cur) (t := 4) (f := (0, 0)) (by simp) k
        have c1 := hwr.cell (b := b) (c := cur) (t := 4) (f := (0, 0)) (by simp) (l.length - 1 - k)
        rw [brow_get hrow hx] at c0
        rw [brow_get hrow hy] at c1
        have f0 := hwr.free (b := b) (c := cur) (t := 4) (by simp) k
        have f1 := hwr.free (b := b) (c := cur) (t := 4) (by simp) (l.length - 1 - k)
        have en : ((l.length : Int) - 1 - k) = ((l.length - 1 - k : Nat) : Int) := by omega
        rw [en]
        have hlt' : k < l.length - 1 - k := by omega
        have hb1 : l.length - 1 - k < l.length := by omega
        have hb2 : k < l.length := by omega
        have Hx := Lib.hid hx; have Hy := Lib.hid hy; have Hen := Lib.hid en; have Hhwr := Lib.hid hwr; have Hrow := Lib.hid hrow; have Hrev := Lib.hid hrev
        clear hx hy en hwr hrow hrev htk hsz
        generalize hm2 : l.length - 1 - k = m at *
        have Hm2 := Lib.hid hm2; clear hm2
        go_wp2
        go_region
        go_wp2
        have h1 := (Hhwr.out.setCell k (.bool y)).setCell m (.bool x)
        have r1 := brow_set (brow_set Hrow.out k y) m x
        go_roundw
        case rel =>
          refine ⟨k + 1, _, _, _, by go_num, ?_, by omega, revTo_step Hrev.out hlt Hx.out (by rw [Hm2.out]; exact Hy.out), by rw [Hm2.out]; exact r1, h1.drew, ((hkin.setCell _ _).setCell _ _).drew⟩
          have := Hm2.out
          congr 1; omega
        case measure => simp [intOf]; have := Hm2.out; omega
      · go_wp2
        go_end0
        refine ⟨rfl, _, ?_, hwr, hkin⟩
        rw [← revTo_end hrev (by omega)]
        exact .inr ⟨b, cap, cur, by rw [hrev.1], rfl, by rw [hrev.1]; exact hc, hm, by simpa using hsz, by rw [flat_bool, ← htk]; simp⟩

end Go.Proofs.YtcfaimmcedpgiaaGreatDoor
