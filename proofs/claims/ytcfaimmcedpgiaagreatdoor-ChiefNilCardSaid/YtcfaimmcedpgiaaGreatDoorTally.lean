/-
  tally: contracts. A lemma file: no statement of the seat is proved here.
-/
import Derived.Test.YtcfaimmcedpgiaaGreatDoorKeep
import Derived.Deep.OwnRows
namespace Go.Proofs.YtcfaimmcedpgiaaGreatDoor
set_option linter.unusedVariables false
set_option linter.unusedSimpArgs false
open Go.RowKit

structure TallyM where
  said : List Int
  decided : Bool
  outcome : Bool
  deriving Repr, DecidableEq
def waitsL (said : List Int) : List Int := (said.zipIdx.filter (fun x => x.1 == 0)).map fun x => (x.2 : Int)
def TallyM.waits (t : TallyM) : List Int := if t.decided then [] else waitsL t.said
def TallyR (b : Nat) (t : TallyM) (L : HL) : Prop := ∃ sv Ls, L = (b, .cells #[sv, .bool t.decided, .bool t.outcome] 136) :: Ls ∧ SlR iEnc 1 3 sv t.said Ls ∧ t.said.length ≤ 64

theorem waitsL_snoc (l : List Int) (x : Int) : waitsL (l ++ [x]) = waitsL l ++ (if x = 0 then [(l.length : Int)] else []) := by
  simp only [waitsL, List.zipIdx_append, List.filter_append, List.map_append]
  congr 1
  by_cases h : x = 0
  · subst h; simp
  · simp [h]
theorem waitsL_le (l : List Int) : (waitsL l).length ≤ l.length := by
  simp only [waitsL, List.length_map]
  exact Nat.le_trans (List.length_filter_le _ _) (by simp)
theorem elem_int : Elem Tryz.prog 57 3 1 8 := by
  refine ⟨Tryz.underlying57, ?_, by decide, by decide⟩
  obtain ⟨i, h1, h2, h3, h4⟩ := info_parts (show (Tryz.prog.info? 3).map (fun i => (i.zero, i.size, i.bytes)) = some (some (.int .i64 0), 1, 8) by kernel_rfl)
  exact ⟨i, _, h1, h2, h3, h4, rfl⟩

theorem tnew_call (w : World) (F : HL) (hw : Has w F) :
    Calls Tryz.prog 106 #[(Value.int .i64 2)] w fun e w' => ∃ b L, e = .returned (.pointer (some ⟨b, 0, none⟩)) ∧ TallyR b ⟨[0, 0], false, false⟩ L ∧ Has w' (L ++ F) ∧ Kin w w' := by
  have Hw := Lib.hid hw; clear hw
  have hmk : ∀ w : World, (Instr.makeSlice 57 (.int .i64 2) (.int .i64 2)).run Tryz.prog w = .ok (.slice (some ⟨w.heap.size, 0, none⟩) 2 2) (w.alloc (.cells #[.int .i64 0, .int .i64 0] 3)) := fun w => by
    have h := run_make_row' (P := Tryz.prog) 57 3 (.int .i64 0) 8 Tryz.underlying57 (by kernel_rfl) rfl .i64 .i64 2 (by omega) (by omega) w
    rw [show madeCells #[Value.int .i64 0] 2 = #[Value.int .i64 0, Value.int .i64 0] from by kernel_rfl] at h
    exact h
  go_enter Tryz.func106, Tryz.ntmps106
  go_wp2
  refine bodyPost_ret (v := .pointer (some ⟨w.heap.size + 1, 0, none⟩)) (by simp [results, Tryz.results106, go_sem]) rfl
    ⟨_, (w.heap.size + 1, .cells #[.slice (some ⟨w.heap.size, 0, none⟩) 2 2, .bool false, .bool false] 136) :: [(w.heap.size, .cells #[.int .i64 0, .int .i64 0] 3)], rfl, ⟨_, _, rfl, SlR.lit (l := [0, 0]) encI rfl rfl (by decide), by decide⟩, ?_, ?_⟩
  · refine Has.sub ((Hw.out.alloc _).alloc _) ?_
    intro x; simp only [cnt_append, cnt_cons, cnt_nil, List.tail_cons, World.size_alloc, World.size_setCell, World.size_drew, List.setIfInBounds_toArray, List.set_cons_zero, List.set_cons_succ] <;> omega
  · exact ((Kin.refl w).alloc _).alloc _

set_option maxRecDepth 100000 in
set_option maxHeartbeats 1600000 in
theorem waits_call (b : Nat) (t : TallyM) (w : World) (L F : HL) (hw : Has w (L ++ F)) (hT : TallyR b t L) :
    Calls Tryz.prog 68 #[.pointer (some ⟨b, 0, none⟩)] w fun e w' => ∃ v Lv, e = .returned v ∧ SlR iEnc 1 3 v t.waits Lv ∧ Has w' (Lv ++ L ++ F) ∧ Kin w w' := by
  obtain ⟨said, decided, outcome⟩ := t
  obtain ⟨sv, Ls, rfl, hS, hlen⟩ := hT
  dsimp only at hS hlen hw
  have h0 : Has w ((b, .cells #[sv, .bool decided, .bool outcome] 136) :: (Ls ++ F)) := hw
  have p0 := h0.lth
  have x0 := (h0).cellh 0; have x1 := (h0).cellh 1; have x2 := (h0).cellh 2; simp at x0 x1 x2
  have Hw := Lib.hid hw; have HS := Lib.hid hS; have Hlen := Lib.hid hlen
  obtain ⟨a, cap, rfl⟩ := hS.val
  clear hw hS h0
  go_enter Tryz.func68, Tryz.ntmps68
  cases decided
  · go_wp2
    go_loopw [19, 3] (fun i acc wr => ∃ k : Nat, ∃ La, k ≤ said.length ∧ i = .int .i64 k ∧ SlR iEnc 1 3 acc (waitsL (said.take k)) La ∧ Has wr (La ++ ((b, .cells #[.slice a said.length cap, .bool false, .bool outcome] 136) :: (Ls ++ F))) ∧ Kin w wr) (fun i _ _ => said.length - (intOf i).toNat)
    case atStart => exact ⟨0, [], Nat.zero_le _, rfl, .nil, Hw.out, Kin.refl _⟩
    case round =>
      obtain ⟨k, La, hk, rfl, hA, hwr, hkin⟩ := hrel
      have hsl := HS.out.at encI (w := wr) (F := (b, .cells #[.slice a said.length cap, .bool false, .bool outcome] 136) :: (La ++ F)) (hwr.re (by intro x; simp only [cnt_append, cnt_cons, cnt_nil, List.tail_cons, World.size_alloc, World.size_setCell, World.size_drew, List.setIfInBounds_toArray, List.set_cons_zero, List.set_cons_succ] <;> omega))
      have Hwr := Lib.hid hwr; have HA := Lib.hid hA; clear hwr hA
      by_cases hlt : k < said.length
      · obtain ⟨s, hsk⟩ : ∃ s, said[k]? = some s := ⟨said[k], by simp [hlt]⟩
        have hstep : said.take (k + 1) = said.take k ++ [s] := by rw [List.take_add_one, hsk]; rfl
        have hkl : (said.take k).length = k := by simp; omega
        rcases hsl with ⟨h0, h1⟩ | ⟨b', off, cap', h0, hcs⟩
        · rw [h1] at hlt; simp at hlt
        obtain rfl : a = some ⟨b', off, none⟩ := by simpa using (Value.slice.inj h0).1
        have c0 := hcs k s hsk 0 ((Value.int .i64 s)) rfl
        simp only [Nat.add_zero, Nat.mul_one] at c0
        have Hstep := Lib.hid hstep; have Hkl := Lib.hid hkl
        clear hcs h0 hsk hstep hkl
        by_cases hs : s = 0
        · subst hs
          have hx : SlAt (wr.alloc (.cells #[.int .i64 k] 3)) iEnc 1 (.slice (some ⟨wr.heap.size, 0, none⟩) 1 1) [(k : Int)] := SlR.at (L := [(wr.heap.size, .cells #[.int .i64 k] 3)]) (SlR.lit (l := [(k : Int)]) encI rfl rfl (by simp)) encI (F := _) (Hwr.out.alloc _)
          have Hx := Lib.hid hx; clear hx
          go_wp2_with (at_builtin; go_loud (refine wpList_append_has rfl _ _ 57 rfl encI elem_int rfl rfl HA.out (Hwr.out.alloc (.cells #[.int .i64 k] 3)).tail Hx.out (by have := waitsL_le (said.take k); have := Hlen.out; simp at *; omega) ?_); intro v' w' L' h1 h2 h3)
          go_roundw
          case rel => exact ⟨k + 1, L', by omega, by go_num, by rw [Hstep.out, waitsL_snoc, Hkl.out]; exact h1, h2, hkin.trans (((Kin.refl _).alloc _).trans h3)⟩
          case measure => simp [intOf]; omega
        · go_wp2
          go_roundw
          case rel => exact ⟨k + 1, La, by omega, by go_num, by rw [Hstep.out, waitsL_snoc, if_neg hs, List.append_nil]; exact HA.out, Hwr.out, hkin⟩
          case measure => simp [intOf]; omega
      · clear hsl
        go_wp2
        go_ret
        have e : said.take k = said := List.take_of_length_le (by omega)
        refine ⟨_, La, rfl, ?_, Hwr.out.sub (by intro x; simp only [cnt_append, cnt_cons, cnt_nil, List.tail_cons, World.size_alloc, World.size_setCell, World.size_drew, List.setIfInBounds_toArray, List.set_cons_zero, List.set_cons_succ] <;> omega), hkin⟩
        have := HA.out
        rw [e] at this
        exact this
  · go_wp2
    refine bodyPost_ret (v := .slice none 0 0) (by simp [results, Tryz.results68, go_sem]) rfl ⟨_, [], rfl, .nil, Hw.out, Kin.refl _⟩

theorem SlR.set1 {α : Type} {enc : α → List Value} {e : TypeId} {v : Value} {l : List α} {L : HL} (h : SlR enc 1 e v l L) (he : Enc enc 1) {i : Nat} {x : α} {u : Value} (hx : enc x = [u]) (hi : i < l.length) :
    ∃ b cap cur, v = .slice (some ⟨b, 0, none⟩) l.length cap ∧ L = [(b, .cells cur e)] ∧ SlR enc 1 e v (l.set i x) [(b, .cells (cur.setIfInBounds i u) e)] := by
  rcases h with ⟨rfl, rfl, rfl⟩ | ⟨b, cap, cur, rfl, rfl, hc, hm, hs, ht⟩
  · simp at hi
  · refine ⟨b, cap, cur, rfl, rfl, .inr ⟨b, cap, _, by rw [List.length_set], rfl, by rw [List.length_set]; exact hc, hm, by simp [hs], ?_⟩⟩
    simp only [Nat.mul_one] at ht ⊢
    rw [List.length_set, Array.toList_setIfInBounds, List.take_set, ht]
    apply List.ext_getElem?
    intro j
    have h1 := flat_get he (by decide) l j
    have h2 := flat_get he (by decide) (l.set i x) j
    simp only [Nat.div_one, Nat.mod_one] at h1 h2
    have hfl : (l.flatMap enc).length = l.length := by rw [flat_len he]; omega
    rw [h2, List.getElem?_set, List.getElem?_set, hfl]
    by_cases hj : i = j
    · subst hj; simp [hi, hx]
    · simp [hj, h1]

def TallyM.say (t : TallyM) (i : Nat) : TallyM :=
  if t.decided then t else match t.said[i]? with
    | none => t
    | some s => if s ≠ 0 ∧ s ≠ 1 then t else if waitsL (t.said.set i 1) = [] then ⟨t.said.set i 1, true, true⟩ else ⟨t.said.set i 1, false, t.outcome⟩

def TallyM.sayOk (t : TallyM) (i : Nat) : Bool := !t.decided && (t.said[i]? == some 0 || t.said[i]? == some 1)
set_option maxRecDepth 100000 in
set_option maxHeartbeats 1600000 in
theorem say_call (b : Nat) (t : TallyM) (i : Nat) (w : World) (L F : HL) (hw : Has w (L ++ F)) (hT : TallyR b t L) (hi : i < t.said.length) :
    Calls Tryz.prog 70 #[.pointer (some ⟨b, 0, none⟩), .int .i64 i, .bool true] w fun e w' => e = .returned (.bool (t.sayOk i)) ∧ ∃ L', TallyR b (t.say i) L' ∧ Has w' (L' ++ F) ∧ Kin w w' := by
  have hT0 := hT
  obtain ⟨said, decided, outcome⟩ := t
  obtain ⟨sv, Ls, rfl, hS, hlen⟩ := hT
  dsimp only at hS hlen hw hi
  have h0 : Has w ((b, .cells #[sv, .bool decided, .bool outcome] 136) :: (Ls ++ F)) := hw
  have p0 := h0.lth
  have x0 := (h0).cellh 0; have x1 := (h0).cellh 1; have x2 := (h0).cellh 2; simp at x0 x1 x2
  have f1 := h0.freeh 1; have f2 := h0.freeh 2
  have hsl := hS.at encI (w := w) (F := (b, .cells #[sv, .bool decided, .bool outcome] 136) :: F) (h0.re (by intro x; simp only [cnt_append, cnt_cons, cnt_nil, List.tail_cons, World.size_alloc, World.size_setCell, World.size_drew, List.setIfInBounds_toArray, List.set_cons_zero, List.set_cons_succ] <;> omega))
  obtain ⟨b', cap, cur, rfl, rfl, hSet⟩ := hS.set1 (i := i) (x := 1) (u := .int .i64 1) encI rfl hi
  rcases hsl with ⟨h1, _⟩ | ⟨b2, off, cap2, h1, hcs⟩
  · cases h1
  obtain ⟨s, hsi⟩ : ∃ s, said[i]? = some s := ⟨said[i], by simp [hi]⟩
  have h2 := (Value.slice.inj h1).1
  simp only [Option.some.injEq, Addr.mk.injEq] at h2
  obtain ⟨rfl, rfl, _⟩ := h2
  have c0 := hcs i s hsi 0 ((Value.int .i64 s)) rfl
  simp only [Nat.add_zero, Nat.mul_one, Nat.zero_add] at c0
  have hb' : Has w ((b', .cells cur 3) :: (b, .cells #[.slice (some ⟨b', 0, none⟩) said.length cap, .bool decided, .bool outcome] 136) :: F) := h0.re (by intro x; simp only [cnt_append, cnt_cons, cnt_nil, List.tail_cons, World.size_alloc, World.size_setCell, World.size_drew, List.setIfInBounds_toArray, List.set_cons_zero, List.set_cons_succ] <;> omega)
  have fb := hb'.freeh i
  have pb := hb'.lth
  have nb : b ≠ b' := hb'.ne (.head _)
  have nb' := Ne.symm nb
  have e63 : (0 : Int) ≤ (i : Int) := by omega
  have e64 : (i : Int) < (said.length : Int) := by omega
  have Hw := Lib.hid hw; have Hb := Lib.hid hb'; have HS := Lib.hid hSet; have HT := Lib.hid hT0; have Hsi := Lib.hid hsi; have Hlen := Lib.hid hlen
  clear hw hb' hSet hT0 h0 hcs h1 hsi hlen
  go_enter Tryz.func70, Tryz.ntmps70
  cases decided
  · by_cases hs0 : s = 0
    · · subst hs0
        go_wp2_with fail
        have hW := Lib.hid (Hb.out.setCell i (.int .i64 1))
        have hR : TallyR b ⟨said.set i 1, false, outcome⟩ [(b, .cells #[.slice (some ⟨b', 0, none⟩) said.length cap, .bool false, .bool outcome] 136), (b', .cells (cur.setIfInBounds i (.int .i64 1)) 3)] := ⟨_, _, rfl, HS.out, by simpa using Hlen.out⟩
        have HR := Lib.hid hR; clear hR
        refine (waits_call b ⟨said.set i 1, false, outcome⟩ _ _ F (hW.out.sub (by intro x; simp only [cnt_append, cnt_cons, cnt_nil, List.tail_cons, World.size_alloc, World.size_setCell, World.size_drew, List.setIfInBounds_toArray, List.set_cons_zero, List.set_cons_succ] <;> omega)) HR.out).mono ?_
        rintro e w1 ⟨v, Lv, rfl, hv, hw1, hk1⟩
        obtain ⟨av, cv, rfl⟩ := hv.val
        have hz1 : Has w1 ((b, .cells #[.slice (some ⟨b', 0, none⟩) said.length cap, .bool false, .bool outcome] 136) :: ((b', .cells (cur.setIfInBounds i (.int .i64 1)) 3) :: F)) := hw1.sub (by intro x; simp only [cnt_append, cnt_cons, cnt_nil, List.tail_cons, World.size_alloc, World.size_setCell, World.size_drew, List.setIfInBounds_toArray, List.set_cons_zero, List.set_cons_succ] <;> omega)
        have x0 := (hz1).cellh 0; have x1 := (hz1).cellh 1; have x2 := (hz1).cellh 2; simp at x0 x1 x2
        have pz := hz1.lth
        have f1 := hz1.freeh 1; have f2 := hz1.freeh 2
        have Hz1 := Lib.hid hz1; have Hk1 := Lib.hid hk1
        clear hz1 hw1 hk1 hv
        have hok : (⟨said, false, outcome⟩ : TallyM).sayOk i = true := by simp [TallyM.sayOk, Hsi.out]
        by_cases hl : waitsL (said.set i 1) = []
        · have hl0 : ((TallyM.waits ⟨said.set i 1, false, outcome⟩).length : Int) = 0 := by simp [TallyM.waits, hl]
          have hsay : (⟨said, false, outcome⟩ : TallyM).say i = ⟨said.set i 1, true, true⟩ := by simp [TallyM.say, Hsi.out, hl]
          have Hok := Lib.hid hok; have Hsay := Lib.hid hsay; have Hl := Lib.hid hl; clear hok hsay hl
          go_wp2_with fail
          refine bodyPost_ret (v := .bool true) (by simp [results, Tryz.results70, go_sem]) rfl ⟨by rw [Hok.out], [(b, .cells #[.slice (some ⟨b', 0, none⟩) said.length cap, .bool true, .bool true] 136), (b', .cells (cur.setIfInBounds i (.int .i64 1)) 3)], ?_, ?_, ?_⟩
          · rw [Hsay.out]; exact ⟨_, _, rfl, HS.out, by simpa using Hlen.out⟩
          · exact ((Hz1.out.setCell 1 (.bool true)).setCell 2 (.bool true)).sub (by intro x; simp only [cnt_append, cnt_cons, cnt_nil, List.tail_cons, World.size_alloc, World.size_setCell, World.size_drew, List.setIfInBounds_toArray, List.set_cons_zero, List.set_cons_succ] <;> omega)
          · exact (((Kin.refl w).setCell _ _).trans Hk1.out |>.setCell _ _).setCell _ _
        · have hl0 : ¬ ((TallyM.waits ⟨said.set i 1, false, outcome⟩).length : Int) = 0 := by simp [TallyM.waits, hl]
          have hsay : (⟨said, false, outcome⟩ : TallyM).say i = ⟨said.set i 1, false, outcome⟩ := by simp [TallyM.say, Hsi.out, hl]
          have Hok := Lib.hid hok; have Hsay := Lib.hid hsay; have Hl := Lib.hid hl; clear hok hsay hl
          go_wp2_with fail
          refine bodyPost_ret (v := .bool true) (by simp [results, Tryz.results70, go_sem]) rfl ⟨by rw [Hok.out], _, by rw [Hsay.out]; exact HR.out, Hz1.out.sub (by intro x; simp only [cnt_append, cnt_cons, cnt_nil, List.tail_cons, World.size_alloc, World.size_setCell, World.size_drew, List.setIfInBounds_toArray, List.set_cons_zero, List.set_cons_succ] <;> omega), ((Kin.refl w).setCell _ _).trans Hk1.out⟩
    · by_cases hs1 : s = 1
      · subst hs1
        go_wp2_with fail
        have hW := Lib.hid (Hb.out.setCell i (.int .i64 1))
        have hR : TallyR b ⟨said.set i 1, false, outcome⟩ [(b, .cells #[.slice (some ⟨b', 0, none⟩) said.length cap, .bool false, .bool outcome] 136), (b', .cells (cur.setIfInBounds i (.int .i64 1)) 3)] := ⟨_, _, rfl, HS.out, by simpa using Hlen.out⟩
        have HR := Lib.hid hR; clear hR
        refine (waits_call b ⟨said.set i 1, false, outcome⟩ _ _ F (hW.out.sub (by intro x; simp only [cnt_append, cnt_cons, cnt_nil, List.tail_cons, World.size_alloc, World.size_setCell, World.size_drew, List.setIfInBounds_toArray, List.set_cons_zero, List.set_cons_succ] <;> omega)) HR.out).mono ?_
        rintro e w1 ⟨v, Lv, rfl, hv, hw1, hk1⟩
        obtain ⟨av, cv, rfl⟩ := hv.val
        have hz1 : Has w1 ((b, .cells #[.slice (some ⟨b', 0, none⟩) said.length cap, .bool false, .bool outcome] 136) :: ((b', .cells (cur.setIfInBounds i (.int .i64 1)) 3) :: F)) := hw1.sub (by intro x; simp only [cnt_append, cnt_cons, cnt_nil, List.tail_cons, World.size_alloc, World.size_setCell, World.size_drew, List.setIfInBounds_toArray, List.set_cons_zero, List.set_cons_succ] <;> omega)
        have x0 := (hz1).cellh 0; have x1 := (hz1).cellh 1; have x2 := (hz1).cellh 2; simp at x0 x1 x2
        have pz := hz1.lth
        have f1 := hz1.freeh 1; have f2 := hz1.freeh 2
        have Hz1 := Lib.hid hz1; have Hk1 := Lib.hid hk1
        clear hz1 hw1 hk1 hv
        have hok : (⟨said, false, outcome⟩ : TallyM).sayOk i = true := by simp [TallyM.sayOk, Hsi.out]
        by_cases hl : waitsL (said.set i 1) = []
        · have hl0 : ((TallyM.waits ⟨said.set i 1, false, outcome⟩).length : Int) = 0 := by simp [TallyM.waits, hl]
          have hsay : (⟨said, false, outcome⟩ : TallyM).say i = ⟨said.set i 1, true, true⟩ := by simp [TallyM.say, Hsi.out, hl]
          have Hok := Lib.hid hok; have Hsay := Lib.hid hsay; have Hl := Lib.hid hl; clear hok hsay hl
          go_wp2_with fail
          refine bodyPost_ret (v := .bool true) (by simp [results, Tryz.results70, go_sem]) rfl ⟨by rw [Hok.out], [(b, .cells #[.slice (some ⟨b', 0, none⟩) said.length cap, .bool true, .bool true] 136), (b', .cells (cur.setIfInBounds i (.int .i64 1)) 3)], ?_, ?_, ?_⟩
          · rw [Hsay.out]; exact ⟨_, _, rfl, HS.out, by simpa using Hlen.out⟩
          · exact ((Hz1.out.setCell 1 (.bool true)).setCell 2 (.bool true)).sub (by intro x; simp only [cnt_append, cnt_cons, cnt_nil, List.tail_cons, World.size_alloc, World.size_setCell, World.size_drew, List.setIfInBounds_toArray, List.set_cons_zero, List.set_cons_succ] <;> omega)
          · exact (((Kin.refl w).setCell _ _).trans Hk1.out |>.setCell _ _).setCell _ _
        · have hl0 : ¬ ((TallyM.waits ⟨said.set i 1, false, outcome⟩).length : Int) = 0 := by simp [TallyM.waits, hl]
          have hsay : (⟨said, false, outcome⟩ : TallyM).say i = ⟨said.set i 1, false, outcome⟩ := by simp [TallyM.say, Hsi.out, hl]
          have Hok := Lib.hid hok; have Hsay := Lib.hid hsay; have Hl := Lib.hid hl; clear hok hsay hl
          go_wp2_with fail
          refine bodyPost_ret (v := .bool true) (by simp [results, Tryz.results70, go_sem]) rfl ⟨by rw [Hok.out], _, by rw [Hsay.out]; exact HR.out, Hz1.out.sub (by intro x; simp only [cnt_append, cnt_cons, cnt_nil, List.tail_cons, World.size_alloc, World.size_setCell, World.size_drew, List.setIfInBounds_toArray, List.set_cons_zero, List.set_cons_succ] <;> omega), ((Kin.refl w).setCell _ _).trans Hk1.out⟩
      · have hb0 : (s != 0) = true := by simp [hs0]
        have hb1 : (s != 1) = true := by simp [hs1]
        go_wp2_with fail
        have : (⟨said, false, outcome⟩ : TallyM).say i = ⟨said, false, outcome⟩ := by simp [TallyM.say, Hsi.out, hs0, hs1]
        refine bodyPost_ret (v := .bool false) (by simp [results, Tryz.results70, go_sem]) rfl ⟨by simp [TallyM.sayOk, Hsi.out, hs0, hs1], _, by rw [this]; exact HT.out, Hw.out, Kin.refl _⟩
  · go_wp2_with fail
    have : (⟨said, true, outcome⟩ : TallyM).say i = ⟨said, true, outcome⟩ := by simp [TallyM.say]
    refine bodyPost_ret (v := .bool false) (by simp [results, Tryz.results70, go_sem]) rfl ⟨by simp [TallyM.sayOk], _, by rw [this]; exact HT.out, Hw.out, Kin.refl _⟩

end Go.Proofs.YtcfaimmcedpgiaaGreatDoor
