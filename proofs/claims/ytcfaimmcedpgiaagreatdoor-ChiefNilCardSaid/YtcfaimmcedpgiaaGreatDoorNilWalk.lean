/-
  law22.ChiefNil: the walk. A lemma file: no statement of the seat is proved here.
-/
import Derived.Test.YtcfaimmcedpgiaaGreatDoorAwake22
import Derived.Test.YtcfaimmcedpgiaaGreatDoorValues
namespace Go.Proofs.YtcfaimmcedpgiaaGreatDoor
set_option linter.unusedVariables false
set_option linter.unusedSimpArgs false
open Go.RowKit

theorem tab_old {w : World} (h : TabAt w) : Tab (oldBlocks w) := by
  intro W M hW
  have hold := old_of_has hW
  have hs : (Tryz.prog.globalNamed "internal/strconv.uint64pow10").isSome = true := by kernel_rfl
  obtain ⟨g, hg⟩ := Option.isSome_iff_exists.1 hs
  unfold TabAt Lib.TabIs World.var? at h ⊢
  rw [hg] at h ⊢
  simp only [Option.bind_some] at h ⊢
  have hlt : g < w.heap.size := by
    rcases Nat.lt_or_ge g w.heap.size with h' | h'
    · exact h'
    · rw [Array.getElem?_eq_none h'] at h; cases h
  rw [hold g hlt]
  exact h
theorem TabAt.below {w w' : World} {B : Nat} (h : TabAt w) (hb : Below B w w') (hB : w.heap.size ≤ B) : TabAt w' :=
  tab_old h w' [] ((has_old w).below_all (hb.mono hB))
theorem awake22_below (w : World) (h : TabAt w) : Calls Tryz.prog 25 #[] w fun r w' => r = .returned (.bool true) ∧ Below w.heap.size w w' :=
  (awake22_call w _ (has_old w) (tab_old h)).mono fun _ _ ⟨h1, h2, h3⟩ => ⟨h1, below_of_has (L := []) h2 h3⟩

theorem below_step {w wx wn : World} (h : Below w.heap.size w wx) (hb : Below wx.heap.size wx wn) : Below w.heap.size w wn := h.trans (hb.mono h.size)
set_option maxRecDepth 100000 in
set_option maxHeartbeats 3200000 in
theorem chiefNil_call (k0 k1 k2 k3 o0 o1 o2 o3 o4 : Int) (a : Option Addr) (n c : Nat) (m0 m1 m2 m3 m4 m5 m6 : Int) (w : World) (hT : TabAt w) :
    Calls Tryz.prog 5 #[.agg #[(Value.int .i64 k0), (Value.int .i64 k1), (Value.int .i64 k2), (Value.int .i64 k3), (Value.int .i64 o0), (Value.int .i64 o1), (Value.int .i64 o2), (Value.int .i64 o3), (Value.int .i64 o4), .slice a n c, (Value.int .i64 m0), (Value.int .i64 m1), (Value.int .i64 m2), (Value.int .i64 m3), (Value.int .i64 m4), (Value.int .i64 m5), (Value.int .i64 m6)]] w fun r w' => r = .returned (.bool true) ∧ Below w.heap.size w w' := by
  have h0 : Has (w.alloc (.cells #[(Value.int .i64 k0), (Value.int .i64 k1), (Value.int .i64 k2), (Value.int .i64 k3), (Value.int .i64 o0), (Value.int .i64 o1), (Value.int .i64 o2), (Value.int .i64 o3), (Value.int .i64 o4), .slice a n c, (Value.int .i64 m0), (Value.int .i64 m1), (Value.int .i64 m2), (Value.int .i64 m3), (Value.int .i64 m4), (Value.int .i64 m5), (Value.int .i64 m6)] 47)) ((w.heap.size, .cells #[(Value.int .i64 k0), (Value.int .i64 k1), (Value.int .i64 k2), (Value.int .i64 k3), (Value.int .i64 o0), (Value.int .i64 o1), (Value.int .i64 o2), (Value.int .i64 o3), (Value.int .i64 o4), .slice a n c, (Value.int .i64 m0), (Value.int .i64 m1), (Value.int .i64 m2), (Value.int .i64 m3), (Value.int .i64 m4), (Value.int .i64 m5), (Value.int .i64 m6)] 47) :: []) := (Has.nil w).alloc _
  have B0 : Below w.heap.size w (w.alloc (.cells #[(Value.int .i64 k0), (Value.int .i64 k1), (Value.int .i64 k2), (Value.int .i64 k3), (Value.int .i64 o0), (Value.int .i64 o1), (Value.int .i64 o2), (Value.int .i64 o3), (Value.int .i64 o4), .slice a n c, (Value.int .i64 m0), (Value.int .i64 m1), (Value.int .i64 m2), (Value.int .i64 m3), (Value.int .i64 m4), (Value.int .i64 m5), (Value.int .i64 m6)] 47)) := (by repeat' (first | with_reducible exact Below.refl _ _ | with_reducible assumption | refine Below.alloc ?_ ?_ _ | refine Below.setCell ?_ ?_ _ | refine Below.drew ?_ | refine Below.drewN ?_ _ | (apply below_then; with_reducible assumption) | omega | (simp only [World.size_alloc, World.size_setCell, World.size_drew]; omega)))
  have p0 := h0.lth
  have x0 := (h0).cellh 0; have x1 := (h0).cellh 1; have x2 := (h0).cellh 2; have x3 := (h0).cellh 3; have x4 := (h0).cellh 4; have x5 := (h0).cellh 5; have x6 := (h0).cellh 6; have x7 := (h0).cellh 7; have x8 := (h0).cellh 8; have x9 := (h0).cellh 9; have x10 := (h0).cellh 10; have x11 := (h0).cellh 11; have x12 := (h0).cellh 12; have x13 := (h0).cellh 13; have x14 := (h0).cellh 14; have x15 := (h0).cellh 15; have x16 := (h0).cellh 16; simp at x0 x1 x2 x3 x4 x5 x6 x7 x8 x9 x10 x11 x12 x13 x14 x15 x16
  have HT := Lib.hid hT; have H0 := Lib.hid h0; have B0 := Lib.hid B0
  clear hT h0
  go_enter Tryz.func5, Tryz.ntmps5
  go_wp2_with fail
  refine (crash_nil k2 k3 _).mono ?_
  rintro r w1 ⟨rfl, hb⟩
  have hbp := B0.out
  have h1 := H0.out.below_all hb
  have b1 : Below w.heap.size w w1 := (by repeat' (first | with_reducible exact Below.refl _ _ | with_reducible assumption | refine Below.alloc ?_ ?_ _ | refine Below.setCell ?_ ?_ _ | refine Below.drew ?_ | refine Below.drewN ?_ _ | (apply below_then; with_reducible assumption) | omega | (simp only [World.size_alloc, World.size_setCell, World.size_drew]; omega)))
  clear p0 x0 x1 x2 x3 x4 x5 x6 x7 x8 x9 x10 x11 x12 x13 x14 x15 x16 hb
  have p0 := h1.lth
  have x0 := (h1).cellh 0; have x1 := (h1).cellh 1; have x2 := (h1).cellh 2; have x3 := (h1).cellh 3; have x4 := (h1).cellh 4; have x5 := (h1).cellh 5; have x6 := (h1).cellh 6; have x7 := (h1).cellh 7; have x8 := (h1).cellh 8; have x9 := (h1).cellh 9; have x10 := (h1).cellh 10; have x11 := (h1).cellh 11; have x12 := (h1).cellh 12; have x13 := (h1).cellh 13; have x14 := (h1).cellh 14; have x15 := (h1).cellh 15; have x16 := (h1).cellh 16; simp at x0 x1 x2 x3 x4 x5 x6 x7 x8 x9 x10 x11 x12 x13 x14 x15 x16
  have H1 := Lib.hid h1; have B1 := Lib.hid b1
  clear h1 b1
  clear hbp
  go_wp2_with fail
  refine (start_nil w1).mono ?_
  rintro r w2 ⟨rfl, hb⟩
  have hbp := B1.out
  have h2 := H1.out.below_all hb
  have b2 : Below w.heap.size w w2 := (by repeat' (first | with_reducible exact Below.refl _ _ | with_reducible assumption | refine Below.alloc ?_ ?_ _ | refine Below.setCell ?_ ?_ _ | refine Below.drew ?_ | refine Below.drewN ?_ _ | (apply below_then; with_reducible assumption) | omega | (simp only [World.size_alloc, World.size_setCell, World.size_drew]; omega)))
  clear p0 x0 x1 x2 x3 x4 x5 x6 x7 x8 x9 x10 x11 x12 x13 x14 x15 x16 hb
  have p0 := h2.lth
  have x0 := (h2).cellh 0; have x1 := (h2).cellh 1; have x2 := (h2).cellh 2; have x3 := (h2).cellh 3; have x4 := (h2).cellh 4; have x5 := (h2).cellh 5; have x6 := (h2).cellh 6; have x7 := (h2).cellh 7; have x8 := (h2).cellh 8; have x9 := (h2).cellh 9; have x10 := (h2).cellh 10; have x11 := (h2).cellh 11; have x12 := (h2).cellh 12; have x13 := (h2).cellh 13; have x14 := (h2).cellh 14; have x15 := (h2).cellh 15; have x16 := (h2).cellh 16; simp at x0 x1 x2 x3 x4 x5 x6 x7 x8 x9 x10 x11 x12 x13 x14 x15 x16
  have H2 := Lib.hid h2; have B2 := Lib.hid b2
  clear h2 b2
  clear hbp
  go_wp2_with fail
  refine (begin_nil o0 o1 o2 o3 o4 a n c w2).mono ?_
  rintro r w3 ⟨rfl, hb⟩
  have hbp := B2.out
  have h3 := H2.out.below_all hb
  have b3 : Below w.heap.size w w3 := (by repeat' (first | with_reducible exact Below.refl _ _ | with_reducible assumption | refine Below.alloc ?_ ?_ _ | refine Below.setCell ?_ ?_ _ | refine Below.drew ?_ | refine Below.drewN ?_ _ | (apply below_then; with_reducible assumption) | omega | (simp only [World.size_alloc, World.size_setCell, World.size_drew]; omega)))
  clear p0 x0 x1 x2 x3 x4 x5 x6 x7 x8 x9 x10 x11 x12 x13 x14 x15 x16 hb
  have p0 := h3.lth
  have x0 := (h3).cellh 0; have x1 := (h3).cellh 1; have x2 := (h3).cellh 2; have x3 := (h3).cellh 3; have x4 := (h3).cellh 4; have x5 := (h3).cellh 5; have x6 := (h3).cellh 6; have x7 := (h3).cellh 7; have x8 := (h3).cellh 8; have x9 := (h3).cellh 9; have x10 := (h3).cellh 10; have x11 := (h3).cellh 11; have x12 := (h3).cellh 12; have x13 := (h3).cellh 13; have x14 := (h3).cellh 14; have x15 := (h3).cellh 15; have x16 := (h3).cellh 16; simp at x0 x1 x2 x3 x4 x5 x6 x7 x8 x9 x10 x11 x12 x13 x14 x15 x16
  have H3 := Lib.hid h3; have B3 := Lib.hid b3
  clear h3 b3
  clear hbp
  go_wp2_with fail
  refine (cancel_nil k1 w3).mono ?_
  rintro r w4 ⟨rfl, hb⟩
  have hbp := B3.out
  have h4 := H3.out.below_all hb
  have b4 : Below w.heap.size w w4 := (by repeat' (first | with_reducible exact Below.refl _ _ | with_reducible assumption | refine Below.alloc ?_ ?_ _ | refine Below.setCell ?_ ?_ _ | refine Below.drew ?_ | refine Below.drewN ?_ _ | (apply below_then; with_reducible assumption) | omega | (simp only [World.size_alloc, World.size_setCell, World.size_drew]; omega)))
  clear p0 x0 x1 x2 x3 x4 x5 x6 x7 x8 x9 x10 x11 x12 x13 x14 x15 x16 hb
  have p0 := h4.lth
  have x0 := (h4).cellh 0; have x1 := (h4).cellh 1; have x2 := (h4).cellh 2; have x3 := (h4).cellh 3; have x4 := (h4).cellh 4; have x5 := (h4).cellh 5; have x6 := (h4).cellh 6; have x7 := (h4).cellh 7; have x8 := (h4).cellh 8; have x9 := (h4).cellh 9; have x10 := (h4).cellh 10; have x11 := (h4).cellh 11; have x12 := (h4).cellh 12; have x13 := (h4).cellh 13; have x14 := (h4).cellh 14; have x15 := (h4).cellh 15; have x16 := (h4).cellh 16; simp at x0 x1 x2 x3 x4 x5 x6 x7 x8 x9 x10 x11 x12 x13 x14 x15 x16
  have H4 := Lib.hid h4; have B4 := Lib.hid b4
  clear h4 b4
  clear hbp
  go_wp2_with fail
  refine (facts_nil k1 w4).mono ?_
  rintro r w5 ⟨rfl, hb⟩
  have hbp := B4.out
  have h5 := H4.out.below_all hb
  have b5 : Below w.heap.size w w5 := (by repeat' (first | with_reducible exact Below.refl _ _ | with_reducible assumption | refine Below.alloc ?_ ?_ _ | refine Below.setCell ?_ ?_ _ | refine Below.drew ?_ | refine Below.drewN ?_ _ | (apply below_then; with_reducible assumption) | omega | (simp only [World.size_alloc, World.size_setCell, World.size_drew]; omega)))
  clear p0 x0 x1 x2 x3 x4 x5 x6 x7 x8 x9 x10 x11 x12 x13 x14 x15 x16 hb
  have p0 := h5.lth
  have x0 := (h5).cellh 0; have x1 := (h5).cellh 1; have x2 := (h5).cellh 2; have x3 := (h5).cellh 3; have x4 := (h5).cellh 4; have x5 := (h5).cellh 5; have x6 := (h5).cellh 6; have x7 := (h5).cellh 7; have x8 := (h5).cellh 8; have x9 := (h5).cellh 9; have x10 := (h5).cellh 10; have x11 := (h5).cellh 11; have x12 := (h5).cellh 12; have x13 := (h5).cellh 13; have x14 := (h5).cellh 14; have x15 := (h5).cellh 15; have x16 := (h5).cellh 16; simp at x0 x1 x2 x3 x4 x5 x6 x7 x8 x9 x10 x11 x12 x13 x14 x15 x16
  have H5 := Lib.hid h5; have B5 := Lib.hid b5
  clear h5 b5
  clear hbp
  go_upto_region 7 with fail
  have hz := ((H5.out.alloc (.cells #[(Value.int .i64 0), (Value.int .i64 0), (Value.int .i64 0), (Value.int .i64 0), (Value.int .i64 0), .slice none 0 0] 27)).alloc (.cells #[.slice none 0 0, .slice none 0 0, .bool false, .bool false, .bool false, .bool false, .bool false, .bool false, .bool false, .bool false, .bool false] 53)).re (B := (w5.heap.size + 1, .cells #[.slice none 0 0, .slice none 0 0, .bool false, .bool false, .bool false, .bool false, .bool false, .bool false, .bool false, .bool false, .bool false] 53) :: (w5.heap.size, .cells #[(Value.int .i64 0), (Value.int .i64 0), (Value.int .i64 0), (Value.int .i64 0), (Value.int .i64 0), .slice none 0 0] 27) :: (w.heap.size, .cells #[(Value.int .i64 k0), (Value.int .i64 k1), (Value.int .i64 k2), (Value.int .i64 k3), (Value.int .i64 o0), (Value.int .i64 o1), (Value.int .i64 o2), (Value.int .i64 o3), (Value.int .i64 o4), .slice a n c, (Value.int .i64 m0), (Value.int .i64 m1), (Value.int .i64 m2), (Value.int .i64 m3), (Value.int .i64 m4), (Value.int .i64 m5), (Value.int .i64 m6)] 47) :: []) (by intro x; simp only [cnt_append, cnt_cons, cnt_nil, List.tail_cons, World.size_alloc, World.size_setCell, World.size_drew, List.setIfInBounds_toArray, List.set_cons_zero, List.set_cons_succ] <;> omega)
  have hbz : Below w.heap.size w ((w5.alloc (.cells #[(Value.int .i64 0), (Value.int .i64 0), (Value.int .i64 0), (Value.int .i64 0), (Value.int .i64 0), .slice none 0 0] 27)).alloc (.cells #[.slice none 0 0, .slice none 0 0, .bool false, .bool false, .bool false, .bool false, .bool false, .bool false, .bool false, .bool false, .bool false] 53)) := by
    have h := B5.out
    have := h.size
    ((repeat' (first | with_reducible exact Below.refl _ _ | with_reducible assumption | refine Below.alloc ?_ ?_ _ | refine Below.setCell ?_ ?_ _ | refine Below.drew ?_ | refine Below.drewN ?_ _ | (apply below_then; with_reducible assumption) | omega | (simp only [World.size_alloc, World.size_setCell, World.size_drew]; omega))); done)
  obtain ⟨w6, hw6⟩ : ∃ w6, (w5.alloc (.cells #[(Value.int .i64 0), (Value.int .i64 0), (Value.int .i64 0), (Value.int .i64 0), (Value.int .i64 0), .slice none 0 0] 27)).alloc (.cells #[.slice none 0 0, .slice none 0 0, .bool false, .bool false, .bool false, .bool false, .bool false, .bool false, .bool false, .bool false, .bool false] 53) = w6 := ⟨_, rfl⟩
  rw [hw6] at hz hbz ⊢
  have htab : TabAt w6.drew := HT.out.below hbz.drew (Nat.le_refl _)
  obtain ⟨q, hq⟩ : ∃ q, w5.heap.size + 1 = q := ⟨_, rfl⟩
  rw [hq] at hz ⊢
  clear p0 x0 x1 x2 x3 x4 x5 x6 x7 x8 x9 x10 x11 x12 x13 x14 x15 x16
  have y0 := hz.cellh 0
  simp at y0
  have hz2 := hz.tail.tail
  have x0 := (hz2).cellh 0; have x1 := (hz2).cellh 1; have x2 := (hz2).cellh 2; have x3 := (hz2).cellh 3; have x4 := (hz2).cellh 4; have x5 := (hz2).cellh 5; have x6 := (hz2).cellh 6; have x7 := (hz2).cellh 7; have x8 := (hz2).cellh 8; have x9 := (hz2).cellh 9; have x10 := (hz2).cellh 10; have x11 := (hz2).cellh 11; have x12 := (hz2).cellh 12; have x13 := (hz2).cellh 13; have x14 := (hz2).cellh 14; have x15 := (hz2).cellh 15; have x16 := (hz2).cellh 16; simp at x0 x1 x2 x3 x4 x5 x6 x7 x8 x9 x10 x11 x12 x13 x14 x15 x16
  have hbd : Below w.heap.size w w6.drew := hbz.drew
  clear hw6 hq hz hz2 hbz H0 H1 H2 H3 H4 H5 B0 B1 B2 B3 B4 B5
  have hw0 : IntKind.i64.wrap 0 = 0 := by decide
  go_region_held3 (fun wx => wx.cell? ⟨q, 0, none⟩ = some (.slice none 0 0) ∧ wx.cell? ⟨w.heap.size, 1, none⟩ = some ((Value.int .i64 k1)) ∧ wx.cell? ⟨w.heap.size, 10, none⟩ = some ((Value.int .i64 m0)) ∧ wx.cell? ⟨w.heap.size, 11, none⟩ = some ((Value.int .i64 m1)) ∧ wx.cell? ⟨w.heap.size, 12, none⟩ = some ((Value.int .i64 m2)) ∧ wx.cell? ⟨w.heap.size, 13, none⟩ = some ((Value.int .i64 m3)) ∧ wx.cell? ⟨w.heap.size, 14, none⟩ = some ((Value.int .i64 m4)) ∧ wx.cell? ⟨w.heap.size, 15, none⟩ = some ((Value.int .i64 m5)) ∧ wx.cell? ⟨w.heap.size, 16, none⟩ = some ((Value.int .i64 m6)) ∧ Below w.heap.size w wx ∧ TabAt wx)
    (((try go_split_ands); (repeat' apply And.intro) <;> (first | with_reducible assumption | (with_reducible refine cell_drew_keep ?_; with_reducible assumption) | (refine cell_keep hb ?_; first | with_reducible assumption | (with_reducible refine cell_drew_keep ?_; with_reducible assumption)) | (refine below_step ?_ hb; with_reducible assumption) | (refine TabAt.below ?_ hb (Nat.le_refl _); with_reducible assumption))))
    (first
      | (go_at_call 12; refine (handle_nil m0 m1 m2 m3 m4 m5 m6 _).mono ?_; rintro r wn ⟨rfl, hb⟩)
      | (go_at_call 20; refine (ring_nil k1 _).mono ?_; rintro r wn ⟨rfl, hb⟩)
      | (go_at_call 21; refine (ids22_nil 3 _).mono ?_; rintro r wn ⟨rfl, hb⟩)
      | (go_at_call 22; refine (accept_nil k1 _).mono ?_; rintro r wn ⟨rfl, hb⟩)
      | (go_at_call 23; refine (state_nil k1 _).mono ?_; rintro r wn ⟨rfl, hb⟩)
      | (go_at_call 24; refine (down_nil _).mono ?_; rintro r wn ⟨rfl, hb⟩)
      | (go_at_call 25; refine (awake22_below _ (by (try go_split_ands); with_reducible assumption)).mono ?_; rintro r wn ⟨rfl, hb⟩))
  go_split_ands
  go_wp2
  refine bodyPost_ret (v := .bool true) (by simp [results, Tryz.results5, go_sem]) rfl ⟨rfl, ?_⟩
  with_reducible assumption

end Go.Proofs.YtcfaimmcedpgiaaGreatDoor
