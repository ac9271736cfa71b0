/-
  law22.ChiefNil: a chief that there isn't: for every input the law answers true (the row's statement, then the tied card's). Conditions: none beyond the row's own: the tables that the row lists read as the program's text lays them.
-/
import Derived.Test.YtcfaimmcedpgiaaGreatDoorRows
import Derived.Test.YtcfaimmcedpgiaaGreatDoorNilWalk
import Derived.ProofKit
import Derived.LaidMore
import Derived.OpenShut
import Derived.Carry
import Derived.Stop.Joined
import Derived.Stop.LaidErr
import Derived.Lib.LaidTab
namespace Go.Proofs.YtcfaimmcedpgiaaGreatDoor
set_option linter.unusedVariables false
set_option linter.unusedSimpArgs false
open Go.ChangeShapes Go.WideShapes Go.ChangeAt Go.WideElems Go.RowKit
set_option maxRecDepth 100000

theorem own : ownKnob Tryz.prog.godebug = none := by kernel_rfl
theorem laidOut : laidOutB Tryz.prog = true := by kernel_rfl

noncomputable def litCells : DataW Unit → List Value
  | .agg l => l.map fun | .lit (.int k n) => .int k n | _ => undef
  | _ => []
/-- The heap that the door's own run leaves, with the great table of utf8 laid in its place. -/
noncomputable def gFirst : Nat := (Tryz.prog.globalNamed "unicode/utf8.first").getD 0
noncomputable def nilWorld (os : Os) : World :=
  let w0 := World.doorLaid Tryz.prog 3000 os
  { w0 with heap := w0.heap.modify gFirst fun
      | .cells _ t frozen => .cells (litCells Go.Pinned.utf8First).toArray t frozen
      | o => o }
theorem nil_met (os : Os) (args : Array Value) : laidMetH Tryz.prog Rows.chiefNilRow.laid ((nilWorld os).forCall (fun _ _ => 0) ⟨#[], args, []⟩).memory :=
  laidMetH_of_parts3 (fuel := 8) (laidMet_of_run' 8 (by kernel_rfl) (by kernel_rfl)) (by kernel_rfl) (by kernel_rfl)

theorem cell_int {P : Program} {w : World} {r : Reach} {base : Nat} {u : TypeId} {v : Value} (hu : P.underlying u = some (.int .i64)) (h : Cell.okWide P w r base u v) : ∃ n, v = (Value.int .i64 n) := by
  simp only [Cell.okWide, hu] at h
  cases v <;> simp_all [Cell.ok]
theorem cell_slice {P : Program} {w : World} {r : Reach} {base : Nat} {u e : TypeId} {v : Value} (hu : P.underlying u = some (.slice e)) (h : Cell.okWide P w r base u v) : ∃ a n c, v = .slice a n c := by
  simp only [Cell.okWide, hu] at h
  cases v <;> simp_all [Cell.ok]

set_option maxRecDepth 100000 in
/-- A call's cells: four numbers, an order, a message. -/
theorem call_open {W : World} {r : Reach} {base : Nat} {v : Value} (h : Value.okWide Tryz.prog W r base 47 v) :
    ∃ k0 k1 k2 k3 o0 o1 o2 o3 o4 a n c m0 m1 m2 m3 m4 m5 m6, v = .agg #[(Value.int .i64 k0), (Value.int .i64 k1), (Value.int .i64 k2), (Value.int .i64 k3), (Value.int .i64 o0), (Value.int .i64 o1), (Value.int .i64 o2), (Value.int .i64 o3), (Value.int .i64 o4), .slice a n c, (Value.int .i64 m0), (Value.int .i64 m1), (Value.int .i64 m2), (Value.int .i64 m3), (Value.int .i64 m4), (Value.int .i64 m5), (Value.int .i64 m6)] := by
  have hs : (match Tryz.prog.underlying 47 with | some (.struct _) => true | _ => false) = true := by kernel_rfl
  obtain ⟨fs, hfs⟩ : ∃ fs, Tryz.prog.underlying 47 = some (.struct fs) := by
    cases h1 : Tryz.prog.underlying 47 with
    | none => rw [h1] at hs; cases hs
    | some t => rw [h1] at hs; cases t <;> first | exact ⟨_, rfl⟩ | cases hs
  simp only [Value.okWide, hfs] at h
  obtain ⟨cs, rfl, hsz, ts, hts, _, hcell⟩ := h
  have hct : Tryz.prog.cellsOf 47 = 17 := by kernel_rfl
  have htt : Tryz.prog.cellTypes Tryz.prog.depth 47 = some [3, 3, 3, 3, 3, 3, 3, 3, 3, 25, 3, 3, 3, 3, 3, 3, 3] := by kernel_rfl
  rw [hct] at hsz
  rw [htt] at hts
  cases hts
  have hI : ∀ i v, cs[i]? = some v → i < 17 → i ≠ 9 → ∃ n, v = (Value.int .i64 n) := by
    intro i v hv hi h9
    obtain ⟨u, hu, hc⟩ := hcell i v hv
    have : u = 3 := by
      simp only [List.length_cons, List.length_nil] at hu
      rw [Nat.mod_eq_of_lt (by omega)] at hu
      rcases i with _ | _ | _ | _ | _ | _ | _ | _ | _ | _ | _ | _ | _ | _ | _ | _ | _ | i <;> first | (simp at hu; exact hu.symm) | omega
    subst this
    exact cell_int Tryz.underlying3 hc
  have hS : ∀ v, cs[9]? = some v → ∃ a n c, v = .slice a n c := by
    intro v hv
    obtain ⟨u, hu, hc⟩ := hcell 9 v hv
    have : u = 25 := by simpa using hu.symm
    subst this
    exact cell_slice Tryz.underlying25 hc
  obtain ⟨l⟩ := cs
  match l, hsz, hI, hS with
  | [c0, c1, c2, c3, c4, c5, c6, c7, c8, c9, c10, c11, c12, c13, c14, c15, c16], _, hI, hS =>
    obtain ⟨k0, rfl⟩ := hI 0 c0 rfl (by decide) (by decide)
    obtain ⟨k1, rfl⟩ := hI 1 c1 rfl (by decide) (by decide)
    obtain ⟨k2, rfl⟩ := hI 2 c2 rfl (by decide) (by decide)
    obtain ⟨k3, rfl⟩ := hI 3 c3 rfl (by decide) (by decide)
    obtain ⟨o0, rfl⟩ := hI 4 c4 rfl (by decide) (by decide)
    obtain ⟨o1, rfl⟩ := hI 5 c5 rfl (by decide) (by decide)
    obtain ⟨o2, rfl⟩ := hI 6 c6 rfl (by decide) (by decide)
    obtain ⟨o3, rfl⟩ := hI 7 c7 rfl (by decide) (by decide)
    obtain ⟨o4, rfl⟩ := hI 8 c8 rfl (by decide) (by decide)
    obtain ⟨a, n, c, rfl⟩ := hS c9 rfl
    obtain ⟨m0, rfl⟩ := hI 10 c10 rfl (by decide) (by decide)
    obtain ⟨m1, rfl⟩ := hI 11 c11 rfl (by decide) (by decide)
    obtain ⟨m2, rfl⟩ := hI 12 c12 rfl (by decide) (by decide)
    obtain ⟨m3, rfl⟩ := hI 13 c13 rfl (by decide) (by decide)
    obtain ⟨m4, rfl⟩ := hI 14 c14 rfl (by decide) (by decide)
    obtain ⟨m5, rfl⟩ := hI 15 c15 rfl (by decide) (by decide)
    obtain ⟨m6, rfl⟩ := hI 16 c16 rfl (by decide) (by decide)
    exact ⟨k0, k1, k2, k3, o0, o1, o2, o3, o4, a, n, c, m0, m1, m2, m3, m4, m5, m6, rfl⟩

noncomputable def gPow : Nat := (Tryz.prog.globalNamed "internal/strconv.uint64pow10").getD 0
/-- The table of strconv, off the row's list. -/
theorem tab_of_laid {W : World} (h : laidMetH Tryz.prog Rows.chiefNilRow.laid W) : TabAt W := by
  rw [MakeChecks.laidMetH_plain _ _ _ (by kernel_rfl)] at h
  have h2 := (laidMet.tail (laidMet.tail h))
  have hg : Tryz.prog.globalNamed "internal/strconv.uint64pow10" = some gPow := by kernel_rfl
  have hty : (Tryz.prog.globals[gPow]?).map (·.type) = some 189 := by kernel_rfl
  have hd : (Rows.laid_internal_strconv_uint64pow10 : DataW Unit) = Lib.tabData .u64 Lib.pow10Tab := by kernel_rfl
  rw [hd] at h2
  exact Lib.tabIs_of_head hg hty Tryz.underlying189 Tryz.underlying22 (by kernel_rfl) (by kernel_rfl) h2

set_option maxRecDepth 100000 in
theorem nil_lifted (os : Os) (started : os.Started) (H : Type) (enc : TypeId × Value → H) :
    ReturnsInHanded {} Tryz.checked os 5 .any (fun w args => (Rows.chiefNilSpec.pre enc Tryz.prog Tryz.f5 [] false w args ∧ laidMetH Tryz.prog Rows.chiefNilRow.laid w) ∧ sizedMet enc Tryz.prog Tryz.f5 (OpenSpec.ofChange Rows.chiefNilSpec) false w args)
      (Rows.chiefNilSpec.post enc Tryz.prog Tryz.f5 false true false false) := by
  refine returnsInHanded_of_change_and (C := Tryz.checked) (X := fun w _ => laidMetH Tryz.prog Rows.chiefNilRow.laid w) (fun _ _ _ hh h => h.of_heap hh) own started (by kernel_rfl) Tryz.func5
    (ChangeSpec.witness_shaped (enc := enc) (C := Tryz.checked) (os := os) (X := fun w _ => laidMetH Tryz.prog Rows.chiefNilRow.laid w) false (nilWorld os) #[.agg #[(Value.int .i64 0), (Value.int .i64 0), (Value.int .i64 0), (Value.int .i64 0), (Value.int .i64 0), (Value.int .i64 0), (Value.int .i64 0), (Value.int .i64 0), (Value.int .i64 0), .slice none 0 0, (Value.int .i64 0), (Value.int .i64 0), (Value.int .i64 0), (Value.int .i64 0), (Value.int .i64 0), (Value.int .i64 0), (Value.int .i64 0)]] 8 rfl (World.shaped_of_RefB (by kernel_rfl) (by kernel_rfl)) (by kernel_rfl) (by kernel_rfl) (by kernel_rfl) (nil_met os _)) ?_
  intro W base args ds gs before hval0 hW _ _ hL _
  have hval : ∀ (j : Nat) t v, Tryz.f5.params[j]? = some t → args[j]? = some v → Value.okWide Tryz.prog W .any base t v := hval0
  have hW' := hW
  obtain ⟨p, q, hA0, hV, rfl, hfz, hnd⟩ := hW
  have hA : DataW.TrodAll enc Tryz.prog W 0 (fun _ => true) true Tryz.f5.params.toList args.toList ds p := hA0
  rw [Tryz.params5] at hA hval
  obtain ⟨v0, d0, rfl, rfl, h0⟩ := trodAll_one hA
  obtain ⟨rfl, rfl⟩ := trodVars_none hV
  obtain ⟨k0, k1, k2, k3, o0, o1, o2, o3, o4, a, n, c, m0, m1, m2, m3, m4, m5, m6, rfl⟩ := call_open (hval 0 47 v0 rfl rfl)
  have hlt : ∀ x ∈ p, x.block < W.heap.size := fun x hx => hW'.lt x (by simpa using hx)
  clear hA0 hval0
  refine (chiefNil_call k0 k1 k2 k3 o0 o1 o2 o3 o4 a n c m0 m1 m2 m3 m4 m5 m6 W (tab_of_laid hL)).mono fun e W' ⟨he, hb⟩ => ?_
  subst he
  exact ⟨_, rfl, _, _, _, [], p, [], hW', trodAll_mk1 (shut_bool Tryz.underlying4 _), trodAll_mk1 (Below.trod laidOut (by kernel_rfl) (of_decide_eq_true (by kernel_rfl)) h0 hb hlt), rfl, hb.frame _, fun h => by cases h⟩

theorem chiefNil_holds : Rows.ChiefNilSaid :=
  OpenClaim.holds_of_wide 5 Tryz.f5 rfl rfl rfl rfl rfl rfl rfl ⟨rfl, rfl, rfl, rfl, rfl⟩ rfl rfl rfl rfl rfl (by kernel_rfl) Tryz.func5 (by kernel_rfl)
    (of_decide_eq_true (by kernel_rfl)) (by unfold Func.isWrapper; first | (rw [if_pos (by decide +kernel)]; kernel_rfl) | (rw [if_neg (by decide +kernel)]; exact ⟨rfl, rfl⟩))
    (fun os started H enc _ => nil_lifted os started H enc)

end Go.Proofs.YtcfaimmcedpgiaaGreatDoor
