/-
  law22.ChiefNil: at a chief that there isn't nothing happens, for every input: the tied card. Conditions: those of the card itself.
-/
import Derived.Test.YtcfaimmcedpgiaaGreatDoorNilProofs
import Derived.Test.YtcfaimmcedpgiaaGreatDoorCards
import Derived.Test.YtcfaimmcedpgiaaGreatDoorTie
import Derived.SevenTiedAt
namespace Go.Proofs.YtcfaimmcedpgiaaGreatDoor
set_option linter.unusedVariables false
set_option linter.unusedSimpArgs false
open Go

theorem chiefNilCard_holds : Rows.ChiefNilCardSaid :=
  Claim7.holds_tied_plain_at .later [] [.data, .data, .data, .data, .sentinel, .sentinel, .pinned] true Rows.chiefNilCard.stood.harness true
    chiefNil_holds (fun _ h => by cases h) (by kernel_rfl) (fun _ h => by cases h) chiefNil_row_tie rfl ⟨rfl, rfl⟩ (by kernel_rfl) rfl
    (fun f fn hf hfn => by
      obtain rfl : f = 5 := Option.some.inj ((show Tryz.prog.funcNamed "wharfinger/wharfingerlaw22.ChiefNil" = some 5 by kernel_rfl).symm.trans hf) |>.symm
      obtain rfl : fn = Tryz.f5 := (Option.some.inj (Tryz.func5.symm.trans hfn)).symm
      exact ⟨by kernel_rfl, fun j t ht => by
        rw [Tryz.params5] at ht
        have hm : t ∈ [47] := by simpa using Array.mem_of_getElem? ht
        have hall : ([47].all fun u => !Tryz.prog.wantsStandIn u) = true := by kernel_rfl
        exact (show Tryz.prog.wantsStandIn t = false by simpa using List.all_eq_true.1 hall t hm)⟩)
    (by kernel_rfl)
#print axioms chiefNilCard_holds

end Go.Proofs.YtcfaimmcedpgiaaGreatDoor
