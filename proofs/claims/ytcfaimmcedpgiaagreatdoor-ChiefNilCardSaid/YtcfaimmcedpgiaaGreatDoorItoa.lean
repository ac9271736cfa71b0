/-
  strconv.Itoa: the contract, off the kit's shelf. A lemma file: no statement of the seat is proved here.
-/
import Derived.Test.YtcfaimmcedpgiaaGreatDoorShelf
import Derived.Test.YtcfaimmcedpgiaaGreatDoorKeep
import Derived.Lib.AppendIntMem
import Derived.Lib.ItoaLen
namespace Go.Proofs.YtcfaimmcedpgiaaGreatDoor
set_option linter.unusedVariables false
set_option linter.unusedSimpArgs false
open Go.RowKit

def itoaB (n : Int) : ByteArray := ⟨(Lib.itoa n).toArray⟩
def TabAt (w : World) : Prop := Lib.TabIs Tryz.prog w "internal/strconv.uint64pow10" .u64 Lib.pow10Tab
def Tab (F : HL) : Prop := ∀ W M, Has W (M ++ F) → TabAt W

theorem itoa_call (n : Int) (h0 : -9223372036854775808 ≤ n) (h1 : n ≤ 9223372036854775807) (w : World) (htab : TabAt w) :
    Calls Tryz.prog 36 #[(Value.int .i64 n)] w fun e w' => e = .returned (.string (itoaB n)) ∧ Below w.heap.size w w' := by
  refine (Any.strconv_Itoa sh_laysM171 n h0 h1 w htab).mono ?_
  rintro e w' ⟨rfl, k, os, rfl⟩
  exact ⟨rfl, Lib.below_grow _ _ (Nat.le_refl _) _ _⟩

end Go.Proofs.YtcfaimmcedpgiaaGreatDoor
