/-
  check: contracts. A lemma file: no statement of the seat is proved here.
-/
import Derived.Test.YtcfaimmcedpgiaaGreatDoorKeep
import Derived.IntWalk
import Derived.Laws.IdiomStrings
namespace Go.Proofs.YtcfaimmcedpgiaaGreatDoor
set_option linter.unusedVariables false
set_option linter.unusedSimpArgs false
open Go.RowKit

def chkStep (p : Int × Int) (b : UInt8) : Int × Int := ((p.1 + (b.toNat : Int) * p.2) % 673, p.2 * 3 % 673)
def chkSum (s : List UInt8) : Int × Int := s.foldl chkStep (0, 1)
def lettersB (s : ByteArray) : ByteArray := ⟨#[UInt8.ofNat (97 + (chkSum s.data.toList).1 / 26).toNat, UInt8.ofNat (97 + (chkSum s.data.toList).1 % 26).toNat]⟩
theorem chkStep_bound {p : Int × Int} (h : 0 ≤ p.1 ∧ p.1 < 673 ∧ 0 ≤ p.2 ∧ p.2 < 673) (b : UInt8) : 0 ≤ (chkStep p b).1 ∧ (chkStep p b).1 < 673 ∧ 0 ≤ (chkStep p b).2 ∧ (chkStep p b).2 < 673 := by
  simp only [chkStep]; omega
theorem chkSum_bound (s : List UInt8) : 0 ≤ (chkSum s).1 ∧ (chkSum s).1 < 673 ∧ 0 ≤ (chkSum s).2 ∧ (chkSum s).2 < 673 := by
  unfold chkSum
  have : ∀ (s : List UInt8) (p : Int × Int), (0 ≤ p.1 ∧ p.1 < 673 ∧ 0 ≤ p.2 ∧ p.2 < 673) → 0 ≤ (s.foldl chkStep p).1 ∧ (s.foldl chkStep p).1 < 673 ∧ 0 ≤ (s.foldl chkStep p).2 ∧ (s.foldl chkStep p).2 < 673 := by
    intro s
    induction s with
    | nil => intro p h; exact h
    | cons b s ih => intro p h; exact ih _ (chkStep_bound h b)
  exact this s _ (by decide)

theorem conv2 (w : World) (x y : Int) (hx : 0 ≤ x ∧ x < 256) (hy : 0 ≤ y ∧ y < 256) :
    (convert 166 9 (.slice (some ⟨w.heap.size, 0, none⟩) 2 2)).run Tryz.prog (w.alloc (.cells #[.int .u8 x, .int .u8 y] 5)) = .ok (.string ⟨#[UInt8.ofNat x.toNat, UInt8.ofNat y.toNat]⟩) (w.alloc (.cells #[.int .u8 x, .int .u8 y] 5)) := by
  have h := run_convert_bytes_back (P := Tryz.prog) (w.alloc (.cells #[.int .u8 x, .int .u8 y] 5)) 166 9 5 ⟨w.heap.size, 0, none⟩ 2 [UInt8.ofNat x.toNat, UInt8.ofNat y.toNat] Tryz.underlying166 Tryz.underlying5 Tryz.underlying9 (fun j hj => by
    have hH := ((Has.nil w).alloc (.cells #[.int .u8 x, .int .u8 y] 5))
    have hadd : (⟨w.heap.size, 0, none⟩ : Addr).add j = ⟨w.heap.size, j, none⟩ := by unfold Addr.add; split <;> simp_all
    rw [hadd, hH.cellh]
    have h2 : j = 0 ∨ j = 1 := by simp at hj; omega
    rcases h2 with rfl | rfl
    · simp; omega
    · simp; omega)
  exact h

set_option maxRecDepth 100000 in
theorem letters_call (s : ByteArray) (w : World) (hs : s.size < 1000000) :
    Calls Tryz.prog 141 #[.string s] w fun e w' => e = .returned (.string (lettersB s)) ∧ Below w.heap.size w w' := by
  go_enter Tryz.func141, Tryz.ntmps141
  go_wp2
  go_loopw [3, 4, 8] (fun n wt i wr => ∃ k : Nat, k ≤ s.size ∧ i = .int .i64 k ∧ n = .int .i64 (chkSum (s.data.toList.take k)).1 ∧ wt = .int .i64 (chkSum (s.data.toList.take k)).2 ∧ wr = w) (fun _ _ i _ => s.size - (intOf i).toNat)
  case atStart => exact ⟨0, by omega, rfl, rfl, rfl, rfl⟩
  case round =>
    obtain ⟨k, hk, rfl, rfl, rfl, rfl⟩ := hrel
    obtain ⟨b1, b2, b3, b4⟩ := chkSum_bound (s.data.toList.take k)
    by_cases hlt : k < s.size
    · have hstep : chkSum (s.data.toList.take (k + 1)) = chkStep (chkSum (s.data.toList.take k)) s[k] := by
        have h1 : s.data.toList[k]? = some s[k] := by rw [List.getElem?_eq_getElem (by simpa using hlt)]; rfl
        rw [List.take_add_one, h1]
        simp [chkSum]
      obtain ⟨q, hq⟩ : ∃ q, chkSum (s.data.toList.take k) = q := ⟨_, rfl⟩
      rw [hq] at hstep b1 b2 b3 b4 ⊢
      have hb := s[k].toNat_lt
      have e1 : wrap64 ((s[k].toNat : Int)) = (s[k].toNat : Int) := IntWalk.wrap64_in _ (by omega)
      have e0 : 0 ≤ (s[k].toNat : Int) * q.2 := Int.mul_nonneg (by omega) b3
      have e0' : (s[k].toNat : Int) * q.2 ≤ 256 * 673 := Int.mul_le_mul (by omega) (by omega) b3 (by omega)
      have Hstep := Lib.hid hstep; have He := Lib.hid (And.intro e1 (And.intro e0 e0'))
      clear hstep hq e1 e0 e0' hb
      go_wp2
      go_roundw
      case rel =>
        refine ⟨k + 1, by omega, by go_num, ?_, ?_, trivial⟩
        · rw [Hstep.out, He.out.1]
          simp only [chkStep]
          rw [IntWalk.wrap64_in ((s[k].toNat : Int) * q.2) (by have := He.out; omega), IntWalk.wrap64_in _ (by have := He.out; omega)]
          rw [Int.tmod_eq_emod_of_nonneg (by have := He.out; omega)]
        · rw [Hstep.out]; rfl
      case measure => simp [intOf]; omega
    · have e : s.data.toList.take k = s.data.toList := List.take_of_length_le (by simpa using Nat.not_lt.1 hlt)
      rw [e] at b1 b2 b3 b4 ⊢
      have hcv := conv2 wr (97 + (chkSum s.data.toList).1 / 26) (97 + (chkSum s.data.toList).1 % 26) (by omega) (by omega)
      go_wp2
      go_ret
      exact ⟨rfl, by ((repeat' (first | with_reducible exact Below.refl _ _ | with_reducible assumption | refine Below.alloc ?_ ?_ _ | refine Below.setCell ?_ ?_ _ | refine Below.drew ?_ | refine Below.drewN ?_ _ | (apply below_then; with_reducible assumption) | omega | (simp only [World.size_alloc, World.size_setCell, World.size_drew]; omega))); done)⟩

def signB (s : ByteArray) : ByteArray := s ++ ⟨#[124]⟩ ++ lettersB s
theorem sign_call (s : ByteArray) (w : World) (hs : s.size < 1000000) :
    Calls Tryz.prog 119 #[.string s] w fun e w' => e = .returned (.string (signB s)) ∧ Below w.heap.size w w' := by
  go_enter Tryz.func119, Tryz.ntmps119
  go_wp2_with fail
  refine (letters_call s _ hs).mono ?_
  rintro e w1 ⟨rfl, hb1⟩
  have l2 : (lettersB s).size = 2 := rfl
  have z1 : ¬ 9223372036854775807 < s.size + 1 := by omega
  have z2 : ¬ 9223372036854775807 < s.size + 1 + 2 := by omega
  have z3 : s.size + 1 ≤ 9223372036854775807 := by omega
  have z4 : s.size + 1 + 2 ≤ 9223372036854775807 := by omega
  go_wp2
  go_ret
  exact ⟨rfl, hb1⟩

end Go.Proofs.YtcfaimmcedpgiaaGreatDoor
