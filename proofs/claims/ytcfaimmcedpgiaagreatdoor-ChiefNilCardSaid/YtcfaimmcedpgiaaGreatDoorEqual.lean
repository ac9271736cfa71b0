/-
  slices.Equal over ints: the contract. A lemma file: no statement of the seat is proved here.
-/
import Derived.Test.YtcfaimmcedpgiaaGreatDoorTally
namespace Go.Proofs.YtcfaimmcedpgiaaGreatDoor
set_option linter.unusedVariables false
set_option linter.unusedSimpArgs false
open Go.RowKit

set_option maxRecDepth 100000 in
theorem equal_call (l m : List Int) (lv mv : Value) (w : World) (hl : SlAt w iEnc 1 lv l) (hm : SlAt w iEnc 1 mv m) (hn : l.length < 1000000) (hn2 : m.length < 1000000) :
    Calls Tryz.prog 69 #[lv, mv] w fun r w' => r = .returned (.bool (decide (l = m))) ∧ Below w.heap.size w w' := by
  obtain ⟨al, capl, rfl⟩ := hl.len
  obtain ⟨am, capm, rfl⟩ := hm.len
  obtain ⟨N, hN⟩ : ∃ N, l.length = N := ⟨_, rfl⟩
  obtain ⟨M, hM⟩ : ∃ M, m.length = M := ⟨_, rfl⟩
  obtain ⟨q, hq⟩ : ∃ q, decide (l = m) = q := ⟨_, rfl⟩
  rw [hq, hN, hM]
  have Hl := Lib.hid hl; have Hm := Lib.hid hm; have HN := Lib.hid hN; have HM := Lib.hid hM; have Hn := Lib.hid hn; have Hq := Lib.hid hq
  clear hl hm hn hn2 hN hM hq
  go_enter Tryz.func69, Tryz.ntmps69
  by_cases hNM : N = M
  · subst hNM
    go_wp2
    go_loopw [13] (fun i wr => ∃ k : Nat, k ≤ N ∧ i = .int .i64 k ∧ l.take k = m.take k ∧ Below w.heap.size w wr) (fun i _ => N - (intOf i).toNat)
    case atStart => exact ⟨0, Nat.zero_le _, rfl, rfl, Below.refl _ _⟩
    case round =>
      obtain ⟨k, hk, rfl, htk, hb⟩ := hrel
      have Htk := Lib.hid htk; have Hb := Lib.hid hb
      have hlr := Hl.out.below hb; have hmr := Hm.out.below hb
      clear htk hb
      by_cases hlt : k < N
      · obtain ⟨s, hs⟩ : ∃ s, l[k]? = some s := ⟨l[k]'(by rw [HN.out]; exact hlt), by simp⟩
        obtain ⟨t, ht⟩ : ∃ t, m[k]? = some t := ⟨m[k]'(by rw [HM.out]; exact hlt), by simp⟩
        rcases hlr with ⟨_, h1⟩ | ⟨b1, o1, c1, h1, g1⟩
        · rw [h1] at hs; simp at hs
        rcases hmr with ⟨_, h2⟩ | ⟨b2, o2, c2, h2, g2⟩
        · rw [h2] at ht; simp at ht
        rw [HN.out] at h1
        rw [HM.out] at h2
        obtain rfl : al = some ⟨b1, o1, none⟩ := (Value.slice.inj h1).1
        obtain rfl : am = some ⟨b2, o2, none⟩ := (Value.slice.inj h2).1
        have d1 := g1 k s hs 0 ((Value.int .i64 s)) rfl
        have d2 := g2 k t ht 0 ((Value.int .i64 t)) rfl
        simp only [Nat.add_zero, Nat.mul_one] at d1 d2
        have Hs := Lib.hid hs; have Ht := Lib.hid ht
        clear g1 g2 h1 h2 hs ht
        have hkb : (k : Int) + 1 < 9223372036854775808 := by have := Hn.out; have := HN.out; omega
        by_cases hst : s = t
        · subst hst
          have hne : (s != s) = false := by simp
          go_wp2
          go_region
          all_goals go_wp2
          all_goals go_roundw
          case rel => exact ⟨k + 1, by omega, by go_num, by rw [List.take_add_one, List.take_add_one, Hs.out, Ht.out, Htk.out], Hb.out.drew⟩
          case measure => simp [intOf]; omega
        · have hne : (s != t) = true := by simp [hst]
          obtain rfl : q = false := by
            rw [← Hq.out]
            simp only [decide_eq_false_iff_not]
            intro h
            have h1 := Hs.out
            rw [h, Ht.out] at h1
            exact hst (Option.some.inj h1).symm
          go_wp2
          go_region
          all_goals go_wp2
          all_goals exact bodyPost_ret (v := .bool false) (by simp [results, Tryz.results69, go_sem]) rfl ⟨rfl, Hb.out.drew⟩
      · obtain rfl : q = true := by
          rw [← Hq.out]
          have h := Htk.out
          rw [List.take_of_length_le (by have := HN.out; omega), List.take_of_length_le (by have := HM.out; omega)] at h
          simp [h]
        clear hlr hmr
        go_wp2
        exact bodyPost_ret (v := .bool true) (by simp [results, Tryz.results69, go_sem]) rfl ⟨rfl, Hb.out⟩
  · have hne : ((N : Int) != (M : Int)) = true := by simp; omega
    obtain rfl : q = false := by
      rw [← Hq.out]
      simp only [decide_eq_false_iff_not]
      intro h
      rw [h, HM.out] at HN
      exact hNM HN.out.symm
    go_wp2
    exact bodyPost_ret (v := .bool false) (by simp [results, Tryz.results69, go_sem]) rfl ⟨rfl, Below.refl _ _⟩

end Go.Proofs.YtcfaimmcedpgiaaGreatDoor
