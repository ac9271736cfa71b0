/-
  chief: open: the contract. A lemma file: no statement of the seat is proved here.
-/
import Derived.Test.YtcfaimmcedpgiaaGreatDoorChief6
namespace Go.Proofs.YtcfaimmcedpgiaaGreatDoor
set_option linter.unusedVariables false
set_option linter.unusedSimpArgs false
open Go.RowKit

theorem mget_of_mem {α : Type} : ∀ {l : List (Int × α)} {k : Int} {v : α}, Keys1 l → (k, v) ∈ l → mget l k = some v
  | (k', v') :: l, k, v, hn, hm => by
    rw [mget_cons]
    rcases List.mem_cons.1 hm with h | h
    · cases h; rw [if_pos rfl]
    · have h2 := hn
      unfold Keys1 at h2
      rw [List.map_cons, List.nodup_cons] at h2
      rw [if_neg ?_]
      · exact mget_of_mem h2.2 h
      · rintro rfl
        exact h2.1 (List.mem_map.2 ⟨_, h, rfl⟩)
theorem LedsR.keys : ∀ {ps : List (Int × Nat)} {l : List (Int × Led)} {L : HL}, LedsR ps l L → ps.map (·.1) = l.map (·.1)
  | [], [], _, _ => rfl
  | [], _ :: _, _, h => by cases h
  | _ :: _, [], _, h => by cases h
  | (k, p) :: ps, (k', x) :: l, L, h => by
    obtain ⟨rfl, L1, L2, rfl, _, h2⟩ := h
    simp [LedsR.keys h2]

def Chief.isOver (c : Chief) (k : Int) : Bool := match mget c.l k with | some x => x.over | none => true
def Chief.opens (c : Chief) : Nat := (c.l.filter fun p => !p.2.over).length
theorem opens_eq {c : Chief} (hk : Keys1 c.l) : (c.l.filter fun p => !c.isOver p.1).length = c.opens := by
  unfold Chief.opens
  congr 1
  refine List.filter_congr fun p hp => ?_
  unfold Chief.isOver
  rw [mget_of_mem hk (show (p.1, p.2) ∈ c.l from hp)]
theorem opens_keys {c : Chief} {ps : List (Int × Nat)} (h : ps.map (·.1) = c.l.map (·.1)) (hk : Keys1 c.l) : (ps.filter fun p => !c.isOver p.1).length = c.opens := by
  rw [← opens_eq hk]
  have h1 : ∀ {α : Type} (l : List (Int × α)), (l.filter fun p => !c.isOver p.1).length = ((l.map (·.1)).filter fun k => !c.isOver k).length := by
    intro α l
    rw [List.filter_map, List.length_map]
    rfl
  rw [h1, h1, h]

set_option maxRecDepth 100000 in
set_option maxHeartbeats 1600000 in
theorem open_call (b : Nat) (c : Chief) (ps : List (Int × Nat)) (w : World) (L F : HL) (hw : Has w (L ++ F)) (hc : ChiefQ b c ps L) (hu : c.used ≤ 4096) (hlen : c.l.length < 1000000) :
    Calls Tryz.prog 48 #[.pointer (some ⟨b, 0, none⟩)] w fun r w' => r = .returned (.int .i64 c.opens) ∧ ∃ L', ChiefQ b c ps L' ∧ Has w' (L' ++ F) ∧ Kin w w' := by
  obtain ⟨hok, jb, mb, tb, Lj, Lm, Ll, Lt, rfl, hJ, hM, hL, hTw⟩ := hc
  have ho : Has w ((b, .cells #[(Value.int .i64 c.most), (Value.int .i64 c.room), (Value.int .i64 c.tries), .pointer (some ⟨jb, 0, none⟩), (Value.int .i64 c.used), .map (some mb), .pointer (some ⟨tb, 0, none⟩)] 74) :: (Lj ++ Lm ++ Ll ++ Lt ++ F)) := hw
  have p0 := ho.lth
  have x0 := (ho).cellh 0; have x1 := (ho).cellh 1; have x2 := (ho).cellh 2; have x3 := (ho).cellh 3; have x4 := (ho).cellh 4; have x5 := (ho).cellh 5; have x6 := (ho).cellh 6; simp at x0 x1 x2 x3 x4 x5 x6
  have hkeys := hL.keys
  have hk1 : Keys1 c.l := hok.2.2.2.2.1
  have hps1 : Keys1 ps := by unfold Keys1; rw [hkeys]; exact hk1
  have htot := opens_keys hkeys hk1
  obtain ⟨T, hT⟩ : ∃ T, c.opens = T := ⟨_, rfl⟩
  rw [hT] at htot ⊢
  have hTb : T ≤ 1000000 := by
    rw [← hT]; unfold Chief.opens
    exact Nat.le_trans (List.length_filter_le _ _) (by omega)
  have Hok := Lib.hid hok; have Ho := Lib.hid ho; have Hps1 := Lib.hid hps1; have Hk1 := Lib.hid hk1; have Htot := Lib.hid htot; have HTb := Lib.hid hTb; have Hu := Lib.hid hu
  clear hw ho hkeys hk1 hps1 htot hTb hT hu hlen hok
  go_enter Tryz.func48, Tryz.ntmps48
  go_wp2_with (refine wpList_range_map (enc := pV) (F := (b, .cells #[(Value.int .i64 c.most), (Value.int .i64 c.room), (Value.int .i64 c.tries), .pointer (some ⟨jb, 0, none⟩), (Value.int .i64 c.used), .map (some mb), .pointer (some ⟨tb, 0, none⟩)] 74) :: (Lj ++ Ll ++ Lt ++ F)) rfl _ rfl rfl (Ho.out.re (by intro x; simp only [cnt_append, cnt_cons, cnt_nil, List.tail_cons, World.size_alloc, World.size_setCell, World.size_drew, List.setIfInBounds_toArray, List.set_cons_zero, List.set_cons_succ] <;> omega)) hM Tryz.underlying71 ?_; intro o' Li hI hwi)
  simp only [Act.put, List.setIfInBounds_toArray, List.set_cons_zero, List.set_cons_succ]
  have Hwi := Lib.hid hwi
  clear hwi
  go_loopw [3] (fun n wr => ∃ (k : Nat) (post : List (Int × Nat)) (Li : HL), n = .int .i64 k ∧ k + (post.filter fun p => !c.isOver p.1).length = T ∧ (∀ p ∈ post, p ∈ ps) ∧ MapIt pV mb w.heap.size ps post Li ∧ Has wr (Li ++ ((b, .cells #[(Value.int .i64 c.most), (Value.int .i64 c.room), (Value.int .i64 c.tries), .pointer (some ⟨jb, 0, none⟩), (Value.int .i64 c.used), .map (some mb), .pointer (some ⟨tb, 0, none⟩)] 74) :: (Lj ++ Ll ++ Lt ++ F))) ∧ Kin w wr) (fun _ wr => wr.rangeLeft mb w.heap.size)
  case atStart => exact ⟨0, ps, Li, rfl, by rw [Nat.zero_add]; exact Htot.out, fun _ h => h, hI, Hwi.out, (Kin.refl w).alloc _⟩
  case round =>
    obtain ⟨k, post, Li2, rfl, hsum, hsub, hIt, hwr, hkin⟩ := hrel
    have Hleft := Lib.hid (hIt.left hwr)
    rcases run_next_map (P := Tryz.prog) hwr hIt 0 with ⟨rfl, hr⟩ | ⟨key, v, post', w1, L1, hp, hr, hIt1, hw1, hk1, hs1, hent⟩
    · have Hwr := Lib.hid hwr; have Hkin := Lib.hid hkin; have Hsum := Lib.hid hsum
      clear hwr hkin hsum hsub
      go_wp2
      obtain rfl : k = T := Hsum.out
      obtain ⟨x, L', hM', hcnt⟩ := hIt.map
      refine bodyPost_ret (v := .int .i64 k) (by simp [results, Tryz.results48, go_sem]) rfl ⟨rfl, (b, .cells #[(Value.int .i64 c.most), (Value.int .i64 c.room), (Value.int .i64 c.tries), pV jb, (Value.int .i64 c.used), .map (some mb), pV tb] 74) :: (Lj ++ L' ++ Ll ++ Lt), ⟨Hok.out, jb, mb, tb, Lj, L', Ll, Lt, rfl, hJ, hM', hL, hTw⟩, ?_, Hkin.out⟩
      refine Hwr.out.sub ?_
      intro y
      have := hcnt y
      simp only [cnt_append, cnt_cons, pV] at this ⊢
      omega
    · have hmem : (key, v) ∈ ps := hsub _ (hp.mem_iff.2 (.head _))
      have hgp := mget_of_mem Hps1.out hmem
      obtain ⟨x, hx⟩ : ∃ x, mget c.l key = some x := by
        cases h : mget c.l key with
        | none => rw [(LedsR.none hL key).2 h] at hgp; cases hgp
        | some x => exact ⟨x, rfl⟩
      obtain ⟨q, M1, M2, hq, hX, hcnt, _⟩ := LedsR.get hL hx
      rw [hgp] at hq
      cases hq
      have hov : c.isOver key = x.over := by unfold Chief.isOver; rw [hx]
      have hfl : (post.filter fun p => !c.isOver p.1).length = (if x.over then 0 else 1) + (post'.filter fun p => !c.isOver p.1).length := by
        rw [(hp.filter _).length_eq, List.filter_cons]
        dsimp only
        rw [hov]
        cases x.over <;> simp <;> omega
      rw [hfl] at hsum
      have hwz : Has w1 (M1 ++ (M2 ++ L1 ++ ((b, .cells #[(Value.int .i64 c.most), (Value.int .i64 c.room), (Value.int .i64 c.tries), .pointer (some ⟨jb, 0, none⟩), (Value.int .i64 c.used), .map (some mb), .pointer (some ⟨tb, 0, none⟩)] 74) :: (Lj ++ Lt ++ F)))) := by
        refine hw1.sub ?_
        intro y
        have := hcnt y
        simp only [cnt_append, cnt_cons] at this ⊢
        omega
      have hsm := Hok.out.2.2.2.2.2 _ (mem_of_mget hx)
      have hsub' : ∀ p ∈ post', p ∈ ps := fun p h => hsub _ (hp.mem_iff.2 (.tail _ h))
      have hlen := hp.length_eq
      have hkb : (k : Int) + 1 < 9223372036854775808 := by have := HTb.out; split at hsum <;> omega
      obtain ⟨ov, hov2⟩ : ∃ ov, x.over = ov := ⟨_, rfl⟩
      rw [hov2] at hsum
      have Hwz := Lib.hid hwz; have Hsm := Lib.hid hsm; have Hsub' := Lib.hid hsub'; have Hlen := Lib.hid hlen; have Hkin := Lib.hid (hkin.trans hk1); have Hsum := Lib.hid hsum; have Hw1 := Lib.hid hw1; have Hov := Lib.hid hov2; have Hs1 := Lib.hid hs1
      unfold pV at hr hent
      clear hwz hsm hsub' hlen hkin hk1 hsum hw1 hov hov2 hs1 hwr hIt hsub hp hmem hgp hx hcnt hfl x0 x1 x2 x3 x4 x5 x6
      go_wp2_with fail
      refine (lover_call v x c.used Hsm.out (by have := Hu.out; omega) w1 M1 _ Hwz.out hX).mono ?_
      rintro r w2 ⟨rfl, hb2⟩
      rw [Hov.out]
      have hw2 := Hw1.out.below_all hb2
      have Hk2 := Lib.hid (Kin.of_below hb2)
      have hleft2 := hIt1.left hw2
      have Hw2 := Lib.hid hw2; have Hleft2 := Lib.hid hleft2
      clear hw2 hb2 hleft2
      cases ov with
      | true =>
        go_wp2
        go_roundw
        case rel => exact ⟨k, post', L1, rfl, by simpa using Hsum.out, Hsub'.out, hIt1, Hw2.out, Hkin.out.trans Hk2.out⟩
        case measure => rw [Hleft2.out, Hleft.out, Hlen.out]; simp
      | false =>
        go_wp2
        go_roundw
        case rel => exact ⟨k + 1, post', L1, by go_num, by have := Hsum.out; simp at this; omega, Hsub'.out, hIt1, Hw2.out, Hkin.out.trans Hk2.out⟩
        case measure => rw [Hleft2.out, Hleft.out, Hlen.out]; simp

end Go.Proofs.YtcfaimmcedpgiaaGreatDoor
