/-
  Slices that an object owns: 'SlR enc size e v l L': the slice value v holds the list l in the blocks L; append. No condition. A lemma file: no statement of the seat is proved here.
-/
import Derived.Test.YtcfaimmcedpgiaaGreatDoorApi
namespace Go.Proofs.YtcfaimmcedpgiaaGreatDoor
set_option linter.unusedVariables false
set_option linter.unusedSimpArgs false
open Go.RowKit

/-- An element type: its slice type, its size in cells and bytes. -/
structure Elem (P : Program) (t e : TypeId) (size bytes : Nat) : Prop where
  ht : P.underlying t = some (.slice e)
  hi : ∃ i z, P.info? e = some i ∧ i.zero = some z ∧ i.size = size ∧ i.bytes = bytes ∧ z.cells.size = size
  pos : 0 < size
  small : bytes ≤ 1024

/-- Elements are told by so many plain cells. -/
structure Enc {α : Type} (enc : α → List Value) (size : Nat) : Prop where
  len : ∀ x, (enc x).length = size
  one : ∀ x, ∀ u ∈ enc x, u.oneCell' = true

theorem flat_len {α : Type} {enc : α → List Value} {size : Nat} (h : Enc enc size) (l : List α) : (l.flatMap enc).length = l.length * size := by
  induction l with
  | nil => simp
  | cons x l ih => simp [h.len, ih, Nat.add_mul]; omega
theorem flat_get {α : Type} {enc : α → List Value} {size : Nat} (h : Enc enc size) (hp : 0 < size) : ∀ (l : List α) (j : Nat),
    (l.flatMap enc)[j]? = (l[j / size]?).bind (fun x => (enc x)[j % size]?)
  | [], j => by simp
  | x :: l, j => by
    rw [List.flatMap_cons, List.getElem?_append, h.len]
    by_cases hj : j < size
    · rw [if_pos hj, Nat.div_eq_of_lt hj, Nat.mod_eq_of_lt hj]; simp
    · rw [if_neg hj, flat_get h hp l (j - size)]
      have e1 : j / size = (j - size) / size + 1 := by rw [← Nat.sub_add_cancel (Nat.not_lt.1 hj), Nat.add_div_right _ hp]; simp
      have e2 : j % size = (j - size) % size := by rw [Nat.mod_eq_sub_mod (Nat.not_lt.1 hj)]
      rw [e1, e2]; simp
theorem flat_one {α : Type} {enc : α → List Value} {size : Nat} (h : Enc enc size) (l : List α) : ∀ u ∈ l.flatMap enc, u.oneCell' = true := by
  intro u hu
  obtain ⟨x, _, hx⟩ := List.mem_flatMap.1 hu
  exact h.one x u hx

def SlR {α : Type} (enc : α → List Value) (size : Nat) (e : TypeId) (v : Value) (l : List α) (L : HL) : Prop :=
  (v = .slice none 0 0 ∧ l = [] ∧ L = []) ∨
  ∃ b cap cur, v = .slice (some ⟨b, 0, none⟩) l.length cap ∧ L = [(b, .cells cur e)] ∧ l.length ≤ cap ∧ cap ≤ maxLen ∧ cur.size = cap * size ∧ cur.toList.take (l.length * size) = l.flatMap enc

section
variable {α : Type} {enc : α → List Value} {size : Nat} {e : TypeId} {v : Value} {l : List α} {L : HL}
theorem SlR.nil : SlR enc size e (.slice none 0 0) ([] : List α) [] := .inl ⟨rfl, rfl, rfl⟩

theorem SlR.empty {α : Type} (enc : α → List Value) (size : Nat) (e : TypeId) (b : Nat) : SlR enc size e (.slice (some ⟨b, 0, none⟩) 0 0) ([] : List α) [(b, .cells #[] e)] :=
  .inr ⟨b, 0, #[], rfl, rfl, Nat.le_refl _, by simp [maxLen], by simp, by simp⟩
theorem SlR.at (h : SlR enc size e v l L) (he : Enc enc size) {w : World} {F : HL} (hw : Has w (L ++ F)) : SlAt w enc size v l := by
  rcases h with ⟨rfl, rfl, rfl⟩ | ⟨b, cap, cur, rfl, rfl, hc, hm, hs, ht⟩
  · exact .inl ⟨rfl, rfl⟩
  · refine .inr ⟨b, 0, cap, rfl, fun k x hx j u hu => ?_⟩
    have hj : j < size := by have := (List.getElem?_eq_some_iff.1 hu).1; rw [he.len] at this; exact this
    have hp : 0 < size := by omega
    have hk := (List.getElem?_eq_some_iff.1 hx).1
    rw [hw.cell (b := b) (c := cur) (t := e) (f := (0, 0)) (by simp)]
    have hf := flat_get he hp l (k * size + j)
    have e1 : (k * size + j) / size = k := by rw [Nat.mul_comm, Nat.mul_add_div hp, Nat.div_eq_of_lt hj]; rfl
    have e2 : (k * size + j) % size = j := by rw [Nat.mul_comm, Nat.mul_add_mod, Nat.mod_eq_of_lt hj]
    rw [e1, e2, hx, ← ht] at hf
    have hlt : k * size + j < l.length * size := by
      have : (k + 1) * size ≤ l.length * size := Nat.mul_le_mul_right _ hk
      rw [Nat.add_mul] at this; omega
    rw [List.getElem?_take, if_pos hlt] at hf
    simp only [Nat.zero_add]
    simpa [hu] using hf

theorem SlR.val (h : SlR enc size e v l L) : ∃ a cap, v = .slice a l.length cap := by
  rcases h with ⟨rfl, rfl, _⟩ | ⟨b, cap, cur, rfl, _⟩
  · exact ⟨_, _, rfl⟩
  · exact ⟨_, _, rfl⟩
end

theorem SlAt.news {α : Type} {w : World} {enc : α → List Value} {size : Nat} (he : Enc enc size) (hp : 0 < size) {b off : Nat} {news : List α}
    (h : ∀ k x, news[k]? = some x → ∀ j u, (enc x)[j]? = some u → w.cell? ⟨b, off + k * size + j, none⟩ = some u) :
    ∀ j u, (news.flatMap enc)[j]? = some u → w.cell? ((⟨b, off, none⟩ : Addr).add j) = some u := by
  intro j u hu
  have hadd : (⟨b, off, none⟩ : Addr).add j = ⟨b, off + j, none⟩ := by unfold Addr.add; split <;> simp_all
  rw [hadd]
  rw [flat_get he hp] at hu
  cases hx : news[j / size]? with
  | none => simp [hx] at hu
  | some x =>
    rw [hx] at hu
    have := h (j / size) x hx (j % size) u hu
    have e1 : off + j / size * size + j % size = off + j := by have := Nat.div_add_mod' j size; omega
    rwa [e1] at this

set_option maxHeartbeats 400000 in
theorem run_append_has {P : Program} {w : World} {α : Type} {enc : α → List Value} {size bytes : Nat} {t e ty : TypeId} (he : Enc enc size) (hE : Elem P t e size bytes)
    {v x : Value} {l news : List α} {L F : HL} (hR : SlR enc size e v l L) (hw : Has w (L ++ F)) (hx : SlAt w enc size x news) (hb : l.length + news.length ≤ 1000000000) :
    ∃ v' w' L', (Builtin.append_ #[t, t] ty #[v, x]).run P w = .ok v' w' ∧ SlR enc size e v' (l ++ news) L' ∧ Has w' (L' ++ F) ∧ Kin w w' := by
  obtain ⟨i, z, hi, hz, hsize, hby, hzs⟩ := hE.hi
  have ht := hE.ht
  have hp := hE.pos
  subst hsize
  have hbytes : (l.length + news.length) * i.bytes ≤ 140737488355328 := by
    have : i.bytes ≤ 1024 := by rw [hby]; exact hE.small
    calc _ ≤ 1000000000 * 1024 := Nat.mul_le_mul hb this
      _ ≤ _ := by decide
  -- the new row
  have grown : ∀ (old : Nat), ∃ L', SlR enc i.size e (.slice (some ⟨w.heap.size, 0, none⟩) (l.length + news.length) (grownCap w (l.length + news.length) old e)) (l ++ news) L' ∧
      Has (w.drew.alloc (.cells ((l.flatMap enc).toArray ++ (news.flatMap enc).toArray ++ Builtin.zeroCells z.cells (grownCap w (l.length + news.length) old e - (l.length + news.length))) e)) (L' ++ F) := by
    intro old
    have hge := grownCap_ge w (l.length + news.length) old e
    have hcm : grownCap w (l.length + news.length) old e ≤ maxLen := grownCap_le_maxLen w _ old e (by simp only [maxLen]; omega)
    refine ⟨[(w.heap.size, _)], .inr ⟨w.heap.size, _, _, by rw [List.length_append], rfl, by rw [List.length_append]; exact hge, hcm, ?_, ?_⟩, (hw.right.drew).alloc _⟩
    · simp only [Array.size_append, List.size_toArray, size_zeroCells, hzs, flat_len he, ← Nat.add_mul]
      congr 1; omega
    · rw [List.length_append, Nat.add_mul, ← flat_len he, ← flat_len he, ← List.length_append]
      simp only [Array.toList_append]
      rw [List.take_left, List.flatMap_append]
  rcases hx with ⟨rfl, rfl⟩ | ⟨b, off, c, rfl, hcs⟩
  · -- nothing is appended
    rcases hR with ⟨rfl, rfl, rfl⟩ | ⟨g, cap, cur, rfl, rfl, hc, hm, hs, htk⟩
    · refine ⟨.slice none 0 0, w, [], ?_, .inl ⟨rfl, rfl, rfl⟩, hw, Kin.refl _⟩
      simp [Builtin.append_, run_underlying ht, sizeOf, typeInfo, hi, Builtin.lenOf, Builtin.firstCells]
    · refine ⟨.slice (some ⟨g, 0, none⟩) l.length cap, w, _, ?_, .inr ⟨g, cap, cur, by simp, rfl, by simpa using hc, hm, hs, by simpa using htk⟩, hw, Kin.refl _⟩
      simp [Builtin.append_, run_underlying ht, sizeOf, typeInfo, hi, Builtin.lenOf, Builtin.firstCells, hc, storeCells]
  · have hnews := SlAt.news he hp hcs
    have hl := flat_len he news
    rcases hR with ⟨rfl, rfl, rfl⟩ | ⟨g, cap, cur, rfl, rfl, hc, hm, hs, htk⟩
    · by_cases hm0 : news.length = 0
      · have hn : news = [] := List.eq_nil_of_length_eq_zero hm0
        subst hn
        refine ⟨.slice none 0 0, w, [], ?_, .inl ⟨rfl, rfl, rfl⟩, hw, Kin.refl _⟩
        simp [Builtin.append_, run_underlying ht, sizeOf, typeInfo, hi, Builtin.lenOf, Builtin.firstCells, loadCells, loadCellsFrom]
      · have hr := run_append_nil (P := P) w t ty e i z ht hi hz ⟨b, off, none⟩ news.length c (news.flatMap enc) hl hnews (by omega) (by simp at hb; omega) (by simp at hbytes; omega)
        obtain ⟨L', h1, h2⟩ := grown 0
        simp only [List.length_nil, Nat.zero_add, List.flatMap_nil, List.nil_append, Array.empty_append] at h1 h2
        exact ⟨_, _, L', hr, h1, h2, ((Kin.refl w).drew).alloc _⟩
    · by_cases hroom : l.length + news.length ≤ cap
      · have hfit : l.length * i.size + (news.flatMap enc).length ≤ cur.size := by rw [hl, hs, ← Nat.add_mul]; exact Nat.mul_le_mul_right _ hroom
        have hg : w.heap[g]? = some (.cells cur e (0, 0)) := hw.get (by simp)
        have hr := run_append_room (P := P) w t ty e i ht hi g l.length cap cur hg ⟨b, off, none⟩ news.length c (news.flatMap enc) hl hnews (flat_one he news) hroom hfit
        refine ⟨_, _, _, hr, .inr ⟨g, cap, (cur.toList.take (l.length * i.size) ++ news.flatMap enc ++ cur.toList.drop (l.length * i.size + (news.flatMap enc).length)).toArray, by rw [List.length_append], rfl, by rw [List.length_append]; exact hroom, hm, ?_, ?_⟩, ?_, ⟨rfl, rfl, rfl⟩⟩
        · simp only [List.size_toArray, List.length_append, List.length_take, List.length_drop, Array.length_toList]
          omega
        · rw [htk, List.length_append, Nat.add_mul, ← flat_len he, ← hl, ← List.length_append, List.take_left, List.flatMap_append]
        · refine hw.set (o' := .cells (cur.toList.take (l.length * i.size) ++ news.flatMap enc ++ cur.toList.drop (l.length * i.size + (news.flatMap enc).length)).toArray e (0, 0)) ?_
          apply Array.ext_getElem?
          intro j
          have hgl := (Array.getElem?_eq_some_iff.1 hg).1
          by_cases hj : j = g
          · subst hj; rw [setRow_heap w _ cur _ e _ hg]; simp [hgl]
          · rw [setRow_other w g j _ hj, Array.getElem?_setIfInBounds_ne (fun h => hj h.symm)]
      · have holds : ∀ j u, (l.flatMap enc)[j]? = some u → w.cell? ((⟨g, 0, none⟩ : Addr).add j) = some u := by
          intro j u hu
          have hadd : (⟨g, 0, none⟩ : Addr).add j = ⟨g, j, none⟩ := by unfold Addr.add; split <;> simp_all
          rw [hadd, hw.cell (b := g) (c := cur) (t := e) (f := (0, 0)) (by simp)]
          rw [← htk, List.getElem?_take] at hu
          split at hu
          · simpa using hu
          · cases hu
        have hr := run_append_grow (P := P) w t ty e i z ht hi hz ⟨g, 0, none⟩ l.length cap (l.flatMap enc) (flat_len he l) holds ⟨b, off, none⟩ news.length c (news.flatMap enc) hl hnews (by omega) (by omega) (growslice_fits (by omega) hbytes)
        obtain ⟨L', h1, h2⟩ := grown cap
        exact ⟨_, _, L', hr, h1, h2, ((Kin.refl w).drew).alloc _⟩

theorem wpList_append_has {P : Program} {w : World} {ops : Array Oper} {rest : List Oper} {o : Oper} {a : Act} {Q : Exit → Act → World → Prop} (hgd : o.guard = none) (s x : Operand) (t : TypeId)
    (ho : o.op = .call { callee := .builtin .append, args := #[s, x], argTypes := #[t, t] })
    {α : Type} {enc : α → List Value} {size bytes : Nat} {e : TypeId} (he : Enc enc size) (hE : Elem P t e size bytes)
    {v xv : Value} {l news : List α} {L F : HL} (hs : a.eval s = v) (hxv : a.eval x = xv) (hR : SlR enc size e v l L) (hw : Has w (L ++ F)) (hx : SlAt w enc size xv news) (hb : l.length + news.length ≤ 1000000000)
    (h : ∀ v' w' L', SlR enc size e v' (l ++ news) L' → Has w' (L' ++ F) → Kin w w' → wpList P ops Q rest (a.put o.dst v') w') : wpList P ops Q (o :: rest) a w := by
  refine wpList_plain hgd fun _ hK => ?_
  obtain ⟨v', w', L', hr, h1, h2, h3⟩ := run_append_has (ty := o.type) he hE hR hw hx hb
  unfold Oper.wp execOp
  simp only [ho, resolve, invoke, builtin, Sem.run_bind, Sem.run_pure, Result.andThen_ok, List.map_toArray, List.map_cons, List.map_nil, hs, hxv, hr]
  exact hK _ _ (h v' w' L' h1 h2 h3)

theorem encStep : Enc Step.enc 2 := ⟨fun _ => rfl, fun x u hu => by simp [Step.enc] at hu; rcases hu with rfl | rfl <;> rfl⟩
theorem encMsg : Enc Msg.enc 7 := ⟨fun _ => rfl, fun x u hu => by simp [Msg.enc] at hu; rcases hu with rfl | rfl | rfl | rfl | rfl | rfl | rfl <;> rfl⟩
def bEnc (b : Bool) : List Value := [.bool b]
def iEnc (n : Int) : List Value := [(Value.int .i64 n)]
def sEnc (s : ByteArray) : List Value := [.string s]
theorem encB : Enc bEnc 1 := ⟨fun _ => rfl, fun x u hu => by simp [bEnc] at hu; subst hu; rfl⟩
theorem encI : Enc iEnc 1 := ⟨fun _ => rfl, fun x u hu => by simp [iEnc] at hu; subst hu; rfl⟩
theorem encS : Enc sEnc 1 := ⟨fun _ => rfl, fun x u hu => by simp [sEnc] at hu; subst hu; rfl⟩

end Go.Proofs.YtcfaimmcedpgiaaGreatDoor
