/-
  Maps with integer keys, as lists of pairs: lookup, update, delete, range. No condition. A lemma file: no statement of the seat is proved here.
-/
import Derived.Test.YtcfaimmcedpgiaaGreatDoorBase
import Derived.Maps.RangeWalk
namespace Go.Proofs.YtcfaimmcedpgiaaGreatDoor
set_option linter.unusedVariables false
set_option linter.unusedSimpArgs false
open Go.RowKit

def mfind {α : Type} : List (Int × α) → Int → Nat → Option (Nat × α)
  | [], _, _ => none
  | (k, v) :: l, n, i => if k = n then some (i, v) else mfind l n (i + 1)
def mget {α : Type} (l : List (Int × α)) (n : Int) : Option α := (mfind l n 0).map (·.2)
def mput {α : Type} (l : List (Int × α)) (n : Int) (v : α) : List (Int × α) :=
  match mfind l n 0 with
  | some (i, _) => l.set i (n, v)
  | none => l ++ [(n, v)]
def mdel {α : Type} (l : List (Int × α)) (n : Int) : List (Int × α) :=
  match mfind l n 0 with
  | some (i, _) => l.eraseIdx i
  | none => l

def ekv (e : MapEntry) : Value × Value := (e.key, e.val)
def pkv {α : Type} (enc : α → Value) (p : Int × α) : Value × Value := (Value.int .i64 p.1, enc p.2)

structure MapE {α : Type} (enc : α → Value) (es : Array MapEntry) (clock : Nat) (l : List (Int × α)) : Prop where
  st : MapKept.Stamped es clock
  kv : es.toList.map ekv = l.map (pkv enc)

def MapR {α : Type} (enc : α → Value) (b : Nat) (l : List (Int × α)) (L : HL) : Prop := ∃ es clock, L = [(b, .map es clock)] ∧ MapE enc es clock l

section pure
variable {α : Type}
theorem mfind_some {l : List (Int × α)} {n : Int} {i j : Nat} {v : α} (h : mfind l n i = some (j, v)) : ∃ k, j = i + k ∧ l[k]? = some (n, v) := by
  induction l generalizing i with
  | nil => cases h
  | cons p l ih =>
    obtain ⟨k, u⟩ := p
    unfold mfind at h
    split at h
    · rename_i hk; subst hk; cases h; exact ⟨0, rfl, rfl⟩
    · obtain ⟨m, rfl, hm⟩ := ih h
      exact ⟨m + 1, by omega, by simpa using hm⟩
theorem mfind_none {l : List (Int × α)} {n : Int} {i : Nat} (h : mfind l n i = none) : ∀ p ∈ l, p.1 ≠ n := by
  induction l generalizing i with
  | nil => simp
  | cons p l ih =>
    obtain ⟨k, u⟩ := p
    unfold mfind at h
    split at h
    · cases h
    · rename_i hk
      intro p hp
      rcases List.mem_cons.1 hp with rfl | hp
      · exact hk
      · exact ih h p hp
theorem mfind_shift (l : List (Int × α)) (n : Int) (i : Nat) : mfind l n i = (mfind l n 0).map fun x => (i + x.1, x.2) := by
  induction l generalizing i with
  | nil => rfl
  | cons p l ih =>
    obtain ⟨k, u⟩ := p
    unfold mfind
    split
    · simp
    · rw [ih (i + 1), ih (0 + 1)]
      cases mfind l n 0 <;> simp [Nat.add_comm, Nat.add_assoc, Nat.add_left_comm]
theorem mget_nil (n : Int) : mget ([] : List (Int × α)) n = none := rfl
theorem mget_cons (k : Int) (v : α) (l : List (Int × α)) (n : Int) : mget ((k, v) :: l) n = if k = n then some v else mget l n := by
  unfold mget
  rw [mfind]
  split
  · rfl
  · rw [mfind_shift]; cases mfind l n 0 <;> simp
theorem mget_eq_none {l : List (Int × α)} {n : Int} : mget l n = none ↔ ∀ p ∈ l, p.1 ≠ n := by
  induction l with
  | nil => simp [mget_nil]
  | cons p l ih =>
    obtain ⟨k, u⟩ := p
    rw [mget_cons]
    split
    · rename_i hk; simp [hk]
    · rename_i hk; simp [ih, hk]
theorem mget_append (l m : List (Int × α)) (n : Int) : mget (l ++ m) n = (mget l n).or (mget m n) := by
  induction l with
  | nil => simp [mget_nil]
  | cons p l ih =>
    obtain ⟨k, u⟩ := p
    simp only [List.cons_append, mget_cons]
    split
    · rfl
    · exact ih
theorem mem_of_mget {l : List (Int × α)} {n : Int} {v : α} (h : mget l n = some v) : (n, v) ∈ l := by
  unfold mget at h
  cases hf : mfind l n 0 with
  | none => rw [hf] at h; cases h
  | some x =>
    obtain ⟨j, u⟩ := x
    rw [hf] at h
    obtain ⟨k, _, hk⟩ := mfind_some hf
    cases h
    exact List.mem_of_getElem? hk
theorem mput_cons (k : Int) (u : α) (l : List (Int × α)) (n : Int) (v : α) : mput ((k, u) :: l) n v = if k = n then (n, v) :: l else (k, u) :: mput l n v := by
  unfold mput
  simp only [mfind]
  by_cases hk : k = n
  · simp [hk]
  · simp only [if_neg hk]
    rw [mfind_shift]
    cases h : mfind l n 0 with
    | none => simp
    | some x => simp [Nat.add_comm]
theorem mdel_cons (k : Int) (u : α) (l : List (Int × α)) (n : Int) : mdel ((k, u) :: l) n = if k = n then l else (k, u) :: mdel l n := by
  unfold mdel
  simp only [mfind]
  by_cases hk : k = n
  · simp [hk]
  · simp only [if_neg hk]
    rw [mfind_shift]
    cases h : mfind l n 0 with
    | none => simp
    | some x => simp [Nat.add_comm]
theorem mget_mput (l : List (Int × α)) (n : Int) (v : α) (m : Int) : mget (mput l n v) m = if n = m then some v else mget l m := by
  induction l with
  | nil => simp [mput, mfind, mget_cons, mget_nil]
  | cons p l ih =>
    obtain ⟨k, u⟩ := p
    rw [mput_cons]
    split
    · rename_i hk; subst hk; rw [mget_cons, mget_cons]; split <;> rfl
    · rename_i hk
      rw [mget_cons, mget_cons, ih]
      by_cases h1 : k = m
      · have h2 : ¬ n = m := by omega
        simp [h1, h2]
      · simp [h1]
def Keys1 (l : List (Int × α)) : Prop := (l.map (·.1)).Nodup
theorem mget_mdel {l : List (Int × α)} (hn : Keys1 l) (n m : Int) : mget (mdel l n) m = if n = m then none else mget l m := by
  induction l with
  | nil => simp [mdel, mfind, mget_nil]
  | cons p l ih =>
    obtain ⟨k, u⟩ := p
    simp only [Keys1, List.map_cons, List.nodup_cons] at hn
    rw [mdel_cons]
    split
    · rename_i hk
      subst hk
      by_cases h1 : k = m
      · subst h1
        rw [if_pos rfl]
        exact mget_eq_none.2 fun p hp e => hn.1 (List.mem_map.2 ⟨p, hp, e⟩)
      · rw [if_neg h1, mget_cons, if_neg h1]
    · rename_i hk
      rw [mget_cons, mget_cons, ih hn.2]
      by_cases h1 : k = m
      · have h2 : ¬ n = m := by omega
        simp [h1, h2]
      · simp [h1]
theorem keys1_mput {l : List (Int × α)} (hn : Keys1 l) (n : Int) (v : α) : Keys1 (mput l n v) := by
  induction l with
  | nil => simp [mput, mfind, Keys1]
  | cons p l ih =>
    obtain ⟨k, u⟩ := p
    simp only [Keys1, List.map_cons, List.nodup_cons] at hn
    rw [mput_cons]
    split
    · rename_i hk; subst hk; simpa [Keys1] using hn
    · rename_i hk
      have h2 := ih hn.2
      simp only [Keys1, List.map_cons, List.nodup_cons]
      refine ⟨fun hm => ?_, h2⟩
      obtain ⟨p, hp, e⟩ := List.mem_map.1 hm
      have h3 : mget (mput l n v) k ≠ none := fun h => (mget_eq_none.1 h) p hp e
      rw [mget_mput, if_neg (fun h => hk h.symm)] at h3
      cases h4 : mget l k with
      | none => exact h3 h4
      | some x => exact hn.1 (List.mem_map.2 ⟨_, mem_of_mget h4, rfl⟩)
theorem mdel_sub (l : List (Int × α)) (n : Int) : (mdel l n).Sublist l := by
  unfold mdel; split
  · exact List.eraseIdx_sublist _ _
  · exact List.Sublist.refl _
theorem keys1_mdel {l : List (Int × α)} (hn : Keys1 l) (n : Int) : Keys1 (mdel l n) := List.Nodup.sublist ((mdel_sub l n).map _) hn
theorem mfind_map {β : Type} (f : α → β) (l : List (Int × α)) (n : Int) (i : Nat) : mfind (l.map fun p => (p.1, f p.2)) n i = (mfind l n i).map fun x => (x.1, f x.2) := by
  induction l generalizing i with
  | nil => rfl
  | cons p l ih =>
    obtain ⟨k, u⟩ := p
    simp only [List.map_cons, mfind]
    split
    · rfl
    · exact ih _
theorem mget_map {β : Type} (f : α → β) (l : List (Int × α)) (n : Int) : mget (l.map fun p => (p.1, f p.2)) n = (mget l n).map f := by
  unfold mget; rw [mfind_map]; cases mfind l n 0 <;> rfl
end pure

section
variable {α : Type} {enc : α → Value} {es : Array MapEntry} {clock : Nat} {l : List (Int × α)} {b : Nat} {L F : HL} {w : World} {P : Program} {kt t et : TypeId}

theorem map_eraseIdx' {β γ : Type} (f : β → γ) (l : List β) (i : Nat) : (l.eraseIdx i).map f = (l.map f).eraseIdx i := by
  apply List.ext_getElem?
  intro j
  simp only [List.getElem?_map, List.getElem?_eraseIdx]
  split <;> rfl
theorem findNow_mfind (q : IntKind) (n : Int) : ∀ (E : List MapEntry) (l : List (Int × α)) (i : Nat), E.map ekv = l.map (pkv enc) →
    Instr.findNow (.int q) (.int .i64 n) E i = some ((mfind l n i).map fun x => (x.1, enc x.2))
  | [], [], i, _ => rfl
  | [], _ :: _, _, h => by cases h
  | _ :: _, [], _, h => by cases h
  | e :: E, (k, v) :: l, i, h => by
    simp only [List.map_cons, List.cons.injEq, ekv, pkv, Prod.mk.injEq] at h
    obtain ⟨⟨h1, h2⟩, h3⟩ := h
    unfold Instr.findNow mfind
    rw [h1]
    simp only [Instr.sameNow, if_true]
    by_cases hk : k = n
    · subst hk; simp [h2]
    · have : (n == k) = false := by simp; exact fun e => hk e.symm
      rw [this, if_neg hk]
      exact findNow_mfind q n E l (i + 1) h3

theorem MapE.isKey (h : MapE enc es clock l) : ∀ x ∈ es.toList, ∃ n, x.key = .int .i64 n := by
  intro x hx
  have : ekv x ∈ es.toList.map ekv := List.mem_map.2 ⟨x, hx, rfl⟩
  rw [h.kv] at this
  obtain ⟨p, _, hp⟩ := List.mem_map.1 this
  exact ⟨p.1, by have := congrArg Prod.fst hp; exact this.symm⟩
theorem MapE.keys1 (h : MapE enc es clock l) : Keys1 l := by
  have h1 := h.st.2.2
  have : es.toList.map (·.key) = l.map fun p => Value.int .i64 p.1 := by
    have := congrArg (List.map Prod.fst) h.kv
    simpa [List.map_map, Function.comp_def, ekv, pkv] using this
  rw [this] at h1
  have h2 : (List.map (fun x : Int => Value.int .i64 x) (l.map (·.1))).Nodup := by simpa [List.map_map, Function.comp_def] using h1
  exact (List.pairwise_map.1 h2).imp (fun h e => h (by rw [e]))
theorem MapE.empty (clock : Nat) : MapE enc #[] clock ([] : List (Int × α)) := ⟨MapKept.stamped_empty _, rfl⟩
theorem MapE.same_find (h : MapE enc es clock l) (n : Int) : Instr.findNow (.int .i64) (.int .i64 n) es.toList 0 = some ((mfind l n 0).map fun x => (x.1, enc x.2)) := findNow_mfind _ _ _ _ _ h.kv

theorem MapE.put (h : MapE enc es clock l) (n : Int) (v : α) :
    match mfind l n 0 with
    | some (i, _) => MapE enc (es.modify i fun e => { e with key := .int .i64 n, val := enc v }) clock (mput l n v) ∧ ((es[i]?).map (·.key)) = some (.int .i64 n)
    | none => MapE enc (es.push { key := .int .i64 n, val := enc v, born := clock }) (clock + 1) (mput l n v) := by
  cases hf : mfind l n 0 with
  | none =>
    simp only
    refine ⟨MapKept.stamped_push h.st fun x hx => ?_, ?_⟩
    · obtain ⟨m, hm⟩ := h.isKey x hx
      have hx2 : ekv x ∈ l.map (pkv enc) := by rw [← h.kv]; exact List.mem_map.2 ⟨x, hx, rfl⟩
      obtain ⟨p, hp, e⟩ := List.mem_map.1 hx2
      have h1 := congrArg Prod.fst e
      simp only [pkv, ekv] at h1
      rw [← h1]
      intro e2
      exact mfind_none hf p hp (by injection e2)
    · simp [mput, hf, h.kv, ekv, pkv]
  | some x =>
    obtain ⟨i, u⟩ := x
    obtain ⟨k, rfl, hk⟩ := mfind_some hf
    simp only [Nat.zero_add]
    have hkey : (es[k]?).map ekv = some (.int .i64 n, enc u) := by
      have := congrArg (fun L => L[k]?) h.kv
      simp only [List.getElem?_map, hk, Array.getElem?_toList, Option.map_some, pkv] at this
      exact this
    cases he : es[k]? with
    | none => rw [he] at hkey; cases hkey
    | some e =>
      rw [he] at hkey
      have hkk : e.key = .int .i64 n := by have := congrArg Prod.fst (Option.some.inj hkey); exact this
      refine ⟨⟨MapKept.stamped_modify h.st k _ (fun _ _ => rfl) (fun e' _ hi => ?_), ?_⟩, by simp [hkk]⟩
      · rw [he] at hi; cases hi; exact hkk.symm
      · have e0 : 0 + k = k := Nat.zero_add k
        rw [e0] at hf
        simp only [mput, hf]
        rw [List.map_set, ← h.kv]
        apply List.ext_getElem?
        intro j
        simp only [List.getElem?_map, Array.getElem?_toList, Array.getElem?_modify, List.getElem?_set, List.length_map, Array.length_toList]
        by_cases hj : k = j
        · subst hj
          have := (Array.getElem?_eq_some_iff.1 he).1
          simp [he, this, ekv, pkv]
        · simp [hj]
theorem MapE.del (h : MapE enc es clock l) (n : Int) :
    match mfind l n 0 with
    | some (i, _) => MapE enc (es.eraseIdxIfInBounds i) clock (mdel l n)
    | none => MapE enc es clock (mdel l n) := by
  cases hf : mfind l n 0 with
  | none => simp only; simpa [mdel, hf] using h
  | some x =>
    obtain ⟨i, u⟩ := x
    simp only
    refine ⟨MapKept.stamped_erase h.st i, ?_⟩
    simp only [mdel, hf]
    rw [map_eraseIdx', ← h.kv, ← map_eraseIdx']
    congr 1
    unfold Array.eraseIdxIfInBounds
    split
    · simp
    · rename_i hlt
      rw [List.eraseIdx_of_length_le (by simpa using hlt)]

theorem run_lookup_map (hw : Has w (L ++ F)) (hM : MapR enc b l L) (hk : P.underlying kt = some (.int .i64)) (ht : P.underlying t = some (.map kt et)) {z : Value} (hz : (zeroValue et).run P w = .ok z w) (n : Int) (c : Bool) :
    (Instr.lookup t (.map (some b)) (.int .i64 n) c).run P w = .ok (if c then .tuple #[((mget l n).map enc).getD z, .bool (mget l n).isSome] else ((mget l n).map enc).getD z) w := by
  obtain ⟨es, clock, rfl, hE⟩ := hM
  have hb : w.heap[b]? = some (.map es clock) := hw.get (by simp)
  unfold Instr.lookup
  simp only [Sem.run_bind, run_underlying ht, Result.andThen, MapKept.run_getObj_map hb, Sem.run_pure]
  rw [MapKept.run_checkKey (d := .int .i64) (k := .int .i64 n) hk rfl]
  simp only [MapKept.run_findKey hk (hE.same_find n)]
  cases hf : mfind l n 0 with
  | none => simp [hz, mget, hf, Result.andThen]
  | some x => simp [mget, hf, Result.andThen]

theorem setObj_has {o o' : Obj} (hw : Has w ((b, o) :: F)) : Has { w with heap := w.heap.setIfInBounds b o' } ((b, o') :: F) := hw.set rfl

theorem run_update_map (hw : Has w (L ++ F)) (hM : MapR enc b l L) (hk : P.underlying kt = some (.int .i64)) (ht : P.underlying t = some (.map kt et)) (n : Int) (v : α) :
    ∃ w' L', (Instr.mapUpdate t (.map (some b)) (.int .i64 n) (enc v)).run P w = .ok () w' ∧ MapR enc b (mput l n v) L' ∧ Has w' (L' ++ F) ∧ Kin w w' ∧ w'.heap.size = w.heap.size := by
  obtain ⟨es, clock, rfl, hE⟩ := hM
  have hb : w.heap[b]? = some (.map es clock) := hw.get (by simp)
  have hp := hE.put n v
  unfold Instr.mapUpdate
  simp only [Sem.run_bind, run_underlying ht, Result.andThen, MapKept.run_getObj_map hb, Sem.run_pure]
  rw [MapKept.run_checkKey (d := .int .i64) (k := .int .i64 n) hk rfl]
  simp only [MapKept.run_findKey hk (hE.same_find n)]
  cases hf : mfind l n 0 with
  | none =>
    rw [hf] at hp
    simp only [Option.map_none, MapKept.run_setObj_map _ hb]
    exact ⟨_, _, rfl, ⟨_, _, rfl, hp⟩, setObj_has hw, ⟨rfl, rfl, rfl⟩, by simp⟩
  | some x =>
    obtain ⟨i, u⟩ := x
    rw [hf] at hp
    obtain ⟨hp, hkey⟩ := hp
    simp only [Option.map_some, hkey, Option.getD_some, Instr.keyThatStays, Instr.sameBits, beq_self_eq_true, Bool.and_self, if_true, Sem.run_bind, Sem.run_pure, Result.andThen, MapKept.run_setObj_map _ hb]
    exact ⟨_, _, rfl, ⟨_, _, rfl, hp⟩, setObj_has hw, ⟨rfl, rfl, rfl⟩, by simp⟩

theorem run_delete_map (hw : Has w (L ++ F)) (hM : MapR enc b l L) (hk : P.underlying kt = some (.int .i64)) (ht : P.underlying t = some (.map kt et)) (n : Int) (ty : TypeId) :
    ∃ w' L', (Builtin.delete_ #[t, kt] ty #[.map (some b), .int .i64 n]).run P w = .ok (.tuple #[]) w' ∧ MapR enc b (mdel l n) L' ∧ Has w' (L' ++ F) ∧ Kin w w' ∧ w'.heap.size = w.heap.size := by
  obtain ⟨es, clock, rfl, hE⟩ := hM
  have hb : w.heap[b]? = some (.map es clock) := hw.get (by simp)
  have hp := hE.del n
  unfold Builtin.delete_
  simp only [List.getElem?_toArray, List.getElem?_cons_zero, List.getElem?_cons_succ, Sem.run_bind, run_underlying ht, Result.andThen, MapKept.run_getObj_map hb, Sem.run_pure]
  rw [MapKept.run_checkKey (d := .int .i64) (k := .int .i64 n) hk rfl]
  simp only [MapKept.run_findKey hk (hE.same_find n)]
  cases hf : mfind l n 0 with
  | none =>
    rw [hf] at hp
    refine ⟨_, _, ?_, ⟨_, _, rfl, hp⟩, setObj_has hw, ⟨rfl, rfl, rfl⟩, by simp⟩
    simp only [Option.map_none, Sem.run_bind, MapKept.run_setObj_map _ hb, Result.andThen, Sem.run_pure]
  | some x =>
    obtain ⟨i, u⟩ := x
    rw [hf] at hp
    refine ⟨_, _, ?_, ⟨_, _, rfl, hp⟩, setObj_has hw, ⟨rfl, rfl, rfl⟩, by simp⟩
    simp only [Option.map_some, Sem.run_bind, MapKept.run_setObj_map _ hb, Result.andThen, Sem.run_pure]

section ops
variable {o : Oper} {a : Act} {K : Act → World → Prop} {Q : Exit → Act → World → Prop}
theorem owp_lookup_map (m x : Operand) (c : Bool) (hop : o.op = .lookup t m x c) {n : Int} (hm : a.eval m = .map (some b)) (hx : a.eval x = .int .i64 n)
    (hw : Has w (L ++ F)) (hM : MapR enc b l L) (hk : P.underlying kt = some (.int .i64)) (ht : P.underlying t = some (.map kt et)) {z : Value} (hz : (zeroValue et).run P w = .ok z w)
    (h : K (a.put o.dst (if c then .tuple #[((mget l n).map enc).getD z, .bool (mget l n).isSome] else ((mget l n).map enc).getD z)) w) : o.wp P a w K Q := by
  have hr := run_lookup_map hw hM hk ht hz n c
  unfold Oper.wp
  simp [execOp, hop, hm, hx, hr, Result.andThen]
  exact h
theorem owp_update_map (m x v : Operand) (hop : o.op = .mapUpdate t m x v) {n : Int} {u : α} (hm : a.eval m = .map (some b)) (hx : a.eval x = .int .i64 n) (hv : a.eval v = enc u)
    (hw : Has w (L ++ F)) (hM : MapR enc b l L) (hk : P.underlying kt = some (.int .i64)) (ht : P.underlying t = some (.map kt et))
    (h : ∀ w' L', MapR enc b (mput l n u) L' → Has w' (L' ++ F) → Kin w w' → w'.heap.size = w.heap.size → K (a.put o.dst undef) w') : o.wp P a w K Q := by
  obtain ⟨w', L', hr, h1, h2, h3, h4⟩ := run_update_map hw hM hk ht n u
  unfold Oper.wp
  simp [execOp, hop, hm, hx, hv, hr, Result.andThen]
  exact h w' L' h1 h2 h3 h4
theorem owp_delete_map (m x : Operand) (hop : o.op = .call { callee := .builtin .delete, args := #[m, x], argTypes := #[t, kt] }) {n : Int} (hm : a.eval m = .map (some b)) (hx : a.eval x = .int .i64 n)
    (hw : Has w (L ++ F)) (hM : MapR enc b l L) (hk : P.underlying kt = some (.int .i64)) (ht : P.underlying t = some (.map kt et))
    (h : ∀ w' L', MapR enc b (mdel l n) L' → Has w' (L' ++ F) → Kin w w' → w'.heap.size = w.heap.size → K (a.put o.dst (.tuple #[])) w') : o.wp P a w K Q := by
  obtain ⟨w', L', hr, h1, h2, h3, h4⟩ := run_delete_map hw hM hk ht n o.type
  unfold Oper.wp
  simp [execOp, hop, resolve, invoke, builtin, hm, hx, hr, Result.andThen]
  exact h w' L' h1 h2 h3 h4
end ops
section lists
variable {o : Oper} {a : Act} {ops : Array Oper} {rest : List Oper} {Q : Exit → Act → World → Prop}
theorem wpList_lookup_map (hg : o.guard = none) (m x : Operand) (c : Bool) (hop : o.op = .lookup t m x c) {n : Int} (hm : a.eval m = .map (some b)) (hx : a.eval x = .int .i64 n)
    (hw : Has w (L ++ F)) (hM : MapR enc b l L) (hk : P.underlying kt = some (.int .i64)) (ht : P.underlying t = some (.map kt et)) {z : Value} (hz : (zeroValue et).run P w = .ok z w)
    (h : wpList P ops Q rest (a.put o.dst (if c then .tuple #[((mget l n).map enc).getD z, .bool (mget l n).isSome] else ((mget l n).map enc).getD z)) w) : wpList P ops Q (o :: rest) a w :=
  wpList_plain hg fun _ hK => owp_lookup_map m x c hop hm hx hw hM hk ht hz (hK _ _ h)
theorem wpList_update_map (hg : o.guard = none) (m x v : Operand) (hop : o.op = .mapUpdate t m x v) {n : Int} {u : α} (hm : a.eval m = .map (some b)) (hx : a.eval x = .int .i64 n) (hv : a.eval v = enc u)
    (hw : Has w (L ++ F)) (hM : MapR enc b l L) (hk : P.underlying kt = some (.int .i64)) (ht : P.underlying t = some (.map kt et))
    (h : ∀ w' L', MapR enc b (mput l n u) L' → Has w' (L' ++ F) → Kin w w' → w'.heap.size = w.heap.size → wpList P ops Q rest (a.put o.dst undef) w') : wpList P ops Q (o :: rest) a w :=
  wpList_plain hg fun _ hK => owp_update_map m x v hop hm hx hv hw hM hk ht fun w' L' h1 h2 h3 h4 => hK _ _ (h w' L' h1 h2 h3 h4)
theorem wpList_delete_map (hg : o.guard = none) (m x : Operand) (hop : o.op = .call { callee := .builtin .delete, args := #[m, x], argTypes := #[t, kt] }) {n : Int} (hm : a.eval m = .map (some b)) (hx : a.eval x = .int .i64 n)
    (hw : Has w (L ++ F)) (hM : MapR enc b l L) (hk : P.underlying kt = some (.int .i64)) (ht : P.underlying t = some (.map kt et))
    (h : ∀ w' L', MapR enc b (mdel l n) L' → Has w' (L' ++ F) → Kin w w' → w'.heap.size = w.heap.size → wpList P ops Q rest (a.put o.dst (.tuple #[])) w') : wpList P ops Q (o :: rest) a w :=
  wpList_plain hg fun _ hK => owp_delete_map m x hop hm hx hw hM hk ht fun w' L' h1 h2 h3 h4 => hK _ _ (h w' L' h1 h2 h3 h4)
end lists

/-- 'for k, v := range m' under way: what is still to come. -/
def MapIt (enc : α → Value) (b r : Nat) (l post : List (Int × α)) (L : HL) : Prop :=
  ∃ es clock since seen c0, L = [(b, .map es clock), (r, .mapIter (some b) since seen c0)] ∧ MapE enc es clock l ∧ (∀ x ∈ es.toList, x.born < since) ∧ since ≤ c0 ∧ since ≤ clock ∧ ((leftOf es seen).toList.map ekv).Perm (post.map (pkv enc))

theorem MapIt.left {r : Nat} {post : List (Int × α)} (h : MapIt enc b r l post L) (hw : Has w (L ++ F)) : w.rangeLeft b r = post.length := by
  obtain ⟨es, clock, since, seen, c0, rfl, _, _, _, _, hp⟩ := h
  have h1 : w.heap[b]? = some (.map es clock) := hw.get (by simp)
  have h2 : w.heap[r]? = some (.mapIter (some b) since seen c0) := hw.get (by simp)
  simp only [World.rangeLeft, h1, h2]
  have := hp.length_eq
  simpa using this
theorem MapIt.map {r : Nat} {post : List (Int × α)} (h : MapIt enc b r l post L) : ∃ x L', MapR enc b l L' ∧ ∀ y, cnt y L = cnt1 y x + cnt y L' := by
  obtain ⟨es, clock, since, seen, c0, rfl, hE, _⟩ := h
  exact ⟨(r, .mapIter (some b) since seen c0), [(b, .map es clock)], ⟨es, clock, rfl, hE⟩, fun y => by simp only [cnt_cons, cnt_nil]; omega⟩

theorem run_range_map' (hw : Has w (L ++ F)) (hM : MapR enc b l L) (ht : P.underlying t = some (.map kt et)) :
    ∃ o L', (Instr.range t (.map (some b))).run P w = .ok (.pointer (some ⟨w.heap.size, 0, none⟩)) (w.alloc o) ∧ MapIt enc b w.heap.size l l L' ∧ Has (w.alloc o) (L' ++ F) := by
  obtain ⟨es, clock, rfl, hE⟩ := hM
  have hb : w.heap[b]? = some (.map es clock) := hw.get (by simp)
  refine ⟨_, _, run_range_map w t kt et b es clock ht hb, ⟨es, clock, clock, #[], clock, rfl, hE, hE.st.1, Nat.le_refl _, Nat.le_refl _, ?_⟩, (hw.alloc _).re (by intro x; simp only [cnt_append, cnt_cons, cnt_nil, List.tail_cons, World.size_alloc, World.size_setCell, World.size_drew, List.setIfInBounds_toArray, List.set_cons_zero, List.set_cons_succ] <;> omega)⟩
  have : (leftOf es #[]).toList = es.toList := by simp [leftOf]
  rw [this, hE.kv]

theorem map_perm_cons {β γ : Type} {f : β → γ} : ∀ {B : List β} {y : γ} {R : List γ}, (y :: R).Perm (B.map f) → ∃ x B', y = f x ∧ B.Perm (x :: B') ∧ R.Perm (B'.map f) := by
  classical
  intro B y R h
  obtain ⟨x, hx, e⟩ := List.mem_map.1 (h.subset (List.mem_cons_self ..))
  refine ⟨x, B.erase x, e.symm, List.perm_cons_erase hx, ?_⟩
  have h1 := (List.perm_cons_erase hx).map f
  rw [List.map_cons, e] at h1
  exact (h.trans h1).cons_inv

theorem run_next_map {r : Nat} {post : List (Int × α)} (hw : Has w (L ++ F)) (h : MapIt enc b r l post L) (ty : TypeId) :
    (post = [] ∧ (Instr.next (.pointer (some ⟨r, 0, none⟩)) false ty).run P w = .ok (.tuple #[.bool false]) w) ∨
    ∃ k v post' w' L', post.Perm ((k, v) :: post') ∧ (Instr.next (.pointer (some ⟨r, 0, none⟩)) false ty).run P w = .ok (.tuple #[.bool true, .int .i64 k, enc v]) w' ∧ MapIt enc b r l post' L' ∧ Has w' (L' ++ F) ∧ Kin w w' ∧ w'.heap.size = w.heap.size ∧
      (Instr.entry (.pointer (some ⟨r, 0, none⟩))).run P w' = .ok (.tuple #[.int .i64 k, enc v]) w' := by
  obtain ⟨es, clock, since, seen, c0, rfl, hE, hold, hsc, hsk, hp⟩ := h
  have hb : w.heap[b]? = some (.map es clock) := hw.get (by simp)
  have hr : w.heap[r]? = some (.mapIter (some b) since seen c0) := hw.get (by simp)
  rcases run_next_at (P := P) w ty r b since c0 seen es clock hr hb hold hsc with ⟨h0, hrun⟩ | ⟨e, he, w1, hal, hrun⟩
  · refine .inl ⟨?_, hrun⟩
    have := hp.length_eq
    simp only [List.length_map, Array.length_toList, h0] at this
    exact List.eq_nil_of_length_eq_zero this.symm
  · obtain ⟨hem, hes⟩ := mem_left he
    have hkv : ekv e ∈ l.map (pkv enc) := by rw [← hE.kv]; exact List.mem_map.2 ⟨e, hem, rfl⟩
    -- what is left is what was left without e
    have hleft : ((leftOf es seen).toList).Perm (e :: (leftOf es (seen.push e.born)).toList) := by
      classical
      have hnd : ((leftOf es seen).toList).Nodup := by
        have : es.toList.Nodup := (List.pairwise_map.1 hE.st.2.1).imp fun h e => h (by rw [e])
        rw [leftOf, Array.toList_filter]
        exact List.Nodup.sublist List.filter_sublist this
      refine (List.perm_cons_erase he).trans (List.Perm.cons _ ?_)
      rw [hnd.erase_eq_filter]
      rw [leftOf, leftOf, Array.toList_filter, Array.toList_filter, List.filter_filter]
      refine List.Perm.of_eq (List.filter_congr fun x hx => ?_)
      rw [contains_push]
      by_cases hxe : x = e
      · subst hxe; simp
      · have : (x.born == e.born) = false := by
          simp only [beq_eq_false_iff_ne, ne_eq]
          intro hb2
          have h1 := find_born x es.toList hE.st.2.1 hx
          have h2 := find_born e es.toList hE.st.2.1 hem
          rw [hb2, h2] at h1
          exact hxe (Option.some.inj h1).symm
        simp [this, hxe, Bool.and_comm]
    have hp2 := hleft.symm.map ekv |>.trans hp
    rw [List.map_cons] at hp2
    obtain ⟨⟨k, v⟩, post', hx, hpp, hrest⟩ := map_perm_cons hp2
    have hk : e.key = .int .i64 k := congrArg Prod.fst hx
    have hv : e.val = enc v := congrArg Prod.snd hx
    have hne : b ≠ r := by intro h; subst h; rw [hb] at hr; cases hr
    have hw1 : Has w1 ([(b, .map es clock), (r, .mapIter (some b) since seen c0)] ++ F) := by rcases hal with rfl | rfl <;> exact hw
    have hk1 : Kin w w1 := by rcases hal with rfl | rfl <;> exact ⟨rfl, rfl, rfl⟩
    have hs1 : w1.heap.size = w.heap.size := by rcases hal with rfl | rfl <;> rfl
    have hr1 : w1.heap[r]? = some (.mapIter (some b) since seen c0) := hw1.get (by simp)
    have hset := MapKept.heap_set (o' := .mapIter (some b) since (seen.push e.born) clock) hr1
    have hb1 : (ChangeMaps.setBlock w1 r (.mapIter (some b) since (seen.push e.born) clock)).heap[b]? = some (.map es clock) := (hset.2 b hne).trans (hw1.get (by simp))
    refine .inr ⟨k, v, post', _, [(b, .map es clock), (r, .mapIter (some b) since (seen.push e.born) clock)], hpp, (by rw [hrun, hk, hv]), ⟨es, clock, since, seen.push e.born, clock, rfl, hE, hold, hsk, hsk, hrest⟩, ?_, ?_, ?_, ?_⟩
    · have h2 : Has w1 ((r, .mapIter (some b) since seen c0) :: (b, .map es clock) :: F) := hw1.swap
      exact ((h2.set (w' := ChangeMaps.setBlock w1 r (.mapIter (some b) since (seen.push e.born) clock)) rfl).swap)
    · exact ⟨hk1.os, hk1.tape, hk1.output⟩
    · simp [ChangeMaps.setBlock, hs1]
    · rw [run_entry_at _ r b since seen es clock e hset.1 hb1 hem hE.st.2.1, hk, hv]

theorem wpList_range_map {o : Oper} {a : Act} {ops : Array Oper} {rest : List Oper} {Q : Exit → Act → World → Prop} (hg : o.guard = none) (m : Operand) (hop : o.op = .range t m) (hm : a.eval m = .map (some b))
    (hw : Has w (L ++ F)) (hM : MapR enc b l L) (ht : P.underlying t = some (.map kt et))
    (h : ∀ o' L', MapIt enc b w.heap.size l l L' → Has (w.alloc o') (L' ++ F) → wpList P ops Q rest (a.put o.dst (.pointer (some ⟨w.heap.size, 0, none⟩))) (w.alloc o')) : wpList P ops Q (o :: rest) a w := by
  obtain ⟨o', L', hr, h1, h2⟩ := run_range_map' hw hM ht
  refine wpList_plain hg fun _ hK => ?_
  unfold Oper.wp
  simp [execOp, hop, hm, hr, Result.andThen]
  exact hK _ _ (h o' L' h1 h2)
theorem wpList_next_map {o : Oper} {a : Act} {ops : Array Oper} {rest : List Oper} {Q : Exit → Act → World → Prop} (hg : o.guard = none) (it : Operand) (hop : o.op = .next it false) {r : Nat} {post : List (Int × α)} (hit : a.eval it = .pointer (some ⟨r, 0, none⟩))
    (hw : Has w (L ++ F)) (hI : MapIt enc b r l post L)
    (hDone : post = [] → wpList P ops Q rest (a.put o.dst (.tuple #[.bool false])) w)
    (hMore : ∀ k v post' w' L', post.Perm ((k, v) :: post') → MapIt enc b r l post' L' → Has w' (L' ++ F) → Kin w w' → w'.heap.size = w.heap.size → (Instr.entry (.pointer (some ⟨r, 0, none⟩))).run P w' = .ok (.tuple #[.int .i64 k, enc v]) w' →
      wpList P ops Q rest (a.put o.dst (.tuple #[.bool true, .int .i64 k, enc v])) w') : wpList P ops Q (o :: rest) a w := by
  refine wpList_plain hg fun _ hK => ?_
  unfold Oper.wp
  rcases run_next_map (P := P) hw hI o.type with ⟨h0, hr⟩ | ⟨k, v, post', w', L', hp, hr, h1, h2, h3, h4, h5⟩
  · simp [execOp, hop, hit, hr, Result.andThen]
    exact hK _ _ (hDone h0)
  · simp [execOp, hop, hit, hr, Result.andThen]
    exact hK _ _ (hMore k v post' w' L' hp h1 h2 h3 h4 h5)
end

end Go.Proofs.YtcfaimmcedpgiaaGreatDoor
