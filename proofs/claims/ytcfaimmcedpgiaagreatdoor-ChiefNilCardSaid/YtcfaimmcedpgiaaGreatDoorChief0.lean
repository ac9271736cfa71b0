/-
  chief: the state as plain Lean, and how it lies in memory. A lemma file: no statement of the seat is proved here.
-/
import Derived.Test.YtcfaimmcedpgiaaGreatDoorJournal
import Derived.Test.YtcfaimmcedpgiaaGreatDoorSaga6
namespace Go.Proofs.YtcfaimmcedpgiaaGreatDoor
set_option linter.unusedVariables false
set_option linter.unusedSimpArgs false
open Go.RowKit

structure Led where
  o : Order
  f : Facts
  t : Option TallyM
def Led.cells (x : Led) (sl dv uv tp : Value) : Array Value :=
  #[(Value.int .i64 x.o.id), (Value.int .i64 x.o.item), (Value.int .i64 x.o.qty), (Value.int .i64 x.o.client), (Value.int .i64 x.o.price), sl, dv, uv, .bool x.f.asked, .bool x.f.yes, .bool x.f.turned, .bool x.f.ack0, .bool x.f.ack1, .bool x.f.shipped, .bool x.f.dmg0, .bool x.f.dmg1, .bool x.f.accepted, tp]
def TallyP (tp : Value) (t : Option TallyM) (L : HL) : Prop :=
  (t = none ∧ tp = .pointer none ∧ L = []) ∨ ∃ b x, tp = .pointer (some ⟨b, 0, none⟩) ∧ t = some x ∧ TallyR b x L
/-- No list of an order has more than n elements. -/
def Led.small (x : Led) (n : Nat) : Prop := x.o.steps.length ≤ n ∧ x.f.done.length ≤ n ∧ x.f.undone.length ≤ n
def LedR (p : Nat) (x : Led) (L : HL) : Prop :=
  ∃ sl dv uv tp Ls Ld Lu Lt, L = (p, .cells (x.cells sl dv uv tp) 78) :: (Ls ++ Ld ++ Lu ++ Lt) ∧ SlR Step.enc 2 42 sl x.o.steps Ls ∧ SlR bEnc 1 4 dv x.f.done Ld ∧ SlR bEnc 1 4 uv x.f.undone Lu ∧ TallyP tp x.t Lt

def LedsR : List (Int × Nat) → List (Int × Led) → HL → Prop
  | [], [], L => L = []
  | (k, p) :: ps, (k', x) :: l, L => k = k' ∧ ∃ L1 L2, L = L1 ++ L2 ∧ LedR p x L1 ∧ LedsR ps l L2
  | _, _, _ => False

theorem LedsR.none : ∀ {ps : List (Int × Nat)} {l : List (Int × Led)} {L : HL}, LedsR ps l L → ∀ id, mget ps id = none ↔ mget l id = none
  | [], [], _, _, id => by simp [mget_nil]
  | [], _ :: _, _, h, _ => by cases h
  | _ :: _, [], _, h, _ => by cases h
  | (k, p) :: ps, (k', x) :: l, L, h, id => by
    obtain ⟨rfl, L1, L2, rfl, _, h2⟩ := h
    rw [mget_cons, mget_cons]
    split
    · simp
    · exact LedsR.none h2 id
/-- The led of an id, taken out of the rest, and put back. -/
theorem LedsR.get : ∀ {ps : List (Int × Nat)} {l : List (Int × Led)} {L : HL}, LedsR ps l L → ∀ {id : Int} {x : Led}, mget l id = some x →
    ∃ p L1 L2, mget ps id = some p ∧ LedR p x L1 ∧ (∀ y, cnt y L = cnt y L1 + cnt y L2) ∧ ∀ x' L1', LedR p x' L1' → ∃ L', LedsR ps (mput l id x') L' ∧ ∀ y, cnt y L' = cnt y L1' + cnt y L2
  | [], [], _, _, _, _, hg => by cases hg
  | [], _ :: _, _, h, _, _, _ => by cases h
  | _ :: _, [], _, h, _, _, _ => by cases h
  | (k, p) :: ps, (k', x0) :: l, L, h, id, x, hg => by
    obtain ⟨rfl, L1, L2, rfl, h1, h2⟩ := h
    rw [mget_cons] at hg
    by_cases hk : k = id
    · subst hk
      rw [if_pos rfl] at hg
      cases hg
      refine ⟨p, L1, L2, by rw [mget_cons, if_pos rfl], h1, fun y => by rw [cnt_append], fun x' L1' h' => ⟨L1' ++ L2, ?_, fun y => by rw [cnt_append]⟩⟩
      rw [mput_cons, if_pos rfl]
      exact ⟨rfl, _, _, rfl, h', h2⟩
    · rw [if_neg hk] at hg
      obtain ⟨q, M1, M2, e1, e2, e3, e4⟩ := LedsR.get h2 hg
      refine ⟨q, M1, L1 ++ M2, by rw [mget_cons, if_neg hk]; exact e1, e2, fun y => by simp only [cnt_append, e3]; omega, fun x' L1' h' => ?_⟩
      obtain ⟨L', f1, f2⟩ := e4 x' L1' h'
      refine ⟨L1 ++ L', ?_, fun y => by simp only [cnt_append, f2]; omega⟩
      rw [mput_cons, if_neg hk]
      exact ⟨rfl, _, _, rfl, h1, f1⟩
/-- A new led in a block of its own: where there was one, that is forgotten. -/
theorem LedsR.put : ∀ {ps : List (Int × Nat)} {l : List (Int × Led)} {L : HL}, LedsR ps l L → ∀ (id : Int) {p : Nat} {x : Led} {Lx : HL}, LedR p x Lx →
    ∃ L', LedsR (mput ps id p) (mput l id x) L' ∧ ∀ y, cnt y L' ≤ cnt y L + cnt y Lx
  | [], [], _, h, id, p, x, Lx, hx => ⟨Lx, ⟨rfl, Lx, [], by simp, hx, rfl⟩, fun y => by omega⟩
  | [], _ :: _, _, h, _, _, _, _, _ => by cases h
  | _ :: _, [], _, h, _, _, _, _, _ => by cases h
  | (k, q) :: ps, (k', x0) :: l, L, h, id, p, x, Lx, hx => by
    obtain ⟨rfl, L1, L2, rfl, h1, h2⟩ := h
    rw [mput_cons, mput_cons]
    by_cases hk : k = id
    · subst hk
      rw [if_pos rfl, if_pos rfl]
      exact ⟨Lx ++ L2, ⟨rfl, _, _, rfl, hx, h2⟩, fun y => by simp only [cnt_append]; omega⟩
    · rw [if_neg hk, if_neg hk]
      obtain ⟨L', f1, f2⟩ := LedsR.put h2 id hx
      exact ⟨L1 ++ L', ⟨rfl, _, _, rfl, h1, f1⟩, fun y => by have := f2 y; simp only [cnt_append]; omega⟩

structure Chief where
  most : Int
  room : Int
  tries : Int
  j : JournalM
  used : Nat
  l : List (Int × Led)
  bells : Tower
def pV (p : Nat) : Value := .pointer (some ⟨p, 0, none⟩)
def Chief.ok (c : Chief) : Prop := 1 ≤ c.most ∧ c.most ≤ 64 ∧ 1 ≤ c.room ∧ c.room ≤ 4096 ∧ Keys1 c.l ∧ ∀ p ∈ c.l, p.2.small c.used
def ChiefR (b : Nat) (c : Chief) (L : HL) : Prop :=
  c.ok ∧ ∃ jb mb tb ps Lj Lm Ll Lt, L = (b, .cells #[(Value.int .i64 c.most), (Value.int .i64 c.room), (Value.int .i64 c.tries), pV jb, (Value.int .i64 c.used), .map (some mb), pV tb] 74) :: (Lj ++ Lm ++ Ll ++ Lt) ∧ JournalR jb c.j Lj ∧ MapR pV mb ps Lm ∧ LedsR ps c.l Ll ∧ TowerR tb c.bells Lt

/-- an entry's effect -/
def bBegin : ByteArray := ⟨#[98, 101, 103, 105, 110]⟩
def bStep : ByteArray := ⟨#[115, 116, 101, 112]⟩

end Go.Proofs.YtcfaimmcedpgiaaGreatDoor
