/-
  A range over a function, told by lists of blocks: the iterator's contract ('IterH'), the rule for the statement, the function's end. No condition. A lemma file: no statement of the seat is proved here.
-/
import Derived.Test.YtcfaimmcedpgiaaGreatDoorSlices
import Derived.RangeFuncNested
import Derived.RangeFuncCalls
import Derived.RangeFuncLeaves
import Derived.Scope
namespace Go.Proofs.YtcfaimmcedpgiaaGreatDoor
set_option linter.unusedVariables false
set_option linter.unusedSimpArgs false
open Go.RowKit

section
variable {F : Fence} {n : Nat} {P : Program} {Q : Exit → Act → World → Prop} {a : Act} {w : World}
theorem stepR_scope {b : Frame} {k : List Item} {cs : List Frame} {c : Code} : step P (lone (b.atR a (.code (.scope c) :: k)) cs w) = .next (lone (b.atR a (.code c :: .inScope c :: k)) cs w) :=
  step_lone_go (by simp [stepG, stepG.exec, Frame.atR])
theorem stepR_inScope {b : Frame} {k : List Item} {cs : List Frame} {c : Code} : step P (lone (b.atR a (.inScope c :: k)) cs w) = .next (lone (b.atR a k) cs w) :=
  step_lone_go (by simp [stepG, stepG.exec, Frame.atR])
/-- A scope with labels that no goto looks for: its body. -/
theorem wpIn_scope {c : Code} (h : c.wpIn F n P (Exit.noGoto Q) a w) : (Code.scope c).wpIn F n P Q a w := by
  intro b k cs hro hb hr
  have h0 : (lone (b.atR a (.code (.scope c) :: k)) cs w).fenced P F := fenced_calm hb hr rfl
  obtain ⟨e, a₁, w₁, hq, harr⟩ := h b (.inScope c :: k) cs hro hb hr
  cases e with
  | normal => exact ⟨.normal, a₁, w₁, hq, .head h0 stepR_scope (StepsIn.trans harr (.one (fenced_calm hb hr rfl) stepR_inScope))⟩
  | exit id =>
    have hx : exitTo id (.inScope c :: k) = exitTo id k := by simp [exitTo]
    exact ⟨_, a₁, w₁, hq, fun k' hk => .head h0 stepR_scope (harr.1 k' (by rw [hx]; exact hk)),
      fun hr' hk => let ⟨k₁, h1, h2⟩ := harr.2 hr' (by rw [hx]; exact hk); ⟨k₁, h1, .head h0 stepR_scope h2⟩⟩
  | goto l => exact hq.elim
  | ret => exact ⟨_, a₁, w₁, hq, .of_steps (.one h0 stepR_scope) harr⟩
  | panic ch => exact ⟨_, a₁, w₁, hq, .of_steps (.one h0 stepR_scope) harr⟩
  | outgrown => exact ⟨_, a₁, w₁, hq, .of_steps (.one h0 stepR_scope) harr⟩
end
/-- An iterator over the list xs: Pv: its own blocks when so many have come; Sh: what it reads of the rest. -/
def IterH {α : Type} (P : Program) (gf : Nat) (lb : Array Value) (encs : α → Array Value) (xs : List α) (Pv : List α → HL) (Sh : HL → Prop) : Prop :=
  ∀ (n l : Nat) (K Kx : List α → HL → Prop), (∀ pre R, K pre R → Sh R) →
    (∀ pre x post W R, xs = pre ++ x :: post → K pre R → Has W (Pv pre ++ R) → YieldAt Fence.wide n P l (encs x) W fun e W' => Kin W W' ∧
      ((e = .returned (.bool true) ∧ ∃ R', K (pre ++ [x]) R' ∧ Has W' (Pv pre ++ R')) ∨ (e = .returned (.bool false) ∧ ∃ R', Kx (pre ++ [x]) R' ∧ Has W' (Pv pre ++ R')))) →
    ∀ W R, K [] R → Has W (Pv [] ++ R) →
      CallsIn Fence.wide n P gf (#[.func (.yield l) #[] #[]] ++ lb) W fun e W' => (∃ v, e = .returned v) ∧ Kin W W' ∧
        ((∃ R', K xs R' ∧ Has W' R') ∨ (∃ pre post R', xs = pre ++ post ∧ Kx pre R' ∧ Has W' R'))

theorem roundIn_wide {n m : Nat} {P : Program} {l : Nat} {f : FuncId} {tmps : Array Value} {assign body : Code} {w : World} {R : Ending → World → Prop} (h : RoundIn Fence.wide n P l f tmps assign body w R) :
    RoundIn Fence.wide m P l f tmps assign body w R := ⟨h.1, fun c cs _ => h.2 c cs (room_wide _)⟩
theorem deep_wide {n : Nat} : Fence.wide.depth.isSome = true → 1 ≤ n := fun h => by simp [Fence.wide] at h
/-- How a round's body may be left. -/
def hPost {α : Type} (I : List α → HL → Prop) (Ix : Code → List α → HL → Prop) (xs : List α) (W : World) (B : HL) : Exit → Act → World → Prop
  | .normal, _, W' => Kin W W' ∧ ∃ L, I xs L ∧ Has W' (B ++ L)
  | .ret, _, W' => Kin W W' ∧ ∃ L, Ix .ret xs L ∧ Has W' (B ++ L)
  | .exit id, _, W' => Kin W W' ∧ ∃ L, Ix (.exit id) xs L ∧ Has W' (B ++ L)
  | .goto t, _, W' => Kin W W' ∧ ∃ L, Ix (.goto t) xs L ∧ Has W' (B ++ L)
  | .panic _, _, _ => False
  | .outgrown, _, _ => False

theorem Has.putObj {w : World} {b : Nat} {o : Obj} {L : HL} (h : Has w ((b, o) :: L)) (o' : Obj) : Has (w.putObj b o') ((b, o') :: L) := h.set rfl
theorem Kin.putObj {a w : World} (h : Kin a w) (r : Nat) (o : Obj) : Kin a (w.putObj r o) := ⟨h.os, h.tape, h.output⟩

theorem wpIn_range_has {α : Type} {P : Program} {n : Nat} {g : Operand} {ps : Array Tmp} {assign body : Code} {Q : Exit → Act → World → Prop} {a : Act} {w : World}
    {gf : Nat} {lb : Array Value} {encs : α → Array Value} {xs : List α} {Pv : List α → HL} {Sh : HL → Prop}
    (hg : a.eval g = .func (.func gf) #[] lb) (eg : ∀ args w, (callFunc gf args).run P w = .ok (.enter gf args) w)
    (it : IterH P gf lb encs xs Pv Sh) (hps : ∀ x, (encs x).size = ps.size)
    (I : List α → HL → Prop) (Ix : Code → List α → HL → Prop) (hSh : ∀ pre L M, I pre L → Sh (M ++ L)) (L0 : HL) (h0 : I [] L0) (hw : Has w (Pv [] ++ L0))
    (hround : ∀ l pre x post W B L, xs = pre ++ x :: post → I pre L → Has W (B ++ L) →
      assign.wpIn (Fence.wide.inRound l) n P (Exit.then (fun a₁ W₁ => ∃ L1, Has W₁ (B ++ L1) ∧ Kin W W₁ ∧
        ∀ W₂ B2, Has W₂ (B2 ++ L1) → Kin W W₂ → body.wpIn (Fence.wide.inRound l) n P (hPost I Ix (pre ++ [x]) W B2) a₁ W₂) (fun _ _ _ => False))
        { tmps := (ps.zip (encs x)).foldl (fun t (p, v) => t.setIfInBounds p v) a.tmps, defers := [] } W)
    (hdone : ∀ D W L, I xs L → Kin w W → Has W ((D, .deferred (some [])) :: L) → Q .normal { a with defers := { target := .collected D, args := #[] } :: a.defers } W)
    (hstop : ∀ D c pre post W L, xs = pre ++ post → Ix c pre L → Kin w W → Has W ((D, .deferred (some [])) :: L) → c.wpIn Fence.wide n P Q { a with defers := { target := .collected D, args := #[] } :: a.defers } W) :
    (Code.rangeFunc g ps assign body).wpIn Fence.wide n P Q a w := by
  refine wpIn_rangeFunc ?_
  intro fn hfn
  obtain ⟨rec, hrec⟩ : ∃ rec : LoopState → Option Code → Loop, rec = fun st pe => { state := st, pending := pe, fn, tmps := a.tmps, params := ps, assign, body, defers := w.heap.size } := ⟨_, rfl⟩
  have hH : Has ((w.alloc (.deferred (some []))).alloc (.loop (rec .ready none))) ((w.heap.size + 1, .loop (rec .ready none)) :: (w.heap.size, .deferred (some [])) :: (Pv [] ++ L0)) := by
    have := (hw.alloc (.deferred (some []))).alloc (.loop (rec .ready none)); rwa [World.size_alloc] at this
  obtain ⟨W1, hW1⟩ : ∃ W1, (w.alloc (.deferred (some []))).alloc (.loop (rec .ready none)) = W1 := ⟨_, rfl⟩
  have hk1 : Kin w W1 := by rw [← hW1]; exact ((Kin.refl w).alloc _).alloc _
  rw [hW1] at hH
  obtain ⟨l, hl⟩ : ∃ l, l = w.heap.size + 1 := ⟨_, rfl⟩
  obtain ⟨D, hD⟩ : ∃ D, D = w.heap.size := ⟨_, rfl⟩
  rw [← hl, ← hD] at hH
  refine ⟨l, [{ target := .collected D, args := #[] }], W1, { target := .fn (.func gf) lb, args := #[.func (.yield l) #[] #[]] }, W1, gf,
    #[.func (.yield l) #[] #[]] ++ lb, W1, ?_, ?_, ?_, ?_, fun _ => by simp_all [Fence.wide], ?_⟩
  · rw [← hW1, hrec, hl, hD]; exact run_enterLoop_outer _ _ _ _ _
  · simp only [resolve, hg]
    simp [go_sem]
  · intro f' hf'; simp [Target.leads] at hf'; subst hf'; trivial
  · simp [invoke, go_sem, eg]
  · have key := it n l
      (fun pre R => ∃ L, I pre L ∧ R = (l, .loop (rec .ready none)) :: (D, .deferred (some [])) :: L)
      (fun pre R => ∃ c L, Ix c pre L ∧ R = (l, .loop (rec .done (some c))) :: (D, .deferred (some [])) :: L)
      (by rintro pre R ⟨L, hi, rfl⟩; exact hSh pre L [(l, _), (D, _)] hi)
      ?_ W1 _ ⟨L0, h0, rfl⟩ (hH.re (by intro x; simp only [cnt_append, cnt_cons, cnt_nil, List.tail_cons, World.size_alloc, World.size_setCell, World.size_drew, List.setIfInBounds_toArray, List.set_cons_zero, List.set_cons_succ] <;> omega))
    · have key' : CallsIn Fence.wide (n - 1) P gf (#[.func (.yield l) #[] #[]] ++ lb) W1 _ := callsIn_wide.2 (callsIn_wide.1 key)
      refine key'.mono ?_
      rintro e W2 ⟨⟨v, rfl⟩, hk2, (⟨R', ⟨L, hi, rfl⟩, hh⟩ | ⟨pre, post, R', hx, ⟨c, L, hi, rfl⟩, hh⟩)⟩
      · have hl2 := hh.head
        have hr := run_endLoop (P := P) hl2 (by rw [hrec]; simp)
        refine ⟨none, _, by rw [show (rec .ready none).pending = none by rw [hrec]] at hr; exact hr, ?_⟩
        exact hdone D _ L hi ((hk1.trans hk2).putObj _ _) (hh.putObj _).tail
      · have hl2 := hh.head
        have hr := run_endLoop (P := P) hl2 (by rw [hrec]; simp)
        refine ⟨some c, _, by rw [show (rec .done (some c)).pending = some c by rw [hrec]] at hr; exact hr, ?_⟩
        exact hstop D c pre post _ L hx hi ((hk1.trans hk2).putObj _ _) (hh.putObj _).tail
    · rintro pre x post W R hx ⟨L, hi, rfl⟩ hh
      have hlW : W.heap[l]? = some (.loop (rec .ready none)) := hh.get (by simp)
      have hy := run_yield (P := P) (args := encs x) hlW (by rw [hrec]; exact hps x)
      rw [hrec] at hy
      have hB : Has W (((l, .loop (rec .ready none)) :: (D, .deferred (some [])) :: Pv pre) ++ L) := hh.re (by intro x; simp only [cnt_append, cnt_cons, cnt_nil, List.tail_cons, World.size_alloc, World.size_setCell, World.size_drew, List.setIfInBounds_toArray, List.set_cons_zero, List.set_cons_succ] <;> omega)
      refine ⟨fn, _, assign, body, hy, roundIn_of_wpIn hfn (wpIn_mono (hround l pre x post W _ L hx hi hB) ?_)⟩
      rintro e a₁ W₁ hp
      cases e with
      | normal =>
        obtain ⟨L1, hh1, hk1', hbody⟩ := hp
        have hl1 : W₁.heap[l]? = some (.loop (rec .ready none)) := hh1.get (by simp)
        refine ⟨_, run_beginRound hl1 (by rw [hrec]), ?_⟩
        refine wpIn_mono (hbody _ ((l, .loop { rec .ready none with state := .busy }) :: (D, .deferred (some [])) :: Pv pre) (by have := hh1.putObj (.loop { rec .ready none with state := .busy }); exact this) (hk1'.putObj _ _)) ?_
        have fin : ∀ (jump : Option Code) (W3 : World) (L3 : HL), Has W3 (((l, .loop { rec .ready none with state := .busy }) :: (D, .deferred (some [])) :: Pv pre) ++ L3) →
            (Instr.endRound l jump).run P W3 = .ok (.bool jump.isNone) (W3.putObj l (.loop (rec (if jump.isNone then .ready else .done) jump))) ∧
            Has (W3.putObj l (.loop (rec (if jump.isNone then .ready else .done) jump))) (Pv pre ++ ((l, .loop (rec (if jump.isNone then .ready else .done) jump)) :: (D, .deferred (some [])) :: L3)) := fun jump W3 L3 h3 => by
          have hl3 : W3.heap[l]? = some (.loop { rec .ready none with state := .busy }) := h3.get (by simp)
          have := run_endRound (P := P) jump hl3
          refine ⟨by rw [hrec] at this ⊢; exact this, ?_⟩
          have h3' : Has W3 ((l, .loop { rec .ready none with state := .busy }) :: ((D, .deferred (some [])) :: (Pv pre ++ L3))) := h3.re (by intro x; simp only [cnt_append, cnt_cons, cnt_nil, List.tail_cons, World.size_alloc, World.size_setCell, World.size_drew, List.setIfInBounds_toArray, List.set_cons_zero, List.set_cons_succ] <;> omega)
          have := h3'.putObj (.loop (rec (if jump.isNone then .ready else .done) jump))
          exact this.re (by intro x; simp only [cnt_append, cnt_cons, cnt_nil, List.tail_cons, World.size_alloc, World.size_setCell, World.size_drew, List.setIfInBounds_toArray, List.set_cons_zero, List.set_cons_succ] <;> omega)
        rintro e a3 W3 hp
        cases e with
        | normal =>
          obtain ⟨hk3, L3, hi3, h3⟩ := hp
          obtain ⟨hr, h4⟩ := fin none W3 L3 h3
          exact ⟨_, _, hr, hk3.putObj _ _, .inl ⟨rfl, _, ⟨L3, hi3, rfl⟩, h4⟩⟩
        | ret =>
          obtain ⟨hk3, L3, hi3, h3⟩ := hp
          obtain ⟨hr, h4⟩ := fin (some .ret) W3 L3 h3
          exact ⟨_, _, hr, hk3.putObj _ _, .inr ⟨rfl, _, ⟨.ret, L3, hi3, rfl⟩, h4⟩⟩
        | exit id =>
          obtain ⟨hk3, L3, hi3, h3⟩ := hp
          obtain ⟨hr, h4⟩ := fin (some (.exit id)) W3 L3 h3
          exact ⟨_, _, hr, hk3.putObj _ _, .inr ⟨rfl, _, ⟨.exit id, L3, hi3, rfl⟩, h4⟩⟩
        | goto t =>
          obtain ⟨hk3, L3, hi3, h3⟩ := hp
          obtain ⟨hr, h4⟩ := fin (some (.goto t)) W3 L3 h3
          exact ⟨_, _, hr, hk3.putObj _ _, .inr ⟨rfl, _, ⟨.goto t, L3, hi3, rfl⟩, h4⟩⟩
        | panic ch => exact hp.elim
        | outgrown => exact hp.elim
      | ret => exact hp.elim
      | exit id => exact hp.elim
      | goto t => exact hp.elim
      | panic ch => exact hp.elim
      | outgrown => exact hp.elim
end Go.Proofs.YtcfaimmcedpgiaaGreatDoor
