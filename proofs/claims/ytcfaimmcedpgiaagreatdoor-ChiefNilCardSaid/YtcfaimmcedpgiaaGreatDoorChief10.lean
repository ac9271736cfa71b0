/-
  chief: Begin: the contract. A lemma file: no statement of the seat is proved here.
-/
import Derived.Test.YtcfaimmcedpgiaaGreatDoorChief8
import Derived.Test.YtcfaimmcedpgiaaGreatDoorChief9
namespace Go.Proofs.YtcfaimmcedpgiaaGreatDoor
set_option linter.unusedVariables false
set_option linter.unusedSimpArgs false
open Go.RowKit

def stepEntry (id : Int) (p : Step × Nat) : Entry := ⟨bStep, id, [(p.2 : Int), p.1.sv, p.1.n]⟩
def beginEntry (o : Order) : Entry := ⟨bBegin, o.id, [o.item, o.qty, o.client, o.price]⟩
def beginEntries (o : Order) : List Entry := beginEntry o :: o.steps.zipIdx.map (stepEntry o.id)
def freshLed (o : Order) : Led := { o := o, f := { noFacts with done := List.replicate o.steps.length false, undone := List.replicate o.steps.length false }, t := none }
def Chief.begun (c : Chief) (o : Order) : Chief := ((c.noted (beginEntries o)).synced.withB ((c.noted (beginEntries o)).bells.hang o.id))
def Chief.begin (c : Chief) (o : Order) : (List Msg × Int) × Chief :=
  if c.j.down then (([], 10), c) else if !o.may then (([], 1), c) else if (mget c.l o.id).isSome then (([], 8), c) else if c.most ≤ c.opens then (([], 5), c)
  else if c.fitsIn (beginEntries o).length then ((((c.begun o).goes (freshLed o)).1, 0), ((c.begun o).goes (freshLed o)).2) else (([], 5), c)

theorem Chief.takesAll_of {l : List Entry} (h : ∀ e ∈ l, ∀ c : Chief, c.takes e) : ∀ c : Chief, c.takesAll l := by
  induction l with
  | nil => exact fun _ => trivial
  | cons e l ih => exact fun c => ⟨h e (.head _) c, ih (fun e' he => h e' (.tail _ he)) _⟩
theorem takes_begins (o : Order) (c : Chief) : c.takesAll (beginEntries o) := by
  refine Chief.takesAll_of (fun e he c => ?_) c
  rcases List.mem_cons.1 he with rfl | he
  · exact fun _ _ h _ => absurd rfl h
  · obtain ⟨p, _, rfl⟩ := List.mem_map.1 he
    exact fun _ _ _ h => absurd ⟨rfl, rfl⟩ h
theorem beginEntries_len (o : Order) : (beginEntries o).length = o.steps.length + 1 := by simp [beginEntries]
theorem Order.may_len {o : Order} (h : o.may = true) : o.steps.length ≤ 3 := by
  unfold Order.may at h
  simp only [Bool.and_eq_true, decide_eq_true_eq] at h
  omega
theorem Chief.step_led (c : Chief) {id : Int} {p : Step × Nat} {x : Led} (hx : mget c.l id = some x) : mget (c.note1 (stepEntry id p)).l id = some (x.step p.1.sv p.1.n) := by
  have h1 : mget (c.withJ (c.j.add (stepEntry id p))).l id = some x := hx
  have h2 : mget (c.withJ (c.j.add (stepEntry id p))).l (stepEntry id p).id = some x := hx
  unfold Chief.note1 Chief.play
  have h3 : ¬ (stepEntry id p).kind = bBegin := show ¬ bStep = bBegin by decide
  rw [if_neg h3, h2]
  show mget (mput c.l id _) id = _
  rw [mget_mput, if_pos rfl]
  simp [Led.play, stepEntry]
theorem Chief.steps_led (id : Int) : ∀ (l : List (Step × Nat)) (c : Chief) (x : Led), mget c.l id = some x →
    mget (c.noted (l.map (stepEntry id))).l id = some { x with o := { x.o with steps := x.o.steps ++ l.map (·.1) }, f := { x.f with done := x.f.done ++ List.replicate l.length false, undone := x.f.undone ++ List.replicate l.length false } }
  | [], c, x, h => by simpa [Chief.noted] using h
  | p :: l, c, x, h => by
    have h1 := Chief.steps_led id l (c.note1 (stepEntry id p)) _ (Chief.step_led c (p := p) h)
    rw [List.map_cons]
    show mget ((c.note1 (stepEntry id p)).noted (l.map (stepEntry id))).l id = _
    rw [h1]
    simp [Led.step, List.replicate_succ]
theorem Chief.begins_led (c : Chief) (o : Order) : mget (c.note1 (beginEntry o)).l o.id = some (bareLed o.id o.item o.qty o.client o.price) := by
  show mget (mput c.l o.id _) o.id = _
  rw [mget_mput, if_pos rfl]
  rfl
theorem Chief.begun_led (c : Chief) (o : Order) : mget (c.begun o).l o.id = some (freshLed o) := by
  show mget ((c.note1 (beginEntry o)).noted (o.steps.zipIdx.map (stepEntry o.id))).l o.id = _
  rw [Chief.steps_led _ _ _ _ (Chief.begins_led c o)]
  simp [freshLed, bareLed, noFacts, List.zipIdx_map_fst]

theorem elem_entry : Elem Tryz.prog 90 81 3 48 := by
  refine ⟨Tryz.underlying90, ?_, by decide, by decide⟩
  obtain ⟨i, h1, h2, h3, h4⟩ := info_parts (show (Tryz.prog.info? 81).map (fun i => (i.zero, i.size, i.bytes)) = some (some (.agg #[.string ⟨#[]⟩, (Value.int .i64 0), .slice none 0 0]), 3, 48) by kernel_rfl)
  exact ⟨i, _, h1, h2, h3, h4, rfl⟩

theorem ChiefQ.cell0 {b : Nat} {c : Chief} {ps : List (Int × Nat)} {L F : HL} {w : World} (hQ : ChiefQ b c ps L) (hw : Has w (L ++ F)) : w.cell? ⟨b, 0, none⟩ = some ((Value.int .i64 c.most)) := by
  obtain ⟨hok, jb, mb, tb, Lj, Lm, Ll, Lt, rfl, hJ, hM, hL, hTw⟩ := hQ
  have h : Has w ((b, .cells #[(Value.int .i64 c.most), (Value.int .i64 c.room), (Value.int .i64 c.tries), pV jb, (Value.int .i64 c.used), .map (some mb), pV tb] 74) :: (Lj ++ Lm ++ Ll ++ Lt ++ F)) := hw
  exact h.cellh 0
/-- The numbers of entries that lie in the blocks of Ln. -/
def ReadsN (Ln : HL) (es : List EV) : Prop := ∀ W M, Has W (M ++ Ln) → ∀ p ∈ es, SlAt W iEnc 1 p.v p.1.n
theorem ReadsN.one {k : ByteArray} {id : Int} {n : List Int} {b : Nat} {cs : Array Value} (hc : cs = (n.flatMap iEnc).toArray) (hn : n.length ≤ 1000) : ReadsN [(b, .cells cs 3)] [(⟨k, id, n⟩, (some ⟨b, 0, none⟩, n.length))] := by
  intro W M h p hp
  have e := List.mem_singleton.1 hp
  rw [e]
  exact SlR.at (L := [(b, .cells cs 3)]) (e := 3) (SlR.lit (l := n) encI rfl hc hn) encI (F := M) (h.re (by intro x; simp only [cnt_append, cnt_cons, cnt_nil, List.tail_cons, World.size_alloc, World.size_setCell, World.size_drew, List.setIfInBounds_toArray, List.set_cons_zero, List.set_cons_succ] <;> omega))
theorem ReadsN.append {L1 L2 : HL} {a b : List EV} (h1 : ReadsN L1 a) (h2 : ReadsN L2 b) : ReadsN (L1 ++ L2) (a ++ b) := by
  intro W M h p hp
  rcases List.mem_append.1 hp with hp | hp
  · exact h1 W (M ++ L2) (h.re (by intro x; simp only [cnt_append, cnt_cons, cnt_nil, List.tail_cons, World.size_alloc, World.size_setCell, World.size_drew, List.setIfInBounds_toArray, List.set_cons_zero, List.set_cons_succ] <;> omega)) p hp
  · exact h2 W (M ++ L1) (h.re (by intro x; simp only [cnt_append, cnt_cons, cnt_nil, List.tail_cons, World.size_alloc, World.size_setCell, World.size_drew, List.setIfInBounds_toArray, List.set_cons_zero, List.set_cons_succ] <;> omega)) p hp
def OutB (b : Nat) (c : Chief) (ms : List Msg) (err : Int) (F : HL) (w : World) (r : Ending) (w' : World) : Prop := ∃ ps, Out2 b c ps ms err F w r w'

set_option maxRecDepth 100000 in
set_option maxHeartbeats 3200000 in
theorem begin_call (b : Nat) (c : Chief) (o : Order) (sl : Value) (w : World) (L F : HL) (hw : Has w (L ++ F)) (hc : ChiefR b c L) (hT : Tab F) (hs : ∀ W M, Has W (M ++ F) → SlAt W Step.enc 2 sl o.steps) (hn : o.steps.length < 1000000) (hu : c.used ≤ 4096) (hlen : c.l.length < 1000000) :
    Calls Tryz.prog 17 #[.pointer (some ⟨b, 0, none⟩), .agg (o.cells sl)] w (OutB b (c.begin o).2 (c.begin o).1.1 (c.begin o).1.2 F w) := by
  obtain ⟨ps, hQ⟩ := hc.q
  obtain ⟨a0, cap0, rfl⟩ := (hs w [] (hw.sub (B := [] ++ F) (by intro x; simp only [cnt_append, cnt_cons, cnt_nil, List.tail_cons, World.size_alloc, World.size_setCell, World.size_drew, List.setIfInBounds_toArray, List.set_cons_zero, List.set_cons_succ] <;> omega))).len
  have hb1 : Has (w.alloc (.cells #[(Value.int .i64 o.id), (Value.int .i64 o.item), (Value.int .i64 o.qty), (Value.int .i64 o.client), (Value.int .i64 o.price), .slice a0 o.steps.length cap0] 27)) ((w.heap.size, .cells #[(Value.int .i64 o.id), (Value.int .i64 o.item), (Value.int .i64 o.qty), (Value.int .i64 o.client), (Value.int .i64 o.price), .slice a0 o.steps.length cap0] 27) :: (L ++ F)) := hw.alloc _
  obtain ⟨dn, hdn⟩ : ∃ dn, c.j.down = dn := ⟨_, rfl⟩
  obtain ⟨my, hmy⟩ : ∃ my, o.may = my := ⟨_, rfl⟩
  obtain ⟨⟨⟨oms, oe⟩, oc⟩, hout⟩ : ∃ ou, c.begin o = ou := ⟨_, rfl⟩
  rw [hout]
  dsimp only
  unfold Chief.begin at hout
  rw [hdn, hmy] at hout
  have Hout := Lib.hid hout; have Hdn := Lib.hid hdn; have Hmy := Lib.hid hmy; have HQ := Lib.hid hQ; have HT := Lib.hid hT; have Hs := Lib.hid hs; have Hu := Lib.hid hu; have Hlen := Lib.hid hlen; have Hb1 := Lib.hid hb1; have Hn := Lib.hid hn; have Hw := Lib.hid hw
  clear hout hdn hmy hQ hT hs hu hlen hb1 hw hc hn
  unfold Order.cells
  go_enter Tryz.func17, Tryz.ntmps17
  go_wp2_with fail
  refine (down_call b c _ L ((w.heap.size, .cells #[(Value.int .i64 o.id), (Value.int .i64 o.item), (Value.int .i64 o.qty), (Value.int .i64 o.client), (Value.int .i64 o.price), .slice a0 o.steps.length cap0] 27) :: F) (Hb1.out.re (by intro x; simp only [cnt_append, cnt_cons, cnt_nil, List.tail_cons, World.size_alloc, World.size_setCell, World.size_drew, List.setIfInBounds_toArray, List.set_cons_zero, List.set_cons_succ] <;> omega)) HQ.out.r).mono ?_
  rintro e w1 ⟨rfl, rfl⟩
  rw [Hdn.out]
  have ho1 := Hb1.out
  have q1 := ho1.lth
  have x0 := (ho1).cellh 0; have x1 := (ho1).cellh 1; have x2 := (ho1).cellh 2; have x3 := (ho1).cellh 3; have x4 := (ho1).cellh 4; have x5 := (ho1).cellh 5; simp at x0 x1 x2 x3 x4 x5
  clear ho1
  cases dn with
  | true =>
    have e := Hout.out; simp only [if_true, Prod.mk.injEq] at e; obtain ⟨⟨rfl, rfl⟩, rfl⟩ := e
    go_wp2
    exact bodyPost_ret (v := .tuple #[.slice none 0 0, (Value.int .i64 10)]) (by simp [results, Tryz.results17, go_sem]) rfl ⟨ps, _, [], L, rfl, .nil, HQ.out, Hb1.out.tail, (Kin.refl w).alloc _⟩
  | false =>
    go_wp2_with fail
    refine (omay_call o (.slice a0 o.steps.length cap0) _ (Hs.out _ ((w.heap.size, .cells #[(Value.int .i64 o.id), (Value.int .i64 o.item), (Value.int .i64 o.qty), (Value.int .i64 o.client), (Value.int .i64 o.price), .slice a0 o.steps.length cap0] 27) :: L) Hb1.out) Hn.out).mono ?_
    rintro e w2 ⟨rfl, hb2⟩
    rw [Hmy.out]
    have ho2 := Hb1.out.below_all hb2
    have Hk2 := Lib.hid (((Kin.refl w).alloc (.cells #[(Value.int .i64 o.id), (Value.int .i64 o.item), (Value.int .i64 o.qty), (Value.int .i64 o.client), (Value.int .i64 o.price), .slice a0 o.steps.length cap0] 27)).trans (Kin.of_below hb2))
    clear q1 x0 x1 x2 x3 x4 x5 hb2
    have q2 := ho2.lth
    have x0 := (ho2).cellh 0; have x1 := (ho2).cellh 1; have x2 := (ho2).cellh 2; have x3 := (ho2).cellh 3; have x4 := (ho2).cellh 4; have x5 := (ho2).cellh 5; simp at x0 x1 x2 x3 x4 x5
    have Ho2 := Lib.hid ho2
    clear ho2
    cases my with
    | false =>
      have e := Hout.out; simp only [Bool.not_false, Bool.false_eq_true, if_true, if_false, Prod.mk.injEq] at e; obtain ⟨⟨rfl, rfl⟩, rfl⟩ := e
      go_wp2
      exact bodyPost_ret (v := .tuple #[.slice none 0 0, (Value.int .i64 1)]) (by simp [results, Tryz.results17, go_sem]) rfl ⟨ps, _, [], L, rfl, .nil, HQ.out, Ho2.out.tail, Hk2.out⟩
    | true =>
      obtain ⟨hok, jb, mb, tb, Lj, Lm, Ll, Lt, rfl, hJ, hM, hL, hTw⟩ := HQ.out
      have hoc : Has w2 ((b, .cells #[(Value.int .i64 c.most), (Value.int .i64 c.room), (Value.int .i64 c.tries), .pointer (some ⟨jb, 0, none⟩), (Value.int .i64 c.used), .map (some mb), .pointer (some ⟨tb, 0, none⟩)] 74) :: (w.heap.size, .cells #[(Value.int .i64 o.id), (Value.int .i64 o.item), (Value.int .i64 o.qty), (Value.int .i64 o.client), (Value.int .i64 o.price), .slice a0 o.steps.length cap0] 27) :: (Lj ++ Lm ++ Ll ++ Lt ++ F)) := Ho2.out.re (by intro x; simp only [cnt_append, cnt_cons, cnt_nil, pV, List.tail_cons, World.size_alloc, World.size_setCell, World.size_drew, List.setIfInBounds_toArray, List.set_cons_zero, List.set_cons_succ] <;> omega)
      have q3 := hoc.lth
      have y0 := (hoc).cellh 0; have y1 := (hoc).cellh 1; have y2 := (hoc).cellh 2; have y3 := (hoc).cellh 3; have y4 := (hoc).cellh 4; have y5 := (hoc).cellh 5; have y6 := (hoc).cellh 6; simp at y0 y1 y2 y3 y4 y5 y6
      have hlk := run_lookup_map (P := Tryz.prog) (w := w2.drew) (L := Lm) (F := (b, .cells #[(Value.int .i64 c.most), (Value.int .i64 c.room), (Value.int .i64 c.tries), .pointer (some ⟨jb, 0, none⟩), (Value.int .i64 c.used), .map (some mb), .pointer (some ⟨tb, 0, none⟩)] 74) :: (w.heap.size, .cells #[(Value.int .i64 o.id), (Value.int .i64 o.item), (Value.int .i64 o.qty), (Value.int .i64 o.client), (Value.int .i64 o.price), .slice a0 o.steps.length cap0] 27) :: (Lj ++ Ll ++ Lt ++ F)) (hoc.drew.re (by intro x; simp only [cnt_append, cnt_cons, cnt_nil, List.tail_cons, World.size_alloc, World.size_setCell, World.size_drew, List.setIfInBounds_toArray, List.set_cons_zero, List.set_cons_succ] <;> omega)) hM Tryz.underlying3 Tryz.underlying71 (zeroLed _) o.id false
      simp only [Bool.false_eq_true, if_false] at hlk
      have Hoc := Lib.hid hoc; have Hok := Lib.hid hok
      clear hoc hok
      obtain ⟨g, hg⟩ : ∃ g, mget ps o.id = g := ⟨_, rfl⟩
      have Hg := Lib.hid hg
      rw [hg] at hlk
      have hgn := LedsR.none hL o.id
      rw [hg] at hgn
      have Hgn := Lib.hid hgn
      clear hg hgn
      go_upto_region 7 with fail
      cases g with
      | some q =>
        have hsome : (mget c.l o.id).isSome = true := by
          cases h : mget c.l o.id with
          | none => have := Hgn.out.2 h; cases this
          | some _ => rfl
        have e := Hout.out; simp only [Bool.not_true, Bool.false_eq_true, if_true, if_false, hsome, Prod.mk.injEq] at e; obtain ⟨⟨rfl, rfl⟩, rfl⟩ := e
        clear hsome
        simp only [Option.map_some, Option.getD_some, pV] at hlk
        go_region
        all_goals go_wp2
        all_goals exact bodyPost_ret (v := .tuple #[.slice none 0 0, (Value.int .i64 8)]) (by simp [results, Tryz.results17, go_sem]) rfl ⟨ps, _, [], _, rfl, .nil, HQ.out, Ho2.out.tail.drew, Hk2.out.drew⟩
      | none =>
        have hnone : mget c.l o.id = none := Hgn.out.1 rfl
        simp only [Option.map_none, Option.getD_none] at hlk
        go_region
        have hk3 := Hk2.out.drew
        have ho3 := Hoc.out.drew
        obtain ⟨w3, hw3⟩ : ∃ w3, w2.drew = w3 := ⟨_, rfl⟩
        rw [hw3] at hk3 ho3 ⊢
        clear hlk hw3 x0 x1 x2 x3 x4 x5 q2 q3 y0 y1 y2 y3 y4 y5 y6 Ho2 Hoc
        have q3 := ho3.lth
        have y0 := (ho3).cellh 0; have y1 := (ho3).cellh 1; have y2 := (ho3).cellh 2; have y3 := (ho3).cellh 3; have y4 := (ho3).cellh 4; have y5 := (ho3).cellh 5; have y6 := (ho3).cellh 6; simp at y0 y1 y2 y3 y4 y5 y6
        have Hk3 := Lib.hid hk3; have Ho3 := Lib.hid ho3; have Hnone := Lib.hid hnone
        clear hk3 ho3 hnone Hk2
        obtain ⟨N, hN⟩ : ∃ N, c.opens = N := ⟨_, rfl⟩
        have HN := Lib.hid hN
        obtain ⟨fu, hfu⟩ : ∃ fu, (decide (c.most ≤ (N : Int))) = fu := ⟨_, rfl⟩
        have Hfu := Lib.hid hfu
        clear hN hfu
        go_upto_region 9 with fail
        go_region_held3 (fun wx => wx.cell? ⟨b, 0, none⟩ = some ((Value.int .i64 c.most))) ((repeat' apply And.intro) <;> (repeat' (first | with_reducible assumption | with_reducible refine cell_alloc_keep _ ?_ | with_reducible refine cell_drew_keep ?_ | with_reducible refine cell_set_keep ?_ ?_ | (simp only [World.size_alloc, World.size_setCell, World.size_drew]; omega)))) (first
          | (go_at_call 48; refine (open_call b c ps _ _ ((w.heap.size, .cells #[(Value.int .i64 o.id), (Value.int .i64 o.item), (Value.int .i64 o.qty), (Value.int .i64 o.client), (Value.int .i64 o.price), .slice a0 o.steps.length cap0] 27) :: F) (Ho3.out.drew.re (B := ((b, .cells #[(Value.int .i64 c.most), (Value.int .i64 c.room), (Value.int .i64 c.tries), pV jb, (Value.int .i64 c.used), .map (some mb), pV tb] 74) :: (Lj ++ Lm ++ Ll ++ Lt)) ++ ((w.heap.size, .cells #[(Value.int .i64 o.id), (Value.int .i64 o.item), (Value.int .i64 o.qty), (Value.int .i64 o.client), (Value.int .i64 o.price), .slice a0 o.steps.length cap0] 27) :: F)) (by intro x; simp only [cnt_append, cnt_cons, cnt_nil, pV, List.tail_cons, World.size_alloc, World.size_setCell, World.size_drew, List.setIfInBounds_toArray, List.set_cons_zero, List.set_cons_succ] <;> omega)) HQ.out Hu.out Hlen.out).mono ?_; rintro r w4 ⟨rfl, L4, hQ4, hw4, hk4⟩; rw [HN.out]; (have hb0 := hQ4.cell0 hw4); have HQ4 := Lib.hid hQ4; have Hw4 := Lib.hid hw4; have Hk4 := Lib.hid hk4; clear hQ4 hw4 hk4))
        clear y0 y1 y2 y3 y4 y5 y6 q3 hb0
        have how := Hw4.out.sub (B := (w.heap.size, .cells #[(Value.int .i64 o.id), (Value.int .i64 o.item), (Value.int .i64 o.qty), (Value.int .i64 o.client), (Value.int .i64 o.price), .slice a0 o.steps.length cap0] 27) :: (L4 ++ F)) (by intro x; simp only [cnt_append, cnt_cons, cnt_nil, List.tail_cons, World.size_alloc, World.size_setCell, World.size_drew, List.setIfInBounds_toArray, List.set_cons_zero, List.set_cons_succ] <;> omega)
        have q4 := how.lth
        have x0 := (how).cellh 0; have x1 := (how).cellh 1; have x2 := (how).cellh 2; have x3 := (how).cellh 3; have x4 := (how).cellh 4; have x5 := (how).cellh 5; simp at x0 x1 x2 x3 x4 x5
        have How := Lib.hid how
        have Hk5 := Lib.hid (Hk3.out.drew.trans Hk4.out)
        clear how Hw4 Hk3 Hk4 Ho3
        cases fu with
        | true =>
          have hm : c.most ≤ (N : Int) := by have := Hfu.out; simpa using this
          have e := Hout.out; simp only [Bool.not_true, Bool.false_eq_true, if_true, if_false, Hnone.out, Option.isSome_none, HN.out, hm, Prod.mk.injEq] at e; obtain ⟨⟨rfl, rfl⟩, rfl⟩ := e
          go_wp2
          exact bodyPost_ret (v := .tuple #[.slice none 0 0, (Value.int .i64 5)]) (by simp [results, Tryz.results17, go_sem]) rfl ⟨ps, _, [], L4, rfl, .nil, HQ4.out, How.out.tail, Hk5.out⟩
        | false =>
          have hm : ¬ c.most ≤ (N : Int) := by have := Hfu.out; simpa using this
          have e := Hout.out; simp only [Bool.not_true, Bool.false_eq_true, if_false, Hnone.out, Option.isSome_none, HN.out, hm] at e
          have Hout2 := Lib.hid e
          clear e Hout
          have hm2 : (N : Int) < c.most := by omega
          clear hm
          have Hm3 := Lib.hid hm2
          go_wp2_with fail
          clear hm2
          refine (entry_call bBegin o.id (some ⟨w4.heap.size, 0, none⟩) 4 4 _).mono ?_
          rintro r w5 ⟨rfl, hb5⟩
          have hw5 := ((How.out.alloc (.cells #[(Value.int .i64 o.item), (Value.int .i64 o.qty), (Value.int .i64 o.client), (Value.int .i64 o.price)] 3)).below_all hb5)
          have hk6 := (Hk5.out.alloc (.cells #[(Value.int .i64 o.item), (Value.int .i64 o.qty), (Value.int .i64 o.client), (Value.int .i64 o.price)] 3)).trans (Kin.of_below hb5)
          clear q4 x0 x1 x2 x3 x4 x5 hb5
          have Hw5 := Lib.hid hw5; have Hk6 := Lib.hid hk6
          have q5 := hw5.tail.lth
          have x0 := (hw5.tail).cellh 0; have x1 := (hw5.tail).cellh 1; have x2 := (hw5.tail).cellh 2; have x3 := (hw5.tail).cellh 3; have x4 := (hw5.tail).cellh 4; have x5 := (hw5.tail).cellh 5; simp at x0 x1 x2 x3 x4 x5
          clear hw5 hk6
          go_wp2
          go_loopw [52, 6] (fun i lv wr => ∃ (k : Nat) (es : List EV) (Le Ln : HL), k ≤ o.steps.length ∧ i = .int .i64 k ∧ es.map (·.1) = beginEntry o :: (o.steps.zipIdx.take k).map (stepEntry o.id) ∧ SlR eEnc 3 81 lv es Le ∧ ReadsN Ln es ∧ Has wr (Le ++ Ln ++ ((w.heap.size, .cells #[(Value.int .i64 o.id), (Value.int .i64 o.item), (Value.int .i64 o.qty), (Value.int .i64 o.client), (Value.int .i64 o.price), .slice a0 o.steps.length cap0] 27) :: (L4 ++ F))) ∧ Kin w wr) (fun i _ _ => o.steps.length - (intOf i).toNat)
          case atStart =>
            refine ⟨0, [(beginEntry o, (some ⟨w4.heap.size, 0, none⟩, 4))], [(w5.heap.size, .cells #[.string bBegin, (Value.int .i64 o.id), .slice (some ⟨w4.heap.size, 0, none⟩) 4 4] 81)], [(w4.heap.size, .cells #[(Value.int .i64 o.item), (Value.int .i64 o.qty), (Value.int .i64 o.client), (Value.int .i64 o.price)] 3)], Nat.zero_le _, rfl, rfl, SlR.lit encE rfl rfl (by simp), ReadsN.one (n := [o.item, o.qty, o.client, o.price]) rfl (by simp), (Hw5.out.alloc (.cells #[.string bBegin, (Value.int .i64 o.id), .slice (some ⟨w4.heap.size, 0, none⟩) 4 4] 81)).re (by intro x; simp only [cnt_append, cnt_cons, cnt_nil, List.tail_cons, World.size_alloc, World.size_setCell, World.size_drew, List.setIfInBounds_toArray, List.set_cons_zero, List.set_cons_succ] <;> omega), Hk6.out.alloc _⟩
          case round =>
            obtain ⟨k, es, Le, Ln, hk, rfl, hmap, hSl, hRd, hwr, hkin⟩ := hrel
            obtain ⟨al, capl, rfl⟩ := hSl.val
            have how := hwr.sub (B := (w.heap.size, .cells #[(Value.int .i64 o.id), (Value.int .i64 o.item), (Value.int .i64 o.qty), (Value.int .i64 o.client), (Value.int .i64 o.price), .slice a0 o.steps.length cap0] 27) :: (Le ++ Ln ++ L4 ++ F)) (by intro x; simp only [cnt_append, cnt_cons, cnt_nil, List.tail_cons, World.size_alloc, World.size_setCell, World.size_drew, List.setIfInBounds_toArray, List.set_cons_zero, List.set_cons_succ] <;> omega)
            have hst := Hs.out wr (Le ++ Ln ++ ((w.heap.size, .cells #[(Value.int .i64 o.id), (Value.int .i64 o.item), (Value.int .i64 o.qty), (Value.int .i64 o.client), (Value.int .i64 o.price), .slice a0 o.steps.length cap0] 27) :: L4)) (hwr.re (by intro x; simp only [cnt_append, cnt_cons, cnt_nil, List.tail_cons, World.size_alloc, World.size_setCell, World.size_drew, List.setIfInBounds_toArray, List.set_cons_zero, List.set_cons_succ] <;> omega))
            clear x0 x1 x2 x3 x4 x5 q5
            have q6 := how.lth
            have x0 := (how).cellh 0; have x1 := (how).cellh 1; have x2 := (how).cellh 2; have x3 := (how).cellh 3; have x4 := (how).cellh 4; have x5 := (how).cellh 5; simp at x0 x1 x2 x3 x4 x5
            have Hmap := Lib.hid hmap; have HSl := Lib.hid hSl; have HRd := Lib.hid hRd; have Hwr := Lib.hid hwr; have Hkin := Lib.hid hkin; have How6 := Lib.hid how
            clear hmap hSl hRd hwr hkin how
            by_cases hlt : k < o.steps.length
            · obtain ⟨⟨sv, sn⟩, hs⟩ : ∃ s, o.steps[k]? = some s := ⟨o.steps[k], by simp [hlt]⟩
              have hz : o.steps.zipIdx[k]? = some (⟨sv, sn⟩, k) := by simp [hs]
              have htake : (o.steps.zipIdx.take (k + 1)) = o.steps.zipIdx.take k ++ [(⟨sv, sn⟩, k)] := by rw [List.take_add_one, hz]; rfl
              rcases hst with ⟨_, h1⟩ | ⟨b1, o1, c1, h1, g1⟩
              · rw [h1] at hs; simp at hs
              obtain rfl : a0 = some ⟨b1, o1, none⟩ := (Value.slice.inj h1).1
              have d0 := g1 k _ hs 0 ((Value.int .i64 sv)) rfl
              have d1 := g1 k _ hs 1 ((Value.int .i64 sn)) rfl
              simp only [Nat.add_zero] at d0 d1
              have Htake := Lib.hid htake
              clear g1 h1 hs hz htake
              have hkb : (k : Int) + 1 < 9223372036854775808 := by have := Hn.out; omega
              go_upto_region 14 with fail
              go_cut [7, 8] from 54 to 69 (fun i8 q wx => i8 = .int .i64 k ∧ q = .pointer (some ⟨wr.heap.size, 0, none⟩) ∧ Has wx ((wr.heap.size, .cells #[(Value.int .i64 sv), (Value.int .i64 sn)] 42) :: (w.heap.size, .cells #[(Value.int .i64 o.id), (Value.int .i64 o.item), (Value.int .i64 o.qty), (Value.int .i64 o.client), (Value.int .i64 o.price), .slice (some ⟨b1, o1, none⟩) o.steps.length cap0] 27) :: (Le ++ Ln ++ (L4 ++ F))) ∧ Kin w wx)
              case first =>
                go_wp2
                go_meet
                case rel => exact ⟨rfl, rfl, (Hwr.out.alloc (.cells #[(Value.int .i64 sv), (Value.int .i64 sn)] 42)).re (by intro x; simp only [cnt_append, cnt_cons, cnt_nil, List.tail_cons, World.size_alloc, World.size_setCell, World.size_drew, List.setIfInBounds_toArray, List.set_cons_zero, List.set_cons_succ] <;> omega), Hkin.out.alloc _⟩
              case rest =>
                obtain ⟨rfl, rfl, hwc, hkc⟩ := hcut
                have pe := hwc.lth; have pb := hwc.tail.lth
                clear d0 d1 q6 x0 x1 x2 x3 x4 x5
                have y0 := (hwc).cellh 0; have y1 := (hwc).cellh 1; simp at y0 y1
                have x0 := (hwc.tail).cellh 0; have x1 := (hwc.tail).cellh 1; have x2 := (hwc.tail).cellh 2; have x3 := (hwc.tail).cellh 3; have x4 := (hwc.tail).cellh 4; have x5 := (hwc.tail).cellh 5; simp at x0 x1 x2 x3 x4 x5
                have Hwc := Lib.hid hwc; have Hkc := Lib.hid hkc
                clear hwc hkc
                go_wp2_with fail
                refine (entry_call bStep o.id (some ⟨wc.heap.size, 0, none⟩) 3 3 _).mono ?_
                rintro r w7 ⟨rfl, hb7⟩
                have hw7 := ((Hwc.out.alloc (.cells #[.int .i64 k, (Value.int .i64 sv), (Value.int .i64 sn)] 3)).below_all hb7)
                have hk7 := (Hkc.out.alloc (.cells #[.int .i64 k, (Value.int .i64 sv), (Value.int .i64 sn)] 3)).trans (Kin.of_below hb7)
                clear hb7 y0 y1 x0 x1 x2 x3 x4 x5 pe pb
                have hx : SlAt (w7.alloc (.cells #[.string bStep, (Value.int .i64 o.id), .slice (some ⟨wc.heap.size, 0, none⟩) 3 3] 81)) eEnc 3 (.slice (some ⟨w7.heap.size, 0, none⟩) 1 1) [((⟨bStep, o.id, [(k : Int), sv, sn]⟩, (some ⟨wc.heap.size, 0, none⟩, 3)) : EV)] := SlR.at (L := [(w7.heap.size, .cells #[.string bStep, (Value.int .i64 o.id), .slice (some ⟨wc.heap.size, 0, none⟩) 3 3] 81)]) (e := 81) (SlR.lit (l := [((⟨bStep, o.id, [(k : Int), sv, sn]⟩, (some ⟨wc.heap.size, 0, none⟩, 3)) : EV)]) encE rfl rfl (by simp)) encE (F := _) (hw7.alloc _)
                have hA : Has (w7.alloc (.cells #[.string bStep, (Value.int .i64 o.id), .slice (some ⟨wc.heap.size, 0, none⟩) 3 3] 81)) (Le ++ ((w7.heap.size, .cells #[.string bStep, (Value.int .i64 o.id), .slice (some ⟨wc.heap.size, 0, none⟩) 3 3] 81) :: (wc.heap.size, .cells #[.int .i64 k, (Value.int .i64 sv), (Value.int .i64 sn)] 3) :: (wr.heap.size, .cells #[(Value.int .i64 sv), (Value.int .i64 sn)] 42) :: (w.heap.size, .cells #[(Value.int .i64 o.id), (Value.int .i64 o.item), (Value.int .i64 o.qty), (Value.int .i64 o.client), (Value.int .i64 o.price), .slice (some ⟨b1, o1, none⟩) o.steps.length cap0] 27) :: (Ln ++ (L4 ++ F)))) := (hw7.alloc (.cells #[.string bStep, (Value.int .i64 o.id), .slice (some ⟨wc.heap.size, 0, none⟩) 3 3] 81)).re (by intro x; simp only [cnt_append, cnt_cons, cnt_nil, List.tail_cons, World.size_alloc, World.size_setCell, World.size_drew, List.setIfInBounds_toArray, List.set_cons_zero, List.set_cons_succ] <;> omega)
                have hel : es.length + 1 ≤ 1000000000 := by
                  have h1 := congrArg List.length Hmap.out
                  have := Hn.out
                  simp only [List.length_map, List.length_cons, List.length_take, List.length_zipIdx] at h1
                  omega
                have Hx := Lib.hid hx; have HA := Lib.hid hA; have Hk7 := Lib.hid hk7; have Hel := Lib.hid hel
                clear hx hA hk7 hel hw7
                unfold bStep
                go_wp2_with (at_builtin; go_loud (refine wpList_append_has rfl _ _ 90 rfl encE elem_entry rfl rfl HSl.out HA.out Hx.out Hel.out ?_); intro v' w8 L8 h1 h2 h3)
                go_roundw
                case rel => exact ⟨k + 1, es ++ [((⟨bStep, o.id, [(k : Int), sv, sn]⟩, (some ⟨wc.heap.size, 0, none⟩, 3)) : EV)], L8, Ln ++ [(wc.heap.size, .cells #[.int .i64 k, (Value.int .i64 sv), (Value.int .i64 sn)] 3)], by omega, by go_num, by rw [List.map_append, Hmap.out, Htake.out, List.map_append]; rfl, h1, HRd.out.append (ReadsN.one (n := [(k : Int), sv, sn]) rfl (by simp)), h2.sub (by intro x; simp only [cnt_append, cnt_cons, cnt_nil, List.tail_cons, World.size_alloc, World.size_setCell, World.size_drew, List.setIfInBounds_toArray, List.set_cons_zero, List.set_cons_succ] <;> omega), (Hk7.out.alloc _).trans h3⟩
                case measure => simp [intOf]; omega
            · clear hst
              have hall : es.map (·.1) = beginEntries o := by
                rw [Hmap.out, List.take_of_length_le (by simp; omega)]
                rfl
              have hok6 : entsOk es := by
                have h1 := congrArg List.length hall
                rw [List.length_map, beginEntries_len] at h1
                have h2 := Order.may_len Hmy.out
                refine ⟨by omega, fun p hp => ?_⟩
                have h3 : p.1 ∈ beginEntries o := by rw [← hall]; exact List.mem_map.2 ⟨p, hp, rfl⟩
                rcases List.mem_cons.1 h3 with h3 | h3
                · rw [h3]; exact ⟨by simp [beginEntry], by show bBegin.size < 1000000; decide⟩
                · obtain ⟨q, _, h3⟩ := List.mem_map.1 h3
                  rw [← h3]; exact ⟨by simp [stepEntry], by show bStep.size < 1000000; decide⟩
              have htk : c.takesAll (es.map (·.1)) := by rw [hall]; exact takes_begins o c
              have hen : EntsAt (Le ++ Ln ++ ((w.heap.size, .cells #[(Value.int .i64 o.id), (Value.int .i64 o.item), (Value.int .i64 o.qty), (Value.int .i64 o.client), (Value.int .i64 o.price), .slice a0 o.steps.length cap0] 27) :: F)) (.slice al es.length capl) es := fun W M h => ⟨HSl.out.at encE (F := M ++ Ln ++ ((w.heap.size, .cells #[(Value.int .i64 o.id), (Value.int .i64 o.item), (Value.int .i64 o.qty), (Value.int .i64 o.client), (Value.int .i64 o.price), .slice a0 o.steps.length cap0] 27) :: F)) (h.re (by intro x; simp only [cnt_append, cnt_cons, cnt_nil, List.tail_cons, World.size_alloc, World.size_setCell, World.size_drew, List.setIfInBounds_toArray, List.set_cons_zero, List.set_cons_succ] <;> omega)), HRd.out W (M ++ Le ++ ((w.heap.size, .cells #[(Value.int .i64 o.id), (Value.int .i64 o.item), (Value.int .i64 o.qty), (Value.int .i64 o.client), (Value.int .i64 o.price), .slice a0 o.steps.length cap0] 27) :: F)) (h.re (by intro x; simp only [cnt_append, cnt_cons, cnt_nil, List.tail_cons, World.size_alloc, World.size_setCell, World.size_drew, List.setIfInBounds_toArray, List.set_cons_zero, List.set_cons_succ] <;> omega))⟩
              have htab : Tab (Le ++ Ln ++ ((w.heap.size, .cells #[(Value.int .i64 o.id), (Value.int .i64 o.item), (Value.int .i64 o.qty), (Value.int .i64 o.client), (Value.int .i64 o.price), .slice a0 o.steps.length cap0] 27) :: F)) := fun W M h => HT.out W (M ++ (Le ++ Ln ++ [(w.heap.size, .cells #[(Value.int .i64 o.id), (Value.int .i64 o.item), (Value.int .i64 o.qty), (Value.int .i64 o.client), (Value.int .i64 o.price), .slice a0 o.steps.length cap0] 27)])) (h.re (by intro x; simp only [cnt_append, cnt_cons, cnt_nil, List.tail_cons, World.size_alloc, World.size_setCell, World.size_drew, List.setIfInBounds_toArray, List.set_cons_zero, List.set_cons_succ] <;> omega))
              have hel : es.length = (beginEntries o).length := by rw [← hall, List.length_map]
              have Hall := Lib.hid hall; have Hok6 := Lib.hid hok6; have Htk := Lib.hid htk; have Hen := Lib.hid hen; have Htab := Lib.hid htab; have Hel := Lib.hid hel
              clear hall hok6 htk hen htab hel
              go_wp2_with fail
              refine (sures_call b c ps (.slice al es.length capl) es _ L4 (Le ++ Ln ++ ((w.heap.size, .cells #[(Value.int .i64 o.id), (Value.int .i64 o.item), (Value.int .i64 o.qty), (Value.int .i64 o.client), (Value.int .i64 o.price), .slice a0 o.steps.length cap0] 27) :: F)) (Hwr.out.re (by intro x; simp only [cnt_append, cnt_cons, cnt_nil, List.tail_cons, World.size_alloc, World.size_setCell, World.size_drew, List.setIfInBounds_toArray, List.set_cons_zero, List.set_cons_succ] <;> omega)) HQ4.out Htab.out Hen.out Hok6.out Hu.out Htk.out).mono ?_
              rintro r w7 ⟨rfl, L7, ps7, hQ7, hps7, hw7, hk7⟩
              rw [Hel.out]
              rw [Hall.out] at hQ7
              obtain ⟨fi, hfi⟩ : ∃ fi, c.fitsIn (beginEntries o).length = fi := ⟨_, rfl⟩
              have hout3 := Hout2.out
              unfold Chief.sures at hQ7
              rw [hfi] at hout3 hQ7 ⊢
              have hz7 : Has w7 ((w.heap.size, .cells #[(Value.int .i64 o.id), (Value.int .i64 o.item), (Value.int .i64 o.qty), (Value.int .i64 o.client), (Value.int .i64 o.price), .slice a0 o.steps.length cap0] 27) :: (L7 ++ F)) := hw7.sub (by intro x; simp only [cnt_append, cnt_cons, cnt_nil, List.tail_cons, World.size_alloc, World.size_setCell, World.size_drew, List.setIfInBounds_toArray, List.set_cons_zero, List.set_cons_succ] <;> omega)
              clear q6 x0 x1 x2 x3 x4 x5 hps7 hw7
              have q7 := hz7.lth
              have x0 := (hz7).cellh 0; have x1 := (hz7).cellh 1; have x2 := (hz7).cellh 2; have x3 := (hz7).cellh 3; have x4 := (hz7).cellh 4; have x5 := (hz7).cellh 5; simp at x0 x1 x2 x3 x4 x5
              have Hfi := Lib.hid hfi; have Hz7 := Lib.hid hz7; have Hk7 := Lib.hid (Hkin.out.trans hk7)
              clear hfi hz7 hk7
              cases fi with
              | false =>
                simp only [Bool.false_eq_true, if_false, Prod.mk.injEq] at hout3 hQ7
                obtain ⟨⟨rfl, rfl⟩, rfl⟩ := hout3
                have HQ7 := Lib.hid hQ7
                clear hQ7
                go_wp2
                exact bodyPost_ret (v := .tuple #[.slice none 0 0, (Value.int .i64 5)]) (by simp [results, Tryz.results17, go_sem]) rfl ⟨ps7, _, [], L7, rfl, .nil, HQ7.out, Hz7.out.tail, Hk7.out⟩
              | true =>
                simp only [if_true] at hout3 hQ7
                obtain ⟨c1, hc1⟩ : ∃ c1, (c.noted (beginEntries o)).synced = c1 := ⟨_, rfl⟩
                have hled : mget c1.l o.id = some (freshLed o) := by rw [← hc1]; exact Chief.begun_led c o
                have hbg : c.begun o = c1.withB (c1.bells.hang o.id) := by rw [← hc1]; rfl
                have hlow : c1.used ≤ 4096 := by
                  rw [← hc1]
                  show (c.noted (beginEntries o)).used ≤ 4096
                  rw [Chief.noted_used]
                  have h1 := Hfi.out; have h2 := Hok.out.2.2.2.1
                  simp [Chief.fitsIn] at h1
                  omega
                rw [hc1] at hQ7
                rw [hbg] at hout3
                obtain ⟨p, hp⟩ := hQ7.ptr hled
                obtain ⟨jb7, mb7, tb7, Lt7, L17, R7, hTw7, hX7, hcnt7, hput7⟩ := hQ7.parts hled hp
                have hy7 : Has w7 ((b, .cells #[(Value.int .i64 c1.most), (Value.int .i64 c1.room), (Value.int .i64 c1.tries), .pointer (some ⟨jb7, 0, none⟩), (Value.int .i64 c1.used), .map (some mb7), .pointer (some ⟨tb7, 0, none⟩)] 74) :: (w.heap.size, .cells #[(Value.int .i64 o.id), (Value.int .i64 o.item), (Value.int .i64 o.qty), (Value.int .i64 o.client), (Value.int .i64 o.price), .slice a0 o.steps.length cap0] 27) :: (Lt7 ++ L17 ++ R7 ++ F)) := by
                  refine Hz7.out.sub ?_
                  intro y
                  have := hcnt7 y
                  simp only [cnt_append, cnt_cons] at this ⊢
                  omega
                have r7 := hy7.lth
                have y0 := (hy7).cellh 0; have y1 := (hy7).cellh 1; have y2 := (hy7).cellh 2; have y3 := (hy7).cellh 3; have y4 := (hy7).cellh 4; have y5 := (hy7).cellh 5; have y6 := (hy7).cellh 6; simp at y0 y1 y2 y3 y4 y5 y6
                have Hout3 := Lib.hid hout3; have Hled := Lib.hid hled; have Hlow := Lib.hid hlow; have Hp := Lib.hid hp; have Hput7 := Lib.hid hput7; have Hy7 := Lib.hid hy7; have HTw7 := Lib.hid hTw7
                clear hout3 hled hlow hp hput7 hy7 hTw7 hcnt7 hX7 hQ7 hc1 hbg
                go_upto_region 19 with fail
                go_still_tail 6, (by kernel_rfl)
                change wpList _ _ _ _ _ w7.drew
                go_wp2_with fail
                refine (hang_call tb7 c1.bells o.id w7.drew Lt7 ((b, .cells #[(Value.int .i64 c1.most), (Value.int .i64 c1.room), (Value.int .i64 c1.tries), .pointer (some ⟨jb7, 0, none⟩), (Value.int .i64 c1.used), .map (some mb7), .pointer (some ⟨tb7, 0, none⟩)] 74) :: (w.heap.size, .cells #[(Value.int .i64 o.id), (Value.int .i64 o.item), (Value.int .i64 o.qty), (Value.int .i64 o.client), (Value.int .i64 o.price), .slice a0 o.steps.length cap0] 27) :: (L17 ++ R7 ++ F)) (Hy7.out.drew.re (by intro x; simp only [cnt_append, cnt_cons, cnt_nil, List.tail_cons, World.size_alloc, World.size_setCell, World.size_drew, List.setIfInBounds_toArray, List.set_cons_zero, List.set_cons_succ] <;> omega)) HTw7.out).mono ?_
                rintro r w8 ⟨rfl, Lt8, hTw8, hw8, hk8⟩
                obtain ⟨L8, hQ8, hcnt8⟩ := Hput7.out _ _ hTw8
                obtain ⟨c2, hc2⟩ : ∃ c2, c1.withB (c1.bells.hang o.id) = c2 := ⟨_, rfl⟩
                have hout4 := Hout3.out
                have hled2 : mget c2.l o.id = some (freshLed o) := by rw [← hc2]; exact Hled.out
                have hlow2 : c2.used ≤ 4096 := by rw [← hc2]; exact Hlow.out
                rw [hc2] at hQ8 hout4
                have hwb : Has w8 ((w.heap.size, .cells #[(Value.int .i64 o.id), (Value.int .i64 o.item), (Value.int .i64 o.qty), (Value.int .i64 o.client), (Value.int .i64 o.price), .slice a0 o.steps.length cap0] 27) :: (L8 ++ F)) := by
                  refine hw8.sub ?_
                  intro y
                  have := hcnt8 y
                  simp only [cnt_append, cnt_cons] at this ⊢
                  omega
                clear hw8 hcnt8 hTw8 r7 q7 x0 x1 x2 x3 x4 x5 y0 y1 y2 y3 y4 y5 y6
                have hQ8' := hQ8
                obtain ⟨hok8, jb8, mb8, tb8, Lj8, Lm8, Ll8, Lt9, rfl, hJ8, hM8, hL8, hTw9⟩ := hQ8
                have hy8 : Has w8 ((b, .cells #[(Value.int .i64 c2.most), (Value.int .i64 c2.room), (Value.int .i64 c2.tries), .pointer (some ⟨jb8, 0, none⟩), (Value.int .i64 c2.used), .map (some mb8), .pointer (some ⟨tb8, 0, none⟩)] 74) :: (w.heap.size, .cells #[(Value.int .i64 o.id), (Value.int .i64 o.item), (Value.int .i64 o.qty), (Value.int .i64 o.client), (Value.int .i64 o.price), .slice a0 o.steps.length cap0] 27) :: (Lj8 ++ Lm8 ++ Ll8 ++ Lt9 ++ F)) := hwb.re (by intro x; simp only [cnt_append, cnt_cons, cnt_nil, pV, List.tail_cons, World.size_alloc, World.size_setCell, World.size_drew, List.setIfInBounds_toArray, List.set_cons_zero, List.set_cons_succ] <;> omega)
                have r8 := hy8.lth; have s8 := hy8.tail.lth
                have y0 := (hy8).cellh 0; have y1 := (hy8).cellh 1; have y2 := (hy8).cellh 2; have y3 := (hy8).cellh 3; have y4 := (hy8).cellh 4; have y5 := (hy8).cellh 5; have y6 := (hy8).cellh 6; simp at y0 y1 y2 y3 y4 y5 y6
                have x0 := (hy8.tail).cellh 0; have x1 := (hy8.tail).cellh 1; have x2 := (hy8.tail).cellh 2; have x3 := (hy8.tail).cellh 3; have x4 := (hy8.tail).cellh 4; have x5 := (hy8.tail).cellh 5; simp at x0 x1 x2 x3 x4 x5
                have hlk := run_lookup_map (P := Tryz.prog) (w := w8.drew) (L := Lm8) (F := (b, .cells #[(Value.int .i64 c2.most), (Value.int .i64 c2.room), (Value.int .i64 c2.tries), .pointer (some ⟨jb8, 0, none⟩), (Value.int .i64 c2.used), .map (some mb8), .pointer (some ⟨tb8, 0, none⟩)] 74) :: (w.heap.size, .cells #[(Value.int .i64 o.id), (Value.int .i64 o.item), (Value.int .i64 o.qty), (Value.int .i64 o.client), (Value.int .i64 o.price), .slice a0 o.steps.length cap0] 27) :: (Lj8 ++ Ll8 ++ Lt9 ++ F)) (hy8.drew.re (by intro x; simp only [cnt_append, cnt_cons, cnt_nil, List.tail_cons, World.size_alloc, World.size_setCell, World.size_drew, List.setIfInBounds_toArray, List.set_cons_zero, List.set_cons_succ] <;> omega)) hM8 Tryz.underlying3 Tryz.underlying71 (zeroLed _) o.id false
                simp only [Bool.false_eq_true, if_false, Hp.out, Option.map_some, Option.getD_some, pV] at hlk
                have Hwb := Lib.hid hwb; have HQ8 := Lib.hid hQ8'; have Hout4 := Lib.hid hout4; have Hled2 := Lib.hid hled2; have Hlow2 := Lib.hid hlow2; have Hk8 := Lib.hid (Hk7.out.drew.trans hk8)
                clear hwb hQ8' hout4 hled2 hlow2 hy8 hk8 hok8 hJ8 hM8 hL8 hTw9
                go_upto_region 20 with fail
                go_still_tail 8, (by kernel_rfl)
                change wpList _ _ _ _ _ w8.drew
                go_wp2_with fail
                refine (goes_call b c2 ps7 o.id (freshLed o) p w8.drew _ F Hwb.out.tail.drew HQ8.out HT.out Hled2.out Hp.out rfl Hlow2.out).mono ?_
                rintro r w9 ⟨v, Lv, L9, rfl, hV, hQ9, hw9, hk9⟩
                have e := Hout4.out; simp only [Prod.mk.injEq] at e; obtain ⟨⟨e1, e2⟩, e3⟩ := e
                rw [e1] at hV
                rw [e3] at hQ9
                subst e2
                clear e1 e3
                obtain ⟨av, capv, rfl⟩ := hV.val
                go_wp2
                exact bodyPost_ret (v := .tuple #[.slice av oms.length capv, (Value.int .i64 0)]) (by simp [results, Tryz.results17, go_sem]) rfl ⟨ps7, _, Lv, L9, rfl, hV, hQ9, hw9, Hk8.out.drew.trans hk9⟩

end Go.Proofs.YtcfaimmcedpgiaaGreatDoor
