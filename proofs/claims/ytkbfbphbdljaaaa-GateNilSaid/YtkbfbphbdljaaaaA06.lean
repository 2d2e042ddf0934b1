/- Texts of one proof, joined: each says what it proves. Every premise stands in the statements. -/
import Derived.Test.YtkbfbphbdljaaaaA05
import Derived.Conc.Own5
import Derived.Conc.Listed
/- One step of plain code: the lone machine's step in the ghost world covers the step in the true world, whatever stands below. Every premise stands in the statements. -/
set_option linter.unusedSimpArgs false
set_option linter.unusedVariables false
namespace Go.Tre
open Go.Conc (G base)

/-- Nothing beyond this is carried out. -/
def K0 : List Item := [.code (.refuse "")]
/-- Whoever comes back to it dies. -/
def trap : Frame := { fn := 0, tmps := #[], todo := K0, defers := [{ target := .nil, args := #[] }], mode := .run, kind := .normal }
/-- The machine of one goroutine. -/
def mach (g : Goroutine) (w : World) : Machine := { world := w, gs := #[g], rest := { timers := #[], alone := none, slice := none } }
theorem mach_lone (fr : Frame) (cs : List Frame) (w : World) : mach (G fr cs) w = lone fr cs w := rfl

section
variable (P : Program) (S E : FuncId → Bool)
def okItem : Item → Prop
  | .code c => okCode P S E c = true
  | .inBlock _ => True
  | .inLoop c => okCode P S E c = true
  | .inScope c => okCode P S E c = true
  | .inRegion ops _ => ∀ o ∈ ops, okOp P S E o.op = true
  | _ => False
def okItems (l : List Item) : Prop := ∀ x ∈ l, okItem P S E x
end

section
variable {P : Program} {S E : FuncId → Bool}
theorem okItems.tail {x : Item} {l : List Item} (h : okItems P S E (x :: l)) : okItems P S E l := fun y hy => h y (List.mem_cons_of_mem _ hy)
theorem okItems.head {x : Item} {l : List Item} (h : okItems P S E (x :: l)) : okItem P S E x := h x List.mem_cons_self
theorem okItems.cons {x : Item} {l : List Item} (h : okItem P S E x) (hl : okItems P S E l) : okItems P S E (x :: l) := fun y hy => by
  rcases List.mem_cons.1 hy with rfl | hy
  · exact h
  · exact hl y hy
theorem okItems.nil : okItems P S E [] := fun _ h => by cases h

theorem okItems.exit {id : Nat} : ∀ {l l' : List Item}, okItems P S E l → exitTo id l = some l' → okItems P S E l'
  | [], _, _, h => by simp [exitTo] at h
  | x :: l, l', hl, h => by
    cases x with
    | inBlock id' =>
      simp only [exitTo] at h
      split at h
      · cases h; exact hl.tail
      · exact okItems.exit hl.tail h
    | _ => exact okItems.exit hl.tail (by simpa [exitTo] using h)
theorem exit_app {id : Nat} : ∀ {l l' : List Item} (κ : List Item), exitTo id l = some l' → exitTo id (l ++ κ) = some (l' ++ κ)
  | [], _, _, h => by simp [exitTo] at h
  | x :: l, l', κ, h => by
    cases x with
    | inBlock id' =>
      simp only [exitTo, List.cons_append] at h ⊢
      split at h
      · rename_i hb; simp only [hb, if_true]; cases h; rfl
      · rename_i hb; simp only [hb, if_false, Bool.false_eq_true]; exact exit_app κ h
    | _ => simp only [exitTo, List.cons_append] at h ⊢; exact exit_app κ h
theorem exit_K0 {id : Nat} : ∀ {l : List Item}, exitTo id l = none → exitTo id (l ++ K0) = none
  | [], _ => rfl
  | x :: l, h => by
    cases x with
    | inBlock id' =>
      simp only [exitTo, List.cons_append] at h ⊢
      split at h
      · cases h
      · rename_i hb; simp only [hb, if_false, Bool.false_eq_true]; exact exit_K0 h
    | _ => simp only [exitTo, List.cons_append] at h ⊢; exact exit_K0 h
theorem ok_label {l : Nat} : ∀ {c c' : Code}, okCode P S E c = true → findLabel c l = some c' → okCode P S E c' = true
  | .seq a b, c', hc, h => by
    simp only [okCode, Bool.and_eq_true] at hc
    simp only [findLabel] at h
    split at h
    · rename_i rest hr
      cases h
      simp only [okCode, Bool.and_eq_true]
      exact ⟨ok_label hc.1 hr, hc.2⟩
    · exact ok_label hc.2 h
  | .label l', c', hc, h => by
    simp only [findLabel] at h
    split at h
    · cases h; rfl
    · cases h
  | .skip, _, _, h | .region .., _, _, h | .cond .., _, _, h | .block .., _, _, h | .loop _, _, _, h | .rangeFunc .., _, _, h | .exit _, _, _, h | .scope _, _, _, h | .goto _, _, _, h | .ret, _, _, h | .refuse _, _, _, h => by simp [findLabel] at h
theorem okItems.goto {l : Nat} : ∀ {k k' : List Item}, okItems P S E k → gotoIn l k = some k' → okItems P S E k'
  | [], _, _, h => by simp [gotoIn] at h
  | x :: k, k', hk, h => by
    cases x with
    | inScope body =>
      simp only [gotoIn] at h
      split at h
      · rename_i rest hr
        cases h
        exact .cons (ok_label (show okCode P S E body = true from hk.head) hr) hk
      · exact okItems.goto hk.tail h
    | _ => exact okItems.goto hk.tail (by simpa [gotoIn] using h)
theorem goto_app {l : Nat} : ∀ {k k' : List Item} (κ : List Item), gotoIn l k = some k' → gotoIn l (k ++ κ) = some (k' ++ κ)
  | [], _, _, h => by simp [gotoIn] at h
  | x :: k, k', κ, h => by
    cases x with
    | inScope body =>
      simp only [gotoIn, List.cons_append] at h ⊢
      split at h
      · rename_i rest hr; cases h; rfl
      · rename_i hr; exact goto_app κ h
    | _ => simp only [gotoIn, List.cons_append] at h ⊢; exact goto_app κ h
theorem goto_K0 {l : Nat} : ∀ {k : List Item}, gotoIn l k = none → gotoIn l (k ++ K0) = none
  | [], _ => rfl
  | x :: k, h => by
    cases x with
    | inScope body =>
      simp only [gotoIn, List.cons_append] at h ⊢
      split at h
      · cases h
      · exact goto_K0 h
    | _ => simp only [gotoIn, List.cons_append] at h ⊢; exact goto_K0 h
end

/-! ### an operation that is carried out -/
section
variable {P : Program} {main : Bool} {b : Frame} {a : Act} {k : List Item} {cs : List Frame} {w : World} {ops : Array Oper} {i : Nat} {rest : List Nat} {o : Oper}

theorem step_value {v : Value} {w' : World} (ho : ops[i]? = some o) (hw : Region.wanted o (yielded ops a.tmps) = true) (hr : (execOp a.eval o).run P w = .ok (.value v) w') :
    ∃ es, (∀ e ∈ es, e ∈ (execOp a.eval o).events P w #[]) ∧ stepG P main (G (b.at a (.inRegion ops (i :: rest) :: k)) cs) w = .go (G (b.at (a.put o.dst v) (.inRegion ops rest :: k)) cs) w' es := by
  have hfin : (b.at a (.inRegion ops (i :: rest) :: k)).finish v = b.at (a.put o.dst v) (.inRegion ops rest :: k) := by rw [Frame.finish_at, ho]; rfl
  rw [Go.Conc.stepG_oper ho hw, ← hfin]
  refine ⟨seen P b.fn (if (b.kind == CallKind.early) = true then #[] else (execOp a.eval o).events P w #[]), fun e he => ?_, ?_⟩
  · have := Go.Conc.mem_seen he
    split at this
    · simp at this
    · exact this
  · simp [stepG.apply, hr, G, Frame.at, GStep.after]
theorem step_none {w' : World} (ho : ops[i]? = some o) (hw : Region.wanted o (yielded ops a.tmps) = true) (hr : (execOp a.eval o).run P w = .ok .skip w') :
    ∃ es, (∀ e ∈ es, e ∈ (execOp a.eval o).events P w #[]) ∧ stepG P main (G (b.at a (.inRegion ops (i :: rest) :: k)) cs) w = .go (G (b.at (a.put o.dst undef) (.inRegion ops rest :: k)) cs) w' es := by
  have hfin : (b.at a (.inRegion ops (i :: rest) :: k)).finish undef = b.at (a.put o.dst undef) (.inRegion ops rest :: k) := by rw [Frame.finish_at, ho]; rfl
  rw [Go.Conc.stepG_oper ho hw, ← hfin]
  refine ⟨seen P b.fn (if (b.kind == CallKind.early) = true then #[] else (execOp a.eval o).events P w #[]), fun e he => ?_, ?_⟩
  · have := Go.Conc.mem_seen he
    split at this
    · simp at this
    · exact this
  · simp [stepG.apply, hr, G, Frame.at, GStep.after]
theorem step_enter {f : FuncId} {args : Array Value} {w' : World} (ho : ops[i]? = some o) (hw : Region.wanted o (yielded ops a.tmps) = true) (hr : (execOp a.eval o).run P w = .ok (.enter f args) w') :
    ∃ es, (∀ e ∈ es, e ∈ (execOp a.eval o).events P w #[]) ∧ stepG P main (G (b.at a (.inRegion ops (i :: rest) :: k)) cs) w = .go (G (Frame.enter P f args .normal) (b.at a (.inRegion ops (i :: rest) :: k) :: cs)) w' es := by
  rw [Go.Conc.stepG_oper ho hw]
  refine ⟨seen P b.fn (if (b.kind == CallKind.early) = true then #[] else (execOp a.eval o).events P w #[]), fun e he => ?_, ?_⟩
  · have := Go.Conc.mem_seen he
    split at this
    · simp at this
    · exact this
  · simp [stepG.apply, hr, G, Frame.at, GStep.after]
theorem step_panic {v : Value} {w' : World} (ho : ops[i]? = some o) (hw : Region.wanted o (yielded ops a.tmps) = true) (hr : (execOp a.eval o).run P w = .halt (.panic v) w') :
    ∃ es, (∀ e ∈ es, e ∈ (execOp a.eval o).events P w #[]) ∧ stepG P main (G (b.at a (.inRegion ops (i :: rest) :: k)) cs) w =
      .go (G { b.at a (.inRegion ops (i :: rest) :: k) with mode := .panicking [{ v, recovered := false }] } cs) w' es := by
  rw [Go.Conc.stepG_oper ho hw]
  refine ⟨seen P b.fn (if (b.kind == CallKind.early) = true then #[] else (execOp a.eval o).events P w #[]), fun e he => ?_, ?_⟩
  · have := Go.Conc.mem_seen he
    split at this
    · simp at this
    · exact this
  · simp [stepG.apply, hr, G, Frame.at, GStep.after, Frame.raise]
theorem step_absent (ho : ((ops[i]?).map (Region.wanted · (yielded ops a.tmps))).getD false = false) :
    stepG P main (G (b.at a (.inRegion ops (i :: rest) :: k)) cs) w = .go (G (b.at (a.put ((ops[i]?).bind (·.dst)) undef) (.inRegion ops rest :: k)) cs) w #[] := by
  rw [← Frame.finish_at]
  have h' := ho
  simp only [Frame.at] at *
  simp [G, stepG, stepG.exec, h']
theorem step_draw {id : Nat} :
    stepG P main (G (b.at a (.code (.region id ops true) :: k)) cs) w = .go (G (b.at a (.inRegion ops (Region.schedule (P.follows .mixedOrders) ops (w.tape w.drawn (.order b.fn id))) :: k)) cs) { w with drawn := w.drawn + 1 } #[] := by
  simp [G, stepG, stepG.exec, Frame.at, choose, Sem.run, Question.forced, Question.cut]
/-- What a dead operation comes to in the lone machine. -/
theorem step_gone {h : Halt} {w' : World} (he : ∀ (fr : Frame) (cs : List Frame) (g : Nat) (w : World), ∃ o w', Go.early P fr cs none g w = .ended o w') (ho : ops[i]? = some o) (hw : Region.wanted o (yielded ops a.tmps) = true) (hr : (execOp a.eval o).run P w = .halt h w') (hn : Gone h) :
    ∃ oc w'', (stepG P main (G (b.at a (.inRegion ops (i :: rest) :: k)) cs) w).bare = .ended oc w'' := by
  rw [Go.Conc.stepG_oper ho hw]
  cases h with
  | unsupported u =>
    cases u with
    | initOrder g =>
      obtain ⟨oc, w'', e⟩ := he (b.at a (.inRegion ops (i :: rest) :: k)) cs g w'
      refine ⟨oc, w'', ?_⟩
      simp [stepG.apply, hr, e]
    | _ => exact ⟨_, _, by simp [stepG.apply, hr]; exact ⟨rfl, rfl⟩⟩
  | stuck s => exact ⟨_, _, by simp [stepG.apply, hr]; exact ⟨rfl, rfl⟩⟩
  | _ => exact hn.elim
end
end Go.Tre

/- The lone machine and the true goroutine side by side, step by step. Every premise stands in the statements. -/
set_option linter.unusedSimpArgs false
set_option linter.unusedVariables false
namespace Go.Tre
variable [Base]
open Go.Conc (G base)

section
variable (P : Program) (S E : FuncId → Bool) (bl ba : Frame) (ds : List Deferred) (k : List Item) (cs : List Frame) (rops : Array Oper) (rr : List Nat) (κ : List Item)

/-- The frames below the one that runs: the lone machine's, the true ones. -/
inductive Below : List Frame → List Frame → Prop
  | base (tm : Array Value) (ops : Array Oper) (i : Nat) (r : List Nat) (items : List Item) (h : okItems P S E (.inRegion ops (i :: r) :: items)) :
      Below [bl.at ⟨tm, []⟩ (.inRegion ops (i :: r) :: (items ++ K0)), trap] (ba.at ⟨tm, ds⟩ (.inRegion ops (i :: r) :: (items ++ k)) :: cs)
  | ret (tm : Array Value) (o : Oper) (i : Nat) (ho : rops[i]? = some o) :
      Below [bl.at ⟨tm, []⟩ (.inRegion #[o] [0] :: K0), trap] (ba.at ⟨tm, ds⟩ (.inRegion rops (i :: rr) :: κ) :: cs)
  | up (f : FuncId) (fn : Func) (tm : Array Value) (ops : Array Oper) (i : Nat) (r : List Nat) (items : List Item) (l l' : List Frame) (hf : P.funcs[f]? = some fn) (h : okItems P S E (.inRegion ops (i :: r) :: items)) (hl : Below l l') :
      Below ((base f).at ⟨tm, []⟩ (.inRegion ops (i :: r) :: items) :: l) ((base f).at ⟨tm, []⟩ (.inRegion ops (i :: r) :: items) :: l')

/-- The lone machine's goroutine and the true one. -/
inductive Rel : Goroutine → Goroutine → Prop
  | base (tm : Array Value) (items : List Item) (h : okItems P S E items) : Rel (G (bl.at ⟨tm, []⟩ (items ++ K0)) [trap]) (G (ba.at ⟨tm, ds⟩ (items ++ k)) cs)
  | ret (tm : Array Value) (o : Oper) : Rel (G (bl.at ⟨tm, []⟩ (.inRegion #[o] [] :: K0)) [trap]) (G (ba.at ⟨tm, ds⟩ (.inRegion rops rr :: κ)) cs)
  | up (m : FrameMode) (f : FuncId) (fn : Func) (tm : Array Value) (items : List Item) (l l' : List Frame) (hf : P.funcs[f]? = some fn) (h : okItems P S E items) (hl : Below P S E bl ba ds k cs rops rr κ l l') :
      Rel (G { (base f).at ⟨tm, []⟩ items with mode := m } l) (G { (base f).at ⟨tm, []⟩ items with mode := m } l')

/-- The lone machine has come to its end. -/
def Final (m : Machine) : Prop := ∃ tm w, m = mach (G (bl.at ⟨tm, []⟩ K0) [trap]) w
/-- It never comes there. -/
def Doomed (m : Machine) : Prop := ∀ n m', runN P n m = .next m' → ¬ Final bl m'
end

section
variable {P : Program} {S E : FuncId → Bool} {bl ba : Frame} {ds : List Deferred} {k : List Item} {cs : List Frame} {rops : Array Oper} {rr : List Nat} {κ : List Item}

omit [Base] in
theorem step_mach {g g' : Goroutine} {w w' : World} (hr : g.status = .running) (hd : g.dying = none) (hof : g.offers = none) (hr' : g'.status = .running) (hd' : g'.dying = none) (hof' : g'.offers = none) (h : (stepG P true g w).bare = .go g' w') : step P (mach g w) = .next (mach g' w') := by
  obtain ⟨fr, cs₀, st, dy, of_⟩ := g
  obtain ⟨fr', cs', st', dy', of'⟩ := g'
  cases hr; cases hd; cases hof; cases hr'; cases hd'; cases hof'
  exact step_lone_go h
omit [Base] in
theorem step_mach_ended {g : Goroutine} {w w' : World} {o : Outcome} (hr : g.status = .running) (hd : g.dying = none) (hof : g.offers = none) (h : (stepG P true g w).bare = .ended o w') : step P (mach g w) = .ended o w' := by
  obtain ⟨fr, cs₀, st, dy, of_⟩ := g
  cases hr; cases hd; cases hof
  exact step_lone_ended h

omit [Base] in
theorem Doomed.ended {fr : Frame} {c : List Frame} {w : World} (hn : ¬ Final bl (mach (G fr c) w)) (h : ∃ o w', (stepG P true (G fr c) w).bare = .ended o w') : Doomed P bl (mach (G fr c) w) := by
  obtain ⟨o, w', h⟩ := h
  intro n m' hm
  cases n with
  | zero => simp only [runN, Stepped.next.injEq] at hm; subst hm; exact hn
  | succ n => simp only [runN, step_mach_ended (g := G fr c) rfl rfl rfl h] at hm; cases hm
omit [Base] in
theorem Doomed.next {fr fr' : Frame} {c c' : List Frame} {w w' : World} (hn : ¬ Final bl (mach (G fr c) w)) (h : (stepG P true (G fr c) w).bare = .go (G fr' c') w') (hd : Doomed P bl (mach (G fr' c') w')) : Doomed P bl (mach (G fr c) w) := by
  intro n m' hm
  cases n with
  | zero => simp only [runN, Stepped.next.injEq] at hm; subst hm; exact hn
  | succ n => simp only [runN, step_mach (g := G fr c) (g' := G fr' c') rfl rfl rfl rfl rfl rfl h] at hm; exact hd n m' hm

omit [Base] in
theorem not_final_callers {fr : Frame} {c : List Frame} {w : World} (h : c ≠ [trap]) : ¬ Final bl (mach (G fr c) w) := by
  rintro ⟨tm, w', e⟩
  have : (mach (G fr c) w).gs[0]? = (mach (G (bl.at ⟨tm, []⟩ K0) [trap]) w').gs[0]? := by rw [e]
  simp only [mach, G, List.getElem?_toArray, List.getElem?_cons_zero, Option.some.injEq, Goroutine.mk.injEq] at this
  exact h this.2.1
omit [Base] in
theorem not_final_frame {fr : Frame} {c : List Frame} {w : World} (h : ∀ tm, fr ≠ bl.at ⟨tm, []⟩ K0) : ¬ Final bl (mach (G fr c) w) := by
  rintro ⟨tm, w', e⟩
  have : (mach (G fr c) w).gs[0]? = (mach (G (bl.at ⟨tm, []⟩ K0) [trap]) w').gs[0]? := by rw [e]
  simp only [mach, G, List.getElem?_toArray, List.getElem?_cons_zero, Option.some.injEq, Goroutine.mk.injEq] at this
  exact h tm this.1
omit [Base] in
theorem not_final_items {tm : Array Value} {x : Item} {items : List Item} {c : List Frame} {w : World} : ¬ Final bl (mach (G (bl.at ⟨tm, []⟩ (x :: items ++ K0)) c) w) :=
  not_final_frame fun tm' e => by
    have := congrArg (fun f => f.todo.length) e
    simp [Frame.at, K0] at this
omit [Base] in
theorem not_final_mode {fr : Frame} {m : FrameMode} {c : List Frame} {w : World} (h : m ≠ .run) : ¬ Final bl (mach (G { fr with mode := m } c) w) :=
  not_final_frame fun tm' e => by
    have := congrArg (·.mode) e
    exact h (by simpa [Frame.at] using this)

omit [Base] in
/-- Whoever comes back to the trap dies. -/
theorem doomed_trap {w : World} : Doomed P bl (mach (G trap []) w) :=
  Doomed.ended (not_final_callers (by simp)) (by
    exact ⟨_, _, by simp [stepG, stepG.exec, G, trap, K0]; exact ⟨rfl, rfl⟩⟩)
omit [Base] in
theorem doomed_raise {chain : List PanicEntry} {w : World} : Doomed P bl (mach (G { trap with mode := .panicking chain } []) w) :=
  Doomed.ended (not_final_callers (by simp)) (by
    exact ⟨_, _, by simp [stepG, G, trap, unwind, callDeferred]; exact ⟨rfl, rfl⟩⟩)
omit [Base] in
theorem trap_finish (v : Value) : trap.finish v = trap := rfl
omit [Base] in
/-- A base frame that is on its way out is doomed. -/
theorem doomed_ret {tm : Array Value} {todo : List Item} {w : World} (hk : bl.kind = .normal) : Doomed P bl (mach (G { bl.at ⟨tm, []⟩ todo with mode := .returning } [trap]) w) := by
  cases hf : P.funcs[bl.fn]? with
  | none =>
    refine Doomed.next (fr' := trap) (c' := []) (w' := w) (not_final_mode (by simp)) ?_ doomed_trap
    simp [stepG, unwind, doReturn, G, Frame.at, hk, hf, trap_finish]
  | some fn =>
    cases hr : (results fn tm).run P w with
    | ok v w' =>
      refine Doomed.next (fr' := trap) (c' := []) (w' := w') (not_final_mode (by simp)) ?_ doomed_trap
      simp [stepG, unwind, doReturn, G, Frame.at, hk, hf, hr, trap_finish]
    | halt h w' =>
      refine Doomed.ended (not_final_mode (by simp)) ?_
      cases h with
      | stuck s => exact ⟨_, _, by simp [stepG, unwind, doReturn, G, Frame.at, hk, hf, hr]; exact ⟨rfl, rfl⟩⟩
      | _ => exact ⟨_, _, by simp [stepG, unwind, doReturn, G, Frame.at, hk, hf, hr]; exact ⟨rfl, rfl⟩⟩
omit [Base] in
theorem doomed_panic {tm : Array Value} {todo : List Item} {chain : List PanicEntry} {w : World} : Doomed P bl (mach (G { bl.at ⟨tm, []⟩ todo with mode := .panicking chain } [trap]) w) := by
  cases hc : Frame.catches P { bl.at ⟨tm, []⟩ todo with mode := .panicking chain } with
  | true =>
    refine Doomed.ended (not_final_mode (by simp)) ?_
    simp only [Frame.at] at hc
    exact ⟨_, _, by simp [stepG, unwind, G, Frame.at, hc]; exact ⟨rfl, rfl⟩⟩
  | false =>
    refine Doomed.next (fr' := { trap with mode := .panicking chain }) (c' := []) (w' := w) (not_final_mode (by simp)) ?_ doomed_raise
    simp only [Frame.at] at hc
    simp [stepG, unwind, G, Frame.at, hc, Frame.raise, trap]
end

section
variable (P : Program) (S E : FuncId → Bool) (main : Bool) (bl ba : Frame) (ds : List Deferred) (k : List Item) (cs : List Frame) (rops : Array Oper) (rr : List Nat) (κ : List Item)

/-- One step of both, or the lone machine never comes to its end. -/
def StepOut (gl ga : Goroutine) (w g : World) : Prop := ∃ aq : List Nat,
  (∃ fr' c' g' ga' w' es, (∀ τ d, Feeds τ d aq → (stepG P true gl (re g τ d)).bare = .go (G fr' c') (re g' τ (d + aq.length))) ∧ stepG P main ga w = .go ga' w' es ∧ w'.tape = w.tape ∧ Sim w' g' ∧ Grow g g' ∧ (∀ e ∈ es, GoodEv g e) ∧ Rel P S E bl ba ds k cs rops rr κ (G fr' c') ga') ∨
  (∀ τ d, Feeds τ d aq → Doomed P bl (mach gl (re g τ d)))

/-- A frame that runs on top, in both. -/
structure Top (fl fa : Frame) (dsa : List Deferred) (κl κa : List Item) (Cl Ca : List Frame) : Prop where
  again : ∀ tm items, okItems P S E items → Rel P S E bl ba ds k cs rops rr κ (G (fl.at ⟨tm, []⟩ (items ++ κl)) Cl) (G (fa.at ⟨tm, dsa⟩ (items ++ κa)) Ca)
  nf : ∀ w tm x items, ¬ Final bl (mach (G (fl.at ⟨tm, []⟩ (x :: (items ++ κl))) Cl) w)
  ret : ∀ tm items, okItems P S E items → (∀ w, Doomed P bl (mach (G { fl.at ⟨tm, []⟩ (items ++ κl) with mode := .returning } Cl) w)) ∨ Rel P S E bl ba ds k cs rops rr κ (G { fl.at ⟨tm, []⟩ (items ++ κl) with mode := .returning } Cl) (G { fa.at ⟨tm, dsa⟩ (items ++ κa) with mode := .returning } Ca)
  panic : ∀ tm items chain, okItems P S E items → (∀ w, Doomed P bl (mach (G { fl.at ⟨tm, []⟩ (items ++ κl) with mode := .panicking chain } Cl) w)) ∨ Rel P S E bl ba ds k cs rops rr κ (G { fl.at ⟨tm, []⟩ (items ++ κl) with mode := .panicking chain } Cl) (G { fa.at ⟨tm, dsa⟩ (items ++ κa) with mode := .panicking chain } Ca)
  call : ∀ tm ops i r items, okItems P S E (.inRegion ops (i :: r) :: items) → Below P S E bl ba ds k cs rops rr κ (fl.at ⟨tm, []⟩ (.inRegion ops (i :: r) :: (items ++ κl)) :: Cl) (fa.at ⟨tm, dsa⟩ (.inRegion ops (i :: r) :: (items ++ κa)) :: Ca)
  exit : ∀ id items, exitTo id items = none → exitTo id (items ++ κl) = none
  goto : ∀ l items, gotoIn l items = none → gotoIn l (items ++ κl) = none
end

section
variable {P : Program} {S E : FuncId → Bool} {main : Bool} {bl ba : Frame} {ds : List Deferred} {k : List Item} {cs : List Frame} {rops : Array Oper} {rr : List Nat} {κ : List Item}
variable {fl fa : Frame} {dsa : List Deferred} {κl κa : List Item} {Cl Ca : List Frame}

/-- A move of control, the same in both. -/
theorem StepOut.ctl {tm : Array Value} {todo todo' : List Item} {items' : List Item} {w g : World} (hs : Sim w g)
    (hl : ∀ w, stepG P true (G (fl.at ⟨tm, []⟩ todo) Cl) w = .go (G (fl.at ⟨tm, []⟩ (items' ++ κl)) Cl) w) (ha : stepG P main (G (fa.at ⟨tm, dsa⟩ todo') Ca) w = .go (G (fa.at ⟨tm, dsa⟩ (items' ++ κa)) Ca) w)
    (hr : Rel P S E bl ba ds k cs rops rr κ (G (fl.at ⟨tm, []⟩ (items' ++ κl)) Cl) (G (fa.at ⟨tm, dsa⟩ (items' ++ κa)) Ca)) :
    StepOut P S E main bl ba ds k cs rops rr κ (G (fl.at ⟨tm, []⟩ todo) Cl) (G (fa.at ⟨tm, dsa⟩ todo') Ca) w g :=
  ⟨[], .inl ⟨_, _, g, _, w, #[], fun τ d _ => by rw [hl]; rfl, ha, rfl, hs, .refl g, by simp, hr⟩⟩

/-- A move that ends the lone machine. -/
theorem StepOut.dead {fr : Frame} {c : List Frame} {ga : Goroutine} {w g : World} (hn : ∀ w, ¬ Final bl (mach (G fr c) w)) (h : ∀ w, ∃ o w', (stepG P true (G fr c) w).bare = .ended o w') : StepOut P S E main bl ba ds k cs rops rr κ (G fr c) ga w g :=
  ⟨[], .inr fun τ d _ => Doomed.ended (hn _) (h _)⟩

/-- A move out of a frame: 'm' the new mode. -/
theorem StepOut.mode {tm : Array Value} {todoL todoA : List Item} {m : FrameMode} {w g : World} (hs : Sim w g) (hn : ∀ w, ¬ Final bl (mach (G (fl.at ⟨tm, []⟩ todoL) Cl) w))
    (hl : ∀ w, stepG P true (G (fl.at ⟨tm, []⟩ todoL) Cl) w = .go (G { fl.at ⟨tm, []⟩ todoL with mode := m } Cl) w) (ha : stepG P main (G (fa.at ⟨tm, dsa⟩ todoA) Ca) w = .go (G { fa.at ⟨tm, dsa⟩ todoA with mode := m } Ca) w)
    (hr : (∀ w, Doomed P bl (mach (G { fl.at ⟨tm, []⟩ todoL with mode := m } Cl) w)) ∨ Rel P S E bl ba ds k cs rops rr κ (G { fl.at ⟨tm, []⟩ todoL with mode := m } Cl) (G { fa.at ⟨tm, dsa⟩ todoA with mode := m } Ca)) :
    StepOut P S E main bl ba ds k cs rops rr κ (G (fl.at ⟨tm, []⟩ todoL) Cl) (G (fa.at ⟨tm, dsa⟩ todoA) Ca) w g := by
  rcases hr with hr | hr
  · exact ⟨[], .inr fun τ d _ => Doomed.next (hn _) (by rw [hl]; rfl) (hr _)⟩
  · exact ⟨[], .inl ⟨_, _, g, _, w, #[], fun τ d _ => by rw [hl]; rfl, ha, rfl, hs, .refl g, by simp, hr⟩⟩

theorem exec_step (hP : Plain P S E) (T : Top P S E bl ba ds k cs rops rr κ fl fa dsa κl κa Cl Ca) {tm : Array Value} {x : Item} {items : List Item} (hok : okItems P S E (x :: items)) {w g : World} (hs : Sim w g) :
    StepOut P S E main bl ba ds k cs rops rr κ (G (fl.at ⟨tm, []⟩ (x :: (items ++ κl))) Cl) (G (fa.at ⟨tm, dsa⟩ (x :: (items ++ κa))) Ca) w g := by
  have ht := hok.tail
  have hx := hok.head
  have nf := fun w => T.nf w tm x items
  cases x with
  | inBlock id => exact .ctl (items' := items) hs (fun _ => Go.Conc.stepG_inBlock) Go.Conc.stepG_inBlock (T.again _ _ ht)
  | inLoop c => exact .ctl (items' := .code c :: .inLoop c :: items) hs (fun _ => Go.Conc.stepG_inLoop) Go.Conc.stepG_inLoop (T.again _ _ (.cons hx hok))
  | inScope c => exact .ctl (items' := items) hs (fun _ => by simp [G, stepG, stepG.exec, Frame.at]) (by simp [G, stepG, stepG.exec, Frame.at]) (T.again _ _ ht)
  | code c =>
    cases c with
    | skip => exact .ctl (items' := items) hs (fun _ => Go.Conc.stepG_skip) Go.Conc.stepG_skip (T.again _ _ ht)
    | label l => exact .ctl (items' := items) hs (fun _ => Go.Conc.stepG_label) Go.Conc.stepG_label (T.again _ _ ht)
    | seq a b =>
      have hx' : (okCode P S E a && okCode P S E b) = true := hx
      rw [Bool.and_eq_true] at hx'
      exact .ctl (items' := .code a :: .code b :: items) hs (fun _ => Go.Conc.stepG_seq) Go.Conc.stepG_seq (T.again _ _ (.cons hx'.1 (.cons hx'.2 ht)))
    | block id c => exact .ctl (items' := .code c :: .inBlock id :: items) hs (fun _ => Go.Conc.stepG_block) Go.Conc.stepG_block (T.again _ _ (.cons hx (.cons trivial ht)))
    | loop c => exact .ctl (items' := .code c :: .inLoop c :: items) hs (fun _ => Go.Conc.stepG_loop) Go.Conc.stepG_loop (T.again _ _ (.cons hx (.cons hx ht)))
    | scope c => exact .ctl (items' := .code c :: .inScope c :: items) hs (fun _ => by simp [G, stepG, stepG.exec, Frame.at]) (by simp [G, stepG, stepG.exec, Frame.at]) (T.again _ _ (.cons hx (.cons hx ht)))
    | refuse why => exact .dead nf fun w => ⟨_, _, by simp [G, stepG, stepG.exec, Frame.at]; exact ⟨rfl, rfl⟩⟩
    | ret =>
      refine .mode (m := .returning) hs nf (fun w => ?_) ?_ (T.ret tm (.code .ret :: items) hok)
      · exact Go.Conc.stepG_ret'
      · exact Go.Conc.stepG_ret'
    | cond c a b =>
      have hx' : (okCode P S E a && okCode P S E b) = true := hx
      rw [Bool.and_eq_true] at hx'
      by_cases hb : ∃ t, (⟨tm, []⟩ : Act).eval c = .bool t
      · obtain ⟨t, hb⟩ := hb
        have hb' : (⟨tm, dsa⟩ : Act).eval c = .bool t := by rw [← hb]; cases c <;> rfl
        refine .ctl (items' := .code (if t then a else b) :: items) hs (fun _ => Go.Conc.stepG_cond hb) (Go.Conc.stepG_cond hb') (T.again _ _ (.cons ?_ ht))
        cases t
        · exact hx'.2
        · exact hx'.1
      · refine .dead nf fun w => ?_
        have he : (fl.at ⟨tm, []⟩ (.code (.cond c a b) :: (items ++ κl))).eval c = (⟨tm, []⟩ : Act).eval c := Frame.eval_at _ _ _ _
        simp only [Frame.at] at he
        cases e : (⟨tm, []⟩ : Act).eval c with
        | bool t => exact absurd ⟨t, e⟩ hb
        | _ => exact ⟨_, _, by simp [G, stepG, stepG.exec, Frame.at, he, e]; exact ⟨rfl, rfl⟩⟩
    | exit id =>
      cases e : exitTo id items with
      | some items' =>
        exact .ctl (items' := items') hs (fun _ => Go.Conc.stepG_exit (exit_app κl e)) (Go.Conc.stepG_exit (exit_app κa e)) (T.again _ _ (ht.exit e))
      | none =>
        have := T.exit id items e
        exact .dead nf fun w => ⟨_, _, by simp [G, stepG, stepG.exec, Frame.at, this]; exact ⟨rfl, rfl⟩⟩
    | goto l =>
      cases e : gotoIn l items with
      | some items' =>
        exact .ctl (items' := items') hs (fun _ => by simp [G, stepG, stepG.exec, Frame.at, goto_app κl e]) (by simp [G, stepG, stepG.exec, Frame.at, goto_app κa e]) (T.again _ _ (ht.goto e))
      | none =>
        have := T.goto l items e
        exact .dead nf fun w => ⟨_, _, by simp [G, stepG, stepG.exec, Frame.at, this]; exact ⟨rfl, rfl⟩⟩
    | rangeFunc f ps a b => exact absurd hx (by simp [okItem, okCode])
    | region id ops draw =>
      have hx' : ∀ o ∈ ops, okOp P S E o.op = true := fun o ho => by
        have hh : (ops.all fun o => okOp P S E o.op) = true := hx
        exact Array.all_eq_true_iff_forall_mem.1 hh o ho
      cases draw with
      | false => exact .ctl (items' := .inRegion ops (List.range ops.size) :: items) hs (fun _ => Go.Conc.stepG_region) Go.Conc.stepG_region (T.again _ _ (.cons hx' ht))
      | true =>
        refine ⟨[w.tape w.drawn (.order fa.fn id)], .inl ⟨_, _, g, _, _, #[], fun τ d hτ => ?_, step_draw, rfl, ⟨hs.size, hs.obj, hs.os, hs.output, hs.fresh, hs.old⟩, .refl g, by simp, T.again tm (.inRegion ops (Region.schedule (P.follows .mixedOrders) ops (w.tape w.drawn (.order fa.fn id))) :: items) (.cons hx' ht)⟩⟩
        have := hτ 0 (by simp) (.order fl.fn id)
        simp only [Nat.add_zero, List.getElem_cons_zero] at this
        rw [step_draw]
        simp only [re_tape, re_drawn, this]
        rfl
  | inRegion ops l =>
    have hx' : ∀ o ∈ ops, okOp P S E o.op = true := hx
    cases l with
    | nil => exact .ctl (items' := items) hs (fun _ => Go.Conc.stepG_region_end) Go.Conc.stepG_region_end (T.again _ _ ht)
    | cons i r =>
      have hr : ∀ tm', Rel P S E bl ba ds k cs rops rr κ (G (fl.at ⟨tm', []⟩ (.inRegion ops r :: items ++ κl)) Cl) (G (fa.at ⟨tm', dsa⟩ (.inRegion ops r :: items ++ κa)) Ca) := fun tm' => T.again tm' (.inRegion ops r :: items) (.cons hx' ht)
      have hput : ∀ (dst : Option Tmp) (v : Value) (dd : List Deferred), (⟨tm, dd⟩ : Act).put dst v = ⟨((⟨tm, []⟩ : Act).put dst v).tmps, dd⟩ := fun dst v dd => by cases dst <;> rfl
      by_cases hw : ((ops[i]?).map (Region.wanted · (yielded ops tm))).getD false = true
      · obtain ⟨o, ho, hw⟩ : ∃ o, ops[i]? = some o ∧ Region.wanted o (yielded ops tm) = true := by
          cases e : ops[i]? with
          | none => rw [e] at hw; simp at hw
          | some o => rw [e] at hw; exact ⟨o, rfl, by simpa using hw⟩
        have hoo := hx' o (Array.mem_of_getElem? ho)
        have hev : ∀ dd : List Deferred, (⟨tm, dd⟩ : Act).eval = (⟨tm, []⟩ : Act).eval := fun dd => by funext y; cases y <;> rfl
        obtain ⟨aq, res, hrun, hfit⟩ := c_exec hP ⟨tm, []⟩ o hoo w g hs
        have hlist : ∀ (h : Lists P (execOp (⟨tm, []⟩ : Act).eval o) w g), ∀ e ∈ (execOp (⟨tm, []⟩ : Act).eval o).events P w #[], GoodEv g e := fun ⟨new, h1, h2⟩ e he => h2 e (by rw [h1] at he; simpa using he)
        cases res with
        | ok y g' =>
          obtain ⟨hm, _, w', h1, h2, h3, h4, h5⟩ := hfit
          cases y with
          | value v =>
            obtain ⟨es, he1, he2⟩ := step_value (main := main) (b := fa) (a := ⟨tm, dsa⟩) (k := items ++ κa) (cs := Ca) (rest := r) ho hw (by rw [hev]; exact h1)
            refine ⟨aq, .inl ⟨fl.at ((⟨tm, []⟩ : Act).put o.dst v) (.inRegion ops r :: (items ++ κl)), Cl, g', _, w', es, fun τ d hτ => ?_, he2, h2, h3, h4, fun e he => hlist h5 e (by have := he1 e he; rwa [hev] at this), ?_⟩⟩
            · obtain ⟨es', _, he2'⟩ := step_value (main := true) (b := fl) (a := ⟨tm, []⟩) (k := items ++ κl) (cs := Cl) (rest := r) ho hw (hrun τ d hτ)
              rw [he2']; rfl
            · rw [hput _ _ dsa, hput _ _ []]; exact hr _
          | skip =>
            obtain ⟨es, he1, he2⟩ := step_none (main := main) (b := fa) (a := ⟨tm, dsa⟩) (k := items ++ κa) (cs := Ca) (rest := r) ho hw (by rw [hev]; exact h1)
            refine ⟨aq, .inl ⟨fl.at ((⟨tm, []⟩ : Act).put o.dst undef) (.inRegion ops r :: (items ++ κl)), Cl, g', _, w', es, fun τ d hτ => ?_, he2, h2, h3, h4, fun e he => hlist h5 e (by have := he1 e he; rwa [hev] at this), ?_⟩⟩
            · obtain ⟨es', _, he2'⟩ := step_none (main := true) (b := fl) (a := ⟨tm, []⟩) (k := items ++ κl) (cs := Cl) (rest := r) ho hw (hrun τ d hτ)
              rw [he2']; rfl
            · rw [hput _ _ dsa, hput _ _ []]; exact hr _
          | enter f args =>
            obtain ⟨fn, c, hf, _, hb, hc⟩ := hP.body f hm
            obtain ⟨es, he1, he2⟩ := step_enter (main := main) (b := fa) (a := ⟨tm, dsa⟩) (k := items ++ κa) (cs := Ca) (rest := r) ho hw (by rw [hev]; exact h1)
            rw [Go.Conc.enter_at args hf hb] at he2
            refine ⟨aq, .inl ⟨(base f).at ⟨args ++ Array.replicate (fn.ntmps - args.size) undef, []⟩ [.code c], fl.at ⟨tm, []⟩ (.inRegion ops (i :: r) :: (items ++ κl)) :: Cl, g', _, w', es, fun τ d hτ => ?_, he2, h2, h3, h4, fun e he => hlist h5 e (by have := he1 e he; rwa [hev] at this), ?_⟩⟩
            rotate_left
            · exact Rel.up .run f fn _ [.code c] _ _ hf (.cons hc .nil) (T.call tm ops i r items hok)
            · obtain ⟨es', _, he2'⟩ := step_enter (main := true) (b := fl) (a := ⟨tm, []⟩) (k := items ++ κl) (cs := Cl) (rest := r) ho hw (hrun τ d hτ)
              rw [he2', Go.Conc.enter_at args hf hb]; rfl
          | _ => exact hm.elim
        | halt h g' =>
          by_cases hp : ∃ v, h = .panic v
          · obtain ⟨v, rfl⟩ := hp
            obtain ⟨_, w', h1, h2, h3, h4, h5⟩ := hfit
            obtain ⟨es, he1, he2⟩ := step_panic (main := main) (b := fa) (a := ⟨tm, dsa⟩) (k := items ++ κa) (cs := Ca) (rest := r) ho hw (by rw [hev]; exact h1)
            have hl : ∀ τ d, Feeds τ d aq → (stepG P true (G (fl.at ⟨tm, []⟩ (.inRegion ops (i :: r) :: (items ++ κl))) Cl) (re g τ d)).bare = .go (G { fl.at ⟨tm, []⟩ (.inRegion ops (i :: r) :: (items ++ κl)) with mode := .panicking [{ v, recovered := false }] } Cl) (re g' τ (d + aq.length)) := fun τ d hτ => by
              obtain ⟨es', _, he2'⟩ := step_panic (main := true) (b := fl) (a := ⟨tm, []⟩) (k := items ++ κl) (cs := Cl) (rest := r) ho hw (hrun τ d hτ)
              rw [he2']; rfl
            rcases T.panic tm (.inRegion ops (i :: r) :: items) [{ v, recovered := false }] hok with hd | hrel
            · exact ⟨aq, .inr fun τ d hτ => Doomed.next (nf _) (hl τ d hτ) (hd _)⟩
            · exact ⟨aq, .inl ⟨_, _, g', _, w', es, hl, he2, h2, h3, h4, fun e he => hlist h5 e (by have := he1 e he; rwa [hev] at this), hrel⟩⟩
          · have hg : Gone h := by
              cases h <;> first | trivial | exact absurd ⟨_, rfl⟩ hp | exact hfit.elim
            exact ⟨aq, .inr fun τ d hτ => Doomed.ended (nf _) (step_gone hP.early ho hw (hrun τ d hτ) hg)⟩
      · have hw' : ((ops[i]?).map (Region.wanted · (yielded ops tm))).getD false = false := by simpa using hw
        have hl := fun (w : World) => step_absent (P := P) (main := true) (b := fl) (a := ⟨tm, []⟩) (k := items ++ κl) (cs := Cl) (w := w) (rest := r) hw'
        have ha := step_absent (P := P) (main := main) (b := fa) (a := ⟨tm, dsa⟩) (k := items ++ κa) (cs := Ca) (w := w) (rest := r) hw'
        refine ⟨[], .inl ⟨fl.at ((⟨tm, []⟩ : Act).put ((ops[i]?).bind (·.dst)) undef) (.inRegion ops r :: (items ++ κl)), Cl, g, _, w, #[], fun τ d _ => by rw [hl]; rfl, ha, rfl, hs, .refl g, by simp, ?_⟩⟩
        rw [hput _ _ dsa, hput _ _ []]; exact hr _
  | inRangeFunc l => exact hx.elim
  | endRangeFunc l => exact hx.elim
  | beginRound => exact hx.elim
  | call => exact hx.elim
  | extern => exact hx.elim
end

section
variable {P : Program} {S E : FuncId → Bool} {main : Bool} {bl ba : Frame} {ds : List Deferred} {k : List Item} {cs : List Frame} {rops : Array Oper} {rr : List Nat} {κ : List Item}

omit [Base] in
theorem top_base (hk : bl.kind = .normal) : Top P S E bl ba ds k cs rops rr κ bl ba ds K0 k [trap] cs where
  again tm items h := .base tm items h
  nf w tm x items := not_final_items
  ret tm items h := .inl fun w => doomed_ret hk
  panic tm items chain h := .inl fun w => doomed_panic
  call tm ops i r items h := .base tm ops i r items h
  exit id items h := exit_K0 h
  goto l items h := goto_K0 h

omit [Base] in
theorem below_two {l l' : List Frame} (h : Below P S E bl ba ds k cs rops rr κ l l') : l ≠ [trap] := by
  cases h with
  | base => simp
  | ret => simp
  | up f fn tm ops i r items l l' hf h hl =>
    intro e
    injection e with e1 e2
    subst e2
    cases hl

omit [Base] in
theorem top_up {f : FuncId} {fn : Func} (hf : P.funcs[f]? = some fn) {l l' : List Frame} (hl : Below P S E bl ba ds k cs rops rr κ l l') : Top P S E bl ba ds k cs rops rr κ (base f) (base f) [] [] [] l l' where
  again tm items h := by simp only [List.append_nil]; exact .up .run f fn tm items l l' hf h hl
  nf w tm x items := not_final_callers (below_two hl)
  ret tm items h := .inr (by simp only [List.append_nil]; exact .up .returning f fn tm items l l' hf h hl)
  panic tm items chain h := .inr (by simp only [List.append_nil]; exact .up (.panicking chain) f fn tm items l l' hf h hl)
  call tm ops i r items h := by simp only [List.append_nil]; exact .up f fn tm ops i r items l l' hf h hl
  exit id items h := by simpa using h
  goto l items h := by simpa using h

omit [Base] in
/-- Where a frame comes back with a value, or panics. -/
theorem below_cases {l l' : List Frame} (hl : Below P S E bl ba ds k cs rops rr κ l l') : ∃ c c' t t', l = c :: t ∧ l' = c' :: t' ∧ (∀ v, Rel P S E bl ba ds k cs rops rr κ (G (c.finish v) t) (G (c'.finish v) t')) ∧
    ∀ chain, (∀ w, Doomed P bl (mach (G (c.raise chain) t) w)) ∨ Rel P S E bl ba ds k cs rops rr κ (G (c.raise chain) t) (G (c'.raise chain) t') := by
  cases hl with
  | base tm ops i r items h =>
    refine ⟨_, _, _, _, rfl, rfl, fun v => ?_, fun chain => .inl fun w => doomed_panic⟩
    rw [Frame.finish_at, Frame.finish_at]
    have e : (⟨tm, ds⟩ : Act).put ((ops[i]?).bind (·.dst)) v = ⟨((⟨tm, []⟩ : Act).put ((ops[i]?).bind (·.dst)) v).tmps, ds⟩ := by cases (ops[i]?).bind (·.dst) <;> rfl
    have e' : (⟨tm, []⟩ : Act).put ((ops[i]?).bind (·.dst)) v = ⟨((⟨tm, []⟩ : Act).put ((ops[i]?).bind (·.dst)) v).tmps, []⟩ := by cases (ops[i]?).bind (·.dst) <;> rfl
    rw [e, e']
    exact .base _ (.inRegion ops r :: items) (.cons h.head h.tail)
  | ret tm o i ho =>
    refine ⟨_, _, _, _, rfl, rfl, fun v => ?_, fun chain => .inl fun w => doomed_panic⟩
    rw [Frame.finish_at, Frame.finish_at]
    have e0 : ((#[o] : Array Oper)[0]?).bind (·.dst) = o.dst := rfl
    have e1 : (rops[i]?).bind (·.dst) = o.dst := by rw [ho]; rfl
    rw [e0, e1]
    have e : (⟨tm, ds⟩ : Act).put o.dst v = ⟨((⟨tm, []⟩ : Act).put o.dst v).tmps, ds⟩ := by cases o.dst <;> rfl
    have e' : (⟨tm, []⟩ : Act).put o.dst v = ⟨((⟨tm, []⟩ : Act).put o.dst v).tmps, []⟩ := by cases o.dst <;> rfl
    rw [e, e']
    exact .ret _ o
  | up f fn tm ops i r items l l' hf h hl =>
    refine ⟨_, _, _, _, rfl, rfl, fun v => ?_, fun chain => .inr ?_⟩
    · rw [Frame.finish_at]
      have e' : (⟨tm, []⟩ : Act).put ((ops[i]?).bind (·.dst)) v = ⟨((⟨tm, []⟩ : Act).put ((ops[i]?).bind (·.dst)) v).tmps, []⟩ := by cases (ops[i]?).bind (·.dst) <;> rfl
      rw [e']
      exact .up .run f fn _ (.inRegion ops r :: items) _ _ hf (.cons h.head h.tail) hl
    · exact .up (.panicking chain) f fn _ _ _ _ hf h hl

theorem rel_step (hP : Plain P S E) (hk : bl.kind = .normal) {gl ga : Goroutine} (hr : Rel P S E bl ba ds k cs rops rr κ gl ga) {w g : World} (hs : Sim w g) :
    StepOut P S E main bl ba ds k cs rops rr κ gl ga w g ∨ (∃ tm, gl = G (bl.at ⟨tm, []⟩ K0) [trap] ∧ ga = G (ba.at ⟨tm, ds⟩ k) cs) ∨
    (∃ tm o, gl = G (bl.at ⟨tm, []⟩ (.inRegion #[o] [] :: K0)) [trap] ∧ ga = G (ba.at ⟨tm, ds⟩ (.inRegion rops rr :: κ)) cs) := by
  cases hr with
  | base tm items h =>
    cases items with
    | nil => exact .inr (.inl ⟨tm, rfl, rfl⟩)
    | cons x items => exact .inl (exec_step hP (top_base hk) h hs)
  | ret tm o => exact .inr (.inr ⟨tm, o, rfl, rfl⟩)
  | up m f fn tm items l l' hf h hl =>
    left
    cases m with
    | run =>
      cases items with
      | cons x items =>
        have := exec_step (main := main) (tm := tm) hP (top_up hf hl) h hs
        simp only [List.append_nil] at this
        exact this
      | nil =>
        refine ⟨[], .inl ⟨_, _, g, _, w, #[], fun τ d _ => ?_, Go.Conc.stepG_end (b := base f) (a := ⟨tm, []⟩), rfl, hs, .refl g, by simp, .up .returning f fn tm [] l l' hf h hl⟩⟩
        show (stepG P true (G ((base f).at ⟨tm, []⟩ []) l) (re g τ d)).bare = _
        rw [Go.Conc.stepG_end]; rfl
    | returning =>
      obtain ⟨c, c', t, t', rfl, rfl, hfin, _⟩ := below_cases hl
      obtain ⟨aq, res, hrun, hfit⟩ := c_results (P := P) fn tm w g hs
      have hfn : P.funcs[(base f).fn]? = some fn := hf
      cases res with
      | ok v g' =>
        obtain ⟨_, _, w', h1, h2, h3, h4, new, h5, h6⟩ := hfit
        have hst : ∀ (mn : Bool) (x : World) (x' : World) (c₀ : Frame) (t₀ : List Frame), (results fn tm).run P x = .ok v x' → stepG P mn (G { (base f).at ⟨tm, []⟩ items with mode := .returning } (c₀ :: t₀)) x = .go (G (c₀.finish v) t₀) x' (seen P f ((results fn tm).events P x #[])) := fun mn x x' c₀ t₀ e => by
          simp [G, stepG, unwind, doReturn, Frame.at, base, hf, e, GStep.after]
        refine ⟨aq, .inl ⟨_, _, g', _, w', _, fun τ d hτ => ?_, hst main w w' c' t' h1, h2, h3, h4, fun e he => h6 e ?_, hfin v⟩⟩
        · rw [hst true (re g τ d) _ c t (hrun τ d hτ)]; rfl
        · have := Go.Conc.mem_seen he
          rw [h5] at this; simpa using this
      | halt hh g' =>
        refine ⟨aq, .inr fun τ d hτ => Doomed.ended (not_final_callers (below_two hl)) ?_⟩
        have e := hrun τ d hτ
        cases hh with
        | stuck s => exact ⟨_, _, by simp [G, stepG, unwind, doReturn, Frame.at, base, hf, e, reR]; exact ⟨rfl, rfl⟩⟩
        | _ => exact ⟨_, _, by simp [G, stepG, unwind, doReturn, Frame.at, base, hf, e, reR]; exact ⟨rfl, rfl⟩⟩
    | panicking chain =>
      obtain ⟨c, c', t, t', rfl, rfl, _, hraise⟩ := below_cases hl
      have hst : ∀ (mn : Bool) (x : World) (c₀ : Frame) (t₀ : List Frame), stepG P mn (G { (base f).at ⟨tm, []⟩ items with mode := .panicking chain } (c₀ :: t₀)) x = .go (G (c₀.raise chain) t₀) x := fun mn x c₀ t₀ => by
        simp [G, stepG, unwind, Frame.at, base, Frame.catches, hf]
      rcases hraise chain with hd | hrel
      · exact ⟨[], .inr fun τ d _ => Doomed.next (not_final_callers (below_two hl)) (by rw [hst]; rfl) (hd _)⟩
      · exact ⟨[], .inl ⟨_, _, g, _, w, #[], fun τ d _ => by rw [hst]; rfl, hst main w c' t', rfl, hs, .refl g, by simp, hrel⟩⟩
end
end Go.Tre
