/- Texts of one proof, joined: each says what it proves. Every premise stands in the statements. -/
import Derived.Test.YtkbfbphbdljaaaaA09
import Derived.Calls
/- The judgement by contracts of the lone machine: plain code, a call. Every premise stands in the statements. -/
set_option linter.unusedSimpArgs false
set_option linter.unusedVariables false
namespace Go.Tre
open Go.Conc (G base crowd)
section
variable [Base]
variable {P : Program} {Φ : Value → World → Prop} {h : Nat} {g : World} {Γ : Nat → Option Seat} {S E : FuncId → Bool}

/-- ████ PLAIN CODE, by a contract of the lone machine that holds on every tape. ████ -/
theorem Ok.code (hP : Plain P S E) {c : Code} (hc : okCode P S E c = true) {Q : Array Value → World → Prop} {ba : Frame} {tm : Array Value} {ds : List Deferred} {k : List Item} {cs : List Frame}
    (hwp : ∀ τ, c.wp P (fun e a' w' => e = .normal ∧ a'.defers = [] ∧ Q a'.tmps w') ⟨tm, []⟩ (re g τ 0))
    (hn : ∀ tm' g', Q tm' g' → Grow g g' → Ok P Φ h (G (ba.at ⟨tm', ds⟩ k) cs) g' Γ) : Ok P Φ h (G (ba.at ⟨tm, ds⟩ (.code c :: k)) cs) g Γ := by
  refine .rch fun w hs => ?_
  have hl : ∀ τ, ∃ n tm' g', runN P n (mach (G ((base 0).at ⟨tm, []⟩ ([.code c] ++ K0)) [trap]) (re g τ 0)) = .next (mach (G ((base 0).at ⟨tm', []⟩ K0) [trap]) g') ∧ Q tm' g' := by
    intro τ
    obtain ⟨e, a', w', ⟨rfl, hd, hq⟩, n, hr⟩ := hwp τ (base 0) K0 [trap]
    obtain ⟨tm', ds'⟩ := a'
    cases hd
    exact ⟨n, tm', w', hr, hq⟩
  refine Rch.mono (lift hP rfl hl (.base tm [.code c] (.cons hc .nil) : Rel P S E (base 0) ba ds k cs #[] [] k _ _) hs) fun a' w' hst => ?_
  obtain ⟨tm', g', hq, hs', hg, rfl | rfl⟩ := hst
  · exact ⟨g', hs', hg, hn tm' g' hq hg⟩
  · exact ⟨g', hs', hg, .ctl0 rfl (fun w => Go.Conc.stepG_region_end) (hn tm' g' hq hg)⟩

/-- ████ A CALL, by its contract. ████ -/
theorem Ok.call (hP : Plain P S E) {f : FuncId} {fn : Func} {c : Code} {args : Array Value} {R : Value → World → Prop} (hf : P.funcs[f]? = some fn) (hb : fn.body = some c) (hc : okCode P S E c = true)
    {ba : Frame} {tm : Array Value} {ds : List Deferred} {k : List Item} {cs : List Frame} {ops : Array Oper} {i : Nat} {r : List Nat} {o : Oper} (ho : ops[i]? = some o)
    (hcalls : ∀ τ, Calls P f args (re g τ 0) (fun e w' => ∃ v, e = .returned v ∧ R v w'))
    (hn : ∀ v g', R v g' → Grow g g' → Ok P Φ h (G (ba.at (Act.put ⟨tm, ds⟩ o.dst v) (.inRegion ops r :: k)) cs) g' Γ) :
    Ok P Φ h (G (Frame.enter P f args .normal) (ba.at ⟨tm, ds⟩ (.inRegion ops (i :: r) :: k) :: cs)) g Γ := by
  refine .rch fun w hs => ?_
  have hent := Go.Conc.enter_at (P := P) args hf hb
  have hl : ∀ τ, ∃ n tm' g', runN P n (mach (G (Frame.enter P f args .normal) [(base 0).at ⟨tm, []⟩ (.inRegion #[o] [0] :: K0), trap]) (re g τ 0)) = .next (mach (G ((base 0).at ⟨tm', []⟩ K0) [trap]) g') ∧ ∃ v, tm' = (Act.put ⟨tm, []⟩ o.dst v).tmps ∧ R v g' := by
    intro τ
    obtain ⟨e, w', fr, ⟨v, rfl, hR⟩, ⟨n, hr⟩, hfn, hlv⟩ := hcalls τ [(base 0).at ⟨tm, []⟩ (.inRegion #[o] [0] :: K0), trap]
    have h2 := step_leave_returned (cs := [trap]) (c := (base 0).at ⟨tm, []⟩ (.inRegion #[o] [0] :: K0)) hlv
    rw [Frame.finish_at] at h2
    have h3 : step P (lone ((base 0).at (Act.put ⟨tm, []⟩ o.dst v) (.inRegion #[o] [] :: K0)) [trap] w') = .next (lone ((base 0).at (Act.put ⟨tm, []⟩ o.dst v) K0) [trap] w') :=
      step_mach (g := G ((base 0).at (Act.put ⟨tm, []⟩ o.dst v) (.inRegion #[o] [] :: K0)) [trap]) (g' := G ((base 0).at (Act.put ⟨tm, []⟩ o.dst v) K0) [trap]) rfl rfl rfl rfl rfl rfl (by rw [Go.Conc.stepG_region_end]; rfl)
    refine ⟨n + 1 + 1, (Act.put ⟨tm, []⟩ o.dst v).tmps, w', ?_, v, rfl, hR⟩
    have h1 := runN_succ P n _ _ hr
    rw [h2] at h1
    have h4 := runN_succ P (n + 1) _ _ h1
    have e0 : ((#[o] : Array Oper)[0]?).bind (·.dst) = o.dst := rfl
    rw [e0, h3] at h4
    have e2 : (base 0).at ⟨(Act.put ⟨tm, []⟩ o.dst v).tmps, []⟩ K0 = (base 0).at (Act.put ⟨tm, []⟩ o.dst v) K0 := by cases hd : o.dst <;> rfl
    rw [e2]
    exact h4
  have hrel : Rel P S E (base 0) ba ds (.inRegion ops r :: k) cs ops r k (G (Frame.enter P f args .normal) [(base 0).at ⟨tm, []⟩ (.inRegion #[o] [0] :: K0), trap]) (G (Frame.enter P f args .normal) (ba.at ⟨tm, ds⟩ (.inRegion ops (i :: r) :: k) :: cs)) := by
    rw [hent]
    exact .up .run f fn _ [.code c] _ _ hf (.cons hc .nil) (.ret tm o i ho)
  refine Rch.mono (lift hP rfl hl hrel hs) fun a' w' hst => ?_
  obtain ⟨tm', g', ⟨v, rfl, hR⟩, hs', hg, hga⟩ := hst
  have e1 : ∀ K, ba.at ⟨(Act.put ⟨tm, []⟩ o.dst v).tmps, ds⟩ K = ba.at (Act.put ⟨tm, ds⟩ o.dst v) K := fun K => by
    cases hd : o.dst with
    | none => rfl
    | some d => rfl
  rw [e1] at hga
  rcases hga with rfl | rfl <;> exact ⟨g', hs', hg, hn v g' hR hg⟩
end
end Go.Tre

/- The judgement operation by operation. Every premise stands in the statements. -/
set_option linter.unusedSimpArgs false
set_option linter.unusedVariables false
namespace Go.Tre
open Go.Conc (G base crowd)
section
variable [Base]
variable {P : Program} {Φ : Value → World → Prop} {h : Nat} {g : World} {Γ : Nat → Option Seat} {S E : FuncId → Bool}

theorem Ok.re {a : Goroutine} {τ : Tape} {d : Nat} (hn : Ok P Φ h a (Tre.re g τ d) Γ) : Ok P Φ h a g Γ := .ghost (fun w hs => hs.right τ d) (fun i s _ _ hk => hk) hn
theorem Ok.re' {a : Goroutine} {τ : Tape} {d : Nat} (hn : Ok P Φ h a g Γ) : Ok P Φ h a (Tre.re g τ d) Γ := .ghost (g' := g) (fun w hs => ⟨hs.size, hs.obj, hs.os, hs.output, hs.fresh, hs.old⟩) (fun i s _ _ hk => hk) hn

/-- ONE OPERATION that yields a value. -/
theorem Ok.oper (hP : Plain P S E) {ba : Frame} {a : Act} {k : List Item} {cs : List Frame} {ops : Array Oper} {i : Nat} {r : List Nat} {o : Oper} (ho : ops[i]? = some o) (hok : okOp P S E o.op = true) (hw : Region.wanted o (yielded ops a.tmps) = true)
    {R : Value → World → Prop} (hl : ∀ τ, ∃ v g', (execOp a.eval o).run P (Tre.re g τ 0) = .ok (.value v) g' ∧ R v g')
    (hn : ∀ v g', R v g' → Grow g g' → Ok P Φ h (G (ba.at (a.put o.dst v) (.inRegion ops r :: k)) cs) g' Γ) : Ok P Φ h (G (ba.at a (.inRegion ops (i :: r) :: k)) cs) g Γ := by
  refine .rch fun w hs => Rch.step rfl fun d => ?_
  have hsd : Sim (w.at d) g := ⟨hs.size, hs.obj, hs.os, hs.output, hs.fresh, hs.old⟩
  obtain ⟨aq, x, hx, hfit⟩ := c_exec hP a o hok (w.at d) g hsd
  obtain ⟨v, g', hg', hR⟩ := hl (feed aq)
  have h1 := hx (feed aq) 0 (feed_feeds aq)
  rw [hg'] at h1
  cases x with
  | halt hh g₀ => simp [reR] at h1
  | ok y g₀ =>
    simp only [reR, Result.ok.injEq] at h1
    obtain ⟨rfl, rfl⟩ := h1
    obtain ⟨_, _, w', hrun, _, hs', hg, new, hnew, hev⟩ := hfit
    obtain ⟨es, hes, hst⟩ := step_value (main := h == 0) (b := ba) (k := k) (cs := cs) (rest := r) ho hw hrun
    refine ⟨_, w', es, hst, ⟨fun e he => ?_, fun x hx => ?_, fun c cap buf cl s rr t e => ?_, ?_⟩, .stop fun d' => ⟨Tre.re g₀ (feed aq) (0 + aq.length), ⟨hs'.size, hs'.obj, hs'.os, hs'.output, hs'.fresh, hs'.old⟩, ⟨hg.frozen, hg.chan, hg.size, hg.rng⟩, hn _ _ hR ⟨hg.frozen, hg.chan, hg.size, hg.rng⟩⟩⟩
    · have := hes e he
      rw [hnew] at this
      exact hev e (by simpa using this)
    · rw [← hs'.cell?, ← hsd.cell?]; exact (hg.frozen x hx).2
    · exact hs'.other (hg.chan c _ _ _ _ _ _ (hsd.chan e)) (by simp)
    · rw [← hs'.size, ← hsd.size]; exact hg.size
/-- .. that turns nothing. -/
theorem Ok.val (hP : Plain P S E) {ba : Frame} {a : Act} {k : List Item} {cs : List Frame} {ops : Array Oper} {i : Nat} {r : List Nat} {o : Oper} (ho : ops[i]? = some o) (hok : okOp P S E o.op = true) (hw : Region.wanted o (yielded ops a.tmps) = true)
    (v : Value) (hl : ∀ τ, (execOp a.eval o).run P (Tre.re g τ 0) = .ok (.value v) (Tre.re g τ 0))
    (hn : Ok P Φ h (G (ba.at (a.put o.dst v) (.inRegion ops r :: k)) cs) g Γ) : Ok P Φ h (G (ba.at a (.inRegion ops (i :: r) :: k)) cs) g Γ :=
  .oper hP ho hok hw (R := fun v' g' => v' = v ∧ ∃ τ d, g' = Tre.re g τ d) (fun τ => ⟨v, _, hl τ, rfl, τ, 0, rfl⟩) fun v' g' ⟨e, τ, d, e'⟩ _ => by subst e; subst e'; exact .re' hn

/-- ONE OPERATION that yields nothing. -/
theorem Ok.unit (hP : Plain P S E) {ba : Frame} {a : Act} {k : List Item} {cs : List Frame} {ops : Array Oper} {i : Nat} {r : List Nat} {o : Oper} (ho : ops[i]? = some o) (hok : okOp P S E o.op = true) (hw : Region.wanted o (yielded ops a.tmps) = true)
    {R : World → Prop} (hl : ∀ τ, ∃ g', (execOp a.eval o).run P (Tre.re g τ 0) = .ok .skip g' ∧ R g')
    (hn : ∀ g', R g' → Grow g g' → Ok P Φ h (G (ba.at (a.put o.dst undef) (.inRegion ops r :: k)) cs) g' Γ) : Ok P Φ h (G (ba.at a (.inRegion ops (i :: r) :: k)) cs) g Γ := by
  refine .rch fun w hs => Rch.step rfl fun d => ?_
  have hsd : Sim (w.at d) g := ⟨hs.size, hs.obj, hs.os, hs.output, hs.fresh, hs.old⟩
  obtain ⟨aq, x, hx, hfit⟩ := c_exec hP a o hok (w.at d) g hsd
  obtain ⟨g', hg', hR⟩ := hl (feed aq)
  have h1 := hx (feed aq) 0 (feed_feeds aq)
  rw [hg'] at h1
  cases x with
  | halt hh g₀ => simp [reR] at h1
  | ok y g₀ =>
    simp only [reR, Result.ok.injEq] at h1
    obtain ⟨rfl, rfl⟩ := h1
    obtain ⟨_, _, w', hrun, _, hs', hg, new, hnew, hev⟩ := hfit
    obtain ⟨es, hes, hst⟩ := step_none (main := h == 0) (b := ba) (k := k) (cs := cs) (rest := r) ho hw hrun
    refine ⟨_, w', es, hst, ⟨fun e he => ?_, fun x hx => ?_, fun c cap buf cl s rr t e => ?_, ?_⟩, .stop fun d' => ⟨Tre.re g₀ (feed aq) (0 + aq.length), ⟨hs'.size, hs'.obj, hs'.os, hs'.output, hs'.fresh, hs'.old⟩, ⟨hg.frozen, hg.chan, hg.size, hg.rng⟩, hn _ hR ⟨hg.frozen, hg.chan, hg.size, hg.rng⟩⟩⟩
    · have := hes e he
      rw [hnew] at this
      exact hev e (by simpa using this)
    · rw [← hs'.cell?, ← hsd.cell?]; exact (hg.frozen x hx).2
    · exact hs'.other (hg.chan c _ _ _ _ _ _ (hsd.chan e)) (by simp)
    · rw [← hs'.size, ← hsd.size]; exact hg.size
/-- A call's beginning. -/
theorem Ok.enter {ba : Frame} {a : Act} {k : List Item} {cs : List Frame} {ops : Array Oper} {i : Nat} {r : List Nat} {o : Oper} (ho : ops[i]? = some o) (hw : Region.wanted o (yielded ops a.tmps) = true)
    {f : FuncId} {args : Array Value} (hr : ∀ w, (execOp a.eval o).run P w = .ok (.enter f args) w) (he : ∀ w, (execOp a.eval o).events P w #[] = #[])
    (hn : Ok P Φ h (G (Frame.enter P f args .normal) (ba.at a (.inRegion ops (i :: r) :: k) :: cs)) g Γ) : Ok P Φ h (G (ba.at a (.inRegion ops (i :: r) :: k)) cs) g Γ :=
  .ctl rfl (fun w hs => by
    obtain ⟨es, h1, h2⟩ := step_enter (main := h == 0) (b := ba) (k := k) (cs := cs) (rest := r) ho hw (hr w)
    exact ⟨es, h2, fun e hx => by have := h1 e hx; rw [he] at this; simp at this⟩) hn
theorem Ok.regionEnd {ba : Frame} {a : Act} {k : List Item} {cs : List Frame} {ops : Array Oper} (hn : Ok P Φ h (G (ba.at a k) cs) g Γ) : Ok P Φ h (G (ba.at a (.inRegion ops [] :: k)) cs) g Γ := .ctl0 rfl (fun _ => Go.Conc.stepG_region_end) hn
theorem Ok.region {ba : Frame} {a : Act} {k : List Item} {cs : List Frame} {id : Nat} {ops : Array Oper} (hn : Ok P Φ h (G (ba.at a (.inRegion ops (List.range ops.size) :: k)) cs) g Γ) : Ok P Φ h (G (ba.at a (.code (.region id ops false) :: k)) cs) g Γ := .ctl0 rfl (fun _ => Go.Conc.stepG_region) hn
theorem Ok.seq {ba : Frame} {a : Act} {k : List Item} {cs : List Frame} {x y : Code} (hn : Ok P Φ h (G (ba.at a (.code x :: .code y :: k)) cs) g Γ) : Ok P Φ h (G (ba.at a (.code (.seq x y) :: k)) cs) g Γ := .ctl0 rfl (fun _ => Go.Conc.stepG_seq) hn
theorem Ok.skip {ba : Frame} {a : Act} {k : List Item} {cs : List Frame} (hn : Ok P Φ h (G (ba.at a k) cs) g Γ) : Ok P Φ h (G (ba.at a (.code .skip :: k)) cs) g Γ := .ctl0 rfl (fun _ => Go.Conc.stepG_skip) hn
theorem Ok.cond {ba : Frame} {a : Act} {k : List Item} {cs : List Frame} {c : Operand} {x y : Code} (t : Bool) (hc : a.eval c = .bool t) (hn : Ok P Φ h (G (ba.at a (.code (if t then x else y) :: k)) cs) g Γ) : Ok P Φ h (G (ba.at a (.code (.cond c x y) :: k)) cs) g Γ := .ctl0 rfl (fun _ => Go.Conc.stepG_cond hc) hn
theorem Ok.block {ba : Frame} {a : Act} {k : List Item} {cs : List Frame} {id : Nat} {x : Code} (hn : Ok P Φ h (G (ba.at a (.code x :: .inBlock id :: k)) cs) g Γ) : Ok P Φ h (G (ba.at a (.code (.block id x) :: k)) cs) g Γ := .ctl0 rfl (fun _ => Go.Conc.stepG_block) hn
theorem Ok.inBlock {ba : Frame} {a : Act} {k : List Item} {cs : List Frame} {id : Nat} (hn : Ok P Φ h (G (ba.at a k) cs) g Γ) : Ok P Φ h (G (ba.at a (.inBlock id :: k)) cs) g Γ := .ctl0 rfl (fun _ => Go.Conc.stepG_inBlock) hn
theorem Ok.loop {ba : Frame} {a : Act} {k : List Item} {cs : List Frame} {x : Code} (hn : Ok P Φ h (G (ba.at a (.code x :: .inLoop x :: k)) cs) g Γ) : Ok P Φ h (G (ba.at a (.code (.loop x) :: k)) cs) g Γ := .ctl0 rfl (fun _ => Go.Conc.stepG_loop) hn
theorem Ok.inLoop {ba : Frame} {a : Act} {k : List Item} {cs : List Frame} {x : Code} (hn : Ok P Φ h (G (ba.at a (.code x :: .inLoop x :: k)) cs) g Γ) : Ok P Φ h (G (ba.at a (.inLoop x :: k)) cs) g Γ := .ctl0 rfl (fun _ => Go.Conc.stepG_inLoop) hn
theorem Ok.exit {ba : Frame} {a : Act} {k k' : List Item} {cs : List Frame} {id : Nat} (he : exitTo id k = some k') (hn : Ok P Φ h (G (ba.at a k') cs) g Γ) : Ok P Φ h (G (ba.at a (.code (.exit id) :: k)) cs) g Γ := .ctl0 rfl (fun _ => Go.Conc.stepG_exit he) hn
theorem Ok.ret {ba : Frame} {a : Act} {k : List Item} {cs : List Frame} (hn : Ok P Φ h (G { ba.at a (.code .ret :: k) with mode := .returning } cs) g Γ) : Ok P Φ h (G (ba.at a (.code .ret :: k)) cs) g Γ := .ctl0 rfl (fun _ => Go.Conc.stepG_ret') hn
theorem Ok.fin {ba : Frame} {a : Act} {cs : List Frame} (hn : Ok P Φ h (G { ba.at a [] with mode := .returning } cs) g Γ) : Ok P Φ h (G (ba.at a []) cs) g Γ := .ctl0 rfl (fun _ => Go.Conc.stepG_end) hn
/-- It returns to its caller. -/
theorem Ok.leave {ba : Frame} {a : Act} {todo : List Item} {c : Frame} {cs : List Frame} {fn : Func} {v : Value} (hk : ba.kind = .normal) (hd : a.defers = []) (hf : P.funcs[ba.fn]? = some fn) (hr : ∀ w, (results fn a.tmps).run P w = .ok v w) (he : ∀ w, (results fn a.tmps).events P w #[] = #[])
    (hn : Ok P Φ h (G (c.finish v) cs) g Γ) : Ok P Φ h (G { ba.at a todo with mode := .returning } (c :: cs)) g Γ := .ctl0 rfl (fun w => Go.Conc.stepG_leave hk hd hf (hr w) (he w)) hn
end
end Go.Tre

/- The way to a seat, step by step; a send, a receive. Every premise stands in the statements. -/
set_option linter.unusedSimpArgs false
set_option linter.unusedVariables false
namespace Go.Tre
open Go.Conc (G base crowd rcase scase parked recvd listed)
open Go.ConcN (upd)
section
variable {P : Program} {main : Bool} {s : Seat}

theorem Way.ctl {n : Nat} {g g' : Goroutine} (hr : g.status = .running) (h : ∀ w, stepG P main g w = .go g' w #[]) (hn : Way P main s n g') : Way P main s (n + 1) g := .inr ⟨hr, fun w _ => ⟨g', #[], h w, by simp, hn⟩⟩
theorem Way.regionEnd {n : Nat} {b : Frame} {a : Act} {k : List Item} {cs : List Frame} {ops : Array Oper} (hn : Way P main s n (G (b.at a k) cs)) : Way P main s (n + 1) (G (b.at a (.inRegion ops [] :: k)) cs) := .ctl rfl (fun _ => Go.Conc.stepG_region_end) hn
theorem Way.region {n : Nat} {b : Frame} {a : Act} {k : List Item} {cs : List Frame} {id : Nat} {ops : Array Oper} (hn : Way P main s n (G (b.at a (.inRegion ops (List.range ops.size) :: k)) cs)) : Way P main s (n + 1) (G (b.at a (.code (.region id ops false) :: k)) cs) := .ctl rfl (fun _ => Go.Conc.stepG_region) hn
theorem Way.seq {n : Nat} {b : Frame} {a : Act} {k : List Item} {cs : List Frame} {x y : Code} (hn : Way P main s n (G (b.at a (.code x :: .code y :: k)) cs)) : Way P main s (n + 1) (G (b.at a (.code (.seq x y) :: k)) cs) := .ctl rfl (fun _ => Go.Conc.stepG_seq) hn
/-- An operation that reads still cells alone. -/
theorem Way.val {n : Nat} {b : Frame} {a : Act} {k : List Item} {cs : List Frame} {ops : Array Oper} {i : Nat} {r : List Nat} {o : Oper} (ho : ops[i]? = some o) (hw : Region.wanted o (yielded ops a.tmps) = true) (v : Value)
    (hr : ∀ w, s.rely w → (execOp a.eval o).run P w = .ok (.value v) w) (he : ∀ w, s.rely w → ∀ e ∈ (execOp a.eval o).events P w #[], EvS s e)
    (hn : Way P main s n (G (b.at (a.put o.dst v) (.inRegion ops r :: k)) cs)) : Way P main s (n + 1) (G (b.at a (.inRegion ops (i :: r) :: k)) cs) :=
  .inr ⟨rfl, fun w hw' => by
    obtain ⟨es, h1, h2⟩ := step_value (main := main) (b := b) (k := k) (cs := cs) (rest := r) ho hw (hr w hw')
    exact ⟨_, es, h2, fun e hx => he w hw' e (h1 e hx), hn⟩⟩
/-- It stands at its receive. -/
theorem Way.recv {n : Nat} {b : Frame} {a : Act} {k : List Item} {cs : List Frame} {ops : Array Oper} {i : Nat} {r : List Nat} {o : Oper} (ho : ops[i]? = some o) (hw : Region.wanted o (yielded ops a.tmps) = true) (hk : b.kind ≠ .early)
    (hr : ∀ w, (execOp a.eval o).run P w = .ok (.comm #[rcase s.c s.z] true (.recv false)) w) (he : ∀ w, (execOp a.eval o).events P w #[] = #[])
    (hh : s.home (G (b.at a (.inRegion ops (i :: r) :: k)) cs)) : Way P main s n (G (b.at a (.inRegion ops (i :: r) :: k)) cs) := by
  have : AtR P main s (G (b.at a (.inRegion ops (i :: r) :: k)) cs) (G (b.at a (.inRegion ops (i :: r) :: k)) cs) :=
    ⟨rfl, rfl, rfl, rfl, hh, #[], by simp, fun w _ => by
      rw [Go.Conc.stepG_comm ho hw hk (hr w)]
      unfold listed
      rw [he w]; simp [seen]; rfl⟩
  cases n with
  | zero => exact ⟨_, this⟩
  | succ n => exact .inl ⟨_, this⟩
theorem Way.idle {n i : Nat} {T : Trace} {g : Goroutine} (h : Way P (i == 0) s n g) : Idle P T i (n + 1) g (some s) := .inl ⟨n, rfl, h⟩
end

section
variable [Base]
variable {P : Program} {Φ : Value → World → Prop} {h : Nat} {g : World} {Γ : Nat → Option Seat}
/-- ████ A SEND, by which the token passes to j. ████ -/
theorem Ok.send {b : Frame} {a : Act} {k : List Item} {cs : List Frame} {ops : Array Oper} {i : Nat} {r : List Nat} {o : Oper} (ho : ops[i]? = some o) (hw : Region.wanted o (yielded ops a.tmps) = true) (hk : b.kind ≠ .early) {j : Nat} {s : Seat} {v z' : Value}
    (hr : ∀ w, (execOp a.eval o).run P w = .ok (.comm #[scase s.c v z'] true .send) w) (he : ∀ w, (execOp a.eval o).events P w #[] = #[])
    (hj : Γ j = some s) (hjh : j ≠ h) {kk : Nat} (hc : g.heap[s.c]? = some (.chan 0 #[] false kk kk false))
    {g' : World} {S' : Option Seat} {nh : Nat} (hafter : ∀ T', Go.Conc.Deaf T' h = 0 → Idle P T' h nh (G (b.at (a.put o.dst undef) (.inRegion ops r :: k)) cs) S')
    (hg : ∀ w, Sim w g → Sim w g') (hkeep : ∀ i s', i ≠ h → i ≠ j → Γ i = some s' → s'.keeps g → s'.keeps g') (hkeep' : ∀ s', S' = some s' → s'.keeps g')
    (hchan : ∀ s', S' = some s' → (∃ k, g.heap[s'.c]? = some (.chan 0 #[] false k k false)) ∧ ∀ i s₂, i ≠ h → i ≠ j → Γ i = some s₂ → s₂.c ≠ s'.c)
    (hn : ∀ g₂, s.home g₂ → s.keeps g → Ok P Φ j (Go.Conc.served g₂ v) (g'.setChan s.c 0 #[] false (kk + 1) (kk + 1) false) (upd Γ h S')) : Ok P Φ h (G (b.at a (.inRegion ops (i :: r) :: k)) cs) g Γ := by
  refine .give hj hjh rfl (fun w _ => ?_) (es := #[]) (by simp) hc (a₂ := G (b.at a (.inRegion ops (i :: r) :: k)) cs) (S' := S') (nh := nh) (v := v) (z' := z') (fun T' hd => ?_) hg hkeep hkeep' hchan hn
  · rw [Go.Conc.stepG_comm ho hw hk (hr w)]
    unfold listed
    rw [he w]; simp [seen]
  · have := hafter T' hd
    have e : Go.Conc.served (G (b.at a (.inRegion ops (i :: r) :: k)) cs) undef = G (b.at (a.put o.dst undef) (.inRegion ops r :: k)) cs := by
      simp only [Go.Conc.served, G, Frame.finish_at, ho, Option.bind_some]
    rw [e]; exact this
end
end Go.Tre
