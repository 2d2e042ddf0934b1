/- Texts of one proof, joined: each says what it proves. Every premise stands in the statements. -/
import Derived.Test.YtkbfbphbdljaaaaA11
import Derived.Conc.DeferLaws
/- Deferred calls, recover, unwinding, under the judgement. Every premise stands in the statements. -/
set_option linter.unusedSimpArgs false
set_option linter.unusedVariables false
namespace Go.Tre
open Go.Conc (G base baseD)
section
variable {P : Program} {main : Bool} {b c : Frame} {a : Act} {k : List Item} {cs : List Frame} {w : World} {ops : Array Oper} {i : Nat} {r : List Nat} {o : Oper}

theorem stepG_recoverV (hb : b.kind = .deferred) (hro : b.roundOf = none) (ho : ops[i]? = some o) (hw : Region.wanted o (yielded ops a.tmps) = true) (hr : (execOp a.eval o).run P w = .ok .recover w) (he : (execOp a.eval o).events P w #[] = #[]) {v : Value}
    (hc : c.mode = .panicking [{ v := v, recovered := false, goexit := false }]) :
    stepG P main (G (b.at a (.inRegion ops (i :: r) :: k)) (c :: cs)) w = .go (G (b.at (a.put o.dst v) (.inRegion ops r :: k)) ({ c with mode := .panicking [{ v := v, recovered := true }] } :: cs)) w #[] := by
  have hfin : (b.at a (.inRegion ops (i :: r) :: k)).finish v = b.at (a.put o.dst v) (.inRegion ops r :: k) := by rw [Frame.finish_at, ho]; rfl
  rw [Go.Conc.stepG_oper ho hw, ← hfin]
  simp [stepG.apply, hr, he, G, Frame.at, hb, hro, tryRecover, hc, GStep.after, seen]
theorem stepG_recoverN (hb : b.kind = .deferred) (hro : b.roundOf = none) (ho : ops[i]? = some o) (hw : Region.wanted o (yielded ops a.tmps) = true) (hr : (execOp a.eval o).run P w = .ok .recover w) (he : (execOp a.eval o).events P w #[] = #[])
    (hc : c.mode = .returning) :
    stepG P main (G (b.at a (.inRegion ops (i :: r) :: k)) (c :: cs)) w = .go (G (b.at (a.put o.dst .nilIface) (.inRegion ops r :: k)) (c :: cs)) w #[] := by
  have hfin : (b.at a (.inRegion ops (i :: r) :: k)).finish .nilIface = b.at (a.put o.dst .nilIface) (.inRegion ops r :: k) := by rw [Frame.finish_at, ho]; rfl
  rw [Go.Conc.stepG_oper ho hw, ← hfin]
  simp [stepG.apply, hr, he, G, Frame.at, hb, hro, tryRecover, hc, GStep.after, seen]
theorem stepG_deferV (hk : b.kind ≠ .early) (ho : ops[i]? = some o) (hw : Region.wanted o (yielded ops a.tmps) = true) {d : Deferred} (hr : (execOp a.eval o).run P w = .ok (.defer d) w) (he : (execOp a.eval o).events P w #[] = #[]) :
    stepG P main (G (b.at a (.inRegion ops (i :: r) :: k)) cs) w = .go (G (b.at (Act.put ⟨a.tmps, d :: a.defers⟩ o.dst undef) (.inRegion ops r :: k)) cs) w #[] := by
  have hfin : (b.at ⟨a.tmps, d :: a.defers⟩ (.inRegion ops (i :: r) :: k)).finish undef = b.at (Act.put ⟨a.tmps, d :: a.defers⟩ o.dst undef) (.inRegion ops r :: k) := by rw [Frame.finish_at, ho]; rfl
  have hk' : (b.kind == CallKind.early) = false := by simpa using hk
  rw [Go.Conc.stepG_oper ho hw, ← hfin]
  simp [stepG.apply, hr, he, G, Frame.at, hk', GStep.after, seen]
/-- A deferred call of a Go function begins. -/
theorem stepG_unwind {fr : Frame} {d : Deferred} {ds : List Deferred} {f : FuncId} {args caps : Array Value} (hm : fr.mode ≠ .run) (hd : fr.defers = d :: ds) (ht : d.target = .fn (.func f) caps)
    (hi : (invoke d.target d.args).run P w = .ok (.enter f args) w) (he : (invoke d.target d.args).events P w #[] = #[]) :
    stepG P main (G fr cs) w = .go (G (Frame.enter P f args .deferred) ({ fr with defers := ds } :: cs)) w #[] := by
  obtain ⟨t, aq⟩ := d
  cases ht
  simp only at hi he
  cases hmm : fr.mode with
  | run => exact absurd hmm hm
  | returning => simp [G, stepG, unwind, callDeferred, hd, hmm, hi, he, GStep.after, seen]
  | panicking chain => simp [G, stepG, unwind, callDeferred, hd, hmm, hi, he, GStep.after, seen]
/-- A deferred call's end, where the frame below returns. -/
theorem stepG_endDeferred {todo : List Item} {fn : Func} {v : Value} (hb : b.kind = .deferred) (hd : a.defers = []) (hf : P.funcs[b.fn]? = some fn) (hr : (results fn a.tmps).run P w = .ok v w) (he : (results fn a.tmps).events P w #[] = #[]) (hc : c.mode = .returning) :
    stepG P main (G { b.at a todo with mode := .returning } (c :: cs)) w = .go (G c cs) w #[] := by
  simp [G, stepG, unwind, doReturn, Frame.at, hb, hd, hf, hr, he, hc, seen, GStep.after]
/-- .. where its panic has been recovered. -/
theorem stepG_endRecovered {todo : List Item} {fn : Func} {v x : Value} (hb : b.kind = .deferred) (hd : a.defers = []) (hf : P.funcs[b.fn]? = some fn) (hr : (results fn a.tmps).run P w = .ok v w) (he : (results fn a.tmps).events P w #[] = #[]) (hc : c.mode = .panicking [{ v := x, recovered := true }]) :
    stepG P main (G { b.at a todo with mode := .returning } (c :: cs)) w = .go (G { c with mode := .returning } cs) w #[] := by
  simp [G, stepG, unwind, doReturn, Frame.at, hb, hd, hf, hr, he, hc, seen, GStep.after]
/-- A deferred call's end above the bottom of a goroutine (its own end stays on its way). -/
theorem stepG_endBottom {todo : List Item} {fn : Func} {v : Value} (hb : b.kind = .deferred) (hd : a.defers = []) (hf : P.funcs[b.fn]? = some fn) (hr : (results fn a.tmps).run P w = .ok v w) (he : (results fn a.tmps).events P w #[] = #[]) (hc : c.mode = .panicking [goexitEntry]) :
    stepG P main (G { b.at a todo with mode := .returning } (c :: cs)) w = .go (G c cs) w #[] := by
  simp [G, stepG, unwind, doReturn, Frame.at, hb, hd, hf, hr, he, hc, seen, GStep.after, goexitEntry]
/-- A goroutine's bottom frame ends it. -/
theorem stepG_bottom {fr : Frame} (hd : fr.defers = []) (hm : fr.mode = .panicking [goexitEntry]) (hc : fr.catches P = false) :
    stepG P main (G fr []) w = .go { frame := fr, callers := [], status := .finished, dying := none } w #[] := by
  simp [G, stepG, unwind, hd, hm, hc, goexitEntry]
end
end Go.Tre
