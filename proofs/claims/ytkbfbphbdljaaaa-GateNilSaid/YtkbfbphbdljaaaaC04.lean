/- Texts of one proof, joined: each says what it proves. Every premise stands in the statements. -/
import Derived.Test.YtkbfbphbdljaaaaA13
import Derived.Test.YtkbfbphbdljaaaaProg
import Derived.Test.YtkbfbphbdljaaaaRows
import Derived.Conc.LeavingOf
import Derived.Carry
/- From a walk to a row. Every premise stands in the statements. -/
set_option linter.unusedVariables false
set_option linter.unusedSimpArgs false
namespace Go.Proofs.Ytkbfbphbdljaaaa
open Go.Tre Go.RowKit
open Go.ChangeShapes Go.WideShapes Go.ChangeAt
theorem try_own : ownKnob Try.prog.godebug = none := by kernel_rfl
theorem try_laid : laidOutB Try.prog = true := by kernel_rfl
/-- From the walk to the run. -/
theorem ev_of {W : World} {Φ : Value → World → Prop} {f : FuncId} {args : Array Value} (h : ∀ [Base], Base.b0 = Base.w0.heap.size → Base.w0 = W → Okk Try.prog Φ 0 (Go.Conc.G (Frame.enter Try.prog f args .normal) []) W Own.none (fun _ => none)) :
    Ev Try.prog Φ (Go.Conc.solo (Go.Conc.G (Frame.enter Try.prog f args .normal) []) W) #[] :=
  letI : Base := ⟨W.heap.size, W⟩
  Okk.start rfl rfl (h rfl rfl)
/-- From the run to the row's end, one argument. -/
theorem close1 {H : Type} {enc : TypeId × Value → H} {s : ChangeSpec} {fn : Func} {f : FuncId} {W : World} {t : TypeId} {v : Value} {d : DataW H} {p : List MemPlace} (hp : fn.params = #[t]) (hr : fn.resultTypes = #[4]) (hs : s.vars = []) (hf1 : (s.fn H ([d] ++ [])).results = [.lit (.bool true)]) (hf2 : (s.fn H ([d] ++ [])).args = [d]) (hf3 : (s.fn H ([d] ++ [])).vars = [])
    (h4 : Try.prog.underlying 4 = some .bool) (hrd : Try.prog.readableRec t = true) (hrow : t < Try.prog.types.size) (hW' : DataW.Whole enc Try.prog fn.params.toList s.vars false W [v] [d] [] p) (h0 : DataW.Trod enc Try.prog W 0 (fun _ => true) true t v d p)
    (hev : Ev Try.prog (fun x w => x = .bool true ∧ AsOld W w) (Go.Conc.solo (Go.Conc.G (Frame.enter Try.prog f #[v] .normal) []) W) #[]) :
    ∃ M last o w' t', runNT Try.checked.prog (M + 1) (Go.Conc.solo (Go.Conc.G (Frame.enter Try.checked.prog f #[v] .normal) []) W) #[] = (.ended o w', t') ∧
        runN Try.checked.prog M (Go.Conc.solo (Go.Conc.G (Frame.enter Try.checked.prog f #[v] .normal) []) W) = .next last ∧ step Try.checked.prog last = .ended o w' ∧
        Conc.Good Try.checked.prog (fun x W' => s.post enc Try.prog fn false true false false W #[v] x W') last o w' t' := by
  have hlt : ∀ x ∈ p, x.block < W.heap.size := fun x hx => by simpa using hW'.lt x hx
  obtain ⟨M, last, o, w', t', e1, e2, e3, e4⟩ := hev
  refine ⟨M, last, o, w', t', e1, e2, e3, e4.mono fun x hF => ?_⟩
  obtain ⟨rfl, hold⟩ := hF
  refine ⟨[d], [], p, [], p, [], hW', ?_, ?_, ?_, hold.frame _, fun h => by cases h⟩
  · rw [hf1, hr]; exact trodAll_mk1 (shut_bool h4 true)
  · rw [hf2, hp]
    exact trodAll_mk1 (WideElems.Trod_stays try_laid hrd hrow h0 (fun x hx => hold.same (hlt x hx)) (fun x hx => by simpa using hlt x hx))
  · rw [hf3, hs]; rfl
/-- .. two arguments. -/
theorem close2 {H : Type} {enc : TypeId × Value → H} {s : ChangeSpec} {fn : Func} {f : FuncId} {W : World} {t t₂ : TypeId} {v v₂ : Value} {d d₂ : DataW H} {p p₂ : List MemPlace} (hp : fn.params = #[t, t₂]) (hr : fn.resultTypes = #[4]) (hs : s.vars = []) (hf1 : (s.fn H ([d, d₂] ++ [])).results = [.lit (.bool true)]) (hf2 : (s.fn H ([d, d₂] ++ [])).args = [d, d₂]) (hf3 : (s.fn H ([d, d₂] ++ [])).vars = [])
    (h4 : Try.prog.underlying 4 = some .bool) (hrd : Try.prog.readableRec t = true) (hrow : t < Try.prog.types.size) (hrd₂ : Try.prog.readableRec t₂ = true) (hrow₂ : t₂ < Try.prog.types.size) (hW' : DataW.Whole enc Try.prog fn.params.toList s.vars false W [v, v₂] [d, d₂] [] (p ++ p₂)) (h0 : DataW.Trod enc Try.prog W 0 (fun _ => true) true t v d p) (h0₂ : DataW.Trod enc Try.prog W 0 (fun _ => true) true t₂ v₂ d₂ p₂)
    (hev : Ev Try.prog (fun x w => x = .bool true ∧ AsOld W w) (Go.Conc.solo (Go.Conc.G (Frame.enter Try.prog f #[v, v₂] .normal) []) W) #[]) :
    ∃ M last o w' t', runNT Try.checked.prog (M + 1) (Go.Conc.solo (Go.Conc.G (Frame.enter Try.checked.prog f #[v, v₂] .normal) []) W) #[] = (.ended o w', t') ∧
        runN Try.checked.prog M (Go.Conc.solo (Go.Conc.G (Frame.enter Try.checked.prog f #[v, v₂] .normal) []) W) = .next last ∧ step Try.checked.prog last = .ended o w' ∧
        Conc.Good Try.checked.prog (fun x W' => s.post enc Try.prog fn false true false false W #[v, v₂] x W') last o w' t' := by
  have hlt : ∀ x ∈ p ++ p₂, x.block < W.heap.size := fun x hx => by simpa using hW'.lt x hx
  have l1 : ∀ x ∈ p, x.block < W.heap.size := fun x hx => hlt x (List.mem_append_left _ hx)
  have l2 : ∀ x ∈ p₂, x.block < W.heap.size := fun x hx => hlt x (List.mem_append_right _ hx)
  obtain ⟨M, last, o, w', t', e1, e2, e3, e4⟩ := hev
  refine ⟨M, last, o, w', t', e1, e2, e3, e4.mono fun x hF => ?_⟩
  obtain ⟨rfl, hold⟩ := hF
  refine ⟨[d, d₂], [], p ++ p₂, [], p ++ p₂, [], hW', ?_, ?_, ?_, hold.frame _, fun h => by cases h⟩
  · rw [hf1, hr]; exact trodAll_mk1 (shut_bool h4 true)
  · rw [hf2, hp]
    exact trodAll_mk2 (WideElems.Trod_stays try_laid hrd hrow h0 (fun x hx => hold.same (l1 x hx)) (fun x hx => by simpa using l1 x hx)) (WideElems.Trod_stays try_laid hrd₂ hrow₂ h0₂ (fun x hx => hold.same (l2 x hx)) (fun x hx => by simpa using l2 x hx))
  · rw [hf3, hs]; rfl
end Go.Proofs.Ytkbfbphbdljaaaa
