/- Texts of one proof, joined: each says what it proves. Every premise stands in the statements. -/
import Derived.Test.YtkbfbphbdljaaaaB01
import Derived.Test.YtkbfbphbdljaaaaRows
import Derived.Conc.LeavingOf
import Derived.Carry
/- GateRounds: whatever the input, the law answers true, and the input reads as it did. Every premise stands in the statements. -/
set_option linter.unusedVariables false
set_option linter.unusedSimpArgs false
namespace Go.Proofs.Ytkbfbphbdljaaaa
open Go.Tre Go.RowKit
open Go.ChangeShapes Go.WideShapes Go.ChangeAt
theorem try_own : ownKnob Try.prog.godebug = none := by kernel_rfl
theorem try_laid : laidOutB Try.prog = true := by kernel_rfl
theorem try_cells5 : Try.prog.cellsOf 5 = 1 := by kernel_rfl
/-- From the walk to the run. -/
theorem ev_of {W : World} {Φ : Value → World → Prop} {f : FuncId} {args : Array Value} (h : ∀ [Base], Base.b0 = Base.w0.heap.size → Base.w0 = W → Okk Try.prog Φ 0 (Go.Conc.G (Frame.enter Try.prog f args .normal) []) W Own.none (fun _ => none)) :
    Ev Try.prog Φ (Go.Conc.solo (Go.Conc.G (Frame.enter Try.prog f args .normal) []) W) #[] :=
  letI : Base := ⟨W.heap.size, W⟩
  Okk.start rfl rfl (h rfl rfl)
set_option maxRecDepth 100000 in
theorem gateRounds_lifted (os : Os) (started : os.Started) (H : Type) (enc : TypeId × Value → H) :
    ReturnsInLeavingWide {} Try.checked os 3 .any (Rows.gateRoundsSpec.pre6 enc Try.prog Try.f3 Rows.gateRoundsRow.domain false) (Rows.gateRoundsSpec.post enc Try.prog Try.f3 false true false false) := by
  refine returnsInLeavingWide_of_change_sized (C := Try.checked) try_own started Try.func3
    (ChangeSpec.witness6 (enc := enc) (C := Try.checked) false ⟨#[], #[.slice none 0 0], []⟩ 8 (by kernel_rfl) (by kernel_rfl) (by kernel_rfl) (by kernel_rfl)) ?_
  intro W base args ds gs before hval0 hW _ _ _
  have hval : ∀ (j : Nat) t v, Try.f3.params[j]? = some t → args[j]? = some v → Value.okWide Try.prog W .any base t v := hval0
  have hW' := hW
  obtain ⟨p, q, hA0, hV, rfl, _, _⟩ := hW
  have hA : DataW.TrodAll enc Try.prog W 0 (fun _ => true) true Try.f3.params.toList args.toList ds p := hA0
  rw [Try.params3] at hA hval
  obtain ⟨v0, d0, rfl, rfl, h0⟩ := trodAll_one hA
  obtain ⟨rfl, rfl⟩ := trodVars_none hV
  obtain ⟨a0, len, cap, rfl⟩ := okWide_slice Try.underlying22 (hval 0 22 v0 rfl rfl)
  have h0k := h0
  obtain ⟨fuel, hf⟩ := h0
  clear hA0 hval0
  simp only [List.append_nil] at hW'
  have hlt : ∀ x ∈ p, x.block < W.heap.size := fun x hx => by simpa using hW'.lt x hx
  have close : ∀ (pb po : Nat) (ws : Nat → Nat), len ≤ maxLen → (0 < len → a0 = some ⟨pb, po, none⟩) → (∀ j, j < len → ws j < 256) → (∀ j, j < len → W.cell? ⟨pb, po + j, none⟩ = some (.int .u8 (ws j : Int))) →
      ∃ M last o w' t', runNT Try.checked.prog (M + 1) (Go.Conc.solo (Go.Conc.G (Frame.enter Try.checked.prog 3 #[.slice a0 len cap] .normal) []) W) #[] = (.ended o w', t') ∧
        runN Try.checked.prog M (Go.Conc.solo (Go.Conc.G (Frame.enter Try.checked.prog 3 #[.slice a0 len cap] .normal) []) W) = .next last ∧ step Try.checked.prog last = .ended o w' ∧
        Conc.Good Try.checked.prog (fun v W' => Rows.gateRoundsSpec.post enc Try.prog Try.f3 false true false false W #[.slice a0 len cap] v W') last o w' t' := by
    intro pb po ws hm ha h8 hws
    have hev : Ev Try.prog (fun x w => x = .bool true ∧ AsOld W w) (Go.Conc.solo (Go.Conc.G (Frame.enter Try.prog 3 #[.slice a0 len cap] .normal) []) W) #[] := by
      refine ev_of fun {B} hb hw => ?_
      subst hw
      exact gateRounds_ok a0 len cap pb po ws hb hm ha h8 hws
    obtain ⟨M, last, o, w', t', e1, e2, e3, e4⟩ := hev
    refine ⟨M, last, o, w', t', e1, e2, e3, e4.mono fun v hF => ?_⟩
    obtain ⟨rfl, hold⟩ := hF
    refine ⟨_, _, _, [], p, [], hW', ?_, ?_, rfl, hold.frame _, fun h => by cases h⟩
    · exact trodAll_mk1 (shut_bool Try.underlying4 true)
    · exact trodAll_mk1 (WideElems.Trod_stays try_laid (by kernel_rfl) (of_decide_eq_true (by kernel_rfl)) h0k (fun x hx => hold.same (hlt x hx)) (fun x hx => by simpa using hlt x hx))
  rcases open_ints Try.underlying22 Try.underlying5 try_cells5 hf with ⟨hcs, hx⟩ | ⟨a, len', cap', zs, hcs, _, hl, hm, hz, hx, hcell, hwz⟩
  · simp [Value.cells] at hcs
    obtain ⟨rfl, rfl, rfl⟩ := hcs
    exact close 0 0 (fun _ => 0) (Nat.zero_le _) (fun h => absurd h (Nat.lt_irrefl _)) (fun j h => absurd h (Nat.not_lt_zero _)) (fun j h => absurd h (Nat.not_lt_zero _))
  · simp [Value.cells] at hcs
    obtain ⟨rfl, rfl, rfl⟩ := hcs
    simp only [if_true] at hz
    obtain ⟨b, off, spot⟩ := a
    have hwf : ∀ j, j < len → 0 ≤ zs.getD j 0 ∧ zs.getD j 0 < 256 := fun j hj => by
      have hj' : j < zs.length := by omega
      have := hwz zs[j] (List.getElem_mem hj')
      have e : zs.getD j 0 = zs[j] := by simp [List.getElem?_eq_getElem hj']
      rw [e]
      simp [Lit.wf, IntKind.min, IntKind.max, IntKind.signed, IntKind.bits] at this
      omega
    refine close b off (fun j => (zs.getD j 0).toNat) (by omega) (fun h => ?_) (fun j hj => by have := hwf j hj; omega) (fun j hj => ?_)
    · have hsp : spot = none := by simpa [Addr.add] using World.cell?_spot (hcell 0 (by omega))
      rw [hsp]
    · have h1 := hcell j (by omega)
      have hsp : spot = none := by have := World.cell?_spot (hcell 0 (by omega)); simpa [Addr.add] using this
      subst hsp
      have h2 := hwf j hj
      have e : (((zs.getD j 0).toNat : Nat) : Int) = zs.getD j 0 := by omega
      have h3 : (⟨b, off, none⟩ : Addr).add j = ⟨b, off + j, none⟩ := by unfold Addr.add; split <;> simp_all
      rw [h3] at h1
      simp only [e]
      exact h1
theorem gateRounds_holds : Rows.GateRoundsSaid :=
  OpenClaim.holds_of_wide_leaving 3 Try.f3 rfl rfl rfl rfl rfl rfl rfl ⟨rfl, rfl, rfl, rfl, rfl⟩ rfl rfl rfl rfl rfl (by kernel_rfl) Try.func3 (by kernel_rfl)
    (of_decide_eq_true (by kernel_rfl)) (by unfold Func.isWrapper; first | (rw [if_pos (by decide +kernel)]; kernel_rfl) | (rw [if_neg (by decide +kernel)]; exact ⟨rfl, rfl⟩))
    (fun os started H enc _ => gateRounds_lifted os started H enc)
#print axioms gateRounds_holds
end Go.Proofs.Ytkbfbphbdljaaaa
