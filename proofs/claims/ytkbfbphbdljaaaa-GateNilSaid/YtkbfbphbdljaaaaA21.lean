/- Texts of one proof, joined: each says what it proves. Every premise stands in the statements. -/
import Derived.Test.YtkbfbphbdljaaaaA01
import Derived.Test.YtkbfbphbdljaaaaA20
import Derived.Test.YtkbfbphbdljaaaaA05
/- Which functions of the seat are plain. Every premise stands in the statements. -/
set_option linter.unusedVariables false
set_option linter.unusedSimpArgs false
namespace Go.Proofs.Ytkbfbphbdljaaaa
open Go.Tre Go.RowKit
theorem try_ahead : Try.prog.follows .staticDataAhead = true := by kernel_rfl
theorem try_ready : Try.prog.funcs.all (fun f => (f.body.map readies).all (·.isEmpty)) = true := by kernel_rfl
theorem try_step (g : Nat) : Try.prog.stepOf g = none := by
  have h := try_ready
  rw [Array.all_eq_true_iff_forall_mem] at h
  simp [Program.stepOf]
  intro x hx
  have := h x hx
  cases hb : x.body with
  | none => simp
  | some c =>
    rw [hb] at this
    simp at this
    simp [this]
theorem try_early (fr : Frame) (cs : List Frame) (g : Nat) (w : World) : ∃ o w', Go.early Try.prog fr cs none g w = .ended o w' := by
  have e : Go.early Try.prog fr cs none g w = .ended (.unsupported (.initOrder g) (fr.pos Try.prog)) w := by
    unfold Go.early
    simp [try_ahead, try_step]
  exact ⟨_, _, e⟩
/-- Functions of the seat that are plain: Live, Number, atomic.Int64's methods. -/
def plS (f : FuncId) : Bool := f == 29 || f == 37 || f == 16 || f == 42 || f == 43 || f == 38
def plE (f : FuncId) : Bool := f == 47 || f == 73 || f == 74 || f == 67
variable [Base]
theorem try_plain : Plain Try.prog plS plE where
  body := fun f hf => by
    simp only [plS, Bool.or_eq_true, beq_iff_eq] at hf
    rcases hf with ((((rfl | rfl) | rfl) | rfl) | rfl) | rfl
    · exact ⟨_, _, Try.func29, by kernel_rfl, rfl, by simp [okCode, okOp, plS, plE]⟩
    · exact ⟨_, _, Try.func37, by kernel_rfl, rfl, by simp [okCode, okOp, plS, plE]⟩
    · exact ⟨_, _, Try.func16, by kernel_rfl, rfl, by simp [okCode, okOp, plS, plE]⟩
    · exact ⟨_, _, Try.func42, by kernel_rfl, rfl, by simp [okCode, okOp, plS, plE]⟩
    · exact ⟨_, _, Try.func43, by kernel_rfl, rfl, by simp [okCode, okOp, plS, plE]⟩
    · exact ⟨_, _, Try.func38, by kernel_rfl, rfl, by simp [okCode, okOp, plS, plE]⟩
  ext := fun f hf => by
    simp only [plE, Bool.or_eq_true, beq_iff_eq] at hf
    rcases hf with ((rfl | rfl) | rfl) | rfl
    · exact ⟨_, _, Try.func47, n47, rfl, x47, e47, fun args => c_loadT _ args⟩
    · exact ⟨_, _, Try.func73, by kernel_rfl, rfl, x73, e73, fun args => c_storeT args⟩
    · exact ⟨_, _, Try.func74, by kernel_rfl, rfl, x74, e74, fun args => c_casT _ args⟩
    · exact ⟨_, _, Try.func67, by kernel_rfl, rfl, x67, e67, fun args => c_updateA _ _ args⟩
  early := try_early
end Go.Proofs.Ytkbfbphbdljaaaa
