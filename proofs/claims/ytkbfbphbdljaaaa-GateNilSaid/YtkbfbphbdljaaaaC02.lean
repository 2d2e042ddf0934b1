/- Texts of one proof, joined: each says what it proves. Every premise stands in the statements. -/
import Derived.Test.YtkbfbphbdljaaaaA20
import Derived.Test.YtkbfbphbdljaaaaProg
/- gate's Is (lone). Every premise stands in the statements. -/
set_option linter.unusedVariables false
set_option linter.unusedSimpArgs false
namespace Go.Proofs.Ytkbfbphbdljaaaa
open Go.RowKit
theorem eql_stop (w : World) : (binOp .eql 20 (.iface 111 (.agg #[])) (.iface 111 (.agg #[]))).run Try.prog w = .ok (.bool true) w := by
  obtain ⟨n, hn⟩ : ∃ n, Op.maxDepth = n + 1 + 1 := ⟨Op.maxDepth - 2, by decide⟩
  have hc : Try.t111.comparable = true := by kernel_rfl
  simp [binOp, Op.equal, hn, Op.equalIn, go_sem, hc]
theorem eql_nil (w : World) : (binOp .eql 20 .nilIface (.iface 111 (.agg #[]))).run Try.prog w = .ok (.bool false) w := by
  obtain ⟨n, hn⟩ : ∃ n, Op.maxDepth = n + 1 + 1 := ⟨Op.maxDepth - 2, by decide⟩
  simp [binOp, Op.equal, hn, Op.equalIn, go_sem]
theorem eql_other (w : World) (t : TypeId) (v : Value) (ht : (t == 111) = false) : (binOp .eql 20 (.iface t v) (.iface 111 (.agg #[]))).run Try.prog w = .ok (.bool false) w := by
  obtain ⟨n, hn⟩ : ∃ n, Op.maxDepth = n + 1 + 1 := ⟨Op.maxDepth - 2, by decide⟩
  have h1 : ¬ t = 111 := by simpa using ht
  simp [binOp, Op.equal, hn, Op.equalIn, go_sem, h1]
set_option maxRecDepth 100000 in
set_option maxHeartbeats 1000000 in
theorem is_stop (w : World) : Calls Try.prog 24 #[.iface 111 (.agg #[])] w fun e w' => e = .returned (.bool true) ∧ w' = w := by
  have E := eql_stop
  go_enter Try.func24, Try.ntmps24
  go_wp2
  go_ret
  exact ⟨rfl, rfl⟩
set_option maxRecDepth 100000 in
set_option maxHeartbeats 1000000 in
theorem is_nil (w : World) : Calls Try.prog 24 #[.nilIface] w fun e w' => e = .returned (.bool false) ∧ w' = w := by
  have E := eql_nil
  go_enter Try.func24, Try.ntmps24
  go_wp2
  go_ret
  exact ⟨rfl, rfl⟩
set_option maxRecDepth 100000 in
set_option maxHeartbeats 1000000 in
theorem is_other (w : World) (t : TypeId) (v : Value) (ht : (t == 111) = false) : Calls Try.prog 24 #[.iface t v] w fun e w' => e = .returned (.bool false) ∧ w' = w := by
  have E := fun w => eql_other w t v ht
  go_enter Try.func24, Try.ntmps24
  go_wp2
  go_ret
  exact ⟨rfl, rfl⟩
end Go.Proofs.Ytkbfbphbdljaaaa
