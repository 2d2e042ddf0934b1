/- Texts of one proof, joined: each says what it proves. Every premise stands in the statements. -/
import Derived.Test.YtkbfbphbdljaaaaA01
import Derived.Test.YtkbfbphbdljaaaaProg
import Derived.WalkKit
import Derived.Deep.QuietTactic
import Derived.BigQuiet
import Derived.Lib.Hide
/- gate's can: is a thread ready? (lone). Every premise stands in the statements. -/
set_option linter.unusedVariables false
set_option linter.unusedSimpArgs false
namespace Go.Proofs.Ytkbfbphbdljaaaa
open Go.RowKit
set_option maxRecDepth 100000 in
set_option maxHeartbeats 2000000 in
theorem can_ended (w : World) (tp : Nat) (h13 : w.cell? ⟨tp, 13, none⟩ = some (.bool true)) :
    Calls Try.prog 110 #[.pointer (some ⟨tp, 0, none⟩)] w fun e w' => e = .returned (.bool false) ∧ ∃ n, w' = w.drewN n := by
  go_enter Try.func110, Try.ntmps110
  go_wp2
  go_quiet (fail)
  go_wp2
  go_ret
  exact ⟨rfl, _, rfl⟩
set_option maxRecDepth 100000 in
set_option maxHeartbeats 2000000 in
theorem can_goes (w : World) (tp : Nat) (op : Int) (h13 : w.cell? ⟨tp, 13, none⟩ = some (.bool false)) (h6 : w.cell? ⟨tp, 6, none⟩ = some (.int .i8 op)) (hop : (op != 6) = true) :
    Calls Try.prog 110 #[.pointer (some ⟨tp, 0, none⟩)] w fun e w' => e = .returned (.bool true) ∧ ∃ n, w' = w.drewN n := by
  have hop2 : decide (op = 6) = false := by simpa using hop
  go_enter Try.func110, Try.ntmps110
  go_wp2
  go_quiet (fail)
  go_wp2
  go_ret
  exact ⟨rfl, _, rfl⟩
set_option maxRecDepth 100000 in
set_option maxHeartbeats 2000000 in
theorem can_parks (w : World) (tp vb vo : Nat) (x arg : Int) (h13 : w.cell? ⟨tp, 13, none⟩ = some (.bool false)) (h6 : w.cell? ⟨tp, 6, none⟩ = some (.int .i8 6)) (h4 : w.cell? ⟨tp, 4, none⟩ = some (.pointer (some ⟨vb, vo, none⟩))) (h8 : w.cell? ⟨tp, 8, none⟩ = some (.int .i64 arg)) (hv : w.cell? ⟨vb, vo, none⟩ = some (.int .i64 x)) (b : Bool) (hb : (x != arg) = b) :
    Calls Try.prog 110 #[.pointer (some ⟨tp, 0, none⟩)] w fun e w' => e = .returned (.bool b) ∧ ∃ n, w' = w.drewN n := by
  have hl := fun n => aload_calls (w.drewN n) vb vo x (by rw [World.cell?_drewN]; exact hv)
  go_enter Try.func110, Try.ntmps110
  go_wp2
  cases b with
  | true =>
    go_quiet ((go_at_call 16; exact Calls.quiet_of_same (aload_calls _ vb vo x (by first | exact hv | (simp only [World.cell?_drewN]; exact hv)))))
    go_wp2
    go_ret
    exact ⟨rfl, _, rfl⟩
  | false =>
    go_quiet ((go_at_call 16; exact Calls.quiet_of_same (aload_calls _ vb vo x (by first | exact hv | (simp only [World.cell?_drewN]; exact hv)))))
    go_wp2
    go_ret
    exact ⟨rfl, _, rfl⟩
end Go.Proofs.Ytkbfbphbdljaaaa
