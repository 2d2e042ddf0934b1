/- Texts of one proof, joined: each says what it proves. Every premise stands in the statements. -/
import Derived.Test.YtkbfbphbdljaaaaProg
import Derived.WalkKit
import Derived.WalkSpells
import Derived.WalkLawsBesides
/- gate's Live and Number, alone. Every premise stands in the statements. -/
set_option linter.unusedVariables false
set_option linter.unusedSimpArgs false
namespace Go.Proofs.Ytkbfbphbdljaaaa
open Go.RowKit
set_option maxHeartbeats 1000000 in
theorem live_calls (w : World) (tp rp : Nat) (en : Bool) (h0 : w.cell? ⟨tp, 0, none⟩ = some (.pointer (some ⟨rp, 0, none⟩))) (h13 : w.cell? ⟨tp, 13, none⟩ = some (.bool en)) :
    Calls Try.prog 29 #[.pointer (some ⟨tp, 0, none⟩)] w fun e w' => e = .returned (.bool (!en)) ∧ w' = w := by
  go_enter Try.func29, Try.ntmps29
  go_wp2
  go_ret
  exact ⟨rfl, rfl⟩
set_option maxHeartbeats 1000000 in
theorem live_nil (w : World) : Calls Try.prog 29 #[.pointer none] w fun e w' => e = .returned (.bool false) ∧ w' = w := by
  go_enter Try.func29, Try.ntmps29
  go_wp2
  go_ret
  exact ⟨rfl, rfl⟩
set_option maxHeartbeats 1000000 in
theorem live_bare (w : World) (tp : Nat) (h0 : w.cell? ⟨tp, 0, none⟩ = some (.pointer none)) :
    Calls Try.prog 29 #[.pointer (some ⟨tp, 0, none⟩)] w fun e w' => e = .returned (.bool false) ∧ w' = w := by
  go_enter Try.func29, Try.ntmps29
  go_wp2
  go_ret
  exact ⟨rfl, rfl⟩
set_option maxHeartbeats 1000000 in
theorem number_calls (w : World) (tp rp : Nat) (n : Int) (h0 : w.cell? ⟨tp, 0, none⟩ = some (.pointer (some ⟨rp, 0, none⟩))) (h1 : w.cell? ⟨tp, 1, none⟩ = some (.int .i64 n)) (h13 : w.cell? ⟨tp, 13, none⟩ = some (.bool false)) :
    Calls Try.prog 37 #[.pointer (some ⟨tp, 0, none⟩)] w fun e w' => e = .returned (.int .i64 n) ∧ w' = w := by
  go_enter Try.func37, Try.ntmps37
  go_wp2_with (go_at_call 29; refine (live_calls w tp rp false h0 h13).mono ?_; rintro e w' ⟨rfl, rfl⟩)
  go_ret
  exact ⟨rfl, rfl⟩
set_option maxHeartbeats 1000000 in
theorem number_ended (w : World) (tp rp : Nat) (h0 : w.cell? ⟨tp, 0, none⟩ = some (.pointer (some ⟨rp, 0, none⟩))) (h13 : w.cell? ⟨tp, 13, none⟩ = some (.bool true)) :
    Calls Try.prog 37 #[.pointer (some ⟨tp, 0, none⟩)] w fun e w' => e = .returned (.int .i64 (-1)) ∧ w' = w := by
  go_enter Try.func37, Try.ntmps37
  go_wp2_with (go_at_call 29; refine (live_calls w tp rp true h0 h13).mono ?_; rintro e w' ⟨rfl, rfl⟩)
  go_ret
  exact ⟨rfl, rfl⟩
set_option maxHeartbeats 1000000 in
theorem number_nil (w : World) : Calls Try.prog 37 #[.pointer none] w fun e w' => e = .returned (.int .i64 (-1)) ∧ w' = w := by
  go_enter Try.func37, Try.ntmps37
  go_wp2_with (go_at_call 29; refine (live_nil w).mono ?_; rintro e w' ⟨rfl, rfl⟩)
  go_ret
  exact ⟨rfl, rfl⟩
set_option maxHeartbeats 1000000 in
theorem number_bare (w : World) (tp : Nat) (h0 : w.cell? ⟨tp, 0, none⟩ = some (.pointer none)) : Calls Try.prog 37 #[.pointer (some ⟨tp, 0, none⟩)] w fun e w' => e = .returned (.int .i64 (-1)) ∧ w' = w := by
  go_enter Try.func37, Try.ntmps37
  go_wp2_with (go_at_call 29; refine (live_bare w tp h0).mono ?_; rintro e w' ⟨rfl, rfl⟩)
  go_ret
  exact ⟨rfl, rfl⟩
end Go.Proofs.Ytkbfbphbdljaaaa
