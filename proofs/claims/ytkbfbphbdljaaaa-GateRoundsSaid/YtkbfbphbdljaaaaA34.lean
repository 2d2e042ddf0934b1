/- Texts of one proof, joined: each says what it proves. Every premise stands in the statements. -/
import Derived.Test.YtkbfbphbdljaaaaA22
import Derived.Deep.QuietTactic
import Derived.BigQuiet
import Derived.LoopTactic
import Derived.Lib.Hide
/- EqInts of two lists that hold the same. Every premise stands in the statements. -/
set_option linter.unusedVariables false
set_option linter.unusedSimpArgs false
namespace Go.Proofs.Ytkbfbphbdljaaaa
open Go.Tre Go.RowKit
set_option maxRecDepth 100000 in
set_option maxHeartbeats 2000000 in
theorem eqints_calls (w : World) (sa sb : Option Addr) (n ca cb ab ao bb bo : Nat) (xs : Nat → Int) (hn : n ≤ maxLen) (ha : 0 < n → sa = some ⟨ab, ao, none⟩) (hb : 0 < n → sb = some ⟨bb, bo, none⟩)
    (hx : ∀ j, j < n → w.cell? ⟨ab, ao + j, none⟩ = some (.int .i64 (xs j))) (hy : ∀ j, j < n → w.cell? ⟨bb, bo + j, none⟩ = some (.int .i64 (xs j))) :
    Calls Try.prog 15 #[.slice sa n ca, .slice sb n cb] w fun e w' => e = .returned (.bool true) ∧ ∃ m, w' = w.drewN m := by
  unfold maxLen at hn
  have HA := Lib.hid ha
  have HB := Lib.hid hb
  have HX := Lib.hid hx
  have HY := Lib.hid hy
  clear ha hb hx hy
  go_enter Try.func15, Try.ntmps15
  go_wp2
  go_loopw [5] (fun i wr => ∃ k m : Nat, k ≤ n ∧ i = .int .i64 (k : Int) ∧ wr = w.drewN m) (fun i _ => n - (intOf i).toNat)
  case atStart => exact ⟨0, 0, Nat.zero_le _, rfl, rfl⟩
  case round =>
    obtain ⟨k, m, hk, rfl, rfl⟩ := hrel
    by_cases hlt : k < n
    · obtain rfl := HA.out (by omega)
      obtain rfl := HB.out (by omega)
      have e1 := HX.out k hlt
      have e2 := HY.out k hlt
      have i0 : (0 : Int) ≤ (k : Int) := by omega
      have i1 : (k : Int) < (n : Int) := by omega
      go_wp2
      go_quiet (fail)
      go_wp2
      go_roundw
      case rel => exact ⟨k + 1, _, by omega, by go_num, rfl⟩
      case measure => simp [intOf]; omega
    · obtain rfl : k = n := by omega
      go_wp2
      go_ret
      exact ⟨rfl, m, rfl⟩
end Go.Proofs.Ytkbfbphbdljaaaa
