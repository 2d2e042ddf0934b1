/- Texts of one proof, joined: each says what it proves. Every premise stands in the statements. -/
import Derived.Test.YtkbfbphbdljaaaaProg
import Derived.WalkKit
import Derived.WalkSpells
import Derived.WalkLawsBesides
import Derived.Laws.LoneSync
/- atomic.Int64's methods, alone. Every premise stands in the statements. -/
set_option linter.unusedVariables false
set_option linter.unusedSimpArgs false
namespace Go.Proofs.Ytkbfbphbdljaaaa
open Go.RowKit
theorem n47 : (Try.f47.name == "runtime.NumGoroutine") = false := by kernel_rfl
theorem x47 : Extern.findNext Try.f47 = none := by kernel_rfl
theorem e47 : Extern.find Try.f47 = some (Extern.Atomic.loadT (.int .i64)) := by kernel_rfl
theorem x73 : Extern.findNext Try.f73 = none := by kernel_rfl
theorem e73 : Extern.find Try.f73 = some Extern.Atomic.storeT := by kernel_rfl
theorem x74 : Extern.findNext Try.f74 = none := by kernel_rfl
theorem e74 : Extern.find Try.f74 = some (Extern.Atomic.casT (.int .i64)) := by kernel_rfl
theorem x67 : Extern.findNext Try.f67 = none := by kernel_rfl
theorem e67 : Extern.find Try.f67 = some (Extern.Atomic.update (Op.intArith .add) .i64 true) := by kernel_rfl
set_option maxRecDepth 100000 in
set_option maxHeartbeats 1000000 in
theorem aload_calls (w : World) (b o : Nat) (x : Int) (h0 : w.cell? ⟨b, o, none⟩ = some (.int .i64 x)) :
    Calls Try.prog 16 #[.pointer (some ⟨b, o, none⟩)] w fun e w' => e = .returned (.int .i64 x) ∧ w' = w := by
  have hl := run_call_load Try.func47 n47 rfl x47 .i64 e47 h0
  go_enter Try.func16, Try.ntmps16
  go_wp2
  go_ret
  exact ⟨rfl, rfl⟩
set_option maxRecDepth 100000 in
set_option maxHeartbeats 1000000 in
theorem astore_calls (w : World) (b o : Nat) (u : Value) (y : Int) (h0 : w.cell? ⟨b, o, none⟩ = some u) (hz : w.frozen? ⟨b, o, none⟩ = false) :
    Calls Try.prog 42 #[.pointer (some ⟨b, o, none⟩), .int .i64 y] w fun e w' => e = .returned (.tuple #[]) ∧ w' = w.setCell ⟨b, o, none⟩ (.int .i64 y) := by
  have hl := run_call_store (k := .i64) (y := y) Try.func73 (by kernel_rfl) rfl x73 e73 h0 hz
  go_enter Try.func42, Try.ntmps42
  go_wp2
  go_end0
  exact ⟨rfl, rfl⟩
set_option maxRecDepth 100000 in
set_option maxHeartbeats 1000000 in
theorem acas_hit (w : World) (b o : Nat) (x y : Int) (h0 : w.cell? ⟨b, o, none⟩ = some (.int .i64 x)) (hz : w.frozen? ⟨b, o, none⟩ = false) :
    Calls Try.prog 43 #[.pointer (some ⟨b, o, none⟩), .int .i64 x, .int .i64 y] w fun e w' => e = .returned (.bool true) ∧ w' = w.setCell ⟨b, o, none⟩ (.int .i64 y) := by
  have hl := run_call_cas_hit (y := y) Try.func74 (by kernel_rfl) rfl x74 .i64 e74 h0 hz
  go_enter Try.func43, Try.ntmps43
  go_wp2
  go_ret
  exact ⟨rfl, rfl⟩
set_option maxRecDepth 100000 in
set_option maxHeartbeats 1000000 in
theorem acas_miss (w : World) (b o : Nat) (x z y : Int) (h0 : w.cell? ⟨b, o, none⟩ = some (.int .i64 x)) (hz : w.frozen? ⟨b, o, none⟩ = false) (hne : ¬ x = z) :
    Calls Try.prog 43 #[.pointer (some ⟨b, o, none⟩), .int .i64 z, .int .i64 y] w fun e w' => e = .returned (.bool false) ∧ w' = w := by
  have hl := run_call_cas_miss (y := y) Try.func74 (by kernel_rfl) rfl x74 .i64 e74 h0 hz hne
  go_enter Try.func43, Try.ntmps43
  go_wp2
  go_ret
  exact ⟨rfl, rfl⟩
set_option maxRecDepth 100000 in
set_option maxHeartbeats 1000000 in
theorem aadd_calls (w : World) (b o : Nat) (x y s : Int) (h0 : w.cell? ⟨b, o, none⟩ = some (.int .i64 x)) (hz : w.frozen? ⟨b, o, none⟩ = false) (hs : (Op.intArith .add .i64 x y).run Try.prog w = .ok (.int .i64 s) w) :
    Calls Try.prog 38 #[.pointer (some ⟨b, o, none⟩), .int .i64 y] w fun e w' => e = .returned (.int .i64 s) ∧ w' = w.setCell ⟨b, o, none⟩ (.int .i64 s) := by
  have hl := run_call_add Try.func67 (by kernel_rfl) rfl x67 .i64 e67 h0 hz hs
  go_enter Try.func38, Try.ntmps38
  go_wp2
  go_ret
  exact ⟨rfl, rfl⟩
end Go.Proofs.Ytkbfbphbdljaaaa
