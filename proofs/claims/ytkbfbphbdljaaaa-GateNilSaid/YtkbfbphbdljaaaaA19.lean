/- Texts of one proof, joined: each says what it proves. Every premise stands in the statements. -/
import Derived.Test.YtkbfbphbdljaaaaA02
import Derived.Test.YtkbfbphbdljaaaaA18
import Derived.LoopTactic
import Derived.Below
/- gate's able: the threads that are ready (lone). Every premise stands in the statements. -/
set_option linter.unusedVariables false
set_option linter.unusedSimpArgs false
namespace Go.Proofs.Ytkbfbphbdljaaaa
open Go.Tre Go.RowKit
/-- The numbers below k at which rd holds. -/
def RL (rd : Nat → Bool) (k : Nat) : List Nat := (List.range k).filter rd
def allb (en : Nat → Bool) (k : Nat) : Bool := (List.range k).all en
theorem RL_yes {rd : Nat → Bool} {k : Nat} (h : rd k = true) : RL rd (k + 1) = RL rd k ++ [k] := by simp [RL, List.range_succ, List.filter_append, h]
theorem RL_no {rd : Nat → Bool} {k : Nat} (h : rd k = false) : RL rd (k + 1) = RL rd k := by simp [RL, List.range_succ, List.filter_append, h]
theorem RL_le (rd : Nat → Bool) (k : Nat) : (RL rd k).length ≤ k := by have := List.length_filter_le rd (List.range k); simpa [RL] using this
theorem allb_succ (en : Nat → Bool) (k : Nat) : allb en (k + 1) = (allb en k && en k) := by simp [allb, List.range_succ]
def ptrs (tp : Nat → Nat) (l : List Nat) : List Value := l.map fun i => .pointer (some ⟨tp i, 0, none⟩)
theorem ptrs_len (tp : Nat → Nat) (l : List Nat) : (ptrs tp l).length = l.length := by simp [ptrs]
theorem ptrs_snoc (tp : Nat → Nat) (l : List Nat) (k : Nat) : ptrs tp (l ++ [k]) = ptrs tp l ++ [.pointer (some ⟨tp k, 0, none⟩)] := by simp [ptrs]
theorem below_cells {W w1 : World} {B : Nat} (hb : Below B W w1) : ∀ b o, b < B → w1.cell? ⟨b, o, none⟩ = W.cell? ⟨b, o, none⟩ := fun b o h => hb.cell (p := ⟨b, o, none⟩) h
theorem below_drewN {W w1 : World} {B : Nat} (h : Below B W w1) (n : Nat) : Below B W (w1.drewN n) := ⟨h.os, h.tape, h.output, h.size, h.block⟩
set_option maxRecDepth 100000 in
set_option maxHeartbeats 2000000 in
theorem able_some (w : World) (rp sb cap n : Nat) (tp : Nat → Nat) (en rd : Nat → Bool) (hn : n ≤ 64) (hrp : rp < w.heap.size) (hsb : sb < w.heap.size) (htp : ∀ j, j < n → tp j < w.heap.size)
    (h0 : w.cell? ⟨rp, 0, none⟩ = some (.slice (some ⟨sb, 0, none⟩) n cap)) (hs : ∀ j, j < n → w.cell? ⟨sb, j, none⟩ = some (.pointer (some ⟨tp j, 0, none⟩)))
    (he : ∀ j, j < n → w.cell? ⟨tp j, 13, none⟩ = some (.bool (en j)))
    (hcan : ∀ j, j < n → ∀ w', Below w.heap.size w w' → Calls Try.prog 110 #[.pointer (some ⟨tp j, 0, none⟩)] w' fun e w'' => e = .returned (.bool (rd j)) ∧ ∃ k, w'' = w'.drewN k) :
    Calls Try.prog 76 #[.pointer (some ⟨rp, 0, none⟩)] w fun e w' => ∃ v, e = .returned (.tuple #[v, .bool (allb en n)]) ∧ w'.ownsRow w.heap.size 30 1 v (RL rd n).length (ptrs tp (RL rd n)) ∧ Below w.heap.size w w' := by
  obtain ⟨i30, hi30, z30, s30, b30⟩ := info30
  go_enter Try.func76, Try.ntmps76
  go_wp2
  go_loopw [2, 3, 11] (fun v o i wr => ∃ k : Nat, k ≤ n ∧ i = .int .i64 k ∧ o = .bool (allb en k) ∧ wr.ownsRow w.heap.size 30 1 v (RL rd k).length (ptrs tp (RL rd k)) ∧ Below w.heap.size w wr) (fun _ _ i _ => n - (intOf i).toNat)
  case atStart => exact ⟨0, Nat.zero_le _, rfl, rfl, World.ownsRow_nil _ _ _ _, Below.refl _ _⟩
  case round =>
    obtain ⟨k, hk, rfl, rfl, hown, hbel⟩ := hrel
    have hl64 := RL_le rd k
    have hsz := hbel.size
    by_cases hlt : k < n
    · have c1 : _ := (below_cells hbel sb k hsb).trans (hs k hlt)
      have c2 : _ := (below_cells hbel (tp k) 13 (htp k hlt)).trans (he k hlt)
      have hc := hcan k hlt wr hbel
      have hA := Lib.hid (allb_succ en k)
      clear hs he hcan htp h0
      cases hr : rd k with
      | true =>
        have hR := Lib.hid (RL_yes hr)
        rw [hr] at hc
        clear hr
        generalize hek : en k = ek at *
        generalize hoa : allb en k = oa at *
        have H2 := Lib.hid hoa
        have H3 := Lib.hid hek
        clear hoa hek
        cases ek <;> cases oa
        all_goals
          go_wp2_with (first | (go_at_call 110; refine hc.mono ?_; rintro e w' ⟨rfl, nq, rfl⟩) | (at_builtin; refine wpList_append_own _ rfl (.tmp 24) (.tmp 26) 50 rfl w.heap.size 30 i30 (.pointer none) 1 8 Try.underlying50 hi30 z30 s30 b30 rfl (by decide) _ _ _ rfl (World.ownsRow.alloc hown _) ⟨wr.heap.size, 0, none⟩ 1 1 [.pointer (some ⟨tp k, 0, none⟩)] rfl rfl (one_cell (wr.drewN nq) _ 30) (by simp [Value.oneCell']) (by simp only [maxLen]; omega) (by omega) (by rw [size_a]; exact Nat.le_succ_of_le hsz) ?_; intro v' w1 r1 r2 _))
          have hb1 : Below w.heap.size w w1 := ((below_drewN hbel nq).alloc (B := w.heap.size) hsz _).grown r2 (by rw [size_a]; exact Nat.le_succ_of_le hsz) (fun j hj => (hown.lt j hj).1)
          clear r2
          try go_wp2
          go_roundw
          case rel => exact ⟨k + 1, by omega, by go_num, by rw [hA.out]; rfl, by rw [hR.out, ptrs_snoc]; simpa using r1, hb1⟩
          case measure => simp [intOf]; omega
      | false =>
        have hR := Lib.hid (RL_no hr)
        rw [hr] at hc
        clear hr
        generalize hek : en k = ek at *
        generalize hoa : allb en k = oa at *
        clear hoa hek
        cases ek <;> cases oa
        all_goals
          go_wp2_with (go_at_call 110; refine hc.mono ?_; rintro e w' ⟨rfl, nq, rfl⟩)
          go_roundw
          case rel => exact ⟨k + 1, by omega, by go_num, by rw [hA.out]; rfl, by rw [hR.out]; exact hown, below_drewN hbel nq⟩
          case measure => simp [intOf]; omega
    · obtain rfl : k = n := by omega
      clear hs he hcan htp h0
      go_wp2
      go_ret2
      exact ⟨_, rfl, hown, hbel⟩
set_option maxRecDepth 100000 in
set_option maxHeartbeats 2000000 in
theorem able_none (w : World) (rp : Nat) (h0 : w.cell? ⟨rp, 0, none⟩ = some (.slice none 0 0)) :
    Calls Try.prog 76 #[.pointer (some ⟨rp, 0, none⟩)] w fun e w' => e = .returned (.tuple #[.slice none 0 0, .bool true]) ∧ w' = w := by
  go_enter Try.func76, Try.ntmps76
  go_wp2
  refine wp_loop_rounds 1 ?_
  rw [rounds_succ]
  go_wp2
  go_ret2
  exact ⟨rfl, rfl⟩
end Go.Proofs.Ytkbfbphbdljaaaa
