/- Texts of one proof, joined: each says what it proves. Every premise stands in the statements. -/
import Derived.Test.YtkbfbphbdljaaaaProg
import Derived.WalkKit
import Derived.LoopTactic
import Derived.IntWalk
import Derived.Lib.Hide
/- Who goes: gate.Run's schedule (lone). Every premise stands in the statements. -/
set_option linter.unusedVariables false
set_option linter.unusedSimpArgs false
namespace Go.Proofs.Ytkbfbphbdljaaaa
open Go.RowKit
theorem tmod_lt (p : Int) (n : Nat) (hn : 0 < n) : -(n : Int) < p.tmod n ∧ p.tmod n < n := by
  have h1 := Int.tmod_lt_of_pos p (show (0 : Int) < n by omega)
  have h2 := Int.lt_tmod_of_pos p (show (0 : Int) < n by omega)
  omega
/-- The place of a pick among n. -/
def pickAt (p : Int) (n : Nat) : Nat := ((p.tmod n + n).tmod n).toNat
theorem pickAt_lt (p : Int) (n : Nat) (hn : 0 < n) : pickAt p n < n ∧ ((p.tmod n + n).tmod n) = (pickAt p n : Int) := by
  obtain ⟨h1, h2⟩ := tmod_lt p n hn
  have h0 : 0 ≤ p.tmod n + n := by omega
  have h3 := Int.tmod_nonneg (n : Int) h0
  obtain ⟨h4, h5⟩ := tmod_lt (p.tmod n + n) n hn
  unfold pickAt
  omega
set_option maxRecDepth 100000 in
set_option maxHeartbeats 2000000 in
theorem sched_pick (w : World) (pb rb pk po pl pc lb lo n lc turn : Nat) (tp : Nat → Nat) (p : Int) (hn : 0 < n) (hn64 : n ≤ 64) (ht : turn < pl) (hpl : pl ≤ maxLen) (hp : -9223372036854775808 ≤ p ∧ p < 9223372036854775808)
    (h0 : w.cell? ⟨pb, 0, none⟩ = some (.slice (some ⟨pk, po, none⟩) pl pc)) (h1 : w.cell? ⟨pk, po + turn, none⟩ = some (.int .i64 p))
    (hl : w.cell? ⟨lb, lo + pickAt p n, none⟩ = some (.pointer (some ⟨tp (pickAt p n), 0, none⟩))) :
    Calls Try.prog 45 #[.int .i64 (turn : Int), .slice (some ⟨lb, lo, none⟩) n lc, .pointer (some ⟨pb, 0, none⟩), .pointer (some ⟨rb, 0, none⟩)] w fun e w' => e = .returned (.pointer (some ⟨tp (pickAt p n), 0, none⟩)) ∧ w' = w := by
  unfold maxLen at hpl
  obtain ⟨hk, hke⟩ := pickAt_lt p n hn
  obtain ⟨t1, t2⟩ := tmod_lt p n hn
  generalize hq : pickAt p n = k at *
  go_enter Try.func45, Try.ntmps45
  go_wp2
  go_ret
  exact ⟨rfl, rfl⟩
/-- The first of n whose number lies above the last one's; else the first. -/
def firstAbove (nm : Nat → Int) (last : Int) (n : Nat) : Nat := ((List.range n).find? fun j => decide (last < nm j)).getD 0
theorem firstAbove_hit {nm : Nat → Int} {last : Int} {n k : Nat} (hk : k < n) (h : last < nm k) (hb : ∀ j, j < k → ¬ last < nm j) : firstAbove nm last n = k := by
  have : (List.range n).find? (fun j => decide (last < nm j)) = some k := by
    rw [List.find?_range_eq_some]
    exact ⟨by simpa using h, by simpa using hk, fun j hj => by simpa using hb j hj⟩
  simp [firstAbove, this]
theorem firstAbove_none {nm : Nat → Int} {last : Int} {n : Nat} (hb : ∀ j, j < n → ¬ last < nm j) : firstAbove nm last n = 0 := by
  have : (List.range n).find? (fun j => decide (last < nm j)) = none := by
    rw [List.find?_eq_none]
    intro j hj
    simpa using hb j (by simpa using hj)
  simp [firstAbove, this]
set_option maxRecDepth 100000 in
set_option maxHeartbeats 2000000 in
theorem sched_first (w : World) (pb rb rp pl pc lb lo n lc turn : Nat) (pa : Option Addr) (tp : Nat → Nat) (nm : Nat → Int) (hn : 0 < n) (hn64 : n ≤ 64) (ht : pl ≤ turn) (ht0 : turn = 0)
    (h0 : w.cell? ⟨pb, 0, none⟩ = some (.slice pa pl pc)) (hl : ∀ j, j < n → w.cell? ⟨lb, lo + j, none⟩ = some (.pointer (some ⟨tp j, 0, none⟩))) (hm : ∀ j, j < n → w.cell? ⟨tp j, 1, none⟩ = some (.int .i64 (nm j))) (r : Nat) (hr : r = firstAbove nm (-1) n) :
    Calls Try.prog 45 #[.int .i64 (turn : Int), .slice (some ⟨lb, lo, none⟩) n lc, .pointer (some ⟨pb, 0, none⟩), .pointer (some ⟨rb, 0, none⟩)] w fun e w' => e = .returned (.pointer (some ⟨tp r, 0, none⟩)) ∧ w' = w := by
  subst ht0
  obtain rfl : pl = 0 := by omega
  have h00 := hl 0 hn
  simp only [Nat.add_zero] at h00
  go_enter Try.func45, Try.ntmps45
  have HR := Lib.hid hr
  clear hr
  have HL := Lib.hid hl
  have HM := Lib.hid hm
  clear hl hm
  go_wp2
  go_loop [42] (fun i => ∃ k : Nat, k ≤ n ∧ i = .int .i64 k ∧ ∀ j, j < k → ¬ -1 < nm j) (fun i => n - (intOf i).toNat)
  case atStart => exact ⟨0, Nat.zero_le _, rfl, fun j hj => by omega⟩
  case round =>
    obtain ⟨k, hk, rfl, hb⟩ := hrel
    have HB := Lib.hid hb
    clear hb
    by_cases hlt : k < n
    · have c1 := HL.out k hlt
      have c2 := HM.out k hlt
      by_cases hm : -1 < nm k
      · have e := firstAbove_hit hlt hm HB.out
        obtain rfl : r = k := HR.out.trans e
        clear e h00
        go_wp2
        go_ret
        exact ⟨rfl, rfl⟩
      · have HN := Lib.hid hm
        have hm' : nm k ≤ -1 := by omega
        clear h00
        go_wp2
        go_round
        case rel => exact ⟨k + 1, by omega, by go_num, fun j hj => by
          rcases Nat.lt_or_ge j k with h | h
          · exact HB.out j h
          · have : j = k := by omega
            subst this; exact HN.out⟩
        case measure => simp [intOf]; omega
    · have hkn : k = n := by omega
      subst hkn
      obtain rfl : r = 0 := HR.out.trans (firstAbove_none HB.out)
      go_wp2
      go_ret
      exact ⟨rfl, rfl⟩
set_option maxRecDepth 100000 in
set_option maxHeartbeats 2000000 in
theorem sched_next (w : World) (pb rb rp gb go gc pl pc lb lo n lc turn : Nat) (pa : Option Addr) (tp : Nat → Nat) (nm : Nat → Int) (hn : 0 < n) (hn64 : n ≤ 64) (ht : pl ≤ turn) (ht0 : 0 < turn) (htm : turn ≤ maxLen) (last : Int) (hrb : w.cell? ⟨rb, 0, none⟩ = some (.pointer (some ⟨rp, 0, none⟩))) (hw3 : w.cell? ⟨rp, 3, none⟩ = some (.slice (some ⟨gb, go, none⟩) turn gc)) (hlast : w.cell? ⟨gb, go + (turn - 1), none⟩ = some (.int .i64 last)) 
    (h0 : w.cell? ⟨pb, 0, none⟩ = some (.slice pa pl pc)) (hl : ∀ j, j < n → w.cell? ⟨lb, lo + j, none⟩ = some (.pointer (some ⟨tp j, 0, none⟩))) (hm : ∀ j, j < n → w.cell? ⟨tp j, 1, none⟩ = some (.int .i64 (nm j))) (r : Nat) (hr : r = firstAbove nm last n) :
    Calls Try.prog 45 #[.int .i64 (turn : Int), .slice (some ⟨lb, lo, none⟩) n lc, .pointer (some ⟨pb, 0, none⟩), .pointer (some ⟨rb, 0, none⟩)] w fun e w' => e = .returned (.pointer (some ⟨tp r, 0, none⟩)) ∧ w' = w := by
  obtain ⟨tn, rfl⟩ : ∃ tn, turn = tn + 1 := ⟨turn - 1, by omega⟩
  unfold maxLen at htm
  simp only [Nat.add_sub_cancel] at hlast
  have h00 := hl 0 hn
  simp only [Nat.add_zero] at h00
  go_enter Try.func45, Try.ntmps45
  have HR := Lib.hid hr
  clear hr
  have HL := Lib.hid hl
  have HM := Lib.hid hm
  clear hl hm
  go_wp2
  go_loop [42] (fun i => ∃ k : Nat, k ≤ n ∧ i = .int .i64 k ∧ ∀ j, j < k → ¬ last < nm j) (fun i => n - (intOf i).toNat)
  case atStart => exact ⟨0, Nat.zero_le _, rfl, fun j hj => by omega⟩
  case round =>
    obtain ⟨k, hk, rfl, hb⟩ := hrel
    have HB := Lib.hid hb
    clear hb
    by_cases hlt : k < n
    · have c1 := HL.out k hlt
      have c2 := HM.out k hlt
      by_cases hm : last < nm k
      · have e := firstAbove_hit hlt hm HB.out
        obtain rfl : r = k := HR.out.trans e
        clear e h00
        go_wp2
        go_ret
        exact ⟨rfl, rfl⟩
      · have HN := Lib.hid hm
        have hm' : nm k ≤ last := by omega
        clear h00
        go_wp2
        go_round
        case rel => exact ⟨k + 1, by omega, by go_num, fun j hj => by
          rcases Nat.lt_or_ge j k with h | h
          · exact HB.out j h
          · have : j = k := by omega
            subst this; exact HN.out⟩
        case measure => simp [intOf]; omega
    · have hkn : k = n := by omega
      subst hkn
      obtain rfl : r = 0 := HR.out.trans (firstAbove_none HB.out)
      go_wp2
      go_ret
      exact ⟨rfl, rfl⟩
end Go.Proofs.Ytkbfbphbdljaaaa
