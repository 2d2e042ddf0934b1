/- Texts of one proof, joined: each says what it proves. Every premise stands in the statements. -/
import Derived.Test.YtkbfbphbdljaaaaA22
import Derived.Test.YtkbfbphbdljaaaaProg
import Derived.WalkKit
import Derived.LaidEql
/- The run's map of cells: look-up, store, length. Every premise stands in the statements. -/
set_option linter.unusedVariables false
set_option linter.unusedSimpArgs false
namespace Go.Proofs.Ytkbfbphbdljaaaa
open Go.Tre Go.RowKit
/-- A place in a row whose cells are free. -/
def FreeRow (w : World) (a : Addr) : Prop := ∃ c t, w.heap[a.block]? = some (.cells c t (0, 0))
theorem info28 : ∃ i, Try.prog.info? 28 = some i ∧ i.size = 1 := by
  have h : (Try.prog.info? 28).map (·.size) = some 1 := by kernel_rfl
  cases e : Try.prog.info? 28 with
  | none => rw [e] at h; cases h
  | some i => rw [e] at h; exact ⟨i, rfl, by simpa using h⟩
theorem run_equal_ptr (w : World) (a b : Addr) (ha : FreeRow w a) (hb : FreeRow w b) : (Op.equal 33 (.pointer (some a)) (.pointer (some b))).run Try.prog w = .ok (a == b) w := by
  obtain ⟨n, hn⟩ : ∃ n, Op.maxDepth = n + 1 := ⟨Op.maxDepth - 1, by decide⟩
  obtain ⟨i, hi, hz⟩ := info28
  obtain ⟨ca, ta, ha⟩ := ha
  obtain ⟨cb, tb, hb⟩ := hb
  have hs : (sizeOf 28).run Try.prog w = .ok 1 w := by simp [sizeOf, typeInfo, go_sem, hi, hz]
  have he : (sameAddr a b).run Try.prog w = .ok (a == b) w := by
    by_cases hab : a = b
    · subst hab; rw [run_sameAddr_same]; simp
    · rw [run_sameAddr_other w hab ha hb]; simp [hab]
  simp [Op.equal, hn, Op.equalIn, go_sem, Try.underlying33, hs, he]
/-- The entries from the k-th on. -/
def entsL : List Addr → Nat → List MapEntry
  | [], _ => []
  | a :: l, k => { key := .pointer (some a), val := .int .i64 (k : Int), born := k } :: entsL l (k + 1)
theorem mapIdx_entsL (l : List Addr) (k : Nat) : l.mapIdx (fun i a => ({ key := .pointer (some a), val := .int .i64 ((i + k : Nat) : Int), born := i + k } : MapEntry)) = entsL l k := by
  induction l generalizing k with
  | nil => rfl
  | cons a l ih =>
    simp only [List.mapIdx_cons, entsL]
    rw [← ih (k + 1)]
    simp only [Nat.zero_add]
    congr 1
    simp only [show ∀ i : Nat, i + 1 + k = i + (k + 1) from fun i => by omega]
theorem ents_list (l : List Addr) : (ents l).toList = entsL l 0 := by rw [← mapIdx_entsL l 0]; simp [ents]
theorem ents_size (l : List Addr) : (ents l).size = l.length := by simp [ents]
theorem ents_push (l : List Addr) (a : Addr) : (ents l).push { key := .pointer (some a), val := .int .i64 (l.length : Int), born := l.length } = ents (l ++ [a]) := by
  simp [ents, List.mapIdx_append]
theorem run_findAsking (w : World) (a : Addr) (ha : FreeRow w a) : ∀ (l : List Addr) (k i : Nat), (∀ x ∈ l, FreeRow w x) → (Instr.findAsking 33 (.pointer (some a)) (entsL l k) i).run Try.prog w = .ok (if a ∈ l then some (i + l.idxOf a, .int .i64 ((k + l.idxOf a : Nat) : Int)) else none) w
  | [], k, i, _ => by simp [entsL, Instr.findAsking, go_sem]
  | b :: l, k, i, hl => by
    have ih := run_findAsking w a ha l (k + 1) (i + 1) fun x hx => hl x (List.mem_cons_of_mem _ hx)
    have he := run_equal_ptr w a b ha (hl b (by simp))
    simp only [entsL, Instr.findAsking]
    by_cases hab : a = b
    · subst hab
      simp [go_sem, he]
    · have hb : (a == b) = false := by simpa using hab
      rw [hb] at he
      have hba : (b == a) = false := by simpa using Ne.symm hab
      simp [go_sem, he, ih, hab, List.idxOf_cons, hba]
      by_cases hm : a ∈ l
      · simp only [hm, if_true]
        simp
        constructor <;> omega
      · simp only [hm, if_false]
theorem run_findKey (w : World) (a : Addr) (l : List Addr) (ha : FreeRow w a) (hl : ∀ x ∈ l, FreeRow w x) : (Instr.findKey 33 (.pointer (some a)) (entsL l 0)).run Try.prog w = .ok (if a ∈ l then some (l.idxOf a, .int .i64 (l.idxOf a : Int)) else none) w := by
  have ih := run_findAsking w a ha l 0 0 hl
  have hu : (Go.underlying 33).run Try.prog w = .ok (.pointer 28) w := by simp [go_sem, Try.underlying33]
  unfold Instr.findKey
  cases l with
  | nil => simp [go_sem, hu, entsL, Instr.findNow]
  | cons b l =>
    have : Instr.findNow (.pointer 28) (.pointer (some a)) (entsL (b :: l) 0) 0 = none := rfl
    simp only [Nat.zero_add] at ih
    simp [go_sem, this, ih, Try.underlying33]
theorem run_checkKey (w : World) (e : Bool) (a : Addr) : (Instr.checkKey e 10000 33 (.pointer (some a))).run Try.prog w = .ok () w := by
  obtain ⟨n, hn⟩ : ∃ n, 10000 = n + 1 := ⟨9999, rfl⟩
  rw [hn]
  unfold Instr.checkKey
  simp [go_sem, Try.underlying33]
theorem run_zero3 (w : World) : (zeroValue 3).run Try.prog w = .ok (.int .i64 0) w := by kernel_rfl
/-- ████ v, ok := m[k] ████ -/
theorem run_lookup91 (w : World) (mb : Nat) (a : Addr) (l : List Addr) (cl : Nat) (hm : w.heap[mb]? = some (.map (ents l) cl)) (ha : FreeRow w a) (hl : ∀ x ∈ l, FreeRow w x) :
    (Instr.lookup 91 (.map (some mb)) (.pointer (some a)) true).run Try.prog w = .ok (.tuple #[.int .i64 (if a ∈ l then (l.idxOf a : Int) else 0), .bool (decide (a ∈ l))]) w := by
  have h1 := run_findKey w a l ha hl
  have h2 := run_checkKey w (ents l).isEmpty a
  have h3 := run_zero3 w
  have h4 : (getObj mb).run Try.prog w = .ok (.map (ents l) cl) w := by simp [getObj, Sem.run, hm]
  unfold Instr.lookup
  simp [go_sem, Try.underlying91, h4, h2, ents_list, h1]
  by_cases hx : a ∈ l
  · simp [hx, go_sem]
  · simp [hx, go_sem, h3]
/-- m[k] = v of a new key -/
theorem run_mapUpdate91 (w : World) (mb : Nat) (a : Addr) (l : List Addr) (hm : w.heap[mb]? = some (.map (ents l) l.length)) (ha : FreeRow w a) (hl : ∀ x ∈ l, FreeRow w x) (hn : a ∉ l) :
    (Instr.mapUpdate 91 (.map (some mb)) (.pointer (some a)) (.int .i64 (l.length : Int))).run Try.prog w = .ok () { w with heap := w.heap.setIfInBounds mb (.map (ents (l ++ [a])) (l.length + 1)) } := by
  have h1 := run_findKey w a l ha hl
  rw [if_neg hn] at h1
  have h2 := run_checkKey w false a
  have h4 : (getObj mb).run Try.prog w = .ok (.map (ents l) l.length) w := by simp [getObj, Sem.run, hm]
  have h5 : (setObj mb (.map ((ents l).push { key := .pointer (some a), val := .int .i64 (l.length : Int), born := l.length }) (l.length + 1))).run Try.prog w = .ok () { w with heap := w.heap.setIfInBounds mb (.map (ents (l ++ [a])) (l.length + 1)) } := by
    rw [ents_push]; simp [setObj, Sem.run, hm]
  unfold Instr.mapUpdate
  simp [go_sem, Try.underlying91, h4, h2, ents_list, h1, h5]
/-- len(m) -/
theorem run_len91 (w : World) (mb : Nat) (l : List Addr) (cl : Nat) (ty : TypeId) (hm : w.heap[mb]? = some (.map (ents l) cl)) : (Builtin.len_ #[91] ty #[.map (some mb)]).run Try.prog w = .ok (.int .i64 (l.length : Int)) w := by
  have h4 : (getObj mb).run Try.prog w = .ok (.map (ents l) cl) w := by simp [getObj, Sem.run, hm]
  unfold Builtin.len_
  simp [go_sem, Try.underlying91, h4, ents_size]
end Go.Proofs.Ytkbfbphbdljaaaa
