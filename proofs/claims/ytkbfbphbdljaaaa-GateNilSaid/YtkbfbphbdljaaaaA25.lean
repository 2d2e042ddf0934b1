/- Texts of one proof, joined: each says what it proves. Every premise stands in the statements. -/
import Derived.Test.YtkbfbphbdljaaaaA18
import Derived.Test.YtkbfbphbdljaaaaA21
import Derived.Test.YtkbfbphbdljaaaaA11
import Derived.Lib.Hide
/- gate's Step, pieces ahead of where the thread stands (lone). Every premise stands in the statements. -/
set_option linter.unusedVariables false
set_option linter.unusedSimpArgs false
namespace Go.Proofs.Ytkbfbphbdljaaaa
open Go.Tre Go.RowKit
noncomputable def c13_0 : Code := match Try.f13.body with | some (.seq c _) => c | _ => .skip
noncomputable def c13_1 : Code := match Try.f13.body with | some (.seq _ (.seq c _)) => c | _ => .skip
noncomputable def c13_2 : Code := match Try.f13.body with | some (.seq _ (.seq _ (.seq c _))) => c | _ => .skip
noncomputable def c13_3 : Code := match Try.f13.body with | some (.seq _ (.seq _ (.seq _ (.seq c _)))) => c | _ => .skip
noncomputable def c13_4 : Code := match Try.f13.body with | some (.seq _ (.seq _ (.seq _ (.seq _ (.seq c _))))) => c | _ => .skip
noncomputable def c13_r8 : Code := match Try.f13.body with | some (.seq _ (.seq _ (.seq _ (.seq _ (.seq _ (.seq c _)))))) => c | _ => .skip
noncomputable def c13_5 : Code := match Try.f13.body with | some (.seq _ (.seq _ (.seq _ (.seq _ (.seq _ (.seq _ c)))))) => c | _ => .skip
/-- Step's frame ahead of its tests, behind them, behind the two cuts, with its access made. -/
def t13_0 (tp vb vo : Nat) (op arg next : Int) : Array Value := #[.pointer (some ⟨tp, 0, none⟩), .pointer (some ⟨vb, vo, none⟩), .int .i8 op, .int .i64 arg, .int .i64 next, undef, undef, undef, undef, undef, .int .i64 0, .int .i64 0, .bool false, undef, undef, undef, undef, undef, undef, undef, undef, undef, undef, undef, undef, undef, undef, undef, undef, undef, undef, undef, undef, undef, undef, undef, undef, undef, undef, undef, undef, undef, undef, undef, undef, undef, undef, undef, undef, undef, undef, undef, undef, undef, undef, undef, undef, undef, undef, undef, undef, undef, undef, undef, undef, undef, undef, undef, undef, undef, undef, undef, undef, undef, undef, undef, undef, undef, undef, undef, undef, undef, undef, undef, undef, undef, undef, undef, undef, undef, undef, undef, undef, undef, undef, undef, undef, undef, undef, undef, undef, undef, undef, undef, undef, undef, undef, undef, undef, undef, undef, undef, undef, undef, undef, undef, undef, undef, undef, undef, undef, undef, undef, undef, undef, undef, undef]
def t13_1 (tp vb vo : Nat) (op arg next : Int) : Array Value := #[.pointer (some ⟨tp, 0, none⟩), .pointer (some ⟨vb, vo, none⟩), .int .i8 op, .int .i64 arg, .int .i64 next, undef, undef, undef, undef, undef, .int .i64 0, .int .i64 0, .bool false, undef, undef, undef, .pointer (some ⟨tp, 0, none⟩), .bool true, .bool false, .bool false, .pointer (some ⟨vb, vo, none⟩), .bool false, .bool false, .bool false, .int .i8 op, .bool false, .bool false, .bool false, .int .i8 op, .bool false, .bool false, undef, undef, undef, undef, undef, undef, undef, undef, undef, undef, undef, undef, undef, undef, undef, undef, undef, undef, undef, undef, undef, undef, undef, undef, undef, undef, undef, undef, undef, undef, undef, undef, undef, undef, undef, undef, undef, undef, undef, undef, undef, undef, undef, undef, undef, undef, undef, undef, undef, undef, undef, undef, undef, undef, undef, undef, undef, undef, undef, undef, undef, undef, undef, undef, undef, undef, undef, undef, undef, undef, undef, undef, undef, undef, undef, undef, undef, undef, undef, undef, undef, undef, undef, undef, undef, undef, undef, undef, undef, undef, undef, undef, undef, undef, undef, undef]
def t13_2 (tp vb vo : Nat) (op arg next : Int) : Array Value := #[.pointer (some ⟨tp, 0, none⟩), .pointer (some ⟨vb, vo, none⟩), .int .i8 op, .int .i64 (if op = 1 then 0 else arg), .int .i64 next, undef, undef, undef, undef, undef, .int .i64 0, .int .i64 0, .bool false, undef, undef, undef, .pointer (some ⟨tp, 0, none⟩), .bool true, .bool false, .bool false, .pointer (some ⟨vb, vo, none⟩), .bool false, .bool false, .bool false, .int .i8 op, .bool false, .bool false, .bool false, .int .i8 op, .bool false, .bool false, .int .i8 op, .bool (decide (op = 1)), undef, undef, undef, undef, undef, undef, undef, undef, undef, undef, undef, undef, undef, undef, undef, undef, undef, undef, undef, undef, undef, undef, undef, undef, undef, undef, undef, undef, undef, undef, undef, undef, undef, undef, undef, undef, undef, undef, undef, undef, undef, undef, undef, undef, undef, undef, undef, undef, undef, undef, undef, undef, undef, undef, undef, undef, undef, undef, undef, undef, undef, undef, undef, undef, undef, undef, undef, undef, undef, undef, undef, undef, undef, undef, undef, undef, undef, undef, undef, undef, undef, undef, undef, undef, undef, undef, undef, undef, undef, undef, undef, undef, undef, undef]
def t13_3 (tp vb vo : Nat) (op arg next : Int) : Array Value := #[.pointer (some ⟨tp, 0, none⟩), .pointer (some ⟨vb, vo, none⟩), .int .i8 op, .int .i64 (if op = 1 then 0 else arg), .int .i64 (if op = 3 then next else 0), undef, undef, undef, undef, undef, .int .i64 0, .int .i64 0, .bool false, undef, undef, undef, .pointer (some ⟨tp, 0, none⟩), .bool true, .bool false, .bool false, .pointer (some ⟨vb, vo, none⟩), .bool false, .bool false, .bool false, .int .i8 op, .bool false, .bool false, .bool false, .int .i8 op, .bool false, .bool false, .int .i8 op, .bool (decide (op = 1)), .int .i8 op, .bool (!decide (op = 3)), undef, undef, undef, undef, undef, undef, undef, undef, undef, undef, undef, undef, undef, undef, undef, undef, undef, undef, undef, undef, undef, undef, undef, undef, undef, undef, undef, undef, undef, undef, undef, undef, undef, undef, undef, undef, undef, undef, undef, undef, undef, undef, undef, undef, undef, undef, undef, undef, undef, undef, undef, undef, undef, undef, undef, undef, undef, undef, undef, undef, undef, undef, undef, undef, undef, undef, undef, undef, undef, undef, undef, undef, undef, undef, undef, undef, undef, undef, undef, undef, undef, undef, undef, undef, undef, undef, undef, undef, undef, undef, undef, undef]
def t13_4 (tp vb vo ab : Nat) (op arg next n : Int) : Array Value := #[.pointer (some ⟨tp, 0, none⟩), .pointer (some ⟨vb, vo, none⟩), .int .i8 op, .int .i64 arg, .int .i64 next, undef, undef, undef, undef, undef, .int .i64 0, .int .i64 0, .bool false, .pointer (some ⟨ab, 0, none⟩), undef, undef, .pointer (some ⟨tp, 0, none⟩), .bool true, .bool false, .bool false, .pointer (some ⟨vb, vo, none⟩), .bool false, .bool false, .bool false, .int .i8 op, .bool false, .bool false, .bool false, .int .i8 op, .bool false, .bool false, .int .i8 op, .bool (decide (op = 1)), .int .i8 op, .bool (!decide (op = 3)), .pointer (some ⟨tp, 0, none⟩), .pointer (some ⟨tp, 0, none⟩), .pointer (some ⟨tp, 1, none⟩), .int .i64 n, .int .i8 op, .int .i64 arg, .int .i64 next, .agg (Acc.mk n op (-1) arg next 0 0 false).vals, undef, undef, undef, undef, undef, undef, undef, undef, undef, undef, undef, undef, undef, undef, undef, undef, undef, undef, undef, undef, undef, undef, undef, undef, undef, undef, undef, undef, undef, undef, undef, undef, undef, undef, undef, undef, undef, undef, undef, undef, undef, undef, undef, undef, undef, undef, undef, undef, undef, undef, undef, undef, undef, undef, undef, undef, undef, undef, undef, undef, undef, undef, undef, undef, undef, undef, undef, undef, undef, undef, undef, undef, undef, undef, undef, undef, undef, undef, undef, undef, undef, undef, undef, undef]
set_option maxRecDepth 100000 in
set_option maxHeartbeats 1000000 in
theorem s13_1 (w : World) (tp vb vo : Nat) (op arg next : Int) (h1 : 1 ≤ op) (h6 : op ≤ 6)
    (hl : Calls Try.prog 29 #[.pointer (some ⟨tp, 0, none⟩)] w fun e w' => e = .returned (.bool true) ∧ w = w') :
    c13_1.wp Try.prog (fun e a' w' => e = .normal ∧ a'.defers = [] ∧ a'.tmps = t13_1 tp vb vo op arg next ∧ w'.heap = w.heap) ⟨t13_0 tp vb vo op arg next, []⟩ w := by
  have b1 : decide (op < 1) = false := decide_eq_false (by omega)
  have b2 : decide (6 < op) = false := decide_eq_false (by omega)
  simp only [c13_1, Try.f13, t13_0]
  go_wp2_with (go_at_call 29; refine hl.mono ?_; rintro e w' ⟨rfl, rfl⟩)
  rfl
set_option maxRecDepth 100000 in
set_option maxHeartbeats 1000000 in
theorem s13_2 (w : World) (tp vb vo : Nat) (op arg next : Int) :
    c13_2.wp Try.prog (fun e a' w' => e = .normal ∧ a'.defers = [] ∧ a'.tmps = t13_2 tp vb vo op arg next ∧ w'.heap = w.heap) ⟨t13_1 tp vb vo op arg next, []⟩ w := by
  by_cases ho : op = 1
  · subst ho
    simp only [c13_2, Try.f13, t13_1]
    go_wp2
    rfl
  · have b1 : decide (op = 1) = false := decide_eq_false ho
    have b3 : (op == 1) = false := by simpa using ho
    have e1 : (if op = 1 then (0 : Int) else arg) = arg := if_neg ho
    unfold t13_2
    rw [e1, b1]
    have H := Lib.hid ho
    clear ho e1
    simp only [c13_2, Try.f13, t13_1]
    go_wp2
set_option maxRecDepth 100000 in
set_option maxHeartbeats 1000000 in
theorem s13_3 (w : World) (tp vb vo : Nat) (op arg next : Int) :
    c13_3.wp Try.prog (fun e a' w' => e = .normal ∧ a'.defers = [] ∧ a'.tmps = t13_3 tp vb vo op arg next ∧ w'.heap = w.heap) ⟨t13_2 tp vb vo op arg next, []⟩ w := by
  by_cases ho : op = 3
  · subst ho
    simp only [c13_3, Try.f13, t13_2]
    go_wp2
    rfl
  · have b1 : decide (op = 3) = false := decide_eq_false ho
    have b2 : (!decide (op = 3)) = true := by simpa using ho
    have b3 : (op != 3) = true := by simpa using ho
    have e1 : (if op = 3 then next else (0 : Int)) = 0 := if_neg ho
    unfold t13_3
    rw [e1, b2]
    have H := Lib.hid ho
    clear ho e1
    simp only [c13_3, Try.f13, t13_2]
    go_wp2
set_option maxRecDepth 100000 in
set_option maxHeartbeats 1000000 in
theorem s13_4 (w : World) (tp vb vo : Nat) (op arg next n : Int) (h1 : w.cell? ⟨tp, 1, none⟩ = some (.int .i64 n)) :
    c13_4.wp Try.prog (fun e a' w' => e = .normal ∧ a'.defers = [] ∧ a'.tmps = t13_4 tp vb vo w.heap.size op (if op = 1 then 0 else arg) (if op = 3 then next else 0) n ∧ w'.heap = (w.alloc (.cells (Acc.mk n op (-1) (if op = 1 then 0 else arg) (if op = 3 then next else 0) 0 0 false).vals 61)).heap) ⟨t13_3 tp vb vo op arg next, []⟩ w := by
  generalize ha : (if op = 1 then (0 : Int) else arg) = arg'
  generalize hb : (if op = 3 then next else (0 : Int)) = next'
  simp only [c13_4, Try.f13, t13_3]
  rw [ha, hb]
  clear ha hb
  go_wp2
  exact ⟨rfl, rfl⟩
end Go.Proofs.Ytkbfbphbdljaaaa

/- gate's Step, up to where the thread stands. Every premise stands in the statements. -/
set_option linter.unusedVariables false
set_option linter.unusedSimpArgs false
namespace Go.Proofs.Ytkbfbphbdljaaaa
open Go.Tre Go.RowKit
open Go.Conc (G base baseD crowd rcase scase)
open Go.ConcN (upd)
def t13_5 (tp vb vo ab : Nat) (op arg next n : Int) : Array Value := #[.pointer (some ⟨tp, 0, none⟩), .pointer (some ⟨vb, vo, none⟩), .int .i8 op, .int .i64 arg, .int .i64 next, undef, undef, undef, undef, undef, .int .i64 0, .int .i64 0, .bool false, .pointer (some ⟨ab, 0, none⟩), undef, undef, .pointer (some ⟨tp, 0, none⟩), .bool true, .bool false, .bool false, .pointer (some ⟨vb, vo, none⟩), .bool false, .bool false, .bool false, .int .i8 op, .bool false, .bool false, .bool false, .int .i8 op, .bool false, .bool false, .int .i8 op, .bool (decide (op = 1)), .int .i8 op, .bool (!decide (op = 3)), .pointer (some ⟨tp, 0, none⟩), .pointer (some ⟨tp, 0, none⟩), .pointer (some ⟨tp, 1, none⟩), .int .i64 n, .int .i8 op, .int .i64 arg, .int .i64 next, .agg (Acc.mk n op (-1) arg next 0 0 false).vals, .pointer (some ⟨tp, 0, none⟩), .pointer (some ⟨vb, vo, none⟩), .agg (Acc.mk n op (-1) arg next 0 0 false).vals, undef, undef, undef, undef, undef, undef, undef, undef, undef, undef, undef, undef, undef, undef, undef, undef, undef, undef, undef, undef, undef, undef, undef, undef, undef, undef, undef, undef, undef, undef, undef, undef, undef, undef, undef, undef, undef, undef, undef, undef, undef, undef, undef, undef, undef, undef, undef, undef, undef, undef, undef, undef, undef, undef, undef, undef, undef, undef, undef, undef, undef, undef, undef, undef, undef, undef, undef, undef, undef, undef, undef, undef, undef, undef, undef, undef, undef, undef, undef, undef, undef]
def t13_6 (tp vb vo ab : Nat) (op arg next n : Int) : Array Value := #[.pointer (some ⟨tp, 0, none⟩), .pointer (some ⟨vb, vo, none⟩), .int .i8 op, .int .i64 arg, .int .i64 next, undef, undef, undef, undef, undef, .int .i64 0, .int .i64 0, .bool false, .pointer (some ⟨ab, 0, none⟩), undef, undef, .pointer (some ⟨tp, 0, none⟩), .bool true, .bool false, .bool false, .pointer (some ⟨vb, vo, none⟩), .bool false, .bool false, .bool false, .int .i8 op, .bool false, .bool false, .bool false, .int .i8 op, .bool false, .bool false, .int .i8 op, .bool (decide (op = 1)), .int .i8 op, .bool (!decide (op = 3)), .pointer (some ⟨tp, 0, none⟩), .pointer (some ⟨tp, 0, none⟩), .pointer (some ⟨tp, 1, none⟩), .int .i64 n, .int .i8 op, .int .i64 arg, .int .i64 next, .agg (Acc.mk n op (-1) arg next 0 0 false).vals, .pointer (some ⟨tp, 0, none⟩), .pointer (some ⟨vb, vo, none⟩), .agg (Acc.mk n op (-1) arg next 0 0 false).vals, .tuple #[], undef, undef, undef, undef, undef, undef, undef, undef, undef, undef, undef, undef, undef, undef, undef, undef, undef, undef, undef, undef, undef, undef, undef, undef, undef, undef, undef, undef, undef, undef, undef, undef, undef, undef, undef, undef, undef, undef, undef, undef, undef, undef, undef, undef, undef, undef, undef, undef, undef, undef, undef, undef, undef, undef, undef, undef, undef, undef, undef, undef, undef, undef, undef, undef, undef, undef, undef, undef, undef, undef, undef, undef, undef, undef, undef, undef, undef, undef, undef, undef]
noncomputable def ops13_8 : Array Oper := match c13_r8 with | .region _ ops _ => ops | _ => #[]
/-- Step's frame at the call of stands. -/
noncomputable def fr13 (tp vb vo ab : Nat) (op arg next n : Int) : Frame := (base 13).at ⟨t13_5 tp vb vo ab op arg next n, []⟩ [.inRegion ops13_8 [3], .code c13_5]
theorem fr13_callable (tp vb vo ab : Nat) (op arg next n : Int) : Callable (fr13 tp vb vo ab op arg next n) := Callable.mk rfl
variable [Base]
/-- What a new row leaves. -/
theorem made_row {m g' : World} {O : Own} {h : Nat} {τ : Tape} {o : Obj} (e : g'.heap = ((re (O.gh h m) τ 0).alloc o).heap) : Upto (fun _ => False) m g' ∧ g'.heap.size = m.heap.size + 1 ∧ g'.heap[m.heap.size]? = some o := by
  obtain ⟨h1, h2, h3⟩ := boxed (O := O) (h := h) (m := m) (g' := (re (O.gh h m) τ 0).alloc o) rfl
  exact ⟨h1.heap e, by rw [e]; exact h2, by rw [e]; exact h3⟩
set_option maxRecDepth 100000 in
set_option maxHeartbeats 2000000 in
theorem Okk.stepTo {Φ : Value → World → Prop} {h : Nat} {m : World} {O : Own} {Γ : Nat → Option Seat} {c : Frame} {cs : List Frame} {tp rp vb vo : Nat} {op arg next n : Int}
    (h0 : m.cell? ⟨tp, 0, none⟩ = some (.pointer (some ⟨rp, 0, none⟩))) (h1 : m.cell? ⟨tp, 1, none⟩ = some (.int .i64 n)) (h13 : m.cell? ⟨tp, 13, none⟩ = some (.bool false)) (ho1 : 1 ≤ op) (ho6 : op ≤ 6)
    (hn : ∀ m' ab, m.heap.size ≤ ab → Upto (fun _ => False) m m' → m'.heap[ab]? = some (.cells (Acc.mk n op (-1) (if op = 1 then 0 else arg) (if op = 3 then next else 0) 0 0 false).vals 61) →
      Okk Try.prog Φ h (G (Frame.enter Try.prog 41 #[.pointer (some ⟨tp, 0, none⟩), .pointer (some ⟨vb, vo, none⟩), .agg (Acc.mk n op (-1) (if op = 1 then 0 else arg) (if op = 3 then next else 0) 0 0 false).vals] .normal) (fr13 tp vb vo ab op (if op = 1 then 0 else arg) (if op = 3 then next else 0) n :: c :: cs)) m' O Γ) :
    Okk Try.prog Φ h (G (Frame.enter Try.prog 13 #[.pointer (some ⟨tp, 0, none⟩), .pointer (some ⟨vb, vo, none⟩), .int .i8 op, .int .i64 arg, .int .i64 next] .normal) (c :: cs)) m O Γ := by
  have hP := try_plain
  rw [Go.Conc.enter_at _ Try.func13 rfl]
  simp only [Try.ntmps13]
  refine .ctl0 rfl (fun _ => Go.Conc.stepG_seq) (.ctl0 rfl (fun _ => Go.Conc.stepG_region) ?_)
  refine .val hP rfl rfl rfl (.int .i64 0) (fun τ => by simp [go_sem]) ?_
  walk_nrm
  refine .val hP rfl rfl rfl (.int .i64 0) (fun τ => by simp [go_sem]) ?_
  walk_nrm
  refine .val hP rfl rfl rfl (.bool false) (fun τ => by simp [go_sem]) ?_
  walk_nrm
  refine .ctl0 rfl (fun _ => Go.Conc.stepG_region_end) (.ctl0 rfl (fun _ => Go.Conc.stepG_seq) ?_)
  refine .code hP (c := c13_1) (by simp [c13_1, Try.f13, okCode, okOp, plS, plE]) (Q := fun t w' => t = t13_1 tp vb vo op arg next ∧ w'.heap = (O.gh h m).heap)
    (fun τ => wp_mono (s13_1 (re (O.gh h m) τ 0) tp vb vo op arg next ho1 ho6 ((live_calls (re (O.gh h m) τ 0) tp rp false (by rw [re_cell?, gh_cell]; exact h0) (by rw [re_cell?, gh_cell]; exact h13)).mono (fun e w' ⟨z1, z2⟩ => ⟨z1, z2.symm⟩))) (fun e a' w' ⟨z1, z2, z3, z4⟩ => ⟨z1, z2, z3, z4⟩)) ?_
  rintro _ m1 ⟨rfl, e1⟩ _
  have u1 : Upto (fun _ => False) m m1 := (Upto.gh (O := O) (h := h)).heap e1
  refine .ctl0 rfl (fun _ => Go.Conc.stepG_seq) ?_
  refine .code hP (c := c13_2) (by simp [c13_2, Try.f13, okCode, okOp, plS, plE]) (Q := fun t w' => t = t13_2 tp vb vo op arg next ∧ w'.heap = (O.gh h m1).heap)
    (fun τ => wp_mono (s13_2 (re (O.gh h m1) τ 0) tp vb vo op arg next) (fun e a' w' ⟨z1, z2, z3, z4⟩ => ⟨z1, z2, z3, z4⟩)) ?_
  rintro _ m2 ⟨rfl, e2⟩ _
  have u2 : Upto (fun _ => False) m m2 := u1.trans ((Upto.gh (O := O) (h := h)).heap e2)
  refine .ctl0 rfl (fun _ => Go.Conc.stepG_seq) ?_
  refine .code hP (c := c13_3) (by simp [c13_3, Try.f13, okCode, okOp, plS, plE]) (Q := fun t w' => t = t13_3 tp vb vo op arg next ∧ w'.heap = (O.gh h m2).heap)
    (fun τ => wp_mono (s13_3 (re (O.gh h m2) τ 0) tp vb vo op arg next) (fun e a' w' ⟨z1, z2, z3, z4⟩ => ⟨z1, z2, z3, z4⟩)) ?_
  rintro _ m3 ⟨rfl, e3⟩ _
  have u3 : Upto (fun _ => False) m m3 := u2.trans ((Upto.gh (O := O) (h := h)).heap e3)
  refine .ctl0 rfl (fun _ => Go.Conc.stepG_seq) ?_
  refine .code hP (c := c13_4) (by simp [c13_4, Try.f13, okCode, okOp, plS, plE]) (Q := fun t w' => t = t13_4 tp vb vo m3.heap.size op (if op = 1 then 0 else arg) (if op = 3 then next else 0) n ∧ ∃ τ, w'.heap = ((re (O.gh h m3) τ 0).alloc (.cells (Acc.mk n op (-1) (if op = 1 then 0 else arg) (if op = 3 then next else 0) 0 0 false).vals 61)).heap)
    (fun τ => wp_mono (s13_4 (re (O.gh h m3) τ 0) tp vb vo op arg next n (by rw [re_cell?, gh_cell]; exact u3.cell _ _ h1 (fun z => z))) (fun e a' w' ⟨z1, z2, z3, z4⟩ => ⟨z1, z2, by rw [z3, show (re (O.gh h m3) τ 0).heap.size = m3.heap.size from gh_size], τ, z4⟩)) ?_
  rintro _ m4 ⟨rfl, τ, e4⟩ _
  obtain ⟨u4', s4, b4⟩ := made_row e4
  have u4 := u3.trans u4'
  clear e4
  have hn' := hn m4 m3.heap.size u3.size u4 b4
  clear hn
  generalize (if op = 1 then (0 : Int) else arg) = arg' at hn' b4 ⊢
  generalize (if op = 3 then next else (0 : Int)) = next' at hn' b4 ⊢
  refine .ctl0 rfl (fun _ => Go.Conc.stepG_seq) (.ctl0 rfl (fun _ => Go.Conc.stepG_region) ?_)
  have ca : ∀ i (hi : i < 8), m4.cell? ⟨m3.heap.size, i, none⟩ = some ((Acc.mk n op (-1) arg' next' 0 0 false).vals[i]'hi) := fun i hi => cell_of_cells b4 hi
  unfold t13_4
  refine .val hP rfl rfl rfl (.pointer (some ⟨tp, 0, none⟩)) (fun τ => by simp [go_sem]) ?_
  walk_nrm
  refine .val hP rfl rfl rfl (.pointer (some ⟨vb, vo, none⟩)) (fun τ => by simp [go_sem]) ?_
  walk_nrm
  refine .val hP rfl rfl rfl (.agg (Acc.mk n op (-1) arg' next' 0 0 false).vals) (fun τ => ?_) ?_
  · have : ∀ i (hi : i < 8), (re (O.gh h m4) τ 0).cell? ⟨m3.heap.size, i, none⟩ = some ((Acc.mk n op (-1) arg' next' 0 0 false).vals[i]'hi) := fun i hi => by rw [re_cell?, gh_cell]; exact ca i hi
    have k0 := this 0 (by decide)
    have k1 := this 1 (by decide)
    have k2 := this 2 (by decide)
    have k3 := this 3 (by decide)
    have k4 := this 4 (by decide)
    have k5 := this 5 (by decide)
    have k6 := this 6 (by decide)
    have k7 := this 7 (by decide)
    simp [Acc.vals] at k0 k1 k2 k3 k4 k5 k6 k7
    simp [go_sem, gh_cell, Acc.vals, k0, k1, k2, k3, k4, k5, k6, k7]
  walk_nrm
  refine .enter (f := 41) (args := #[.pointer (some ⟨tp, 0, none⟩), .pointer (some ⟨vb, vo, none⟩), .agg (Acc.mk n op (-1) arg' next' 0 0 false).vals]) rfl rfl (fun w => ?_) (fun w => ?_) ?_
  · have := (callFunc_enter Try.func41 (by kernel_rfl) rfl #[.pointer (some ⟨tp, 0, none⟩), .pointer (some ⟨vb, vo, none⟩), .agg (Acc.mk n op (-1) arg' next' 0 0 false).vals] w).1
    simp [go_sem, this]
  · have := (callFunc_enter Try.func41 (by kernel_rfl) rfl #[.pointer (some ⟨tp, 0, none⟩), .pointer (some ⟨vb, vo, none⟩), .agg (Acc.mk n op (-1) arg' next' 0 0 false).vals] w).2
    simp [go_sem, this]
  exact hn'
end Go.Proofs.Ytkbfbphbdljaaaa
