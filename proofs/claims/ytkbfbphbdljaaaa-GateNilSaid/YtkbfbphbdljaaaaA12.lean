/- Texts of one proof, joined: each says what it proves. Every premise stands in the statements. -/
import Derived.Test.YtkbfbphbdljaaaaA11
import Derived.Test.YtkbfbphbdljaaaaProg
import Derived.WalkKit
import Derived.Conc.Listed
import Derived.Conc.WalkWords
/- gate's goes: the token passes to a thread and comes back. Every premise stands in the statements. -/
set_option linter.unusedVariables false
set_option linter.unusedSimpArgs false
namespace Go.Proofs.Ytkbfbphbdljaaaa
open Go.Tre
open Go.Conc (G base crowd rcase scase)
open Go.ConcN (upd)


/-- Where 'goes' waits. -/
def goesAt (tp cw cd : Nat) (cs : List Frame) : Goroutine :=
  G ((base 77).at ⟨#[.pointer (some ⟨tp, 0, none⟩), undef, .pointer (some ⟨tp, 0, none⟩), .pointer (some ⟨tp, 0, none⟩), .pointer (some ⟨tp, 2, none⟩), .chan (some cw), .agg #[],
    .pointer (some ⟨tp, 0, none⟩), .pointer (some ⟨tp, 0, none⟩), .pointer (some ⟨tp, 3, none⟩), .chan (some cd), undef], []⟩
    [.inRegion #[{ dst := some 7, op := .move (.tmp 0), type := 30, pos := "gate.go:64", after := #[], guard := none },
            { dst := some 8, op := .nilCheck (.tmp 7), type := 0, pos := "gate.go:64", after := #[{ on := 0, ground := .data }], guard := none },
            { dst := some 9, op := .fieldAddr 65 (.tmp 8) 3, type := 0, pos := "gate.go:64", after := #[{ on := 1, ground := .data }], guard := none },
            { dst := some 10, op := .load 63 (.tmp 9), type := 63, pos := "gate.go:64", after := #[{ on := 2, ground := .data }], guard := none },
            { dst := some 11, op := .recv 63 (.tmp 10) false, type := 24, pos := "gate.go:64", after := #[{ on := 3, ground := .data }], guard := none }] [4]]) cs

variable [Base]
set_option maxRecDepth 100000 in
/-- ████ goes: the token passes to thread j. ████ -/
theorem Okk.goes {S E : FuncId → Bool} {Φ : Value → World → Prop} (hP : Plain Try.prog S E) {h j : Nat} {m : World} {O : Own} {Γ : Nat → Option Seat} {cs : List Frame} {tp cw cd kw : Nat} {s : Seat}
    (hb : Base.b0 ≤ tp) (hpre : 4 ≤ O.pre tp) (h2 : m.cell? ⟨tp, 2, none⟩ = some (.chan (some cw))) (h3 : m.cell? ⟨tp, 3, none⟩ = some (.chan (some cd))) (hj : Γ j = some s) (hs : s.c = cw) (hjh : j ≠ h)
    (hcw : m.heap[cw]? = some (.chan 0 #[] false kw kw false)) (hcd : ∃ k, m.heap[cd]? = some (.chan 0 #[] false k k false)) (hfree : ∀ i s₂, i ≠ h → i ≠ j → Γ i = some s₂ → s₂.c ≠ cd)
    (hn : ∀ g₂, s.home g₂ → (∀ x v, s.still x = some v → Base.b0 ≤ x.block ∧ (O.o x.block = some j ∨ x.off < O.pre x.block) ∧ m.cell? x = some v) → (∀ b n, s.mine b = some n → O.o b = some j ∧ O.pre b = n) →
      Okk Try.prog Φ j (Go.Conc.served g₂ (.agg #[])) (m.setChan cw 0 #[] false (kw + 1) (kw + 1) false) O (upd Γ h (some (stdSeat cd (goesAt tp cw cd cs) O h m)))) :
    Okk Try.prog Φ h (G (Frame.enter Try.prog 77 #[.pointer (some ⟨tp, 0, none⟩)] .normal) cs) m O Γ := by
  subst hs
  rw [Go.Conc.enter_at _ Try.func77 rfl]
  simp only [Try.ntmps77]
  refine .ctl0 rfl (fun _ => Go.Conc.stepG_seq) (.ctl0 rfl (fun _ => Go.Conc.stepG_region) ?_)
  refine .val hP rfl rfl rfl (.pointer (some ⟨tp, 0, none⟩)) (fun τ => by simp [go_sem]) ?_
  walk_nrm
  refine .val hP rfl rfl rfl (.pointer (some ⟨tp, 0, none⟩)) (fun τ => by simp [go_sem]) ?_
  walk_nrm
  refine .val hP rfl rfl rfl (.pointer (some ⟨tp, 2, none⟩)) (fun τ => by simp [go_sem]) ?_
  walk_nrm
  refine .val hP rfl rfl rfl (.chan (some s.c)) (fun τ => by simp [go_sem, gh_cell, h2]) ?_
  walk_nrm
  refine .val hP rfl rfl rfl (.agg #[]) (fun τ => by simp [go_sem]) ?_
  walk_nrm
  have hX : (O.mine h m) ⟨tp, 3, none⟩ = some (.chan (some cd)) := mine_of hb (.inr (by show 3 < O.pre tp; omega)) h3
  refine .send (S' := some (stdSeat cd (goesAt tp s.c cd cs) O h m)) (v := .agg #[]) (z' := .tuple #[]) (nh := 7) rfl rfl (by decide) (fun w => by simp [go_sem, scase]) (fun w => by simp [go_sem]) hj hjh hcw (fun T' _ => ?_) (fun s' e => by cases e; exact fun x v hx => mine_some hx) (fun s' e => by cases e; exact ⟨hcd, hfree⟩) (fun s' e => by cases e; exact fun b n hb => mineB_some hb) hn
  refine Way.idle (n := 6) ?_
  walk_nrm
  refine .regionEnd (.region ?_)
  refine .val rfl rfl (.pointer (some ⟨tp, 0, none⟩)) (fun w _ => by simp [go_sem]) (fun w _ => by simp [go_sem]) ?_
  walk_nrm
  refine .val rfl rfl (.pointer (some ⟨tp, 0, none⟩)) (fun w _ => by simp [go_sem]) (fun w _ => by simp [go_sem]) ?_
  walk_nrm
  refine .val rfl rfl (.pointer (some ⟨tp, 3, none⟩)) (fun w _ => by simp [go_sem]) (fun w _ => by simp [go_sem]) ?_
  walk_nrm
  refine .val rfl rfl (.chan (some cd)) (fun w hw => by have := hw _ _ hX; simp [go_sem, this]) (fun w hw e he => by have := hw _ _ hX; simp [go_sem, this] at he; subst he; exact ⟨_, _, rfl, hX⟩) ?_
  walk_nrm
  exact .recv rfl rfl (by decide) (fun w => by simp [go_sem, rcase, stdSeat]) (fun w => by simp [go_sem]) rfl

set_option maxRecDepth 100000 in
/-- It has come back. -/
theorem Okk.goesBack {Φ : Value → World → Prop} {h : Nat} {m : World} {O : Own} {Γ : Nat → Option Seat} {c : Frame} {cs : List Frame} {tp cw cd : Nat} {v : Value}
    (hn : Okk Try.prog Φ h (G (c.finish (.tuple #[])) cs) m O Γ) : Okk Try.prog Φ h (Go.Conc.served (goesAt tp cw cd (c :: cs)) v) m O Γ := by
  have e : Go.Conc.served (goesAt tp cw cd (c :: cs)) v = G (((base 77).at ⟨#[.pointer (some ⟨tp, 0, none⟩), undef, .pointer (some ⟨tp, 0, none⟩), .pointer (some ⟨tp, 0, none⟩), .pointer (some ⟨tp, 2, none⟩), .chan (some cw), .agg #[],
    .pointer (some ⟨tp, 0, none⟩), .pointer (some ⟨tp, 0, none⟩), .pointer (some ⟨tp, 3, none⟩), .chan (some cd), v], []⟩ [.inRegion _ []])) (c :: cs) := rfl
  rw [e]
  refine .ctl0 rfl (fun _ => Go.Conc.stepG_region_end) (.ctl0 rfl (fun _ => Go.Conc.stepG_end) ?_)
  exact .leave rfl rfl Try.func77 (fun w => by simp [go_sem, results, Try.f77]) (fun w => by simp [go_sem, results, Try.f77]) hn
end Go.Proofs.Ytkbfbphbdljaaaa
