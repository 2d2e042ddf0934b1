/- Texts of one proof, joined: each says what it proves. Every premise stands in the statements. -/
import Derived.Test.YtkbfbphbdljaaaaA25
import Derived.Test.YtkbfbphbdljaaaaA22
import Derived.Lib.Hide
/- gate's Step where the thread is stopped, or does not live, or asks what is none. Every premise stands in the statements. -/
set_option linter.unusedVariables false
set_option linter.unusedSimpArgs false
namespace Go.Proofs.Ytkbfbphbdljaaaa
open Go.Tre Go.RowKit
open Go.Conc (G base baseD crowd rcase scase)
open Go.ConcN (upd upd_ne upd_same)
noncomputable def c13_a : Code := match Try.f13.body with | some (.seq _ (.seq (.seq c _) _)) => c | _ => .skip
noncomputable def c53_a : Code := match Try.f53.body with | some (.seq _ (.seq (.seq c _) _)) => c | _ => .skip
section
variable [Base]
set_option maxRecDepth 100000 in
set_option maxHeartbeats 2000000 in
/-- An access of one who is stopped panics. -/
theorem Okk.standsS {S E : FuncId → Bool} {Φ : Value → World → Prop} (hP : Plain Try.prog S E) {h : Nat} {m : World} {O : Own} {Γ : Nat → Option Seat} {c : Frame} {cs : List Frame} {tp rp : Nat} {pv : Option Addr} {a : Acc}
    (h0 : m.cell? ⟨tp, 0, none⟩ = some (.pointer (some ⟨rp, 0, none⟩))) (h6 : m.cell? ⟨rp, 6, none⟩ = some (.bool true))
    (hn : ∀ m', Upto (fun _ => False) m m' → Okk Try.prog Φ h (G (c.raise [{ v := stopV, recovered := false }]) cs) m' O Γ) :
    Okk Try.prog Φ h (G (Frame.enter Try.prog 41 #[.pointer (some ⟨tp, 0, none⟩), .pointer pv, .agg a.vals] .normal) (c :: cs)) m O Γ := by
  rw [Go.Conc.enter_at _ Try.func41 rfl]
  simp only [Try.ntmps41, Acc.vals]
  refine .ctl0 rfl (fun _ => Go.Conc.stepG_seq) (.ctl0 rfl (fun _ => Go.Conc.stepG_region) ?_)
  refine .oper hP rfl rfl rfl (R := fun v g' => v = .pointer (some ⟨m.heap.size, 0, none⟩) ∧ ∃ τ, g' = (re (O.gh h m) τ 0).alloc (.cells a.vals 61)) (fun τ => ⟨_, _, by simp [go_sem]; exact ⟨rfl, rfl⟩, by simp [gh_size], τ, rfl⟩) ?_
  rintro _ g₁ ⟨rfl, τ₁, hg₁⟩ _
  have hu1 : Upto (fun _ => False) m g₁ := by
    rw [hg₁]
    exact (Upto.gh (O := O) (h := h)).trans ((Upto.of_heap (m := O.gh h m) (m' := re (O.gh h m) τ₁ 0) rfl).trans .alloc)
  clear hg₁
  have m0 := hu1.cell _ _ h0 (fun z => z)
  have m6 := hu1.cell _ _ h6 (fun z => z)
  walk_nrm
  refine .ctl0 rfl (fun _ => Go.Conc.stepG_region_end) (.ctl0 rfl (fun _ => Go.Conc.stepG_seq) (.ctl0 rfl (fun _ => Go.Conc.stepG_seq) (.ctl0 rfl (fun _ => Go.Conc.stepG_region) ?_)))
  refine .val hP rfl rfl rfl (.pointer (some ⟨tp, 0, none⟩)) (fun τ => by simp [go_sem]) ?_
  walk_nrm
  refine .val hP rfl rfl rfl (.pointer (some ⟨tp, 0, none⟩)) (fun τ => by simp [go_sem]) ?_
  walk_nrm
  refine .val hP rfl rfl rfl (.pointer (some ⟨tp, 0, none⟩)) (fun τ => by simp [go_sem]) ?_
  walk_nrm
  refine .val hP rfl rfl rfl (.pointer (some ⟨rp, 0, none⟩)) (fun τ => by simp [go_sem, gh_cell, m0]) ?_
  walk_nrm
  refine .val hP rfl rfl rfl (.pointer (some ⟨rp, 0, none⟩)) (fun τ => by simp [go_sem]) ?_
  walk_nrm
  refine .val hP rfl rfl rfl (.pointer (some ⟨rp, 6, none⟩)) (fun τ => by simp [go_sem]) ?_
  walk_nrm
  refine .val hP rfl rfl rfl (.bool true) (fun τ => by simp [go_sem, gh_cell, m6]) ?_
  walk_nrm
  refine .val hP rfl rfl rfl (.bool false) (fun τ => by simp [go_sem]) ?_
  walk_nrm
  refine .ctl0 rfl (fun _ => Go.Conc.stepG_region_end) (.ctl0 rfl (fun _ => Go.Conc.stepG_cond (t := false) rfl) ?_)
  simp only [Bool.false_eq_true, if_false]
  refine .ctl0 rfl (fun _ => Go.Conc.stepG_skip) (.ctl0 rfl (fun _ => Go.Conc.stepG_seq) (.ctl0 rfl (fun _ => Go.Conc.stepG_region) ?_))
  refine .val hP rfl rfl rfl (.pointer (some ⟨tp, 0, none⟩)) (fun τ => by simp [go_sem]) ?_
  walk_nrm
  refine .val hP rfl rfl rfl (.pointer (some ⟨tp, 0, none⟩)) (fun τ => by simp [go_sem]) ?_
  walk_nrm
  refine .val hP rfl rfl rfl (.pointer (some ⟨tp, 0, none⟩)) (fun τ => by simp [go_sem]) ?_
  walk_nrm
  refine .val hP rfl rfl rfl (.pointer (some ⟨rp, 0, none⟩)) (fun τ => by simp [go_sem, gh_cell, m0]) ?_
  walk_nrm
  refine .val hP rfl rfl rfl (.pointer (some ⟨rp, 0, none⟩)) (fun τ => by simp [go_sem]) ?_
  walk_nrm
  refine .val hP rfl rfl rfl (.pointer (some ⟨rp, 6, none⟩)) (fun τ => by simp [go_sem]) ?_
  walk_nrm
  refine .val hP rfl rfl rfl (.bool true) (fun τ => by simp [go_sem, gh_cell, m6]) ?_
  walk_nrm
  refine .ctl0 rfl (fun _ => Go.Conc.stepG_region_end) (.ctl0 rfl (fun _ => Go.Conc.stepG_cond (t := true) rfl) ?_)
  simp only [if_true]
  refine .ctl0 rfl (fun _ => Go.Conc.stepG_region) ?_
  refine .val hP rfl rfl rfl (.agg #[]) (fun τ => by simp [go_sem]) ?_
  walk_nrm
  refine .val hP rfl rfl rfl stopV (fun τ => by simp [go_sem, stopV]) ?_
  walk_nrm
  refine .panic (v := stopV) rfl rfl (fun w => by simp [go_sem, stopV]) (fun w => by simp [go_sem, stopV]; rfl) ?_
  exact .raise rfl rfl rfl (hn g₁ hu1)
set_option maxRecDepth 100000 in
theorem Okk.stepS {Φ : Value → World → Prop} {h : Nat} {m : World} {O : Own} {Γ : Nat → Option Seat} {c : Frame} {cs : List Frame} {tp rp vb vo : Nat} {op arg next n : Int}
    (h0 : m.cell? ⟨tp, 0, none⟩ = some (.pointer (some ⟨rp, 0, none⟩))) (h1 : m.cell? ⟨tp, 1, none⟩ = some (.int .i64 n)) (h13 : m.cell? ⟨tp, 13, none⟩ = some (.bool false)) (h6 : m.cell? ⟨rp, 6, none⟩ = some (.bool true)) (ho1 : 1 ≤ op) (ho6 : op ≤ 6)
    (hn : ∀ m', Upto (fun _ => False) m m' → Okk Try.prog Φ h (G (c.raise [{ v := stopV, recovered := false }]) cs) m' O Γ) :
    Okk Try.prog Φ h (G (Frame.enter Try.prog 13 #[.pointer (some ⟨tp, 0, none⟩), .pointer (some ⟨vb, vo, none⟩), .int .i8 op, .int .i64 arg, .int .i64 next] .normal) (c :: cs)) m O Γ := by
  refine Okk.stepTo h0 h1 h13 ho1 ho6 fun m1 ab hab hu1 hc1 => ?_
  refine Okk.standsS try_plain (hu1.cell _ _ h0 (fun z => z)) (hu1.cell _ _ h6 (fun z => z)) fun m2 hu2 => ?_
  exact Okk.raise rfl rfl rfl (hn m2 (hu1.trans hu2))
set_option maxRecDepth 100000 in
set_option maxHeartbeats 2000000 in
omit [Base] in
theorem c13_a_no (K : Act → World → Prop) (w : World) (tv : Value) (vb vo : Nat) (op arg next : Int) (ok : Bool) (hl : Calls Try.prog 29 #[tv] w fun e w' => e = .returned (.bool ok) ∧ w' = w) (hno : ok = false ∨ decide (op < 1) = true ∨ decide (op < 1) = false ∧ decide (6 < op) = true)
    (hK : ∀ y16 y17 y18 y19 y20 y21 y22 y23 y24 y25 y26 y27 y28 y29, K ⟨#[tv, .pointer (some ⟨vb, vo, none⟩), .int .i8 op, .int .i64 arg, .int .i64 next, undef, undef, undef, undef, undef, .int .i64 0, .int .i64 0, .bool false, undef, undef, undef, y16, y17, y18, y19, y20, y21, y22, y23, y24, y25, y26, y27, y28, y29, .bool true, undef, undef, undef, undef, undef, undef, undef, undef, undef, undef, undef, undef, undef, undef, undef, undef, undef, undef, undef, undef, undef, undef, undef, undef, undef, undef, undef, undef, undef, undef, undef, undef, undef, undef, undef, undef, undef, undef, undef, undef, undef, undef, undef, undef, undef, undef, undef, undef, undef, undef, undef, undef, undef, undef, undef, undef, undef, undef, undef, undef, undef, undef, undef, undef, undef, undef, undef, undef, undef, undef, undef, undef, undef, undef, undef, undef, undef, undef, undef, undef, undef, undef, undef, undef, undef, undef, undef, undef, undef, undef, undef, undef, undef, undef, undef, undef], []⟩ w) :
    c13_a.wp Try.prog (fun e a w => match e with | .normal => K a w | _ => False) ⟨#[tv, .pointer (some ⟨vb, vo, none⟩), .int .i8 op, .int .i64 arg, .int .i64 next, undef, undef, undef, undef, undef, .int .i64 0, .int .i64 0, .bool false, undef, undef, undef, undef, undef, undef, undef, undef, undef, undef, undef, undef, undef, undef, undef, undef, undef, undef, undef, undef, undef, undef, undef, undef, undef, undef, undef, undef, undef, undef, undef, undef, undef, undef, undef, undef, undef, undef, undef, undef, undef, undef, undef, undef, undef, undef, undef, undef, undef, undef, undef, undef, undef, undef, undef, undef, undef, undef, undef, undef, undef, undef, undef, undef, undef, undef, undef, undef, undef, undef, undef, undef, undef, undef, undef, undef, undef, undef, undef, undef, undef, undef, undef, undef, undef, undef, undef, undef, undef, undef, undef, undef, undef, undef, undef, undef, undef, undef, undef, undef, undef, undef, undef, undef, undef, undef, undef, undef, undef, undef, undef, undef, undef, undef], []⟩ w := by
  have HK := Lib.hid hK
  clear hK
  simp only [c13_a, Try.f13]
  rcases hno with rfl | h | ⟨h, h'⟩
  · go_wp2_with (go_at_call 29; refine hl.mono ?_; rintro e w' ⟨rfl, rfl⟩)
    exact HK.out _ _ _ _ _ _ _ _ _ _ _ _ _ _
  · cases ok <;> (go_wp2_with (go_at_call 29; refine hl.mono ?_; rintro e w' ⟨rfl, rfl⟩); exact HK.out _ _ _ _ _ _ _ _ _ _ _ _ _ _)
  · cases ok <;> (go_wp2_with (go_at_call 29; refine hl.mono ?_; rintro e w' ⟨rfl, rfl⟩); exact HK.out _ _ _ _ _ _ _ _ _ _ _ _ _ _)
set_option maxRecDepth 100000 in
set_option maxHeartbeats 2000000 in
/-- No access: zeros. -/
theorem Okk.stepNo {Φ : Value → World → Prop} {h : Nat} {m : World} {O : Own} {Γ : Nat → Option Seat} {c : Frame} {cs : List Frame} {tv : Value} {vb vo : Nat} {op arg next : Int} {ok : Bool} (hl : ∀ τ, Calls Try.prog 29 #[tv] (re (O.gh h m) τ 0) fun e w' => e = .returned (.bool ok) ∧ w' = re (O.gh h m) τ 0)
    (hno : ok = false ∨ decide (op < 1) = true ∨ decide (op < 1) = false ∧ decide (6 < op) = true) (hn : ∀ m', Upto (fun _ => False) m m' → Okk Try.prog Φ h (G (c.finish (.tuple #[.int .i64 0, .int .i64 0, .bool false])) cs) m' O Γ) :
    Okk Try.prog Φ h (G (Frame.enter Try.prog 13 #[tv, .pointer (some ⟨vb, vo, none⟩), .int .i8 op, .int .i64 arg, .int .i64 next] .normal) (c :: cs)) m O Γ := by
  have hP := try_plain
  rw [Go.Conc.enter_at _ Try.func13 rfl]
  simp only [Try.ntmps13]
  refine .ctl0 rfl (fun _ => Go.Conc.stepG_seq) (.ctl0 rfl (fun _ => Go.Conc.stepG_region) ?_)
  refine .val hP rfl rfl rfl (.int .i64 0) (fun τ => by simp [go_sem]) ?_
  walk_nrm
  refine .val hP rfl rfl rfl (.int .i64 0) (fun τ => by simp [go_sem]) ?_
  walk_nrm
  refine .val hP rfl rfl rfl (.bool false) (fun τ => by simp [go_sem]) ?_
  walk_nrm
  refine .ctl0 rfl (fun _ => Go.Conc.stepG_region_end) (.ctl0 rfl (fun _ => Go.Conc.stepG_seq) (.ctl0 rfl (fun _ => Go.Conc.stepG_seq) ?_))
  refine .code hP (c := c13_a) (by simp [c13_a, Try.f13, okCode, okOp, plS, plE]) (Q := fun t w' => Upto (fun _ => False) m w' ∧ ∃ (y16 y17 y18 y19 y20 y21 y22 y23 y24 y25 y26 y27 y28 y29 : Value), t = #[tv, .pointer (some ⟨vb, vo, none⟩), .int .i8 op, .int .i64 arg, .int .i64 next, undef, undef, undef, undef, undef, .int .i64 0, .int .i64 0, .bool false, undef, undef, undef, y16, y17, y18, y19, y20, y21, y22, y23, y24, y25, y26, y27, y28, y29, .bool true, undef, undef, undef, undef, undef, undef, undef, undef, undef, undef, undef, undef, undef, undef, undef, undef, undef, undef, undef, undef, undef, undef, undef, undef, undef, undef, undef, undef, undef, undef, undef, undef, undef, undef, undef, undef, undef, undef, undef, undef, undef, undef, undef, undef, undef, undef, undef, undef, undef, undef, undef, undef, undef, undef, undef, undef, undef, undef, undef, undef, undef, undef, undef, undef, undef, undef, undef, undef, undef, undef, undef, undef, undef, undef, undef, undef, undef, undef, undef, undef, undef, undef, undef, undef, undef, undef, undef, undef, undef, undef, undef, undef, undef, undef, undef, undef]) (fun τ => ?_) ?_
  · refine wp_mono (c13_a_no (fun a w' => a.defers = [] ∧ Upto (fun _ => False) m w' ∧ ∃ (y16 y17 y18 y19 y20 y21 y22 y23 y24 y25 y26 y27 y28 y29 : Value), a.tmps = #[tv, .pointer (some ⟨vb, vo, none⟩), .int .i8 op, .int .i64 arg, .int .i64 next, undef, undef, undef, undef, undef, .int .i64 0, .int .i64 0, .bool false, undef, undef, undef, y16, y17, y18, y19, y20, y21, y22, y23, y24, y25, y26, y27, y28, y29, .bool true, undef, undef, undef, undef, undef, undef, undef, undef, undef, undef, undef, undef, undef, undef, undef, undef, undef, undef, undef, undef, undef, undef, undef, undef, undef, undef, undef, undef, undef, undef, undef, undef, undef, undef, undef, undef, undef, undef, undef, undef, undef, undef, undef, undef, undef, undef, undef, undef, undef, undef, undef, undef, undef, undef, undef, undef, undef, undef, undef, undef, undef, undef, undef, undef, undef, undef, undef, undef, undef, undef, undef, undef, undef, undef, undef, undef, undef, undef, undef, undef, undef, undef, undef, undef, undef, undef, undef, undef, undef, undef, undef, undef, undef, undef, undef, undef]) (re (O.gh h m) τ 0) tv vb vo op arg next ok (hl τ) hno fun y16 y17 y18 y19 y20 y21 y22 y23 y24 y25 y26 y27 y28 y29 => ⟨rfl, (Upto.gh (O := O) (h := h)).trans (Upto.of_heap rfl), y16, y17, y18, y19, y20, y21, y22, y23, y24, y25, y26, y27, y28, y29, rfl⟩) (fun e a w' hq => by
      cases e with
      | normal => exact ⟨rfl, hq.1, hq.2⟩
      | _ => exact hq.elim)
  rintro _ m1 ⟨hu, y16, y17, y18, y19, y20, y21, y22, y23, y24, y25, y26, y27, y28, y29, rfl⟩ _
  refine .ctl0 rfl (fun _ => Go.Conc.stepG_cond (t := true) rfl) ?_
  simp only [if_true]
  refine .ctl0 rfl (fun _ => Go.Conc.stepG_seq) (.ctl0 rfl (fun _ => Go.Conc.stepG_region) ?_)
  refine .val hP rfl rfl rfl (.int .i64 0) (fun τ => by simp [go_sem]) ?_
  walk_nrm
  refine .val hP rfl rfl rfl (.int .i64 0) (fun τ => by simp [go_sem]) ?_
  walk_nrm
  refine .val hP rfl rfl rfl (.bool false) (fun τ => by simp [go_sem]) ?_
  walk_nrm
  refine .ctl0 rfl (fun _ => Go.Conc.stepG_region_end) (.ctl0 rfl (fun _ => Go.Conc.stepG_ret') ?_)
  refine .leave (v := .tuple #[.int .i64 0, .int .i64 0, .bool false]) rfl rfl Try.func13 (fun w => by simp [go_sem, results, Try.f13]) (fun w => by simp [go_sem, results, Try.f13]) (hn m1 hu)
end
end Go.Proofs.Ytkbfbphbdljaaaa
