/- Texts of one proof, joined: each says what it proves. Every premise stands in the statements. -/
import Derived.Test.YtkbfbphbdljaaaaA32
import Derived.Test.YtkbfbphbdljaaaaC01
import Derived.Test.YtkbfbphbdljaaaaC02
import Derived.Test.YtkbfbphbdljaaaaA13
/- The thread of the law's stopped: its deferred function. Every premise stands in the statements. -/
set_option linter.unusedVariables false
set_option linter.unusedSimpArgs false
namespace Go.Proofs.Ytkbfbphbdljaaaa
open Go.Tre Go.RowKit
open Go.Conc (G base baseD crowd rcase scase)
open Go.ConcN (upd upd_ne upd_same)
/-- lives, behind one more look. -/
def live1 (i : Nat) (l : Int × Int) : Int × Int := (l.1, if i = 0 then IntKind.i64.wrap (l.2 + 1) else l.2)
def is1 (l : Int × Int) : Int × Int := (IntKind.i64.wrap (l.1 + 1), l.2)
/-- What the law's memory must be. -/
structure StL [Base] (L : Lw (Int × Int)) (isb lvb xb nb : Nat) (nv : Int) : Prop where
  ne : isb ≠ lvb
  vals : ∀ s, L.good s → (s.vals ⟨xb, 0, none⟩).isSome = true
  cells : ∀ l m O, L.inv l m O → m.cell? ⟨isb, 0, none⟩ = some (.int .i64 l.1) ∧ m.cell? ⟨lvb, 0, none⟩ = some (.int .i64 l.2) ∧ m.cell? ⟨nb, 0, none⟩ = some (.int .i64 nv) ∧ ∀ b, b = isb ∨ b = lvb → Base.b0 ≤ b ∧ O.o b = none ∧ O.pre b = 0
  set : ∀ (l l' : Int × Int) m O m' b, (b = isb ∧ l'.2 = l.2 ∧ m'.cell? ⟨isb, 0, none⟩ = some (.int .i64 l'.1) ∨ b = lvb ∧ l'.1 = l.1 ∧ m'.cell? ⟨lvb, 0, none⟩ = some (.int .i64 l'.2)) → L.inv l m O → Upto (fun a => a = ⟨b, 0, none⟩) m m' → L.inv l' m' O
  own : ∀ l l' a, L.own l a → L.own l' a
  own2 : ∀ l b, b = isb ∨ b = lvb → L.own l ⟨b, 0, none⟩
  good : ∀ s l', L.good s → L.good { s with lam := l' }
section
variable [Base]
def GSt.setLam {Λ : Type} (G : GSt Λ) (l : Λ) : GSt Λ := { G with s := { G.s with lam := l } }
theorem Runs.setLam {X : Rn (Int × Int)} {i h b : Nat} {sb : Seat} {B : Nat → Option Nat} {G : GSt (Int × Int)} {td : TD (Int × Int)} {m m' : World} {O : Own} {Γ : Nat → Option Seat} {isb lvb xb nb : Nat} {nv : Int} (hV : StL X.L isb lvb xb nb nv) (hR : Runs X i h b sb B G td m O Γ) (l' : Int × Int) {c : Nat}
    (hc : c = isb ∧ l'.2 = G.s.lam.2 ∧ m'.cell? ⟨isb, 0, none⟩ = some (.int .i64 l'.1) ∨ c = lvb ∧ l'.1 = G.s.lam.1 ∧ m'.cell? ⟨lvb, 0, none⟩ = some (.int .i64 l'.2)) (hu : Upto (fun a => a = ⟨c, 0, none⟩) m m') : Runs X i h b sb B (G.setLam l') td m' O Γ := by
  have hcc : c = isb ∨ c = lvb := hc.imp (·.1) (·.1)
  have hk := hR.mem.kl _ (hV.own2 G.s.lam c hcc)
  refine ⟨hR.mem.law' hu (fun a ha => .inl (by rw [ha]; exact hk)) (fun _ _ _ => ⟨rfl, rfl⟩) (fun _ _ _ => ⟨rfl, rfl⟩) (hV.set _ _ _ _ _ _ hc hR.mem.law hu) (fun a ha => hR.mem.kl a (hV.own _ _ _ ha)) (hV.good _ _ hR.mem.good), hR.seat.as rfl, hR.ix, hR.g, hR.B, hR.ne, hR.boss, hR.bc, hR.be, hR.fell, hR.v⟩
set_option maxRecDepth 100000 in
set_option maxHeartbeats 4000000 in
/-- The deferred function, behind its look at the panic. -/
theorem Okk.d58tail {X : Rn (Int × Int)} {i h b : Nat} {sb : Seat} {B : Nat → Option Nat} {G : GSt (Int × Int)} {td : TD (Int × Int)} {m : World} {O : Own} {Γ : Nat → Option Seat} {isb lvb xb nb tbx : Nat} {nv : Int} (hV : StL X.L isb lvb xb nb nv) (hR : Runs X i h b sb B G td m O Γ) {c : Frame} {cs : List Frame} (y3 y4 y5 y6 : Value)
    (ht : m.cell? ⟨tbx, 0, none⟩ = some (.pointer (some ⟨td.tp, 0, none⟩)))
    (hn : ∀ m' (tm : Array Value), Upto (fun a => a = ⟨lvb, 0, none⟩) m m' → Runs X i h b sb B (G.setLam (live1 i G.s.lam)) td m' O Γ → Okk Try.prog X.Φ h (Go.Conc.G { (baseD 58).at ⟨tm, []⟩ [] with mode := .returning } (c :: cs)) m' O Γ) :
    Okk Try.prog X.Φ h (Go.Conc.G ((baseD 58).at ⟨#[.pointer (some ⟨isb, 0, none⟩), .pointer (some ⟨tbx, 0, none⟩), .pointer (some ⟨lvb, 0, none⟩), y3, y4, y5, y6, undef, undef, undef, undef, undef, undef, undef, undef, undef], []⟩ [.code (match Try.f58.body with | some (.seq _ c) => c | _ => .skip)]) (c :: cs)) m O Γ := by
  have hP := try_plain2
  have D := hR.mem.td i td hR.ix
  have hen := D.ended
  rw [hR.B] at hen
  simp only [Option.isNone_some, Bool.false_and] at hen
  obtain ⟨_, k2, _, k4⟩ := hV.cells _ _ _ hR.mem.law
  obtain ⟨lb, lo, lp⟩ := k4 lvb (.inr rfl)
  have cel : ∀ {a : Addr} {u : Value} τ, m.cell? a = some u → (re (O.gh h m) τ 0).cell? a = some u := fun {a u} τ ha => by rw [re_cell?, gh_cell]; exact ha
  simp only [Try.f58]
  refine .ctl0 rfl (fun _ => Go.Conc.stepG_seq) (.ctl0 rfl (fun _ => Go.Conc.stepG_region) ?_)
  refine .val hP rfl rfl rfl (.pointer (some ⟨td.tp, 0, none⟩)) (fun τ => by simp [go_sem, gh_cell, ht]) ?_
  walk_nrm
  refine .enter (f := 29) (args := #[.pointer (some ⟨td.tp, 0, none⟩)]) rfl rfl (fun w => ?_) (fun w => ?_) ?_
  · have := (callFunc_enter Try.func29 (by kernel_rfl) rfl #[.pointer (some ⟨td.tp, 0, none⟩)] w).1
    simp [go_sem, this]
  · have := (callFunc_enter Try.func29 (by kernel_rfl) rfl #[.pointer (some ⟨td.tp, 0, none⟩)] w).2
    simp [go_sem, this]
  refine Okk.callC hP Try.func29 rfl (by simp [okCode, okOp, plS, plS2, plE]) (Callable.mk rfl) (R := fun v w' => v = .bool true ∧ Upto (fun _ => False) m w') (fun τ => (live_calls _ td.tp X.rp false (cel τ D.r) (cel τ hen)).mono fun e w' ⟨h1, h2⟩ => ⟨_, h1, rfl, by rw [h2]; exact (Upto.gh (O := O) (h := h)).trans (Upto.of_heap rfl)⟩) ?_
  rintro _ m1 ⟨rfl, hu1⟩ _
  rw [Frame.finish_at]
  walk_nrm
  have ht1 := hu1.cell _ _ ht (fun z => z)
  have r1 := hu1.cell _ _ D.r (fun z => z)
  have n1 := hu1.cell _ _ D.number (fun z => z)
  have e1 := hu1.cell _ _ hen (fun z => z)
  have k21 := hu1.cell _ _ k2 (fun z => z)
  have cel1 : ∀ {a : Addr} {u : Value} τ, m1.cell? a = some u → (re (O.gh h m1) τ 0).cell? a = some u := fun {a u} τ ha => by rw [re_cell?, gh_cell]; exact ha
  refine .val hP rfl rfl rfl (.bool true) (fun τ => by simp [go_sem]) ?_
  walk_nrm
  refine .val hP rfl rfl rfl (.pointer (some ⟨td.tp, 0, none⟩)) (fun τ => by simp [go_sem, gh_cell, ht1]) ?_
  walk_nrm
  refine .enter (f := 37) (args := #[.pointer (some ⟨td.tp, 0, none⟩)]) rfl rfl (fun w => ?_) (fun w => ?_) ?_
  · have := (callFunc_enter Try.func37 (by kernel_rfl) rfl #[.pointer (some ⟨td.tp, 0, none⟩)] w).1
    simp [go_sem, this]
  · have := (callFunc_enter Try.func37 (by kernel_rfl) rfl #[.pointer (some ⟨td.tp, 0, none⟩)] w).2
    simp [go_sem, this]
  refine Okk.callC hP Try.func37 rfl (by simp [okCode, okOp, plS, plS2, plE]) (Callable.mk rfl) (R := fun v w' => v = .int .i64 (i : Int) ∧ Upto (fun _ => False) m1 w') (fun τ => (number_calls _ td.tp X.rp i (cel1 τ r1) (cel1 τ n1) (cel1 τ e1)).mono fun e w' ⟨h1, h2⟩ => ⟨_, h1, rfl, by rw [h2]; exact (Upto.gh (O := O) (h := h)).trans (Upto.of_heap rfl)⟩) ?_
  rintro _ m2 ⟨rfl, hu2⟩ _
  rw [Frame.finish_at]
  walk_nrm
  have hu02 := hu1.trans hu2
  have k22 := hu2.cell _ _ k21 (fun z => z)
  by_cases hi : i = 0
  · refine .val hP rfl rfl rfl (.bool true) (fun τ => by simp [go_sem, hi]) ?_
    walk_nrm
    refine .val hP rfl rfl rfl (.bool true) (fun τ => by simp [go_sem]) ?_
    walk_nrm
    refine .ctl0 rfl (fun _ => Go.Conc.stepG_region_end) (.ctl0 rfl (fun _ => Go.Conc.stepG_cond (t := true) rfl) ?_)
    simp only [if_true]
    refine .ctl0 rfl (fun _ => Go.Conc.stepG_region) ?_
    refine .val hP rfl rfl rfl (.int .i64 G.s.lam.2) (fun τ => by simp [go_sem, gh_cell, k22]) ?_
    walk_nrm
    refine .val hP rfl rfl rfl (.int .i64 (IntKind.i64.wrap (G.s.lam.2 + 1))) (fun τ => by simp [go_sem]; try rfl) ?_
    walk_nrm
    have f0 : ∀ τ, (re (O.gh h m2) τ 0).frozen? ⟨lvb, 0, none⟩ = false := fun τ => gh_free (m := m2) lb (.inl lo) (by show O.pre lvb ≤ 0; rw [lp]; exact Nat.le_refl _)
    have q0 : ∀ τ, (re (O.gh h m2) τ 0).cell? ⟨lvb, 0, none⟩ = some (.int .i64 G.s.lam.2) := fun τ => by rw [re_cell?, gh_cell]; exact k22
    refine .unit hP rfl rfl rfl (R := fun g' => Upto (fun a => a = ⟨lvb, 0, none⟩) m2 g' ∧ g'.cell? ⟨lvb, 0, none⟩ = some (.int .i64 (IntKind.i64.wrap (G.s.lam.2 + 1)))) (fun τ => ⟨(re (O.gh h m2) τ 0).setCell ⟨lvb, 0, none⟩ (.int .i64 (IntKind.i64.wrap (G.s.lam.2 + 1))), by have h1 := f0 τ; have h2 := q0 τ; simp [go_sem, h1, h2, -re_cell?, -re_frozen?], ?_, ?_⟩) ?_
    · exact (Upto.gh (O := O) (h := h)).trans (Upto.set (Upto.of_heap (m := O.gh h m2) (m' := re (O.gh h m2) τ 0) rfl) rfl)
    · exact World.cell?_setCell_same _ _ _ (q0 τ)
    intro m3 ⟨hu3, hl3⟩ _
    walk_nrm
    refine .ctl0 rfl (fun _ => Go.Conc.stepG_region_end) (.ctl0 rfl (fun _ => Go.Conc.stepG_end) ?_)
    have hu : Upto (fun a => a = ⟨lvb, 0, none⟩) m m3 := (hu02.mono (fun _ z => z.elim)).trans hu3
    refine hn m3 _ hu (hR.setLam hV _ (c := lvb) (.inr ⟨rfl, rfl, ?_⟩) hu)
    rw [hl3]; simp [live1, hi]
  · refine .val hP rfl rfl rfl (.bool false) (fun τ => by simp [go_sem]; omega) ?_
    walk_nrm
    refine .val hP rfl rfl rfl (.bool false) (fun τ => by simp [go_sem]) ?_
    walk_nrm
    refine .ctl0 rfl (fun _ => Go.Conc.stepG_region_end) (.ctl0 rfl (fun _ => Go.Conc.stepG_cond (t := false) rfl) ?_)
    simp only [Bool.false_eq_true, if_false]
    refine .ctl0 rfl (fun _ => Go.Conc.stepG_skip) (.ctl0 rfl (fun _ => Go.Conc.stepG_end) ?_)
    have hu : Upto (fun a => a = ⟨lvb, 0, none⟩) m m2 := hu02.mono (fun _ z => z.elim)
    refine hn m2 _ hu (hR.setLam hV _ (c := lvb) (.inr ⟨rfl, rfl, ?_⟩) hu)
    rw [k22]; simp [live1, hi]
end
end Go.Proofs.Ytkbfbphbdljaaaa

/- The thread of the law's stopped. Every premise stands in the statements. -/
set_option linter.unusedVariables false
set_option linter.unusedSimpArgs false
namespace Go.Proofs.Ytkbfbphbdljaaaa
open Go.Tre Go.RowKit
open Go.Conc (G base baseD crowd rcase scase)
open Go.ConcN (upd upd_ne upd_same)
/-- lam, stopped so often. -/
def stN (i : Nat) : Nat → Int × Int → Int × Int
  | 0 => fun l => l
  | k + 1 => fun l => stN i k (live1 i (is1 l))
/-- The thread that parks so often. -/
def stT (x : Addr) (n : Int) (i : Nat) : Nat → Th (Int × Int)
  | 0 => .over false
  | k + 1 => .acc 6 x n 0 (fun _ s => { s with lam := live1 i s.lam }) (fun _ _ => stT x n i k) (fun s => { s with lam := stN i (k + 1) s.lam })
noncomputable def loop56 : Code := match Try.f56.body with | some (.seq _ (.seq _ (.block _ (.loop c)))) => c | _ => .skip
def d58 (isb tbx lvb : Nat) : Deferred := { target := .fn (.func 58) #[.pointer (some ⟨isb, 0, none⟩), .pointer (some ⟨tbx, 0, none⟩), .pointer (some ⟨lvb, 0, none⟩)], args := #[] }
section
variable [Base]
variable {X : Rn (Int × Int)} {i h b : Nat} {sb : Seat} {B : Nat → Option Nat} {G : GSt (Int × Int)} {d : TD (Int × Int)} {m : World} {O : Own} {Γ : Nat → Option Seat} {isb lvb xb nb tbx : Nat} {nv : Int}
/-- What the goroutine has for itself. -/
structure Bx (h : Nat) (m : World) (O : Own) (tbx tp : Nat) : Prop where
  mine : O.mine h m ⟨tbx, 0, none⟩ = some (.pointer (some ⟨tp, 0, none⟩))
  ne : tbx ≠ tp
theorem Bx.upto {m' : World} {W : Addr → Prop} {tp : Nat} (H : Bx h m O tbx tp) (hu : Upto W m m') (hw : ¬ W ⟨tbx, 0, none⟩) : Bx h m' O tbx tp := by
  obtain ⟨z1, z2, z3⟩ := mine_some H.mine
  exact ⟨mine_of z1 z2 (hu.cell _ _ z3 hw), H.ne⟩
theorem Bx.away {tp c : Nat} (H : Bx h m O tbx tp) (ho : O.o c = none) (hp : O.pre c = 0) : tbx ≠ c := fun e => by
  obtain ⟨z1, z2, z3⟩ := mine_some H.mine
  simp only at z2
  rw [e, ho, hp] at z2
  rcases z2 with z | z
  · cases z
  · omega
theorem Bx.priv {m' : World} {O' : Own} {tp : Nat} (H : Bx h m O tbx tp) (hp : Priv tp h m O m' O') : Bx h m' O' tbx tp := by
  obtain ⟨z1, z2, z3⟩ := hp.1 _ _ H.mine H.ne
  exact ⟨mine_of z1 z2 z3, H.ne⟩
set_option maxRecDepth 100000 in
set_option maxHeartbeats 4000000 in
/-- The deferred function of one who is stopped. -/
theorem Okk.d58S (hV : StL X.L isb lvb xb nb nv) (hR : Runs X i h b sb B G d m O Γ) (hB : Bx h m O tbx d.tp) {c : Frame} {cs : List Frame} (hcm : c.mode = .panicking [{ v := stopV, recovered := false }])
    (hn : ∀ m', Runs X i h b sb B (G.setLam (live1 i (is1 G.s.lam))) d m' O Γ → Bx h m' O tbx d.tp → Okk Try.prog X.Φ h (Go.Conc.G { c with mode := .returning } cs) m' O Γ) :
    Okk Try.prog X.Φ h (Go.Conc.G (Frame.enter Try.prog 58 #[.pointer (some ⟨isb, 0, none⟩), .pointer (some ⟨tbx, 0, none⟩), .pointer (some ⟨lvb, 0, none⟩)] .deferred) (c :: cs)) m O Γ := by
  have hP := try_plain2
  obtain ⟨k1, k2, _, k4⟩ := hV.cells _ _ _ hR.mem.law
  obtain ⟨ib, io, ip⟩ := k4 isb (.inl rfl)
  obtain ⟨lb, lo, lp⟩ := k4 lvb (.inr rfl)
  rw [Go.Conc.enter_atD _ Try.func58 rfl]
  simp only [Try.ntmps58]
  refine .ctl0 rfl (fun _ => Go.Conc.stepG_seq) (.ctl0 rfl (fun _ => Go.Conc.stepG_seq) (.ctl0 rfl (fun _ => Go.Conc.stepG_region) ?_))
  refine .ctl0 rfl (fun w => stepG_recoverV rfl rfl rfl rfl (by simp [go_sem]) (by simp [go_sem]) hcm) ?_
  walk_nrm
  refine .enter (f := 24) (args := #[stopV]) rfl rfl (fun w => ?_) (fun w => ?_) ?_
  · have := (callFunc_enter Try.func24 (by kernel_rfl) rfl #[stopV] w).1
    simp [go_sem, this]
  · have := (callFunc_enter Try.func24 (by kernel_rfl) rfl #[stopV] w).2
    simp [go_sem, this]
  refine Okk.callC hP Try.func24 rfl (by simp [okCode, okOp, plS, plS2, plE]) (Callable.mk rfl) (R := fun v w' => v = .bool true ∧ Upto (fun _ => False) m w') (fun τ => (is_stop _).mono fun e w' ⟨h1, h2⟩ => ⟨_, h1, rfl, by rw [h2]; exact (Upto.gh (O := O) (h := h)).trans (Upto.of_heap rfl)⟩) ?_
  rintro _ m1 ⟨rfl, hu1⟩ _
  rw [Frame.finish_at]
  walk_nrm
  refine .ctl0 rfl (fun _ => Go.Conc.stepG_region_end) (.ctl0 rfl (fun _ => Go.Conc.stepG_cond (t := true) rfl) ?_)
  simp only [if_true]
  refine .ctl0 rfl (fun _ => Go.Conc.stepG_region) ?_
  have k11 := hu1.cell _ _ k1 (fun z => z)
  refine .val hP rfl rfl rfl (.int .i64 G.s.lam.1) (fun τ => by simp [go_sem, gh_cell, k11]) ?_
  walk_nrm
  refine .val hP rfl rfl rfl (.int .i64 (IntKind.i64.wrap (G.s.lam.1 + 1))) (fun τ => by simp [go_sem]; try rfl) ?_
  walk_nrm
  have f0 : ∀ τ, (re (O.gh h m1) τ 0).frozen? ⟨isb, 0, none⟩ = false := fun τ => gh_free (m := m1) ib (.inl io) (by show O.pre isb ≤ 0; rw [ip]; exact Nat.le_refl _)
  have q0 : ∀ τ, (re (O.gh h m1) τ 0).cell? ⟨isb, 0, none⟩ = some (.int .i64 G.s.lam.1) := fun τ => by rw [re_cell?, gh_cell]; exact k11
  refine .unit hP rfl rfl rfl (R := fun g' => Upto (fun a => a = ⟨isb, 0, none⟩) m1 g' ∧ g'.cell? ⟨isb, 0, none⟩ = some (.int .i64 (IntKind.i64.wrap (G.s.lam.1 + 1)))) (fun τ => ⟨(re (O.gh h m1) τ 0).setCell ⟨isb, 0, none⟩ (.int .i64 (IntKind.i64.wrap (G.s.lam.1 + 1))), by have h1 := f0 τ; have h2 := q0 τ; simp [go_sem, h1, h2, -re_cell?, -re_frozen?], ?_, ?_⟩) ?_
  · exact (Upto.gh (O := O) (h := h)).trans (Upto.set (Upto.of_heap (m := O.gh h m1) (m' := re (O.gh h m1) τ 0) rfl) rfl)
  · exact World.cell?_setCell_same _ _ _ (q0 τ)
  intro m2 ⟨hu2, hi2⟩ _
  walk_nrm
  have hu : Upto (fun a => a = ⟨isb, 0, none⟩) m m2 := (hu1.mono (fun _ z => z.elim)).trans hu2
  have hR2 := hR.setLam hV (is1 G.s.lam) (c := isb) (.inl ⟨rfl, rfl, hi2⟩) hu
  have hB2 := hB.upto hu (fun e => hB.away io ip (congrArg Addr.block e))
  refine .ctl0 rfl (fun _ => Go.Conc.stepG_region_end) ?_
  refine Okk.d58tail hV hR2 _ _ _ _ (mine_some hB2.mine).2.2 fun m3 tm hu3 hR3 => ?_
  refine .ctl0 rfl (fun w => stepG_endRecovered (fn := Try.f58) (v := .tuple #[]) rfl rfl Try.func58 (by simp [go_sem, results, Try.f58]) (by simp [go_sem, results, Try.f58]) rfl) ?_
  exact hn m3 hR3 (hB2.upto hu3 (fun e => hB.away lo lp (congrArg Addr.block e)))
set_option maxRecDepth 100000 in
set_option maxHeartbeats 4000000 in
/-- .. of one who goes on. -/
theorem Okk.d58N (hV : StL X.L isb lvb xb nb nv) (hR : Runs X i h b sb B G d m O Γ) (hB : Bx h m O tbx d.tp) {c : Frame} {cs : List Frame} (hcm : c.mode = .returning)
    (hn : ∀ m', Runs X i h b sb B (G.setLam (live1 i G.s.lam)) d m' O Γ → Bx h m' O tbx d.tp → Okk Try.prog X.Φ h (Go.Conc.G c cs) m' O Γ) :
    Okk Try.prog X.Φ h (Go.Conc.G (Frame.enter Try.prog 58 #[.pointer (some ⟨isb, 0, none⟩), .pointer (some ⟨tbx, 0, none⟩), .pointer (some ⟨lvb, 0, none⟩)] .deferred) (c :: cs)) m O Γ := by
  have hP := try_plain2
  obtain ⟨k1, k2, _, k4⟩ := hV.cells _ _ _ hR.mem.law
  obtain ⟨lb, lo, lp⟩ := k4 lvb (.inr rfl)
  rw [Go.Conc.enter_atD _ Try.func58 rfl]
  simp only [Try.ntmps58]
  refine .ctl0 rfl (fun _ => Go.Conc.stepG_seq) (.ctl0 rfl (fun _ => Go.Conc.stepG_seq) (.ctl0 rfl (fun _ => Go.Conc.stepG_region) ?_))
  refine .ctl0 rfl (fun w => stepG_recoverN rfl rfl rfl rfl (by simp [go_sem]) (by simp [go_sem]) hcm) ?_
  walk_nrm
  refine .enter (f := 24) (args := #[.nilIface]) rfl rfl (fun w => ?_) (fun w => ?_) ?_
  · have := (callFunc_enter Try.func24 (by kernel_rfl) rfl #[.nilIface] w).1
    simp [go_sem, this]
  · have := (callFunc_enter Try.func24 (by kernel_rfl) rfl #[.nilIface] w).2
    simp [go_sem, this]
  refine Okk.callC hP Try.func24 rfl (by simp [okCode, okOp, plS, plS2, plE]) (Callable.mk rfl) (R := fun v w' => v = .bool false ∧ Upto (fun _ => False) m w') (fun τ => (is_nil _).mono fun e w' ⟨h1, h2⟩ => ⟨_, h1, rfl, by rw [h2]; exact (Upto.gh (O := O) (h := h)).trans (Upto.of_heap rfl)⟩) ?_
  rintro _ m1 ⟨rfl, hu1⟩ _
  rw [Frame.finish_at]
  walk_nrm
  refine .ctl0 rfl (fun _ => Go.Conc.stepG_region_end) (.ctl0 rfl (fun _ => Go.Conc.stepG_cond (t := false) rfl) ?_)
  simp only [Bool.false_eq_true, if_false]
  refine .ctl0 rfl (fun _ => Go.Conc.stepG_skip) ?_
  have hu : Upto (fun a => a = ⟨isb, 0, none⟩) m m1 := hu1.mono (fun _ z => z.elim)
  have hR2 : Runs X i h b sb B G d m1 O Γ := hR.setLam hV G.s.lam (c := isb) (.inl ⟨rfl, rfl, hu1.cell _ _ k1 (fun z => z)⟩) hu
  have hB2 := hB.upto hu1 (fun z => z)
  refine Okk.d58tail hV hR2 _ _ _ _ (mine_some hB2.mine).2.2 fun m3 tm hu3 hR3 => ?_
  refine .ctl0 rfl (fun w => stepG_endDeferred (fn := Try.f58) (v := .tuple #[]) rfl rfl Try.func58 (by simp [go_sem, results, Try.f58]) (by simp [go_sem, results, Try.f58]) hcm) ?_
  exact hn m3 hR3 (hB2.upto hu3 (fun e => hB.away lo lp (congrArg Addr.block e)))
end
end Go.Proofs.Ytkbfbphbdljaaaa

/- The thread of the law's stopped, whole. Every premise stands in the statements. -/
set_option linter.unusedVariables false
set_option linter.unusedSimpArgs false
namespace Go.Proofs.Ytkbfbphbdljaaaa
open Go.Tre Go.RowKit
open Go.Conc (G base baseD crowd rcase scase)
open Go.ConcN (upd upd_ne upd_same)
section
variable [Base]
variable {X : Rn (Int × Int)} {i h b : Nat} {sb : Seat} {B : Nat → Option Nat} {G : GSt (Int × Int)} {d : TD (Int × Int)} {m : World} {O : Own} {Γ : Nat → Option Seat} {isb lvb xb nb tbx : Nat} {nv : Int}
/-- A frame is left, whatever its shape. -/
theorem _root_.Go.Tre.Okk.leaveF {P : Program} {Φ : Value → World → Prop} {fr c : Frame} {cs : List Frame} {fn : Func} {v : Value} (hm : fr.mode = .returning) (hk : fr.kind = .normal) (hro : fr.roundOf = none) (hd : fr.defers = []) (hf : P.funcs[fr.fn]? = some fn) (hr : ∀ w, (results fn fr.tmps).run P w = .ok v w) (he : ∀ w, (results fn fr.tmps).events P w #[] = #[])
    (hn : Okk P Φ h (Go.Conc.G (c.finish v) cs) m O Γ) : Okk P Φ h (Go.Conc.G fr (c :: cs)) m O Γ := by
  have e : fr = { fr.at ⟨fr.tmps, fr.defers⟩ fr.todo with mode := .returning } := by
    obtain ⟨a1, a2, a3, a4, a5, a6, a7⟩ := fr
    simp only at hm hro
    subst hm hro
    rfl
  rw [e]
  exact .leave hk hd hf hr he hn
theorem go58 {Φ : Value → World → Prop} {fr : Frame} {cs : List Frame} {ds : List Deferred} (hm : fr.mode ≠ .run) (hd : fr.defers = d58 isb tbx lvb :: ds) (hn : Okk Try.prog Φ h (Go.Conc.G (Frame.enter Try.prog 58 #[.pointer (some ⟨isb, 0, none⟩), .pointer (some ⟨tbx, 0, none⟩), .pointer (some ⟨lvb, 0, none⟩)] .deferred) ({ fr with defers := ds } :: cs)) m O Γ) :
    Okk Try.prog Φ h (Go.Conc.G fr cs) m O Γ :=
  .ctl0 rfl (fun w => stepG_unwind (d := d58 isb tbx lvb) (f := 58) (args := #[.pointer (some ⟨isb, 0, none⟩), .pointer (some ⟨tbx, 0, none⟩), .pointer (some ⟨lvb, 0, none⟩)]) hm hd rfl (callFunc_enter Try.func58 (by kernel_rfl) rfl _ w).1 (callFunc_enter Try.func58 (by kernel_rfl) rfl _ w).2) hn
set_option maxRecDepth 100000 in
set_option maxHeartbeats 4000000 in
/-- One round of one who is stopped. -/
theorem Okk.f57S (hV : StL X.L isb lvb xb nb nv) (hR : Runs X i h b sb B G d m O Γ) (hst : G.st = true) (hB : Bx h m O tbx d.tp) {c : Frame} {cs : List Frame}
    (hn : ∀ m', Runs X i h b sb B (G.setLam (live1 i (is1 G.s.lam))) d m' O Γ → Bx h m' O tbx d.tp → Okk Try.prog X.Φ h (Go.Conc.G (c.finish (.tuple #[])) cs) m' O Γ) :
    Okk Try.prog X.Φ h (Go.Conc.G (Frame.enter Try.prog 57 #[.pointer (some ⟨isb, 0, none⟩), .pointer (some ⟨tbx, 0, none⟩), .pointer (some ⟨lvb, 0, none⟩), .pointer (some ⟨xb, 0, none⟩), .pointer (some ⟨nb, 0, none⟩)] .normal) (c :: cs)) m O Γ := by
  have hP := try_plain2
  obtain ⟨k1, k2, k3, k4⟩ := hV.cells _ _ _ hR.mem.law
  have D := hR.mem.td i d hR.ix
  have hen := D.ended
  rw [hR.B] at hen
  simp only [Option.isNone_some, Bool.false_and] at hen
  have hbx := (mine_some hB.mine).2.2
  have hst6 : m.cell? ⟨X.rp, 6, none⟩ = some (.bool true) := by have := hR.mem.stops; rw [hst] at this; exact this
  rw [Go.Conc.enter_at _ Try.func57 rfl]
  simp only [Try.ntmps57]
  refine .ctl0 rfl (fun _ => Go.Conc.stepG_seq) (.ctl0 rfl (fun _ => Go.Conc.stepG_region) ?_)
  refine .val hP rfl rfl rfl (.func (.func 58) #[] #[.pointer (some ⟨isb, 0, none⟩), .pointer (some ⟨tbx, 0, none⟩), .pointer (some ⟨lvb, 0, none⟩)]) (fun τ => by simp [go_sem]) ?_
  walk_nrm
  refine .ctl0 rfl (fun w => stepG_deferV (d := d58 isb tbx lvb) (by decide) rfl rfl (by simp [go_sem, d58]) (by simp [go_sem])) ?_
  walk_nrm
  refine .ctl0 rfl (fun _ => Go.Conc.stepG_region_end) (.ctl0 rfl (fun _ => Go.Conc.stepG_region) ?_)
  refine .val hP rfl rfl rfl (.pointer (some ⟨d.tp, 0, none⟩)) (fun τ => by simp [go_sem, gh_cell, hbx]) ?_
  walk_nrm
  refine .val hP rfl rfl rfl (.int .i64 nv) (fun τ => by simp [go_sem, gh_cell, k3]) ?_
  walk_nrm
  refine .enter (f := 13) (args := #[.pointer (some ⟨d.tp, 0, none⟩), .pointer (some ⟨xb, 0, none⟩), .int .i8 6, .int .i64 nv, .int .i64 0]) rfl rfl (fun w => ?_) (fun w => ?_) ?_
  · have := (callFunc_enter Try.func13 (by kernel_rfl) rfl #[.pointer (some ⟨d.tp, 0, none⟩), .pointer (some ⟨xb, 0, none⟩), .int .i8 6, .int .i64 nv, .int .i64 0] w).1
    simp [go_sem, this]
  · have := (callFunc_enter Try.func13 (by kernel_rfl) rfl #[.pointer (some ⟨d.tp, 0, none⟩), .pointer (some ⟨xb, 0, none⟩), .int .i8 6, .int .i64 nv, .int .i64 0] w).2
    simp [go_sem, this]
  refine Okk.stepS D.r D.number hen hst6 (by decide) (by decide) fun m1 hu1 => ?_
  have hu : Upto (fun a => a = ⟨isb, 0, none⟩) m m1 := hu1.mono (fun _ z => z.elim)
  have hR1 : Runs X i h b sb B G d m1 O Γ := hR.setLam hV G.s.lam (c := isb) (.inl ⟨rfl, rfl, hu1.cell _ _ k1 (fun z => z)⟩) hu
  have hB1 := hB.upto hu1 (fun z => z)
  refine go58 (ds := []) (fun z => by cases z) rfl ?_
  refine Okk.d58S hV hR1 hB1 rfl fun m2 hR2 hB2 => ?_
  refine .leaveF (v := .tuple #[]) rfl rfl rfl rfl Try.func57 (fun w => by simp [go_sem, results, Try.f57]) (fun w => by simp [go_sem, results, Try.f57]) ?_
  exact hn m2 hR2 hB2
set_option maxRecDepth 100000 in
set_option maxHeartbeats 4000000 in
/-- One round of one who goes on. -/
theorem Okk.f57N (hV : StL X.L isb lvb xb nb nv) (hR : Runs X i h b sb B G d m O Γ) (hst : G.st = false) (hB : Bx h m O tbx d.tp) {c : Frame} {cs : List Frame} (k : Nat)
    (hgo : ∀ (m' : World) (O' : Own) (Γ' : Nat → Option Seat) (G' : GSt (Int × Int)) (b' : Nat) (sb' : Seat) (B' : Nat → Option Nat) (d' : TD (Int × Int)), Like d' d → G'.st = false → Runs X i h b' sb' B' G' d' m' O' Γ' → Bx h m' O' tbx d'.tp →
      Back X b' sb' (upd B' i none) (fun G'' => Next (Prom X (stT ⟨xb, 0, none⟩ nv i k) i) G' i d' G'.s (stT ⟨xb, 0, none⟩ nv i k) G'') → Okk Try.prog X.Φ h (Go.Conc.G (c.finish (.tuple #[])) cs) m' O' Γ')
    (hstop : ∀ (m' : World) (O' : Own) (Γ' : Nat → Option Seat) (G' : GSt (Int × Int)) (b' : Nat) (sb' : Seat) (B' : Nat → Option Nat) (d' : TD (Int × Int)), Like d' d → G'.st = true → Runs X i h b' sb' B' G' d' m' O' Γ' → Bx h m' O' tbx d'.tp →
      Back X b' sb' (upd B' i none) (fun G'' => Next (fun _ _ => True) G' i d' { G'.s with lam := stN i k G'.s.lam } (.over false) G'') → Okk Try.prog X.Φ h (Go.Conc.G (c.finish (.tuple #[])) cs) m' O' Γ')
    (hback : Back X b sb (upd B i none) (fun G'' => Next (Prom X (stT ⟨xb, 0, none⟩ nv i (k + 1)) i) G i d G.s (stT ⟨xb, 0, none⟩ nv i (k + 1)) G'')) :
    Okk Try.prog X.Φ h (Go.Conc.G (Frame.enter Try.prog 57 #[.pointer (some ⟨isb, 0, none⟩), .pointer (some ⟨tbx, 0, none⟩), .pointer (some ⟨lvb, 0, none⟩), .pointer (some ⟨xb, 0, none⟩), .pointer (some ⟨nb, 0, none⟩)] .normal) (c :: cs)) m O Γ := by
  have hP := try_plain2
  obtain ⟨k1, k2, k3, k4⟩ := hV.cells _ _ _ hR.mem.law
  have hbx := (mine_some hB.mine).2.2
  rw [Go.Conc.enter_at _ Try.func57 rfl]
  simp only [Try.ntmps57]
  refine .ctl0 rfl (fun _ => Go.Conc.stepG_seq) (.ctl0 rfl (fun _ => Go.Conc.stepG_region) ?_)
  refine .val hP rfl rfl rfl (.func (.func 58) #[] #[.pointer (some ⟨isb, 0, none⟩), .pointer (some ⟨tbx, 0, none⟩), .pointer (some ⟨lvb, 0, none⟩)]) (fun τ => by simp [go_sem]) ?_
  walk_nrm
  refine .ctl0 rfl (fun w => stepG_deferV (d := d58 isb tbx lvb) (by decide) rfl rfl (by simp [go_sem, d58]) (by simp [go_sem])) ?_
  walk_nrm
  refine .ctl0 rfl (fun _ => Go.Conc.stepG_region_end) (.ctl0 rfl (fun _ => Go.Conc.stepG_region) ?_)
  refine .val hP rfl rfl rfl (.pointer (some ⟨d.tp, 0, none⟩)) (fun τ => by simp [go_sem, gh_cell, hbx]) ?_
  walk_nrm
  refine .val hP rfl rfl rfl (.int .i64 nv) (fun τ => by simp [go_sem, gh_cell, k3]) ?_
  walk_nrm
  refine .enter (f := 13) (args := #[.pointer (some ⟨d.tp, 0, none⟩), .pointer (some ⟨xb, 0, none⟩), .int .i8 6, .int .i64 nv, .int .i64 0]) rfl rfl (fun w => ?_) (fun w => ?_) ?_
  · have := (callFunc_enter Try.func13 (by kernel_rfl) rfl #[.pointer (some ⟨d.tp, 0, none⟩), .pointer (some ⟨xb, 0, none⟩), .int .i8 6, .int .i64 nv, .int .i64 0] w).1
    simp [go_sem, this]
  · have := (callFunc_enter Try.func13 (by kernel_rfl) rfl #[.pointer (some ⟨d.tp, 0, none⟩), .pointer (some ⟨xb, 0, none⟩), .int .i8 6, .int .i64 nv, .int .i64 0] w).2
    simp [go_sem, this]
  refine Okk.stepI (td := d) (seg := fun _ s => { s with lam := live1 i s.lam }) (nx := fun _ _ => stT ⟨xb, 0, none⟩ nv i k) (stop := fun s => { s with lam := stN i (k + 1) s.lam }) hR hst (by decide) (by decide) (hV.vals _ hR.mem.good) (Callable.mk rfl) (fun m' O' Γ' G' b' sb' B' d' s₀ hl' hst' hs hR' hpriv hcap' hext hback' => ?_) (fun m' O' Γ' G' b' sb' B' d' hl' hst' hR' hpriv hext hback' => ?_) hback
  · have hB' : Bx h m' O' tbx d'.tp := by rw [hl'.1]; exact hB.priv hpriv
    rw [Frame.finish_at]
    walk_nrm
    refine .ctl0 rfl (fun _ => Go.Conc.stepG_region_end) (.ctl0 rfl (fun _ => Go.Conc.stepG_end) ?_)
    refine go58 (ds := []) (fun z => by cases z) rfl ?_
    refine Okk.d58N hV hR' hB' rfl fun m2 hR2 hB2 => ?_
    refine .leaveF (v := .tuple #[]) rfl rfl rfl rfl Try.func57 (fun w => by simp [go_sem, results, Try.f57]) (fun w => by simp [go_sem, results, Try.f57]) ?_
    exact hgo m2 O' Γ' (G'.setLam (live1 i G'.s.lam)) b' sb' B' d' hl' hst' hR2 hB2 (hback'.mono fun G'' h => h)
  · have hB' : Bx h m' O' tbx d'.tp := by rw [hl'.1]; exact hB.priv hpriv
    refine go58 (ds := []) (fun z => by cases z) rfl ?_
    refine Okk.d58S hV hR' hB' rfl fun m2 hR2 hB2 => ?_
    refine .leaveF (v := .tuple #[]) rfl rfl rfl rfl Try.func57 (fun w => by simp [go_sem, results, Try.f57]) (fun w => by simp [go_sem, results, Try.f57]) ?_
    exact hstop m2 O' Γ' (G'.setLam (live1 i (is1 G'.s.lam))) b' sb' B' d' hl' hst' hR2 hB2 (hback'.mono fun G'' h => h)
variable {cf : Frame} {td : TD (Int × Int)}
set_option maxRecDepth 100000 in
set_option maxHeartbeats 4000000 in
/-- The rounds of one who is stopped. -/
theorem stop_loopS (hE : Ends X i td cf) (hV : StL X.L isb lvb xb nb nv) (tv : Value) : ∀ (r k : Nat) (m : World) (O : Own) (Γ : Nat → Option Seat) (G : GSt (Int × Int)) (b : Nat) (sb : Seat) (B : Nat → Option Nat) (d : TD (Int × Int)) (y7 y8 y9 y10 y11 y12 : Value), k + r = 2 → Like d td → Runs X i td.g b sb B G d m O Γ → G.st = true → Bx td.g m O tbx d.tp →
      Back X b sb (upd B i none) (fun G' => Next (fun _ _ => True) G i d { G.s with lam := stN i r G.s.lam } (.over false) G') →
      Okk Try.prog X.Φ td.g (Go.Conc.G ((base 56).at ⟨#[tv, .pointer (some ⟨isb, 0, none⟩), .pointer (some ⟨lvb, 0, none⟩), .pointer (some ⟨xb, 0, none⟩), .pointer (some ⟨nb, 0, none⟩), .pointer (some ⟨tbx, 0, none⟩), .int .i64 (k : Int), y7, y8, y9, y10, y11, y12], []⟩ [.code loop56, .inLoop loop56, .inBlock 0]) [cf, bot]) m O Γ := by
  have hP := try_plain2
  intro r
  induction r with
  | zero =>
    intro k m O Γ G b sb B d y7 y8 y9 y10 y11 y12 hk hl hR hst hB hback
    simp only [loop56, Try.f56]
    refine .ctl0 rfl (fun _ => Go.Conc.stepG_seq) (.ctl0 rfl (fun _ => Go.Conc.stepG_seq) (.ctl0 rfl (fun _ => Go.Conc.stepG_region) ?_))
    refine .val hP rfl rfl rfl (.int .i64 (k : Int)) (fun τ => by simp [go_sem]) ?_
    walk_nrm
    refine .val hP rfl rfl rfl (.bool false) (fun τ => by simp [go_sem]; try omega) ?_
    walk_nrm
    refine .ctl0 rfl (fun _ => Go.Conc.stepG_region_end) (.ctl0 rfl (fun _ => Go.Conc.stepG_cond (t := false) rfl) ?_)
    simp only [Bool.false_eq_true, if_false]
    refine .ctl0 rfl (fun _ => Go.Conc.stepG_exit rfl) (.ctl0 rfl (fun _ => Go.Conc.stepG_end) ?_)
    refine .leave (v := .tuple #[]) rfl rfl Try.func56 (fun w => by simp [go_sem, results, Try.f56]) (fun w => by simp [go_sem, results, Try.f56]) ?_
    exact hE.fin m O Γ G b sb B d _ hl hR hback
  | succ r ih =>
    intro k m O Γ G b sb B d y7 y8 y9 y10 y11 y12 hk hl hR hst hB hback
    simp only [loop56, Try.f56]
    refine .ctl0 rfl (fun _ => Go.Conc.stepG_seq) (.ctl0 rfl (fun _ => Go.Conc.stepG_seq) (.ctl0 rfl (fun _ => Go.Conc.stepG_region) ?_))
    refine .val hP rfl rfl rfl (.int .i64 (k : Int)) (fun τ => by simp [go_sem]) ?_
    walk_nrm
    refine .val hP rfl rfl rfl (.bool true) (fun τ => by simp [go_sem]; try omega) ?_
    walk_nrm
    refine .ctl0 rfl (fun _ => Go.Conc.stepG_region_end) (.ctl0 rfl (fun _ => Go.Conc.stepG_cond (t := true) rfl) ?_)
    simp only [if_true]
    refine .ctl0 rfl (fun _ => Go.Conc.stepG_skip) (.ctl0 rfl (fun _ => Go.Conc.stepG_seq) (.ctl0 rfl (fun _ => Go.Conc.stepG_block) (.ctl0 rfl (fun _ => Go.Conc.stepG_region) ?_)))
    refine .val hP rfl rfl rfl (.func (.func 57) #[] #[.pointer (some ⟨isb, 0, none⟩), .pointer (some ⟨tbx, 0, none⟩), .pointer (some ⟨lvb, 0, none⟩), .pointer (some ⟨xb, 0, none⟩), .pointer (some ⟨nb, 0, none⟩)]) (fun τ => by simp [go_sem]) ?_
    walk_nrm
    refine .enter (f := 57) (args := #[.pointer (some ⟨isb, 0, none⟩), .pointer (some ⟨tbx, 0, none⟩), .pointer (some ⟨lvb, 0, none⟩), .pointer (some ⟨xb, 0, none⟩), .pointer (some ⟨nb, 0, none⟩)]) rfl rfl (fun w => ?_) (fun w => ?_) ?_
    · have := (callFunc_enter Try.func57 (by kernel_rfl) rfl #[.pointer (some ⟨isb, 0, none⟩), .pointer (some ⟨tbx, 0, none⟩), .pointer (some ⟨lvb, 0, none⟩), .pointer (some ⟨xb, 0, none⟩), .pointer (some ⟨nb, 0, none⟩)] w).1
      simp [go_sem, this]
    · have := (callFunc_enter Try.func57 (by kernel_rfl) rfl #[.pointer (some ⟨isb, 0, none⟩), .pointer (some ⟨tbx, 0, none⟩), .pointer (some ⟨lvb, 0, none⟩), .pointer (some ⟨xb, 0, none⟩), .pointer (some ⟨nb, 0, none⟩)] w).2
      simp [go_sem, this]
    refine Okk.f57S hV hR hst hB fun m' hR' hB' => ?_
    rw [Frame.finish_at]
    walk_nrm
    refine .ctl0 rfl (fun _ => Go.Conc.stepG_region_end) (.ctl0 rfl (fun _ => Go.Conc.stepG_inBlock) (.ctl0 rfl (fun _ => Go.Conc.stepG_region) ?_))
    have hwr : IntKind.i64.wrap ((k : Int) + 1) = ((k + 1 : Nat) : Int) := by rw [IntWalk.i64_in _ ⟨by omega, by omega⟩]; omega
    refine .val hP rfl rfl rfl (.int .i64 (k : Int)) (fun τ => by simp [go_sem]) ?_
    walk_nrm
    refine .val hP rfl rfl rfl (.int .i64 ((k + 1 : Nat) : Int)) (fun τ => by simp [go_sem, hwr]; try omega) ?_
    walk_nrm
    refine .val hP rfl rfl rfl (.int .i64 ((k + 1 : Nat) : Int)) (fun τ => by simp [go_sem]) ?_
    walk_nrm
    refine .ctl0 rfl (fun _ => Go.Conc.stepG_region_end) (.ctl0 rfl (fun _ => Go.Conc.stepG_inLoop) ?_)
    exact ih (k + 1) m' O Γ (G.setLam (live1 i (is1 G.s.lam))) b sb B d _ _ _ _ _ _ (by omega) hl hR' hst hB' hback
set_option maxRecDepth 100000 in
set_option maxHeartbeats 4000000 in
/-- The rounds of one who goes on. -/
theorem stop_loopN (hE : Ends X i td cf) (hV : StL X.L isb lvb xb nb nv) (tv : Value) : ∀ (r k : Nat) (m : World) (O : Own) (Γ : Nat → Option Seat) (G : GSt (Int × Int)) (b : Nat) (sb : Seat) (B : Nat → Option Nat) (d : TD (Int × Int)) (y7 y8 y9 y10 y11 y12 : Value), k + r = 2 → Like d td → Runs X i td.g b sb B G d m O Γ → G.st = false → Bx td.g m O tbx d.tp →
      Back X b sb (upd B i none) (fun G' => Next (Prom X (stT ⟨xb, 0, none⟩ nv i r) i) G i d G.s (stT ⟨xb, 0, none⟩ nv i r) G') →
      Okk Try.prog X.Φ td.g (Go.Conc.G ((base 56).at ⟨#[tv, .pointer (some ⟨isb, 0, none⟩), .pointer (some ⟨lvb, 0, none⟩), .pointer (some ⟨xb, 0, none⟩), .pointer (some ⟨nb, 0, none⟩), .pointer (some ⟨tbx, 0, none⟩), .int .i64 (k : Int), y7, y8, y9, y10, y11, y12], []⟩ [.code loop56, .inLoop loop56, .inBlock 0]) [cf, bot]) m O Γ := by
  have hP := try_plain2
  intro r
  induction r with
  | zero =>
    intro k m O Γ G b sb B d y7 y8 y9 y10 y11 y12 hk hl hR hst hB hback
    simp only [loop56, Try.f56]
    refine .ctl0 rfl (fun _ => Go.Conc.stepG_seq) (.ctl0 rfl (fun _ => Go.Conc.stepG_seq) (.ctl0 rfl (fun _ => Go.Conc.stepG_region) ?_))
    refine .val hP rfl rfl rfl (.int .i64 (k : Int)) (fun τ => by simp [go_sem]) ?_
    walk_nrm
    refine .val hP rfl rfl rfl (.bool false) (fun τ => by simp [go_sem]; try omega) ?_
    walk_nrm
    refine .ctl0 rfl (fun _ => Go.Conc.stepG_region_end) (.ctl0 rfl (fun _ => Go.Conc.stepG_cond (t := false) rfl) ?_)
    simp only [Bool.false_eq_true, if_false]
    refine .ctl0 rfl (fun _ => Go.Conc.stepG_exit rfl) (.ctl0 rfl (fun _ => Go.Conc.stepG_end) ?_)
    refine .leave (v := .tuple #[]) rfl rfl Try.func56 (fun w => by simp [go_sem, results, Try.f56]) (fun w => by simp [go_sem, results, Try.f56]) ?_
    exact hE.fin m O Γ G b sb B d _ hl hR (hback.mono fun G'' h => by obtain ⟨sc, κ, e1, e2, _⟩ := h; exact ⟨sc, κ, e1, e2, trivial⟩)
  | succ r ih =>
    intro k m O Γ G b sb B d y7 y8 y9 y10 y11 y12 hk hl hR hst hB hback
    simp only [loop56, Try.f56]
    refine .ctl0 rfl (fun _ => Go.Conc.stepG_seq) (.ctl0 rfl (fun _ => Go.Conc.stepG_seq) (.ctl0 rfl (fun _ => Go.Conc.stepG_region) ?_))
    refine .val hP rfl rfl rfl (.int .i64 (k : Int)) (fun τ => by simp [go_sem]) ?_
    walk_nrm
    refine .val hP rfl rfl rfl (.bool true) (fun τ => by simp [go_sem]; try omega) ?_
    walk_nrm
    refine .ctl0 rfl (fun _ => Go.Conc.stepG_region_end) (.ctl0 rfl (fun _ => Go.Conc.stepG_cond (t := true) rfl) ?_)
    simp only [if_true]
    refine .ctl0 rfl (fun _ => Go.Conc.stepG_skip) (.ctl0 rfl (fun _ => Go.Conc.stepG_seq) (.ctl0 rfl (fun _ => Go.Conc.stepG_block) (.ctl0 rfl (fun _ => Go.Conc.stepG_region) ?_)))
    refine .val hP rfl rfl rfl (.func (.func 57) #[] #[.pointer (some ⟨isb, 0, none⟩), .pointer (some ⟨tbx, 0, none⟩), .pointer (some ⟨lvb, 0, none⟩), .pointer (some ⟨xb, 0, none⟩), .pointer (some ⟨nb, 0, none⟩)]) (fun τ => by simp [go_sem]) ?_
    walk_nrm
    refine .enter (f := 57) (args := #[.pointer (some ⟨isb, 0, none⟩), .pointer (some ⟨tbx, 0, none⟩), .pointer (some ⟨lvb, 0, none⟩), .pointer (some ⟨xb, 0, none⟩), .pointer (some ⟨nb, 0, none⟩)]) rfl rfl (fun w => ?_) (fun w => ?_) ?_
    · have := (callFunc_enter Try.func57 (by kernel_rfl) rfl #[.pointer (some ⟨isb, 0, none⟩), .pointer (some ⟨tbx, 0, none⟩), .pointer (some ⟨lvb, 0, none⟩), .pointer (some ⟨xb, 0, none⟩), .pointer (some ⟨nb, 0, none⟩)] w).1
      simp [go_sem, this]
    · have := (callFunc_enter Try.func57 (by kernel_rfl) rfl #[.pointer (some ⟨isb, 0, none⟩), .pointer (some ⟨tbx, 0, none⟩), .pointer (some ⟨lvb, 0, none⟩), .pointer (some ⟨xb, 0, none⟩), .pointer (some ⟨nb, 0, none⟩)] w).2
      simp [go_sem, this]
    refine Okk.f57N hV hR hst hB r (fun m' O' Γ' G' b' sb' B' d' hl' hst' hR' hB' hback' => ?_) (fun m' O' Γ' G' b' sb' B' d' hl' hst' hR' hB' hback' => ?_) hback
    · rw [Frame.finish_at]
      walk_nrm
      refine .ctl0 rfl (fun _ => Go.Conc.stepG_region_end) (.ctl0 rfl (fun _ => Go.Conc.stepG_inBlock) (.ctl0 rfl (fun _ => Go.Conc.stepG_region) ?_))
      have hwr : IntKind.i64.wrap ((k : Int) + 1) = ((k + 1 : Nat) : Int) := by rw [IntWalk.i64_in _ ⟨by omega, by omega⟩]; omega
      refine .val hP rfl rfl rfl (.int .i64 (k : Int)) (fun τ => by simp [go_sem]) ?_
      walk_nrm
      refine .val hP rfl rfl rfl (.int .i64 ((k + 1 : Nat) : Int)) (fun τ => by simp [go_sem, hwr]; try omega) ?_
      walk_nrm
      refine .val hP rfl rfl rfl (.int .i64 ((k + 1 : Nat) : Int)) (fun τ => by simp [go_sem]) ?_
      walk_nrm
      refine .ctl0 rfl (fun _ => Go.Conc.stepG_region_end) (.ctl0 rfl (fun _ => Go.Conc.stepG_inLoop) ?_)
      exact ih (k + 1) m' O' Γ' G' b' sb' B' d' _ _ _ _ _ _ (by omega) (hl'.trans hl) hR' hst' hB' hback'
    · rw [Frame.finish_at]
      walk_nrm
      refine .ctl0 rfl (fun _ => Go.Conc.stepG_region_end) (.ctl0 rfl (fun _ => Go.Conc.stepG_inBlock) (.ctl0 rfl (fun _ => Go.Conc.stepG_region) ?_))
      have hwr : IntKind.i64.wrap ((k : Int) + 1) = ((k + 1 : Nat) : Int) := by rw [IntWalk.i64_in _ ⟨by omega, by omega⟩]; omega
      refine .val hP rfl rfl rfl (.int .i64 (k : Int)) (fun τ => by simp [go_sem]) ?_
      walk_nrm
      refine .val hP rfl rfl rfl (.int .i64 ((k + 1 : Nat) : Int)) (fun τ => by simp [go_sem, hwr]; try omega) ?_
      walk_nrm
      refine .val hP rfl rfl rfl (.int .i64 ((k + 1 : Nat) : Int)) (fun τ => by simp [go_sem]) ?_
      walk_nrm
      refine .ctl0 rfl (fun _ => Go.Conc.stepG_region_end) (.ctl0 rfl (fun _ => Go.Conc.stepG_inLoop) ?_)
      exact stop_loopS hE hV tv r (k + 1) m' O' Γ' G' b' sb' B' d' _ _ _ _ _ _ (by omega) (hl'.trans hl) hR' hst' hB' hback'
set_option maxRecDepth 100000 in
set_option maxHeartbeats 4000000 in
theorem born56 (hV : StL X.L isb lvb xb nb nv) : Born X (.func (.func 56) #[] #[.pointer (some ⟨isb, 0, none⟩), .pointer (some ⟨lvb, 0, none⟩), .pointer (some ⟨xb, 0, none⟩), .pointer (some ⟨nb, 0, none⟩)]) (fun _ s => s) (fun i _ => stT ⟨xb, 0, none⟩ nv i 2) := by
  refine .inr ⟨56, Try.f56, _, _, rfl, Try.func56, by kernel_rfl, rfl, fun i cf td hE m O Γ G b sb B hR hst hcap hback => ?_⟩
  have hP := try_plain2
  refine Okk.fresh fun hF => ?_
  rw [Go.Conc.enter_at _ Try.func56 rfl]
  simp only [Try.ntmps56]
  refine .ctl0 rfl (fun _ => Go.Conc.stepG_seq) (.ctl0 rfl (fun _ => Go.Conc.stepG_region) ?_)
  refine .oper hP rfl rfl rfl (R := fun v g' => v = .pointer (some ⟨m.heap.size, 0, none⟩) ∧ g'.heap[m.heap.size]? = some (.cells #[.pointer (some ⟨td.tp, 0, none⟩)] 30) ∧ Upto (fun _ => False) m g' ∧ g'.heap.size = m.heap.size + 1) (fun τ => ⟨_, _, by simp [go_sem]; exact ⟨rfl, rfl⟩, by simp [gh_size], made _⟩) ?_
  rintro _ m1 ⟨rfl, ht1, hu1, hs1⟩ _
  have hb0 := hF m.heap.size (Nat.le_refl _)
  have hlt1 : m.heap.size < m1.heap.size := by omega
  have hbb : Base.b0 ≤ m.heap.size := by have := hR.mem.b0; have := hR.mem.rlt; omega
  have htpl : td.tp < m.heap.size := World.block_lt_of_cell? m _ (hR.mem.td i td hR.ix).r
  refine Okk.own (O' := O.take td.g m.heap.size) (Own.le.take (.inl hb0.1)) (fun hf => (Fresh.take (m := m1) (fun b hb => hF b (by have := hu1.size; omega)) hlt1)) ?_
  have I1 := hR.mem.take (h := td.g) hu1 (Nat.le_refl _) hlt1 500
  have E1 : Ext G.κ (fun x => if x = m.heap.size then 500 else G.κ x) := fun x hx => by
    show (if _ then _ else _) = _
    rw [if_neg (fun e => by subst e; have := hR.mem.klt _ hx; omega)]
  have hR1 : Runs X i td.g b sb B { G with κ := fun x => if x = m.heap.size then 500 else G.κ x } td m1 (O.take td.g m.heap.size) Γ := ⟨I1, hR.seat.as rfl, hR.ix, hR.g, hR.B, hR.ne, hR.boss, hR.bc, hR.be, hR.fell, hR.v⟩
  have hB1 : Bx td.g m1 (O.take td.g m.heap.size) m.heap.size td.tp := ⟨mine_of hbb (.inl (by simp [Own.take])) (by simp only [World.cell?, ht1]; rfl), by omega⟩
  generalize m.heap.size = tbx at *
  walk_nrm
  refine .ctl0 rfl (fun _ => Go.Conc.stepG_region_end) (.ctl0 rfl (fun _ => Go.Conc.stepG_seq) (.ctl0 rfl (fun _ => Go.Conc.stepG_region) ?_))
  refine .val hP rfl rfl rfl (.int .i64 0) (fun τ => by simp [go_sem]) ?_
  walk_nrm
  refine .ctl0 rfl (fun _ => Go.Conc.stepG_region_end) (.ctl0 rfl (fun _ => Go.Conc.stepG_block) (.ctl0 rfl (fun _ => Go.Conc.stepG_loop) ?_))
  exact stop_loopN hE hV _ 2 0 m1 _ Γ _ b sb B td undef undef undef undef undef undef (by omega) ⟨rfl, rfl, rfl, rfl, rfl, rfl⟩ hR1 hst hB1 (hback.mono fun G'' hh => by obtain ⟨sc, κ, e1, e2, e3⟩ := hh; exact ⟨sc, κ, E1.trans e1, e2, e3⟩)
end
end Go.Proofs.Ytkbfbphbdljaaaa

/- The law's stopped, whole. Every premise stands in the statements. -/
set_option linter.unusedVariables false
set_option linter.unusedSimpArgs false
namespace Go.Proofs.Ytkbfbphbdljaaaa
open Go.Tre Go.RowKit
open Go.Conc (G base baseD crowd rcase scase)
open Go.ConcN (upd upd_ne upd_same)
def sh2 (x : Addr) (n : Int) : Sh (Int × Int) := ⟨[], fun a => if a = x then some n else none, [], (0, 0)⟩
def park2 (fv : Value) (x : Addr) (n : Int) : Bd (Int × Int) := ⟨fv, fun _ s => s, fun i _ => stT x n i 2⟩
theorem stop_run (fv : Value) (x : Addr) (n : Int) : ∃ A, AS.runs (schedR []) 9 (sh2 x n) [park2 fv x n] = (A, 3, true) ∧ A.stopAll.s.lam = (2, 2) ∧ A.left.length = 1 := by
  have e : (min (max (9 : Int) 0) 65536).toNat = 9 := by decide
  unfold AS.runs
  rw [e]
  refine ⟨(AS.start (sh2 x n)).begins [park2 fv x n], ?_, ?_, ?_⟩
  · simp [AS.start, GSt.start, GSt.abs, AS.begins, AS.begin, sh2, park2, stT, AS.run, AS.isOver, AS.ended, AS.able, AS.rdy, Th.can, Th.isOver, List.range_succ]
  · simp [AS.start, GSt.start, GSt.abs, AS.begins, AS.begin, sh2, park2, stT, AS.stopAll, AS.stopFrom, AS.stopTurn, stN, live1, is1]
    decide
  · simp [AS.start, GSt.start, GSt.abs, AS.begins, AS.begin, sh2, park2, stT, AS.left, AS.ended, Th.isOver, List.range_succ]
section
variable [Base]
/-- The law's memory: all that there was, two counters. -/
def Lw.two (m₀ : World) (O₀ : Own) (xb isb lvb : Nat) : Lw (Int × Int) where
  inv := fun l m O => (Upto (fun a => (a.block = xb ∨ a.block = isb ∨ a.block = lvb) ∨ m₀.heap.size ≤ a.block) m₀ m ∧ ∀ b, b < m₀.heap.size → ¬ (b = xb ∨ b = isb ∨ b = lvb) → O.o b = O₀.o b ∧ O.pre b = O₀.pre b) ∧
    m.cell? ⟨isb, 0, none⟩ = some (.int .i64 l.1) ∧ m.cell? ⟨lvb, 0, none⟩ = some (.int .i64 l.2) ∧ ∀ b, b = isb ∨ b = lvb → Base.b0 ≤ b ∧ O.o b = none ∧ O.pre b = 0
  good := fun s => (s.vals ⟨xb, 0, none⟩).isSome = true
  gacc := fun {s i op v arg new} h => by simp only [Sh.acc]; split <;> simp [h]
  glog := fun {s a} h => h
  own := fun _ a => (a.block < m₀.heap.size ∧ ¬ (a.block = xb ∨ a.block = isb ∨ a.block = lvb)) ∨ a = ⟨isb, 0, none⟩ ∨ a = ⟨lvb, 0, none⟩
  low := fun h ha => by
    rcases ha with ha | rfl | rfl
    · exact Nat.lt_of_lt_of_le ha.1 h.1.1.size
    · exact World.block_lt_of_cell? _ _ h.2.1
    · exact World.block_lt_of_cell? _ _ h.2.2.1
  stable := fun {l m O m' O' W} h hu hW ho => by
    obtain ⟨⟨h1, h2⟩, h3, h4, h5⟩ := h
    refine ⟨⟨h1.trans (hu.mono fun a ha => Classical.byContradiction fun hn => hW a (.inl (by simp only [not_or, Nat.not_le] at hn; exact ⟨hn.2, by simp only [not_or]; exact hn.1⟩)) ha), fun b hb hs => ?_⟩, hu.cell _ _ h3 (hW _ (.inr (.inl rfl))), hu.cell _ _ h4 (hW _ (.inr (.inr rfl))), fun b hb => ?_⟩
    · obtain ⟨q1, q2⟩ := h2 b hb hs
      obtain ⟨q3, q4⟩ := ho ⟨b, 0, none⟩ (.inl ⟨hb, hs⟩)
      exact ⟨q3.trans q1, q4.trans q2⟩
    · obtain ⟨q1, q2, q3⟩ := h5 b hb
      obtain ⟨q4, q5⟩ := ho ⟨b, 0, none⟩ (.inr (by rcases hb with rfl | rfl; exact .inl rfl; exact .inr rfl))
      exact ⟨q1, q4.trans q2, q5.trans q3⟩
theorem StL.two {m₀ : World} {O₀ : Own} {xb isb lvb nb : Nat} {nv : Int} (hne : isb ≠ lvb) (hn : m₀.cell? ⟨nb, 0, none⟩ = some (.int .i64 nv)) (hnn : ¬ (nb = xb ∨ nb = isb ∨ nb = lvb)) : StL (Lw.two m₀ O₀ xb isb lvb) isb lvb xb nb nv where
  ne := hne
  vals := fun s h => h
  cells := fun l m O h => ⟨h.2.1, h.2.2.1, h.1.1.cell _ _ hn (by have := World.block_lt_of_cell? _ _ hn; simp only at this ⊢; simp only [not_or] at hnn ⊢; exact ⟨hnn, by omega⟩), h.2.2.2⟩
  set := fun l l' m O m' b hb h hu => by
    obtain ⟨⟨h1, h2⟩, h3, h4, h5⟩ := h
    refine ⟨⟨h1.trans (hu.mono fun a ha => .inl (by rw [ha]; rcases hb with ⟨e, _⟩ | ⟨e, _⟩; exact .inr (.inl e); exact .inr (.inr e))), h2⟩, ?_, ?_, h5⟩
    · rcases hb with ⟨e, e1, e2⟩ | ⟨e, e1, e2⟩
      · exact e2
      · rw [e1]; exact hu.cell _ _ h3 (fun z => hne (by have := congrArg Addr.block z; simp only at this; omega))
    · rcases hb with ⟨e, e1, e2⟩ | ⟨e, e1, e2⟩
      · rw [e1]; exact hu.cell _ _ h4 (fun z => hne (by have := congrArg Addr.block z; simp only at this; omega))
      · exact e2
  own := fun _ _ _ h => h
  own2 := fun _ b hb => .inr (by rcases hb with rfl | rfl; exact .inl rfl; exact .inr rfl)
  good := fun s l' h => h
set_option maxRecDepth 100000 in
set_option maxHeartbeats 4000000 in
/-- ████ stopped ████ -/
theorem Okk.stopped {Φ : Value → World → Prop} {h : Nat} {c : Frame} {cs : List Frame} {m : World} {O : Own} {Γ : Nat → Option Seat} {nv : Int} (hc : Callable c) (hΓ : ∀ k, k ≠ h → Γ k = none) (hb : Base.b0 ≤ m.heap.size)
    (hn : ∀ (m' : World) (O' : Own) (Γ' : Nat → Option Seat), Upto (fun _ => False) m m' → (∀ b, b < m.heap.size → O'.o b = O.o b ∧ O'.pre b = O.pre b) → (∀ k, k ≠ h → Γ' k = none) → Okk Try.prog Φ h (Go.Conc.G (c.finish (.bool true)) cs) m' O' Γ') :
    Okk Try.prog Φ h (Go.Conc.G (Frame.enter Try.prog 23 #[.int .i64 nv] .normal) (c :: cs)) m O Γ := by
  have hP := try_plain2
  refine Okk.fresh fun hF => ?_
  rw [Go.Conc.enter_at _ Try.func23 rfl]
  simp only [Try.ntmps23]
  refine .ctl0 rfl (fun _ => Go.Conc.stepG_seq) (.ctl0 rfl (fun _ => Go.Conc.stepG_region) ?_)
  refine .oper hP rfl rfl rfl (R := fun v g' => v = .pointer (some ⟨m.heap.size, 0, none⟩) ∧ g'.heap[m.heap.size]? = some (.cells #[.int .i64 nv] 3) ∧ Upto (fun _ => False) m g' ∧ g'.heap.size = m.heap.size + 1) (fun τ => ⟨_, _, by simp [go_sem]; exact ⟨rfl, rfl⟩, by simp [gh_size], made _⟩) ?_
  rintro _ m1 ⟨rfl, hn1, hum1, hsm1⟩ _
  have cn1 : m1.cell? ⟨m.heap.size, 0, none⟩ = some (.int .i64 nv) := by simp only [World.cell?, hn1]; rfl
  generalize hnb : m.heap.size = nb at *
  walk_nrm
  refine .val hP rfl rfl rfl (.bool false) (fun τ => by simp [go_sem]) ?_
  walk_nrm
  refine .ctl0 rfl (fun _ => Go.Conc.stepG_region_end) (.ctl0 rfl (fun _ => Go.Conc.stepG_seq) (.ctl0 rfl (fun _ => Go.Conc.stepG_region) ?_))
  refine .oper hP rfl rfl rfl (R := fun v g' => v = .pointer (some ⟨m1.heap.size, 0, none⟩) ∧ g'.heap[m1.heap.size]? = some (.cells #[.int .i64 0] 28) ∧ Upto (fun _ => False) m1 g' ∧ g'.heap.size = m1.heap.size + 1) (fun τ => ⟨_, _, by simp [go_sem]; exact ⟨rfl, rfl⟩, by simp [gh_size], made _⟩) ?_
  rintro _ m2 ⟨rfl, hx2, hum2, hsm2⟩ _
  have hx0 := hF m1.heap.size (by omega)
  have hxb : Base.b0 ≤ m1.heap.size := by omega
  have cx2 : m2.cell? ⟨m1.heap.size, 0, none⟩ = some (.int .i64 0) := by simp only [World.cell?, hx2]; rfl
  generalize hxbn : m1.heap.size = xb at *
  have cn2 := hum2.cell _ _ cn1 (fun z => z)
  walk_nrm
  refine .ctl0 rfl (fun _ => Go.Conc.stepG_region_end) (.ctl0 rfl (fun _ => Go.Conc.stepG_seq) (.ctl0 rfl (fun _ => Go.Conc.stepG_region) ?_))
  refine .val hP rfl rfl rfl (.int .i64 nv) (fun τ => by simp [go_sem, gh_cell, cn2]) ?_
  walk_nrm
  refine .enter (f := 42) (args := #[.pointer (some ⟨xb, 0, none⟩), .int .i64 nv]) rfl rfl (fun w => ?_) (fun w => ?_) ?_
  · have := (callFunc_enter Try.func42 (by kernel_rfl) rfl #[.pointer (some ⟨xb, 0, none⟩), .int .i64 nv] w).1
    simp [go_sem, this]
  · have := (callFunc_enter Try.func42 (by kernel_rfl) rfl #[.pointer (some ⟨xb, 0, none⟩), .int .i64 nv] w).2
    simp [go_sem, this]
  have fx : ∀ τ, (re (O.gh h m2) τ 0).frozen? ⟨xb, 0, none⟩ = false := fun τ => gh_free (m := m2) hxb (.inl hx0.1) (by show O.pre xb ≤ 0; rw [hx0.2]; exact Nat.le_refl _)
  have qx : ∀ τ, (re (O.gh h m2) τ 0).cell? ⟨xb, 0, none⟩ = some (.int .i64 0) := fun τ => by rw [re_cell?, gh_cell]; exact cx2
  refine Okk.callC hP Try.func42 rfl (by simp [okCode, okOp, plS, plS2, plE]) (Callable.mk rfl) (R := fun v w' => v = .tuple #[] ∧ Upto (fun a => a = ⟨xb, 0, none⟩) m2 w' ∧ w'.cell? ⟨xb, 0, none⟩ = some (.int .i64 nv)) (fun τ => (astore_calls _ xb 0 _ nv (qx τ) (fx τ)).mono fun e w' ⟨h1, h2⟩ => ⟨_, h1, rfl, by rw [h2]; exact Upto.set ((Upto.gh (O := O) (h := h)).trans (Upto.of_heap rfl)) rfl, by rw [h2]; exact World.cell?_setCell_same _ _ _ (qx τ)⟩) ?_
  rintro _ m3 ⟨rfl, hum3, cx3⟩ _
  rw [Frame.finish_at]
  walk_nrm
  have cn3 := hum3.cell _ _ cn2 (fun e => by have := congrArg Addr.block e; simp only at this; omega)
  have hm3 := hum3.size
  refine .ctl0 rfl (fun _ => Go.Conc.stepG_region_end) (.ctl0 rfl (fun _ => Go.Conc.stepG_seq) (.ctl0 rfl (fun _ => Go.Conc.stepG_region) ?_))
  refine .oper hP rfl rfl rfl (R := fun v g' => v = .pointer (some ⟨m3.heap.size, 0, none⟩) ∧ g'.heap[m3.heap.size]? = some (.cells #[.int .i64 0] 3) ∧ Upto (fun _ => False) m3 g' ∧ g'.heap.size = m3.heap.size + 1) (fun τ => ⟨_, _, by simp [go_sem]; exact ⟨rfl, rfl⟩, by simp [gh_size], made _⟩) ?_
  rintro _ m4 ⟨rfl, hi4, hum4, hsm4⟩ _
  have hi0 := hF m3.heap.size (by omega)
  have hib : Base.b0 ≤ m3.heap.size := by omega
  have hxl : xb < m3.heap.size := by omega
  have ci4 : m4.cell? ⟨m3.heap.size, 0, none⟩ = some (.int .i64 0) := by simp only [World.cell?, hi4]; rfl
  generalize hibn : m3.heap.size = isb at *
  have cn4 := hum4.cell _ _ cn3 (fun z => z)
  have cx4 := hum4.cell _ _ cx3 (fun z => z)
  walk_nrm
  have ffi : ∀ τ, (re (O.gh h m4) τ 0).frozen? ⟨isb, 0, none⟩ = false := fun τ => gh_free (m := m4) hib (.inl hi0.1) (by show O.pre isb ≤ 0; rw [hi0.2]; exact Nat.le_refl _)
  have qqi : ∀ τ, (re (O.gh h m4) τ 0).cell? ⟨isb, 0, none⟩ = some _ := fun τ => by rw [re_cell?, gh_cell]; exact ci4
  refine .unit hP rfl rfl rfl (R := fun g' => Upto (fun a => a = ⟨isb, 0, none⟩) m4 g' ∧ g'.cell? ⟨isb, 0, none⟩ = some (.int .i64 0)) (fun τ => ⟨(re (O.gh h m4) τ 0).setCell ⟨isb, 0, none⟩ (.int .i64 0), by have h1 := ffi τ; have h2 := qqi τ; simp [go_sem, h1, h2, -re_cell?, -re_frozen?], Upto.set ((Upto.gh (O := O) (h := h)).trans (Upto.of_heap rfl)) rfl, World.cell?_setCell_same _ _ _ (qqi τ)⟩) ?_
  intro m5 ⟨hum5, hci⟩ _
  walk_nrm
  have cn5 := hum5.cell _ _ cn4 (fun e => by have := congrArg Addr.block e; simp only at this; omega)
  have cx5 := hum5.cell _ _ cx4 (fun e => by have := congrArg Addr.block e; simp only at this; omega)
  have hm5 := hum5.size
  refine .ctl0 rfl (fun _ => Go.Conc.stepG_region_end) (.ctl0 rfl (fun _ => Go.Conc.stepG_seq) (.ctl0 rfl (fun _ => Go.Conc.stepG_region) ?_))
  refine .oper hP rfl rfl rfl (R := fun v g' => v = .pointer (some ⟨m5.heap.size, 0, none⟩) ∧ g'.heap[m5.heap.size]? = some (.cells #[.int .i64 0] 3) ∧ Upto (fun _ => False) m5 g' ∧ g'.heap.size = m5.heap.size + 1) (fun τ => ⟨_, _, by simp [go_sem]; exact ⟨rfl, rfl⟩, by simp [gh_size], made _⟩) ?_
  rintro _ m6 ⟨rfl, hl6, hum6, hsm6⟩ _
  have hl0 := hF m5.heap.size (by omega)
  have hlb : Base.b0 ≤ m5.heap.size := by omega
  have hil : isb < m5.heap.size := by omega
  have cl6 : m6.cell? ⟨m5.heap.size, 0, none⟩ = some (.int .i64 0) := by simp only [World.cell?, hl6]; rfl
  generalize hlbn : m5.heap.size = lvb at *
  have cn6 := hum6.cell _ _ cn5 (fun z => z)
  have cx6 := hum6.cell _ _ cx5 (fun z => z)
  have ci6 := hum6.cell _ _ hci (fun z => z)
  walk_nrm
  have ffl : ∀ τ, (re (O.gh h m6) τ 0).frozen? ⟨lvb, 0, none⟩ = false := fun τ => gh_free (m := m6) hlb (.inl hl0.1) (by show O.pre lvb ≤ 0; rw [hl0.2]; exact Nat.le_refl _)
  have qql : ∀ τ, (re (O.gh h m6) τ 0).cell? ⟨lvb, 0, none⟩ = some _ := fun τ => by rw [re_cell?, gh_cell]; exact cl6
  refine .unit hP rfl rfl rfl (R := fun g' => Upto (fun a => a = ⟨lvb, 0, none⟩) m6 g' ∧ g'.cell? ⟨lvb, 0, none⟩ = some (.int .i64 0)) (fun τ => ⟨(re (O.gh h m6) τ 0).setCell ⟨lvb, 0, none⟩ (.int .i64 0), by have h1 := ffl τ; have h2 := qql τ; simp [go_sem, h1, h2, -re_cell?, -re_frozen?], Upto.set ((Upto.gh (O := O) (h := h)).trans (Upto.of_heap rfl)) rfl, World.cell?_setCell_same _ _ _ (qql τ)⟩) ?_
  intro m7 ⟨hum7, hcl⟩ _
  walk_nrm
  have cn7 := hum7.cell _ _ cn6 (fun e => by have := congrArg Addr.block e; simp only at this; omega)
  have cx7 := hum7.cell _ _ cx6 (fun e => by have := congrArg Addr.block e; simp only at this; omega)
  have ci7 := hum7.cell _ _ ci6 (fun e => by have := congrArg Addr.block e; simp only at this; omega)
  have hm7 := hum7.size
  refine .ctl0 rfl (fun _ => Go.Conc.stepG_region_end) (.ctl0 rfl (fun _ => Go.Conc.stepG_seq) (.ctl0 rfl (fun _ => Go.Conc.stepG_region) ?_))
  refine .val hP rfl rfl rfl (.func (.func 56) #[] #[.pointer (some ⟨isb, 0, none⟩), .pointer (some ⟨lvb, 0, none⟩), .pointer (some ⟨xb, 0, none⟩), .pointer (some ⟨nb, 0, none⟩)]) (fun τ => by simp [go_sem]) ?_
  walk_nrm
  refine .oper hP rfl rfl rfl (R := fun v g' => v = .slice (some ⟨m7.heap.size, 0, none⟩) 1 1 ∧ g'.heap[m7.heap.size]? = some (.cells #[.func (.func 56) #[] #[.pointer (some ⟨isb, 0, none⟩), .pointer (some ⟨lvb, 0, none⟩), .pointer (some ⟨xb, 0, none⟩), .pointer (some ⟨nb, 0, none⟩)]] 35) ∧ Upto (fun _ => False) m7 g' ∧ g'.heap.size = m7.heap.size + 1) (fun τ => ⟨_, _, by simp [go_sem]; exact ⟨rfl, rfl⟩, by simp [gh_size], made _⟩) ?_
  rintro _ m8 ⟨rfl, hb8, hum8, hsm8⟩ _
  have hb0 := hF m7.heap.size (by omega)
  have hbb : Base.b0 ≤ m7.heap.size := by omega
  have hll : lvb < m7.heap.size := by omega
  generalize hbbn : m7.heap.size = bb at *
  have cn8 := hum8.cell _ _ cn7 (fun z => z)
  have cx8 := hum8.cell _ _ cx7 (fun z => z)
  have ci8 := hum8.cell _ _ ci7 (fun z => z)
  have cl8 := hum8.cell _ _ hcl (fun z => z)
  walk_nrm
  refine .enter (f := 14) (args := #[.slice none 0 0, .int .i64 9, .slice (some ⟨bb, 0, none⟩) 1 1]) rfl rfl (fun w => ?_) (fun w => ?_) ?_
  · have := (callFunc_enter Try.func14 (by kernel_rfl) rfl #[.slice none 0 0, .int .i64 9, .slice (some ⟨bb, 0, none⟩) 1 1] w).1
    simp [go_sem, this]
  · have := (callFunc_enter Try.func14 (by kernel_rfl) rfl #[.slice none 0 0, .int .i64 9, .slice (some ⟨bb, 0, none⟩) 1 1] w).2
    simp [go_sem, this]
  refine Okk.own (O' := O.take h bb) (Own.le.take (.inl hb0.1)) (fun hf => Fresh.take hf (by omega)) ?_
  generalize hO3 : O.take h bb = O3
  have ob : O3.o bb = some h ∧ O3.pre bb = 0 := by subst hO3; exact ⟨by simp [Own.take], hb0.2⟩
  have ol : ∀ b, b < bb → O3.o b = O.o b ∧ O3.pre b = O.pre b := fun b hb => by subst hO3; refine ⟨?_, rfl⟩; simp only [Own.take]; rw [if_neg (by omega)]
  obtain ⟨A, hrun, hlam, hleft⟩ := stop_run (.func (.func 56) #[] #[.pointer (some ⟨isb, 0, none⟩), .pointer (some ⟨lvb, 0, none⟩), .pointer (some ⟨xb, 0, none⟩), .pointer (some ⟨nb, 0, none⟩)]) ⟨xb, 0, none⟩ nv
  have hV : StL (Lw.two m8 O3 xb isb lvb) isb lvb xb nb nv := .two (by omega) cn8 (by omega)
  refine Okk.runL (L := Lw.two m8 O3 xb isb lvb) (s := sh2 ⟨xb, 0, none⟩ nv) (bb := bb) [] [park2 (.func (.func 56) #[] #[.pointer (some ⟨isb, 0, none⟩), .pointer (some ⟨lvb, 0, none⟩), .pointer (some ⟨xb, 0, none⟩), .pointer (some ⟨nb, 0, none⟩)]) ⟨xb, 0, none⟩ nv] (Callable.mk rfl) hΓ (by omega) ?_ (by simp) ?_ (fun _ => rfl) ?_ (fun z => absurd rfl z) (Nat.zero_le _) (by simp) ?_
  · refine ⟨rfl, rfl, fun a v ha => ?_, ⟨⟨.refl, fun _ _ _ => ⟨rfl, rfl⟩⟩, ci8, cl8, fun b hb => ?_⟩, by simp [sh2, Lw.two], fun a ha => ?_⟩
    · simp only [sh2] at ha
      split at ha
      · rename_i e; subst e; cases ha
        obtain ⟨q1, q2⟩ := ol xb (by omega)
        exact ⟨cx8, hxb, q1.trans hx0.1, q2.trans hx0.2, rfl⟩
      · cases ha
    · rcases hb with rfl | rfl
      · obtain ⟨q1, q2⟩ := ol b (by omega); exact ⟨hib, q1.trans hi0.1, q2.trans hi0.2⟩
      · obtain ⟨q1, q2⟩ := ol b (by omega); exact ⟨hlb, q1.trans hl0.1, q2.trans hl0.2⟩
    · simp only [sh2]
      refine if_neg (fun e => ?_)
      rw [e] at ha
      rcases ha with ha | ha | ha
      · exact ha.2 (.inl rfl)
      · have := congrArg Addr.block ha; simp only at this; omega
      · have := congrArg Addr.block ha; simp only at this; omega
  · intro rp mb b hbm
    simp only [List.mem_cons, List.not_mem_nil, or_false] at hbm
    subst hbm
    exact born56 hV
  · intro j b hj
    match j, hj with
    | 0, hj => cases hj; exact mine0_make hbb ob.1 ob.2 hb8 rfl
    | j + 1, hj => cases hj
  · intro m' O' Γ' G' rp mb v2 v3 v4 lv fv hΓ' I hH ha' r2 r3 r4 gl gf
    rw [hrun] at ha' gl ⊢
    have hs : G'.s.lam = (2, 2) := by rw [← hlam]; exact congrArg (fun A => A.s.lam) ha'
    have hlaw := I.law
    rw [hs] at hlaw
    rw [hleft] at gl
    obtain ⟨⟨hup, hoo⟩, ci', cl', _⟩ := hlaw
    obtain ⟨s2, c2, e2⟩ := Row.shape r2
    obtain ⟨s3, c3, e3⟩ := Row.shape r3
    obtain ⟨s4, c4, e4⟩ := Row.shape r4
    obtain ⟨sl, cl, el⟩ := gl.shape
    obtain ⟨sf, cf, ef⟩ := gf.shape
    generalize hlg : G'.s.log.length = lgn at *
    generalize hwn : G'.went.length = wn at *
    generalize hrd : G'.ready.length = rdn at *
    generalize hfn : (FL G'.abs.falls G'.tds.length).length = fnn at *
    refine Okk.fresh fun hF' => ?_
    have hsz' : m8.heap.size ≤ m'.heap.size := hup.size
    rw [Frame.finish_at]
    walk_nrm
    refine .oper hP rfl rfl rfl (R := fun v g' => v = .pointer (some ⟨m'.heap.size, 0, none⟩) ∧ g'.heap[m'.heap.size]? = some (.cells #[.int .i8 0, .int .i64 0, .slice none 0 0, .slice none 0 0, .slice none 0 0, .slice none 0 0, .slice none 0 0] 39) ∧ Upto (fun _ => False) m' g' ∧ g'.heap.size = m'.heap.size + 1) (fun τ => ⟨_, _, by simp [go_sem]; exact ⟨rfl, rfl⟩, by simp [gh_size], made _⟩) ?_
    rintro _ m9 ⟨rfl, hq9, hum9, hsm9⟩ _
    have hq0 := hF' m'.heap.size (Nat.le_refl _)
    generalize hqb : m'.heap.size = qb at *
    walk_nrm
    have ff : ∀ j τ, (re (O'.gh h m9) τ 0).frozen? ⟨qb, j, none⟩ = false := fun j τ => gh_free (m := m9) (by show Base.b0 ≤ qb; omega) (.inl hq0.1) (by show O'.pre qb ≤ j; rw [hq0.2]; exact Nat.zero_le _)
    have cq : ∀ j τ u, (#[.int .i8 0, .int .i64 0, .slice none 0 0, .slice none 0 0, .slice none 0 0, .slice none 0 0, .slice none 0 0] : Array Value)[j]? = some u → (re (O'.gh h m9) τ 0).cell? ⟨qb, j, none⟩ = some u := fun j τ u hu => by rw [re_cell?, gh_cell]; simp only [World.cell?, hq9]; exact hu
    refine .unit hP rfl rfl rfl (R := fun g' => Upto (fun a => a.block = qb) m9 g' ∧ g'.cell? ⟨qb, 0, none⟩ = some (.int .i8 3) ∧ g'.cell? ⟨qb, 5, none⟩ = some (.slice sl 1 cl)) (fun τ => ?_) ?_
    · have f0 := ff 0 τ; have f1 := ff 1 τ; have f2 := ff 2 τ; have f3 := ff 3 τ; have f4 := ff 4 τ; have f5 := ff 5 τ; have f6 := ff 6 τ
      have q0 := cq 0 τ _ rfl; have q1 := cq 1 τ _ rfl; have q2 := cq 2 τ _ rfl; have q3 := cq 3 τ _ rfl; have q4 := cq 4 τ _ rfl; have q5 := cq 5 τ _ rfl; have q6 := cq 6 τ _ rfl
      have hu : Upto (fun a => a.block = qb) m9 (re (O'.gh h m9) τ 0) := (Upto.gh (O := O') (h := h)).trans (Upto.of_heap rfl)
      generalize re (O'.gh h m9) τ 0 = W at *
      subst e2 e3 e4 el ef
      refine ⟨((((((W.setCell ⟨qb, 0, none⟩ (.int .i8 3)).setCell ⟨qb, 1, none⟩ (.int .i64 (wn : Int))).setCell ⟨qb, 2, none⟩ (.slice s2 lgn c2)).setCell ⟨qb, 3, none⟩ (.slice s3 wn c3)).setCell ⟨qb, 4, none⟩ (.slice s4 rdn c4)).setCell ⟨qb, 5, none⟩ (.slice sl 1 cl)).setCell ⟨qb, 6, none⟩ (.slice sf fnn cf), by simp [go_sem, f0, f1, f2, f3, f4, f5, f6, q0, q1, q2, q3, q4, q5, q6], .set (.set (.set (.set (.set (.set (.set hu rfl) rfl) rfl) rfl) rfl) rfl) rfl, ?_⟩
      simp [go_sem, q0, q1, q2, q3, q4, q5, q6]
    intro m10 ⟨hu10, p0, p5⟩ _
    walk_nrm
    refine .ctl0 rfl (fun _ => Go.Conc.stepG_region_end) ?_
    have c10 : ∀ {a : Addr} {u : Value}, m'.cell? a = some u → m10.cell? a = some u := fun {a u} hh => hu10.cell _ _ (hum9.cell _ _ hh (fun z => z)) (by have := World.block_lt_of_cell? _ _ hh; omega)
    have ci10 := c10 ci'
    have cl10 := c10 cl'
    refine Okk.rest hP Try.func23 (by simp [okCode, okOp, plS, plS2, plE]) (R := fun v w' => v = .bool true ∧ Upto (fun _ => False) m10 w') hc (fun τ => ?_) ?_
    · have cg : ∀ {a : Addr} {u : Value}, m10.cell? a = some u → (re (O'.gh h m10) τ 0).cell? a = some u := fun {a u} ha => by rw [re_cell?, gh_cell]; exact ha
      replace p0 := cg p0; replace p5 := cg p5; replace ci10 := cg ci10; replace cl10 := cg cl10
      have hu : Upto (fun _ => False) m10 (re (O'.gh h m10) τ 0) := (Upto.gh (O := O') (h := h)).trans (Upto.of_heap rfl)
      generalize re (O'.gh h m10) τ 0 = W at *
      clear cg c10 cq ff hq9 hn1 hx2 hi4 hl6 hb8 qx fx qqi qql ffi ffl cn1 cn2 cn3 cn4 cn5 cn6 cn7 cn8 cx2 cx3 cx4 cx5 cx6 cx7 cx8 ci4 ci6 ci7 ci8 cl6 cl8 hci hcl ci' cl' hrun hlam hs ha' r2 r3 r4 gl gf hleft
      go_wp2
      go_ret
      exact ⟨_, rfl, rfl, hu⟩
    rintro _ m11 ⟨rfl, hu11⟩ _
    refine hn m11 O' Γ' ?_ (fun b hb => ?_) hΓ'
    · have u0 : Upto (fun a => nb ≤ a.block) m m1 := hum1.mono (fun _ z => z.elim)
      have u1 : Upto (fun a => nb ≤ a.block) m1 m2 := hum2.mono (fun _ z => z.elim)
      have u2 : Upto (fun a => nb ≤ a.block) m2 m3 := hum3.mono (fun a z => by rw [z]; show nb ≤ xb; omega)
      have u3 : Upto (fun a => nb ≤ a.block) m3 m4 := hum4.mono (fun _ z => z.elim)
      have u4 : Upto (fun a => nb ≤ a.block) m4 m5 := hum5.mono (fun a z => by rw [z]; show nb ≤ isb; omega)
      have u5 : Upto (fun a => nb ≤ a.block) m5 m6 := hum6.mono (fun _ z => z.elim)
      have u6 : Upto (fun a => nb ≤ a.block) m6 m7 := hum7.mono (fun a z => by rw [z]; show nb ≤ lvb; omega)
      have u7 : Upto (fun a => nb ≤ a.block) m7 m8 := hum8.mono (fun _ z => z.elim)
      have u8 : Upto (fun a => nb ≤ a.block) m8 m' := hup.mono (fun a z => by rcases z with (z | z | z) | z <;> (show nb ≤ a.block; omega))
      have u9 : Upto (fun a => nb ≤ a.block) m' m9 := hum9.mono (fun _ z => z.elim)
      have u10 : Upto (fun a => nb ≤ a.block) m9 m10 := hu10.mono (fun a z => by have z : a.block = qb := z; show nb ≤ a.block; omega)
      have u11 : Upto (fun a => nb ≤ a.block) m10 m11 := hu11.mono (fun _ z => z.elim)
      have h1 := (u0.trans (u1.trans (u2.trans (u3.trans (u4.trans (u5.trans (u6.trans (u7.trans (u8.trans (u9.trans (u10.trans u11)))))))))))
      exact h1.old (fun a z => by omega)
    · obtain ⟨q1, q2⟩ := hoo b (by omega) (by omega)
      obtain ⟨q3, q4⟩ := ol b (by omega)
      exact ⟨q1.trans q3, q2.trans q4⟩
end
end Go.Proofs.Ytkbfbphbdljaaaa

/- The law's idle: a thread that does not live. Every premise stands in the statements. -/
set_option linter.unusedVariables false
set_option linter.unusedSimpArgs false
namespace Go.Proofs.Ytkbfbphbdljaaaa
open Go.Tre Go.RowKit
open Go.Conc (G base baseD crowd rcase scase)
open Go.ConcN (upd upd_ne upd_same)
theorem mark_dead (w : World) (tv : Value) (a b : Int) (hl : Calls Try.prog 29 #[tv] w fun e w' => e = .returned (.bool false) ∧ w' = w) :
    Calls Try.prog 55 #[tv, .int .i64 a, .int .i64 b] w fun e w' => e = .returned (.tuple #[]) ∧ w' = w := by
  go_enter Try.func55, Try.ntmps55
  go_wp2_with (go_at_call 29; refine hl.mono ?_; rintro e w' ⟨rfl, rfl⟩)
  go_end0
  exact ⟨rfl, rfl⟩
section
variable [Base]
set_option maxRecDepth 100000 in
set_option maxHeartbeats 2000000 in
theorem Okk.goNo {Φ : Value → World → Prop} {h : Nat} {m : World} {O : Own} {Γ : Nat → Option Seat} {c : Frame} {cs : List Frame} {tv fv : Value} (hl : ∀ τ, Calls Try.prog 29 #[tv] (re (O.gh h m) τ 0) fun e w' => e = .returned (.bool false) ∧ w' = re (O.gh h m) τ 0)
    (hn : ∀ m', Upto (fun _ => False) m m' → Okk Try.prog Φ h (Go.Conc.G (c.finish (.int .i64 (-1))) cs) m' O Γ) :
    Okk Try.prog Φ h (Go.Conc.G (Frame.enter Try.prog 53 #[tv, fv] .normal) (c :: cs)) m O Γ := by
  have hP := try_plain
  rw [Go.Conc.enter_at _ Try.func53 rfl]
  simp only [Try.ntmps53]
  refine .ctl0 rfl (fun _ => Go.Conc.stepG_seq) (.ctl0 rfl (fun _ => Go.Conc.stepG_region) ?_)
  refine .val hP rfl rfl rfl (.int .i64 0) (fun τ => by simp [go_sem]) ?_
  walk_nrm
  refine .ctl0 rfl (fun _ => Go.Conc.stepG_region_end) (.ctl0 rfl (fun _ => Go.Conc.stepG_seq) (.ctl0 rfl (fun _ => Go.Conc.stepG_seq) ?_))
  refine .code hP (c := c53_a) (by simp [c53_a, Try.f53, okCode, okOp, plS, plE]) (Q := fun t w' => Upto (fun _ => False) m w' ∧ t = #[tv, fv, undef, undef, .int .i64 0, undef, tv, .bool false, .bool true, undef, undef, undef, undef, undef, undef, undef, undef, undef, undef, undef, undef, undef, undef, undef, undef, undef, undef, undef, undef, undef, undef, undef, undef, undef, undef, undef, undef, undef, undef, undef, undef, undef, undef, undef, undef, undef, undef, undef, undef, undef, undef, undef, undef, undef, undef, undef, undef, undef, undef, undef, undef, undef, undef]) (fun τ => ?_) ?_
  · have hlτ := hl τ
    have hu : Upto (fun _ => False) m (re (O.gh h m) τ 0) := (Upto.gh (O := O) (h := h)).trans (Upto.of_heap rfl)
    generalize re (O.gh h m) τ 0 = W at *
    simp only [c53_a, Try.f53]
    go_wp2_with (go_at_call 29; refine hlτ.mono ?_; rintro e w' ⟨rfl, rfl⟩)
  rintro _ m1 ⟨hu, rfl⟩ _
  refine .ctl0 rfl (fun _ => Go.Conc.stepG_cond (t := true) rfl) ?_
  simp only [if_true]
  refine .ctl0 rfl (fun _ => Go.Conc.stepG_seq) (.ctl0 rfl (fun _ => Go.Conc.stepG_region) ?_)
  refine .val hP rfl rfl rfl (.int .i64 (-1)) (fun τ => by simp [go_sem]) ?_
  walk_nrm
  refine .ctl0 rfl (fun _ => Go.Conc.stepG_region_end) (.ctl0 rfl (fun _ => Go.Conc.stepG_ret') ?_)
  refine .leave (v := .int .i64 (-1)) rfl rfl Try.func53 (fun w => by simp [go_sem, results, Try.f53]) (fun w => by simp [go_sem, results, Try.f53]) (hn m1 hu)
set_option maxRecDepth 100000 in
set_option maxHeartbeats 4000000 in
/-- ████ idle ████ -/
theorem Okk.idle {Φ : Value → World → Prop} {h : Nat} {m : World} {O : Own} {Γ : Nat → Option Seat} {c : Frame} {cs : List Frame} {tv : Value} (hc : Callable c) (hb : Base.b0 ≤ m.heap.size)
    (hL : ∀ w, Upto (fun _ => False) m w → Calls Try.prog 29 #[tv] w fun e w' => e = .returned (.bool false) ∧ w' = w) (hN : ∀ w, Upto (fun _ => False) m w → Calls Try.prog 37 #[tv] w fun e w' => e = .returned (.int .i64 (-1)) ∧ w' = w)
    (hn : ∀ m', Upto (fun _ => False) m m' → Okk Try.prog Φ h (Go.Conc.G (c.finish (.bool true)) cs) m' O Γ) :
    Okk Try.prog Φ h (Go.Conc.G (Frame.enter Try.prog 22 #[tv] .normal) (c :: cs)) m O Γ := by
  have hP := try_plain2
  refine Okk.fresh fun hF => ?_
  have ug : ∀ {W : Addr → Prop} (m' : World) τ, Upto W m' (re (O.gh h m') τ 0) := fun m' τ => (Upto.gh (O := O) (h := h)).trans (Upto.of_heap rfl)
  rw [Go.Conc.enter_at _ Try.func22 rfl]
  simp only [Try.ntmps22]
  refine .ctl0 rfl (fun _ => Go.Conc.stepG_seq) (.ctl0 rfl (fun _ => Go.Conc.stepG_region) ?_)
  refine .val hP rfl rfl rfl (.bool false) (fun τ => by simp [go_sem]) ?_
  walk_nrm
  refine .ctl0 rfl (fun _ => Go.Conc.stepG_region_end) (.ctl0 rfl (fun _ => Go.Conc.stepG_seq) (.ctl0 rfl (fun _ => Go.Conc.stepG_region) ?_))
  refine .oper hP rfl rfl rfl (R := fun v g' => v = .pointer (some ⟨m.heap.size, 0, none⟩) ∧ g'.heap[m.heap.size]? = some (.cells #[.int .i64 0] 28) ∧ Upto (fun _ => False) m g' ∧ g'.heap.size = m.heap.size + 1) (fun τ => ⟨_, _, by simp [go_sem]; exact ⟨rfl, rfl⟩, by simp [gh_size], made _⟩) ?_
  rintro _ m1 ⟨rfl, hx1, hu1, hs1⟩ _
  have hx0 := hF m.heap.size (Nat.le_refl _)
  generalize hxb : m.heap.size = xb at *
  have cx1 : m1.cell? ⟨xb, 0, none⟩ = some (.int .i64 0) := by simp only [World.cell?, hx1]; rfl
  walk_nrm
  refine .ctl0 rfl (fun _ => Go.Conc.stepG_region_end) (.ctl0 rfl (fun _ => Go.Conc.stepG_seq) (.ctl0 rfl (fun _ => Go.Conc.stepG_region) ?_))
  refine .enter (f := 42) (args := #[.pointer (some ⟨xb, 0, none⟩), .int .i64 5]) rfl rfl (fun w => ?_) (fun w => ?_) ?_
  · have := (callFunc_enter Try.func42 (by kernel_rfl) rfl #[.pointer (some ⟨xb, 0, none⟩), .int .i64 5] w).1
    simp [go_sem, this]
  · have := (callFunc_enter Try.func42 (by kernel_rfl) rfl #[.pointer (some ⟨xb, 0, none⟩), .int .i64 5] w).2
    simp [go_sem, this]
  have fx : ∀ τ, (re (O.gh h m1) τ 0).frozen? ⟨xb, 0, none⟩ = false := fun τ => gh_free (m := m1) hb (.inl hx0.1) (by show O.pre xb ≤ 0; rw [hx0.2]; exact Nat.le_refl _)
  have qx : ∀ τ, (re (O.gh h m1) τ 0).cell? ⟨xb, 0, none⟩ = some (.int .i64 0) := fun τ => by rw [re_cell?, gh_cell]; exact cx1
  refine Okk.callC hP Try.func42 rfl (by simp [okCode, okOp, plS, plS2, plE]) (Callable.mk rfl) (R := fun v w' => v = .tuple #[] ∧ Upto (fun a => a = ⟨xb, 0, none⟩) m1 w' ∧ w'.cell? ⟨xb, 0, none⟩ = some (.int .i64 5)) (fun τ => (astore_calls _ xb 0 _ 5 (qx τ) (fx τ)).mono fun e w' ⟨h1, h2⟩ => ⟨_, h1, rfl, by rw [h2]; exact Upto.set (ug m1 τ) rfl, by rw [h2]; exact World.cell?_setCell_same _ _ _ (qx τ)⟩) ?_
  rintro _ m2 ⟨rfl, hu2, cx2⟩ _
  have hu02 : Upto (fun _ => False) m m2 := ((hu1.mono (fun _ z => z.elim)).trans hu2).old (fun a z => by rw [z, hxb]; exact Nat.le_refl _)
  rw [Frame.finish_at]
  walk_nrm
  refine .ctl0 rfl (fun _ => Go.Conc.stepG_region_end) (.ctl0 rfl (fun _ => Go.Conc.stepG_seq) (.ctl0 rfl (fun _ => Go.Conc.stepG_region) ?_))
  refine .val hP rfl rfl rfl tv (fun τ => by simp [go_sem]) ?_
  walk_nrm
  refine .enter (f := 13) (args := #[tv, .pointer (some ⟨xb, 0, none⟩), .int .i8 2, .int .i64 9, .int .i64 0]) rfl rfl (fun w => ?_) (fun w => ?_) ?_
  · have := (callFunc_enter Try.func13 (by kernel_rfl) rfl #[tv, .pointer (some ⟨xb, 0, none⟩), .int .i8 2, .int .i64 9, .int .i64 0] w).1
    simp [go_sem, this]
  · have := (callFunc_enter Try.func13 (by kernel_rfl) rfl #[tv, .pointer (some ⟨xb, 0, none⟩), .int .i8 2, .int .i64 9, .int .i64 0] w).2
    simp [go_sem, this]
  refine Okk.stepNo (ok := false) (fun τ => hL _ (hu02.trans (ug m2 τ))) (.inl rfl) fun m3 hu3 => ?_
  have hu03 := hu02.trans hu3
  have cx3 := hu3.cell _ _ cx2 (fun z => z)
  rw [Frame.finish_at]
  walk_nrm
  refine .val hP rfl rfl rfl (.tuple #[.int .i64 0, .int .i64 0, .bool false]) (fun τ => by simp [go_sem]) ?_
  walk_nrm
  refine .val hP rfl rfl rfl (.int .i64 0) (fun τ => by simp [go_sem]) ?_
  walk_nrm
  refine .val hP rfl rfl rfl (.int .i64 0) (fun τ => by simp [go_sem]) ?_
  walk_nrm
  refine .val hP rfl rfl rfl (.bool false) (fun τ => by simp [go_sem]) ?_
  walk_nrm
  refine .val hP rfl rfl rfl (.int .i64 0) (fun τ => by simp [go_sem]) ?_
  walk_nrm
  refine .val hP rfl rfl rfl (.int .i64 0) (fun τ => by simp [go_sem]) ?_
  walk_nrm
  refine .val hP rfl rfl rfl (.bool false) (fun τ => by simp [go_sem]) ?_
  walk_nrm
  refine .ctl0 rfl (fun _ => Go.Conc.stepG_region_end) (.ctl0 rfl (fun _ => Go.Conc.stepG_seq) (.ctl0 rfl (fun _ => Go.Conc.stepG_region) ?_))
  refine .oper hP rfl rfl rfl (R := fun v g' => v = .pointer (some ⟨m3.heap.size, 0, none⟩) ∧ g'.heap[m3.heap.size]? = some (.cells #[.bool false] 4) ∧ Upto (fun _ => False) m3 g' ∧ g'.heap.size = m3.heap.size + 1) (fun τ => ⟨_, _, by simp [go_sem]; exact ⟨rfl, rfl⟩, by simp [gh_size], made _⟩) ?_
  rintro _ m4 ⟨rfl, hf4, hu4, hs4⟩ _
  have hf0 := hF m3.heap.size (by have := hu03.size; omega)
  have hfb : Base.b0 ≤ m3.heap.size := by have := hu03.size; omega
  have hx3l : xb < m3.heap.size := World.block_lt_of_cell? _ _ cx3
  generalize hfbn : m3.heap.size = fb at *
  have cf4 : m4.cell? ⟨fb, 0, none⟩ = some (.bool false) := by simp only [World.cell?, hf4]; rfl
  have cx4 := hu4.cell _ _ cx3 (fun z => z)
  walk_nrm
  have ff : ∀ τ, (re (O.gh h m4) τ 0).frozen? ⟨fb, 0, none⟩ = false := fun τ => gh_free (m := m4) hfb (.inl hf0.1) (by show O.pre fb ≤ 0; rw [hf0.2]; exact Nat.le_refl _)
  have qf : ∀ τ, (re (O.gh h m4) τ 0).cell? ⟨fb, 0, none⟩ = some (.bool false) := fun τ => by rw [re_cell?, gh_cell]; exact cf4
  refine .unit hP rfl rfl rfl (R := fun g' => Upto (fun a => a = ⟨fb, 0, none⟩) m4 g' ∧ g'.cell? ⟨fb, 0, none⟩ = some (.bool false)) (fun τ => ⟨(re (O.gh h m4) τ 0).setCell ⟨fb, 0, none⟩ (.bool false), by have h1 := ff τ; have h2 := qf τ; simp [go_sem, h1, h2, -re_cell?, -re_frozen?], Upto.set (ug m4 τ) rfl, World.cell?_setCell_same _ _ _ (qf τ)⟩) ?_
  intro m5 ⟨hu5, cf5⟩ _
  have cx5 := hu5.cell _ _ cx4 (fun e => by cases e; omega)
  have hu05 : Upto (fun _ => False) m m5 := ((hu03.trans hu4).mono (fun _ z => z.elim) |>.trans hu5).old (fun a z => by rw [z, hxb]; have := hu03.size; show xb ≤ fb; omega)
  walk_nrm
  refine .ctl0 rfl (fun _ => Go.Conc.stepG_region_end) (.ctl0 rfl (fun _ => Go.Conc.stepG_seq) (.ctl0 rfl (fun _ => Go.Conc.stepG_region) ?_))
  refine .val hP rfl rfl rfl tv (fun τ => by simp [go_sem]) ?_
  walk_nrm
  refine .val hP rfl rfl rfl (.func (.func 54) #[] #[.pointer (some ⟨fb, 0, none⟩)]) (fun τ => by simp [go_sem]) ?_
  walk_nrm
  refine .enter (f := 53) (args := #[tv, .func (.func 54) #[] #[.pointer (some ⟨fb, 0, none⟩)]]) rfl rfl (fun w => ?_) (fun w => ?_) ?_
  · have := (callFunc_enter Try.func53 (by kernel_rfl) rfl #[tv, .func (.func 54) #[] #[.pointer (some ⟨fb, 0, none⟩)]] w).1
    simp [go_sem, this]
  · have := (callFunc_enter Try.func53 (by kernel_rfl) rfl #[tv, .func (.func 54) #[] #[.pointer (some ⟨fb, 0, none⟩)]] w).2
    simp [go_sem, this]
  refine Okk.goNo (fun τ => hL _ (hu05.trans (ug m5 τ))) fun m6 hu6 => ?_
  have hu06 := hu05.trans hu6
  rw [Frame.finish_at]
  walk_nrm
  refine .val hP rfl rfl rfl (.int .i64 (-1)) (fun τ => by simp [go_sem]) ?_
  walk_nrm
  refine .ctl0 rfl (fun _ => Go.Conc.stepG_region_end) (.ctl0 rfl (fun _ => Go.Conc.stepG_seq) (.ctl0 rfl (fun _ => Go.Conc.stepG_region) ?_))
  refine .val hP rfl rfl rfl tv (fun τ => by simp [go_sem]) ?_
  walk_nrm
  refine .enter (f := 55) (args := #[tv, .int .i64 1, .int .i64 2]) rfl rfl (fun w => ?_) (fun w => ?_) ?_
  · have := (callFunc_enter Try.func55 (by kernel_rfl) rfl #[tv, .int .i64 1, .int .i64 2] w).1
    simp [go_sem, this]
  · have := (callFunc_enter Try.func55 (by kernel_rfl) rfl #[tv, .int .i64 1, .int .i64 2] w).2
    simp [go_sem, this]
  refine Okk.callC hP Try.func55 rfl (by simp [okCode, okOp, plS, plS2, plE]) (Callable.mk rfl) (R := fun v w' => v = .tuple #[] ∧ Upto (fun _ => False) m6 w') (fun τ => (mark_dead _ tv 1 2 (hL _ (hu06.trans (ug m6 τ)))).mono fun e w' ⟨h1, h2⟩ => ⟨_, h1, rfl, by rw [h2]; exact ug m6 τ⟩) ?_
  rintro _ m7 ⟨rfl, hu7⟩ _
  have hu07 := hu06.trans hu7
  have cx7 := hu7.cell _ _ (hu6.cell _ _ cx5 (fun z => z)) (fun z => z)
  have cf7 := hu7.cell _ _ (hu6.cell _ _ cf5 (fun z => z)) (fun z => z)
  rw [Frame.finish_at]
  walk_nrm
  refine .ctl0 rfl (fun _ => Go.Conc.stepG_region_end) ?_
  refine Okk.rest hP Try.func22 (by simp [okCode, okOp, plS, plS2, plE]) (R := fun v w' => v = .bool true ∧ Upto (fun _ => False) m7 w') hc (fun τ => ?_) ?_
  · have cx := (re_cell? (O.gh h m7) τ 0 ⟨xb, 0, none⟩).trans ((gh_cell _).trans cx7)
    have cf := (re_cell? (O.gh h m7) τ 0 ⟨fb, 0, none⟩).trans ((gh_cell _).trans cf7)
    have hl := hL _ (hu07.trans (ug m7 τ))
    have hN' := hN _ (hu07.trans (ug m7 τ))
    have hu : Upto (fun _ => False) m7 (re (O.gh h m7) τ 0) := ug m7 τ
    generalize re (O.gh h m7) τ 0 = W at *
    clear hL hN ug fx qx ff qf hx1 hf4
    go_wp2_with (first | (go_at_call 29; refine hl.mono ?_; rintro e w' ⟨rfl, rfl⟩) | (go_at_call 37; refine hN'.mono ?_; rintro e w' ⟨rfl, rfl⟩) | (go_at_call 16; refine (aload_calls _ _ _ _ cx).mono ?_; rintro e w' ⟨rfl, rfl⟩))
    go_ret
    exact ⟨_, rfl, rfl, hu⟩
  rintro _ m8 ⟨rfl, hu8⟩ _
  exact hn m8 (hu07.trans hu8)
end
end Go.Proofs.Ytkbfbphbdljaaaa

/- GateNil, walked. Every premise stands in the statements. -/
set_option linter.unusedVariables false
set_option linter.unusedSimpArgs false
namespace Go.Proofs.Ytkbfbphbdljaaaa
open Go.Tre Go.RowKit
open Go.Conc (G base baseD crowd rcase scase)
open Go.ConcN (upd upd_ne upd_same)
section
variable [Base]
set_option maxRecDepth 100000 in
set_option maxHeartbeats 8000000 in
theorem gateNil_ok (nv : Int) (sv : ByteArray) (hb : Base.b0 = Base.w0.heap.size) :
    Okk Try.prog (fun x w => x = .bool true ∧ AsOld Base.w0 w) 0 (G (Frame.enter Try.prog 6 #[.int .i64 nv, .string sv] .normal) []) Base.w0 Own.none (fun _ => none) := by
  have hP := try_plain2
  rw [Go.Conc.enter_at _ Try.func6 rfl]
  simp only [Try.ntmps6]
  refine .ctl0 rfl (fun _ => Go.Conc.stepG_seq) (.ctl0 rfl (fun _ => Go.Conc.stepG_region) ?_)
  refine .oper hP rfl rfl rfl (R := fun v g' => v = .pointer (some ⟨Base.w0.heap.size, 0, none⟩) ∧ g'.heap[Base.w0.heap.size]? = some (.cells #[.int .i64 nv] 3) ∧ Upto (fun _ => False) Base.w0 g' ∧ g'.heap.size = Base.w0.heap.size + 1) (fun τ => ⟨_, _, by simp [go_sem]; exact ⟨rfl, rfl⟩, by simp [gh_size], made _⟩) ?_
  rintro _ m1 ⟨rfl, hn1, hum1, hsm1⟩ _
  have cn1 : m1.cell? ⟨Base.w0.heap.size, 0, none⟩ = some (.int .i64 nv) := by simp only [World.cell?, hn1]; rfl
  generalize hnb : Base.w0.heap.size = nb at *
  walk_nrm
  refine .val hP rfl rfl rfl (.bool false) (fun τ => by simp [go_sem]) ?_
  walk_nrm
  refine .ctl0 rfl (fun _ => Go.Conc.stepG_region_end) (.ctl0 rfl (fun _ => Go.Conc.stepG_seq) (.ctl0 rfl (fun _ => Go.Conc.stepG_region) ?_))
  refine .enter (f := 11) (args := #[]) rfl rfl (fun w => ?_) (fun w => ?_) ?_
  · have := (callFunc_enter Try.func11 (by kernel_rfl) rfl #[] w).1
    simp [go_sem, this]
  · have := (callFunc_enter Try.func11 (by kernel_rfl) rfl #[] w).2
    simp [go_sem, this]
  refine Okk.works (Callable.mk rfl) (fun _ _ => rfl) (by omega) fun m2 O2 Γ2 hum2 ho2 hΓ2 => ?_
  rw [Frame.finish_at]
  walk_nrm
  refine .val hP rfl rfl rfl (.bool true) (fun τ => by simp [go_sem]) ?_
  walk_nrm
  refine .ctl0 rfl (fun _ => Go.Conc.stepG_region_end) (.ctl0 rfl (fun _ => Go.Conc.stepG_seq) (.ctl0 rfl (fun _ => Go.Conc.stepG_region) ?_))
  refine .val hP rfl rfl rfl (.pointer none) (fun τ => by simp [go_sem]) ?_
  walk_nrm
  refine .ctl0 rfl (fun _ => Go.Conc.stepG_region_end) (.ctl0 rfl (fun _ => Go.Conc.stepG_seq) (.ctl0 rfl (fun _ => Go.Conc.stepG_region) ?_))
  refine .val hP rfl rfl rfl (.pointer none) (fun τ => by simp [go_sem]) ?_
  walk_nrm
  refine .enter (f := 22) (args := #[.pointer none]) rfl rfl (fun w => ?_) (fun w => ?_) ?_
  · have := (callFunc_enter Try.func22 (by kernel_rfl) rfl #[.pointer none] w).1
    simp [go_sem, this]
  · have := (callFunc_enter Try.func22 (by kernel_rfl) rfl #[.pointer none] w).2
    simp [go_sem, this]
  have hm2 := hum2.size
  refine Okk.idle (Callable.mk rfl) (by omega) (fun w _ => live_nil w) (fun w _ => number_nil w) fun m3 hum3 => ?_
  rw [Frame.finish_at]
  walk_nrm
  refine .val hP rfl rfl rfl (.bool true) (fun τ => by simp [go_sem]) ?_
  walk_nrm
  refine .val hP rfl rfl rfl (.agg #[.pointer none, .int .i64 0, .chan none, .chan none, .pointer none, .int .i64 0, .int .i8 0, .int .i64 0, .int .i64 0, .int .i64 0, .int .i64 0, .int .i64 0, .bool false, .bool false]) (fun τ => by simp [go_sem]) ?_
  walk_nrm
  have hm3 := hum3.size
  refine .oper hP rfl rfl rfl (R := fun v g' => v = .pointer (some ⟨m3.heap.size, 0, none⟩) ∧ g'.heap[m3.heap.size]? = some (.cells #[.pointer none, .int .i64 0, .chan none, .chan none, .pointer none, .int .i64 0, .int .i8 0, .int .i64 0, .int .i64 0, .int .i64 0, .int .i64 0, .int .i64 0, .bool false, .bool false] 65) ∧ Upto (fun _ => False) m3 g' ∧ g'.heap.size = m3.heap.size + 1) (fun τ => ⟨_, _, by simp [go_sem]; exact ⟨rfl, rfl⟩, by simp [gh_size], made _⟩) ?_
  rintro _ m4 ⟨rfl, ht4, hum4, hsm4⟩ _
  have ct4 : m4.cell? ⟨m3.heap.size, 0, none⟩ = some (.pointer none) := by simp only [World.cell?, ht4]; rfl
  generalize htb : m3.heap.size = tb at *
  walk_nrm
  refine .enter (f := 22) (args := #[.pointer (some ⟨tb, 0, none⟩)]) rfl rfl (fun w => ?_) (fun w => ?_) ?_
  · have := (callFunc_enter Try.func22 (by kernel_rfl) rfl #[.pointer (some ⟨tb, 0, none⟩)] w).1
    simp [go_sem, this]
  · have := (callFunc_enter Try.func22 (by kernel_rfl) rfl #[.pointer (some ⟨tb, 0, none⟩)] w).2
    simp [go_sem, this]
  refine Okk.idle (Callable.mk rfl) (by omega) (fun w hw => live_bare w tb (hw.cell _ _ ct4 (fun z => z))) (fun w hw => number_bare w tb (hw.cell _ _ ct4 (fun z => z))) fun m5 hum5 => ?_
  rw [Frame.finish_at]
  walk_nrm
  refine .val hP rfl rfl rfl (.bool true) (fun τ => by simp [go_sem]) ?_
  walk_nrm
  refine .val hP rfl rfl rfl (.bool true) (fun τ => by simp [go_sem]) ?_
  walk_nrm
  refine .ctl0 rfl (fun _ => Go.Conc.stepG_region_end) (.ctl0 rfl (fun _ => Go.Conc.stepG_seq) (.ctl0 rfl (fun _ => Go.Conc.stepG_region) ?_))
  refine .val hP rfl rfl rfl (.slice none 0 0) (fun τ => by simp [go_sem]) ?_
  walk_nrm
  refine .ctl0 rfl (fun _ => Go.Conc.stepG_region_end) (.ctl0 rfl (fun _ => Go.Conc.stepG_seq) (.ctl0 rfl (fun _ => Go.Conc.stepG_region) ?_))
  have cn5 : m5.cell? ⟨nb, 0, none⟩ = some (.int .i64 nv) := hum5.cell _ _ (hum4.cell _ _ (hum3.cell _ _ (hum2.cell _ _ cn1 (fun z => z)) (fun z => z)) (fun z => z)) (fun z => z)
  have hm5 := hum5.size
  refine .val hP rfl rfl rfl (.bool true) (fun τ => by simp [go_sem]) ?_
  walk_nrm
  refine .val hP rfl rfl rfl (.bool true) (fun τ => by simp [go_sem]) ?_
  walk_nrm
  refine .val hP rfl rfl rfl (.bool true) (fun τ => by simp [go_sem]) ?_
  walk_nrm
  refine .val hP rfl rfl rfl (.bool true) (fun τ => by simp [go_sem]) ?_
  walk_nrm
  refine .val hP rfl rfl rfl (.bool true) (fun τ => by simp [go_sem]) ?_
  walk_nrm
  refine .val hP rfl rfl rfl (.int .i64 nv) (fun τ => by simp [go_sem, gh_cell, cn5]) ?_
  walk_nrm
  refine .enter (f := 23) (args := #[.int .i64 nv]) rfl rfl (fun w => ?_) (fun w => ?_) ?_
  · have := (callFunc_enter Try.func23 (by kernel_rfl) rfl #[.int .i64 nv] w).1
    simp [go_sem, this]
  · have := (callFunc_enter Try.func23 (by kernel_rfl) rfl #[.int .i64 nv] w).2
    simp [go_sem, this]
  refine Okk.stopped (Callable.mk rfl) hΓ2 (by omega) fun m6 O6 Γ6 hum6 ho6 hΓ6 => ?_
  rw [Frame.finish_at]
  walk_nrm
  have cn6 := hum6.cell _ _ cn5 (fun z => z)
  refine .val hP rfl rfl rfl (.bool true) (fun τ => by simp [go_sem]) ?_
  walk_nrm
  refine .val hP rfl rfl rfl (.bool true) (fun τ => by simp [go_sem]) ?_
  walk_nrm
  refine .enter (f := 24) (args := #[.nilIface]) rfl rfl (fun w => ?_) (fun w => ?_) ?_
  · have := (callFunc_enter Try.func24 (by kernel_rfl) rfl #[.nilIface] w).1
    simp [go_sem, this]
  · have := (callFunc_enter Try.func24 (by kernel_rfl) rfl #[.nilIface] w).2
    simp [go_sem, this]
  refine Okk.callC hP Try.func24 rfl (by simp [okCode, okOp, plS, plS2, plE]) (Callable.mk rfl) (R := fun v w' => v = .bool false ∧ Upto (fun _ => False) m6 w') (fun τ => (is_nil _).mono fun e w' ⟨h1, h2⟩ => ⟨_, h1, rfl, by rw [h2]; exact (Upto.gh (O := O6) (h := 0)).trans (Upto.of_heap rfl)⟩) ?_
  rintro _ m7 ⟨rfl, hum7⟩ _
  rw [Frame.finish_at]
  walk_nrm
  refine .val hP rfl rfl rfl (.bool true) (fun τ => by simp [go_sem]) ?_
  walk_nrm
  refine .val hP rfl rfl rfl (.bool true) (fun τ => by simp [go_sem]) ?_
  walk_nrm
  refine .val hP rfl rfl rfl (.bool true) (fun τ => by simp [go_sem]) ?_
  walk_nrm
  have cn7 := hum7.cell _ _ cn6 (fun z => z)
  refine .val hP rfl rfl rfl (.int .i64 nv) (fun τ => by simp [go_sem, gh_cell, cn7]) ?_
  walk_nrm
  refine .val hP rfl rfl rfl (.iface 3 (.int .i64 nv)) (fun τ => by simp [go_sem]) ?_
  walk_nrm
  refine .enter (f := 24) (args := #[.iface 3 (.int .i64 nv)]) rfl rfl (fun w => ?_) (fun w => ?_) ?_
  · have := (callFunc_enter Try.func24 (by kernel_rfl) rfl #[.iface 3 (.int .i64 nv)] w).1
    simp [go_sem, this]
  · have := (callFunc_enter Try.func24 (by kernel_rfl) rfl #[.iface 3 (.int .i64 nv)] w).2
    simp [go_sem, this]
  refine Okk.callC hP Try.func24 rfl (by simp [okCode, okOp, plS, plS2, plE]) (Callable.mk rfl) (R := fun v w' => v = .bool false ∧ Upto (fun _ => False) m7 w') (fun τ => (is_other _ 3 _ rfl).mono fun e w' ⟨h1, h2⟩ => ⟨_, h1, rfl, by rw [h2]; exact (Upto.gh (O := O6) (h := 0)).trans (Upto.of_heap rfl)⟩) ?_
  rintro _ m8 ⟨rfl, hum8⟩ _
  rw [Frame.finish_at]
  walk_nrm
  refine .val hP rfl rfl rfl (.bool true) (fun τ => by simp [go_sem]) ?_
  walk_nrm
  refine .val hP rfl rfl rfl (.bool true) (fun τ => by simp [go_sem]) ?_
  walk_nrm
  refine .val hP rfl rfl rfl (.bool true) (fun τ => by simp [go_sem]) ?_
  walk_nrm
  refine .val hP rfl rfl rfl (.string sv) (fun τ => by simp [go_sem]) ?_
  walk_nrm
  refine .val hP rfl rfl rfl (.iface 9 (.string sv)) (fun τ => by simp [go_sem]) ?_
  walk_nrm
  refine .enter (f := 24) (args := #[.iface 9 (.string sv)]) rfl rfl (fun w => ?_) (fun w => ?_) ?_
  · have := (callFunc_enter Try.func24 (by kernel_rfl) rfl #[.iface 9 (.string sv)] w).1
    simp [go_sem, this]
  · have := (callFunc_enter Try.func24 (by kernel_rfl) rfl #[.iface 9 (.string sv)] w).2
    simp [go_sem, this]
  refine Okk.callC hP Try.func24 rfl (by simp [okCode, okOp, plS, plS2, plE]) (Callable.mk rfl) (R := fun v w' => v = .bool false ∧ Upto (fun _ => False) m8 w') (fun τ => (is_other _ 9 _ rfl).mono fun e w' ⟨h1, h2⟩ => ⟨_, h1, rfl, by rw [h2]; exact (Upto.gh (O := O6) (h := 0)).trans (Upto.of_heap rfl)⟩) ?_
  rintro _ m9 ⟨rfl, hum9⟩ _
  rw [Frame.finish_at]
  walk_nrm
  refine .val hP rfl rfl rfl (.bool true) (fun τ => by simp [go_sem]) ?_
  walk_nrm
  refine .val hP rfl rfl rfl (.bool true) (fun τ => by simp [go_sem]) ?_
  walk_nrm
  refine .val hP rfl rfl rfl (.bool true) (fun τ => by simp [go_sem]) ?_
  walk_nrm
  refine .val hP rfl rfl rfl (.slice none 0 0) (fun τ => by simp [go_sem]) ?_
  walk_nrm
  refine .val hP rfl rfl rfl (.iface 37 (.slice none 0 0)) (fun τ => by simp [go_sem]) ?_
  walk_nrm
  refine .enter (f := 24) (args := #[.iface 37 (.slice none 0 0)]) rfl rfl (fun w => ?_) (fun w => ?_) ?_
  · have := (callFunc_enter Try.func24 (by kernel_rfl) rfl #[.iface 37 (.slice none 0 0)] w).1
    simp [go_sem, this]
  · have := (callFunc_enter Try.func24 (by kernel_rfl) rfl #[.iface 37 (.slice none 0 0)] w).2
    simp [go_sem, this]
  refine Okk.callC hP Try.func24 rfl (by simp [okCode, okOp, plS, plS2, plE]) (Callable.mk rfl) (R := fun v w' => v = .bool false ∧ Upto (fun _ => False) m9 w') (fun τ => (is_other _ 37 _ rfl).mono fun e w' ⟨h1, h2⟩ => ⟨_, h1, rfl, by rw [h2]; exact (Upto.gh (O := O6) (h := 0)).trans (Upto.of_heap rfl)⟩) ?_
  rintro _ m10 ⟨rfl, hum10⟩ _
  rw [Frame.finish_at]
  walk_nrm
  refine .val hP rfl rfl rfl (.bool true) (fun τ => by simp [go_sem]) ?_
  walk_nrm
  refine .val hP rfl rfl rfl (.bool true) (fun τ => by simp [go_sem]) ?_
  walk_nrm
  refine .val hP rfl rfl rfl (.bool true) (fun τ => by simp [go_sem]) ?_
  walk_nrm
  refine .val hP rfl rfl rfl (.iface 68 (.int .i64 0)) (fun τ => by simp [go_sem]) ?_
  walk_nrm
  refine .enter (f := 24) (args := #[.iface 68 (.int .i64 0)]) rfl rfl (fun w => ?_) (fun w => ?_) ?_
  · have := (callFunc_enter Try.func24 (by kernel_rfl) rfl #[.iface 68 (.int .i64 0)] w).1
    simp [go_sem, this]
  · have := (callFunc_enter Try.func24 (by kernel_rfl) rfl #[.iface 68 (.int .i64 0)] w).2
    simp [go_sem, this]
  refine Okk.callC hP Try.func24 rfl (by simp [okCode, okOp, plS, plS2, plE]) (Callable.mk rfl) (R := fun v w' => v = .bool false ∧ Upto (fun _ => False) m10 w') (fun τ => (is_other _ 68 _ rfl).mono fun e w' ⟨h1, h2⟩ => ⟨_, h1, rfl, by rw [h2]; exact (Upto.gh (O := O6) (h := 0)).trans (Upto.of_heap rfl)⟩) ?_
  rintro _ m11 ⟨rfl, hum11⟩ _
  rw [Frame.finish_at]
  walk_nrm
  refine .val hP rfl rfl rfl (.bool true) (fun τ => by simp [go_sem]) ?_
  walk_nrm
  refine .val hP rfl rfl rfl (.bool true) (fun τ => by simp [go_sem]) ?_
  walk_nrm
  refine .val hP rfl rfl rfl (.bool true) (fun τ => by simp [go_sem]) ?_
  walk_nrm
  refine .val hP rfl rfl rfl (.iface 69 (.pointer (some ⟨nb, 0, none⟩))) (fun τ => by simp [go_sem]) ?_
  walk_nrm
  refine .enter (f := 24) (args := #[.iface 69 (.pointer (some ⟨nb, 0, none⟩))]) rfl rfl (fun w => ?_) (fun w => ?_) ?_
  · have := (callFunc_enter Try.func24 (by kernel_rfl) rfl #[.iface 69 (.pointer (some ⟨nb, 0, none⟩))] w).1
    simp [go_sem, this]
  · have := (callFunc_enter Try.func24 (by kernel_rfl) rfl #[.iface 69 (.pointer (some ⟨nb, 0, none⟩))] w).2
    simp [go_sem, this]
  refine Okk.callC hP Try.func24 rfl (by simp [okCode, okOp, plS, plS2, plE]) (Callable.mk rfl) (R := fun v w' => v = .bool false ∧ Upto (fun _ => False) m11 w') (fun τ => (is_other _ 69 _ rfl).mono fun e w' ⟨h1, h2⟩ => ⟨_, h1, rfl, by rw [h2]; exact (Upto.gh (O := O6) (h := 0)).trans (Upto.of_heap rfl)⟩) ?_
  rintro _ m12 ⟨rfl, hum12⟩ _
  rw [Frame.finish_at]
  walk_nrm
  refine .val hP rfl rfl rfl (.bool true) (fun τ => by simp [go_sem]) ?_
  walk_nrm
  refine .val hP rfl rfl rfl (.bool true) (fun τ => by simp [go_sem]) ?_
  walk_nrm
  refine .val hP rfl rfl rfl (.bool true) (fun τ => by simp [go_sem]) ?_
  walk_nrm
  refine .val hP rfl rfl rfl (.agg #[]) (fun τ => by simp [go_sem]) ?_
  walk_nrm
  refine .val hP rfl rfl rfl (.iface 24 (.agg #[])) (fun τ => by simp [go_sem]) ?_
  walk_nrm
  refine .enter (f := 24) (args := #[.iface 24 (.agg #[])]) rfl rfl (fun w => ?_) (fun w => ?_) ?_
  · have := (callFunc_enter Try.func24 (by kernel_rfl) rfl #[.iface 24 (.agg #[])] w).1
    simp [go_sem, this]
  · have := (callFunc_enter Try.func24 (by kernel_rfl) rfl #[.iface 24 (.agg #[])] w).2
    simp [go_sem, this]
  refine Okk.callC hP Try.func24 rfl (by simp [okCode, okOp, plS, plS2, plE]) (Callable.mk rfl) (R := fun v w' => v = .bool false ∧ Upto (fun _ => False) m12 w') (fun τ => (is_other _ 24 _ rfl).mono fun e w' ⟨h1, h2⟩ => ⟨_, h1, rfl, by rw [h2]; exact (Upto.gh (O := O6) (h := 0)).trans (Upto.of_heap rfl)⟩) ?_
  rintro _ m13 ⟨rfl, hum13⟩ _
  rw [Frame.finish_at]
  walk_nrm
  refine .val hP rfl rfl rfl (.bool true) (fun τ => by simp [go_sem]) ?_
  walk_nrm
  refine .val hP rfl rfl rfl (.bool true) (fun τ => by simp [go_sem]) ?_
  walk_nrm
  refine .val hP rfl rfl rfl (.bool true) (fun τ => by simp [go_sem]) ?_
  walk_nrm
  refine .ctl0 rfl (fun _ => Go.Conc.stepG_region_end) (.ctl0 rfl (fun _ => Go.Conc.stepG_ret') ?_)
  exact Okk.done hΓ6 rfl rfl (by kernel_rfl) Try.func6 (fun w => by simp [go_sem, results, Try.f6]) (fun w => by simp [go_sem, results, Try.f6]) (by omega) (hum1.trans (hum2.trans (hum3.trans (hum4.trans (hum5.trans (hum6.trans (hum7.trans (hum8.trans (hum9.trans (hum10.trans (hum11.trans (hum12.trans hum13))))))))))))
end
end Go.Proofs.Ytkbfbphbdljaaaa
