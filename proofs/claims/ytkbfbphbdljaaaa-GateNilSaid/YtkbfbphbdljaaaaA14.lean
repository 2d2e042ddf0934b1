/- Texts of one proof, joined: each says what it proves. Every premise stands in the statements. -/
import Derived.Test.YtkbfbphbdljaaaaA12
import Derived.Test.YtkbfbphbdljaaaaA13
import Derived.Conc.TokenWords
import Derived.WalkSpells
import Derived.WalkLawsBesides
/- gate's stands: a thread stands, and is let go. Every premise stands in the statements. -/
set_option linter.unusedVariables false
set_option linter.unusedSimpArgs false
namespace Go.Proofs.Ytkbfbphbdljaaaa
open Go.Tre Go.RowKit
open Go.Conc (G base crowd rcase scase)
open Go.ConcN (upd)

/-- An access, as its cells. -/
structure Acc where
  th : Int
  op : Int
  cell : Int
  arg : Int
  new : Int
  was : Int
  now : Int
  ok : Bool
def Acc.vals (a : Acc) : Array Value := #[.int .i64 a.th, .int .i8 a.op, .int .i64 a.cell, .int .i64 a.arg, .int .i64 a.new, .int .i64 a.was, .int .i64 a.now, .bool a.ok]
/-- It lies there. -/
def Acc.at (a : Acc) (m : World) (b o : Nat) : Prop :=
  m.cell? ⟨b, o, none⟩ = some (.int .i64 a.th) ∧ m.cell? ⟨b, o + 1, none⟩ = some (.int .i8 a.op) ∧ m.cell? ⟨b, o + 2, none⟩ = some (.int .i64 a.cell) ∧ m.cell? ⟨b, o + 3, none⟩ = some (.int .i64 a.arg) ∧
  m.cell? ⟨b, o + 4, none⟩ = some (.int .i64 a.new) ∧ m.cell? ⟨b, o + 5, none⟩ = some (.int .i64 a.was) ∧ m.cell? ⟨b, o + 6, none⟩ = some (.int .i64 a.now) ∧ m.cell? ⟨b, o + 7, none⟩ = some (.bool a.ok)

noncomputable def c41_2 : Code := match Try.f41.body with | some (.seq _ (.seq (.seq _ (.cond _ (.seq c _) _)) _)) => c | _ => .skip
/-- A thread's places where it stands. -/
def Spot (tp : Nat) (a : Addr) : Prop := a.block = tp ∧ 4 ≤ a.off ∧ a.off < 13
theorem spot {tp : Nat} (n : Nat) (h4 : 4 ≤ n) (h13 : n < 13) : Spot tp ⟨tp, n, none⟩ := ⟨rfl, h4, h13⟩
set_option maxRecDepth 100000 in
set_option maxHeartbeats 1000000 in
theorem c41_2_wp (w : World) (tp bx : Nat) (pv : Option Addr) (x6 x7 x8 x9 x10 x11 x12 x13 y2 : Value) (a : Acc) (o4 o5 o6 o7 o8 o9 o10 o11 o12 : Value) (ha : a.at w bx 0)
   (c4 : w.cell? ⟨tp, 4, none⟩ = some o4) (c5 : w.cell? ⟨tp, 5, none⟩ = some o5) (c6 : w.cell? ⟨tp, 6, none⟩ = some o6) (c7 : w.cell? ⟨tp, 7, none⟩ = some o7) (c8 : w.cell? ⟨tp, 8, none⟩ = some o8) (c9 : w.cell? ⟨tp, 9, none⟩ = some o9) (c10 : w.cell? ⟨tp, 10, none⟩ = some o10) (c11 : w.cell? ⟨tp, 11, none⟩ = some o11) (c12 : w.cell? ⟨tp, 12, none⟩ = some o12)
   (f4 : w.frozen? ⟨tp, 4, none⟩ = false) (f5 : w.frozen? ⟨tp, 5, none⟩ = false) (f6 : w.frozen? ⟨tp, 6, none⟩ = false) (f7 : w.frozen? ⟨tp, 7, none⟩ = false) (f8 : w.frozen? ⟨tp, 8, none⟩ = false) (f9 : w.frozen? ⟨tp, 9, none⟩ = false) (f10 : w.frozen? ⟨tp, 10, none⟩ = false) (f11 : w.frozen? ⟨tp, 11, none⟩ = false) (f12 : w.frozen? ⟨tp, 12, none⟩ = false)
   (hne : bx ≠ tp) :
   c41_2.wp Try.prog (fun e a' w' => e = .normal ∧ a'.defers = [] ∧ a'.tmps = #[.pointer (some ⟨tp, 0, none⟩), .pointer pv, y2, undef, undef, .pointer (some ⟨bx, 0, none⟩), x6, x7, x8, x9, x10, x11, x12, x13,
        .pointer (some ⟨tp, 0, none⟩), .pointer (some ⟨tp, 0, none⟩), .pointer pv, .agg a.vals, .pointer (some ⟨tp, 0, none⟩), .pointer (some ⟨tp, 4, none⟩), .pointer (some ⟨tp, 0, none⟩), .pointer (some ⟨tp, 5, none⟩), undef, undef, undef, undef, undef, undef, undef, undef, undef, undef, undef, undef, undef, undef, undef, undef, undef, undef, undef] ∧
      Upto (Spot tp) w w' ∧ w'.cell? ⟨tp, 4, none⟩ = some (.pointer pv) ∧ a.at w' tp 5)
    ⟨#[.pointer (some ⟨tp, 0, none⟩), .pointer pv, y2, undef, undef, .pointer (some ⟨bx, 0, none⟩), x6, x7, x8, x9, x10, x11, x12, x13, undef, undef, undef, undef, undef, undef, undef, undef, undef, undef, undef, undef, undef, undef, undef, undef, undef, undef, undef, undef, undef, undef, undef, undef, undef, undef, undef], []⟩ w := by
  obtain ⟨b0, b1, b2, b3, b4, b5, b6, b7⟩ := ha
  simp only [Nat.zero_add] at b0 b1 b2 b3 b4 b5 b6 b7
  simp only [c41_2, Try.f41]
  go_region
  refine ⟨rfl, rfl, rfl, ?_, ?_, ?_⟩
  · refine .drew (.set (.set (.set (.set (.set (.set (.set (.set (.set .refl (spot _ (by decide) (by decide))) (spot _ (by decide) (by decide))) (spot _ (by decide) (by decide))) (spot _ (by decide) (by decide))) (spot _ (by decide) (by decide))) (spot _ (by decide) (by decide))) (spot _ (by decide) (by decide))) (spot _ (by decide) (by decide))) (spot _ (by decide) (by decide)))
  · simp [go_sem, c4]
  · refine ⟨?_, ?_, ?_, ?_, ?_, ?_, ?_, ?_⟩ <;> simp [go_sem, c5, c6, c7, c8, c9, c10, c11, c12]

theorem Acc.upto {a : Acc} {m m' : World} {W : Addr → Prop} {b o : Nat} (h : a.at m b o) (hu : Upto W m m') (hw : ∀ i, i < 8 → ¬ W ⟨b, o + i, none⟩) : a.at m' b o :=
  ⟨hu.cell _ _ h.1 (hw 0 (by decide)), hu.cell _ _ h.2.1 (hw 1 (by decide)), hu.cell _ _ h.2.2.1 (hw 2 (by decide)), hu.cell _ _ h.2.2.2.1 (hw 3 (by decide)), hu.cell _ _ h.2.2.2.2.1 (hw 4 (by decide)), hu.cell _ _ h.2.2.2.2.2.1 (hw 5 (by decide)), hu.cell _ _ h.2.2.2.2.2.2.1 (hw 6 (by decide)), hu.cell _ _ h.2.2.2.2.2.2.2 (hw 7 (by decide))⟩

variable [Base]
theorem Acc.gh {a : Acc} {m : World} {O : Own} {h b o : Nat} (ha : a.at m b o) : a.at (O.gh h m) b o := Acc.upto ha (W := fun _ => False) .gh (fun _ _ z => z)

/-- Its value of a panic. -/
def stopV : Value := .iface 111 (.agg #[])
/-- What one who stands does when it is let go: it goes on, or, stopped, panics. -/
def Resumes (Φ : Value → World → Prop) (h rp tp : Nat) (c : Frame) (cs : List Frame) (R : Goroutine) : Prop :=
  ∀ (m : World) (O : Own) (Γ : Nat → Option Seat) (st : Bool) (v : Value), m.cell? ⟨tp, 0, none⟩ = some (.pointer (some ⟨rp, 0, none⟩)) → m.cell? ⟨rp, 6, none⟩ = some (.bool st) →
    Okk Try.prog Φ h (if st then G (c.raise [{ v := stopV, recovered := false }]) cs else G (c.finish (.tuple #[])) cs) m O Γ → Okk Try.prog Φ h (Go.Conc.served R v) m O Γ

set_option maxRecDepth 100000 in
set_option maxHeartbeats 2000000 in
theorem Okk.stands {S E : FuncId → Bool} {Φ : Value → World → Prop} (hP : Plain Try.prog S E) {h s : Nat} {m : World} {O : Own} {Γ : Nat → Option Seat} {c : Frame} {cs : List Frame} {tp rp cw cd kd : Nat} {sc : Seat} {pv : Option Addr} {a : Acc}
    (hb : Base.b0 ≤ tp) (ho : O.o tp = some h) (hpre : O.pre tp = 4) (h0 : m.cell? ⟨tp, 0, none⟩ = some (.pointer (some ⟨rp, 0, none⟩))) (h2 : m.cell? ⟨tp, 2, none⟩ = some (.chan (some cw))) (h3 : m.cell? ⟨tp, 3, none⟩ = some (.chan (some cd)))
    (h6 : m.cell? ⟨rp, 6, none⟩ = some (.bool false)) (hrt : rp ≠ tp) {o4 : Value} (hv : m.cell? ⟨tp, 4, none⟩ = some o4) {a' : Acc} (hat : a'.at m tp 5)
    (hs : Γ s = some sc) (hsc : sc.c = cd) (hsh : s ≠ h) (hcd : m.heap[cd]? = some (.chan 0 #[] false kd kd false)) (hcw : ∃ k, m.heap[cw]? = some (.chan 0 #[] false k k false)) (hfree : ∀ i s₂, i ≠ h → i ≠ s → Γ i = some s₂ → s₂.c ≠ cw)
    (hn : ∀ m₁ R, Upto (Spot tp) m m₁ → m₁.cell? ⟨tp, 4, none⟩ = some (.pointer pv) → a.at m₁ tp 5 → Resumes Φ h rp tp c cs R → ∀ g₂, sc.home g₂ →
      (∀ x v, sc.still x = some v → Base.b0 ≤ x.block ∧ (O.o x.block = some s ∨ x.off < O.pre x.block) ∧ m₁.cell? x = some v) → (∀ b n, sc.mine b = some n → O.o b = some s ∧ O.pre b = n) →
      Okk Try.prog Φ s (Go.Conc.served g₂ (.agg #[])) (m₁.setChan cd 0 #[] false (kd + 1) (kd + 1) false) O (upd Γ h (some (stdSeat cw R O h m₁)))) :
    Okk Try.prog Φ h (G (Frame.enter Try.prog 41 #[.pointer (some ⟨tp, 0, none⟩), .pointer pv, .agg a.vals] .normal) (c :: cs)) m O Γ := by
  subst hsc
  rw [Go.Conc.enter_at _ Try.func41 rfl]
  simp only [Try.ntmps41, Acc.vals]
  refine .ctl0 rfl (fun _ => Go.Conc.stepG_seq) (.ctl0 rfl (fun _ => Go.Conc.stepG_region) ?_)
  refine .oper hP rfl rfl rfl (R := fun v g' => v = .pointer (some ⟨m.heap.size, 0, none⟩) ∧ ∃ τ, g' = (re (O.gh h m) τ 0).alloc (.cells a.vals 61)) (fun τ => ⟨_, _, by simp [go_sem]; exact ⟨rfl, rfl⟩, by simp [gh_size], τ, rfl⟩) ?_
  rintro _ g₁ ⟨rfl, τ₁, hg₁⟩ _
  have hu1 : Upto (fun _ => False) m g₁ := by
    rw [hg₁]
    exact (Upto.gh (O := O) (h := h)).trans ((Upto.of_heap (m := O.gh h m) (m' := re (O.gh h m) τ₁ 0) rfl).trans .alloc)
  have hbx : a.at g₁ m.heap.size 0 := by
    have e : ∀ i (hi : i < a.vals.size), g₁.cell? ⟨m.heap.size, i, none⟩ = some a.vals[i] := fun i hi => by
      rw [hg₁]
      have : ((re (O.gh h m) τ₁ 0).alloc (.cells a.vals 61)).heap[m.heap.size]? = some (.cells a.vals 61) := by
        show ((O.gh h m).heap.push _)[m.heap.size]? = _
        rw [← gh_size (O := O) (h := h)]; simp
      exact cell_of_cells this hi
    exact ⟨e 0 (by show 0 < 8; decide), e 1 (by show 1 < 8; decide), e 2 (by show 2 < 8; decide), e 3 (by show 3 < 8; decide), e 4 (by show 4 < 8; decide), e 5 (by show 5 < 8; decide), e 6 (by show 6 < 8; decide), e 7 (by show 7 < 8; decide)⟩
  clear hg₁
  have hne : m.heap.size ≠ tp := fun e => by have := World.block_lt_of_cell? m _ h0; simp at this; omega

  have h0' := hu1.cell _ _ h0 (fun z => z)
  have h2' := hu1.cell _ _ h2 (fun z => z)
  have h3' := hu1.cell _ _ h3 (fun z => z)
  have h6' := hu1.cell _ _ h6 (fun z => z)
  walk_nrm
  refine .ctl0 rfl (fun _ => Go.Conc.stepG_region_end) (.ctl0 rfl (fun _ => Go.Conc.stepG_seq) (.ctl0 rfl (fun _ => Go.Conc.stepG_seq) (.ctl0 rfl (fun _ => Go.Conc.stepG_region) ?_)))
  refine .val hP rfl rfl rfl (.pointer (some ⟨tp, 0, none⟩)) (fun τ => by simp [go_sem]) ?_
  walk_nrm
  refine .val hP rfl rfl rfl (.pointer (some ⟨tp, 0, none⟩)) (fun τ => by simp [go_sem]) ?_
  walk_nrm
  refine .val hP rfl rfl rfl (.pointer (some ⟨tp, 0, none⟩)) (fun τ => by simp [go_sem]) ?_
  walk_nrm
  refine .val hP rfl rfl rfl (.pointer (some ⟨rp, 0, none⟩)) (fun τ => by simp [go_sem, gh_cell, h0']) ?_
  walk_nrm
  refine .val hP rfl rfl rfl (.pointer (some ⟨rp, 0, none⟩)) (fun τ => by simp [go_sem]) ?_
  walk_nrm
  refine .val hP rfl rfl rfl (.pointer (some ⟨rp, 6, none⟩)) (fun τ => by simp [go_sem]) ?_
  walk_nrm
  refine .val hP rfl rfl rfl (.bool false) (fun τ => by simp [go_sem, gh_cell, h6']) ?_
  walk_nrm
  refine .val hP rfl rfl rfl (.bool true) (fun τ => by simp [go_sem]) ?_
  walk_nrm
  refine .ctl0 rfl (fun _ => Go.Conc.stepG_region_end) (.ctl0 rfl (fun _ => Go.Conc.stepG_cond (t := true) rfl) ?_)
  simp only [if_true]
  refine .ctl0 rfl (fun _ => Go.Conc.stepG_seq) ?_
  have hat' := Acc.upto hat hu1 (fun _ _ z => z)
  have hv' := hu1.cell _ _ hv (fun z => z)
  obtain ⟨q0, q1, q2, q3, q4, q5, q6, q7⟩ := hat'
  have ff : ∀ i, 4 ≤ i → ∀ τ, (re (O.gh h g₁) τ 0).frozen? ⟨tp, i, none⟩ = false := fun i hi τ => gh_free (m := g₁) hb (.inr ho) (by show O.pre tp ≤ i; omega)
  refine .code hP (c := c41_2) (by simp [c41_2, Try.f41, okCode, okOp]) (Q := fun tms w' => tms = _ ∧ Upto (Spot tp) g₁ w' ∧ w'.cell? ⟨tp, 4, none⟩ = some (.pointer pv) ∧ a.at w' tp 5) (fun τ => wp_mono (c41_2_wp (re (O.gh h g₁) τ 0) tp m.heap.size pv _ _ _ _ _ _ _ _ _ a _ _ _ _ _ _ _ _ _ (Acc.gh hbx) (by rw [re_cell?, gh_cell]; exact hv') (by rw [re_cell?, gh_cell]; exact q0) (by rw [re_cell?, gh_cell]; exact q1) (by rw [re_cell?, gh_cell]; exact q2) (by rw [re_cell?, gh_cell]; exact q3) (by rw [re_cell?, gh_cell]; exact q4) (by rw [re_cell?, gh_cell]; exact q5) (by rw [re_cell?, gh_cell]; exact q6) (by rw [re_cell?, gh_cell]; exact q7)
    (ff 4 (by decide) τ) (ff 5 (by decide) τ) (ff 6 (by decide) τ) (ff 7 (by decide) τ) (ff 8 (by decide) τ) (ff 9 (by decide) τ) (ff 10 (by decide) τ) (ff 11 (by decide) τ) (ff 12 (by decide) τ) hne) (fun e a' w' ⟨z1, z2, z3, z4, z5, z6⟩ => ⟨z1, z2, z3, (Upto.gh (O := O) (h := h)).trans ((Upto.of_heap (m := O.gh h g₁) (m' := re (O.gh h g₁) τ 0) rfl).trans z4), z5, z6⟩)) ?_
  rintro _ g₂ ⟨rfl, hu2, hv2, ha2⟩ _
  have hu3 : Upto (Spot tp) m g₂ := (hu1.mono (fun _ z => z.elim)).trans hu2
  have s4 : ∀ i, i < 4 → ¬ Spot tp ⟨tp, i, none⟩ := fun i hi z => by have := z.2.1; simp at this; omega
  have k2 := hu3.cell _ _ h2 (s4 2 (by decide))
  have k3 := hu3.cell _ _ h3 (s4 3 (by decide))
  have nch : ∀ c k, m.heap[c]? = some (Obj.chan 0 #[] false k k false) → g₂.heap[c]? = some (Obj.chan 0 #[] false k k false) := fun c k hc => hu3.chan hc fun z => by have := z.2.1; simp at this
  refine .ctl0 rfl (fun _ => Go.Conc.stepG_seq) (.ctl0 rfl (fun _ => Go.Conc.stepG_region) ?_)
  refine .val hP rfl rfl rfl (.pointer (some ⟨tp, 0, none⟩)) (fun τ => by simp [go_sem]) ?_
  walk_nrm
  refine .val hP rfl rfl rfl (.pointer (some ⟨tp, 0, none⟩)) (fun τ => by simp [go_sem]) ?_
  walk_nrm
  refine .val hP rfl rfl rfl (.pointer (some ⟨tp, 3, none⟩)) (fun τ => by simp [go_sem]) ?_
  walk_nrm
  refine .val hP rfl rfl rfl (.chan (some sc.c)) (fun τ => by simp [go_sem, gh_cell, k3]) ?_
  walk_nrm
  refine .val hP rfl rfl rfl (.agg #[]) (fun τ => by simp [go_sem]) ?_
  walk_nrm
  have hX : (O.mine h g₂) ⟨tp, 2, none⟩ = some (.chan (some cw)) := mine_of hb (.inl ho) k2
  refine Okk.sendW (c' := cw) (n := 6) (Res := Resumes Φ h rp tp c cs) (v := .agg #[]) (z' := .tuple #[]) rfl rfl (by decide) (fun w => by simp [go_sem, scase]) (fun w => by simp [go_sem]) hs hsh (nch _ _ hcd) ?way (hcw.elim fun k hk => ⟨k, nch _ _ hk⟩) hfree (fun R hR => hn g₂ R hu3 hv2 ha2 hR)
  apply Exists.intro
  constructor
  · walk_nrm
    refine .regionEnd (.region ?_)
    refine .val rfl rfl (.pointer (some ⟨tp, 0, none⟩)) (fun w _ => by simp [go_sem]) (fun w _ => by simp [go_sem]) ?_
    walk_nrm
    refine .val rfl rfl (.pointer (some ⟨tp, 0, none⟩)) (fun w _ => by simp [go_sem]) (fun w _ => by simp [go_sem]) ?_
    walk_nrm
    refine .val rfl rfl (.pointer (some ⟨tp, 2, none⟩)) (fun w _ => by simp [go_sem]) (fun w _ => by simp [go_sem]) ?_
    walk_nrm
    refine .val rfl rfl (.chan (some cw)) (fun w hw => by have := hw _ _ hX; simp [go_sem, this]) (fun w hw e he => by have := hw _ _ hX; simp [go_sem, this] at he; subst he; exact ⟨_, _, rfl, hX⟩) ?_
    walk_nrm
    exact .recv rfl rfl (by decide) (fun w => by simp [go_sem, rcase, stdSeat]) (fun w => by simp [go_sem]) rfl
  · intro m' O' Γ' st v m0 m6 hk
    rw [Go.Conc.served_fr, Frame.finish_at]
    walk_nrm
    refine .ctl0 rfl (fun _ => Go.Conc.stepG_region_end) (.ctl0 rfl (fun _ => Go.Conc.stepG_seq) (.ctl0 rfl (fun _ => Go.Conc.stepG_region) ?_))
    refine .val hP rfl rfl rfl (.pointer (some ⟨tp, 0, none⟩)) (fun τ => by simp [go_sem]) ?_
    walk_nrm
    refine .val hP rfl rfl rfl (.pointer (some ⟨tp, 0, none⟩)) (fun τ => by simp [go_sem]) ?_
    walk_nrm
    refine .val hP rfl rfl rfl (.pointer (some ⟨tp, 0, none⟩)) (fun τ => by simp [go_sem]) ?_
    walk_nrm
    refine .val hP rfl rfl rfl (.pointer (some ⟨rp, 0, none⟩)) (fun τ => by simp [go_sem, gh_cell, m0]) ?_
    walk_nrm
    refine .val hP rfl rfl rfl (.pointer (some ⟨rp, 0, none⟩)) (fun τ => by simp [go_sem]) ?_
    walk_nrm
    refine .val hP rfl rfl rfl (.pointer (some ⟨rp, 6, none⟩)) (fun τ => by simp [go_sem]) ?_
    walk_nrm
    refine .val hP rfl rfl rfl (.bool st) (fun τ => by simp [go_sem, gh_cell, m6]) ?_
    walk_nrm
    refine .ctl0 rfl (fun _ => Go.Conc.stepG_region_end) (.ctl0 rfl (fun _ => Go.Conc.stepG_cond (t := st) rfl) ?_)
    cases st with
    | true =>
      simp only [if_true] at hk ⊢
      refine .ctl0 rfl (fun _ => Go.Conc.stepG_region) ?_
      refine .val hP rfl rfl rfl (.agg #[]) (fun τ => by simp [go_sem]) ?_
      walk_nrm
      refine .val hP rfl rfl rfl stopV (fun τ => by simp [go_sem, stopV]) ?_
      walk_nrm
      refine .panic (v := stopV) rfl rfl (fun w => by simp [go_sem, stopV]) (fun w => by simp [go_sem, stopV]; rfl) ?_
      exact .raise rfl rfl rfl hk
    | false =>
      simp only [Bool.false_eq_true, if_false] at hk ⊢
      refine .ctl0 rfl (fun _ => Go.Conc.stepG_skip) (.ctl0 rfl (fun _ => Go.Conc.stepG_end) ?_)
      exact .leave rfl rfl Try.func41 (fun w => by simp [go_sem, results, Try.f41]) (fun w => by simp [go_sem, results, Try.f41]) hk
end Go.Proofs.Ytkbfbphbdljaaaa
