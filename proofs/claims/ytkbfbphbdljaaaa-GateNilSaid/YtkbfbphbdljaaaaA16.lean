/- Texts of one proof, joined: each says what it proves. Every premise stands in the statements. -/
import Derived.Test.YtkbfbphbdljaaaaA14
import Derived.Test.YtkbfbphbdljaaaaA15
import Derived.Test.YtkbfbphbdljaaaaA11
/- The end of a thread: begin's deferred function. Every premise stands in the statements. -/
set_option linter.unusedVariables false
set_option linter.unusedSimpArgs false
namespace Go.Proofs.Ytkbfbphbdljaaaa
open Go.Tre Go.RowKit
open Go.Conc (G base baseD crowd rcase scase)
open Go.ConcN (upd)

noncomputable def c109_1 : Code := match Try.f109.body with | some (.seq (.seq _ (.seq c _)) _) => c | _ => .skip
noncomputable def c109_2 : Code := match Try.f109.body with | some (.seq (.seq _ (.seq _ (.cond _ c _))) _) => c | _ => .skip
noncomputable def c109_3 : Code := match Try.f109.body with | some (.seq _ c) => c | _ => .skip
set_option maxRecDepth 100000 in
set_option maxHeartbeats 1000000 in
theorem c109_1_nil (w : World) (rb tb : Nat) :
   c109_1.wp Try.prog (fun e a' w' => e = .normal ∧ a'.defers = [] ∧ a'.tmps = #[.pointer (some ⟨rb, 0, none⟩), .pointer (some ⟨tb, 0, none⟩), .nilIface, .nilIface, .nilIface, .bool false, .bool false, undef, undef, undef, undef, undef, .bool false,
        undef, undef, undef, undef, undef, undef, undef, undef, undef, undef, undef, undef, undef, undef, undef, undef, undef] ∧ w'.heap = w.heap)
    ⟨#[.pointer (some ⟨rb, 0, none⟩), .pointer (some ⟨tb, 0, none⟩), .nilIface, .nilIface, undef, undef, undef, undef, undef, undef, undef, undef, undef, undef, undef, undef, undef, undef, undef, undef, undef, undef, undef, undef, undef, undef, undef, undef, undef, undef], []⟩ w := by
  simp only [c109_1, Try.f109]
  go_wp2
set_option maxRecDepth 100000 in
set_option maxHeartbeats 1000000 in
theorem c109_1_some (w : World) (rb tb rp : Nat) (t : TypeId) (x : Value) (st : Bool) (h0 : w.cell? ⟨rb, 0, none⟩ = some (.pointer (some ⟨rp, 0, none⟩))) (h6 : w.cell? ⟨rp, 6, none⟩ = some (.bool st)) :
   c109_1.wp Try.prog (fun e a' w' => e = .normal ∧ a'.defers = [] ∧ a'.tmps = #[.pointer (some ⟨rb, 0, none⟩), .pointer (some ⟨tb, 0, none⟩), .iface t x, .iface t x, .iface t x, .bool true, .bool true, .pointer (some ⟨rp, 0, none⟩), .pointer (some ⟨rp, 0, none⟩), .pointer (some ⟨rp, 6, none⟩), .bool st, .bool (!st), .bool (!st),
        undef, undef, undef, undef, undef, undef, undef, undef, undef, undef, undef, undef, undef, undef, undef, undef, undef] ∧ w'.heap = w.heap)
    ⟨#[.pointer (some ⟨rb, 0, none⟩), .pointer (some ⟨tb, 0, none⟩), .iface t x, .iface t x, undef, undef, undef, undef, undef, undef, undef, undef, undef, undef, undef, undef, undef, undef, undef, undef, undef, undef, undef, undef, undef, undef, undef, undef, undef, undef], []⟩ w := by
  simp only [c109_1, Try.f109]
  go_wp2

set_option maxRecDepth 100000 in
set_option maxHeartbeats 1000000 in
theorem c109_2_wp (w : World) (rb tb rp tp : Nat) (fa : Addr) (len cap n : Nat) (y2 y3 y4 y5 y6 y7 y8 y9 y10 y11 y12 : Value) (o : Value) (h0 : w.cell? ⟨rb, 0, none⟩ = some (.pointer (some ⟨rp, 0, none⟩))) (ht : w.cell? ⟨tb, 0, none⟩ = some (.pointer (some ⟨tp, 0, none⟩)))
   (h5 : w.cell? ⟨rp, 5, none⟩ = some (.slice (some fa) len cap)) (h1 : w.cell? ⟨tp, 1, none⟩ = some (.int .i64 (n : Int))) (hn1 : n < len) (hc : w.cell? (fa.add n) = some o) (hf : w.frozen? (fa.add n) = false) :
   c109_2.wp Try.prog (fun e a' w' => e = .normal ∧ a'.defers = [] ∧ a'.tmps = #[.pointer (some ⟨rb, 0, none⟩), .pointer (some ⟨tb, 0, none⟩), y2, y3, y4, y5, y6, y7, y8, y9, y10, y11, y12,
        .pointer (some ⟨rp, 0, none⟩), .pointer (some ⟨rp, 0, none⟩), .pointer (some ⟨rp, 5, none⟩), .slice (some fa) len cap, .pointer (some ⟨tp, 0, none⟩), .pointer (some ⟨tp, 0, none⟩), .pointer (some ⟨tp, 1, none⟩), .int .i64 (n : Int), .pointer (some (fa.add n)), undef, undef, undef, undef, undef, undef, undef, undef] ∧ w'.heap = (w.setCell (fa.add n) (.bool true)).heap)
    ⟨#[.pointer (some ⟨rb, 0, none⟩), .pointer (some ⟨tb, 0, none⟩), y2, y3, y4, y5, y6, y7, y8, y9, y10, y11, y12, undef, undef, undef, undef, undef, undef, undef, undef, undef, undef, undef, undef, undef, undef, undef, undef, undef], []⟩ w := by
  simp only [c109_2, Try.f109]
  go_region
  exact ⟨rfl, rfl, rfl, rfl⟩

/-- What lies at a goroutine's bottom. -/
noncomputable def bot : Frame := { (default : Frame) with fn := Try.prog.funcs.size, defers := [], mode := .panicking [goexitEntry] }
/-- begin's function, its deferred call under way. -/
noncomputable def f108 (tm : Array Value) (todo : List Item) (mo : FrameMode) : Frame := { (baseD 108).at ⟨tm, []⟩ todo with mode := mo }

variable [Base]
set_option maxRecDepth 100000 in
set_option maxHeartbeats 2000000 in
/-- The thread has ended: it says so, passes the token on and leaves. -/
theorem tail109 {S E : FuncId → Bool} {Φ : Value → World → Prop} (hP : Plain Try.prog S E) {h s : Nat} {m : World} {O : Own} {Γ : Nat → Option Seat} {rb tb tp cd kd : Nat} {sc : Seat} {tm : Array Value} {todo : List Item} {mo : FrameMode} {o : Value}
    (y2 y3 y4 y5 y6 y7 y8 y9 y10 y11 y12 y13 y14 y15 y16 y17 y18 y19 y20 y21 : Value) (hmo : mo = .returning ∨ ∃ x, mo = .panicking [{ v := x, recovered := true }]) (hpos : 0 < h)
    (ht : m.cell? ⟨tb, 0, none⟩ = some (.pointer (some ⟨tp, 0, none⟩))) (h3 : m.cell? ⟨tp, 3, none⟩ = some (.chan (some cd))) (h13 : m.cell? ⟨tp, 13, none⟩ = some o) (hb : Base.b0 ≤ tp) (ho : O.o tp = some h) (hpre : O.pre tp = 4) (htb : tb ≠ tp)
    (hs : Γ s = some sc) (hsc : sc.c = cd) (hsh : s ≠ h) (hcd : m.heap[cd]? = some (.chan 0 #[] false kd kd false))
    (hn : ∀ m₁, Upto (fun a => a = ⟨tp, 13, none⟩) m m₁ → m₁.cell? ⟨tp, 13, none⟩ = some (.bool true) → ∀ g₂, sc.home g₂ →
      (∀ x v, sc.still x = some v → Base.b0 ≤ x.block ∧ (O.o x.block = some s ∨ x.off < O.pre x.block) ∧ m₁.cell? x = some v) → (∀ b n, sc.mine b = some n → O.o b = some s ∧ O.pre b = n) →
      Okk Try.prog Φ s (Go.Conc.served g₂ (.agg #[])) (m₁.setChan cd 0 #[] false (kd + 1) (kd + 1) false) O (upd Γ h none)) :
    Okk Try.prog Φ h (G ((baseD 109).at ⟨#[.pointer (some ⟨rb, 0, none⟩), .pointer (some ⟨tb, 0, none⟩), y2, y3, y4, y5, y6, y7, y8, y9, y10, y11, y12, y13, y14, y15, y16, y17, y18, y19, y20, y21, undef, undef, undef, undef, undef, undef, undef, undef], []⟩ [.code c109_3]) [f108 tm todo mo, bot]) m O Γ := by
  subst hsc
  simp only [c109_3, Try.f109]
  refine .ctl0 rfl (fun _ => Go.Conc.stepG_seq) (.ctl0 rfl (fun _ => Go.Conc.stepG_region) ?_)
  refine .val hP rfl rfl rfl (.pointer (some ⟨tp, 0, none⟩)) (fun τ => by simp [go_sem, gh_cell, ht]) ?_
  walk_nrm
  refine .val hP rfl rfl rfl (.pointer (some ⟨tp, 0, none⟩)) (fun τ => by simp [go_sem]) ?_
  walk_nrm
  refine .val hP rfl rfl rfl (.pointer (some ⟨tp, 13, none⟩)) (fun τ => by simp [go_sem]) ?_
  walk_nrm
  have hf : ∀ τ, (re (O.gh h m) τ 0).frozen? ⟨tp, 13, none⟩ = false := fun τ => gh_free hb (.inr ho) (by show O.pre tp ≤ 13; omega)
  have h13' : ∀ τ, (re (O.gh h m) τ 0).cell? ⟨tp, 13, none⟩ = some o := fun τ => by rw [re_cell?, gh_cell]; exact h13
  refine .unit hP rfl rfl rfl (R := fun g' => Upto (fun a => a = ⟨tp, 13, none⟩) m g' ∧ g'.cell? ⟨tp, 13, none⟩ = some (.bool true)) (fun τ => ⟨(re (O.gh h m) τ 0).setCell ⟨tp, 13, none⟩ (.bool true), by have h1 := hf τ; have h2 := h13' τ; simp [go_sem, h1, h2, -re_cell?, -re_frozen?], ?_, ?_⟩) ?_
  · exact (Upto.gh (O := O) (h := h)).trans (Upto.set (Upto.of_heap (m := O.gh h m) (m' := re (O.gh h m) τ 0) rfl) rfl)
  · exact World.cell?_setCell_same _ _ _ (h13' τ)
  intro m₁ ⟨hu, h13₁⟩ _
  walk_nrm
  have ne0 : (⟨tb, 0, none⟩ : Addr) ≠ ⟨tp, 13, none⟩ := fun e => by cases e
  have k1 := hu.cell _ _ ht (fun e => ne0 e)
  have k3 := hu.cell _ _ h3 (fun e => by cases e)
  refine .ctl0 rfl (fun _ => Go.Conc.stepG_region_end) (.ctl0 rfl (fun _ => Go.Conc.stepG_region) ?_)
  refine .val hP rfl rfl rfl (.pointer (some ⟨tp, 0, none⟩)) (fun τ => by simp [go_sem, gh_cell, k1]) ?_
  walk_nrm
  refine .val hP rfl rfl rfl (.pointer (some ⟨tp, 0, none⟩)) (fun τ => by simp [go_sem]) ?_
  walk_nrm
  refine .val hP rfl rfl rfl (.pointer (some ⟨tp, 3, none⟩)) (fun τ => by simp [go_sem]) ?_
  walk_nrm
  refine .val hP rfl rfl rfl (.chan (some sc.c)) (fun τ => by simp [go_sem, gh_cell, k3]) ?_
  walk_nrm
  refine .val hP rfl rfl rfl (.agg #[]) (fun τ => by simp [go_sem]) ?_
  walk_nrm
  have hh0 : (h == 0) = false := by simp; omega
  refine .send (S' := none) (nh := 5) (v := .agg #[]) (z' := .tuple #[]) rfl rfl (by decide) (fun w => by simp [go_sem, scase]) (fun w => by simp [go_sem]) hs hsh (hu.chan hcd (fun e => by cases e)) (fun T' hd => ⟨hpos, ?_⟩) (fun s' e => by cases e) (fun s' e => by cases e) (fun s' e => by cases e) (hn m₁ hu h13₁)
  rw [hd]
  walk_nrm
  refine .ctl rfl (fun _ => Go.Conc.stepG_region_end) (.ctl rfl (fun _ => Go.Conc.stepG_end) ?_)
  rcases hmo with rfl | ⟨x, rfl⟩
  · refine .ctl rfl (fun w => stepG_endDeferred (fn := Try.f109) (v := .tuple #[]) rfl rfl Try.func109 (by simp [go_sem, results, Try.f109]) (by simp [go_sem, results, Try.f109]) rfl) ?_
    refine .ctl rfl (fun w => stepG_endBottom (fn := Try.f108) (v := .tuple #[]) rfl rfl Try.func108 (by simp [go_sem, results, Try.f108]) (by simp [go_sem, results, Try.f108]) rfl) ?_
    exact .ctl rfl (fun w => stepG_bottom rfl rfl rfl) ⟨rfl, rfl⟩
  · refine .ctl rfl (fun w => stepG_endRecovered (fn := Try.f109) (v := .tuple #[]) rfl rfl Try.func109 (by simp [go_sem, results, Try.f109]) (by simp [go_sem, results, Try.f109]) rfl) ?_
    refine .ctl rfl (fun w => stepG_endBottom (fn := Try.f108) (v := .tuple #[]) (b := baseD 108) (a := ⟨tm, []⟩) (todo := todo) rfl rfl Try.func108 (by simp [go_sem, results, Try.f108]) (by simp [go_sem, results, Try.f108]) rfl) ?_
    exact .ctl rfl (fun w => stepG_bottom rfl rfl rfl) ⟨rfl, rfl⟩

/-- What is promised to whoever waits when the thread ends: memory m₁ (turned at 'ended', and at its place of 'fell' where it fell). -/
def Ending (Φ : Value → World → Prop) (h s : Nat) (sc : Seat) (O : Own) (Γ : Nat → Option Seat) (kd : Nat) (tp : Nat) (W : Addr → Prop) (m : World) (Fell : World → Prop) : Prop :=
  ∀ m₁, Upto (fun a => a = ⟨tp, 13, none⟩ ∨ W a) m m₁ → m₁.cell? ⟨tp, 13, none⟩ = some (.bool true) → Fell m₁ → ∀ g₂, sc.home g₂ →
      (∀ x v, sc.still x = some v → Base.b0 ≤ x.block ∧ (O.o x.block = some s ∨ x.off < O.pre x.block) ∧ m₁.cell? x = some v) → (∀ b n, sc.mine b = some n → O.o b = some s ∧ O.pre b = n) →
      Okk Try.prog Φ s (Go.Conc.served g₂ (.agg #[])) (m₁.setChan sc.c 0 #[] false (kd + 1) (kd + 1) false) O (upd Γ h none)

/-- What a thread leans on at its end. -/
structure EndFacts (h s : Nat) (m : World) (O : Own) (Γ : Nat → Option Seat) (rb tb tp rp n kd : Nat) (sc : Seat) : Prop where
  pos : 0 < h
  r : m.cell? ⟨rb, 0, none⟩ = some (.pointer (some ⟨rp, 0, none⟩))
  t : m.cell? ⟨tb, 0, none⟩ = some (.pointer (some ⟨tp, 0, none⟩))
  number : m.cell? ⟨tp, 1, none⟩ = some (.int .i64 (n : Int))
  stood : m.cell? ⟨tp, 3, none⟩ = some (.chan (some sc.c))
  ended : ∃ o, m.cell? ⟨tp, 13, none⟩ = some o
  b : Base.b0 ≤ tp
  o : O.o tp = some h
  pre : O.pre tp = 4
  tb : tb ≠ tp
  seat : Γ s = some sc
  ne : s ≠ h
  chan : m.heap[sc.c]? = some (.chan 0 #[] false kd kd false)

set_option maxRecDepth 100000 in
set_option maxHeartbeats 2000000 in
/-- It has returned. -/
theorem Okk.end109N {S E : FuncId → Bool} {Φ : Value → World → Prop} (hP : Plain Try.prog S E) {h s : Nat} {m : World} {O : Own} {Γ : Nat → Option Seat} {rb tb tp rp n kd : Nat} {sc : Seat} {tm : Array Value} {todo : List Item}
    (F : EndFacts h s m O Γ rb tb tp rp n kd sc) (hn : Ending Φ h s sc O Γ kd tp (fun _ => False) m (fun _ => True)) :
    Okk Try.prog Φ h (G (Frame.enter Try.prog 109 #[.pointer (some ⟨rb, 0, none⟩), .pointer (some ⟨tb, 0, none⟩)] .deferred) [f108 tm todo .returning, bot]) m O Γ := by
  rw [Go.Conc.enter_atD _ Try.func109 rfl]
  simp only [Try.ntmps109]
  refine .ctl0 rfl (fun _ => Go.Conc.stepG_seq) (.ctl0 rfl (fun _ => Go.Conc.stepG_seq) (.ctl0 rfl (fun _ => Go.Conc.stepG_region) ?_))
  refine .ctl0 rfl (fun w => stepG_recoverN rfl rfl rfl rfl (by simp [go_sem]) (by simp [go_sem]) rfl) ?_
  walk_nrm
  refine .val hP rfl rfl rfl .nilIface (fun τ => by simp [go_sem]) ?_
  walk_nrm
  refine .ctl0 rfl (fun _ => Go.Conc.stepG_region_end) (.ctl0 rfl (fun _ => Go.Conc.stepG_seq) ?_)
  refine .code hP (c := c109_1) (by simp [c109_1, Try.f109, okCode, okOp]) (Q := fun tms w' => tms = _ ∧ w'.heap = (O.gh h m).heap) (fun τ => wp_mono (c109_1_nil (re (O.gh h m) τ 0) rb tb) (fun e a' w' ⟨z1, z2, z3, z4⟩ => ⟨z1, z2, z3, z4⟩)) ?_
  rintro _ m₁ ⟨rfl, e1⟩ _
  have hu : Upto (fun _ => False) m m₁ := (Upto.gh (O := O) (h := h)).trans (.of_heap e1)
  refine .ctl0 rfl (fun _ => Go.Conc.stepG_cond (t := false) rfl) ?_
  simp only [Bool.false_eq_true, if_false]
  refine .ctl0 rfl (fun _ => Go.Conc.stepG_skip) ?_
  obtain ⟨o, ho⟩ := F.ended
  refine tail109 hP _ _ _ _ _ _ _ _ _ _ _ _ _ _ _ _ _ _ _ _ (.inl rfl) F.pos (hu.cell _ _ F.t (fun z => z)) (hu.cell _ _ F.stood (fun z => z)) (hu.cell _ _ ho (fun z => z)) F.b F.o F.pre F.tb F.seat rfl F.ne (hu.chan F.chan (fun z => z)) ?_
  intro m₂ hu2 h13
  exact hn m₂ ((hu.mono (fun _ z => z.elim)).trans (hu2.mono (fun _ z => .inl z))) h13 trivial

set_option maxRecDepth 100000 in
set_option maxHeartbeats 2000000 in
/-- It has panicked while all are stopped. -/
theorem Okk.end109S {S E : FuncId → Bool} {Φ : Value → World → Prop} (hP : Plain Try.prog S E) {h s : Nat} {m : World} {O : Own} {Γ : Nat → Option Seat} {rb tb tp rp n kd : Nat} {sc : Seat} {tm : Array Value} {todo : List Item} {ty : TypeId} {x : Value}
    (F : EndFacts h s m O Γ rb tb tp rp n kd sc) (h6 : m.cell? ⟨rp, 6, none⟩ = some (.bool true)) (hn : Ending Φ h s sc O Γ kd tp (fun _ => False) m (fun _ => True)) :
    Okk Try.prog Φ h (G (Frame.enter Try.prog 109 #[.pointer (some ⟨rb, 0, none⟩), .pointer (some ⟨tb, 0, none⟩)] .deferred) [f108 tm todo (.panicking [{ v := .iface ty x, recovered := false }]), bot]) m O Γ := by
  rw [Go.Conc.enter_atD _ Try.func109 rfl]
  simp only [Try.ntmps109]
  refine .ctl0 rfl (fun _ => Go.Conc.stepG_seq) (.ctl0 rfl (fun _ => Go.Conc.stepG_seq) (.ctl0 rfl (fun _ => Go.Conc.stepG_region) ?_))
  refine .ctl0 rfl (fun w => stepG_recoverV (v := .iface ty x) rfl rfl rfl rfl (by simp [go_sem]) (by simp [go_sem]) rfl) ?_
  show Okk Try.prog Φ h (G _ [f108 tm todo (.panicking [{ v := .iface ty x, recovered := true }]), bot]) m O Γ
  walk_nrm
  refine .val hP rfl rfl rfl (.iface ty x) (fun τ => by simp [go_sem]) ?_
  walk_nrm
  refine .ctl0 rfl (fun _ => Go.Conc.stepG_region_end) (.ctl0 rfl (fun _ => Go.Conc.stepG_seq) ?_)
  refine .code hP (c := c109_1) (by simp [c109_1, Try.f109, okCode, okOp]) (Q := fun tms w' => tms = _ ∧ w'.heap = (O.gh h m).heap) (fun τ => wp_mono (c109_1_some (re (O.gh h m) τ 0) rb tb rp ty x true (by rw [re_cell?, gh_cell]; exact F.r) (by rw [re_cell?, gh_cell]; exact h6)) (fun e a' w' ⟨z1, z2, z3, z4⟩ => ⟨z1, z2, z3, z4⟩)) ?_
  rintro _ m₁ ⟨rfl, e1⟩ _
  have hu : Upto (fun _ => False) m m₁ := (Upto.gh (O := O) (h := h)).trans (.of_heap e1)
  refine .ctl0 rfl (fun _ => Go.Conc.stepG_cond (t := false) rfl) ?_
  simp only [Bool.false_eq_true, if_false]
  refine .ctl0 rfl (fun _ => Go.Conc.stepG_skip) ?_
  obtain ⟨o, ho⟩ := F.ended
  refine tail109 hP _ _ _ _ _ _ _ _ _ _ _ _ _ _ _ _ _ _ _ _ (.inr ⟨_, rfl⟩) F.pos (hu.cell _ _ F.t (fun z => z)) (hu.cell _ _ F.stood (fun z => z)) (hu.cell _ _ ho (fun z => z)) F.b F.o F.pre F.tb F.seat rfl F.ne (hu.chan F.chan (fun z => z)) ?_
  intro m₂ hu2 h13
  exact hn m₂ ((hu.mono (fun _ z => z.elim)).trans (hu2.mono (fun _ z => .inl z))) h13 trivial

set_option maxRecDepth 100000 in
set_option maxHeartbeats 2000000 in
/-- It has fallen. -/
theorem Okk.end109F {S E : FuncId → Bool} {Φ : Value → World → Prop} (hP : Plain Try.prog S E) {h s : Nat} {m : World} {O : Own} {Γ : Nat → Option Seat} {rb tb tp rp n kd len cap : Nat} {fa : Addr} {sc : Seat} {tm : Array Value} {todo : List Item} {ty : TypeId} {x o : Value}
    (F : EndFacts h s m O Γ rb tb tp rp n kd sc) (h6 : m.cell? ⟨rp, 6, none⟩ = some (.bool false)) (h5 : m.cell? ⟨rp, 5, none⟩ = some (.slice (some fa) len cap)) (hlen : n < len) (hfc : m.cell? (fa.add n) = some o) (hff : (O.gh h m).frozen? (fa.add n) = false)
    (n1 : fa.block ≠ tb) (n2 : fa.block ≠ tp) (hn : Ending Φ h s sc O Γ kd tp (fun a => a = fa.add n) m (fun m₁ => ∀ cur e f, m.heap[fa.block]? = some (.cells cur e f) → ∃ f', m₁.heap[fa.block]? = some (.cells (if (fa.add n).spot.isSome then cur else cur.setIfInBounds (fa.add n).off (.bool true)) e f'))) :
    Okk Try.prog Φ h (G (Frame.enter Try.prog 109 #[.pointer (some ⟨rb, 0, none⟩), .pointer (some ⟨tb, 0, none⟩)] .deferred) [f108 tm todo (.panicking [{ v := .iface ty x, recovered := false }]), bot]) m O Γ := by
  rw [Go.Conc.enter_atD _ Try.func109 rfl]
  simp only [Try.ntmps109]
  refine .ctl0 rfl (fun _ => Go.Conc.stepG_seq) (.ctl0 rfl (fun _ => Go.Conc.stepG_seq) (.ctl0 rfl (fun _ => Go.Conc.stepG_region) ?_))
  refine .ctl0 rfl (fun w => stepG_recoverV (v := .iface ty x) rfl rfl rfl rfl (by simp [go_sem]) (by simp [go_sem]) rfl) ?_
  show Okk Try.prog Φ h (G _ [f108 tm todo (.panicking [{ v := .iface ty x, recovered := true }]), bot]) m O Γ
  walk_nrm
  refine .val hP rfl rfl rfl (.iface ty x) (fun τ => by simp [go_sem]) ?_
  walk_nrm
  refine .ctl0 rfl (fun _ => Go.Conc.stepG_region_end) (.ctl0 rfl (fun _ => Go.Conc.stepG_seq) ?_)
  refine .code hP (c := c109_1) (by simp [c109_1, Try.f109, okCode, okOp]) (Q := fun tms w' => tms = _ ∧ w'.heap = (O.gh h m).heap) (fun τ => wp_mono (c109_1_some (re (O.gh h m) τ 0) rb tb rp ty x false (by rw [re_cell?, gh_cell]; exact F.r) (by rw [re_cell?, gh_cell]; exact h6)) (fun e a' w' ⟨z1, z2, z3, z4⟩ => ⟨z1, z2, z3, z4⟩)) ?_
  rintro _ m₁ ⟨rfl, e1⟩ _
  have hu : Upto (fun _ => False) m m₁ := (Upto.gh (O := O) (h := h)).trans (.of_heap e1)
  refine .ctl0 rfl (fun _ => Go.Conc.stepG_cond (t := true) rfl) ?_
  simp only [if_true]
  obtain ⟨o', ho⟩ := F.ended
  have c0 : ∀ a v, m.cell? a = some v → ∀ τ, (re (O.gh h m₁) τ 0).cell? a = some v := fun a v ha τ => by rw [re_cell?, gh_cell]; exact hu.cell _ _ ha (fun z => z)
  have f0 : ∀ τ, (re (O.gh h m₁) τ 0).frozen? (fa.add n) = false := fun τ => by
    have e2 : O.gh h m₁ = O.gh h { m with tape := m₁.tape, drawn := m₁.drawn, os := m₁.os, output := m₁.output } := by
      simp only [Own.gh]
      have : Array.mapIdx (fun b o => O.obj h b o) m₁.heap = Array.mapIdx (fun b o => O.obj h b o) m.heap := by
        rw [e1]
        simp only [Own.gh, Array.mapIdx_mapIdx]
        apply Array.ext
        · simp
        · intro i hi hi'
          simp only [Array.getElem_mapIdx, Function.comp]
          cases m.heap[i]'(by simpa using hi') with
          | cells c e f =>
            by_cases hb : i < Base.b0
            · simp [Own.obj, hb]
            · simp [Own.obj, hb]
          | _ => rfl
      rw [this]
    rw [re_frozen?, e2]
    exact hff
  refine .code hP (c := c109_2) (by simp [c109_2, Try.f109, okCode, okOp]) (Q := fun tms w' => tms = _ ∧ Upto (fun a => a = fa.add n) m w' ∧ (∀ cur e f, m.heap[fa.block]? = some (.cells cur e f) → ∃ f', w'.heap[fa.block]? = some (.cells (if (fa.add n).spot.isSome then cur else cur.setIfInBounds (fa.add n).off (.bool true)) e f')))
    (fun τ => wp_mono (c109_2_wp (re (O.gh h m₁) τ 0) rb tb rp tp fa len cap n _ _ _ _ _ _ _ _ _ _ _ o (c0 _ _ F.r τ) (c0 _ _ F.t τ) (c0 _ _ h5 τ) (c0 _ _ F.number τ) hlen (c0 _ _ hfc τ) (f0 τ)) (fun e a' w' ⟨z1, z2, z3, z4⟩ => ⟨z1, z2, z3, ?_, ?_⟩)) ?_
  · refine Upto.heap ?_ z4
    exact Upto.set ((hu.mono (fun _ z => z.elim)).trans ((Upto.gh (O := O) (h := h)).trans (Upto.of_heap rfl))) rfl
  · intro cur e f hb
    obtain ⟨f1, h1⟩ := hu.row _ _ _ _ hb (fun _ z => z)
    have hrow : ∃ f2, (re (O.gh h m₁) τ 0).heap[fa.block]? = some (.cells cur e f2) := by
      obtain ⟨f2, h2⟩ := (Upto.gh (W := fun _ => False) (O := O) (h := h)).row _ _ _ _ h1 (fun _ z => z)
      exact ⟨f2, h2⟩
    obtain ⟨f2, h2⟩ := hrow
    have nb : (fa.add n).block = fa.block := by unfold Addr.add; split <;> rfl
    refine ⟨f2, ?_⟩
    rw [z4, setCell_get, if_pos nb.symm, h2]; rfl
  rintro _ m₂ ⟨rfl, hu2, hfl⟩ _
  have nb : (fa.add n).block = fa.block := by unfold Addr.add; split <;> rfl
  have q1 : (⟨tb, 0, none⟩ : Addr) ≠ fa.add n := fun e => n1 (by rw [← nb, ← e])
  have q2 : ∀ i, (⟨tp, i, none⟩ : Addr) ≠ fa.add n := fun i e => n2 (by rw [← nb, ← e])
  refine tail109 hP _ _ _ _ _ _ _ _ _ _ _ _ _ _ _ _ _ _ _ _ (.inr ⟨_, rfl⟩) F.pos (hu2.cell _ _ F.t q1) (hu2.cell _ _ F.stood (q2 3)) (hu2.cell _ _ ho (q2 13)) F.b F.o F.pre F.tb F.seat rfl F.ne (hu2.chan F.chan ?_) ?_
  · intro e
    obtain ⟨c, e', f, hc, _⟩ := cells_of_cell hfc
    rw [← e] at hc
    have := F.chan
    simp only at hc
    rw [this] at hc; cases hc
  · intro m₃ hu3 h13
    exact hn m₃ ((hu2.mono (fun _ z => .inr z)).trans (hu3.mono (fun _ z => .inl z))) h13 (fun cur e f hb => by
      obtain ⟨f1, h1⟩ := hfl cur e f hb
      exact hu3.row _ _ _ _ h1 (fun i z => n2 (congrArg Addr.block z)))
end Go.Proofs.Ytkbfbphbdljaaaa

/- The birth of a thread and its first step. Every premise stands in the statements. -/
set_option linter.unusedVariables false
set_option linter.unusedSimpArgs false
namespace Go.Proofs.Ytkbfbphbdljaaaa
open Go.Tre Go.RowKit
open Go.Conc (G base baseD crowd rcase scase)
open Go.ConcN (upd)
variable [Base]

omit [Base] in
theorem callFunc_enter {P : Program} {f : FuncId} {fn : Func} {c : Code} (hf : P.funcs[f]? = some fn) (hname : (fn.name == "runtime.NumGoroutine") = false) (hb : fn.body = some c) (args : Array Value) (w : World) :
    (callFunc f args).run P w = .ok (.enter f args) w ∧ (callFunc f args).events P w #[] = #[] := by
  have h1 : ¬ fn.name = "runtime.NumGoroutine" := by simpa using hname
  constructor
  · unfold callFunc; simp [go_sem, hf, h1, hb]
  · unfold callFunc; simp [go_sem, hf, h1, hb]
omit [Base] in
theorem neq_nilFunc (w : World) : (binOp .neq 35 .nilFunc .nilFunc).run Try.prog w = .ok (.bool false) w := by
  obtain ⟨n, hn⟩ : ∃ n, Op.maxDepth = n + 1 := ⟨Op.maxDepth - 1, by decide⟩
  simp [binOp, Op.equal, hn, Op.equalIn, go_sem]
omit [Base] in
theorem neq_func (f : Fn) (a c : Array Value) (w : World) : (binOp .neq 35 (.func f a c) .nilFunc).run Try.prog w = .ok (.bool true) w := by
  obtain ⟨n, hn⟩ : ∃ n, Op.maxDepth = n + 1 := ⟨Op.maxDepth - 1, by decide⟩
  simp [binOp, Op.equal, hn, Op.equalIn, go_sem]
/-- begin's function as a go statement makes it. -/
def d108 (rb tb fb : Nat) : Deferred := { target := .fn (.func 108) #[.pointer (some ⟨rb, 0, none⟩), .pointer (some ⟨tb, 0, none⟩), .pointer (some ⟨fb, 0, none⟩)], args := #[] }
def d109 (rb tb : Nat) : Deferred := { target := .fn (.func 109) #[.pointer (some ⟨rb, 0, none⟩), .pointer (some ⟨tb, 0, none⟩)], args := #[] }
/-- begin's function while the body is under way: how it goes on. -/
structure B108 (Φ : Value → World → Prop) (rb tb : Nat) (c : Frame) : Prop where
  fin : ∀ (h : Nat) (m : World) (O : Own) (Γ : Nat → Option Seat) (v : Value), (∀ tm todo, Okk Try.prog Φ h (G (Frame.enter Try.prog 109 #[.pointer (some ⟨rb, 0, none⟩), .pointer (some ⟨tb, 0, none⟩)] .deferred) [f108 tm todo .returning, bot]) m O Γ) → Okk Try.prog Φ h (G (c.finish v) [bot]) m O Γ
  raise : ∀ (h : Nat) (m : World) (O : Own) (Γ : Nat → Option Seat) (x : PanicEntry), (∀ tm todo, Okk Try.prog Φ h (G (Frame.enter Try.prog 109 #[.pointer (some ⟨rb, 0, none⟩), .pointer (some ⟨tb, 0, none⟩)] .deferred) [f108 tm todo (.panicking [x]), bot]) m O Γ) → Okk Try.prog Φ h (G (c.raise [x]) [bot]) m O Γ
  call : Callable c
/-- The deferred call begins. -/
theorem go109 {Φ : Value → World → Prop} {h : Nat} {m : World} {O : Own} {Γ : Nat → Option Seat} {rb tb : Nat} {tm : Array Value} {todo : List Item} {mo : FrameMode} (hm : mo ≠ .run)
    (hn : Okk Try.prog Φ h (G (Frame.enter Try.prog 109 #[.pointer (some ⟨rb, 0, none⟩), .pointer (some ⟨tb, 0, none⟩)] .deferred) [f108 tm todo mo, bot]) m O Γ) :
    Okk Try.prog Φ h (G { (baseD 108).at ⟨tm, [d109 rb tb]⟩ todo with mode := mo } [bot]) m O Γ :=
  .ctl0 rfl (fun w => stepG_unwind (fr := { (baseD 108).at ⟨tm, [d109 rb tb]⟩ todo with mode := mo }) (cs := [bot]) (d := d109 rb tb) (ds := []) (f := 109) (args := #[.pointer (some ⟨rb, 0, none⟩), .pointer (some ⟨tb, 0, none⟩)]) hm rfl rfl (callFunc_enter Try.func109 rfl rfl _ w).1 (callFunc_enter Try.func109 rfl rfl _ w).2) hn
/-- What one who has just been born does when it is let go. -/
def Starts (Φ : Value → World → Prop) (rb tb fb tp : Nat) (fv : Value) (R : Goroutine) : Prop :=
  ∀ (h : Nat) (m : World) (O : Own) (Γ : Nat → Option Seat) (v : Value), m.cell? ⟨tb, 0, none⟩ = some (.pointer (some ⟨tp, 0, none⟩)) → m.cell? ⟨fb, 0, none⟩ = some fv →
    (fv = .nilFunc → ∀ tm todo, Okk Try.prog Φ h (G (Frame.enter Try.prog 109 #[.pointer (some ⟨rb, 0, none⟩), .pointer (some ⟨tb, 0, none⟩)] .deferred) [f108 tm todo .returning, bot]) m O Γ) →
    (∀ (f : FuncId) (fn : Func) (c : Code) (caps : Array Value), fv = .func (.func f) #[] caps → Try.prog.funcs[f]? = some fn → (fn.name == "runtime.NumGoroutine") = false → fn.body = some c →
      ∀ cf, B108 Φ rb tb cf → Okk Try.prog Φ h (G (Frame.enter Try.prog f (#[.pointer (some ⟨tp, 0, none⟩)] ++ caps) .normal) [cf, bot]) m O Γ) →
    (fv = .nilFunc ∨ ∃ f fn c caps, fv = .func (.func f) #[] caps ∧ Try.prog.funcs[f]? = some fn ∧ (fn.name == "runtime.NumGoroutine") = false ∧ fn.body = some c) →
    Okk Try.prog Φ h (Go.Conc.served R v) m O Γ

set_option maxRecDepth 100000 in
set_option maxHeartbeats 2000000 in
theorem born_way {S E : FuncId → Bool} (hP : Plain Try.prog S E) (Φ : Value → World → Prop) {rb tb fb tp cw : Nat} {fv : Value} (X : Addr → Option Value) (mine : Nat → Option Nat) (ht : X ⟨tb, 0, none⟩ = some (.pointer (some ⟨tp, 0, none⟩))) (hw : X ⟨tp, 2, none⟩ = some (.chan (some cw))) :
    ∃ R, Go.Tre.Way Try.prog false { c := cw, z := .agg #[], home := fun g => g = R, still := X, mine := mine } 12 (Go.Conc.born Try.prog (d108 rb tb fb)) ∧ Starts Φ rb tb fb tp fv R := by
  apply Exists.intro
  constructor
  · refine Go.Tre.Way.ctl (n := 11) (g' := G (Frame.enter Try.prog 108 #[.pointer (some ⟨rb, 0, none⟩), .pointer (some ⟨tb, 0, none⟩), .pointer (some ⟨fb, 0, none⟩)] .deferred) [bot]) rfl (fun w => ?_) ?_
    · exact stepG_unwind (fr := { (default : Frame) with fn := Try.prog.funcs.size, defers := [d108 rb tb fb], mode := .panicking [goexitEntry] }) (cs := []) (d := d108 rb tb fb) (ds := []) (f := 108) (args := #[.pointer (some ⟨rb, 0, none⟩), .pointer (some ⟨tb, 0, none⟩), .pointer (some ⟨fb, 0, none⟩)]) (by simp) rfl rfl (callFunc_enter Try.func108 rfl rfl _ w).1 (callFunc_enter Try.func108 rfl rfl _ w).2
    rw [Go.Conc.enter_atD _ Try.func108 rfl]
    simp only [Try.ntmps108]
    refine .seq (.region ?_)
    refine .val rfl rfl (.func (.func 109) #[] #[.pointer (some ⟨rb, 0, none⟩), .pointer (some ⟨tb, 0, none⟩)]) (fun w _ => by simp [go_sem]) (fun w _ => by simp [go_sem]) ?_
    walk_nrm
    refine .ctl rfl (fun w => stepG_deferV (d := d109 rb tb) (by decide) rfl rfl (by simp [go_sem, d109]) (by simp [go_sem, d109])) ?_
    walk_nrm
    refine .regionEnd (.seq (.region ?_))
    refine .val rfl rfl (.pointer (some ⟨tp, 0, none⟩)) (fun w hr => by have := hr _ _ ht; simp [go_sem, this]) (fun w hr e he => by have := hr _ _ ht; simp [go_sem, this] at he; subst he; exact ⟨_, _, rfl, ht⟩) ?_
    walk_nrm
    refine .val rfl rfl (.pointer (some ⟨tp, 0, none⟩)) (fun w _ => by simp [go_sem]) (fun w _ => by simp [go_sem]) ?_
    walk_nrm
    refine .val rfl rfl (.pointer (some ⟨tp, 2, none⟩)) (fun w _ => by simp [go_sem]) (fun w _ => by simp [go_sem]) ?_
    walk_nrm
    refine .val rfl rfl (.chan (some cw)) (fun w hr => by have := hr _ _ hw; simp [go_sem, this]) (fun w hr e he => by have := hr _ _ hw; simp [go_sem, this] at he; subst he; exact ⟨_, _, rfl, hw⟩) ?_
    walk_nrm
    exact .recv rfl rfl (by decide) (fun w => by simp [go_sem, rcase]) (fun w => by simp [go_sem]) rfl
  · intro h m O Γ v mt mf hnil hfun hor
    rw [Go.Conc.served_fr, Frame.finish_at]
    walk_nrm
    refine .ctl0 rfl (fun _ => Go.Conc.stepG_region_end) (.ctl0 rfl (fun _ => Go.Conc.stepG_seq) (.ctl0 rfl (fun _ => Go.Conc.stepG_region) ?_))
    refine .val hP rfl rfl rfl fv (fun τ => ?_) ?_
    · rcases hor with rfl | ⟨f, fn, c, caps, rfl, _⟩ <;> simp [go_sem, gh_cell, mf]
    walk_nrm
    rcases hor with rfl | ⟨f, fn, c, caps, rfl, hf, hname, hb⟩
    · refine .val hP rfl rfl rfl (.bool false) (fun τ => by simp [go_sem, neq_nilFunc, neq_func]) ?_
      walk_nrm
      refine .ctl0 rfl (fun _ => Go.Conc.stepG_region_end) (.ctl0 rfl (fun _ => Go.Conc.stepG_cond (t := false) rfl) ?_)
      simp only [Bool.false_eq_true, if_false]
      refine .ctl0 rfl (fun _ => Go.Conc.stepG_skip) (.ctl0 rfl (fun _ => Go.Conc.stepG_end) ?_)
      exact go109 (by simp) (hnil rfl _ _)
    · refine .val hP rfl rfl rfl (.bool true) (fun τ => by simp [go_sem, neq_nilFunc, neq_func]) ?_
      walk_nrm
      refine .ctl0 rfl (fun _ => Go.Conc.stepG_region_end) (.ctl0 rfl (fun _ => Go.Conc.stepG_cond (t := true) rfl) ?_)
      simp only [if_true]
      refine .ctl0 rfl (fun _ => Go.Conc.stepG_region) ?_
      refine .val hP rfl rfl rfl (.func (.func f) #[] caps) (fun τ => by simp [go_sem, gh_cell, mf]) ?_
      walk_nrm
      refine .val hP rfl rfl rfl (.pointer (some ⟨tp, 0, none⟩)) (fun τ => by simp [go_sem, gh_cell, mt]) ?_
      walk_nrm
      refine .enter (f := f) (args := #[.pointer (some ⟨tp, 0, none⟩)] ++ caps) rfl rfl (fun w => ?_) (fun w => ?_) ?_
      · have := (callFunc_enter hf hname hb (#[.pointer (some ⟨tp, 0, none⟩)] ++ caps) w).1
        simp [go_sem, this]
      · have := (callFunc_enter hf hname hb (#[.pointer (some ⟨tp, 0, none⟩)] ++ caps) w).2
        simp [go_sem, this]
      refine hfun f fn c caps rfl hf hname hb _ ⟨fun h m O Γ v hk => ?_, fun h m O Γ x hk => go109 (by simp) (hk _ _), Callable.mk rfl⟩
      rw [Frame.finish_at]
      refine .ctl0 rfl (fun _ => Go.Conc.stepG_region_end) (.ctl0 rfl (fun _ => Go.Conc.stepG_end) ?_)
      exact go109 (by simp) (hk _ _)
end Go.Proofs.Ytkbfbphbdljaaaa
