/- Texts of one proof, joined: each says what it proves. Every premise stands in the statements. -/
import GoSem.Step
import GoSem.Claims
import Derived.Laws.Sem
import Derived.Conc.Events
/- Cov: a run of a Sem in a ghost world (some cells more are frozen; any tape) covers its run in the true world: same answer, same turning of memory, no write of a cell that the ghost has frozen. No program text; every premise stands in the statements. -/
set_option linter.unusedSimpArgs false
set_option linter.unusedVariables false
namespace Go.Tre

/-- How many blocks of memory there were at the start: those behind them are new. -/
class Base where
  b0 : Nat
  w0 : World

/-- The world with another tape. -/
def re (w : World) (τ : Tape) (d : Nat) : World := { w with tape := τ, drawn := d }
@[simp] theorem re_heap (w : World) (τ : Tape) (d : Nat) : (re w τ d).heap = w.heap := rfl
@[simp] theorem re_tape (w : World) (τ : Tape) (d : Nat) : (re w τ d).tape = τ := rfl
@[simp] theorem re_drawn (w : World) (τ : Tape) (d : Nat) : (re w τ d).drawn = d := rfl
@[simp] theorem re_os (w : World) (τ : Tape) (d : Nat) : (re w τ d).os = w.os := rfl
@[simp] theorem re_output (w : World) (τ : Tape) (d : Nat) : (re w τ d).output = w.output := rfl
@[simp] theorem re_re (w : World) (τ τ' : Tape) (d d' : Nat) : re (re w τ d) τ' d' = re w τ' d' := rfl
@[simp] theorem re_self (w : World) : re w w.tape w.drawn = w := rfl
@[simp] theorem re_cell? (w : World) (τ : Tape) (d : Nat) (a : Addr) : (re w τ d).cell? a = w.cell? a := rfl
@[simp] theorem re_frozen? (w : World) (τ : Tape) (d : Nat) (a : Addr) : (re w τ d).frozen? a = w.frozen? a := rfl
@[simp] theorem re_shape? (w : World) (τ : Tape) (d : Nat) (r : Nat) : (re w τ d).shape? r = w.shape? r := rfl

def reR {α : Type} (r : Result α) (τ : Tape) (d : Nat) : Result α := match r with
  | .ok x w => .ok x (re w τ d)
  | .halt h w => .halt h (re w τ d)

/-- From place d on the tape answers these, whatever is asked. -/
def Feeds (τ : Tape) (d : Nat) (aq : List Nat) : Prop := ∀ (i : Nat) (h : i < aq.length) (q : Question), τ (d + i) q = aq[i]
theorem Feeds.nil (τ : Tape) (d : Nat) : Feeds τ d [] := fun i h => by simp at h
theorem Feeds.left {τ : Tape} {d : Nat} {aq bs : List Nat} (h : Feeds τ d (aq ++ bs)) : Feeds τ d aq := fun i hi q => by
  rw [h i (by simp; omega) q, List.getElem_append_left hi]
theorem Feeds.right {τ : Tape} {d : Nat} {aq bs : List Nat} (h : Feeds τ d (aq ++ bs)) : Feeds τ (d + aq.length) bs := fun i hi q => by
  have := h (aq.length + i) (by simp; omega) q
  rw [← Nat.add_assoc] at this
  rw [this, List.getElem_append_right (by omega)]
  simp

/-- One object and its ghost: the same, but that more cells of a row may be frozen. -/
inductive OSim : Obj → Obj → Prop
  | same (o : Obj) : OSim o o
  | cells (c : Array Value) (e : TypeId) (f f' : Nat × Nat) (h : ∀ i, f.1 ≤ i → i < f.2 → f'.1 ≤ i ∧ i < f'.2) : OSim (.cells c e f) (.cells c e f')

/-- What a new object is: none of its cells is frozen. -/
def OFresh : Obj → Prop
  | .cells _ _ f => f = (0, 0)
  | _ => True
theorem OFresh.cells {c : Array Value} {e : TypeId} {f : Nat × Nat} (h : OFresh (.cells c e f)) : f = (0, 0) := h
section
variable [Base]
/-- The true world and its ghost. -/
structure Sim (w g : World) : Prop where
  size : g.heap.size = w.heap.size
  obj : ∀ (b : Nat) (o : Obj), w.heap[b]? = some o → ∃ o', g.heap[b]? = some o' ∧ OSim o o'
  os : g.os = w.os
  output : g.output = w.output
  fresh : ∀ (b : Nat) (c : Array Value) (e : TypeId) (f : Nat × Nat), Base.b0 ≤ b → w.heap[b]? = some (.cells c e f) → f = (0, 0)
  old : ∀ (b : Nat) (c c' : Array Value) (e e' : TypeId) (f f' : Nat × Nat), b < Base.b0 → w.heap[b]? = some (.cells c e f) → g.heap[b]? = some (.cells c' e' f') → f' = f

theorem Sim.refl (w : World) (h : w.heap.size ≤ Base.b0) : Sim w w := ⟨rfl, fun _ o h => ⟨o, h, .same o⟩, rfl, rfl, fun b c e f hb hc => by
  have := (Array.getElem?_eq_some_iff.1 hc).1
  omega, fun b c c' e e' f f' _ h1 h2 => by rw [h1] at h2; cases h2; rfl⟩
theorem Sim.re {w g : World} (h : Sim w g) (τ τ' : Tape) (d d' : Nat) : Sim (Tre.re w τ d) (Tre.re g τ' d') := ⟨h.size, h.obj, h.os, h.output, h.fresh, h.old⟩
theorem Sim.left {w g : World} (h : Sim w g) (τ : Tape) (d : Nat) : Sim (Tre.re w τ d) g := ⟨h.size, h.obj, h.os, h.output, h.fresh, h.old⟩
theorem Sim.right {w g : World} (h : Sim w g) (τ : Tape) (d : Nat) : Sim w (Tre.re g τ d) := ⟨h.size, h.obj, h.os, h.output, h.fresh, h.old⟩

theorem Sim.none {w g : World} (h : Sim w g) {b : Nat} : w.heap[b]? = none ↔ g.heap[b]? = none := by
  simp [Array.getElem?_eq_none_iff, h.size]
theorem Sim.back {w g : World} (h : Sim w g) {b : Nat} {o' : Obj} (hg : g.heap[b]? = some o') : ∃ o, w.heap[b]? = some o ∧ OSim o o' := by
  cases e : w.heap[b]? with
  | none => rw [(h.none).1 e] at hg; cases hg
  | some o =>
    obtain ⟨o₁, h₁, h₂⟩ := h.obj b o e
    rw [hg] at h₁; cases h₁
    exact ⟨o, rfl, h₂⟩
theorem Sim.cell? {w g : World} (h : Sim w g) (a : Addr) : g.cell? a = w.cell? a := by
  unfold World.cell?
  cases e : w.heap[a.block]? with
  | none => rw [(h.none).1 e]
  | some o =>
    obtain ⟨o', h₁, h₂⟩ := h.obj _ o e
    rw [h₁]
    cases h₂ <;> rfl
theorem Sim.shape? {w g : World} (h : Sim w g) (r : Nat) : g.shape? r = w.shape? r := by
  unfold World.shape?
  cases e : w.heap[r]? with
  | none => rw [(h.none).1 e]
  | some o =>
    obtain ⟨o', h₁, h₂⟩ := h.obj _ o e
    rw [h₁]
    cases h₂ <;> rfl
theorem Sim.frozen {w g : World} (h : Sim w g) {a : Addr} (hf : w.frozen? a = true) : g.frozen? a = true := by
  unfold World.frozen? at hf ⊢
  cases e : w.heap[a.block]? with
  | none => rw [e] at hf; cases hf
  | some o =>
    obtain ⟨o', h₁, h₂⟩ := h.obj _ o e
    rw [h₁]; rw [e] at hf
    cases h₂ with
    | same => exact hf
    | cells c e f f' hh =>
      simp only [Bool.and_eq_true, decide_eq_true_eq] at hf ⊢
      exact hh _ hf.1 hf.2
theorem Sim.unfrozen {w g : World} (h : Sim w g) {a : Addr} (hf : g.frozen? a = false) : w.frozen? a = false := by
  cases e : w.frozen? a with
  | false => rfl
  | true => rw [h.frozen e] at hf; cases hf
/-- What is no row of cells is the same. -/
theorem Sim.other {w g : World} (h : Sim w g) {b : Nat} {o : Obj} (hg : g.heap[b]? = some o) (hn : ∀ c e f, o ≠ .cells c e f) : w.heap[b]? = some o := by
  obtain ⟨o₁, h₁, h₂⟩ := h.back hg
  cases h₂ with
  | same => exact h₁
  | cells c e f f' _ => exact absurd rfl (hn _ _ _)

theorem Sim.alloc {w g : World} (h : Sim w g) (o : Obj) (ho : OFresh o) : Sim { w with heap := w.heap.push o } { g with heap := g.heap.push o } := by
  refine ⟨by simp [h.size], fun b x hx => ?_, h.os, h.output, fun b c e f hb hc => by
    simp only [Array.getElem?_push] at hc
    split at hc
    · cases hc; exact ho
    · exact h.fresh b c e f hb hc, fun b c c' e e' f f' hb h1 h2 => by
    simp only [Array.getElem?_push, h.size] at h1 h2
    split at h1
    · rename_i hh; rw [if_pos hh] at h2; rw [h1] at h2; cases h2; rfl
    · rename_i hh; rw [if_neg hh] at h2; exact h.old b c c' e e' f f' hb h1 h2⟩
  simp only [Array.getElem?_push] at hx ⊢
  rw [h.size]
  split at hx
  · cases hx; exact ⟨o, by simp [*], .same o⟩
  · rename_i hne
    obtain ⟨o', h₁, h₂⟩ := h.obj b x hx
    exact ⟨o', by simp [hne, h₁], h₂⟩

omit [Base] in
theorem setCell_get (w : World) (a : Addr) (v : Value) (b : Nat) : (w.setCell a v).heap[b]? = if b = a.block then (w.heap[b]?).map (fun | .cells c e f => .cells (if a.spot.isSome then c else c.setIfInBounds a.off v) e f | o => o) else w.heap[b]? := by
  simp only [World.setCell, Array.getElem?_modify]
  by_cases e : a.block = b
  · subst e; simp; rfl
  · simp [e, Ne.symm e]
theorem Sim.setCell {w g : World} (h : Sim w g) (a : Addr) (v : Value) : Sim (w.setCell a v) (g.setCell a v) := by
  refine ⟨by simp [World.setCell, h.size], fun b x hx => ?_, h.os, h.output, fun b c e f hb hc => by
    rw [setCell_get] at hc
    split at hc
    · cases eo : w.heap[b]? with
      | none => rw [eo] at hc; cases hc
      | some o =>
        rw [eo] at hc
        cases o with
        | cells c' e' f' =>
          simp only [Option.map_some, Option.some.injEq, Obj.cells.injEq] at hc
          obtain ⟨_, _, rfl⟩ := hc
          exact h.fresh b _ _ _ hb eo
        | _ => simp at hc
    · exact h.fresh b c e f hb hc, fun b c c' e e' f f' hb h1 h2 => by
    rw [setCell_get] at h1 h2
    split at h1
    · rename_i hh
      rw [if_pos hh] at h2
      cases eo : w.heap[b]? with
      | none => rw [eo] at h1; cases h1
      | some o =>
        cases eo' : g.heap[b]? with
        | none => rw [eo'] at h2; cases h2
        | some o' =>
          rw [eo] at h1; rw [eo'] at h2
          cases o with
          | cells c₁ e₁ f₁ =>
            cases o' with
            | cells c₂ e₂ f₂ =>
              simp only [Option.map_some, Option.some.injEq, Obj.cells.injEq] at h1 h2
              obtain ⟨_, _, rfl⟩ := h1
              obtain ⟨_, _, rfl⟩ := h2
              exact h.old b _ _ _ _ _ _ hb eo eo'
            | _ => simp at h2
          | _ => simp at h1
    · rename_i hh; rw [if_neg hh] at h2; exact h.old b c c' e e' f f' hb h1 h2⟩
  rw [setCell_get] at hx ⊢
  split at hx
  · rename_i hb
    simp only [hb, if_true]
    subst hb
    cases e : w.heap[a.block]? with
    | none => rw [e] at hx; cases hx
    | some o =>
      rw [e] at hx
      obtain ⟨o', h₁, h₂⟩ := h.obj _ o e
      rw [h₁]
      cases hx
      cases h₂ with
      | same => exact ⟨_, rfl, .same _⟩
      | cells c e f f' hh => exact ⟨_, rfl, .cells _ _ _ _ hh⟩
  · rename_i hb
    simp only [hb, if_false]
    exact h.obj b x hx
theorem Sim.setObj {w g : World} (h : Sim w g) (r : Nat) (o : Obj) (ho : OFresh o) : Sim { w with heap := w.heap.setIfInBounds r o } { g with heap := g.heap.setIfInBounds r o } := by
  refine ⟨by simp [h.size], fun b x hx => ?_, h.os, h.output, fun b c e f hb hc => by
    simp only [Array.getElem?_setIfInBounds] at hc
    split at hc
    · split at hc
      · cases hc; exact ho
      · cases hc
    · exact h.fresh b c e f hb hc, fun b c c' e e' f f' hb h1 h2 => by
    simp only [Array.getElem?_setIfInBounds, h.size] at h1 h2
    split at h1
    · rename_i hh
      rw [if_pos hh] at h2
      split at h1
      · rename_i hl; rw [if_pos hl] at h2; rw [h1] at h2; cases h2; rfl
      · cases h1
    · rename_i hh; rw [if_neg hh] at h2; exact h.old b c c' e e' f f' hb h1 h2⟩
  simp only [Array.getElem?_setIfInBounds] at hx ⊢
  rw [h.size]
  split at hx
  · rename_i hb
    split at hx
    · rename_i hlt
      cases hx
      exact ⟨o, by simp [← hb, hlt], .same o⟩
    · cases hx
  · rename_i hb
    simp only [hb, if_false]
    exact h.obj b x hx

end
/-- How a ghost world grows: frozen cells stay, with what they hold; channels stay. -/
structure Grow (g g' : World) : Prop where
  frozen : ∀ a, g.frozen? a = true → g'.frozen? a = true ∧ g'.cell? a = g.cell? a
  chan : ∀ (c cap : Nat) (buf : Array Value) (cl : Bool) (s r : Nat) (t : Bool), g.heap[c]? = some (Obj.chan cap buf cl s r t) → g'.heap[c]? = some (Obj.chan cap buf cl s r t)
  size : g.heap.size ≤ g'.heap.size
  rng : g'.os = g.os ∧ g'.output = g.output ∧ ∀ (b : Nat) (c : Array Value) (e : TypeId) (f : Nat × Nat), g.heap[b]? = some (.cells c e f) → ∃ c', g'.heap[b]? = some (.cells c' e f)
theorem Grow.refl (g : World) : Grow g g := ⟨fun _ h => ⟨h, rfl⟩, fun _ _ _ _ _ _ _ h => h, Nat.le_refl _, rfl, rfl, fun _ c _ _ h => ⟨c, h⟩⟩
theorem Grow.trans {a b c : World} (h : Grow a b) (k : Grow b c) : Grow a c :=
  ⟨fun x hx => let y := h.frozen x hx; let z := k.frozen x y.1; ⟨z.1, z.2.trans y.2⟩, fun x _ _ _ _ _ _ hx => k.chan x _ _ _ _ _ _ (h.chan x _ _ _ _ _ _ hx), Nat.le_trans h.size k.size, k.rng.1.trans h.rng.1, k.rng.2.1.trans h.rng.2.1, fun b c e f hb => let ⟨c', h'⟩ := h.rng.2.2 b c e f hb; k.rng.2.2 b c' e f h'⟩
theorem Grow.re {a b : World} (h : Grow a b) (τ τ' : Tape) (d d' : Nat) : Grow (Tre.re a τ d) (Tre.re b τ' d') := ⟨h.frozen, h.chan, h.size, h.rng⟩

/-- What an access may be: no write of a frozen cell, no close, no word of deafness. -/
def GoodEv (g : World) (e : Event) : Prop := match e.loc with
  | .cell a => e.write = true → g.frozen? a = false
  | .obj _ => ¬ (e.write = true ∧ e.sync = true)
  | .mark (.extern _) => True
  | .mark .noRoom => True
  | _ => False
theorem GoodEv.back {g g' : World} (h : Grow g g') {e : Event} (he : GoodEv g' e) : GoodEv g e := by
  unfold GoodEv at he ⊢
  split
  · rename_i a ha
    rw [ha] at he
    intro hw
    cases hf : g.frozen? a with
    | false => rfl
    | true => exact absurd (he hw) (by rw [(h.frozen a hf).1]; simp)
  all_goals simp_all

theorem push_app (es : Array Event) (x : Event) : es.push x = es ++ #[x] := by simp
/-- What a run lists beyond what was listed. -/
def Lists {α : Type} (P : Program) (s : Sem α) (w g : World) : Prop := ∃ new : Array Event, (∀ es, s.events P w es = es ++ new) ∧ ∀ e ∈ new, GoodEv g e

section
variable [Base]
/-- How the true run fits the ghost's. -/
def Fits {α : Type} (P : Program) (q : Bool) (L : α → Prop) (w g : World) (s : Sem α) : Result α → Prop
  | .ok x g' => L x ∧ (q = true → g'.heap = g.heap) ∧ ∃ w', s.run P w = .ok x w' ∧ w'.tape = w.tape ∧ Sim w' g' ∧ Grow g g' ∧ Lists P s w g
  | .halt (.panic v) g' => (q = true → g'.heap = g.heap) ∧ ∃ w', s.run P w = .halt (.panic v) w' ∧ w'.tape = w.tape ∧ Sim w' g' ∧ Grow g g' ∧ Lists P s w g
  | .halt (.unsupported _) _ => True
  | .halt (.stuck _) _ => True
  | .halt _ _ => False
end
/-- How plain code may come to a stop. -/
def Dies : Halt → Prop
  | .unsupported _ | .stuck _ | .panic _ => True
  | _ => False
def Gone : Halt → Prop
  | .unsupported _ | .stuck _ => True
  | _ => False

section
variable [Base]
/-- THE GHOST's RUN OF t COVERS THE TRUE RUN OF s. -/
def Cov {α : Type} (P : Program) (q : Bool) (L : α → Prop) (t s : Sem α) : Prop :=
  ∀ w g, Sim w g → ∃ (aq : List Nat) (r : Result α), (∀ τ d, Feeds τ d aq → t.run P (re g τ d) = reR r τ (d + aq.length)) ∧ Fits P q L w g s r

section
variable {α β : Type} {P : Program} {q : Bool} {L : α → Prop} {M : β → Prop}

omit [Base] in
theorem Lists.nil {s : Sem α} {w g : World} (h : ∀ es, s.events P w es = es) : Lists P s w g := ⟨#[], fun es => by simp [h], by simp⟩

theorem Cov.pure {x : α} (h : L x) : Cov P q L (Pure.pure x) (Pure.pure x) := fun w g hs =>
  ⟨[], .ok x g, fun τ d _ => rfl, h, fun _ => rfl, w, rfl, rfl, hs, .refl g, .nil fun _ => rfl⟩
theorem Cov.pure' {x : α} (h : L x) : Cov P q L (.pure x) (.pure x) := Cov.pure h
theorem Cov.halt {h : Halt} (hd : Dies h) : Cov P q L (Sem.halt h : Sem α) (Sem.halt h) := fun w g hs =>
  ⟨[], .halt h g, fun τ d _ => rfl, by
    cases h <;> first | exact ⟨fun _ => rfl, w, rfl, rfl, hs, .refl g, .nil fun _ => rfl⟩ | exact hd⟩
/-- A ghost that dies covers whatever. -/
theorem Cov.dead {h : Halt} {s : Sem α} (hh : Gone h) : Cov P q L (Sem.halt h : Sem α) s := fun w g hs =>
  ⟨[], .halt h g, fun τ d _ => rfl, by
    cases h <;> first | exact hh | exact hh.elim⟩

theorem Cov.bind {t s : Sem α} {f k : α → Sem β} (h : Cov P q L t s) (hf : ∀ x, L x → Cov P q M (f x) (k x)) : Cov P q M (t >>= f) (s >>= k) := by
  intro w g hs
  obtain ⟨aq, r, hr, hfit⟩ := h w g hs
  cases r with
  | halt h₀ g' =>
    refine ⟨aq, .halt h₀ g', fun τ d hτ => ?_, ?_⟩
    · show (t.bind f).run P _ = _
      rw [Sem.run_bind', hr τ d hτ]; rfl
    · cases h₀ with
      | panic v =>
        obtain ⟨hq, w', h1, h2, h3, h4, new, h5, h6⟩ := hfit
        refine ⟨hq, w', ?_, h2, h3, h4, new, fun es => ?_, h6⟩
        · show (s.bind k).run P _ = _
          rw [Sem.run_bind', h1]; rfl
        · show (s.bind k).events P w es = _
          rw [Sem.events_bind', h1, ← h5]; rfl
      | _ => exact hfit
  | ok x g' =>
    obtain ⟨hL, hq, w', h1, h2, h3, h4, new, h5, h6⟩ := hfit
    obtain ⟨bs, r', hr', hfit'⟩ := hf x hL w' g' h3
    refine ⟨aq ++ bs, r', fun τ d hτ => ?_, ?_⟩
    · show (t.bind f).run P _ = _
      rw [Sem.run_bind', hr τ d hτ.left]
      show (f x).run P (re g' τ (d + aq.length)) = _
      rw [hr' τ _ hτ.right]
      simp [Nat.add_assoc]
    · have hl : ∀ es, (s >>= k).events P w es = (k x).events P w' (es ++ new) := fun es => by
        show (s.bind k).events P w es = _
        rw [Sem.events_bind', h1, h5]; rfl
      have hrun : (s >>= k).run P w = (k x).run P w' := by
        show (s.bind k).run P _ = _
        rw [Sem.run_bind', h1]; rfl
      have lists : Lists P (k x) w' g' → Lists P (s >>= k) w g := by
        rintro ⟨new', e5, e6⟩
        refine ⟨new ++ new', fun es => by rw [hl, e5, Array.append_assoc], fun e he => ?_⟩
        rcases Array.mem_append.1 he with he | he
        · exact h6 e he
        · exact (e6 e he).back h4
      cases r' with
      | ok y g'' =>
        obtain ⟨hM, hq', w'', k1, k2, k3, k4, k5⟩ := hfit'
        exact ⟨hM, fun e => (hq' e).trans (hq e), w'', hrun.trans k1, k2.trans h2, k3, h4.trans k4, lists k5⟩
      | halt h₀ g'' =>
        cases h₀ with
        | panic v =>
          obtain ⟨hq', w'', k1, k2, k3, k4, k5⟩ := hfit'
          exact ⟨fun e => (hq' e).trans (hq e), w'', hrun.trans k1, k2.trans h2, k3, h4.trans k4, lists k5⟩
        | _ => exact hfit'

theorem Cov.mono {L' : α → Prop} {t s : Sem α} (h : Cov P q L t s) (hl : ∀ x, L x → L' x) : Cov P q L' t s := by
  intro w g hs
  obtain ⟨aq, r, hr, hfit⟩ := h w g hs
  refine ⟨aq, r, hr, ?_⟩
  cases r with
  | ok x g' => exact ⟨hl x hfit.1, hfit.2⟩
  | halt h₀ g' => cases h₀ <;> exact hfit
/-- A quiet one serves where quiet is not asked. -/
theorem Cov.loud {t s : Sem α} (h : Cov P true L t s) : Cov P q L t s := by
  intro w g hs
  obtain ⟨aq, r, hr, hfit⟩ := h w g hs
  refine ⟨aq, r, hr, ?_⟩
  cases r with
  | ok x g' => exact ⟨hfit.1, fun _ => hfit.2.1 rfl, hfit.2.2⟩
  | halt h₀ g' => cases h₀ <;> first | exact ⟨fun _ => hfit.1 rfl, hfit.2⟩ | exact hfit

theorem Cov.map {t s : Sem α} {f : α → β} (h : Cov P q L t s) (hf : ∀ x, L x → M (f x)) : Cov P q M (f <$> t) (f <$> s) :=
  Cov.bind h fun x hx => Cov.pure' (hf x hx)

theorem Cov.ite {c : Prop} [Decidable c] {t t' s s' : Sem α} (h : c → Cov P q L t s) (h' : ¬ c → Cov P q L t' s') : Cov P q L (if c then t else t') (if c then s else s') := by
  by_cases hc : c
  · simp only [hc, if_true]; exact h hc
  · simp only [hc, if_false]; exact h' hc
end

/-! ### the primitives -/
section
variable {α : Type} {P : Program} {q : Bool} {L : α → Prop}

theorem Cov.shape {r : Nat} {M : Option (TypeId × Nat) → Prop} (h : ∀ x, M x) : Cov P q M (Go.shape r) (Go.shape r) := fun w g hs =>
  ⟨[], .ok (g.shape? r) g, fun τ d _ => rfl, h _, fun _ => rfl, w, by simp [Go.shape, Sem.run, hs.shape?], rfl, hs, .refl g, .nil fun es => by simp [Go.shape, Sem.events, Sem.runT]⟩
theorem Cov.program {M : Program → Prop} (h : M P) : Cov P q M Go.program Go.program := fun w g hs =>
  ⟨[], .ok P g, fun τ d _ => rfl, h, fun _ => rfl, w, rfl, rfl, hs, .refl g, .nil fun es => by simp [Go.program, Sem.events, Sem.runT]⟩
theorem Cov.choose {qu : Question} {M : Nat → Prop} (h : ∀ x, M x) : Cov P q M (Go.choose qu) (Go.choose qu) := fun w g hs => by
  by_cases hf : qu.forced = true
  · exact ⟨[], .ok 0 g, fun τ d _ => by simp [Go.choose, Sem.run, hf, reR], h _, fun _ => rfl, w, by simp [Go.choose, Sem.run, hf], rfl, hs, .refl g, .nil fun es => by simp [Go.choose, Sem.events, Sem.runT, hf]⟩
  · refine ⟨[w.tape w.drawn qu], .ok (qu.cut (w.tape w.drawn qu)) g, fun τ d hτ => ?_, h _, fun _ => rfl, { w with drawn := w.drawn + 1 }, by simp [Go.choose, Sem.run, hf], rfl, ⟨hs.size, hs.obj, hs.os, hs.output, hs.fresh, hs.old⟩, .refl g, .nil fun es => by simp [Go.choose, Sem.events, Sem.runT, hf]⟩
    have := hτ 0 (by simp) qu
    simp only [Nat.add_zero, List.getElem_cons_zero] at this
    simp [Go.choose, Sem.run, hf, this, reR, re]
theorem Cov.markExtern {f : FuncId} {M : Unit → Prop} (h : M ()) : Cov P q M (Go.mark (.extern f)) (Go.mark (.extern f)) := fun w g hs =>
  ⟨[], .ok () g, fun τ d _ => rfl, h, fun _ => rfl, w, rfl, rfl, hs, .refl g, #[⟨.mark (.extern f), false, true⟩], fun es => by simp [Go.mark, Sem.events, Sem.runT], fun e he => by simp at he; subst he; trivial⟩
theorem Cov.markRoom {M : Unit → Prop} (h : M ()) : Cov P q M (Go.mark .noRoom) (Go.mark .noRoom) := fun w g hs =>
  ⟨[], .ok () g, fun τ d _ => rfl, h, fun _ => rfl, w, rfl, rfl, hs, .refl g, #[⟨.mark .noRoom, false, true⟩], fun es => by simp [Go.mark, Sem.events, Sem.runT], fun e he => by simp at he; subst he; trivial⟩

omit [Base] in
theorem Grow.push (g : World) (o : Obj) : Grow g { g with heap := g.heap.push o } := by
  have old : ∀ (b : Nat) (x : Obj), g.heap[b]? = some x → (g.heap.push o)[b]? = some x := fun b x hx => by
    have hlt := (Array.getElem?_eq_some_iff.1 hx).1
    rw [Array.getElem?_push, if_neg (by omega)]; exact hx
  refine ⟨fun a ha => ?_, fun c _ _ _ _ _ _ hc => old c _ hc, by simp, rfl, rfl, fun b c e f hb => ⟨c, old b _ hb⟩⟩
  have : (g.heap.push o)[a.block]? = g.heap[a.block]? := by
    cases e : g.heap[a.block]? with
    | none => simp [World.frozen?, e] at ha
    | some x => exact old _ _ e
  simp only [World.frozen?, World.cell?, this] at ha ⊢
  exact ⟨ha, trivial⟩
theorem Cov.newObj {o : Obj} {M : Nat → Prop} (ho : OFresh o) (h : ∀ x, M x) : Cov P false M (Go.newObj o) (Go.newObj o) := fun w g hs =>
  ⟨[], .ok g.heap.size { g with heap := g.heap.push o }, fun τ d _ => rfl, h _, (fun e => by cases e), { w with heap := w.heap.push o }, by simp [Go.newObj, Sem.run, hs.size], rfl, hs.alloc o ho, .push g o, .nil fun es => by simp [Go.newObj, Sem.events, Sem.runT]⟩
omit [Base] in
theorem OFresh.new (c : Array Value) (e : TypeId) : OFresh (.cells c e) := rfl
omit [Base] in
theorem OFresh.map (es : Array MapEntry) (n : Nat) : OFresh (.map es n) := trivial
omit [Base] in
theorem OFresh.chan (cap : Nat) (buf : Array Value) (cl : Bool) (s r : Nat) (t : Bool) : OFresh (.chan cap buf cl s r t) := trivial
theorem Cov.newCells {c : Array Value} {e : TypeId} {M : Nat → Prop} (h : ∀ x, M x) : Cov P false M (Go.newObj (.cells c e)) (Go.newObj (.cells c e)) := Cov.newObj rfl h
theorem Cov.newNumber {a : Addr} {l : Bool} {M : Nat → Prop} (h : ∀ x, M x) : Cov P false M (Go.newObj (.number a l)) (Go.newObj (.number a l)) := Cov.newObj trivial h
theorem Cov.newMap {es : Array MapEntry} {n : Nat} {M : Nat → Prop} (h : ∀ x, M x) : Cov P false M (Go.newObj (.map es n)) (Go.newObj (.map es n)) := Cov.newObj trivial h
theorem Cov.newChan {cap : Nat} {buf : Array Value} {cl : Bool} {s r : Nat} {t : Bool} {M : Nat → Prop} (h : ∀ x, M x) : Cov P false M (Go.newObj (.chan cap buf cl s r t)) (Go.newObj (.chan cap buf cl s r t)) := Cov.newObj trivial h
theorem Cov.getObj {r : Nat} {M : Obj → Prop} (h : ∀ x, M x) : Cov P q M (Go.getObj r) (Go.getObj r) := fun w g hs => by
  cases e : g.heap[r]? with
  | none => exact ⟨[], .halt (.stuck "getObj: no such block") g, fun τ d _ => by simp [Go.getObj, Sem.run, e, reR], trivial⟩
  | some o =>
    by_cases hc : ∃ c t f, o = .cells c t f
    · obtain ⟨c, t, f, rfl⟩ := hc
      exact ⟨[], .halt (.stuck "getObj: a row of cells") g, fun τ d _ => by simp [Go.getObj, Sem.run, e, reR], trivial⟩
    · have hn : ∀ c t f, o ≠ .cells c t f := fun c t f he => hc ⟨c, t, f, he⟩
      have hw := hs.other e hn
      refine ⟨[], .ok o g, fun τ d _ => ?_, h _, fun _ => rfl, w, ?_, rfl, hs, .refl g, #[⟨.obj r, false, o.isChan⟩], fun es => ?_, fun x hx => ?_⟩
      · simp only [Go.getObj, Sem.run, re_heap, e]
        cases o <;> first | exact absurd rfl (hn _ _ _) | rfl
      · simp only [Go.getObj, Sem.run, hw]
      · show (Sem.runT P (.getObj r .pure) w es).2 = _
        simp only [Sem.runT, hw]
        cases o <;> first | exact absurd rfl (hn _ _ _) | exact push_app es _
      · simp at hx; subst hx; simp [GoodEv]

/-- A block that holds a map is given another map. -/
theorem Cov.setMap {r : Nat} {es es₀ : Array MapEntry} {cl cl₀ : Nat} {M : Unit → Prop} (h : M ()) (w g : World) (hs : Sim w g) (hm : g.heap[r]? = some (.map es₀ cl₀)) :
    ∃ (aq : List Nat) (x : Result Unit), (∀ τ d, Feeds τ d aq → (Go.setObj r (.map es cl)).run P (re g τ d) = reR x τ (d + aq.length)) ∧ Fits P false M w g (Go.setObj r (.map es cl)) x := by
  have hw := hs.other hm (by simp)
  refine ⟨[], .ok () { g with heap := g.heap.setIfInBounds r (.map es cl) }, fun τ d _ => by simp [Go.setObj, Sem.run, hm, reR, re], h, (fun e => by cases e), { w with heap := w.heap.setIfInBounds r (.map es cl) }, by simp [Go.setObj, Sem.run, hw], rfl, hs.setObj r _ trivial, ?_, #[⟨.obj r, true, false⟩], fun es' => by
      show (Sem.runT P (.setObj r (.map es cl) (.pure ())) w es').2 = _
      simp only [Sem.runT, hw]
      exact push_app es' _, fun e he => by simp at he; subst he; simp [GoodEv]⟩
  have hget : ∀ b : Nat, b ≠ r → (g.heap.setIfInBounds r (Obj.map es cl))[b]? = g.heap[b]? := fun b hb => Array.getElem?_setIfInBounds_ne (Ne.symm hb)
  refine ⟨fun a ha => ?_, fun c _ _ _ _ _ _ hc => ?_, by simp, rfl, rfl, fun b c e f hb => ⟨c, by rw [hget b (fun z => by rw [z, hm] at hb; cases hb)]; exact hb⟩⟩
  · have hne : a.block ≠ r := fun e => by simp [World.frozen?, e, hm] at ha
    simp only [World.frozen?, World.cell?, hget _ hne] at ha ⊢
    exact ⟨ha, trivial⟩
  · have hne : c ≠ r := fun e => by rw [e, hm] at hc; cases hc
    simp only [hget _ hne]; exact hc
end
end
end Go.Tre

/- Cov of the loads and stores of cells, through a view too; of the comparison of two addresses. No premise beyond those in the statements. -/
set_option linter.unusedSimpArgs false
set_option linter.unusedVariables false
namespace Go.Tre
variable [Base]

omit [Base] in
theorem thr {α : Type} (s : String) : (MonadExcept.throw s : Except String α) = .error s := rfl
theorem seen_sim {P : Program} {w g : World} (h : Sim w g) (at_ : Addr) (u : TypeId) (k : Addr) (b : Bool) :
    (∃ s, w.seen P at_ u k b = .error s ∧ g.seen P at_ u k b = .error s) ∨
    ∃ c e f f' first like cells, w.seen P at_ u k b = .ok (c, e, f, first, like, cells) ∧ g.seen P at_ u k b = .ok (c, e, f', first, like, cells) ∧
      w.heap[at_.block]? = some (.cells c e f) ∧ g.heap[at_.block]? = some (.cells c e f') ∧ (∀ i, f.1 ≤ i → i < f.2 → f'.1 ≤ i ∧ i < f'.2) := by
  have hh : (w.heap[at_.block]? = g.heap[at_.block]?) ∨ ∃ c e f f', w.heap[at_.block]? = some (.cells c e f) ∧ g.heap[at_.block]? = some (.cells c e f') ∧ ∀ i, f.1 ≤ i → i < f.2 → f'.1 ≤ i ∧ i < f'.2 := by
    cases e : w.heap[at_.block]? with
    | none => exact .inl (h.none.1 e).symm
    | some o =>
      obtain ⟨o', h₁, h₂⟩ := h.obj _ o e
      cases h₂ with
      | same => exact .inl h₁.symm
      | cells c t f f' hf => exact .inr ⟨c, t, f, f', rfl, h₁, hf⟩
  have key : ∀ (x : World), (∃ s, x.seen P at_ u k b = .error s ∧ ∀ y : World, (y.heap[at_.block]? = x.heap[at_.block]? ∨ ∃ c e f f', x.heap[at_.block]? = some (.cells c e f) ∧ y.heap[at_.block]? = some (.cells c e f')) → y.seen P at_ u k b = .error s) ∨
      ∃ c e f first like cells, x.seen P at_ u k b = .ok (c, e, f, first, like, cells) ∧ x.heap[at_.block]? = some (.cells c e f) ∧ ∀ (y : World) f', y.heap[at_.block]? = some (.cells c e f') → y.seen P at_ u k b = .ok (c, e, f', first, like, cells) := by
    intro x
    unfold World.seen
    simp only [bind, Except.bind, pure, Except.pure, throw, throwThe, thr]
    by_cases h1 : (k.spot.isSome || at_.spot.isSome) = true
    · exact .inl ⟨_, by simp only [h1, if_true]; rfl, fun y _ => by simp only [h1, if_true]⟩
    simp only [h1, if_false, Bool.false_eq_true]
    cases h2 : plainCell P P.depth u k.off with
    | none => exact .inl ⟨_, rfl, fun y _ => rfl⟩
    | some like =>
    simp only []
    cases h3 : like.bytes?.map (·.length) with
    | none => exact .inl ⟨_, rfl, fun y _ => rfl⟩
    | some size =>
    simp only []
    cases h4 : byteOfCell P P.depth u k.off with
    | none => exact .inl ⟨_, rfl, fun y _ => rfl⟩
    | some β =>
    simp only []
    by_cases hc : ∃ c e f, x.heap[at_.block]? = some (.cells c e f)
    · obtain ⟨c, e, f, hx⟩ := hc
      simp only [hx]
      by_cases h5 : P.cellsOf e = 0
      · refine .inl ⟨_, by simp only [h5, if_true]; rfl, fun y hy => ?_⟩
        rcases hy with hy | ⟨c', e', f₁, f', hy, hy'⟩
        · simp only [hy, h5, if_true]
        · cases hy; simp only [hy', h5, if_true]
      simp only [h5, if_false]
      cases h6 : byteOfCell P P.depth e (at_.off % P.cellsOf e) with
      | none =>
        refine .inl ⟨_, rfl, fun y hy => ?_⟩
        rcases hy with hy | ⟨c', e', f₁, f', hy, hy'⟩
        · simp only [hy, h5, if_false, h6]
        · cases hy; simp only [hy', h5, if_false, h6]
      | some b0 =>
      simp only []
      cases h7 : seenCells P c e (size + 1) (at_.off / P.cellsOf e * P.bytesOf e + b0 + β) (at_.off / P.cellsOf e * P.bytesOf e + b0 + β + size) with
      | error s =>
        refine .inl ⟨_, rfl, fun y hy => ?_⟩
        rcases hy with hy | ⟨c', e', f₁, f', hy, hy'⟩
        · simp only [hy, h5, if_false, h6, h7]
        · cases hy; simp only [hy', h5, if_false, h6, h7]
      | ok cells =>
      simp only []
      by_cases h8 : b = true
      · simp only [h8, if_true]
        rcases cells with _ | ⟨⟨i, s, bs⟩, _ | ⟨c2, cs⟩⟩
        · refine .inl ⟨_, rfl, fun y hy => ?_⟩
          rcases hy with hy | ⟨c', e', f₁, f', hy, hy'⟩
          · simp only [hy, h5, if_false, h6, h7]
          · cases hy; simp only [hy', h5, if_false, h6, h7]
        · simp only []
          by_cases h9 : (decide (s ≠ at_.off / P.cellsOf e * P.bytesOf e + b0 + β) || decide (bs.length ≠ size)) = true
          · refine .inl ⟨_, by simp only [h9, if_true]; rfl, fun y hy => ?_⟩
            rcases hy with hy | ⟨c', e', f₁, f', hy, hy'⟩
            · simp only [hy, h5, if_false, h6, h7, h9, if_true]
            · cases hy; simp only [hy', h5, if_false, h6, h7, h9, if_true]
          · refine .inr ⟨c, e, f, _, like, _, by simp only [h9, if_false, Bool.false_eq_true]; rfl, rfl, fun y f' hy => ?_⟩
            simp only [hy, h5, if_false, h6, h7, h9, Bool.false_eq_true]
        · refine .inl ⟨_, rfl, fun y hy => ?_⟩
          rcases hy with hy | ⟨c', e', f₁, f', hy, hy'⟩
          · simp only [hy, h5, if_false, h6, h7]
          · cases hy; simp only [hy', h5, if_false, h6, h7]
      · simp only [h8, if_false, Bool.false_eq_true]
        exact .inr ⟨c, e, f, _, like, _, rfl, rfl, fun y f' hy => by simp only [hy, h5, if_false, h6, h7]⟩
    · have hn : ∀ (y : World), (∀ c e f, y.heap[at_.block]? ≠ some (.cells c e f)) → True := fun _ _ => trivial
      cases hx : x.heap[at_.block]? with
      | none =>
        refine .inl ⟨_, rfl, fun y hy => ?_⟩
        rcases hy with hy | ⟨c', e', f₁, f', hy, hy'⟩
        · simp only [hy]
        · cases hy
      | some o =>
        cases o with
        | cells c e f => exact absurd ⟨c, e, f, hx⟩ hc
        | _ =>
          refine .inl ⟨_, rfl, fun y hy => ?_⟩
          rcases hy with hy | ⟨c', e', f₁, f', hy, hy'⟩
          · simp only [hy]
          · cases hy
  rcases key w with ⟨s, hs, hy⟩ | ⟨c, e, f, first, like, cells, hs, hw, hy⟩
  · refine .inl ⟨s, hs, hy g ?_⟩
    rcases hh with hh | ⟨c, e, f, f', h1, h2, _⟩
    · exact .inl hh.symm
    · exact .inr ⟨c, e, f, f', h1, h2⟩
  · rcases hh with hh | ⟨c', e', f₁, f', h1, h2, h3⟩
    · have : g.heap[at_.block]? = some (.cells c e f) := hh ▸ hw
      exact .inr ⟨c, e, f, f, first, like, cells, hs, hy g f this, hw, this, fun i a b => ⟨a, b⟩⟩
    · rw [hw] at h1; cases h1
      exact .inr ⟨c, e, f, f', first, like, cells, hs, hy g f' h2, hw, h2, h3⟩

theorem viewLoad_sim {P : Program} {w g : World} (h : Sim w g) (at_ : Addr) (u : TypeId) (k : Addr) (b : Bool) : g.viewLoad P at_ u k b = w.viewLoad P at_ u k b := by
  unfold World.viewLoad
  rcases seen_sim (P := P) h at_ u k b with ⟨s, h1, h2⟩ | ⟨c, e, f, f', first, like, cells, h1, h2, _⟩
  · simp only [bind, Except.bind, h1, h2]
  · simp only [bind, Except.bind, h1, h2]
theorem farLoad_sim {P : Program} {w g : World} (h : Sim w g) (a : Addr) (b : Bool) : g.farLoad P a b = w.farLoad P a b := by
  unfold World.farLoad World.noCell
  cases e : w.heap[a.block]? with
  | none => rw [h.none.1 e]
  | some o =>
    obtain ⟨o', h₁, h₂⟩ := h.obj _ o e
    rw [h₁]
    cases h₂ with
    | same => cases o <;> first | rfl | (simp only [viewLoad_sim h])
    | cells => rfl

omit [Base] in
theorem noCell_gone (w : World) (a : Addr) (s : String) : Gone (w.noCell a s) := by
  unfold World.noCell
  split <;> trivial
omit [Base] in
theorem farLoad_gone {P : Program} {w : World} {a : Addr} {b : Bool} {h : Halt} (e : w.farLoad P a b = .error h) : Gone h := by
  unfold World.farLoad at e
  split at e
  · split at e
    · cases e
    · cases e; trivial
  · cases e; exact noCell_gone _ _ _
omit [Base] in
theorem farStore_gone {P : Program} {w : World} {a : Addr} {v : Value} {b : Bool} {h : Halt} (e : w.farStore P a v b = .error h) : Gone h := by
  unfold World.farStore at e
  split at e
  · split at e
    · cases e
    · cases e; trivial
  · cases e; exact noCell_gone _ _ _

/-- The cells of a view that are written: what the fold leaves, where it does not die. -/
def Turned (f : Nat × Nat) (l : List (Nat × Nat × List UInt8)) (c c' : Array Value) : Prop :=
  c'.size = c.size ∧ (∀ x ∈ l, ¬ (f.1 ≤ x.1 ∧ x.1 < f.2)) ∧ ∀ j : Nat, f.1 ≤ j → j < f.2 → c'[j]? = c[j]?

omit [Base] in
theorem fold_turned (first : Nat) (bytes : List UInt8) (f f' : Nat × Nat) (hf : ∀ i, f.1 ≤ i → i < f.2 → f'.1 ≤ i ∧ i < f'.2)
    (step step' : Array Value → Nat × Nat × List UInt8 → Except String (Array Value))
    (hs : ∀ c x c', step' c x = .ok c' → step c x = .ok c' ∧ ¬ (f'.1 ≤ x.1 ∧ x.1 < f'.2) ∧ ∃ v, c' = c.setIfInBounds x.1 v) :
    ∀ (l : List (Nat × Nat × List UInt8)) (c c' : Array Value), l.foldlM step' c = .ok c' → l.foldlM step c = .ok c' ∧ Turned f' l c c' := by
  intro l
  induction l with
  | nil => intro c c' h; cases h; exact ⟨rfl, rfl, fun x hx => (by cases hx), fun _ _ _ => rfl⟩
  | cons x l ih =>
    intro c c' h
    simp only [List.foldlM_cons, bind, Except.bind] at h ⊢
    cases e : step' c x with
    | error s => rw [e] at h; cases h
    | ok c₁ =>
      rw [e] at h
      obtain ⟨h1, h2, v, h3⟩ := hs _ _ _ e
      rw [h1]
      obtain ⟨k1, k2, k3, k4⟩ := ih c₁ c' h
      refine ⟨k1, by rw [k2, h3]; simp, fun y hy => ?_, fun j hj hj' => ?_⟩
      · rcases List.mem_cons.1 hy with rfl | hy
        · exact h2
        · exact k3 y hy
      · rw [k4 j hj hj', h3, Array.getElem?_setIfInBounds_ne]
        intro e; subst e; exact h2 ⟨hj, hj'⟩

theorem viewStore_sim {P : Program} {w g g' : World} {l : List Addr} (h : Sim w g) {at_ : Addr} {u : TypeId} {k : Addr} {v : Value} {b : Bool} (hg : g.viewStore P at_ u k v b = .ok (g', l)) :
    ∃ w', w.viewStore P at_ u k v b = .ok (w', l) ∧ w'.tape = w.tape ∧ Sim w' g' ∧ Grow g g' ∧ ∀ x ∈ l, g.frozen? x = false := by
  unfold World.viewStore at hg ⊢
  simp only [bind, Except.bind, pure, Except.pure, throw, throwThe, thr] at hg ⊢
  by_cases h1 : (!tight P P.depth u) = true
  · simp only [h1, if_true] at hg; cases hg
  simp only [h1, if_false, Bool.false_eq_true] at hg ⊢
  rcases seen_sim (P := P) h at_ u k b with ⟨s, e1, e2⟩ | ⟨c, e, f, f', first, like, cells, e1, e2, e3, e4, e5⟩
  · simp only [e2] at hg; cases hg
  simp only [e1, e2] at hg ⊢
  cases h2 : v.bytes? with
  | none => simp only [h2] at hg; cases hg
  | some bytes =>
  simp only [h2] at hg ⊢
  by_cases h3 : (some bytes.length ≠ like.bytes?.map (·.length))
  · rw [if_pos h3] at hg; cases hg
  rw [if_neg h3] at hg ⊢
  generalize hst' : (fun (c : Array Value) (x : Nat × Nat × List UInt8) => _ : Array Value → Nat × Nat × List UInt8 → Except String (Array Value)) = step' at hg
  generalize hst : (fun (c : Array Value) (x : Nat × Nat × List UInt8) => _ : Array Value → Nat × Nat × List UInt8 → Except String (Array Value)) = step
  cases hfold : cells.foldlM step' c with
  | error s => rw [hfold] at hg; cases hg
  | ok c' =>
  rw [hfold] at hg
  obtain ⟨k1, k2, k3, k4⟩ := fold_turned first bytes f f' e5 step step' (by
    intro c x c₁ hx
    subst hst' hst
    obtain ⟨i, s, bs⟩ := x
    simp only at hx ⊢
    by_cases a1 : (decide (s < first) || decide (s + bs.length > first + bytes.length)) = true
    · rw [if_pos a1] at hx; cases hx
    rw [if_neg a1] at hx ⊢
    by_cases a2 : (decide (f'.1 ≤ i) && decide (i < f'.2)) = true
    · rw [if_pos a2] at hx; cases hx
    have a3 : ¬ (decide (f.1 ≤ i) && decide (i < f.2)) = true := by
      intro a; simp only [Bool.and_eq_true, decide_eq_true_eq] at a a2; exact a2 (e5 i a.1 a.2)
    rw [if_neg a2] at hx
    rw [if_neg a3]
    cases b1 : c[i]? with
    | none => rw [b1] at hx; cases hx
    | some old =>
    simp only [b1] at hx ⊢
    cases b2 : old.ofBytes ((bytes.drop (s - first)).take bs.length) with
    | none => rw [b2] at hx; cases hx
    | some new =>
    simp only [b2] at hx ⊢
    cases hx
    exact ⟨rfl, by simpa using a2, new, rfl⟩) cells c c' hfold
  rw [k1]
  cases hg
  have hlt : at_.block < g.heap.size := (Array.getElem?_eq_some_iff.1 e4).1
  have hltw : at_.block < w.heap.size := (Array.getElem?_eq_some_iff.1 e3).1
  refine ⟨_, rfl, rfl, ⟨by simp [h.size], fun bb o ho => ?_, h.os, h.output, fun bb c₁ e₁ f₁ hb hbc => ?_, fun bb c₁ c₂ e₁ e₂ f₁ f₂ hb h1 h2 => ?_⟩, ⟨fun a ha => ?_, fun ch cap buf cl s r t hc => ?_, by simp, rfl, rfl, fun bb c₁ e₁ f₁ hbc => ?_⟩, fun x hx => ?_⟩
  · simp only [Array.getElem?_setIfInBounds] at ho ⊢
    by_cases eb : at_.block = bb
    · subst eb
      simp only [hltw, if_true] at ho
      simp only [hlt, if_true]
      cases ho
      exact ⟨_, rfl, .cells _ _ _ _ e5⟩
    · simp only [eb, if_false] at ho ⊢
      exact h.obj bb o ho
  · simp only [Array.getElem?_setIfInBounds] at hbc
    by_cases eb : at_.block = bb
    · subst eb
      simp only [hltw, if_true, Option.some.injEq, Obj.cells.injEq] at hbc
      obtain ⟨_, _, rfl⟩ := hbc
      exact h.fresh _ _ _ _ hb e3
    · simp only [eb, if_false] at hbc
      exact h.fresh bb _ _ _ hb hbc
  · simp only [Array.getElem?_setIfInBounds] at h1 h2
    by_cases eb : at_.block = bb
    · subst eb
      simp only [hltw, if_true, Option.some.injEq, Obj.cells.injEq] at h1
      simp only [hlt, if_true, Option.some.injEq, Obj.cells.injEq] at h2
      obtain ⟨_, _, rfl⟩ := h1
      obtain ⟨_, _, rfl⟩ := h2
      exact h.old _ _ _ _ _ _ _ hb e3 e4
    · simp only [eb, if_false] at h1 h2
      exact h.old bb _ _ _ _ _ _ hb h1 h2
  · by_cases eb : a.block = at_.block
    · simp only [World.frozen?, World.cell?, eb, e4, Array.getElem?_setIfInBounds_self_of_lt hlt, Bool.and_eq_true, decide_eq_true_eq] at ha ⊢
      refine ⟨ha, ?_⟩
      split
      · rfl
      · exact k4 _ ha.1 ha.2
    · have : (g.heap.setIfInBounds at_.block (Obj.cells c' e f'))[a.block]? = g.heap[a.block]? := Array.getElem?_setIfInBounds_ne (Ne.symm eb)
      simp only [World.frozen?, World.cell?, this] at ha ⊢
      exact ⟨ha, trivial⟩
  · have : ch ≠ at_.block := fun e => by rw [e, e4] at hc; cases hc
    rw [Array.getElem?_setIfInBounds_ne (Ne.symm this)]; exact hc
  · simp only [Array.getElem?_setIfInBounds]
    by_cases eb : at_.block = bb
    · subst eb
      rw [e4] at hbc
      cases hbc
      simp only [hlt, if_true]
      exact ⟨_, rfl⟩
    · simp only [eb, if_false]
      exact ⟨_, hbc⟩
  · obtain ⟨⟨i, s, bs⟩, hy, rfl⟩ := List.mem_map.1 hx
    have := k3 _ hy
    simp only [World.frozen?, e4, Bool.and_eq_false_iff, decide_eq_false_iff_not]
    simp only at this
    by_cases q : f'.1 ≤ i
    · exact .inr fun q' => this ⟨q, q'⟩
    · exact .inl q
omit [Base] in
theorem viewStore_re {P : Program} (g : World) (at_ : Addr) (u : TypeId) (k : Addr) (v : Value) (b : Bool) (τ : Tape) (d : Nat) :
    (re g τ d).viewStore P at_ u k v b = (g.viewStore P at_ u k v b).map fun x => (re x.1 τ d, x.2) := by
  have hseen : (re g τ d).seen P at_ u k b = g.seen P at_ u k b := rfl
  unfold World.viewStore
  rw [hseen]
  simp only [bind, Except.bind, pure, Except.pure, throw, throwThe, thr]
  by_cases h1 : (!tight P P.depth u) = true
  · simp only [h1, if_true]; rfl
  simp only [h1, if_false, Bool.false_eq_true]
  cases g.seen P at_ u k b with
  | error s => rfl
  | ok x =>
  obtain ⟨c, e, f, first, like, cells⟩ := x
  simp only []
  cases v.bytes? with
  | none => rfl
  | some bytes =>
  simp only []
  by_cases h3 : (some bytes.length ≠ like.bytes?.map (·.length))
  · rw [if_pos h3, if_pos h3]; rfl
  rw [if_neg h3, if_neg h3]
  generalize (List.foldlM _ c cells : Except String (Array Value)) = r
  cases r <;> rfl

omit [Base] in
theorem Grow.setCell {g : World} {a : Addr} (hf : g.frozen? a = false) (v : Value) : Grow g (g.setCell a v) := by
  refine ⟨fun x hx => ?_, fun c cap buf cl s r t hc => ?_, by simp [World.setCell], rfl, rfl, fun b c e f hb => by
    rw [setCell_get]
    split
    · rw [hb]; exact ⟨_, rfl⟩
    · exact ⟨c, hb⟩⟩
  · by_cases eb : x.block = a.block
    · cases e : g.heap[x.block]? with
      | none => simp [World.frozen?, e] at hx
      | some o =>
        have e' : (g.setCell a v).heap[x.block]? = some ((fun | .cells c e f => .cells (if a.spot.isSome then c else c.setIfInBounds a.off v) e f | o => o) o) := by
          rw [setCell_get, if_pos eb, e]; rfl
        cases o with
        | cells c t f =>
          simp only [World.frozen?, World.cell?, e, e'] at hx ⊢
          refine ⟨hx, ?_⟩
          have hne : x.off ≠ a.off := fun eo => by
            simp only [World.frozen?, ← eb, e, ← eo] at hf
            rw [hf] at hx; cases hx
          split
          · rfl
          · split
            · rfl
            · rw [Array.getElem?_setIfInBounds_ne (Ne.symm hne)]
        | _ => simp [World.frozen?, e] at hx
    · have : (g.setCell a v).heap[x.block]? = g.heap[x.block]? := by rw [setCell_get, if_neg eb]
      simp only [World.frozen?, World.cell?, this] at hx ⊢
      exact ⟨hx, trivial⟩
  · rw [setCell_get]
    split
    · rw [hc]; rfl
    · exact hc

section
variable {P : Program} {q : Bool}
theorem Cov.load {a : Addr} {m : Mode} {M : Value → Prop} (h : ∀ x, M x) : Cov P q M (Go.load a m) (Go.load a m) := fun w g hs => by
  cases e : g.cell? a with
  | some v =>
    have ew : w.cell? a = some v := hs.cell? a ▸ e
    refine ⟨[], .ok v g, fun τ d _ => by simp [Go.load, Sem.run, e, reR], h _, fun _ => rfl, w, by simp [Go.load, Sem.run, ew], rfl, hs, .refl g, #[⟨.cell a, false, m == .atomic⟩], fun es => ?_, fun x hx => by simp at hx; subst hx; simp [GoodEv]⟩
    show (Sem.runT P (.load m a .pure) w es).2 = _
    simp only [Sem.runT, ew]
    exact push_app es _
  | none =>
    have ew : w.cell? a = none := hs.cell? a ▸ e
    have ef := farLoad_sim (P := P) hs a (m == .atomic)
    have er : ∀ τ d, (re g τ d).farLoad P a (m == .atomic) = g.farLoad P a (m == .atomic) := fun _ _ => rfl
    cases hf : g.farLoad P a (m == .atomic) with
    | error hh =>
      refine ⟨[], .halt hh g, fun τ d _ => by simp [Go.load, Sem.run, e, er, hf, reR], ?_⟩
      have hg := farLoad_gone hf
      cases hh <;> first | exact hg | exact hg.elim
    | ok x =>
      obtain ⟨v, l⟩ := x
      refine ⟨[], .ok v g, fun τ d _ => by simp [Go.load, Sem.run, e, er, hf, reR], h _, fun _ => rfl, w, by simp [Go.load, Sem.run, ew, ← ef, hf], rfl, hs, .refl g, l.toArray.map (⟨.cell ·, false, m == .atomic⟩), fun es => ?_, fun x hx => ?_⟩
      · show (Sem.runT P (.load m a .pure) w es).2 = _
        simp only [Sem.runT, ew, ← ef, hf]
      · obtain ⟨y, _, rfl⟩ := Array.mem_map.1 hx
        simp [GoodEv]

theorem farStore_sim {w g g' : World} {l : List Addr} (h : Sim w g) {a : Addr} {v : Value} {b : Bool} (hg : g.farStore P a v b = .ok (g', l)) :
    ∃ w', w.farStore P a v b = .ok (w', l) ∧ w'.tape = w.tape ∧ Sim w' g' ∧ Grow g g' ∧ ∀ x ∈ l, g.frozen? x = false := by
  unfold World.farStore at hg ⊢
  cases e : g.heap[a.block]? with
  | none => rw [e] at hg; cases hg
  | some o =>
    rw [e] at hg
    cases o with
    | view at_ u =>
      rw [h.other e (by simp)]
      simp only at hg ⊢
      cases hv : g.viewStore P at_ u a v b with
      | error s => rw [hv] at hg; cases hg
      | ok x =>
        rw [hv] at hg
        cases hg
        obtain ⟨w', h1, h2⟩ := viewStore_sim h hv
        exact ⟨w', by rw [h1], h2⟩
    | _ => cases hg
omit [Base] in
theorem farStore_re (g : World) (a : Addr) (v : Value) (b : Bool) (τ : Tape) (d : Nat) :
    (re g τ d).farStore P a v b = (g.farStore P a v b).map fun x => (re x.1 τ d, x.2) := by
  unfold World.farStore World.noCell
  simp only [re_heap, viewStore_re]
  cases g.heap[a.block]? with
  | none => rfl
  | some o =>
    cases o with
    | view at_ u =>
      simp only []
      cases g.viewStore P at_ u a v b <;> rfl
    | _ => rfl

omit [Base] in
theorem plainCellV (v : Value) : (∃ c, v = .agg c) ∨ (∃ c, v = .tuple c) ∨ ((∀ c, v ≠ .agg c) ∧ ∀ c, v ≠ .tuple c) := by
  cases v <;> simp
omit [Base] in
theorem run_store_eq {a : Addr} {m : Mode} {v : Value} (h1 : ∀ c, v ≠ .agg c) (h2 : ∀ c, v ≠ .tuple c) (w : World) : (Go.store a v m).run P w =
    match w.cell? a with
    | some _ => if w.frozen? a then .halt (.unsupported (.unsafePointer "a write to bytes that a string shares")) w else .ok () (w.setCell a v)
    | none => match w.farStore P a v (m == .atomic) with
      | .ok (w, _) => .ok () w
      | .error h => .halt h w := by
  unfold Go.store
  cases v <;> first | exact absurd rfl (h1 _) | exact absurd rfl (h2 _) | rfl
omit [Base] in
theorem events_store_eq {a : Addr} {m : Mode} {v : Value} (h1 : ∀ c, v ≠ .agg c) (h2 : ∀ c, v ≠ .tuple c) (w : World) (es : Array Event) : (Go.store a v m).events P w es =
    match w.cell? a with
    | some _ => if w.frozen? a then es else es.push ⟨.cell a, true, m == .atomic⟩
    | none => match w.farStore P a v (m == .atomic) with
      | .ok (_, touched) => es ++ touched.toArray.map (⟨.cell ·, true, m == .atomic⟩)
      | .error _ => es := by
  unfold Go.store
  show (Sem.runT P (.store m a v (.pure ())) w es).2 = _
  cases v <;> first | exact absurd rfl (h1 _) | exact absurd rfl (h2 _) | (simp only [Sem.runT]; (repeat' split) <;> simp_all)

theorem Cov.store {a : Addr} {v : Value} {m : Mode} {M : Unit → Prop} (h : M ()) : Cov P false M (Go.store a v m) (Go.store a v m) := fun w g hs => by
  rcases plainCellV v with ⟨c, rfl⟩ | ⟨c, rfl⟩ | ⟨h1, h2⟩
  · exact ⟨[], .halt (.stuck "store: not the value of one cell") g, fun τ d _ => rfl, trivial⟩
  · exact ⟨[], .halt (.stuck "store: not the value of one cell") g, fun τ d _ => rfl, trivial⟩
  cases e : g.cell? a with
  | some x =>
    have ew : w.cell? a = some x := hs.cell? a ▸ e
    cases ef : g.frozen? a with
    | true => exact ⟨[], .halt (.unsupported (.unsafePointer "a write to bytes that a string shares")) g, fun τ d _ => by rw [run_store_eq h1 h2]; simp [e, ef, reR], trivial⟩
    | false =>
      have efw := hs.unfrozen ef
      refine ⟨[], .ok () (g.setCell a v), fun τ d _ => by rw [run_store_eq h1 h2]; simp [e, ef, reR]; rfl, h, (fun e => by cases e), w.setCell a v, by rw [run_store_eq h1 h2]; simp [ew, efw], rfl, hs.setCell a v, .setCell ef v, #[⟨.cell a, true, m == .atomic⟩], fun es => ?_, fun y hy => ?_⟩
      · rw [events_store_eq h1 h2]; simp only [ew, efw, Bool.false_eq_true, if_false]; exact push_app es _
      · simp at hy; subst hy; intro _; exact ef
  | none =>
    have ew : w.cell? a = none := hs.cell? a ▸ e
    cases hf : g.farStore P a v (m == .atomic) with
    | error hh =>
      refine ⟨[], .halt hh g, fun τ d _ => by rw [run_store_eq h1 h2]; simp [e, farStore_re, hf, reR, Except.map], ?_⟩
      have hg := farStore_gone hf
      cases hh <;> first | exact hg | exact hg.elim
    | ok x =>
      obtain ⟨g', l⟩ := x
      obtain ⟨w', k1, k2, k3, k4, k5⟩ := farStore_sim hs hf
      refine ⟨[], .ok () g', fun τ d _ => by rw [run_store_eq h1 h2]; simp [e, farStore_re, hf, reR, Except.map], h, (fun e => by cases e), w', by rw [run_store_eq h1 h2]; simp [ew, k1], k2, k3, k4, l.toArray.map (⟨.cell ·, true, m == .atomic⟩), fun es => ?_, fun y hy => ?_⟩
      · rw [events_store_eq h1 h2]; simp only [ew, k1]
      · obtain ⟨z, hz, rfl⟩ := Array.mem_map.1 hy
        intro _
        exact k5 z (by simpa using hz)
end

/-! ### reading alone, and the comparison of two addresses -/
section
variable {P : Program}
/-- The ghost may say 'frozen' where the true world does not. -/
theorem Cov.frozen2 {α : Type} {q : Bool} {L : α → Prop} {a : Addr} {f k : Bool → Sem α} (h : ∀ b b', (b = true → b' = true) → Cov P q L (f b') (k b)) :
    Cov P q L (Go.frozen a >>= f) (Go.frozen a >>= k) := fun w g hs => by
  obtain ⟨aq, r, hr, hfit⟩ := h (w.frozen? a) (g.frozen? a) (fun e => hs.frozen e) w g hs
  refine ⟨aq, r, fun τ d hτ => hr τ d hτ, ?_⟩
  have hrun : (Go.frozen a >>= k).run P w = (k (w.frozen? a)).run P w := rfl
  have hl : Lists P (k (w.frozen? a)) w g → Lists P (Go.frozen a >>= k) w g := fun ⟨new, h1, h2⟩ => ⟨new, fun es => h1 es, h2⟩
  cases r with
  | ok x g' => obtain ⟨k1, k2, w', k3, k4, k5, k6, k7⟩ := hfit; exact ⟨k1, k2, w', hrun.trans k3, k4, k5, k6, hl k7⟩
  | halt h₀ g' =>
    cases h₀ with
    | panic v => obtain ⟨k2, w', k3, k4, k5, k6, k7⟩ := hfit; exact ⟨k2, w', hrun.trans k3, k4, k5, k6, hl k7⟩
    | _ => exact hfit
/-- The true run looks at a shape that the ghost does not ask. -/
theorem Cov.shapeR {α : Type} {q : Bool} {L : α → Prop} {r : Nat} {t : Sem α} {k : Option (TypeId × Nat) → Sem α} (h : ∀ x, Cov P q L t (k x)) : Cov P q L t (Go.shape r >>= k) := fun w g hs => by
  obtain ⟨aq, x, hr, hfit⟩ := h (w.shape? r) w g hs
  refine ⟨aq, x, hr, ?_⟩
  have hrun : (Go.shape r >>= k).run P w = (k (w.shape? r)).run P w := rfl
  have hl : Lists P (k (w.shape? r)) w g → Lists P (Go.shape r >>= k) w g := fun ⟨new, h1, h2⟩ => ⟨new, fun es => h1 es, h2⟩
  cases x with
  | ok x g' => obtain ⟨k1, k2, w', k3, k4, k5, k6, k7⟩ := hfit; exact ⟨k1, k2, w', hrun.trans k3, k4, k5, k6, hl k7⟩
  | halt h₀ g' =>
    cases h₀ with
    | panic v => obtain ⟨k2, w', k3, k4, k5, k6, k7⟩ := hfit; exact ⟨k2, w', hrun.trans k3, k4, k5, k6, hl k7⟩
    | _ => exact hfit
theorem Cov.frozenR {α : Type} {q : Bool} {L : α → Prop} {a : Addr} {t : Sem α} {k : Bool → Sem α} (h : ∀ x, Cov P q L t (k x)) : Cov P q L t (Go.frozen a >>= k) := fun w g hs => by
  obtain ⟨aq, x, hr, hfit⟩ := h (w.frozen? a) w g hs
  refine ⟨aq, x, hr, ?_⟩
  have hrun : (Go.frozen a >>= k).run P w = (k (w.frozen? a)).run P w := rfl
  have hl : Lists P (k (w.frozen? a)) w g → Lists P (Go.frozen a >>= k) w g := fun ⟨new, h1, h2⟩ => ⟨new, fun es => h1 es, h2⟩
  cases x with
  | ok x g' => obtain ⟨k1, k2, w', k3, k4, k5, k6, k7⟩ := hfit; exact ⟨k1, k2, w', hrun.trans k3, k4, k5, k6, hl k7⟩
  | halt h₀ g' =>
    cases h₀ with
    | panic v => obtain ⟨k2, w', k3, k4, k5, k6, k7⟩ := hfit; exact ⟨k2, w', hrun.trans k3, k4, k5, k6, hl k7⟩
    | _ => exact hfit
end
end Go.Tre
