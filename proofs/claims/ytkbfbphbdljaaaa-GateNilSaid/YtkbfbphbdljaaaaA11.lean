/- Texts of one proof, joined: each says what it proves. Every premise stands in the statements. -/
import Derived.Test.YtkbfbphbdljaaaaA10
import Derived.Conc.Own2
/- Blocks and their owners: what one who waits owns is frozen; the ghost is reckoned from the owners. Every premise stands in the statements. -/
set_option linter.unusedSimpArgs false
set_option linter.unusedVariables false
namespace Go.Tre
open Go.Conc (G base crowd rcase scase)
open Go.ConcN (upd upd_ne upd_same)

/-- Whose a block is ('none': everybody's); how many of its first cells stay for good. -/
structure Own where
  o : Nat → Option Nat
  pre : Nat → Nat
def Own.rg (O : Own) (h b n : Nat) : Nat × Nat := if O.o b = none ∨ O.o b = some h then (0, min (O.pre b) n) else (0, n)
/-- From the holder's sight another one owns no less. -/
structure Own.le (h : Nat) (O O' : Own) : Prop where
  o : ∀ b i, i ≠ h → O.o b = some i → O'.o b = some i
  pre : ∀ b, O.pre b ≤ O'.pre b
  stay : ∀ b i, i ≠ h → O.o b = some i → O'.pre b = O.pre b
theorem Own.le.refl (h : Nat) (O : Own) : Own.le h O O := ⟨fun _ _ _ e => e, fun _ => Nat.le_refl _, fun _ _ _ _ => rfl⟩
/-- The holder takes a block that is nobody's. -/
def Own.take (O : Own) (h b : Nat) : Own := { O with o := fun x => if x = b then some h else O.o x }
/-- The first cells of a block stay from now on. -/
def Own.fix (O : Own) (b n : Nat) : Own := { O with pre := fun x => if x = b then max n (O.pre x) else O.pre x }
theorem Own.le.take {O : Own} {h c b : Nat} (hb : O.o b = none ∨ O.o b = some h) : Own.le h O (O.take c b) := ⟨fun x i hi e => by
  simp only [Own.take]
  split
  · rename_i hx; subst hx
    rcases hb with hb | hb <;> rw [hb] at e <;> cases e
    exact absurd rfl hi
  · exact e, fun _ => Nat.le_refl _, fun _ _ _ _ => rfl⟩
theorem Own.le.fix {O : Own} {h b n : Nat} (hb : O.o b = none ∨ O.o b = some h) : Own.le h O (O.fix b n) := ⟨fun _ _ _ e => e, fun x => by simp only [Own.fix]; split <;> omega, fun x i hi e => by
  simp only [Own.fix]
  split
  · rename_i hx; subst hx
    rcases hb with hb | hb <;> rw [hb] at e <;> cases e
    exact absurd rfl hi
  · rfl⟩
theorem Own.le.trans {h : Nat} {a b c : Own} (x : Own.le h a b) (y : Own.le h b c) : Own.le h a c := ⟨fun b i hi e => y.o b i hi (x.o b i hi e), fun b => Nat.le_trans (x.pre b) (y.pre b), fun b i hi e => (y.stay b i hi (x.o b i hi e)).trans (x.stay b i hi e)⟩

section
variable [Base]
def Own.obj (O : Own) (h b : Nat) : Obj → Obj
  | .cells c e f => if b < Base.b0 then .cells c e f else .cells c e (O.rg h b c.size)
  | o => o
/-- The ghost. -/
def Own.gh (O : Own) (h : Nat) (m : World) : World := { m with heap := m.heap.mapIdx fun b o => O.obj h b o }

variable {O O' : Own} {h : Nat} {m : World}
theorem gh_get (b : Nat) : (O.gh h m).heap[b]? = (m.heap[b]?).map (O.obj h b) := by simp [Own.gh]
theorem gh_size : (O.gh h m).heap.size = m.heap.size := by simp [Own.gh]
theorem gh_other {b : Nat} {o : Obj} (hm : m.heap[b]? = some o) (hn : ∀ c e f, o ≠ .cells c e f) : (O.gh h m).heap[b]? = some o := by
  rw [gh_get, hm]
  cases o <;> first | rfl | exact absurd rfl (hn _ _ _)
theorem gh_cell (a : Addr) : (O.gh h m).cell? a = m.cell? a := by
  unfold World.cell?
  rw [gh_get]
  cases e : m.heap[a.block]? with
  | none => rfl
  | some o =>
    cases o with
    | cells c e f => by_cases hb : a.block < Base.b0 <;> simp [Own.obj, hb]
    | _ => rfl
theorem gh_shape (r : Nat) : (O.gh h m).shape? r = m.shape? r := by
  unfold World.shape?
  rw [gh_get]
  cases e : m.heap[r]? with
  | none => rfl
  | some o =>
    cases o with
    | cells c e f => by_cases hb : r < Base.b0 <;> simp [Own.obj, hb]
    | _ => rfl
theorem gh_chan {c cap : Nat} {buf : Array Value} {cl : Bool} {s r : Nat} {t : Bool} (hm : m.heap[c]? = some (.chan cap buf cl s r t)) : (O.gh h m).heap[c]? = some (.chan cap buf cl s r t) := gh_other hm (by simp)
theorem Sim.gh {w : World} (hs : Sim w m) : Sim w (O.gh h m) := by
  refine ⟨by rw [gh_size, hs.size], fun b o hb => ?_, hs.os, hs.output, hs.fresh, fun b c c' e e' f f' hb h1 h2 => ?_⟩
  · obtain ⟨o', h1, h2⟩ := hs.obj b o hb
    rw [gh_get, h1]
    refine ⟨_, rfl, ?_⟩
    cases h2 with
    | same =>
      cases o with
      | cells c e f =>
        simp only [Own.obj]
        split
        · exact .same _
        · rename_i hb0
          have := hs.fresh b c e f (by omega) hb
          subst this
          exact .cells _ _ _ _ (fun i _ hi => by simp at hi)
      | _ => exact .same _
    | cells c e f f' hh =>
      simp only [Own.obj]
      split
      · exact .cells _ _ _ _ hh
      · rename_i hb0
        have := hs.fresh b c e f (by omega) hb
        subst this
        exact .cells _ _ _ _ (fun i _ hi => by simp at hi)
  · rw [gh_get] at h2
    cases e2 : m.heap[b]? with
    | none => rw [e2] at h2; cases h2
    | some o =>
      rw [e2] at h2
      cases o with
      | cells c₂ e₂ f₂ =>
        simp only [Option.map_some, Own.obj, if_pos hb, Option.some.injEq, Obj.cells.injEq] at h2
        obtain ⟨_, _, rfl⟩ := h2
        exact hs.old b c _ e _ f _ hb h1 e2
      | _ => simp [Own.obj] at h2
/-- The ghost knows no more than its owners say. -/
theorem Sim.ungh {w : World} {O' : Own} {h' : Nat} (hs : Sim w (O.gh h m)) : Sim w (O'.gh h' m) := by
  have : O'.gh h' (O.gh h m) = O'.gh h' m := by
    simp only [Own.gh, Array.mapIdx_mapIdx]
    congr 1
    apply Array.ext
    · simp
    · intro i hi hi'
      simp only [Array.getElem_mapIdx, Function.comp]
      cases m.heap[i]'(by simpa using hi') with
      | cells c e f =>
        by_cases hb : i < Base.b0
        · simp [Own.obj, hb]
        · simp [Own.obj, hb]
      | _ => rfl
  rw [← this]; exact hs.gh
theorem gh_frozen {a : Addr} (hb : Base.b0 ≤ a.block) : (O.gh h m).frozen? a = true ↔ ∃ c e f, m.heap[a.block]? = some (.cells c e f) ∧ a.off < c.size ∧ ((O.o a.block ≠ none ∧ O.o a.block ≠ some h) ∨ a.off < O.pre a.block) := by
  unfold World.frozen?
  rw [gh_get]
  cases e0 : m.heap[a.block]? with
  | none => simp
  | some o =>
    cases o with
    | cells c₀ e₀ f₀ =>
      simp only [Option.map_some, Own.obj, if_neg (Nat.not_lt.2 hb), Own.rg]
      by_cases ho : O.o a.block = none ∨ O.o a.block = some h
      · simp only [if_pos ho]
        simp only [Bool.and_eq_true, decide_eq_true_eq, Nat.zero_le, true_and]
        constructor
        · intro hlt
          exact ⟨c₀, e₀, f₀, rfl, by omega, .inr (by omega)⟩
        · rintro ⟨c', e', f', hc, h1, h2 | h2⟩
          · cases hc; exact absurd ho (by simp [h2.1, h2.2])
          · cases hc; omega
      · simp only [if_neg ho]
        simp only [Bool.and_eq_true, decide_eq_true_eq, Nat.zero_le, true_and]
        simp only [not_or] at ho
        constructor
        · intro hlt
          exact ⟨c₀, e₀, f₀, rfl, hlt, .inl ho⟩
        · rintro ⟨c', e', f', hc, h1, _⟩
          cases hc; exact h1
    | _ => simp [Own.obj]
theorem gh_old {a : Addr} (hb : a.block < Base.b0) : (O.gh h m).frozen? a = m.frozen? a := by
  unfold World.frozen?
  rw [gh_get]
  cases e : m.heap[a.block]? with
  | none => rfl
  | some o =>
    cases o with
    | cells c e f => simp only [Option.map_some, Own.obj, if_pos hb]
    | _ => rfl
/-- A cell of a block that is everybody's or the holder's can be written. -/
theorem gh_free {a : Addr} (hb : Base.b0 ≤ a.block) (ho : O.o a.block = none ∨ O.o a.block = some h) (hp : O.pre a.block ≤ a.off) : (O.gh h m).frozen? a = false := by
  cases e : (O.gh h m).frozen? a with
  | false => rfl
  | true =>
    obtain ⟨_, _, _, _, _, h2 | h2⟩ := (gh_frozen hb).1 e
    · rcases ho with ho | ho <;> rw [ho] at h2 <;> simp at h2
    · omega
omit [Base] in
theorem cells_of_cell {w : World} {a : Addr} {v : Value} (h : w.cell? a = some v) : ∃ c e f, w.heap[a.block]? = some (.cells c e f) ∧ a.off < c.size := by
  unfold World.cell? at h
  split at h
  · rename_i c e f hc
    split at h
    · cases h
    · exact ⟨c, e, f, hc, (Array.getElem?_eq_some_iff.1 h).1⟩
  · cases h
omit [Base] in
theorem cell_of_cells {w : World} {b i : Nat} {c : Array Value} {e : TypeId} {f : Nat × Nat} (h : w.heap[b]? = some (.cells c e f)) (hi : i < c.size) : w.cell? ⟨b, i, none⟩ = some c[i] := by
  simp [World.cell?, h, hi]
theorem gh_grow {g' : World} (hle : Own.le h O O') (hg : Grow (O.gh h m) g') (a : Addr) (ha : (O.gh h m).frozen? a = true) : (O'.gh h g').frozen? a = true ∧ (O'.gh h g').cell? a = (O.gh h m).cell? a := by
  obtain ⟨h1, h2⟩ := hg.frozen a ha
  refine ⟨?_, by rw [gh_cell]; exact h2⟩
  by_cases hb : a.block < Base.b0
  · rw [gh_old hb]; exact h1
  · have hb' : Base.b0 ≤ a.block := Nat.le_of_not_lt hb
    obtain ⟨c, e, f, hc, hlt, hor⟩ := (gh_frozen hb').1 ha
    have ha' : (O.gh h m).frozen? ⟨a.block, a.off, none⟩ = true := ha
    have h3 := (hg.frozen _ ha').2
    rw [gh_cell, cell_of_cells hc hlt] at h3
    obtain ⟨c', e', f', hc', hlt'⟩ := cells_of_cell h3
    refine (gh_frozen hb').2 ⟨c', e', f', hc', hlt', ?_⟩
    rcases hor with ⟨z1, z2⟩ | z
    · left
      cases eo : O.o a.block with
      | none => exact absurd eo z1
      | some i =>
        have := hle.o a.block i (fun e => z2 (by rw [eo, e])) eo
        rw [this]
        exact ⟨by simp, fun e => z2 (by rw [eo]; exact e)⟩
    · right; have := hle.pre a.block; omega

/-- Every seat's still cells are its owner's, or stay for good. -/
def Wf (h : Nat) (O : Own) (Γ : Nat → Option Seat) : Prop := ∀ i s, i ≠ h → Γ i = some s → (∀ a v, s.still a = some v → Base.b0 ≤ a.block ∧ (O.o a.block = some i ∨ a.off < O.pre a.block)) ∧ ∀ b n, s.mine b = some n → O.o b = some i ∧ O.pre b = n
/-- What is not made yet is nobody's. -/
def Fresh (m : World) (O : Own) : Prop := ∀ b, m.heap.size ≤ b → O.o b = none ∧ O.pre b = 0
/-- Of what was there at the start: the outside, and which rows are shared with strings. -/
def Old (m : World) : Prop := m.os = Base.w0.os ∧ m.output = Base.w0.output ∧ ∀ (b : Nat) (c : Array Value) (e : TypeId) (f : Nat × Nat), b < Base.b0 → Base.w0.heap[b]? = some (.cells c e f) → ∃ c', m.heap[b]? = some (.cells c' e f)
theorem Old.grow {g' : World} (h₀ : Old m) (hg : Grow (O.gh h m) g') : Old g' := ⟨hg.rng.1.trans h₀.1, hg.rng.2.1.trans h₀.2.1, fun b c e f hb hc => by
  obtain ⟨c', h'⟩ := h₀.2.2 b c e f hb hc
  exact hg.rng.2.2 b c' e f (by rw [gh_get, h']; simp [Own.obj, hb])⟩
theorem Old.setChan {c cap cap' : Nat} {buf buf' : Array Value} {cl cl' : Bool} {s r s' r' : Nat} {t t' : Bool} (h₀ : Old m) (hc : m.heap[c]? = some (.chan cap buf cl s r t)) : Old (m.setChan c cap' buf' cl' s' r' t') := ⟨h₀.1, h₀.2.1, fun b x e f hb hx => by
  obtain ⟨c', h'⟩ := h₀.2.2 b x e f hb hx
  refine ⟨c', ?_⟩
  have : c ≠ b := fun e => by rw [e, h'] at hc; cases hc
  simp only [World.setChan, Array.getElem?_setIfInBounds_ne this]; exact h'⟩
/-- ████ ALL IS WELL: memory m, owners O. ████ -/
def Okk (P : Program) (Φ : Value → World → Prop) (h : Nat) (a : Goroutine) (m : World) (O : Own) (Γ : Nat → Option Seat) : Prop := Wf h O Γ → Fresh m O → Old m → Ok P Φ h a (O.gh h m) Γ

theorem Wf.le {Γ : Nat → Option Seat} (hw : Wf h O Γ) (hle : Own.le h O O') : Wf h O' Γ := fun i s hi hs => ⟨fun a v ha => by
  obtain ⟨h1, h2⟩ := (hw i s hi hs).1 a v ha
  exact ⟨h1, h2.imp (hle.o _ _ hi) fun z => Nat.lt_of_lt_of_le z (hle.pre _)⟩, fun b n hb => by
  obtain ⟨h1, h2⟩ := (hw i s hi hs).2 b n hb
  exact ⟨hle.o _ _ hi h1, (hle.stay _ _ hi h1).trans h2⟩⟩

variable {P : Program} {Φ : Value → World → Prop} {Γ : Nat → Option Seat} {a : Goroutine} {S E : FuncId → Bool}
/-- Other owners. -/
theorem Okk.fresh (hn : Fresh m O → Okk P Φ h a m O Γ) : Okk P Φ h a m O Γ := fun hw hf ho => hn hf hw hf ho
theorem Okk.old (hn : Old m → Okk P Φ h a m O Γ) : Okk P Φ h a m O Γ := fun hw hf ho => hn ho hw hf ho
theorem Okk.seats (hn : Wf h O Γ → Okk P Φ h a m O Γ) : Okk P Φ h a m O Γ := fun hw hf ho => hn hw hw hf ho
theorem Okk.own (hle : Own.le h O O') (hfr : Fresh m O → Fresh m O') (hn : Okk P Φ h a m O' Γ) : Okk P Φ h a m O Γ := fun hw hf h₀ =>
  .ghost (g' := O'.gh h m) (fun w hs => hs.ungh) (fun i s hi hs hk x v hx => by
    obtain ⟨h1, h2⟩ := hk x v hx
    have hg := gh_grow (m := m) hle (Grow.refl (O.gh h m))
    have e : O'.gh h (O.gh h m) = O'.gh h m := by
      simp only [Own.gh, Array.mapIdx_mapIdx]
      congr 1
      apply Array.ext
      · simp
      · intro i hi hi'
        simp only [Array.getElem_mapIdx, Function.comp]
        cases m.heap[i]'(by simpa using hi') with
        | cells c e f =>
          by_cases hb : i < Base.b0
          · simp [Own.obj, hb]
          · simp [Own.obj, hb]
        | _ => rfl
    rw [e] at hg
    exact ⟨(hg x h1).1, (hg x h1).2.trans h2⟩) (hn (hw.le hle) (hfr hf) h₀)
/-- A ghost that grew is memory. -/
theorem Okk.of_grow {g' : World} (hg : Grow (O.gh h m) g') (hw : Wf h O Γ) (hf : Fresh m O) (h₀ : Old m) (hn : Okk P Φ h a g' O Γ) : Ok P Φ h a g' Γ :=
  .ghost (g' := O.gh h g') (fun w hs => hs.gh) (fun i s hi hs hk x v hx => by
    obtain ⟨h1, h2⟩ := hk x v hx
    refine ⟨?_, by rw [gh_cell]; exact h2⟩
    obtain ⟨hb, hor⟩ := (hw i s hi hs).1 x v hx
    obtain ⟨c, e, f, hc, hlt⟩ := cells_of_cell h2
    refine (gh_frozen hb).2 ⟨c, e, f, hc, hlt, ?_⟩
    rcases hor with z | z
    · left; rw [z]; exact ⟨by simp, by simp [hi]⟩
    · exact .inr z) (hn hw (fun b hb => hf b (by have := hg.size; rw [gh_size] at this; omega)) (h₀.grow hg))

theorem gh_chan' {c cap : Nat} {buf : Array Value} {cl : Bool} {s r : Nat} {t : Bool} (hg : (O.gh h m).heap[c]? = some (.chan cap buf cl s r t)) : m.heap[c]? = some (.chan cap buf cl s r t) := by
  rw [gh_get] at hg
  cases e : m.heap[c]? with
  | none => rw [e] at hg; cases hg
  | some o =>
    rw [e] at hg
    cases o with
    | cells c₀ e₀ f₀ =>
      simp only [Option.map_some, Own.obj, Option.some.injEq] at hg
      split at hg <;> cases hg
    | _ => exact hg
theorem Okk.chans (hn : (∀ i s, i ≠ h → Γ i = some s → ∃ k, m.heap[s.c]? = some (.chan 0 #[] false k k false)) → (∀ i i' s s', i ≠ h → i' ≠ h → Γ i = some s → Γ i' = some s' → s.c = s'.c → i = i') → Okk P Φ h a m O Γ) : Okk P Φ h a m O Γ := fun hw hf h₀ =>
  .chans fun h1 h2 => hn (fun i s hi e => by obtain ⟨k, hk⟩ := h1 i s hi e; exact ⟨k, gh_chan' hk⟩) h2 hw hf h₀
theorem Okk.code (hP : Plain P S E) {c : Code} (hc : okCode P S E c = true) {Q : Array Value → World → Prop} {ba : Frame} {tm : Array Value} {ds : List Deferred} {k : List Item} {cs : List Frame}
    (hwp : ∀ τ, c.wp P (fun e a' w' => e = .normal ∧ a'.defers = [] ∧ Q a'.tmps w') ⟨tm, []⟩ (Tre.re (O.gh h m) τ 0))
    (hn : ∀ tm' g', Q tm' g' → Grow (O.gh h m) g' → Okk P Φ h (G (ba.at ⟨tm', ds⟩ k) cs) g' O Γ) : Okk P Φ h (G (ba.at ⟨tm, ds⟩ (.code c :: k)) cs) m O Γ := fun hw hf h₀ =>
  .code hP hc hwp fun tm' g' hq hg => Okk.of_grow hg hw hf h₀ (hn tm' g' hq hg)
theorem Okk.call (hP : Plain P S E) {f : FuncId} {fn : Func} {c : Code} {args : Array Value} {R : Value → World → Prop} (hf : P.funcs[f]? = some fn) (hb : fn.body = some c) (hc : okCode P S E c = true)
    {ba : Frame} {tm : Array Value} {ds : List Deferred} {k : List Item} {cs : List Frame} {ops : Array Oper} {i : Nat} {r : List Nat} {o : Oper} (ho : ops[i]? = some o)
    (hcalls : ∀ τ, Calls P f args (Tre.re (O.gh h m) τ 0) (fun e w' => ∃ v, e = .returned v ∧ R v w'))
    (hn : ∀ v g', R v g' → Grow (O.gh h m) g' → Okk P Φ h (G (ba.at (Act.put ⟨tm, ds⟩ o.dst v) (.inRegion ops r :: k)) cs) g' O Γ) :
    Okk P Φ h (G (Frame.enter P f args .normal) (ba.at ⟨tm, ds⟩ (.inRegion ops (i :: r) :: k) :: cs)) m O Γ := fun hw hfr h₀ =>
  .call hP hf hb hc ho hcalls fun v g' hR hg => Okk.of_grow hg hw hfr h₀ (hn v g' hR hg)
theorem Okk.oper (hP : Plain P S E) {ba : Frame} {a : Act} {k : List Item} {cs : List Frame} {ops : Array Oper} {i : Nat} {r : List Nat} {o : Oper} (ho : ops[i]? = some o) (hok : okOp P S E o.op = true) (hw : Region.wanted o (yielded ops a.tmps) = true)
    {R : Value → World → Prop} (hl : ∀ τ, ∃ v g', (execOp a.eval o).run P (Tre.re (O.gh h m) τ 0) = .ok (.value v) g' ∧ R v g')
    (hn : ∀ v g', R v g' → Grow (O.gh h m) g' → Okk P Φ h (G (ba.at (a.put o.dst v) (.inRegion ops r :: k)) cs) g' O Γ) : Okk P Φ h (G (ba.at a (.inRegion ops (i :: r) :: k)) cs) m O Γ := fun hW hF h₀ =>
  .oper hP ho hok hw hl fun v g' hR hg => Okk.of_grow hg hW hF h₀ (hn v g' hR hg)
theorem Okk.unit (hP : Plain P S E) {ba : Frame} {a : Act} {k : List Item} {cs : List Frame} {ops : Array Oper} {i : Nat} {r : List Nat} {o : Oper} (ho : ops[i]? = some o) (hok : okOp P S E o.op = true) (hw : Region.wanted o (yielded ops a.tmps) = true)
    {R : World → Prop} (hl : ∀ τ, ∃ g', (execOp a.eval o).run P (Tre.re (O.gh h m) τ 0) = .ok .skip g' ∧ R g')
    (hn : ∀ g', R g' → Grow (O.gh h m) g' → Okk P Φ h (G (ba.at (a.put o.dst undef) (.inRegion ops r :: k)) cs) g' O Γ) : Okk P Φ h (G (ba.at a (.inRegion ops (i :: r) :: k)) cs) m O Γ := fun hW hF h₀ =>
  .unit hP ho hok hw hl fun g' hR hg => Okk.of_grow hg hW hF h₀ (hn g' hR hg)
theorem Okk.val (hP : Plain P S E) {ba : Frame} {a : Act} {k : List Item} {cs : List Frame} {ops : Array Oper} {i : Nat} {r : List Nat} {o : Oper} (ho : ops[i]? = some o) (hok : okOp P S E o.op = true) (hw : Region.wanted o (yielded ops a.tmps) = true)
    (v : Value) (hl : ∀ τ, (execOp a.eval o).run P (Tre.re (O.gh h m) τ 0) = .ok (.value v) (Tre.re (O.gh h m) τ 0))
    (hn : Okk P Φ h (G (ba.at (a.put o.dst v) (.inRegion ops r :: k)) cs) m O Γ) : Okk P Φ h (G (ba.at a (.inRegion ops (i :: r) :: k)) cs) m O Γ := fun hW hF h₀ => .val hP ho hok hw v hl (hn hW hF h₀)
theorem Okk.ctl0 {a' : Goroutine} (hrun : a.status = .running) (h1 : ∀ w, stepG P (h == 0) a w = .go a' w #[]) (hn : Okk P Φ h a' m O Γ) : Okk P Φ h a m O Γ := fun hW hF h₀ => .ctl0 hrun h1 (hn hW hF h₀)
theorem Okk.enter {ba : Frame} {a : Act} {k : List Item} {cs : List Frame} {ops : Array Oper} {i : Nat} {r : List Nat} {o : Oper} (ho : ops[i]? = some o) (hw : Region.wanted o (yielded ops a.tmps) = true)
    {f : FuncId} {args : Array Value} (hr : ∀ w, (execOp a.eval o).run P w = .ok (.enter f args) w) (he : ∀ w, (execOp a.eval o).events P w #[] = #[])
    (hn : Okk P Φ h (G (Frame.enter P f args .normal) (ba.at a (.inRegion ops (i :: r) :: k) :: cs)) m O Γ) : Okk P Φ h (G (ba.at a (.inRegion ops (i :: r) :: k)) cs) m O Γ := fun hW hF h₀ => .enter ho hw hr he (hn hW hF h₀)
theorem Okk.leave {ba : Frame} {a : Act} {todo : List Item} {c : Frame} {cs : List Frame} {fn : Func} {v : Value} (hk : ba.kind = .normal) (hd : a.defers = []) (hf : P.funcs[ba.fn]? = some fn) (hr : ∀ w, (results fn a.tmps).run P w = .ok v w) (he : ∀ w, (results fn a.tmps).events P w #[] = #[])
    (hn : Okk P Φ h (G (c.finish v) cs) m O Γ) : Okk P Φ h (G { ba.at a todo with mode := .returning } (c :: cs)) m O Γ := fun hW hF h₀ => .leave hk hd hf hr he (hn hW hF h₀)
/-- ████ A SEND. ████ -/
theorem Okk.send {b : Frame} {a : Act} {k : List Item} {cs : List Frame} {ops : Array Oper} {i : Nat} {r : List Nat} {o : Oper} (ho : ops[i]? = some o) (hw : Region.wanted o (yielded ops a.tmps) = true) (hk : b.kind ≠ .early) {j : Nat} {s : Seat} {v z' : Value}
    (hr : ∀ w, (execOp a.eval o).run P w = .ok (.comm #[scase s.c v z'] true .send) w) (he : ∀ w, (execOp a.eval o).events P w #[] = #[])
    (hj : Γ j = some s) (hjh : j ≠ h) {kk : Nat} (hc : m.heap[s.c]? = some (.chan 0 #[] false kk kk false))
    {S' : Option Seat} {nh : Nat} (hafter : ∀ T', Go.Conc.Deaf T' h = 0 → Idle P T' h nh (G (b.at (a.put o.dst undef) (.inRegion ops r :: k)) cs) S')
    (hkeep : ∀ s', S' = some s' → ∀ x v, s'.still x = some v → Base.b0 ≤ x.block ∧ (O.o x.block = some h ∨ x.off < O.pre x.block) ∧ m.cell? x = some v)
    (hchan : ∀ s', S' = some s' → (∃ k, m.heap[s'.c]? = some (.chan 0 #[] false k k false)) ∧ ∀ i s₂, i ≠ h → i ≠ j → Γ i = some s₂ → s₂.c ≠ s'.c)
    (hmine : ∀ s', S' = some s' → ∀ b n, s'.mine b = some n → O.o b = some h ∧ O.pre b = n)
    (hn : ∀ g₂, s.home g₂ → (∀ x v, s.still x = some v → Base.b0 ≤ x.block ∧ (O.o x.block = some j ∨ x.off < O.pre x.block) ∧ m.cell? x = some v) → (∀ b n, s.mine b = some n → O.o b = some j ∧ O.pre b = n) →
      Okk P Φ j (Go.Conc.served g₂ v) (m.setChan s.c 0 #[] false (kk + 1) (kk + 1) false) O (upd Γ h S')) : Okk P Φ h (G (b.at a (.inRegion ops (i :: r) :: k)) cs) m O Γ := by
  intro hW hF h₀
  have hW' : Wf j O (upd Γ h S') := fun i s₁ hi hs => by
    by_cases e : i = h
    · subst e; rw [upd_same] at hs
      exact ⟨fun x v hx => by obtain ⟨h1, h2, _⟩ := hkeep s₁ hs x v hx; exact ⟨h1, h2⟩, fun b n hb => hmine s₁ hs b n hb⟩
    · rw [upd_ne Γ _ e] at hs; exact hW i s₁ e hs
  have fr : ∀ (i : Nat) (x : Addr) (v : Value), i ≠ j → Base.b0 ≤ x.block → (O.o x.block = some i ∨ x.off < O.pre x.block) → m.cell? x = some v → (O.gh j m).frozen? x = true ∧ (O.gh j m).cell? x = some v := fun i x v hij hb hor hx => by
    refine ⟨?_, by rw [gh_cell]; exact hx⟩
    obtain ⟨c, e, f, hc, hlt⟩ := cells_of_cell hx
    refine (gh_frozen hb).2 ⟨c, e, f, hc, hlt, hor.imp (fun z => by rw [z]; exact ⟨by simp, by simp [hij]⟩) id⟩
  refine .send ho hw hk hr he hj hjh (gh_chan hc) hafter (g' := O.gh j m) (fun w hs => hs.ungh) (fun i s' hi hij hs hks x v hx => ?_) (fun s' e x v hx => ?_) (fun s' e => ?_) fun g₂ hh hks => ?_
  · obtain ⟨h1, h2⟩ := (hW i s' hi hs).1 x v hx
    exact fr i x v hij h1 h2 (by have := (hks x v hx).2; rwa [gh_cell] at this)
  · obtain ⟨h1, h2, h3⟩ := hkeep s' e x v hx
    exact fr h x v (Ne.symm hjh) h1 h2 h3
  · obtain ⟨⟨k, hk⟩, h2⟩ := hchan s' e
    exact ⟨⟨k, gh_chan hk⟩, h2⟩
  · have := hn g₂ hh (fun x v hx => by
      obtain ⟨h1, h2⟩ := (hW j s hjh hj).1 x v hx
      exact ⟨h1, h2, by have := (hks x v hx).2; rwa [gh_cell] at this⟩) (fun b n hb => (hW j s hjh hj).2 b n hb) hW' (fun b hb => hF b (by simpa [World.setChan] using hb)) (h₀.setChan hc)
    have e : O.gh j (m.setChan s.c 0 #[] false (kk + 1) (kk + 1) false) = (O.gh j m).setChan s.c 0 #[] false (kk + 1) (kk + 1) false := by
      have : (O.gh j (m.setChan s.c 0 #[] false (kk + 1) (kk + 1) false)).heap = ((O.gh j m).setChan s.c 0 #[] false (kk + 1) (kk + 1) false).heap := by
        apply Array.ext_getElem?
        intro b
        rw [gh_get]
        simp only [World.setChan, Array.getElem?_setIfInBounds, gh_size]
        split
        · split <;> simp [Own.obj]
        · rw [gh_get]
      simp only [Own.gh, World.setChan] at this ⊢
      rw [this]
    rw [e] at this
    exact this

theorem gh_take {b c c' : Nat} (hc : c ≠ h) (hc' : c' ≠ h) : (O.take c b).gh h m = (O.take c' b).gh h m := by
  simp only [Own.gh]
  congr 1
  apply Array.ext
  · simp
  · intro i hi hi'
    simp only [Array.getElem_mapIdx]
    cases m.heap[i]'(by simpa using hi') with
    | cells x e f =>
      simp only [Own.obj]
      split
      · rfl
      · simp only [Own.rg, Own.take]
        by_cases hib : i = b
        · simp [hib, hc, hc']
        · simp [hib]
    | _ => rfl
/-- ████ A GOROUTINE IS STARTED; block tp becomes its own. ████ -/
theorem Okk.spawn {b : Frame} {a : Act} {k : List Item} {cs : List Frame} {ops : Array Oper} {i : Nat} {r : List Nat} {o : Oper} (ho : ops[i]? = some o) (hw : Region.wanted o (yielded ops a.tmps) = true) (hk : b.kind ≠ .early)
    {d : Deferred} {f : Fn} {cc : Array Value} (hr : ∀ w, (execOp a.eval o).run P w = .ok (.spawn d) w) (he : ∀ w, (execOp a.eval o).events P w #[] = #[]) (hd : d.target = .fn f cc)
    (sn : Seat) (tp : Nat) (htl : tp < m.heap.size) (htp : O.o tp = none ∨ O.o tp = some h) (hcn : ∃ k, m.heap[sn.c]? = some (.chan 0 #[] false k k false)) (hfresh : ∀ i s, i ≠ h → Γ i = some s → s.c ≠ sn.c)
    (hkeep : ∀ x v, sn.still x = some v → Base.b0 ≤ x.block ∧ (x.block = tp ∨ x.off < O.pre x.block) ∧ m.cell? x = some v) (hmine : ∀ b n, sn.mine b = some n → b = tp ∧ O.pre b = n) {nc : Nat} (hchild : Sits P false sn nc (Go.Conc.born P d))
    (hn : ∀ c, c ≠ h → c ≠ 0 → Γ c = none → Okk P Φ h (G (b.at (a.put o.dst undef) (.inRegion ops r :: k)) cs) m (O.take c tp) (upd Γ c (some sn))) : Okk P Φ h (G (b.at a (.inRegion ops (i :: r) :: k)) cs) m O Γ := by
  intro hW hF h₀
  have hne : h + 1 ≠ h := by omega
  have hgg : ∀ a, (O.gh h m).frozen? a = true → ((O.take (h + 1) tp).gh h m).frozen? a = true ∧ ((O.take (h + 1) tp).gh h m).cell? a = (O.gh h m).cell? a := by
    have hg := gh_grow (m := m) (O' := O.take (h + 1) tp) (Own.le.take htp) (Grow.refl (O.gh h m))
    have e : (O.take (h + 1) tp).gh h (O.gh h m) = (O.take (h + 1) tp).gh h m := by
      simp only [Own.gh, Array.mapIdx_mapIdx]
      congr 1
      apply Array.ext
      · simp
      · intro i hi hi'
        simp only [Array.getElem_mapIdx, Function.comp]
        cases m.heap[i]'(by simpa using hi') with
        | cells c e f =>
          by_cases hb : i < Base.b0
          · simp [Own.obj, hb]
          · simp [Own.obj, hb]
        | _ => rfl
    rwa [e] at hg
  refine Ok.hire (a' := G (b.at (a.put o.dst undef) (.inRegion ops r :: k)) cs) (g' := (O.take (h + 1) tp).gh h m) (es := #[]) rfl (fun w _ => ?_) (by simp) sn (hcn.elim fun k hk => ⟨k, gh_chan hk⟩) hfresh (fun w hs => hs.ungh) (fun x hx => (hgg x hx).1) (fun x v hx => ?_) hchild fun c h1 h2 h3 => ?_
  · rw [Go.Conc.stepG_spawn ho hw hk (hr w) hd]
    unfold Go.Conc.listed
    rw [he w]; simp [seen]
  · obtain ⟨h1, h2, h3⟩ := hkeep x v hx
    refine ⟨?_, by rw [gh_cell]; exact h3⟩
    obtain ⟨c₀, e₀, f₀, hc₀, hlt⟩ := cells_of_cell h3
    refine (gh_frozen h1).2 ⟨c₀, e₀, f₀, hc₀, hlt, ?_⟩
    rcases h2 with h2 | h2
    · left; simp [Own.take, h2]
    · exact .inr h2
  · rw [← gh_take (c := c) h1 hne]
    refine hn c h1 h2 h3 (fun i s hi hs => ?_) (fun b hb => ⟨by have := (hF b hb).1; simp only [Own.take]; rw [if_neg (by omega)]; exact this, (hF b hb).2⟩) h₀
    by_cases e : i = c
    · subst e
      rw [upd_same] at hs
      cases hs
      exact ⟨fun x v hx => by
        obtain ⟨z1, z2, _⟩ := hkeep x v hx
        exact ⟨z1, z2.imp (fun z => by simp [Own.take, z]) id⟩, fun b n hb => by
        obtain ⟨z1, z2⟩ := hmine b n hb
        exact ⟨by simp [Own.take, z1], z2⟩⟩
    · rw [upd_ne Γ _ e] at hs
      exact (hW.le (Own.le.take htp)) i s hi hs
theorem Okk.finish (h0 : h = 0) (hΓ : ∀ i, i ≠ 0 → Γ i = none) (hrun : a.status = .running) (hend : ∀ w, Sim w (O.gh h m) → Old m → ∃ v es, stepG P true a w = .ended (.done v) w es ∧ (∀ e ∈ es, GoodEv (O.gh h m) e) ∧ Φ v w) : Okk P Φ h a m O Γ := fun _ _ h₀ => .finish h0 hΓ hrun fun w hw => hend w hw h₀
/-- The owners at the start. -/
def Own.none : Own := ⟨fun _ => .none, fun _ => 0⟩
theorem Okk.start {a : Goroutine} {w : World} (hb : w.heap.size = Base.b0) (hw : Base.w0 = w) (hok : Okk P Φ 0 a w Own.none (fun _ => .none)) : Ev P Φ (Go.Conc.solo a w) #[] :=
  Ok.start hb (.ghost (fun w' hs => hs.gh) (fun i s _ h => by cases h) (hok (fun i s _ h => by cases h) (fun _ _ => ⟨rfl, rfl⟩) (by subst hw; exact ⟨rfl, rfl, fun _ c _ _ _ h => ⟨c, h⟩⟩)))

/-- What the holder owns, with what it holds. -/
def Own.mine (O : Own) (h : Nat) (m : World) (a : Addr) : Option Value := if Base.b0 ≤ a.block ∧ (O.o a.block = some h ∨ a.off < O.pre a.block) then m.cell? a else .none
def Own.mineB (O : Own) (h : Nat) (b : Nat) : Option Nat := if O.o b = some h then some (O.pre b) else .none
/-- The seat that keeps all that it owns. -/
def stdSeat (c : Nat) (G' : Goroutine) (O : Own) (h : Nat) (m : World) : Seat := { c := c, z := .agg #[], home := fun g => g = G', still := O.mine h m, mine := O.mineB h }
theorem mine_some {x : Addr} {v : Value} (hx : O.mine h m x = some v) : Base.b0 ≤ x.block ∧ (O.o x.block = some h ∨ x.off < O.pre x.block) ∧ m.cell? x = some v := by
  unfold Own.mine at hx
  split at hx
  · rename_i hh; exact ⟨hh.1, hh.2, hx⟩
  · cases hx
theorem mine_of {x : Addr} {v : Value} (hb : Base.b0 ≤ x.block) (ho : O.o x.block = some h ∨ x.off < O.pre x.block) (hx : m.cell? x = some v) : O.mine h m x = some v := by
  unfold Own.mine; rw [if_pos ⟨hb, ho⟩]; exact hx
omit [Base] in
theorem mineB_some {b n : Nat} (hx : O.mineB h b = some n) : O.o b = some h ∧ O.pre b = n := by
  unfold Own.mineB at hx
  split at hx
  · rename_i hh; cases hx; exact ⟨hh, rfl⟩
  · cases hx
omit [Base] in
theorem mineB_of {b : Nat} (hx : O.o b = some h) : O.mineB h b = some (O.pre b) := by unfold Own.mineB; rw [if_pos hx]

/-- ████ A SEND behind which it waits at its own channel, keeping what it owns. 'Res': what is known of the record that stands there. ████ -/
theorem Okk.sendW {b : Frame} {a : Act} {k : List Item} {cs : List Frame} {ops : Array Oper} {i : Nat} {r : List Nat} {o : Oper} (ho : ops[i]? = some o) (hw : Region.wanted o (yielded ops a.tmps) = true) (hk : b.kind ≠ .early) {j : Nat} {s : Seat} {v z' : Value}
    (hr : ∀ w, (execOp a.eval o).run P w = .ok (.comm #[scase s.c v z'] true .send) w) (he : ∀ w, (execOp a.eval o).events P w #[] = #[])
    (hj : Γ j = some s) (hjh : j ≠ h) {kk : Nat} (hc : m.heap[s.c]? = some (.chan 0 #[] false kk kk false)) {c' : Nat} {Res : Goroutine → Prop} {n : Nat}
    (hway : ∃ R, Way P (h == 0) (stdSeat c' R O h m) n (G (b.at (a.put o.dst undef) (.inRegion ops r :: k)) cs) ∧ Res R)
    (hc' : ∃ k, m.heap[c']? = some (.chan 0 #[] false k k false)) (hfree : ∀ i s₂, i ≠ h → i ≠ j → Γ i = some s₂ → s₂.c ≠ c')
    (hn : ∀ R, Res R → ∀ g₂, s.home g₂ → (∀ x v, s.still x = some v → Base.b0 ≤ x.block ∧ (O.o x.block = some j ∨ x.off < O.pre x.block) ∧ m.cell? x = some v) → (∀ b n, s.mine b = some n → O.o b = some j ∧ O.pre b = n) →
      Okk P Φ j (Go.Conc.served g₂ v) (m.setChan s.c 0 #[] false (kk + 1) (kk + 1) false) O (upd Γ h (some (stdSeat c' R O h m)))) : Okk P Φ h (G (b.at a (.inRegion ops (i :: r) :: k)) cs) m O Γ := by
  obtain ⟨R, hway, hres⟩ := hway
  exact .send ho hw hk hr he hj hjh hc (S' := some (stdSeat c' R O h m)) (nh := n + 1) (fun T' _ => hway.idle) (fun s' e => by cases e; exact fun x v hx => mine_some hx) (fun s' e => by cases e; exact ⟨hc', hfree⟩) (fun s' e => by cases e; exact fun b n hb => mineB_some hb) (hn R hres)

theorem Okk.panic {b : Frame} {a : Act} {k : List Item} {cs : List Frame} {ops : Array Oper} {i : Nat} {r : List Nat} {o : Oper} (ho : ops[i]? = some o) (hw : Region.wanted o (yielded ops a.tmps) = true)
    {v : Value} (hr : ∀ w, (execOp a.eval o).run P w = .halt (.panic v) w) (he : ∀ w, (execOp a.eval o).events P w #[] = #[])
    (hn : Okk P Φ h (G { b.at a (.inRegion ops (i :: r) :: k) with mode := .panicking [{ v, recovered := false }] } cs) m O Γ) : Okk P Φ h (G (b.at a (.inRegion ops (i :: r) :: k)) cs) m O Γ := fun hW hF h₀ =>
  .ctl rfl (fun w hs => by
    obtain ⟨es, h1, h2⟩ := step_panic (main := h == 0) (b := b) (k := k) (cs := cs) (rest := r) ho hw (hr w)
    exact ⟨es, h2, fun e hx => by have := h1 e hx; rw [he] at this; simp at this⟩) (hn hW hF h₀)
/-- A frame without deferred calls is left by a panic. -/
theorem Okk.raise {fr c : Frame} {cs : List Frame} {chain : List PanicEntry} (hm : fr.mode = .panicking chain) (hd : fr.defers = []) (hc : fr.catches P = false) (hn : Okk P Φ h (G (c.raise chain) cs) m O Γ) : Okk P Φ h (G fr (c :: cs)) m O Γ :=
  .ctl0 rfl (fun w => by simp [G, stepG, unwind, hm, hd, hc]) hn
end
end Go.Tre

/- The rest of a function's body, by a contract of the lone machine; its caller stands at a call. Every premise stands in the statements. -/
set_option linter.unusedSimpArgs false
set_option linter.unusedVariables false
namespace Go.Tre
open Go.Conc (G base crowd)
/-- A frame that stands at a call. -/
def Callable (cf : Frame) : Prop := ∃ (ba : Frame) (tm : Array Value) (ds : List Deferred) (ops : Array Oper) (i : Nat) (r : List Nat) (k : List Item) (o : Oper), cf = ba.at ⟨tm, ds⟩ (.inRegion ops (i :: r) :: k) ∧ ops[i]? = some o
theorem Callable.mk {ba : Frame} {a : Act} {ops : Array Oper} {i : Nat} {r : List Nat} {k : List Item} {o : Oper} (ho : ops[i]? = some o) : Callable (ba.at a (.inRegion ops (i :: r) :: k)) := ⟨ba, a.tmps, a.defers, ops, i, r, k, o, rfl, ho⟩
section
variable [Base]
variable {P : Program} {Φ : Value → World → Prop} {h : Nat} {m : World} {O : Own} {Γ : Nat → Option Seat} {S E : FuncId → Bool}
/-- ████ THE REST OF A BODY. ████ -/
theorem Okk.rest (hP : Plain P S E) {f : FuncId} {fn : Func} {c : Code} {tm₀ : Array Value} {R : Value → World → Prop} (hf : P.funcs[f]? = some fn) (hc : okCode P S E c = true)
    {cf : Frame} {cs : List Frame} (hcf : Callable cf)
    (hwp : ∀ τ, c.wp P (bodyPost P fn fun e w' => ∃ v, e = .returned v ∧ R v w') ⟨tm₀, []⟩ (Tre.re (O.gh h m) τ 0))
    (hn : ∀ v g', R v g' → Grow (O.gh h m) g' → Okk P Φ h (G (cf.finish v) cs) g' O Γ) :
    Okk P Φ h (G ((base f).at ⟨tm₀, []⟩ [.code c]) (cf :: cs)) m O Γ := by
  obtain ⟨ba, tm, ds, ops, i, r, k, o, rfl, ho⟩ := hcf
  intro hw hfr h₀
  refine .rch fun w hs => ?_
  have hl : ∀ τ, ∃ n tm' g', runN P n (mach (G ((base f).at ⟨tm₀, []⟩ [.code c]) [(base 0).at ⟨tm, []⟩ (.inRegion #[o] [0] :: K0), trap]) (re (O.gh h m) τ 0)) = .next (mach (G ((base 0).at ⟨tm', []⟩ K0) [trap]) g') ∧ ∃ v, tm' = (Act.put ⟨tm, []⟩ o.dst v).tmps ∧ R v g' := by
    intro τ
    have hcalls : ∃ e w' fr, (∃ v, e = Ending.returned v ∧ R v w') ∧ Comes P (lone ((base f).at ⟨tm₀, []⟩ [.code c]) [(base 0).at ⟨tm, []⟩ (.inRegion #[o] [0] :: K0), trap] (re (O.gh h m) τ 0)) (lone fr [(base 0).at ⟨tm, []⟩ (.inRegion #[o] [0] :: K0), trap] w') e ∧ fr.fn = f ∧ fr.leaving P w' e := by
      obtain ⟨e, a', w', hq, harr⟩ := hwp τ (base f) [] [(base 0).at ⟨tm, []⟩ (.inRegion #[o] [0] :: K0), trap]
      cases e with
      | normal =>
        obtain ⟨hd, v, hr, hR⟩ := hq
        exact ⟨.returned v, w', _, hR, Steps.trans harr (.one step_end), rfl, rfl, hd, rfl, fn, hf, hr⟩
      | ret =>
        obtain ⟨hd, v, hr, hR⟩ := hq
        obtain ⟨todo, hs⟩ := harr
        exact ⟨.returned v, w', _, hR, hs, rfl, rfl, hd, rfl, fn, hf, hr⟩
      | panic chain => obtain ⟨_, v, hv, _⟩ := hq; cases hv
      | exit id => exact hq.elim
      | goto l => exact hq.elim
      | outgrown => obtain ⟨v, hv, _⟩ := hq; cases hv
    obtain ⟨e, w', fr, ⟨v, rfl, hR⟩, ⟨n, hr⟩, hfn, hlv⟩ := hcalls
    have h2 := step_leave_returned (cs := [trap]) (c := (base 0).at ⟨tm, []⟩ (.inRegion #[o] [0] :: K0)) hlv
    rw [Frame.finish_at] at h2
    have h3 : step P (lone ((base 0).at (Act.put ⟨tm, []⟩ o.dst v) (.inRegion #[o] [] :: K0)) [trap] w') = .next (lone ((base 0).at (Act.put ⟨tm, []⟩ o.dst v) K0) [trap] w') :=
      step_mach (g := G ((base 0).at (Act.put ⟨tm, []⟩ o.dst v) (.inRegion #[o] [] :: K0)) [trap]) (g' := G ((base 0).at (Act.put ⟨tm, []⟩ o.dst v) K0) [trap]) rfl rfl rfl rfl rfl rfl (by rw [Go.Conc.stepG_region_end]; rfl)
    refine ⟨n + 1 + 1, (Act.put ⟨tm, []⟩ o.dst v).tmps, w', ?_, v, rfl, hR⟩
    have h1 := runN_succ P n _ _ hr
    rw [h2] at h1
    have h4 := runN_succ P (n + 1) _ _ h1
    have e0 : ((#[o] : Array Oper)[0]?).bind (·.dst) = o.dst := rfl
    rw [e0, h3] at h4
    have e2 : (base 0).at ⟨(Act.put ⟨tm, []⟩ o.dst v).tmps, []⟩ K0 = (base 0).at (Act.put ⟨tm, []⟩ o.dst v) K0 := by cases hd : o.dst <;> rfl
    rw [e2]
    exact h4
  have hrel : Rel P S E (base 0) ba ds (.inRegion ops r :: k) cs ops r k (G ((base f).at ⟨tm₀, []⟩ [.code c]) [(base 0).at ⟨tm, []⟩ (.inRegion #[o] [0] :: K0), trap]) (G ((base f).at ⟨tm₀, []⟩ [.code c]) (ba.at ⟨tm, ds⟩ (.inRegion ops (i :: r) :: k) :: cs)) :=
    .up .run f fn _ [.code c] _ _ hf (.cons hc .nil) (.ret tm o i ho)
  refine Rch.mono (lift hP rfl hl hrel hs) fun a' w' hst => ?_
  obtain ⟨tm', g', ⟨v, rfl, hR⟩, hs', hg, hga⟩ := hst
  have e1 : ∀ K, ba.at ⟨(Act.put ⟨tm, []⟩ o.dst v).tmps, ds⟩ K = ba.at (Act.put ⟨tm, ds⟩ o.dst v) K := fun K => by
    cases hd : o.dst with
    | none => rfl
    | some d => rfl
  have e3 : (ba.at ⟨tm, ds⟩ (.inRegion ops (i :: r) :: k)).finish v = ba.at (Act.put ⟨tm, ds⟩ o.dst v) (.inRegion ops r :: k) := by rw [Frame.finish_at, ho]; rfl
  have hn' := hn v g' hR hg
  rw [e3] at hn'
  rw [e1] at hga
  rcases hga with rfl | rfl <;> exact ⟨g', hs', hg, Okk.of_grow hg hw hfr h₀ hn'⟩
/-- A call, by its contract, of whoever stands at a call. -/
theorem Okk.callC (hP : Plain P S E) {f : FuncId} {fn : Func} {c : Code} {args : Array Value} {R : Value → World → Prop} (hf : P.funcs[f]? = some fn) (hb : fn.body = some c) (hc : okCode P S E c = true)
    {cf : Frame} {cs : List Frame} (hcf : Callable cf) (hcalls : ∀ τ, Calls P f args (Tre.re (O.gh h m) τ 0) (fun e w' => ∃ v, e = .returned v ∧ R v w'))
    (hn : ∀ v g', R v g' → Grow (O.gh h m) g' → Okk P Φ h (G (cf.finish v) cs) g' O Γ) :
    Okk P Φ h (G (Frame.enter P f args .normal) (cf :: cs)) m O Γ := by
  obtain ⟨ba, tm, ds, ops, i, r, k, o, rfl, ho⟩ := hcf
  refine Okk.call hP hf hb hc ho hcalls fun v g' hR hg => ?_
  have e3 : (ba.at ⟨tm, ds⟩ (.inRegion ops (i :: r) :: k)).finish v = ba.at (Act.put ⟨tm, ds⟩ o.dst v) (.inRegion ops r :: k) := by rw [Frame.finish_at, ho]; rfl
  rw [← e3]; exact hn v g' hR hg
end
end Go.Tre
