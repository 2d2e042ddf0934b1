/- Texts of one proof, joined: each says what it proves. Every premise stands in the statements. -/
import Derived.Test.YtkbfbphbdljaaaaA06
import Derived.Conc.Starve
/- THE LIFT: what the lone machine does in the ghost world on every tape, the true goroutine does in any company: whatever is drawn ahead of each of its steps. Every premise stands in the statements. -/
set_option linter.unusedSimpArgs false
set_option linter.unusedVariables false
namespace Go.Tre
variable [Base]
open Go.Conc (G base)

/-- What a step of the holder's does: no write of a still cell; channels stay. 'F': the ghost whose frozen cells are the still ones. -/
structure DG (F w w' : World) (es : Array Event) : Prop where
  evs : ∀ e ∈ es, GoodEv F e
  still : ∀ a, F.frozen? a = true → w'.cell? a = w.cell? a
  chan : ∀ (c cap : Nat) (buf : Array Value) (cl : Bool) (s r : Nat) (t : Bool), w.heap[c]? = some (Obj.chan cap buf cl s r t) → w'.heap[c]? = some (Obj.chan cap buf cl s r t)
  size : w.heap.size ≤ w'.heap.size
omit [Base] in
theorem DG.quiet (F w : World) : DG F w w #[] := ⟨by simp, fun _ _ => rfl, fun _ _ _ _ _ _ _ h => h, Nat.le_refl _⟩

/-- The goroutine comes to a stop by steps of its own, whatever is drawn ahead of each. -/
inductive Rch (P : Program) (main : Bool) (F : World) (Stop : Goroutine → World → Prop) : Goroutine → World → Prop
  | stop {g : Goroutine} {w : World} (h : ∀ d, Stop g (w.at d)) : Rch P main F Stop g w
  | steps {g : Goroutine} {w : World} (g' : Nat → Goroutine) (w' : Nat → World) (es : Nat → Array Event) (hs : g.status = .running) (h1 : ∀ d, stepG P main g (w.at d) = .go (g' d) (w' d) (es d)) (h2 : ∀ d, DG F (w.at d) (w' d) (es d)) (h3 : ∀ d, Rch P main F Stop (g' d) (w' d)) : Rch P main F Stop g w
omit [Base] in
theorem Rch.step {P : Program} {main : Bool} {F : World} {Stop : Goroutine → World → Prop} {g : Goroutine} {w : World} (hs : g.status = .running) (h : ∀ d, ∃ g' w' es, stepG P main g (w.at d) = .go g' w' es ∧ DG F (w.at d) w' es ∧ Rch P main F Stop g' w') : Rch P main F Stop g w :=
  .steps (fun d => Classical.choose (h d)) (fun d => Classical.choose (Classical.choose_spec (h d))) (fun d => Classical.choose (Classical.choose_spec (Classical.choose_spec (h d)))) hs
    (fun d => (Classical.choose_spec (Classical.choose_spec (Classical.choose_spec (h d)))).1) (fun d => (Classical.choose_spec (Classical.choose_spec (Classical.choose_spec (h d)))).2.1) (fun d => (Classical.choose_spec (Classical.choose_spec (Classical.choose_spec (h d)))).2.2)

omit [Base] in
theorem Rch.mono {P : Program} {main : Bool} {F : World} {Stop Stop' : Goroutine → World → Prop} {g : Goroutine} {w : World} (h : Rch P main F Stop g w) (hs : ∀ g w, Stop g w → Stop' g w) : Rch P main F Stop' g w := by
  induction h with
  | stop h => exact .stop fun d => hs _ _ (h d)
  | steps g' w' es hr h1 h2 _ ih => exact .steps g' w' es hr h1 h2 ih

theorem Sim.chan {w g : World} (h : Sim w g) {c cap : Nat} {buf : Array Value} {cl : Bool} {s r : Nat} {t : Bool} (e : w.heap[c]? = some (Obj.chan cap buf cl s r t)) : g.heap[c]? = some (Obj.chan cap buf cl s r t) := by
  obtain ⟨o', h1, h2⟩ := h.obj c _ e
  cases h2; exact h1
theorem DG.of {F w g w' g' : World} {es : Array Event} (hF : Grow F g) (h : Sim w g) (h' : Sim w' g') (hg : Grow g g') (he : ∀ e ∈ es, GoodEv g e) : DG F w w' es := by
  refine ⟨fun e hm => (he e hm).back hF, fun a ha => ?_, fun c cap buf cl s r t e => ?_, ?_⟩
  · rw [← h'.cell?, ← h.cell?]; exact (hg.frozen a (hF.frozen a ha).1).2
  · exact h'.other (hg.chan c _ _ _ _ _ _ (h.chan e)) (by simp)
  · rw [← h.size, ← h'.size]; exact hg.size

section
variable (P : Program) (S E : FuncId → Bool) (main : Bool) (bl ba : Frame) (ds : List Deferred) (k : List Item) (cs : List Frame) (rops : Array Oper) (rr : List Nat) (κ : List Item)

/-- Where the true goroutine is to come. -/
def StopL (Q : Array Value → World → Prop) (gs : World) (ga : Goroutine) (w : World) : Prop :=
  ∃ tm g, Q tm g ∧ Sim w g ∧ Grow gs g ∧ (ga = G (ba.at ⟨tm, ds⟩ k) cs ∨ ga = G (ba.at ⟨tm, ds⟩ (.inRegion rops rr :: κ)) cs)

/-- A place on the way, n steps in, A drawn so far. -/
structure Pt (Q : Array Value → World → Prop) (gs : World) (gl0 : Goroutine) (n : Nat) (A : List Nat) (gl ga : Goroutine) (w g : World) : Prop where
  rel : Rel P S E bl ba ds k cs rops rr κ gl ga
  sim : Sim w g
  grow : Grow gs g
  bad : ¬ Rch P main gs (StopL ba ds k cs rops rr κ Q gs) ga w
  run : ∀ τ, Feeds τ 0 A → runN P n (mach gl0 (re gs τ 0)) = .next (mach gl (re g τ A.length))
  nf : ∀ τ, Feeds τ 0 A → ∀ j, j < n → ∀ m', runN P j (mach gl0 (re gs τ 0)) = .next m' → ¬ Final bl m'
end

omit [Base] in
theorem runN_succ (P : Program) (n : Nat) (m m' : Machine) (h : runN P n m = .next m') : runN P (n + 1) m = step P m' := by
  rw [runN_add, h]
  simp only [runN]
  cases step P m' <;> rfl
omit [Base] in
theorem runN_past (P : Program) {n j : Nat} {m : Machine} {o : Outcome} {w : World} (h : runN P n m = .ended o w) (hj : n ≤ j) (m' : Machine) : runN P j m ≠ .next m' := by
  obtain ⟨i, rfl⟩ := Nat.exists_eq_add_of_le hj
  rw [runN_add, h]
  simp

section
variable {P : Program} {S E : FuncId → Bool} {main : Bool} {bl ba : Frame} {ds : List Deferred} {k : List Item} {cs : List Frame} {rops : Array Oper} {rr : List Nat} {κ : List Item}
variable {Q : Array Value → World → Prop} {gs : World} {gl0 : Goroutine}

/-- A tape that begins with these. -/
def feed (A : List Nat) : Tape := fun p _ => A.getD p 0
omit [Base] in
theorem feed_feeds (A : List Nat) : Feeds (feed A) 0 A := fun i h q => by simp [feed, h]

omit [Base] in
/-- The lone machine at its last place goes no step further. -/
theorem final_ends {tm : Array Value} {w : World} : ∃ o w', step P (mach (G (bl.at ⟨tm, []⟩ K0) [trap]) w) = .ended o w' := by
  exact ⟨_, w, step_mach_ended (g := G (bl.at ⟨tm, []⟩ K0) [trap]) rfl rfl rfl rfl⟩

omit [Base] in
theorem mach_inj {g g' : Goroutine} {w w' : World} (h : mach g w = mach g' w') : g = g' ∧ w = w' := by
  have h1 : (mach g w).gs[0]? = (mach g' w').gs[0]? := by rw [h]
  have h2 : (mach g w).world = (mach g' w').world := by rw [h]
  exact ⟨by simpa [mach] using h1, h2⟩
omit [Base] in
theorem at_inj {tm tm' : Array Value} {c c' : List Frame} (h : G (bl.at ⟨tm, []⟩ K0) c = G (bl.at ⟨tm', []⟩ K0) c') : tm = tm' := by
  have := congrArg (fun g : Goroutine => g.frame.tmps) h
  exact this

theorem pt_next (hP : Plain P S E) (hk : bl.kind = .normal)
    (hlone : ∀ τ, ∃ n tm g', runN P n (mach gl0 (re gs τ 0)) = .next (mach (G (bl.at ⟨tm, []⟩ K0) [trap]) g') ∧ Q tm g')
    {n : Nat} {A : List Nat} {gl ga : Goroutine} {w g : World} (h : Pt P S E main bl ba ds k cs rops rr κ Q gs gl0 n A gl ga w g) :
    ∃ aq gl' ga' w' g', Pt P S E main bl ba ds k cs rops rr κ Q gs gl0 (n + 1) (A ++ aq) gl' ga' w' g' := by
  -- not at a stop
  have fin : ∀ tm, gl = G (bl.at ⟨tm, []⟩ K0) [trap] → Q tm (re g (feed A) A.length) := by
    intro tm e
    obtain ⟨N, tm', g', hN, hQ⟩ := hlone (feed A)
    have hrun := h.run (feed A) (feed_feeds A)
    rcases Nat.lt_trichotomy N n with hlt | rfl | hgt
    · exact absurd ⟨tm', g', rfl⟩ (h.nf (feed A) (feed_feeds A) N hlt _ hN)
    · rw [hrun, e] at hN
      simp only [Stepped.next.injEq] at hN
      obtain ⟨e1, e2⟩ := mach_inj hN
      rw [at_inj e1, e2]; exact hQ
    · obtain ⟨o, w', he⟩ := final_ends (P := P) (bl := bl) (tm := tm) (w := re g (feed A) A.length)
      have := runN_succ P n _ _ hrun
      rw [e, he] at this
      exact absurd hN (runN_past P this hgt _)
  have fin2 : ∀ tm o, gl = G (bl.at ⟨tm, []⟩ (.inRegion #[o] [] :: K0)) [trap] → Q tm (re g (feed A) A.length) := by
    intro tm o e
    obtain ⟨N, tm', g', hN, hQ⟩ := hlone (feed A)
    have hrun := h.run (feed A) (feed_feeds A)
    have h1 : runN P (n + 1) (mach gl0 (re gs (feed A) 0)) = .next (mach (G (bl.at ⟨tm, []⟩ K0) [trap]) (re g (feed A) A.length)) := by
      rw [runN_succ P n _ _ hrun, e]
      exact step_mach (g := G (bl.at ⟨tm, []⟩ (.inRegion #[o] [] :: K0)) [trap]) (g' := G (bl.at ⟨tm, []⟩ K0) [trap]) rfl rfl rfl rfl rfl rfl (by rw [Go.Conc.stepG_region_end]; rfl)
    have hnn : ∀ m', runN P n (mach gl0 (re gs (feed A) 0)) = .next m' → ¬ Final bl m' := fun m' hm => by
      rw [hrun, e] at hm
      simp only [Stepped.next.injEq] at hm
      subst hm
      exact not_final_frame fun tm' e' => by
        have := congrArg (fun f => f.todo.length) e'
        simp [Frame.at, K0] at this
    rcases Nat.lt_trichotomy N (n + 1) with hlt | rfl | hgt
    · rcases Nat.lt_or_ge N n with hl | hl
      · exact absurd ⟨tm', g', rfl⟩ (h.nf (feed A) (feed_feeds A) N hl _ hN)
      · have : N = n := by omega
        subst this
        exact absurd ⟨tm', g', rfl⟩ (hnn _ hN)
    · rw [h1] at hN
      simp only [Stepped.next.injEq] at hN
      obtain ⟨e1, e2⟩ := mach_inj hN
      rw [at_inj e1, e2]; exact hQ
    · obtain ⟨o, w', he⟩ := final_ends (P := P) (bl := bl) (tm := tm) (w := re g (feed A) A.length)
      have := runN_succ P (n + 1) _ _ h1
      rw [he] at this
      exact absurd hN (runN_past P this hgt _)
  have stopped : ∀ tm, Q tm (re g (feed A) A.length) → (ga = G (ba.at ⟨tm, ds⟩ k) cs ∨ ga = G (ba.at ⟨tm, ds⟩ (.inRegion rops rr :: κ)) cs) → False := fun tm hQ hga =>
    h.bad (.stop fun d => ⟨tm, re g (feed A) A.length, hQ, ⟨h.sim.size, h.sim.obj, h.sim.os, h.sim.output, h.sim.fresh, h.sim.old⟩, ⟨h.grow.frozen, h.grow.chan, h.grow.size, h.grow.rng⟩, hga⟩)
  -- some draw leads on to what never stops
  have hrunning : ga.status = .running := by
    have := h.rel
    cases this <;> rfl
  obtain ⟨d, hd⟩ : ∃ d, ∀ g' w' es, stepG P main ga (w.at d) = .go g' w' es → DG gs (w.at d) w' es → ¬ Rch P main gs (StopL ba ds k cs rops rr κ Q gs) g' w' := by
    refine Classical.byContradiction fun hno => h.bad (.step hrunning fun d => ?_)
    refine Classical.byContradiction fun hn => hno ⟨d, fun g' w' es h1 h2 h3 => hn ⟨g', w', es, h1, h2, h3⟩⟩
  have hs : Sim (w.at d) g := ⟨h.sim.size, h.sim.obj, h.sim.os, h.sim.output, h.sim.fresh, h.sim.old⟩
  rcases rel_step (main := main) hP hk h.rel hs with hout | ⟨tm, e1, e2⟩ | ⟨tm, o, e1, e2⟩
  · obtain ⟨aq, ⟨fr', c', g', ga', w', es, hl, hst, ht, hs', hg, hev, hrel⟩ | hdoom⟩ := hout
    · refine ⟨aq, G fr' c', ga', w', g', hrel, hs', h.grow.trans hg, hd _ _ _ hst (.of h.grow hs hs' hg hev), fun τ hτ => ?_, fun τ hτ j hj m' hm => ?_⟩
      · have hr := h.run τ hτ.left
        rw [runN_succ P n _ _ hr]
        have hlr : gl.status = .running ∧ gl.dying = none ∧ gl.offers = none := by
          have := h.rel
          cases this <;> exact ⟨rfl, rfl, rfl⟩
        have := step_mach hlr.1 hlr.2.1 hlr.2.2 (g' := G fr' c') rfl rfl rfl (hl τ A.length (by simpa using hτ.right))
        rw [this]; simp
      · rcases Nat.lt_or_ge j n with hl' | hl'
        · exact h.nf τ hτ.left j hl' m' hm
        · have : j = n := by omega
          subst this
          rw [h.run τ hτ.left] at hm
          simp only [Stepped.next.injEq] at hm
          subst hm
          rintro ⟨tm, wf, e⟩
          obtain ⟨e1, e2⟩ := mach_inj e
          have hx := hl τ A.length (by simpa using hτ.right)
          rw [e1] at hx
          simp [stepG, stepG.exec, G, Frame.at, K0] at hx
    · exfalso
      obtain ⟨N, tm', g', hN, hQ⟩ := hlone (feed (A ++ aq))
      have hf := feed_feeds (A ++ aq)
      have hr := h.run _ hf.left
      have hdd := hdoom (feed (A ++ aq)) A.length (by simpa using hf.right)
      rcases Nat.lt_or_ge N n with hl | hl
      · exact h.nf _ hf.left N hl _ hN ⟨tm', g', rfl⟩
      · obtain ⟨i, rfl⟩ := Nat.exists_eq_add_of_le hl
        rw [runN_add, hr] at hN
        exact hdd i _ hN ⟨tm', g', rfl⟩
  · exact (stopped tm (fin tm e1) (.inl e2)).elim
  · exact (stopped tm (fin2 tm o e1) (.inr e2)).elim

/-- ████ THE LIFT. ████ -/
theorem lift (hP : Plain P S E) (hk : bl.kind = .normal)
    (hlone : ∀ τ, ∃ n tm g', runN P n (mach gl0 (re gs τ 0)) = .next (mach (G (bl.at ⟨tm, []⟩ K0) [trap]) g') ∧ Q tm g')
    {ga0 : Goroutine} {w0 : World} (hr : Rel P S E bl ba ds k cs rops rr κ gl0 ga0) (hs : Sim w0 gs) : Rch P main gs (StopL ba ds k cs rops rr κ Q gs) ga0 w0 := by
  refine Classical.byContradiction fun hbad => ?_
  let PS := Nat × List Nat × Goroutine × Goroutine × World × World
  let ok : PS → Prop := fun x => Pt P S E main bl ba ds k cs rops rr κ Q gs gl0 x.1 x.2.1 x.2.2.1 x.2.2.2.1 x.2.2.2.2.1 x.2.2.2.2.2
  have start : ok (0, [], gl0, ga0, w0, gs) := ⟨hr, hs, .refl gs, hbad, fun τ _ => rfl, fun τ _ j hj => by omega⟩
  have nxt : ∀ x : {x : PS // ok x}, ∃ y : {y : PS // ok y}, y.1.1 = x.1.1 + 1 ∧ ∃ aq, y.1.2.1 = x.1.2.1 ++ aq := by
    rintro ⟨⟨n, A, gl, ga, w, g⟩, hx⟩
    obtain ⟨aq, gl', ga', w', g', hy⟩ := pt_next hP hk hlone hx
    exact ⟨⟨(n + 1, A ++ aq, gl', ga', w', g'), hy⟩, rfl, aq, rfl⟩
  let f : Nat → {x : PS // ok x} := fun n => Nat.rec ⟨_, start⟩ (fun _ x => Classical.choose (nxt x)) n
  have f1 : ∀ n, (f (n + 1)).1.1 = (f n).1.1 + 1 ∧ ∃ aq, (f (n + 1)).1.2.1 = (f n).1.2.1 ++ aq := fun n => Classical.choose_spec (nxt (f n))
  have fn : ∀ n, (f n).1.1 = n := fun n => by
    induction n with
    | zero => rfl
    | succ n ih => rw [(f1 n).1, ih]
  have fle : ∀ n i, ∃ aq, (f (n + i)).1.2.1 = (f n).1.2.1 ++ aq := fun n i => by
    induction i with
    | zero => exact ⟨[], by simp⟩
    | succ i ih =>
      obtain ⟨aq, e⟩ := ih
      obtain ⟨bs, e'⟩ := (f1 (n + i)).2
      exact ⟨aq ++ bs, by rw [← Nat.add_assoc, e', e, List.append_assoc]⟩
  have same : ∀ n m p (hn : p < (f n).1.2.1.length) (hm : p < (f m).1.2.1.length), (f n).1.2.1[p] = (f m).1.2.1[p] := fun n m p hn hm => by
    rcases Nat.le_total n m with h | h
    · obtain ⟨i, rfl⟩ := Nat.exists_eq_add_of_le h
      obtain ⟨aq, e⟩ := fle n i
      simp only [e]
      rw [List.getElem_append_left hn]
    · obtain ⟨i, rfl⟩ := Nat.exists_eq_add_of_le h
      obtain ⟨aq, e⟩ := fle m i
      simp only [e]
      rw [List.getElem_append_left hm]
  open Classical in
  let τ : Tape := fun p _ => if h : ∃ n, p < (f n).1.2.1.length then (f (Classical.choose h)).1.2.1.getD p 0 else 0
  have hτ : ∀ n, Feeds τ 0 (f n).1.2.1 := fun n i hi q => by
    have he : ∃ n, 0 + i < (f n).1.2.1.length := ⟨n, by simpa using hi⟩
    have hc := Classical.choose_spec he
    have : τ (0 + i) q = (f (Classical.choose he)).1.2.1.getD (0 + i) 0 := dif_pos he
    rw [this, List.getD_eq_getElem?_getD, List.getElem?_eq_getElem hc, Option.getD_some]
    have e0 : 0 + i = i := Nat.zero_add i
    simp only [e0] at hc ⊢
    exact same _ _ i hc hi
  obtain ⟨N, tm, g', hN, _⟩ := hlone τ
  have hp := (f (N + 1)).2
  exact hp.nf τ (hτ (N + 1)) N (by have := fn (N + 1); omega) _ hN ⟨tm, g', rfl⟩
end
end Go.Tre
