/- Texts of one proof, joined: each says what it proves. Every premise stands in the statements. -/
import Derived.Conc.TokenTrace
/- The trace while one goroutine holds the token: what may be read loosely is told goroutine by goroutine. Every premise stands in the statements. -/
set_option linter.unusedSimpArgs false
set_option linter.unusedVariables false
namespace Go.Tre
open Go.Conc

/-- WHILE h HOLDS. 'Still i x': goroutine i, which waits, may read cell x on its way; nobody writes it meanwhile. 'Mem': the holder and who waits. -/
structure PastX (Still : Nat → Addr → Prop) (Mem : Nat → Prop) (h : Nat) (t : Trace) : Prop where
  clean : ∀ said, ¬ Race said t
  known : ∀ i a, touchAt t i = some a → a.loc.isMemory = true → Knows t h i ∨ (a.write = false ∧ ∃ g x, t.g? i = some g ∧ a.loc = .cell x ∧ Still g x)
  wrote : ∀ g x, Still g x → ∀ i a, touchAt t i = some a → a.write = true → a.loc = .cell x → Knows t g i
  hears : ∀ g, Mem g → Deaf t g = 0

section
variable {Still : Nat → Addr → Prop} {Mem : Nat → Prop} {h : Nat} {t u : Trace}

theorem PastX.loosen {Still' : Nat → Addr → Prop} (H : PastX Still Mem h t) (hS : ∀ g x, Still g x → Still' g x) (hw : ∀ g x, Still' g x → Still g x ∨ ∀ i a, touchAt t i = some a → a.write = true → a.loc = .cell x → Knows t g i) {Mem' : Nat → Prop} (hM : ∀ g, Mem' g → Mem g) : PastX Still' Mem' h t :=
  ⟨H.clean, fun i a ha hm => (H.known i a ha hm).imp id fun ⟨p, g, x, e1, e2, e3⟩ => ⟨p, g, x, e1, e2, hS g x e3⟩, fun g x hs i a ha hwr hl => (hw g x hs).elim (fun y => H.wrote g x y i a ha hwr hl) (fun y => y i a ha hwr hl), fun g hg => H.hears g (hM g hg)⟩

theorem PastX.hears' {g : Nat} (H : PastX Still Mem h t) (hu : ∀ op ∈ u, op.g = g) (hd : Mem g → Deaf (t ++ u) g = Deaf t g) : ∀ g', Mem g' → Deaf (t ++ u) g' = 0 := fun g' hg' => by
  by_cases e : g' = g
  · subst e; exact (hd hg').trans (H.hears g' hg')
  · exact (Deaf_other t (fun x => e x.symm) u hu).trans (H.hears g' hg')

theorem PastX.old (H : PastX Still Mem h t) {i : Nat} {a : Touch} {x : MemOp} (hx' : t[i]? = some x) (hxa : x.act.touch? = some a) (hm : a.loc.isMemory = true) :
    Knows (t ++ u) h i ∨ (a.write = false ∧ ∃ g y, (t ++ u).g? i = some g ∧ a.loc = .cell y ∧ Still g y) :=
  (H.known i a (by rw [touchAt_of hx']; exact hxa) hm).imp (Knows.app u) fun ⟨p, g, y, e1, e2, e3⟩ => ⟨p, g, y, by rw [g?_old (lt_size_of_getElem? hx')]; exact e1, e2, e3⟩

/-- THE HOLDER's OWN OPERATIONS: no write of a cell that somebody may read loosely. -/
theorem PastX.appH (H : PastX Still Mem h t) (hu : ∀ op ∈ u, op.g = h) (hs : ∀ op ∈ u, ∀ b, op.act.touch? = some b → b.write = true → ∀ g x, b.loc = .cell x → ¬ Still g x) (hd : Deaf (t ++ u) h = Deaf t h) :
    PastX Still Mem h (t ++ u) := by
  refine ⟨fun said => noRace_append (H.clean said) hu fun i a ha op hop b hb hc => ?_, fun i a ha hm => ?_, fun g x hS i a ha hw hl => ?_, H.hears' hu (fun _ => hd)⟩
  · rcases H.known i a ha hc.2.1 with hk | ⟨hw, g, x, hg, hl, hS⟩
    · exact hk
    · rcases hc.2.2.1 with y | y
      · rw [hw] at y; cases y
      · exact absurd hS (hs op hop b hb y g x (hc.1 ▸ hl))
  · obtain ⟨x, hx, hxa⟩ := touch_of ha
    rcases getElem?_append_cases hx with ⟨_, hx'⟩ | ⟨_, hxu⟩
    · exact H.old hx' hxa hm
    · have := knows_own hx
      rw [hu x hxu] at this
      exact .inl this
  · obtain ⟨z, hz, hza⟩ := touch_of ha
    rcases getElem?_append_cases hz with ⟨_, hz'⟩ | ⟨_, hzu⟩
    · exact (H.wrote g x hS i a (by rw [touchAt_of hz']; exact hza) hw hl).app u
    · exact absurd hS (hs z hzu a hza hw g x hl)

/-- Operations that touch nothing, of one goroutine. -/
theorem PastX.appMute {g : Nat} (H : PastX Still Mem h t) (hu : ∀ op ∈ u, op.g = g) (hn : ∀ op ∈ u, op.act.touch? = none) (hd : Mem g → Deaf (t ++ u) g = Deaf t g) : PastX Still Mem h (t ++ u) := by
  refine ⟨fun said => noRace_appendMute (H.clean said) hn, fun i a ha hm => ?_, fun g' y hS i a ha hw hl => ?_, H.hears' hu hd⟩
  · obtain ⟨x, hx, hxa⟩ := touch_of ha
    rcases getElem?_append_cases hx with ⟨_, hx'⟩ | ⟨_, hxu⟩
    · exact H.old hx' hxa hm
    · rw [hn x hxu] at hxa; cases hxa
  · obtain ⟨x, hx, hxa⟩ := touch_of ha
    rcases getElem?_append_cases hx with ⟨_, hx'⟩ | ⟨_, hxu⟩
    · exact (H.wrote g' y hS i a (by rw [touchAt_of hx']; exact hxa) hw hl).app u
    · rw [hn x hxu] at hxa; cases hxa

/-- ONE THAT WAITS READS ITS STILL CELLS: no race: whoever wrote them is known to it. -/
theorem PastX.appRead {g : Nat} (H : PastX Still Mem h t) (hu : ∀ op ∈ u, op.g = g) (hr : ∀ op ∈ u, ∀ b, op.act.touch? = some b → b.write = false ∧ ∃ x, b.loc = .cell x ∧ Still g x) (hd : Deaf (t ++ u) g = Deaf t g) : PastX Still Mem h (t ++ u) := by
  refine ⟨fun said => noRace_append (H.clean said) hu fun i a ha op hop b hb hc => ?_, fun i a ha hm => ?_, fun g' y hS i a ha hw hl => ?_, H.hears' hu (fun _ => hd)⟩
  · obtain ⟨hb0, x, hbl, hbS⟩ := hr op hop b hb
    rcases hc.2.2.1 with y | y
    · exact H.wrote g x hbS i a ha y (hc.1.trans hbl)
    · rw [hb0] at y; cases y
  · obtain ⟨x, hx, hxa⟩ := touch_of ha
    rcases getElem?_append_cases hx with ⟨_, hx'⟩ | ⟨_, hxu⟩
    · exact H.old hx' hxa hm
    · obtain ⟨h0, y, hl, hS⟩ := hr x hxu a hxa
      exact .inr ⟨h0, g, y, by rw [g?_of hx, hu x hxu], hl, hS⟩
  · obtain ⟨x, hx, hxa⟩ := touch_of ha
    rcases getElem?_append_cases hx with ⟨_, hx'⟩ | ⟨_, hxu⟩
    · exact (H.wrote g' y hS i a (by rw [touchAt_of hx']; exact hxa) hw hl).app u
    · rw [(hr x hxu a hxa).1] at hw; cases hw

/-- ████ THE TOKEN PASSES: the taker knows all that the giver knew, and what it read itself. ████ -/
theorem PastX.give {j : Nat} (H : PastX Still Mem h t) (hh : Mem h) (hj : Mem j) (fh : FuncId) (ph : String) (fj : FuncId) (pj : String) {c : Nat} (k cap : Nat) {Still' : Nat → Addr → Prop} {Mem' : Nat → Prop}
    (hS : ∀ g x, g ≠ j → Still g x → Still' g x) (hS' : ∀ g x, Still' g x → g = h ∨ Still g x) (hhs : ∀ g x, Still g x → g ≠ h) (hM : ∀ g, Mem' g → Mem g) :
    PastX Still' Mem' j (t ++ met h j fh ph fj pj c k cap) := by
  have hn := met_mute h j fh ph fj pj c k cap
  have hq := fun g => met_quiet h j fh ph fj pj c k cap g
  have e0 : (t ++ met h j fh ph fj pj c k cap)[t.size]? = some { g := h, fn := fh, pos := ph, act := .send c k } := by simp [met]
  have e3 : (t ++ met h j fh ph fj pj c k cap)[t.size + 3]? = some { g := j, fn := fj, pos := pj, act := .recvDone c k } := by simp [met]
  have edge : HappensBefore (t ++ met h j fh ph fj pj c k cap) t.size (t.size + 3) :=
    Relation.TransGen.single (.inr ⟨.handOver (act?_of e0) (act?_of e3), ⟨h, g?_of e0, by rw [deaf_old (Nat.le_refl _)]; exact H.hears h hh⟩, ⟨j, g?_of e3, by rw [deaf_quiet (hq j) 3 (by simp [met])]; exact H.hears j hj⟩⟩)
  refine ⟨fun said => noRace_appendMute (H.clean said) hn, fun i a ha hm => ?_, fun g y hs i a ha hw hl => ?_, fun g hg => (Deaf_quiet (hq g)).trans (H.hears g (hM g hg))⟩
  · obtain ⟨x, hx, hxa⟩ := touch_of ha
    rcases getElem?_append_cases hx with ⟨hi, hx'⟩ | ⟨_, hxu⟩
    · rcases H.known i a (by rw [touchAt_of hx']; exact hxa) hm with hk | ⟨p, g, y, hg, hl, hs⟩
      · exact .inl ⟨t.size + 3, _, e3, rfl, .inr ((hk.hb_new (Nat.le_refl _) e0 rfl).trans edge)⟩
      · by_cases e : g = j
        · subst e
          have := knows_own hx
          rw [show x.g = g from by have := g?_of hx'; rw [hg] at this; exact (Option.some.inj this).symm] at this
          exact .inl this
        · exact .inr ⟨p, g, y, by rw [g?_old hi]; exact hg, hl, hS g y e hs⟩
    · rw [hn x hxu] at hxa; cases hxa
  · obtain ⟨x, hx, hxa⟩ := touch_of ha
    rcases getElem?_append_cases hx with ⟨_, hx'⟩ | ⟨_, hxu⟩
    · have ha' : touchAt t i = some a := by rw [touchAt_of hx']; exact hxa
      by_cases e : g = h
      · subst e
        rcases H.known i a ha' (by rw [hl]; rfl) with hk | ⟨p, _⟩
        · exact hk.app _
        · rw [p] at hw; cases hw
      · exact (H.wrote g y ((hS' g y hs).resolve_left e) i a ha' hw hl).app _
    · rw [hn x hxu] at hxa; cases hxa

/-- A go STATEMENT: the child knows all that the holder knew. -/
theorem PastX.hire {c : Nat} (H : PastX Still Mem h t) (hh : Mem h) (hc0 : Deaf t c = 0) (fh : FuncId) (ph : String) (fc : FuncId) {Still' : Nat → Addr → Prop} {Mem' : Nat → Prop}
    (hS : ∀ g x, Still g x → Still' g x) (hS' : ∀ g x, Still' g x → g = c ∨ Still g x) (hM : ∀ g, Mem' g → Mem g ∨ g = c) :
    PastX Still' Mem' h (t ++ #[{ g := h, fn := fh, pos := ph, act := .go c }, { g := c, fn := fc, pos := ph, act := .start }]) := by
  generalize hu : (#[{ g := h, fn := fh, pos := ph, act := .go c }, { g := c, fn := fc, pos := ph, act := .start }] : Trace) = u
  have hn : ∀ op ∈ u, op.act.touch? = none := by
    intro op hop
    subst hu
    simp only [List.mem_toArray, List.mem_cons, List.not_mem_nil, or_false] at hop
    rcases hop with rfl | rfl <;> rfl
  have hq : ∀ g, ∀ op ∈ u, ∀ d, deafStep g d op = d := by
    intro g op hop d
    subst hu
    simp only [List.mem_toArray, List.mem_cons, List.not_mem_nil, or_false] at hop
    rcases hop with rfl | rfl <;> rfl
  have e0 : (t ++ u)[t.size]? = some { g := h, fn := fh, pos := ph, act := .go c } := by subst hu; simp
  have e1 : (t ++ u)[t.size + 1]? = some { g := c, fn := fc, pos := ph, act := .start } := by subst hu; simp
  have edge : HappensBefore (t ++ u) t.size (t.size + 1) :=
    Relation.TransGen.single (.inr ⟨.spawn (act?_of e0) (act?_of e1) (g?_of e1), ⟨h, g?_of e0, by rw [deaf_old (Nat.le_refl _)]; exact H.hears h hh⟩, ⟨c, g?_of e1, by rw [deaf_quiet (hq c) 1 (by subst hu; simp)]; exact hc0⟩⟩)
  refine ⟨fun said => noRace_appendMute (H.clean said) hn, fun i a ha hm => ?_, fun g y hs i a ha hw hl => ?_, fun g hg => (Deaf_quiet (hq g)).trans ((hM g hg).elim (H.hears g) fun e => e ▸ hc0)⟩
  · obtain ⟨x, hx, hxa⟩ := touch_of ha
    rcases getElem?_append_cases hx with ⟨_, hx'⟩ | ⟨_, hxu⟩
    · exact (H.old hx' hxa hm).imp id fun ⟨p, g, y, e1, e2, e3⟩ => ⟨p, g, y, e1, e2, hS g y e3⟩
    · rw [hn x hxu] at hxa; cases hxa
  · obtain ⟨x, hx, hxa⟩ := touch_of ha
    rcases getElem?_append_cases hx with ⟨_, hx'⟩ | ⟨_, hxu⟩
    · have ha' : touchAt t i = some a := by rw [touchAt_of hx']; exact hxa
      rcases hS' g y hs with rfl | hs'
      · rcases H.known i a ha' (by rw [hl]; rfl) with hk | ⟨p, _⟩
        · exact ⟨t.size + 1, _, e1, rfl, .inr ((hk.hb_new (Nat.le_refl _) e0 rfl).trans edge)⟩
        · rw [p] at hw; cases hw
      · exact (H.wrote g y hs' i a ha' hw hl).app u
    · rw [hn x hxu] at hxa; cases hxa
end

/-- A bound of what a trace names. -/
theorem act_low (x : MemAct) : ∃ B, x.low B := by
  cases x with
  | access e =>
    obtain ⟨loc, k, s⟩ := e
    cases loc with
    | cell a => exact ⟨a.block + 1, Nat.lt_succ_self _⟩
    | obj b => exact ⟨b + 1, Nat.lt_succ_self _⟩
    | output => exact ⟨0, trivial⟩
    | goroutines => exact ⟨0, trivial⟩
    | mark m => exact ⟨0, trivial⟩
  | mark m =>
    cases m <;> first | exact ⟨0, trivial⟩ | exact ⟨_ + 1, Nat.lt_succ_self _⟩
  | go _ => exact ⟨0, trivial⟩
  | start => exact ⟨0, trivial⟩
  | send c _ => exact ⟨c + 1, Nat.lt_succ_self c⟩
  | sendDone c _ => exact ⟨c + 1, Nat.lt_succ_self c⟩
  | recv c _ _ => exact ⟨c + 1, Nat.lt_succ_self c⟩
  | recvDone c _ => exact ⟨c + 1, Nat.lt_succ_self c⟩
  | close c => exact ⟨c + 1, Nat.lt_succ_self c⟩
  | recvClosed c => exact ⟨c + 1, Nat.lt_succ_self c⟩
theorem low_list : ∀ (l : List MemOp), ∃ B, ∀ op ∈ l, op.act.low B
  | [] => ⟨0, by simp⟩
  | x :: l => by
    obtain ⟨B, hB⟩ := low_list l
    obtain ⟨B', hB'⟩ := act_low x.act
    refine ⟨max B B', fun op hop => ?_⟩
    rcases List.mem_cons.1 hop with rfl | hop
    · exact MemAct.low_mono (Nat.le_max_right _ _) hB'
    · exact MemAct.low_mono (Nat.le_max_left _ _) (hB op hop)
theorem low_ex (t : Trace) : ∃ B, ∀ op ∈ t, op.act.low B := by
  obtain ⟨B, hB⟩ := low_list t.toList
  exact ⟨B, fun op hop => hB op (by simpa using hop)⟩

/-- At the end: goroutine 0 holds, nobody waits. -/
theorem PastX.toPast {Still : Nat → Addr → Prop} {Mem : Nat → Prop} {t : Trace} (H : PastX Still Mem 0 t) (h0 : Mem 0) (hS : ∀ g x, ¬ Still g x) : ∃ B, Past (fun _ => False) B t := by
  obtain ⟨B, hB⟩ := low_ex t
  have hk : ∀ i a, touchAt t i = some a → a.loc.isMemory = true → Knows t 0 i := fun i a ha hm => (H.known i a ha hm).elim id fun ⟨_, g, x, _, _, hl⟩ => absurd hl (hS g x)
  refine ⟨B, H.clean, fun i a ha hm => .inl (hk i a ha hm), fun i g hg hne ⟨x, hx, hm, _⟩ => ?_, H.hears 0 h0, hB⟩
  obtain ⟨q, z, hq, hz, hb⟩ := hk i x hx hm
  rcases hb with rfl | hb
  · rw [g?_of hq, hz] at hg
    exact absurd (Option.some.inj hg).symm hne
  · exact ⟨q, by rw [g?_of hq, hz], hb⟩
theorem PastX.nil {Still : Nat → Addr → Prop} : PastX Still (fun i => i = 0) 0 #[] :=
  ⟨fun said => by rintro ⟨i, j, _, ⟨a, b, ha, _⟩, _⟩; simp [Trace.act?] at ha, fun i a ha => by simp [touchAt, Trace.act?] at ha, fun g x _ i a ha => by simp [touchAt, Trace.act?] at ha, fun _ _ => rfl⟩
end Go.Tre
