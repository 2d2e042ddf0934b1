/- Texts of one proof, joined: each says what it proves. Every premise stands in the statements. -/
import Derived.Test.YtkbfbphbdljaaaaA07
import Derived.Test.YtkbfbphbdljaaaaA08
import Derived.Conc.Token
/- The machine while one goroutine holds the token; every other waits at a channel of its own, is on its way there, or only leaves. Every premise stands in the statements. -/
set_option linter.unusedSimpArgs false
set_option linter.unusedVariables false
namespace Go.Tre
open Go.Conc
open Go.ConcN (sumTo upd sumTo_upd upd_ne upd_same)

/-- A seat: the channel at whose receive one waits (no buffer), what is known of the record that stands there, the cells that stay meanwhile, with what they hold. -/
structure Seat where
  c : Nat
  z : Value
  home : Goroutine → Prop
  still : Addr → Option Value
  mine : Nat → Option Nat := fun _ => none
def Seat.cases (s : Seat) : Array CommCase := #[rcase s.c s.z]
/-- In this ghost its cells are frozen. -/
def Seat.keeps (s : Seat) (F : World) : Prop := ∀ a v, s.still a = some v → F.frozen? a = true ∧ F.cell? a = some v
def Seat.rely (s : Seat) (w : World) : Prop := ∀ a v, s.still a = some v → w.cell? a = some v
def EvS (s : Seat) (e : Event) : Prop := ∃ a v, e = ⟨.cell a, false, false⟩ ∧ s.still a = some v

/-- It stands at its seat's receive; 'g₂': the record that the receive hands on. -/
structure AtR (P : Program) (main : Bool) (s : Seat) (g g₂ : Goroutine) : Prop where
  run : g.status = .running
  frame : g.frame = g₂.frame
  callers : g.callers = g₂.callers
  dying : g.dying = g₂.dying
  home : s.home g₂
  comm : ∃ es, (∀ e ∈ es, EvS s e) ∧ ∀ w, s.rely w → stepG P main g w = .comm g₂ s.cases true (.recv false) w es
/-- Within n steps it stands there. -/
def Way (P : Program) (main : Bool) (s : Seat) : Nat → Goroutine → Prop
  | 0, g => ∃ g₂, AtR P main s g g₂
  | n + 1, g => (∃ g₂, AtR P main s g g₂) ∨ (g.status = .running ∧ ∀ w, s.rely w → ∃ g' es, stepG P main g w = .go g' w es ∧ (∀ e ∈ es, EvS s e) ∧ Way P main s n g')
def Sits (P : Program) (main : Bool) (s : Seat) (n : Nat) (g : Goroutine) : Prop :=
  (∃ k, n = k + 1 ∧ Way P main s k g) ∨ (n = 0 ∧ ∃ g₀ g₂, g = parked g₂ s.cases (.recv false) ∧ AtR P main s g₀ g₂)
def Idle (P : Program) (T : Trace) (i n : Nat) (g : Goroutine) : Option Seat → Prop
  | none => 0 < i ∧ QuitsD P n (Deaf T i) g
  | some s => Sits P (i == 0) s n g

section
variable {P : Program}

theorem Way.running {main : Bool} {s : Seat} {n : Nat} {g : Goroutine} (h : Way P main s n g) : g.status = .running := by
  cases n with
  | zero => exact h.choose_spec.run
  | succ n => exact h.elim (fun x => x.choose_spec.run) (·.1)
theorem Sits.status {main : Bool} {s : Seat} {n : Nat} {g : Goroutine} (h : Sits P main s n g) : (g.status = .running ∧ 0 < n) ∨ (g.status = .blocked ∧ n = 0) := by
  rcases h with ⟨k, rfl, hg⟩ | ⟨rfl, _, g₂, rfl, _⟩
  · exact .inl ⟨hg.running, by omega⟩
  · exact .inr ⟨rfl, rfl⟩
theorem Sits.again {main : Bool} {s : Seat} {n : Nat} {g : Goroutine} {w : World} (h : Sits P main s n g) (hc : ∃ k, w.heap[s.c]? = some (.chan 0 #[] false k k false)) : g.again w = g := by
  rcases h with ⟨k, rfl, hg⟩ | ⟨rfl, _, g₂, rfl, _⟩
  · exact again_of_running (.inl hg.running) w
  · refine again_all_open fun cc hcc => ?_
    simp only [Seat.cases, List.mem_toArray, List.mem_cons, List.not_mem_nil, or_false] at hcc
    obtain ⟨k, hk⟩ := hc
    exact ⟨s.c, s.z, _, _, _, _, _, hcc, hk⟩
theorem evS_ops {s : Seat} {i : Nat} {fn : FuncId} {pos : String} {es : Array Event} (h : ∀ e ∈ es, EvS s e) :
    (∀ op ∈ MemOp.ofEvents i fn pos es, op.g = i) ∧ (∀ op ∈ MemOp.ofEvents i fn pos es, ∀ b, op.act.touch? = some b → b.write = false ∧ ∃ x, b.loc = .cell x ∧ ∃ v, s.still x = some v) ∧ ∀ t : Trace, Deaf (t ++ MemOp.ofEvents i fn pos es) i = Deaf t i := by
  refine ⟨fun op hop => by obtain ⟨e, _, rfl⟩ := Go.Conc.mem_ofEvents hop; rfl, fun op hop b hb => ?_, fun t => ?_⟩
  · obtain ⟨e, he, rfl⟩ := Go.Conc.mem_ofEvents hop
    obtain ⟨a, v, rfl, hS⟩ := h e he
    simp only [ofEvent_cell0, MemAct.touch?, Option.some.injEq] at hb
    subst hb
    exact ⟨rfl, a, rfl, v, hS⟩
  · rw [Deaf_own]
    exact deafBehind_still (fun e he => by obtain ⟨a, v, rfl, _⟩ := h e he; exact ⟨by simp, by simp⟩) _
theorem touch_cell {F : World} {e : Event} (hg : GoodEv F e) {b : Touch} {x : Addr} (hb : (MemAct.ofEvent e).touch? = some b) (hl : b.loc = .cell x) : e.loc = .cell x ∧ b.write = e.write := by
  obtain ⟨loc, wr, sy⟩ := e
  cases loc with
  | cell a =>
    simp only [MemAct.ofEvent, MemAct.touch?, Option.some.injEq] at hb
    subst hb
    exact ⟨hl, rfl⟩
  | obj r =>
    exfalso
    cases wr <;> cases sy <;> simp [MemAct.ofEvent, MemAct.touch?] at hb <;> subst hb <;> cases hl
  | mark m => cases m <;> first | (simp [MemAct.ofEvent, MemAct.touch?] at hb; done) | (simp [GoodEv] at hg; done)
  | output => simp [MemAct.ofEvent, MemAct.touch?] at hb <;> subst hb <;> cases hl
  | goroutines => simp [MemAct.ofEvent, MemAct.touch?] at hb <;> subst hb <;> cases hl
theorem good_ops {F : World} {i : Nat} {fn : FuncId} {pos : String} {es : Array Event} (he : ∀ e ∈ es, GoodEv F e) :
    (∀ op ∈ MemOp.ofEvents i fn pos es, op.g = i) ∧ (∀ op ∈ MemOp.ofEvents i fn pos es, ∀ b, op.act.touch? = some b → b.write = true → ∀ x, b.loc = .cell x → F.frozen? x = false) ∧ ∀ t : Trace, Deaf (t ++ MemOp.ofEvents i fn pos es) i = Deaf t i := by
  refine ⟨fun op hop => by obtain ⟨e, _, rfl⟩ := Go.Conc.mem_ofEvents hop; rfl, fun op hop b hb hw x hl => ?_, fun t => ?_⟩
  · obtain ⟨e, h, rfl⟩ := Go.Conc.mem_ofEvents hop
    obtain ⟨h1, h2⟩ := touch_cell (he e h) hb hl
    have := he e h
    unfold GoodEv at this
    rw [h1] at this
    exact this (h2 ▸ hw)
  · rw [Deaf_own]
    exact deafBehind_still (fun e h => by
      have := he e h
      unfold GoodEv at this
      constructor <;> intro el <;> rw [el] at this <;> exact this) _
end

/-- ████ THE FRAME: goroutine h holds. 'F': the ghost in which what stays is frozen. ████ -/
structure Core (P : Program) (Γ : Nat → Option Seat) (h : Nat) (F : World) (T : Trace) (gs : Array Goroutine) (w : World) (q : Nat → Nat) : Prop where
  idle : ∀ i g, i ≠ h → gs[i]? = some g → Idle P T i (q i) g (Γ i)
  chans : ∀ i s, i ≠ h → Γ i = some s → ∃ k, w.heap[s.c]? = some (.chan 0 #[] false k k false)
  inj : ∀ i i' s s', i ≠ h → i' ≠ h → Γ i = some s → Γ i' = some s' → s.c = s'.c → i = i'
  above : ∀ j, gs.size ≤ j → Deaf T j = 0
  size : ∀ i s, i ≠ h → Γ i = some s → i < gs.size
  keep : ∀ i s, i ≠ h → Γ i = some s → s.keeps F
  same : ∀ a, F.frozen? a = true → w.cell? a = F.cell? a
  past : PastX (fun i a => i ≠ h ∧ ∃ s v, Γ i = some s ∧ s.still a = some v) (fun i => i = h ∨ (Γ i).isSome = true) h T

section
variable {P : Program} {Γ : Nat → Option Seat} {h : Nat} {F : World} {T : Trace} {gs : Array Goroutine} {w : World} {q : Nat → Nat}

theorem Core.rely (C : Core P Γ h F T gs w q) {i : Nat} {s : Seat} (hi : i ≠ h) (hs : Γ i = some s) : s.rely w := fun a v ha => by
  obtain ⟨h1, h2⟩ := C.keep i s hi hs a v ha
  rw [C.same a h1, h2]
theorem Core.at (C : Core P Γ h F T gs w q) (d : Nat) : Core P Γ h F T gs (w.at d) q := ⟨C.idle, C.chans, C.inj, C.above, C.size, C.keep, C.same, C.past⟩
theorem Core.fixed (C : Core P Γ h F T gs w q) {x : Nat} {y : Goroutine} (hx : x ≠ h) (hy : gs[x]? = some y) : y.again w = y := by
  have hid := C.idle x y hx hy
  cases e : Γ x with
  | none => rw [e] at hid; exact again_of_running hid.2.status w
  | some s => rw [e] at hid; exact Sits.again hid (C.chans x s hx e)
theorem Core.noSend (C : Core P Γ h F T gs w q) {x : Nat} {y : Goroutine} (hx : x ≠ h) (hy : gs[x]? = some y) (c : Nat) : offersAt y c true = [] := by
  have hid := C.idle x y hx hy
  cases e : Γ x with
  | none =>
    rw [e] at hid
    exact offersAt_of_not_blocked (fun hb => by rcases hid.2.status with z | z <;> rw [z] at hb <;> cases hb) c true
  | some s =>
    rw [e] at hid
    rcases hid with ⟨k, hq, hg⟩ | ⟨_, _, g₂, rfl, _⟩
    · have := hg.running
      exact offersAt_of_not_blocked (fun hb => by rw [this] at hb; cases hb) c true
    · exact offersAt_parked_recv' _ _ _ _ _
theorem Core.noRecvAt (C : Core P Γ h F T gs w q) {x : Nat} {y : Goroutine} (hx : x ≠ h) (hy : gs[x]? = some y) {c : Nat} (hc : ∀ s, Γ x = some s → s.c ≠ c) : offersAt y c false = [] := by
  have hid := C.idle x y hx hy
  cases e : Γ x with
  | none =>
    rw [e] at hid
    exact offersAt_of_not_blocked (fun hb => by rcases hid.2.status with z | z <;> rw [z] at hb <;> cases hb) c false
  | some s =>
    rw [e] at hid
    rcases hid with ⟨k, hq, hg⟩ | ⟨_, _, g₂, rfl, _⟩
    · have := hg.running
      exact offersAt_of_not_blocked (fun hb => by rw [this] at hb; cases hb) c false
    · show offersAt (parked g₂ #[rcase s.c s.z] _) c false = []
      rw [offersAt_parked_recv, if_neg (hc s e)]

/-- One bystander's record is laid anew; the world stands. -/
theorem Core.put (C : Core P Γ h F T gs w q) {i n' : Nat} {g' : Goroutine} {ops : Array MemOp} {gs' : Array Goroutine} (hih : i ≠ h) (hlt : i < gs.size) (hsz : gs'.size = gs.size) (hother : ∀ x, x ≠ i → gs'[x]? = gs[x]?) (hself : gs'[i]? = some g')
    (hops : ∀ op ∈ ops, op.g = i) (hidle : Idle P (T ++ ops) i n' g' (Γ i)) (hpast : PastX (fun i a => i ≠ h ∧ ∃ s v, Γ i = some s ∧ s.still a = some v) (fun i => i = h ∨ (Γ i).isSome = true) h (T ++ ops)) : Core P Γ h F (T ++ ops) gs' w (upd q i n') := by
  refine ⟨fun x y hx hy => ?_, C.chans, C.inj, fun j hj => ?_, fun x s hx hs => by rw [hsz]; exact C.size x s hx hs, C.keep, C.same, hpast⟩
  · by_cases e : x = i
    · subst e
      rw [hself] at hy
      obtain rfl := Option.some.inj hy
      rw [upd_same]; exact hidle
    · rw [hother x e] at hy
      rw [upd_ne q n' e]
      have hd := C.idle x y hx hy
      cases es : Γ x with
      | none => rw [es] at hd; exact ⟨hd.1, by rw [Deaf_other T (fun z => e z.symm) ops hops]; exact hd.2⟩
      | some s => rw [es] at hd; exact hd
  · rw [Deaf_other T (g' := i) (by omega) ops hops]
    exact C.above j (by omega)

/-- ████ A BYSTANDER's STEP. ████ -/
theorem Core.by_step (C : Core P Γ h F T gs w q) {i : Nat} {g : Goroutine} {sl : Option (Nat × Nat)} (hi : gs[i]? = some g) (hih : i ≠ h) (hrun : g.status = .running)
    (hsA : ∀ gx, gs[h]? = some gx → gx.again w = gx) (hsO : ∀ s g₂, Γ i = some s → AtR P (i == 0) s g g₂ → ∀ gx, gs[h]? = some gx → offersAt gx s.c true = []) :
    ∃ (gs' : Array Goroutine) (ops : Array MemOp) (q' : Nat → Nat), runT P (crowd gs w sl) i = (.next (crowd gs' w sl), ops) ∧ gs'.size = gs.size ∧ gs'[h]? = gs[h]? ∧ (∀ x, x ≠ i → q' x = q x) ∧ (∀ s, Γ i = some s → q' i = 0 → ∃ g₂, AtR P (i == 0) s g g₂) ∧
      Core P Γ h F (T ++ ops) gs' w q' ∧ sumTo gs.size q' < sumTo gs.size q := by
  have hlt : i < gs.size := (Array.getElem?_eq_some_iff.1 hi).1
  have hfix : ∀ (a a' : Goroutine) (x : Nat) (y : Goroutine), gs[x]? = some y → woken P a a' w y = y := fun a a' x y hy => woken_of_again (by
    by_cases hx : x = h
    · subst hx; exact hsA y hy
    · exact C.fixed hx hy)
  have harr : ∀ (a' g' : Goroutine) (x : Nat), x ≠ i → ((gs.map (woken P g a' w)).setIfInBounds i g')[x]? = gs[x]? := by
    intro a' g' x hx
    rw [Array.getElem?_setIfInBounds_ne (fun e => hx e.symm), Array.getElem?_map]
    cases e : gs[x]? with
    | none => rfl
    | some y => simp [hfix g a' x y e]
  have hself : ∀ (a' g' : Goroutine), ((gs.map (woken P g a' w)).setIfInBounds i g')[i]? = some g' := fun a' g' => Array.getElem?_setIfInBounds_self_of_lt (by simpa using hlt)
  have hsum : ∀ k, q i = k + 1 → sumTo gs.size (upd q i k) < sumTo gs.size q := by
    intro k hqi
    have h2 : sumTo gs.size (upd q i k) + (k + 1) = sumTo gs.size q + k := by
      have := sumTo_upd q k id hlt
      simpa [hqi] using this
    omega
  have hid := C.idle i g hih hi
  cases e : Γ i with
  | none =>
    rw [e] at hid
    obtain ⟨hpos, hq⟩ := hid
    have hi0 : (i == 0) = false := by simp; omega
    cases hqi : q i with
    | zero => rw [hqi] at hq; rw [hq.1] at hrun; cases hrun
    | succ k =>
      rw [hqi] at hq
      rcases hq with ⟨hf, _⟩ | ⟨_, g', es, hm, hstp, hq'⟩
      · rw [hf] at hrun; cases hrun
      have hops : ∀ op ∈ MemOp.ofEvents i g.frame.fn g.frame.place es, op.g = i := fun op hop => by obtain ⟨e, _, rfl⟩ := Go.Conc.mem_ofEvents hop; rfl
      refine ⟨_, _, upd q i k, runT_crowd_go (sl := sl) hi (by rw [hi0]; exact hstp w), by simp, harr _ _ h (Ne.symm hih), fun x hx => upd_ne q k hx, fun s hs _ => (by cases hs), ?_, hsum k hqi⟩
      refine C.put hih hlt (by simp) (harr _ _) (hself _ _) hops (by rw [e]; exact ⟨hpos, by rw [Deaf_own]; exact hq'⟩) ?_
      exact C.past.appMute hops (fun op hop => by obtain ⟨e, he, rfl⟩ := Go.Conc.mem_ofEvents hop; exact touch_mute (hm e he)) (fun hM => by
        rcases hM with hM | hM
        · exact absurd hM hih
        · rw [e] at hM; cases hM)
  | some s =>
    rw [e] at hid
    have hr := C.rely hih e
    obtain ⟨k, hqi, hg⟩ : ∃ k, q i = k + 1 ∧ Way P (i == 0) s k g := by
      rcases hid with hd | ⟨_, _, g₂, rfl, _⟩
      · exact hd
      · cases hrun
    have hcase : (∃ g₂, AtR P (i == 0) s g g₂) ∨ ∃ k' g' es, k = k' + 1 ∧ stepG P (i == 0) g w = .go g' w es ∧ (∀ e ∈ es, EvS s e) ∧ Way P (i == 0) s k' g' := by
      cases k with
      | zero => exact .inl hg
      | succ k' =>
        rcases hg with hstop | ⟨_, hstep⟩
        · exact .inl hstop
        · obtain ⟨g', es, h1, h2, h3⟩ := hstep w hr
          exact .inr ⟨k', g', es, rfl, h1, h2, h3⟩
    have hStill : ∀ x, (∃ v, s.still x = some v) → (i ≠ h ∧ ∃ s v, Γ i = some s ∧ s.still x = some v) := fun x ⟨v, hv⟩ => ⟨hih, s, v, e, hv⟩
    rcases hcase with ⟨g₂, hat⟩ | ⟨k', g', es, rfl, hgo, hes, hG'⟩
    · obtain ⟨es, hes, hstp⟩ := hat.comm
      obtain ⟨hops, hrd, hd⟩ := evS_ops (i := i) (fn := g.frame.fn) (pos := g.frame.place) hes
      have hw : ∀ cc ∈ s.cases, NoWays w (gs.setIfInBounds i ph) cc := by
        intro cc hcc
        simp only [Seat.cases, List.mem_toArray, List.mem_cons, List.not_mem_nil, or_false] at hcc
        subst hcc
        obtain ⟨kk, hc⟩ := C.chans i s hih e
        refine ways_recv_none hc (partners_nil fun x y hy => ?_)
        rcases getElem?_stand gs i x y hy with ⟨_, rfl⟩ | ⟨hx, hy'⟩
        · exact offersAt_ph _ _
        · by_cases hS : x = h
          · subst hS; exact hsO s g₂ e hat y hy'
          · exact C.noSend hS hy' _
      refine ⟨_, _, upd q i 0, crowd_waits (sl := sl) hi (hstp w hr) hw, by simp, Array.getElem?_setIfInBounds_ne hih, fun x hx => upd_ne q 0 hx, fun s' hs' _ => (by obtain rfl := Option.some.inj hs'; exact ⟨g₂, hat⟩), ?_, ?_⟩
      · refine C.put hih hlt (by simp) (fun x hx => Array.getElem?_setIfInBounds_ne (fun z => hx z.symm)) (Array.getElem?_setIfInBounds_self_of_lt hlt) hops (by rw [e]; exact .inr ⟨rfl, g, g₂, rfl, hat⟩) ?_
        exact C.past.appRead hops (fun op hop b hb => ⟨(hrd op hop b hb).1, let ⟨x, y, z⟩ := (hrd op hop b hb).2; ⟨x, y, hStill x z⟩⟩) (hd T)
      · have h2 : sumTo gs.size (upd q i 0) + (k + 1) = sumTo gs.size q + 0 := by
          have := sumTo_upd q 0 id hlt
          simpa [hqi] using this
        omega
    · obtain ⟨hops, hrd, hd⟩ := evS_ops (i := i) (fn := g.frame.fn) (pos := g.frame.place) hes
      refine ⟨_, _, upd q i (k' + 1), runT_crowd_go (sl := sl) hi hgo, by simp, harr _ _ h (Ne.symm hih), fun x hx => upd_ne q _ hx, fun s' _ h0 => (by rw [upd_same] at h0; omega), ?_, hsum _ hqi⟩
      refine C.put hih hlt (by simp) (harr _ _) (hself _ _) hops (by rw [e]; exact .inl ⟨k', rfl, hG'⟩) ?_
      exact C.past.appRead hops (fun op hop b hb => ⟨(hrd op hop b hb).1, let ⟨x, y, z⟩ := (hrd op hop b hb).2; ⟨x, y, hStill x z⟩⟩) (hd T)

theorem Core.awake (C : Core P Γ h F T gs w q) {a : Goroutine} (ha : gs[h]? = some a) (hs : a.status = .running ∨ a.status = .blocked) : ∀ g ∈ gs, awake g := by
  intro g hg
  obtain ⟨i, hi, rfl⟩ := Array.mem_iff_getElem.1 hg
  by_cases e : i = h
  · subst e
    have : gs[i] = a := by simpa [Array.getElem?_eq_getElem hi] using ha
    rw [this]; exact awake_of (hs.elim .inl fun x => .inr (.inl x))
  · have hid := C.idle i _ e (Array.getElem?_eq_getElem hi)
    cases es : Γ i with
    | none => rw [es] at hid; exact awake_of (hid.2.status.elim .inl fun x => .inr (.inr x))
    | some s => rw [es] at hid; exact awake_of ((Sits.status hid).elim (fun x => .inl x.1) fun x => .inr (.inl x.1))

/-- THE HOLDER, RUNNING, IS PICKED IN THE END. -/
theorem Core.picked {a : Goroutine} {sl : Option (Nat × Nat)} (ha : gs[h]? = some a) (hrun : a.status = .running) (C : Core P Γ h F T gs w q) :
    ∃ (N : Nat) (gs' : Array Goroutine) (d d' : Nat) (sl' sl'' : Option (Nat × Nat)) (T' : Trace) (q' : Nat → Nat), runNT P N (crowd gs w sl) T = (.next (crowd gs' (w.at d) sl'), T') ∧
      stepT P (crowd gs' (w.at d) sl') = runT P (crowd gs' (w.at d') sl'') h ∧ gs'.size = gs.size ∧ gs'[h]? = some a ∧ Core P Γ h F T' gs' (w.at d') q' := by
  obtain ⟨N, m', T', hr, gs', d, d', sl', sl'', q', rfl, hst, hsz, ha', C'⟩ := runs_until (P := P)
    (Inv := fun μ m t => ∃ gs₁ d sl₁ q₁, m = crowd gs₁ (w.at d) sl₁ ∧ gs₁.size = gs.size ∧ gs₁[h]? = some a ∧ Core P Γ h F t gs₁ (w.at d) q₁ ∧ μ = sumTo gs₁.size q₁)
    (Done := fun m t => ∃ gs₁ d d' sl₁ sl₂ q₁, m = crowd gs₁ (w.at d) sl₁ ∧ stepT P (crowd gs₁ (w.at d) sl₁) = runT P (crowd gs₁ (w.at d') sl₂) h ∧ gs₁.size = gs.size ∧ gs₁[h]? = some a ∧ Core P Γ h F t gs₁ (w.at d') q₁)
    (fun μ m t ⟨gs₁, d, sl₁, q₁, hm, hsz, ha₁, C₁, hμ⟩ => by
      subst hm
      obtain ⟨i, g, d', sl', hi, hg, hst⟩ := crowd_pick (P := P) (w := w.at d) (sl := sl₁) (C₁.awake ha₁ (.inl hrun)) ⟨h, a, ha₁, hrun⟩
      rw [at_at'] at hst
      have Cd : Core P Γ h F t gs₁ (w.at d') q₁ := C₁.at d'
      by_cases e : i = h
      · subst e
        exact .inl ⟨gs₁, d, d', sl₁, sl', q₁, rfl, hst, hsz, ha₁, Cd⟩
      · obtain ⟨gs', ops, q', hrt, hsz', hsp, _, _, C', hlt⟩ := Core.by_step (sl := sl') Cd hi e hg
          (fun gx hgx => by rw [ha₁] at hgx; obtain rfl := Option.some.inj hgx; exact again_of_running (.inl hrun) _)
          (fun s g₂ _ _ gx hgx => by rw [ha₁] at hgx; obtain rfl := Option.some.inj hgx; exact offersAt_of_not_blocked (by rw [hrun]; simp) _ _)
        exact .inr ⟨_, _, sumTo gs'.size q', by rw [hst]; exact hrt, by rw [hsz']; omega, gs', d', sl', q', rfl, hsz'.trans hsz, by rw [hsp]; exact ha₁, C', rfl⟩)
    _ _ T ⟨gs, w.drawn, sl, q, rfl, rfl, ha, C, rfl⟩
  exact ⟨N, gs', d, d', sl', sl'', T', q', hr, hst, hsz, ha', C'⟩

/-- The holder's own step. -/
theorem Core.own (C : Core P Γ h F T gs w q) {a a' : Goroutine} {w' : World} {es : Array Event} (ha : gs[h]? = some a) (hd : DG F w w' es) :
    Core P Γ h F (T ++ MemOp.ofEvents h a.frame.fn a.frame.place es) ((gs.map (woken P a a' w')).setIfInBounds h a') w' q ∧ ((gs.map (woken P a a' w')).setIfInBounds h a')[h]? = some a' := by
  have hlt : h < gs.size := (Array.getElem?_eq_some_iff.1 ha).1
  obtain ⟨hops, hs, hdf⟩ := good_ops (i := h) (fn := a.frame.fn) (pos := a.frame.place) hd.evs
  have C' : Core P Γ h F T gs w' q := ⟨C.idle, fun i s hi e => by obtain ⟨k, hk⟩ := C.chans i s hi e; exact ⟨k, hd.chan _ _ _ _ _ _ _ hk⟩, C.inj, C.above, C.size, C.keep, fun a ha => by rw [hd.still a ha]; exact C.same a ha, C.past⟩
  refine ⟨⟨fun x y hx hy => ?_, C'.chans, C.inj, fun j hj => ?_, fun x s hx hs => by simpa using C.size x s hx hs, C.keep, C'.same, PastX.appH C.past hops (fun op hop b hb hw g x hl hS => ?_) (hdf T)⟩, Array.getElem?_setIfInBounds_self_of_lt (by simpa using hlt)⟩
  · rw [Array.getElem?_setIfInBounds_ne (fun e => hx e.symm), Array.getElem?_map] at hy
    obtain ⟨y₀, hy₀, rfl⟩ := Option.map_eq_some_iff.1 hy
    rw [woken_of_again (C'.fixed hx hy₀)]
    have hi := C.idle x y₀ hx hy₀
    cases es' : Γ x with
    | none => rw [es'] at hi; exact ⟨hi.1, by rw [Deaf_other T (fun z => hx z.symm) _ hops]; exact hi.2⟩
    | some s => rw [es'] at hi; exact hi
  · simp only [Array.size_setIfInBounds, Array.size_map] at hj
    rw [Deaf_other T (g' := h) (by omega) _ hops]
    exact C.above j hj
  · obtain ⟨hg, s, v, h1, h2⟩ := hS
    have := (C.keep g s hg h1 x v h2).1
    rw [hs op hop b hb hw x hl] at this; cases this

/-- ████ THE HOLDER's WALK, beside goroutines that wait, are on their way, or leave. ████ -/
theorem Core.hold {Stop : Goroutine → World → Prop} {a : Goroutine} (hR : Rch P (h == 0) F Stop a w) : ∀ {gs : Array Goroutine} {T : Trace} {q : Nat → Nat} {sl : Option (Nat × Nat)}, gs[h]? = some a → Core P Γ h F T gs w q →
    ∃ (N : Nat) (gs' : Array Goroutine) (a' : Goroutine) (w' : World) (sl' : Option (Nat × Nat)) (T' : Trace) (q' : Nat → Nat),
      runNT P N (crowd gs w sl) T = (.next (crowd gs' w' sl'), T') ∧ gs'[h]? = some a' ∧ Stop a' w' ∧ Core P Γ h F T' gs' w' q' := by
  induction hR with
  | @stop g w hs =>
    intro gs T q sl ha C
    exact ⟨0, gs, g, w, sl, T, q, rfl, ha, by have := hs w.drawn; exact this, C⟩
  | @steps g w g' w' es hrun h1 h2 h3 ih =>
    intro gs T q sl ha C
    obtain ⟨N, gs₁, d, d', sl₁, sl₂, T₁, q₁, hr, hst, hsz, ha₁, C₁⟩ := Core.picked (sl := sl) ha hrun C
    obtain ⟨C₂, ha₂⟩ := C₁.own (a' := g' d') ha₁ (h2 d')
    obtain ⟨N', gs', a', w'', sl', T', q', hr', ha', hS, C'⟩ := ih d' (sl := sl₂) ha₂ C₂
    have hrt := runT_crowd_go (P := P) (sl := sl₂) ha₁ (h1 d')
    exact ⟨N + 1 + N', gs', a', w'', sl', T', q', runNT_then (runNT_succ_of hr (hst.trans hrt)) hr', ha', hS, C'⟩
end
end Go.Tre

/- The token passes: a send that is met; a go statement. Every premise stands in the statements. -/
set_option linter.unusedSimpArgs false
set_option linter.unusedVariables false
namespace Go.Tre
open Go.Conc
open Go.ConcN (sumTo upd sumTo_upd upd_ne upd_same)

section
variable {P : Program} {Γ : Nat → Option Seat} {h : Nat} {F : World} {T : Trace} {gs : Array Goroutine} {w : World} {q : Nat → Nat}

/-- The holder's record is laid anew, the world standing. -/
theorem Core.setH (C : Core P Γ h F T gs w q) (x : Goroutine) {fn : FuncId} {pos : String} {es : Array Event} (hes : ∀ e ∈ es, GoodEv F e) : Core P Γ h F (T ++ MemOp.ofEvents h fn pos es) (gs.setIfInBounds h x) w q := by
  obtain ⟨hops, hs, hdf⟩ := good_ops (i := h) (fn := fn) (pos := pos) hes
  refine ⟨fun y g hy hg => ?_, C.chans, C.inj, fun j hj => ?_, fun x s hx hs => by simpa using C.size x s hx hs, C.keep, C.same, PastX.appH C.past hops (fun op hop b hb hw g x hl hS => ?_) (hdf T)⟩
  · rw [Array.getElem?_setIfInBounds_ne (fun e => hy e.symm)] at hg
    have hi := C.idle y g hy hg
    cases e : Γ y with
    | none => rw [e] at hi; exact ⟨hi.1, by rw [Deaf_other T (fun z => hy z.symm) _ hops]; exact hi.2⟩
    | some s => rw [e] at hi; exact hi
  · simp only [Array.size_setIfInBounds] at hj
    by_cases e : j = h
    · subst e; rw [hdf T]; exact C.above j hj
    · rw [Deaf_other T (fun z => e z.symm) _ hops]; exact C.above j hj
  · obtain ⟨hg, s, v, h1, h2⟩ := hS
    have := (C.keep g s hg h1 x v h2).1
    rw [hs op hop b hb hw x hl] at this; cases this

/-- What holds where the token has come to j. -/
def Given (P : Program) (Γ' : Nat → Option Seat) (j : Nat) (s : Seat) (F' : World) (k : Nat) (w : World) (v : Value) (m : Machine) (t : Trace) : Prop :=
  ∃ (gs' : Array Goroutine) (g₂ : Goroutine) (d : Nat) (sl' : Option (Nat × Nat)) (q' : Nat → Nat), m = crowd gs' ((w.at d).setChan s.c 0 #[] false (k + 1) (k + 1) false) sl' ∧ gs'[j]? = some (Go.Conc.served g₂ (recvd false v true)) ∧ s.home g₂ ∧
    Core P Γ' j F' t gs' ((w.at d).setChan s.c 0 #[] false (k + 1) (k + 1) false) q'

theorem setChan_cell {w : World} {c cap k r : Nat} {buf : Array Value} {cl tm : Bool} (hc : w.heap[c]? = some (.chan cap buf cl k r tm)) (cap' : Nat) (buf' : Array Value) (cl' : Bool) (k' r' : Nat) (tm' : Bool) (a : Addr) :
    (w.setChan c cap' buf' cl' k' r' tm').cell? a = w.cell? a ∧ (w.setChan c cap' buf' cl' k' r' tm').frozen? a = w.frozen? a := by
  by_cases e : c = a.block
  · have h1 := heap_setChan_self w hc cap' buf' cl' k' r' tm'
    rw [e] at h1 hc
    unfold World.cell? World.frozen?
    rw [← e] at h1 hc ⊢
    simp only [h1, hc]
    exact ⟨trivial, trivial⟩
  · have h1 := heap_setChan_ne w cap' buf' cl' k' r' tm' e
    unfold World.cell? World.frozen?
    rw [h1]
    exact ⟨rfl, rfl⟩

/-- ████ THE HOLDER STANDS AT A SEND ON j's CHANNEL; behind it it waits at a seat of its own, or leaves. ████ -/
theorem Core.give {a a₂ : Goroutine} {j k : Nat} {s : Seat} {v z' : Value} {es : Array Event} {sl : Option (Nat × Nat)} (C : Core P Γ h F T gs w q) (hjh : j ≠ h) (hj : Γ j = some s) (ha : gs[h]? = some a) (hrun : a.status = .running)
    (hsend : ∀ d, stepG P (h == 0) a (w.at d) = .comm a₂ #[scase s.c v z'] true .send (w.at d) es) (hes : ∀ e ∈ es, GoodEv F e) (hc : w.heap[s.c]? = some (.chan 0 #[] false k k false))
    {F' : World} {S' : Option Seat} {nh : Nat} (hafter : ∀ T', Deaf T' h = 0 → Idle P T' h nh (Go.Conc.served a₂ undef) S')
    (hkeep : ∀ i s', i ≠ j → upd Γ h S' i = some s' → s'.keeps F') (hsame : ∀ a, F'.frozen? a = true → w.cell? a = F'.cell? a)
    (hchan : ∀ s', S' = some s' → (∃ k, w.heap[s'.c]? = some (.chan 0 #[] false k k false)) ∧ ∀ i s₂, i ≠ h → i ≠ j → Γ i = some s₂ → s₂.c ≠ s'.c) :
    ∃ N m' T', runNT P N (crowd gs w sl) T = (.next m', T') ∧ Given P (upd Γ h S') j s F' k w v m' T' := by
  refine runs_until (P := P)
    (Inv := fun μ m t => Given P (upd Γ h S') j s F' k w v m t ∨ ∃ gs₁ d sl₁ q₁, ∃ pk : Bool, m = crowd gs₁ (w.at d) sl₁ ∧ gs₁.size = gs.size ∧ gs₁[h]? = some (if pk then parked a₂ #[scase s.c v z'] .send else a) ∧
      Core P Γ h F t gs₁ (w.at d) q₁ ∧ (pk = true → 0 < q₁ j) ∧ μ = sumTo gs₁.size q₁ + (if pk then 0 else 1))
    (fun μ m t hInv => ?_) _ _ T (.inr ⟨gs, w.drawn, sl, q, false, rfl, rfl, ha, C, by simp, rfl⟩)
  rcases hInv with hdone | ⟨gs₁, d, sl₁, q₁, pk, rfl, hsz, ha₁, C₁, hpk, hμ⟩
  · exact .inl hdone
  refine .inr ?_
  have hjlt : j < gs₁.size := C₁.size j s hjh hj
  obtain ⟨gj, hgj⟩ : ∃ gj, gs₁[j]? = some gj := ⟨gs₁[j]'hjlt, Array.getElem?_eq_getElem hjlt⟩
  have hlth : h < gs₁.size := (Array.getElem?_eq_some_iff.1 ha₁).1
  have hSj : Sits P (j == 0) s (q₁ j) gj := by have := C₁.idle j gj hjh hgj; rwa [hj] at this
  have hsome : ∃ (i : Nat) (g : Goroutine), gs₁[i]? = some g ∧ g.status = .running := by
    cases pk with
    | false => exact ⟨h, a, ha₁, hrun⟩
    | true => exact ⟨j, gj, hgj, (Sits.status hSj).elim (·.1) (fun z => by have := hpk rfl; omega)⟩
  obtain ⟨i, g, d', sl', hi, hg, hst⟩ := crowd_pick (P := P) (w := w.at d) (sl := sl₁) (C₁.awake ha₁ (by cases pk <;> simp [hrun, parked])) hsome
  rw [at_at'] at hst
  have Cd : Core P Γ h F t gs₁ (w.at d') q₁ := C₁.at d'
  have hcd : (w.at d').heap[s.c]? = some (.chan 0 #[] false k k false) := hc
  have fin : ∀ (gs' : Array Goroutine) (ops₀ : Array MemOp) (g₂ : Goroutine), gs'.size = gs₁.size → (∀ x, x ≠ h → x ≠ j → gs'[x]? = gs₁[x]?) → gs'[h]? = some (Go.Conc.served a₂ undef) → gs'[j]? = some (Go.Conc.served g₂ (recvd false v true)) → s.home g₂ →
      PastX (fun i a => i ≠ h ∧ ∃ s v, Γ i = some s ∧ s.still a = some v) (fun i => i = h ∨ (Γ i).isSome = true) h (t ++ ops₀) → (∀ x, Deaf (t ++ ops₀) x = Deaf t x) →
      Given P (upd Γ h S') j s F' k w v (crowd gs' ((w.at d').setChan s.c 0 #[] false (k + 1) (k + 1) false) sl') (t ++ (ops₀ ++ met h j a₂.frame.fn a₂.frame.place g₂.frame.fn g₂.frame.place s.c k 0)) := by
    intro gs' ops₀ g₂ hsz' hoth hH hJ hhome p1 hD0
    have hDeaf : ∀ x, Deaf (t ++ (ops₀ ++ met h j a₂.frame.fn a₂.frame.place g₂.frame.fn g₂.frame.place s.c k 0)) x = Deaf t x := fun x => by rw [← Array.append_assoc, Deaf_quiet (met_quiet _ _ _ _ _ _ _ _ _ x), hD0]
    have hup : ∀ x, x ≠ h → upd Γ h S' x = Γ x := fun x hx => upd_ne Γ _ hx
    have p2 := p1.give (.inl rfl) (j := j) (.inr (by rw [hj]; rfl)) a₂.frame.fn a₂.frame.place g₂.frame.fn g₂.frame.place (c := s.c) k 0
      (Still' := fun i a => i ≠ j ∧ ∃ s v, upd Γ h S' i = some s ∧ s.still a = some v) (Mem' := fun i => i = j ∨ (upd Γ h S' i).isSome = true)
      (fun g x hgj ⟨hgh, s₁, v₁, e1, e2⟩ => ⟨hgj, s₁, v₁, by rw [hup g hgh]; exact e1, e2⟩)
      (fun g x ⟨hgj, s₁, v₁, e1, e2⟩ => by
        by_cases e : g = h
        · exact .inl e
        · exact .inr ⟨e, s₁, v₁, by rw [← hup g e]; exact e1, e2⟩)
      (fun g x hS => hS.1)
      (fun g hg => by
        by_cases e : g = h
        · exact .inl e
        · rcases hg with rfl | hg
          · exact .inr (by rw [hj]; rfl)
          · exact .inr (by rw [← hup g e]; exact hg))
    rw [Array.append_assoc] at p2
    refine ⟨gs', g₂, d', sl', upd q₁ h nh, rfl, hJ, hhome, fun x y hx hy => ?_, fun i s' hi e => ?_, fun i i' s₁ s₂ hi hi' e₁ e₂ ec => ?_, fun x hx => by rw [hDeaf]; exact C₁.above x (by omega), fun i s' hi e => ?_, hkeep, fun a ha => ?_, p2⟩
    · by_cases e : x = h
      · subst e
        rw [hH] at hy
        obtain rfl := Option.some.inj hy
        rw [upd_same, upd_same]
        exact hafter _ (by rw [hDeaf]; exact C₁.past.hears x (.inl rfl))
      · rw [hoth x e hx] at hy
        rw [upd_ne q₁ nh e, hup x e]
        have hi := C₁.idle x y e hy
        cases es : Γ x with
        | none => rw [es] at hi; exact ⟨hi.1, by rw [hDeaf]; exact hi.2⟩
        | some s' => rw [es] at hi; exact hi
    · by_cases ec : s.c = s'.c
      · exact ⟨k + 1, by rw [← ec]; exact heap_setChan_self _ hcd _ _ _ _ _ _⟩
      · have : ∃ k, w.heap[s'.c]? = some (.chan 0 #[] false k k false) := by
          by_cases ei : i = h
          · subst ei
            rw [upd_same] at e
            exact (hchan s' e).1
          · rw [hup i ei] at e
            exact C.chans i s' ei e
        obtain ⟨k', hk'⟩ := this
        exact ⟨k', by rw [heap_setChan_ne _ _ _ _ _ _ _ ec]; exact hk'⟩
    · by_cases e1 : i = h <;> by_cases e2 : i' = h
      · rw [e1, e2]
      · subst e1
        rw [upd_same] at e₁; rw [hup i' e2] at e₂
        exact absurd ec.symm ((hchan s₁ e₁).2 i' s₂ e2 hi' e₂)
      · subst e2
        rw [upd_same] at e₂; rw [hup i e1] at e₁
        exact absurd ec ((hchan s₂ e₂).2 i s₁ e1 hi e₁)
      · rw [hup i e1] at e₁; rw [hup i' e2] at e₂
        exact C₁.inj i i' s₁ s₂ e1 e2 e₁ e₂ ec
    · rw [hsz']
      by_cases ei : i = h
      · subst ei; exact hlth
      · rw [hup i ei] at e; exact C₁.size i s' ei e
    · rw [(setChan_cell hcd _ _ _ _ _ _ a).1]; exact hsame a ha
  have hμpos : 0 < μ := by
    cases pk with
    | false => simp at hμ; omega
    | true =>
      have h1 := hpk rfl
      have h2 : q₁ j ≤ sumTo gs₁.size q₁ := Go.ConcN.le_sumTo (f := q₁) hjlt
      simp at hμ; omega
  by_cases e : i = h
  · -- THE HOLDER's STEP
    subst e
    cases pk with
    | true => rw [ha₁] at hi; obtain rfl := Option.some.inj hi; cases hg
    | false =>
      obtain rfl : g = a := by rw [ha₁] at hi; exact (Option.some.inj hi).symm
      obtain ⟨hops, hs, hdf⟩ := good_ops (i := i) (fn := g.frame.fn) (pos := g.frame.place) hes
      have hoff : ∀ (x : Nat) (y : Goroutine), x ≠ j → (gs₁.setIfInBounds i ph)[x]? = some y → offersAt y s.c false = [] := by
        intro x y hxj hy
        rcases getElem?_stand gs₁ i x y hy with ⟨_, rfl⟩ | ⟨hx, hy'⟩
        · exact offersAt_ph _ _
        · exact Core.noRecvAt Cd hx hy' fun s' hs' hc' => hxj (C₁.inj x j s' s hx hjh hs' hj hc')
      rcases hSj with ⟨kk, hq, hG⟩ | ⟨hq0, g₀, g₂, rfl, hat⟩
      · have hjr : gj.status = .running := hG.running
        have hp : partners (gs₁.setIfInBounds i ph) s.c false = [] := partners_nil fun x y hy => by
          by_cases hxj : x = j
          · subst hxj
            rw [stand_get hjh hgj] at hy
            obtain rfl := Option.some.inj hy
            exact offersAt_of_not_blocked (by rw [hjr]; simp) _ _
          · exact hoff x y hxj hy
        have hw : ∀ cc ∈ #[scase s.c v z'], NoWays (w.at d') (gs₁.setIfInBounds i ph) cc := by
          intro cc hcc
          simp only [List.mem_toArray, List.mem_cons, List.not_mem_nil, or_false] at hcc
          subst hcc
          exact ways_send_none hcd (Nat.le_refl _) hp
        exact ⟨_, _, sumTo gs₁.size q₁ + 0, by rw [hst]; exact crowd_waits (sl := sl') hi (hsend d') hw, by simp at hμ; omega, .inr ⟨_, d', sl', q₁, true, rfl, by simpa using hsz, Array.getElem?_setIfInBounds_self_of_lt hlth, Cd.setH _ hes, fun _ => by omega, by simp⟩⟩
      · have hp : partners (gs₁.setIfInBounds i ph) s.c false = [(j, 0)] := by
          rw [partners_one (stand_get hjh hgj) fun x y hxj hy => hoff x y hxj hy]
          show (offersAt (parked g₂ #[rcase s.c s.z] (.recv false)) s.c false).map _ = _
          rw [offersAt_parked_recv, if_pos rfl]; rfl
        refine ⟨_, _, 0, by rw [hst]; exact crowd_send_meets (sl := sl') (zj := s.z) (shj := .recv false) (gj := g₂) hi (hsend d') hcd hjh hgj hp, hμpos, .inl ?_⟩
        exact fin _ _ g₂ (by simp) (fun x hx hxj => by rw [Array.getElem?_setIfInBounds_ne (fun z => hx z.symm), Array.getElem?_setIfInBounds_ne (fun z => hxj z.symm)]) (Array.getElem?_setIfInBounds_self_of_lt (by simpa using hlth))
          (by rw [Array.getElem?_setIfInBounds_ne (fun z => hjh z.symm), Array.getElem?_setIfInBounds_self_of_lt hjlt, Go.Conc.finishComm_served, commResult_one]) hat.home (PastX.appH C₁.past hops (fun op hop b hb hw g x hl hS => by
            obtain ⟨hg, s, v, h1, h2⟩ := hS
            have := (C₁.keep g s hg h1 x v h2).1
            rw [hs op hop b hb hw x hl] at this; cases this) (hdf t))
          (fun x => by
            by_cases ex : x = i
            · subst ex; exact hdf t
            · exact Deaf_other t (fun z => ex z.symm) _ hops)
  · by_cases ej : i = j ∧ pk = true ∧ ∃ g₂, AtR P (i == 0) s g g₂
    · -- j COMES TO ITS RECEIVE AND MEETS THE PARKED HOLDER
      obtain ⟨rfl, rfl, g₂, hat⟩ := ej
      obtain ⟨esj, hesj, hstp⟩ := hat.comm
      obtain ⟨hops, hr, hd⟩ := evS_ops (i := i) (fn := g.frame.fn) (pos := g.frame.place) hesj
      have hp : partners (gs₁.setIfInBounds i ph) s.c true = [(h, 0)] := by
        rw [partners_one (stand_get (Ne.symm hjh) ha₁) fun x y hxh hy => by
          rcases getElem?_stand gs₁ i x y hy with ⟨_, rfl⟩ | ⟨_, hy'⟩
          · exact offersAt_ph _ _
          · exact Core.noSend Cd hxh hy' _]
        simp [offersAt_parked_send]
      refine ⟨_, _, 0, by rw [hst]; exact crowd_recv_meets (sl := sl') hi (hstp _ (Cd.rely hjh hj)) hcd (Ne.symm hjh) ha₁ hp, hμpos, .inl ?_⟩
      exact fin _ _ g₂ (by simp) (fun x hx hxj => by rw [Array.getElem?_setIfInBounds_ne (fun z => hxj z.symm), Array.getElem?_setIfInBounds_ne (fun z => hx z.symm)])
        (by rw [Array.getElem?_setIfInBounds_ne hjh, Array.getElem?_setIfInBounds_self_of_lt hlth, finishComm_send]) (by rw [Array.getElem?_setIfInBounds_self_of_lt (by simpa using hjlt), Go.Conc.finishComm_served, commResult_one]) hat.home
        (PastX.appRead C₁.past hops (fun op hop b hb => ⟨(hr op hop b hb).1, let ⟨x, y, v, z⟩ := (hr op hop b hb).2; ⟨x, y, hjh, s, v, hj, z⟩⟩) (hd t))
        (fun x => by
          by_cases ex : x = i
          · subst ex; exact hd t
          · exact Deaf_other t (fun z => ex z.symm) _ hops)
    · -- A BYSTANDER's STEP
      obtain ⟨gs', ops, q', hrt, hsz', hsp, hqo, hq0, C', hlt⟩ := Core.by_step (sl := sl') Cd hi e hg
        (fun gx hgx => by
          rw [ha₁] at hgx; obtain rfl := Option.some.inj hgx
          cases pk with
          | false => exact again_of_running (.inl hrun) _
          | true => exact again_send_open hcd)
        (fun s' g₂ hs' hat gx hgx => by
          rw [ha₁] at hgx; obtain rfl := Option.some.inj hgx
          cases pk with
          | false => exact offersAt_of_not_blocked (by simp [hrun]) _ _
          | true =>
            simp only [if_true]
            rw [offersAt_parked_send, if_neg]
            intro ec
            have hij : i = j := C₁.inj i j s' s e hjh hs' hj ec.symm
            subst hij
            rw [hj] at hs'
            obtain rfl := Option.some.inj hs'
            exact ej ⟨rfl, rfl, g₂, hat⟩)
      refine ⟨_, _, sumTo gs'.size q' + (if pk then 0 else 1), by rw [hst]; exact hrt, by rw [hsz']; omega, .inr ⟨gs', d', sl', q', pk, rfl, hsz'.trans hsz, by rw [hsp]; exact ha₁, C', fun hp => ?_, rfl⟩⟩
      subst hp
      by_cases hij : j = i
      · subst hij
        rcases Nat.eq_zero_or_pos (q' j) with h0 | h0
        · obtain ⟨g₂, hat⟩ := hq0 s hj h0
          exact absurd ⟨rfl, rfl, g₂, hat⟩ ej
        · exact h0
      · rw [hqo j hij]; exact hpk rfl

/-- ████ A go STATEMENT: the child waits at a seat of its own, or is on its way there. ████ -/
theorem Core.hire {a a' child : Goroutine} {es : Array Event} {sl : Option (Nat × Nat)} (C : Core P Γ h F T gs w q) (ha : gs[h]? = some a) (hrun : a.status = .running)
    (hgo : ∀ d, stepG P (h == 0) a (w.at d) = .spawn a' child (w.at d) es) (hes : ∀ e ∈ es, GoodEv F e) (sn : Seat) (hcn : ∃ k, w.heap[sn.c]? = some (.chan 0 #[] false k k false)) (hfresh : ∀ i s, i ≠ h → Γ i = some s → s.c ≠ sn.c)
    {F' : World} (hF : ∀ a, F.frozen? a = true → F'.frozen? a = true ∧ F'.cell? a = F.cell? a) (hkeep : sn.keeps F') (hsame : ∀ a, F'.frozen? a = true → w.cell? a = F'.cell? a) {nc : Nat} (hchild : Sits P false sn nc child) :
    ∃ (N : Nat) (gs' : Array Goroutine) (d : Nat) (sl' : Option (Nat × Nat)) (T' : Trace) (q' : Nat → Nat) (c : Nat), runNT P N (crowd gs w sl) T = (.next (crowd gs' (w.at d) sl'), T') ∧ gs'[h]? = some a' ∧ c ≠ h ∧ c ≠ 0 ∧ Γ c = none ∧
      Core P (upd Γ c (some sn)) h F' T' gs' (w.at d) q' := by
  obtain ⟨N, gs₁, d, d', sl₁, sl₂, T₁, q₁, hr, hst, hsz, ha₁, C₁⟩ := Core.picked (sl := sl) ha hrun C
  have hlt : h < gs₁.size := (Array.getElem?_eq_some_iff.1 ha₁).1
  obtain ⟨hops, hs, hdf⟩ := good_ops (i := h) (fn := a.frame.fn) (pos := a.frame.place) hes
  have hrt := runT_crowd_spawn (P := P) (sl := sl₂) ha₁ (hgo d')
  have hpush : ((MemOp.ofEvents h a.frame.fn a.frame.place es).push { g := h, fn := a.frame.fn, pos := a.frame.place, act := .go gs₁.size } |>.push { g := gs₁.size, fn := child.frame.fn, pos := a.frame.place, act := .start }) =
      MemOp.ofEvents h a.frame.fn a.frame.place es ++ #[{ g := h, fn := a.frame.fn, pos := a.frame.place, act := .go gs₁.size }, { g := gs₁.size, fn := child.frame.fn, pos := a.frame.place, act := .start }] := by
    apply Array.ext'; simp
  rw [hpush] at hrt
  have hne : gs₁.size ≠ h := by omega
  have hnone : Γ gs₁.size = none := by
    cases e : Γ gs₁.size with
    | none => rfl
    | some s => exact absurd (C₁.size _ s hne e) (by omega)
  have p1 := (C₁.setH a' (fn := a.frame.fn) (pos := a.frame.place) hes).past
  have hD1 : ∀ x, Deaf (T₁ ++ MemOp.ofEvents h a.frame.fn a.frame.place es) x = Deaf T₁ x := fun x => by
    by_cases ex : x = h
    · subst ex; exact hdf T₁
    · exact Deaf_other T₁ (fun z => ex z.symm) _ hops
  have hup : ∀ x, x ≠ gs₁.size → upd Γ gs₁.size (some sn) x = Γ x := fun x hx => upd_ne Γ _ hx
  have p2 := p1.hire (c := gs₁.size) (.inl rfl) (by rw [hD1]; exact C₁.above _ (Nat.le_refl _)) a.frame.fn a.frame.place child.frame.fn
    (Still' := fun i a => i ≠ h ∧ ∃ s v, upd Γ gs₁.size (some sn) i = some s ∧ s.still a = some v) (Mem' := fun i => i = h ∨ (upd Γ gs₁.size (some sn) i).isSome = true)
    (fun g x ⟨hg, s, v, e1, e2⟩ => ⟨hg, s, v, by
      rw [hup g (fun e => by subst e; rw [hnone] at e1; cases e1)]; exact e1, e2⟩)
    (fun g x ⟨hg, s, v, e1, e2⟩ => by
      by_cases e : g = gs₁.size
      · exact .inl e
      · exact .inr ⟨hg, s, v, by rw [← hup g e]; exact e1, e2⟩)
    (fun g hg => by
      by_cases e : g = gs₁.size
      · exact .inr e
      · exact .inl (hg.imp id fun z => by rw [← hup g e]; exact z))
  rw [Array.append_assoc] at p2
  have hD2 : ∀ x, Deaf (T₁ ++ (MemOp.ofEvents h a.frame.fn a.frame.place es ++ #[{ g := h, fn := a.frame.fn, pos := a.frame.place, act := .go gs₁.size }, { g := gs₁.size, fn := child.frame.fn, pos := a.frame.place, act := .start }])) x = Deaf T₁ x := fun x => by
    rw [← Array.append_assoc, Deaf_quiet (fun op hop d => by
      simp only [List.mem_toArray, List.mem_cons, List.not_mem_nil, or_false] at hop
      rcases hop with rfl | rfl <;> rfl), hD1]
  refine ⟨N + 1, _, d', sl₂, _, upd q₁ gs₁.size nc, gs₁.size, runNT_succ_of hr (hst.trans hrt), (by rw [Array.getElem?_push, if_neg (by simp; omega)]; exact Array.getElem?_setIfInBounds_self_of_lt hlt), hne, by omega, hnone, ?_⟩
  refine ⟨fun x y hx hy => ?_, fun i s hi e => ?_, fun i i' s₁ s₂ hi hi' e₁ e₂ ec => ?_, fun x hx => ?_, fun i s hi e => ?_, fun i s hi e => ?_, hsame, p2⟩
  · by_cases ex : x = gs₁.size
    · subst ex
      rw [Array.getElem?_push, if_pos (by simp)] at hy
      obtain rfl := Option.some.inj hy
      rw [upd_same, upd_same]
      have : (gs₁.size == 0) = false := by rw [beq_eq_false_iff_ne]; omega
      show Sits P (gs₁.size == 0) sn nc child
      rw [this]; exact hchild
    · have hxl : x < gs₁.size := by
        have := (Array.getElem?_eq_some_iff.1 hy).1
        simp at this; omega
      rw [Array.getElem?_push, if_neg (by simp; omega), Array.getElem?_setIfInBounds_ne (fun z => hx z.symm)] at hy
      rw [upd_ne q₁ nc ex, hup x ex]
      have hi := C₁.idle x y hx hy
      cases e : Γ x with
      | none => rw [e] at hi; exact ⟨hi.1, by rw [hD2]; exact hi.2⟩
      | some s => rw [e] at hi; exact hi
  · by_cases ei : i = gs₁.size
    · subst ei
      rw [upd_same] at e
      obtain rfl := Option.some.inj e
      exact hcn
    · rw [hup i ei] at e
      exact C₁.chans i s hi e
  · by_cases e1 : i = gs₁.size <;> by_cases e2 : i' = gs₁.size
    · rw [e1, e2]
    · subst e1
      rw [upd_same] at e₁; rw [hup i' e2] at e₂
      obtain rfl := Option.some.inj e₁
      exact absurd ec.symm (hfresh i' s₂ hi' e₂)
    · subst e2
      rw [upd_same] at e₂; rw [hup i e1] at e₁
      obtain rfl := Option.some.inj e₂
      exact absurd ec (hfresh i s₁ hi e₁)
    · rw [hup i e1] at e₁; rw [hup i' e2] at e₂
      exact C₁.inj i i' s₁ s₂ hi hi' e₁ e₂ ec
  · rw [hD2]
    exact C₁.above x (by simp at hx; omega)
  · by_cases ei : i = gs₁.size
    · subst ei; simp
    · rw [hup i ei] at e
      have := C₁.size i s hi e
      simp; omega
  · by_cases ei : i = gs₁.size
    · subst ei
      rw [upd_same] at e
      obtain rfl := Option.some.inj e
      exact hkeep
    · rw [hup i ei] at e
      intro a v ha
      obtain ⟨z1, z2⟩ := C₁.keep i s hi e a v ha
      exact ⟨(hF a z1).1, (hF a z1).2.trans z2⟩
end
end Go.Tre

/- The judgement: from this record of the holder's, this ghost and these seats the run comes to its good end. Every premise stands in the statements. -/
set_option linter.unusedSimpArgs false
set_option linter.unusedVariables false
namespace Go.Tre
open Go.Conc
open Go.ConcN (sumTo upd sumTo_upd upd_ne upd_same)

/-- The run ends well. -/
def Ev (P : Program) (Φ : Value → World → Prop) (m : Machine) (t : Trace) : Prop :=
  ∃ N last o w' t', runNT P (N + 1) m t = (.ended o w', t') ∧ runN P N m = .next last ∧ step P last = .ended o w' ∧ Good P Φ last o w' t'
theorem Ev.of_run {P : Program} {Φ : Value → World → Prop} {N : Nat} {m m' : Machine} {t t' : Trace} (h : runNT P N m t = (.next m', t')) (he : Ev P Φ m' t') : Ev P Φ m t := by
  obtain ⟨M, last, o, w', t'', e1, e2, e3, e4⟩ := he
  refine ⟨N + M, last, o, w', t'', ?_, ?_, e3, e4⟩
  · rw [Nat.add_assoc, runNT_add, h]; exact e1
  · rw [runN_add, ← runNT_fst P _ _ t, h]; exact e2

section
variable [Base]
/-- ████ ALL IS WELL FROM HERE. ████ -/
def Ok (P : Program) (Φ : Value → World → Prop) (h : Nat) (a : Goroutine) (g : World) (Γ : Nat → Option Seat) : Prop :=
  ∀ gs w sl T q, gs[h]? = some a → Sim w g → Core P Γ h g T gs w q → Ev P Φ (crowd gs w sl) T

section
variable {P : Program} {Φ : Value → World → Prop} {h : Nat} {a : Goroutine} {g : World} {Γ : Nat → Option Seat}

omit [Base] in
theorem Seat.keeps.grow {s : Seat} {g g' : World} (hk : s.keeps g) (hg : Grow g g') : s.keeps g' := fun a v ha => by
  obtain ⟨h1, h2⟩ := hk a v ha
  exact ⟨(hg.frozen a h1).1, (hg.frozen a h1).2.trans h2⟩

/-- Another ghost. -/
theorem Ok.ghost {g' : World} (hg : ∀ w, Sim w g → Sim w g') (hk : ∀ i s, i ≠ h → Γ i = some s → s.keeps g → s.keeps g') (hn : Ok P Φ h a g' Γ) : Ok P Φ h a g Γ := fun gs w sl T q ha hs C =>
  hn gs w sl T q ha (hg w hs) ⟨C.idle, C.chans, C.inj, C.above, C.size, fun i s hi e => hk i s hi e (C.keep i s hi e), fun x _ => ((hg w hs).cell? x).symm, C.past⟩

/-- What the frame knows of the channels of those who wait. -/
theorem Ok.chans (hn : (∀ i s, i ≠ h → Γ i = some s → ∃ k, g.heap[s.c]? = some (.chan 0 #[] false k k false)) → (∀ i i' s s', i ≠ h → i' ≠ h → Γ i = some s → Γ i' = some s' → s.c = s'.c → i = i') → Ok P Φ h a g Γ) : Ok P Φ h a g Γ := fun gs w sl T q ha hs C =>
  hn (fun i s hi e => by obtain ⟨k, hk⟩ := C.chans i s hi e; exact ⟨k, hs.chan hk⟩) C.inj gs w sl T q ha hs C
/-- Own steps. -/
theorem Ok.rch (hR : ∀ w, Sim w g → Rch P (h == 0) g (fun a' w' => ∃ g', Sim w' g' ∧ Grow g g' ∧ Ok P Φ h a' g' Γ) a w) : Ok P Φ h a g Γ := by
  intro gs w sl T q ha hs C
  obtain ⟨N, gs', a', w', sl', T', q', hr, ha', ⟨g', hs', hg, hok⟩, C'⟩ := Core.hold (hR w hs) (sl := sl) ha C
  exact Ev.of_run hr (hok gs' w' sl' T' q' ha' hs' ⟨C'.idle, C'.chans, C'.inj, C'.above, C'.size, fun i s hi e => (C'.keep i s hi e).grow hg, fun x _ => (hs'.cell? x).symm, C'.past⟩)

/-- One own step that turns nothing. -/
theorem Ok.ctl {a' : Goroutine} (hrun : a.status = .running) (h1 : ∀ w, Sim w g → ∃ es, stepG P (h == 0) a w = .go a' w es ∧ ∀ e ∈ es, GoodEv g e) (hn : Ok P Φ h a' g Γ) : Ok P Φ h a g Γ :=
  .rch fun w hs => Rch.step hrun fun d => by
    obtain ⟨es, e1, e2⟩ := h1 (w.at d) ⟨hs.size, hs.obj, hs.os, hs.output, hs.fresh, hs.old⟩
    exact ⟨a', w.at d, es, e1, ⟨e2, fun _ _ => rfl, fun _ _ _ _ _ _ _ h => h, Nat.le_refl _⟩, .stop fun d' => ⟨g, ⟨hs.size, hs.obj, hs.os, hs.output, hs.fresh, hs.old⟩, .refl g, hn⟩⟩
theorem Ok.ctl0 {a' : Goroutine} (hrun : a.status = .running) (h1 : ∀ w, stepG P (h == 0) a w = .go a' w #[]) (hn : Ok P Φ h a' g Γ) : Ok P Φ h a g Γ :=
  .ctl hrun (fun w _ => ⟨#[], h1 w, by simp⟩) hn

theorem Sim.setChan {w g : World} (h : Sim w g) (c cap : Nat) (buf : Array Value) (cl : Bool) (s r : Nat) (t : Bool) : Sim (w.setChan c cap buf cl s r t) (g.setChan c cap buf cl s r t) := h.setObj c _ trivial

/-- ████ THE TOKEN PASSES. ████ -/
theorem Ok.give {a₂ : Goroutine} {j k : Nat} {s : Seat} {v z' : Value} {es : Array Event} (hj : Γ j = some s) (hjh : j ≠ h) (hrun : a.status = .running)
    (hsend : ∀ w, Sim w g → stepG P (h == 0) a w = .comm a₂ #[scase s.c v z'] true .send w es) (hes : ∀ e ∈ es, GoodEv g e) (hc : g.heap[s.c]? = some (.chan 0 #[] false k k false))
    {g' : World} {S' : Option Seat} {nh : Nat} (hafter : ∀ T', Deaf T' h = 0 → Idle P T' h nh (Go.Conc.served a₂ undef) S')
    (hg : ∀ w, Sim w g → Sim w g') (hkeep : ∀ i s', i ≠ h → i ≠ j → Γ i = some s' → s'.keeps g → s'.keeps g') (hkeep' : ∀ s', S' = some s' → s'.keeps g')
    (hchan : ∀ s', S' = some s' → (∃ k, g.heap[s'.c]? = some (.chan 0 #[] false k k false)) ∧ ∀ i s₂, i ≠ h → i ≠ j → Γ i = some s₂ → s₂.c ≠ s'.c)
    (hn : ∀ g₂, s.home g₂ → s.keeps g → Ok P Φ j (Go.Conc.served g₂ (recvd false v true)) (g'.setChan s.c 0 #[] false (k + 1) (k + 1) false) (upd Γ h S')) : Ok P Φ h a g Γ := by
  intro gs w sl T q ha hs C
  have hat : ∀ d, Sim (w.at d) g := fun d => ⟨hs.size, hs.obj, hs.os, hs.output, hs.fresh, hs.old⟩
  have hcw : w.heap[s.c]? = some (.chan 0 #[] false k k false) := hs.other hc (by simp)
  obtain ⟨N, m', T', hr, gs', g₂, d, sl', q', rfl, ha', hhome, C'⟩ := C.give (sl := sl) (F' := g') (S' := S') (nh := nh) hjh hj ha hrun (fun d => hsend _ (hat d)) hes hcw hafter
    (fun i s' hij e => by
      by_cases ei : i = h
      · subst ei; rw [upd_same] at e; exact hkeep' s' e
      · rw [upd_ne Γ _ ei] at e; exact hkeep i s' ei hij e (C.keep i s' ei e))
    (fun x _ => ((hg w hs).cell? x).symm)
    (fun s' e => ⟨(hchan s' e).1.elim fun k hk => ⟨k, hs.other hk (by simp)⟩, (hchan s' e).2⟩)
  have hcg' : g'.heap[s.c]? = some (.chan 0 #[] false k k false) := (hg w hs).chan hcw
  refine Ev.of_run hr (hn g₂ hhome (C.keep j s hjh hj) gs' _ sl' T' q' ha' ((hg _ (hat d)).setChan _ _ _ _ _ _ _) ⟨C'.idle, C'.chans, C'.inj, C'.above, C'.size, fun i s' hi e x v hx => ?_, fun x _ => ?_, C'.past⟩)
  · obtain ⟨h1, h2⟩ := C'.keep i s' hi e x v hx
    rw [(setChan_cell hcg' _ _ _ _ _ _ x).2, (setChan_cell hcg' _ _ _ _ _ _ x).1]
    exact ⟨h1, h2⟩
  · exact (((hg _ (hat d)).setChan _ _ _ _ _ _ _).cell? x).symm

/-- ████ A GOROUTINE IS STARTED. ████ -/
theorem Ok.hire {a' child : Goroutine} {es : Array Event} (hrun : a.status = .running) (hgo : ∀ w, Sim w g → stepG P (h == 0) a w = .spawn a' child w es) (hes : ∀ e ∈ es, GoodEv g e)
    (sn : Seat) (hcn : ∃ k, g.heap[sn.c]? = some (.chan 0 #[] false k k false)) (hfresh : ∀ i s, i ≠ h → Γ i = some s → s.c ≠ sn.c)
    {g' : World} (hg : ∀ w, Sim w g → Sim w g') (hF : ∀ a, g.frozen? a = true → g'.frozen? a = true) (hkeep : sn.keeps g') {nc : Nat} (hchild : Sits P false sn nc child)
    (hn : ∀ c, c ≠ h → c ≠ 0 → Γ c = none → Ok P Φ h a' g' (upd Γ c (some sn))) : Ok P Φ h a g Γ := by
  intro gs w sl T q ha hs C
  have hat : ∀ d, Sim (w.at d) g := fun d => ⟨hs.size, hs.obj, hs.os, hs.output, hs.fresh, hs.old⟩
  obtain ⟨N, gs', d, sl', T', q', c, hr, ha', h1, h2, h3, C'⟩ := C.hire (sl := sl) (F' := g') ha hrun (fun d => hgo _ (hat d)) hes sn (hcn.elim fun k hk => ⟨k, hs.other hk (by simp)⟩) hfresh
    (fun x hx => ⟨hF x hx, by rw [(hg w hs).cell?, hs.cell?]⟩) hkeep (fun x _ => ((hg w hs).cell? x).symm) hchild
  exact Ev.of_run hr (hn c h1 h2 h3 gs' _ sl' T' q' ha' (hg _ (hat d)) C')

/-- The end. -/
theorem Ok.finish (h0 : h = 0) (hΓ : ∀ i, i ≠ 0 → Γ i = none) (hrun : a.status = .running) (hend : ∀ w, Sim w g → ∃ v es, stepG P true a w = .ended (.done v) w es ∧ (∀ e ∈ es, GoodEv g e) ∧ Φ v w) : Ok P Φ h a g Γ := by
  subst h0
  intro gs w sl T q ha hs C
  have hat : ∀ d, Sim (w.at d) g := fun d => ⟨hs.size, hs.obj, hs.os, hs.output, hs.fresh, hs.old⟩
  obtain ⟨N, gs₁, d, d', sl₁, sl₂, T₁, q₁, hr, hst, hsz, ha₁, C₁⟩ := Core.picked (sl := sl) ha hrun C
  obtain ⟨v, es, h1, h2, h3⟩ := hend _ (hat d')
  obtain ⟨hops, hs', hdf⟩ := good_ops (i := 0) (fn := a.frame.fn) (pos := a.frame.place) h2
  have hnoS : ∀ g x, ¬ (g ≠ 0 ∧ ∃ s v, Γ g = some s ∧ s.still x = some v) := fun g x ⟨hg, s, v, e, _⟩ => by rw [hΓ g hg] at e; cases e
  have past := PastX.appH C₁.past hops (fun op hop b hb hw g x hl hS => absurd hS (hnoS g x)) (hdf T₁)
  obtain ⟨B, hP⟩ := past.toPast (.inl rfl) hnoS
  have hrt := runT_many_ended (P := P) (sl := sl₂) (i := 0) ha₁ (show stepG P (0 == 0) a (w.at d') = _ from h1)
  have hD : ∀ j, j ≠ 0 → Deaf (T₁ ++ MemOp.ofEvents 0 a.frame.fn a.frame.place es) j = Deaf T₁ j := fun j hj => Deaf_other T₁ (g := j) (g' := 0) (Ne.symm hj) _ hops
  have hq : ∀ j x, j ≠ 0 → gs₁[j]? = some x → QuitsD P (q₁ j) (Deaf T₁ j) x := fun j x hj hx => by
    have := C₁.idle j x hj hx
    rw [hΓ j hj] at this
    exact this.2
  refine Ev.of_run hr ⟨0, crowd gs₁ (w.at d) sl₁, .done v, w.at d', T₁ ++ MemOp.ofEvents 0 a.frame.fn a.frame.place es, ?_, rfl, ?_, v, rfl, h3, hP.clean, hP.over, ⟨fun x hx => ?_, rfl⟩, fun j x hx hj => ?_⟩
  · simp only [runNT, hst, hrt]
  · have h1 : runN P 1 (crowd gs₁ (w.at d) sl₁) = .ended (.done v) (w.at d') := by
      rw [← runNT_fst P 1 _ T₁]
      simp only [runNT, hst, hrt]
    simp only [runN] at h1
    cases hs1 : step P (crowd gs₁ (w.at d) sl₁) with
    | next m' => rw [hs1] at h1; cases h1
    | ended o w' => rw [hs1] at h1; exact h1
  · obtain ⟨j, hj⟩ := List.mem_iff_getElem?.1 hx
    rw [List.getElem?_drop] at hj
    exact ⟨_, (hq (1 + j) x (by omega) (by simpa [crowd] using hj)).leaves⟩
  · refine ⟨q₁ j, ?_⟩
    show x.endsWith P _ _ (Deaf _ j) = _
    rw [hD j hj]
    exact (hq j x hj hx).hears _

/-- The beginning: goroutine 0 alone. -/
theorem Ok.start {a : Goroutine} {w : World} (hb : w.heap.size = Base.b0) (hok : Ok P Φ 0 a w (fun _ => none)) : Ev P Φ (solo a w) #[] := by
  rw [solo_eq_crowd]
  refine hok #[a] w none #[] (fun _ => 0) rfl (.refl w (by omega)) ⟨fun i g hi hg => ?_, fun _ _ _ h => (by cases h), fun _ _ _ _ _ _ h => (by cases h), fun _ _ => rfl, fun _ _ _ h => (by cases h), fun _ _ _ h => (by cases h), fun _ _ => rfl, ?_⟩
  · have : i < 1 := by simpa using (Array.getElem?_eq_some_iff.1 hg).1
    omega
  · exact (PastX.nil (Still := fun _ _ => False)).loosen (fun _ _ h => h.elim) (fun _ _ h => by obtain ⟨_, _, _, h, _⟩ := h; cases h) (fun g hg => by rcases hg with h | h; exact h; cases h)
end
end
end Go.Tre
