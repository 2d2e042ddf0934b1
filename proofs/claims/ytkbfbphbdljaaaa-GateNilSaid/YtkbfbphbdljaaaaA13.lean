/- Texts of one proof, joined: each says what it proves. Every premise stands in the statements. -/
import Derived.Test.YtkbfbphbdljaaaaA11
import Derived.WalkKit
/- Memory that has turned at some places alone. Every premise stands in the statements. -/
set_option linter.unusedSimpArgs false
set_option linter.unusedVariables false
namespace Go.Tre

/-- m' is m but at the places W (and new blocks). -/
structure Upto (W : Addr → Prop) (m m' : World) : Prop where
  size : m.heap.size ≤ m'.heap.size
  cell : ∀ a v, m.cell? a = some v → ¬ W a → m'.cell? a = some v
  obj : ∀ b o, m.heap[b]? = some o → (∀ c e f, o ≠ .cells c e f) → ¬ W ⟨b, 0, none⟩ → m'.heap[b]? = some o
  row : ∀ b c e f, m.heap[b]? = some (.cells c e f) → (∀ i, ¬ W ⟨b, i, none⟩) → ∃ f', m'.heap[b]? = some (.cells c e f')

section
variable {W : Addr → Prop} {m m' m'' : World}
theorem Upto.refl : Upto W m m := ⟨Nat.le_refl _, fun _ _ h _ => h, fun _ _ h _ _ => h, fun _ _ _ f h _ => ⟨f, h⟩⟩
theorem Upto.trans (h : Upto W m m') (k : Upto W m' m'') : Upto W m m'' :=
  ⟨Nat.le_trans h.size k.size, fun a v hv hw => k.cell a v (h.cell a v hv hw) hw, fun b o hb hn hw => k.obj b o (h.obj b o hb hn hw) hn hw, fun b c e f hb hw => let ⟨f', h'⟩ := h.row b c e f hb hw; k.row b c e f' h' hw⟩
theorem Upto.mono {W' : Addr → Prop} (h : Upto W m m') (hw : ∀ a, W a → W' a) : Upto W' m m' :=
  ⟨h.size, fun a v hv hn => h.cell a v hv fun z => hn (hw a z), fun b o hb hn hw' => h.obj b o hb hn fun z => hw' (hw _ z), fun b c e f hb hw' => h.row b c e f hb fun i z => hw' i (hw _ z)⟩
theorem Upto.of_heap (e : m'.heap = m.heap) : Upto W m m' := by
  refine ⟨by rw [e]; exact Nat.le_refl _, fun a v hv _ => ?_, fun b o hb _ _ => by rw [e]; exact hb, fun b c e' f hb _ => ⟨f, by rw [e]; exact hb⟩⟩ <;> (unfold World.cell? at hv ⊢; rw [e]; exact hv)
theorem Upto.heap (h : Upto W m m') (e : m''.heap = m'.heap) : Upto W m m'' := h.trans (.of_heap e)
theorem Upto.setCell {a : Addr} {v : Value} (ha : W a) : Upto W m (m.setCell a v) := by
  refine ⟨by simp [World.setCell], fun x y hy hw => ?_, fun b o hb hn hw => ?_, fun b c e f hb hw => ?_⟩
  · exact (World.cell?_setCell_other m a x v (fun e => hw (e ▸ ha))).trans hy
  · rw [setCell_get]
    split
    · rw [hb]
      cases o <;> first | rfl | exact absurd rfl (hn _ _ _)
    · exact hb
  · rw [setCell_get]
    split
    · rename_i hbb
      rw [hb]
      cases hsp : a.spot with
      | none =>
        exfalso
        obtain ⟨ab, ao, aq⟩ := a
        simp only at hsp hbb
        subst hsp; subst hbb
        exact hw ao ha
      | some _ => exact ⟨f, by simp⟩
    · exact ⟨f, hb⟩
theorem Upto.set {a : Addr} {v : Value} (h : Upto W m m') (ha : W a) : Upto W m (m'.setCell a v) := h.trans (.setCell ha)
theorem Upto.drew (h : Upto W m m') : Upto W m m'.drew := h.heap rfl
theorem heap_alloc_lt {o : Obj} {b : Nat} (hlt : b < m.heap.size) : (m.alloc o).heap[b]? = m.heap[b]? := by
  show (m.heap.push o)[b]? = m.heap[b]?
  rw [Array.getElem?_push, if_neg (by omega)]
theorem Upto.alloc {o : Obj} : Upto W m (m.alloc o) := by
  have cell : ∀ a v, m.cell? a = some v → (m.alloc o).cell? a = some v := fun a v hv => (World.cell?_alloc_lt _ _ _ (World.block_lt_of_cell? m a hv)).trans hv
  exact ⟨by show m.heap.size ≤ (m.heap.push o).size; simp, fun a v hv _ => cell a v hv, fun b x hx _ _ => by
    have hlt := (Array.getElem?_eq_some_iff.1 hx).1
    rw [heap_alloc_lt hlt]; exact hx, fun b c e f hx _ => ⟨f, by
    have hlt := (Array.getElem?_eq_some_iff.1 hx).1
    rw [heap_alloc_lt hlt]; exact hx⟩⟩
theorem Upto.chan (h : Upto W m m') {c cap : Nat} {buf : Array Value} {cl : Bool} {s r : Nat} {t : Bool} (hc : m.heap[c]? = some (.chan cap buf cl s r t)) (hw : ¬ W ⟨c, 0, none⟩) : m'.heap[c]? = some (.chan cap buf cl s r t) := h.obj c _ hc (by simp) hw
/-- What an append leaves. -/
theorem Upto.grown {r : Option Nat} (h : m.grownBy m' r) (hw : ∀ a, some a.block = r → W a) : Upto W m m' := by
  have hb : ∀ b i, ¬ W ⟨b, i, none⟩ → b < m.heap.size → m'.heap[b]? = m.heap[b]? := fun b i hn hlt => h.block b hlt fun e => hn (hw _ e)
  refine ⟨h.size, fun a v hv hn => ?_, fun b o hbo _ hn => ?_, fun b c e f hbo hn => ⟨f, ?_⟩⟩
  · exact (World.cell?_of_block (h.block a.block (World.block_lt_of_cell? m a hv) fun e => hn (hw a e))).trans hv
  · rw [hb b 0 hn (Array.getElem?_eq_some_iff.1 hbo).1]; exact hbo
  · rw [hb b 0 (hn 0) (Array.getElem?_eq_some_iff.1 hbo).1]; exact hbo
section
variable [Base]
theorem Upto.gh {O : Own} {h : Nat} : Upto W m (O.gh h m) := ⟨by rw [gh_size]; exact Nat.le_refl _, fun a v hv _ => by rw [gh_cell]; exact hv, fun b o hb hn _ => gh_other hb hn, fun b c e f hb _ => by rw [gh_get, hb]; simp only [Option.map_some, Own.obj]; split <;> exact ⟨_, rfl⟩⟩
theorem Upto.ofGh {O : Own} {h : Nat} (k : Upto W (O.gh h m) m') : Upto W m m' := Upto.gh.trans k
end
end
end Go.Tre

/- Lists of a run: rows that are everybody's. Every premise stands in the statements. -/
set_option linter.unusedSimpArgs false
set_option linter.unusedVariables false
namespace Go.Tre
variable [Base]

/-- A slice whose block is everybody's (or nil). -/
def Row (O : Own) (m : World) (e : TypeId) (size : Nat) (v : Value) (n : Nat) (xs : List Value) : Prop :=
  xs.length = n * size ∧
  ((v = .slice none 0 0 ∧ n = 0) ∨
   ∃ g cap cur f, v = .slice (some ⟨g, 0, none⟩) n cap ∧ Base.b0 ≤ g ∧ O.o g = none ∧ O.pre g = 0 ∧ m.heap[g]? = some (.cells cur e f) ∧ n ≤ cap ∧ cap ≤ maxLen ∧ cur.size = cap * size ∧ cur.toList.take (n * size) = xs)
theorem Row.nil {O : Own} {m : World} {e : TypeId} {size : Nat} : Row O m e size (.slice none 0 0) 0 [] := ⟨by simp, .inl ⟨rfl, rfl⟩⟩
/-- The holder gives a block of its own to everybody. -/
def Own.free (O : Own) (b : Nat) : Own := { O with o := fun x => if x = b then Option.none else O.o x }
omit [Base] in
theorem Own.le.free {O : Own} {h b : Nat} (hb : O.o b = Option.none ∨ O.o b = some h) : Own.le h O (O.free b) := ⟨fun x i hi e => by
  simp only [Own.free]
  split
  · rename_i hx; subst hx
    rcases hb with hb | hb <;> rw [hb] at e <;> cases e
    exact absurd rfl hi
  · exact e, fun _ => Nat.le_refl _, fun _ _ _ _ => rfl⟩
omit [Base] in
theorem Fresh.free {O : Own} {m : World} {b : Nat} (h : Fresh m O) : Fresh m (O.free b) := fun x hx => ⟨by simp only [Own.free]; split; rfl; exact (h x hx).1, (h x hx).2⟩
omit [Base] in
theorem Fresh.take {O : Own} {m : World} {h b : Nat} (hf : Fresh m O) (hb : b < m.heap.size) : Fresh m (O.take h b) := fun x hx => ⟨by simp only [Own.take]; rw [if_neg (by omega)]; exact (hf x hx).1, (hf x hx).2⟩
omit [Base] in
theorem Fresh.fix {O : Own} {m : World} {b n : Nat} (hf : Fresh m O) (hb : b < m.heap.size) : Fresh m (O.fix b n) := fun x hx => ⟨(hf x hx).1, by simp only [Own.fix]; rw [if_neg (by omega)]; exact (hf x hx).2⟩

theorem gh_open {O : Own} {h : Nat} {m : World} {g : Nat} {cur : Array Value} {e : TypeId} {f : Nat × Nat} (hb : Base.b0 ≤ g) (ho : O.o g = none) (hp : O.pre g = 0) (hm : m.heap[g]? = some (.cells cur e f)) : (O.gh h m).heap[g]? = some (.cells cur e (0, 0)) := by
  rw [gh_get, hm]
  simp [Own.obj, Nat.not_lt.2 hb, Own.rg, ho, hp]
/-- In the ghost the holder's walk may append to it. -/
theorem Row.owns {O : Own} {h : Nat} {m : World} {e : TypeId} {size : Nat} {v : Value} {n : Nat} {xs : List Value} (hr : Row O m e size v n xs) {w : World} (hw : w.heap = (O.gh h m).heap) : w.ownsRow Base.b0 e size v n xs := by
  refine ⟨hr.1, hr.2.imp id ?_⟩
  rintro ⟨g, cap, cur, f, hv, hb, ho, hp, hm, r⟩
  exact ⟨g, cap, cur, hv, hb, by rw [hw]; exact gh_open hb ho hp hm, r⟩
/-- It stays while its block stays. -/
theorem Row.stays {O O' : Own} {m m' : World} {e : TypeId} {size : Nat} {v : Value} {n : Nat} {xs : List Value} (hr : Row O m e size v n xs)
    (hk : ∀ g, v.ownBlock = some g → ∀ cur f, m.heap[g]? = some (.cells cur e f) → O.o g = none → O.pre g = 0 → (∃ f', m'.heap[g]? = some (.cells cur e f')) ∧ O'.o g = none ∧ O'.pre g = 0) : Row O' m' e size v n xs := by
  refine ⟨hr.1, hr.2.imp id ?_⟩
  rintro ⟨g, cap, cur, f, rfl, hb, ho, hp, hm, r⟩
  obtain ⟨⟨f', h1⟩, h2, h3⟩ := hk g rfl cur f hm ho hp
  exact ⟨g, cap, cur, f', rfl, hb, h2, h3, h1, r⟩
/-- What a walk has appended: its block may be made everybody's. -/
theorem owns_free {O : Own} {h : Nat} {m w w' : World} {e : TypeId} {size : Nat} {v v' : Value} {n n' : Nat} {xs xs' : List Value} (hr : Row O m e size v n xs) (hf : Fresh m O) (hw : ∀ b, b < m.heap.size → w.heap[b]? = (O.gh h m).heap[b]?) (hsz : m.heap.size ≤ w.heap.size)
    (r1 : w'.ownsRow Base.b0 e size v' n' xs') (r2 : w.grownBy w' v.ownBlock) (hs : 0 < size) (hn : 0 < n') :
    ∃ g cap, v' = .slice (some ⟨g, 0, none⟩) n' cap ∧ (O.o g = none ∨ O.o g = some h) ∧ O.pre g = 0 ∧ (∀ O', O'.o g = none → O'.pre g = 0 → Row O' w' e size v' n' xs') ∧ v'.ownBlock = some g := by
  obtain ⟨hl, hor⟩ := r1
  rcases hor with ⟨_, h0⟩ | ⟨g, cap, cur, rfl, hb, hm, h1, h2, h3, h4⟩
  · omega
  have hfin : ∀ O' : Own, O'.o g = none → O'.pre g = 0 → Row O' w' e size (.slice (some ⟨g, 0, none⟩) n' cap) n' xs' := fun O' a b => ⟨hl, .inr ⟨g, cap, cur, _, rfl, hb, a, b, hm, h1, h2, h3, h4⟩⟩
  have key : (O.o g = none ∨ O.o g = some h) ∧ O.pre g = 0 := by
    rcases Nat.lt_or_ge g m.heap.size with hlt | hge
    · by_cases hrow : v.ownBlock = some g
      · rcases hr.2 with ⟨rfl, _⟩ | ⟨g', cap', cur', f', rfl, _, ho, hp, _⟩
        · cases hrow
        · simp only [Value.ownBlock, Option.some.injEq] at hrow
          subst hrow
          exact ⟨.inl ho, hp⟩
      · have e1 := r2.block g (by omega) (fun z => hrow z.symm)
        rw [hm, hw g hlt, gh_get] at e1
        cases eo : m.heap[g]? with
        | none => rw [eo] at e1; cases e1
        | some o =>
          rw [eo] at e1
          cases o with
          | cells c₀ e₀ f₀ =>
            simp only [Option.map_some, Own.obj, if_neg (Nat.not_lt.2 hb), Option.some.injEq, Obj.cells.injEq] at e1
            obtain ⟨rfl, rfl, e3⟩ := e1
            have hsz : 0 < cur.size := by
              rw [h3]
              exact Nat.mul_pos (by omega) hs
            simp only [Own.rg] at e3
            split at e3
            · rename_i hh
              refine ⟨hh, ?_⟩
              have := congrArg Prod.snd e3
              simp only at this
              omega
            · have := congrArg Prod.snd e3
              simp only at this
              omega
          | _ => simp [Own.obj] at e1
    · exact ⟨.inl (hf g hge).1, (hf g hge).2⟩
  exact ⟨g, cap, rfl, key.1, key.2, hfin, rfl⟩
theorem Row.upto {O : Own} {m m' : World} {e : TypeId} {size : Nat} {v : Value} {n : Nat} {xs : List Value} {W : Addr → Prop} (hr : Row O m e size v n xs) (hu : Upto W m m') (hw : ∀ g i, v.ownBlock = some g → ¬ W ⟨g, i, none⟩) : Row O m' e size v n xs :=
  hr.stays fun g hg cur f hm ho hp => ⟨hu.row g cur e f hm (fun i => hw g i hg), ho, hp⟩
theorem Row.lt {O : Own} {m : World} {e : TypeId} {size : Nat} {v : Value} {n : Nat} {xs : List Value} (hr : Row O m e size v n xs) {g : Nat} (hg : v.ownBlock = some g) : g < m.heap.size ∧ ∃ cur f, m.heap[g]? = some (.cells cur e f) := by
  rcases hr.2 with ⟨rfl, _⟩ | ⟨g', cap, cur, f, rfl, _, _, _, hm, _⟩
  · cases hg
  · simp only [Value.ownBlock, Option.some.injEq] at hg
    subst hg
    exact ⟨(Array.getElem?_eq_some_iff.1 hm).1, cur, f, hm⟩
end Go.Tre

/- The end of a law: it answers, and what was there before stands as it stood. Every premise stands in the statements. -/
set_option linter.unusedVariables false
set_option linter.unusedSimpArgs false
namespace Go.Tre
open Go.Conc (G base)
theorem stepG_done {P : Program} {b : Frame} {a : Act} {fn : Func} {todo : List Item} {v : Value} {w : World} (hn : b.kind = .normal) (hd : a.defers = []) (hi : P.inits.idxOf? b.fn = none) (hf : P.funcs[b.fn]? = some fn)
    (hr : (results fn a.tmps).run P w = .ok v w) (he : (results fn a.tmps).events P w #[] = #[]) :
    stepG P true (G { b.at a todo with mode := .returning } []) w = .ended (.done v) w #[] := by
  simp [G, stepG, unwind, doReturn, Frame.at, hn, hd, hi, hf, hr, he, seen, GStep.after]
/-- What was there stands as it stood. -/
def AsOld (W w : World) : Prop := w.os = W.os ∧ w.output = W.output ∧ ∀ i, i < W.heap.size → w.heap[i]? = W.heap[i]?
theorem AsOld.frame {W w : World} (h : AsOld W w) (may : MemPlace → Prop) : W.keptBut w may := by
  refine ⟨h.1, h.2.1, fun i hi => ?_⟩
  rw [h.2.2 i hi]
  split <;> simp_all
theorem AsOld.same {W w : World} (h : AsOld W w) {p : MemPlace} (hp : p.block < W.heap.size) : W.sameAt w p := by
  cases p with
  | cell b o => exact World.cell?_of_block (w := W) (h.2.2 b hp)
  | map b => exact h.2.2 b hp
section
variable [Base]
theorem Sim.asOld {w m : World} {O : Own} {h : Nat} (hs : Sim w (O.gh h m)) (h₀ : Old m) (hb : Base.b0 = Base.w0.heap.size) (hu : Upto (fun _ => False) Base.w0 m) : AsOld Base.w0 w := by
  refine ⟨hs.os.symm.trans h₀.1, hs.output.symm.trans h₀.2.1, fun i hi => ?_⟩
  have hsz : i < w.heap.size := by have := hs.size; rw [gh_size] at this; have := hu.size; omega
  cases e : Base.w0.heap[i]? with
  | none => rw [Array.getElem?_eq_none_iff] at e; omega
  | some o =>
    by_cases hc : ∃ c t f, o = .cells c t f
    · obtain ⟨c, t, f, rfl⟩ := hc
      obtain ⟨f', h1⟩ := hu.row i c t f e (fun _ z => z)
      obtain ⟨c', h2⟩ := h₀.2.2 i c t f (by omega) e
      rw [h1] at h2
      cases h2
      have hg : (O.gh h m).heap[i]? = some (.cells c t f) := by rw [gh_get, h1]; simp [Own.obj, hb, hi]
      have hw : w.heap[i]? = some (w.heap[i]) := Array.getElem?_eq_getElem hsz
      obtain ⟨o', h3, h4⟩ := hs.obj i _ hw
      rw [hg] at h3
      cases h3
      generalize w.heap[i] = x at *
      cases h4 with
      | same => exact hw
      | cells c e f₁ f₂ hh =>
        have := hs.old i _ _ _ _ _ _ (by omega) hw hg
        subst this
        exact hw
    · have hn : ∀ c t f, o ≠ .cells c t f := fun c t f e => hc ⟨c, t, f, e⟩
      exact hs.other (gh_other (hu.obj i o e hn (fun z => z)) hn) hn
/-- ████ THE LAW ANSWERS. ████ -/
theorem Okk.done {P : Program} {m : World} {O : Own} {Γ : Nat → Option Seat} {b : Frame} {a : Act} {fn : Func} {todo : List Item} {v : Value} (hΓ : ∀ i, i ≠ 0 → Γ i = none) (hn : b.kind = .normal) (hd : a.defers = []) (hi : P.inits.idxOf? b.fn = none) (hf : P.funcs[b.fn]? = some fn)
    (hr : ∀ w, (results fn a.tmps).run P w = .ok v w) (he : ∀ w, (results fn a.tmps).events P w #[] = #[]) (hb : Base.b0 = Base.w0.heap.size) (hu : Upto (fun _ => False) Base.w0 m) :
    Okk P (fun x w => x = v ∧ AsOld Base.w0 w) 0 (G { b.at a todo with mode := .returning } []) m O Γ :=
  .finish rfl hΓ rfl fun w hs h₀ => ⟨v, #[], stepG_done hn hd hi hf (hr w) (he w), by simp, rfl, hs.asOld h₀ hb hu⟩
end
end Go.Tre
