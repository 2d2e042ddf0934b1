/- Texts of one proof, joined: each says what it proves. Every premise stands in the statements. -/
import Derived.Test.YtkbfbphbdljaaaaA17
import Derived.Deep.RegionLaw
import Derived.Test.YtkbfbphbdljaaaaA13
/- gate's begin: a thread more in the run's lists. Every premise stands in the statements. -/
set_option linter.unusedVariables false
set_option linter.unusedSimpArgs false
namespace Go.Proofs.Ytkbfbphbdljaaaa
open Go.Tre Go.RowKit
open Go.Conc (G base crowd rcase scase)
theorem info30 : ∃ i, Try.prog.info? 30 = some i ∧ i.zero = some (.pointer none) ∧ i.size = 1 ∧ i.bytes = 8 := by
  have h : (Try.prog.info? 30).map (fun i => (i.zero, i.size, i.bytes)) = some (some (.pointer none), 1, 8) := by kernel_rfl
  obtain ⟨i, h1, h2⟩ := Option.map_eq_some_iff.1 h
  simp only [Prod.mk.injEq] at h2
  exact ⟨i, h1, h2.1, h2.2.1, h2.2.2⟩
theorem info4 : ∃ i, Try.prog.info? 4 = some i ∧ i.zero = some (.bool false) ∧ i.size = 1 ∧ i.bytes = 1 := by
  have h : (Try.prog.info? 4).map (fun i => (i.zero, i.size, i.bytes)) = some (some (.bool false), 1, 1) := by kernel_rfl
  obtain ⟨i, h1, h2⟩ := Option.map_eq_some_iff.1 h
  simp only [Prod.mk.injEq] at h2
  exact ⟨i, h1, h2.1, h2.2.1, h2.2.2⟩
theorem own_shape {w : World} {base : Nat} {e : TypeId} {size : Nat} {v : Value} {n : Nat} {xs : List Value} (h : w.ownsRow base e size v n xs) : ∃ a l c, v = .slice a l c := by
  rcases h.2 with ⟨h, _⟩ | ⟨g, cap, cur, h, _⟩ <;> exact ⟨_, _, _, h⟩
theorem grown_two {w w' : World} {o : Obj} {row : Option Nat} {a : Addr} {v : Value} (r : ((w.alloc o).drew).grownBy w' row) (n : row ≠ some a.block) (h : w.cell? a = some v) (hf : w.frozen? a = false) : w'.cell? a = some v ∧ w'.frozen? a = false := by
  have hlt := World.block_lt_of_cell? w _ h
  have e1 : w'.heap[a.block]? = w.heap[a.block]? := by
    rw [r.block a.block (by simp only [size_d, size_a]; omega) (fun e => n e.symm)]
    simp only [get_d, get_a]
    rw [if_neg (by omega)]
  exact ⟨(World.cell?_of_block e1).trans h, (World.frozen?_of_block e1).trans hf⟩
theorem grown_one {w w' : World} {o : Obj} {row : Option Nat} {a : Addr} {v : Value} (r : ((w.alloc o).drew).grownBy w' row) (n : row ≠ some a.block) (h : w.cell? a = some v) : w'.cell? a = some v := by
  have hlt := World.block_lt_of_cell? w _ h
  have e1 : w'.heap[a.block]? = w.heap[a.block]? := by
    rw [r.block a.block (by simp only [size_d, size_a]; omega) (fun e => n e.symm)]
    simp only [get_d, get_a]
    rw [if_neg (by omega)]
  exact (World.cell?_of_block e1).trans h
theorem one_cell (w : World) (x : Value) (t : TypeId) : ∀ j u, [x][j]? = some u → (w.alloc (.cells #[x] t)).cell? ((⟨w.heap.size, 0, none⟩ : Addr).add j) = some u := by
  intro j u h
  cases j with
  | zero =>
    simp only [List.getElem?_cons_zero, Option.some.injEq] at h
    subst h
    have : (w.alloc (.cells #[x] t)).heap[w.heap.size]? = some (.cells #[x] t) := by rw [get_a, if_pos rfl]
    exact cell_of_cells this (by simp)
  | succ j => simp at h
set_option maxRecDepth 100000 in
set_option maxHeartbeats 2000000 in
theorem c75_2_wp (Q : Act → World → Prop) (w : World) (rp rb fb tb tp base n : Nat) (fv v : Value) (xs : List Value) (y6 y7 y8 y9 y10 y11 y12 y13 y14 y15 : Value) (h0 : w.cell? ⟨rb, 0, none⟩ = some (.pointer (some ⟨rp, 0, none⟩))) (h1 : w.cell? ⟨rp, 0, none⟩ = some v) (ht : w.cell? ⟨tb, 0, none⟩ = some (.pointer (some ⟨tp, 0, none⟩)))
   (hf : w.frozen? ⟨rp, 0, none⟩ = false) (hown : w.ownsRow base 30 1 v n xs) (hbase : base ≤ w.heap.size) (hn : n < 1000) (n1 : v.ownBlock ≠ some rb) (n2 : v.ownBlock ≠ some rp)
   (hQ : ∀ sb sm sk w', w'.ownsRow base 30 1 (.slice sb sm sk) (n + 1) (xs ++ [.pointer (some ⟨tp, 0, none⟩)]) → ((w.alloc (.cells #[.pointer (some ⟨tp, 0, none⟩)] 30)).drew).grownBy w' v.ownBlock → (∀ g, (Value.slice sb sm sk).ownBlock = some g → v.ownBlock = some g ∨ ((w.alloc (.cells #[.pointer (some ⟨tp, 0, none⟩)] 30)).drew).heap.size ≤ g) → Q ⟨#[.pointer (some ⟨rp, 0, none⟩), fv, .pointer (some ⟨rb, 0, none⟩), .pointer (some ⟨fb, 0, none⟩), .pointer none, .pointer (some ⟨tb, 0, none⟩), y6, y7, y8, y9, y10, y11, y12, y13, y14, y15,
      .pointer (some ⟨rp, 0, none⟩), .pointer (some ⟨rp, 0, none⟩), .pointer (some ⟨rp, 0, none⟩), .pointer (some ⟨rp, 0, none⟩), v, .pointer (some ⟨tp, 0, none⟩), .slice (some ⟨w.heap.size, 0, none⟩) 1 1, .slice sb sm sk, .pointer (some ⟨rp, 0, none⟩), .pointer (some ⟨rp, 0, none⟩), undef, undef, undef, undef, undef, undef, undef, undef, undef, undef, undef, undef, undef], []⟩ (w'.setCell ⟨rp, 0, none⟩ (.slice sb sm sk))) :
   c75_2.wp Try.prog (fun e a w => match e with | .normal => Q a w | _ => False) ⟨#[.pointer (some ⟨rp, 0, none⟩), fv, .pointer (some ⟨rb, 0, none⟩), .pointer (some ⟨fb, 0, none⟩), .pointer none, .pointer (some ⟨tb, 0, none⟩), y6, y7, y8, y9, y10, y11, y12, y13, y14, y15, undef, undef, undef, undef, undef, undef, undef, undef, undef, undef, undef, undef, undef, undef, undef, undef, undef, undef, undef, undef, undef, undef, undef], []⟩ w := by
  have l1 := World.block_lt_of_cell? w _ h0
  have l2 := World.block_lt_of_cell? w _ h1
  have l3 := World.block_lt_of_cell? w _ ht
  obtain ⟨i30, hi30, z30, s30, b30⟩ := info30
  simp only at l1 l2 l3
  simp only [c75_2, Try.f75]
  obtain ⟨sa, sl, sc, rfl⟩ := own_shape hown
  go_region_law (refine step_append_row rfl (.tmp 20) (.tmp 22) 50 rfl 30 i30 (.pointer none) 1 8 Try.underlying50 hi30 z30 s30 b30 rfl (by decide) base _ n xs (by simp [Act.eval, Act.put]; rfl) (by first | exact hown | exact hown.drew | exact hown.alloc _ | exact hown.drew.alloc _ | exact (hown.alloc _).drew) _ 1 1 [.pointer (some ⟨tp, 0, none⟩)] (by simp [Act.eval, Act.put]; rfl) rfl (by first | exact one_cell _ _ _) (by simp [Value.oneCell']) (by simp only [maxLen]; omega) (by omega) (by simp only [size_a, size_d, size_s]; omega) ?_; intro v' w' r1 r2 r3; obtain ⟨sb, sm, sk, rfl⟩ := own_shape r1; obtain ⟨k1, k2⟩ := grown_two r2 n2 h1 hf; have k0 := grown_one r2 n1 h0)
  all_goals exact hQ _ _ _ _ ‹_› ‹_› ‹_›
set_option maxRecDepth 100000 in
set_option maxHeartbeats 2000000 in
theorem c75_3_wp (Q : Act → World → Prop) (w : World) (rp rb fb tb tp base n : Nat) (fv v : Value) (xs : List Value) (y6 y7 y8 y9 y10 y11 y12 y13 y14 y15 z16 z17 z18 z19 z20 z21 z22 z23 z24 z25 : Value) (h0 : w.cell? ⟨rb, 0, none⟩ = some (.pointer (some ⟨rp, 0, none⟩))) (h1 : w.cell? ⟨rp, 5, none⟩ = some v)
   (hf : w.frozen? ⟨rp, 5, none⟩ = false) (hown : w.ownsRow base 4 1 v n xs) (hbase : base ≤ w.heap.size) (hn : n < 1000) (n1 : v.ownBlock ≠ some rb) (n2 : v.ownBlock ≠ some rp)
   (hQ : ∀ sb sm sk w', w'.ownsRow base 4 1 (.slice sb sm sk) (n + 1) (xs ++ [.bool false]) → ((w.alloc (.cells #[.bool false] 4)).drew).grownBy w' v.ownBlock → (∀ g, (Value.slice sb sm sk).ownBlock = some g → v.ownBlock = some g ∨ ((w.alloc (.cells #[.bool false] 4)).drew).heap.size ≤ g) → Q ⟨#[.pointer (some ⟨rp, 0, none⟩), fv, .pointer (some ⟨rb, 0, none⟩), .pointer (some ⟨fb, 0, none⟩), .pointer none, .pointer (some ⟨tb, 0, none⟩), y6, y7, y8, y9, y10, y11, y12, y13, y14, y15, z16, z17, z18, z19, z20, z21, z22, z23, z24, z25, .pointer (some ⟨rp, 0, none⟩), .pointer (some ⟨rp, 0, none⟩), .pointer (some ⟨rp, 0, none⟩), .pointer (some ⟨rp, 5, none⟩), v, .slice (some ⟨w.heap.size, 0, none⟩) 1 1, .slice sb sm sk, .pointer (some ⟨rp, 0, none⟩), .pointer (some ⟨rp, 5, none⟩), undef, undef, undef, undef], []⟩ (w'.setCell ⟨rp, 5, none⟩ (.slice sb sm sk))) :
   c75_3.wp Try.prog (fun e a w => match e with | .normal => Q a w | _ => False) ⟨#[.pointer (some ⟨rp, 0, none⟩), fv, .pointer (some ⟨rb, 0, none⟩), .pointer (some ⟨fb, 0, none⟩), .pointer none, .pointer (some ⟨tb, 0, none⟩), y6, y7, y8, y9, y10, y11, y12, y13, y14, y15, z16, z17, z18, z19, z20, z21, z22, z23, z24, z25, undef, undef, undef, undef, undef, undef, undef, undef, undef, undef, undef, undef, undef], []⟩ w := by
  have l1 := World.block_lt_of_cell? w _ h0
  have l2 := World.block_lt_of_cell? w _ h1
  obtain ⟨i30, hi30, z30, s30, b30⟩ := info4
  simp only at l1 l2
  simp only [c75_3, Try.f75]
  obtain ⟨sa, sl, sc, rfl⟩ := own_shape hown
  go_region_law (refine step_append_row rfl (.tmp 30) (.tmp 31) 83 rfl 4 i30 (.bool false) 1 1 Try.underlying83 hi30 z30 s30 b30 rfl (by decide) base _ n xs (by simp [Act.eval, Act.put]; rfl) (by first | exact hown | exact hown.drew | exact hown.alloc _ | exact hown.drew.alloc _ | exact (hown.alloc _).drew) _ 1 1 [.bool false] (by simp [Act.eval, Act.put]; rfl) rfl (by first | exact one_cell _ _ _) (by simp [Value.oneCell']) (by simp only [maxLen]; omega) (by omega) (by simp only [size_a, size_d, size_s]; omega) ?_; intro v' w' r1 r2 r3; obtain ⟨sb, sm, sk, rfl⟩ := own_shape r1; obtain ⟨k1, k2⟩ := grown_two r2 n2 h1 hf; have k0 := grown_one r2 n1 h0)
  all_goals exact hQ _ _ _ _ ‹_› ‹_› ‹_›
end Go.Proofs.Ytkbfbphbdljaaaa

/- gate's begin, whole: a thread is made, started, and let go up to where it stands. Every premise stands in the statements. -/
set_option linter.unusedVariables false
set_option linter.unusedSimpArgs false
namespace Go.Proofs.Ytkbfbphbdljaaaa
open Go.Tre Go.RowKit
open Go.Conc (G base baseD crowd rcase scase)
open Go.ConcN (upd)
variable [Base]

/-- How begin goes on when its thread stands or has ended. -/
def BeginBack (Φ : Value → World → Prop) (h tb tp : Nat) (c : Frame) (cs : List Frame) (fr : Frame) : Prop :=
  ∀ (m : World) (O : Own) (Γ : Nat → Option Seat), m.cell? ⟨tb, 0, none⟩ = some (.pointer (some ⟨tp, 0, none⟩)) → Okk Try.prog Φ h (G (c.finish (.pointer (some ⟨tp, 0, none⟩))) cs) m O Γ → Okk Try.prog Φ h (G (fr.finish (.tuple #[])) (c :: cs)) m O Γ

set_option maxRecDepth 100000 in
set_option maxHeartbeats 4000000 in
theorem begin4 {S E : FuncId → Bool} {Φ : Value → World → Prop} (hP : Plain Try.prog S E) {h : Nat} {m : World} {O : Own} {Γ : Nat → Option Seat} {c : Frame} {cs : List Frame} {rp rb tb fb tp cw cd : Nat} {fv : Value}
    (y4 y6 y7 y8 y9 y10 y11 y12 y13 y14 y15 y16 y17 y18 y19 y20 y21 y22 y23 y24 y25 y26 y27 y28 y29 y30 y31 y32 y33 y34 : Value)
    (hb : Base.b0 ≤ tp ∧ Base.b0 ≤ tb) (hpre : O.pre tp = 4 ∧ O.pre tb = 1) (ho : O.o tp = none ∨ O.o tp = some h)
    (ht : m.cell? ⟨tb, 0, none⟩ = some (.pointer (some ⟨tp, 0, none⟩))) (h2 : m.cell? ⟨tp, 2, none⟩ = some (.chan (some cw))) (h3 : m.cell? ⟨tp, 3, none⟩ = some (.chan (some cd)))
    (hcw : m.heap[cw]? = some (.chan 0 #[] false 0 0 false)) (hcd : m.heap[cd]? = some (.chan 0 #[] false 0 0 false)) (hne : cw ≠ cd) (hfree : ∀ i s, i ≠ h → Γ i = some s → s.c ≠ cw ∧ s.c ≠ cd)
    (hn : ∀ (j : Nat) (R : Goroutine) (fr : Frame) (X : Addr → Option Value) (mi : Nat → Option Nat), j ≠ h → j ≠ 0 → Γ j = none → Starts Φ rb tb fb tp fv R → BeginBack Φ h tb tp c cs fr →
      Okk Try.prog Φ j (Go.Conc.served R (.agg #[])) (m.setChan cw 0 #[] false 1 1 false) (O.take j tp)
        (upd (upd Γ j (some { c := cw, z := .agg #[], home := fun g => g = R, still := X, mine := mi })) h (some (stdSeat cd (goesAt tp cw cd (fr :: c :: cs)) (O.take j tp) h m)))) :
    Okk Try.prog Φ h (G ((base 75).at ⟨#[.pointer (some ⟨rp, 0, none⟩), fv, .pointer (some ⟨rb, 0, none⟩), .pointer (some ⟨fb, 0, none⟩), y4, .pointer (some ⟨tb, 0, none⟩), y6, y7, y8, y9, y10, y11, y12, y13, y14, y15, y16, y17, y18, y19, y20, y21, y22, y23, y24, y25, y26, y27, y28, y29, y30, y31, y32, y33, y34, undef, undef, undef, undef], []⟩
      [.code (match Try.f75.body with | some (.seq _ (.seq _ (.seq _ (.seq _ c)))) => c | _ => .skip)]) (c :: cs)) m O Γ := by
  simp only [Try.f75]
  refine .ctl0 rfl (fun _ => Go.Conc.stepG_seq) (.ctl0 rfl (fun _ => Go.Conc.stepG_region) ?_)
  refine .val hP rfl rfl rfl (.func (.func 108) #[] #[.pointer (some ⟨rb, 0, none⟩), .pointer (some ⟨tb, 0, none⟩), .pointer (some ⟨fb, 0, none⟩)]) (fun τ => by simp [go_sem]) ?_
  walk_nrm
  have htl : tp < m.heap.size := World.block_lt_of_cell? m _ h2
  -- what the child keeps
  let X : Addr → Option Value := fun a => if Base.b0 ≤ a.block ∧ (a.block = tp ∨ a.off < O.pre a.block) then m.cell? a else none
  have hX : ∀ x v, X x = some v → Base.b0 ≤ x.block ∧ (x.block = tp ∨ x.off < O.pre x.block) ∧ m.cell? x = some v := fun x v hx => by
    simp only [X] at hx
    split at hx
    · rename_i hh; exact ⟨hh.1, hh.2, hx⟩
    · cases hx
  obtain ⟨R, hway, hst⟩ := born_way (rb := rb) (fb := fb) (fv := fv) hP Φ X (fun b => if b = tp then some 4 else none) (tb := tb) (tp := tp) (cw := cw) (by simp only [X]; rw [if_pos ⟨hb.2, .inr (by show 0 < O.pre tb; omega)⟩]; exact ht) (by simp only [X]; rw [if_pos ⟨hb.1, .inl trivial⟩]; exact h2)
  refine Okk.spawn (d := d108 rb tb fb) (f := .func 108) rfl rfl (by decide) (fun w => by simp [go_sem, d108]) (fun w => by simp [go_sem]) rfl { c := cw, z := .agg #[], home := fun g => g = R, still := X, mine := fun b => if b = tp then some 4 else none } tp htl ho ⟨0, hcw⟩ (fun i s hi hs => (hfree i s hi hs).1) hX (fun b n hbn => by
      simp only at hbn
      split at hbn
      · rename_i hh; cases hbn; exact ⟨hh, by rw [hh]; exact hpre.1⟩
      · cases hbn) (nc := 13) (.inl ⟨12, rfl, hway⟩) fun j hj hj0 hΓ => ?_
  walk_nrm
  refine .ctl0 rfl (fun _ => Go.Conc.stepG_region_end) (.ctl0 rfl (fun _ => Go.Conc.stepG_seq) (.ctl0 rfl (fun _ => Go.Conc.stepG_region) ?_))
  refine .val hP rfl rfl rfl (.pointer (some ⟨tp, 0, none⟩)) (fun τ => by simp [go_sem, gh_cell, ht]) ?_
  walk_nrm
  refine .enter (f := 77) (args := #[.pointer (some ⟨tp, 0, none⟩)]) rfl rfl (fun w => ?_) (fun w => ?_) ?_
  · have := (callFunc_enter Try.func77 rfl rfl #[.pointer (some ⟨tp, 0, none⟩)] w).1
    simp [go_sem, this]
  · have := (callFunc_enter Try.func77 rfl rfl #[.pointer (some ⟨tp, 0, none⟩)] w).2
    simp [go_sem, this]
  refine Okk.goes hP (j := j) (cw := cw) (cd := cd) (kw := 0) hb.1 (by show 4 ≤ O.pre tp; omega) h2 h3 (Go.ConcN.upd_same _ _ _) rfl hj hcw ⟨0, hcd⟩ (fun i s₂ hi hij hs => ?_) fun g₂ hg₂ _ _ => ?_
  · rw [Go.ConcN.upd_ne _ _ hij] at hs
    exact (hfree i s₂ hi hs).2
  · have e : g₂ = R := hg₂
    subst e
    refine hn j _ _ X _ hj hj0 hΓ hst ?_
    intro m' O' Γ' ht' hk
    rw [Frame.finish_at]
    walk_nrm
    refine .ctl0 rfl (fun _ => Go.Conc.stepG_region_end) (.ctl0 rfl (fun _ => Go.Conc.stepG_seq) (.ctl0 rfl (fun _ => Go.Conc.stepG_region) ?_))
    refine .val hP rfl rfl rfl (.pointer (some ⟨tp, 0, none⟩)) (fun τ => by simp [go_sem, gh_cell, ht']) ?_
    walk_nrm
    refine .val hP rfl rfl rfl (.pointer (some ⟨tp, 0, none⟩)) (fun τ => by simp [go_sem]) ?_
    walk_nrm
    refine .ctl0 rfl (fun _ => Go.Conc.stepG_region_end) (.ctl0 rfl (fun _ => Go.Conc.stepG_ret') ?_)
    exact .leave rfl rfl Try.func75 (fun w => by simp [go_sem, results, Try.f75]) (fun w => by simp [go_sem, results, Try.f75]) hk
end Go.Proofs.Ytkbfbphbdljaaaa

/- gate's begin, whole. Every premise stands in the statements. -/
set_option linter.unusedVariables false
set_option linter.unusedSimpArgs false
namespace Go.Proofs.Ytkbfbphbdljaaaa
open Go.Tre Go.RowKit
open Go.Conc (G base baseD crowd rcase scase)
open Go.ConcN (upd)
variable [Base]

def t75 (rp rb fb tb tp cw cd n sc : Nat) (sa : Option Addr) (fv : Value) : Array Value :=
  #[.pointer (some ⟨rp, 0, none⟩), fv, .pointer (some ⟨rb, 0, none⟩), .pointer (some ⟨fb, 0, none⟩), .pointer none, .pointer (some ⟨tb, 0, none⟩), .pointer (some ⟨rp, 0, none⟩), .pointer (some ⟨rp, 0, none⟩), .pointer (some ⟨rp, 0, none⟩), .pointer (some ⟨rp, 0, none⟩),
      .slice sa n sc, .int .i64 (n : Int), .chan (some cw), .chan (some cd), .agg (newTh rp n cw cd), .pointer (some ⟨tp, 0, none⟩), undef, undef, undef, undef, undef, undef, undef, undef, undef, undef, undef, undef, undef, undef, undef, undef, undef, undef, undef, undef, undef, undef, undef]
def t75b (rp rb fb tb tp cw cd n sc ns sm sk : Nat) (sa sb : Option Addr) (fv : Value) : Array Value :=
  #[.pointer (some ⟨rp, 0, none⟩), fv, .pointer (some ⟨rb, 0, none⟩), .pointer (some ⟨fb, 0, none⟩), .pointer none, .pointer (some ⟨tb, 0, none⟩), .pointer (some ⟨rp, 0, none⟩), .pointer (some ⟨rp, 0, none⟩), .pointer (some ⟨rp, 0, none⟩), .pointer (some ⟨rp, 0, none⟩),
      .slice sa n sc, .int .i64 (n : Int), .chan (some cw), .chan (some cd), .agg (newTh rp n cw cd), .pointer (some ⟨tp, 0, none⟩),
      .pointer (some ⟨rp, 0, none⟩), .pointer (some ⟨rp, 0, none⟩), .pointer (some ⟨rp, 0, none⟩), .pointer (some ⟨rp, 0, none⟩), .slice sa n sc, .pointer (some ⟨tp, 0, none⟩), .slice (some ⟨ns, 0, none⟩) 1 1, .slice sb sm sk, .pointer (some ⟨rp, 0, none⟩), .pointer (some ⟨rp, 0, none⟩), undef, undef, undef, undef, undef, undef, undef, undef, undef, undef, undef, undef, undef]
def t75c (rp rb fb tb tp cw cd n sc ns sm sk ns' sm' sk' : Nat) (sa sb sb' : Option Addr) (v5 : Value) (fv : Value) : Array Value :=
  #[.pointer (some ⟨rp, 0, none⟩), fv, .pointer (some ⟨rb, 0, none⟩), .pointer (some ⟨fb, 0, none⟩), .pointer none, .pointer (some ⟨tb, 0, none⟩), .pointer (some ⟨rp, 0, none⟩), .pointer (some ⟨rp, 0, none⟩), .pointer (some ⟨rp, 0, none⟩), .pointer (some ⟨rp, 0, none⟩),
      .slice sa n sc, .int .i64 (n : Int), .chan (some cw), .chan (some cd), .agg (newTh rp n cw cd), .pointer (some ⟨tp, 0, none⟩),
      .pointer (some ⟨rp, 0, none⟩), .pointer (some ⟨rp, 0, none⟩), .pointer (some ⟨rp, 0, none⟩), .pointer (some ⟨rp, 0, none⟩), .slice sa n sc, .pointer (some ⟨tp, 0, none⟩), .slice (some ⟨ns, 0, none⟩) 1 1, .slice sb sm sk, .pointer (some ⟨rp, 0, none⟩), .pointer (some ⟨rp, 0, none⟩),
      .pointer (some ⟨rp, 0, none⟩), .pointer (some ⟨rp, 0, none⟩), .pointer (some ⟨rp, 0, none⟩), .pointer (some ⟨rp, 5, none⟩), v5, .slice (some ⟨ns', 0, none⟩) 1 1, .slice sb' sm' sk', .pointer (some ⟨rp, 0, none⟩), .pointer (some ⟨rp, 5, none⟩), undef, undef, undef, undef]
/-- What a thread's body may be. -/
def IsBody (fv : Value) : Prop := fv = .nilFunc ∨ ∃ f fn c caps, fv = .func (.func f) #[] caps ∧ Try.prog.funcs[f]? = some fn ∧ (fn.name == "runtime.NumGoroutine") = false ∧ fn.body = some c
theorem boxed {O : Own} {h : Nat} {m g' : World} {τ : Tape} {o : Obj} (e : g' = (re (O.gh h m) τ 0).alloc o) : Upto (fun _ => False) m g' ∧ g'.heap.size = m.heap.size + 1 ∧ g'.heap[m.heap.size]? = some o := by
  subst e
  refine ⟨(Upto.gh (O := O) (h := h)).trans ((Upto.of_heap (m := O.gh h m) (m' := re (O.gh h m) τ 0) rfl).trans .alloc), by rw [size_a]; show (O.gh h m).heap.size + 1 = _; rw [gh_size], ?_⟩
  rw [get_a, if_pos (by show m.heap.size = (O.gh h m).heap.size; rw [gh_size])]

/-- What begin has made. -/
structure Begun (h : Nat) (m m5 : World) (O O3 : Own) (rp n tp tb rb fb cw cd : Nat) (fv v0 v5 v0' v5' : Value) (xs bs : List Value) : Prop where
  u : Upto (fun a => a = ⟨rp, 0, none⟩ ∨ a = ⟨rp, 5, none⟩ ∨ some a.block = v0.ownBlock ∨ some a.block = v5.ownBlock) m m5
  c0 : m5.cell? ⟨rp, 0, none⟩ = some v0'
  R0 : Row O3 m5 30 1 v0' (n + 1) (xs ++ [.pointer (some ⟨tp, 0, none⟩)])
  c5 : m5.cell? ⟨rp, 5, none⟩ = some v5'
  R5 : Row O3 m5 4 1 v5' (n + 1) (bs ++ [.bool false])
  th : ∃ f, m5.heap[tp]? = some (.cells (newTh rp n cw cd) 65 f)
  r : m5.cell? ⟨rb, 0, none⟩ = some (.pointer (some ⟨rp, 0, none⟩))
  t : m5.cell? ⟨tb, 0, none⟩ = some (.pointer (some ⟨tp, 0, none⟩))
  f : m5.cell? ⟨fb, 0, none⟩ = some fv
  new : m.heap.size ≤ tp ∧ m.heap.size ≤ tb ∧ m.heap.size ≤ rb ∧ m.heap.size ≤ fb ∧ m.heap.size ≤ cw ∧ m.heap.size ≤ cd
  ne : tb ≠ tp ∧ rb ≠ tp ∧ fb ≠ tp ∧ cw ≠ cd
  pre : O3.pre tp = 4 ∧ O3.pre tb = 1 ∧ O3.pre rb = 1 ∧ O3.pre fb = 1
  own : O3.o tp = none ∧ O3.o tb = none ∧ O3.o rb = none ∧ O3.o fb = none
  le : Own.le h O O3
  pub : ∀ b, O.o b = none → O3.o b = none
  old : ∀ b, b < m.heap.size → O3.pre b = O.pre b
  wake : m5.heap[cw]? = some (.chan 0 #[] false 0 0 false)
  stood : m5.heap[cd]? = some (.chan 0 #[] false 0 0 false)
  n0 : ∀ g, v0'.ownBlock = some g → v0.ownBlock = some g ∨ (m.heap.size ≤ g ∧ g ≠ tp ∧ g ≠ tb ∧ g ≠ rb ∧ g ≠ cw ∧ g ≠ cd)
  n5 : ∀ g, v5'.ownBlock = some g → v5.ownBlock = some g ∨ (m.heap.size ≤ g ∧ g ≠ tp ∧ g ≠ tb ∧ g ≠ rb ∧ g ≠ cw ∧ g ≠ cd ∧ v0'.ownBlock ≠ some g)
  priv : ∀ b, b < m.heap.size → O3.o b = O.o b ∨ v0.ownBlock = some b ∨ v5.ownBlock = some b
  neb : rb ≠ tb ∧ rb ≠ cw ∧ rb ≠ cd
set_option maxRecDepth 100000 in
set_option maxHeartbeats 4000000 in
theorem Okk.begin {S E : FuncId → Bool} {Φ : Value → World → Prop} (hP : Plain Try.prog S E) {h : Nat} {m : World} {O : Own} {Γ : Nat → Option Seat} {c : Frame} {cs : List Frame} {rp n : Nat} {fv v0 v5 : Value} {xs bs : List Value} (hfv : IsBody fv)
    (hrp : Base.b0 ≤ rp) (hro : O.o rp = none) (hrpre : O.pre rp = 0) (h0 : m.cell? ⟨rp, 0, none⟩ = some v0) (R0 : Row O m 30 1 v0 n xs) (h5 : m.cell? ⟨rp, 5, none⟩ = some v5) (R5 : Row O m 4 1 v5 n bs) (hn : n < 1000) (hd0 : v0.ownBlock ≠ some rp) (hd5 : v5.ownBlock ≠ some rp)
    (hk : ∀ m5 O3 tp tb rb fb cw cd v0' v5', Begun h m m5 O O3 rp n tp tb rb fb cw cd fv v0 v5 v0' v5' xs bs → ∀ (j : Nat) (R : Goroutine) (fr : Frame) (X : Addr → Option Value) (mi : Nat → Option Nat), j ≠ h → j ≠ 0 → Γ j = none → Starts Φ rb tb fb tp fv R → BeginBack Φ h tb tp c cs fr →
      Okk Try.prog Φ j (Go.Conc.served R (.agg #[])) (m5.setChan cw 0 #[] false 1 1 false) (O3.take j tp)
        (upd (upd Γ j (some { c := cw, z := .agg #[], home := fun g => g = R, still := X, mine := mi })) h (some (stdSeat cd (goesAt tp cw cd (fr :: c :: cs)) (O3.take j tp) h m5)))) :
    Okk Try.prog Φ h (G (Frame.enter Try.prog 75 #[.pointer (some ⟨rp, 0, none⟩), fv] .normal) (c :: cs)) m O Γ := by
  refine Okk.fresh fun hF => Okk.chans fun hch hinj => ?_
  rw [Go.Conc.enter_at _ Try.func75 rfl]
  simp only [Try.ntmps75]
  have lrp := World.block_lt_of_cell? m _ h0
  refine .ctl0 rfl (fun _ => Go.Conc.stepG_seq) (.ctl0 rfl (fun _ => Go.Conc.stepG_region) ?_)
  refine .oper hP rfl rfl rfl (R := fun v g' => v = .pointer (some ⟨m.heap.size, 0, none⟩) ∧ ∃ τ, g' = (re (O.gh h m) τ 0).alloc (.cells #[.pointer (some ⟨rp, 0, none⟩)] 62)) (fun τ => ⟨.pointer (some ⟨m.heap.size, 0, none⟩), (re (O.gh h m) τ 0).alloc (.cells #[.pointer (some ⟨rp, 0, none⟩)] 62), by simp [go_sem, gh_size], rfl, τ, rfl⟩) ?_
  rintro _ m1 ⟨rfl, τ1, e1⟩ _
  obtain ⟨u1, s1, b1⟩ := boxed e1
  clear e1
  walk_nrm
  refine .oper hP rfl rfl rfl (R := fun v g' => v = .pointer (some ⟨m1.heap.size, 0, none⟩) ∧ ∃ τ, g' = (re (O.gh h m1) τ 0).alloc (.cells #[fv] 35)) (fun τ => ⟨.pointer (some ⟨m1.heap.size, 0, none⟩), (re (O.gh h m1) τ 0).alloc (.cells #[fv] 35), by rcases hfv with rfl | ⟨f, fn, c, caps, rfl, _⟩ <;> simp [go_sem, gh_size], rfl, τ, rfl⟩) ?_
  rintro _ m2 ⟨rfl, τ2, e2⟩ _
  obtain ⟨u2, s2, b2⟩ := boxed e2
  clear e2
  walk_nrm
  refine .val hP rfl rfl rfl (.pointer none) (fun τ => by simp [go_sem]) ?_
  walk_nrm
  refine .ctl0 rfl (fun _ => Go.Conc.stepG_region_end) (.ctl0 rfl (fun _ => Go.Conc.stepG_seq) ?_)
  have u12 := u1.trans u2
  have hrb : m2.cell? ⟨m.heap.size, 0, none⟩ = some (.pointer (some ⟨rp, 0, none⟩)) := u2.cell _ _ (cell_of_cells b1 (by simp)) (fun z => z)
  have hfb : m2.cell? ⟨m1.heap.size, 0, none⟩ = some fv := cell_of_cells b2 (by simp)
  obtain ⟨sa, sl, sc, rfl⟩ : ∃ a l c, v0 = .slice a l c := by
    rcases R0.2 with ⟨h, _⟩ | ⟨g, cap, cur, f, h, _⟩ <;> exact ⟨_, _, _, h⟩
  have hsl : sl = n := by
    rcases R0.2 with ⟨h, h'⟩ | ⟨g, cap, cur, f, h, _⟩
    · cases h; exact h'.symm
    · cases h; rfl
  subst hsl
  refine .code hP (c := c75_1) (by simp [c75_1, Try.f75, okCode, okOp]) (Q := fun tms w' => ∃ tp tb cw cd, Made m2 w' rp sl tp tb cw cd ∧ tms = t75 rp m.heap.size m1.heap.size tb tp cw cd sl sc sa fv)
    (fun τ => wp_mono (c75_1_wp (fun a w' => a.defers = [] ∧ ∃ tp tb cw cd, Made m2 w' rp sl tp tb cw cd ∧ a.tmps = t75 rp m.heap.size m1.heap.size tb tp cw cd sl sc sa fv) (re (O.gh h m2) τ 0) rp m.heap.size m1.heap.size fv sa sl sc (by rw [re_cell?, gh_cell]; exact hrb) (by rw [re_cell?, gh_cell]; exact u12.cell _ _ h0 (fun z => z)) (fun tp tb cw cd w' hM => ⟨rfl, tp, tb, cw, cd, ?_, rfl⟩)) (fun e a w' hq => ?_)) ?_
  · have hs : (re (O.gh h m2) τ 0).heap.size = m2.heap.size := gh_size
    exact ⟨(Upto.gh (O := O) (h := h)).trans ((Upto.of_heap (m := O.gh h m2) (m' := re (O.gh h m2) τ 0) rfl).trans hM.u), by rw [hM.size, hs], by have := hM.lo; rw [hs] at this; exact this, hM.hi, hM.ne, hM.th, hM.box, hM.wake, hM.stood⟩
  · cases e with
    | normal => exact ⟨rfl, hq.1, hq.2⟩
    | _ => exact hq.elim
  rintro _ m3 ⟨tp, tb, cw, cd, M, rfl⟩ _
  have u3 := u12.trans M.u
  have hrb3 := M.u.cell _ _ hrb (fun z => z)
  have h03 := u3.cell _ _ h0 (fun z => z)
  have h53 := u3.cell _ _ h5 (fun z => z)
  have htb3 : m3.cell? ⟨tb, 0, none⟩ = some (.pointer (some ⟨tp, 0, none⟩)) := cell_of_cells M.box (by simp)
  have R03 := R0.upto u3 (fun _ _ _ z => z)
  have n1 : (Value.slice sa sl sc).ownBlock ≠ some m.heap.size := fun e => by have := (R0.lt e).1; omega
  have n2 : (Value.slice sa sl sc).ownBlock ≠ some rp := hd0
  have frp : ∀ (m' : World) (O' : Own) (i : Nat) (τ : Tape), O'.o rp = none → O'.pre rp = 0 → (re (O'.gh h m') τ 0).frozen? ⟨rp, i, none⟩ = false := fun m' O' i τ a b => gh_free hrp (.inl a) (by show O'.pre rp ≤ i; omega)
  refine .ctl0 rfl (fun _ => Go.Conc.stepG_seq) ?_
  simp only [t75]
  have hs3 : ∀ τ, (re (O.gh h m3) τ 0).heap.size = m3.heap.size := fun τ => gh_size
  refine .code hP (c := c75_2) (by simp [c75_2, Try.f75, okCode, okOp]) (Q := fun tms w' => ∃ sb sm sk w₀ τ, w₀.ownsRow Base.b0 30 1 (.slice sb sm sk) (sl + 1) (xs ++ [.pointer (some ⟨tp, 0, none⟩)]) ∧ (((re (O.gh h m3) τ 0).alloc (.cells #[.pointer (some ⟨tp, 0, none⟩)] 30)).drew).grownBy w₀ (Value.slice sa sl sc).ownBlock ∧ (∀ g, (Value.slice sb sm sk).ownBlock = some g → (Value.slice sa sl sc).ownBlock = some g ∨ (((re (O.gh h m3) τ 0).alloc (.cells #[.pointer (some ⟨tp, 0, none⟩)] 30)).drew).heap.size ≤ g) ∧ w' = w₀.setCell ⟨rp, 0, none⟩ (.slice sb sm sk) ∧ tms = t75b rp m.heap.size m1.heap.size tb tp cw cd sl sc m3.heap.size sm sk sa sb fv)
    (fun τ => wp_mono (c75_2_wp (fun a w' => a.defers = [] ∧ ∃ sb sm sk w₀ τ, w₀.ownsRow Base.b0 30 1 (.slice sb sm sk) (sl + 1) (xs ++ [.pointer (some ⟨tp, 0, none⟩)]) ∧ (((re (O.gh h m3) τ 0).alloc (.cells #[.pointer (some ⟨tp, 0, none⟩)] 30)).drew).grownBy w₀ (Value.slice sa sl sc).ownBlock ∧ (∀ g, (Value.slice sb sm sk).ownBlock = some g → (Value.slice sa sl sc).ownBlock = some g ∨ (((re (O.gh h m3) τ 0).alloc (.cells #[.pointer (some ⟨tp, 0, none⟩)] 30)).drew).heap.size ≤ g) ∧ w' = w₀.setCell ⟨rp, 0, none⟩ (.slice sb sm sk) ∧ a.tmps = t75b rp m.heap.size m1.heap.size tb tp cw cd sl sc m3.heap.size sm sk sa sb fv)
      (re (O.gh h m3) τ 0) rp m.heap.size m1.heap.size tb tp Base.b0 sl fv (.slice sa sl sc) xs _ _ _ _ _ _ _ _ _ _ (by rw [re_cell?, gh_cell]; exact hrb3) (by rw [re_cell?, gh_cell]; exact h03) (by rw [re_cell?, gh_cell]; exact htb3) (frp m3 O 0 τ hro hrpre) (R03.owns rfl) (by rw [hs3]; have z1 := M.size; have z2 : rp < m.heap.size := lrp; omega) hn n1 n2
      (fun sb sm sk w' q1 q2 q4 => ⟨rfl, sb, sm, sk, w', τ, q1, q2, q4, rfl, by rw [hs3]; rfl⟩)) (fun e a w' hq => by
        cases e with
        | normal => exact ⟨rfl, hq.1, hq.2⟩
        | _ => exact hq.elim)) ?_
  rintro _ m4 ⟨sb, sm, sk, w₀, τ, q1, q2, q4, q3, rfl⟩ _
  have hF3 : Fresh m3 O := fun b hb' => hF b (by have := M.size; omega)
  have h3w : Upto (fun a => some a.block = (Value.slice sa sl sc).ownBlock) m3 w₀ := (Upto.gh (O := O) (h := h)).trans ((Upto.of_heap (m := O.gh h m3) (m' := re (O.gh h m3) τ 0) rfl).trans ((Upto.drew .alloc).trans (Upto.grown q2 (fun a e => e))))
  have nb : ∀ i, ¬ some (⟨rp, i, none⟩ : Addr).block = (Value.slice sa sl sc).ownBlock := fun i e => n2 e.symm
  have hup : Upto (fun a => a = ⟨rp, 0, none⟩ ∨ some a.block = (Value.slice sa sl sc).ownBlock) m3 m4 := by
    subst q3; exact Upto.set (h3w.mono (fun _ z => .inr z)) (.inl rfl)
  have hrp4 : m4.cell? ⟨rp, 0, none⟩ = some (.slice sb sm sk) := by
    subst q3; exact World.cell?_setCell_same _ _ _ (h3w.cell _ _ h03 (nb 0))
  obtain ⟨g0, cap0, e0, ho0, hp0, hR0, hob0⟩ := owns_free (h := h) (m := m3) R03 hF3 (w := ((re (O.gh h m3) τ 0).alloc (.cells #[.pointer (some ⟨tp, 0, none⟩)] 30)).drew) (fun b hlt => by rw [get_d, get_a, if_neg (by rw [hs3]; omega)]; rfl) (by rw [size_d, size_a, hs3]; omega) q1 q2 (by decide) (by omega)
  have hq0 : (Value.slice sa sl sc).ownBlock = some g0 ∨ m3.heap.size + 1 ≤ g0 := (q4 g0 hob0).imp id fun z => by rw [size_d, size_a, hs3] at z; exact z
  have hg0 : g0 ≠ rp := fun e => by
    rcases hq0 with z | z
    · exact n2 (by rw [z, e])
    · have z1 := M.size; have z2 : rp < m.heap.size := lrp; omega
  refine Okk.own (O' := O.free g0) (Own.le.free ho0) (fun hf => hf.free) ?_
  have hro1 : (O.free g0).o rp = none := by simp only [Own.free]; split; rfl; exact hro
  have hR04 : Row (O.free g0) m4 30 1 (.slice sb sm sk) (sl + 1) (xs ++ [.pointer (some ⟨tp, 0, none⟩)]) := by
    refine (hR0 (O.free g0) (by simp [Own.free]) hp0).upto (W := fun a => a = ⟨rp, 0, none⟩) (by subst q3; exact .setCell rfl) (fun g i hg e => ?_)
    rw [hob0] at hg
    cases hg
    exact hg0 (by have := congrArg Addr.block e; exact this)
  have R54 : Row (O.free g0) m4 4 1 v5 sl bs := by
    refine ((R5.upto u3 (fun _ _ _ z => z)).upto hup (fun g i hg z => ?_)).stays (fun g hg cur f hm ho hp => ⟨⟨f, hm⟩, by simp only [Own.free]; split; rfl; exact ho, hp⟩)
    obtain ⟨_, cur, f, h1⟩ := R5.lt hg
    rcases z with z | z
    · have : g = rp := congrArg Addr.block z
      exact hd5 (by rw [hg, this])
    · obtain ⟨_, cur', f', h2⟩ := R0.lt z.symm
      simp only at h2
      rw [h1] at h2; cases h2
  have hrb4 := hup.cell _ _ hrb3 (fun z => by
    rcases z with z | z
    · have : m.heap.size = rp := congrArg Addr.block z
      have z2 : rp < m.heap.size := lrp
      omega
    · exact n1 z.symm)
  have h54 := hup.cell _ _ h53 (fun z => by
    rcases z with z | z
    · cases z
    · exact n2 z.symm)
  have s4 : m3.heap.size ≤ m4.heap.size := hup.size
  have n1' : v5.ownBlock ≠ some m.heap.size := fun e => by have := (R5.lt e).1; omega
  have n2' : v5.ownBlock ≠ some rp := hd5
  refine .ctl0 rfl (fun _ => Go.Conc.stepG_seq) ?_
  simp only [t75b]
  have hs4 : ∀ τ, (re ((O.free g0).gh h m4) τ 0).heap.size = m4.heap.size := fun τ => gh_size
  refine .code hP (c := c75_3) (by simp [c75_3, Try.f75, okCode, okOp]) (Q := fun tms w' => ∃ sb' sm' sk' w₀ τ, w₀.ownsRow Base.b0 4 1 (.slice sb' sm' sk') (sl + 1) (bs ++ [.bool false]) ∧ (((re ((O.free g0).gh h m4) τ 0).alloc (.cells #[.bool false] 4)).drew).grownBy w₀ v5.ownBlock ∧ (∀ g, (Value.slice sb' sm' sk').ownBlock = some g → v5.ownBlock = some g ∨ (((re ((O.free g0).gh h m4) τ 0).alloc (.cells #[.bool false] 4)).drew).heap.size ≤ g) ∧ w' = w₀.setCell ⟨rp, 5, none⟩ (.slice sb' sm' sk') ∧ tms = t75c rp m.heap.size m1.heap.size tb tp cw cd sl sc m3.heap.size sm sk m4.heap.size sm' sk' sa sb sb' v5 fv)
    (fun τ => wp_mono (c75_3_wp (fun a w' => a.defers = [] ∧ ∃ sb' sm' sk' w₀ τ, w₀.ownsRow Base.b0 4 1 (.slice sb' sm' sk') (sl + 1) (bs ++ [.bool false]) ∧ (((re ((O.free g0).gh h m4) τ 0).alloc (.cells #[.bool false] 4)).drew).grownBy w₀ v5.ownBlock ∧ (∀ g, (Value.slice sb' sm' sk').ownBlock = some g → v5.ownBlock = some g ∨ (((re ((O.free g0).gh h m4) τ 0).alloc (.cells #[.bool false] 4)).drew).heap.size ≤ g) ∧ w' = w₀.setCell ⟨rp, 5, none⟩ (.slice sb' sm' sk') ∧ a.tmps = t75c rp m.heap.size m1.heap.size tb tp cw cd sl sc m3.heap.size sm sk m4.heap.size sm' sk' sa sb sb' v5 fv)
      (re ((O.free g0).gh h m4) τ 0) rp m.heap.size m1.heap.size tb tp Base.b0 sl fv v5 bs _ _ _ _ _ _ _ _ _ _ _ _ _ _ _ _ _ _ _ _ (by rw [re_cell?, gh_cell]; exact hrb4) (by rw [re_cell?, gh_cell]; exact h54) (frp m4 (O.free g0) 5 τ hro1 hrpre) (R54.owns rfl) (by rw [hs4]; have z1 := M.size; have z2 : rp < m.heap.size := lrp; omega) hn n1' n2'
      (fun sb' sm' sk' w' q1 q2 q4 => ⟨rfl, sb', sm', sk', w', τ, q1, q2, q4, rfl, by rw [hs4]; rfl⟩)) (fun e a w' hq => by
        cases e with
        | normal => exact ⟨rfl, hq.1, hq.2⟩
        | _ => exact hq.elim)) ?_
  rintro _ m5 ⟨sb', sm', sk', w₁, τ', p1, p2, p4, p3, rfl⟩ _
  have hF4 : Fresh m4 (O.free g0) := Fresh.free fun b hb' => hF3 b (by omega)
  have h4w : Upto (fun a => some a.block = v5.ownBlock) m4 w₁ := (Upto.gh (O := O.free g0) (h := h)).trans ((Upto.of_heap (m := (O.free g0).gh h m4) (m' := re ((O.free g0).gh h m4) τ' 0) rfl).trans ((Upto.drew .alloc).trans (Upto.grown p2 (fun a e => e))))
  have nb' : ∀ i, ¬ some (⟨rp, i, none⟩ : Addr).block = v5.ownBlock := fun i e => n2' e.symm
  have hup5 : Upto (fun a => a = ⟨rp, 5, none⟩ ∨ some a.block = v5.ownBlock) m4 m5 := by
    subst p3; exact Upto.set (h4w.mono (fun _ z => .inr z)) (.inl rfl)
  have hrp5 : m5.cell? ⟨rp, 5, none⟩ = some (.slice sb' sm' sk') := by
    subst p3; exact World.cell?_setCell_same _ _ _ (h4w.cell _ _ h54 (nb' 5))
  obtain ⟨g5, cap5, e5, ho5, hp5, hR5, hob5⟩ := owns_free (h := h) (m := m4) R54 hF4 (w := ((re ((O.free g0).gh h m4) τ' 0).alloc (.cells #[.bool false] 4)).drew) (fun b hlt => by rw [get_d, get_a, if_neg (by rw [hs4]; omega)]; rfl) (by rw [size_d, size_a, hs4]; omega) p1 p2 (by decide) (by omega)
  have hq5 : v5.ownBlock = some g5 ∨ m4.heap.size + 1 ≤ g5 := (p4 g5 hob5).imp id fun z => by rw [size_d, size_a, hs4] at z; exact z
  have hg5 : g5 ≠ rp := fun e => by
    rcases hq5 with z | z
    · exact n2' (by rw [z, e])
    · have z1 := M.size; have z2 : rp < m.heap.size := lrp; omega
  -- the blocks that begin has made
  have z0 : rp < m.heap.size := lrp
  have zs1 := s1
  have zs2 := s2
  have zM := M.size
  obtain ⟨L1, L2, L3, L4⟩ := M.lo
  obtain ⟨H1, H2, H3, H4⟩ := M.hi
  obtain ⟨N1, N2⟩ := M.ne
  have s5 : m4.heap.size ≤ m5.heap.size := hup5.size
  have far0 : ∀ b i, m.heap.size ≤ b → ¬ ((⟨b, i, none⟩ : Addr) = ⟨rp, 0, none⟩ ∨ some (⟨b, i, none⟩ : Addr).block = (Value.slice sa sl sc).ownBlock) := fun b i hb z => by
    rcases z with z | z
    · have : b = rp := congrArg Addr.block z
      omega
    · have := (R0.lt z.symm).1
      simp only at this
      omega
  have far5 : ∀ b i, m.heap.size ≤ b → ¬ ((⟨b, i, none⟩ : Addr) = ⟨rp, 5, none⟩ ∨ some (⟨b, i, none⟩ : Addr).block = v5.ownBlock) := fun b i hb z => by
    rcases z with z | z
    · have : b = rp := congrArg Addr.block z
      omega
    · have := (R5.lt z.symm).1
      simp only at this
      omega
  have cellN : ∀ b i v, m.heap.size ≤ b → m3.cell? ⟨b, i, none⟩ = some v → m5.cell? ⟨b, i, none⟩ = some v := fun b i v hb hv => hup5.cell _ _ (hup.cell _ _ hv (far0 b i hb)) (far5 b i hb)
  have chanN : ∀ b, m.heap.size ≤ b → m3.heap[b]? = some (Obj.chan 0 #[] false 0 0 false) → m5.heap[b]? = some (Obj.chan 0 #[] false 0 0 false) := fun b hb hv => hup5.chan (hup.chan hv (far0 b 0 hb)) (far5 b 0 hb)
  obtain ⟨fth4, hth4⟩ := hup.row _ _ _ _ M.th (fun i => far0 tp i (by omega))
  obtain ⟨fth, hth⟩ := hup5.row _ _ _ _ hth4 (fun i => far5 tp i (by omega))
  have fr : ∀ b, m.heap.size ≤ b → ((O.free g0).free g5).o b = none ∧ ((O.free g0).free g5).pre b = 0 := fun b hb => ⟨by simp only [Own.free]; split; rfl; split; rfl; exact (hF b hb).1, (hF b hb).2⟩
  have hF5 : Fresh m5 ((O.free g0).free g5) := fun b hb => fr b (by omega)
  refine Okk.own (O' := (O.free g0).free g5) (Own.le.free ho5) (fun _ => hF5) ?_
  let O3 : Own := (((((O.free g0).free g5).fix tp 4).fix tb 1).fix m.heap.size 1).fix m1.heap.size 1
  have o3 : ∀ b, O3.o b = ((O.free g0).free g5).o b := fun b => rfl
  have le3 : Own.le h ((O.free g0).free g5) O3 :=
    (((Own.le.fix (.inl (fr tp (by omega)).1)).trans (Own.le.fix (.inl (fr tb (by omega)).1))).trans (Own.le.fix (.inl (fr m.heap.size (by omega)).1))).trans (Own.le.fix (.inl (fr m1.heap.size (by omega)).1))
  have p3o : ∀ b, b ≠ tp → b ≠ tb → b ≠ m.heap.size → b ≠ m1.heap.size → O3.pre b = O.pre b := fun b a1 a2 a3 a4 => by simp only [O3, Own.fix, Own.free]; rw [if_neg a4, if_neg a3, if_neg a2, if_neg a1]
  refine Okk.own (O' := O3) le3 (fun _ => fun b hb => ⟨(fr b (by omega)).1, by rw [p3o b (by omega) (by omega) (by omega) (by omega)]; exact (hF b (by omega)).2⟩) ?_
  simp only [t75c]
  have pre3 : O3.pre tp = 4 ∧ O3.pre tb = 1 ∧ O3.pre m.heap.size = 1 ∧ O3.pre m1.heap.size = 1 := by
    have q1 := (fr tp (by omega)).2
    have q2 := (fr tb (by omega)).2
    have q3 := (fr m.heap.size (by omega)).2
    have q4 := (fr m1.heap.size (by omega)).2
    refine ⟨?_, ?_, ?_, ?_⟩ <;> simp only [O3, Own.fix]
    · rw [if_neg (by omega), if_neg (by omega), if_neg (by omega), if_pos trivial, q1]; rfl
    · rw [if_neg (by omega), if_neg (by omega), if_pos trivial, if_neg (by omega), q2]; rfl
    · rw [if_neg (by omega), if_pos trivial, if_neg (by omega), if_neg (by omega), q3]; rfl
    · rw [if_pos trivial, if_neg (by omega), if_neg (by omega), if_neg (by omega), q4]; rfl
  have hth' : ∀ i (hi : i < (newTh rp sl cw cd).size), m5.cell? ⟨tp, i, none⟩ = some (newTh rp sl cw cd)[i] := fun i hi => cell_of_cells hth hi
  refine begin4 (S := S) (E := E) (rp := rp) (rb := m.heap.size) (tb := tb) (fb := m1.heap.size) (tp := tp) (cw := cw) (cd := cd) hP _ _ _ _ _ _ _ _ _ _ _ _ _ _ _ _ _ _ _ _ _ _ _ _ _ _ _ _ _ _ ⟨by omega, by omega⟩ ⟨pre3.1, pre3.2.1⟩ (.inl (fr tp (by omega)).1)
    (cellN tb 0 _ (by omega) htb3) (hth' 2 (by show 2 < 14; decide)) (hth' 3 (by show 3 < 14; decide)) (chanN cw (by omega) M.wake) (chanN cd (by omega) M.stood) N2
    (fun i s hi hs => by
      obtain ⟨k, hk'⟩ := hch i s hi hs
      have := (Array.getElem?_eq_some_iff.1 hk').1
      exact ⟨by omega, by omega⟩)
    (hk m5 O3 tp tb m.heap.size m1.heap.size cw cd (.slice sb sm sk) _ ⟨?_, ?_, ?_, hrp5, ?_, ⟨_, hth⟩, ?_, cellN tb 0 _ (by omega) htb3, ?_, ⟨by omega, by omega, by omega, by omega, by omega, by omega⟩, ⟨by omega, by omega, by omega, N2⟩, pre3, ⟨(fr tp (by omega)).1, (fr tb (by omega)).1, (fr m.heap.size (by omega)).1, (fr m1.heap.size (by omega)).1⟩, ?_, ?_, ?_, chanN cw (by omega) M.wake, chanN cd (by omega) M.stood, ?_, ?_, ?_, ⟨by omega, by omega, by omega⟩⟩)
  · refine ((u3.mono (fun _ z => z.elim)).trans (hup.mono (fun a z => ?_))).trans (hup5.mono (fun a z => ?_))
    · exact z.elim .inl (fun z => .inr (.inr (.inl z)))
    · exact z.elim (fun z => .inr (.inl z)) (fun z => .inr (.inr (.inr z)))
  · exact hup5.cell _ _ hrp4 (fun z => by
      rcases z with z | z
      · cases z
      · exact n2' z.symm)
  · have hq := q4 g0 hob0
    have g0lt : g0 < m.heap.size ∨ m3.heap.size ≤ g0 := by
      rcases hq with z | z
      · exact .inl (R0.lt z).1
      · rw [size_d, size_a, hs3] at z; exact .inr (by omega)
    refine ((hR04.upto hup5 (fun g i hg z => ?_))).stays (fun g hg cur f hm ho hp => ⟨⟨f, hm⟩, by rw [o3]; simp only [Own.free] at ho ⊢; split; rfl; exact ho, ?_⟩)
    · rw [hob0] at hg; cases hg
      rcases z with z | z
      · exact hg0 (congrArg Addr.block z)
      · obtain ⟨hlt, cur, f, h1⟩ := R5.lt z.symm
        simp only at h1 hlt
        rcases hq with z2 | z2
        · obtain ⟨_, cur', f', h2⟩ := R0.lt z2
          rw [h1] at h2; cases h2
        · rw [size_d, size_a, hs3] at z2; omega
    · rw [hob0] at hg; cases hg
      rw [p3o g0 (by omega) (by omega) (by omega) (by omega)]
      exact hp0
  · have hq := p4 g5 hob5
    have g5lt : g5 < m.heap.size ∨ m4.heap.size ≤ g5 := by
      rcases hq with z | z
      · exact .inl (R5.lt z).1
      · rw [size_d, size_a, hs4] at z; exact .inr (by omega)
    have hR55 : Row ((O.free g0).free g5) m5 4 1 (.slice sb' sm' sk') (sl + 1) (bs ++ [.bool false]) := by
      refine (hR5 ((O.free g0).free g5) (by simp [Own.free]) hp5).upto (W := fun a => a = ⟨rp, 5, none⟩) (by subst p3; exact .setCell rfl) (fun g i hg e => ?_)
      rw [hob5] at hg
      cases hg
      exact hg5 (congrArg Addr.block e)
    refine hR55.stays (fun g hg cur f hm ho hp => ⟨⟨f, hm⟩, by rw [o3]; exact ho, ?_⟩)
    rw [hob5] at hg; cases hg
    rw [p3o g5 (by omega) (by omega) (by omega) (by omega)]
    exact hp5
  · exact cellN m.heap.size 0 _ (by omega) hrb3
  · exact cellN m1.heap.size 0 _ (by omega) (M.u.cell _ _ hfb (fun z => z))
  · exact ((Own.le.free ho0).trans (Own.le.free ho5)).trans le3
  · intro b hb
    rw [o3]; simp only [Own.free]
    split
    · rfl
    · split
      · rfl
      · exact hb
  · intro b hb
    exact p3o b (by omega) (by omega) (by omega) (by omega)
  · intro g hg
    rw [hob0] at hg; cases hg
    rcases hq0 with z | z
    · exact .inl z
    · exact .inr ⟨by omega, by omega, by omega, by omega, by omega, by omega⟩
  · intro g hg
    rw [hob5] at hg; cases hg
    rcases hq5 with z | z
    · exact .inl z
    · refine .inr ⟨by omega, by omega, by omega, by omega, by omega, by omega, fun e => ?_⟩
      rw [hob0] at e; cases e
      obtain ⟨hlt, _⟩ := hR04.lt hob0
      omega
  · intro b hb
    rw [o3]; simp only [Own.free]
    by_cases e5 : b = g5
    · subst e5
      rcases hq5 with z | z
      · exact .inr (.inr z)
      · omega
    · rw [if_neg e5]
      by_cases e0 : b = g0
      · subst e0
        rcases hq0 with z | z
        · exact .inr (.inl z)
        · omega
      · rw [if_neg e0]; exact .inl rfl
end Go.Proofs.Ytkbfbphbdljaaaa
