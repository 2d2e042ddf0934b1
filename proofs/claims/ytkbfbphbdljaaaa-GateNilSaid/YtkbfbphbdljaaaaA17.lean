/- Texts of one proof, joined: each says what it proves. Every premise stands in the statements. -/
import Derived.Test.YtkbfbphbdljaaaaA16
import Derived.Deep.RegionHeld
import Derived.Deep.RegionLawGrows
/- gate's begin: the pieces that make memory. Every premise stands in the statements. -/
set_option linter.unusedVariables false
set_option linter.unusedSimpArgs false
namespace Go.Proofs.Ytkbfbphbdljaaaa
open Go.Tre Go.RowKit
open Go.Conc (G base baseD crowd rcase scase)
open Go.ConcN (upd)

noncomputable def c75_1 : Code := match Try.f75.body with | some (.seq _ (.seq c _)) => c | _ => .skip
noncomputable def c75_2 : Code := match Try.f75.body with | some (.seq _ (.seq _ (.seq c _))) => c | _ => .skip
noncomputable def c75_3 : Code := match Try.f75.body with | some (.seq _ (.seq _ (.seq _ (.seq c _)))) => c | _ => .skip

theorem keep_drew (w : World) (a : Addr) : w.drew.cell? a = w.cell? a := rfl
theorem keep_alloc (w : World) (a : Addr) (o : Obj) (h : a.block < w.heap.size) : (w.alloc o).cell? a = w.cell? a := World.cell?_alloc_lt _ _ _ h
theorem keep_set (w : World) (a p : Addr) (v : Value) (h : a.block ≠ p.block) : (w.setCell p v).cell? a = w.cell? a := World.cell?_setCell_other w p a v (fun e => h (by rw [e]))
theorem size_a (w : World) (o : Obj) : (w.alloc o).heap.size = w.heap.size + 1 := by show (w.heap.push o).size = _; simp
theorem size_d (w : World) : w.drew.heap.size = w.heap.size := rfl
theorem size_s (w : World) (a : Addr) (v : Value) : (w.setCell a v).heap.size = w.heap.size := by simp [World.setCell]
theorem get_a (w : World) (o : Obj) (b : Nat) : (w.alloc o).heap[b]? = if b = w.heap.size then some o else w.heap[b]? := by
  show (w.heap.push o)[b]? = _
  rw [Array.getElem?_push]
theorem get_d (w : World) (b : Nat) : w.drew.heap[b]? = w.heap[b]? := rfl
theorem mk63 (w : World) : (Instr.makeChan 63 (.int .i64 0)).run Try.prog w = .ok (.chan (some w.heap.size)) (w.alloc (.chan 0 #[] false 0 0 false)) := by
  unfold Instr.makeChan
  simp [go_sem]
/-- A new thread's record. -/
def newTh (rp n cw cd : Nat) : Array Value := #[.pointer (some ⟨rp, 0, none⟩), .int .i64 (n : Int), .chan (some cw), .chan (some cd), .pointer none, .int .i64 0, .int .i8 0, .int .i64 0, .int .i64 0, .int .i64 0, .int .i64 0, .int .i64 0, .bool false, .bool false]
/-- The blocks that begin makes. -/
structure Made (w w' : World) (rp n tp tb cw cd : Nat) : Prop where
  u : Upto (fun _ => False) w w'
  size : w'.heap.size = w.heap.size + 4
  lo : w.heap.size ≤ tp ∧ w.heap.size ≤ tb ∧ w.heap.size ≤ cw ∧ w.heap.size ≤ cd
  hi : tp < w'.heap.size ∧ tb < w'.heap.size ∧ cw < w'.heap.size ∧ cd < w'.heap.size
  ne : tp ≠ tb ∧ cw ≠ cd
  th : w'.heap[tp]? = some (.cells (newTh rp n cw cd) 65)
  box : w'.heap[tb]? = some (.cells #[.pointer (some ⟨tp, 0, none⟩)] 30)
  wake : w'.heap[cw]? = some (.chan 0 #[] false 0 0 false)
  stood : w'.heap[cd]? = some (.chan 0 #[] false 0 0 false)
set_option maxRecDepth 100000 in
set_option maxHeartbeats 2000000 in
theorem c75_1_wp (Q : Act → World → Prop) (w : World) (rp rb fb : Nat) (fv : Value) (sa : Option Addr) (n cap : Nat) (h0 : w.cell? ⟨rb, 0, none⟩ = some (.pointer (some ⟨rp, 0, none⟩))) (h1 : w.cell? ⟨rp, 0, none⟩ = some (.slice sa n cap))
   (hQ : ∀ tp tb cw cd w', Made w w' rp n tp tb cw cd → Q ⟨#[.pointer (some ⟨rp, 0, none⟩), fv, .pointer (some ⟨rb, 0, none⟩), .pointer (some ⟨fb, 0, none⟩), .pointer none, .pointer (some ⟨tb, 0, none⟩), .pointer (some ⟨rp, 0, none⟩), .pointer (some ⟨rp, 0, none⟩), .pointer (some ⟨rp, 0, none⟩), .pointer (some ⟨rp, 0, none⟩),
      .slice sa n cap, .int .i64 (n : Int), .chan (some cw), .chan (some cd), .agg (newTh rp n cw cd), .pointer (some ⟨tp, 0, none⟩), undef, undef, undef, undef, undef, undef, undef, undef, undef, undef, undef, undef, undef, undef, undef, undef, undef, undef, undef, undef, undef, undef, undef], []⟩ w') :
   c75_1.wp Try.prog (fun e a w => match e with | .normal => Q a w | _ => False) ⟨#[.pointer (some ⟨rp, 0, none⟩), fv, .pointer (some ⟨rb, 0, none⟩), .pointer (some ⟨fb, 0, none⟩), .pointer none, undef, undef, undef, undef, undef, undef, undef, undef, undef, undef, undef, undef, undef, undef, undef, undef, undef, undef, undef, undef, undef, undef, undef, undef, undef, undef, undef, undef, undef, undef, undef, undef, undef, undef], []⟩ w := by
  have hmk := mk63
  have l1 := World.block_lt_of_cell? w _ h0
  have l2 := World.block_lt_of_cell? w _ h1
  simp only at l1 l2
  simp only [c75_1, Try.f75]
  go_region_held (fun w' => w'.cell? ⟨rb, 0, none⟩ = some (.pointer (some ⟨rp, 0, none⟩)) ∧ w'.cell? ⟨rp, 0, none⟩ = some (.slice sa n cap)) (refine ⟨?_, ?_⟩ <;> first | assumption | (repeat (first | (rw [keep_drew]) | (rw [keep_alloc _ _ _ (by simp only [size_a, size_d, size_s, ne_eq]; omega)]) | (rw [keep_set _ _ _ _ (by simp only [size_a, size_d, size_s, ne_eq]; omega)]))) <;> assumption) (fail)
  all_goals
    (refine hQ _ _ _ _ _ ⟨.drew (.trans (.trans (.trans .alloc .alloc) .alloc) .alloc), by simp only [size_a, size_d], ⟨by omega, by omega, by omega, by omega⟩, ⟨by simp only [size_a, size_d]; omega, by simp only [size_a, size_d]; omega, by simp only [size_a, size_d]; omega, by simp only [size_a, size_d]; omega⟩, ⟨by omega, by omega⟩, ?_, ?_, ?_, ?_⟩ <;>
      (simp only [get_d, get_a, size_a, size_d]; (repeat (first | rw [if_pos rfl] | rw [if_neg (by omega)])) <;> rfl))

/-- An append goes into its own row or a new one. -/
theorem append_block {P : Program} {w : World} (t ty e : TypeId) (i : TypeInfo) (z : Value) (size bytes : Nat) (h1 : P.underlying t = some (.slice e)) (h2 : P.info? e = some i) (h3 : i.zero = some z) (h4 : i.size = size) (h5 : i.bytes = bytes) (h6 : z.cells.size = size) (h7 : 0 < size)
    (base : Nat) (v : Value) (n : Nat) (xs : List Value) (hown : w.ownsRow base e size v n xs)
    (ad : Addr) (m c : Nat) (news : List Value) (hn : news.length = m * size) (hc : ∀ j u, news[j]? = some u → w.cell? (ad.add j) = some u) (h1c : ∀ u ∈ news, u.oneCell' = true)
    (b1 : n + m ≤ maxLen) (b2 : (n + m) * bytes ≤ 140737488355328) {v' : Value} {w' : World} (hrun : (Builtin.append_ #[t, t] ty #[v, .slice (some ad) m c]).run P w = .ok v' w') :
    ∀ g, v'.ownBlock = some g → v.ownBlock = some g ∨ w.heap.size ≤ g := by
  intro g hg
  have fresh : ∀ {k : Nat} {ys : List Value}, w'.ownsRow w.heap.size e size v' k ys → w.heap.size ≤ g := fun r => by
    rcases r.2 with ⟨rfl, _⟩ | ⟨g', cap, cur, rfl, hb, _⟩
    · cases hg
    · simp only [Value.ownBlock, Option.some.injEq] at hg; omega
  rcases hown.2 with ⟨rfl, rfl⟩ | ⟨g0, cap, cur, rfl, hb, hm, k1, k2, k3, k4⟩
  · obtain ⟨v'', w'', hrun', r1, _, _⟩ := run_append_own (P := P) w w.heap.size t ty e i z size bytes h1 h2 h3 h4 h5 h6 h7 (.slice none 0 0) 0 [] (World.ownsRow_nil w _ e size) ad m c news hn hc h1c b1 b2 (Nat.le_refl _)
    rw [hrun] at hrun'
    cases hrun'
    exact .inr (fresh r1)
  · have old : ∀ j u, xs[j]? = some u → w.cell? ((⟨g0, 0, none⟩ : Addr).add j) = some u := hown.cells rfl
    by_cases hroom : n + m ≤ cap
    · subst h4
      have hr := run_append_room_cells (P := P) w t ty e i h1 h2 g0 0 n cap ad m c news hn hc h1c hroom (fun j hj => by
        have hlt : 0 + n * i.size + j < cur.size := by
          rw [k3]
          have := Nat.mul_le_mul_right i.size hroom
          rw [Nat.add_mul] at this
          omega
        rw [cell_of_cells hm hlt]; rfl) (fun j hj => by simp [World.frozen?, hm])
      rw [hrun] at hr
      cases hr
      exact .inl hg
    · obtain ⟨v'', w'', hrun', r1, _⟩ := run_append_arg_grows (P := P) w t ty e i z size bytes h1 h2 h3 h4 h5 h6 h7 ⟨g0, 0, none⟩ n cap xs hown.1 old ad m c news hn hc (by omega) b1 b2
      rw [hrun] at hrun'
      cases hrun'
      exact .inr (fresh r1)
theorem step_append_row {P : Program} {ops : Array Oper} {o : Oper} {a : Act} {w : World} {K : Act → World → Prop} {Q : Exit → Act → World → Prop} {E : Prop}
    (hg : o.guard = none) (s x : Operand) (t : TypeId) (hop : o.op = Op.call { callee := Callee.builtin Builtin.append, args := #[s, x], argTypes := #[t, t] })
    (e : TypeId) (i : TypeInfo) (z : Value) (size bytes : Nat) (h1 : P.underlying t = some (.slice e)) (h2 : P.info? e = some i) (h3 : i.zero = some z) (h4 : i.size = size) (h5 : i.bytes = bytes) (h6 : z.cells.size = size) (h7 : 0 < size)
    (base : Nat) (v : Value) (n : Nat) (xs : List Value) (hs : a.eval s = v) (hown : w.ownsRow base e size v n xs)
    (ad : Addr) (m c : Nat) (news : List Value) (hx : a.eval x = .slice (some ad) m c) (hn : news.length = m * size) (hc : ∀ j u, news[j]? = some u → w.cell? (ad.add j) = some u) (h1c : ∀ u ∈ news, u.oneCell' = true)
    (b1 : n + m ≤ maxLen) (b2 : (n + m) * bytes ≤ 140737488355328) (hbase : base ≤ w.heap.size)
    (hK : ∀ v' w', w'.ownsRow base e size v' (n + m) (xs ++ news) → w.grownBy w' v.ownBlock → (∀ g, v'.ownBlock = some g → v.ownBlock = some g ∨ w.heap.size ≤ g) → K (a.put o.dst v') w') :
    if Region.wanted o (yielded ops a.tmps) = true then Oper.wp P o a w K Q else E := by
  have hw : Region.wanted o (yielded ops a.tmps) = true := by simp [Region.wanted, hg]
  rw [if_pos hw]
  obtain ⟨v', w', hrun, r1, r2, _⟩ := run_append_own (P := P) w base t o.type e i z size bytes h1 h2 h3 h4 h5 h6 h7 v n xs hown ad m c news hn hc h1c b1 b2 hbase
  subst hs
  have r3 := append_block t o.type e i z size bytes h1 h2 h3 h4 h5 h6 h7 base _ n xs hown ad m c news hn hc h1c b1 b2 hrun
  unfold Oper.wp
  simp [execOp, hop, resolve, invoke, builtin, hx, hrun, Result.andThen]
  exact hK v' w' r1 r2 r3
end Go.Proofs.Ytkbfbphbdljaaaa
