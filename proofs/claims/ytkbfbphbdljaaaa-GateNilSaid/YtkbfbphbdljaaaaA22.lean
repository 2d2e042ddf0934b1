/- Texts of one proof, joined: each says what it proves. Every premise stands in the statements. -/
import Derived.Test.YtkbfbphbdljaaaaA18
import Derived.Test.YtkbfbphbdljaaaaA21
/- A run as a plain machine: each thread a tree of accesses; what memory and the seats hold of it. Every premise stands in the statements. -/
set_option linter.unusedVariables false
set_option linter.unusedSimpArgs false
namespace Go.Proofs.Ytkbfbphbdljaaaa
open Go.Tre Go.RowKit
open Go.Conc (G base baseD crowd rcase scase)
open Go.ConcN (upd upd_ne upd_same)

/-- What an access answers. -/
structure Ans where
  was : Int
  now : Int
  ok : Bool
/-- What the threads of a run share: the cells' names in order, the cells, the log, the law's own. -/
structure Sh (Λ : Type) where
  names : List Addr
  vals : Addr → Option Int
  log : List Acc
  lam : Λ
/-- A thread from where it stands: what it does is told as functions of what is shared. -/
inductive Th (Λ : Type) where
  | over (fell : Bool)
  | acc (op : Int) (v : Addr) (arg new : Int) (seg : Ans → Sh Λ → Sh Λ) (next : Ans → Sh Λ → Th Λ) (stop : Sh Λ → Sh Λ)
  | go (init : Nat → Sh Λ → Sh Λ) (child : Nat → Sh Λ → Th Λ) (seg : Int → Sh Λ → Sh Λ) (next : Int → Sh Λ → Th Λ) (stop : Sh Λ → Sh Λ)
variable {Λ : Type}
def Th.isOver : Th Λ → Bool
  | .over _ => true
  | _ => false
def Th.fell : Th Λ → Bool
  | .over f => f
  | _ => false
/-- The access at which it stands. -/
def Th.req : Th Λ → Option (Option Addr × Int × Int × Int)
  | .over _ => none
  | .acc op v arg new _ _ _ => some (some v, op, arg, new)
  | .go .. => some (none, 7, 0, 0)
/-- What a cell holds behind an access; has it been exchanged? -/
def behind (op was arg new : Int) : Int × Bool :=
  if op = 2 ∨ op = 5 then (arg, false) else if op = 3 then (if was = arg then (new, true) else (was, false)) else if op = 4 then (wrap64 (was + arg), false) else (was, false)
def Sh.name (s : Sh Λ) (v : Addr) : List Addr := if v ∈ s.names then s.names else s.names ++ [v]
def Sh.ans (s : Sh Λ) (op : Int) (v : Addr) (arg new : Int) : Ans :=
  let was := (s.vals v).getD 0
  ⟨was, (behind op was arg new).1, (behind op was arg new).2⟩
/-- Behind the access itself. -/
def Sh.acc (s : Sh Λ) (i : Nat) (op : Int) (v : Addr) (arg new : Int) : Sh Λ :=
  let a := s.ans op v arg new
  { s with names := s.name v, vals := fun x => if x = v then some a.now else s.vals x, log := s.log ++ [⟨i, op, s.names.idxOf v, arg, new, a.was, a.now, a.ok⟩] }
def Sh.logs (s : Sh Λ) (a : Acc) : Sh Λ := { s with log := s.log ++ [a] }

/-- A thread as memory has it: its block, its channels, its boxes, its goroutine, its seat. -/
structure TD (Λ : Type) where
  tp : Nat
  cw : Nat
  cd : Nat
  tb : Nat
  rb : Nat
  g : Nat
  seat : Seat
  T : Th Λ
/-- A run. 'κ': of each block what it is for; 'cap': how long the log may be by now. -/
structure GSt (Λ : Type) where
  s : Sh Λ
  tds : List (TD Λ)
  went : List Int
  ready : List Int
  st : Bool
  κ : Nat → Nat
  cap : Nat
/-- Thread i has come to another place. -/
def GSt.put (G : GSt Λ) (i : Nat) (td : TD Λ) (s : Sh Λ) : GSt Λ := { G with s := s, tds := G.tds.set i td }

/-- The law's own memory: what it holds at each state, which places that are. -/
structure Lw (Λ : Type) where
  inv : Λ → World → Own → Prop
  good : Sh Λ → Prop
  gacc : ∀ {s i op v arg new}, good s → good (s.acc i op v arg new)
  glog : ∀ {s a}, good s → good (s.logs a)
  own : Λ → Addr → Prop
  low : ∀ {l m O a}, inv l m O → own l a → a.block < m.heap.size
  stable : ∀ {l m O m' O' W}, inv l m O → Upto W m m' → (∀ a, own l a → ¬ W a) → (∀ a, own l a → O'.o a.block = O.o a.block ∧ O'.pre a.block = O.pre a.block) → inv l m' O'

/-- The map's entries. -/
def ents (names : List Addr) : Array MapEntry := (names.mapIdx fun k a => { key := .pointer (some a), val := .int .i64 (k : Int), born := k : MapEntry }).toArray

section
variable [Base]
/-- Owners of some blocks are the same. -/
def Same (S : Nat → Prop) (O O' : Own) : Prop := ∀ b, S b → O'.o b = O.o b ∧ O'.pre b = O.pre b

/-- A list of the run's. -/
def Rw (κ : Nat → Nat) (rp c idx : Nat) (ty : TypeId) (sz : Nat) (n : Nat) (xs : List Value) (m : World) (O : Own) : Prop :=
  ∃ v, m.cell? ⟨rp, idx, none⟩ = some v ∧ Row O m ty sz v n xs ∧ ∀ g, v.ownBlock = some g → κ g = c
theorem Rw.upto {κ κ' : Nat → Nat} {rp c idx : Nat} {ty : TypeId} {sz n : Nat} {xs : List Value} {m m' : World} {O O' : Own} {W : Addr → Prop} (H : Rw κ rp c idx ty sz n xs m O) (hu : Upto W m m')
    (h1 : ¬ W ⟨rp, idx, none⟩) (h2 : ∀ a, W a → κ a.block ≠ c) (ho : Same (fun b => κ b = c) O O') (hk : ∀ b, κ b = c → κ' b = c) : Rw κ' rp c idx ty sz n xs m' O' := by
  obtain ⟨v, hv, hR, hc⟩ := H
  refine ⟨v, hu.cell _ _ hv h1, hR.stays fun g hg cur f hm o p => ?_, fun g hg => hk g (hc g hg)⟩
  have hcg := hc g hg
  exact ⟨hu.row g cur ty f hm fun i hw => h2 _ hw hcg, (ho g hcg).1.trans o, (ho g hcg).2.trans p⟩

/-- What memory holds of a thread. -/
structure TdMem (rp : Nat) (B : Option Nat) (s : Sh Λ) (i : Nat) (td : TD Λ) (m : World) (O : Own) : Prop where
  b0 : Base.b0 ≤ td.tp
  r : m.cell? ⟨td.tp, 0, none⟩ = some (.pointer (some ⟨rp, 0, none⟩))
  number : m.cell? ⟨td.tp, 1, none⟩ = some (.int .i64 (i : Int))
  wake : m.cell? ⟨td.tp, 2, none⟩ = some (.chan (some td.cw))
  stood : m.cell? ⟨td.tp, 3, none⟩ = some (.chan (some td.cd))
  v : ∃ o, m.cell? ⟨td.tp, 4, none⟩ = some o
  at_ : ∃ a : Acc, a.at m td.tp 5
  ended : m.cell? ⟨td.tp, 13, none⟩ = some (.bool (B.isNone && td.T.isOver))
  tbox : m.cell? ⟨td.tb, 0, none⟩ = some (.pointer (some ⟨td.tp, 0, none⟩))
  rbox : m.cell? ⟨td.rb, 0, none⟩ = some (.pointer (some ⟨rp, 0, none⟩))
  lives : (B.isNone && td.T.isOver) = false → O.o td.tp = some td.g ∧ O.pre td.tp = 4 ∧ (∃ k, m.heap[td.cw]? = some (.chan 0 #[] false k k false)) ∧ ∃ k, m.heap[td.cd]? = some (.chan 0 #[] false k k false)
  stands : B = none → ∀ q, td.T.req = some q → m.cell? ⟨td.tp, 4, none⟩ = some (.pointer q.1) ∧ (Acc.mk i q.2.1 (-1) q.2.2.1 q.2.2.2 0 0 false).at m td.tp 5 ∧ ∀ v, q.1 = some v → (s.vals v).isSome = true

theorem TdMem.upto {rp : Nat} {B : Option Nat} {s s' : Sh Λ} {i : Nat} {td : TD Λ} {m m' : World} {O O' : Own} {W : Addr → Prop} (H : TdMem rp B s i td m O) (hu : Upto W m m')
    (h1 : ∀ k, ¬ W ⟨td.tp, k, none⟩) (h2 : ∀ k, ¬ W ⟨td.tb, k, none⟩) (h3 : ∀ k, ¬ W ⟨td.rb, k, none⟩) (h4 : ¬ W ⟨td.cw, 0, none⟩) (h5 : ¬ W ⟨td.cd, 0, none⟩) (ho : O'.o td.tp = O.o td.tp ∧ O'.pre td.tp = O.pre td.tp) (hv : ∀ a, (s.vals a).isSome = true → (s'.vals a).isSome = true) : TdMem rp B s' i td m' O' where
  b0 := H.b0
  r := hu.cell _ _ H.r (h1 _)
  number := hu.cell _ _ H.number (h1 _)
  wake := hu.cell _ _ H.wake (h1 _)
  stood := hu.cell _ _ H.stood (h1 _)
  v := H.v.elim fun o h => ⟨o, hu.cell _ _ h (h1 _)⟩
  at_ := H.at_.elim fun a h => ⟨a, Acc.upto h hu fun _ _ => h1 _⟩
  ended := hu.cell _ _ H.ended (h1 _)
  tbox := hu.cell _ _ H.tbox (h2 _)
  rbox := hu.cell _ _ H.rbox (h3 _)
  lives := fun h => by
    obtain ⟨a, b, ⟨k, c⟩, k', d⟩ := H.lives h
    exact ⟨ho.1.trans a, ho.2.trans b, ⟨k, hu.chan c h4⟩, k', hu.chan d h5⟩
  stands := fun h q hq => by
    obtain ⟨a, b, c⟩ := H.stands h q hq
    exact ⟨hu.cell _ _ a (h1 _), Acc.upto b hu fun _ _ => h1 _, fun v e => hv v (c v e)⟩

/-- What memory holds of a run. -/
structure MemI (L : Lw Λ) (rp mb : Nat) (B : Nat → Option Nat) (G : GSt Λ) (m : World) (O : Own) : Prop where
  b0 : Base.b0 ≤ rp
  ro : O.o rp = none ∧ O.pre rp = 0
  c1 : m.cell? ⟨rp, 1, none⟩ = some (.map (some mb))
  map : m.heap[mb]? = some (.map (ents G.s.names) G.s.names.length)
  stops : m.cell? ⟨rp, 6, none⟩ = some (.bool G.st)
  threads : Rw G.κ rp 3 0 30 1 G.tds.length (G.tds.map fun td => .pointer (some ⟨td.tp, 0, none⟩)) m O
  log : Rw G.κ rp 4 2 61 8 G.s.log.length (G.s.log.flatMap fun a => a.vals.toList) m O
  went : Rw G.κ rp 5 3 3 1 G.went.length (G.went.map (Value.int .i64)) m O
  ready : Rw G.κ rp 6 4 3 1 G.ready.length (G.ready.map (Value.int .i64)) m O
  fell : Rw G.κ rp 7 5 4 1 G.tds.length (G.tds.map fun td => .bool td.T.fell) m O
  td : ∀ i td, G.tds[i]? = some td → TdMem rp (B i) G.s i td m O
  vals : ∀ a x, G.s.vals a = some x → m.cell? a = some (.int .i64 x) ∧ Base.b0 ≤ a.block ∧ O.o a.block = none ∧ O.pre a.block = 0 ∧ a.spot = none
  nv : ∀ a, a ∈ G.s.names → (G.s.vals a).isSome = true
  law : L.inv G.s.lam m O
  good : L.good G.s
  k1 : G.κ rp = 1
  k2 : G.κ mb = 2
  kt : ∀ i td, G.tds[i]? = some td → G.κ td.tp = 8 + 5 * i ∧ G.κ td.tb = 9 + 5 * i ∧ G.κ td.rb = 10 + 5 * i ∧ G.κ td.cw = 11 + 5 * i ∧ G.κ td.cd = 12 + 5 * i
  k0 : ∀ a x, G.s.vals a = some x → G.κ a.block = 0
  kl : ∀ a, L.own G.s.lam a → G.κ a.block = 0 ∧ G.s.vals a = none
  klt : ∀ b, G.κ b ≠ 0 → b < m.heap.size
  llen : G.s.log.length ≤ G.cap
  cap : G.cap ≤ 1099511627776
  tlen : G.tds.length ≤ 64
  wlen : G.went.length ≤ 65536 ∧ G.ready.length ≤ 65536

/-- Who waits where. 'E': who has nothing to do with this run; 'h' holds. -/
structure SeatI (E : Nat → Option Seat) (h : Nat) (B : Nat → Option Nat) (G : GSt Λ) (Γ : Nat → Option Seat) : Prop where
  env : ∀ k sc, E k = some sc → k ≠ h ∧ Γ k = some sc
  lives : ∀ i td, G.tds[i]? = some td → ((B i).isNone && td.T.isOver) = false → E td.g = none ∧ 0 < td.g
  stands : ∀ i td, G.tds[i]? = some td → B i = none → td.T.isOver = false → td.g ≠ h ∧ Γ td.g = some td.seat ∧ td.seat.c = td.cw
  runs : ∀ i td b, G.tds[i]? = some td → B i = some b → td.g = h ∨ ∃ sc, Γ td.g = some sc
  wk : ∀ i td k sc, G.tds[i]? = some td → ((B i).isNone && td.T.isOver) = false → k ≠ h → Γ k = some sc → sc.c = td.cw → k = td.g ∧ B i = none
  sd : ∀ i td k sc, G.tds[i]? = some td → ((B i).isNone && td.T.isOver) = false → k ≠ h → Γ k = some sc → sc.c = td.cd → B i = some k
  inj : ∀ i j td td', G.tds[i]? = some td → G.tds[j]? = some td' → ((B i).isNone && td.T.isOver) = false → ((B j).isNone && td'.T.isOver) = false → td.g = td'.g → i = j
  out : ∀ k sc, k ≠ h → Γ k = some sc → E k = some sc ∨ (∃ i td, G.tds[i]? = some td ∧ td.g = k ∧ ((B i).isNone && td.T.isOver) = false) ∨ ∃ i, B i = some k
end
end Go.Proofs.Ytkbfbphbdljaaaa

/- More functions that are plain; an append by its row. Every premise stands in the statements. -/
set_option linter.unusedVariables false
set_option linter.unusedSimpArgs false
namespace Go.Proofs.Ytkbfbphbdljaaaa
open Go.Tre Go.RowKit
def plS2 (f : FuncId) : Bool := plS f || f == 76 || f == 110 || f == 45
theorem wpList_append_row {P : Program} {w : World} {ops : Array Oper} {rest : List Oper} {o : Oper} {a : Act} {Q : Exit → Act → World → Prop}
    (hg : o.guard = none) (s x : Operand) (t : TypeId) (hop : o.op = Op.call { callee := Callee.builtin Builtin.append, args := #[s, x], argTypes := #[t, t] })
    (e : TypeId) (i : TypeInfo) (z : Value) (size bytes : Nat) (h1 : P.underlying t = some (.slice e)) (h2 : P.info? e = some i) (h3 : i.zero = some z) (h4 : i.size = size) (h5 : i.bytes = bytes) (h6 : z.cells.size = size) (h7 : 0 < size)
    (base : Nat) (v : Value) (n : Nat) (xs : List Value) (hs : a.eval s = v) (hown : w.ownsRow base e size v n xs)
    (ad : Addr) (m c : Nat) (news : List Value) (hx : a.eval x = .slice (some ad) m c) (hn : news.length = m * size) (hc : ∀ j u, news[j]? = some u → w.cell? (ad.add j) = some u) (h1c : ∀ u ∈ news, u.oneCell' = true)
    (b1 : n + m ≤ maxLen) (b2 : (n + m) * bytes ≤ 140737488355328) (hbase : base ≤ w.heap.size)
    (hK : ∀ v' w', w'.ownsRow base e size v' (n + m) (xs ++ news) → w.grownBy w' v.ownBlock → (∀ g, v'.ownBlock = some g → v.ownBlock = some g ∨ w.heap.size ≤ g) → wpList P ops Q rest (a.put o.dst v') w') :
    wpList P ops Q (o :: rest) a w := by
  refine wpList_plain hg fun K' hK' => ?_
  obtain ⟨v', w', hrun, r1, r2, _⟩ := run_append_own (P := P) w base t o.type e i z size bytes h1 h2 h3 h4 h5 h6 h7 v n xs hown ad m c news hn hc h1c b1 b2 hbase
  subst hs
  have r3 := append_block t o.type e i z size bytes h1 h2 h3 h4 h5 h6 h7 base _ n xs hown ad m c news hn hc h1c b1 b2 hrun
  unfold Oper.wp
  simp [execOp, hop, resolve, invoke, builtin, hx, hrun, Result.andThen]
  exact hK' _ _ (hK v' w' r1 r2 r3)
variable [Base]
theorem try_plain2 : Plain Try.prog plS2 plE where
  body := fun f hf => by
    simp only [plS2, plS, Bool.or_eq_true, beq_iff_eq] at hf
    rcases hf with ((((((((rfl | rfl) | rfl) | rfl) | rfl) | rfl) | rfl) | rfl) | rfl)
    · exact ⟨_, _, Try.func29, by kernel_rfl, rfl, by simp [okCode, okOp, plS, plS2, plE]⟩
    · exact ⟨_, _, Try.func37, by kernel_rfl, rfl, by simp [okCode, okOp, plS, plS2, plE]⟩
    · exact ⟨_, _, Try.func16, by kernel_rfl, rfl, by simp [okCode, okOp, plS, plS2, plE]⟩
    · exact ⟨_, _, Try.func42, by kernel_rfl, rfl, by simp [okCode, okOp, plS, plS2, plE]⟩
    · exact ⟨_, _, Try.func43, by kernel_rfl, rfl, by simp [okCode, okOp, plS, plS2, plE]⟩
    · exact ⟨_, _, Try.func38, by kernel_rfl, rfl, by simp [okCode, okOp, plS, plS2, plE]⟩
    · exact ⟨_, _, Try.func76, by kernel_rfl, rfl, by simp [okCode, okOp, plS, plS2, plE]⟩
    · exact ⟨_, _, Try.func110, by kernel_rfl, rfl, by simp [okCode, okOp, plS, plS2, plE]⟩
    · exact ⟨_, _, Try.func45, by kernel_rfl, rfl, by simp [okCode, okOp, plS, plS2, plE]⟩
  ext := fun f hf => by
    simp only [plE, Bool.or_eq_true, beq_iff_eq] at hf
    rcases hf with ((rfl | rfl) | rfl) | rfl
    · exact ⟨_, _, Try.func47, n47, rfl, x47, e47, fun args => c_loadT _ args⟩
    · exact ⟨_, _, Try.func73, by kernel_rfl, rfl, x73, e73, fun args => c_storeT args⟩
    · exact ⟨_, _, Try.func74, by kernel_rfl, rfl, x74, e74, fun args => c_casT _ args⟩
    · exact ⟨_, _, Try.func67, by kernel_rfl, rfl, x67, e67, fun args => c_updateA _ _ args⟩
  early := try_early
end Go.Proofs.Ytkbfbphbdljaaaa

/- What memory holds of a run, carried over writes. Every premise stands in the statements. -/
set_option linter.unusedVariables false
set_option linter.unusedSimpArgs false
namespace Go.Proofs.Ytkbfbphbdljaaaa
open Go.Tre Go.RowKit
open Go.Conc (G base baseD crowd rcase scase)
open Go.ConcN (upd upd_ne upd_same)
variable {Λ : Type}
section
variable [Base]
variable {L : Lw Λ} {rp mb : Nat} {B : Nat → Option Nat} {G : GSt Λ} {m m' : World} {O O' : Own} {W : Addr → Prop}

/-- Colours given stay. -/
def Ext (κ κ' : Nat → Nat) : Prop := ∀ b, κ b ≠ 0 → κ' b = κ b
omit [Base] in
theorem Ext.refl (κ : Nat → Nat) : Ext κ κ := fun _ _ => rfl
omit [Base] in
theorem Ext.trans {a b c : Nat → Nat} (h : Ext a b) (k : Ext b c) : Ext a c := fun x hx => (k x (by rw [h x hx]; exact hx)).trans (h x hx)

/-- The law's memory stays while others write. -/
theorem MemI.lawStays (I : MemI L rp mb B G m O) (hu : Upto W m m') (hW : ∀ a, W a → G.κ a.block ≠ 0 ∨ (G.s.vals a).isSome = true) (ho : ∀ a, L.own G.s.lam a → O'.o a.block = O.o a.block ∧ O'.pre a.block = O.pre a.block) : L.inv G.s.lam m' O' :=
  L.stable I.law hu (fun a ha hw => by
    obtain ⟨k0, kv⟩ := I.kl a ha
    rcases hW a hw with h | h
    · exact h k0
    · rw [kv] at h; cases h) ho
theorem MemI.vlt (I : MemI L rp mb B G m O) {a : Addr} {x : Int} (h : G.s.vals a = some x) : a.block < m.heap.size := World.block_lt_of_cell? m a (I.vals a x h).1
theorem MemI.rlt (I : MemI L rp mb B G m O) : rp < m.heap.size := World.block_lt_of_cell? m _ I.c1

/-- ████ The law's own code, or a goroutine's on what is its own, has written. ████ -/
theorem MemI.law' {l' : Λ} (I : MemI L rp mb B G m O) (hu : Upto W m m') (hW : ∀ a, W a → (G.κ a.block = 0 ∧ G.s.vals a = none) ∨ 500 ≤ G.κ a.block)
    (ho : ∀ b, G.κ b ≠ 0 → G.κ b < 500 → O'.o b = O.o b ∧ O'.pre b = O.pre b) (hov : ∀ a x, G.s.vals a = some x → O'.o a.block = O.o a.block ∧ O'.pre a.block = O.pre a.block)
    (hl : L.inv l' m' O') (hk : ∀ a, L.own l' a → G.κ a.block = 0 ∧ G.s.vals a = none) (hg : L.good { G.s with lam := l' }) : MemI L rp mb B { G with s := { G.s with lam := l' } } m' O' := by
  have nW : ∀ a, G.κ a.block ≠ 0 → G.κ a.block < 500 → ¬ W a := fun a h1 h2 h => by rcases hW a h with z | z <;> omega
  have hc : ∀ c, c ≠ 0 → c < 500 → Same (fun b => G.κ b = c) O O' := fun c h1 h2 b hb => ho b (by omega) (by omega)
  have hcw : ∀ c, c ≠ 0 → c < 500 → ∀ a, W a → G.κ a.block ≠ c := fun c h1 h2 a ha e => nW a (by omega) (by omega) ha
  have hr : ∀ i, ¬ W ⟨rp, i, none⟩ := fun i => nW _ (by simp [I.k1]) (by simp [I.k1])
  have o1 := ho rp (by simp [I.k1]) (by simp [I.k1])
  have ht : ∀ i td, G.tds[i]? = some td → i < 64 := fun i td h => by have := (List.getElem?_eq_some_iff.1 h).1; have := I.tlen; omega
  exact {
    b0 := I.b0, ro := ⟨o1.1.trans I.ro.1, o1.2.trans I.ro.2⟩
    c1 := hu.cell _ _ I.c1 (hr _), map := hu.obj _ _ I.map (by simp) (nW _ (by simp [I.k2]) (by simp [I.k2])), stops := hu.cell _ _ I.stops (hr _)
    threads := I.threads.upto hu (hr _) (hcw _ (by decide) (by decide)) (hc _ (by decide) (by decide)) (fun _ h => h)
    log := I.log.upto hu (hr _) (hcw _ (by decide) (by decide)) (hc _ (by decide) (by decide)) (fun _ h => h)
    went := I.went.upto hu (hr _) (hcw _ (by decide) (by decide)) (hc _ (by decide) (by decide)) (fun _ h => h)
    ready := I.ready.upto hu (hr _) (hcw _ (by decide) (by decide)) (hc _ (by decide) (by decide)) (fun _ h => h)
    fell := I.fell.upto hu (hr _) (hcw _ (by decide) (by decide)) (hc _ (by decide) (by decide)) (fun _ h => h)
    td := fun i td h => by
      obtain ⟨z1, z2, z3, z4, z5⟩ := I.kt i td h
      have := ht i td h
      exact (I.td i td h).upto hu (fun k => nW _ (by simp only; omega) (by simp only; omega)) (fun k => nW _ (by simp only; omega) (by simp only; omega)) (fun k => nW _ (by simp only; omega) (by simp only; omega)) (nW _ (by simp only; omega) (by simp only; omega)) (nW _ (by simp only; omega) (by simp only; omega)) (ho _ (by omega) (by omega)) (fun _ h => h)
    vals := fun a x h => by
      obtain ⟨z1, z2, z3, z4, z5⟩ := I.vals a x h
      obtain ⟨p1, p2⟩ := hov a x h
      refine ⟨hu.cell _ _ z1 fun hw => ?_, z2, p1.trans z3, p2.trans z4, z5⟩
      rcases hW a hw with ⟨_, z⟩ | z
      · rw [h] at z; cases z
      · have := I.k0 a x h; omega
    nv := I.nv, law := hl, good := hg, k1 := I.k1, k2 := I.k2, kt := I.kt, k0 := I.k0, kl := hk, klt := fun b h => Nat.lt_of_lt_of_le (I.klt b h) hu.size, llen := I.llen, cap := I.cap, tlen := I.tlen, wlen := I.wlen }

/-- A block that is nobody's is given a colour. -/
theorem MemI.color {b c : Nat} (I : MemI L rp mb B G m O) (hb : G.κ b = 0) (hlt : b < m.heap.size) (hv : ∀ a x, G.s.vals a = some x → a.block ≠ b) (hl : ∀ a, L.own G.s.lam a → a.block ≠ b) : MemI L rp mb B { G with κ := fun x => if x = b then c else G.κ x } m O := by
  have ne : ∀ x, G.κ x ≠ 0 → x ≠ b := fun x h e => h (e ▸ hb)
  have hk : ∀ d, d ≠ 0 → ∀ x, G.κ x = d → (if x = b then c else G.κ x) = d := fun d hd x hx => by rw [if_neg (ne x (by omega))]; exact hx
  have rw' : ∀ {d idx ty sz n xs}, d ≠ 0 → Rw G.κ rp d idx ty sz n xs m O → Rw (fun x => if x = b then c else G.κ x) rp d idx ty sz n xs m O := fun hd ⟨v, h1, h2, h3⟩ => ⟨v, h1, h2, fun g hg => hk _ hd _ (h3 g hg)⟩
  exact { I with
    threads := rw' (by decide) I.threads, log := rw' (by decide) I.log, went := rw' (by decide) I.went, ready := rw' (by decide) I.ready, fell := rw' (by decide) I.fell
    k1 := hk 1 (by decide) _ I.k1, k2 := hk 2 (by decide) _ I.k2
    kt := fun i td h => by obtain ⟨z1, z2, z3, z4, z5⟩ := I.kt i td h; exact ⟨hk _ (by omega) _ z1, hk _ (by omega) _ z2, hk _ (by omega) _ z3, hk _ (by omega) _ z4, hk _ (by omega) _ z5⟩
    k0 := fun a x h => by show (if _ then _ else _) = _; rw [if_neg (hv a x h)]; exact I.k0 a x h
    kl := fun a h => ⟨by show (if _ then _ else _) = _; rw [if_neg (hl a h)]; exact (I.kl a h).1, (I.kl a h).2⟩
    klt := fun x h => by
      by_cases e : x = b
      · subst e; exact hlt
      · simp only [if_neg e] at h; exact I.klt x h }
end
end Go.Proofs.Ytkbfbphbdljaaaa

/- Threads come to stand, are let go: what memory and the seats hold then. Every premise stands in the statements. -/
set_option linter.unusedVariables false
set_option linter.unusedSimpArgs false
namespace Go.Proofs.Ytkbfbphbdljaaaa
open Go.Tre Go.RowKit
open Go.Conc (G base baseD crowd rcase scase)
open Go.ConcN (upd upd_ne upd_same)
variable {Λ : Type}
section
variable [Base]
variable {L : Lw Λ} {rp mb : Nat} {B : Nat → Option Nat} {G : GSt Λ} {m m' : World} {O O' : Own} {W : Addr → Prop} {E : Nat → Option Seat} {Γ : Nat → Option Seat}

/-- What one who waits has kept. -/
def Kept (sc : Seat) (h : Nat) (m : World) (O : Own) : Prop :=
  (∀ x v, sc.still x = some v → Base.b0 ≤ x.block ∧ (O.o x.block = some h ∨ x.off < O.pre x.block) ∧ m.cell? x = some v) ∧ ∀ b n, sc.mine b = some n → O.o b = some h ∧ O.pre b = n

/-- ████ A thread has come to stand. ████ -/
theorem MemI.stand {i b : Nat} {td : TD Λ} {T : Th Λ} {sc : Seat} (I : MemI L rp mb B G m O) (hi : G.tds[i]? = some td) (hb : B i = some b) (hu : Upto (Spot td.tp) m m') {q : Option Addr × Int × Int × Int} (hT : T.req = some q)
    (h4 : m'.cell? ⟨td.tp, 4, none⟩ = some (.pointer q.1)) (ha : (Acc.mk i q.2.1 (-1) q.2.2.1 q.2.2.2 0 0 false).at m' td.tp 5) (hv : ∀ v, q.1 = some v → (G.s.vals v).isSome = true) (hf : td.T.fell = false) : MemI L rp mb (upd B i none) (G.put i { td with seat := sc, T := T } G.s) m' O := by
  obtain ⟨t1, t2, t3, t4, t5⟩ := I.kt i td hi
  have hlen : i < G.tds.length := (List.getElem?_eq_some_iff.1 hi).1
  have kW : ∀ a, Spot td.tp a → G.κ a.block = 8 + 5 * i := fun a h => by rw [h.1]; exact t1
  have nW : ∀ a, G.κ a.block ≠ 8 + 5 * i → ¬ Spot td.tp a := fun a h1 h2 => h1 (kW a h2)
  have hTo : T.isOver = false := by cases T <;> simp [Th.req] at hT <;> rfl
  have hTf : T.fell = false := by cases T <;> simp [Th.req] at hT <;> rfl
  have lst : (G.put i { td with seat := sc, T := T } G.s).tds = G.tds.set i { td with seat := sc, T := T } := rfl
  have get : ∀ j td', (G.tds.set i { td with seat := sc, T := T })[j]? = some td' → (j = i ∧ td' = { td with seat := sc, T := T }) ∨ (j ≠ i ∧ G.tds[j]? = some td') := fun j td' h => by
    by_cases e : j = i
    · subst e
      rw [List.getElem?_set_self hlen] at h
      exact .inl ⟨rfl, (Option.some.inj h).symm⟩
    · rw [List.getElem?_set_ne (Ne.symm e)] at h
      exact .inr ⟨e, h⟩
  have m1 : (G.tds.set i { td with seat := sc, T := T }).map (fun td => Value.pointer (some ⟨td.tp, 0, none⟩)) = G.tds.map (fun td => Value.pointer (some ⟨td.tp, 0, none⟩)) := by
    apply List.ext_getElem?
    intro j
    simp only [List.getElem?_map]
    by_cases e : j = i
    · subst e; rw [List.getElem?_set_self hlen, hi]; rfl
    · rw [List.getElem?_set_ne (Ne.symm e)]
  have m2 : (G.tds.set i { td with seat := sc, T := T }).map (fun td => Value.bool td.T.fell) = G.tds.map (fun td => Value.bool td.T.fell) := by
    apply List.ext_getElem?
    intro j
    simp only [List.getElem?_map]
    by_cases e : j = i
    · subst e; rw [List.getElem?_set_self hlen, hi]; simp [hf, hTf]
    · rw [List.getElem?_set_ne (Ne.symm e)]
  have ro : ∀ idx, ¬ Spot td.tp ⟨rp, idx, none⟩ := fun idx => nW _ (by rw [I.k1]; omega)
  have sm : ∀ c, Same (fun b => G.κ b = c) O O := fun c b _ => ⟨rfl, rfl⟩
  have hc : ∀ c, c < 8 → ∀ a, Spot td.tp a → G.κ a.block ≠ c := fun c h a ha => by rw [kW a ha]; omega
  exact {
    b0 := I.b0, ro := I.ro
    c1 := hu.cell _ _ I.c1 (ro _), map := hu.obj _ _ I.map (by simp) (nW _ (by rw [I.k2]; omega)), stops := hu.cell _ _ I.stops (ro _)
    threads := by rw [lst, m1, List.length_set]; exact I.threads.upto hu (ro _) (hc _ (by decide)) (sm _) (fun _ h => h)
    log := I.log.upto hu (ro _) (hc _ (by decide)) (sm _) (fun _ h => h)
    went := I.went.upto hu (ro _) (hc _ (by decide)) (sm _) (fun _ h => h)
    ready := I.ready.upto hu (ro _) (hc _ (by decide)) (sm _) (fun _ h => h)
    fell := by rw [lst, m2, List.length_set]; exact I.fell.upto hu (ro _) (hc _ (by decide)) (sm _) (fun _ h => h)
    td := fun j td' h => by
      rcases get j td' h with ⟨rfl, rfl⟩ | ⟨e, h'⟩
      · have D := I.td j td hi
        rw [upd_same]
        have s4 : ∀ k, k < 4 → ¬ Spot td.tp ⟨td.tp, k, none⟩ := fun k hk z => by have := z.2.1; simp at this; omega
        have bx : ∀ b k, G.κ b = 9 + 5 * j ∨ G.κ b = 10 + 5 * j → ¬ Spot td.tp ⟨b, k, none⟩ := fun b k h => nW _ (by simp only; omega)
        exact {
          b0 := D.b0, r := hu.cell _ _ D.r (s4 0 (by decide)), number := hu.cell _ _ D.number (s4 1 (by decide)), wake := hu.cell _ _ D.wake (s4 2 (by decide)), stood := hu.cell _ _ D.stood (s4 3 (by decide))
          v := ⟨_, h4⟩, at_ := ⟨_, ha⟩
          ended := by
            have := hu.cell _ _ D.ended (fun z => by have := z.2.2; simp at this)
            rw [hb] at this
            simpa [hTo] using this
          tbox := hu.cell _ _ D.tbox (bx _ _ (.inl t2)), rbox := hu.cell _ _ D.rbox (bx _ _ (.inr t3))
          lives := fun _ => by
            obtain ⟨a, b, ⟨k, c⟩, k', d⟩ := D.lives (by rw [hb]; rfl)
            exact ⟨a, b, ⟨k, hu.chan c (nW _ (by simp only; omega))⟩, k', hu.chan d (nW _ (by simp only; omega))⟩
          stands := fun _ q' hq' => by
            simp only [hT, Option.some.injEq] at hq'
            subst hq'
            exact ⟨h4, ha, hv⟩ }
      · rw [upd_ne _ _ e]
        obtain ⟨z1, z2, z3, z4, z5⟩ := I.kt j td' h'
        exact (I.td j td' h').upto hu (fun k => nW _ (by simp only; omega)) (fun k => nW _ (by simp only; omega)) (fun k => nW _ (by simp only; omega)) (nW _ (by simp only; omega)) (nW _ (by simp only; omega)) ⟨rfl, rfl⟩ (fun _ h => h)
    vals := fun a x h => by
      obtain ⟨z1, z2⟩ := I.vals a x h
      exact ⟨hu.cell _ _ z1 (nW _ (by rw [I.k0 a x h]; omega)), z2⟩
    nv := I.nv
    good := I.good
    law := I.lawStays hu (fun a h => .inl (by rw [kW a h]; omega)) (fun _ _ => ⟨rfl, rfl⟩)
    k1 := I.k1, k2 := I.k2
    kt := fun j td' h => by
      rcases get j td' h with ⟨rfl, rfl⟩ | ⟨e, h'⟩
      · exact ⟨t1, t2, t3, t4, t5⟩
      · exact I.kt j td' h'
    k0 := I.k0, kl := I.kl, klt := fun b h => Nat.lt_of_lt_of_le (I.klt b h) hu.size, llen := I.llen, cap := I.cap, tlen := by rw [lst, List.length_set]; exact I.tlen, wlen := I.wlen }

omit [Base] in
/-- A channel has handed on. -/
theorem Upto.pass {c k : Nat} (hc : m.heap[c]? = some (.chan 0 #[] false k k false)) : Upto (fun a => a.block = c) m (m.setChan c 0 #[] false (k + 1) (k + 1) false) := by
  refine ⟨by simp [World.setChan], fun a v hv hw => ?_, fun b o hb hn hw => ?_, fun b c' e f hb hw => ⟨f, ?_⟩⟩
  · unfold World.cell? at hv ⊢
    simp only [World.setChan, Array.getElem?_setIfInBounds_ne (Ne.symm hw)]; exact hv
  · simp only [World.setChan, Array.getElem?_setIfInBounds_ne (Ne.symm hw)]; exact hb
  · have : c ≠ b := fun e => by rw [e, hb] at hc; cases hc
    simp only [World.setChan, Array.getElem?_setIfInBounds_ne this]; exact hb
theorem MemI.pass {c k : Nat} (I : MemI L rp mb B G m O) (hk : G.κ c ≠ 0) (hc : m.heap[c]? = some (.chan 0 #[] false k k false)) : MemI L rp mb B G (m.setChan c 0 #[] false (k + 1) (k + 1) false) O := by
  have hu := Upto.pass (m := m) hc
  have nb : ∀ {z : Addr} {v : Value}, m.cell? z = some v → z.block ≠ c := fun {z v} hz e => by
    obtain ⟨c', t, f, h, _⟩ := cells_of_cell hz
    rw [e, hc] at h; cases h
  have cl : ∀ {z : Addr} {v : Value}, m.cell? z = some v → (m.setChan c 0 #[] false (k + 1) (k + 1) false).cell? z = some v := fun {z v} hz => hu.cell _ _ hz (nb hz)
  have hlt : c < m.heap.size := (Array.getElem?_eq_some_iff.1 hc).1
  have ch' : ∀ {c' k' : Nat}, m.heap[c']? = some (.chan 0 #[] false k' k' false) → ∃ k₂, (m.setChan c 0 #[] false (k + 1) (k + 1) false).heap[c']? = some (.chan 0 #[] false k₂ k₂ false) := fun {c' k'} h => by
    by_cases e : c = c'
    · subst e; exact ⟨k + 1, by simp only [World.setChan, Array.getElem?_setIfInBounds_self_of_lt hlt]⟩
    · exact ⟨k', by simp only [World.setChan, Array.getElem?_setIfInBounds_ne e]; exact h⟩
  have at' : ∀ {a : Acc} {b o : Nat}, a.at m b o → a.at (m.setChan c 0 #[] false (k + 1) (k + 1) false) b o := fun ⟨a0, a1, a2, a3, a4, a5, a6, a7⟩ => ⟨cl a0, cl a1, cl a2, cl a3, cl a4, cl a5, cl a6, cl a7⟩
  have rw' : ∀ {d idx ty sz n xs}, Rw G.κ rp d idx ty sz n xs m O → Rw G.κ rp d idx ty sz n xs (m.setChan c 0 #[] false (k + 1) (k + 1) false) O := fun {d idx ty sz n xs} ⟨v, h1, h2, h3⟩ => ⟨v, cl h1, h2.stays fun g hg cur f hm o p => ⟨⟨f, by
    have : c ≠ g := fun e => by rw [e, hm] at hc; cases hc
    simp only [World.setChan, Array.getElem?_setIfInBounds_ne this]; exact hm⟩, o, p⟩, h3⟩
  exact { I with
    c1 := cl I.c1
    map := by
      have : c ≠ mb := fun e => by rw [e, I.map] at hc; cases hc
      simp only [World.setChan, Array.getElem?_setIfInBounds_ne this]; exact I.map
    stops := cl I.stops, threads := rw' I.threads, log := rw' I.log, went := rw' I.went, ready := rw' I.ready, fell := rw' I.fell
    td := fun i td h => by
      have D := I.td i td h
      exact { D with
        r := cl D.r, number := cl D.number, wake := cl D.wake, stood := cl D.stood, v := D.v.elim fun o h => ⟨o, cl h⟩, at_ := D.at_.elim fun a h => ⟨a, at' h⟩, ended := cl D.ended, tbox := cl D.tbox, rbox := cl D.rbox
        lives := fun h => by
          obtain ⟨a, b, ⟨k, x⟩, k', y⟩ := D.lives h
          exact ⟨a, b, ch' x, ch' y⟩
        stands := fun h q hq => by
          obtain ⟨a, b, c⟩ := D.stands h q hq
          exact ⟨cl a, at' b, c⟩ }
    vals := fun a x h => ⟨cl (I.vals a x h).1, (I.vals a x h).2⟩
    law := L.stable I.law hu (fun a ha e => hk (by rw [← e]; exact (I.kl a ha).1)) (fun _ _ => ⟨rfl, rfl⟩)
    klt := fun b h => by simpa [World.setChan] using I.klt b h }
end
end Go.Proofs.Ytkbfbphbdljaaaa

/- Who waits where: a thread stands, is let go, ends, is begun. Every premise stands in the statements. -/
set_option linter.unusedVariables false
set_option linter.unusedSimpArgs false
namespace Go.Proofs.Ytkbfbphbdljaaaa
open Go.Tre Go.RowKit
open Go.ConcN (upd upd_ne upd_same)
variable {Λ : Type}
section
variable {G : GSt Λ} {B : Nat → Option Nat} {E : Nat → Option Seat} {Γ : Nat → Option Seat} {h b i : Nat} {td : TD Λ}
/-- The channels are each their own. -/
def Chs (κ : Nat → Nat) (tds : List (TD Λ)) : Prop := ∀ i td, tds[i]? = some td → κ td.cw = 11 + 5 * i ∧ κ td.cd = 12 + 5 * i
theorem set_get {l : List (TD Λ)} {x : TD Λ} (hi : l[i]? = some td) {j : Nat} {td' : TD Λ} (h : (l.set i x)[j]? = some td') : (j = i ∧ td' = x) ∨ (j ≠ i ∧ l[j]? = some td') := by
  have hlen := (List.getElem?_eq_some_iff.1 hi).1
  by_cases e : j = i
  · subst e
    rw [List.getElem?_set_self hlen] at h
    exact .inl ⟨rfl, (Option.some.inj h).symm⟩
  · rw [List.getElem?_set_ne (Ne.symm e)] at h
    exact .inr ⟨e, h⟩
theorem Chs.cw_inj {κ : Nat → Nat} {tds : List (TD Λ)} (C : Chs κ tds) {i j : Nat} {x y : TD Λ} (hi : tds[i]? = some x) (hj : tds[j]? = some y) (e : x.cw = y.cw) : i = j := by
  have h1 := (C i x hi).1
  have h2 := (C j y hj).1
  rw [e] at h1; omega
theorem Chs.cd_inj {κ : Nat → Nat} {tds : List (TD Λ)} (C : Chs κ tds) {i j : Nat} {x y : TD Λ} (hi : tds[i]? = some x) (hj : tds[j]? = some y) (e : x.cd = y.cd) : i = j := by
  have h1 := (C i x hi).2
  have h2 := (C j y hj).2
  rw [e] at h1; omega
theorem Chs.ne {κ : Nat → Nat} {tds : List (TD Λ)} (C : Chs κ tds) {i j : Nat} {x y : TD Λ} (hi : tds[i]? = some x) (hj : tds[j]? = some y) : x.cw ≠ y.cd := fun e => by
  have h1 := (C i x hi).1
  have h2 := (C j y hj).2
  rw [e] at h1; omega

theorem SeatI.stand (S : SeatI E h B G Γ) (C : Chs G.κ G.tds) (hi : G.tds[i]? = some td) (hg : td.g = h) (hb : B i = some b) (hne : b ≠ h) (hE : E b = none) {sb : Seat} (hsb : Γ b = some sb) (hbc : sb.c = td.cd) {sc : Seat} (hsc : sc.c = td.cw) {T : Th Λ} (hT : T.isOver = false) {s' : Sh Λ} {κ' : Nat → Nat} :
    SeatI E b (upd B i none) { G.put i { td with seat := sc, T := T } s' with κ := κ' } (upd Γ h (some sc)) := by
  subst hg
  have ai : ((B i).isNone && td.T.isOver) = false := by rw [hb]; rfl
  have get : ∀ {j : Nat} {td' : TD Λ}, (G.tds.set i { td with seat := sc, T := T })[j]? = some td' → (j = i ∧ td' = { td with seat := sc, T := T }) ∨ (j ≠ i ∧ G.tds[j]? = some td') := fun h => set_get hi h
  refine ⟨fun k s hk => ?_, fun j td' hj ha => ?_, fun j td' hj hB ha => ?_, fun j td' b' hj hB => ?_, fun j td' k s hj ha hk hs hc => ?_, fun j td' k s hj ha hk hs hc => ?_, fun j₁ j₂ x y hx hy ha1 ha2 e => ?_, fun k s hk hs => ?_⟩
  · obtain ⟨h1, h2⟩ := S.env k s hk
    exact ⟨fun e => (by rw [e, hE] at hk; cases hk), by rw [upd_ne _ _ h1]; exact h2⟩
  · rcases get hj with ⟨rfl, rfl⟩ | ⟨e, h'⟩
    · exact S.lives j td hi ai
    · rw [upd_ne _ _ e] at ha; exact S.lives j td' h' ha
  · rcases get hj with ⟨rfl, rfl⟩ | ⟨e, h'⟩
    · exact ⟨Ne.symm hne, by rw [upd_same], hsc⟩
    · rw [upd_ne _ _ e] at hB
      obtain ⟨h1, h2, h3⟩ := S.stands j td' h' hB ha
      refine ⟨fun e' => ?_, by rw [upd_ne _ _ h1]; exact h2, h3⟩
      rw [e', hsb] at h2
      rw [← Option.some.inj h2, hbc] at h3
      exact C.ne h' hi h3.symm
  · rcases get hj with ⟨rfl, rfl⟩ | ⟨e, h'⟩
    · rw [upd_same] at hB; cases hB
    · rw [upd_ne _ _ e] at hB
      have hne' : td'.g ≠ td.g := fun e' => e (S.inj j i td' td h' hi (by rw [hB]; rfl) ai e')
      rcases S.runs j td' b' h' hB with z | ⟨s, z⟩
      · exact absurd z hne'
      · exact .inr ⟨s, by rw [upd_ne _ _ hne']; exact z⟩
  · by_cases ek : k = td.g
    · subst ek
      rw [upd_same] at hs
      obtain rfl := Option.some.inj hs
      rcases get hj with ⟨rfl, rfl⟩ | ⟨e, h'⟩
      · exact ⟨rfl, upd_same _ _ _⟩
      · exact absurd (C.cw_inj h' hi (hc.symm.trans hsc)) e
    · rw [upd_ne _ _ ek] at hs
      rcases get hj with ⟨rfl, rfl⟩ | ⟨e, h'⟩
      · obtain ⟨_, z⟩ := S.wk j td k s hi ai ek hs hc
        rw [hb] at z; cases z
      · rw [upd_ne _ _ e] at ha ⊢
        exact S.wk j td' k s h' ha ek hs hc
  · by_cases ek : k = td.g
    · subst ek
      rw [upd_same] at hs
      obtain rfl := Option.some.inj hs
      rcases get hj with ⟨rfl, rfl⟩ | ⟨e, h'⟩
      · exact absurd (show td.cw = td.cd from hsc.symm.trans hc) (C.ne hi hi)
      · exact absurd (hsc.symm.trans hc) (C.ne hi h')
    · rw [upd_ne _ _ ek] at hs
      rcases get hj with ⟨rfl, rfl⟩ | ⟨e, h'⟩
      · have z := S.sd j td k s hi ai ek hs hc
        rw [hb] at z
        exact absurd (Option.some.inj z).symm hk
      · rw [upd_ne _ _ e] at ha ⊢
        exact S.sd j td' k s h' ha ek hs hc
  · have al : ∀ {j : Nat} {z : TD Λ}, (G.tds.set i { td with seat := sc, T := T })[j]? = some z → (((upd B i none) j).isNone && z.T.isOver) = false → ∃ z', G.tds[j]? = some z' ∧ z'.g = z.g ∧ ((B j).isNone && z'.T.isOver) = false := fun {j z} hz ha => by
      rcases get hz with ⟨rfl, rfl⟩ | ⟨e, h'⟩
      · exact ⟨td, hi, rfl, ai⟩
      · rw [upd_ne _ _ e] at ha; exact ⟨z, h', rfl, ha⟩
    obtain ⟨x', hx', ex, ax⟩ := al hx ha1
    obtain ⟨y', hy', ey, ay⟩ := al hy ha2
    exact S.inj j₁ j₂ x' y' hx' hy' ax ay (ex.trans (e.trans ey.symm))
  · by_cases ek : k = td.g
    · exact .inr (.inl ⟨i, _, List.getElem?_set_self (List.getElem?_eq_some_iff.1 hi).1, ek.symm, by simp [hT]⟩)
    · rw [upd_ne _ _ ek] at hs
      rcases S.out k s ek hs with z | ⟨j, z, hz, rfl, az⟩ | ⟨j, hj⟩
      · exact .inl z
      · have e : j ≠ i := fun e => by subst e; rw [hi] at hz; cases hz; exact ek rfl
        exact .inr (.inl ⟨j, z, by show (G.tds.set i _)[j]? = _; rw [List.getElem?_set_ne (Ne.symm e)]; exact hz, rfl, by rw [upd_ne _ _ e]; exact az⟩)
      · have e : j ≠ i := fun e => by subst e; rw [hb] at hj; cases hj; exact hk rfl
        exact .inr (.inr ⟨j, by rw [upd_ne _ _ e]; exact hj⟩)

/-- It has ended. -/
theorem SeatI.over (S : SeatI E h B G Γ) (C : Chs G.κ G.tds) (hi : G.tds[i]? = some td) (hg : td.g = h) (hb : B i = some b) (hne : b ≠ h) (hE : E b = none) {sb : Seat} (hsb : Γ b = some sb) (hbc : sb.c = td.cd) {f : Bool} {s' : Sh Λ} {κ' : Nat → Nat} :
    SeatI E b (upd B i none) { G.put i { td with T := .over f } s' with κ := κ' } (upd Γ h none) := by
  subst hg
  have ai : ((B i).isNone && td.T.isOver) = false := by rw [hb]; rfl
  have get : ∀ {j : Nat} {td' : TD Λ}, (G.tds.set i { td with T := .over f })[j]? = some td' → (j = i ∧ td' = { td with T := .over f }) ∨ (j ≠ i ∧ G.tds[j]? = some td') := fun h => set_get hi h
  have dead : ∀ {j : Nat} {td' : TD Λ}, (G.tds.set i { td with T := .over f })[j]? = some td' → (((upd B i none) j).isNone && td'.T.isOver) = false → j ≠ i ∧ G.tds[j]? = some td' ∧ ((B j).isNone && td'.T.isOver) = false := fun {j td'} hj ha => by
    rcases get hj with ⟨rfl, rfl⟩ | ⟨e, h'⟩
    · rw [upd_same] at ha; cases ha
    · rw [upd_ne _ _ e] at ha; exact ⟨e, h', ha⟩
  refine ⟨fun k s hk => ?_, fun j td' hj ha => ?_, fun j td' hj hB ha => ?_, fun j td' b' hj hB => ?_, fun j td' k s hj ha hk hs hc => ?_, fun j td' k s hj ha hk hs hc => ?_, fun j₁ j₂ x y hx hy ha1 ha2 e => ?_, fun k s hk hs => ?_⟩
  · obtain ⟨h1, h2⟩ := S.env k s hk
    exact ⟨fun e => (by rw [e, hE] at hk; cases hk), by rw [upd_ne _ _ h1]; exact h2⟩
  · obtain ⟨_, h', ha'⟩ := dead hj ha
    exact S.lives j td' h' ha'
  · obtain ⟨e, h', ha'⟩ := dead hj (by rw [hB]; simpa using ha)
    rw [upd_ne _ _ e] at hB
    obtain ⟨h1, h2, h3⟩ := S.stands j td' h' hB ha
    refine ⟨fun e' => ?_, by rw [upd_ne _ _ h1]; exact h2, h3⟩
    rw [e', hsb] at h2
    rw [← Option.some.inj h2, hbc] at h3
    exact C.ne h' hi h3.symm
  · rcases get hj with ⟨rfl, rfl⟩ | ⟨e, h'⟩
    · rw [upd_same] at hB; cases hB
    · rw [upd_ne _ _ e] at hB
      have hne' : td'.g ≠ td.g := fun e' => e (S.inj j i td' td h' hi (by rw [hB]; rfl) ai e')
      rcases S.runs j td' b' h' hB with z | ⟨s, z⟩
      · exact absurd z hne'
      · exact .inr ⟨s, by rw [upd_ne _ _ hne']; exact z⟩
  · obtain ⟨e, h', ha'⟩ := dead hj ha
    have ek : k ≠ td.g := fun ek => by rw [ek, upd_same] at hs; cases hs
    rw [upd_ne _ _ ek] at hs
    rw [upd_ne _ _ e]
    exact S.wk j td' k s h' ha' ek hs hc
  · obtain ⟨e, h', ha'⟩ := dead hj ha
    have ek : k ≠ td.g := fun ek => by rw [ek, upd_same] at hs; cases hs
    rw [upd_ne _ _ ek] at hs
    rw [upd_ne _ _ e]
    exact S.sd j td' k s h' ha' ek hs hc
  · obtain ⟨_, hx', ax⟩ := dead hx ha1
    obtain ⟨_, hy', ay⟩ := dead hy ha2
    exact S.inj j₁ j₂ x y hx' hy' ax ay e
  · by_cases ek : k = td.g
    · rw [ek, upd_same] at hs; cases hs
    · rw [upd_ne _ _ ek] at hs
      rcases S.out k s ek hs with z | ⟨j, z, hz, rfl, az⟩ | ⟨j, hj⟩
      · exact .inl z
      · have e : j ≠ i := fun e => by subst e; rw [hi] at hz; cases hz; exact ek rfl
        exact .inr (.inl ⟨j, z, by show (G.tds.set i _)[j]? = _; rw [List.getElem?_set_ne (Ne.symm e)]; exact hz, rfl, by rw [upd_ne _ _ e]; exact az⟩)
      · have e : j ≠ i := fun e => by subst e; rw [hb] at hj; cases hj; exact hk rfl
        exact .inr (.inr ⟨j, by rw [upd_ne _ _ e]; exact hj⟩)

/-- It is let go. -/
theorem SeatI.resume (S : SeatI E h B G Γ) (C : Chs G.κ G.tds) (hi : G.tds[i]? = some td) (hb : B i = none) (ha : td.T.isOver = false) {sb : Seat} (hbc : sb.c = td.cd) :
    SeatI E td.g (upd B i (some h)) G (upd Γ h (some sb)) := by
  have ai : ((B i).isNone && td.T.isOver) = false := by rw [ha]; simp
  obtain ⟨g1, g2, g3⟩ := S.stands i td hi hb ha
  have al : ∀ {j : Nat} {z : TD Λ}, G.tds[j]? = some z → (((upd B i (some h)) j).isNone && z.T.isOver) = false → ((B j).isNone && z.T.isOver) = false := fun {j z} hz h' => by
    by_cases e : j = i
    · subst e; rw [hi] at hz; cases hz; exact ai
    · rw [upd_ne _ _ e] at h'; exact h'
  refine ⟨fun k s hk => ?_, fun j td' hj ha => S.lives j td' hj (al hj ha), fun j td' hj hB ha => ?_, fun j td' b' hj hB => ?_, fun j td' k s hj ha hk hs hc => ?_, fun j td' k s hj ha hk hs hc => ?_, fun j₁ j₂ x y hx hy ha1 ha2 e => S.inj j₁ j₂ x y hx hy (al hx ha1) (al hy ha2) e, fun k s hk hs => ?_⟩
  · obtain ⟨h1, h2⟩ := S.env k s hk
    exact ⟨fun e => (by rw [e, (S.lives i td hi ai).1] at hk; cases hk), by rw [upd_ne _ _ h1]; exact h2⟩
  · have e : j ≠ i := fun e => by rw [e, upd_same] at hB; cases hB
    rw [upd_ne _ _ e] at hB
    obtain ⟨h1, h2, h3⟩ := S.stands j td' hj hB ha
    exact ⟨fun e' => e (S.inj j i td' td hj hi (by rw [ha]; simp) ai e'), by rw [upd_ne _ _ h1]; exact h2, h3⟩
  · by_cases e : j = i
    · subst e; rw [hi] at hj; cases hj; exact .inl rfl
    · rw [upd_ne _ _ e] at hB
      rcases S.runs j td' b' hj hB with z | ⟨s, z⟩
      · exact .inr ⟨sb, by rw [z, upd_same]⟩
      · by_cases ez : td'.g = h
        · exact .inr ⟨sb, by rw [ez, upd_same]⟩
        · exact .inr ⟨s, by rw [upd_ne _ _ ez]; exact z⟩
  · by_cases ek : k = h
    · subst ek
      rw [upd_same] at hs
      obtain rfl := Option.some.inj hs
      exact absurd (hc.symm.trans hbc) (C.ne hj hi)
    · rw [upd_ne _ _ ek] at hs
      obtain ⟨z1, z2⟩ := S.wk j td' k s hj (al hj ha) ek hs hc
      have e : j ≠ i := fun e => by
        subst e; rw [hi] at hj; cases hj; exact hk z1
      exact ⟨z1, by rw [upd_ne _ _ e]; exact z2⟩
  · by_cases ek : k = h
    · subst ek
      rw [upd_same] at hs
      obtain rfl := Option.some.inj hs
      have e : j = i := C.cd_inj hj hi (hc.symm.trans hbc)
      rw [e, upd_same]
    · rw [upd_ne _ _ ek] at hs
      have z := S.sd j td' k s hj (al hj ha) ek hs hc
      have e : j ≠ i := fun e => by rw [e, hb] at z; cases z
      rw [upd_ne _ _ e]; exact z
  · by_cases ek : k = h
    · exact .inr (.inr ⟨i, by rw [upd_same, ek]⟩)
    · rw [upd_ne _ _ ek] at hs
      rcases S.out k s ek hs with z | ⟨j, z, hz, rfl, az⟩ | ⟨j, hj⟩
      · exact .inl z
      · have e : j ≠ i := fun e => by subst e; rw [hi] at hz; cases hz; exact hk rfl
        exact .inr (.inl ⟨j, z, hz, rfl, by rw [upd_ne _ _ e]; exact az⟩)
      · have e : j ≠ i := fun e => by subst e; rw [hb] at hj; cases hj
        exact .inr (.inr ⟨j, by rw [upd_ne _ _ e]; exact hj⟩)

/-- One more is begun. -/
theorem SeatI.begun (S : SeatI E h B G Γ) (hB : B G.tds.length = none) (hj : td.g ≠ h) (hj0 : 0 < td.g) (hΓ : Γ td.g = none) (hEh : E h = none) {κ' : Nat → Nat} (C : Chs κ' (G.tds ++ [td])) {sc sb : Seat} (hsc : sc.c = td.cw) (hbc : sb.c = td.cd)
    (hfree : ∀ k s, k ≠ h → Γ k = some s → s.c ≠ td.cw ∧ s.c ≠ td.cd) {s' : Sh Λ} {cap' : Nat} : SeatI E td.g (upd B G.tds.length (some h)) { G with tds := G.tds ++ [td], κ := κ', s := s', cap := cap' } (upd (upd Γ td.g (some sc)) h (some sb)) := by
  have get : ∀ {j : Nat} {td' : TD Λ}, (G.tds ++ [td])[j]? = some td' → (j = G.tds.length ∧ td' = td) ∨ (j ≠ G.tds.length ∧ G.tds[j]? = some td') := fun {j td'} hh => by
    rcases Nat.lt_trichotomy j G.tds.length with e | e | e
    · rw [List.getElem?_append_left e] at hh; exact .inr ⟨by omega, hh⟩
    · subst e; simp at hh; exact .inl ⟨rfl, hh.symm⟩
    · rw [List.getElem?_eq_none (by simp; omega)] at hh; cases hh
  have hn : (G.tds ++ [td])[G.tds.length]? = some td := by simp
  have old : ∀ {j : Nat} {td' : TD Λ}, G.tds[j]? = some td' → (G.tds ++ [td])[j]? = some td' := fun {j td'} hh => by rw [List.getElem?_append_left (List.getElem?_eq_some_iff.1 hh).1]; exact hh
  have al : ∀ {j : Nat} {z : TD Λ}, j ≠ G.tds.length → (((upd B G.tds.length (some h)) j).isNone && z.T.isOver) = false → ((B j).isNone && z.T.isOver) = false := fun {j z} e h' => by rw [upd_ne _ _ e] at h'; exact h'
  have neg : ∀ {j : Nat} {z : TD Λ}, G.tds[j]? = some z → ((B j).isNone && z.T.isOver) = false → z.g ≠ td.g := fun {j z} hz ha e => by
    cases hb : B j with
    | none =>
      rw [hb] at ha
      obtain ⟨_, h2, _⟩ := S.stands j z hz hb (by simpa using ha)
      rw [e, hΓ] at h2; cases h2
    | some b =>
      rcases S.runs j z b hz hb with z' | ⟨s, z'⟩
      · exact hj (e ▸ z')
      · rw [e, hΓ] at z'; cases z'
  refine ⟨fun k s hk => ?_, fun j td' hj' ha => ?_, fun j td' hj' hB' ha => ?_, fun j td' b' hj' hB' => ?_, fun j td' k s hj' ha hk hs hc => ?_, fun j td' k s hj' ha hk hs hc => ?_, fun j₁ j₂ x y hx hy ha1 ha2 e => ?_, fun k s hk hs => ?_⟩
  · obtain ⟨h1, h2⟩ := S.env k s hk
    have hkj : k ≠ td.g := fun e => by rw [e, hΓ] at h2; cases h2
    exact ⟨hkj, by rw [upd_ne _ _ h1, upd_ne _ _ hkj]; exact h2⟩
  · rcases get hj' with ⟨rfl, rfl⟩ | ⟨e, h'⟩
    · refine ⟨?_, hj0⟩
      cases e : E td'.g with
      | none => rfl
      | some s => have := (S.env _ _ e).2; rw [hΓ] at this; cases this
    · exact S.lives j td' h' (al e ha)
  · rcases get hj' with ⟨rfl, rfl⟩ | ⟨e, h'⟩
    · rw [upd_same] at hB'; cases hB'
    · rw [upd_ne _ _ e] at hB'
      obtain ⟨h1, h2, h3⟩ := S.stands j td' h' hB' ha
      have n := neg h' (by rw [ha]; simp)
      exact ⟨n, by rw [upd_ne _ _ h1, upd_ne _ _ n]; exact h2, h3⟩
  · rcases get hj' with ⟨rfl, rfl⟩ | ⟨e, h'⟩
    · exact .inl rfl
    · rw [upd_ne _ _ e] at hB'
      have n := neg h' (by rw [hB']; rfl)
      rcases S.runs j td' b' h' hB' with z | ⟨s, z⟩
      · exact .inr ⟨sb, by rw [z, upd_same]⟩
      · by_cases ez : td'.g = h
        · exact .inr ⟨sb, by rw [ez, upd_same]⟩
        · exact .inr ⟨s, by rw [upd_ne _ _ ez, upd_ne _ _ n]; exact z⟩
  · by_cases ek : k = h
    · subst ek
      rw [upd_same] at hs
      obtain rfl := Option.some.inj hs
      exact absurd (hc.symm.trans hbc) (C.ne hj' hn)
    · rw [upd_ne _ _ ek, upd_ne _ _ hk] at hs
      rcases get hj' with ⟨rfl, rfl⟩ | ⟨e, h'⟩
      · exact absurd hc (hfree k s ek hs).1
      · rw [upd_ne _ _ e]
        exact S.wk j td' k s h' (al e ha) ek hs hc
  · by_cases ek : k = h
    · subst ek
      rw [upd_same] at hs
      obtain rfl := Option.some.inj hs
      rw [C.cd_inj hj' hn (hc.symm.trans hbc), upd_same]
    · rw [upd_ne _ _ ek, upd_ne _ _ hk] at hs
      rcases get hj' with ⟨rfl, rfl⟩ | ⟨e, h'⟩
      · exact absurd hc (hfree k s ek hs).2
      · rw [upd_ne _ _ e]
        exact S.sd j td' k s h' (al e ha) ek hs hc
  · rcases get hx with ⟨rfl, rfl⟩ | ⟨e1, hx'⟩ <;> rcases get hy with ⟨rfl, rfl⟩ | ⟨e2, hy'⟩
    · rfl
    · exact absurd e.symm (neg hy' (al e2 ha2))
    · exact absurd e (neg hx' (al e1 ha1))
    · exact S.inj j₁ j₂ x y hx' hy' (al e1 ha1) (al e2 ha2) e
  · by_cases ek : k = h
    · exact .inr (.inr ⟨G.tds.length, by rw [upd_same, ek]⟩)
    · rw [upd_ne _ _ ek, upd_ne _ _ hk] at hs
      rcases S.out k s ek hs with z | ⟨j, z, hz, rfl, az⟩ | ⟨j, hj⟩
      · exact .inl z
      · have e : j ≠ G.tds.length := fun e => by subst e; simp at hz
        exact .inr (.inl ⟨j, z, old hz, rfl, by rw [upd_ne _ _ e]; exact az⟩)
      · have e : j ≠ G.tds.length := fun e => by subst e; rw [hB] at hj; cases hj
        exact .inr (.inr ⟨j, by rw [upd_ne _ _ e]; exact hj⟩)
end
end Go.Proofs.Ytkbfbphbdljaaaa

/- What is promised of one who waits. Every premise stands in the statements. -/
set_option linter.unusedVariables false
set_option linter.unusedSimpArgs false
namespace Go.Proofs.Ytkbfbphbdljaaaa
open Go.Tre Go.RowKit
open Go.Conc (G base baseD crowd rcase scase)
open Go.ConcN (upd upd_ne upd_same)
variable {Λ : Type}
section
variable [Base]
/-- A run's fixed parts: the end to be reached, the law's memory, the run's block and map, who has nothing to do with it. -/
structure Rn (Λ : Type) where
  Φ : Value → World → Prop
  L : Lw Λ
  rp : Nat
  mb : Nat
  E : Nat → Option Seat
/-- Goroutine h runs as thread i; b waits till it stands. -/
structure Runs (X : Rn Λ) (i h b : Nat) (sb : Seat) (B : Nat → Option Nat) (G : GSt Λ) (td : TD Λ) (m : World) (O : Own) (Γ : Nat → Option Seat) : Prop where
  mem : MemI X.L X.rp X.mb B G m O
  seat : SeatI X.E h B G Γ
  ix : G.tds[i]? = some td
  g : td.g = h
  B : B i = some b
  ne : b ≠ h
  boss : Γ b = some sb
  bc : sb.c = td.cd
  be : X.E b = none
  fell : td.T.fell = false
  v : ∀ q, td.T.req = some q → ∀ v, q.1 = some v → (G.s.vals v).isSome = true
/-- The same thread, whatever it is about to do. -/
def Like (d td : TD Λ) : Prop := d.tp = td.tp ∧ d.cw = td.cw ∧ d.cd = td.cd ∧ d.tb = td.tb ∧ d.rb = td.rb ∧ d.g = td.g
/-- Whoever waits till a thread stands goes on well. -/
def Back (X : Rn Λ) (b : Nat) (sb : Seat) (B : Nat → Option Nat) (K : GSt Λ → Prop) : Prop :=
  ∀ R, sb.home R → ∀ G m O Γ, K G → MemI X.L X.rp X.mb B G m O → SeatI X.E b B G Γ → Kept sb b m O → Okk Try.prog X.Φ b (Go.Conc.served R (.agg #[])) m O Γ
/-- The state that thread i leaves. -/
def GSt.to (G : GSt Λ) (i : Nat) (td : TD Λ) (s : Sh Λ) (κ : Nat → Nat) : GSt Λ := { G.put i td s with κ := κ }
/-- Where a turn of thread d leads, up to its next access. -/
def Next (P : TD Λ → (Nat → Nat) → Prop) (G : GSt Λ) (i : Nat) (d : TD Λ) (s : Sh Λ) (T : Th Λ) (G' : GSt Λ) : Prop := ∃ sc' κ, Ext G.κ κ ∧ G' = G.to i { d with seat := sc', T := T } s κ ∧ P { d with seat := sc', T := T } κ
/-- ████ WHAT IS PROMISED OF ONE WHO WAITS: thread i, whose fixed parts and whose seat are d's. ████ -/
def Prom (X : Rn Λ) : Th Λ → Nat → TD Λ → (Nat → Nat) → Prop
  | .over _ => fun _ _ _ => True
  | .acc op v arg new seg next stop => fun i d κ₀ => ∀ R, d.seat.home R → ∀ (m : World) (O : Own) (Γ : Nat → Option Seat) (G : GSt Λ) (b : Nat) (sb : Seat) (B : Nat → Option Nat),
      Runs X i d.g b sb B G { d with T := .acc op v arg new seg next stop } m O Γ → Kept d.seat d.g m O → Ext κ₀ G.κ → (G.st = false → G.s.log.length + 10000 ≤ G.cap) →
      Back X b sb (upd B i none) (fun G' => if G.st then Next (fun _ _ => True) G i d (stop G.s) (.over false) G'
        else Next (Prom X (next (G.s.ans op v arg new) (G.s.acc i op v arg new)) i) G i d (seg (G.s.ans op v arg new) (G.s.acc i op v arg new)) (next (G.s.ans op v arg new) (G.s.acc i op v arg new)) G') →
      Okk Try.prog X.Φ d.g (Go.Conc.served R (.agg #[])) m O Γ
  | .go init child seg next stop => fun i d κ₀ => ∀ R, d.seat.home R → ∀ (m : World) (O : Own) (Γ : Nat → Option Seat) (G : GSt Λ) (b : Nat) (sb : Seat) (B : Nat → Option Nat),
      Runs X i d.g b sb B G { d with T := .go init child seg next stop } m O Γ → Kept d.seat d.g m O → Ext κ₀ G.κ → (G.st = false → G.s.log.length + 10000 ≤ G.cap) →
      Back X b sb (upd B i none) (fun G' => if G.st then Next (fun _ _ => True) G i d (stop G.s) (.over false) G'
        else if G.tds.length = 64 then Next (Prom X (next (-1) (G.s.logs ⟨i, 7, -1, 0, 0, 0, -1, false⟩)) i) G i d (seg (-1) (G.s.logs ⟨i, 7, -1, 0, 0, 0, -1, false⟩)) (next (-1) (G.s.logs ⟨i, 7, -1, 0, 0, 0, -1, false⟩)) G'
        else ∃ td' : TD Λ, td'.T = child G.tds.length (G.s.logs ⟨i, 7, -1, 0, 0, 0, G.tds.length, false⟩) ∧ Prom X (child G.tds.length (G.s.logs ⟨i, 7, -1, 0, 0, 0, G.tds.length, false⟩)) G.tds.length td' G'.κ ∧
          Next (Prom X (next G.tds.length (init G.tds.length (G.s.logs ⟨i, 7, -1, 0, 0, 0, G.tds.length, false⟩))) i) { G with tds := G.tds ++ [td'] } i d
            (seg G.tds.length (init G.tds.length (G.s.logs ⟨i, 7, -1, 0, 0, 0, G.tds.length, false⟩))) (next G.tds.length (init G.tds.length (G.s.logs ⟨i, 7, -1, 0, 0, 0, G.tds.length, false⟩))) G') →
      Okk Try.prog X.Φ d.g (Go.Conc.served R (.agg #[])) m O Γ

theorem Prom.mono {X : Rn Λ} {T : Th Λ} {i : Nat} {d : TD Λ} {κ κ' : Nat → Nat} (h : Prom X T i d κ) (hk : Ext κ κ') : Prom X T i d κ' := by
  cases T with
  | over f => trivial
  | acc op v arg new seg next stop => exact fun R hR m O Γ G b sb B h1 h2 h3 => h R hR m O Γ G b sb B h1 h2 (hk.trans h3)
  | go init child seg next stop => exact fun R hR m O Γ G b sb B h1 h2 h3 => h R hR m O Γ G b sb B h1 h2 (hk.trans h3)
theorem Prom.anyT {X : Rn Λ} {T : Th Λ} {i : Nat} {d : TD Λ} {κ : Nat → Nat} (T' : Th Λ) (h : Prom X T i d κ) : Prom X T i { d with T := T' } κ := by
  cases T with
  | over f => trivial
  | acc op v arg new seg next stop => exact fun R hR m O Γ G b sb B h1 h2 h3 => h R hR m O Γ G b sb B h1 h2 h3
  | go init child seg next stop => exact fun R hR m O Γ G b sb B h1 h2 h3 => h R hR m O Γ G b sb B h1 h2 h3
/-- What a goroutine has kept of its own, but for its thread's row. -/
def Priv (tp h : Nat) (m : World) (O : Own) (m' : World) (O' : Own) : Prop :=
  (∀ x v, O.mine h m x = some v → x.block ≠ tp → Base.b0 ≤ x.block ∧ (O'.o x.block = some h ∨ x.off < O'.pre x.block) ∧ m'.cell? x = some v) ∧ ∀ b n, O.mineB h b = some n → O'.o b = some h ∧ O'.pre b = n
theorem Back.mono {X : Rn Λ} {b : Nat} {sb : Seat} {B : Nat → Option Nat} {K K' : GSt Λ → Prop} (H : Back X b sb B K) (h : ∀ G, K' G → K G) : Back X b sb B K' := fun R hR G m O Γ hK => H R hR G m O Γ (h G hK)
theorem MemI.chs {L : Lw Λ} {rp mb : Nat} {B : Nat → Option Nat} {G : GSt Λ} {m : World} {O : Own} (I : MemI L rp mb B G m O) : Chs G.κ G.tds := fun i td h => (I.kt i td h).2.2.2
end
end Go.Proofs.Ytkbfbphbdljaaaa

/- The end of a thread. Every premise stands in the statements. -/
set_option linter.unusedVariables false
set_option linter.unusedSimpArgs false
namespace Go.Proofs.Ytkbfbphbdljaaaa
open Go.Tre Go.RowKit
open Go.Conc (G base baseD crowd rcase scase)
open Go.ConcN (upd upd_ne upd_same)
variable {Λ : Type}
section
variable [Base]
variable {L : Lw Λ} {rp mb : Nat} {B : Nat → Option Nat} {G : GSt Λ} {m m' : World} {O : Own}

theorem MemI.over {i b : Nat} {td : TD Λ} {f : Bool} {W : Addr → Prop} (I : MemI L rp mb B G m O) (hi : G.tds[i]? = some td) (hb : B i = some b) (hu : Upto (fun a => a = ⟨td.tp, 13, none⟩ ∨ W a) m m') (h13 : m'.cell? ⟨td.tp, 13, none⟩ = some (.bool true)) (hW : ∀ a, W a → G.κ a.block = 7)
    (hf : Rw G.κ rp 7 5 4 1 G.tds.length ((G.tds.set i { td with T := .over f }).map fun td => .bool td.T.fell) m' O) : MemI L rp mb (upd B i none) (G.to i { td with T := .over f } G.s G.κ) m' O := by
  obtain ⟨t1, t2, t3, t4, t5⟩ := I.kt i td hi
  have hlen : i < G.tds.length := (List.getElem?_eq_some_iff.1 hi).1
  have hi64 : i < 64 := by have := I.tlen; omega
  have nW : ∀ a : Addr, G.κ a.block ≠ 8 + 5 * i → G.κ a.block ≠ 7 → ¬ (a = ⟨td.tp, 13, none⟩ ∨ W a) := fun a h1 h2 h => by
    rcases h with h | h
    · exact h1 (by rw [h]; exact t1)
    · exact h2 (hW a h)
  have get : ∀ {j : Nat} {td' : TD Λ}, (G.tds.set i { td with T := .over f })[j]? = some td' → (j = i ∧ td' = { td with T := .over f }) ∨ (j ≠ i ∧ G.tds[j]? = some td') := fun h => set_get hi h
  have lst : (G.to i { td with T := .over f } G.s G.κ).tds = G.tds.set i { td with T := .over f } := rfl
  have m1 : (G.tds.set i { td with T := .over f }).map (fun td => Value.pointer (some ⟨td.tp, 0, none⟩)) = G.tds.map (fun td => Value.pointer (some ⟨td.tp, 0, none⟩)) := by
    apply List.ext_getElem?
    intro j
    simp only [List.getElem?_map]
    by_cases e : j = i
    · subst e; rw [List.getElem?_set_self hlen, hi]; rfl
    · rw [List.getElem?_set_ne (Ne.symm e)]
  have ro : ∀ idx, ¬ ((⟨rp, idx, none⟩ : Addr) = ⟨td.tp, 13, none⟩ ∨ W ⟨rp, idx, none⟩) := fun idx => nW _ (by rw [I.k1]; omega) (by rw [I.k1]; omega)
  have sm : ∀ c, Same (fun b => G.κ b = c) O O := fun c b _ => ⟨rfl, rfl⟩
  have hc : ∀ c, c < 7 → ∀ a : Addr, (a = ⟨td.tp, 13, none⟩ ∨ W a) → G.κ a.block ≠ c := fun c h a ha e => nW a (by omega) (by omega) ha
  exact {
    b0 := I.b0, ro := I.ro
    c1 := hu.cell _ _ I.c1 (ro _), map := hu.obj _ _ I.map (by simp) (nW _ (by rw [I.k2]; omega) (by rw [I.k2]; omega)), stops := hu.cell _ _ I.stops (ro _)
    threads := by rw [lst, m1, List.length_set]; exact I.threads.upto hu (ro _) (hc _ (by decide)) (sm _) (fun _ h => h)
    log := I.log.upto hu (ro _) (hc _ (by decide)) (sm _) (fun _ h => h)
    went := I.went.upto hu (ro _) (hc _ (by decide)) (sm _) (fun _ h => h)
    ready := I.ready.upto hu (ro _) (hc _ (by decide)) (sm _) (fun _ h => h)
    fell := by rw [lst, List.length_set]; exact hf
    td := fun j td' h => by
      rcases get h with ⟨rfl, rfl⟩ | ⟨e, h'⟩
      · have D := I.td j td hi
        rw [upd_same]
        have s4 : ∀ k, k ≠ 13 → ¬ ((⟨td.tp, k, none⟩ : Addr) = ⟨td.tp, 13, none⟩ ∨ W ⟨td.tp, k, none⟩) := fun k hk z => by
          rcases z with z | z
          · exact hk (congrArg Addr.off z)
          · have := hW _ z; simp only at this; omega
        have bx : ∀ b k, G.κ b = 9 + 5 * j ∨ G.κ b = 10 + 5 * j → ¬ ((⟨b, k, none⟩ : Addr) = ⟨td.tp, 13, none⟩ ∨ W ⟨b, k, none⟩) := fun b k h => nW _ (by simp only; omega) (by simp only; omega)
        exact {
          b0 := D.b0, r := hu.cell _ _ D.r (s4 0 (by decide)), number := hu.cell _ _ D.number (s4 1 (by decide)), wake := hu.cell _ _ D.wake (s4 2 (by decide)), stood := hu.cell _ _ D.stood (s4 3 (by decide))
          v := D.v.elim fun o h => ⟨o, hu.cell _ _ h (s4 4 (by decide))⟩
          at_ := D.at_.elim fun a h => ⟨a, Acc.upto h hu fun k hk => s4 _ (by omega)⟩
          ended := h13
          tbox := hu.cell _ _ D.tbox (bx _ _ (.inl t2)), rbox := hu.cell _ _ D.rbox (bx _ _ (.inr t3))
          lives := fun h => by cases h
          stands := fun _ q hq => by cases hq }
      · rw [upd_ne _ _ e]
        obtain ⟨z1, z2, z3, z4, z5⟩ := I.kt j td' h'
        exact (I.td j td' h').upto hu (fun k => nW _ (by simp only; omega) (by simp only; omega)) (fun k => nW _ (by simp only; omega) (by simp only; omega)) (fun k => nW _ (by simp only; omega) (by simp only; omega)) (nW _ (by simp only; omega) (by simp only; omega)) (nW _ (by simp only; omega) (by simp only; omega)) ⟨rfl, rfl⟩ (fun _ h => h)
    vals := fun a x h => by
      obtain ⟨z1, z2⟩ := I.vals a x h
      exact ⟨hu.cell _ _ z1 (nW _ (by rw [I.k0 a x h]; omega) (by rw [I.k0 a x h]; omega)), z2⟩
    nv := I.nv
    good := I.good
    law := I.lawStays hu (fun a h => .inl (by
      rcases h with h | h
      · rw [h, t1]; omega
      · rw [hW a h]; decide)) (fun _ _ => ⟨rfl, rfl⟩)
    k1 := I.k1, k2 := I.k2
    kt := fun j td' h => by
      rcases get h with ⟨rfl, rfl⟩ | ⟨e, h'⟩
      · exact ⟨t1, t2, t3, t4, t5⟩
      · exact I.kt j td' h'
    k0 := I.k0, kl := I.kl, klt := fun b h => Nat.lt_of_lt_of_le (I.klt b h) hu.size, llen := I.llen, cap := I.cap, tlen := by rw [lst, List.length_set]; exact I.tlen, wlen := I.wlen }

/-- What is known of the frame below a thread's body: how the thread ends. -/
structure Ends (X : Rn Λ) (i : Nat) (td : TD Λ) (cf : Frame) : Prop where
  call : Callable cf
  fin : ∀ (m : World) (O : Own) (Γ : Nat → Option Seat) (G : GSt Λ) (b : Nat) (sb : Seat) (B : Nat → Option Nat) (d : TD Λ) (v : Value), Like d td → Runs X i td.g b sb B G d m O Γ →
    Back X b sb (upd B i none) (fun G' => Next (fun _ _ => True) G i d G.s (.over false) G') → Okk Try.prog X.Φ td.g (Go.Conc.G (cf.finish v) [bot]) m O Γ
  stop : ∀ (m : World) (O : Own) (Γ : Nat → Option Seat) (G : GSt Λ) (b : Nat) (sb : Seat) (B : Nat → Option Nat) (d : TD Λ) (ty : TypeId) (x : Value), Like d td → G.st = true → Runs X i td.g b sb B G d m O Γ →
    Back X b sb (upd B i none) (fun G' => Next (fun _ _ => True) G i d G.s (.over false) G') → Okk Try.prog X.Φ td.g (Go.Conc.G (cf.raise [{ v := .iface ty x, recovered := false }]) [bot]) m O Γ
  fell : ∀ (m : World) (O : Own) (Γ : Nat → Option Seat) (G : GSt Λ) (b : Nat) (sb : Seat) (B : Nat → Option Nat) (d : TD Λ) (ty : TypeId) (x : Value), Like d td → G.st = false → Runs X i td.g b sb B G d m O Γ →
    Back X b sb (upd B i none) (fun G' => Next (fun _ _ => True) G i d G.s (.over true) G') → Okk Try.prog X.Φ td.g (Go.Conc.G (cf.raise [{ v := .iface ty x, recovered := false }]) [bot]) m O Γ

theorem pass_kept {sb : Seat} {b c k : Nat} (hc : m.heap[c]? = some (.chan 0 #[] false k k false)) (h : Kept sb b m O) : Kept sb b (m.setChan c 0 #[] false (k + 1) (k + 1) false) O := by
  refine ⟨fun x v hx => ?_, h.2⟩
  obtain ⟨z1, z2, z3⟩ := h.1 x v hx
  refine ⟨z1, z2, (Upto.pass hc).cell _ _ z3 fun e => ?_⟩
  obtain ⟨c', e', f', h', _⟩ := cells_of_cell z3
  rw [e, hc] at h'; cases h'

theorem Runs.ending {X : Rn Λ} {i b : Nat} {sb : Seat} {B : Nat → Option Nat} {Γ : Nat → Option Seat} {d : TD Λ} {f : Bool} {W : Addr → Prop} {Fl : World → Prop} {kd : Nat} (hR : Runs X i d.g b sb B G d m O Γ)
    (hcd : m.heap[sb.c]? = some (.chan 0 #[] false kd kd false)) (hW : ∀ a, W a → G.κ a.block = 7)
    (hrow : ∀ m₁, Upto (fun a => a = ⟨d.tp, 13, none⟩ ∨ W a) m m₁ → Fl m₁ → Rw G.κ X.rp 7 5 4 1 G.tds.length ((G.tds.set i { d with T := .over f }).map fun td => .bool td.T.fell) m₁ O)
    (hback : Back X b sb (upd B i none) (fun G' => Next (fun _ _ => True) G i d G.s (.over f) G')) : Ending X.Φ d.g b sb O Γ kd d.tp W m Fl := by
  intro m₁ hu h13 hfl g₂ hg₂ hk1 hk2
  obtain ⟨t1, t2, t3, t4, t5⟩ := hR.mem.kt i d hR.ix
  have kcd : G.κ sb.c = 12 + 5 * i := by rw [hR.bc]; exact t5
  have hcd1 : m₁.heap[sb.c]? = some (.chan 0 #[] false kd kd false) := hu.chan hcd (fun z => by
    rcases z with z | z
    · have := congrArg Addr.block z; simp only at this; rw [this] at kcd; omega
    · have := hW _ z; simp only at this; omega)
  have I1 := (hR.mem.over (f := f) hR.ix hR.B hu h13 hW (hrow m₁ hu hfl)).pass (c := sb.c) (k := kd) (by show G.κ sb.c ≠ 0; omega) hcd1
  exact hback g₂ hg₂ (G.to i { d with T := .over f } G.s G.κ) _ _ _ ⟨d.seat, G.κ, Ext.refl _, rfl, trivial⟩ I1 (hR.seat.over hR.mem.chs hR.ix rfl hR.B hR.ne hR.be hR.boss hR.bc) (pass_kept hcd1 ⟨hk1, hk2⟩)

theorem Runs.facts {X : Rn Λ} {i b : Nat} {sb : Seat} {B : Nat → Option Nat} {Γ : Nat → Option Seat} {d : TD Λ} (hR : Runs X i d.g b sb B G d m O Γ) : ∃ kd, EndFacts d.g b m O Γ d.rb d.tb d.tp X.rp i kd sb := by
  have D := hR.mem.td i d hR.ix
  rw [hR.B] at D
  obtain ⟨own, pre, _, kd, hkd⟩ := D.lives rfl
  obtain ⟨t1, t2, t3, t4, t5⟩ := hR.mem.kt i d hR.ix
  exact ⟨kd, (hR.seat.lives i d hR.ix (by rw [hR.B]; rfl)).2, D.rbox, D.tbox, D.number, by rw [hR.bc]; exact D.stood, ⟨_, D.ended⟩, D.b0, own, pre, fun e => by rw [e] at t2; omega, hR.boss, hR.ne, by rw [hR.bc]; exact hkd⟩

theorem ends_of {X : Rn Λ} {i : Nat} {td : TD Λ} {cf : Frame} (h108 : B108 X.Φ td.rb td.tb cf) : Ends X i td cf where
  call := h108.call
  fin := fun m O Γ G b sb B d v hl hR hback => by
    obtain ⟨l1, l2, l3, l4, l5, l6⟩ := hl
    rw [← l6] at hR ⊢
    obtain ⟨kd, F⟩ := hR.facts
    refine h108.fin _ _ _ _ _ fun tm todo => ?_
    rw [← l5, ← l4]
    refine Okk.end109N try_plain F (hR.ending (f := false) F.chan (fun a h => h.elim) (fun m₁ hu _ => ?_) hback)
    have e : (G.tds.set i { d with T := .over false }).map (fun td => Value.bool td.T.fell) = G.tds.map (fun td => Value.bool td.T.fell) := by
      have hlen : i < G.tds.length := (List.getElem?_eq_some_iff.1 hR.ix).1
      apply List.ext_getElem?
      intro j
      simp only [List.getElem?_map]
      by_cases e : j = i
      · subst e; rw [List.getElem?_set_self hlen, hR.ix]; simp [hR.fell]; rfl
      · rw [List.getElem?_set_ne (Ne.symm e)]
    rw [e]
    have t1 := (hR.mem.kt i d hR.ix).1
    exact hR.mem.fell.upto hu (fun z => by
      rcases z with z | z
      · have := congrArg Addr.block z; simp only at this; have k1 := hR.mem.k1; rw [this] at k1; omega
      · exact z) (fun a ha => by
      rcases ha with h | h
      · rw [h]; simp only; omega
      · exact h.elim) (fun b _ => ⟨rfl, rfl⟩) (fun _ h => h)
  stop := fun m O Γ G b sb B d ty x hl hst hR hback => by
    obtain ⟨l1, l2, l3, l4, l5, l6⟩ := hl
    rw [← l6] at hR ⊢
    obtain ⟨kd, F⟩ := hR.facts
    refine h108.raise _ _ _ _ _ fun tm todo => ?_
    rw [← l5, ← l4]
    refine Okk.end109S try_plain F (by rw [← hst]; exact hR.mem.stops) (hR.ending (f := false) F.chan (fun a h => h.elim) (fun m₁ hu _ => ?_) hback)
    have e : (G.tds.set i { d with T := .over false }).map (fun td => Value.bool td.T.fell) = G.tds.map (fun td => Value.bool td.T.fell) := by
      have hlen : i < G.tds.length := (List.getElem?_eq_some_iff.1 hR.ix).1
      apply List.ext_getElem?
      intro j
      simp only [List.getElem?_map]
      by_cases e : j = i
      · subst e; rw [List.getElem?_set_self hlen, hR.ix]; simp [hR.fell]; rfl
      · rw [List.getElem?_set_ne (Ne.symm e)]
    rw [e]
    have t1 := (hR.mem.kt i d hR.ix).1
    exact hR.mem.fell.upto hu (fun z => by
      rcases z with z | z
      · have := congrArg Addr.block z; simp only at this; have k1 := hR.mem.k1; rw [this] at k1; omega
      · exact z) (fun a ha => by
      rcases ha with h | h
      · rw [h]; simp only; omega
      · exact h.elim) (fun b _ => ⟨rfl, rfl⟩) (fun _ h => h)
  fell := fun m O Γ G b sb B d ty x hl hst hR hback => by
    obtain ⟨l1, l2, l3, l4, l5, l6⟩ := hl
    rw [← l6] at hR ⊢
    obtain ⟨kd, F⟩ := hR.facts
    refine h108.raise _ _ _ _ _ fun tm todo => ?_
    rw [← l5, ← l4]
    have hlen : i < G.tds.length := (List.getElem?_eq_some_iff.1 hR.ix).1
    have t1 := (hR.mem.kt i d hR.ix).1
    obtain ⟨t2⟩ := (hR.mem.kt i d hR.ix).2.1 |> fun h => PLift.up h
    obtain ⟨v5, c5, R5, k5⟩ := hR.mem.fell
    rcases R5.2 with ⟨_, h0⟩ | ⟨g, cap, cur, f, rfl, hb, ho, hp, hm, hcap, hcm, hsz, htake⟩
    · omega
    have kg : G.κ g = 7 := k5 g rfl
    have hic : i < cur.size := by omega
    have hadd : (⟨g, 0, none⟩ : Addr).add i = ⟨g, i, none⟩ := by unfold Addr.add; split <;> simp_all
    refine Okk.end109F (fa := ⟨g, 0, none⟩) (o := cur[i]) try_plain F (by rw [← hst]; exact hR.mem.stops) c5 hlen (by rw [hadd]; exact cell_of_cells hm hic) (by rw [hadd]; exact gh_free hb (.inl ho) (by rw [hp]; exact Nat.zero_le _)) (fun e => by simp only at e; rw [e] at kg; omega) (fun e => by simp only at e; rw [e] at kg; omega) ?_
    refine hR.ending (f := true) F.chan (fun a h => by rw [h, hadd]; exact kg) (fun m₁ hu hfl => ?_) hback
    obtain ⟨f', h1⟩ := hfl cur 4 f hm
    rw [hadd] at h1
    simp only [Option.isSome_none, Bool.false_eq_true, if_false] at h1
    refine ⟨.slice (some ⟨g, 0, none⟩) G.tds.length cap, hu.cell _ _ c5 (fun z => by
      rcases z with z | z
      · have := congrArg Addr.block z; simp only at this; have k1 := hR.mem.k1; rw [this] at k1; omega
      · rw [hadd] at z; have := congrArg Addr.block z; simp only at this; have k1 := hR.mem.k1; rw [this] at k1; omega), ⟨by simp, .inr ⟨g, cap, _, f', rfl, hb, ho, hp, h1, hcap, hcm, by simpa using hsz, ?_⟩⟩, k5⟩
    have e : (cur.setIfInBounds i (.bool true)).toList = cur.toList.set i (.bool true) := by simp
    rw [e, List.take_set, htake]
    apply List.ext_getElem?
    intro j
    simp only [List.getElem?_map]
    by_cases e : j = i
    · subst e
      rw [List.getElem?_set_self (by simpa using hlen), List.getElem?_set_self hlen]; rfl
    · rw [List.getElem?_set_ne (Ne.symm e), List.getElem?_set_ne (Ne.symm e), List.getElem?_map]
end
end Go.Proofs.Ytkbfbphbdljaaaa

/- gate's goes, as whoever lets a thread go sees it. Every premise stands in the statements. -/
set_option linter.unusedVariables false
set_option linter.unusedSimpArgs false
namespace Go.Proofs.Ytkbfbphbdljaaaa
open Go.Tre Go.RowKit
open Go.Conc (G base baseD crowd rcase scase)
open Go.ConcN (upd upd_ne upd_same)
variable {Λ : Type}
section
variable [Base]
/-- Where a thread's turn leads. -/
def Led (X : Rn Λ) (i : Nat) (d : TD Λ) (G : GSt Λ) : Th Λ → GSt Λ → Prop
  | .over _ => fun _ => False
  | .acc op v arg new seg next stop => fun G' => if G.st then Next (fun _ _ => True) G i d (stop G.s) (.over false) G'
        else Next (Prom X (next (G.s.ans op v arg new) (G.s.acc i op v arg new)) i) G i d (seg (G.s.ans op v arg new) (G.s.acc i op v arg new)) (next (G.s.ans op v arg new) (G.s.acc i op v arg new)) G'
  | .go init child seg next stop => fun G' => if G.st then Next (fun _ _ => True) G i d (stop G.s) (.over false) G'
        else if G.tds.length = 64 then Next (Prom X (next (-1) (G.s.logs ⟨i, 7, -1, 0, 0, 0, -1, false⟩)) i) G i d (seg (-1) (G.s.logs ⟨i, 7, -1, 0, 0, 0, -1, false⟩)) (next (-1) (G.s.logs ⟨i, 7, -1, 0, 0, 0, -1, false⟩)) G'
        else ∃ td' : TD Λ, td'.T = child G.tds.length (G.s.logs ⟨i, 7, -1, 0, 0, 0, G.tds.length, false⟩) ∧ Prom X (child G.tds.length (G.s.logs ⟨i, 7, -1, 0, 0, 0, G.tds.length, false⟩)) G.tds.length td' G'.κ ∧
          Next (Prom X (next G.tds.length (init G.tds.length (G.s.logs ⟨i, 7, -1, 0, 0, 0, G.tds.length, false⟩))) i) { G with tds := G.tds ++ [td'] } i d
            (seg G.tds.length (init G.tds.length (G.s.logs ⟨i, 7, -1, 0, 0, 0, G.tds.length, false⟩))) (next G.tds.length (init G.tds.length (G.s.logs ⟨i, 7, -1, 0, 0, 0, G.tds.length, false⟩))) G'
theorem MemI.resume {L : Lw Λ} {rp mb : Nat} {B : Nat → Option Nat} {G : GSt Λ} {m : World} {O : Own} {i h : Nat} {td : TD Λ} (I : MemI L rp mb B G m O) (hi : G.tds[i]? = some td) (hB : B i = none) (hT : td.T.isOver = false) : MemI L rp mb (upd B i (some h)) G m O :=
  { I with
    td := fun j td' hj => by
      by_cases e : j = i
      · subst e
        obtain rfl : td' = td := by rw [hi] at hj; exact (Option.some.inj hj).symm
        have D := I.td j td' hj
        rw [upd_same]
        exact { D with
          ended := by have := D.ended; rw [hB, hT] at this; simpa using this
          lives := fun _ => D.lives (by rw [hT]; simp)
          stands := fun h => by cases h }
      · rw [upd_ne _ _ e]; exact I.td j td' hj }
/-- ████ goes ████ -/
theorem Okk.goesI {X : Rn Λ} {h i : Nat} {B : Nat → Option Nat} {G : GSt Λ} {td : TD Λ} {m : World} {O : Own} {Γ : Nat → Option Seat} {c : Frame} {cs : List Frame} (I : MemI X.L X.rp X.mb B G m O) (S : SeatI X.E h B G Γ) (hE : X.E h = none)
    (hi : G.tds[i]? = some td) (hB : B i = none) (hT : td.T.isOver = false) (hprom : Prom X td.T i td G.κ) (hcap : G.st = false → G.s.log.length + 10000 ≤ G.cap)
    (hn : ∀ (m' : World) (O' : Own) (Γ' : Nat → Option Seat) (G' : GSt Λ), Led X i td G td.T G' → MemI X.L X.rp X.mb B G' m' O' → SeatI X.E h B G' Γ' →
      ((∀ x v, O.mine h m x = some v → Base.b0 ≤ x.block ∧ (O'.o x.block = some h ∨ x.off < O'.pre x.block) ∧ m'.cell? x = some v) ∧ ∀ b n, O.mineB h b = some n → O'.o b = some h ∧ O'.pre b = n) →
      Okk Try.prog X.Φ h (Go.Conc.G (c.finish (.tuple #[])) cs) m' O' Γ') :
    Okk Try.prog X.Φ h (Go.Conc.G (Frame.enter Try.prog 77 #[.pointer (some ⟨td.tp, 0, none⟩)] .normal) (c :: cs)) m O Γ := by
  have D := I.td i td hi
  rw [hB] at D
  obtain ⟨own, pre, ⟨kw, hkw⟩, kd, hkd⟩ := D.lives (by rw [hT]; simp)
  obtain ⟨g1, g2, g3⟩ := S.stands i td hi hB hT
  obtain ⟨t1, t2, t3, t4, t5⟩ := I.kt i td hi
  refine Okk.goes try_plain (j := td.g) (cw := td.cw) (cd := td.cd) (kw := kw) (s := td.seat) D.b0 (by omega) D.wake D.stood g2 g3 g1 hkw ⟨kd, hkd⟩ (fun k s₂ hk _ hs e => ?_) fun g₂ hg₂ hk1 hk2 => ?_
  · have := S.sd i td k s₂ hi (by rw [hT]; simp) hk hs e
    rw [hB] at this; cases this
  have hB' : upd (upd B i (some h)) i none = B := by
    funext k
    by_cases e : k = i
    · subst e; rw [upd_same, hB]
    · rw [upd_ne _ _ e, upd_ne _ _ e]
  have I1 := (I.resume (h := h) hi hB hT).pass (c := td.cw) (k := kw) (by omega) hkw
  have hRuns : Runs X i td.g h (stdSeat td.cd (goesAt td.tp td.cw td.cd (c :: cs)) O h m) (upd B i (some h)) G td (m.setChan td.cw 0 #[] false (kw + 1) (kw + 1) false) O (upd Γ h (some (stdSeat td.cd (goesAt td.tp td.cw td.cd (c :: cs)) O h m))) :=
    ⟨I1, S.resume I.chs hi hB hT rfl, hi, rfl, upd_same _ _ _, Ne.symm g1, upd_same _ _ _, rfl, hE, by cases e : td.T <;> first | rfl | (rw [e] at hT; cases hT), fun q hq v hv => (D.stands rfl q hq).2.2 v hv⟩
  have hKept : Kept td.seat td.g (m.setChan td.cw 0 #[] false (kw + 1) (kw + 1) false) O := by
    refine ⟨fun x v hx => ?_, hk2⟩
    obtain ⟨z1, z2, z3⟩ := hk1 x v hx
    refine ⟨z1, z2, (Upto.pass hkw).cell _ _ z3 fun e => ?_⟩
    obtain ⟨c', e', f', h', _⟩ := cells_of_cell z3
    rw [e, hkw] at h'; cases h'
  have hBack : ∀ K : GSt Λ → Prop, (∀ G', K G' → Led X i td G td.T G') → Back X h (stdSeat td.cd (goesAt td.tp td.cw td.cd (c :: cs)) O h m) (upd (upd B i (some h)) i none) K := fun K hK R hR G' m' O' Γ' hKG IM SM hk => by
    obtain rfl : R = goesAt td.tp td.cw td.cd (c :: cs) := hR
    rw [hB'] at IM SM
    exact Okk.goesBack (hn m' O' Γ' G' (hK G' hKG) IM SM hk)
  cases e : td.T with
  | over f => rw [e] at hT; cases hT
  | acc op v arg new seg next stop =>
    rw [e] at hprom
    have ed : { td with T := .acc op v arg new seg next stop } = td := by rw [← e]
    exact hprom g₂ hg₂ _ _ _ G h _ _ (by rw [ed]; exact hRuns) hKept (Ext.refl _) hcap (hBack _ fun G' h' => by rw [e]; exact h')
  | go init child seg next stop =>
    rw [e] at hprom
    have ed : { td with T := .go init child seg next stop } = td := by rw [← e]
    exact hprom g₂ hg₂ _ _ _ G h _ _ (by rw [ed]; exact hRuns) hKept (Ext.refl _) hcap (hBack _ fun G' h' => by rw [e]; exact h')
end
end Go.Proofs.Ytkbfbphbdljaaaa

/- What memory holds of a run when a thread has been begun. Every premise stands in the statements. -/
set_option linter.unusedVariables false
set_option linter.unusedSimpArgs false
namespace Go.Proofs.Ytkbfbphbdljaaaa
open Go.Tre Go.RowKit
open Go.Conc (G base baseD crowd rcase scase)
open Go.ConcN (upd upd_ne upd_same)
variable {Λ : Type}
section
variable [Base]
/-- The colours behind a begin. -/
def kbeg (κ : Nat → Nat) (v0 v5 : Value) (tp tb rb cw cd n : Nat) : Nat → Nat := fun b =>
  if some b = v0.ownBlock then 3 else if some b = v5.ownBlock then 7 else if b = tp then 8 + 5 * n else if b = tb then 9 + 5 * n else if b = rb then 10 + 5 * n else if b = cw then 11 + 5 * n else if b = cd then 12 + 5 * n else κ b

theorem MemI.begun {L : Lw Λ} {rp mb : Nat} {B : Nat → Option Nat} {G : GSt Λ} {m m5 : World} {O O3 : Own} {h tp tb rb fb cw cd j : Nat} {fv v0 v5 v0' v5' : Value} (I : MemI L rp mb B G m O) (hF : Fresh m O) (hn64 : G.tds.length < 64) (hBn : B G.tds.length = none)
    (h0 : m.cell? ⟨rp, 0, none⟩ = some v0) (R0 : Row O m 30 1 v0 G.tds.length (G.tds.map fun td => .pointer (some ⟨td.tp, 0, none⟩))) (k0 : ∀ g, v0.ownBlock = some g → G.κ g = 3)
    (h5 : m.cell? ⟨rp, 5, none⟩ = some v5) (R5 : Row O m 4 1 v5 G.tds.length (G.tds.map fun td => .bool td.T.fell)) (k5 : ∀ g, v5.ownBlock = some g → G.κ g = 7)
    (b : Begun h m m5 O O3 rp G.tds.length tp tb rb fb cw cd fv v0 v5 v0' v5' (G.tds.map fun td => .pointer (some ⟨td.tp, 0, none⟩)) (G.tds.map fun td => .bool td.T.fell)) (sc : Seat) :
    Ext G.κ (kbeg G.κ v0' v5' tp tb rb cw cd G.tds.length) ∧
    MemI L rp mb (upd B G.tds.length (some h)) { G with tds := G.tds ++ [{ tp := tp, cw := cw, cd := cd, tb := tb, rb := rb, g := j, seat := sc, T := .over false }], κ := kbeg G.κ v0' v5' tp tb rb cw cd G.tds.length } (m5.setChan cw 0 #[] false 1 1 false) (O3.take j tp) := by
  obtain ⟨N1, N2, N3, N4, N5, N6⟩ := b.new
  obtain ⟨e1, e2, e3, e4⟩ := b.ne
  obtain ⟨f1, f2, f3⟩ := b.neb
  have kindT : ∃ f, m5.heap[tp]? = some (.cells (newTh rp G.tds.length cw cd) 65 f) := b.th
  obtain ⟨fth, hth⟩ := kindT
  have ncw : cw ≠ tp := fun e => by have := b.wake; rw [e, hth] at this; cases this
  have ncd : cd ≠ tp := fun e => by have := b.stood; rw [e, hth] at this; cases this
  have ncwb : cw ≠ tb := fun e => by
    obtain ⟨c, t, f, hh, _⟩ := cells_of_cell b.t
    have := b.wake; simp only at hh; rw [e, hh] at this; cases this
  have ncdb : cd ≠ tb := fun e => by
    obtain ⟨c, t, f, hh, _⟩ := cells_of_cell b.t
    have := b.stood; simp only at hh; rw [e, hh] at this; cases this
  have hv0 : ∀ g, v0'.ownBlock = some g → (G.κ g = 3 ∧ g < m.heap.size) ∨ (m.heap.size ≤ g ∧ g ≠ tp ∧ g ≠ tb ∧ g ≠ rb ∧ g ≠ cw ∧ g ≠ cd) := fun g hg => (b.n0 g hg).imp (fun z => ⟨k0 g z, (R0.lt z).1⟩) id
  have hv5 : ∀ g, v5'.ownBlock = some g → (G.κ g = 7 ∧ g < m.heap.size) ∨ (m.heap.size ≤ g ∧ g ≠ tp ∧ g ≠ tb ∧ g ≠ rb ∧ g ≠ cw ∧ g ≠ cd ∧ v0'.ownBlock ≠ some g) := fun g hg => (b.n5 g hg).imp (fun z => ⟨k5 g z, (R5.lt z).1⟩) id
  generalize hκ : kbeg G.κ v0' v5' tp tb rb cw cd G.tds.length = κ1
  have kOld : ∀ x, x < m.heap.size → κ1 x = G.κ x := fun x hx => by
    rw [← hκ]
    unfold kbeg
    split
    · rename_i e; rcases hv0 x e.symm with z | z
      · exact z.1.symm
      · omega
    split
    · rename_i e; rcases hv5 x e.symm with z | z
      · exact z.1.symm
      · omega
    rw [if_neg (by omega), if_neg (by omega), if_neg (by omega), if_neg (by omega), if_neg (by omega)]
  have kNew : ∀ x, m.heap.size ≤ x → x = tp ∨ x = tb ∨ x = rb ∨ x = cw ∨ x = cd → some x ≠ v0'.ownBlock ∧ some x ≠ v5'.ownBlock := fun x hx hor => by
    constructor
    · intro e; rcases hv0 x e.symm with z | z
      · omega
      · rcases hor with q | q | q | q | q <;> simp_all
    · intro e; rcases hv5 x e.symm with z | z
      · omega
      · rcases hor with q | q | q | q | q <;> simp_all
  have ktp : κ1 tp = 8 + 5 * G.tds.length := by
    obtain ⟨a1, a2⟩ := kNew tp N1 (.inl rfl)
    rw [← hκ]; unfold kbeg; rw [if_neg a1, if_neg a2, if_pos rfl]
  have ktb : κ1 tb = 9 + 5 * G.tds.length := by
    obtain ⟨a1, a2⟩ := kNew tb N2 (.inr (.inl rfl))
    rw [← hκ]; unfold kbeg; rw [if_neg a1, if_neg a2, if_neg e1, if_pos rfl]
  have krb : κ1 rb = 10 + 5 * G.tds.length := by
    obtain ⟨a1, a2⟩ := kNew rb N3 (.inr (.inr (.inl rfl)))
    rw [← hκ]; unfold kbeg; rw [if_neg a1, if_neg a2, if_neg e2, if_neg f1, if_pos rfl]
  have kcw : κ1 cw = 11 + 5 * G.tds.length := by
    obtain ⟨a1, a2⟩ := kNew cw N5 (.inr (.inr (.inr (.inl rfl))))
    rw [← hκ]; unfold kbeg; rw [if_neg a1, if_neg a2, if_neg ncw, if_neg ncwb, if_neg (Ne.symm f2), if_pos rfl]
  have kcd : κ1 cd = 12 + 5 * G.tds.length := by
    obtain ⟨a1, a2⟩ := kNew cd N6 (.inr (.inr (.inr (.inr rfl))))
    rw [← hκ]; unfold kbeg; rw [if_neg a1, if_neg a2, if_neg ncd, if_neg ncdb, if_neg (Ne.symm f3), if_neg (Ne.symm e4), if_pos rfl]
  have kv0 : ∀ g, v0'.ownBlock = some g → κ1 g = 3 := fun g hg => by rw [← hκ]; unfold kbeg; rw [if_pos hg.symm]
  have kv5 : ∀ g, v5'.ownBlock = some g → κ1 g = 7 := fun g hg => by
    rw [← hκ]; unfold kbeg
    rw [if_neg (fun e => by
      rcases hv5 g hg with z | z
      · rcases hv0 g e.symm with y | y <;> omega
      · exact z.2.2.2.2.2.2 e.symm), if_pos hg.symm]
  have hE : Ext G.κ κ1 := fun x hx => kOld x (I.klt x hx)
  refine ⟨hE, ?_⟩
  -- memory
  let W : Addr → Prop := fun a => a = ⟨rp, 0, none⟩ ∨ a = ⟨rp, 5, none⟩ ∨ some a.block = v0.ownBlock ∨ some a.block = v5.ownBlock ∨ a.block = cw
  have u5 : Upto W m m5 := b.u.mono fun a z => by
    rcases z with z | z | z | z
    · exact .inl z
    · exact .inr (.inl z)
    · exact .inr (.inr (.inl z))
    · exact .inr (.inr (.inr (.inl z)))
  have up : Upto (fun a => a.block = cw) m5 (m5.setChan cw 0 #[] false 1 1 false) := Upto.pass b.wake
  have hu : Upto W m (m5.setChan cw 0 #[] false 1 1 false) := u5.trans (up.mono fun a z => .inr (.inr (.inr (.inr z))))
  have cl5 : ∀ {z : Addr} {v : Value}, m5.cell? z = some v → (m5.setChan cw 0 #[] false 1 1 false).cell? z = some v := fun {z v} hz => up.cell _ _ hz (fun e => by
    obtain ⟨c', t, f, h', _⟩ := cells_of_cell hz
    rw [e, b.wake] at h'; cases h')
  have rlt := I.rlt
  have kr := I.k1
  have nW : ∀ a : Addr, a.block < m.heap.size → G.κ a.block ≠ 1 → G.κ a.block ≠ 3 → G.κ a.block ≠ 7 → ¬ W a := fun a hl h1 h3 h7 h => by
    rcases h with h | h | h | h | h
    · exact h1 (by rw [h]; exact kr)
    · exact h1 (by rw [h]; exact kr)
    · exact h3 (k0 _ h.symm)
    · exact h7 (k5 _ h.symm)
    · omega
  have nr : ∀ i, i ≠ 0 → i ≠ 5 → ¬ W ⟨rp, i, none⟩ := fun i hi0 hi5 h => by
    rcases h with h | h | h | h | h
    · exact hi0 (congrArg Addr.off h)
    · exact hi5 (congrArg Addr.off h)
    · have := k0 _ h.symm; simp only at this; omega
    · have := k5 _ h.symm; simp only at this; omega
    · simp only at h; omega
  have oOld : ∀ x, x < m.heap.size → G.κ x ≠ 3 → G.κ x ≠ 7 → (O3.take j tp).o x = O.o x ∧ (O3.take j tp).pre x = O.pre x := fun x hx n3 n7 => by
    refine ⟨?_, b.old x hx⟩
    simp only [Own.take]
    rw [if_neg (by omega)]
    rcases b.priv x hx with z | z | z
    · exact z
    · exact absurd (k0 _ z) n3
    · exact absurd (k5 _ z) n7
  have sm : ∀ c, c ≠ 0 → c ≠ 3 → c ≠ 7 → Same (fun x => G.κ x = c) O (O3.take j tp) := fun c c0 c3 c7 x hx => oOld x (I.klt x (by omega)) (by omega) (by omega)
  have hc : ∀ c, c ≠ 0 → c ≠ 1 → c ≠ 3 → c ≠ 7 → ∀ a, W a → G.κ a.block ≠ c := fun c c0 c1 c3 c7 a ha e => nW a (I.klt _ (by omega)) (by omega) (by omega) (by omega) ha
  have he : ∀ c, c ≠ 0 → ∀ x, G.κ x = c → κ1 x = c := fun c h0 x hx => (hE x (by omega)).trans hx
  have get : ∀ {i : Nat} {td' : TD Λ}, (G.tds ++ [{ tp := tp, cw := cw, cd := cd, tb := tb, rb := rb, g := j, seat := sc, T := .over false }])[i]? = some td' → (i = G.tds.length ∧ td' = { tp := tp, cw := cw, cd := cd, tb := tb, rb := rb, g := j, seat := sc, T := .over false }) ∨ (i ≠ G.tds.length ∧ G.tds[i]? = some td') := fun {i td'} hh => by
    rcases Nat.lt_trichotomy i G.tds.length with e | e | e
    · rw [List.getElem?_append_left e] at hh; exact .inr ⟨by omega, hh⟩
    · subst e; simp at hh; exact .inl ⟨rfl, hh.symm⟩
    · rw [List.getElem?_eq_none (by simp; omega)] at hh; cases hh
  have hcell : ∀ i (hi : i < 14), (m5.setChan cw 0 #[] false 1 1 false).cell? ⟨tp, i, none⟩ = some ((newTh rp G.tds.length cw cd)[i]'hi) := fun i hi => cl5 (cell_of_cells hth hi)
  have rowT : ∀ {e sz n xs v} (R : Row O3 m5 e sz v n xs), (∀ g, v.ownBlock = some g → g ≠ tp) → Row (O3.take j tp) (m5.setChan cw 0 #[] false 1 1 false) e sz v n xs := fun {e sz n xs v} R hg => R.stays fun g hgg cur f hm o p => ⟨up.row g cur e f hm (fun i z => by simp only at z; rw [z, b.wake] at hm; cases hm), by simp only [Own.take]; rw [if_neg (hg g hgg)]; exact o, p⟩
  exact {
    b0 := I.b0
    ro := by have := oOld rp rlt (by omega) (by omega); exact ⟨this.1.trans I.ro.1, this.2.trans I.ro.2⟩
    c1 := hu.cell _ _ I.c1 (nr 1 (by decide) (by decide)), map := hu.obj _ _ I.map (by simp) (nW _ (by exact (Array.getElem?_eq_some_iff.1 I.map).1) (by rw [I.k2]; decide) (by rw [I.k2]; decide) (by rw [I.k2]; decide)), stops := hu.cell _ _ I.stops (nr 6 (by decide) (by decide))
    threads := ⟨v0', cl5 b.c0, by
      simp only [List.length_append, List.length_singleton, List.map_append, List.map_cons, List.map_nil]
      exact rowT b.R0 (fun g hg e => by rcases hv0 g hg with z | z <;> omega), fun g hg => kv0 g hg⟩
    log := I.log.upto hu (nr 2 (by decide) (by decide)) (hc 4 (by decide) (by decide) (by decide) (by decide)) (sm 4 (by decide) (by decide) (by decide)) (he 4 (by decide))
    went := I.went.upto hu (nr 3 (by decide) (by decide)) (hc 5 (by decide) (by decide) (by decide) (by decide)) (sm 5 (by decide) (by decide) (by decide)) (he 5 (by decide))
    ready := I.ready.upto hu (nr 4 (by decide) (by decide)) (hc 6 (by decide) (by decide) (by decide) (by decide)) (sm 6 (by decide) (by decide) (by decide)) (he 6 (by decide))
    fell := ⟨v5', cl5 b.c5, by
      simp only [List.length_append, List.length_singleton, List.map_append, List.map_cons, List.map_nil]
      exact rowT b.R5 (fun g hg e => by rcases hv5 g hg with z | z <;> omega), fun g hg => kv5 g hg⟩
    td := fun i td' hi => by
      rcases get hi with ⟨rfl, rfl⟩ | ⟨e, h'⟩
      · rw [upd_same]
        exact {
          b0 := by have := I.b0; simp only; omega
          r := hcell 0 (by decide), number := hcell 1 (by decide), wake := hcell 2 (by decide), stood := hcell 3 (by decide), v := ⟨_, hcell 4 (by decide)⟩
          at_ := ⟨⟨0, 0, 0, 0, 0, 0, 0, false⟩, hcell 5 (by decide), hcell 6 (by decide), hcell 7 (by decide), hcell 8 (by decide), hcell 9 (by decide), hcell 10 (by decide), hcell 11 (by decide), hcell 12 (by decide)⟩
          ended := hcell 13 (by decide), tbox := cl5 b.t, rbox := cl5 b.r
          lives := fun _ => ⟨by simp [Own.take], b.pre.1, ⟨1, by simp only [World.setChan]; exact Array.getElem?_setIfInBounds_self_of_lt (Array.getElem?_eq_some_iff.1 b.wake).1⟩, ⟨0, by simp only [World.setChan]; rw [Array.getElem?_setIfInBounds_ne e4]; exact b.stood⟩⟩
          stands := fun h => by cases h }
      · rw [upd_ne _ _ e]
        obtain ⟨z1, z2, z3, z4, z5⟩ := I.kt i td' h'
        have lt : ∀ x, G.κ x ≠ 0 → x < m.heap.size := I.klt
        exact (I.td i td' h').upto hu (fun k => nW _ (lt _ (by simp only; omega)) (by simp only; omega) (by simp only; omega) (by simp only; omega)) (fun k => nW _ (lt _ (by simp only; omega)) (by simp only; omega) (by simp only; omega) (by simp only; omega)) (fun k => nW _ (lt _ (by simp only; omega)) (by simp only; omega) (by simp only; omega) (by simp only; omega))
          (nW _ (lt _ (by simp only; omega)) (by simp only; omega) (by simp only; omega) (by simp only; omega)) (nW _ (lt _ (by simp only; omega)) (by simp only; omega) (by simp only; omega) (by simp only; omega)) (oOld _ (lt _ (by omega)) (by omega) (by omega)) (fun _ h => h)
    vals := fun a x hx => by
      obtain ⟨z1, z2, z3, z4, z5⟩ := I.vals a x hx
      have k := I.k0 a x hx
      obtain ⟨o1, o2⟩ := oOld a.block (I.vlt hx) (by omega) (by omega)
      exact ⟨hu.cell _ _ z1 (nW _ (I.vlt hx) (by omega) (by omega) (by omega)), z2, o1.trans z3, o2.trans z4, z5⟩
    nv := I.nv
    good := I.good
    law := L.stable I.law hu (fun a ha hw => by
        obtain ⟨z1, z2⟩ := I.kl a ha
        exact nW a (L.low I.law ha) (by omega) (by omega) (by omega) hw) (fun a ha => by
        obtain ⟨z1, z2⟩ := I.kl a ha
        exact oOld _ (L.low I.law ha) (by omega) (by omega))
    k1 := he 1 (by decide) _ I.k1, k2 := he 2 (by decide) _ I.k2
    kt := fun i td' hi => by
      rcases get hi with ⟨rfl, rfl⟩ | ⟨e, h'⟩
      · exact ⟨ktp, ktb, krb, kcw, kcd⟩
      · obtain ⟨z1, z2, z3, z4, z5⟩ := I.kt i td' h'
        exact ⟨he _ (by omega) _ z1, he _ (by omega) _ z2, he _ (by omega) _ z3, he _ (by omega) _ z4, he _ (by omega) _ z5⟩
    k0 := fun a x hx => (kOld _ (I.vlt hx)).trans (I.k0 a x hx)
    kl := fun a ha => ⟨(kOld _ (L.low I.law ha)).trans (I.kl a ha).1, (I.kl a ha).2⟩
    klt := fun x hx => by
      by_cases hl : x < m.heap.size
      · exact Nat.lt_of_lt_of_le hl hu.size
      · have sz : (m5.setChan cw 0 #[] false 1 1 false).heap.size = m5.heap.size := by simp [World.setChan]
        rw [sz]
        have lt5 : ∀ {z : Nat} {v : Value} {o : Nat}, m5.cell? ⟨z, o, none⟩ = some v → z < m5.heap.size := fun {z v o} hz => World.block_lt_of_cell? m5 _ hz
        have hx : κ1 x ≠ 0 := hx
        rw [← hκ] at hx
        unfold kbeg at hx
        split at hx
        · rename_i e
          exact (b.R0.lt e.symm).1
        split at hx
        · rename_i e
          exact (b.R5.lt e.symm).1
        split at hx
        · rename_i e; rw [e]; exact (Array.getElem?_eq_some_iff.1 hth).1
        split at hx
        · rename_i e; rw [e]; exact lt5 b.t
        split at hx
        · rename_i e; rw [e]; exact lt5 b.r
        split at hx
        · rename_i e; rw [e]; exact (Array.getElem?_eq_some_iff.1 b.wake).1
        split at hx
        · rename_i e; rw [e]; exact (Array.getElem?_eq_some_iff.1 b.stood).1
        · exact absurd (I.klt x hx) hl
    llen := I.llen, cap := I.cap, tlen := by simp only [List.length_append, List.length_singleton]; omega, wlen := I.wlen }
end
end Go.Proofs.Ytkbfbphbdljaaaa

/- gate's begin, as whoever begins a thread sees it. Every premise stands in the statements. -/
set_option linter.unusedVariables false
set_option linter.unusedSimpArgs false
namespace Go.Proofs.Ytkbfbphbdljaaaa
open Go.Tre Go.RowKit
open Go.Conc (G base baseD crowd rcase scase)
open Go.ConcN (upd upd_ne upd_same)
variable {Λ : Type}
section
variable [Base]
/-- ████ What is known of a thread's body. ████ -/
def Born (X : Rn Λ) (fv : Value) (init : Nat → Sh Λ → Sh Λ) (child : Nat → Sh Λ → Th Λ) : Prop :=
  (fv = .nilFunc ∧ ∀ n s, init n s = s ∧ child n s = .over false) ∨
  ∃ (f : FuncId) (fn : Func) (c : Code) (caps : Array Value), fv = .func (.func f) #[] caps ∧ Try.prog.funcs[f]? = some fn ∧ (fn.name == "runtime.NumGoroutine") = false ∧ fn.body = some c ∧
    ∀ (i : Nat) (cf : Frame) (td : TD Λ), Ends X i td cf → ∀ (m : World) (O : Own) (Γ : Nat → Option Seat) (G : GSt Λ) (b : Nat) (sb : Seat) (B : Nat → Option Nat), Runs X i td.g b sb B G td m O Γ → G.st = false → G.s.log.length + 4000 ≤ G.cap →
      Back X b sb (upd B i none) (fun G' => Next (Prom X (child i G.s) i) G i td (init i G.s) (child i G.s) G') →
      Okk Try.prog X.Φ td.g (Go.Conc.G (Frame.enter Try.prog f (#[.pointer (some ⟨td.tp, 0, none⟩)] ++ caps) .normal) [cf, bot]) m O Γ
theorem Born.isBody {X : Rn Λ} {fv : Value} {init : Nat → Sh Λ → Sh Λ} {child : Nat → Sh Λ → Th Λ} (h : Born X fv init child) : IsBody fv := by
  rcases h with ⟨h, _⟩ | ⟨f, fn, c, caps, h1, h2, h3, h4, _⟩
  · exact .inl h
  · exact .inr ⟨f, fn, c, caps, h1, h2, h3, h4⟩
theorem Runs.done {X : Rn Λ} {i b : Nat} {sb : Seat} {B : Nat → Option Nat} {G : GSt Λ} {m : World} {O : Own} {Γ : Nat → Option Seat} {d : TD Λ} (hR : Runs X i d.g b sb B G d m O Γ)
    (hback : Back X b sb (upd B i none) (fun G' => Next (fun _ _ => True) G i d G.s (.over false) G')) (tm : Array Value) (todo : List Item) :
    Okk Try.prog X.Φ d.g (Go.Conc.G (Frame.enter Try.prog 109 #[.pointer (some ⟨d.rb, 0, none⟩), .pointer (some ⟨d.tb, 0, none⟩)] .deferred) [f108 tm todo .returning, bot]) m O Γ := by
  obtain ⟨kd, F⟩ := hR.facts
  refine Okk.end109N try_plain F (hR.ending (f := false) F.chan (fun a h => h.elim) (fun m₁ hu _ => ?_) hback)
  have e : (G.tds.set i { d with T := .over false }).map (fun td => Value.bool td.T.fell) = G.tds.map (fun td => Value.bool td.T.fell) := by
    have hlen : i < G.tds.length := (List.getElem?_eq_some_iff.1 hR.ix).1
    apply List.ext_getElem?
    intro j
    simp only [List.getElem?_map]
    by_cases e : j = i
    · subst e; rw [List.getElem?_set_self hlen, hR.ix]; simp [hR.fell]; rfl
    · rw [List.getElem?_set_ne (Ne.symm e)]
  rw [e]
  have t1 := (hR.mem.kt i d hR.ix).1
  exact hR.mem.fell.upto hu (fun z => by
    rcases z with z | z
    · have := congrArg Addr.block z; simp only at this; have k1 := hR.mem.k1; rw [this] at k1; omega
    · exact z) (fun a ha => by
    rcases ha with h | h
    · rw [h]; simp only; omega
    · exact h.elim) (fun b _ => ⟨rfl, rfl⟩) (fun _ h => h)

set_option maxHeartbeats 1000000 in
/-- ████ begin ████ -/
theorem Okk.beginI {X : Rn Λ} {h : Nat} {B : Nat → Option Nat} {G : GSt Λ} {m : World} {O : Own} {Γ : Nat → Option Seat} {c : Frame} {cs : List Frame} {fv : Value} {init : Nat → Sh Λ → Sh Λ} {child : Nat → Sh Λ → Th Λ} (I : MemI X.L X.rp X.mb B G m O) (S : SeatI X.E h B G Γ) (hE : X.E h = none)
    (hst : G.st = false) (hlen : G.tds.length < 64) (hB : B G.tds.length = none) (hborn : Born X fv init child) (hcap : G.s.log.length + 4000 ≤ G.cap)
    (hn : ∀ (m' : World) (O' : Own) (Γ' : Nat → Option Seat) (G' : GSt Λ) (td' : TD Λ), (∃ κ', Ext G.κ κ' ∧ G' = { G with s := init G.tds.length G.s, tds := G.tds ++ [td'], κ := κ' }) → td'.T = child G.tds.length G.s → Prom X (child G.tds.length G.s) G.tds.length td' G'.κ →
      MemI X.L X.rp X.mb B G' m' O' → SeatI X.E h B G' Γ' →
      ((∀ x v, O.mine h m x = some v → Base.b0 ≤ x.block ∧ (O'.o x.block = some h ∨ x.off < O'.pre x.block) ∧ m'.cell? x = some v) ∧ ∀ b n, O.mineB h b = some n → O'.o b = some h ∧ O'.pre b = n) →
      Okk Try.prog X.Φ h (Go.Conc.G (c.finish (.pointer (some ⟨td'.tp, 0, none⟩))) cs) m' O' Γ') :
    Okk Try.prog X.Φ h (Go.Conc.G (Frame.enter Try.prog 75 #[.pointer (some ⟨X.rp, 0, none⟩), fv] .normal) (c :: cs)) m O Γ := by
  refine Okk.fresh fun hF => Okk.chans fun hch _ => ?_
  obtain ⟨v0, c0, R0, k0⟩ := I.threads
  obtain ⟨v5, c5, R5, k5⟩ := I.fell
  refine Okk.begin try_plain hborn.isBody I.b0 I.ro.1 I.ro.2 c0 R0 c5 R5 (by omega) (fun e => by have := k0 _ e; have := I.k1; omega) (fun e => by have := k5 _ e; have := I.k1; omega) ?_
  intro m5 O3 tp tb rb fb cw cd v0' v5' b j R fr Xs mi hj hj0 hΓ hstarts hbb
  obtain ⟨hExt, I1⟩ := I.begun (j := j) hF hlen hB c0 R0 k0 c5 R5 k5 b { c := cw, z := .agg #[], home := fun g => g = R, still := Xs, mine := mi }
  obtain ⟨N1, N2, N3, N4, N5, N6⟩ := b.new
  let td0 : TD Λ := { tp := tp, cw := cw, cd := cd, tb := tb, rb := rb, g := j, seat := { c := cw, z := .agg #[], home := fun g => g = R, still := Xs, mine := mi }, T := .over false }
  let G1 : GSt Λ := { G with tds := G.tds ++ [td0], κ := kbeg G.κ v0' v5' tp tb rb cw cd G.tds.length }
  have hS : SeatI X.E td0.g (upd B G.tds.length (some h)) G1 (upd (upd Γ td0.g (some td0.seat)) h (some (stdSeat td0.cd (goesAt tp cw cd (fr :: c :: cs)) (O3.take j tp) h m5))) :=
    S.begun (td := td0) hB hj (Nat.pos_of_ne_zero hj0) hΓ hE I1.chs rfl rfl (fun k s hk hs => by
      obtain ⟨kk, hkk⟩ := hch k s hk hs
      have := (Array.getElem?_eq_some_iff.1 hkk).1
      exact ⟨by show s.c ≠ cw; omega, by show s.c ≠ cd; omega⟩)
  have hB' : upd (upd B G.tds.length (some h)) G.tds.length none = B := by
    funext k
    by_cases e : k = G.tds.length
    · subst e; rw [upd_same, hB]
    · rw [upd_ne _ _ e, upd_ne _ _ e]
  have hix : G1.tds[G.tds.length]? = some td0 := by simp [G1]
  have hRuns : Runs X G.tds.length td0.g h (stdSeat td0.cd (goesAt tp cw cd (fr :: c :: cs)) (O3.take j tp) h m5) (upd B G.tds.length (some h)) G1 td0 (m5.setChan cw 0 #[] false 1 1 false) (O3.take j tp) (upd (upd Γ td0.g (some td0.seat)) h (some (stdSeat td0.cd (goesAt tp cw cd (fr :: c :: cs)) (O3.take j tp) h m5))) :=
    ⟨I1, hS, hix, rfl, upd_same _ _ _, Ne.symm hj, upd_same _ _ _, rfl, hE, rfl, fun q hq => by cases hq⟩
  -- how the beginner goes on
  have hgo : ∀ (K : GSt Λ → Prop), (∀ G', K G' → ∃ td', (∃ κ', Ext G.κ κ' ∧ G' = { G with s := init G.tds.length G.s, tds := G.tds ++ [td'], κ := κ' }) ∧ Like td' td0 ∧ td'.T = child G.tds.length G.s ∧ Prom X (child G.tds.length G.s) G.tds.length td' G'.κ) →
      Back X h (stdSeat td0.cd (goesAt tp cw cd (fr :: c :: cs)) (O3.take j tp) h m5) (upd (upd B G.tds.length (some h)) G.tds.length none) K := by
    intro K hK Rh hRh G' m' O' Γ' hKG IM SM hk
    obtain rfl : Rh = goesAt tp cw cd (fr :: c :: cs) := hRh
    rw [hB'] at IM SM
    obtain ⟨td', ⟨κ', hκ', rfl⟩, hl, hT, hp⟩ := hK G' hKG
    obtain ⟨l1, l2, l3, l4, l5, l6⟩ := hl
    have ix' : (G.tds ++ [td'])[G.tds.length]? = some td' := by simp
    have D' := IM.td G.tds.length td' ix'
    refine Okk.goesBack (hbb _ _ _ (by have := D'.tbox; rw [l4, l1] at this; exact this) ?_)
    have := hn m' O' Γ' _ td' ⟨κ', hκ', rfl⟩ hT hp IM SM ?_
    · rw [l1] at this; exact this
    · refine ⟨fun x v hx => ?_, fun y n hy => ?_⟩
      · obtain ⟨z1, z2, z3⟩ := mine_some hx
        have hxl := World.block_lt_of_cell? m x z3
        have nopub : ∀ bb, x.block = bb → O.o bb = none → O.pre bb = 0 → False := fun bb e o p => by
          rw [e, o, p] at z2
          rcases z2 with z | z
          · cases z
          · omega
        have rown : ∀ {v : Value} {e sz n xs}, Row O m e sz v n xs → some x.block ≠ v.ownBlock := fun {v e sz n xs} R hv => by
          rcases R.2 with ⟨q, _⟩ | ⟨g, cap, cur, f, q, _, qo, qp, _⟩
          · rw [q] at hv; cases hv
          · rw [q] at hv
            simp only [Value.ownBlock, Option.some.injEq] at hv
            exact nopub g hv qo qp
        refine hk.1 x v (mine_of z1 ?_ (b.u.cell _ _ z3 fun hz => ?_))
        · rcases z2 with z | z
          · left
            simp only [Own.take]
            rw [if_neg (by omega)]
            rcases b.priv x.block hxl with q | q | q
            · rw [q]; exact z
            · exact absurd q.symm (rown R0)
            · exact absurd q.symm (rown R5)
          · right
            show x.off < O3.pre x.block
            rw [b.old x.block hxl]; exact z
        · rcases hz with hz | hz | hz | hz
          · exact nopub X.rp (congrArg Addr.block hz) I.ro.1 I.ro.2
          · exact nopub X.rp (congrArg Addr.block hz) I.ro.1 I.ro.2
          · exact rown R0 hz
          · exact rown R5 hz
      · obtain ⟨z1, z2⟩ := mineB_some hy
        have hyl : y < m.heap.size := by
          apply Classical.byContradiction
          intro hh
          have := (hF y (by omega)).1
          rw [this] at z1; cases z1
        have rown : ∀ {v : Value} {e sz n xs}, Row O m e sz v n xs → v.ownBlock ≠ some y := fun {v e sz n xs} R hv => by
          rcases R.2 with ⟨q, _⟩ | ⟨g, cap, cur, f, q, _, qo, qp, _⟩
          · rw [q] at hv; cases hv
          · rw [q] at hv
            simp only [Value.ownBlock, Option.some.injEq] at hv
            rw [hv, z1] at qo; cases qo
        have ho : (O3.take j tp).o y = some h := by
          simp only [Own.take]
          rw [if_neg (by omega)]
          rcases b.priv y hyl with q | q | q
          · rw [q]; exact z1
          · exact absurd q (rown R0)
          · exact absurd q (rown R5)
        refine hk.2 y n ?_
        have := mineB_of (O := O3.take j tp) ho
        show (O3.take j tp).mineB h y = some n
        rw [this]
        show some (O3.pre y) = _
        rw [b.old y hyl, z2]
  have setT : ∀ td', (G.tds ++ [td0]).set G.tds.length td' = G.tds ++ [td'] := fun td' => by simp
  refine hstarts j _ _ _ _ (hRuns.mem.td _ _ hix).tbox ?_ ?_ ?_ hborn.isBody
  · refine (Upto.pass b.wake).cell _ _ b.f fun e => ?_
    obtain ⟨c', t, f, hh, _⟩ := cells_of_cell b.f
    simp only at e hh
    rw [e, b.wake] at hh; cases hh
  · intro hnil tm todo
    refine hRuns.done (hgo _ fun G' hG' => ?_) tm todo
    obtain ⟨sc', κ, e1, e2, _⟩ := hG'
    have hch : ∀ n s, init n s = s ∧ child n s = .over false := by
      rcases hborn with ⟨_, h2⟩ | ⟨f, fn, c, caps, h1, _⟩
      · exact h2
      · rw [hnil] at h1; cases h1
    obtain ⟨q1, q2⟩ := hch G.tds.length G.s
    refine ⟨{ td0 with seat := sc', T := .over false }, ⟨κ, hExt.trans e1, ?_⟩, ⟨rfl, rfl, rfl, rfl, rfl, rfl⟩, q2.symm, by rw [q2]; trivial⟩
    rw [e2, q1]
    simp only [GSt.to, GSt.put, G1, setT]
  · intro f fn cd' caps hfv hf hname hbody cf h108
    rcases hborn with ⟨h1, _⟩ | ⟨f', fn', c', caps', h1, h2, h3, h4, h5⟩
    · rw [hfv] at h1; cases h1
    · rw [hfv] at h1
      cases h1
      refine h5 G.tds.length cf td0 (ends_of h108) _ _ _ G1 h _ _ hRuns hst hcap (hgo _ fun G' hG' => ?_)
      obtain ⟨sc', κ, e1, e2, e3⟩ := hG'
      refine ⟨{ td0 with seat := sc', T := child G.tds.length G.s }, ⟨κ, hExt.trans e1, ?_⟩, ⟨rfl, rfl, rfl, rfl, rfl, rfl⟩, rfl, by rw [e2]; exact e3⟩
      rw [e2]
      simp only [GSt.to, GSt.put, G1, setT]
end
end Go.Proofs.Ytkbfbphbdljaaaa

/- A run as plain data: what turns do to it. Every premise stands in the statements. -/
set_option linter.unusedVariables false
set_option linter.unusedSimpArgs false
namespace Go.Proofs.Ytkbfbphbdljaaaa
open Go.Tre Go.RowKit
open Go.ConcN (upd upd_ne upd_same)
variable {Λ : Type}
/-- A run's data. -/
structure AS (Λ : Type) where
  s : Sh Λ
  ths : List (Th Λ)
  went : List Int
  ready : List Int
/-- Is it ready? -/
def Th.can (T : Th Λ) (s : Sh Λ) : Bool := match T with
  | .over _ => false
  | .acc op v arg _ _ _ _ => (op != 6) || ((s.vals v).getD 0 != arg)
  | .go .. => true
def AS.rdy (A : AS Λ) (i : Nat) : Bool := match A.ths[i]? with
  | some T => T.can A.s
  | none => false
def AS.ended (A : AS Λ) (i : Nat) : Bool := match A.ths[i]? with
  | some T => T.isOver
  | none => true
def AS.able (A : AS Λ) : List Nat := (List.range A.ths.length).filter A.rdy
def AS.isOver (A : AS Λ) : Bool := (List.range A.ths.length).all A.ended
/-- Thread i's turn. -/
def AS.turn (A : AS Λ) (i : Nat) : AS Λ := match A.ths[i]? with
  | some (.acc op v arg new seg next _) => { A with s := seg (A.s.ans op v arg new) (A.s.acc i op v arg new), ths := A.ths.set i (next (A.s.ans op v arg new) (A.s.acc i op v arg new)) }
  | some (.go init child seg next _) =>
    if A.ths.length = 64 then { A with s := seg (-1) (A.s.logs ⟨i, 7, -1, 0, 0, 0, -1, false⟩), ths := A.ths.set i (next (-1) (A.s.logs ⟨i, 7, -1, 0, 0, 0, -1, false⟩)) }
    else
      let s₁ := A.s.logs ⟨i, 7, -1, 0, 0, 0, A.ths.length, false⟩
      { A with s := seg A.ths.length (init A.ths.length s₁), ths := (A.ths ++ [child A.ths.length s₁]).set i (next A.ths.length (init A.ths.length s₁)) }
  | _ => A
theorem AS.turn_went (A : AS Λ) (i : Nat) : (A.turn i).went = A.went := by
  unfold AS.turn
  split
  · rfl
  · split <;> rfl
  · rfl
theorem AS.turn_ready (A : AS Λ) (i : Nat) : (A.turn i).ready = A.ready := by
  unfold AS.turn
  split
  · rfl
  · split <;> rfl
  · rfl
/-- A thread is begun. -/
def AS.begin (A : AS Λ) (init : Nat → Sh Λ → Sh Λ) (child : Nat → Sh Λ → Th Λ) : AS Λ := { A with s := init A.ths.length A.s, ths := A.ths ++ [child A.ths.length A.s] }
def GSt.abs (G : GSt Λ) : AS Λ := ⟨G.s, G.tds.map (·.T), G.went, G.ready⟩
/-- One is picked: who, out of how many. -/
def AS.pick (A : AS Λ) (k n : Nat) : AS Λ := { A with went := A.went ++ [(k : Int)], ready := A.ready ++ [(n : Int)] }
/-- The run's loop: how it ends (1 over, 3 dead, 2 cut; 0: the schedule has none). -/
def AS.run (sched : AS Λ → Option Nat) (most : Nat) : Nat → AS Λ → AS Λ × Int × Bool
  | fuel, A => if A.isOver then (A, 1, true) else if A.able = [] then (A, 3, true) else if A.went.length = most then (A, 2, true) else
    match fuel with
    | 0 => (A, 0, false)
    | fuel + 1 => match sched A with
      | none => (A, 0, false)
      | some k => AS.run sched most fuel ((A.pick k A.able.length).turn k)

section
variable [Base]
/-- What is promised of all. -/
def Proms (X : Rn Λ) (G : GSt Λ) : Prop := ∀ i td, G.tds[i]? = some td → Prom X td.T i td G.κ
theorem Proms.begun {X : Rn Λ} {G : GSt Λ} {s' : Sh Λ} {td' : TD Λ} {κ' : Nat → Nat} (h : Proms X G) (hE : Ext G.κ κ') (hp : Prom X td'.T G.tds.length td' κ') : Proms X { G with s := s', tds := G.tds ++ [td'], κ := κ' } := fun i td hi => by
  rcases Nat.lt_trichotomy i G.tds.length with e | e | e
  · have hi' : G.tds[i]? = some td := by rw [List.getElem?_append_left e] at hi; exact hi
    exact (h i td hi').mono hE
  · subst e; simp at hi; subst hi; exact hp
  · simp only [] at hi; rw [List.getElem?_eq_none (by simp; omega)] at hi; cases hi
omit [Base] in
theorem map_setT (l : List (TD Λ)) (i : Nat) (x : TD Λ) : (l.set i x).map (·.T) = (l.map (·.T)).set i x.T := by
  apply List.ext_getElem?
  intro j
  simp only [List.getElem?_map, List.getElem?_set, List.length_map]
  split
  · split <;> simp
  · rfl
/-- A turn, as plain data. -/
theorem Led.abs {X : Rn Λ} {i : Nat} {td : TD Λ} {G G' : GSt Λ} (h : Led X i td G td.T G') (hi : G.tds[i]? = some td) (hst : G.st = false) (hp : Proms X G) :
    G'.abs = G.abs.turn i ∧ Proms X G' ∧ Ext G.κ G'.κ ∧ G'.st = false ∧ G'.cap = G.cap := by
  have hlen := (List.getElem?_eq_some_iff.1 hi).1
  have hai : G.abs.ths[i]? = some td.T := by simp [GSt.abs, hi]
  have prom : ∀ {T : Th Λ} {s : Sh Λ} {sc : Seat} {κ : Nat → Nat} (hE : Ext G.κ κ), Prom X T i { td with seat := sc, T := T } κ → Proms X (G.to i { td with seat := sc, T := T } s κ) := fun {T s sc κ} hE hP j td' hj => by
    rcases set_get hi hj with ⟨rfl, rfl⟩ | ⟨_, h'⟩
    · exact hP
    · exact (hp j td' h').mono hE
  cases hT : td.T with
  | over f => rw [hT] at h; exact h.elim
  | acc op v arg new seg next stop =>
    rw [hT] at h hai
    simp only [Led, hst, Bool.false_eq_true, if_false] at h
    obtain ⟨sc, κ, e1, rfl, e3⟩ := h
    refine ⟨?_, prom e1 e3, e1, hst, rfl⟩
    simp only [AS.turn, hai]
    simp only [GSt.abs, GSt.to, GSt.put, map_setT]
  | go init child seg next stop =>
    rw [hT] at h hai
    have hl : G.abs.ths.length = G.tds.length := by simp [GSt.abs]
    simp only [Led, hst, Bool.false_eq_true, if_false] at h
    by_cases h64 : G.tds.length = 64
    · rw [if_pos h64] at h
      obtain ⟨sc, κ, e1, rfl, e3⟩ := h
      refine ⟨?_, prom e1 e3, e1, hst, rfl⟩
      simp only [AS.turn, hai, hl, h64, if_true]
      simp only [GSt.abs, GSt.to, GSt.put, map_setT]
    · rw [if_neg h64] at h
      obtain ⟨td', hc, hpc, sc, κ, e1, rfl, e3⟩ := h
      refine ⟨?_, fun j td₂ hj => ?_, e1, rfl, rfl⟩
      · simp only [AS.turn, hai, hl, h64, if_false]
        simp only [GSt.abs, GSt.to, GSt.put, map_setT, List.map_append, List.map_cons, List.map_nil, hc]
      · have hi' : (G.tds ++ [td'])[i]? = some td := by rw [List.getElem?_append_left hlen]; exact hi
        rcases set_get hi' hj with ⟨rfl, rfl⟩ | ⟨_, h'⟩
        · exact e3
        · rcases Nat.lt_trichotomy j G.tds.length with e | e | e
          · rw [List.getElem?_append_left e] at h'
            exact (hp j td₂ h').mono e1
          · subst e; simp at h'; subst h'; rw [hc]; exact hpc
          · rw [List.getElem?_eq_none (by simp; omega)] at h'; cases h'
end
end Go.Proofs.Ytkbfbphbdljaaaa
