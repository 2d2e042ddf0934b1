/- Texts of one proof, joined: each says what it proves. Every premise stands in the statements. -/
import Derived.Test.YtkbfbphbdljaaaaA29
import Derived.BigRegion
/- gate's report: the lone part behind ends. Every premise stands in the statements. -/
set_option linter.unusedVariables false
set_option linter.unusedSimpArgs false
namespace Go.Proofs.Ytkbfbphbdljaaaa
open Go.Tre Go.RowKit
open Go.Conc (G base baseD crowd rcase scase)
open Go.ConcN (upd upd_ne upd_same)
variable {Λ : Type}
noncomputable def rest46 : Code := match Try.f46.body with | some (.seq _ (.seq _ c)) => c | _ => .skip
noncomputable def c46_1 : Code := match Try.f46.body with | some (.seq _ (.seq _ (.seq _ (.seq c _)))) => c | _ => .skip
noncomputable def last46 : Code := match Try.f46.body with | some (.seq _ (.seq _ (.seq _ (.seq _ c)))) => c | _ => .skip
/-- Who fell. -/
def FL (fl : Nat → Bool) (k : Nat) : List Nat := (List.range k).filter fl
def FV (fl : Nat → Bool) (k : Nat) : List Value := (FL fl k).map fun j : Nat => .int .i64 (j : Int)
theorem FL_yes {fl : Nat → Bool} {k : Nat} (h : fl k = true) : FL fl (k + 1) = FL fl k ++ [k] := by simp [FL, List.range_succ, List.filter_append, h]
theorem FL_no {fl : Nat → Bool} {k : Nat} (h : fl k = false) : FL fl (k + 1) = FL fl k := by simp [FL, List.range_succ, List.filter_append, h]
theorem FL_le (fl : Nat → Bool) (k : Nat) : (FL fl k).length ≤ k := by have := List.length_filter_le fl (List.range k); simpa [FL] using this
theorem frozen_drew {w : World} {a : Addr} {b : Bool} (h : w.frozen? a = b) : w.drew.frozen? a = b := h
structure E46 (w : World) (rp rb nw : Nat) (v2 v3 v4 : Value) (s3 : Option Addr) (c3 : Nat) : Prop where
  bl : rb < w.heap.size
  ne : rb ≠ rp
  r2 : w.cell? ⟨rp, 2, none⟩ = some v2
  r3 : w.cell? ⟨rp, 3, none⟩ = some v3
  r4 : w.cell? ⟨rp, 4, none⟩ = some v4
  e3 : v3 = .slice s3 nw c3
  rk : (∃ u, w.cell? ⟨rb, 0, none⟩ = some u) ∧ (∃ u, w.cell? ⟨rb, 1, none⟩ = some u) ∧ (∃ u, w.cell? ⟨rb, 2, none⟩ = some u) ∧ (∃ u, w.cell? ⟨rb, 3, none⟩ = some u) ∧ (∃ u, w.cell? ⟨rb, 4, none⟩ = some u) ∧ (∃ u, w.cell? ⟨rb, 5, none⟩ = some u) ∧ (∃ u, w.cell? ⟨rb, 6, none⟩ = some u) ∧ w.frozen? ⟨rb, 0, none⟩ = false ∧ w.frozen? ⟨rb, 1, none⟩ = false ∧ w.frozen? ⟨rb, 2, none⟩ = false ∧ w.frozen? ⟨rb, 3, none⟩ = false ∧ w.frozen? ⟨rb, 4, none⟩ = false ∧ w.frozen? ⟨rb, 5, none⟩ = false ∧ w.frozen? ⟨rb, 6, none⟩ = false
set_option maxRecDepth 100000 in
set_option maxHeartbeats 4000000 in
theorem last46_wp (R : Go.Ending → World → Prop) (w : World) (rp rb nw : Nat) (e : Int) (lv fv v2 v3 v4 : Value) (s3 : Option Addr) (c3 : Nat) (y7 y8 y11 y12 y13 y14 y15 y16 y17 y18 y19 y20 y21 y22 y23 y24 y25 y26 : Value) (E : E46 w rp rb nw v2 v3 v4 s3 c3) (s2 s4 sl sf : Option Addr) (n2 c2 n4 c4 nl cl nf cf : Nat) (h2 : v2 = .slice s2 n2 c2) (h4 : v4 = .slice s4 n4 c4) (hl : lv = .slice sl nl cl) (hf : fv = .slice sf nf cf)
    (hR : ∀ w', Upto (fun a => a.block = rb) w w' → (∀ b, b ≠ rb → w'.heap[b]? = w.heap[b]?) → R (.returned (.agg #[.int .i8 e, .int .i64 (nw : Int), v2, v3, v4, lv, fv])) w') :
    last46.wp Try.prog (bodyPost Try.prog Try.f46 R) ⟨#[.pointer (some ⟨rp, 0, none⟩), .int .i8 e, undef, undef, .pointer (some ⟨rb, 0, none⟩), lv, fv, y7, y8, .pointer (some ⟨rp, 0, none⟩), lv, y11, y12, y13, y14, y15, y16, y17, y18, y19, y20, y21, y22, y23, y24, y25, y26, undef, undef, undef, undef, undef, undef, undef, undef, undef, undef, undef, undef, undef, undef, undef, undef, undef, undef, undef, undef, undef], []⟩ w := by
  obtain ⟨bl, ne, r2, r3, r4, rfl, ⟨u0, q0⟩, ⟨u1, q1⟩, ⟨u2, q2⟩, ⟨u3, q3⟩, ⟨u4, q4⟩, ⟨u5, q5⟩, ⟨u6, q6⟩, f0, f1, f2, f3, f4, f5, f6⟩ := E
  subst h2 h4 hl hf
  simp only [last46, Try.f46]
  go_wp2
  go_region
  all_goals
    rename_i hK
    refine hK _ _ ?_
    clear hK
    go_wp2
    (try simp only [Exit.inBlock, Exit.then])
    refine bodyPost_ret (v := .agg #[.int .i8 e, .int .i64 (nw : Int), .slice s2 n2 c2, .slice s3 nw c3, .slice s4 n4 c4, .slice sl nl cl, .slice sf nf cf]) ?_ rfl (hR _ ?_ ?_)
    · simp [results, go_sem, q0, q1, q2, q3, q4, q5, q6]
    · exact Upto.drew (Upto.set (Upto.set (Upto.set (Upto.set (Upto.set (Upto.set (Upto.set Upto.refl rfl) rfl) rfl) rfl) rfl) rfl) rfl)
    · intro b hb
      simp only [get_d]
      rw [RowKit.Below.heap_setCell _ _ _ _ hb, RowKit.Below.heap_setCell _ _ _ _ hb, RowKit.Below.heap_setCell _ _ _ _ hb, RowKit.Below.heap_setCell _ _ _ _ hb, RowKit.Below.heap_setCell _ _ _ _ hb, RowKit.Below.heap_setCell _ _ _ _ hb, RowKit.Below.heap_setCell _ _ _ _ hb]
end Go.Proofs.Ytkbfbphbdljaaaa

/- gate's report: its loop. Every premise stands in the statements. -/
set_option linter.unusedVariables false
set_option linter.unusedSimpArgs false
namespace Go.Proofs.Ytkbfbphbdljaaaa
open Go.Tre Go.RowKit
set_option maxRecDepth 100000 in
set_option maxHeartbeats 4000000 in
theorem c46_1_wp (Q : Act → World → Prop) (w : World) (rp rb fb n cap : Nat) (e : Int) (lv : Value) (fl : Nat → Bool) (hn : n ≤ 64)
    (flt : fb < w.heap.size) (r5 : w.cell? ⟨rp, 5, none⟩ = some (.slice (some ⟨fb, 0, none⟩) n cap)) (hf : ∀ j, j < n → w.cell? ⟨fb, j, none⟩ = some (.bool (fl j)))
    (hQ : ∀ fv y7 y8 y11 y12 y13 y14 y15 y16 y17 y18 y19 y20 y21 y22 y23 y24 y25 y26 w', w'.ownsRow w.heap.size 3 1 fv (FL fl n).length (FV fl n) → Below w.heap.size w w' → Q ⟨#[.pointer (some ⟨rp, 0, none⟩), .int .i8 e, undef, undef, .pointer (some ⟨rb, 0, none⟩), lv, fv, y7, y8, .pointer (some ⟨rp, 0, none⟩), lv, y11, y12, y13, y14, y15, y16, y17, y18, y19, y20, y21, y22, y23, y24, y25, y26, undef, undef, undef, undef, undef, undef, undef, undef, undef, undef, undef, undef, undef, undef, undef, undef, undef, undef, undef, undef, undef], []⟩ w') :
    c46_1.wp Try.prog (fun e a w => match e with | .normal => Q a w | _ => False) ⟨#[.pointer (some ⟨rp, 0, none⟩), .int .i8 e, undef, undef, .pointer (some ⟨rb, 0, none⟩), lv, .slice none 0 0, undef, undef, .pointer (some ⟨rp, 0, none⟩), lv, undef, undef, undef, undef, undef, undef, undef, undef, undef, undef, undef, undef, undef, undef, undef, undef, undef, undef, undef, undef, undef, undef, undef, undef, undef, undef, undef, undef, undef, undef, undef, undef, undef, undef, undef, undef, undef], []⟩ w := by
  obtain ⟨i3, hi3, z3, sz3, b3⟩ := info3
  simp only [c46_1, Try.f46]
  go_wp2
  clear r5
  go_loopw [6, 16] (fun v i wr => ∃ k : Nat, k ≤ n ∧ i = .int .i64 k ∧ wr.ownsRow w.heap.size 3 1 v (FL fl k).length (FV fl k) ∧ Below w.heap.size w wr) (fun _ i _ => n - (intOf i).toNat)
  case atStart => exact ⟨0, Nat.zero_le _, rfl, World.ownsRow_nil _ _ _ _, Below.refl _ _⟩
  case round =>
    obtain ⟨k, hk, rfl, hown, hbel⟩ := hrel
    have hl64 := FL_le fl k
    have hsz := hbel.size
    by_cases hlt : k < n
    · have c1 : _ := (below_cells hbel fb k flt).trans (hf k hlt)
      clear hf
      cases hr : fl k with
      | true =>
        have hR1 := Lib.hid (FL_yes hr)
        rw [hr] at c1
        clear hr
        go_wp2_with (first | (at_builtin; refine wpList_append_own _ rfl (.tmp 22) (.tmp 24) 37 rfl w.heap.size 3 i3 (.int .i64 0) 1 8 Try.underlying37 hi3 z3 sz3 b3 rfl (by decide) _ _ _ rfl (World.ownsRow.alloc hown _) ⟨wr.heap.size, 0, none⟩ 1 1 [.int .i64 (k : Int)] rfl rfl (one_cell wr _ 3) (by simp [Value.oneCell']) (by simp only [maxLen]; omega) (by omega) (by rw [size_a]; omega) ?_))
        intro v' w1 r1 r2 _
        have hb1 : RowKit.Below w.heap.size w w1 := (hbel.alloc (B := w.heap.size) hsz _).grown r2 (by rw [size_a]; exact Nat.le_succ_of_le hsz) (fun j hj => (hown.lt j hj).1)
        clear r2
        try go_wp2
        go_roundw
        case rel => exact ⟨k + 1, by omega, by go_num, by rw [FV, hR1.out]; simpa [FV] using r1, hb1⟩
        case measure => simp [intOf]; omega
      | false =>
        have hR1 := Lib.hid (FL_no hr)
        rw [hr] at c1
        clear hr
        go_wp2
        go_roundw
        case rel => exact ⟨k + 1, by omega, by go_num, by rw [FV, hR1.out]; exact hown, hbel⟩
        case measure => simp [intOf]; omega
    · obtain rfl : k = n := by omega
      clear hf
      go_wp2
      exact hQ _ _ _ _ _ _ _ _ _ _ _ _ _ _ _ _ _ _ _ _ hown hbel
end Go.Proofs.Ytkbfbphbdljaaaa

/- gate's report, whole. Every premise stands in the statements. -/
set_option linter.unusedVariables false
set_option linter.unusedSimpArgs false
namespace Go.Proofs.Ytkbfbphbdljaaaa
open Go.Tre Go.RowKit
open Go.Conc (G base baseD crowd rcase scase)
open Go.ConcN (upd upd_ne upd_same)
variable {Λ : Type}
noncomputable def c46_0 : Code := match Try.f46.body with | some (.seq c _) => c | _ => .skip
set_option maxRecDepth 100000 in
set_option maxHeartbeats 4000000 in
theorem c46_0_wp (Q : Act → World → Prop) (w : World) (v0 v1 : Value) (hQ : ∀ Z : Array Value, Z.size = 7 → Q ⟨#[v0, v1, undef, undef, .pointer (some ⟨w.heap.size, 0, none⟩), undef, undef, undef, undef, undef, undef, undef, undef, undef, undef, undef, undef, undef, undef, undef, undef, undef, undef, undef, undef, undef, undef, undef, undef, undef, undef, undef, undef, undef, undef, undef, undef, undef, undef, undef, undef, undef, undef, undef, undef, undef, undef, undef], []⟩ (w.alloc (.cells Z 39))) :
    c46_0.wp Try.prog (fun e a w => match e with | .normal => Q a w | _ => False) ⟨#[v0, v1, undef, undef, undef, undef, undef, undef, undef, undef, undef, undef, undef, undef, undef, undef, undef, undef, undef, undef, undef, undef, undef, undef, undef, undef, undef, undef, undef, undef, undef, undef, undef, undef, undef, undef, undef, undef, undef, undef, undef, undef, undef, undef, undef, undef, undef, undef], []⟩ w := by
  have H := Lib.hid hQ
  clear hQ
  simp only [c46_0, Try.f46]
  go_wp2
  exact H.out _ rfl
set_option maxRecDepth 100000 in
set_option maxHeartbeats 4000000 in
theorem c46_1_nil (Q : Act → World → Prop) (w : World) (rp rb : Nat) (e : Int) (lv : Value) (r5 : w.cell? ⟨rp, 5, none⟩ = some (.slice none 0 0))
    (hQ : ∀ y7 y8 y11 y12 y13 y14 y15 y16 y17 y18 y19 y20 y21 y22 y23 y24 y25 y26, Q ⟨#[.pointer (some ⟨rp, 0, none⟩), .int .i8 e, undef, undef, .pointer (some ⟨rb, 0, none⟩), lv, .slice none 0 0, y7, y8, .pointer (some ⟨rp, 0, none⟩), lv, y11, y12, y13, y14, y15, y16, y17, y18, y19, y20, y21, y22, y23, y24, y25, y26, undef, undef, undef, undef, undef, undef, undef, undef, undef, undef, undef, undef, undef, undef, undef, undef, undef, undef, undef, undef, undef], []⟩ w) :
    c46_1.wp Try.prog (fun e a w => match e with | .normal => Q a w | _ => False) ⟨#[.pointer (some ⟨rp, 0, none⟩), .int .i8 e, undef, undef, .pointer (some ⟨rb, 0, none⟩), lv, .slice none 0 0, undef, undef, .pointer (some ⟨rp, 0, none⟩), lv, undef, undef, undef, undef, undef, undef, undef, undef, undef, undef, undef, undef, undef, undef, undef, undef, undef, undef, undef, undef, undef, undef, undef, undef, undef, undef, undef, undef, undef, undef, undef, undef, undef, undef, undef, undef, undef], []⟩ w := by
  simp only [c46_1, Try.f46]
  go_wp2
  refine wp_loop_rounds 1 ?_
  rw [rounds_succ]
  go_wp2
  exact hQ _ _ _ _ _ _ _ _ _ _ _ _ _ _ _ _ _ _
section
variable [Base]
/-- Writes to what is private to one. -/
theorem MemI.priv {L : Lw Λ} {rp mb : Nat} {B : Nat → Option Nat} {G : GSt Λ} {m m' : World} {O : Own} {rb : Nat} (I : MemI L rp mb B G m O) (hu : Upto (fun a => a.block = rb) m m') (hk : 500 ≤ G.κ rb) : MemI L rp mb B G m' O :=
  I.law' (l' := G.s.lam) hu (fun a h => .inr (by rw [h]; exact hk)) (fun _ _ _ => ⟨rfl, rfl⟩) (fun _ _ _ => ⟨rfl, rfl⟩) (I.lawStays hu (fun a h => .inl (by rw [h]; omega)) (fun _ _ => ⟨rfl, rfl⟩)) I.kl I.good
/-- Who fell. -/
def AS.falls (A : AS Λ) (i : Nat) : Bool := match A.ths[i]? with
  | some T => T.fell
  | none => false
end
end Go.Proofs.Ytkbfbphbdljaaaa

/- gate's report, whole. Every premise stands in the statements. -/
set_option linter.unusedVariables false
set_option linter.unusedSimpArgs false
namespace Go.Proofs.Ytkbfbphbdljaaaa
open Go.Tre Go.RowKit
open Go.Conc (G base baseD crowd rcase scase)
open Go.ConcN (upd upd_ne upd_same)
variable {Λ : Type}
section
variable [Base]
set_option maxRecDepth 100000 in
set_option maxHeartbeats 4000000 in
/-- ████ report ████ -/
theorem Okk.reportI {X : Rn Λ} {h : Nat} {KP : Addr → Option Value} {c : Frame} {cs : List Frame} {m : World} {O : Own} {Γ : Nat → Option Seat} {G : GSt Λ} (e : Int) (hc : Callable c) (hE : X.E h = none)
    (I : MemI X.L X.rp X.mb (fun _ => none) G m O) (S : SeatI X.E h (fun _ => none) G Γ) (hprom : Proms X G) (hKP : Holds KP h m O)
    (hn : ∀ (m' : World) (O' : Own) (Γ' : Nat → Option Seat) (G' : GSt Λ) (v2 v3 v4 lv fv : Value), MemI X.L X.rp X.mb (fun _ => none) G' m' O' → SeatI X.E h (fun _ => none) G' Γ' → Holds KP h m' O' → G'.abs = G.abs.stopFrom 0 G.tds.length → Ext G.κ G'.κ →
        Row O' m' 61 8 v2 G'.s.log.length (G'.s.log.flatMap fun a => a.vals.toList) → Row O' m' 3 1 v3 G'.went.length (G'.went.map (Value.int .i64)) → Row O' m' 3 1 v4 G'.ready.length (G'.ready.map (Value.int .i64)) →
        Got O' h m' 8 lv G.abs.left.length (G.abs.left.flatMap fun a => a.vals.toList) → Got O' h m' 1 fv (FL G'.abs.falls G'.tds.length).length (FV G'.abs.falls G'.tds.length) → (∀ g, lv.ownBlock = some g → m.heap.size ≤ g) → (∀ g, fv.ownBlock = some g → m.heap.size ≤ g) →
        Okk Try.prog X.Φ h (Go.Conc.G (c.finish (.agg #[.int .i8 e, .int .i64 (G'.went.length : Int), v2, v3, v4, lv, fv])) cs) m' O' Γ') :
    Okk Try.prog X.Φ h (Go.Conc.G (Frame.enter Try.prog 46 #[.pointer (some ⟨X.rp, 0, none⟩), .int .i8 e] .normal) (c :: cs)) m O Γ := by
  have hP := try_plain2
  rw [Go.Conc.enter_at _ Try.func46 rfl]
  simp only [Try.ntmps46]
  refine Okk.fresh fun hF => ?_
  have hb0 : Base.b0 ≤ m.heap.size := by have := I.b0; have := I.rlt; omega
  refine .ctl0 rfl (fun _ => Go.Conc.stepG_seq) ?_
  walk_nrm
  refine .code hP (c := c46_0) (by simp [c46_0, Try.f46, okCode, okOp, plS, plS2, plE]) (Q := fun t w' => ∃ Z : Array Value, Z.size = 7 ∧ w'.heap[m.heap.size]? = some (.cells Z 39) ∧ Upto (fun _ => False) m w' ∧ t = #[.pointer (some ⟨X.rp, 0, none⟩), .int .i8 e, undef, undef, .pointer (some ⟨m.heap.size, 0, none⟩), undef, undef, undef, undef, undef, undef, undef, undef, undef, undef, undef, undef, undef, undef, undef, undef, undef, undef, undef, undef, undef, undef, undef, undef, undef, undef, undef, undef, undef, undef, undef, undef, undef, undef, undef, undef, undef, undef, undef, undef, undef, undef, undef]) (fun τ => ?_) ?_
  · have hsz : (re (O.gh h m) τ 0).heap.size = m.heap.size := gh_size
    refine wp_mono (c46_0_wp (fun a w' => a.defers = [] ∧ ∃ Z : Array Value, Z.size = 7 ∧ w'.heap[m.heap.size]? = some (.cells Z 39) ∧ Upto (fun _ => False) m w' ∧ a.tmps = #[.pointer (some ⟨X.rp, 0, none⟩), .int .i8 e, undef, undef, .pointer (some ⟨m.heap.size, 0, none⟩), undef, undef, undef, undef, undef, undef, undef, undef, undef, undef, undef, undef, undef, undef, undef, undef, undef, undef, undef, undef, undef, undef, undef, undef, undef, undef, undef, undef, undef, undef, undef, undef, undef, undef, undef, undef, undef, undef, undef, undef, undef, undef, undef]) (re (O.gh h m) τ 0) _ _ fun Z hZ => ⟨rfl, Z, hZ, by rw [get_a, hsz, if_pos rfl], (Upto.gh (O := O) (h := h)).trans ((Upto.of_heap (m := O.gh h m) (m' := re (O.gh h m) τ 0) rfl).trans .alloc), by rw [hsz]⟩) (fun e a w' hq => by
      cases e with
      | normal => exact ⟨rfl, hq.1, hq.2⟩
      | _ => exact hq.elim)
  rintro _ m1 ⟨Z, hZ, hrb, hu1, rfl⟩ _
  have hlt1 : m.heap.size < m1.heap.size := (Array.getElem?_eq_some_iff.1 hrb).1
  have hg0 := hF m.heap.size (Nat.le_refl _)
  have I1 := I.take (h := h) hu1 (Nat.le_refl _) hlt1 500
  have E1 : Ext G.κ (fun x => if x = m.heap.size then 500 else G.κ x) := fun x hx => by
    show (if _ then _ else _) = _
    rw [if_neg (fun e => by subst e; have := I.klt _ hx; omega)]
  refine Okk.own (O' := O.take h m.heap.size) (Own.le.take (.inl hg0.1)) (fun hf => (Fresh.take (m := m1) (fun b hb => hF b (by have := hu1.size; omega)) hlt1)) ?_
  have hK1 : Holds KP h m1 (O.take h m.heap.size) := hKP.take hu1
  have hrm : ∀ j u, Z[j]? = some u → (O.take h m.heap.size).mine0 h m1 ⟨m.heap.size, j, none⟩ = some u := fun j u hj => by
    have e1 : (O.take h m.heap.size).o m.heap.size = some h := by simp [Own.take]
    have e2 : (O.take h m.heap.size).pre m.heap.size = 0 := hg0.2
    unfold Own.mine0
    rw [if_pos ⟨e1, e2⟩]
    exact mine_of hb0 (.inl e1) (by simp only [World.cell?, hrb]; exact hj)
  have hk1 : (fun x => if x = m.heap.size then 500 else G.κ x) m.heap.size = 500 := if_pos rfl
  have habs1 : GSt.abs { G with κ := fun x => if x = m.heap.size then 500 else G.κ x } = G.abs := rfl
  clear hrb
  generalize hO1 : O.take h m.heap.size = O1 at *
  generalize hG1 : ({ G with κ := fun x => if x = m.heap.size then 500 else G.κ x } : GSt Λ) = G1 at *
  have ek : G1.κ = fun x => if x = m.heap.size then 500 else G.κ x := by subst hG1; rfl
  have et : G1.tds = G.tds := by subst hG1; rfl
  rw [← ek] at E1 hk1
  have hrp1 : Proms X G1 := fun i td hi => (hprom i td (by rw [← et]; exact hi)).mono E1
  generalize hrbn : m.heap.size = rb at *
  simp only [Try.f46]
  refine .ctl0 rfl (fun _ => Go.Conc.stepG_seq) (.ctl0 rfl (fun _ => Go.Conc.stepG_region) ?_)
  refine .val hP rfl rfl rfl (.pointer (some ⟨X.rp, 0, none⟩)) (fun τ => by simp [go_sem]) ?_
  walk_nrm
  refine .enter (f := 78) (args := #[.pointer (some ⟨X.rp, 0, none⟩)]) rfl rfl (fun w => ?_) (fun w => ?_) ?_
  · have := (callFunc_enter Try.func78 (by kernel_rfl) rfl #[.pointer (some ⟨X.rp, 0, none⟩)] w).1
    simp [go_sem, this]
  · have := (callFunc_enter Try.func78 (by kernel_rfl) rfl #[.pointer (some ⟨X.rp, 0, none⟩)] w).2
    simp [go_sem, this]
  refine Okk.endsI hE I1 (S.as et) hrp1 Holds.mine0 fun m2 O2 Γ2 G2 lv I2 S2 hH2 hst2 ha2 hgot2 => ?_
  rw [habs1, et] at ha2
  rw [habs1] at hgot2
  have hK2 := hK1.from0 hH2
  have hrb2 : ∀ j u, Z[j]? = some u → O2.mine h m2 ⟨rb, j, none⟩ = some u ∧ O2.o rb = some h ∧ O2.pre rb = 0 := fun j u hj => hH2 _ u (hrm j u hj)
  have hk2 : G2.κ rb = 500 := (ha2.2 rb (by rw [hk1]; decide)).trans hk1
  clear hrm hH2
  -- the end
  have fin : ∀ (m3 : World) (O3 : Own) (G3 : GSt Λ) (fv : Value) y7 y8 y11 y12 y13 y14 y15 y16 y17 y18 y19 y20 y21 y22 y23 y24 y25 y26, MemI X.L X.rp X.mb (fun _ => none) G3 m3 O3 → SeatI X.E h (fun _ => none) G3 Γ2 → Holds KP h m3 O3 → (∀ j u, Z[j]? = some u → O3.mine h m3 ⟨rb, j, none⟩ = some u ∧ O3.o rb = some h ∧ O3.pre rb = 0) → G3.abs = G2.abs → Ext G2.κ G3.κ → G3.tds.length = G2.tds.length →
      Got O3 h m3 8 lv G.abs.left.length (G.abs.left.flatMap fun a => a.vals.toList) → Got O3 h m3 1 fv (FL G2.abs.falls G2.tds.length).length (FV G2.abs.falls G2.tds.length) → (∀ g, fv.ownBlock = some g → rb < g) →
      Okk Try.prog X.Φ h (Go.Conc.G ((base 46).at ⟨#[.pointer (some ⟨X.rp, 0, none⟩), .int .i8 e, undef, undef, .pointer (some ⟨rb, 0, none⟩), lv, fv, y7, y8, .pointer (some ⟨X.rp, 0, none⟩), lv, y11, y12, y13, y14, y15, y16, y17, y18, y19, y20, y21, y22, y23, y24, y25, y26, undef, undef, undef, undef, undef, undef, undef, undef, undef, undef, undef, undef, undef, undef, undef, undef, undef, undef, undef, undef, undef], []⟩ [.code last46]) (c :: cs)) m3 O3 Γ2 := by
    intro m3 O3 G3 fv y7 y8 y11 y12 y13 y14 y15 y16 y17 y18 y19 y20 y21 y22 y23 y24 y25 y26 I3 S3 hK3 hrb3 ha3 hE3 ht3 hgl hgf hfl
    have hk3 : G3.κ rb = 500 := (hE3 rb (by rw [hk2]; decide)).trans hk2
    have ne : rb ≠ X.rp := fun z => by have := I3.k1; rw [← z, hk3] at this; cases this
    obtain ⟨v2, hv2, hR2, _⟩ := id I3.log
    obtain ⟨v3, hv3, hR3, _⟩ := id I3.went
    obtain ⟨v4, hv4, hR4, _⟩ := id I3.ready
    obtain ⟨s2, c2, e2⟩ := Row.shape hR2
    obtain ⟨s3, c3, e3⟩ := Row.shape hR3
    obtain ⟨s4, c4, e4⟩ := Row.shape hR4
    obtain ⟨sl, nl, cl, el⟩ : ∃ a l c, lv = .slice a l c := by rcases hgl.2 with ⟨z, _⟩ | ⟨g, cap, z, _⟩ <;> exact ⟨_, _, _, z⟩
    obtain ⟨sf, nf, cf, ef⟩ : ∃ a l c, fv = .slice a l c := by rcases hgf.2 with ⟨z, _⟩ | ⟨g, cap, z, _⟩ <;> exact ⟨_, _, _, z⟩
    have zc : ∀ j, j < 7 → m3.cell? ⟨rb, j, none⟩ = some (Z[j]!) ∧ Base.b0 ≤ rb ∧ O3.o rb = some h ∧ O3.pre rb = 0 := fun j hj => by
      have hz : Z[j]? = some (Z[j]!) := by rw [getElem!_pos Z j (by omega)]; exact Array.getElem?_eq_getElem (by omega)
      obtain ⟨q1, q2⟩ := hrb3 j _ hz
      obtain ⟨z1, z2, z3⟩ := mine_some q1
      exact ⟨z3, z1, q2⟩
    refine Okk.rest hP Try.func46 (by simp [last46, Try.f46, okCode, okOp, plS, plS2, plE]) (R := fun v w' => v = .agg #[.int .i8 e, .int .i64 (G3.went.length : Int), v2, v3, v4, lv, fv] ∧ Upto (fun a => a.block = rb) m3 w') hc (fun τ => ?_) ?_
    · have cel : ∀ {a : Addr} {u : Value}, m3.cell? a = some u → (re (O3.gh h m3) τ 0).cell? a = some u := fun {a u} ha => by rw [re_cell?, gh_cell]; exact ha
      have hsz : (re (O3.gh h m3) τ 0).heap.size = m3.heap.size := gh_size
      have ff : ∀ j, (re (O3.gh h m3) τ 0).frozen? ⟨rb, j, none⟩ = false := fun j => by
        obtain ⟨_, b, o, p⟩ := zc 0 (by decide)
        exact gh_free (m := m3) b (.inr o) (by show O3.pre rb ≤ j; rw [p]; exact Nat.zero_le _)
      have E : E46 (re (O3.gh h m3) τ 0) X.rp rb G3.went.length v2 v3 v4 s3 c3 := ⟨by rw [hsz]; exact World.block_lt_of_cell? m3 _ (zc 0 (by decide)).1, ne, cel hv2, cel hv3, cel hv4, e3, ⟨_, cel (zc 0 (by decide)).1⟩, ⟨_, cel (zc 1 (by decide)).1⟩, ⟨_, cel (zc 2 (by decide)).1⟩, ⟨_, cel (zc 3 (by decide)).1⟩, ⟨_, cel (zc 4 (by decide)).1⟩, ⟨_, cel (zc 5 (by decide)).1⟩, ⟨_, cel (zc 6 (by decide)).1⟩, ff 0, ff 1, ff 2, ff 3, ff 4, ff 5, ff 6⟩
      exact last46_wp _ _ X.rp rb G3.went.length e lv fv v2 v3 v4 s3 c3 _ _ _ _ _ _ _ _ _ _ _ _ _ _ _ _ _ _ E s2 s4 sl sf _ c2 _ c4 nl cl nf cf e2 e4 el ef fun w' hu _ => ⟨_, rfl, rfl, (Upto.gh (O := O3) (h := h)).trans ((Upto.of_heap (m := O3.gh h m3) (m' := re (O3.gh h m3) τ 0) rfl).trans hu)⟩
    rintro _ m4 ⟨rfl, hu4⟩ _
    have I4 := I3.priv hu4 (by rw [hk3]; exact Nat.le_refl _)
    have same : ∀ i v v', m3.cell? ⟨X.rp, i, none⟩ = some v → m4.cell? ⟨X.rp, i, none⟩ = some v' → v' = v := fun i v v' a b => by
      have := hu4.cell _ _ a (fun z => ne z.symm)
      rw [b] at this; exact Option.some.inj this
    obtain ⟨v2', hv2', hR2', _⟩ := id I4.log
    obtain ⟨v3', hv3', hR3', _⟩ := id I4.went
    obtain ⟨v4', hv4', hR4', _⟩ := id I4.ready
    obtain rfl := same _ _ _ hv2 hv2'
    obtain rfl := same _ _ _ hv3 hv3'
    obtain rfl := same _ _ _ hv4 hv4'
    have hgf' := hgf.upto hu4 (fun z => Nat.lt_irrefl _ (hfl _ z))
    refine hn m4 O3 Γ2 G3 v2' v3' v4' lv fv I4 S3 (fun x u hx => ?_) (ha3.trans ha2.1) (E1.trans (ha2.2.trans hE3)) hR2' hR3' hR4' (hgl.upto hu4 (fun z => by have := hgot2.2 _ z; omega)) (by rw [ha3, ht3]; exact hgf') (fun g z => by have := hgot2.2 g z; omega) (fun g z => by have := hfl g z; omega)
    obtain ⟨q1, q2⟩ := hK3 x u hx
    obtain ⟨z1, z2, z3⟩ := mine_some q1
    refine ⟨mine_of z1 z2 (hu4.cell _ _ z3 fun z => ?_), q2⟩
    have := World.block_lt_of_cell? m _ (mine_some (hKP x u hx).1).2.2
    omega
  rw [Frame.finish_at]
  walk_nrm
  refine .val hP rfl rfl rfl lv (fun τ => by simp [go_sem]) ?_
  walk_nrm
  refine .ctl0 rfl (fun _ => Go.Conc.stepG_region_end) (.ctl0 rfl (fun _ => Go.Conc.stepG_seq) (.ctl0 rfl (fun _ => Go.Conc.stepG_region) ?_))
  refine .val hP rfl rfl rfl (.slice none 0 0) (fun τ => by simp [go_sem]) ?_
  walk_nrm
  refine .ctl0 rfl (fun _ => Go.Conc.stepG_region_end) (.ctl0 rfl (fun _ => Go.Conc.stepG_seq) ?_)
  refine Okk.fresh fun hF2 => ?_
  have hb2 : Base.b0 ≤ m2.heap.size := by have := I2.b0; have := I2.rlt; omega
  have hrlt : rb < m2.heap.size := by
    obtain ⟨z1, z2, z3⟩ := mine_some (hrb2 0 (Z[0]!) (by rw [getElem!_pos Z 0 (by omega)]; exact Array.getElem?_eq_getElem (by omega))).1
    exact World.block_lt_of_cell? m2 _ z3
  refine .code hP (c := c46_1) (by simp [c46_1, Try.f46, okCode, okOp, plS, plS2, plE]) (Q := fun t w' => ∃ fv, w'.ownsRow m2.heap.size 3 1 fv (FL G2.abs.falls G2.tds.length).length (FV G2.abs.falls G2.tds.length) ∧ Upto (fun _ => False) m2 w' ∧ ∃ (y7 y8 y11 y12 y13 y14 y15 y16 y17 y18 y19 y20 y21 y22 y23 y24 y25 y26 : Value), t = #[.pointer (some ⟨X.rp, 0, none⟩), .int .i8 e, undef, undef, .pointer (some ⟨rb, 0, none⟩), lv, fv, y7, y8, .pointer (some ⟨X.rp, 0, none⟩), lv, y11, y12, y13, y14, y15, y16, y17, y18, y19, y20, y21, y22, y23, y24, y25, y26, undef, undef, undef, undef, undef, undef, undef, undef, undef, undef, undef, undef, undef, undef, undef, undef, undef, undef, undef, undef, undef]) (fun τ => ?_) ?_
  · obtain ⟨v0, hv0, hR0, _⟩ := I2.fell
    have cl : ∀ {a : Addr} {u : Value}, m2.cell? a = some u → (re (O2.gh h m2) τ 0).cell? a = some u := fun {a u} ha => by rw [re_cell?, gh_cell]; exact ha
    have hsz : (re (O2.gh h m2) τ 0).heap.size = m2.heap.size := gh_size
    rcases id hR0.2 with ⟨rfl, h0⟩ | ⟨g, cap, cur, f, rfl, hg1, hg2, hg3, hg4, _⟩
    · refine wp_mono (c46_1_nil (fun a w' => a.defers = [] ∧ ∃ fv, w'.ownsRow m2.heap.size 3 1 fv (FL G2.abs.falls G2.tds.length).length (FV G2.abs.falls G2.tds.length) ∧ Upto (fun _ => False) m2 w' ∧ ∃ (y7 y8 y11 y12 y13 y14 y15 y16 y17 y18 y19 y20 y21 y22 y23 y24 y25 y26 : Value), a.tmps = #[.pointer (some ⟨X.rp, 0, none⟩), .int .i8 e, undef, undef, .pointer (some ⟨rb, 0, none⟩), lv, fv, y7, y8, .pointer (some ⟨X.rp, 0, none⟩), lv, y11, y12, y13, y14, y15, y16, y17, y18, y19, y20, y21, y22, y23, y24, y25, y26, undef, undef, undef, undef, undef, undef, undef, undef, undef, undef, undef, undef, undef, undef, undef, undef, undef, undef, undef, undef, undef]) (re (O2.gh h m2) τ 0) X.rp rb e lv (cl hv0) fun y7 y8 y11 y12 y13 y14 y15 y16 y17 y18 y19 y20 y21 y22 y23 y24 y25 y26 => ⟨rfl, .slice none 0 0, by rw [h0]; exact World.ownsRow_nil _ _ _ _, Upto.below (Below.refl _ _), ?_⟩) (fun e a w' hq => by
        cases e with
        | normal => exact ⟨rfl, hq.1, hq.2⟩
        | _ => exact hq.elim)
      exact ⟨_, _, _, _, _, _, _, _, _, _, _, _, _, _, _, _, _, _, rfl⟩
    · refine wp_mono (c46_1_wp (fun a w' => a.defers = [] ∧ ∃ fv, w'.ownsRow m2.heap.size 3 1 fv (FL G2.abs.falls G2.tds.length).length (FV G2.abs.falls G2.tds.length) ∧ Upto (fun _ => False) m2 w' ∧ ∃ (y7 y8 y11 y12 y13 y14 y15 y16 y17 y18 y19 y20 y21 y22 y23 y24 y25 y26 : Value), a.tmps = #[.pointer (some ⟨X.rp, 0, none⟩), .int .i8 e, undef, undef, .pointer (some ⟨rb, 0, none⟩), lv, fv, y7, y8, .pointer (some ⟨X.rp, 0, none⟩), lv, y11, y12, y13, y14, y15, y16, y17, y18, y19, y20, y21, y22, y23, y24, y25, y26, undef, undef, undef, undef, undef, undef, undef, undef, undef, undef, undef, undef, undef, undef, undef, undef, undef, undef, undef, undef, undef]) (re (O2.gh h m2) τ 0) X.rp rb g G2.tds.length cap e lv G2.abs.falls I2.tlen (by rw [hsz]; exact (Array.getElem?_eq_some_iff.1 hg4).1) (cl hv0) (fun j hj => cl ?_) fun fv y7 y8 y11 y12 y13 y14 y15 y16 y17 y18 y19 y20 y21 y22 y23 y24 y25 y26 w' hw hbel => ⟨rfl, fv, by rw [hsz] at hw; exact hw, Upto.below (by rw [hsz] at hbel; exact hbel), ?_⟩) (fun e a w' hq => by
        cases e with
        | normal => exact ⟨rfl, hq.1, hq.2⟩
        | _ => exact hq.elim)
      · refine Row.cellAt hR0 ?_
        simp [AS.falls, GSt.abs, List.getElem?_eq_getElem hj]
      · exact ⟨_, _, _, _, _, _, _, _, _, _, _, _, _, _, _, _, _, _, rfl⟩
  rintro _ m3 ⟨fv, hown, hu, y7, y8, y11, y12, y13, y14, y15, y16, y17, y18, y19, y20, y21, y22, y23, y24, y25, y26, rfl⟩ _
  have hlo : ∀ g, fv.ownBlock = some g → rb < g := fun g hg => by have := (hown.lt g hg).1; omega
  rcases Got.make (O := O2) (h := h) hown hb2 hF2 with hg | ⟨g, cap, rfl, hg1, hg2, hg⟩
  · exact fin m3 O2 _ _ _ _ _ _ _ _ _ _ _ _ _ _ _ _ _ _ _ _ (I2.same hu) S2 (hK2.upto hu) (fun j u hj => by
      obtain ⟨q1, q2⟩ := hrb2 j u hj
      obtain ⟨z1, z2, z3⟩ := mine_some q1
      exact ⟨mine_of z1 z2 (hu.cell _ _ z3 fun z => z), q2⟩) rfl (Ext.refl _) rfl (hgot2.1.same hu) hg hlo
  · have hg0 := hF2 g hg1
    have I3 := I2.take (h := h) hu hg1 hg2 500
    have E3 : Ext G2.κ (fun x => if x = g then 500 else G2.κ x) := fun x hx => by
      show (if _ then _ else _) = _
      rw [if_neg (fun e => by subst e; have := I2.klt _ hx; omega)]
    refine Okk.own (O' := O2.take h g) (Own.le.take (.inl hg0.1)) (fun hf => (Fresh.take (m := m3) (fun b hb => hF2 b (by have := hu.size; omega)) hg2)) ?_
    refine fin m3 (O2.take h g) _ _ _ _ _ _ _ _ _ _ _ _ _ _ _ _ _ _ _ _ I3 (S2.as rfl) (hK2.take hu) (fun j u hj => ?_) rfl E3 rfl (hgot2.1.more hu) hg hlo
    obtain ⟨q1, q2, q3⟩ := hrb2 j u hj
    obtain ⟨z1, z2, z3⟩ := mine_some q1
    have e1 : (O2.take h g).o rb = some h := by simp only [Own.take]; rw [if_neg (by omega)]; exact q2
    exact ⟨mine_of z1 (.inl e1) (hu.cell _ _ z3 fun z => z), e1, q3⟩
end
end Go.Proofs.Ytkbfbphbdljaaaa

/- gate's Run: the lone pieces ahead of the run. Every premise stands in the statements. -/
set_option linter.unusedVariables false
set_option linter.unusedSimpArgs false
namespace Go.Proofs.Ytkbfbphbdljaaaa
open Go.Tre Go.RowKit
noncomputable def c14_0 : Code := match Try.f14.body with | some (.seq c _) => c | _ => .skip
noncomputable def c14_3 : Code := match Try.f14.body with | some (.seq _ (.seq _ (.seq c _))) => c | _ => .skip
noncomputable def c14_5 : Code := match Try.f14.body with | some (.seq _ (.seq _ (.seq _ (.seq _ c)))) => c | _ => .skip
theorem mkmap91 (w : World) : (Instr.makeMap 91 none).run Try.prog w = .ok (.map (some w.heap.size)) (w.alloc (.map #[] 0)) := by
  unfold Instr.makeMap
  simp [go_sem]
/-- A new run's record. -/
def newRun (mb : Nat) : Array Value := #[.slice none 0 0, .map (some mb), .slice none 0 0, .slice none 0 0, .slice none 0 0, .slice none 0 0, .bool false]
set_option maxRecDepth 100000 in
set_option maxHeartbeats 4000000 in
theorem c14_0_wp (Q : Act → World → Prop) (w : World) (a0 : Option Addr) (n0 c0 : Nat) (v0 v1 v2 : Value) (h0 : v0 = .slice a0 n0 c0) (hQ : ∀ Z : Array Value, Z.size = 7 → Q ⟨#[v0, v1, v2, .pointer (some ⟨w.heap.size, 0, none⟩), undef, undef, .pointer (some ⟨w.heap.size + 1, 0, none⟩), undef, undef, undef, undef, undef, undef, undef, undef, undef, undef, undef, undef, undef, undef, undef, undef, undef, undef, undef, undef, undef, undef, undef], []⟩ ((w.alloc (.cells #[v0] 37)).alloc (.cells Z 39))) :
    c14_0.wp Try.prog (fun e a w => match e with | .normal => Q a w | _ => False) ⟨#[v0, v1, v2, undef, undef, undef, undef, undef, undef, undef, undef, undef, undef, undef, undef, undef, undef, undef, undef, undef, undef, undef, undef, undef, undef, undef, undef, undef, undef, undef], []⟩ w := by
  subst h0
  have H := Lib.hid hQ
  clear hQ
  simp only [c14_0, Try.f14]
  go_wp2
  exact H.out _ rfl
set_option maxRecDepth 100000 in
set_option maxHeartbeats 4000000 in
theorem c14_3_wp (Q : Act → World → Prop) (w : World) (v0 v1 v2 v3 v6 v10 v11 v12 : Value)
    (hQ : ∀ (y15 : Value), Q ⟨#[v0, v1, v2, v3, undef, undef, v6, .pointer (some ⟨w.heap.size + 2, 0, none⟩), undef, undef, v10, v11, v12, undef, .map (some w.heap.size), y15, .pointer (some ⟨w.heap.size + 1, 0, none⟩), undef, undef, undef, undef, undef, undef, undef, undef, undef, undef, undef, undef, undef], []⟩ (((w.alloc (.map #[] 0)).alloc (.cells (newRun w.heap.size) 93)).alloc (.cells #[.pointer (some ⟨w.heap.size + 1, 0, none⟩)] 62))) :
    c14_3.wp Try.prog (fun e a w => match e with | .normal => Q a w | _ => False) ⟨#[v0, v1, v2, v3, undef, undef, v6, undef, undef, undef, v10, v11, v12, undef, undef, undef, undef, undef, undef, undef, undef, undef, undef, undef, undef, undef, undef, undef, undef, undef], []⟩ w := by
  have H := Lib.hid hQ
  clear hQ
  have hmk := mkmap91
  simp only [c14_3, Try.f14]
  go_wp2
  exact H.out _
end Go.Proofs.Ytkbfbphbdljaaaa

/- gate's Run, as far as the call of until. Every premise stands in the statements. -/
set_option linter.unusedVariables false
set_option linter.unusedSimpArgs false
namespace Go.Proofs.Ytkbfbphbdljaaaa
open Go.Tre Go.RowKit
open Go.Conc (G base baseD crowd rcase scase)
open Go.ConcN (upd upd_ne upd_same)
section
variable [Base]
/-- The blocks that Run makes. -/
structure Ran (m m' : World) (v0 : Value) (pb qb mb rp kb : Nat) : Prop where
  u : Upto (fun _ => False) m m'
  lo : m.heap.size ≤ pb ∧ m.heap.size ≤ qb ∧ m.heap.size ≤ mb ∧ m.heap.size ≤ rp ∧ m.heap.size ≤ kb
  ne : pb < qb ∧ qb < mb ∧ mb < rp ∧ rp < kb ∧ kb < m'.heap.size
  p : ∃ f, m'.heap[pb]? = some (.cells #[v0] 37 f)
  q : ∃ Z : Array Value, Z.size = 7 ∧ ∃ f, m'.heap[qb]? = some (.cells Z 39 f)
  map : m'.heap[mb]? = some (.map #[] 0)
  r : m'.heap[rp]? = some (.cells (newRun mb) 93)
  k : m'.heap[kb]? = some (.cells #[.pointer (some ⟨rp, 0, none⟩)] 62)
set_option maxRecDepth 100000 in
set_option maxHeartbeats 4000000 in
theorem Okk.run1 {Φ : Value → World → Prop} {h : Nat} {c : Frame} {cs : List Frame} {m : World} {O : Own} {Γ : Nat → Option Seat} {pa ba : Option Addr} {pn pc bs bc : Nat} {most : Int} (hbs : bs ≤ 64)
    (hn : ∀ (m' : World) (pb qb mb rp kb : Nat) (y15 : Value), Ran m m' (.slice pa pn pc) pb qb mb rp kb →
      Okk Try.prog Φ h (Go.Conc.G ((base 14).at ⟨#[.slice pa pn pc, .int .i64 most, .slice ba bs bc, .pointer (some ⟨pb, 0, none⟩), undef, undef, .pointer (some ⟨qb, 0, none⟩), .pointer (some ⟨kb, 0, none⟩), undef, undef, .slice ba bs bc, .int .i64 (bs : Int), .bool false, undef, .map (some mb), y15, .pointer (some ⟨rp, 0, none⟩), undef, undef, undef, undef, undef, undef, undef, undef, undef, undef, undef, undef, undef], []⟩ [.code (match Try.f14.body with | some (.seq _ (.seq _ (.seq _ c))) => c | _ => .skip)]) (c :: cs)) m' O Γ) :
    Okk Try.prog Φ h (Go.Conc.G (Frame.enter Try.prog 14 #[.slice pa pn pc, .int .i64 most, .slice ba bs bc] .normal) (c :: cs)) m O Γ := by
  have hP := try_plain2
  rw [Go.Conc.enter_at _ Try.func14 rfl]
  simp only [Try.ntmps14]
  refine .ctl0 rfl (fun _ => Go.Conc.stepG_seq) ?_
  walk_nrm
  refine .code hP (c := c14_0) (by simp [c14_0, Try.f14, okCode, okOp, plS, plS2, plE]) (Q := fun t w' => (∃ Z : Array Value, Z.size = 7 ∧ w'.heap[m.heap.size + 1]? = some (.cells Z 39)) ∧ w'.heap[m.heap.size]? = some (.cells #[.slice pa pn pc] 37) ∧ w'.heap.size = m.heap.size + 2 ∧ Upto (fun _ => False) m w' ∧ t = #[.slice pa pn pc, .int .i64 most, .slice ba bs bc, .pointer (some ⟨m.heap.size, 0, none⟩), undef, undef, .pointer (some ⟨m.heap.size + 1, 0, none⟩), undef, undef, undef, undef, undef, undef, undef, undef, undef, undef, undef, undef, undef, undef, undef, undef, undef, undef, undef, undef, undef, undef, undef]) (fun τ => ?_) ?_
  · have hsz : (re (O.gh h m) τ 0).heap.size = m.heap.size := gh_size
    refine wp_mono (c14_0_wp (fun a w' => a.defers = [] ∧ (∃ Z : Array Value, Z.size = 7 ∧ w'.heap[m.heap.size + 1]? = some (.cells Z 39)) ∧ w'.heap[m.heap.size]? = some (.cells #[.slice pa pn pc] 37) ∧ w'.heap.size = m.heap.size + 2 ∧ Upto (fun _ => False) m w' ∧ a.tmps = #[.slice pa pn pc, .int .i64 most, .slice ba bs bc, .pointer (some ⟨m.heap.size, 0, none⟩), undef, undef, .pointer (some ⟨m.heap.size + 1, 0, none⟩), undef, undef, undef, undef, undef, undef, undef, undef, undef, undef, undef, undef, undef, undef, undef, undef, undef, undef, undef, undef, undef, undef, undef]) (re (O.gh h m) τ 0) pa pn pc _ _ _ rfl fun Z hZ => ⟨rfl, ⟨Z, hZ, by rw [get_a, size_a, hsz, if_pos rfl]⟩, by rw [get_a, size_a, hsz, if_neg (by omega), get_a, hsz, if_pos rfl], by simp only [size_a, hsz], (Upto.gh (O := O) (h := h)).trans ((Upto.of_heap (m := O.gh h m) (m' := re (O.gh h m) τ 0) rfl).trans (.trans .alloc .alloc)), by rw [hsz]⟩) (fun e a w' hq => by
      cases e with
      | normal => exact ⟨rfl, hq.1, hq.2⟩
      | _ => exact hq.elim)
  rintro _ m1 ⟨⟨Z, hZ, hq⟩, hp, hs1, hu1, rfl⟩ _
  generalize hpb : m.heap.size = pb at *
  generalize hqb : pb + 1 = qb at *
  refine .ctl0 rfl (fun _ => Go.Conc.stepG_seq) (.ctl0 rfl (fun _ => Go.Conc.stepG_seq) (.ctl0 rfl (fun _ => Go.Conc.stepG_region) ?_))
  refine .val hP rfl rfl rfl (.slice ba bs bc) (fun τ => by simp [go_sem]) ?_
  walk_nrm
  refine .val hP rfl rfl rfl (.int .i64 (bs : Int)) (fun τ => by simp [go_sem]) ?_
  walk_nrm
  refine .val hP rfl rfl rfl (.bool false) (fun τ => by simp [go_sem]; try omega) ?_
  walk_nrm
  refine .ctl0 rfl (fun _ => Go.Conc.stepG_region_end) (.ctl0 rfl (fun _ => Go.Conc.stepG_cond (t := false) rfl) ?_)
  simp only [Bool.false_eq_true, if_false]
  refine .ctl0 rfl (fun _ => Go.Conc.stepG_skip) (.ctl0 rfl (fun _ => Go.Conc.stepG_seq) ?_)
  refine .code hP (c := c14_3) (by simp [c14_3, Try.f14, okCode, okOp, plS, plS2, plE]) (Q := fun t w' => w'.heap[m1.heap.size]? = some (.map #[] 0) ∧ w'.heap[m1.heap.size + 1]? = some (.cells (newRun m1.heap.size) 93) ∧ w'.heap[m1.heap.size + 2]? = some (.cells #[.pointer (some ⟨m1.heap.size + 1, 0, none⟩)] 62) ∧ w'.heap.size = m1.heap.size + 3 ∧ Upto (fun _ => False) m1 w' ∧ ∃ y15 : Value, t = #[.slice pa pn pc, .int .i64 most, .slice ba bs bc, .pointer (some ⟨pb, 0, none⟩), undef, undef, .pointer (some ⟨qb, 0, none⟩), .pointer (some ⟨m1.heap.size + 2, 0, none⟩), undef, undef, .slice ba bs bc, .int .i64 (bs : Int), .bool false, undef, .map (some m1.heap.size), y15, .pointer (some ⟨m1.heap.size + 1, 0, none⟩), undef, undef, undef, undef, undef, undef, undef, undef, undef, undef, undef, undef, undef]) (fun τ => ?_) ?_
  · have hsz : (re (O.gh h m1) τ 0).heap.size = m1.heap.size := gh_size
    refine wp_mono (c14_3_wp (fun a w' => a.defers = [] ∧ w'.heap[m1.heap.size]? = some (.map #[] 0) ∧ w'.heap[m1.heap.size + 1]? = some (.cells (newRun m1.heap.size) 93) ∧ w'.heap[m1.heap.size + 2]? = some (.cells #[.pointer (some ⟨m1.heap.size + 1, 0, none⟩)] 62) ∧ w'.heap.size = m1.heap.size + 3 ∧ Upto (fun _ => False) m1 w' ∧ ∃ y15 : Value, a.tmps = #[.slice pa pn pc, .int .i64 most, .slice ba bs bc, .pointer (some ⟨pb, 0, none⟩), undef, undef, .pointer (some ⟨qb, 0, none⟩), .pointer (some ⟨m1.heap.size + 2, 0, none⟩), undef, undef, .slice ba bs bc, .int .i64 (bs : Int), .bool false, undef, .map (some m1.heap.size), y15, .pointer (some ⟨m1.heap.size + 1, 0, none⟩), undef, undef, undef, undef, undef, undef, undef, undef, undef, undef, undef, undef, undef]) (re (O.gh h m1) τ 0) _ _ _ _ _ _ _ _ fun y15 => ⟨rfl, ?_, ?_, ?_, ?_, ?_, y15, ?_⟩) (fun e a w' hq => by
      cases e with
      | normal => exact ⟨rfl, hq.1, hq.2⟩
      | _ => exact hq.elim)
    · rw [get_a, size_a, size_a, hsz, if_neg (by omega), get_a, size_a, hsz, if_neg (by omega), get_a, hsz, if_pos rfl]
    · rw [get_a, size_a, size_a, hsz, if_neg (by omega), get_a, size_a, hsz, if_pos rfl]
    · rw [get_a, size_a, size_a, hsz, if_pos rfl]
    · simp only [size_a, hsz]
    · exact (Upto.gh (O := O) (h := h)).trans ((Upto.of_heap (m := O.gh h m1) (m' := re (O.gh h m1) τ 0) rfl).trans (.trans (.trans .alloc .alloc) .alloc))
    · rw [hsz]
  rintro _ m2 ⟨g1, g2, g3, hs2, hu2, y15, rfl⟩ _
  obtain ⟨f1, hp2⟩ := hu2.row _ _ _ _ hp (fun _ z => z)
  obtain ⟨f2, hq2⟩ := hu2.row _ _ _ _ hq (fun _ z => z)
  exact hn m2 pb qb m1.heap.size (m1.heap.size + 1) (m1.heap.size + 2) y15 ⟨hu1.trans hu2, by rw [hpb]; exact ⟨by omega, by omega, by omega, by omega, by omega⟩, ⟨by omega, by omega, by omega, by omega, by omega⟩, ⟨f1, hp2⟩, ⟨Z, hZ, f2, hq2⟩, g1, g2, g3⟩
end
end Go.Proofs.Ytkbfbphbdljaaaa

/- gate's Run: memory of a run that begins. Every premise stands in the statements. -/
set_option linter.unusedVariables false
set_option linter.unusedSimpArgs false
namespace Go.Proofs.Ytkbfbphbdljaaaa
open Go.Tre Go.RowKit
open Go.ConcN (upd upd_ne upd_same)
variable {Λ : Type}
section
variable [Base]
/-- Colours of a run that begins. -/
def κ0 (pb qb mb rp kb : Nat) (x : Nat) : Nat := if x = rp then 1 else if x = mb then 2 else if x = pb ∨ x = qb ∨ x = kb then 500 else 0
/-- A run that begins. -/
def GSt.start (s : Sh Λ) (pb qb mb rp kb : Nat) : GSt Λ := { s := s, tds := [], went := [], ready := [], st := false, κ := κ0 pb qb mb rp kb, cap := 0 }
/-- Run's own blocks. -/
def ranO (O : Own) (h pb qb kb : Nat) : Own := ((O.take h pb).take h qb).take h kb
omit [Base] in
theorem ranO_low {O : Own} {h pb qb kb b : Nat} (h1 : b ≠ pb) (h2 : b ≠ qb) (h3 : b ≠ kb) : (ranO O h pb qb kb).o b = O.o b ∧ (ranO O h pb qb kb).pre b = O.pre b := by
  refine ⟨?_, rfl⟩
  simp only [ranO, Own.take, h1, h2, h3, if_false]
omit [Base] in
theorem κ0_low {pb qb mb rp kb b : Nat} (h1 : b ≠ pb) (h2 : b ≠ qb) (h3 : b ≠ kb) (h4 : b ≠ mb) (h5 : b ≠ rp) : κ0 pb qb mb rp kb b = 0 := by
  simp only [κ0, h1, h2, h3, h4, h5, if_false, or_self]
/-- What the law must have before it calls Run. -/
structure Ready (L : Lw Λ) (s : Sh Λ) (m : World) (O : Own) : Prop where
  names : s.names = []
  log : s.log = []
  vals : ∀ a x, s.vals a = some x → m.cell? a = some (.int .i64 x) ∧ Base.b0 ≤ a.block ∧ O.o a.block = none ∧ O.pre a.block = 0 ∧ a.spot = none
  law : L.inv s.lam m O
  good : L.good s
  own : ∀ a, L.own s.lam a → s.vals a = none
theorem MemI.start {L : Lw Λ} {m m' : World} {O : Own} {h : Nat} {s : Sh Λ} {v0 : Value} {pb qb mb rp kb : Nat} (R : Ran m m' v0 pb qb mb rp kb) (hF : Fresh m O) (hb : Base.b0 ≤ m.heap.size) (H : Ready L s m O) :
    MemI L rp mb (fun _ => none) (GSt.start s pb qb mb rp kb) m' (ranO O h pb qb kb) := by
  obtain ⟨l1, l2, l3, l4, l5⟩ := R.lo
  obtain ⟨n1, n2, n3, n4, n5⟩ := R.ne
  have hr : ∀ j u, (newRun mb)[j]? = some u → m'.cell? ⟨rp, j, none⟩ = some u := fun j u hj => by simp only [World.cell?, R.r]; exact hj
  have low : ∀ b, b < m.heap.size → (ranO O h pb qb kb).o b = O.o b ∧ (ranO O h pb qb kb).pre b = O.pre b := fun b hb => ranO_low (by omega) (by omega) (by omega)
  have klow : ∀ b, b < m.heap.size → κ0 pb qb mb rp kb b = 0 := fun b hb => κ0_low (by omega) (by omega) (by omega) (by omega) (by omega)
  have nilrow : ∀ (c idx : Nat) (ty : TypeId) (sz : Nat), (newRun mb)[idx]? = some (.slice none 0 0) → Rw (κ0 pb qb mb rp kb) rp c idx ty sz 0 [] m' (ranO O h pb qb kb) := fun c idx ty sz hi => ⟨.slice none 0 0, hr _ _ hi, Row.nil, fun g hg => by cases hg⟩
  have orp := ranO_low (O := O) (h := h) (pb := pb) (qb := qb) (kb := kb) (b := rp) (by omega) (by omega) (by omega)
  have frp := hF rp l4
  exact {
    b0 := by omega
    ro := ⟨orp.1.trans frp.1, orp.2.trans frp.2⟩
    c1 := hr 1 _ rfl
    map := by have := R.map; simp only [GSt.start, H.names]; exact this
    stops := hr 6 _ rfl
    threads := nilrow 3 0 30 1 rfl
    log := by simp only [GSt.start, H.log]; exact nilrow 4 2 61 8 rfl
    went := nilrow 5 3 3 1 rfl
    ready := nilrow 6 4 3 1 rfl
    fell := nilrow 7 5 4 1 rfl
    td := fun i td hi => by simp [GSt.start] at hi
    vals := fun a x hx => by
      obtain ⟨z1, z2, z3, z4, z5⟩ := H.vals a x hx
      have hlt := World.block_lt_of_cell? m a z1
      exact ⟨R.u.cell _ _ z1 (fun z => z), z2, (low _ hlt).1.trans z3, (low _ hlt).2.trans z4, z5⟩
    nv := fun a ha => by simp [GSt.start, H.names] at ha
    good := H.good
    law := L.stable H.law R.u (fun a _ z => z) (fun a ha => low _ (L.low H.law ha))
    k1 := by simp [GSt.start, κ0]
    k2 := by simp only [GSt.start, κ0]; rw [if_neg (by omega)]; simp
    kt := fun i td hi => by simp [GSt.start] at hi
    k0 := fun a x hx => klow _ (World.block_lt_of_cell? m a (H.vals a x hx).1)
    kl := fun a ha => ⟨klow _ (L.low H.law ha), H.own a ha⟩
    klt := fun b hb => by
      simp only [GSt.start, κ0] at hb
      by_cases h1 : b = rp
      · omega
      · rw [if_neg h1] at hb
        by_cases h2 : b = mb
        · omega
        · rw [if_neg h2] at hb
          by_cases h3 : b = pb ∨ b = qb ∨ b = kb
          · omega
          · rw [if_neg h3] at hb; exact absurd rfl hb
    llen := by simp [GSt.start, H.log]
    cap := by simp [GSt.start]
    tlen := by simp [GSt.start]
    wlen := by simp [GSt.start] }
omit [Base] in
theorem SeatI.start {E : Nat → Option Seat} {h : Nat} {s : Sh Λ} {pb qb mb rp kb : Nat} {Γ : Nat → Option Seat} (he : ∀ k sc, E k = some sc ↔ k ≠ h ∧ Γ k = some sc) : SeatI E h (fun _ => none) (GSt.start s pb qb mb rp kb) Γ :=
  ⟨fun k sc => (he k sc).1, fun i td hi => by simp [GSt.start] at hi, fun i td hi => by simp [GSt.start] at hi, fun i td b hi => by simp [GSt.start] at hi, fun i td k sc hi => by simp [GSt.start] at hi, fun i td k sc hi => by simp [GSt.start] at hi, fun i j td td' hi => by simp [GSt.start] at hi, fun k sc hk hs => .inl ((he k sc).2 ⟨hk, hs⟩)⟩
end
end Go.Proofs.Ytkbfbphbdljaaaa

/- gate's Run, as far as until's return. Every premise stands in the statements. -/
set_option linter.unusedVariables false
set_option linter.unusedSimpArgs false
namespace Go.Proofs.Ytkbfbphbdljaaaa
open Go.Tre Go.RowKit
open Go.Conc (G base baseD crowd rcase scase)
open Go.ConcN (upd upd_ne upd_same)
variable {Λ : Type}
section
variable [Base]
set_option maxRecDepth 100000 in
set_option maxHeartbeats 4000000 in
theorem Okk.run2 {Φ : Value → World → Prop} {L : Lw Λ} {E : Nat → Option Seat} {h : Nat} {c : Frame} {cs : List Frame} {m : World} {O : Own} {Γ : Nat → Option Seat} {pa ba : Option Addr} {pn pc bb bc : Nat} {most : Int} {s : Sh Λ} {sched : AS Λ → Option Nat} (bs : List (Bd Λ))
    (hE : ∀ k sc, E k = some sc ↔ k ≠ h ∧ Γ k = some sc) (hEh : E h = none) (hb : Base.b0 ≤ m.heap.size) (H : Ready L s m O) (hn64 : bs.length ≤ 64) (hborn : ∀ rp mb, ∀ b ∈ bs, Born ⟨Φ, L, rp, mb, E⟩ b.fv b.init b.child)
    (hba : bs ≠ [] → ba = some ⟨bb, 0, none⟩) (hbs : ∀ (j : Nat) (b : Bd Λ), bs[j]? = some b → O.mine0 h m ⟨bb, j, none⟩ = some b.fv)
    (hsch : ∀ (pb kb rp mb : Nat) (KP : Addr → Option Value), (∀ x v, O.mine0 h m x = some v → KP x = some v) → KP ⟨pb, 0, none⟩ = some (.slice pa pn pc) → KP ⟨kb, 0, none⟩ = some (.pointer (some ⟨rp, 0, none⟩)) → SchedC ⟨Φ, L, rp, mb, E⟩ h (.func (.func 45) #[] #[.pointer (some ⟨pb, 0, none⟩), .pointer (some ⟨kb, 0, none⟩)]) KP sched)
    (hn : ∀ (m1 m' : World) (O' : Own) (Γ' : Nat → Option Seat) (G' : GSt Λ) (pb qb mb rp kb : Nat) (y15 : Value), Ran m m1 (.slice pa pn pc) pb qb mb rp kb → (∀ x v, O.mine0 h m x = some v → (ranO O h pb qb kb).mine0 h m1 x = some v) → (∀ b j u, (b = pb ∨ b = qb ∨ b = kb) → m1.cell? ⟨b, j, none⟩ = some u → (ranO O h pb qb kb).mine0 h m1 ⟨b, j, none⟩ = some u) → MemI L rp mb (fun _ => none) G' m' O' → SeatI E h (fun _ => none) G' Γ' → Proms ⟨Φ, L, rp, mb, E⟩ G' → Holds ((ranO O h pb qb kb).mine0 h m1) h m' O' →
      G'.abs = (AS.run sched (min (max most 0) 65536).toNat (min (max most 0) 65536).toNat ((GSt.start s pb qb mb rp kb).abs.begins bs)).1 → Ext (κ0 pb qb mb rp kb) G'.κ →
      Okk Try.prog Φ h (Go.Conc.G ((base 14).at ⟨#[.slice pa pn pc, .int .i64 most, .slice ba bs.length bc, .pointer (some ⟨pb, 0, none⟩), undef, undef, .pointer (some ⟨qb, 0, none⟩), .pointer (some ⟨kb, 0, none⟩), .int .i8 (AS.run sched (min (max most 0) 65536).toNat (min (max most 0) 65536).toNat ((GSt.start s pb qb mb rp kb).abs.begins bs)).2.1, .bool (AS.run sched (min (max most 0) 65536).toNat (min (max most 0) 65536).toNat ((GSt.start s pb qb mb rp kb).abs.begins bs)).2.2, .slice ba bs.length bc, .int .i64 (bs.length : Int), .bool false, undef, .map (some mb), y15, .pointer (some ⟨rp, 0, none⟩), .tuple #[.int .i8 (AS.run sched (min (max most 0) 65536).toNat (min (max most 0) 65536).toNat ((GSt.start s pb qb mb rp kb).abs.begins bs)).2.1, .bool (AS.run sched (min (max most 0) 65536).toNat (min (max most 0) 65536).toNat ((GSt.start s pb qb mb rp kb).abs.begins bs)).2.2], .pointer (some ⟨rp, 0, none⟩), .int .i64 most, .int .i64 (max most 0), .int .i64 (min (max most 0) 65536), .slice ba bs.length bc, .func (.func 45) #[] #[.pointer (some ⟨pb, 0, none⟩), .pointer (some ⟨kb, 0, none⟩)], .tuple #[.int .i8 (AS.run sched (min (max most 0) 65536).toNat (min (max most 0) 65536).toNat ((GSt.start s pb qb mb rp kb).abs.begins bs)).2.1, .bool (AS.run sched (min (max most 0) 65536).toNat (min (max most 0) 65536).toNat ((GSt.start s pb qb mb rp kb).abs.begins bs)).2.2], .int .i8 (AS.run sched (min (max most 0) 65536).toNat (min (max most 0) 65536).toNat ((GSt.start s pb qb mb rp kb).abs.begins bs)).2.1, .bool (AS.run sched (min (max most 0) 65536).toNat (min (max most 0) 65536).toNat ((GSt.start s pb qb mb rp kb).abs.begins bs)).2.2, undef, undef, undef], []⟩ [.code c14_5]) (c :: cs)) m' O' Γ') :
    Okk Try.prog Φ h (Go.Conc.G (Frame.enter Try.prog 14 #[.slice pa pn pc, .int .i64 most, .slice ba bs.length bc] .normal) (c :: cs)) m O Γ := by
  have hP := try_plain2
  refine Okk.fresh fun hF => Okk.run1 hn64 fun m1 pb qb mb rp kb y15 R => ?_
  obtain ⟨l1, l2, l3, l4, l5⟩ := R.lo
  obtain ⟨n1, n2, n3, n4, n5⟩ := R.ne
  have hF1 : Fresh m1 O := fun b hb => hF b (by have := R.u.size; omega)
  have e1 : (O.take h pb).o qb = none := by simp only [Own.take]; rw [if_neg (by omega)]; exact (hF qb l2).1
  have e2 : ((O.take h pb).take h qb).o kb = none := by simp only [Own.take]; rw [if_neg (by omega), if_neg (by omega)]; exact (hF kb l5).1
  refine Okk.own (O' := O.take h pb) (Own.le.take (.inl (hF pb l1).1)) (fun hf => Fresh.take hf (by omega)) ?_
  refine Okk.own (O' := (O.take h pb).take h qb) (Own.le.take (.inl e1)) (fun hf => Fresh.take hf (by omega)) ?_
  refine Okk.own (O' := ranO O h pb qb kb) (Own.le.take (.inl e2)) (fun hf => Fresh.take hf (by omega)) ?_
  have I := MemI.start (h := h) R hF hb H
  have S : SeatI E h (fun _ => none) (GSt.start s pb qb mb rp kb) Γ := SeatI.start hE
  have own : ∀ b, b = pb ∨ b = qb ∨ b = kb → (ranO O h pb qb kb).o b = some h ∧ (ranO O h pb qb kb).pre b = 0 := fun b hb => by
    refine ⟨?_, (hF b (by omega)).2⟩
    simp only [ranO, Own.take]
    rcases hb with rfl | rfl | rfl
    · rw [if_neg (by omega), if_neg (by omega), if_pos rfl]
    · rw [if_neg (by omega), if_pos rfl]
    · rw [if_pos rfl]
  have mine : ∀ b j u, (b = pb ∨ b = qb ∨ b = kb) → m1.cell? ⟨b, j, none⟩ = some u → (ranO O h pb qb kb).mine0 h m1 ⟨b, j, none⟩ = some u := fun b j u hb hu => by
    unfold Own.mine0
    rw [if_pos (own b hb)]
    exact mine_of (by show Base.b0 ≤ b; omega) (.inl (own b hb).1) hu
  have old : ∀ x v, O.mine0 h m x = some v → (ranO O h pb qb kb).mine0 h m1 x = some v := fun x v hx => by
    obtain ⟨q1, q2, q3⟩ := Holds.mine0 x v hx
    obtain ⟨z1, z2, z3⟩ := mine_some q1
    have hlt := World.block_lt_of_cell? m x z3
    have hl := ranO_low (O := O) (h := h) (pb := pb) (qb := qb) (kb := kb) (b := x.block) (by omega) (by omega) (by omega)
    unfold Own.mine0
    rw [if_pos ⟨hl.1.trans q2, hl.2.trans q3⟩]
    exact mine_of z1 (.inl (hl.1.trans q2)) (R.u.cell _ _ z3 (fun z => z))
  obtain ⟨fp, hp⟩ := R.p
  have hk0 : m1.cell? ⟨kb, 0, none⟩ = some (.pointer (some ⟨rp, 0, none⟩)) := by simp only [World.cell?, R.k]; rfl
  have hp0 : m1.cell? ⟨pb, 0, none⟩ = some (.slice pa pn pc) := by simp only [World.cell?, hp]; rfl
  have hmin : (min (max most 0) 65536).toNat ≤ 65536 := by omega
  have hmost : (((min (max most 0) 65536).toNat : Nat) : Int) = min (max most 0) 65536 := by omega
  have key : ∀ (fr : Frame), (∀ (m' : World) (O' : Own) (Γ' : Nat → Option Seat) (G' : GSt Λ), MemI L rp mb (fun _ => none) G' m' O' → SeatI E h (fun _ => none) G' Γ' → Proms ⟨Φ, L, rp, mb, E⟩ G' → Holds ((ranO O h pb qb kb).mine0 h m1) h m' O' → G'.st = false → G'.abs = (AS.run sched (min (max most 0) 65536).toNat (min (max most 0) 65536).toNat ((GSt.start s pb qb mb rp kb).abs.begins bs)).1 ∧ Ext (κ0 pb qb mb rp kb) G'.κ →
      Okk Try.prog Φ h (Go.Conc.G (fr.finish (.tuple #[.int .i8 (AS.run sched (min (max most 0) 65536).toNat (min (max most 0) 65536).toNat ((GSt.start s pb qb mb rp kb).abs.begins bs)).2.1, .bool (AS.run sched (min (max most 0) 65536).toNat (min (max most 0) 65536).toNat ((GSt.start s pb qb mb rp kb).abs.begins bs)).2.2])) (c :: cs)) m' O' Γ') →
      Okk Try.prog Φ h (Go.Conc.G (Frame.enter Try.prog 44 #[.pointer (some ⟨rp, 0, none⟩), .int .i64 (min (max most 0) 65536), .slice ba bs.length bc, .func (.func 45) #[] #[.pointer (some ⟨pb, 0, none⟩), .pointer (some ⟨kb, 0, none⟩)]] .normal) (fr :: c :: cs)) m1 (ranO O h pb qb kb) Γ := fun fr hn' => by
    have := Okk.untilI (X := ⟨Φ, L, rp, mb, E⟩) (most := (min (max most 0) 65536).toNat) (bb := bb) (bc := bc) (c := fr) (cs := c :: cs) bs hEh (hsch pb kb rp mb _ old (mine pb 0 _ (.inl rfl) hp0) (mine kb 0 _ (.inr (.inr rfl)) hk0)) hmin hn64 (hborn rp mb) ba hba (fun j b hj => old _ _ (hbs j b hj)) I S Holds.mine0 rfl rfl H.log rfl rfl hn'
    rw [hmost] at this
    exact this
  simp only [Try.f14]
  refine .ctl0 rfl (fun _ => Go.Conc.stepG_seq) (.ctl0 rfl (fun _ => Go.Conc.stepG_region) ?_)
  refine .val hP rfl rfl rfl (.pointer (some ⟨rp, 0, none⟩)) (fun τ => by simp [go_sem, gh_cell, hk0]) ?_
  walk_nrm
  refine .val hP rfl rfl rfl (.int .i64 most) (fun τ => by simp [go_sem]) ?_
  walk_nrm
  refine .val hP rfl rfl rfl (.int .i64 (max most 0)) (fun τ => by simp [go_sem]; split <;> omega) ?_
  walk_nrm
  refine .val hP rfl rfl rfl (.int .i64 (min (max most 0) 65536)) (fun τ => by simp [go_sem]; split <;> omega) ?_
  walk_nrm
  refine .val hP rfl rfl rfl (.slice ba bs.length bc) (fun τ => by simp [go_sem]) ?_
  walk_nrm
  refine .val hP rfl rfl rfl (.func (.func 45) #[] #[.pointer (some ⟨pb, 0, none⟩), .pointer (some ⟨kb, 0, none⟩)]) (fun τ => by simp [go_sem]) ?_
  walk_nrm
  refine .enter (f := 44) (args := #[.pointer (some ⟨rp, 0, none⟩), .int .i64 (min (max most 0) 65536), .slice ba bs.length bc, .func (.func 45) #[] #[.pointer (some ⟨pb, 0, none⟩), .pointer (some ⟨kb, 0, none⟩)]]) rfl rfl (fun w => ?_) (fun w => ?_) ?_
  · have := (callFunc_enter Try.func44 (by kernel_rfl) rfl #[.pointer (some ⟨rp, 0, none⟩), .int .i64 (min (max most 0) 65536), .slice ba bs.length bc, .func (.func 45) #[] #[.pointer (some ⟨pb, 0, none⟩), .pointer (some ⟨kb, 0, none⟩)]] w).1
    simp [go_sem, this]
  · have := (callFunc_enter Try.func44 (by kernel_rfl) rfl #[.pointer (some ⟨rp, 0, none⟩), .int .i64 (min (max most 0) 65536), .slice ba bs.length bc, .func (.func 45) #[] #[.pointer (some ⟨pb, 0, none⟩), .pointer (some ⟨kb, 0, none⟩)]] w).2
    simp [go_sem, this]
  refine key _ fun m' O' Γ' G' q1 q2 q3 q4 q5 q6 => ?_
  rw [Frame.finish_at]
  walk_nrm
  refine .val hP rfl rfl rfl (.tuple #[.int .i8 (AS.run sched (min (max most 0) 65536).toNat (min (max most 0) 65536).toNat ((GSt.start s pb qb mb rp kb).abs.begins bs)).2.1, .bool (AS.run sched (min (max most 0) 65536).toNat (min (max most 0) 65536).toNat ((GSt.start s pb qb mb rp kb).abs.begins bs)).2.2]) (fun τ => by simp [go_sem]) ?_
  walk_nrm
  refine .val hP rfl rfl rfl (.int .i8 (AS.run sched (min (max most 0) 65536).toNat (min (max most 0) 65536).toNat ((GSt.start s pb qb mb rp kb).abs.begins bs)).2.1) (fun τ => by simp [go_sem]) ?_
  walk_nrm
  refine .val hP rfl rfl rfl (.bool (AS.run sched (min (max most 0) 65536).toNat (min (max most 0) 65536).toNat ((GSt.start s pb qb mb rp kb).abs.begins bs)).2.2) (fun τ => by simp [go_sem]) ?_
  walk_nrm
  refine .val hP rfl rfl rfl (.int .i8 (AS.run sched (min (max most 0) 65536).toNat (min (max most 0) 65536).toNat ((GSt.start s pb qb mb rp kb).abs.begins bs)).2.1) (fun τ => by simp [go_sem]) ?_
  walk_nrm
  refine .val hP rfl rfl rfl (.bool (AS.run sched (min (max most 0) 65536).toNat (min (max most 0) 65536).toNat ((GSt.start s pb qb mb rp kb).abs.begins bs)).2.2) (fun τ => by simp [go_sem]) ?_
  walk_nrm
  refine .ctl0 rfl (fun _ => Go.Conc.stepG_region_end) ?_
  exact hn m1 m' O' Γ' G' pb qb mb rp kb y15 R old mine q1 q2 q3 q4 q6.1 q6.2
end
end Go.Proofs.Ytkbfbphbdljaaaa

/- gate's Run, behind until. Every premise stands in the statements. -/
set_option linter.unusedVariables false
set_option linter.unusedSimpArgs false
namespace Go.Proofs.Ytkbfbphbdljaaaa
open Go.Tre Go.RowKit
open Go.Conc (G base baseD crowd rcase scase)
open Go.ConcN (upd upd_ne upd_same)
variable {Λ : Type}
section
variable [Base]
set_option maxRecDepth 100000 in
set_option maxHeartbeats 4000000 in
theorem Okk.run5 {X : Rn Λ} {h : Nat} {KP : Addr → Option Value} {c : Frame} {cs : List Frame} {m : World} {O : Own} {Γ : Nat → Option Seat} {G : GSt Λ} (e : Int) (qb kb : Nat) (Z : Array Value) (y0 y1 y2 y3 y4 y5 y9 y10 y11 y12 y13 y14 y15 y16 y17 y18 y19 y20 y21 y22 y23 y24 y25 y26 y27 y28 y29 : Value) (hc : Callable c) (hE : X.E h = none)
    (I : MemI X.L X.rp X.mb (fun _ => none) G m O) (S : SeatI X.E h (fun _ => none) G Γ) (hprom : Proms X G) (hKP : Holds KP h m O) (hZ : Z.size = 7) (hq : ∀ j u, Z[j]? = some u → KP ⟨qb, j, none⟩ = some u) (hk : KP ⟨kb, 0, none⟩ = some (.pointer (some ⟨X.rp, 0, none⟩))) (hk5 : G.κ qb = 500)
    (hn : ∀ (m' : World) (O' : Own) (Γ' : Nat → Option Seat) (G' : GSt Λ) (v2 v3 v4 lv fv : Value), MemI X.L X.rp X.mb (fun _ => none) G' m' O' → SeatI X.E h (fun _ => none) G' Γ' → Holds (fun x => if x.block = qb then none else KP x) h m' O' → G'.abs = G.abs.stopFrom 0 G.tds.length →
        Row O' m' 61 8 v2 G'.s.log.length (G'.s.log.flatMap fun a => a.vals.toList) → Row O' m' 3 1 v3 G'.went.length (G'.went.map (Value.int .i64)) → Row O' m' 3 1 v4 G'.ready.length (G'.ready.map (Value.int .i64)) →
        Got O' h m' 8 lv G.abs.left.length (G.abs.left.flatMap fun a => a.vals.toList) → Got O' h m' 1 fv (FL G'.abs.falls G'.tds.length).length (FV G'.abs.falls G'.tds.length) →
        Okk Try.prog X.Φ h (Go.Conc.G (c.finish (.agg #[.int .i8 e, .int .i64 (G'.went.length : Int), v2, v3, v4, lv, fv])) cs) m' O' Γ') :
    Okk Try.prog X.Φ h (Go.Conc.G ((base 14).at ⟨#[y0, y1, y2, y3, y4, y5, .pointer (some ⟨qb, 0, none⟩), .pointer (some ⟨kb, 0, none⟩), .int .i8 e, y9, y10, y11, y12, y13, y14, y15, y16, y17, y18, y19, y20, y21, y22, y23, y24, y25, y26, y27, y28, y29], []⟩ [.code c14_5]) (c :: cs)) m O Γ := by
  have hP := try_plain2
  have hk0 := (mine_some (hKP _ _ hk).1).2.2
  simp only [c14_5, Try.f14]
  refine .ctl0 rfl (fun _ => Go.Conc.stepG_seq) (.ctl0 rfl (fun _ => Go.Conc.stepG_region) ?_)
  refine .val hP rfl rfl rfl (.pointer (some ⟨X.rp, 0, none⟩)) (fun τ => by simp [go_sem, gh_cell, hk0]) ?_
  walk_nrm
  refine .val hP rfl rfl rfl (.int .i8 e) (fun τ => by simp [go_sem]) ?_
  walk_nrm
  refine .enter (f := 46) (args := #[.pointer (some ⟨X.rp, 0, none⟩), .int .i8 e]) rfl rfl (fun w => ?_) (fun w => ?_) ?_
  · have := (callFunc_enter Try.func46 (by kernel_rfl) rfl #[.pointer (some ⟨X.rp, 0, none⟩), .int .i8 e] w).1
    simp [go_sem, this]
  · have := (callFunc_enter Try.func46 (by kernel_rfl) rfl #[.pointer (some ⟨X.rp, 0, none⟩), .int .i8 e] w).2
    simp [go_sem, this]
  refine Okk.reportI e (Callable.mk rfl) hE I S hprom hKP fun m3 O3 Γ3 G3 v2 v3 v4 lv fv I3 S3 hK3 ha3 hE3 hR2 hR3 hR4 hgl hgf hll hfl => ?_
  have qlt : qb < m.heap.size := by
    obtain ⟨z1, z2, z3⟩ := mine_some (hKP _ _ (hq 0 (Z[0]!) (by rw [getElem!_pos Z 0 (by omega)]; exact Array.getElem?_eq_getElem (by omega)))).1
    exact World.block_lt_of_cell? m _ z3
  have hk3 : G3.κ qb = 500 := (hE3 qb (by rw [hk5]; decide)).trans hk5
  have zc : ∀ j, j < 7 → m3.cell? ⟨qb, j, none⟩ = some (Z[j]!) ∧ Base.b0 ≤ qb ∧ O3.o qb = some h ∧ O3.pre qb = 0 := fun j hj => by
    have hz : Z[j]? = some (Z[j]!) := by rw [getElem!_pos Z j (by omega)]; exact Array.getElem?_eq_getElem (by omega)
    obtain ⟨q1, q2⟩ := hK3 _ _ (hq j _ hz)
    obtain ⟨z1, z2, z3⟩ := mine_some q1
    exact ⟨z3, z1, q2⟩
  have ff : ∀ j τ, (re (O3.gh h m3) τ 0).frozen? ⟨qb, j, none⟩ = false := fun j τ => by
    obtain ⟨_, b, o, p⟩ := zc 0 (by decide)
    exact gh_free (m := m3) b (.inr o) (by show O3.pre qb ≤ j; rw [p]; exact Nat.zero_le _)
  have cl : ∀ j τ, j < 7 → (re (O3.gh h m3) τ 0).cell? ⟨qb, j, none⟩ = some (Z[j]!) := fun j τ hj => by rw [re_cell?, gh_cell]; exact (zc j hj).1
  obtain ⟨s2, c2, e2⟩ := Row.shape hR2
  obtain ⟨s3, c3, e3⟩ := Row.shape hR3
  obtain ⟨s4, c4, e4⟩ := Row.shape hR4
  obtain ⟨sl, nl, cl', el⟩ : ∃ a l c, lv = .slice a l c := by rcases hgl.2 with ⟨z, _⟩ | ⟨g, cap, z, _⟩ <;> exact ⟨_, _, _, z⟩
  obtain ⟨sf, nf, cf, ef⟩ : ∃ a l c, fv = .slice a l c := by rcases hgf.2 with ⟨z, _⟩ | ⟨g, cap, z, _⟩ <;> exact ⟨_, _, _, z⟩
  rw [Frame.finish_at]
  walk_nrm
  refine .unit hP rfl rfl rfl (R := fun g' => Upto (fun a => a.block = qb) m3 g' ∧ g'.cell? ⟨qb, 0, none⟩ = some (.int .i8 e) ∧ g'.cell? ⟨qb, 1, none⟩ = some (.int .i64 (G3.went.length : Int)) ∧ g'.cell? ⟨qb, 2, none⟩ = some v2 ∧ g'.cell? ⟨qb, 3, none⟩ = some v3 ∧ g'.cell? ⟨qb, 4, none⟩ = some v4 ∧ g'.cell? ⟨qb, 5, none⟩ = some lv ∧ g'.cell? ⟨qb, 6, none⟩ = some fv) (fun τ => ?_) ?_
  · have f0 := ff 0 τ; have f1 := ff 1 τ; have f2 := ff 2 τ; have f3 := ff 3 τ; have f4 := ff 4 τ; have f5 := ff 5 τ; have f6 := ff 6 τ
    have q0 := cl 0 τ (by decide); have q1 := cl 1 τ (by decide); have q2 := cl 2 τ (by decide); have q3 := cl 3 τ (by decide); have q4 := cl 4 τ (by decide); have q5 := cl 5 τ (by decide); have q6 := cl 6 τ (by decide)
    have hu : Upto (fun a => a.block = qb) m3 (re (O3.gh h m3) τ 0) := (Upto.gh (O := O3) (h := h)).trans (Upto.of_heap rfl)
    generalize re (O3.gh h m3) τ 0 = W at *
    subst e2 e3 e4 el ef
    refine ⟨((((((W.setCell ⟨qb, 0, none⟩ (.int .i8 e)).setCell ⟨qb, 1, none⟩ (.int .i64 (G3.went.length : Int))).setCell ⟨qb, 2, none⟩ (.slice s2 G3.s.log.length c2)).setCell ⟨qb, 3, none⟩ (.slice s3 G3.went.length c3)).setCell ⟨qb, 4, none⟩ (.slice s4 G3.ready.length c4)).setCell ⟨qb, 5, none⟩ (.slice sl nl cl')).setCell ⟨qb, 6, none⟩ (.slice sf nf cf), by simp [go_sem, f0, f1, f2, f3, f4, f5, f6, q0, q1, q2, q3, q4, q5, q6], .set (.set (.set (.set (.set (.set (.set hu rfl) rfl) rfl) rfl) rfl) rfl) rfl, ?_⟩
    simp [go_sem, q0, q1, q2, q3, q4, q5, q6]
  intro m4 ⟨hu4, p0, p1, p2, p3, p4, p5, p6⟩ _
  walk_nrm
  refine .ctl0 rfl (fun _ => Go.Conc.stepG_region_end) ?_
  refine Okk.rest hP Try.func14 (by simp [okCode]) (R := fun v w' => v = .agg #[.int .i8 e, .int .i64 (G3.went.length : Int), v2, v3, v4, lv, fv] ∧ Upto (fun _ => False) m4 w') hc (fun τ => ?_) ?_
  · have cl4 : ∀ {a : Addr} {u : Value}, m4.cell? a = some u → (re (O3.gh h m4) τ 0).cell? a = some u := fun {a u} ha => by rw [re_cell?, gh_cell]; exact ha
    replace p0 := cl4 p0
    replace p1 := cl4 p1
    replace p2 := cl4 p2
    replace p3 := cl4 p3
    replace p4 := cl4 p4
    replace p5 := cl4 p5
    replace p6 := cl4 p6
    have hu : Upto (fun _ => False) m4 (re (O3.gh h m4) τ 0) := (Upto.gh (O := O3) (h := h)).trans (Upto.of_heap rfl)
    generalize re (O3.gh h m4) τ 0 = W at *
    subst e2 e3 e4 el ef
    go_wp2
    (try simp only [Exit.inBlock, Exit.then])
    refine bodyPost_ret (v := .agg #[.int .i8 e, .int .i64 (G3.went.length : Int), .slice s2 G3.s.log.length c2, .slice s3 G3.went.length c3, .slice s4 G3.ready.length c4, .slice sl nl cl', .slice sf nf cf]) ?_ rfl ⟨_, rfl, rfl, hu⟩
    simp [results, go_sem, Try.f14, p0, p1, p2, p3, p4, p5, p6]
  rintro _ m5 ⟨rfl, hu5⟩ _
  have hu : Upto (fun a => a.block = qb) m3 m5 := hu4.trans (hu5.mono (fun _ z => z.elim))
  have I5 := I3.priv hu (by rw [hk3]; exact Nat.le_refl _)
  have ne : qb ≠ X.rp := fun z => by have := I3.k1; rw [← z, hk3] at this; cases this
  have kne : ∀ cc, cc < 500 → ∀ a : Addr, a.block = qb → G3.κ a.block ≠ cc := fun cc h1 a ha => by rw [ha, hk3]; omega
  have row : ∀ {ty : TypeId} {sz n : Nat} {v : Value} {xs : List Value}, Row O3 m3 ty sz v n xs → Row O3 m5 ty sz v n xs := fun {ty sz n v xs} hR => hR.upto hu fun g i hg hW => by
    rcases hR.2 with ⟨rfl, _⟩ | ⟨g', cap, cur, f, rfl, _, ho, _⟩
    · cases hg
    · simp only [Value.ownBlock, Option.some.injEq] at hg
      simp only at hW
      have := (zc 0 (by decide)).2.2.1
      rw [← hW, ← hg, ho] at this; cases this
  refine hn m5 O3 Γ3 G3 v2 v3 v4 lv fv I5 S3 (fun x u hx => ?_) ha3 (row hR2) (row hR3) (row hR4) (hgl.upto hu (fun z => by have := hll _ z; omega)) (hgf.upto hu (fun z => by have := hfl _ z; omega))
  simp only at hx
  split at hx
  · cases hx
  · rename_i hb
    obtain ⟨q1, q2⟩ := hK3 x u hx
    obtain ⟨z1, z2, z3⟩ := mine_some q1
    exact ⟨mine_of z1 z2 (hu.cell _ _ z3 hb), q2⟩
end
end Go.Proofs.Ytkbfbphbdljaaaa

/- gate's Run, whole. Every premise stands in the statements. -/
set_option linter.unusedVariables false
set_option linter.unusedSimpArgs false
namespace Go.Proofs.Ytkbfbphbdljaaaa
open Go.Tre Go.RowKit
open Go.Conc (G base baseD crowd rcase scase)
open Go.ConcN (upd upd_ne upd_same)
variable {Λ : Type}
/-- Nobody has gone yet. -/
def AS.start (s : Sh Λ) : AS Λ := (GSt.start s 0 0 0 0 0).abs
/-- The run that 'Run' makes: its state, its end, and whether there is one. -/
def AS.runs (sched : AS Λ → Option Nat) (most : Int) (s : Sh Λ) (bs : List (Bd Λ)) : AS Λ × Int × Bool := AS.run sched (min (max most 0) 65536).toNat (min (max most 0) 65536).toNat ((AS.start s).begins bs)
/-- All that is left is stopped. -/
def AS.stopAll (A : AS Λ) : AS Λ := A.stopFrom 0 A.ths.length
section
variable [Base]
set_option maxRecDepth 100000 in
set_option maxHeartbeats 4000000 in
/-- ████ Run ████ -/
theorem Okk.runI {Φ : Value → World → Prop} {L : Lw Λ} {E : Nat → Option Seat} {h : Nat} {c : Frame} {cs : List Frame} {m : World} {O : Own} {Γ : Nat → Option Seat} {pa ba : Option Addr} {pn pc bb bc : Nat} {most : Int} {s : Sh Λ} {sched : AS Λ → Option Nat} (bs : List (Bd Λ)) (hc : Callable c)
    (hE : ∀ k sc, E k = some sc ↔ k ≠ h ∧ Γ k = some sc) (hEh : E h = none) (hb : Base.b0 ≤ m.heap.size) (H : Ready L s m O) (hn64 : bs.length ≤ 64) (hborn : ∀ rp mb, ∀ b ∈ bs, Born ⟨Φ, L, rp, mb, E⟩ b.fv b.init b.child)
    (hba : bs ≠ [] → ba = some ⟨bb, 0, none⟩) (hbs : ∀ (j : Nat) (b : Bd Λ), bs[j]? = some b → O.mine0 h m ⟨bb, j, none⟩ = some b.fv)
    (hsch : ∀ (pb kb rp mb : Nat) (KP : Addr → Option Value), (∀ x v, O.mine0 h m x = some v → KP x = some v) → KP ⟨pb, 0, none⟩ = some (.slice pa pn pc) → KP ⟨kb, 0, none⟩ = some (.pointer (some ⟨rp, 0, none⟩)) → SchedC ⟨Φ, L, rp, mb, E⟩ h (.func (.func 45) #[] #[.pointer (some ⟨pb, 0, none⟩), .pointer (some ⟨kb, 0, none⟩)]) KP sched)
    (hn : ∀ (m' : World) (O' : Own) (Γ' : Nat → Option Seat) (G' : GSt Λ) (rp mb : Nat) (v2 v3 v4 lv fv : Value), MemI L rp mb (fun _ => none) G' m' O' → SeatI E h (fun _ => none) G' Γ' → Holds (O.mine0 h m) h m' O' → G'.abs = (AS.runs sched most s bs).1.stopAll →
        Row O' m' 61 8 v2 G'.s.log.length (G'.s.log.flatMap fun a => a.vals.toList) → Row O' m' 3 1 v3 G'.went.length (G'.went.map (Value.int .i64)) → Row O' m' 3 1 v4 G'.ready.length (G'.ready.map (Value.int .i64)) →
        Got O' h m' 8 lv (AS.runs sched most s bs).1.left.length ((AS.runs sched most s bs).1.left.flatMap fun a => a.vals.toList) → Got O' h m' 1 fv (FL G'.abs.falls G'.tds.length).length (FV G'.abs.falls G'.tds.length) →
        Okk Try.prog Φ h (Go.Conc.G (c.finish (.agg #[.int .i8 (AS.runs sched most s bs).2.1, .int .i64 (G'.went.length : Int), v2, v3, v4, lv, fv])) cs) m' O' Γ') :
    Okk Try.prog Φ h (Go.Conc.G (Frame.enter Try.prog 14 #[.slice pa pn pc, .int .i64 most, .slice ba bs.length bc] .normal) (c :: cs)) m O Γ := by
  refine Okk.run2 bs hE hEh hb H hn64 hborn hba hbs hsch fun m1 m' O' Γ' G' pb qb mb rp kb y15 R old mine I S hp hH ha hEx => ?_
  obtain ⟨l1, l2, l3, l4, l5⟩ := R.lo
  obtain ⟨n1, n2, n3, n4, n5⟩ := R.ne
  obtain ⟨Z, hZ, f, hq⟩ := R.q
  have ha' : G'.abs = (AS.runs sched most s bs).1 := ha
  have hk0 : m1.cell? ⟨kb, 0, none⟩ = some (.pointer (some ⟨rp, 0, none⟩)) := by simp only [World.cell?, R.k]; rfl
  have hk5 : κ0 pb qb mb rp kb qb = 500 := by simp only [κ0]; rw [if_neg (by omega), if_neg (by omega)]; simp
  refine Okk.run5 (X := ⟨Φ, L, rp, mb, E⟩) _ qb kb Z _ _ _ _ _ _ _ _ _ _ _ _ _ _ _ _ _ _ _ _ _ _ _ _ _ _ _ hc hEh I S hp hH hZ (fun j u hj => mine qb j u (.inr (.inl rfl)) (by simp only [World.cell?, hq]; exact hj)) (mine kb 0 _ (.inr (.inr rfl)) hk0) ((hEx qb (by rw [hk5]; decide)).trans hk5) ?_
  intro m3 O3 Γ3 G3 v2 v3 v4 lv fv I3 S3 hH3 ha3 r2 r3 r4 gl gf
  have htl : G'.tds.length = (AS.runs sched most s bs).1.ths.length := by rw [← ha']; simp [GSt.abs]
  refine hn m3 O3 Γ3 G3 rp mb v2 v3 v4 lv fv I3 S3 (fun x u hx => hH3 x u ?_) (by rw [ha3, ha', htl]; rfl) r2 r3 r4 (by rw [← ha']; exact gl) gf
  have hlt := World.block_lt_of_cell? m x (mine_some (Holds.mine0 x u hx).1).2.2
  simp only
  rw [if_neg (by omega)]
  exact old x u hx
end
end Go.Proofs.Ytkbfbphbdljaaaa
