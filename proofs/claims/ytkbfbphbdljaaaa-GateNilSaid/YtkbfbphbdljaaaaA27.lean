/- Texts of one proof, joined: each says what it proves. Every premise stands in the statements. -/
import Derived.Test.YtkbfbphbdljaaaaA26
/- gate's Step as a thread's access. Every premise stands in the statements. -/
set_option linter.unusedVariables false
set_option linter.unusedSimpArgs false
namespace Go.Proofs.Ytkbfbphbdljaaaa
open Go.Tre Go.RowKit
open Go.Conc (G base baseD crowd rcase scase)
open Go.ConcN (upd upd_ne upd_same)
variable {Λ : Type}
section
variable [Base]
omit [Base] in
theorem SeatI.as {E : Nat → Option Seat} {h : Nat} {B : Nat → Option Nat} {G G' : GSt Λ} {Γ : Nat → Option Seat} (S : SeatI E h B G Γ) (e : G'.tds = G.tds) : SeatI E h B G' Γ :=
  ⟨S.env, fun i td => by rw [e]; exact S.lives i td, fun i td => by rw [e]; exact S.stands i td, fun i td b => by rw [e]; exact S.runs i td b, fun i td k sc => by rw [e]; exact S.wk i td k sc, fun i td k sc => by rw [e]; exact S.sd i td k sc, fun i j td td' => by rw [e]; exact S.inj i j td td', fun k sc => by rw [e]; exact S.out k sc⟩

/-- Memory behind the making of a row that is h's alone. -/
theorem MemI.take {L : Lw Λ} {rp mb : Nat} {B : Nat → Option Nat} {G : GSt Λ} {m m' : World} {O : Own} {h ab : Nat} (I : MemI L rp mb B G m O) (hu : Upto (fun _ => False) m m') (hab : m.heap.size ≤ ab) (hlt : ab < m'.heap.size) (c : Nat) :
    MemI L rp mb B { G with κ := fun x => if x = ab then c else G.κ x } m' (O.take h ab) := by
  have ne : ∀ b, b < m.heap.size → b ≠ ab := fun b hb => by omega
  have o1 : ∀ b, b < m.heap.size → (O.take h ab).o b = O.o b ∧ (O.take h ab).pre b = O.pre b := fun b hb => ⟨by simp only [Own.take]; rw [if_neg (ne b hb)], rfl⟩
  have k0 : G.κ ab = 0 := by
    cases e : G.κ ab with
    | zero => rfl
    | succ n => have := I.klt ab (by omega); omega
  have I1 := I.law' (l' := G.s.lam) (O' := O.take h ab) hu (fun a h => h.elim) (fun b hb _ => o1 b (I.klt b hb)) (fun a x hx => o1 _ (I.vlt hx)) (I.lawStays (O' := O.take h ab) hu (fun a h => h.elim) (fun a ha => o1 _ (L.low I.law ha))) I.kl I.good
  exact I1.color k0 hlt (fun a x hx => ne _ (I.vlt hx)) (fun a ha => ne _ (L.low I.law ha))

set_option maxHeartbeats 4000000 in
set_option maxRecDepth 100000 in
/-- ████ Step: the thread stands at its access; when it is let go it does it, or, stopped, panics. ████ -/
theorem Okk.stepI {X : Rn Λ} {i h b : Nat} {sb : Seat} {B : Nat → Option Nat} {G : GSt Λ} {td : TD Λ} {m : World} {O : Own} {Γ : Nat → Option Seat} {c : Frame} {cs : List Frame} {vb vo : Nat} {op arg next : Int}
    {seg : Ans → Sh Λ → Sh Λ} {nx : Ans → Sh Λ → Th Λ} {stop : Sh Λ → Sh Λ} (hR : Runs X i h b sb B G td m O Γ) (hst : G.st = false) (ho1 : 1 ≤ op) (ho6 : op ≤ 6) (hv : (G.s.vals ⟨vb, vo, none⟩).isSome = true) (hcf : Callable c)
    (hgo : ∀ (m' : World) (O' : Own) (Γ' : Nat → Option Seat) (G' : GSt Λ) (b' : Nat) (sb' : Seat) (B' : Nat → Option Nat) (d : TD Λ) (s₀ : Sh Λ), Like d td → G'.st = false →
      G'.s = s₀.acc i op ⟨vb, vo, none⟩ (if op = 1 then 0 else arg) (if op = 3 then next else 0) → Runs X i h b' sb' B' G' d m' O' Γ' → Priv td.tp h m O m' O' → G'.s.log.length + 9999 ≤ G'.cap →
      Ext G.κ G'.κ → Back X b' sb' (upd B' i none) (fun G'' => Next (Prom X (nx (s₀.ans op ⟨vb, vo, none⟩ (if op = 1 then 0 else arg) (if op = 3 then next else 0)) G'.s) i) G' i d (seg (s₀.ans op ⟨vb, vo, none⟩ (if op = 1 then 0 else arg) (if op = 3 then next else 0)) G'.s) (nx (s₀.ans op ⟨vb, vo, none⟩ (if op = 1 then 0 else arg) (if op = 3 then next else 0)) G'.s) G'') →
      Okk Try.prog X.Φ h (Go.Conc.G (c.finish (.tuple #[.int .i64 (s₀.ans op ⟨vb, vo, none⟩ (if op = 1 then 0 else arg) (if op = 3 then next else 0)).was, .int .i64 (s₀.ans op ⟨vb, vo, none⟩ (if op = 1 then 0 else arg) (if op = 3 then next else 0)).now, .bool (s₀.ans op ⟨vb, vo, none⟩ (if op = 1 then 0 else arg) (if op = 3 then next else 0)).ok])) cs) m' O' Γ')
    (hstop : ∀ (m' : World) (O' : Own) (Γ' : Nat → Option Seat) (G' : GSt Λ) (b' : Nat) (sb' : Seat) (B' : Nat → Option Nat) (d : TD Λ), Like d td → G'.st = true → Runs X i h b' sb' B' G' d m' O' Γ' → Priv td.tp h m O m' O' → Ext G.κ G'.κ →
      Back X b' sb' (upd B' i none) (fun G'' => Next (fun _ _ => True) G' i d (stop G'.s) (.over false) G'') →
      Okk Try.prog X.Φ h (Go.Conc.G (c.raise [{ v := stopV, recovered := false }]) cs) m' O' Γ')
    (hback : Back X b sb (upd B i none) (fun G' => Next (Prom X (.acc op ⟨vb, vo, none⟩ (if op = 1 then 0 else arg) (if op = 3 then next else 0) seg nx stop) i) G i td G.s (.acc op ⟨vb, vo, none⟩ (if op = 1 then 0 else arg) (if op = 3 then next else 0) seg nx stop) G')) :
    Okk Try.prog X.Φ h (Go.Conc.G (Frame.enter Try.prog 13 #[.pointer (some ⟨td.tp, 0, none⟩), .pointer (some ⟨vb, vo, none⟩), .int .i8 op, .int .i64 arg, .int .i64 next] .normal) (c :: cs)) m O Γ := by
  have hP := try_plain
  obtain rfl : td.g = h := hR.g
  refine Okk.fresh fun hF => ?_
  have D := hR.mem.td i td hR.ix
  have hB := hR.B
  have hen := D.ended
  rw [hB] at hen D
  obtain ⟨own, pre, _, _⟩ := D.lives rfl
  refine Okk.stepTo D.r D.number hen ho1 ho6 fun m1 ab hab hu1 hc1 => ?_
  generalize (if op = 1 then (0 : Int) else arg) = a' at *
  generalize (if op = 3 then next else (0 : Int)) = n' at *
  have hlt1 : ab < m1.heap.size := (Array.getElem?_eq_some_iff.1 hc1).1
  have hab0 := hF ab hab
  have htpl : td.tp < m.heap.size := World.block_lt_of_cell? m _ D.r
  have hbb : Base.b0 ≤ ab := by have := hR.mem.b0; have := hR.mem.rlt; omega
  refine Okk.own (O' := O.take td.g ab) (Own.le.take (.inl hab0.1)) (fun hf => (Fresh.take (m := m1) (fun b hb => hF b (by have := hu1.size; omega)) hlt1)) ?_
  have I1 := hR.mem.take (h := td.g) hu1 hab hlt1 500
  have E1 : Ext G.κ (fun x => if x = ab then 500 else G.κ x) := fun x hx => by
    show (if _ then _ else _) = _
    rw [if_neg (fun e => by subst e; have := hR.mem.klt _ hx; omega)]
  have D1 := I1.td i td hR.ix
  rw [hB] at D1
  obtain ⟨own1, pre1, ⟨kw, hkw⟩, kd, hkd⟩ := D1.lives rfl
  obtain ⟨t1, t2, t3, t4, t5⟩ := hR.mem.kt i td hR.ix
  have hst1 : m1.cell? ⟨X.rp, 6, none⟩ = some (.bool false) := by have := I1.stops; rw [hst] at this; exact this
  obtain ⟨o4, h4⟩ := D1.v
  obtain ⟨aa, haa⟩ := D1.at_
  refine Okk.stands (pv := some ⟨vb, vo, none⟩) (a := Acc.mk i op (-1) a' n' 0 0 false) (sc := sb) (s := b) hP D1.b0 own1 pre1 D1.r D1.wake D1.stood hst1 (fun e => by have := hR.mem.k1; rw [e] at this; omega) h4 haa hR.boss hR.bc hR.ne hkd ⟨kw, hkw⟩
    (fun k s₂ hk _ hs e => hk ((hR.seat.wk i td k s₂ hR.ix (by rw [hB]; rfl) hk hs e).1)) fun m2 R2 hu2 hv2 ha2 hres g₂ hg₂ hk1 hk2 => ?_
  have prom : Prom X (.acc op ⟨vb, vo, none⟩ a' n' seg nx stop) i { td with seat := stdSeat td.cw R2 (O.take td.g ab) td.g m2, T := .acc op ⟨vb, vo, none⟩ a' n' seg nx stop } (fun x => if x = ab then 500 else G.κ x) := by
    intro R3 hR3 m3 O3 Γ3 G3 b3 sb3 B3 hRuns' hKept hExt hcap hBack
    obtain rfl : R3 = R2 := hR3
    replace hRuns' : Runs X i td.g b3 sb3 B3 G3 { td with seat := stdSeat td.cw R3 (O.take td.g ab) td.g m2, T := .acc op ⟨vb, vo, none⟩ a' n' seg nx stop } m3 O3 Γ3 := hRuns'
    replace hKept : Kept (stdSeat td.cw R3 (O.take td.g ab) td.g m2) td.g m3 O3 := hKept
    have D3 := hRuns'.mem.td i _ hRuns'.ix
    have hE3 : Ext G.κ G3.κ := E1.trans hExt
    have hPriv : Priv td.tp td.g m O m3 O3 := by
      constructor
      · intro x v hx hne
        obtain ⟨z1, z2, z3⟩ := mine_some hx
        have hxl := World.block_lt_of_cell? m x z3
        refine hKept.1 x v (mine_of z1 ?_ (hu2.cell _ _ (hu1.cell _ _ z3 (fun z => z)) (fun z => hne z.1)))
        rcases z2 with z | z
        · left; simp only [Own.take]; rw [if_neg (by omega)]; exact z
        · exact .inr z
      · intro y n hy
        obtain ⟨z1, z2⟩ := mineB_some hy
        have : y ≠ ab := fun e => by rw [e, hab0.1] at z1; cases z1
        have := hKept.2 y n (by have := mineB_of (O := O.take td.g ab) (h := td.g) (b := y) (by simp only [Own.take]; rw [if_neg this]; exact z1); rw [← z2]; exact this)
        exact this
    refine hres m3 O3 Γ3 G3.st _ D3.r hRuns'.mem.stops ?_
    cases hst3 : G3.st with
    | true =>
      simp only [if_true]
      rw [hst3] at hBack
      simp only [if_true] at hBack
      refine Okk.raise rfl rfl rfl ?_
      exact hstop m3 O3 Γ3 G3 b3 sb3 B3 { td with seat := stdSeat td.cw R3 (O.take td.g ab) td.g m2, T := .acc op ⟨vb, vo, none⟩ a' n' seg nx stop } ⟨rfl, rfl, rfl, rfl, rfl, rfl⟩ hst3 hRuns' hPriv hE3 hBack
    | false =>
      simp only [Bool.false_eq_true, if_false]
      rw [hst3] at hBack
      simp only [Bool.false_eq_true, if_false] at hBack
      have hcap3 := hcap hst3
      refine Okk.fresh fun hF3 => ?_
      unfold fr13
      rw [Frame.finish_at]
      simp only [t13_5]
      walk_nrm
      refine .ctl0 rfl (fun _ => Go.Conc.stepG_region_end) ?_
      have I3 := hRuns'.mem
      have sv : (G3.s.vals ⟨vb, vo, none⟩).isSome = true := by
        exact hRuns'.v _ rfl _ rfl
      obtain ⟨x, hx⟩ := Option.isSome_iff_exists.1 sv
      obtain ⟨v2, hv2, hR2, hk2c⟩ := I3.log
      have kab : G3.κ ab = 500 := by have := hExt ab (by show (if _ then _ else _) ≠ 0; rw [if_pos rfl]; decide); rw [this]; show (if _ then _ else _) = _; rw [if_pos rfl]
      have kv : G3.κ vb = 0 := I3.k0 _ _ hx
      obtain ⟨s1, s2, s3, s4, s5⟩ := I3.kt i _ hRuns'.ix
      have k1 := I3.k1
      have acl : ∀ j u, (m2.cell? ⟨ab, j, none⟩ = some u) → O3.o ab = some td.g ∧ m3.cell? ⟨ab, j, none⟩ = some u := fun j u hj => by
        have := hKept.1 ⟨ab, j, none⟩ u (mine_of hbb (.inl (by simp [Own.take])) hj)
        have := this.2
        refine ⟨?_, this.2⟩
        exact (hKept.2 ab 0 (by have : (O.take td.g ab).mineB td.g ab = some ((O.take td.g ab).pre ab) := mineB_of (by simp [Own.take]); show (O.take td.g ab).mineB td.g ab = some 0; rw [this]; show some (O.pre ab) = _; rw [hab0.2])).1
      have hmb : O3.o ab = some td.g ∧ O3.pre ab = 0 := hKept.2 ab 0 (by have : (O.take td.g ab).mineB td.g ab = some ((O.take td.g ab).pre ab) := mineB_of (by simp [Own.take]); show (O.take td.g ab).mineB td.g ab = some 0; rw [this]; show some (O.pre ab) = _; rw [hab0.2])
      have a2 : ∀ j (hj : j < 8), m2.cell? ⟨ab, j, none⟩ = some ((Acc.mk i op (-1) a' n' 0 0 false).vals[j]'hj) := fun j hj => hu2.cell _ _ (cell_of_cells hc1 hj) (fun z => by have e := z.1; simp only at e; omega)
      have a3 : (Acc.mk i op (-1) a' n' 0 0 false).at m3 ab 0 := ⟨(acl 0 _ (a2 0 (by decide))).2, (acl 1 _ (a2 1 (by decide))).2, (acl 2 _ (a2 2 (by decide))).2, (acl 3 _ (a2 3 (by decide))).2, (acl 4 _ (a2 4 (by decide))).2, (acl 5 _ (a2 5 (by decide))).2, (acl 6 _ (a2 6 (by decide))).2, (acl 7 _ (a2 7 (by decide))).2⟩
      have hfree : ∀ τ a, (G3.s.vals a).isSome = true → FreeRow (re (O3.gh td.g m3) τ 0) a := fun τ a ha => by
        obtain ⟨y, hy⟩ := Option.isSome_iff_exists.1 ha
        obtain ⟨z1, z2, z3, z4, z5⟩ := I3.vals a y hy
        obtain ⟨c', e', f', h', _⟩ := cells_of_cell z1
        exact ⟨c', e', gh_open z2 z3 z4 h'⟩
      have hT : ∀ τ, T13 (re (O3.gh td.g m3) τ 0) td.tp X.rp X.mb ab vb vo (Acc.mk i op (-1) a' n' 0 0 false) x G3.s.names Base.b0 v2 G3.s.log.length (G3.s.log.flatMap fun a => a.vals.toList) := fun τ => by
        refine ⟨by rw [re_cell?, gh_cell]; exact D3.r, by rw [re_cell?, gh_cell]; exact I3.c1, by rw [re_cell?, gh_cell]; exact hv2, gh_free I3.b0 (.inl I3.ro.1) (by rw [I3.ro.2]; exact Nat.zero_le _), gh_other I3.map (by simp), hfree τ _ sv, fun y hy => hfree τ y (I3.nv y hy), ?_, fun j => gh_free hbb (.inr hmb.1) (by rw [hmb.2]; exact Nat.zero_le _), by rw [re_cell?, gh_cell]; exact (I3.vals _ _ hx).1, hR2.owns rfl, ?_, ?_, ?_⟩
        · obtain ⟨q0, q1, q2, q3, q4, q5, q6, q7⟩ := a3
          exact ⟨by rw [re_cell?, gh_cell]; exact q0, by rw [re_cell?, gh_cell]; exact q1, by rw [re_cell?, gh_cell]; exact q2, by rw [re_cell?, gh_cell]; exact q3, by rw [re_cell?, gh_cell]; exact q4, by rw [re_cell?, gh_cell]; exact q5, by rw [re_cell?, gh_cell]; exact q6, by rw [re_cell?, gh_cell]; exact q7⟩
        · show Base.b0 ≤ (O3.gh td.g m3).heap.size
          rw [gh_size]; have := I3.b0; have := I3.rlt; omega
        · refine ⟨fun e => ?_, fun e => ?_, fun e => ?_, fun e => ?_, fun e => ?_, fun e => ?_⟩
          · rw [e] at kab; simp only at s1; omega
          · rw [e] at kab; omega
          · rw [e] at kab; omega
          · rw [e] at kv; simp only at s1; omega
          · rw [e] at kv; omega
          · rw [e] at k1; simp only at s1; omega
        · refine ⟨fun e => ?_, fun e => ?_, fun e => ?_, fun e => ?_⟩ <;> have z := hk2c _ e
          · simp only at s1; omega
          · omega
          · omega
          · omega
      refine Okk.rest (R := fun v g' => v = .tuple #[.int .i64 x, .int .i64 (behind op x a' n').1, .bool (behind op x a' n').2] ∧ ∃ w, Upto (fun _ => False) m3 w ∧ P13 w g' X.rp X.mb ab vb vo ⟨i, op, G3.s.names.idxOf ⟨vb, vo, none⟩, a', n', x, (behind op x a' n').1, (behind op x a' n').2⟩ (G3.s.name ⟨vb, vo, none⟩) Base.b0 v2 G3.s.log.length (G3.s.log.flatMap fun a => a.vals.toList)) hP Try.func13 (by simp [c13_5, Try.f13, okCode, okOp, plS, plE]) hcf (fun τ => ?_) ?_
      · refine s13_tail op a' n' _ (hT τ) ho1 ho6 rfl (by have := I3.cap; omega) fun w' hp => ⟨_, rfl, rfl, re (O3.gh td.g m3) τ 0, (Upto.gh (O := O3) (h := td.g)).heap rfl, ?_⟩
        simp only [Sh.name]
        exact hp
      · rintro _ m4 ⟨rfl, w, hw, hp⟩ _
        obtain ⟨κ4, hE4, I4⟩ := I3.access hF3 hx (by omega) hw hv2 hp (by omega)
        have hans : G3.s.ans op ⟨vb, vo, none⟩ a' n' = ⟨x, (behind op x a' n').1, (behind op x a' n').2⟩ := by simp [Sh.ans, hx]
        have hgo' := hgo m4 O3 Γ3 { G3 with s := G3.s.acc i op ⟨vb, vo, none⟩ a' n', κ := κ4 } b3 sb3 B3 { td with seat := stdSeat td.cw R3 (O.take td.g ab) td.g m2, T := .acc op ⟨vb, vo, none⟩ a' n' seg nx stop } G3.s ⟨rfl, rfl, rfl, rfl, rfl, rfl⟩ hst3 rfl ⟨I4, hRuns'.seat.as rfl, hRuns'.ix, rfl, hRuns'.B, hRuns'.ne, hRuns'.boss, hRuns'.bc, hRuns'.be, hRuns'.fell, fun q hq v' hv' => by cases hq; cases hv'; simp [Sh.acc]⟩ ?_ (by simp only [Sh.acc, List.length_append, List.length_singleton]; omega) (hE3.trans hE4) (hBack.mono fun G4 h4 => ?_)
        · rw [hans] at hgo'; exact hgo'
        · obtain ⟨p1, p2⟩ := hPriv
          refine ⟨fun y v hy hne => ?_, p2⟩
          obtain ⟨z1, z2, z3⟩ := p1 y v hy hne
          obtain ⟨_, _, zc⟩ := mine_some hy
          have hyl := World.block_lt_of_cell? m y zc
          refine ⟨z1, z2, ?_⟩
          refine hp.u.cell _ _ (hw.cell _ _ z3 (fun z => z)) fun hz => ?_
          have nopub : ∀ bb, y.block = bb → O3.o bb = none → O3.pre bb = 0 → False := fun bb e o p => by
            rw [e, o, p] at z2
            rcases z2 with z | z
            · cases z
            · omega
          rcases hz with hz | hz | hz | hz | hz
          · obtain ⟨_, _, q3, q4, _⟩ := I3.vals _ _ hx
            exact nopub vb (congrArg Addr.block hz) q3 q4
          · obtain ⟨c', e', f', h', _⟩ := cells_of_cell z3
            rw [hz, I3.map] at h'; cases h'
          · exact nopub X.rp (congrArg Addr.block hz) I3.ro.1 I3.ro.2
          · rcases hR2.2 with ⟨q, _⟩ | ⟨g, cap, cur, f, q, _, qo, qp, _⟩
            · rw [q] at hz; cases hz
            · rw [q] at hz
              simp only [Value.ownBlock, Option.some.injEq] at hz
              exact nopub g hz qo qp
          · omega
        · obtain ⟨sc', κ, e1, e2, e3⟩ := h4
          exact ⟨sc', κ, hE4.trans e1, e2, e3⟩
  refine hback g₂ hg₂ (G.to i { td with seat := stdSeat td.cw R2 (O.take td.g ab) td.g m2, T := .acc op ⟨vb, vo, none⟩ a' n' seg nx stop } G.s (fun x => if x = ab then 500 else G.κ x)) _ _ _ ⟨_, _, E1, rfl, prom⟩ ?_ ?_ ?_
  · have I2 := I1.stand (b := b) (sc := stdSeat td.cw R2 (O.take td.g ab) td.g m2) hR.ix hB hu2 (T := .acc op ⟨vb, vo, none⟩ a' n' seg nx stop) (q := (some ⟨vb, vo, none⟩, op, a', n')) rfl hv2 ha2 (fun v e => by cases e; exact hv) hR.fell
    exact I2.pass (c := td.cd) (k := kd) (by show (if _ then _ else _) ≠ 0; split <;> omega) (hu2.chan hkd (fun z => by
      obtain ⟨e, _, _⟩ := z
      simp only at e
      obtain ⟨c', e', f', h', _⟩ := cells_of_cell D1.r
      simp only at h'
      rw [← e, hkd] at h'; cases h'))
  · exact hR.seat.stand hR.mem.chs hR.ix rfl hB hR.ne hR.be hR.boss hR.bc rfl rfl
  · refine ⟨fun x v hx => ?_, fun y n hy => hk2 y n hy⟩
    obtain ⟨z1, z2, z3⟩ := hk1 x v hx
    refine ⟨z1, z2, ?_⟩
    have hcd2 : m2.heap[td.cd]? = some (.chan 0 #[] false kd kd false) := hu2.chan hkd (fun z => by
      obtain ⟨e, _, _⟩ := z
      simp only at e
      obtain ⟨c', e', f', h', _⟩ := cells_of_cell D1.r
      simp only at h'
      rw [← e, hkd] at h'; cases h')
    refine (Upto.pass hcd2).cell _ _ z3 (fun e => ?_)
    obtain ⟨c', e', f', h', _⟩ := cells_of_cell z3
    rw [e, hcd2] at h'; cases h'
end
end Go.Proofs.Ytkbfbphbdljaaaa
