/- Texts of one proof, joined: each says what it proves. Every premise stands in the statements. -/
import Derived.Test.YtkbfbphbdljaaaaA30
import Derived.Test.YtkbfbphbdljaaaaA31
/- Run's own scheduler, as the run sees it. Every premise stands in the statements. -/
set_option linter.unusedVariables false
set_option linter.unusedSimpArgs false
namespace Go.Proofs.Ytkbfbphbdljaaaa
open Go.Tre Go.RowKit
variable {Λ : Type}
theorem firstAbove_lt (nm : Nat → Int) (last : Int) (n : Nat) (hn : 0 < n) : firstAbove nm last n < n := by
  unfold firstAbove
  cases e : (List.range n).find? fun j => decide (last < nm j) with
  | none => exact hn
  | some k => exact List.mem_range.1 (List.mem_of_find?_eq_some e)
/-- Where Run's scheduler goes among those that are able. -/
def schedAt (p : List Int) (A : AS Λ) : Nat := match p[A.went.length]? with
  | some x => pickAt x A.able.length
  | none => firstAbove (fun j => ((A.able.getD j 0 : Nat) : Int)) (A.went.getLastD (-1)) A.able.length
def schedR (p : List Int) (A : AS Λ) : Option Nat := A.able[schedAt p A]?
theorem schedAt_lt (p : List Int) (A : AS Λ) (h : 0 < A.able.length) : schedAt p A < A.able.length := by
  unfold schedAt
  cases p[A.went.length]? with
  | some x => exact (pickAt_lt x _ h).1
  | none => exact firstAbove_lt _ _ _ h
section
variable [Base]
theorem SchedC.run {X : Rn Λ} {h pb kb pc : Nat} {pa : Option Addr} {KP : Addr → Option Value} (p : List Int) (hp0 : KP ⟨pb, 0, none⟩ = some (.slice pa p.length pc)) (hk0 : KP ⟨kb, 0, none⟩ = some (.pointer (some ⟨X.rp, 0, none⟩)))
    (hp : p ≠ [] → ∃ pk po, pa = some ⟨pk, po, none⟩ ∧ ∀ (j : Nat) (x : Int), p[j]? = some x → KP ⟨pk, po + j, none⟩ = some (.int .i64 x)) (hlen : p.length ≤ maxLen) (h64 : ∀ x ∈ p, -9223372036854775808 ≤ x ∧ x < 9223372036854775808) :
    SchedC X h (.func (.func 45) #[] #[.pointer (some ⟨pb, 0, none⟩), .pointer (some ⟨kb, 0, none⟩)]) KP (schedR p) := by
  refine ⟨45, _, _, _, rfl, Try.func45, by rfl, rfl, by simp [Try.f45, okCode, okOp, plS, plS2, plE], fun A k hk => List.mem_of_getElem? hk, fun m O G I hK hst hab lb lc w hw hl hlc => ?_⟩
  have hn : 0 < G.abs.able.length := List.length_pos_iff.2 hab
  have hn64 : G.abs.able.length ≤ 64 := by
    have h1 : G.abs.able.length ≤ G.abs.ths.length := by have := List.length_filter_le G.abs.rdy (List.range G.abs.ths.length); simpa [AS.able] using this
    have h2 : G.abs.ths.length = G.tds.length := by simp [GSt.abs]
    have := I.tlen; omega
  have cell : ∀ x v, KP x = some v → w.cell? x = some v := fun x v hx => hw _ _ (mine_some (hK x v hx).1).2.2
  have hr := schedAt_lt p G.abs hn
  have hres : schedR p G.abs = some (G.abs.able.getD (schedAt p G.abs) 0) := by simp [schedR, List.getElem?_eq_getElem hr]
  have hwl : G.abs.went = G.went := rfl
  rw [hres]
  have hl' : ∀ j, j < G.abs.able.length → w.cell? ⟨lb, 0 + j, none⟩ = some (.pointer (some ⟨(fun j => G.tpOf (G.abs.able.getD j 0)) j, 0, none⟩)) := fun j hj => by rw [Nat.zero_add]; exact hl j hj
  have hm : ∀ j, j < G.abs.able.length → w.cell? ⟨(fun j => G.tpOf (G.abs.able.getD j 0)) j, 1, none⟩ = some (.int .i64 ((fun j => ((G.abs.able.getD j 0 : Nat) : Int)) j)) := fun j hj => by
    have hi : G.abs.able.getD j 0 ∈ G.abs.able := by simp [List.getElem?_eq_getElem hj]
    have hlt : G.abs.able.getD j 0 < G.tds.length := by
      have := List.mem_range.1 (List.mem_filter.1 hi).1
      simpa [GSt.abs] using this
    have := (I.td _ _ (List.getElem?_eq_getElem hlt)).number
    refine hw _ _ ?_
    simp only [GSt.tpOf, List.getElem?_eq_getElem hlt]
    exact this
  cases e : p[G.went.length]? with
  | some x =>
    have hlt : G.went.length < p.length := (List.getElem?_eq_some_iff.1 e).1
    obtain ⟨pk, po, rfl, hcell⟩ := hp (fun z => by rw [z] at hlt; exact absurd hlt (Nat.not_lt_zero _))
    have hsa : schedAt p G.abs = pickAt x G.abs.able.length := by simp only [schedAt, hwl, e]
    rw [hsa]
    exact sched_pick w pb kb pk po p.length pc lb 0 _ lc _ (fun j => G.tpOf (G.abs.able.getD j 0)) x hn hn64 hlt hlen (h64 x (List.mem_of_getElem? e)) (cell _ _ hp0) (cell _ _ (hcell _ _ e)) (hl' _ (pickAt_lt x _ hn).1)
  | none =>
    have hge : p.length ≤ G.went.length := List.getElem?_eq_none_iff.1 e
    have hsa : schedAt p G.abs = firstAbove (fun j => ((G.abs.able.getD j 0 : Nat) : Int)) (G.went.getLastD (-1)) G.abs.able.length := by simp only [schedAt, hwl, e]
    rw [hsa]
    by_cases hw0 : G.went.length = 0
    · have : G.went = [] := List.eq_nil_of_length_eq_zero hw0
      refine sched_first w pb kb X.rp p.length pc lb 0 _ lc _ pa (fun j => G.tpOf (G.abs.able.getD j 0)) (fun j => ((G.abs.able.getD j 0 : Nat) : Int)) hn hn64 hge hw0 (cell _ _ hp0) hl' hm _ ?_
      rw [this]; rfl
    · obtain ⟨v3, hv3, hR3, _⟩ := I.went
      rcases id hR3.2 with ⟨_, z⟩ | ⟨g, cap, cur, f, rfl, _⟩
      · exact absurd z hw0
      · have hlast : m.cell? ⟨g, G.went.length - 1, none⟩ = some (.int .i64 (G.went.getLastD (-1))) := by
          refine Row.cellAt hR3 ?_
          have hne : G.went ≠ [] := fun z => hw0 (by rw [z]; rfl)
          rw [List.getElem?_map, ← List.getLast?_eq_getElem?, List.getLastD_eq_getLast?, List.getLast?_eq_some_getLast hne]; rfl
        exact sched_next w pb kb X.rp g 0 cap p.length pc lb 0 _ lc _ pa (fun j => G.tpOf (G.abs.able.getD j 0)) (fun j => ((G.abs.able.getD j 0 : Nat) : Int)) hn hn64 hge (by omega) (by have := I.wlen.1; simp only [maxLen]; omega) _ (cell _ _ hk0) (hw _ _ hv3) (hw _ _ (by rw [Nat.zero_add]; exact hlast)) (cell _ _ hp0) hl' hm _ rfl
end
end Go.Proofs.Ytkbfbphbdljaaaa

/- What a law needs of Run: its memory stays, nobody waits behind it. Every premise stands in the statements. -/
set_option linter.unusedVariables false
set_option linter.unusedSimpArgs false
namespace Go.Proofs.Ytkbfbphbdljaaaa
open Go.Tre Go.RowKit
open Go.Conc (G base baseD crowd rcase scase)
open Go.ConcN (upd upd_ne upd_same)
variable {Λ : Type}
theorem AS.stopTurn_ended (A : AS Λ) (i j : Nat) (h : A.ended j = true ∨ j = i) : (A.stopTurn i).ended j = true := by
  have key : ∀ (s : Sh Λ), (A.ended j = true ∨ j = i) → AS.ended { A with s := s, ths := A.ths.set i (.over false) } j = true := fun s h => by
    by_cases e : i = j
    · subst e
      by_cases hl : i < A.ths.length
      · simp [AS.ended, List.getElem?_set, hl, Th.isOver]
      · simp [AS.ended, List.getElem?_set, hl]
    · rcases h with h | h
      · simpa [AS.ended, List.getElem?_set, e] using h
      · exact absurd h.symm e
  unfold AS.stopTurn
  split
  · exact key _ h
  · exact key _ h
  · rename_i h1 h2
    rcases h with h | h
    · exact h
    · subst h
      cases e : A.ths[j]? with
      | none => simp [AS.ended, e]
      | some T =>
        cases T with
        | over f => simp [AS.ended, e, Th.isOver]
        | acc op v arg new seg next stop => exact absurd e (h1 _ _ _ _ _ _ _)
        | go init child seg next stop => exact absurd e (h2 _ _ _ _ _)
theorem AS.stopFrom_ended (n : Nat) : ∀ (A : AS Λ) (i j : Nat), (A.ended j = true ∨ (i ≤ j ∧ j < i + n)) → (A.stopFrom i n).ended j = true := by
  induction n with
  | zero => intro A i j h; rcases h with h | h; exact h; omega
  | succ n ih =>
    intro A i j h
    refine ih _ _ _ ?_
    rcases h with h | h
    · exact .inl (A.stopTurn_ended i j (.inl h))
    · by_cases e : j = i
      · exact .inl (A.stopTurn_ended i j (.inr e))
      · exact .inr (by omega)
theorem AS.stopAll_ended (A : AS Λ) (j : Nat) : A.stopAll.ended j = true := by
  refine AS.stopFrom_ended _ A 0 j ?_
  rcases Nat.lt_or_ge j A.ths.length with h | h
  · exact .inr (by omega)
  · exact .inl (by simp [AS.ended, List.getElem?_eq_none h])
/-- Of a run that is over nothing is left. -/
theorem AS.stopTurn_over (A : AS Λ) (i : Nat) (h : A.ended i = true) : A.stopTurn i = A := by
  unfold AS.stopTurn
  split
  · rename_i e; simp [AS.ended, e, Th.isOver] at h
  · rename_i e; simp [AS.ended, e, Th.isOver] at h
  · rfl
theorem AS.stopFrom_over (n : Nat) : ∀ (A : AS Λ) (i : Nat), (∀ j, A.ended j = true) → A.stopFrom i n = A := by
  induction n with
  | zero => intro A i _; rfl
  | succ n ih =>
    intro A i h
    show AS.stopFrom (A.stopTurn i) (i + 1) n = A
    rw [A.stopTurn_over i (h i)]
    exact ih _ _ h
theorem AS.stopAll_over (A : AS Λ) (h : ∀ j, A.ended j = true) : A.stopAll = A := AS.stopFrom_over _ A 0 h
theorem AS.left_over (A : AS Λ) (h : ∀ j, A.ended j = true) : A.left = [] := by
  simp [AS.left, h]
section
variable [Base]
omit [Base] in
theorem SeatI.alone {E : Nat → Option Seat} {h : Nat} {G : GSt Λ} {Γ : Nat → Option Seat} (S : SeatI E h (fun _ => none) G Γ) (hE : ∀ k, E k = none) (ho : ∀ i, G.abs.ended i = true) (k : Nat) (hk : k ≠ h) : Γ k = none := by
  cases e : Γ k with
  | none => rfl
  | some sc =>
    rcases S.out k sc hk e with z | ⟨i, td, hi, _, ha⟩ | ⟨i, hi⟩
    · rw [hE] at z; cases z
    · have := ho i
      simp [AS.ended, GSt.abs, hi] at this
      rw [this] at ha; cases ha
    · cases hi
/-- The law's memory: all that there was, but some blocks. -/
def Lw.old (m₀ : World) (O₀ : Own) (S : Nat → Prop) (good : Sh Λ → Prop) (gacc : ∀ {s i op v arg new}, good s → good (s.acc i op v arg new)) (glog : ∀ {s a}, good s → good (s.logs a)) : Lw Λ where
  inv := fun _ m O => Upto (fun a => S a.block ∨ m₀.heap.size ≤ a.block) m₀ m ∧ ∀ b, b < m₀.heap.size → ¬ S b → O.o b = O₀.o b ∧ O.pre b = O₀.pre b
  good := good
  gacc := gacc
  glog := glog
  own := fun _ a => a.block < m₀.heap.size ∧ ¬ S a.block
  low := fun h ha => Nat.lt_of_lt_of_le ha.1 h.1.size
  stable := fun h hu hW ho => ⟨h.1.trans (hu.mono fun a ha => Classical.byContradiction fun hn => hW a (by simp only [not_or, Nat.not_le] at hn; exact ⟨hn.2, hn.1⟩) ha), fun b hb hs => by
    obtain ⟨h1, h2⟩ := h.2 b hb hs
    obtain ⟨h3, h4⟩ := ho ⟨b, 0, none⟩ ⟨hb, hs⟩
    exact ⟨h3.trans h1, h4.trans h2⟩⟩
/-- ████ Run, in a law: nobody else is there. ████ -/
theorem Okk.runL {Φ : Value → World → Prop} {L : Lw Λ} {h : Nat} {c : Frame} {cs : List Frame} {m : World} {O : Own} {Γ : Nat → Option Seat} {pa ba : Option Addr} {pc bb bc : Nat} {most : Int} {s : Sh Λ} (p : List Int) (bs : List (Bd Λ)) (hc : Callable c)
    (hΓ : ∀ k, k ≠ h → Γ k = none) (hb : Base.b0 ≤ m.heap.size) (H : Ready L s m O) (hn64 : bs.length ≤ 64) (hborn : ∀ rp mb, ∀ b ∈ bs, Born ⟨Φ, L, rp, mb, fun _ => none⟩ b.fv b.init b.child)
    (hba : bs ≠ [] → ba = some ⟨bb, 0, none⟩) (hbs : ∀ (j : Nat) (b : Bd Λ), bs[j]? = some b → O.mine0 h m ⟨bb, j, none⟩ = some b.fv)
    (hp : p ≠ [] → ∃ pk po, pa = some ⟨pk, po, none⟩ ∧ ∀ (j : Nat) (x : Int), p[j]? = some x → O.mine0 h m ⟨pk, po + j, none⟩ = some (.int .i64 x)) (hlen : p.length ≤ maxLen) (h64 : ∀ x ∈ p, -9223372036854775808 ≤ x ∧ x < 9223372036854775808)
    (hn : ∀ (m' : World) (O' : Own) (Γ' : Nat → Option Seat) (G' : GSt Λ) (rp mb : Nat) (v2 v3 v4 lv fv : Value), (∀ k, k ≠ h → Γ' k = none) → MemI L rp mb (fun _ => none) G' m' O' → Holds (O.mine0 h m) h m' O' → G'.abs = (AS.runs (schedR p) most s bs).1.stopAll →
        Row O' m' 61 8 v2 G'.s.log.length (G'.s.log.flatMap fun a => a.vals.toList) → Row O' m' 3 1 v3 G'.went.length (G'.went.map (Value.int .i64)) → Row O' m' 3 1 v4 G'.ready.length (G'.ready.map (Value.int .i64)) →
        Got O' h m' 8 lv (AS.runs (schedR p) most s bs).1.left.length ((AS.runs (schedR p) most s bs).1.left.flatMap fun a => a.vals.toList) → Got O' h m' 1 fv (FL G'.abs.falls G'.tds.length).length (FV G'.abs.falls G'.tds.length) →
        Okk Try.prog Φ h (Go.Conc.G (c.finish (.agg #[.int .i8 (AS.runs (schedR p) most s bs).2.1, .int .i64 (G'.went.length : Int), v2, v3, v4, lv, fv])) cs) m' O' Γ') :
    Okk Try.prog Φ h (Go.Conc.G (Frame.enter Try.prog 14 #[.slice pa p.length pc, .int .i64 most, .slice ba bs.length bc] .normal) (c :: cs)) m O Γ := by
  refine Okk.runI (E := fun _ => none) (sched := schedR p) bs hc (fun k sc => ⟨fun e => (by cases e), fun e => (by rw [hΓ k e.1] at e; cases e.2)⟩) rfl hb H hn64 hborn hba hbs (fun pb kb rp mb KP hKP hp0 hk0 => SchedC.run p hp0 hk0 (fun hne => ?_) hlen h64) fun m' O' Γ' G' rp mb v2 v3 v4 lv fv I S hH ha r2 r3 r4 gl gf => ?_
  · obtain ⟨pk, po, e, hc⟩ := hp hne
    exact ⟨pk, po, e, fun j x hx => hKP _ _ (hc j x hx)⟩
  · exact hn m' O' Γ' G' rp mb v2 v3 v4 lv fv (S.alone (fun _ => rfl) (fun i => by rw [ha]; exact AS.stopAll_ended _ i)) I hH ha r2 r3 r4 gl gf
end
end Go.Proofs.Ytkbfbphbdljaaaa

/- The law's first run: two adds, the second one first. Every premise stands in the statements. -/
set_option linter.unusedVariables false
set_option linter.unusedSimpArgs false
namespace Go.Proofs.Ytkbfbphbdljaaaa
open Go.Tre Go.RowKit
open Go.Conc (G base baseD crowd rcase scase)
open Go.ConcN (upd upd_ne upd_same)
variable {Λ : Type}
/-- A thread that adds so often. -/
def adds (x : Addr) : Nat → Th Λ
  | 0 => .over false
  | n + 1 => .acc 4 x 1 0 (fun _ s => s) (fun _ _ => adds x n) (fun s => s)
theorem _root_.Go.Tre.Upto.old {W : Addr → Prop} {m m' : World} (h : Upto W m m') (hW : ∀ a, W a → m.heap.size ≤ a.block) : Upto (fun _ => False) m m' :=
  ⟨h.size, fun a v hv _ => h.cell a v hv fun hw => by have := World.block_lt_of_cell? m a hv; have := hW a hw; omega,
   fun b o hb hn _ => h.obj b o hb hn fun hw => by have := (Array.getElem?_eq_some_iff.1 hb).1; have := hW _ hw; simp only at this; omega,
   fun b c e f hb _ => h.row b c e f hb fun i hw => by have := (Array.getElem?_eq_some_iff.1 hb).1; have := hW _ hw; simp only at this; omega⟩
section
variable [Base]
theorem made {O : Own} {h : Nat} {m : World} {τ : Tape} (o : Obj) : ((re (O.gh h m) τ 0).alloc o).heap[m.heap.size]? = some o ∧ Upto (fun _ => False) m ((re (O.gh h m) τ 0).alloc o) ∧ ((re (O.gh h m) τ 0).alloc o).heap.size = m.heap.size + 1 := by
  have hsz : (re (O.gh h m) τ 0).heap.size = m.heap.size := gh_size
  exact ⟨by rw [get_a, hsz, if_pos rfl], (Upto.gh (O := O) (h := h)).trans ((Upto.of_heap (m := O.gh h m) (m' := re (O.gh h m) τ 0) rfl).trans .alloc), by simp only [size_a, hsz]⟩
set_option maxRecDepth 100000 in
theorem born40 {X : Rn Λ} {xb xo : Nat} (hg : ∀ s, X.L.good s → (s.vals ⟨xb, xo, none⟩).isSome = true) : Born X (.func (.func 40) #[] #[.pointer (some ⟨xb, xo, none⟩)]) (fun _ s => s) (fun _ _ => adds ⟨xb, xo, none⟩ 1) := by
  refine .inr ⟨40, Try.f40, _, _, rfl, Try.func40, by kernel_rfl, rfl, fun i cf td hE m O Γ G b sb B hR hst hcap hback => ?_⟩
  have hP := try_plain2
  rw [Go.Conc.enter_at _ Try.func40 rfl]
  simp only [Try.ntmps40]
  refine .ctl0 rfl (fun _ => Go.Conc.stepG_region) ?_
  refine .val hP rfl rfl rfl (.pointer (some ⟨td.tp, 0, none⟩)) (fun τ => by simp [go_sem]) ?_
  walk_nrm
  refine .enter (f := 13) (args := #[.pointer (some ⟨td.tp, 0, none⟩), .pointer (some ⟨xb, xo, none⟩), .int .i8 4, .int .i64 1, .int .i64 0]) rfl rfl (fun w => ?_) (fun w => ?_) ?_
  · have := (callFunc_enter Try.func13 (by kernel_rfl) rfl #[.pointer (some ⟨td.tp, 0, none⟩), .pointer (some ⟨xb, xo, none⟩), .int .i8 4, .int .i64 1, .int .i64 0] w).1
    simp [go_sem, this]
  · have := (callFunc_enter Try.func13 (by kernel_rfl) rfl #[.pointer (some ⟨td.tp, 0, none⟩), .pointer (some ⟨xb, xo, none⟩), .int .i8 4, .int .i64 1, .int .i64 0] w).2
    simp [go_sem, this]
  refine Okk.stepI (seg := fun _ s => s) (nx := fun _ _ => adds ⟨xb, xo, none⟩ 0) (stop := fun s => s) hR hst (by decide) (by decide) (hg _ hR.mem.good) (Callable.mk rfl) (fun m' O' Γ' G' b' sb' B' d s₀ hl hst' hs hR' hpriv hcap' hext hback' => ?_) (fun m' O' Γ' G' b' sb' B' d hl hst' hR' hpriv hext hback' => ?_) hback
  · rw [Frame.finish_at]
    walk_nrm
    refine .ctl0 rfl (fun _ => Go.Conc.stepG_region_end) (.ctl0 rfl (fun _ => Go.Conc.stepG_end) ?_)
    refine .leave (v := .tuple #[]) rfl rfl Try.func40 (fun w => by simp [go_sem, results, Try.f40]) (fun w => by simp [go_sem, results, Try.f40]) ?_
    exact hE.fin m' O' Γ' G' b' sb' B' d _ hl hR' (hback'.mono fun G'' h => by obtain ⟨sc, κ, e1, e2, _⟩ := h; exact ⟨sc, κ, e1, e2, trivial⟩)
  · refine Okk.raise rfl rfl rfl ?_
    exact hE.stop m' O' Γ' G' b' sb' B' d _ _ hl hst' hR' hback'
end
end Go.Proofs.Ytkbfbphbdljaaaa

/- works: the document's row of two adds; it answers true. Every premise stands in the statements. -/
set_option linter.unusedVariables false
set_option linter.unusedSimpArgs false
namespace Go.Proofs.Ytkbfbphbdljaaaa
open Go.Tre Go.RowKit
open Go.Conc (G base baseD crowd rcase scase)
open Go.ConcN (upd upd_ne upd_same)
/-- One cell, and nothing else. -/
def sh0 (x : Addr) : Sh Unit := ⟨[], fun a => if a = x then some 0 else none, [], ()⟩
def add1 (fv : Value) (x : Addr) : Bd Unit := ⟨fv, fun _ s => s, fun _ _ => adds x 1⟩
theorem works_run (fv : Value) (x : Addr) : ∃ vals, AS.runs (schedR [1]) 9 (sh0 x) [add1 fv x, add1 fv x] = (⟨⟨[x], vals, [⟨1, 4, 0, 1, 0, 0, 1, false⟩, ⟨0, 4, 0, 1, 0, 1, 2, false⟩], ()⟩, [.over false, .over false], [1, 0], [2, 1]⟩, 1, true) ∧ vals x = some 2 := by
  refine ⟨fun y => if y = x then some 2 else if y = x then some 1 else if y = x then some 0 else none, ?_, by simp⟩
  have e : (min (max (9 : Int) 0) 65536).toNat = 9 := by decide
  unfold AS.runs
  rw [e]
  simp [AS.start, GSt.start, GSt.abs, AS.begins, AS.begin, sh0, add1, adds, AS.run, AS.isOver, AS.ended, AS.able, AS.rdy, Th.can, Th.isOver, schedR, schedAt, pickAt, AS.pick, AS.turn, Sh.ans, Sh.acc, Sh.name, behind, wrap64, List.range_succ, firstAbove]
section
variable [Base]
theorem Row.cellN {O : Own} {m : World} {e : TypeId} {sz g n cap : Nat} {xs : List Value} (hR : Row O m e sz (.slice (some ⟨g, 0, none⟩) n cap) n xs) {j : Nat} {u : Value} (hj : xs[j]? = some u) : m.cell? ⟨g, j, none⟩ = some u := by
  rcases hR.2 with ⟨z, _⟩ | ⟨g', cap', cur, f, z, _, _, _, hm, _, _, hsz, ht⟩
  · cases z
  · cases z
    rw [← ht] at hj
    have hlt := (List.getElem?_eq_some_iff.1 hj).1
    rw [List.getElem?_take_of_lt (by simp at hlt; omega)] at hj
    simp only [World.cell?, hm]
    simpa using hj
theorem Got.shape {O : Own} {h : Nat} {m : World} {size n : Nat} {v : Value} {xs : List Value} (H : Got O h m size v n xs) : ∃ a c, v = .slice a n c := by
  rcases H.2 with ⟨h, h0⟩ | ⟨g, cap, h, _⟩
  · exact ⟨none, 0, by rw [h, h0]⟩
  · exact ⟨_, _, h⟩
theorem mine0_make {O : Own} {h b j : Nat} {m : World} {c : Array Value} {e : TypeId} {f : Nat × Nat} {u : Value} (hb : Base.b0 ≤ b) (ho : O.o b = some h) (hp : O.pre b = 0) (hm : m.heap[b]? = some (.cells c e f)) (hj : c[j]? = some u) : O.mine0 h m ⟨b, j, none⟩ = some u := by
  unfold Own.mine0
  rw [if_pos ⟨ho, hp⟩]
  exact mine_of hb (.inl ho) (by simp only [World.cell?, hm]; exact hj)
set_option maxRecDepth 100000 in
set_option maxHeartbeats 4000000 in
/-- ████ works ████ -/
theorem Okk.works {Φ : Value → World → Prop} {h : Nat} {c : Frame} {cs : List Frame} {m : World} {O : Own} {Γ : Nat → Option Seat} (hc : Callable c) (hΓ : ∀ k, k ≠ h → Γ k = none) (hb : Base.b0 ≤ m.heap.size)
    (hn : ∀ (m' : World) (O' : Own) (Γ' : Nat → Option Seat), Upto (fun _ => False) m m' → (∀ b, b < m.heap.size → O'.o b = O.o b ∧ O'.pre b = O.pre b) → (∀ k, k ≠ h → Γ' k = none) → Okk Try.prog Φ h (Go.Conc.G (c.finish (.bool true)) cs) m' O' Γ') :
    Okk Try.prog Φ h (Go.Conc.G (Frame.enter Try.prog 11 #[] .normal) (c :: cs)) m O Γ := by
  have hP := try_plain2
  rw [Go.Conc.enter_at _ Try.func11 rfl]
  simp only [Try.ntmps11]
  refine Okk.fresh fun hF => ?_
  refine .ctl0 rfl (fun _ => Go.Conc.stepG_seq) (.ctl0 rfl (fun _ => Go.Conc.stepG_region) ?_)
  refine .val hP rfl rfl rfl (.bool false) (fun τ => by simp [go_sem]) ?_
  walk_nrm
  refine .ctl0 rfl (fun _ => Go.Conc.stepG_region_end) (.ctl0 rfl (fun _ => Go.Conc.stepG_seq) (.ctl0 rfl (fun _ => Go.Conc.stepG_region) ?_))
  refine .oper hP rfl rfl rfl (R := fun v g' => v = .pointer (some ⟨m.heap.size, 0, none⟩) ∧ g'.heap[m.heap.size]? = some (.cells #[.int .i64 0] 28) ∧ Upto (fun _ => False) m g' ∧ g'.heap.size = m.heap.size + 1) (fun τ => ⟨_, _, by simp [go_sem]; exact ⟨rfl, rfl⟩, by simp [gh_size], made _⟩) ?_
  rintro _ m1 ⟨rfl, hx1, hu1, hs1⟩ _
  generalize hxb : m.heap.size = xb at *
  walk_nrm
  refine .ctl0 rfl (fun _ => Go.Conc.stepG_region_end) (.ctl0 rfl (fun _ => Go.Conc.stepG_seq) (.ctl0 rfl (fun _ => Go.Conc.stepG_region) ?_))
  refine .val hP rfl rfl rfl (.func (.func 40) #[] #[.pointer (some ⟨xb, 0, none⟩)]) (fun τ => by simp [go_sem]) ?_
  walk_nrm
  refine .val hP rfl rfl rfl (.func (.func 40) #[] #[.pointer (some ⟨xb, 0, none⟩)]) (fun τ => by simp [go_sem]) ?_
  walk_nrm
  refine .ctl0 rfl (fun _ => Go.Conc.stepG_region_end) (.ctl0 rfl (fun _ => Go.Conc.stepG_seq) (.ctl0 rfl (fun _ => Go.Conc.stepG_region) ?_))
  refine .oper hP rfl rfl rfl (R := fun v g' => v = .slice (some ⟨m1.heap.size, 0, none⟩) 1 1 ∧ g'.heap[m1.heap.size]? = some (.cells #[.int .i64 1] 3) ∧ Upto (fun _ => False) m1 g' ∧ g'.heap.size = m1.heap.size + 1) (fun τ => ⟨_, _, by simp [go_sem]; exact ⟨rfl, rfl⟩, by simp [gh_size], made _⟩) ?_
  rintro _ m2 ⟨rfl, hp2, hu2, hs2⟩ _
  walk_nrm
  refine .val hP rfl rfl rfl (.func (.func 40) #[] #[.pointer (some ⟨xb, 0, none⟩)]) (fun τ => by simp [go_sem]) ?_
  walk_nrm
  refine .val hP rfl rfl rfl (.func (.func 40) #[] #[.pointer (some ⟨xb, 0, none⟩)]) (fun τ => by simp [go_sem]) ?_
  walk_nrm
  refine .oper hP rfl rfl rfl (R := fun v g' => v = .slice (some ⟨m2.heap.size, 0, none⟩) 2 2 ∧ g'.heap[m2.heap.size]? = some (.cells #[.func (.func 40) #[] #[.pointer (some ⟨xb, 0, none⟩)], .func (.func 40) #[] #[.pointer (some ⟨xb, 0, none⟩)]] 35) ∧ Upto (fun _ => False) m2 g' ∧ g'.heap.size = m2.heap.size + 1) (fun τ => ⟨_, _, by simp [go_sem]; exact ⟨rfl, rfl⟩, by simp [gh_size], made _⟩) ?_
  rintro _ m3 ⟨rfl, hb3, hu3, hs3⟩ _
  walk_nrm
  refine .enter (f := 14) (args := #[.slice (some ⟨m1.heap.size, 0, none⟩) 1 1, .int .i64 9, .slice (some ⟨m2.heap.size, 0, none⟩) 2 2]) rfl rfl (fun w => ?_) (fun w => ?_) ?_
  · have := (callFunc_enter Try.func14 (by kernel_rfl) rfl #[.slice (some ⟨m1.heap.size, 0, none⟩) 1 1, .int .i64 9, .slice (some ⟨m2.heap.size, 0, none⟩) 2 2] w).1
    simp [go_sem, this]
  · have := (callFunc_enter Try.func14 (by kernel_rfl) rfl #[.slice (some ⟨m1.heap.size, 0, none⟩) 1 1, .int .i64 9, .slice (some ⟨m2.heap.size, 0, none⟩) 2 2] w).2
    simp [go_sem, this]
  generalize hpb : m1.heap.size = pb at *
  generalize hbb : m2.heap.size = bb at *
  have hu3' : Upto (fun _ => False) m m3 := hu1.trans (hu2.trans hu3)
  have e0 : O.o pb = none ∧ O.pre pb = 0 := hF pb (by omega)
  have e1 : O.o bb = none ∧ O.pre bb = 0 := hF bb (by omega)
  have e2 : (O.take h pb).o bb = none := by simp only [Own.take]; rw [if_neg (by omega)]; exact e1.1
  refine Okk.own (O' := O.take h pb) (Own.le.take (.inl e0.1)) (fun hf => Fresh.take hf (by omega)) ?_
  refine Okk.own (O' := (O.take h pb).take h bb) (Own.le.take (.inl e2)) (fun hf => Fresh.take hf (by omega)) ?_
  generalize hO3 : (O.take h pb).take h bb = O3
  have ob : O3.o bb = some h ∧ O3.pre bb = 0 := by subst hO3; exact ⟨by simp [Own.take], e1.2⟩
  have op : O3.o pb = some h ∧ O3.pre pb = 0 := by subst hO3; refine ⟨?_, e0.2⟩; simp only [Own.take]; rw [if_neg (by omega)]; simp
  have ol : ∀ b, b ≤ xb → O3.o b = O.o b ∧ O3.pre b = O.pre b := fun b hb => by subst hO3; refine ⟨?_, rfl⟩; simp only [Own.take]; rw [if_neg (by omega), if_neg (by omega)]
  obtain ⟨f2, hp3⟩ := hu3.row _ _ _ _ hp2 (fun _ z => z)
  obtain ⟨f1, hx3⟩ := (hu2.trans hu3).row _ _ _ _ hx1 (fun _ z => z)
  have hx0 : m3.cell? ⟨xb, 0, none⟩ = some (.int .i64 0) := by simp only [World.cell?, hx3]; rfl
  obtain ⟨vals, hrun, hval⟩ := works_run (.func (.func 40) #[] #[.pointer (some ⟨xb, 0, none⟩)]) ⟨xb, 0, none⟩
  have fx := hF xb (by omega)
  refine Okk.runL (L := Lw.old m3 O3 (fun b => b = xb) (fun s => (s.vals ⟨xb, 0, none⟩).isSome = true) (fun {s i op v arg new} h => by simp only [Sh.acc]; split <;> simp [h]) (fun {s a} h => h)) (s := sh0 ⟨xb, 0, none⟩) (bb := bb) [1] [add1 (.func (.func 40) #[] #[.pointer (some ⟨xb, 0, none⟩)]) ⟨xb, 0, none⟩, add1 (.func (.func 40) #[] #[.pointer (some ⟨xb, 0, none⟩)]) ⟨xb, 0, none⟩] (Callable.mk rfl) hΓ (by omega) ?_ (by simp) ?_ (fun _ => rfl) ?_ ?_ (by decide) (by decide) ?_
  · refine ⟨rfl, rfl, fun a v ha => ?_, ⟨.refl, fun _ _ _ => ⟨rfl, rfl⟩⟩, by simp [sh0, Lw.old], fun a ha => ?_⟩
    · simp only [sh0] at ha
      split at ha
      · rename_i e; subst e; cases ha
        obtain ⟨q1, q2⟩ := ol xb (Nat.le_refl _)
        exact ⟨hx0, by simp only; omega, q1.trans fx.1, q2.trans fx.2, rfl⟩
      · cases ha
    · simp only [sh0]
      rw [if_neg (fun e => ha.2 (by rw [e]))]
  · intro rp mb b hbm
    simp only [List.mem_cons, List.not_mem_nil, or_false, or_self] at hbm
    subst hbm
    exact born40 (fun s hs => hs)
  · intro j b hj
    match j, hj with
    | 0, hj => cases hj; exact mine0_make (by omega) ob.1 ob.2 hb3 rfl
    | 1, hj => cases hj; exact mine0_make (by omega) ob.1 ob.2 hb3 rfl
    | j + 2, hj => cases hj
  · intro _
    refine ⟨pb, 0, rfl, fun j x hj => ?_⟩
    match j, hj with
    | 0, hj => cases hj; exact mine0_make (by omega) op.1 op.2 hp3 rfl
    | j + 1, hj => cases hj
  · intro m' O' Γ' G' rp mb v2 v3 v4 lv fv hΓ' I hH ha r2 r3 r4 gl gf
    rw [hrun] at ha gl ⊢
    rw [AS.stopAll_over _ (fun j => by match j with | 0 => rfl | 1 => rfl | j + 2 => rfl)] at ha
    have hs : G'.s = _ := congrArg AS.s ha
    have hw : G'.went = _ := congrArg AS.went ha
    have hth : G'.abs.ths = _ := congrArg AS.ths ha
    have htl : G'.tds.length = 2 := by have := congrArg List.length hth; simpa [GSt.abs] using this
    have hfl : FL G'.abs.falls G'.tds.length = [] := by
      rw [htl]; simp [FL, AS.falls, hth, List.range_succ, Th.fell]
    rw [hfl] at gf
    have hx5 := (I.vals ⟨xb, 0, none⟩ 2 (by rw [hs]; exact hval)).1
    rw [hs] at r2
    rw [hw] at r3 ⊢
    change Row O' m' 61 8 v2 2 ((⟨1, 4, 0, 1, 0, 0, 1, false⟩ : Acc).vals.toList ++ (⟨0, 4, 0, 1, 0, 1, 2, false⟩ : Acc).vals.toList) at r2
    change Row O' m' 3 1 v3 2 _ at r3
    change Okk Try.prog Φ h (Go.Conc.G (Frame.finish _ (.agg #[.int .i8 1, .int .i64 2, v2, v3, v4, lv, fv])) _) m' O' Γ'
    change Got O' h m' 8 lv 0 _ at gl
    change Got O' h m' 1 fv 0 _ at gf
    obtain ⟨s3, c3, e3⟩ := Row.shape r3
    obtain ⟨s4, c4, e4⟩ := Row.shape r4
    obtain ⟨lg, lc, rfl⟩ : ∃ g cap, v2 = .slice (some ⟨g, 0, none⟩) 2 cap := by
      rcases r2.2 with ⟨_, z⟩ | ⟨g, cap, cur, f, rfl, _⟩
      · cases z
      · exact ⟨g, cap, rfl⟩
    obtain ⟨sl, cl, el⟩ := gl.shape
    obtain ⟨sf, cf, ef⟩ := gf.shape
    refine Okk.fresh fun hF' => ?_
    have hsz' : m3.heap.size ≤ m'.heap.size := I.law.1.size
    rw [Frame.finish_at]
    walk_nrm
    refine .oper hP rfl rfl rfl (R := fun v g' => v = .pointer (some ⟨m'.heap.size, 0, none⟩) ∧ g'.heap[m'.heap.size]? = some (.cells #[.int .i8 0, .int .i64 0, .slice none 0 0, .slice none 0 0, .slice none 0 0, .slice none 0 0, .slice none 0 0] 39) ∧ Upto (fun _ => False) m' g' ∧ g'.heap.size = m'.heap.size + 1) (fun τ => ⟨_, _, by simp [go_sem]; exact ⟨rfl, rfl⟩, by simp [gh_size], made _⟩) ?_
    rintro _ m5 ⟨rfl, hq5, hu5, hs5⟩ _
    have hq0 := hF' m'.heap.size (Nat.le_refl _)
    generalize hqb : m'.heap.size = qb at *
    walk_nrm
    have ff : ∀ j τ, (re (O'.gh h m5) τ 0).frozen? ⟨qb, j, none⟩ = false := fun j τ => gh_free (m := m5) (by show Base.b0 ≤ qb; omega) (.inl hq0.1) (by show O'.pre qb ≤ j; rw [hq0.2]; exact Nat.zero_le _)
    have cq : ∀ j τ u, (#[.int .i8 0, .int .i64 0, .slice none 0 0, .slice none 0 0, .slice none 0 0, .slice none 0 0, .slice none 0 0] : Array Value)[j]? = some u → (re (O'.gh h m5) τ 0).cell? ⟨qb, j, none⟩ = some u := fun j τ u hu => by rw [re_cell?, gh_cell]; simp only [World.cell?, hq5]; exact hu
    refine .unit hP rfl rfl rfl (R := fun g' => Upto (fun a => a.block = qb) m5 g' ∧ g'.cell? ⟨qb, 0, none⟩ = some (.int .i8 1) ∧ g'.cell? ⟨qb, 1, none⟩ = some (.int .i64 2) ∧ g'.cell? ⟨qb, 2, none⟩ = some (.slice (some ⟨lg, 0, none⟩) 2 lc)) (fun τ => ?_) ?_
    · have f0 := ff 0 τ; have f1 := ff 1 τ; have f2 := ff 2 τ; have f3 := ff 3 τ; have f4 := ff 4 τ; have f5 := ff 5 τ; have f6 := ff 6 τ
      have q0 := cq 0 τ _ rfl; have q1 := cq 1 τ _ rfl; have q2 := cq 2 τ _ rfl; have q3 := cq 3 τ _ rfl; have q4 := cq 4 τ _ rfl; have q5 := cq 5 τ _ rfl; have q6 := cq 6 τ _ rfl
      have hu : Upto (fun a => a.block = qb) m5 (re (O'.gh h m5) τ 0) := (Upto.gh (O := O') (h := h)).trans (Upto.of_heap rfl)
      generalize re (O'.gh h m5) τ 0 = W at *
      subst e3 e4 el ef
      refine ⟨((((((W.setCell ⟨qb, 0, none⟩ (.int .i8 1)).setCell ⟨qb, 1, none⟩ (.int .i64 2)).setCell ⟨qb, 2, none⟩ (.slice (some ⟨lg, 0, none⟩) 2 lc)).setCell ⟨qb, 3, none⟩ (.slice s3 2 c3)).setCell ⟨qb, 4, none⟩ (.slice s4 G'.ready.length c4)).setCell ⟨qb, 5, none⟩ (.slice sl 0 cl)).setCell ⟨qb, 6, none⟩ (.slice sf 0 cf), by simp [go_sem, f0, f1, f2, f3, f4, f5, f6, q0, q1, q2, q3, q4, q5, q6], .set (.set (.set (.set (.set (.set (.set hu rfl) rfl) rfl) rfl) rfl) rfl) rfl, ?_⟩
      simp [go_sem, q0, q1, q2, q3, q4, q5, q6]
    intro m6 ⟨hu6, p0, p1, p2⟩ _
    walk_nrm
    refine .ctl0 rfl (fun _ => Go.Conc.stepG_region_end) ?_
    have cel : ∀ j u, ((⟨1, 4, 0, 1, 0, 0, 1, false⟩ : Acc).vals.toList ++ (⟨0, 4, 0, 1, 0, 1, 2, false⟩ : Acc).vals.toList)[j]? = some u → m6.cell? ⟨lg, j, none⟩ = some u := fun j u hj => by
      have := Row.cellN r2 (j := j) (u := u) hj
      have hlt := World.block_lt_of_cell? m' _ this
      exact hu6.cell _ _ (hu5.cell _ _ this (fun z => z)) (by simp only at hlt ⊢; omega)
    have hx6 : m6.cell? ⟨xb, 0, none⟩ = some (.int .i64 2) := hu6.cell _ _ (hu5.cell _ _ hx5 (fun z => z)) (by simp only; omega)
    have l0 := cel 0 _ rfl; have l1 := cel 1 _ rfl; have l2 := cel 2 _ rfl; have l3 := cel 3 _ rfl; have l4 := cel 4 _ rfl; have l5 := cel 5 _ rfl; have l6 := cel 6 _ rfl; have l7 := cel 7 _ rfl
    have l8 := cel 8 _ rfl; have l9 := cel 9 _ rfl; have l10 := cel 10 _ rfl; have l11 := cel 11 _ rfl; have l12 := cel 12 _ rfl; have l13 := cel 13 _ rfl; have l14 := cel 14 _ rfl; have l15 := cel 15 _ rfl
    clear cel cq ff
    refine Okk.rest hP Try.func11 (by simp [okCode, okOp, plS, plS2, plE]) (R := fun v w' => v = .bool true ∧ Upto (fun _ => False) m6 w') hc (fun τ => ?_) ?_
    · have cg : ∀ {a : Addr} {u : Value}, m6.cell? a = some u → (re (O'.gh h m6) τ 0).cell? a = some u := fun {a u} ha => by rw [re_cell?, gh_cell]; exact ha
      replace l0 := cg l0; replace l1 := cg l1; replace l2 := cg l2; replace l3 := cg l3; replace l4 := cg l4; replace l5 := cg l5; replace l6 := cg l6; replace l7 := cg l7
      replace l8 := cg l8; replace l9 := cg l9; replace l10 := cg l10; replace l11 := cg l11; replace l12 := cg l12; replace l13 := cg l13; replace l14 := cg l14; replace l15 := cg l15
      replace p0 := cg p0; replace p1 := cg p1; replace p2 := cg p2; replace hx6 := cg hx6
      have hu : Upto (fun _ => False) m6 (re (O'.gh h m6) τ 0) := (Upto.gh (O := O') (h := h)).trans (Upto.of_heap rfl)
      generalize re (O'.gh h m6) τ 0 = W at *
      clear hq5 hp2 hp3 hb3 hx1 hx3 hx0 hx5 hrun hval hs hw hth htl hfl ha r2 r3 r4 gl gf
      go_wp2_with (go_at_call 16; refine (aload_calls _ _ _ _ hx6).mono ?_; rintro e w' ⟨rfl, rfl⟩)
      go_ret
      exact ⟨_, rfl, rfl, hu⟩
    rintro _ m7 ⟨rfl, hu7⟩ _
    refine hn m7 O' Γ' ?_ (fun b hb => ?_) hΓ'
    · have h1 : Upto (fun a => a.block = xb ∨ m3.heap.size ≤ a.block) m m7 := (hu3'.mono (fun _ z => z.elim)).trans (I.law.1.trans ((hu5.mono (fun _ z => z.elim)).trans ((hu6.mono (fun a z => .inr (by rw [z]; exact hsz'))).trans (hu7.mono (fun _ z => z.elim)))))
      exact h1.old (fun a z => by rcases z with z | z <;> omega)
    · obtain ⟨q1, q2⟩ := I.law.2 b (by omega) (by show ¬ b = xb; omega)
      obtain ⟨q3, q4⟩ := ol b (by omega)
      exact ⟨q1.trans q3, q2.trans q4⟩
end
end Go.Proofs.Ytkbfbphbdljaaaa

/- Who goes without picks: bodies that only add go round by round. Plain. Every premise stands in the statements. -/
set_option linter.unusedVariables false
set_option linter.unusedSimpArgs false
namespace Go.Proofs.Ytkbfbphbdljaaaa
open Go.Tre Go.RowKit
/-- Who goes in round r from place i on. -/
def rowOf (ns : List Nat) (r i : Nat) : List Nat := (List.range' i (ns.length - i)).filter fun j => decide (r < ns.getD j 0)
/-- Who goes from round r on, f rounds. -/
def rowsOf (ns : List Nat) : Nat → Nat → List Nat
  | r, 0 => []
  | r, f + 1 => rowOf ns r 0 ++ rowsOf ns (r + 1) f
theorem rowOf_end (ns : List Nat) (r i : Nat) (h : ns.length ≤ i) : rowOf ns r i = [] := by
  have : ns.length - i = 0 := by omega
  simp [rowOf, this]
theorem rowOf_step (ns : List Nat) (r i : Nat) (h : i < ns.length) : rowOf ns r i = if r < ns.getD i 0 then i :: rowOf ns r (i + 1) else rowOf ns r (i + 1) := by
  have e : ns.length - i = (ns.length - (i + 1)) + 1 := by omega
  unfold rowOf
  rw [e, List.range'_succ, List.filter_cons]
  simp
section
variable {Λ : Type}
/-- What is left of them: c. -/
structure AtC (x : Addr) (ns : List Nat) (c : Nat → Nat) (A : AS Λ) (v : Int) : Prop where
  len : A.ths.length = ns.length
  th : ∀ j, j < ns.length → A.ths[j]? = some (adds x (c j))
  val : A.s.vals x = some v
theorem adds_can (x : Addr) (n : Nat) (s : Sh Λ) : Th.can (adds x n) s = decide (0 < n) := by
  cases n <;> simp [adds, Th.can]
theorem adds_over (x : Addr) (n : Nat) : Th.isOver (adds (Λ := Λ) x n) = decide (n = 0) := by
  cases n <;> simp [adds, Th.isOver]
variable {x : Addr} {ns : List Nat} {c : Nat → Nat} {A : AS Λ} {v : Int}
theorem AtC.rdy (H : AtC x ns c A v) (j : Nat) (hj : j < ns.length) : A.rdy j = decide (0 < c j) := by
  simp [AS.rdy, H.th j hj, adds_can]
theorem AtC.able (H : AtC x ns c A v) : A.able = (List.range ns.length).filter fun j => decide (0 < c j) := by
  unfold AS.able
  rw [H.len]
  refine List.filter_congr fun j hj => ?_
  exact H.rdy j (List.mem_range.1 hj)
theorem AtC.isOver (H : AtC x ns c A v) : A.isOver = true ↔ ∀ j, j < ns.length → c j = 0 := by
  simp only [AS.isOver, List.all_eq_true, List.mem_range, H.len]
  refine forall_congr' fun j => imp_congr_right fun hj => ?_
  simp [AS.ended, H.th j hj, adds_over]
/-- Who is next: the first that is able above the last one, else the first. -/
theorem AtC.sched (H : AtC x ns c A v) {k : Nat} (hk : k < ns.length) (hck : 0 < c k)
    (h : (A.went.getLastD (-1) < k ∧ ∀ j, j < k → A.went.getLastD (-1) < j → c j = 0) ∨ (∀ j, j < k → c j = 0) ∧ ∀ j, j < ns.length → A.went.getLastD (-1) < (j : Int) → c j = 0) : schedR [] A = some k := by
  have hab := H.able
  have hmem : k ∈ A.able := by rw [hab]; simp [hk, hck]
  have hsort : ∀ a b : Nat, a < b → b < A.able.length → A.able.getD a 0 < A.able.getD b 0 := by
    intro a b hab' hb
    have hs : A.able.Pairwise (· < ·) := by rw [hab]; exact List.pairwise_lt_range.filter _
    have := List.pairwise_iff_getElem.1 hs a b (by omega) hb hab'
    simpa [List.getElem?_eq_getElem hb, List.getElem?_eq_getElem (show a < A.able.length by omega)] using this
  obtain ⟨t, ht, hkt⟩ := List.getElem_of_mem hmem
  have hget : ∀ a, a < A.able.length → A.able.getD a 0 < ns.length ∧ 0 < c (A.able.getD a 0) := fun a ha => by
    have h1 : A.able.getD a 0 ∈ A.able := by simp [List.getElem?_eq_getElem ha]
    generalize A.able.getD a 0 = y at h1
    rw [hab] at h1
    simpa using h1
  have hkt' : A.able.getD t 0 = k := by simp [List.getElem?_eq_getElem ht, hkt]
  have key : firstAbove (fun j => ((A.able.getD j 0 : Nat) : Int)) (A.went.getLastD (-1)) A.able.length = t := by
    rcases h with ⟨h1, h2⟩ | ⟨h1, h2⟩
    · refine firstAbove_hit ht (by rw [hkt']; exact h1) fun j hj hl => ?_
      have a1 := hsort j t hj ht
      rw [hkt'] at a1
      have a2 := hget j (by omega)
      have := h2 _ a1 hl
      omega
    · have ht0 : t = 0 := by
        rcases Nat.eq_zero_or_pos t with z | z
        · exact z
        · have a1 := hsort 0 t z ht
          rw [hkt'] at a1
          have a2 := hget 0 (by omega)
          have := h1 _ a1
          omega
      rw [ht0]
      refine firstAbove_none fun j hj hl => ?_
      have a2 := hget j hj
      have := h2 _ a2.1 hl
      omega
  have e : schedAt [] A = t := by simp only [schedAt, List.getElem?_nil]; exact key
  simp only [schedR, e]
  rw [List.getElem?_eq_getElem ht, hkt]
theorem AS.run_done {sched : AS Λ → Option Nat} {most fuel : Nat} {A : AS Λ} (h : A.isOver = true) : AS.run sched most fuel A = (A, 1, true) := by
  cases fuel <;> simp [AS.run, h]
theorem AS.run_step {sched : AS Λ → Option Nat} {most fuel k : Nat} {A : AS Λ} (h1 : A.isOver = false) (h2 : A.able ≠ []) (h3 : A.went.length ≠ most) (h4 : sched A = some k) :
    AS.run sched most (fuel + 1) A = AS.run sched most fuel ((A.pick k A.able.length).turn k) := by
  conv => lhs; unfold AS.run
  simp [h1, h2, h3, h4]
theorem AtC.congr {c' : Nat → Nat} (H : AtC x ns c A v) (h : ∀ j, j < ns.length → c j = c' j) : AtC x ns c' A v := ⟨H.len, fun j hj => by rw [← h j hj]; exact H.th j hj, H.val⟩
theorem AtC.turn (H : AtC x ns c A v) {k n m : Nat} (hk : k < ns.length) (hc : c k = n + 1) : AtC x ns (fun j => if j = k then n else c j) ((A.pick k m).turn k) (wrap64 (v + 1)) ∧ ((A.pick k m).turn k).went = A.went ++ [(k : Int)] := by
  have e : (A.pick k m).ths[k]? = some (adds x (n + 1)) := by rw [← hc]; exact H.th k hk
  simp only [adds] at e
  have hl : k < A.ths.length := by rw [H.len]; exact hk
  refine ⟨⟨?_, fun j hj => ?_, ?_⟩, by rw [AS.turn_went]; rfl⟩
  · simp only [AS.turn, e, List.length_set]; exact H.len
  · simp only [AS.turn, e]
    show (A.ths.set k (adds x n))[j]? = _
    by_cases z : j = k
    · subst z; rw [List.getElem?_set_self hl, if_pos rfl]
    · rw [List.getElem?_set_ne (Ne.symm z), if_neg z]; exact H.th j hj
  · simp only [AS.turn, e]
    show (A.s.acc k 4 x 1 0).vals x = _
    simp [Sh.acc, Sh.ans, behind, H.val]
/-- From place i in round r on the run comes to its end; d places are left in that round, f rounds behind it. -/
def Pos (Λ : Type) (x : Addr) (ns : List Nat) (most f d : Nat) : Prop := ∀ (r i : Nat) (A : AS Λ) (v : Int) (fuel : Nat), i + d = ns.length → (∀ j, j < ns.length → ns.getD j 0 ≤ r + 1 + f) →
    AtC x ns (fun j => if j < i then ns.getD j 0 - (r + 1) else ns.getD j 0 - r) A v →
    ((A.went.getLastD (-1) < i ∧ ∀ j, j < i → A.went.getLastD (-1) < (j : Int) → ns.getD j 0 - (r + 1) = 0) ∨ (∀ j, j < i → ns.getD j 0 - (r + 1) = 0) ∧ ∀ j, j < ns.length → A.went.getLastD (-1) < (j : Int) → (if j < i then ns.getD j 0 - (r + 1) else ns.getD j 0 - r) = 0) →
    (rowOf ns r i ++ rowsOf ns (r + 1) f).length ≤ fuel → A.went.length + (rowOf ns r i ++ rowsOf ns (r + 1) f).length ≤ most → 0 ≤ v → v + (rowOf ns r i ++ rowsOf ns (r + 1) f).length < 9223372036854775808 →
    ∃ B : AS Λ, AS.run (schedR []) most fuel A = (B, 1, true) ∧ B.went = A.went ++ (rowOf ns r i ++ rowsOf ns (r + 1) f).map (fun j : Nat => (j : Int)) ∧ AtC x ns (fun _ => 0) B (v + (rowOf ns r i ++ rowsOf ns (r + 1) f).length)
variable {most f d : Nat}
theorem Pos.zero : Pos Λ x ns most 0 0 := by
  intro r i A v fuel hi hns H hl hf hm h0 hv
  have e : rowOf ns r i ++ rowsOf ns (r + 1) 0 = [] := by rw [rowOf_end ns r i (by omega)]; rfl
  have H' : AtC x ns (fun _ => 0) A v := H.congr fun j hj => by
    have := hns j hj
    rw [if_pos (by omega)]; omega
  rw [e]
  exact ⟨A, AS.run_done (H'.isOver.2 fun _ _ => rfl), by simp, by simpa using H'⟩
theorem Pos.wrap (h : Pos Λ x ns most f ns.length) : Pos Λ x ns most (f + 1) 0 := by
  intro r i A v fuel hi hns H hl hf hm h0 hv
  have e : rowOf ns r i ++ rowsOf ns (r + 1) (f + 1) = rowOf ns (r + 1) 0 ++ rowsOf ns (r + 2) f := by rw [rowOf_end ns r i (by omega)]; rfl
  rw [e] at hf hm hv ⊢
  refine h (r + 1) 0 A v fuel (by omega) (fun j hj => by have := hns j hj; omega) (H.congr fun j hj => ?_) (.inr ⟨fun j hj => absurd hj (Nat.not_lt_zero _), fun j hj hlj => ?_⟩) hf hm h0 hv
  · rw [if_pos (by omega), if_neg (by omega)]
  · rw [if_neg (by omega)]
    rcases hl with ⟨_, h2⟩ | ⟨_, h2⟩
    · exact h2 j (by omega) hlj
    · have := h2 j hj hlj; rwa [if_pos (by omega)] at this
theorem Pos.step (h : Pos Λ x ns most f d) : Pos Λ x ns most f (d + 1) := by
  intro r i A v fuel hi hns H hl hf hm h0 hv
  have hiN : i < ns.length := by omega
  rw [rowOf_step ns r i hiN] at hf hm hv ⊢
  by_cases hr : r < ns.getD i 0
  · rw [if_pos hr] at hf hm hv ⊢
    simp only [List.cons_append, List.length_cons] at hf hm hv ⊢
    obtain ⟨fuel, rfl⟩ : ∃ g, fuel = g + 1 := ⟨fuel - 1, by omega⟩
    have hci : (fun j => if j < i then ns.getD j 0 - (r + 1) else ns.getD j 0 - r) i = (ns.getD i 0 - (r + 1)) + 1 := by simp only; rw [if_neg (by omega)]; omega
    have hpos : 0 < (fun j => if j < i then ns.getD j 0 - (r + 1) else ns.getD j 0 - r) i := by rw [hci]; omega
    have hno : A.isOver = false := by
      cases e : A.isOver with
      | false => rfl
      | true => exact absurd (H.isOver.1 e i hiN) (Nat.pos_iff_ne_zero.1 hpos)
    have hmem : i ∈ A.able := by rw [H.able]; simp only [List.mem_filter, List.mem_range, decide_eq_true_eq]; exact ⟨hiN, hpos⟩
    have hsched := H.sched hiN hpos (hl.imp (fun ⟨a, b⟩ => ⟨a, fun j hj hlj => by rw [if_pos hj]; exact b j hj hlj⟩) (fun ⟨a, b⟩ => ⟨fun j hj => by rw [if_pos hj]; exact a j hj, b⟩))
    rw [AS.run_step hno (List.ne_nil_of_mem hmem) (by omega) hsched]
    obtain ⟨H', hw⟩ := H.turn (m := A.able.length) hiN hci
    have hwr : wrap64 (v + 1) = v + 1 := by unfold wrap64; omega
    rw [hwr] at H'
    obtain ⟨B, hB1, hB2, hB3⟩ := h r (i + 1) _ (v + 1) fuel (by omega) hns (H'.congr fun j hj => by
        by_cases z : j = i
        · subst z; rw [if_pos rfl, if_pos (by omega)]
        · rw [if_neg z]
          by_cases z' : j < i
          · rw [if_pos z', if_pos (by omega)]
          · rw [if_neg z', if_neg (by omega)]) (.inl ⟨by rw [hw]; simp; omega, fun j hj hlj => by rw [hw] at hlj; simp at hlj; omega⟩) (by omega) (by rw [hw]; simp only [List.length_append, List.length_singleton] at hm ⊢; omega) (by omega) (by omega)
    refine ⟨B, hB1, by rw [hB2, hw]; simp, ?_⟩
    have : v + 1 + ((rowOf ns r (i + 1) ++ rowsOf ns (r + 1) f).length : Int) = v + ((rowOf ns r (i + 1) ++ rowsOf ns (r + 1) f).length + 1 : Nat) := by push_cast; omega
    rw [← this]; exact hB3
  · rw [if_neg hr] at hf hm hv ⊢
    have z0 : ns.getD i 0 - r = 0 := by omega
    have z1 : ns.getD i 0 - (r + 1) = 0 := by omega
    refine h r (i + 1) A v fuel (by omega) hns (H.congr fun j hj => ?_) (hl.imp (fun ⟨a, b⟩ => ⟨by omega, fun j hj hlj => ?_⟩) (fun ⟨a, b⟩ => ⟨fun j hj => ?_, fun j hj hlj => ?_⟩)) hf hm h0 hv
    · by_cases z : j = i
      · subst z; rw [if_neg (by omega), if_pos (by omega)]; omega
      · by_cases z' : j < i
        · rw [if_pos z', if_pos (by omega)]
        · rw [if_neg z', if_neg (by omega)]
    · by_cases z : j = i
      · subst z; exact z1
      · exact b j (by omega) hlj
    · by_cases z : j = i
      · subst z; exact z1
      · exact a j (by omega)
    · have := b j hj hlj
      by_cases z : j = i
      · subst z; rw [if_pos (by omega)]; exact z1
      · by_cases z' : j < i
        · rw [if_pos (by omega)]; rwa [if_pos z'] at this
        · rw [if_neg (by omega)]; rwa [if_neg z'] at this
theorem Pos.all : ∀ f d, Pos Λ x ns most f d
  | 0, 0 => .zero
  | 0, d + 1 => .step (Pos.all 0 d)
  | f + 1, 0 => .wrap (Pos.all f ns.length)
  | f + 1, d + 1 => .step (Pos.all (f + 1) d)
  termination_by f d => (f, d)
end
end Go.Proofs.Ytkbfbphbdljaaaa

/- GateRounds' bodies. Every premise stands in the statements. -/
set_option linter.unusedVariables false
set_option linter.unusedSimpArgs false
namespace Go.Proofs.Ytkbfbphbdljaaaa
open Go.Tre Go.RowKit
open Go.Conc (G base baseD crowd rcase scase)
open Go.ConcN (upd upd_ne upd_same)
variable {Λ : Type}
theorem Like.trans {a b c : TD Λ} (h : Like a b) (k : Like b c) : Like a c := ⟨h.1.trans k.1, h.2.1.trans k.2.1, h.2.2.1.trans k.2.2.1, h.2.2.2.1.trans k.2.2.2.1, h.2.2.2.2.1.trans k.2.2.2.2.1, h.2.2.2.2.2.trans k.2.2.2.2.2⟩
noncomputable def loop12 : Code := match Try.f12.body with | some (.seq _ (.block _ (.loop c))) => c | _ => .skip
section
variable [Base]
set_option maxRecDepth 100000 in
set_option maxHeartbeats 1000000 in
theorem rounds_loop {X : Rn Λ} {i : Nat} {td : TD Λ} {cf : Frame} (hE : Ends X i td cf) {xb xo ob ib pb po on oc j : Nat} {w n : Nat} (hg : ∀ s, X.L.good s → (s.vals ⟨xb, xo, none⟩).isSome = true) (hw : w < 256) (hn : n = w % 32) (hj : j < on) (hon : on ≤ maxLen)
    (hc : ∀ l m O, X.L.inv l m O → m.cell? ⟨ob, 0, none⟩ = some (.slice (some ⟨pb, po, none⟩) on oc) ∧ m.cell? ⟨ib, 0, none⟩ = some (.int .i64 (j : Int)) ∧ m.cell? ⟨pb, po + j, none⟩ = some (.int .u8 (w : Int))) :
    ∀ (r k : Nat) (m : World) (O : Own) (Γ : Nat → Option Seat) (G : GSt Λ) (b : Nat) (sb : Seat) (B : Nat → Option Nat) (d : TD Λ) (y4 y6 y7 y8 y9 y10 y11 y12 y13 y14 y15 y16 : Value), k + r = n → Like d td → Runs X i td.g b sb B G d m O Γ → G.st = false →
      Back X b sb (upd B i none) (fun G' => Next (Prom X (adds ⟨xb, xo, none⟩ r) i) G i d G.s (adds ⟨xb, xo, none⟩ r) G') →
      Okk Try.prog X.Φ td.g (Go.Conc.G ((base 12).at ⟨#[.pointer (some ⟨d.tp, 0, none⟩), .pointer (some ⟨ob, 0, none⟩), .pointer (some ⟨ib, 0, none⟩), .pointer (some ⟨xb, xo, none⟩), y4, .int .u8 (k : Int), y6, y7, y8, y9, y10, y11, y12, y13, y14, y15, y16], []⟩ [.code loop12, .inLoop loop12, .inBlock 0]) [cf, bot]) m O Γ := by
  have hP := try_plain2
  unfold maxLen at hon
  intro r
  induction r with
  | zero =>
    intro k m O Γ G b sb B d y4 y6 y7 y8 y9 y10 y11 y12 y13 y14 y15 y16 hk hl hR hst hback
    obtain ⟨c1, c2, c3⟩ := hc _ _ _ hR.mem.law
    simp only [loop12, Try.f12]
    refine .ctl0 rfl (fun _ => Go.Conc.stepG_seq) (.ctl0 rfl (fun _ => Go.Conc.stepG_seq) (.ctl0 rfl (fun _ => Go.Conc.stepG_region) ?_))
    refine .val hP rfl rfl rfl (.int .u8 (k : Int)) (fun τ => by simp [go_sem]) ?_
    walk_nrm
    refine .val hP rfl rfl rfl (.slice (some ⟨pb, po, none⟩) on oc) (fun τ => by simp [go_sem, gh_cell, c1]) ?_
    walk_nrm
    refine .val hP rfl rfl rfl (.int .i64 (j : Int)) (fun τ => by simp [go_sem, gh_cell, c2]) ?_
    walk_nrm
    refine .val hP rfl rfl rfl (.pointer (some ⟨pb, po + j, none⟩)) (fun τ => by simp [go_sem]; try omega) ?_
    walk_nrm
    refine .val hP rfl rfl rfl (.int .u8 (w : Int)) (fun τ => by simp [go_sem, gh_cell, c3]) ?_
    walk_nrm
    refine .val hP rfl rfl rfl (.int .u8 (n : Int)) (fun τ => by subst hn; simp [go_sem]; exact Int.tmod_eq_emod_of_nonneg (by omega)) ?_
    walk_nrm
    refine .val hP rfl rfl rfl (.bool false) (fun τ => by simp [go_sem]; try omega) ?_
    walk_nrm
    refine .ctl0 rfl (fun _ => Go.Conc.stepG_region_end) (.ctl0 rfl (fun _ => Go.Conc.stepG_cond (t := false) rfl) ?_)
    simp only [Bool.false_eq_true, if_false]
    refine .ctl0 rfl (fun _ => Go.Conc.stepG_exit rfl) (.ctl0 rfl (fun _ => Go.Conc.stepG_end) ?_)
    refine .leave (v := .tuple #[]) rfl rfl Try.func12 (fun w => by simp [go_sem, results, Try.f12]) (fun w => by simp [go_sem, results, Try.f12]) ?_
    exact hE.fin m O Γ G b sb B d _ hl hR (hback.mono fun G'' h => by obtain ⟨sc, κ, e1, e2, _⟩ := h; exact ⟨sc, κ, e1, e2, trivial⟩)
  | succ r ih =>
    intro k m O Γ G b sb B d y4 y6 y7 y8 y9 y10 y11 y12 y13 y14 y15 y16 hk hl hR hst hback
    obtain ⟨c1, c2, c3⟩ := hc _ _ _ hR.mem.law
    simp only [loop12, Try.f12]
    refine .ctl0 rfl (fun _ => Go.Conc.stepG_seq) (.ctl0 rfl (fun _ => Go.Conc.stepG_seq) (.ctl0 rfl (fun _ => Go.Conc.stepG_region) ?_))
    refine .val hP rfl rfl rfl (.int .u8 (k : Int)) (fun τ => by simp [go_sem]) ?_
    walk_nrm
    refine .val hP rfl rfl rfl (.slice (some ⟨pb, po, none⟩) on oc) (fun τ => by simp [go_sem, gh_cell, c1]) ?_
    walk_nrm
    refine .val hP rfl rfl rfl (.int .i64 (j : Int)) (fun τ => by simp [go_sem, gh_cell, c2]) ?_
    walk_nrm
    refine .val hP rfl rfl rfl (.pointer (some ⟨pb, po + j, none⟩)) (fun τ => by simp [go_sem]; try omega) ?_
    walk_nrm
    refine .val hP rfl rfl rfl (.int .u8 (w : Int)) (fun τ => by simp [go_sem, gh_cell, c3]) ?_
    walk_nrm
    refine .val hP rfl rfl rfl (.int .u8 (n : Int)) (fun τ => by subst hn; simp [go_sem]; exact Int.tmod_eq_emod_of_nonneg (by omega)) ?_
    walk_nrm
    refine .val hP rfl rfl rfl (.bool true) (fun τ => by simp [go_sem]; try omega) ?_
    walk_nrm
    refine .ctl0 rfl (fun _ => Go.Conc.stepG_region_end) (.ctl0 rfl (fun _ => Go.Conc.stepG_cond (t := true) rfl) ?_)
    simp only [if_true]
    refine .ctl0 rfl (fun _ => Go.Conc.stepG_skip) (.ctl0 rfl (fun _ => Go.Conc.stepG_seq) (.ctl0 rfl (fun _ => Go.Conc.stepG_block) (.ctl0 rfl (fun _ => Go.Conc.stepG_region) ?_)))
    refine .val hP rfl rfl rfl (.pointer (some ⟨d.tp, 0, none⟩)) (fun τ => by simp [go_sem]) ?_
    walk_nrm
    refine .enter (f := 13) (args := #[.pointer (some ⟨d.tp, 0, none⟩), .pointer (some ⟨xb, xo, none⟩), .int .i8 4, .int .i64 1, .int .i64 0]) rfl rfl (fun w => ?_) (fun w => ?_) ?_
    · have := (callFunc_enter Try.func13 (by kernel_rfl) rfl #[.pointer (some ⟨d.tp, 0, none⟩), .pointer (some ⟨xb, xo, none⟩), .int .i8 4, .int .i64 1, .int .i64 0] w).1
      simp [go_sem, this]
    · have := (callFunc_enter Try.func13 (by kernel_rfl) rfl #[.pointer (some ⟨d.tp, 0, none⟩), .pointer (some ⟨xb, xo, none⟩), .int .i8 4, .int .i64 1, .int .i64 0] w).2
      simp [go_sem, this]
    refine Okk.stepI (td := d) (seg := fun _ s => s) (nx := fun _ _ => adds ⟨xb, xo, none⟩ r) (stop := fun s => s) hR hst (by decide) (by decide) (hg _ hR.mem.good) (Callable.mk rfl) (fun m' O' Γ' G' b' sb' B' d' s₀ hl' hst' hs hR' hpriv hcap' hext hback' => ?_) (fun m' O' Γ' G' b' sb' B' d' hl' hst' hR' hpriv hext hback' => ?_) hback
    · rw [Frame.finish_at, ← hl'.1]
      walk_nrm
      refine .ctl0 rfl (fun _ => Go.Conc.stepG_region_end) (.ctl0 rfl (fun _ => Go.Conc.stepG_inBlock) (.ctl0 rfl (fun _ => Go.Conc.stepG_region) ?_))
      have hwr : IntKind.u8.wrap ((k : Int) + 1) = ((k + 1 : Nat) : Int) := by
        have h1 : k + 1 ≤ 31 := by omega
        rw [IntWalk.u8_in _ ⟨by omega, by omega⟩]; omega
      refine .val hP rfl rfl rfl (.int .u8 (k : Int)) (fun τ => by simp [go_sem]) ?_
      walk_nrm
      refine .val hP rfl rfl rfl (.int .u8 ((k + 1 : Nat) : Int)) (fun τ => by simp [go_sem, hwr]; try omega) ?_
      walk_nrm
      refine .val hP rfl rfl rfl (.int .u8 ((k + 1 : Nat) : Int)) (fun τ => by simp [go_sem]) ?_
      walk_nrm
      refine .ctl0 rfl (fun _ => Go.Conc.stepG_region_end) (.ctl0 rfl (fun _ => Go.Conc.stepG_inLoop) ?_)
      exact ih (k + 1) m' O' Γ' G' b' sb' B' d' _ _ _ _ _ _ _ _ _ _ _ _ (by omega) (hl'.trans hl) hR' hst' hback'
    · refine Okk.raise rfl rfl rfl ?_
      exact hE.stop m' O' Γ' G' b' sb' B' d' _ _ (hl'.trans hl) hst' hR' hback'
set_option maxRecDepth 100000 in
theorem born12 {X : Rn Λ} {xb xo ob ib pb po on oc j w : Nat} (hg : ∀ s, X.L.good s → (s.vals ⟨xb, xo, none⟩).isSome = true) (hw : w < 256) (hj : j < on) (hon : on ≤ maxLen)
    (hc : ∀ l m O, X.L.inv l m O → m.cell? ⟨ob, 0, none⟩ = some (.slice (some ⟨pb, po, none⟩) on oc) ∧ m.cell? ⟨ib, 0, none⟩ = some (.int .i64 (j : Int)) ∧ m.cell? ⟨pb, po + j, none⟩ = some (.int .u8 (w : Int))) :
    Born X (.func (.func 12) #[] #[.pointer (some ⟨ob, 0, none⟩), .pointer (some ⟨ib, 0, none⟩), .pointer (some ⟨xb, xo, none⟩)]) (fun _ s => s) (fun _ _ => adds ⟨xb, xo, none⟩ (w % 32)) := by
  refine .inr ⟨12, Try.f12, _, _, rfl, Try.func12, by kernel_rfl, rfl, fun i cf td hE m O Γ G b sb B hR hst hcap hback => ?_⟩
  have hP := try_plain2
  rw [Go.Conc.enter_at _ Try.func12 rfl]
  simp only [Try.ntmps12]
  refine .ctl0 rfl (fun _ => Go.Conc.stepG_seq) (.ctl0 rfl (fun _ => Go.Conc.stepG_region) ?_)
  refine .val hP rfl rfl rfl (.int .u8 0) (fun τ => by simp [go_sem]) ?_
  walk_nrm
  refine .ctl0 rfl (fun _ => Go.Conc.stepG_region_end) (.ctl0 rfl (fun _ => Go.Conc.stepG_block) (.ctl0 rfl (fun _ => Go.Conc.stepG_loop) ?_))
  exact rounds_loop hE hg hw rfl hj hon hc (w % 32) 0 m O Γ G b sb B td undef undef undef undef undef undef undef undef undef undef undef undef (by omega) ⟨rfl, rfl, rfl, rfl, rfl, rfl⟩ hR hst hback
end
end Go.Proofs.Ytkbfbphbdljaaaa
