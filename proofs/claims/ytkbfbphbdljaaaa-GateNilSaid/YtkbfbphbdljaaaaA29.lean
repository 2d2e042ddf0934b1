/- Texts of one proof, joined: each says what it proves. Every premise stands in the statements. -/
import Derived.Test.YtkbfbphbdljaaaaA28
/- gate's ends, whole. Every premise stands in the statements. -/
set_option linter.unusedVariables false
set_option linter.unusedSimpArgs false
namespace Go.Proofs.Ytkbfbphbdljaaaa
open Go.Tre Go.RowKit
open Go.Conc (G base baseD crowd rcase scase)
open Go.ConcN (upd upd_ne upd_same)
variable {Λ : Type}
section
variable [Base]
theorem Upto.below {O : Own} {h : Nat} {m w' : World} {τ : Tape} (h2 : RowKit.Below m.heap.size (re (O.gh h m) τ 0) w') : Upto (fun _ => False) m w' := by
  refine (Upto.gh (O := O) (h := h)).trans ((Upto.of_heap (m := O.gh h m) (m' := re (O.gh h m) τ 0) rfl).trans ?_)
  have hsz : (re (O.gh h m) τ 0).heap.size = m.heap.size := gh_size
  refine ⟨h2.size, fun a u hu _ => ?_, fun b o hb _ _ => ?_, fun b c e f hb _ => ⟨f, ?_⟩⟩
  · rw [h2.cell (p := a) (by rw [← hsz]; exact World.block_lt_of_cell? _ a hu)]; exact hu
  · rw [h2.block b (by rw [← hsz]; exact (Array.getElem?_eq_some_iff.1 hb).1)]; exact hb
  · rw [h2.block b (by rw [← hsz]; exact (Array.getElem?_eq_some_iff.1 hb).1)]; exact hb
omit [Base] in
theorem LA_congr {en : Nat → Bool} {la la' : Nat → Acc} {k : Nat} (h : ∀ j, j < k → en j = false → la j = la' j) : LA en la k = LA en la' k := by
  induction k with
  | zero => rfl
  | succ k ih =>
    have := ih fun j hj he => h j (by omega) he
    cases e : en k with
    | true => rw [LA_no e, LA_no e]; exact this
    | false => rw [LA_yes e, LA_yes e, this, h k (by omega) e]
/-- A list that the holder has to itself. -/
def Got (O : Own) (h : Nat) (m : World) (size : Nat) (v : Value) (n : Nat) (xs : List Value) : Prop :=
  xs.length = n * size ∧ ((v = .slice none 0 0 ∧ n = 0) ∨ ∃ g cap, v = .slice (some ⟨g, 0, none⟩) n cap ∧ n ≤ cap ∧ cap ≤ maxLen ∧ Holds (rowK g xs) h m O)
/-- All that the holder owns wholly. -/
def _root_.Go.Tre.Own.mine0 (O : Own) (h : Nat) (m : World) (a : Addr) : Option Value := if O.o a.block = some h ∧ O.pre a.block = 0 then O.mine h m a else none
theorem Holds.mine0 {O : Own} {h : Nat} {m : World} : Holds (O.mine0 h m) h m O := fun x u hx => by
  unfold Own.mine0 at hx
  split at hx
  · rename_i z; exact ⟨hx, z⟩
  · cases hx
theorem Holds.from0 {KP : Addr → Option Value} {O O' : Own} {h : Nat} {m m' : World} (H : Holds KP h m O) (hk : Holds (O.mine0 h m) h m' O') : Holds KP h m' O' := fun x u hx => hk x u (by unfold Own.mine0; rw [if_pos (H x u hx).2]; exact (H x u hx).1)
theorem Holds.set0 {O : Own} {h b i : Nat} {m m' : World} (hu : Upto (fun a => a = ⟨b, i, none⟩) m m') (hb : O.o b ≠ some h) : Holds (O.mine0 h m) h m' O := fun x u hx => by
  obtain ⟨z, z0⟩ := Holds.mine0 x u hx
  obtain ⟨z1, z2, z3⟩ := mine_some z
  exact ⟨mine_of z1 z2 (hu.cell _ _ z3 fun e => by subst e; exact hb z0.1), z0⟩
/-- What is owned stays so when more is taken. -/
theorem Holds.take {KP : Addr → Option Value} {O : Own} {h g : Nat} {m m' : World} (H : Holds KP h m O) (hu : Upto (fun _ => False) m m') : Holds KP h m' (O.take h g) := fun x u hx => by
  obtain ⟨z, z0⟩ := H x u hx
  obtain ⟨z1, z2, z3⟩ := mine_some z
  have e : (O.take h g).o x.block = some h := by simp only [Own.take]; split <;> first | rfl | exact z0.1
  exact ⟨mine_of z1 (.inl e) (hu.cell _ _ z3 fun z => z), e, z0.2⟩
theorem Got.hold {O O' : Own} {h : Nat} {m m' : World} {size n : Nat} {v : Value} {xs : List Value} (H : Got O h m size v n xs) (hk : Holds (O.mine0 h m) h m' O') : Got O' h m' size v n xs := by
  refine ⟨H.1, H.2.imp (fun z => z) ?_⟩
  rintro ⟨g, cap, e1, e2, e3, e4⟩
  exact ⟨g, cap, e1, e2, e3, e4.from0 hk⟩
theorem Got.upto {O : Own} {h rb : Nat} {m m' : World} {size n : Nat} {v : Value} {xs : List Value} (H : Got O h m size v n xs) (hu : Upto (fun a => a.block = rb) m m') (hv : v.ownBlock ≠ some rb) : Got O h m' size v n xs := by
  refine ⟨H.1, H.2.imp (fun z => z) ?_⟩
  rintro ⟨g, cap, rfl, e2, e3, e4⟩
  refine ⟨g, cap, rfl, e2, e3, fun x u hx => ?_⟩
  obtain ⟨z, z0⟩ := e4 x u hx
  obtain ⟨z1, z2, z3⟩ := mine_some z
  refine ⟨mine_of z1 z2 (hu.cell _ _ z3 fun e => ?_), z0⟩
  unfold rowK at hx
  split at hx
  · rename_i hh; exact hv (by simp only [Value.ownBlock]; rw [← hh.1, e])
  · cases hx
theorem Got.more {O : Own} {h g : Nat} {m m' : World} {size n : Nat} {v : Value} {xs : List Value} (H : Got O h m size v n xs) (hu : Upto (fun _ => False) m m') : Got (O.take h g) h m' size v n xs := by
  refine ⟨H.1, H.2.imp (fun z => z) ?_⟩
  rintro ⟨g, cap, e1, e2, e3, e4⟩
  exact ⟨g, cap, e1, e2, e3, e4.take hu⟩
theorem Got.same {O : Own} {h : Nat} {m m' : World} {size n : Nat} {v : Value} {xs : List Value} (H : Got O h m size v n xs) (hu : Upto (fun _ => False) m m') : Got O h m' size v n xs := by
  refine ⟨H.1, H.2.imp (fun z => z) ?_⟩
  rintro ⟨g, cap, e1, e2, e3, e4⟩
  exact ⟨g, cap, e1, e2, e3, e4.upto hu⟩
/-- A row that was made is taken. -/
theorem Got.make {O : Own} {h B : Nat} {m : World} {ty : TypeId} {size n : Nat} {v : Value} {xs : List Value} (hown : m.ownsRow B ty size v n xs) (hB : Base.b0 ≤ B) (hO : ∀ b, B ≤ b → O.o b = none ∧ O.pre b = 0) :
    Got O h m size v n xs ∨ ∃ g cap, v = .slice (some ⟨g, 0, none⟩) n cap ∧ B ≤ g ∧ g < m.heap.size ∧ Got (O.take h g) h m size v n xs := by
  obtain ⟨hl, ⟨rfl, rfl⟩ | ⟨g, cap, cur, rfl, hg, hc, h1, h2, h3, h4⟩⟩ := hown
  · exact .inl ⟨hl, .inl ⟨rfl, rfl⟩⟩
  · refine .inr ⟨g, cap, rfl, hg, (Array.getElem?_eq_some_iff.1 hc).1, hl, .inr ⟨g, cap, rfl, h1, h2, fun x u hx => ?_⟩⟩
    unfold rowK at hx
    split at hx
    · rename_i hh
      obtain ⟨e1, e2⟩ := hh
      obtain ⟨b, o, s⟩ := x
      simp only at e1 e2 hx
      subst e1 e2
      refine ⟨mine_of (by show Base.b0 ≤ b; omega) (.inl (by simp [Own.take])) ?_, by simp [Own.take], (hO b hg).2⟩
      rw [← h4] at hx
      rw [List.getElem?_take] at hx
      split at hx
      · simp only [World.cell?, hc]
        simpa using hx
      · cases hx
    · cases hx
set_option maxRecDepth 100000 in
set_option maxHeartbeats 4000000 in
/-- ████ ends ████ -/
theorem Okk.endsI {X : Rn Λ} {h : Nat} {KP : Addr → Option Value} {c : Frame} {cs : List Frame} {m : World} {O : Own} {Γ : Nat → Option Seat} {G : GSt Λ} (hE : X.E h = none)
    (I : MemI X.L X.rp X.mb (fun _ => none) G m O) (S : SeatI X.E h (fun _ => none) G Γ) (hprom : Proms X G) (hKP : Holds KP h m O)
    (hn : ∀ (m' : World) (O' : Own) (Γ' : Nat → Option Seat) (G' : GSt Λ) (lv : Value), MemI X.L X.rp X.mb (fun _ => none) G' m' O' → SeatI X.E h (fun _ => none) G' Γ' → Holds KP h m' O' → G'.st = true → G'.abs = G.abs.stopFrom 0 G.tds.length ∧ Ext G.κ G'.κ →
        Got O' h m' 8 lv G.abs.left.length (G.abs.left.flatMap fun a => a.vals.toList) ∧ (∀ g, lv.ownBlock = some g → m.heap.size ≤ g) →
        Okk Try.prog X.Φ h (Go.Conc.G (c.finish lv) cs) m' O' Γ') :
    Okk Try.prog X.Φ h (Go.Conc.G (Frame.enter Try.prog 78 #[.pointer (some ⟨X.rp, 0, none⟩)] .normal) (c :: cs)) m O Γ := by
  have hP := try_plain2
  rw [Go.Conc.enter_at _ Try.func78 rfl]
  simp only [Try.ntmps78]
  have lens : ∀ (n i : Nat) (A : AS Λ), (A.stopFrom i n).ths.length = A.ths.length := fun n => by
    induction n with
    | zero => intro i A; rfl
    | succ n ih => intro i A; exact (ih (i + 1) (A.stopTurn i)).trans (A.stopTurn_len i)
  have two : ∀ (m1 : World) (O1 : Own) (G1 : GSt Λ) (vl : Value) (y5 y6 y7 y8 y11 y12 y13 y14 y15 y16 y17 y18 y19 y20 y21 y22 y23 y24 y25 y26 y27 y28 y29 y30 y31 y32 y33 y34 y35 y36 y37 y38 y39 y40 y41 y42 y43 y44 y45 y46 y47 y48 y49 y50 y51 y52 y53 y54 y55 y56 y57 y58 y59 y60 y61 : Value), MemI X.L X.rp X.mb (fun _ => none) G1 m1 O1 → SeatI X.E h (fun _ => none) G1 Γ → Proms X G1 → Holds KP h m1 O1 → G1.abs = G.abs ∧ Ext G.κ G1.κ → G1.tds.length = G.tds.length → Got O1 h m1 8 vl G.abs.left.length (G.abs.left.flatMap fun a => a.vals.toList) ∧ (∀ g, vl.ownBlock = some g → m.heap.size ≤ g) →
      Okk Try.prog X.Φ h (Go.Conc.G ((base 78).at ⟨#[.pointer (some ⟨X.rp, 0, none⟩), undef, .slice none 0 0, vl, undef, y5, y6, y7, y8, undef, undef, y11, y12, y13, y14, y15, y16, y17, y18, y19, y20, y21, y22, y23, y24, y25, y26, y27, y28, y29, y30, y31, y32, y33, y34, y35, y36, y37, y38, y39, y40, y41, y42, y43, y44, y45, y46, y47, y48, y49, y50, y51, y52, y53, y54, y55, y56, y57, y58, y59, y60, y61, undef, undef, undef, undef, undef, undef, undef, undef, undef, undef, undef, undef, undef, undef, undef, undef, undef, undef, undef, undef, undef, undef, undef, undef, undef, undef, undef], []⟩ [.code (match Try.f78.body with | some (.seq _ (.seq _ (.seq _ c))) => c | _ => .skip)]) (c :: cs)) m1 O1 Γ := by
    intro m1 O1 G1 vl y5 y6 y7 y8 y11 y12 y13 y14 y15 y16 y17 y18 y19 y20 y21 y22 y23 y24 y25 y26 y27 y28 y29 y30 y31 y32 y33 y34 y35 y36 y37 y38 y39 y40 y41 y42 y43 y44 y45 y46 y47 y48 y49 y50 y51 y52 y53 y54 y55 y56 y57 y58 y59 y60 y61 I1 S1 hp1 hK1 ha1 ht1 hgot
    simp only [Try.f78]
    refine .ctl0 rfl (fun _ => Go.Conc.stepG_seq) (.ctl0 rfl (fun _ => Go.Conc.stepG_region) ?_)
    refine .val hP rfl rfl rfl (.pointer (some ⟨X.rp, 0, none⟩)) (fun τ => by simp [go_sem]) ?_
    walk_nrm
    refine .val hP rfl rfl rfl (.pointer (some ⟨X.rp, 0, none⟩)) (fun τ => by simp [go_sem]) ?_
    walk_nrm
    refine .val hP rfl rfl rfl (.pointer (some ⟨X.rp, 6, none⟩)) (fun τ => by simp [go_sem]) ?_
    walk_nrm
    have h6 := I1.stops
    have hro := I1.ro
    have hff : ∀ τ, (re (O1.gh h m1) τ 0).frozen? ⟨X.rp, 6, none⟩ = false := fun τ => gh_free (by show Base.b0 ≤ X.rp; exact I1.b0) (.inl hro.1) (by show O1.pre X.rp ≤ 6; rw [hro.2]; exact Nat.zero_le _)
    have h6' : ∀ τ, (re (O1.gh h m1) τ 0).cell? ⟨X.rp, 6, none⟩ = some (.bool G1.st) := fun τ => by rw [re_cell?, gh_cell]; exact h6
    refine .unit hP rfl rfl rfl (R := fun g' => Upto (fun a => a = ⟨X.rp, 6, none⟩) m1 g' ∧ g'.cell? ⟨X.rp, 6, none⟩ = some (.bool true)) (fun τ => ⟨(re (O1.gh h m1) τ 0).setCell ⟨X.rp, 6, none⟩ (.bool true), by have h1 := hff τ; have h2 := h6' τ; simp [go_sem, h1, h2, -re_cell?, -re_frozen?], ?_, ?_⟩) ?_
    · exact (Upto.gh (O := O1) (h := h)).trans ((Upto.of_heap (m := O1.gh h m1) (m' := re (O1.gh h m1) τ 0) rfl).trans (.setCell rfl))
    · exact World.cell?_setCell_same _ _ _ (h6' τ)
    intro m2 ⟨hu2, h62⟩ _
    have I2 := I1.setStops hu2 h62
    walk_nrm
    refine .ctl0 rfl (fun _ => Go.Conc.stepG_region_end) (.ctl0 rfl (fun _ => Go.Conc.stepG_seq) (.ctl0 rfl (fun _ => Go.Conc.stepG_seq) (.ctl0 rfl (fun _ => Go.Conc.stepG_region) ?_)))
    refine .val hP rfl rfl rfl (.int .i64 0) (fun τ => by simp [go_sem]) ?_
    walk_nrm
    refine .ctl0 rfl (fun _ => Go.Conc.stepG_region_end) (.ctl0 rfl (fun _ => Go.Conc.stepG_block) (.ctl0 rfl (fun _ => Go.Conc.stepG_loop) ?_))
    have hmine : Holds (O1.mine0 h m1) h m2 O1 := .set0 hu2 (by rw [I1.ro.1]; exact fun z => by cases z)
    refine Okk.stops (G := { G1 with st := true }) hE G.tds.length 0 m2 O1 Γ _ _ _ _ _ _ _ _ _ _ _ _ _ _ _ _ _ _ _ _ _ _ _ _ _ _ _ _ _ _ _ _ _ _ _ _ _ _ _ _ _ _ _ _ _ _ _ _ _ _ _ _ _ _ _ _ _ _ _ _ _ _ _ _ _ _ _ _ _ _ _ _ _ _ _ _ _ _ _ _ _ _ _ _ _ _ (by show G.tds.length + 0 = G1.tds.length; omega) I2 (S1.as rfl) (fun i td hi => hp1 i td hi) hmine rfl ?_
    intro m' O' Γ' G' y1 y2 y4 y5 y6 y7 y8 y9 y10 y11 y12 y13 y14 y15 y16 y17 y18 y19 y20 y21 y22 y23 y24 y25 y26 y27 y28 y29 y30 y31 y32 y33 y34 y35 y36 y37 y38 y39 y40 y41 y42 y43 y44 y45 y46 y47 y48 y49 y50 y51 y52 y53 y54 y55 y56 y57 y58 y59 y60 y61 y62 y63 y64 y65 y66 y67 y68 y69 y70 y71 y72 y73 y74 y75 y76 y77 y78 y79 y80 y81 y82 y83 y84 y85 y86 y87 y88 q1 q2 q3 q4 q5
    simp only [rest78, Try.f78]
    refine .ctl0 rfl (fun _ => Go.Conc.stepG_seq) (.ctl0 rfl (fun _ => Go.Conc.stepG_region) ?_)
    refine .val hP rfl rfl rfl vl (fun τ => by simp [go_sem]) ?_
    walk_nrm
    refine .val hP rfl rfl rfl vl (fun τ => by simp [go_sem]) ?_
    walk_nrm
    refine .ctl0 rfl (fun _ => Go.Conc.stepG_region_end) (.ctl0 rfl (fun _ => Go.Conc.stepG_ret') ?_)
    refine .leave (v := vl) rfl rfl Try.func78 (fun w => by simp [go_sem, results, Try.f78]) (fun w => by simp [go_sem, results, Try.f78]) ?_
    refine hn m' O' Γ' G' vl q1 q2 (hK1.from0 q3) q4 ⟨?_, Ext.trans ha1.2 q5.2⟩ ⟨hgot.1.hold q3, hgot.2⟩
    rw [q5.1]; show G1.abs.stopFrom _ _ = _; rw [ha1.1]
  have hst0 : G.abs.ths.length = G.tds.length := by simp [GSt.abs]
  refine .ctl0 rfl (fun _ => Go.Conc.stepG_seq) (.ctl0 rfl (fun _ => Go.Conc.stepG_region) ?_)
  refine .val hP rfl rfl rfl (.slice none 0 0) (fun τ => by simp [go_sem]) ?_
  walk_nrm
  refine .ctl0 rfl (fun _ => Go.Conc.stepG_region_end) (.ctl0 rfl (fun _ => Go.Conc.stepG_seq) (.ctl0 rfl (fun _ => Go.Conc.stepG_region) ?_))
  refine .val hP rfl rfl rfl (.slice none 0 0) (fun τ => by simp [go_sem]) ?_
  walk_nrm
  refine .ctl0 rfl (fun _ => Go.Conc.stepG_region_end) (.ctl0 rfl (fun _ => Go.Conc.stepG_seq) ?_)
  refine Okk.fresh fun hF => ?_
  have hb0 : Base.b0 ≤ m.heap.size := by have := I.b0; have := I.rlt; omega
  refine .code hP (c := c78_1) (by simp [c78_1, Try.f78, okCode, okOp, plS, plS2, plE]) (Q := fun t w' => ∃ v, w'.ownsRow m.heap.size 61 8 v G.abs.left.length (G.abs.left.flatMap fun a => a.vals.toList) ∧ Upto (fun _ => False) m w' ∧ ∃ (y5 y6 y7 y8 y11 y12 y13 y14 y15 y16 y17 y18 y19 y20 y21 y22 y23 y24 y25 y26 y27 y28 y29 y30 y31 y32 y33 y34 y35 y36 y37 y38 y39 y40 y41 y42 y43 y44 y45 y46 y47 y48 y49 y50 y51 y52 y53 y54 y55 y56 y57 y58 y59 y60 y61 : Value), t = #[.pointer (some ⟨X.rp, 0, none⟩), undef, .slice none 0 0, v, undef, y5, y6, y7, y8, undef, undef, y11, y12, y13, y14, y15, y16, y17, y18, y19, y20, y21, y22, y23, y24, y25, y26, y27, y28, y29, y30, y31, y32, y33, y34, y35, y36, y37, y38, y39, y40, y41, y42, y43, y44, y45, y46, y47, y48, y49, y50, y51, y52, y53, y54, y55, y56, y57, y58, y59, y60, y61, undef, undef, undef, undef, undef, undef, undef, undef, undef, undef, undef, undef, undef, undef, undef, undef, undef, undef, undef, undef, undef, undef, undef, undef, undef, undef, undef]) (fun τ => ?_) ?_
  · obtain ⟨v0, hv0, hR0, hk0⟩ := I.threads
    have cl : ∀ {a : Addr} {u : Value}, m.cell? a = some u → (re (O.gh h m) τ 0).cell? a = some u := fun {a u} ha => by rw [re_cell?, gh_cell]; exact ha
    have hsz : (re (O.gh h m) τ 0).heap.size = m.heap.size := gh_size
    rcases id hR0.2 with ⟨rfl, h0⟩ | ⟨g, cap, cur, f, rfl, hg1, hg2, hg3, hg4, _⟩
    · have hl0 : G.abs.left = [] := by simp [AS.left, hst0, h0]
      refine wp_mono (c78_1_nil (fun a w' => a.defers = [] ∧ ∃ v, w'.ownsRow m.heap.size 61 8 v G.abs.left.length (G.abs.left.flatMap fun a => a.vals.toList) ∧ Upto (fun _ => False) m w' ∧ ∃ (y5 y6 y7 y8 y11 y12 y13 y14 y15 y16 y17 y18 y19 y20 y21 y22 y23 y24 y25 y26 y27 y28 y29 y30 y31 y32 y33 y34 y35 y36 y37 y38 y39 y40 y41 y42 y43 y44 y45 y46 y47 y48 y49 y50 y51 y52 y53 y54 y55 y56 y57 y58 y59 y60 y61 : Value), a.tmps = #[.pointer (some ⟨X.rp, 0, none⟩), undef, .slice none 0 0, v, undef, y5, y6, y7, y8, undef, undef, y11, y12, y13, y14, y15, y16, y17, y18, y19, y20, y21, y22, y23, y24, y25, y26, y27, y28, y29, y30, y31, y32, y33, y34, y35, y36, y37, y38, y39, y40, y41, y42, y43, y44, y45, y46, y47, y48, y49, y50, y51, y52, y53, y54, y55, y56, y57, y58, y59, y60, y61, undef, undef, undef, undef, undef, undef, undef, undef, undef, undef, undef, undef, undef, undef, undef, undef, undef, undef, undef, undef, undef, undef, undef, undef, undef, undef, undef]) (re (O.gh h m) τ 0) X.rp (cl hv0) fun y11 y12 y13 y14 y15 y16 y17 => ⟨rfl, .slice none 0 0, by rw [hl0]; exact World.ownsRow_nil _ _ _ _, Upto.below (Below.refl _ _), ?_⟩) (fun e a w' hq => by
        cases e with
        | normal => exact ⟨rfl, hq.1, hq.2⟩
        | _ => exact hq.elim)
      exact ⟨_, _, _, _, _, _, _, _, _, _, _, _, _, _, _, _, _, _, _, _, _, _, _, _, _, _, _, _, _, _, _, _, _, _, _, _, _, _, _, _, _, _, _, _, _, _, _, _, _, _, _, _, _, _, _, rfl⟩
    · have E := e78_mem (h := h) I hv0 hg4 hR0 τ
      have ex : LN G.abs.ended G.tds.length = G.abs.left.length := by rw [AS.left_LN, hst0]
      refine wp_mono (c78_1_wp (fun a w' => a.defers = [] ∧ ∃ v, w'.ownsRow m.heap.size 61 8 v G.abs.left.length (G.abs.left.flatMap fun a => a.vals.toList) ∧ Upto (fun _ => False) m w' ∧ ∃ (y5 y6 y7 y8 y11 y12 y13 y14 y15 y16 y17 y18 y19 y20 y21 y22 y23 y24 y25 y26 y27 y28 y29 y30 y31 y32 y33 y34 y35 y36 y37 y38 y39 y40 y41 y42 y43 y44 y45 y46 y47 y48 y49 y50 y51 y52 y53 y54 y55 y56 y57 y58 y59 y60 y61 : Value), a.tmps = #[.pointer (some ⟨X.rp, 0, none⟩), undef, .slice none 0 0, v, undef, y5, y6, y7, y8, undef, undef, y11, y12, y13, y14, y15, y16, y17, y18, y19, y20, y21, y22, y23, y24, y25, y26, y27, y28, y29, y30, y31, y32, y33, y34, y35, y36, y37, y38, y39, y40, y41, y42, y43, y44, y45, y46, y47, y48, y49, y50, y51, y52, y53, y54, y55, y56, y57, y58, y59, y60, y61, undef, undef, undef, undef, undef, undef, undef, undef, undef, undef, undef, undef, undef, undef, undef, undef, undef, undef, undef, undef, undef, undef, undef, undef, undef, undef, undef]) (re (O.gh h m) τ 0) X.rp X.mb g cap G.tds.length _ _ _ _ _ _ I.tlen E fun v y5 y6 y7 y8 y11 y12 y13 y14 y15 y16 y17 y18 y19 y20 y21 y22 y23 y24 y25 y26 y27 y28 y29 y30 y31 y32 y33 y34 y35 y36 y37 y38 y39 y40 y41 y42 y43 y44 y45 y46 y47 y48 y49 y50 y51 y52 y53 y54 y55 y56 y57 y58 y59 y60 y61 w' hw hbel => ⟨rfl, v, ?_, Upto.below (by rw [hsz] at hbel; exact hbel), ?_⟩) (fun e a w' hq => by
        cases e with
        | normal => exact ⟨rfl, hq.1, hq.2⟩
        | _ => exact hq.elim)
      · rw [hsz, ex] at hw
        rw [AS.left_LA, hst0]
        refine cast ?_ hw
        congr 1
        refine LA_congr fun j hj hen => ?_
        obtain ⟨td, htd⟩ : ∃ td, G.tds[j]? = some td := ⟨G.tds[j], List.getElem?_eq_getElem hj⟩
        have hai : G.abs.ths[j]? = some td.T := by simp [GSt.abs, htd]
        have hT : td.T.isOver = false := by simpa [AS.ended, GSt.abs, htd] using hen
        obtain ⟨q, hq⟩ : ∃ q, td.T.req = some q := by cases e : td.T <;> first | exact ⟨_, rfl⟩ | (rw [e] at hT; cases hT)
        simp only [AS.leftAcc, hai, htd, hq, Option.bind_some]
        rfl
      · exact ⟨_, _, _, _, _, _, _, _, _, _, _, _, _, _, _, _, _, _, _, _, _, _, _, _, _, _, _, _, _, _, _, _, _, _, _, _, _, _, _, _, _, _, _, _, _, _, _, _, _, _, _, _, _, _, _, rfl⟩
  rintro _ m1 ⟨v, hown, hu, y5, y6, y7, y8, y11, y12, y13, y14, y15, y16, y17, y18, y19, y20, y21, y22, y23, y24, y25, y26, y27, y28, y29, y30, y31, y32, y33, y34, y35, y36, y37, y38, y39, y40, y41, y42, y43, y44, y45, y46, y47, y48, y49, y50, y51, y52, y53, y54, y55, y56, y57, y58, y59, y60, y61, rfl⟩ _
  have hlo : ∀ g, v.ownBlock = some g → m.heap.size ≤ g := fun g hg => (hown.lt g hg).1
  rcases Got.make (O := O) (h := h) hown hb0 hF with hg | ⟨g, cap, rfl, hg1, hg2, hg⟩
  · have I1 := I.same hu
    exact two m1 O _ _ _ _ _ _ _ _ _ _ _ _ _ _ _ _ _ _ _ _ _ _ _ _ _ _ _ _ _ _ _ _ _ _ _ _ _ _ _ _ _ _ _ _ _ _ _ _ _ _ _ _ _ _ _ _ _ I1 S hprom (hKP.upto hu) ⟨rfl, Ext.refl _⟩ rfl ⟨hg, hlo⟩
  · have hg0 := hF g hg1
    have I1 := I.take (h := h) hu hg1 hg2 500
    have E1 : Ext G.κ (fun x => if x = g then 500 else G.κ x) := fun x hx => by
      show (if _ then _ else _) = _
      rw [if_neg (fun e => by subst e; have := I.klt _ hx; omega)]
    refine Okk.own (O' := O.take h g) (Own.le.take (.inl hg0.1)) (fun hf => (Fresh.take (m := m1) (fun b hb => hF b (by have := hu.size; omega)) hg2)) ?_
    exact two m1 (O.take h g) _ _ _ _ _ _ _ _ _ _ _ _ _ _ _ _ _ _ _ _ _ _ _ _ _ _ _ _ _ _ _ _ _ _ _ _ _ _ _ _ _ _ _ _ _ _ _ _ _ _ _ _ _ _ _ _ _ I1 (S.as rfl) (fun i td hi => (hprom i td hi).mono E1) (hKP.take hu) ⟨rfl, E1⟩ rfl ⟨hg, hlo⟩
end
end Go.Proofs.Ytkbfbphbdljaaaa
