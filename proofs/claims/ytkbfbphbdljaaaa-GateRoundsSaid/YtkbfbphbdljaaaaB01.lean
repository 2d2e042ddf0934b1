/- Texts of one proof, joined: each says what it proves. Every premise stands in the statements. -/
import Derived.Test.YtkbfbphbdljaaaaA35
import Derived.Test.YtkbfbphbdljaaaaA33
import Derived.Test.YtkbfbphbdljaaaaA32
import Derived.Test.YtkbfbphbdljaaaaA13
/- GateRounds, walked. Every premise stands in the statements. -/
set_option linter.unusedVariables false
set_option linter.unusedSimpArgs false
namespace Go.Proofs.Ytkbfbphbdljaaaa
open Go.Tre Go.RowKit
open Go.Conc (G base baseD crowd rcase scase)
open Go.ConcN (upd upd_ne upd_same)
section
variable [Base]
omit [Base] in
theorem own_slice {w : World} {B : Nat} {e : TypeId} {sz n : Nat} {v : Value} {xs : List Value} (h : w.ownsRow B e sz v n xs) : ∃ a c g, v = .slice a n c ∧ (0 < n → a = some ⟨g, 0, none⟩ ∧ B ≤ g ∧ g < w.heap.size ∧ ∃ cur, w.heap[g]? = some (.cells cur e) ∧ cur.toList.take (n * sz) = xs) := by
  rcases h.2 with ⟨rfl, rfl⟩ | ⟨g, cap, cur, rfl, hb, hm, h1, h2, h3, h4⟩
  · exact ⟨none, 0, 0, rfl, fun h => absurd h (Nat.lt_irrefl _)⟩
  · exact ⟨_, cap, g, rfl, fun _ => ⟨rfl, hb, (Array.getElem?_eq_some_iff.1 hm).1, cur, hm, h4⟩⟩
set_option maxRecDepth 100000 in
set_option maxHeartbeats 8000000 in
theorem gateRounds_ok (a0 : Option Addr) (n cap pb po : Nat) (ws : Nat → Nat) (hb : Base.b0 = Base.w0.heap.size) (hm : n ≤ maxLen) (ha : 0 < n → a0 = some ⟨pb, po, none⟩) (h8 : ∀ j, j < n → ws j < 256) (hws : ∀ j, j < n → Base.w0.cell? ⟨pb, po + j, none⟩ = some (.int .u8 (ws j : Int))) :
    Okk Try.prog (fun x w => x = .bool true ∧ AsOld Base.w0 w) 0 (G (Frame.enter Try.prog 3 #[.slice a0 n cap] .normal) []) Base.w0 Own.none (fun _ => none) := by
  have hP := try_plain3
  have hpl : 0 < n → pb < Base.w0.heap.size := fun h => World.block_lt_of_cell? _ _ (hws 0 h)
  rw [Go.Conc.enter_at _ Try.func3 rfl]
  simp only [Try.ntmps3]
  refine .ctl0 rfl (fun _ => Go.Conc.stepG_seq) (.ctl0 rfl (fun _ => Go.Conc.stepG_region) ?_)
  refine .oper hP rfl rfl rfl (R := fun v g' => v = .pointer (some ⟨Base.w0.heap.size, 0, none⟩) ∧ g'.heap[Base.w0.heap.size]? = some (.cells #[.slice a0 n cap] 22) ∧ Upto (fun _ => False) Base.w0 g' ∧ g'.heap.size = Base.w0.heap.size + 1) (fun τ => ⟨_, _, by simp [go_sem]; exact ⟨rfl, rfl⟩, by simp [gh_size], made _⟩) ?_
  rintro _ m1 ⟨rfl, ho1, hu1, hs1⟩ _
  generalize hobn : Base.w0.heap.size = ob at *
  walk_nrm
  refine .val hP rfl rfl rfl (.bool false) (fun τ => by simp [go_sem]) ?_
  walk_nrm
  refine .ctl0 rfl (fun _ => Go.Conc.stepG_region_end) (.ctl0 rfl (fun _ => Go.Conc.stepG_seq) (.ctl0 rfl (fun _ => Go.Conc.stepG_region) ?_))
  refine .enter (f := 11) (args := #[]) rfl rfl (fun w => ?_) (fun w => ?_) ?_
  · have := (callFunc_enter Try.func11 (by kernel_rfl) rfl #[] w).1
    simp [go_sem, this]
  · have := (callFunc_enter Try.func11 (by kernel_rfl) rfl #[] w).2
    simp [go_sem, this]
  refine Okk.works (Callable.mk rfl) (fun _ _ => rfl) (by omega) fun m2 O2 Γ2 hu2 ho2 hΓ2 => ?_
  refine Okk.fresh fun hF2 => ?_
  rw [Frame.finish_at]
  walk_nrm
  refine .val hP rfl rfl rfl (.bool true) (fun τ => by simp [go_sem]) ?_
  walk_nrm
  refine .ctl0 rfl (fun _ => Go.Conc.stepG_region_end) (.ctl0 rfl (fun _ => Go.Conc.stepG_seq) (.ctl0 rfl (fun _ => Go.Conc.stepG_seq) (.ctl0 rfl (fun _ => Go.Conc.stepG_region) ?_)))
  have hu02 : Upto (fun _ => False) Base.w0 m2 := hu1.trans hu2
  have co1 : m1.cell? ⟨ob, 0, none⟩ = some (.slice a0 n cap) := by simp only [World.cell?, ho1]; rfl
  have co2 : m2.cell? ⟨ob, 0, none⟩ = some (.slice a0 n cap) := hu2.cell _ _ co1 (fun z => z)
  refine .val hP rfl rfl rfl (.bool true) (fun τ => by simp [go_sem]) ?_
  walk_nrm
  refine .val hP rfl rfl rfl (.bool false) (fun τ => by simp [go_sem]) ?_
  walk_nrm
  refine .val hP rfl rfl rfl (.bool false) (fun τ => by simp [go_sem]) ?_
  walk_nrm
  refine .val hP rfl rfl rfl (.slice a0 n cap) (fun τ => by simp [go_sem, gh_cell, co2]) ?_
  walk_nrm
  refine .val hP rfl rfl rfl (.int .i64 (n : Int)) (fun τ => by simp [go_sem]) ?_
  walk_nrm
  by_cases hn40 : n ≤ 40
  · refine .val hP rfl rfl rfl (.bool false) (fun τ => by simp [go_sem]; omega) ?_
    walk_nrm
    refine .val hP rfl rfl rfl (.bool false) (fun τ => by simp [go_sem]) ?_
    walk_nrm
    refine .ctl0 rfl (fun _ => Go.Conc.stepG_region_end) (.ctl0 rfl (fun _ => Go.Conc.stepG_cond (t := false) rfl) ?_)
    simp only [Bool.false_eq_true, if_false]
    refine .ctl0 rfl (fun _ => Go.Conc.stepG_skip) (.ctl0 rfl (fun _ => Go.Conc.stepG_seq) (.ctl0 rfl (fun _ => Go.Conc.stepG_region) ?_))
    refine .oper hP rfl rfl rfl (R := fun v g' => v = .pointer (some ⟨m2.heap.size, 0, none⟩) ∧ g'.heap[m2.heap.size]? = some (.cells #[.int .i64 0] 28) ∧ Upto (fun _ => False) m2 g' ∧ g'.heap.size = m2.heap.size + 1) (fun τ => ⟨_, _, by simp [go_sem]; exact ⟨rfl, rfl⟩, by simp [gh_size], made _⟩) ?_
    rintro _ m3 ⟨rfl, hx3, hu3, hs3⟩ _
    have hsz2 := hu02.size
    have hobl : ob < m2.heap.size := World.block_lt_of_cell? _ _ co2
    generalize hxb : m2.heap.size = xb at *
    have hu03 : Upto (fun _ => False) Base.w0 m3 := hu02.trans hu3
    have co3 : m3.cell? ⟨ob, 0, none⟩ = some (.slice a0 n cap) := hu3.cell _ _ co2 (fun z => z)
    have cw3 : ∀ j, j < n → m3.cell? ⟨pb, po + j, none⟩ = some (.int .u8 (ws j : Int)) := fun j hj => hu03.cell _ _ (hws j hj) (fun z => z)
    walk_nrm
    refine .ctl0 rfl (fun _ => Go.Conc.stepG_region_end) (.ctl0 rfl (fun _ => Go.Conc.stepG_seq) (.ctl0 rfl (fun _ => Go.Conc.stepG_region) ?_))
    refine .val hP rfl rfl rfl (.slice none 0 0) (fun τ => by simp [go_sem]) ?_
    walk_nrm
    refine .ctl0 rfl (fun _ => Go.Conc.stepG_region_end) (.ctl0 rfl (fun _ => Go.Conc.stepG_seq) (.ctl0 rfl (fun _ => Go.Conc.stepG_region) ?_))
    refine .val hP rfl rfl rfl (.int .i64 0) (fun τ => by simp [go_sem]) ?_
    walk_nrm
    refine .ctl0 rfl (fun _ => Go.Conc.stepG_region_end) (.ctl0 rfl (fun _ => Go.Conc.stepG_seq) ?_)
    refine .code hP (c := c3_1) (by simp [c3_1, Try.f3, okCode, okOp, plS, plS2, plS3, plE]) (Q := fun t w' => ∃ (v : Value) (cur : Nat) (bl : List Nat), w'.ownsRow m3.heap.size 35 1 v n (clos ob xb bl) ∧ Upto (fun _ => False) m3 w' ∧ bl.length = n ∧ Boxes m3.heap.size bl v w' ∧ ∃ (y21 y22 y23 y24 y25 y26 y27 y28 y29 y30 y31 y32 y33 y34 y35 y36 y37 y38 y39 : Value), t = #[.slice a0 n cap, .pointer (some ⟨ob, 0, none⟩), .bool false, .bool true, .pointer (some ⟨xb, 0, none⟩), v, .int .i64 (sumOf ws n : Int), .pointer (some ⟨cur, 0, none⟩), undef, undef, undef, undef, .bool true, .bool true, .bool false, .bool false, .slice a0 n cap, .int .i64 (n : Int), .bool false, .bool false, undef, y21, y22, y23, y24, y25, y26, y27, y28, y29, y30, y31, y32, y33, y34, y35, y36, y37, y38, y39, undef, undef, undef, undef, undef, undef, undef, undef, undef, undef, undef, undef, undef, undef, undef, undef, undef, undef, undef, undef, undef, undef, undef, undef, undef, undef, undef, undef, undef, undef, undef, undef, undef, undef, undef, undef, undef, undef, undef, undef, undef, undef, undef, undef, undef, undef, undef, undef, undef, undef, undef, undef, undef, undef, undef]) (fun τ => ?_) ?_
    · have cel : ∀ {a : Addr} {u : Value}, m3.cell? a = some u → (re (O2.gh 0 m3) τ 0).cell? a = some u := fun {a u} h => by rw [re_cell?, gh_cell]; exact h
      have hsz : (re (O2.gh 0 m3) τ 0).heap.size = m3.heap.size := gh_size
      refine wp_mono (c3_1_wp (fun a w' => a.defers = [] ∧ ∃ (v : Value) (cur : Nat) (bl : List Nat), w'.ownsRow m3.heap.size 35 1 v n (clos ob xb bl) ∧ Upto (fun _ => False) m3 w' ∧ bl.length = n ∧ Boxes m3.heap.size bl v w' ∧ ∃ (y21 y22 y23 y24 y25 y26 y27 y28 y29 y30 y31 y32 y33 y34 y35 y36 y37 y38 y39 : Value), a.tmps = #[.slice a0 n cap, .pointer (some ⟨ob, 0, none⟩), .bool false, .bool true, .pointer (some ⟨xb, 0, none⟩), v, .int .i64 (sumOf ws n : Int), .pointer (some ⟨cur, 0, none⟩), undef, undef, undef, undef, .bool true, .bool true, .bool false, .bool false, .slice a0 n cap, .int .i64 (n : Int), .bool false, .bool false, undef, y21, y22, y23, y24, y25, y26, y27, y28, y29, y30, y31, y32, y33, y34, y35, y36, y37, y38, y39, undef, undef, undef, undef, undef, undef, undef, undef, undef, undef, undef, undef, undef, undef, undef, undef, undef, undef, undef, undef, undef, undef, undef, undef, undef, undef, undef, undef, undef, undef, undef, undef, undef, undef, undef, undef, undef, undef, undef, undef, undef, undef, undef, undef, undef, undef, undef, undef, undef, undef, undef, undef, undef, undef, undef]) (re (O2.gh 0 m3) τ 0) a0 n cap ob xb pb po ws hn40 h8 ha (cel co3) (by rw [hsz]; omega) (fun h => by rw [hsz]; have := hpl h; omega) (fun j hj => cel (cw3 j hj)) fun v all cur bl y21 y22 y23 y24 y25 y26 y27 y28 y29 y30 y31 y32 y33 y34 y35 y36 y37 y38 y39 w' g1 g2 g3 g4 g5 => ⟨rfl, v, cur, bl, by rw [hsz] at g1; exact g1, Upto.below (by rw [hsz] at g2; exact g2), g3, by rw [hsz] at g4; exact g4, y21, y22, y23, y24, y25, y26, y27, y28, y29, y30, y31, y32, y33, y34, y35, y36, y37, y38, y39, by rw [g5]⟩) (fun e a w' hq => by
        cases e with
        | normal => exact ⟨rfl, hq.1, hq.2⟩
        | _ => exact hq.elim)
    rintro _ m4 ⟨v, cur, bl, hown, hu4, hbll, hbox, y21, y22, y23, y24, y25, y26, y27, y28, y29, y30, y31, y32, y33, y34, y35, y36, y37, y38, y39, rfl⟩ _
    obtain ⟨ba, bc, gb, rfl, hba⟩ := own_slice hown
    refine .ctl0 rfl (fun _ => Go.Conc.stepG_seq) (.ctl0 rfl (fun _ => Go.Conc.stepG_region) ?_)
    refine .val hP rfl rfl rfl (.slice ba n bc) (fun τ => by simp [go_sem]) ?_
    walk_nrm
    refine .enter (f := 14) (args := #[.slice none 0 0, .int .i64 4000, .slice ba n bc]) rfl rfl (fun w => ?_) (fun w => ?_) ?_
    · have := (callFunc_enter Try.func14 (by kernel_rfl) rfl #[.slice none 0 0, .int .i64 4000, .slice ba n bc] w).1
      simp [go_sem, this]
    · have := (callFunc_enter Try.func14 (by kernel_rfl) rfl #[.slice none 0 0, .int .i64 4000, .slice ba n bc] w).2
      simp [go_sem, this]
    have hlen : (bodiesOf ob xb ws bl).length = n := by simp [bodiesOf, hbll]
    obtain ⟨B, hrun, hwent, hval, hover, hBl, hfalls⟩ := rounds_run ob xb n ws bl hn40 hbll
    have hsA := sumOf_le ws n
    have hwl := want_len ws n
    have fx : O2.o xb = none ∧ O2.pre xb = 0 := hF2 xb (by omega)
    have hobo : O2.o ob = none ∧ O2.pre ob = 0 := ho2 ob (by omega)
    obtain ⟨g', hg1, hg2, hg3, hg4, hg5⟩ : ∃ g', O2.o g' = none ∧ O2.pre g' = 0 ∧ g' < m4.heap.size ∧ g' ≠ xb ∧ (0 < n → g' = gb) := by
      by_cases h : 0 < n
      · obtain ⟨_, q1, q2, _⟩ := hba h
        obtain ⟨q3, q4⟩ := hF2 gb (by omega)
        exact ⟨gb, q3, q4, q2, by omega, fun _ => rfl⟩
      · exact ⟨ob, hobo.1, hobo.2, by have := hu4.size; omega, by omega, fun z => absurd z h⟩
    refine Okk.own (O' := O2.take 0 g') (Own.le.take (.inl hg1)) (fun hf => Fresh.take hf hg3) ?_
    generalize hO3 : O2.take 0 g' = O3
    have og : O3.o g' = some 0 ∧ O3.pre g' = 0 := by subst hO3; exact ⟨by simp [Own.take], hg2⟩
    have ox : O3.o xb = none ∧ O3.pre xb = 0 := by subst hO3; refine ⟨?_, fx.2⟩; simp only [Own.take]; rw [if_neg (Ne.symm hg4)]; exact fx.1
    have hx4 : m4.cell? ⟨xb, 0, none⟩ = some (.int .i64 0) := hu4.cell _ _ (by simp only [World.cell?, hx3]; rfl) (fun z => z)
    have co4 : m4.cell? ⟨ob, 0, none⟩ = some (.slice a0 n cap) := hu4.cell _ _ co3 (fun z => z)
    have cw4 : ∀ j, j < n → m4.cell? ⟨pb, po + j, none⟩ = some (.int .u8 (ws j : Int)) := fun j hj => hu4.cell _ _ (cw3 j hj) (fun z => z)
    have hm4 : m3.heap.size ≤ m4.heap.size := hu4.size
    rw [show (#[.slice none 0 0, .int .i64 4000, .slice ba n bc] : Array Value) = #[.slice none 0 0, .int .i64 4000, .slice ba (bodiesOf ob xb ws bl).length bc] from by rw [hlen]]
    refine Okk.runL (L := Lw.old m4 O3 (fun b => b = xb) (fun s => (s.vals ⟨xb, 0, none⟩).isSome = true) (fun {s i op v arg new} h => by simp only [Sh.acc]; split <;> simp [h]) (fun {s a} h => h)) (s := sh0 ⟨xb, 0, none⟩) (bb := gb) [] (bodiesOf ob xb ws bl) (Callable.mk rfl) hΓ2 (by omega) ?_ (by omega) ?_ ?_ ?_ (fun z => absurd rfl z) (Nat.zero_le _) (by simp) ?_
    · refine ⟨rfl, rfl, fun a v hv => ?_, ⟨.refl, fun _ _ _ => ⟨rfl, rfl⟩⟩, by simp [sh0, Lw.old], fun a hv => ?_⟩
      · simp only [sh0] at hv
        split at hv
        · rename_i e; subst e; cases hv
          exact ⟨hx4, by simp only; omega, ox.1, ox.2, rfl⟩
        · cases hv
      · simp only [sh0]
        rw [if_neg (fun e => hv.2 (by rw [e]))]
    · intro rp mb b hbm
      obtain ⟨j, hj⟩ := List.getElem?_of_mem hbm
      simp only [bodiesOf, List.getElem?_mapIdx, Option.map_eq_some_iff] at hj
      obtain ⟨bx, hbx, rfl⟩ := hj
      have hjn : j < n := by have := (List.getElem?_eq_some_iff.1 hbx).1; omega
      obtain ⟨q1, q2, _⟩ := hbox j bx hbx
      obtain rfl := ha (by omega)
      have hplt := hpl (by omega)
      refine born12 (oc := cap) (fun s hs => hs) (h8 j hjn) hjn hm fun l m O h => ⟨h.1.cell _ _ co4 ?_, h.1.cell _ _ (by simp only [World.cell?, q1]; rfl) ?_, h.1.cell _ _ (cw4 j hjn) ?_⟩
      · simp only; omega
      · have := lt_of_block q1; simp only; omega
      · simp only; omega
    · intro hne
      have : 0 < n := by
        rcases Nat.eq_zero_or_pos n with z | z
        · exact absurd (List.eq_nil_of_length_eq_zero (hlen.trans z)) hne
        · exact z
      exact (hba this).1
    · intro j b hj
      simp only [bodiesOf, List.getElem?_mapIdx, Option.map_eq_some_iff] at hj
      obtain ⟨bx, hbx, rfl⟩ := hj
      have hjn : j < n := by have := (List.getElem?_eq_some_iff.1 hbx).1; omega
      obtain ⟨_, q1, q2, cur', q3, q4⟩ := hba (by omega)
      obtain rfl := hg5 (by omega)
      refine mine0_make (by omega) og.1 og.2 q3 ?_
      have e : (clos ob xb bl)[j]? = some (.func (.func 12) #[] #[.pointer (some ⟨ob, 0, none⟩), .pointer (some ⟨bx, 0, none⟩), .pointer (some ⟨xb, 0, none⟩)]) := by simp [clos, hbx]
      rw [← q4, List.getElem?_take_of_lt (by omega)] at e
      simpa using e
    · intro m' O' Γ' G' rp mb v2 v3 v4 lv fv hΓ' I hH ha' r2 r3 r4 gl gf
      rw [hrun] at ha' gl ⊢
      rw [AS.stopAll_over _ hover] at ha'
      have hs : G'.s = B.s := congrArg AS.s ha'
      have hw : G'.went = B.went := congrArg AS.went ha'
      have hfl : FL G'.abs.falls G'.tds.length = [] := by rw [ha']; simp [FL, hfalls]
      rw [hfl] at gf
      rw [AS.left_over _ hover] at gl
      have hx5 := (I.vals ⟨xb, 0, none⟩ (sumOf ws n : Int) (by rw [hs]; exact hval)).1
      rw [hw, hwent, List.length_map, hwl] at r3 ⊢
      have r3' : Row O' m' 3 1 v3 (sumOf ws n) (intsOf (rowsOf (nsOf ws n) 0 32)) := by simpa [intsOf, List.map_map, Function.comp_def] using r3
      clear r3
      change Okk Try.prog _ 0 (Go.Conc.G (Frame.finish _ (.agg #[.int .i8 1, .int .i64 (sumOf ws n : Int), v2, v3, v4, lv, fv])) _) m' O' Γ'
      change Got O' 0 m' 8 lv 0 _ at gl
      change Got O' 0 m' 1 fv 0 _ at gf
      obtain ⟨s2, c2, e2⟩ := Row.shape r2
      obtain ⟨s3, c3, e3⟩ := Row.shape r3'
      obtain ⟨s4, c4, e4⟩ := Row.shape r4
      obtain ⟨sl, cl, el⟩ := gl.shape
      obtain ⟨sf, cf, ef⟩ := gf.shape
      generalize hlg : G'.s.log.length = lgn at *
      generalize hrd : G'.ready.length = rdn at *
      refine Okk.fresh fun hF' => ?_
      have hsz' : m4.heap.size ≤ m'.heap.size := I.law.1.size
      rw [Frame.finish_at]
      walk_nrm
      refine .oper hP rfl rfl rfl (R := fun v g' => v = .pointer (some ⟨m'.heap.size, 0, none⟩) ∧ g'.heap[m'.heap.size]? = some (.cells #[.int .i8 0, .int .i64 0, .slice none 0 0, .slice none 0 0, .slice none 0 0, .slice none 0 0, .slice none 0 0] 39) ∧ Upto (fun _ => False) m' g' ∧ g'.heap.size = m'.heap.size + 1) (fun τ => ⟨_, _, by simp [go_sem]; exact ⟨rfl, rfl⟩, by simp [gh_size], made _⟩) ?_
      rintro _ m5 ⟨rfl, hq5, hu5, hs5⟩ _
      have hq0 := hF' m'.heap.size (Nat.le_refl _)
      generalize hqb : m'.heap.size = qb at *
      walk_nrm
      have ff : ∀ j τ, (re (O'.gh 0 m5) τ 0).frozen? ⟨qb, j, none⟩ = false := fun j τ => gh_free (m := m5) (by show Base.b0 ≤ qb; omega) (.inl hq0.1) (by show O'.pre qb ≤ j; rw [hq0.2]; exact Nat.zero_le _)
      have cq : ∀ j τ u, (#[.int .i8 0, .int .i64 0, .slice none 0 0, .slice none 0 0, .slice none 0 0, .slice none 0 0, .slice none 0 0] : Array Value)[j]? = some u → (re (O'.gh 0 m5) τ 0).cell? ⟨qb, j, none⟩ = some u := fun j τ u hu => by rw [re_cell?, gh_cell]; simp only [World.cell?, hq5]; exact hu
      refine .unit hP rfl rfl rfl (R := fun g' => Upto (fun a => a.block = qb) m5 g' ∧ g'.cell? ⟨qb, 0, none⟩ = some (.int .i8 1) ∧ g'.cell? ⟨qb, 1, none⟩ = some (.int .i64 (sumOf ws n : Int)) ∧ g'.cell? ⟨qb, 3, none⟩ = some (.slice s3 (sumOf ws n) c3) ∧ g'.cell? ⟨qb, 5, none⟩ = some (.slice sl 0 cl) ∧ g'.cell? ⟨qb, 6, none⟩ = some (.slice sf 0 cf)) (fun τ => ?_) ?_
      · have f0 := ff 0 τ; have f1 := ff 1 τ; have f2 := ff 2 τ; have f3 := ff 3 τ; have f4 := ff 4 τ; have f5 := ff 5 τ; have f6 := ff 6 τ
        have q0 := cq 0 τ _ rfl; have q1 := cq 1 τ _ rfl; have q2 := cq 2 τ _ rfl; have q3 := cq 3 τ _ rfl; have q4 := cq 4 τ _ rfl; have q5 := cq 5 τ _ rfl; have q6 := cq 6 τ _ rfl
        have hu : Upto (fun a => a.block = qb) m5 (re (O'.gh 0 m5) τ 0) := (Upto.gh (O := O') (h := 0)).trans (Upto.of_heap rfl)
        generalize re (O'.gh 0 m5) τ 0 = W at *
        subst e2 e3 e4 el ef
        refine ⟨((((((W.setCell ⟨qb, 0, none⟩ (.int .i8 1)).setCell ⟨qb, 1, none⟩ (.int .i64 (sumOf ws n : Int))).setCell ⟨qb, 2, none⟩ (.slice s2 lgn c2)).setCell ⟨qb, 3, none⟩ (.slice s3 (sumOf ws n) c3)).setCell ⟨qb, 4, none⟩ (.slice s4 rdn c4)).setCell ⟨qb, 5, none⟩ (.slice sl 0 cl)).setCell ⟨qb, 6, none⟩ (.slice sf 0 cf), by simp [go_sem, f0, f1, f2, f3, f4, f5, f6, q0, q1, q2, q3, q4, q5, q6], .set (.set (.set (.set (.set (.set (.set hu rfl) rfl) rfl) rfl) rfl) rfl) rfl, ?_⟩
        simp [go_sem, q0, q1, q2, q3, q4, q5, q6]
      intro m6 ⟨hu6, p0, p1, p3, p5, p6⟩ _
      walk_nrm
      refine .ctl0 rfl (fun _ => Go.Conc.stepG_region_end) (.ctl0 rfl (fun _ => Go.Conc.stepG_seq) (.ctl0 rfl (fun _ => Go.Conc.stepG_region) ?_))
      refine .val hP rfl rfl rfl (.slice none 0 0) (fun τ => by simp [go_sem]) ?_
      walk_nrm
      refine .ctl0 rfl (fun _ => Go.Conc.stepG_region_end) (.ctl0 rfl (fun _ => Go.Conc.stepG_seq) ?_)
      have upW : Upto (fun a => a.block = xb ∨ m4.heap.size ≤ a.block) m4 m6 := I.law.1.trans ((hu5.mono (fun _ z => z.elim)).trans (hu6.mono (fun a z => .inr (by rw [z]; exact hsz'))))
      have c6 : ∀ {a : Addr} {u : Value}, m4.cell? a = some u → a.block ≠ xb → m6.cell? a = some u := fun {a u} h hne => upW.cell _ _ h (by have := World.block_lt_of_cell? _ _ h; omega)
      have c6' : ∀ {a : Addr} {u : Value}, m'.cell? a = some u → m6.cell? a = some u := fun {a u} h => hu6.cell _ _ (hu5.cell _ _ h (fun z => z)) (by have := World.block_lt_of_cell? _ _ h; omega)
      have hx6 := c6' hx5
      have hm6 : m4.heap.size ≤ m6.heap.size := upW.size
      refine .code hP (c := c3_2) (by simp [c3_2, Try.f3, okCode, okOp, plS, plS2, plS3, plE]) (Q := fun t w' => ∃ (wv : Value), w'.ownsRow m6.heap.size 3 1 wv (sumOf ws n) (intsOf (rowsOf (nsOf ws n) 0 32)) ∧ Upto (fun _ => False) m6 w' ∧ ∃ (z10 z11 z42 z43 z44 z45 z46 z47 z48 z49 z50 z51 z52 z53 z54 z55 z56 z57 z58 z59 z60 z61 z62 : Value), t = #[.slice a0 n cap, .pointer (some ⟨ob, 0, none⟩), .bool false, .bool true, .pointer (some ⟨xb, 0, none⟩), .slice ba n bc, .int .i64 (sumOf ws n : Int), .pointer (some ⟨cur, 0, none⟩), .pointer (some ⟨qb, 0, none⟩), wv, z10, z11, .bool true, .bool true, .bool false, .bool false, .slice a0 n cap, .int .i64 (n : Int), .bool false, .bool false, undef, y21, y22, y23, y24, y25, y26, y27, y28, y29, y30, y31, y32, y33, y34, y35, y36, y37, y38, y39, .slice ba n bc, .agg #[.int .i8 1, .int .i64 (sumOf ws n : Int), v2, v3, v4, lv, fv], z42, z43, z44, z45, z46, z47, z48, z49, z50, z51, z52, z53, z54, z55, z56, z57, z58, z59, z60, z61, z62, undef, undef, undef, undef, undef, undef, undef, undef, undef, undef, undef, undef, undef, undef, undef, undef, undef, undef, undef, undef, undef, undef, undef, undef, undef, undef, undef, undef, undef, undef, undef, undef]) (fun τ => ?_) ?_
      · have cel : ∀ {a : Addr} {u : Value}, m6.cell? a = some u → (re (O'.gh 0 m6) τ 0).cell? a = some u := fun {a u} h => by rw [re_cell?, gh_cell]; exact h
        have hsz : (re (O'.gh 0 m6) τ 0).heap.size = m6.heap.size := gh_size
        refine wp_mono (c3_2_wp (fun a w' => a.defers = [] ∧ ∃ (wv : Value), w'.ownsRow m6.heap.size 3 1 wv (sumOf ws n) (intsOf (rowsOf (nsOf ws n) 0 32)) ∧ Upto (fun _ => False) m6 w' ∧ ∃ (z10 z11 z42 z43 z44 z45 z46 z47 z48 z49 z50 z51 z52 z53 z54 z55 z56 z57 z58 z59 z60 z61 z62 : Value), a.tmps = #[.slice a0 n cap, .pointer (some ⟨ob, 0, none⟩), .bool false, .bool true, .pointer (some ⟨xb, 0, none⟩), .slice ba n bc, .int .i64 (sumOf ws n : Int), .pointer (some ⟨cur, 0, none⟩), .pointer (some ⟨qb, 0, none⟩), wv, z10, z11, .bool true, .bool true, .bool false, .bool false, .slice a0 n cap, .int .i64 (n : Int), .bool false, .bool false, undef, y21, y22, y23, y24, y25, y26, y27, y28, y29, y30, y31, y32, y33, y34, y35, y36, y37, y38, y39, .slice ba n bc, .agg #[.int .i8 1, .int .i64 (sumOf ws n : Int), v2, v3, v4, lv, fv], z42, z43, z44, z45, z46, z47, z48, z49, z50, z51, z52, z53, z54, z55, z56, z57, z58, z59, z60, z61, z62, undef, undef, undef, undef, undef, undef, undef, undef, undef, undef, undef, undef, undef, undef, undef, undef, undef, undef, undef, undef, undef, undef, undef, undef, undef, undef, undef, undef, undef, undef, undef, undef]) (re (O'.gh 0 m6) τ 0) a0 n cap ob xb pb po qb cur (sumOf ws n) _ _ _ _ _ _ _ _ _ _ _ _ _ _ _ _ _ _ _ _ _ ws hn40 h8 ha (cel (c6 co4 (show ob ≠ xb by omega))) (by rw [hsz]; omega) (fun h => by rw [hsz]; have := hpl h; omega) (fun j hj => cel (c6 (cw4 j hj) (show pb ≠ xb from by have := hpl (by omega); omega))) fun wv z10 z11 z42 z43 z44 z45 z46 z47 z48 z49 z50 z51 z52 z53 z54 z55 z56 z57 z58 z59 z60 z61 z62 w' g1 g2 => ⟨rfl, wv, by rw [hsz, hwl] at g1; exact g1, Upto.below (by rw [hsz] at g2; exact g2), ?_⟩) (fun e a w' hq => by
          cases e with
          | normal => exact ⟨rfl, hq.1, hq.2⟩
          | _ => exact hq.elim)
        exact ⟨_, _, _, _, _, _, _, _, _, _, _, _, _, _, _, _, _, _, _, _, _, _, _, rfl⟩
      rintro _ m7 ⟨wv, hown7, hu7, z10, z11, z42, z43, z44, z45, z46, z47, z48, z49, z50, z51, z52, z53, z54, z55, z56, z57, z58, z59, z60, z61, z62, rfl⟩ _
      obtain ⟨sw, cw, gw, rfl, hwa⟩ := own_slice hown7
      refine .ctl0 rfl (fun _ => Go.Conc.stepG_seq) ?_
      have c7 : ∀ {a : Addr} {u : Value}, m6.cell? a = some u → m7.cell? a = some u := fun {a u} h => hu7.cell _ _ h (fun z => z)
      refine .code hP (c := c3_3) (by simp [c3_3, Try.f3, okCode, okOp, plS, plS2, plS3, plE]) (Q := fun t w' => Upto (fun _ => False) m7 w' ∧ ∃ (u63 u64 u65 u66 u67 u68 u69 u70 u71 u72 u73 u74 u75 u76 u77 u78 u79 u80 u81 u82 u83 u84 u85 u86 u87 u88 u89 u90 u91 u92 u93 u94 : Value), t = #[.slice a0 n cap, .pointer (some ⟨ob, 0, none⟩), .bool true, .bool true, .pointer (some ⟨xb, 0, none⟩), .slice ba n bc, .int .i64 (sumOf ws n : Int), .pointer (some ⟨cur, 0, none⟩), .pointer (some ⟨qb, 0, none⟩), .slice sw (sumOf ws n) cw, z10, z11, .bool true, .bool true, .bool false, .bool false, .slice a0 n cap, .int .i64 (n : Int), .bool false, .bool false, undef, y21, y22, y23, y24, y25, y26, y27, y28, y29, y30, y31, y32, y33, y34, y35, y36, y37, y38, y39, .slice ba n bc, .agg #[.int .i8 1, .int .i64 (sumOf ws n : Int), v2, v3, v4, lv, fv], z42, z43, z44, z45, z46, z47, z48, z49, z50, z51, z52, z53, z54, z55, z56, z57, z58, z59, z60, z61, z62, u63, u64, u65, u66, u67, u68, u69, u70, u71, u72, u73, u74, u75, u76, u77, u78, u79, u80, u81, u82, u83, u84, u85, u86, u87, u88, u89, u90, u91, u92, u93, u94]) (fun τ => ?_) ?_
      · have cel : ∀ {a : Addr} {u : Value}, m7.cell? a = some u → (re (O'.gh 0 m7) τ 0).cell? a = some u := fun {a u} h => by rw [re_cell?, gh_cell]; exact h
        have r3'' := r3'
        rw [e3] at r3''
        have hx3' : ∀ j, j < sumOf ws n → (intsOf (rowsOf (nsOf ws n) 0 32))[j]? = some (.int .i64 (((rowsOf (nsOf ws n) 0 32).getD j 0 : Nat) : Int)) := fun j hj => by
          have : j < (rowsOf (nsOf ws n) 0 32).length := by omega
          simp [intsOf, List.getElem?_eq_getElem this]
        obtain ⟨g3, hg3'⟩ : ∃ g3, 0 < sumOf ws n → s3 = some ⟨g3, 0, none⟩ := by
          rcases r3''.2 with ⟨_, z⟩ | ⟨g, cap, cur, f, z, _⟩
          · exact ⟨0, fun h => by omega⟩
          · cases z; exact ⟨g, fun _ => rfl⟩
        refine wp_mono (c3_3_wp (fun a w' => a.defers = [] ∧ Upto (fun _ => False) m7 w' ∧ ∃ (u63 u64 u65 u66 u67 u68 u69 u70 u71 u72 u73 u74 u75 u76 u77 u78 u79 u80 u81 u82 u83 u84 u85 u86 u87 u88 u89 u90 u91 u92 u93 u94 : Value), a.tmps = #[.slice a0 n cap, .pointer (some ⟨ob, 0, none⟩), .bool true, .bool true, .pointer (some ⟨xb, 0, none⟩), .slice ba n bc, .int .i64 (sumOf ws n : Int), .pointer (some ⟨cur, 0, none⟩), .pointer (some ⟨qb, 0, none⟩), .slice sw (sumOf ws n) cw, z10, z11, .bool true, .bool true, .bool false, .bool false, .slice a0 n cap, .int .i64 (n : Int), .bool false, .bool false, undef, y21, y22, y23, y24, y25, y26, y27, y28, y29, y30, y31, y32, y33, y34, y35, y36, y37, y38, y39, .slice ba n bc, .agg #[.int .i8 1, .int .i64 (sumOf ws n : Int), v2, v3, v4, lv, fv], z42, z43, z44, z45, z46, z47, z48, z49, z50, z51, z52, z53, z54, z55, z56, z57, z58, z59, z60, z61, z62, u63, u64, u65, u66, u67, u68, u69, u70, u71, u72, u73, u74, u75, u76, u77, u78, u79, u80, u81, u82, u83, u84, u85, u86, u87, u88, u89, u90, u91, u92, u93, u94]) (re (O'.gh 0 m7) τ 0) a0 sw s3 sl sf n cap ob xb qb cur (sumOf ws n) cw c3 cl cf gw g3 (sumOf ws n) _ _ _ _ _ _ _ _ _ _ _ _ _ _ _ _ _ _ _ _ _ _ _ _ _ _ _ _ _ _ _ _ _ _ _ _ _ _ _ _ _ _ _ _ (fun j => (((rowsOf (nsOf ws n) 0 32).getD j 0 : Nat) : Int)) (by simp only [maxLen]; omega) (by omega) (cel (c7 p0)) (cel (c7 p1)) (cel (c7 p3)) (cel (c7 p5)) (cel (c7 p6)) (cel (c7 hx6)) hg3' (fun h => (hwa h).1) (fun j hj => ?_) (fun j hj => ?_) fun u63 u64 u65 u66 u67 u68 u69 u70 u71 u72 u73 u74 u75 u76 u77 u78 u79 u80 u81 u82 u83 u84 u85 u86 u87 u88 u89 u90 u91 u92 u93 u94 k => ⟨rfl, ?_, ?_⟩) (fun e a w' hq => by
          cases e with
          | normal => exact ⟨rfl, hq.1, hq.2⟩
          | _ => exact hq.elim)
        · obtain rfl := hg3' (by omega)
          rw [Nat.zero_add]
          exact cel (c7 (c6' (Row.cellN r3'' (hx3' j hj))))
        · obtain ⟨_, _, _, cur', q3, q4⟩ := hwa (by omega)
          rw [Nat.zero_add]
          refine cel ?_
          have e := hx3' j hj
          rw [← q4, List.getElem?_take_of_lt (by omega)] at e
          simp only [World.cell?, q3]
          simpa using e
        · exact (Upto.gh (O := O') (h := 0)).trans (Upto.of_heap rfl)
        · exact ⟨_, _, _, _, _, _, _, _, _, _, _, _, _, _, _, _, _, _, _, _, _, _, _, _, _, _, _, _, _, _, _, _, rfl⟩
      rintro _ m8 ⟨hu8, u63, u64, u65, u66, u67, u68, u69, u70, u71, u72, u73, u74, u75, u76, u77, u78, u79, u80, u81, u82, u83, u84, u85, u86, u87, u88, u89, u90, u91, u92, u93, u94, rfl⟩ _
      refine .ctl0 rfl (fun _ => Go.Conc.stepG_ret') ?_
      refine Okk.done hΓ' rfl rfl (by kernel_rfl) Try.func3 (fun w => by simp [go_sem, results, Try.f3]) (fun w => by simp [go_sem, results, Try.f3]) (by omega) ?_
      have h1 : Upto (fun a => a.block = xb ∨ m4.heap.size ≤ a.block) Base.w0 m8 := ((hu03.trans hu4).mono (fun _ z => z.elim)).trans (upW.trans ((hu7.trans hu8).mono (fun _ z => z.elim)))
      exact h1.old (fun a z => by rcases z with z | z <;> omega)
  · refine .val hP rfl rfl rfl (.bool true) (fun τ => by simp [go_sem]; omega) ?_
    walk_nrm
    refine .val hP rfl rfl rfl (.bool true) (fun τ => by simp [go_sem]) ?_
    walk_nrm
    refine .ctl0 rfl (fun _ => Go.Conc.stepG_region_end) (.ctl0 rfl (fun _ => Go.Conc.stepG_cond (t := true) rfl) ?_)
    simp only [if_true]
    refine .ctl0 rfl (fun _ => Go.Conc.stepG_seq) (.ctl0 rfl (fun _ => Go.Conc.stepG_region) ?_)
    refine .val hP rfl rfl rfl (.bool true) (fun τ => by simp [go_sem]) ?_
    walk_nrm
    refine .val hP rfl rfl rfl (.bool true) (fun τ => by simp [go_sem]) ?_
    walk_nrm
    refine .ctl0 rfl (fun _ => Go.Conc.stepG_region_end) (.ctl0 rfl (fun _ => Go.Conc.stepG_ret') ?_)
    exact Okk.done hΓ2 rfl rfl (by kernel_rfl) Try.func3 (fun w => by simp [go_sem, results, Try.f3]) (fun w => by simp [go_sem, results, Try.f3]) (by omega) hu02
end
end Go.Proofs.Ytkbfbphbdljaaaa
