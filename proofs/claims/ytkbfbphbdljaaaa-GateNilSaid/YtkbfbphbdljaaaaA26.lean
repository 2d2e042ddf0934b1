/- Texts of one proof, joined: each says what it proves. Every premise stands in the statements. -/
import Derived.Test.YtkbfbphbdljaaaaA25
import Derived.Test.YtkbfbphbdljaaaaA24
import Derived.Deep.RegionLawGrows
import Derived.Test.YtkbfbphbdljaaaaA22
/- gate's Step behind where the thread stands (lone): the access, the cell's name, the log. Every premise stands in the statements. -/
set_option linter.unusedVariables false
set_option linter.unusedSimpArgs false
namespace Go.Proofs.Ytkbfbphbdljaaaa
open Go.Tre Go.RowKit
noncomputable def c13_9 : Code := match c13_5 with | .seq c _ => c | _ => .skip
noncomputable def c13_sw : Code := match c13_5 with | .seq _ (.seq c _) => c | _ => .skip
noncomputable def c13_18 : Code := match c13_5 with | .seq _ (.seq _ (.seq c _)) => c | _ => .skip
noncomputable def c13_19 : Code := match c13_5 with | .seq _ (.seq _ (.seq _ (.seq c _))) => c | _ => .skip
noncomputable def c13_m : Code := match c13_5 with | .seq _ (.seq _ (.seq _ (.seq _ (.seq c _)))) => c | _ => .skip
noncomputable def c13_23 : Code := match c13_5 with | .seq _ (.seq _ (.seq _ (.seq _ (.seq _ (.seq c _))))) => c | _ => .skip
noncomputable def c13_24 : Code := match c13_5 with | .seq _ (.seq _ (.seq _ (.seq _ (.seq _ (.seq _ (.seq c _)))))) => c | _ => .skip
noncomputable def c13_25 : Code := match c13_5 with | .seq _ (.seq _ (.seq _ (.seq _ (.seq _ (.seq _ (.seq _ c)))))) => c | _ => .skip
theorem c13_5_eq : c13_5 = .seq c13_9 (.seq c13_sw (.seq c13_18 (.seq c13_19 (.seq c13_m (.seq c13_23 (.seq c13_24 c13_25)))))) := rfl
/-- What lies about the access. -/
structure T13 (w : World) (tp rp mb ab vb vo : Nat) (a : Acc) (x : Int) (names : List Addr) (base : Nat) (v2 : Value) (n2 : Nat) (xs : List Value) : Prop where
  t0 : w.cell? ⟨tp, 0, none⟩ = some (.pointer (some ⟨rp, 0, none⟩))
  r1 : w.cell? ⟨rp, 1, none⟩ = some (.map (some mb))
  r2 : w.cell? ⟨rp, 2, none⟩ = some v2
  rf : w.frozen? ⟨rp, 2, none⟩ = false
  map : w.heap[mb]? = some (.map (ents names) names.length)
  freeV : FreeRow w ⟨vb, vo, none⟩
  freeN : ∀ y ∈ names, FreeRow w y
  acc : a.at w ab 0
  af : ∀ i, w.frozen? ⟨ab, i, none⟩ = false
  val : w.cell? ⟨vb, vo, none⟩ = some (.int .i64 x)
  own : w.ownsRow base 61 8 v2 n2 xs
  size : base ≤ w.heap.size
  ne : ab ≠ tp ∧ ab ≠ rp ∧ ab ≠ vb ∧ vb ≠ tp ∧ vb ≠ rp ∧ rp ≠ tp
  nv : v2.ownBlock ≠ some tp ∧ v2.ownBlock ≠ some rp ∧ v2.ownBlock ≠ some ab ∧ v2.ownBlock ≠ some vb
theorem FreeRow.notFrozen {w : World} {a : Addr} (h : FreeRow w a) : w.frozen? a = false := by
  obtain ⟨c, t, h⟩ := h
  simp [World.frozen?, h]
theorem FreeRow.set {w : World} {a p : Addr} {u : Value} (h : FreeRow w a) : FreeRow (w.setCell p u) a := by
  obtain ⟨c, t, h⟩ := h
  unfold FreeRow
  rw [setCell_get]
  split
  · rw [h]; exact ⟨_, _, rfl⟩
  · exact ⟨c, t, h⟩
theorem own_set {w : World} {base : Nat} {e : TypeId} {size : Nat} {v : Value} {n : Nat} {xs : List Value} (h : w.ownsRow base e size v n xs) {p : Addr} (u : Value) (hp : v.ownBlock ≠ some p.block) : (w.setCell p u).ownsRow base e size v n xs := by
  refine ⟨h.1, h.2.imp id ?_⟩
  rintro ⟨g, cap, cur, rfl, hb, hm, r⟩
  refine ⟨g, cap, cur, rfl, hb, ?_, r⟩
  rw [setCell_get, if_neg (fun e => hp (by rw [← e]; rfl))]; exact hm
theorem map_set {w : World} {mb : Nat} {es : Array MapEntry} {n : Nat} (h : w.heap[mb]? = some (.map es n)) (p : Addr) (u : Value) : (w.setCell p u).heap[mb]? = some (.map es n) := by
  rw [setCell_get]
  split
  · rw [h]; rfl
  · exact h
variable {y16 y17 y18 y19 y20 y21 y22 y23 y24 y25 y26 y27 y28 y29 y30 y31 y32 y33 y34 y35 y36 y37 y38 y39 y40 y41 y42 y43 y44 y45 y46 : Value}
variable {tp rp mb ab vb vo : Nat} {a : Acc} {x : Int} {names : List Addr} {base : Nat} {v2 : Value} {n2 : Nat} {xs : List Value} {w : World}
/-- A store into the access' own row. -/
theorem T13.setA (T : T13 w tp rp mb ab vb vo a x names base v2 n2 xs) (i : Nat) (u : Value) (a' : Acc) (ha : a'.at (w.setCell ⟨ab, i, none⟩ u) ab 0) : T13 (w.setCell ⟨ab, i, none⟩ u) tp rp mb ab vb vo a' x names base v2 n2 xs := by
  obtain ⟨n1, n2', n3, n4, n5, n6⟩ := T.ne
  obtain ⟨m1, m2, m3, m4⟩ := T.nv
  have ot : ∀ (b j : Nat), ab ≠ b → (w.setCell ⟨ab, i, none⟩ u).cell? ⟨b, j, none⟩ = w.cell? ⟨b, j, none⟩ := fun b j h => World.cell?_setCell_other _ _ _ _ (fun e => h (congrArg Addr.block e))
  exact ⟨(ot _ _ n1).trans T.t0, (ot _ _ n2').trans T.r1, (ot _ _ n2').trans T.r2, by rw [World.frozen?_setCell]; exact T.rf, map_set T.map _ _, T.freeV.set, fun y hy => (T.freeN y hy).set, ha, fun j => by rw [World.frozen?_setCell]; exact T.af j, (ot _ _ n3).trans T.val, own_set T.own _ m3, by simpa [World.setCell] using T.size, T.ne, T.nv⟩
/-- A store into the cell. -/
theorem T13.setV (T : T13 w tp rp mb ab vb vo a x names base v2 n2 xs) (y : Int) : T13 (w.setCell ⟨vb, vo, none⟩ (.int .i64 y)) tp rp mb ab vb vo a y names base v2 n2 xs := by
  obtain ⟨n1, n2', n3, n4, n5, n6⟩ := T.ne
  obtain ⟨m1, m2, m3, m4⟩ := T.nv
  have ot : ∀ (b j : Nat), vb ≠ b → (w.setCell ⟨vb, vo, none⟩ (.int .i64 y)).cell? ⟨b, j, none⟩ = w.cell? ⟨b, j, none⟩ := fun b j h => World.cell?_setCell_other _ _ _ _ (fun e => h (congrArg Addr.block e))
  exact ⟨(ot _ _ n4).trans T.t0, (ot _ _ n5).trans T.r1, (ot _ _ n5).trans T.r2, by rw [World.frozen?_setCell]; exact T.rf, map_set T.map _ _, T.freeV.set, fun y hy => (T.freeN y hy).set, Acc.upto T.acc (W := fun z => z = ⟨vb, vo, none⟩) (.setCell rfl) (fun j _ e => n3 (congrArg Addr.block e)), fun j => by rw [World.frozen?_setCell]; exact T.af j, World.cell?_setCell_same _ _ _ T.val, own_set T.own _ m4, by simpa [World.setCell] using T.size, T.ne, T.nv⟩
theorem Acc.was_set {a : Acc} {w : World} {ab : Nat} (h : a.at w ab 0) (y : Int) : ({ a with was := y } : Acc).at (w.setCell ⟨ab, 5, none⟩ (.int .i64 y)) ab 0 := by
  obtain ⟨h0, h1, h2, h3, h4, h5, h6, h7⟩ := h
  have ot : ∀ (j : Nat), j ≠ 5 → (w.setCell ⟨ab, 5, none⟩ (.int .i64 y)).cell? ⟨ab, j, none⟩ = w.cell? ⟨ab, j, none⟩ := fun j hj => World.cell?_setCell_other _ _ _ _ (fun e => hj (congrArg Addr.off e).symm)
  exact ⟨(ot _ (by decide)).trans h0, (ot _ (by decide)).trans h1, (ot _ (by decide)).trans h2, (ot _ (by decide)).trans h3, (ot _ (by decide)).trans h4, World.cell?_setCell_same _ _ _ h5, (ot _ (by decide)).trans h6, (ot _ (by decide)).trans h7⟩
theorem Acc.now_set {a : Acc} {w : World} {ab : Nat} (h : a.at w ab 0) (y : Int) : ({ a with now := y } : Acc).at (w.setCell ⟨ab, 6, none⟩ (.int .i64 y)) ab 0 := by
  obtain ⟨h0, h1, h2, h3, h4, h5, h6, h7⟩ := h
  have ot : ∀ (j : Nat), j ≠ 6 → (w.setCell ⟨ab, 6, none⟩ (.int .i64 y)).cell? ⟨ab, j, none⟩ = w.cell? ⟨ab, j, none⟩ := fun j hj => World.cell?_setCell_other _ _ _ _ (fun e => hj (congrArg Addr.off e).symm)
  exact ⟨(ot _ (by decide)).trans h0, (ot _ (by decide)).trans h1, (ot _ (by decide)).trans h2, (ot _ (by decide)).trans h3, (ot _ (by decide)).trans h4, (ot _ (by decide)).trans h5, World.cell?_setCell_same _ _ _ h6, (ot _ (by decide)).trans h7⟩
theorem Acc.ok_set {a : Acc} {w : World} {ab : Nat} (h : a.at w ab 0) (y : Bool) : ({ a with ok := y } : Acc).at (w.setCell ⟨ab, 7, none⟩ (.bool y)) ab 0 := by
  obtain ⟨h0, h1, h2, h3, h4, h5, h6, h7⟩ := h
  have ot : ∀ (j : Nat), j ≠ 7 → (w.setCell ⟨ab, 7, none⟩ (.bool y)).cell? ⟨ab, j, none⟩ = w.cell? ⟨ab, j, none⟩ := fun j hj => World.cell?_setCell_other _ _ _ _ (fun e => hj (congrArg Addr.off e).symm)
  exact ⟨(ot _ (by decide)).trans h0, (ot _ (by decide)).trans h1, (ot _ (by decide)).trans h2, (ot _ (by decide)).trans h3, (ot _ (by decide)).trans h4, (ot _ (by decide)).trans h5, (ot _ (by decide)).trans h6, World.cell?_setCell_same _ _ _ h7⟩
theorem Acc.cell_set {a : Acc} {w : World} {ab : Nat} (h : a.at w ab 0) (y : Int) : ({ a with cell := y } : Acc).at (w.setCell ⟨ab, 2, none⟩ (.int .i64 y)) ab 0 := by
  obtain ⟨h0, h1, h2, h3, h4, h5, h6, h7⟩ := h
  have ot : ∀ (j : Nat), j ≠ 2 → (w.setCell ⟨ab, 2, none⟩ (.int .i64 y)).cell? ⟨ab, j, none⟩ = w.cell? ⟨ab, j, none⟩ := fun j hj => World.cell?_setCell_other _ _ _ _ (fun e => hj (congrArg Addr.off e).symm)
  exact ⟨(ot _ (by decide)).trans h0, (ot _ (by decide)).trans h1, World.cell?_setCell_same _ _ _ h2, (ot _ (by decide)).trans h3, (ot _ (by decide)).trans h4, (ot _ (by decide)).trans h5, (ot _ (by decide)).trans h6, (ot _ (by decide)).trans h7⟩
set_option maxRecDepth 100000 in
set_option maxHeartbeats 2000000 in
theorem s13_9 (op arg next : Int) (K : Act → World → Prop) (Q : Exit → Act → World → Prop) (T : T13 w tp rp mb ab vb vo a x names base v2 n2 xs)
    (hK : ∀ w', T13 w' tp rp mb ab vb vo { a with was := x } x names base v2 n2 xs → Upto (fun z => z.block = ab) w w' → K ⟨#[.pointer (some ⟨tp, 0, none⟩), .pointer (some ⟨vb, vo, none⟩), .int .i8 op, .int .i64 arg, .int .i64 next, undef, undef, undef, undef, undef, .int .i64 0, .int .i64 0, .bool false, .pointer (some ⟨ab, 0, none⟩), undef, undef, y16, y17, y18, y19, y20, y21, y22, y23, y24, y25, y26, y27, y28, y29, y30, y31, y32, y33, y34, y35, y36, y37, y38, y39, y40, y41, y42, y43, y44, y45, y46, .pointer (some ⟨vb, vo, none⟩), .int .i64 x, .pointer (some ⟨ab, 5, none⟩), undef, undef, undef, undef, undef, undef, undef, undef, undef, undef, undef, undef, undef, undef, undef, undef, undef, undef, undef, undef, undef, undef, undef, undef, undef, undef, undef, undef, undef, undef, undef, undef, undef, undef, undef, undef, undef, undef, undef, undef, undef, undef, undef, undef, undef, undef, undef, undef, undef, undef, undef, undef, undef, undef, undef, undef, undef, undef, undef, undef, undef, undef, undef, undef, undef, undef, undef, undef, undef, undef, undef, undef, undef, undef, undef, undef, undef], []⟩ w') :
    c13_9.wp Try.prog (Exit.then K Q) ⟨#[.pointer (some ⟨tp, 0, none⟩), .pointer (some ⟨vb, vo, none⟩), .int .i8 op, .int .i64 arg, .int .i64 next, undef, undef, undef, undef, undef, .int .i64 0, .int .i64 0, .bool false, .pointer (some ⟨ab, 0, none⟩), undef, undef, y16, y17, y18, y19, y20, y21, y22, y23, y24, y25, y26, y27, y28, y29, y30, y31, y32, y33, y34, y35, y36, y37, y38, y39, y40, y41, y42, y43, y44, y45, y46, undef, undef, undef, undef, undef, undef, undef, undef, undef, undef, undef, undef, undef, undef, undef, undef, undef, undef, undef, undef, undef, undef, undef, undef, undef, undef, undef, undef, undef, undef, undef, undef, undef, undef, undef, undef, undef, undef, undef, undef, undef, undef, undef, undef, undef, undef, undef, undef, undef, undef, undef, undef, undef, undef, undef, undef, undef, undef, undef, undef, undef, undef, undef, undef, undef, undef, undef, undef, undef, undef, undef, undef, undef, undef, undef, undef, undef, undef, undef, undef], []⟩ w := by
  have hv := T.val
  have c5 := T.acc.2.2.2.2.2.1
  have f5 := T.af 5
  simp only [Nat.zero_add] at c5
  simp only [c13_9, c13_5, Try.f13]
  go_wp2_with (go_at_call 16; refine (aload_calls _ _ _ _ hv).mono ?_; rintro e w' ⟨rfl, rfl⟩)
  exact hK _ (T.setA 5 _ _ (Acc.was_set T.acc x)) (.setCell rfl)
set_option maxRecDepth 100000 in
set_option maxHeartbeats 2000000 in
theorem s13_sw1 (arg next : Int) (K : Act → World → Prop) (Q : Exit → Act → World → Prop) (T : T13 w tp rp mb ab vb vo a x names base v2 n2 xs)
    (hK : ∀ y50 y51 y52 y53 y54 y55 y56 y57 y58 y59 y60 y61 y62 y63 y64 y65 y66 y67 y68 w', T13 w' tp rp mb ab vb vo a x names base v2 n2 xs → Upto (fun z => z.block = ab ∨ z = ⟨vb, vo, none⟩) w w' → K ⟨#[.pointer (some ⟨tp, 0, none⟩), .pointer (some ⟨vb, vo, none⟩), .int .i8 1, .int .i64 arg, .int .i64 next, undef, undef, undef, undef, undef, .int .i64 0, .int .i64 0, .bool false, .pointer (some ⟨ab, 0, none⟩), undef, undef, y16, y17, y18, y19, y20, y21, y22, y23, y24, y25, y26, y27, y28, y29, y30, y31, y32, y33, y34, y35, y36, y37, y38, y39, y40, y41, y42, y43, y44, y45, y46, .pointer (some ⟨vb, vo, none⟩), .int .i64 x, .pointer (some ⟨ab, 5, none⟩), y50, y51, y52, y53, y54, y55, y56, y57, y58, y59, y60, y61, y62, y63, y64, y65, y66, y67, y68, undef, undef, undef, undef, undef, undef, undef, undef, undef, undef, undef, undef, undef, undef, undef, undef, undef, undef, undef, undef, undef, undef, undef, undef, undef, undef, undef, undef, undef, undef, undef, undef, undef, undef, undef, undef, undef, undef, undef, undef, undef, undef, undef, undef, undef, undef, undef, undef, undef, undef, undef, undef, undef, undef, undef, undef, undef, undef], []⟩ w') :
    c13_sw.wp Try.prog (Exit.then K Q) ⟨#[.pointer (some ⟨tp, 0, none⟩), .pointer (some ⟨vb, vo, none⟩), .int .i8 1, .int .i64 arg, .int .i64 next, undef, undef, undef, undef, undef, .int .i64 0, .int .i64 0, .bool false, .pointer (some ⟨ab, 0, none⟩), undef, undef, y16, y17, y18, y19, y20, y21, y22, y23, y24, y25, y26, y27, y28, y29, y30, y31, y32, y33, y34, y35, y36, y37, y38, y39, y40, y41, y42, y43, y44, y45, y46, .pointer (some ⟨vb, vo, none⟩), .int .i64 x, .pointer (some ⟨ab, 5, none⟩), undef, undef, undef, undef, undef, undef, undef, undef, undef, undef, undef, undef, undef, undef, undef, undef, undef, undef, undef, undef, undef, undef, undef, undef, undef, undef, undef, undef, undef, undef, undef, undef, undef, undef, undef, undef, undef, undef, undef, undef, undef, undef, undef, undef, undef, undef, undef, undef, undef, undef, undef, undef, undef, undef, undef, undef, undef, undef, undef, undef, undef, undef, undef, undef, undef, undef, undef, undef, undef, undef, undef, undef, undef, undef, undef, undef, undef], []⟩ w := by
  have hv := T.val
  have fv := T.freeV.notFrozen
  have c7 := T.acc.2.2.2.2.2.2.2
  have f7 := T.af 7
  simp only [Nat.zero_add] at c7
  have nvb : ¬ vb = ab := fun e => T.ne.2.2.1 e.symm
  have nbv : ¬ ab = vb := T.ne.2.2.1
  simp only [c13_sw, c13_5, Try.f13]
  go_wp2
  exact hK _ _ _ _ _ _ _ _ _ _ _ _ _ _ _ _ _ _ _ _ T .refl
set_option maxRecDepth 100000 in
set_option maxHeartbeats 2000000 in
theorem s13_sw6 (arg next : Int) (K : Act → World → Prop) (Q : Exit → Act → World → Prop) (T : T13 w tp rp mb ab vb vo a x names base v2 n2 xs)
    (hK : ∀ y50 y51 y52 y53 y54 y55 y56 y57 y58 y59 y60 y61 y62 y63 y64 y65 y66 y67 y68 w', T13 w' tp rp mb ab vb vo a x names base v2 n2 xs → Upto (fun z => z.block = ab ∨ z = ⟨vb, vo, none⟩) w w' → K ⟨#[.pointer (some ⟨tp, 0, none⟩), .pointer (some ⟨vb, vo, none⟩), .int .i8 6, .int .i64 arg, .int .i64 next, undef, undef, undef, undef, undef, .int .i64 0, .int .i64 0, .bool false, .pointer (some ⟨ab, 0, none⟩), undef, undef, y16, y17, y18, y19, y20, y21, y22, y23, y24, y25, y26, y27, y28, y29, y30, y31, y32, y33, y34, y35, y36, y37, y38, y39, y40, y41, y42, y43, y44, y45, y46, .pointer (some ⟨vb, vo, none⟩), .int .i64 x, .pointer (some ⟨ab, 5, none⟩), y50, y51, y52, y53, y54, y55, y56, y57, y58, y59, y60, y61, y62, y63, y64, y65, y66, y67, y68, undef, undef, undef, undef, undef, undef, undef, undef, undef, undef, undef, undef, undef, undef, undef, undef, undef, undef, undef, undef, undef, undef, undef, undef, undef, undef, undef, undef, undef, undef, undef, undef, undef, undef, undef, undef, undef, undef, undef, undef, undef, undef, undef, undef, undef, undef, undef, undef, undef, undef, undef, undef, undef, undef, undef, undef, undef, undef], []⟩ w') :
    c13_sw.wp Try.prog (Exit.then K Q) ⟨#[.pointer (some ⟨tp, 0, none⟩), .pointer (some ⟨vb, vo, none⟩), .int .i8 6, .int .i64 arg, .int .i64 next, undef, undef, undef, undef, undef, .int .i64 0, .int .i64 0, .bool false, .pointer (some ⟨ab, 0, none⟩), undef, undef, y16, y17, y18, y19, y20, y21, y22, y23, y24, y25, y26, y27, y28, y29, y30, y31, y32, y33, y34, y35, y36, y37, y38, y39, y40, y41, y42, y43, y44, y45, y46, .pointer (some ⟨vb, vo, none⟩), .int .i64 x, .pointer (some ⟨ab, 5, none⟩), undef, undef, undef, undef, undef, undef, undef, undef, undef, undef, undef, undef, undef, undef, undef, undef, undef, undef, undef, undef, undef, undef, undef, undef, undef, undef, undef, undef, undef, undef, undef, undef, undef, undef, undef, undef, undef, undef, undef, undef, undef, undef, undef, undef, undef, undef, undef, undef, undef, undef, undef, undef, undef, undef, undef, undef, undef, undef, undef, undef, undef, undef, undef, undef, undef, undef, undef, undef, undef, undef, undef, undef, undef, undef, undef, undef, undef], []⟩ w := by
  have hv := T.val
  have fv := T.freeV.notFrozen
  have c7 := T.acc.2.2.2.2.2.2.2
  have f7 := T.af 7
  simp only [Nat.zero_add] at c7
  have nvb : ¬ vb = ab := fun e => T.ne.2.2.1 e.symm
  have nbv : ¬ ab = vb := T.ne.2.2.1
  simp only [c13_sw, c13_5, Try.f13]
  go_wp2
  exact hK _ _ _ _ _ _ _ _ _ _ _ _ _ _ _ _ _ _ _ _ T .refl
set_option maxRecDepth 100000 in
set_option maxHeartbeats 2000000 in
theorem s13_sw2 (arg next : Int) (K : Act → World → Prop) (Q : Exit → Act → World → Prop) (T : T13 w tp rp mb ab vb vo a x names base v2 n2 xs)
    (hK : ∀ y50 y51 y52 y53 y54 y55 y56 y57 y58 y59 y60 y61 y62 y63 y64 y65 y66 y67 y68 w', T13 w' tp rp mb ab vb vo a arg names base v2 n2 xs → Upto (fun z => z.block = ab ∨ z = ⟨vb, vo, none⟩) w w' → K ⟨#[.pointer (some ⟨tp, 0, none⟩), .pointer (some ⟨vb, vo, none⟩), .int .i8 2, .int .i64 arg, .int .i64 next, undef, undef, undef, undef, undef, .int .i64 0, .int .i64 0, .bool false, .pointer (some ⟨ab, 0, none⟩), undef, undef, y16, y17, y18, y19, y20, y21, y22, y23, y24, y25, y26, y27, y28, y29, y30, y31, y32, y33, y34, y35, y36, y37, y38, y39, y40, y41, y42, y43, y44, y45, y46, .pointer (some ⟨vb, vo, none⟩), .int .i64 x, .pointer (some ⟨ab, 5, none⟩), y50, y51, y52, y53, y54, y55, y56, y57, y58, y59, y60, y61, y62, y63, y64, y65, y66, y67, y68, undef, undef, undef, undef, undef, undef, undef, undef, undef, undef, undef, undef, undef, undef, undef, undef, undef, undef, undef, undef, undef, undef, undef, undef, undef, undef, undef, undef, undef, undef, undef, undef, undef, undef, undef, undef, undef, undef, undef, undef, undef, undef, undef, undef, undef, undef, undef, undef, undef, undef, undef, undef, undef, undef, undef, undef, undef, undef], []⟩ w') :
    c13_sw.wp Try.prog (Exit.then K Q) ⟨#[.pointer (some ⟨tp, 0, none⟩), .pointer (some ⟨vb, vo, none⟩), .int .i8 2, .int .i64 arg, .int .i64 next, undef, undef, undef, undef, undef, .int .i64 0, .int .i64 0, .bool false, .pointer (some ⟨ab, 0, none⟩), undef, undef, y16, y17, y18, y19, y20, y21, y22, y23, y24, y25, y26, y27, y28, y29, y30, y31, y32, y33, y34, y35, y36, y37, y38, y39, y40, y41, y42, y43, y44, y45, y46, .pointer (some ⟨vb, vo, none⟩), .int .i64 x, .pointer (some ⟨ab, 5, none⟩), undef, undef, undef, undef, undef, undef, undef, undef, undef, undef, undef, undef, undef, undef, undef, undef, undef, undef, undef, undef, undef, undef, undef, undef, undef, undef, undef, undef, undef, undef, undef, undef, undef, undef, undef, undef, undef, undef, undef, undef, undef, undef, undef, undef, undef, undef, undef, undef, undef, undef, undef, undef, undef, undef, undef, undef, undef, undef, undef, undef, undef, undef, undef, undef, undef, undef, undef, undef, undef, undef, undef, undef, undef, undef, undef, undef, undef], []⟩ w := by
  have hv := T.val
  have fv := T.freeV.notFrozen
  have c7 := T.acc.2.2.2.2.2.2.2
  have f7 := T.af 7
  simp only [Nat.zero_add] at c7
  have nvb : ¬ vb = ab := fun e => T.ne.2.2.1 e.symm
  have nbv : ¬ ab = vb := T.ne.2.2.1
  simp only [c13_sw, c13_5, Try.f13]
  go_wp2_with (go_at_call 42; refine (astore_calls _ _ _ _ arg hv fv).mono ?_; rintro e w' ⟨rfl, rfl⟩)
  exact hK _ _ _ _ _ _ _ _ _ _ _ _ _ _ _ _ _ _ _ _ (T.setV arg) (.setCell (.inr rfl))
set_option maxRecDepth 100000 in
set_option maxHeartbeats 2000000 in
theorem s13_sw5 (arg next : Int) (K : Act → World → Prop) (Q : Exit → Act → World → Prop) (T : T13 w tp rp mb ab vb vo a x names base v2 n2 xs)
    (hK : ∀ y50 y51 y52 y53 y54 y55 y56 y57 y58 y59 y60 y61 y62 y63 y64 y65 y66 y67 y68 w', T13 w' tp rp mb ab vb vo a arg names base v2 n2 xs → Upto (fun z => z.block = ab ∨ z = ⟨vb, vo, none⟩) w w' → K ⟨#[.pointer (some ⟨tp, 0, none⟩), .pointer (some ⟨vb, vo, none⟩), .int .i8 5, .int .i64 arg, .int .i64 next, undef, undef, undef, undef, undef, .int .i64 0, .int .i64 0, .bool false, .pointer (some ⟨ab, 0, none⟩), undef, undef, y16, y17, y18, y19, y20, y21, y22, y23, y24, y25, y26, y27, y28, y29, y30, y31, y32, y33, y34, y35, y36, y37, y38, y39, y40, y41, y42, y43, y44, y45, y46, .pointer (some ⟨vb, vo, none⟩), .int .i64 x, .pointer (some ⟨ab, 5, none⟩), y50, y51, y52, y53, y54, y55, y56, y57, y58, y59, y60, y61, y62, y63, y64, y65, y66, y67, y68, undef, undef, undef, undef, undef, undef, undef, undef, undef, undef, undef, undef, undef, undef, undef, undef, undef, undef, undef, undef, undef, undef, undef, undef, undef, undef, undef, undef, undef, undef, undef, undef, undef, undef, undef, undef, undef, undef, undef, undef, undef, undef, undef, undef, undef, undef, undef, undef, undef, undef, undef, undef, undef, undef, undef, undef, undef, undef], []⟩ w') :
    c13_sw.wp Try.prog (Exit.then K Q) ⟨#[.pointer (some ⟨tp, 0, none⟩), .pointer (some ⟨vb, vo, none⟩), .int .i8 5, .int .i64 arg, .int .i64 next, undef, undef, undef, undef, undef, .int .i64 0, .int .i64 0, .bool false, .pointer (some ⟨ab, 0, none⟩), undef, undef, y16, y17, y18, y19, y20, y21, y22, y23, y24, y25, y26, y27, y28, y29, y30, y31, y32, y33, y34, y35, y36, y37, y38, y39, y40, y41, y42, y43, y44, y45, y46, .pointer (some ⟨vb, vo, none⟩), .int .i64 x, .pointer (some ⟨ab, 5, none⟩), undef, undef, undef, undef, undef, undef, undef, undef, undef, undef, undef, undef, undef, undef, undef, undef, undef, undef, undef, undef, undef, undef, undef, undef, undef, undef, undef, undef, undef, undef, undef, undef, undef, undef, undef, undef, undef, undef, undef, undef, undef, undef, undef, undef, undef, undef, undef, undef, undef, undef, undef, undef, undef, undef, undef, undef, undef, undef, undef, undef, undef, undef, undef, undef, undef, undef, undef, undef, undef, undef, undef, undef, undef, undef, undef, undef, undef], []⟩ w := by
  have hv := T.val
  have fv := T.freeV.notFrozen
  have c7 := T.acc.2.2.2.2.2.2.2
  have f7 := T.af 7
  simp only [Nat.zero_add] at c7
  have nvb : ¬ vb = ab := fun e => T.ne.2.2.1 e.symm
  have nbv : ¬ ab = vb := T.ne.2.2.1
  simp only [c13_sw, c13_5, Try.f13]
  go_wp2_with (go_at_call 42; refine (astore_calls _ _ _ _ arg hv fv).mono ?_; rintro e w' ⟨rfl, rfl⟩)
  exact hK _ _ _ _ _ _ _ _ _ _ _ _ _ _ _ _ _ _ _ _ (T.setV arg) (.setCell (.inr rfl))
set_option maxRecDepth 100000 in
set_option maxHeartbeats 2000000 in
theorem s13_sw4 (arg next : Int) (K : Act → World → Prop) (Q : Exit → Act → World → Prop) (T : T13 w tp rp mb ab vb vo a x names base v2 n2 xs)
    (hK : ∀ y50 y51 y52 y53 y54 y55 y56 y57 y58 y59 y60 y61 y62 y63 y64 y65 y66 y67 y68 w', T13 w' tp rp mb ab vb vo a (wrap64 (x + arg)) names base v2 n2 xs → Upto (fun z => z.block = ab ∨ z = ⟨vb, vo, none⟩) w w' → K ⟨#[.pointer (some ⟨tp, 0, none⟩), .pointer (some ⟨vb, vo, none⟩), .int .i8 4, .int .i64 arg, .int .i64 next, undef, undef, undef, undef, undef, .int .i64 0, .int .i64 0, .bool false, .pointer (some ⟨ab, 0, none⟩), undef, undef, y16, y17, y18, y19, y20, y21, y22, y23, y24, y25, y26, y27, y28, y29, y30, y31, y32, y33, y34, y35, y36, y37, y38, y39, y40, y41, y42, y43, y44, y45, y46, .pointer (some ⟨vb, vo, none⟩), .int .i64 x, .pointer (some ⟨ab, 5, none⟩), y50, y51, y52, y53, y54, y55, y56, y57, y58, y59, y60, y61, y62, y63, y64, y65, y66, y67, y68, undef, undef, undef, undef, undef, undef, undef, undef, undef, undef, undef, undef, undef, undef, undef, undef, undef, undef, undef, undef, undef, undef, undef, undef, undef, undef, undef, undef, undef, undef, undef, undef, undef, undef, undef, undef, undef, undef, undef, undef, undef, undef, undef, undef, undef, undef, undef, undef, undef, undef, undef, undef, undef, undef, undef, undef, undef, undef], []⟩ w') :
    c13_sw.wp Try.prog (Exit.then K Q) ⟨#[.pointer (some ⟨tp, 0, none⟩), .pointer (some ⟨vb, vo, none⟩), .int .i8 4, .int .i64 arg, .int .i64 next, undef, undef, undef, undef, undef, .int .i64 0, .int .i64 0, .bool false, .pointer (some ⟨ab, 0, none⟩), undef, undef, y16, y17, y18, y19, y20, y21, y22, y23, y24, y25, y26, y27, y28, y29, y30, y31, y32, y33, y34, y35, y36, y37, y38, y39, y40, y41, y42, y43, y44, y45, y46, .pointer (some ⟨vb, vo, none⟩), .int .i64 x, .pointer (some ⟨ab, 5, none⟩), undef, undef, undef, undef, undef, undef, undef, undef, undef, undef, undef, undef, undef, undef, undef, undef, undef, undef, undef, undef, undef, undef, undef, undef, undef, undef, undef, undef, undef, undef, undef, undef, undef, undef, undef, undef, undef, undef, undef, undef, undef, undef, undef, undef, undef, undef, undef, undef, undef, undef, undef, undef, undef, undef, undef, undef, undef, undef, undef, undef, undef, undef, undef, undef, undef, undef, undef, undef, undef, undef, undef, undef, undef, undef, undef, undef, undef], []⟩ w := by
  have hv := T.val
  have fv := T.freeV.notFrozen
  have c7 := T.acc.2.2.2.2.2.2.2
  have f7 := T.af 7
  simp only [Nat.zero_add] at c7
  have nvb : ¬ vb = ab := fun e => T.ne.2.2.1 e.symm
  have nbv : ¬ ab = vb := T.ne.2.2.1
  simp only [c13_sw, c13_5, Try.f13]
  have hs : ∀ w : World, (Op.intArith .add .i64 x arg).run Try.prog w = .ok (.int .i64 (wrap64 (x + arg))) w := fun w => by simp [Op.intArith, go_sem]; rw [IntKind.wrap_i64]; unfold wrap64; rfl
  go_wp2_with (go_at_call 38; refine (aadd_calls _ _ _ x arg _ hv fv (hs _)).mono ?_; rintro e w' ⟨rfl, rfl⟩)
  exact hK _ _ _ _ _ _ _ _ _ _ _ _ _ _ _ _ _ _ _ _ (T.setV _) (.setCell (.inr rfl))
set_option maxRecDepth 100000 in
set_option maxHeartbeats 2000000 in
theorem s13_sw3h (arg next : Int) (K : Act → World → Prop) (Q : Exit → Act → World → Prop) (T : T13 w tp rp mb ab vb vo a arg names base v2 n2 xs)
    (hK : ∀ y50 y51 y52 y53 y54 y55 y56 y57 y58 y59 y60 y61 y62 y63 y64 y65 y66 y67 y68 w', T13 w' tp rp mb ab vb vo { a with ok := true } next names base v2 n2 xs → Upto (fun z => z.block = ab ∨ z = ⟨vb, vo, none⟩) w w' → K ⟨#[.pointer (some ⟨tp, 0, none⟩), .pointer (some ⟨vb, vo, none⟩), .int .i8 3, .int .i64 arg, .int .i64 next, undef, undef, undef, undef, undef, .int .i64 0, .int .i64 0, .bool false, .pointer (some ⟨ab, 0, none⟩), undef, undef, y16, y17, y18, y19, y20, y21, y22, y23, y24, y25, y26, y27, y28, y29, y30, y31, y32, y33, y34, y35, y36, y37, y38, y39, y40, y41, y42, y43, y44, y45, y46, .pointer (some ⟨vb, vo, none⟩), .int .i64 x, .pointer (some ⟨ab, 5, none⟩), y50, y51, y52, y53, y54, y55, y56, y57, y58, y59, y60, y61, y62, y63, y64, y65, y66, y67, y68, undef, undef, undef, undef, undef, undef, undef, undef, undef, undef, undef, undef, undef, undef, undef, undef, undef, undef, undef, undef, undef, undef, undef, undef, undef, undef, undef, undef, undef, undef, undef, undef, undef, undef, undef, undef, undef, undef, undef, undef, undef, undef, undef, undef, undef, undef, undef, undef, undef, undef, undef, undef, undef, undef, undef, undef, undef, undef], []⟩ w') :
    c13_sw.wp Try.prog (Exit.then K Q) ⟨#[.pointer (some ⟨tp, 0, none⟩), .pointer (some ⟨vb, vo, none⟩), .int .i8 3, .int .i64 arg, .int .i64 next, undef, undef, undef, undef, undef, .int .i64 0, .int .i64 0, .bool false, .pointer (some ⟨ab, 0, none⟩), undef, undef, y16, y17, y18, y19, y20, y21, y22, y23, y24, y25, y26, y27, y28, y29, y30, y31, y32, y33, y34, y35, y36, y37, y38, y39, y40, y41, y42, y43, y44, y45, y46, .pointer (some ⟨vb, vo, none⟩), .int .i64 x, .pointer (some ⟨ab, 5, none⟩), undef, undef, undef, undef, undef, undef, undef, undef, undef, undef, undef, undef, undef, undef, undef, undef, undef, undef, undef, undef, undef, undef, undef, undef, undef, undef, undef, undef, undef, undef, undef, undef, undef, undef, undef, undef, undef, undef, undef, undef, undef, undef, undef, undef, undef, undef, undef, undef, undef, undef, undef, undef, undef, undef, undef, undef, undef, undef, undef, undef, undef, undef, undef, undef, undef, undef, undef, undef, undef, undef, undef, undef, undef, undef, undef, undef, undef], []⟩ w := by
  have hv := T.val
  have fv := T.freeV.notFrozen
  have c7 := T.acc.2.2.2.2.2.2.2
  have f7 := T.af 7
  simp only [Nat.zero_add] at c7
  have nvb : ¬ vb = ab := fun e => T.ne.2.2.1 e.symm
  have nbv : ¬ ab = vb := T.ne.2.2.1
  simp only [c13_sw, c13_5, Try.f13]
  go_wp2_with (go_at_call 43; refine (acas_hit _ _ _ arg next hv fv).mono ?_; rintro e w' ⟨rfl, rfl⟩)
  exact hK _ _ _ _ _ _ _ _ _ _ _ _ _ _ _ _ _ _ _ _ ((T.setV next).setA 7 _ _ (Acc.ok_set (T.setV next).acc true)) (.trans (.setCell (.inr rfl)) (.setCell (.inl rfl)))
set_option maxRecDepth 100000 in
set_option maxHeartbeats 2000000 in
theorem s13_sw3m (arg next : Int) (K : Act → World → Prop) (Q : Exit → Act → World → Prop) (T : T13 w tp rp mb ab vb vo a x names base v2 n2 xs) (hne : ¬ x = arg)
    (hK : ∀ y50 y51 y52 y53 y54 y55 y56 y57 y58 y59 y60 y61 y62 y63 y64 y65 y66 y67 y68 w', T13 w' tp rp mb ab vb vo { a with ok := false } x names base v2 n2 xs → Upto (fun z => z.block = ab ∨ z = ⟨vb, vo, none⟩) w w' → K ⟨#[.pointer (some ⟨tp, 0, none⟩), .pointer (some ⟨vb, vo, none⟩), .int .i8 3, .int .i64 arg, .int .i64 next, undef, undef, undef, undef, undef, .int .i64 0, .int .i64 0, .bool false, .pointer (some ⟨ab, 0, none⟩), undef, undef, y16, y17, y18, y19, y20, y21, y22, y23, y24, y25, y26, y27, y28, y29, y30, y31, y32, y33, y34, y35, y36, y37, y38, y39, y40, y41, y42, y43, y44, y45, y46, .pointer (some ⟨vb, vo, none⟩), .int .i64 x, .pointer (some ⟨ab, 5, none⟩), y50, y51, y52, y53, y54, y55, y56, y57, y58, y59, y60, y61, y62, y63, y64, y65, y66, y67, y68, undef, undef, undef, undef, undef, undef, undef, undef, undef, undef, undef, undef, undef, undef, undef, undef, undef, undef, undef, undef, undef, undef, undef, undef, undef, undef, undef, undef, undef, undef, undef, undef, undef, undef, undef, undef, undef, undef, undef, undef, undef, undef, undef, undef, undef, undef, undef, undef, undef, undef, undef, undef, undef, undef, undef, undef, undef, undef], []⟩ w') :
    c13_sw.wp Try.prog (Exit.then K Q) ⟨#[.pointer (some ⟨tp, 0, none⟩), .pointer (some ⟨vb, vo, none⟩), .int .i8 3, .int .i64 arg, .int .i64 next, undef, undef, undef, undef, undef, .int .i64 0, .int .i64 0, .bool false, .pointer (some ⟨ab, 0, none⟩), undef, undef, y16, y17, y18, y19, y20, y21, y22, y23, y24, y25, y26, y27, y28, y29, y30, y31, y32, y33, y34, y35, y36, y37, y38, y39, y40, y41, y42, y43, y44, y45, y46, .pointer (some ⟨vb, vo, none⟩), .int .i64 x, .pointer (some ⟨ab, 5, none⟩), undef, undef, undef, undef, undef, undef, undef, undef, undef, undef, undef, undef, undef, undef, undef, undef, undef, undef, undef, undef, undef, undef, undef, undef, undef, undef, undef, undef, undef, undef, undef, undef, undef, undef, undef, undef, undef, undef, undef, undef, undef, undef, undef, undef, undef, undef, undef, undef, undef, undef, undef, undef, undef, undef, undef, undef, undef, undef, undef, undef, undef, undef, undef, undef, undef, undef, undef, undef, undef, undef, undef, undef, undef, undef, undef, undef, undef], []⟩ w := by
  have hv := T.val
  have fv := T.freeV.notFrozen
  have c7 := T.acc.2.2.2.2.2.2.2
  have f7 := T.af 7
  simp only [Nat.zero_add] at c7
  have nvb : ¬ vb = ab := fun e => T.ne.2.2.1 e.symm
  have nbv : ¬ ab = vb := T.ne.2.2.1
  simp only [c13_sw, c13_5, Try.f13]
  go_wp2_with (go_at_call 43; refine (acas_miss _ _ _ x arg next hv fv hne).mono ?_; rintro e w' ⟨rfl, rfl⟩)
  exact hK _ _ _ _ _ _ _ _ _ _ _ _ _ _ _ _ _ _ _ _ (T.setA 7 _ _ (Acc.ok_set T.acc false)) (.setCell (.inl rfl))
end Go.Proofs.Ytkbfbphbdljaaaa

/- gate's Step behind where the thread stands (lone), its second half. Every premise stands in the statements. -/
set_option linter.unusedVariables false
set_option linter.unusedSimpArgs false
namespace Go.Proofs.Ytkbfbphbdljaaaa
open Go.Tre Go.RowKit
variable {y16 y17 y18 y19 y20 y21 y22 y23 y24 y25 y26 y27 y28 y29 y30 y31 y32 y33 y34 y35 y36 y37 y38 y39 y40 y41 y42 y43 y44 y45 y46 : Value}
variable {tp rp mb ab vb vo : Nat} {a : Acc} {x : Int} {names : List Addr} {base : Nat} {v2 : Value} {n2 : Nat} {xs : List Value} {w : World}
theorem get_setM (w : World) (mb : Nat) (o : Obj) (b : Nat) (hb : b ≠ mb) : (w.heap.setIfInBounds mb o)[b]? = w.heap[b]? := Array.getElem?_setIfInBounds_ne (Ne.symm hb)
theorem upto_map (w : World) (mb : Nat) (o : Obj) : Upto (fun z => z.block = mb) w { w with heap := w.heap.setIfInBounds mb o } := by
  refine ⟨by simp, fun a v hv hw => ?_, fun b x hb hn hw => ?_, fun b c e f hb hw => ?_⟩
  · unfold World.cell? at hv ⊢
    simp only [get_setM w mb o a.block hw]; exact hv
  · show (w.heap.setIfInBounds mb o)[b]? = _
    rw [get_setM w mb o b hw]; exact hb
  · refine ⟨f, ?_⟩
    show (w.heap.setIfInBounds mb o)[b]? = _
    rw [get_setM w mb o b (hw 0)]; exact hb
/-- The map takes one name more. -/
theorem T13.setM (T : T13 w tp rp mb ab vb vo a x names base v2 n2 xs) (y : Addr) (hy : y = ⟨vb, vo, none⟩ := by rfl) : T13 { w with heap := w.heap.setIfInBounds mb (.map (ents (names ++ [y])) (names.length + 1)) } tp rp mb ab vb vo a x (names ++ [y]) base v2 n2 xs := by
  have hlt : mb < w.heap.size := (Array.getElem?_eq_some_iff.1 T.map).1
  have nb : ∀ {z : Addr} {v : Value}, w.cell? z = some v → z.block ≠ mb := fun {z v} hz e => by
    obtain ⟨c, t, f, h, _⟩ := cells_of_cell hz
    rw [e, T.map] at h; cases h
  have hc : ∀ {z : Addr} {v : Value}, w.cell? z = some v → ({ w with heap := w.heap.setIfInBounds mb (.map (ents (names ++ [y])) (names.length + 1)) } : World).cell? z = some v := fun {z v} hz => (upto_map w mb _).cell _ _ hz (nb hz)
  have hfr : ∀ {z : Addr}, ({ w with heap := w.heap.setIfInBounds mb (.map (ents (names ++ [y])) (names.length + 1)) } : World).frozen? z = w.frozen? z := fun {z} => by
    unfold World.frozen?
    by_cases e : z.block = mb
    · simp only [e, T.map, Array.getElem?_setIfInBounds_self_of_lt hlt]
    · simp only [get_setM w mb _ z.block e]
  have hF : ∀ {z : Addr}, FreeRow w z → FreeRow { w with heap := w.heap.setIfInBounds mb (.map (ents (names ++ [y])) (names.length + 1)) } z := fun {z} hz => by
    obtain ⟨c, t, h⟩ := hz
    refine ⟨c, t, ?_⟩
    show (w.heap.setIfInBounds mb _)[z.block]? = _
    rw [get_setM w mb _ z.block (fun e => by rw [e, T.map] at h; cases h)]; exact h
  obtain ⟨q0, q1, q2, q3, q4, q5, q6, q7⟩ := T.acc
  refine ⟨hc T.t0, hc T.r1, hc T.r2, hfr.trans T.rf, ?_, hF T.freeV, fun z hz => ?_, ⟨hc q0, hc q1, hc q2, hc q3, hc q4, hc q5, hc q6, hc q7⟩, fun i => hfr.trans (T.af i), hc T.val, ?_, by simpa using T.size, T.ne, T.nv⟩
  · show (w.heap.setIfInBounds mb _)[mb]? = _
    rw [Array.getElem?_setIfInBounds_self_of_lt hlt]; simp
  · rcases List.mem_append.1 hz with hz | hz
    · exact hF (T.freeN z hz)
    · have := hF T.freeV
      rw [← hy] at this
      rw [List.mem_singleton.1 hz]; exact this
  · refine ⟨T.own.1, T.own.2.imp id ?_⟩
    rintro ⟨g, cap, cur, rfl, hb, hm, r⟩
    refine ⟨g, cap, cur, rfl, hb, ?_, r⟩
    show (w.heap.setIfInBounds mb _)[g]? = _
    rw [get_setM w mb _ g (fun e => by rw [e, T.map] at hm; cases hm)]; exact hm
set_option maxRecDepth 100000 in
set_option maxHeartbeats 2000000 in
theorem s13_18 (op arg next : Int) (K : Act → World → Prop) (Q : Exit → Act → World → Prop) (T : T13 w tp rp mb ab vb vo a x names base v2 n2 xs) (y50 y51 y52 y53 y54 y55 y56 y57 y58 y59 y60 y61 y62 y63 y64 y65 y66 y67 y68 y48 : Value)
    (hK : ∀ w', T13 w' tp rp mb ab vb vo { a with now := x } x names base v2 n2 xs → Upto (fun z => z.block = ab) w w' → K ⟨#[.pointer (some ⟨tp, 0, none⟩), .pointer (some ⟨vb, vo, none⟩), .int .i8 op, .int .i64 arg, .int .i64 next, undef, undef, undef, undef, undef, .int .i64 0, .int .i64 0, .bool false, .pointer (some ⟨ab, 0, none⟩), undef, undef, y16, y17, y18, y19, y20, y21, y22, y23, y24, y25, y26, y27, y28, y29, y30, y31, y32, y33, y34, y35, y36, y37, y38, y39, y40, y41, y42, y43, y44, y45, y46, .pointer (some ⟨vb, vo, none⟩), y48, .pointer (some ⟨ab, 5, none⟩), y50, y51, y52, y53, y54, y55, y56, y57, y58, y59, y60, y61, y62, y63, y64, y65, y66, y67, y68, .pointer (some ⟨vb, vo, none⟩), .int .i64 x, .pointer (some ⟨ab, 6, none⟩), undef, undef, undef, undef, undef, undef, undef, undef, undef, undef, undef, undef, undef, undef, undef, undef, undef, undef, undef, undef, undef, undef, undef, undef, undef, undef, undef, undef, undef, undef, undef, undef, undef, undef, undef, undef, undef, undef, undef, undef, undef, undef, undef, undef, undef, undef, undef, undef, undef, undef, undef, undef, undef, undef, undef], []⟩ w') :
    c13_18.wp Try.prog (Exit.then K Q) ⟨#[.pointer (some ⟨tp, 0, none⟩), .pointer (some ⟨vb, vo, none⟩), .int .i8 op, .int .i64 arg, .int .i64 next, undef, undef, undef, undef, undef, .int .i64 0, .int .i64 0, .bool false, .pointer (some ⟨ab, 0, none⟩), undef, undef, y16, y17, y18, y19, y20, y21, y22, y23, y24, y25, y26, y27, y28, y29, y30, y31, y32, y33, y34, y35, y36, y37, y38, y39, y40, y41, y42, y43, y44, y45, y46, .pointer (some ⟨vb, vo, none⟩), y48, .pointer (some ⟨ab, 5, none⟩), y50, y51, y52, y53, y54, y55, y56, y57, y58, y59, y60, y61, y62, y63, y64, y65, y66, y67, y68, undef, undef, undef, undef, undef, undef, undef, undef, undef, undef, undef, undef, undef, undef, undef, undef, undef, undef, undef, undef, undef, undef, undef, undef, undef, undef, undef, undef, undef, undef, undef, undef, undef, undef, undef, undef, undef, undef, undef, undef, undef, undef, undef, undef, undef, undef, undef, undef, undef, undef, undef, undef, undef, undef, undef, undef, undef, undef], []⟩ w := by
  have hv := T.val
  have c6 := T.acc.2.2.2.2.2.2.1
  have f6 := T.af 6
  simp only [Nat.zero_add] at c6
  simp only [c13_18, c13_5, Try.f13]
  go_wp2_with (go_at_call 16; refine (aload_calls _ _ _ _ hv).mono ?_; rintro e w' ⟨rfl, rfl⟩)
  exact hK _ (T.setA 6 _ _ (Acc.now_set T.acc x)) (.setCell rfl)
set_option maxRecDepth 100000 in
set_option maxHeartbeats 2000000 in
theorem s13_19 (op arg next : Int) (K : Act → World → Prop) (Q : Exit → Act → World → Prop) (T : T13 w tp rp mb ab vb vo a x names base v2 n2 xs) (y50 y51 y52 y53 y54 y55 y56 y57 y58 y59 y60 y61 y62 y63 y64 y65 y66 y67 y68 y48 y70 : Value) (u : Int) (t : Bool) (hlk : (Instr.lookup 91 (.map (some mb)) (.pointer (some ⟨vb, vo, none⟩)) true).run Try.prog w = .ok (.tuple #[.int .i64 u, .bool t]) w)
    (hK : K ⟨#[.pointer (some ⟨tp, 0, none⟩), .pointer (some ⟨vb, vo, none⟩), .int .i8 op, .int .i64 arg, .int .i64 next, undef, undef, undef, undef, undef, .int .i64 0, .int .i64 0, .bool false, .pointer (some ⟨ab, 0, none⟩), .int .i64 u, .bool t, y16, y17, y18, y19, y20, y21, y22, y23, y24, y25, y26, y27, y28, y29, y30, y31, y32, y33, y34, y35, y36, y37, y38, y39, y40, y41, y42, y43, y44, y45, y46, .pointer (some ⟨vb, vo, none⟩), y48, .pointer (some ⟨ab, 5, none⟩), y50, y51, y52, y53, y54, y55, y56, y57, y58, y59, y60, y61, y62, y63, y64, y65, y66, y67, y68, .pointer (some ⟨vb, vo, none⟩), y70, .pointer (some ⟨ab, 6, none⟩), .tuple #[.int .i64 u, .bool t], .pointer (some ⟨tp, 0, none⟩), .pointer (some ⟨tp, 0, none⟩), .pointer (some ⟨tp, 0, none⟩), .pointer (some ⟨rp, 0, none⟩), .pointer (some ⟨rp, 0, none⟩), .pointer (some ⟨rp, 1, none⟩), .map (some mb), .pointer (some ⟨vb, vo, none⟩), .tuple #[.int .i64 u, .bool t], .int .i64 u, .bool t, undef, undef, undef, undef, undef, undef, undef, undef, undef, undef, undef, undef, undef, undef, undef, undef, undef, undef, undef, undef, undef, undef, undef, undef, undef, undef, undef, undef, undef, undef, undef, undef, undef, undef, undef, undef, undef, undef, undef, undef, undef, undef, undef], []⟩ w) :
    c13_19.wp Try.prog (Exit.then K Q) ⟨#[.pointer (some ⟨tp, 0, none⟩), .pointer (some ⟨vb, vo, none⟩), .int .i8 op, .int .i64 arg, .int .i64 next, undef, undef, undef, undef, undef, .int .i64 0, .int .i64 0, .bool false, .pointer (some ⟨ab, 0, none⟩), undef, undef, y16, y17, y18, y19, y20, y21, y22, y23, y24, y25, y26, y27, y28, y29, y30, y31, y32, y33, y34, y35, y36, y37, y38, y39, y40, y41, y42, y43, y44, y45, y46, .pointer (some ⟨vb, vo, none⟩), y48, .pointer (some ⟨ab, 5, none⟩), y50, y51, y52, y53, y54, y55, y56, y57, y58, y59, y60, y61, y62, y63, y64, y65, y66, y67, y68, .pointer (some ⟨vb, vo, none⟩), y70, .pointer (some ⟨ab, 6, none⟩), undef, undef, undef, undef, undef, undef, undef, undef, undef, undef, undef, undef, undef, undef, undef, undef, undef, undef, undef, undef, undef, undef, undef, undef, undef, undef, undef, undef, undef, undef, undef, undef, undef, undef, undef, undef, undef, undef, undef, undef, undef, undef, undef, undef, undef, undef, undef, undef, undef, undef, undef, undef, undef, undef, undef], []⟩ w := by
  have t0 := T.t0
  have r1 := T.r1
  simp only [c13_19, c13_5, Try.f13]
  go_wp2
  exact hK
set_option maxRecDepth 100000 in
set_option maxHeartbeats 2000000 in
theorem s13_mt (op arg next : Int) (K : Act → World → Prop) (Q : Exit → Act → World → Prop) (T : T13 w tp rp mb ab vb vo a x names base v2 n2 xs) (y50 y51 y52 y53 y54 y55 y56 y57 y58 y59 y60 y61 y62 y63 y64 y65 y66 y67 y68 y72 y73 y74 y75 y76 y77 y78 y79 y80 y81 y82 y83 y48 y70 : Value) (u : Int)
    (hK : ∀ y15 y84 y85 y86 y87 y88 y89 y90 y91 y92 y93 y94 y95 y96 y97 y98 y99 y100 y101 y102, K ⟨#[.pointer (some ⟨tp, 0, none⟩), .pointer (some ⟨vb, vo, none⟩), .int .i8 op, .int .i64 arg, .int .i64 next, undef, undef, undef, undef, undef, .int .i64 0, .int .i64 0, .bool false, .pointer (some ⟨ab, 0, none⟩), .int .i64 u, y15, y16, y17, y18, y19, y20, y21, y22, y23, y24, y25, y26, y27, y28, y29, y30, y31, y32, y33, y34, y35, y36, y37, y38, y39, y40, y41, y42, y43, y44, y45, y46, .pointer (some ⟨vb, vo, none⟩), y48, .pointer (some ⟨ab, 5, none⟩), y50, y51, y52, y53, y54, y55, y56, y57, y58, y59, y60, y61, y62, y63, y64, y65, y66, y67, y68, .pointer (some ⟨vb, vo, none⟩), y70, .pointer (some ⟨ab, 6, none⟩), y72, y73, y74, y75, y76, y77, y78, y79, y80, y81, y82, y83, y84, y85, y86, y87, y88, y89, y90, y91, y92, y93, y94, y95, y96, y97, y98, y99, y100, y101, y102, undef, undef, undef, undef, undef, undef, undef, undef, undef, undef, undef, undef, undef, undef, undef, undef, undef, undef, undef, undef, undef, undef, undef, undef], []⟩ w) :
    c13_m.wp Try.prog (Exit.then K Q) ⟨#[.pointer (some ⟨tp, 0, none⟩), .pointer (some ⟨vb, vo, none⟩), .int .i8 op, .int .i64 arg, .int .i64 next, undef, undef, undef, undef, undef, .int .i64 0, .int .i64 0, .bool false, .pointer (some ⟨ab, 0, none⟩), .int .i64 u, .bool true, y16, y17, y18, y19, y20, y21, y22, y23, y24, y25, y26, y27, y28, y29, y30, y31, y32, y33, y34, y35, y36, y37, y38, y39, y40, y41, y42, y43, y44, y45, y46, .pointer (some ⟨vb, vo, none⟩), y48, .pointer (some ⟨ab, 5, none⟩), y50, y51, y52, y53, y54, y55, y56, y57, y58, y59, y60, y61, y62, y63, y64, y65, y66, y67, y68, .pointer (some ⟨vb, vo, none⟩), y70, .pointer (some ⟨ab, 6, none⟩), y72, y73, y74, y75, y76, y77, y78, y79, y80, y81, y82, y83, undef, undef, undef, undef, undef, undef, undef, undef, undef, undef, undef, undef, undef, undef, undef, undef, undef, undef, undef, undef, undef, undef, undef, undef, undef, undef, undef, undef, undef, undef, undef, undef, undef, undef, undef, undef, undef, undef, undef, undef, undef, undef, undef], []⟩ w := by
  simp only [c13_m, c13_5, Try.f13]
  go_wp2
  exact hK _ _ _ _ _ _ _ _ _ _ _ _ _ _ _ _ _ _ _ _
set_option maxRecDepth 100000 in
set_option maxHeartbeats 2000000 in
theorem s13_mf (op arg next : Int) (K : Act → World → Prop) (Q : Exit → Act → World → Prop) (T : T13 w tp rp mb ab vb vo a x names base v2 n2 xs) (y50 y51 y52 y53 y54 y55 y56 y57 y58 y59 y60 y61 y62 y63 y64 y65 y66 y67 y68 y72 y73 y74 y75 y76 y77 y78 y79 y80 y81 y82 y83 y48 y70 : Value) (u : Int) (hnot : (⟨vb, vo, none⟩ : Addr) ∉ names)
    (hK : ∀ y15 y84 y85 y86 y87 y88 y89 y90 y91 y92 y93 y94 y95 y96 y97 y98 y99 y100 y101 y102 w', T13 w' tp rp mb ab vb vo a x (names ++ [⟨vb, vo, none⟩]) base v2 n2 xs → Upto (fun z => z.block = mb) w w' → K ⟨#[.pointer (some ⟨tp, 0, none⟩), .pointer (some ⟨vb, vo, none⟩), .int .i8 op, .int .i64 arg, .int .i64 next, undef, undef, undef, undef, undef, .int .i64 0, .int .i64 0, .bool false, .pointer (some ⟨ab, 0, none⟩), .int .i64 (names.length : Int), y15, y16, y17, y18, y19, y20, y21, y22, y23, y24, y25, y26, y27, y28, y29, y30, y31, y32, y33, y34, y35, y36, y37, y38, y39, y40, y41, y42, y43, y44, y45, y46, .pointer (some ⟨vb, vo, none⟩), y48, .pointer (some ⟨ab, 5, none⟩), y50, y51, y52, y53, y54, y55, y56, y57, y58, y59, y60, y61, y62, y63, y64, y65, y66, y67, y68, .pointer (some ⟨vb, vo, none⟩), y70, .pointer (some ⟨ab, 6, none⟩), y72, y73, y74, y75, y76, y77, y78, y79, y80, y81, y82, y83, y84, y85, y86, y87, y88, y89, y90, y91, y92, y93, y94, y95, y96, y97, y98, y99, y100, y101, y102, undef, undef, undef, undef, undef, undef, undef, undef, undef, undef, undef, undef, undef, undef, undef, undef, undef, undef, undef, undef, undef, undef, undef, undef], []⟩ w') :
    c13_m.wp Try.prog (Exit.then K Q) ⟨#[.pointer (some ⟨tp, 0, none⟩), .pointer (some ⟨vb, vo, none⟩), .int .i8 op, .int .i64 arg, .int .i64 next, undef, undef, undef, undef, undef, .int .i64 0, .int .i64 0, .bool false, .pointer (some ⟨ab, 0, none⟩), .int .i64 u, .bool false, y16, y17, y18, y19, y20, y21, y22, y23, y24, y25, y26, y27, y28, y29, y30, y31, y32, y33, y34, y35, y36, y37, y38, y39, y40, y41, y42, y43, y44, y45, y46, .pointer (some ⟨vb, vo, none⟩), y48, .pointer (some ⟨ab, 5, none⟩), y50, y51, y52, y53, y54, y55, y56, y57, y58, y59, y60, y61, y62, y63, y64, y65, y66, y67, y68, .pointer (some ⟨vb, vo, none⟩), y70, .pointer (some ⟨ab, 6, none⟩), y72, y73, y74, y75, y76, y77, y78, y79, y80, y81, y82, y83, undef, undef, undef, undef, undef, undef, undef, undef, undef, undef, undef, undef, undef, undef, undef, undef, undef, undef, undef, undef, undef, undef, undef, undef, undef, undef, undef, undef, undef, undef, undef, undef, undef, undef, undef, undef, undef, undef, undef, undef, undef, undef, undef], []⟩ w := by
  have t0 := T.t0
  have r1 := T.r1
  have hln := fun ty => run_len91 w mb names names.length ty T.map
  have hmu := run_mapUpdate91 w mb ⟨vb, vo, none⟩ names T.map T.freeV T.freeN hnot
  have hT : T13 { w with heap := w.heap.setIfInBounds mb (.map (ents (names ++ [⟨vb, vo, none⟩])) (names.length + 1)) } tp rp mb ab vb vo a x (names ++ [⟨vb, vo, none⟩]) base v2 n2 xs := T.setM _
  have hU : Upto (fun z => z.block = mb) w { w with heap := w.heap.setIfInBounds mb (.map (ents (names ++ [⟨vb, vo, none⟩])) (names.length + 1)) } := upto_map _ _ _
  simp only [c13_m, c13_5, Try.f13]
  go_wp2
  exact hK _ _ _ _ _ _ _ _ _ _ _ _ _ _ _ _ _ _ _ _ _ hT hU
end Go.Proofs.Ytkbfbphbdljaaaa

/- gate's Step behind where the thread stands (lone), its last third. Every premise stands in the statements. -/
set_option linter.unusedVariables false
set_option linter.unusedSimpArgs false
namespace Go.Proofs.Ytkbfbphbdljaaaa
open Go.Tre Go.RowKit
variable {y16 y17 y18 y19 y20 y21 y22 y23 y24 y25 y26 y27 y28 y29 y30 y31 y32 y33 y34 y35 y36 y37 y38 y39 y40 y41 y42 y43 y44 y45 y46 : Value}
variable {tp rp mb ab vb vo : Nat} {a : Acc} {x : Int} {names : List Addr} {base : Nat} {v2 : Value} {n2 : Nat} {xs : List Value} {w : World}
theorem info61 : ∃ i, Try.prog.info? 61 = some i ∧ i.zero = some (.agg (Acc.mk 0 0 0 0 0 0 0 false).vals) ∧ i.size = 8 ∧ i.bytes = 64 := by
  have h : (Try.prog.info? 61).map (fun i => (i.zero, i.size, i.bytes)) = some (some (.agg (Acc.mk 0 0 0 0 0 0 0 false).vals), 8, 64) := by kernel_rfl
  cases e : Try.prog.info? 61 with
  | none => rw [e] at h; cases h
  | some i => rw [e] at h; simp at h; exact ⟨i, rfl, h.1, h.2.1, h.2.2⟩
theorem row_cells (w : World) (c : Array Value) (t : TypeId) : ∀ j u, c.toList[j]? = some u → (w.alloc (.cells c t)).cell? ((⟨w.heap.size, 0, none⟩ : Addr).add j) = some u := by
  intro j u h
  have hl : (w.alloc (.cells c t)).heap[w.heap.size]? = some (.cells c t) := by rw [get_a, if_pos rfl]
  obtain ⟨hj, rfl⟩ := List.getElem?_eq_some_iff.1 h
  have hj' : j < c.size := by simpa using hj
  have := cell_of_cells hl hj'
  unfold Addr.add
  split
  · rename_i h0; subst h0; simp
  · simp
set_option maxRecDepth 100000 in
set_option maxHeartbeats 2000000 in
theorem s13_23 (op arg next : Int) (K : Act → World → Prop) (Q : Exit → Act → World → Prop) (T : T13 w tp rp mb ab vb vo a x names base v2 n2 xs) (y15 y48 y50 y51 y52 y53 y54 y55 y56 y57 y58 y59 y60 y61 y62 y63 y64 y65 y66 y67 y68 y70 y72 y73 y74 y75 y76 y77 y78 y79 y80 y81 y82 y83 y84 y85 y86 y87 y88 y89 y90 y91 y92 y93 y94 y95 y96 y97 y98 y99 y100 y101 y102 : Value) (k : Int)
    (hK : ∀ w', T13 w' tp rp mb ab vb vo { a with cell := k } x names base v2 n2 xs → Upto (fun z => z.block = ab) w w' → K ⟨#[.pointer (some ⟨tp, 0, none⟩), .pointer (some ⟨vb, vo, none⟩), .int .i8 op, .int .i64 arg, .int .i64 next, undef, undef, undef, undef, undef, .int .i64 0, .int .i64 0, .bool false, .pointer (some ⟨ab, 0, none⟩), .int .i64 k, y15, y16, y17, y18, y19, y20, y21, y22, y23, y24, y25, y26, y27, y28, y29, y30, y31, y32, y33, y34, y35, y36, y37, y38, y39, y40, y41, y42, y43, y44, y45, y46, .pointer (some ⟨vb, vo, none⟩), y48, .pointer (some ⟨ab, 5, none⟩), y50, y51, y52, y53, y54, y55, y56, y57, y58, y59, y60, y61, y62, y63, y64, y65, y66, y67, y68, .pointer (some ⟨vb, vo, none⟩), y70, .pointer (some ⟨ab, 6, none⟩), y72, y73, y74, y75, y76, y77, y78, y79, y80, y81, y82, y83, y84, y85, y86, y87, y88, y89, y90, y91, y92, y93, y94, y95, y96, y97, y98, y99, y100, y101, y102, .int .i64 k, .pointer (some ⟨ab, 2, none⟩), undef, undef, undef, undef, undef, undef, undef, undef, undef, undef, undef, undef, undef, undef, undef, undef, undef, undef, undef, undef, undef, undef], []⟩ w') :
    c13_23.wp Try.prog (Exit.then K Q) ⟨#[.pointer (some ⟨tp, 0, none⟩), .pointer (some ⟨vb, vo, none⟩), .int .i8 op, .int .i64 arg, .int .i64 next, undef, undef, undef, undef, undef, .int .i64 0, .int .i64 0, .bool false, .pointer (some ⟨ab, 0, none⟩), .int .i64 k, y15, y16, y17, y18, y19, y20, y21, y22, y23, y24, y25, y26, y27, y28, y29, y30, y31, y32, y33, y34, y35, y36, y37, y38, y39, y40, y41, y42, y43, y44, y45, y46, .pointer (some ⟨vb, vo, none⟩), y48, .pointer (some ⟨ab, 5, none⟩), y50, y51, y52, y53, y54, y55, y56, y57, y58, y59, y60, y61, y62, y63, y64, y65, y66, y67, y68, .pointer (some ⟨vb, vo, none⟩), y70, .pointer (some ⟨ab, 6, none⟩), y72, y73, y74, y75, y76, y77, y78, y79, y80, y81, y82, y83, y84, y85, y86, y87, y88, y89, y90, y91, y92, y93, y94, y95, y96, y97, y98, y99, y100, y101, y102, undef, undef, undef, undef, undef, undef, undef, undef, undef, undef, undef, undef, undef, undef, undef, undef, undef, undef, undef, undef, undef, undef, undef, undef], []⟩ w := by
  have c2 := T.acc.2.2.1
  have f2 := T.af 2
  simp only [Nat.zero_add] at c2
  simp only [c13_23, c13_5, Try.f13]
  go_wp2
  exact hK _ (T.setA 2 _ _ (Acc.cell_set T.acc k)) (.setCell rfl)
end Go.Proofs.Ytkbfbphbdljaaaa

/- gate's Step: the log takes the access (lone). Every premise stands in the statements. -/
set_option linter.unusedVariables false
set_option linter.unusedSimpArgs false
namespace Go.Proofs.Ytkbfbphbdljaaaa
open Go.Tre Go.RowKit
variable {y16 y17 y18 y19 y20 y21 y22 y23 y24 y25 y26 y27 y28 y29 y30 y31 y32 y33 y34 y35 y36 y37 y38 y39 y40 y41 y42 y43 y44 y45 y46 : Value}
variable {tp rp mb ab vb vo : Nat} {a : Acc} {x : Int} {names : List Addr} {base : Nat} {v2 : Value} {n2 : Nat} {xs : List Value} {w : World}
set_option maxRecDepth 100000 in
set_option maxHeartbeats 2000000 in
theorem s13_24 (op arg next n : Int) (K : Act → World → Prop) (Q : Exit → Act → World → Prop) (T : T13 w tp rp mb ab vb vo a x names base v2 n2 xs) (y14 y15 y48 y50 y51 y52 y53 y54 y55 y56 y57 y58 y59 y60 y61 y62 y63 y64 y65 y66 y67 y68 y70 y72 y73 y74 y75 y76 y77 y78 y79 y80 y81 y82 y83 y84 y85 y86 y87 y88 y89 y90 y91 y92 y93 y94 y95 y96 y97 y98 y99 y100 y101 y102 y103 y104 : Value) (hn2 : n2 < 1099511627776)
    (hK : ∀ sb sm sk w', w'.ownsRow base 61 8 (.slice sb sm sk) (n2 + 1) (xs ++ a.vals.toList) → ((w.alloc (.cells a.vals 61)).drew).grownBy w' v2.ownBlock → (∀ g, (Value.slice sb sm sk).ownBlock = some g → v2.ownBlock = some g ∨ ((w.alloc (.cells a.vals 61)).drew).heap.size ≤ g) → K ⟨#[.pointer (some ⟨tp, 0, none⟩), .pointer (some ⟨vb, vo, none⟩), .int .i8 op, .int .i64 arg, .int .i64 next, undef, undef, undef, undef, undef, .int .i64 0, .int .i64 0, .bool false, .pointer (some ⟨ab, 0, none⟩), y14, y15, y16, y17, y18, y19, y20, y21, y22, y23, y24, y25, y26, y27, y28, y29, y30, y31, y32, y33, y34, y35, y36, y37, y38, y39, y40, y41, y42, y43, y44, y45, y46, .pointer (some ⟨vb, vo, none⟩), y48, .pointer (some ⟨ab, 5, none⟩), y50, y51, y52, y53, y54, y55, y56, y57, y58, y59, y60, y61, y62, y63, y64, y65, y66, y67, y68, .pointer (some ⟨vb, vo, none⟩), y70, .pointer (some ⟨ab, 6, none⟩), y72, y73, y74, y75, y76, y77, y78, y79, y80, y81, y82, y83, y84, y85, y86, y87, y88, y89, y90, y91, y92, y93, y94, y95, y96, y97, y98, y99, y100, y101, y102, y103, y104, .pointer (some ⟨tp, 0, none⟩), .pointer (some ⟨tp, 0, none⟩), .pointer (some ⟨tp, 0, none⟩), .pointer (some ⟨rp, 0, none⟩), .pointer (some ⟨tp, 0, none⟩), .pointer (some ⟨tp, 0, none⟩), .pointer (some ⟨tp, 0, none⟩), .pointer (some ⟨rp, 0, none⟩), .pointer (some ⟨rp, 0, none⟩), .pointer (some ⟨rp, 2, none⟩), v2, .agg a.vals, .slice (some ⟨w.heap.size, 0, none⟩) 1 1, .slice sb sm sk, .pointer (some ⟨rp, 0, none⟩), .pointer (some ⟨rp, 2, none⟩), undef, undef, undef, undef, undef, undef], []⟩ (w'.setCell ⟨rp, 2, none⟩ (.slice sb sm sk))) :
    c13_24.wp Try.prog (fun e a w => match e with | .normal => K a w | _ => False) ⟨#[.pointer (some ⟨tp, 0, none⟩), .pointer (some ⟨vb, vo, none⟩), .int .i8 op, .int .i64 arg, .int .i64 next, undef, undef, undef, undef, undef, .int .i64 0, .int .i64 0, .bool false, .pointer (some ⟨ab, 0, none⟩), y14, y15, y16, y17, y18, y19, y20, y21, y22, y23, y24, y25, y26, y27, y28, y29, y30, y31, y32, y33, y34, y35, y36, y37, y38, y39, y40, y41, y42, y43, y44, y45, y46, .pointer (some ⟨vb, vo, none⟩), y48, .pointer (some ⟨ab, 5, none⟩), y50, y51, y52, y53, y54, y55, y56, y57, y58, y59, y60, y61, y62, y63, y64, y65, y66, y67, y68, .pointer (some ⟨vb, vo, none⟩), y70, .pointer (some ⟨ab, 6, none⟩), y72, y73, y74, y75, y76, y77, y78, y79, y80, y81, y82, y83, y84, y85, y86, y87, y88, y89, y90, y91, y92, y93, y94, y95, y96, y97, y98, y99, y100, y101, y102, y103, y104, undef, undef, undef, undef, undef, undef, undef, undef, undef, undef, undef, undef, undef, undef, undef, undef, undef, undef, undef, undef, undef, undef], []⟩ w := by
  have t0 := T.t0
  have r2 := T.r2
  have rf := T.rf
  have l1 := World.block_lt_of_cell? w _ t0
  have l2 := World.block_lt_of_cell? w _ r2
  obtain ⟨a0, a1, a2, a3, a4, a5, a6, a7⟩ := T.acc
  have l3 := World.block_lt_of_cell? w _ a0
  simp only [Nat.zero_add] at a0 a1 a2 a3 a4 a5 a6 a7
  obtain ⟨i61, hi61, z61, s61, b61⟩ := info61
  simp only at l1 l2 l3
  have hown := T.own
  have hsz := T.size
  obtain ⟨m1, m2, m3, m4⟩ := T.nv
  simp only [c13_24, c13_5, Try.f13]
  obtain ⟨sa, sl, sc, rfl⟩ := own_shape hown
  clear T
  go_region_law (refine step_append_row rfl (.tmp 115) (.tmp 117) 36 rfl 61 i61 (.agg (Acc.mk 0 0 0 0 0 0 0 false).vals) 8 64 Try.underlying36 hi61 z61 s61 b61 rfl (by decide) base _ n2 xs (by simp [Act.eval, Act.put]; rfl) (by first | exact hown | exact hown.drew | exact hown.alloc _ | exact hown.drew.alloc _ | exact (hown.alloc _).drew) _ 1 1 a.vals.toList (by simp [Act.eval, Act.put]; rfl) rfl (by first | exact row_cells _ _ _) (by simp [Acc.vals, Value.oneCell']) (by simp only [maxLen]; omega) (by omega) (by simp only [size_a, size_d, size_s]; omega) ?_; intro v' w' r1 r2 r3; obtain ⟨sb, sm, sk, rfl⟩ := own_shape r1; obtain ⟨k1, k2⟩ := grown_two r2 m2 ‹_› rf; have k0 := grown_one r2 m1 t0)
  all_goals (refine hK _ _ _ _ ?_ ?_ ?_ <;> assumption)
end Go.Proofs.Ytkbfbphbdljaaaa

/- gate's Step: its answer (lone). Every premise stands in the statements. -/
set_option linter.unusedVariables false
set_option linter.unusedSimpArgs false
namespace Go.Proofs.Ytkbfbphbdljaaaa
open Go.Tre Go.RowKit
variable {y16 y17 y18 y19 y20 y21 y22 y23 y24 y25 y26 y27 y28 y29 y30 y31 y32 y33 y34 y35 y36 y37 y38 y39 y40 y41 y42 y43 y44 y45 y46 : Value}
variable {tp rp mb ab vb vo : Nat} {a : Acc} {x : Int} {names : List Addr} {base : Nat} {v2 : Value} {n2 : Nat} {xs : List Value} {w : World}
set_option maxRecDepth 100000 in
set_option maxHeartbeats 2000000 in
theorem s13_25 (op arg next : Int) (R : Go.Ending → World → Prop) (y14 y15 y48 y50 y51 y52 y53 y54 y55 y56 y57 y58 y59 y60 y61 y62 y63 y64 y65 y66 y67 y68 y70 y72 y73 y74 y75 y76 y77 y78 y79 y80 y81 y82 y83 y84 y85 y86 y87 y88 y89 y90 y91 y92 y93 y94 y95 y96 y97 y98 y99 y100 y101 y102 y103 y104 y105 y106 y107 y108 y109 y110 y111 y112 y113 y114 y115 y116 y117 y118 y119 y120 : Value) (ha : a.at w ab 0)
    (hR : ∀ w', w'.heap = w.heap → R (.returned (.tuple #[.int .i64 a.was, .int .i64 a.now, .bool a.ok])) w') :
    c13_25.wp Try.prog (bodyPost Try.prog Try.f13 R) ⟨#[.pointer (some ⟨tp, 0, none⟩), .pointer (some ⟨vb, vo, none⟩), .int .i8 op, .int .i64 arg, .int .i64 next, undef, undef, undef, undef, undef, .int .i64 0, .int .i64 0, .bool false, .pointer (some ⟨ab, 0, none⟩), y14, y15, y16, y17, y18, y19, y20, y21, y22, y23, y24, y25, y26, y27, y28, y29, y30, y31, y32, y33, y34, y35, y36, y37, y38, y39, y40, y41, y42, y43, y44, y45, y46, .pointer (some ⟨vb, vo, none⟩), y48, .pointer (some ⟨ab, 5, none⟩), y50, y51, y52, y53, y54, y55, y56, y57, y58, y59, y60, y61, y62, y63, y64, y65, y66, y67, y68, .pointer (some ⟨vb, vo, none⟩), y70, .pointer (some ⟨ab, 6, none⟩), y72, y73, y74, y75, y76, y77, y78, y79, y80, y81, y82, y83, y84, y85, y86, y87, y88, y89, y90, y91, y92, y93, y94, y95, y96, y97, y98, y99, y100, y101, y102, y103, y104, y105, y106, y107, y108, y109, y110, y111, y112, y113, y114, y115, y116, y117, y118, y119, y120, undef, undef, undef, undef, undef, undef], []⟩ w := by
  obtain ⟨a0, a1, a2, a3, a4, a5, a6, a7⟩ := ha
  simp only [Nat.zero_add] at a5 a6 a7
  clear a0 a1 a2 a3 a4
  simp only [c13_25, c13_5, Try.f13]
  go_wp2
  go_region
  go_wp2
  go_ret3
  exact hR _ rfl
end Go.Proofs.Ytkbfbphbdljaaaa

/- gate's Step behind where the thread stands, whole (lone). Every premise stands in the statements. -/
set_option linter.unusedVariables false
set_option linter.unusedSimpArgs false
namespace Go.Proofs.Ytkbfbphbdljaaaa
open Go.Tre Go.RowKit
variable {y16 y17 y18 y19 y20 y21 y22 y23 y24 y25 y26 y27 y28 y29 y30 y31 y32 y33 y34 y35 y36 y37 y38 y39 y40 y41 y42 y43 y44 y45 y46 : Value}
variable {tp rp mb ab vb vo : Nat} {a : Acc} {x : Int} {names : List Addr} {base : Nat} {v2 : Value} {n2 : Nat} {xs : List Value} {w : World}
set_option maxRecDepth 100000 in
set_option maxHeartbeats 2000000 in
theorem s13_sw (op arg next : Int) (K : Act → World → Prop) (Q : Exit → Act → World → Prop) (T : T13 w tp rp mb ab vb vo a x names base v2 n2 xs) (h1 : 1 ≤ op) (h6 : op ≤ 6) (hok : a.ok = false)
    (hK : ∀ y50 y51 y52 y53 y54 y55 y56 y57 y58 y59 y60 y61 y62 y63 y64 y65 y66 y67 y68 w', T13 w' tp rp mb ab vb vo { a with ok := (behind op x arg next).2 } (behind op x arg next).1 names base v2 n2 xs → Upto (fun z => z.block = ab ∨ z = ⟨vb, vo, none⟩) w w' → K ⟨#[.pointer (some ⟨tp, 0, none⟩), .pointer (some ⟨vb, vo, none⟩), .int .i8 op, .int .i64 arg, .int .i64 next, undef, undef, undef, undef, undef, .int .i64 0, .int .i64 0, .bool false, .pointer (some ⟨ab, 0, none⟩), undef, undef, y16, y17, y18, y19, y20, y21, y22, y23, y24, y25, y26, y27, y28, y29, y30, y31, y32, y33, y34, y35, y36, y37, y38, y39, y40, y41, y42, y43, y44, y45, y46, .pointer (some ⟨vb, vo, none⟩), .int .i64 x, .pointer (some ⟨ab, 5, none⟩), y50, y51, y52, y53, y54, y55, y56, y57, y58, y59, y60, y61, y62, y63, y64, y65, y66, y67, y68, undef, undef, undef, undef, undef, undef, undef, undef, undef, undef, undef, undef, undef, undef, undef, undef, undef, undef, undef, undef, undef, undef, undef, undef, undef, undef, undef, undef, undef, undef, undef, undef, undef, undef, undef, undef, undef, undef, undef, undef, undef, undef, undef, undef, undef, undef, undef, undef, undef, undef, undef, undef, undef, undef, undef, undef, undef, undef], []⟩ w') :
    c13_sw.wp Try.prog (Exit.then K Q) ⟨#[.pointer (some ⟨tp, 0, none⟩), .pointer (some ⟨vb, vo, none⟩), .int .i8 op, .int .i64 arg, .int .i64 next, undef, undef, undef, undef, undef, .int .i64 0, .int .i64 0, .bool false, .pointer (some ⟨ab, 0, none⟩), undef, undef, y16, y17, y18, y19, y20, y21, y22, y23, y24, y25, y26, y27, y28, y29, y30, y31, y32, y33, y34, y35, y36, y37, y38, y39, y40, y41, y42, y43, y44, y45, y46, .pointer (some ⟨vb, vo, none⟩), .int .i64 x, .pointer (some ⟨ab, 5, none⟩), undef, undef, undef, undef, undef, undef, undef, undef, undef, undef, undef, undef, undef, undef, undef, undef, undef, undef, undef, undef, undef, undef, undef, undef, undef, undef, undef, undef, undef, undef, undef, undef, undef, undef, undef, undef, undef, undef, undef, undef, undef, undef, undef, undef, undef, undef, undef, undef, undef, undef, undef, undef, undef, undef, undef, undef, undef, undef, undef, undef, undef, undef, undef, undef, undef, undef, undef, undef, undef, undef, undef, undef, undef, undef, undef, undef, undef], []⟩ w := by
  have hcase : op = 1 ∨ op = 2 ∨ op = 3 ∨ op = 4 ∨ op = 5 ∨ op = 6 := by omega
  have e0 : ({ a with ok := false } : Acc) = a := by cases a; cases hok; rfl
  rcases hcase with rfl | rfl | rfl | rfl | rfl | rfl
  · exact s13_sw1 _ _ _ _ T (fun y50 y51 y52 y53 y54 y55 y56 y57 y58 y59 y60 y61 y62 y63 y64 y65 y66 y67 y68 w' T' U => hK y50 y51 y52 y53 y54 y55 y56 y57 y58 y59 y60 y61 y62 y63 y64 y65 y66 y67 y68 w' (by rw [show behind 1 x arg next = (x, false) from rfl]; simp only [e0]; exact T') U)
  · exact s13_sw2 _ _ _ _ T (fun y50 y51 y52 y53 y54 y55 y56 y57 y58 y59 y60 y61 y62 y63 y64 y65 y66 y67 y68 w' T' U => hK y50 y51 y52 y53 y54 y55 y56 y57 y58 y59 y60 y61 y62 y63 y64 y65 y66 y67 y68 w' (by rw [show behind 2 x arg next = (arg, false) from rfl]; simp only [e0]; exact T') U)
  · by_cases hx : x = arg
    · subst hx
      exact s13_sw3h _ _ _ _ T (fun y50 y51 y52 y53 y54 y55 y56 y57 y58 y59 y60 y61 y62 y63 y64 y65 y66 y67 y68 w' T' U => hK y50 y51 y52 y53 y54 y55 y56 y57 y58 y59 y60 y61 y62 y63 y64 y65 y66 y67 y68 w' (by rw [show behind 3 x x next = (next, true) from by simp [behind]]; exact T') U)
    · exact s13_sw3m _ _ _ _ T hx (fun y50 y51 y52 y53 y54 y55 y56 y57 y58 y59 y60 y61 y62 y63 y64 y65 y66 y67 y68 w' T' U => hK y50 y51 y52 y53 y54 y55 y56 y57 y58 y59 y60 y61 y62 y63 y64 y65 y66 y67 y68 w' (by rw [show behind 3 x arg next = (x, false) from by simp [behind, hx]]; exact T') U)
  · exact s13_sw4 _ _ _ _ T (fun y50 y51 y52 y53 y54 y55 y56 y57 y58 y59 y60 y61 y62 y63 y64 y65 y66 y67 y68 w' T' U => hK y50 y51 y52 y53 y54 y55 y56 y57 y58 y59 y60 y61 y62 y63 y64 y65 y66 y67 y68 w' (by rw [show behind 4 x arg next = (wrap64 (x + arg), false) from rfl]; simp only [e0]; exact T') U)
  · exact s13_sw5 _ _ _ _ T (fun y50 y51 y52 y53 y54 y55 y56 y57 y58 y59 y60 y61 y62 y63 y64 y65 y66 y67 y68 w' T' U => hK y50 y51 y52 y53 y54 y55 y56 y57 y58 y59 y60 y61 y62 y63 y64 y65 y66 y67 y68 w' (by rw [show behind 5 x arg next = (arg, false) from rfl]; simp only [e0]; exact T') U)
  · exact s13_sw6 _ _ _ _ T (fun y50 y51 y52 y53 y54 y55 y56 y57 y58 y59 y60 y61 y62 y63 y64 y65 y66 y67 y68 w' T' U => hK y50 y51 y52 y53 y54 y55 y56 y57 y58 y59 y60 y61 y62 y63 y64 y65 y66 y67 y68 w' (by rw [show behind 6 x arg next = (x, false) from rfl]; simp only [e0]; exact T') U)
set_option maxRecDepth 100000 in
set_option maxHeartbeats 2000000 in
/-- What Step has done to memory when it returns. -/
structure P13 (w w' : World) (rp mb ab vb vo : Nat) (a : Acc) (names : List Addr) (base : Nat) (v2 : Value) (n2 : Nat) (xs : List Value) : Prop where
  u : Upto (fun z => z = ⟨vb, vo, none⟩ ∨ z.block = mb ∨ z = ⟨rp, 2, none⟩ ∨ some z.block = v2.ownBlock ∨ z.block = ab) w w'
  val : w'.cell? ⟨vb, vo, none⟩ = some (.int .i64 a.now)
  map : w'.heap[mb]? = some (.map (ents names) names.length)
  row : ∃ v2', w'.cell? ⟨rp, 2, none⟩ = some v2' ∧ w'.ownsRow base 61 8 v2' (n2 + 1) (xs ++ a.vals.toList) ∧ ∀ g, v2'.ownBlock = some g → v2.ownBlock = some g ∨ w.heap.size ≤ g
theorem s13_tail (op arg next : Int) (R : Go.Ending → World → Prop) (T : T13 w tp rp mb ab vb vo a x names base v2 n2 xs) (h1 : 1 ≤ op) (h6 : op ≤ 6) (hok : a.ok = false) (hn2 : n2 < 1099511627776)
    (hR : ∀ w', P13 w w' rp mb ab vb vo { a with was := x, now := (behind op x arg next).1, ok := (behind op x arg next).2, cell := (names.idxOf (⟨vb, vo, none⟩ : Addr) : Int) } (if (⟨vb, vo, none⟩ : Addr) ∈ names then names else names ++ [⟨vb, vo, none⟩]) base v2 n2 xs →
      R (.returned (.tuple #[.int .i64 x, .int .i64 (behind op x arg next).1, .bool (behind op x arg next).2])) w') :
    c13_5.wp Try.prog (bodyPost Try.prog Try.f13 R) ⟨#[.pointer (some ⟨tp, 0, none⟩), .pointer (some ⟨vb, vo, none⟩), .int .i8 op, .int .i64 arg, .int .i64 next, undef, undef, undef, undef, undef, .int .i64 0, .int .i64 0, .bool false, .pointer (some ⟨ab, 0, none⟩), undef, undef, y16, y17, y18, y19, y20, y21, y22, y23, y24, y25, y26, y27, y28, y29, y30, y31, y32, y33, y34, y35, y36, y37, y38, y39, y40, y41, y42, y43, y44, y45, y46, undef, undef, undef, undef, undef, undef, undef, undef, undef, undef, undef, undef, undef, undef, undef, undef, undef, undef, undef, undef, undef, undef, undef, undef, undef, undef, undef, undef, undef, undef, undef, undef, undef, undef, undef, undef, undef, undef, undef, undef, undef, undef, undef, undef, undef, undef, undef, undef, undef, undef, undef, undef, undef, undef, undef, undef, undef, undef, undef, undef, undef, undef, undef, undef, undef, undef, undef, undef, undef, undef, undef, undef, undef, undef, undef, undef, undef, undef, undef, undef], []⟩ w := by
  rw [c13_5_eq]
  refine wp_seq (s13_9 _ _ _ _ _ T (fun w1 T1 U1 => ?_))
  refine wp_seq (s13_sw _ _ _ _ _ T1 h1 h6 hok (fun y50 y51 y52 y53 y54 y55 y56 y57 y58 y59 y60 y61 y62 y63 y64 y65 y66 y67 y68 w2 T2 U2 => ?_))
  refine wp_seq (s13_18 _ _ _ _ _ T2 _ _ _ _ _ _ _ _ _ _ _ _ _ _ _ _ _ _ _ _ (fun w3 T3 U3 => ?_))
  generalize hnow : (behind op x arg next).1 = y at *
  generalize hokk : (behind op x arg next).2 = okk at *
  have U03 : Upto (fun z => z = ⟨vb, vo, none⟩ ∨ z.block = ab) w w3 := (U1.mono (fun z h => .inr h)).trans ((U2.mono (fun z h => h.symm)).trans (U3.mono (fun z h => .inr h)))
  have hlk := run_lookup91 w3 mb ⟨vb, vo, none⟩ names _ T3.map T3.freeV T3.freeN
  refine wp_seq (s13_19 _ _ _ _ _ T3 _ _ _ _ _ _ _ _ _ _ _ _ _ _ _ _ _ _ _ _ _ _ _ hlk ?_)
  have last : ∀ (y15 y48 y50 y51 y52 y53 y54 y55 y56 y57 y58 y59 y60 y61 y62 y63 y64 y65 y66 y67 y68 y70 y72 y73 y74 y75 y76 y77 y78 y79 y80 y81 y82 y83 y84 y85 y86 y87 y88 y89 y90 y91 y92 y93 y94 y95 y96 y97 y98 y99 y100 y101 y102 : Value) (w4 : World) (T4 : T13 w4 tp rp mb ab vb vo { a with was := x, ok := okk, now := y } y (if (⟨vb, vo, none⟩ : Addr) ∈ names then names else names ++ [⟨vb, vo, none⟩]) base v2 n2 xs) (U4 : Upto (fun z => z = ⟨vb, vo, none⟩ ∨ z.block = ab ∨ z.block = mb) w w4),
      (Code.seq c13_23 (.seq c13_24 c13_25)).wp Try.prog (bodyPost Try.prog Try.f13 R) ⟨#[.pointer (some ⟨tp, 0, none⟩), .pointer (some ⟨vb, vo, none⟩), .int .i8 op, .int .i64 arg, .int .i64 next, undef, undef, undef, undef, undef, .int .i64 0, .int .i64 0, .bool false, .pointer (some ⟨ab, 0, none⟩), .int .i64 (names.idxOf (⟨vb, vo, none⟩ : Addr) : Int), y15, y16, y17, y18, y19, y20, y21, y22, y23, y24, y25, y26, y27, y28, y29, y30, y31, y32, y33, y34, y35, y36, y37, y38, y39, y40, y41, y42, y43, y44, y45, y46, .pointer (some ⟨vb, vo, none⟩), y48, .pointer (some ⟨ab, 5, none⟩), y50, y51, y52, y53, y54, y55, y56, y57, y58, y59, y60, y61, y62, y63, y64, y65, y66, y67, y68, .pointer (some ⟨vb, vo, none⟩), y70, .pointer (some ⟨ab, 6, none⟩), y72, y73, y74, y75, y76, y77, y78, y79, y80, y81, y82, y83, y84, y85, y86, y87, y88, y89, y90, y91, y92, y93, y94, y95, y96, y97, y98, y99, y100, y101, y102, undef, undef, undef, undef, undef, undef, undef, undef, undef, undef, undef, undef, undef, undef, undef, undef, undef, undef, undef, undef, undef, undef, undef, undef], []⟩ w4 := by
    intro y15 y48 y50 y51 y52 y53 y54 y55 y56 y57 y58 y59 y60 y61 y62 y63 y64 y65 y66 y67 y68 y70 y72 y73 y74 y75 y76 y77 y78 y79 y80 y81 y82 y83 y84 y85 y86 y87 y88 y89 y90 y91 y92 y93 y94 y95 y96 y97 y98 y99 y100 y101 y102 w4 T4 U4
    refine wp_seq (s13_23 _ _ _ _ _ T4 _ _ _ _ _ _ _ _ _ _ _ _ _ _ _ _ _ _ _ _ _ _ _ _ _ _ _ _ _ _ _ _ _ _ _ _ _ _ _ _ _ _ _ _ _ _ _ _ _ _ _ _ _ _ (fun w5 T5 U5 => ?_))
    have U05 : Upto (fun z => z = ⟨vb, vo, none⟩ ∨ z.block = ab ∨ z.block = mb) w w5 := U4.trans (U5.mono (fun z h => .inr (.inl h)))
    refine wp_seq (wp_mono (s13_24 _ _ _ 0 (c13_25.wp Try.prog (bodyPost Try.prog Try.f13 R)) (bodyPost Try.prog Try.f13 R) T5 _ _ _ _ _ _ _ _ _ _ _ _ _ _ _ _ _ _ _ _ _ _ _ _ _ _ _ _ _ _ _ _ _ _ _ _ _ _ _ _ _ _ _ _ _ _ _ _ _ _ _ _ _ _ _ _ hn2 (fun sb sm sk w6 q1 q2 q3 => ?_)) (fun e a' w' h => by cases e <;> first | exact h | exact h.elim))
    have hl : w.heap.size ≤ w5.heap.size := U05.size
    have q3' : ∀ g, (Value.slice sb sm sk).ownBlock = some g → v2.ownBlock = some g ∨ w.heap.size ≤ g := fun g hg => (q3 g hg).imp id fun z => by simp only [size_a, size_d] at z; omega
    have nrp : (Value.slice sb sm sk).ownBlock ≠ some rp := fun e => by
      rcases q3 rp e with z | z
      · exact T5.nv.2.1 z
      · have := World.block_lt_of_cell? w5 _ T5.r2
        simp only [size_a, size_d] at z
        simp only at this
        omega
    have U56 : Upto (fun z => some z.block = v2.ownBlock) w5 w6 := (Upto.drew .alloc).trans (Upto.grown q2 (fun a e => e))
    have U5' : Upto (fun z => z = ⟨rp, 2, none⟩ ∨ some z.block = v2.ownBlock) w5 (w6.setCell ⟨rp, 2, none⟩ (.slice sb sm sk)) := .set (U56.mono (fun z h => .inr h)) (.inl rfl)
    have mcell : ∀ {z : Addr} {u : Value}, w5.cell? z = some u → z ≠ ⟨rp, 2, none⟩ → v2.ownBlock ≠ some z.block → (w6.setCell ⟨rp, 2, none⟩ (.slice sb sm sk)).cell? z = some u := fun {z u} h e1 e2 => U5'.cell _ _ h (fun k => k.elim e1 fun k => e2 k.symm)
    have nr : ∀ i j, (⟨ab, i, none⟩ : Addr) ≠ ⟨rp, j, none⟩ := fun i j e => T5.ne.2.1 (congrArg Addr.block e)
    obtain ⟨b0, b1, b2, b3, b4, b5, b6, b7⟩ := T5.acc
    refine s13_25 (a := { a with was := x, ok := okk, now := y, cell := (names.idxOf (⟨vb, vo, none⟩ : Addr) : Int) }) _ _ _ R _ _ _ _ _ _ _ _ _ _ _ _ _ _ _ _ _ _ _ _ _ _ _ _ _ _ _ _ _ _ _ _ _ _ _ _ _ _ _ _ _ _ _ _ _ _ _ _ _ _ _ _ _ _ _ _ _ _ _ _ _ _ _ _ _ _ _ _ _ _ _ _ (⟨mcell b0 (nr _ _) T5.nv.2.2.1, mcell b1 (nr _ _) T5.nv.2.2.1, mcell b2 (nr _ _) T5.nv.2.2.1, mcell b3 (nr _ _) T5.nv.2.2.1, mcell b4 (nr _ _) T5.nv.2.2.1, mcell b5 (nr _ _) T5.nv.2.2.1, mcell b6 (nr _ _) T5.nv.2.2.1, mcell b7 (nr _ _) T5.nv.2.2.1⟩) (fun w7 e7 => ?_)
    have hc7 : ∀ z, w7.cell? z = (w6.setCell ⟨rp, 2, none⟩ (.slice sb sm sk)).cell? z := fun z => by unfold World.cell?; rw [e7]
    refine hR w7 ⟨?_, ?_, ?_, ?_⟩
    · refine ((U05.mono (fun z h => ?_)).trans (U5'.mono (fun z h => ?_))).heap e7
      · rcases h with h | h | h
        · exact .inl h
        · exact .inr (.inr (.inr (.inr h)))
        · exact .inr (.inl h)
      · rcases h with h | h
        · exact .inr (.inr (.inl h))
        · exact .inr (.inr (.inr (.inl h)))
    · rw [hc7]; exact mcell T5.val (fun e => T5.ne.2.2.2.2.1 (congrArg Addr.block e)) T5.nv.2.2.2
    · rw [e7]
      have hb : v2.ownBlock ≠ some mb := fun e => by
        rcases T5.own.2 with ⟨z, _⟩ | ⟨g, cap, cur, z, _, hm, _⟩
        · rw [z] at e; cases e
        · rw [z] at e
          simp only [Value.ownBlock, Option.some.injEq] at e
          rw [e, T5.map] at hm; cases hm
      exact U5'.obj _ _ T5.map (by simp) (fun k => k.elim (fun k => by
        have hr := T5.r2
        obtain ⟨c, t, f, h, _⟩ := cells_of_cell hr
        have : mb = rp := congrArg Addr.block k
        rw [← this, T5.map] at h; cases h) fun k => hb k.symm)
    · refine ⟨.slice sb sm sk, by rw [hc7]; exact World.cell?_setCell_same _ _ _ (U56.cell _ _ T5.r2 (fun k => T5.nv.2.1 k.symm)), ?_, q3'⟩
      have := own_set q1 (p := ⟨rp, 2, none⟩) (.slice sb sm sk) nrp
      refine ⟨this.1, this.2.imp id ?_⟩
      rintro ⟨g, cap, cur, hv, hb, hm, r⟩
      exact ⟨g, cap, cur, hv, hb, by rw [e7]; exact hm, r⟩
  by_cases hin : (⟨vb, vo, none⟩ : Addr) ∈ names
  · simp only [hin, if_true, decide_true] at last ⊢
    refine wp_seq (s13_mt _ _ _ _ _ T3 _ _ _ _ _ _ _ _ _ _ _ _ _ _ _ _ _ _ _ _ _ _ _ _ _ _ _ _ _ _ _ _ _ _ (fun y15 y84 y85 y86 y87 y88 y89 y90 y91 y92 y93 y94 y95 y96 y97 y98 y99 y100 y101 y102 => ?_))
    exact last _ _ _ _ _ _ _ _ _ _ _ _ _ _ _ _ _ _ _ _ _ _ _ _ _ _ _ _ _ _ _ _ _ _ _ _ _ _ _ _ _ _ _ _ _ _ _ _ _ _ _ _ _ w3 T3 (U03.mono (fun z h => h.imp id .inl))
  · simp only [hin, if_false, decide_false] at last ⊢
    refine wp_seq (s13_mf _ _ _ _ _ T3 _ _ _ _ _ _ _ _ _ _ _ _ _ _ _ _ _ _ _ _ _ _ _ _ _ _ _ _ _ _ _ _ _ _ hin (fun y15 y84 y85 y86 y87 y88 y89 y90 y91 y92 y93 y94 y95 y96 y97 y98 y99 y100 y101 y102 w4 T4 U4 => ?_))
    have e : names.idxOf (⟨vb, vo, none⟩ : Addr) = names.length := List.idxOf_eq_length hin
    rw [← e]
    exact last _ _ _ _ _ _ _ _ _ _ _ _ _ _ _ _ _ _ _ _ _ _ _ _ _ _ _ _ _ _ _ _ _ _ _ _ _ _ _ _ _ _ _ _ _ _ _ _ _ _ _ _ _ w4 T4 ((U03.mono (fun z h => h.imp id .inl)).trans (U4.mono (fun z h => .inr (.inr h))))
end Go.Proofs.Ytkbfbphbdljaaaa

/- What memory holds of a run behind an access, behind an entry of the log. Every premise stands in the statements. -/
set_option linter.unusedVariables false
set_option linter.unusedSimpArgs false
namespace Go.Proofs.Ytkbfbphbdljaaaa
open Go.Tre Go.RowKit
open Go.ConcN (upd upd_ne upd_same)
variable {Λ : Type}
section
variable [Base]
variable {L : Lw Λ} {rp mb : Nat} {B : Nat → Option Nat} {G : GSt Λ} {m w w' : World} {O : Own}

/-- A block more for a list of the run's. -/
def tint (κ : Nat → Nat) (v : Value) (c : Nat) : Nat → Nat := fun b => if some b = v.ownBlock then c else κ b
omit [Base] in
theorem tint_ext {κ : Nat → Nat} {v : Value} {c n : Nat} (hk : ∀ b, κ b ≠ 0 → b < n) (h : ∀ g, v.ownBlock = some g → κ g = c ∨ n ≤ g) : Ext κ (tint κ v c) := fun b hb => by
  unfold tint
  split
  · rename_i e
    rcases h b e.symm with z | z
    · exact z.symm
    · have := hk b hb; omega
  · rfl
omit [Base] in
theorem tint_zero {κ : Nat → Nat} {v : Value} {c n b : Nat} (hb : κ b = 0) (hlt : b < n) (hc : c ≠ 0) (h : ∀ g, v.ownBlock = some g → κ g = c ∨ n ≤ g) : tint κ v c b = 0 := by
  unfold tint
  split
  · rename_i e
    rcases h b e.symm with z | z
    · omega
    · omega
  · exact hb
/-- A row that a lone walk has made is the run's. -/
theorem row_of {e : TypeId} {size n n' : Nat} {v v' : Value} {xs xs' : List Value} (hr : Row O m e size v n xs) (hF : Fresh m O) (hx : w'.ownsRow Base.b0 e size v' n' xs') (hg : ∀ g, v'.ownBlock = some g → v.ownBlock = some g ∨ m.heap.size ≤ g) : Row O w' e size v' n' xs' := by
  refine ⟨hx.1, hx.2.imp id ?_⟩
  rintro ⟨g, cap, cur, rfl, hb, hm, r⟩
  refine ⟨g, cap, cur, _, rfl, hb, ?_, ?_, hm, r⟩
  · rcases hg g rfl with h | h
    · rcases hr.2 with ⟨rfl, _⟩ | ⟨g', cap', cur', f', rfl, _, ho, hp, _⟩
      · cases h
      · simp only [Value.ownBlock, Option.some.injEq] at h; subst h; exact ho
    · exact (hF g h).1
  · rcases hg g rfl with h | h
    · rcases hr.2 with ⟨rfl, _⟩ | ⟨g', cap', cur', f', rfl, _, ho, hp, _⟩
      · cases h
      · simp only [Value.ownBlock, Option.some.injEq] at h; subst h; exact hp
    · exact (hF g h).2

theorem MemI.access {i : Nat} {op arg new : Int} {vb vo ab : Nat} {x : Int} (I : MemI L rp mb B G m O) (hF : Fresh m O) (hx : G.s.vals ⟨vb, vo, none⟩ = some x) (hab : 500 ≤ G.κ ab) (hw : Upto (fun _ => False) m w) {v2 : Value} (h2 : m.cell? ⟨rp, 2, none⟩ = some v2)
    (P : P13 w w' rp mb ab vb vo ⟨i, op, G.s.names.idxOf ⟨vb, vo, none⟩, arg, new, x, (behind op x arg new).1, (behind op x arg new).2⟩ (G.s.name ⟨vb, vo, none⟩) Base.b0 v2 G.s.log.length (G.s.log.flatMap fun a => a.vals.toList)) (hlen : G.s.log.length < G.cap) :
    ∃ κ, Ext G.κ κ ∧ MemI L rp mb B { G with s := G.s.acc i op ⟨vb, vo, none⟩ arg new, κ := κ } w' O := by
  obtain ⟨v2o, hv2, hR2, hk2⟩ := I.log
  obtain rfl : v2o = v2 := by rw [h2] at hv2; exact (Option.some.inj hv2).symm
  obtain ⟨v2', c2', r2', q2'⟩ := P.row
  have hq : ∀ g, v2'.ownBlock = some g → G.κ g = 4 ∨ m.heap.size ≤ g := fun g hg => (q2' g hg).imp (hk2 g) fun h => Nat.le_trans hw.size h
  have hq' : ∀ g, v2'.ownBlock = some g → v2o.ownBlock = some g ∨ m.heap.size ≤ g := fun g hg => (q2' g hg).imp id fun h => Nat.le_trans hw.size h
  have hE : Ext G.κ (tint G.κ v2' 4) := tint_ext I.klt hq
  have hu : Upto (fun z => z = ⟨vb, vo, none⟩ ∨ z.block = mb ∨ z = ⟨rp, 2, none⟩ ∨ some z.block = v2o.ownBlock ∨ z.block = ab) m w' := (hw.mono (fun _ z => z.elim)).trans P.u
  have k0v : G.κ vb = 0 := I.k0 _ _ hx
  have nW : ∀ z : Addr, G.κ z.block ≠ 0 → G.κ z.block ≠ 1 → G.κ z.block ≠ 2 → G.κ z.block ≠ 4 → G.κ z.block < 500 → ¬ (z = ⟨vb, vo, none⟩ ∨ z.block = mb ∨ z = ⟨rp, 2, none⟩ ∨ some z.block = v2o.ownBlock ∨ z.block = ab) := by
    intro z n0 n1 n2 n4 n5 h
    rcases h with h | h | h | h | h
    · exact n0 (by rw [h]; exact k0v)
    · exact n2 (by rw [h]; exact I.k2)
    · exact n1 (by rw [h]; exact I.k1)
    · exact n4 (hk2 _ h.symm)
    · rw [h] at n5; omega
  have nr : ∀ j, j ≠ 2 → ¬ ((⟨rp, j, none⟩ : Addr) = ⟨vb, vo, none⟩ ∨ (⟨rp, j, none⟩ : Addr).block = mb ∨ (⟨rp, j, none⟩ : Addr) = ⟨rp, 2, none⟩ ∨ some (⟨rp, j, none⟩ : Addr).block = v2o.ownBlock ∨ (⟨rp, j, none⟩ : Addr).block = ab) := by
    intro j hj h
    have k1 := I.k1
    rcases h with h | h | h | h | h
    · have := congrArg Addr.block h; simp only at this; rw [this] at k1; omega
    · simp only at h; have := I.k2; rw [← h] at this; omega
    · exact hj (congrArg Addr.off h)
    · have := hk2 _ h.symm; simp only at this; omega
    · simp only at h; rw [h] at k1; omega
  have hc : ∀ c, c ≠ 0 → c ≠ 1 → c ≠ 2 → c ≠ 4 → c < 500 → ∀ z : Addr, (z = ⟨vb, vo, none⟩ ∨ z.block = mb ∨ z = ⟨rp, 2, none⟩ ∨ some z.block = v2o.ownBlock ∨ z.block = ab) → G.κ z.block ≠ c := fun c h0 h1 h2 h4 h5 z hz e => nW z (by omega) (by omega) (by omega) (by omega) (by omega) hz
  have sm : ∀ c, Same (fun b => G.κ b = c) O O := fun c b _ => ⟨rfl, rfl⟩
  have he : ∀ c, c ≠ 0 → ∀ b, G.κ b = c → tint G.κ v2' 4 b = c := fun c h0 b hb => (hE b (by omega)).trans hb
  have vs : ∀ a, (G.s.vals a).isSome = true → ((G.s.acc i op ⟨vb, vo, none⟩ arg new).vals a).isSome = true := fun a h => by
    simp only [Sh.acc]; split
    · rfl
    · exact h
  refine ⟨tint G.κ v2' 4, hE, ?_⟩
  exact {
    b0 := I.b0, ro := I.ro
    c1 := hu.cell _ _ I.c1 (nr 1 (by decide)), map := P.map, stops := hu.cell _ _ I.stops (nr 6 (by decide))
    threads := I.threads.upto hu (nr 0 (by decide)) (hc 3 (by decide) (by decide) (by decide) (by decide) (by decide)) (sm _) (he 3 (by decide))
    log := ⟨v2', c2', by
      have := row_of hR2 hF r2' hq'
      simp only [Sh.acc, List.length_append, List.length_singleton, List.flatMap_append, List.flatMap_cons, List.flatMap_nil, List.append_nil]
      simp only [Sh.ans, hx, Option.getD_some]
      exact this, fun g hg => by simp only [tint]; rw [if_pos hg.symm]⟩
    went := I.went.upto hu (nr 3 (by decide)) (hc 5 (by decide) (by decide) (by decide) (by decide) (by decide)) (sm _) (he 5 (by decide))
    ready := I.ready.upto hu (nr 4 (by decide)) (hc 6 (by decide) (by decide) (by decide) (by decide) (by decide)) (sm _) (he 6 (by decide))
    fell := I.fell.upto hu (nr 5 (by decide)) (hc 7 (by decide) (by decide) (by decide) (by decide) (by decide)) (sm _) (he 7 (by decide))
    td := fun j td h => by
      obtain ⟨z1, z2, z3, z4, z5⟩ := I.kt j td h
      have hj : j < 64 := by have h1 : j < G.tds.length := (List.getElem?_eq_some_iff.1 h).1; have := I.tlen; omega
      exact (I.td j td h).upto hu (fun k => nW _ (by simp only; omega) (by simp only; omega) (by simp only; omega) (by simp only; omega) (by simp only; omega)) (fun k => nW _ (by simp only; omega) (by simp only; omega) (by simp only; omega) (by simp only; omega) (by simp only; omega)) (fun k => nW _ (by simp only; omega) (by simp only; omega) (by simp only; omega) (by simp only; omega) (by simp only; omega))
        (nW _ (by simp only; omega) (by simp only; omega) (by simp only; omega) (by simp only; omega) (by simp only; omega)) (nW _ (by simp only; omega) (by simp only; omega) (by simp only; omega) (by simp only; omega) (by simp only; omega)) ⟨rfl, rfl⟩ vs
    vals := fun a y h => by
      simp only [Sh.acc] at h
      split at h
      · rename_i e
        subst e
        simp only [Sh.ans, hx, Option.getD_some, Option.some.injEq] at h
        subst h
        exact ⟨P.val, (I.vals _ _ hx).2⟩
      · rename_i e
        obtain ⟨z1, z2⟩ := I.vals a y h
        have k := I.k0 a y h
        refine ⟨hu.cell _ _ z1 fun hz => ?_, z2⟩
        rcases hz with hz | hz | hz | hz | hz
        · exact e hz
        · rw [hz, I.k2] at k; cases k
        · rw [hz, I.k1] at k; cases k
        · rw [hk2 _ hz.symm] at k; cases k
        · rw [hz] at k; omega
    good := L.gacc I.good
    nv := fun a ha => by
      by_cases e : a = ⟨vb, vo, none⟩
      · simp only [Sh.acc, if_pos e]; rfl
      · refine vs a (I.nv a ?_)
        simp only [Sh.acc, Sh.name] at ha
        split at ha
        · exact ha
        · rcases List.mem_append.1 ha with ha | ha
          · exact ha
          · exact absurd (List.mem_singleton.1 ha) e
    law := I.lawStays hu (fun a ha => by
      rcases ha with h | h | h | h | h
      · right; rw [h, hx]; rfl
      · left; rw [h, I.k2]; decide
      · left; rw [h]; simp only; rw [I.k1]; decide
      · left; rw [hk2 _ h.symm]; decide
      · left; rw [h]; omega) (fun _ _ => ⟨rfl, rfl⟩)
    k1 := he 1 (by decide) _ I.k1, k2 := he 2 (by decide) _ I.k2
    kt := fun j td h => by obtain ⟨z1, z2, z3, z4, z5⟩ := I.kt j td h; exact ⟨he _ (by omega) _ z1, he _ (by omega) _ z2, he _ (by omega) _ z3, he _ (by omega) _ z4, he _ (by omega) _ z5⟩
    k0 := fun a y h => by
      have : ∃ y', G.s.vals a = some y' := by
        simp only [Sh.acc] at h
        split at h
        · rename_i e; subst e; exact ⟨x, hx⟩
        · exact ⟨y, h⟩
      obtain ⟨y', hy'⟩ := this
      exact tint_zero (I.k0 a y' hy') (I.vlt hy') (by decide) hq
    kl := fun a h => by
      obtain ⟨z1, z2⟩ := I.kl a h
      refine ⟨tint_zero z1 (L.low I.law h) (by decide) hq, ?_⟩
      simp only [Sh.acc]
      rw [if_neg (fun e => by rw [e, hx] at z2; cases z2)]
      exact z2
    klt := fun b h => by
      have h : (if some b = v2'.ownBlock then 4 else G.κ b) ≠ 0 := h
      split at h
      · rename_i e
        rcases r2'.2 with ⟨z, _⟩ | ⟨g, cap, cur, z, _, hm, _⟩
        · rw [z] at e; cases e
        · rw [z] at e; simp only [Value.ownBlock, Option.some.injEq] at e
          rw [e]; exact (Array.getElem?_eq_some_iff.1 hm).1
      · exact Nat.lt_of_lt_of_le (I.klt b h) hu.size
    llen := by simp only [Sh.acc, List.length_append, List.length_singleton]; omega
    cap := I.cap, tlen := I.tlen, wlen := I.wlen }
end
end Go.Proofs.Ytkbfbphbdljaaaa

/- What memory holds of a run when one of its lists has grown. Every premise stands in the statements. -/
set_option linter.unusedVariables false
set_option linter.unusedSimpArgs false
namespace Go.Proofs.Ytkbfbphbdljaaaa
open Go.Tre Go.RowKit
open Go.ConcN (upd upd_ne upd_same)
variable {Λ : Type}
section
variable [Base]
variable {L : Lw Λ} {rp mb : Nat} {B : Nat → Option Nat} {G : GSt Λ} {m m' : World} {O : Own}
/-- One list turns. 'W': its place in the run's row, its own row. -/
structure Turned (rp idx c : Nat) (κ : Nat → Nat) (v : Value) (m m' : World) (v' : Value) : Prop where
  u : Upto (fun a => a = ⟨rp, idx, none⟩ ∨ some a.block = v.ownBlock) m m'
  c1 : m'.cell? ⟨rp, idx, none⟩ = some v'
  q : ∀ g, v'.ownBlock = some g → v.ownBlock = some g ∨ m.heap.size ≤ g
  lt : ∀ g, v'.ownBlock = some g → g < m'.heap.size

theorem MemI.turn {idx c : Nat} {v v' : Value} (I : MemI L rp mb B G m O) (hc : c = 4 ∨ c = 5 ∨ c = 6) (hidx : idx ≠ 1 ∧ idx ≠ 6) (hk : ∀ g, v.ownBlock = some g → G.κ g = c) (T : Turned rp idx c G.κ v m m' v')
    {log' : List Acc} {went' ready' : List Int} (hgood : L.good { G.s with log := log' }) (hlog : log'.length ≤ G.cap) (hwl : went'.length ≤ 65536 ∧ ready'.length ≤ 65536)
    (h1 : Rw (tint G.κ v' c) rp 3 0 30 1 G.tds.length (G.tds.map fun td => .pointer (some ⟨td.tp, 0, none⟩)) m' O)
    (h2 : Rw (tint G.κ v' c) rp 4 2 61 8 log'.length (log'.flatMap fun a => a.vals.toList) m' O)
    (h3 : Rw (tint G.κ v' c) rp 5 3 3 1 went'.length (went'.map (Value.int .i64)) m' O)
    (h4 : Rw (tint G.κ v' c) rp 6 4 3 1 ready'.length (ready'.map (Value.int .i64)) m' O)
    (h5 : Rw (tint G.κ v' c) rp 7 5 4 1 G.tds.length (G.tds.map fun td => .bool td.T.fell) m' O) :
    Ext G.κ (tint G.κ v' c) ∧ MemI L rp mb B { G with s := { G.s with log := log' }, went := went', ready := ready', κ := tint G.κ v' c } m' O := by
  have hu := T.u
  have hq : ∀ g, v'.ownBlock = some g → G.κ g = c ∨ m.heap.size ≤ g := fun g hg => (T.q g hg).imp (hk g) id
  have hE : Ext G.κ (tint G.κ v' c) := tint_ext I.klt hq
  have nW : ∀ z : Addr, G.κ z.block ≠ 1 → G.κ z.block ≠ c → ¬ (z = ⟨rp, idx, none⟩ ∨ some z.block = v.ownBlock) := fun z n1 nc h => by
    rcases h with h | h
    · exact n1 (by rw [h]; exact I.k1)
    · exact nc (hk _ h.symm)
  have nr : ∀ j, j ≠ idx → ¬ ((⟨rp, j, none⟩ : Addr) = ⟨rp, idx, none⟩ ∨ some (⟨rp, j, none⟩ : Addr).block = v.ownBlock) := fun j hj h => by
    rcases h with h | h
    · exact hj (congrArg Addr.off h)
    · have := hk _ h.symm; have k1 := I.k1; simp only at this; omega
  have he : ∀ d, d ≠ 0 → ∀ b, G.κ b = d → tint G.κ v' c b = d := fun d h0 b hb => (hE b (by omega)).trans hb
  have c0 : c ≠ 0 := by omega
  refine ⟨hE, ?_⟩
  exact {
    b0 := I.b0, ro := I.ro, c1 := hu.cell _ _ I.c1 (nr 1 (Ne.symm hidx.1)), map := hu.obj _ _ I.map (by simp) (nW _ (by rw [I.k2]; decide) (by rw [I.k2]; omega)), stops := hu.cell _ _ I.stops (nr 6 (Ne.symm hidx.2))
    threads := h1, log := h2, went := h3, ready := h4, fell := h5
    td := fun j td h => by
      obtain ⟨z1, z2, z3, z4, z5⟩ := I.kt j td h
      exact (I.td j td h).upto hu (fun k => nW _ (by simp only; omega) (by simp only; omega)) (fun k => nW _ (by simp only; omega) (by simp only; omega)) (fun k => nW _ (by simp only; omega) (by simp only; omega)) (nW _ (by simp only; omega) (by simp only; omega)) (nW _ (by simp only; omega) (by simp only; omega)) ⟨rfl, rfl⟩ (fun _ h => h)
    vals := fun a x h => by
      have k := I.k0 a x h
      exact ⟨hu.cell _ _ (I.vals a x h).1 (nW _ (by omega) (by omega)), (I.vals a x h).2⟩
    nv := I.nv
    good := hgood
    law := I.lawStays hu (fun a ha => by
      rcases ha with h | h
      · left; rw [h]; simp only; rw [I.k1]; decide
      · left; rw [hk _ h.symm]; omega) (fun _ _ => ⟨rfl, rfl⟩)
    k1 := he 1 (by decide) _ I.k1, k2 := he 2 (by decide) _ I.k2
    kt := fun j td h => by obtain ⟨z1, z2, z3, z4, z5⟩ := I.kt j td h; exact ⟨he _ (by omega) _ z1, he _ (by omega) _ z2, he _ (by omega) _ z3, he _ (by omega) _ z4, he _ (by omega) _ z5⟩
    k0 := fun a y h => tint_zero (I.k0 a y h) (I.vlt h) c0 hq
    kl := fun a h => ⟨tint_zero (I.kl a h).1 (L.low I.law h) c0 hq, (I.kl a h).2⟩
    klt := fun b h => by
      have h : (if some b = v'.ownBlock then c else G.κ b) ≠ 0 := h
      split at h
      · rename_i e; exact T.lt b e.symm
      · exact Nat.lt_of_lt_of_le (I.klt b h) hu.size
    llen := hlog, cap := I.cap, tlen := I.tlen, wlen := hwl }

/-- Other lists stay. -/
theorem Turned.other {idx c idx' d n sz : Nat} {v v' : Value} {ty : TypeId} {xs : List Value} (I : MemI L rp mb B G m O) (hc : c ≠ 0) (hk : ∀ g, v.ownBlock = some g → G.κ g = c) (T : Turned rp idx c G.κ v m m' v') (hi : idx' ≠ idx) (hd : d ≠ c) (hd0 : d ≠ 0) (hd1 : d ≠ 1) (hc1 : c ≠ 1)
    (H : Rw G.κ rp d idx' ty sz n xs m O) : Rw (tint G.κ v' c) rp d idx' ty sz n xs m' O := by
  have hq : ∀ g, v'.ownBlock = some g → G.κ g = c ∨ m.heap.size ≤ g := fun g hg => (T.q g hg).imp (hk g) id
  refine H.upto T.u (fun h => ?_) (fun a ha e => ?_) (fun b _ => ⟨rfl, rfl⟩) (fun b hb => (tint_ext I.klt hq b (by omega)).trans hb)
  · rcases h with h | h
    · exact hi (congrArg Addr.off h)
    · have := hk _ h.symm; have k1 := I.k1; simp only at this; omega
  · rcases ha with h | h
    · rw [h] at e; have k1 := I.k1; simp only at e; omega
    · have := hk _ h.symm; omega
theorem Turned.self {idx c n n' sz : Nat} {v v' : Value} {ty : TypeId} {xs xs' : List Value} (hF : Fresh m O) (T : Turned rp idx c G.κ v m m' v') (hR : Row O m ty sz v n xs) (hx : m'.ownsRow Base.b0 ty sz v' n' xs') : Rw (tint G.κ v' c) rp c idx ty sz n' xs' m' O :=
  ⟨v', T.c1, row_of hR hF hx T.q, fun g hg => by simp only [tint]; rw [if_pos hg.symm]⟩

theorem MemI.went' {v v' : Value} {k : Int} (I : MemI L rp mb B G m O) (hF : Fresh m O) (hv : m.cell? ⟨rp, 3, none⟩ = some v) (T : Turned rp 3 5 G.κ v m m' v') (hx : m'.ownsRow Base.b0 3 1 v' (G.went.length + 1) (G.went.map (Value.int .i64) ++ [.int .i64 k])) (hl : G.went.length < 65536) :
    ∃ κ, Ext G.κ κ ∧ MemI L rp mb B { G with went := G.went ++ [k], κ := κ } m' O := by
  obtain ⟨w, hw, hR, hk⟩ := I.went
  obtain rfl : w = v := by rw [hv] at hw; exact (Option.some.inj hw).symm
  refine ⟨_, I.turn (log' := G.s.log) (went' := G.went ++ [k]) (ready' := G.ready) (.inr (.inl rfl)) ⟨by decide, by decide⟩ hk T I.good I.llen ⟨by simp; omega, I.wlen.2⟩ (T.other I (by decide) hk (by decide) (by decide) (by decide) (by decide) (by decide) I.threads) (T.other I (by decide) hk (by decide) (by decide) (by decide) (by decide) (by decide) I.log) ?_ (T.other I (by decide) hk (by decide) (by decide) (by decide) (by decide) (by decide) I.ready) (T.other I (by decide) hk (by decide) (by decide) (by decide) (by decide) (by decide) I.fell)⟩
  have := T.self hF hR hx
  simpa using this
theorem MemI.ready' {v v' : Value} {k : Int} (I : MemI L rp mb B G m O) (hF : Fresh m O) (hv : m.cell? ⟨rp, 4, none⟩ = some v) (T : Turned rp 4 6 G.κ v m m' v') (hx : m'.ownsRow Base.b0 3 1 v' (G.ready.length + 1) (G.ready.map (Value.int .i64) ++ [.int .i64 k])) (hl : G.ready.length < 65536) :
    ∃ κ, Ext G.κ κ ∧ MemI L rp mb B { G with ready := G.ready ++ [k], κ := κ } m' O := by
  obtain ⟨w, hw, hR, hk⟩ := I.ready
  obtain rfl : w = v := by rw [hv] at hw; exact (Option.some.inj hw).symm
  refine ⟨_, I.turn (log' := G.s.log) (went' := G.went) (ready' := G.ready ++ [k]) (.inr (.inr rfl)) ⟨by decide, by decide⟩ hk T I.good I.llen ⟨I.wlen.1, by simp; omega⟩ (T.other I (by decide) hk (by decide) (by decide) (by decide) (by decide) (by decide) I.threads) (T.other I (by decide) hk (by decide) (by decide) (by decide) (by decide) (by decide) I.log) (T.other I (by decide) hk (by decide) (by decide) (by decide) (by decide) (by decide) I.went) ?_ (T.other I (by decide) hk (by decide) (by decide) (by decide) (by decide) (by decide) I.fell)⟩
  have := T.self hF hR hx
  simpa using this
theorem MemI.log' {v v' : Value} {a : Acc} (I : MemI L rp mb B G m O) (hF : Fresh m O) (hv : m.cell? ⟨rp, 2, none⟩ = some v) (T : Turned rp 2 4 G.κ v m m' v') (hx : m'.ownsRow Base.b0 61 8 v' (G.s.log.length + 1) ((G.s.log.flatMap fun a => a.vals.toList) ++ a.vals.toList)) (hl : G.s.log.length < G.cap) :
    ∃ κ, Ext G.κ κ ∧ MemI L rp mb B { G with s := G.s.logs a, κ := κ } m' O := by
  obtain ⟨w, hw, hR, hk⟩ := I.log
  obtain rfl : w = v := by rw [hv] at hw; exact (Option.some.inj hw).symm
  refine ⟨_, I.turn (log' := G.s.log ++ [a]) (went' := G.went) (ready' := G.ready) (.inl rfl) ⟨by decide, by decide⟩ hk T (L.glog I.good) (by simp; omega) I.wlen (T.other I (by decide) hk (by decide) (by decide) (by decide) (by decide) (by decide) I.threads) ?_ (T.other I (by decide) hk (by decide) (by decide) (by decide) (by decide) (by decide) I.went) (T.other I (by decide) hk (by decide) (by decide) (by decide) (by decide) (by decide) I.ready) (T.other I (by decide) hk (by decide) (by decide) (by decide) (by decide) (by decide) I.fell)⟩
  have := T.self hF hR hx
  simpa using this
theorem Row.shape {e : TypeId} {sz n : Nat} {v : Value} {xs : List Value} (hR : Row O m e sz v n xs) : ∃ a c, v = .slice a n c := by
  rcases hR.2 with ⟨h, h0⟩ | ⟨g, cap, cur, f, h, _⟩
  · exact ⟨none, 0, by rw [h, h0]⟩
  · exact ⟨_, _, h⟩
/-- A lone append, as the run sees it. -/
theorem turned_of {h idx c n sz sm sk : Nat} {ty : TypeId} {sb : Option Addr} {v : Value} {xs : List Value} {o : Obj} {τ : Tape} {w' : World} (I : MemI L rp mb B G m O) (hv : m.cell? ⟨rp, idx, none⟩ = some v) (hk : ∀ g, v.ownBlock = some g → G.κ g = c) (hc : c ≠ 1)
    (q1 : w'.ownsRow Base.b0 ty sz (.slice sb sm sk) n xs) (q2 : (((re (O.gh h m) τ 0).alloc o).drew).grownBy w' v.ownBlock) (q3 : ∀ g, (Value.slice sb sm sk).ownBlock = some g → v.ownBlock = some g ∨ (((re (O.gh h m) τ 0).alloc o).drew).heap.size ≤ g) :
    Turned rp idx c G.κ v m (w'.setCell ⟨rp, idx, none⟩ (.slice sb sm sk)) (.slice sb sm sk) := by
  have hsz : (re (O.gh h m) τ 0).heap.size = m.heap.size := gh_size
  have hw : Upto (fun a => some a.block = v.ownBlock) m w' := (Upto.gh (O := O) (h := h)).trans ((Upto.of_heap (m := O.gh h m) (m' := re (O.gh h m) τ 0) rfl).trans ((Upto.drew .alloc).trans (Upto.grown q2 (fun a e => e))))
  refine ⟨.set (hw.mono (fun _ z => .inr z)) (.inl rfl), World.cell?_setCell_same _ _ _ (hw.cell _ _ hv (fun e => ?_)), fun g hg => (q3 g hg).imp id fun z => by rw [size_d, size_a, hsz] at z; omega, fun g hg => by
    rw [size_s]; exact (World.ownsRow.lt q1 g hg).2⟩
  have := hk _ e.symm
  have k1 := I.k1
  simp only at this; omega
theorem turned_ne {h idx c : Nat} {sm sk : Nat} {sb : Option Addr} {v : Value} {o : Obj} {τ : Tape} (I : MemI L rp mb B G m O) (hk : ∀ g, v.ownBlock = some g → G.κ g = c) (hc : c ≠ 1)
    (q3 : ∀ g, (Value.slice sb sm sk).ownBlock = some g → v.ownBlock = some g ∨ (((re (O.gh h m) τ 0).alloc o).drew).heap.size ≤ g) (hsz : ∀ τ, (re (O.gh h m) τ 0).heap.size = m.heap.size) : (Value.slice sb sm sk).ownBlock ≠ some (⟨rp, idx, none⟩ : Addr).block := fun e => by
  rcases q3 rp e with z | z
  · have := hk _ z; have k1 := I.k1; omega
  · rw [size_d, size_a, hsz] at z; have := I.rlt; omega
/-- More room for the log. -/
theorem MemI.recap {n : Nat} (I : MemI L rp mb B G m O) (h1 : G.s.log.length ≤ n) (h2 : n ≤ 1099511627776) : MemI L rp mb B { G with cap := n } m O := { I with llen := h1, cap := h2 }
/-- New blocks alone. -/
theorem MemI.same (I : MemI L rp mb B G m O) (hu : Upto (fun _ => False) m m') : MemI L rp mb B G m' O :=
  I.law' (l' := G.s.lam) hu (fun a h => h.elim) (fun _ _ _ => ⟨rfl, rfl⟩) (fun _ _ _ => ⟨rfl, rfl⟩) (I.lawStays hu (fun a h => h.elim) (fun _ _ => ⟨rfl, rfl⟩)) I.kl I.good
/-- What a goroutine owns, and what stays for good. -/
def Holds (KP : Addr → Option Value) (h : Nat) (m : World) (O : Own) : Prop := ∀ x v, KP x = some v → O.mine h m x = some v ∧ O.o x.block = some h ∧ O.pre x.block = 0
theorem Holds.turn {KP : Addr → Option Value} {h idx c n sz : Nat} {v v' : Value} {ty : TypeId} {xs : List Value} (H : Holds KP h m O) (I : MemI L rp mb B G m O) (hR : Row O m ty sz v n xs) (T : Turned rp idx c G.κ v m m' v') : Holds KP h m' O := fun x u hx => by
  refine ⟨?_, (H x u hx).2⟩
  obtain ⟨z1, z2, z3⟩ := mine_some (H x u hx).1
  refine mine_of z1 z2 (T.u.cell _ _ z3 fun hz => ?_)
  have nopub : ∀ bb, x.block = bb → O.o bb = none → O.pre bb = 0 → False := fun bb e o p => by
    rw [e, o, p] at z2
    rcases z2 with z | z
    · cases z
    · omega
  rcases hz with hz | hz
  · exact nopub rp (congrArg Addr.block hz) I.ro.1 I.ro.2
  · rcases hR.2 with ⟨q, _⟩ | ⟨g, cap, cur, f, q, _, qo, qp, _⟩
    · rw [q] at hz; cases hz
    · rw [q] at hz
      simp only [Value.ownBlock, Option.some.injEq] at hz
      exact nopub g hz qo qp
theorem Holds.upto {KP : Addr → Option Value} {h : Nat} (H : Holds KP h m O) (hu : Upto (fun _ => False) m m') : Holds KP h m' O := fun x u hx => by
  obtain ⟨z1, z2, z3⟩ := mine_some (H x u hx).1
  exact ⟨mine_of z1 z2 (hu.cell _ _ z3 fun z => z), (H x u hx).2⟩
theorem Holds.kept {KP : Addr → Option Value} {h : Nat} {O' : Own} (H : Holds KP h m O) (hk : (∀ x v, O.mine h m x = some v → Base.b0 ≤ x.block ∧ (O'.o x.block = some h ∨ x.off < O'.pre x.block) ∧ m'.cell? x = some v) ∧ ∀ b n, O.mineB h b = some n → O'.o b = some h ∧ O'.pre b = n) : Holds KP h m' O' := fun x u hx => by
  obtain ⟨z1, z2, z3⟩ := hk.1 x u (H x u hx).1
  refine ⟨mine_of z1 z2 z3, hk.2 _ 0 ?_⟩
  rw [mineB_of (H x u hx).2.1, (H x u hx).2.2]
end
end Go.Proofs.Ytkbfbphbdljaaaa
