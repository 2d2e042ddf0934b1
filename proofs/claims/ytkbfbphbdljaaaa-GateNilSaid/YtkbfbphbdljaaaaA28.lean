/- Texts of one proof, joined: each says what it proves. Every premise stands in the statements. -/
import Derived.Test.YtkbfbphbdljaaaaA19
import Derived.Test.YtkbfbphbdljaaaaA24
import Derived.Test.YtkbfbphbdljaaaaA26
import Derived.Test.YtkbfbphbdljaaaaA22
import Derived.Test.YtkbfbphbdljaaaaA23
import Derived.Test.YtkbfbphbdljaaaaA27
/- gate's ends, its first loop: where the threads that are left stand (lone). Every premise stands in the statements. -/
set_option linter.unusedVariables false
set_option linter.unusedSimpArgs false
namespace Go.Proofs.Ytkbfbphbdljaaaa
open Go.Tre Go.RowKit
noncomputable def c78_1 : Code := match Try.f78.body with | some (.seq _ (.seq _ (.seq c _))) => c | _ => .skip
/-- What is told of a thread that is left. -/
def leftOf (names : List Addr) (pv : Option Addr) (x : Int) (a : Acc) : Acc := match pv with
  | none => a
  | some v => { a with cell := if v ∈ names then (names.idxOf v : Int) else a.cell, was := x, now := x }
def LN (en : Nat → Bool) (k : Nat) : Nat := ((List.range k).filter fun j => !en j).length
def LA (en : Nat → Bool) (la : Nat → Acc) (k : Nat) : List Value := ((List.range k).filter fun j => !en j).flatMap fun j => (la j).vals.toList
theorem LN_yes {en : Nat → Bool} {k : Nat} (h : en k = false) : LN en (k + 1) = LN en k + 1 := by simp [LN, List.range_succ, List.filter_append, h]
theorem LN_no {en : Nat → Bool} {k : Nat} (h : en k = true) : LN en (k + 1) = LN en k := by simp [LN, List.range_succ, List.filter_append, h]
theorem LA_yes {en : Nat → Bool} {la : Nat → Acc} {k : Nat} (h : en k = false) : LA en la (k + 1) = LA en la k ++ (la k).vals.toList := by simp [LA, List.range_succ, List.filter_append, h]
theorem LA_no {en : Nat → Bool} {la : Nat → Acc} {k : Nat} (h : en k = true) : LA en la (k + 1) = LA en la k := by simp [LA, List.range_succ, List.filter_append, h]
theorem LN_le (en : Nat → Bool) (k : Nat) : LN en k ≤ k := by have := List.length_filter_le (fun j => !en j) (List.range k); simpa [LN] using this
/-- What the loop leans on. -/
structure E78 (w : World) (rp mb sb cap n : Nat) (tp : Nat → Nat) (en : Nat → Bool) (pv : Nat → Option Addr) (x : Nat → Int) (a : Nat → Acc) (names : List Addr) : Prop where
  rlt : rp < w.heap.size
  slt : sb < w.heap.size
  mlt : mb < w.heap.size
  tlt : ∀ j, j < n → tp j < w.heap.size
  h0 : w.cell? ⟨rp, 0, none⟩ = some (.slice (some ⟨sb, 0, none⟩) n cap)
  h1 : w.cell? ⟨rp, 1, none⟩ = some (.map (some mb))
  map : w.heap[mb]? = some (.map (ents names) names.length)
  free : ∀ y ∈ names, FreeRow w y
  hs : ∀ j, j < n → w.cell? ⟨sb, j, none⟩ = some (.pointer (some ⟨tp j, 0, none⟩))
  he : ∀ j, j < n → w.cell? ⟨tp j, 13, none⟩ = some (.bool (en j))
  h4 : ∀ j, j < n → en j = false → w.cell? ⟨tp j, 4, none⟩ = some (.pointer (pv j))
  ha : ∀ j, j < n → en j = false → (a j).at w (tp j) 5
  hv : ∀ j v, j < n → en j = false → pv j = some v → v.spot = none ∧ w.cell? v = some (.int .i64 (x j)) ∧ FreeRow w v
theorem FreeRow.below {w w' : World} {B : Nat} {y : Addr} (h : FreeRow w y) (hb : Below B w w') (hB : B = w.heap.size) : FreeRow w' y := by
  obtain ⟨c, t, hh⟩ := h
  exact ⟨c, t, by rw [hb.block _ (by rw [hB]; exact (Array.getElem?_eq_some_iff.1 hh).1)]; exact hh⟩
theorem FreeRow.alloc {w : World} {o : Obj} {y : Addr} (h : FreeRow w y) : FreeRow (w.alloc o) y := by
  obtain ⟨c, t, hh⟩ := h
  exact ⟨c, t, by rw [heap_alloc_lt (Array.getElem?_eq_some_iff.1 hh).1]; exact hh⟩
theorem row_cells' (w : World) (c : Array Value) (t : TypeId) (B : Nat) (hB : w.heap.size = B) : ∀ j u, c.toList[j]? = some u → (w.alloc (.cells c t)).cell? ((⟨B, 0, none⟩ : Addr).add j) = some u := by
  subst hB; exact row_cells w c t
set_option maxRecDepth 100000 in
set_option maxHeartbeats 4000000 in
theorem c78_1_wp (Q : Act → World → Prop) (w : World) (rp mb sb cap n : Nat) (tp : Nat → Nat) (en : Nat → Bool) (pv : Nat → Option Addr) (x : Nat → Int) (a : Nat → Acc) (names : List Addr) (hn : n ≤ 64) (E : E78 w rp mb sb cap n tp en pv x a names)
    (hQ : ∀ (v y5 y6 y7 y8 y11 y12 y13 y14 y15 y16 y17 y18 y19 y20 y21 y22 y23 y24 y25 y26 y27 y28 y29 y30 y31 y32 y33 y34 y35 y36 y37 y38 y39 y40 y41 y42 y43 y44 y45 y46 y47 y48 y49 y50 y51 y52 y53 y54 y55 y56 y57 y58 y59 y60 y61 : Value) (w' : World), w'.ownsRow w.heap.size 61 8 v (LN en n) (LA en (fun j => leftOf names (pv j) (x j) (a j)) n) → Below w.heap.size w w' → Q ⟨#[.pointer (some ⟨rp, 0, none⟩), undef, .slice none 0 0, v, undef, y5, y6, y7, y8, undef, undef, y11, y12, y13, y14, y15, y16, y17, y18, y19, y20, y21, y22, y23, y24, y25, y26, y27, y28, y29, y30, y31, y32, y33, y34, y35, y36, y37, y38, y39, y40, y41, y42, y43, y44, y45, y46, y47, y48, y49, y50, y51, y52, y53, y54, y55, y56, y57, y58, y59, y60, y61, undef, undef, undef, undef, undef, undef, undef, undef, undef, undef, undef, undef, undef, undef, undef, undef, undef, undef, undef, undef, undef, undef, undef, undef, undef, undef, undef], []⟩ w') :
    c78_1.wp Try.prog (fun e a w => match e with | .normal => Q a w | _ => False) ⟨#[.pointer (some ⟨rp, 0, none⟩), undef, .slice none 0 0, .slice none 0 0, undef, undef, undef, undef, undef, undef, undef, undef, undef, undef, undef, undef, undef, undef, undef, undef, undef, undef, undef, undef, undef, undef, undef, undef, undef, undef, undef, undef, undef, undef, undef, undef, undef, undef, undef, undef, undef, undef, undef, undef, undef, undef, undef, undef, undef, undef, undef, undef, undef, undef, undef, undef, undef, undef, undef, undef, undef, undef, undef, undef, undef, undef, undef, undef, undef, undef, undef, undef, undef, undef, undef, undef, undef, undef, undef, undef, undef, undef, undef, undef, undef, undef, undef, undef, undef], []⟩ w := by
  obtain ⟨i61, hi61, z61, s61, b61⟩ := info61
  have h0 := E.h0
  simp only [c78_1, Try.f78]
  go_wp2
  clear h0
  go_loopw [3, 16] (fun v i wr => ∃ k : Nat, k ≤ n ∧ i = .int .i64 k ∧ wr.ownsRow w.heap.size 61 8 v (LN en k) (LA en (fun j => leftOf names (pv j) (x j) (a j)) k) ∧ Below w.heap.size w wr) (fun _ i _ => n - (intOf i).toNat)
  case atStart => exact ⟨0, Nat.zero_le _, rfl, World.ownsRow_nil _ _ _ _, Below.refl _ _⟩
  case round =>
    obtain ⟨k, hk, rfl, hown, hbel⟩ := hrel
    have hl64 := LN_le en k
    have hsz := hbel.size
    by_cases hlt : k < n
    · have c1 : _ := (below_cells hbel sb k E.slt).trans (E.hs k hlt)
      have c2 : _ := (below_cells hbel (tp k) 13 (E.tlt k hlt)).trans (E.he k hlt)
      have htl := E.tlt k hlt
      cases hen : en k with
      | true =>
        rw [hen] at c2
        have HN := Lib.hid (LN_no hen)
        have HA := Lib.hid (LA_no (la := fun j => leftOf names (pv j) (x j) (a j)) hen)
        clear hen
        have HE := Lib.hid E
        clear E
        go_wp2
        go_roundw
        case rel => exact ⟨k + 1, by omega, by go_num, by rw [HN.out, HA.out]; exact hown, hbel⟩
        case measure => simp [intOf]; omega
      | false =>
        rw [hen] at c2
        obtain ⟨q0, q1, q2, q3, q4, q5, q6, q7⟩ := E.ha k hlt hen
        have c4 := (below_cells hbel (tp k) 4 htl).trans (E.h4 k hlt hen)
        have d0 := (below_cells hbel (tp k) 5 htl).trans q0
        have d1 := (below_cells hbel (tp k) 6 htl).trans q1
        have d2 := (below_cells hbel (tp k) 7 htl).trans q2
        have d3 := (below_cells hbel (tp k) 8 htl).trans q3
        have d4 := (below_cells hbel (tp k) 9 htl).trans q4
        have d5 := (below_cells hbel (tp k) 10 htl).trans q5
        have d6 := (below_cells hbel (tp k) 11 htl).trans q6
        have d7 := (below_cells hbel (tp k) 12 htl).trans q7
        clear q0 q1 q2 q3 q4 q5 q6 q7
        have HN := Lib.hid (LN_yes hen)
        have HA := Lib.hid (LA_yes (la := fun j => leftOf names (pv j) (x j) (a j)) hen)
        have htlr : tp k < wr.heap.size := by omega
        cases hpv : pv k with
        | none =>
          rw [hpv] at c4
          have HL : Hid (leftOf names (pv k) (x k) (a k) = a k) := Lib.hid (by rw [hpv]; rfl)
          have HE := Lib.hid E
          clear E hpv hen
          generalize hac : a k = ac at *
          obtain ⟨th, op, ce, ar, ne, wa, no, ok⟩ := ac
          have HAC := Lib.hid hac
          clear hac
          go_wp2_with (at_builtin; refine wpList_append_own _ rfl (.tmp 57) (.tmp 59) 36 rfl w.heap.size 61 i61 (.agg (Acc.mk 0 0 0 0 0 0 0 false).vals) 8 64 Try.underlying36 hi61 z61 s61 b61 rfl (by decide) _ _ _ rfl (World.ownsRow.alloc (World.ownsRow.alloc hown _) _) ⟨wr.heap.size + 1, 0, none⟩ 1 1 (Acc.mk th op ce ar ne wa no ok).vals.toList rfl rfl ?c1 ?c2 ?c3 ?c4 ?c5 ?_)
          case c1 => intro j u h; simpa [Acc.vals] using h
          case c2 => simp [Acc.vals, Value.oneCell']
          case c3 => simp only [maxLen]; omega
          case c4 => omega
          case c5 => omega
          intro v' w1 r1 r2 _
          have hb1 : RowKit.Below w.heap.size w w1 := ((hbel.alloc (B := w.heap.size) hsz _).alloc (B := w.heap.size) (by simp only [size_a]; omega) _).grown r2 (by simp only [size_a]; omega) (fun j hj => (hown.lt j hj).1)
          clear r2
          try go_wp2
          go_roundw
          case rel => exact ⟨k + 1, by omega, by go_num, by rw [HN.out, HA.out, HL.out]; exact r1, hb1⟩
          case measure => simp [intOf]; omega
        | some v =>
          rw [hpv] at c4
          obtain ⟨z1, z2, z3⟩ := E.hv k v hlt hen hpv
          obtain ⟨vb, vo, vs⟩ := v
          simp only at z1
          subst z1
          have hvl := World.block_lt_of_cell? w _ z2
          have cv := (below_cells hbel vb vo hvl).trans z2
          have c1r := (below_cells hbel rp 1 E.rlt).trans E.h1
          have hmap : ∀ o n, ((wr.alloc o).drewN n).heap[mb]? = some (.map (ents names) names.length) := fun o n => by
            show (wr.alloc o).heap[mb]? = _
            have hm' : wr.heap[mb]? = some (.map (ents names) names.length) := by rw [hbel.block mb E.mlt]; exact E.map
            rw [heap_alloc_lt (Array.getElem?_eq_some_iff.1 hm').1]; exact hm'
          have hfr : ∀ y o n, FreeRow w y → FreeRow ((wr.alloc o).drewN n) y := fun y o n hy => (hy.below hbel rfl).alloc
          have hlk : ∀ o n, (Instr.lookup 91 (.map (some mb)) (.pointer (some ⟨vb, vo, none⟩)) true).run Try.prog ((wr.alloc o).drewN n) = .ok (.tuple #[.int .i64 (if (⟨vb, vo, none⟩ : Addr) ∈ names then (names.idxOf (⟨vb, vo, none⟩ : Addr) : Int) else 0), .bool (decide ((⟨vb, vo, none⟩ : Addr) ∈ names))]) ((wr.alloc o).drewN n) := fun o n => run_lookup91 _ mb ⟨vb, vo, none⟩ names _ (hmap o n) (hfr _ o n z3) (fun y hy => hfr y o n (E.free y hy))
          have hrl : rp < wr.heap.size := by have := E.rlt; omega
          have hvlr : vb < wr.heap.size := by simp only at hvl; omega
          clear hmap hfr
          have HL : Hid (leftOf names (pv k) (x k) (a k) = { a k with cell := if (⟨vb, vo, none⟩ : Addr) ∈ names then (names.idxOf (⟨vb, vo, none⟩ : Addr) : Int) else (a k).cell, was := x k, now := x k }) := Lib.hid (by rw [hpv]; rfl)
          have HE := Lib.hid E
          clear E hpv hen z2 z3
          generalize hac : a k = ac at *
          generalize hxk : x k = xk at *
          obtain ⟨th, op, ce, ar, ne, wa, no, ok⟩ := ac
          have HAC := Lib.hid hac
          have HX := Lib.hid hxk
          clear hac hxk
          have hl0 := fun o => hlk o 0
          by_cases hin : (⟨vb, vo, none⟩ : Addr) ∈ names
          · simp only [hin, if_true, decide_true] at hlk hl0 HL
            generalize (names.idxOf (⟨vb, vo, none⟩ : Addr) : Int) = ix at *
            have HI := Lib.hid hin
            clear hin
            have cv2 : ∀ o n, ((wr.alloc o).drewN n).cell? ⟨vb, vo, none⟩ = some (.int .i64 xk) := fun o n => (World.cell?_alloc_lt _ _ _ hvlr).trans cv
            go_wp2
            go_quiet (fail)
            have e0 : ∀ n i (hi : i < 8), ((wr.alloc (.cells (Acc.mk th op ce ar ne wa no ok).vals 61)).drewN n).cell? ⟨wr.heap.size, i, none⟩ = some ((Acc.mk th op ce ar ne wa no ok).vals[i]'hi) := fun n i hi => cell_of_cells (b := wr.heap.size) (e := 61) (f := (0, 0)) (by show (wr.alloc _).heap[wr.heap.size]? = _; rw [get_a, if_pos rfl]) hi
            have f0 : ∀ n i, ((wr.alloc (.cells (Acc.mk th op ce ar ne wa no ok).vals 61)).drewN n).frozen? ⟨wr.heap.size, i, none⟩ = false := fun n i => by
              have : (wr.alloc (.cells (Acc.mk th op ce ar ne wa no ok).vals 61)).heap[wr.heap.size]? = some (.cells (Acc.mk th op ce ar ne wa no ok).vals 61) := by rw [get_a, if_pos rfl]
              show (wr.alloc _).frozen? _ = false
              unfold World.frozen?
              simp only [this]; simp
            have c4' : ∀ n, ((wr.alloc (.cells (Acc.mk th op ce ar ne wa no ok).vals 61)).drewN n).cell? ⟨tp k, 4, none⟩ = some (.pointer (some ⟨vb, vo, none⟩)) := fun n => (World.cell?_alloc_lt _ _ _ htlr).trans c4
            have ow : ∀ n, ((wr.alloc (.cells (Acc.mk th op ce ar ne wa no ok).vals 61)).drewN n).ownsRow w.heap.size 61 8 u3 (LN en k) (LA en (fun j => leftOf names (pv j) (x j) (a j)) k) := fun n => World.ownsRow.alloc hown _
            have sz0 : ∀ n, ((wr.alloc (.cells (Acc.mk th op ce ar ne wa no ok).vals 61)).drewN n).heap.size = wr.heap.size + 1 := fun n => size_a _ _
            have be0 : ∀ n, RowKit.Below w.heap.size w ((wr.alloc (.cells (Acc.mk th op ce ar ne wa no ok).vals 61)).drewN n) := fun n => below_drewN (hbel.alloc hsz _) n
            rename_i nq
            have hre : wr.alloc (Obj.cells #[.int .i64 th, .int .i8 op, .int .i64 ce, .int .i64 ar, .int .i64 ne, .int .i64 wa, .int .i64 no, .bool ok] 61) = wr.alloc (.cells (Acc.mk th op ce ar ne wa no ok).vals 61) := rfl
            rw [hre]
            replace cv2 := cv2 (.cells (Acc.mk th op ce ar ne wa no ok).vals 61) nq
            replace e0 := e0 nq
            replace f0 := f0 nq
            replace c4' := c4' nq
            replace ow := ow nq
            replace sz0 := sz0 nq
            replace be0 := be0 nq
            generalize (wr.alloc (.cells (Acc.mk th op ce ar ne wa no ok).vals 61)).drewN nq = W at *
            have k0 := e0 0 (by decide)
            have k1 := e0 1 (by decide)
            have k2 := e0 2 (by decide)
            have k3 := e0 3 (by decide)
            have k4 := e0 4 (by decide)
            have k5 := e0 5 (by decide)
            have k6 := e0 6 (by decide)
            have k7 := e0 7 (by decide)
            simp [Acc.vals] at k0 k1 k2 k3 k4 k5 k6 k7
            have f2 := f0 2
            have f5 := f0 5
            have f6 := f0 6
            have hou : u3.ownBlock ≠ some wr.heap.size := fun e => by have := (hown.lt _ e).2; omega
            have nvb : ¬ wr.heap.size = vb := by omega
            have ntp : ¬ wr.heap.size = tp k := by omega
            clear e0 f0
            go_wp2_with (first | (go_at_call 16; refine (aload_calls _ vb vo xk ((World.cell?_setCell_other _ ⟨wr.heap.size, 2, none⟩ ⟨vb, vo, none⟩ _ (fun e => nvb (congrArg Addr.block e))).trans cv2)).mono ?_; rintro e w' ⟨rfl, rfl⟩) | (at_builtin; refine wpList_append_own _ rfl (.tmp 57) (.tmp 59) 36 rfl w.heap.size 61 i61 (.agg (Acc.mk 0 0 0 0 0 0 0 false).vals) 8 64 Try.underlying36 hi61 z61 s61 b61 rfl (by decide) _ _ _ rfl (World.ownsRow.alloc (own_set (own_set (own_set ow _ hou) _ hou) _ hou) _) ⟨wr.heap.size + 1, 0, none⟩ 1 1 (Acc.mk th op ix ar ne xk xk ok).vals.toList rfl rfl ?c1 ?c2 ?c3 ?c4 ?c5 ?_))
            case c1 => exact fun j u h => row_cells' _ _ _ _ (by simp only [size_s, sz0]) j u h
            case c2 => simp [Acc.vals, Value.oneCell']
            case c3 => simp only [maxLen]; omega
            case c4 => omega
            case c5 => simp only [size_a, size_s, sz0]; omega
            intro v' w1 r1 r2 _
            have hb1 : RowKit.Below w.heap.size w w1 := ((((be0.setCell (p := ⟨wr.heap.size, 2, none⟩) hsz _).setCell (p := ⟨wr.heap.size, 5, none⟩) hsz _).setCell (p := ⟨wr.heap.size, 6, none⟩) hsz _).alloc (B := w.heap.size) (by simp only [size_s, sz0]; omega) _).grown r2 (by simp only [size_a, size_s, sz0]; omega) (fun j hj => (hown.lt j hj).1)
            clear r2
            try go_wp2
            go_roundw
            case rel => exact ⟨k + 1, by omega, by go_num, by rw [HN.out, HA.out, HL.out]; exact r1, hb1⟩
            case measure => simp [intOf]; omega
          · simp only [hin, if_false, decide_false] at hlk hl0 HL
            have HI := Lib.hid hin
            clear hin
            have cv2 : ∀ o n, ((wr.alloc o).drewN n).cell? ⟨vb, vo, none⟩ = some (.int .i64 xk) := fun o n => (World.cell?_alloc_lt _ _ _ hvlr).trans cv
            go_wp2
            go_quiet (fail)
            have e0 : ∀ n i (hi : i < 8), ((wr.alloc (.cells (Acc.mk th op ce ar ne wa no ok).vals 61)).drewN n).cell? ⟨wr.heap.size, i, none⟩ = some ((Acc.mk th op ce ar ne wa no ok).vals[i]'hi) := fun n i hi => cell_of_cells (b := wr.heap.size) (e := 61) (f := (0, 0)) (by show (wr.alloc _).heap[wr.heap.size]? = _; rw [get_a, if_pos rfl]) hi
            have f0 : ∀ n i, ((wr.alloc (.cells (Acc.mk th op ce ar ne wa no ok).vals 61)).drewN n).frozen? ⟨wr.heap.size, i, none⟩ = false := fun n i => by
              have : (wr.alloc (.cells (Acc.mk th op ce ar ne wa no ok).vals 61)).heap[wr.heap.size]? = some (.cells (Acc.mk th op ce ar ne wa no ok).vals 61) := by rw [get_a, if_pos rfl]
              show (wr.alloc _).frozen? _ = false
              unfold World.frozen?
              simp only [this]; simp
            have c4' : ∀ n, ((wr.alloc (.cells (Acc.mk th op ce ar ne wa no ok).vals 61)).drewN n).cell? ⟨tp k, 4, none⟩ = some (.pointer (some ⟨vb, vo, none⟩)) := fun n => (World.cell?_alloc_lt _ _ _ htlr).trans c4
            have ow : ∀ n, ((wr.alloc (.cells (Acc.mk th op ce ar ne wa no ok).vals 61)).drewN n).ownsRow w.heap.size 61 8 u3 (LN en k) (LA en (fun j => leftOf names (pv j) (x j) (a j)) k) := fun n => World.ownsRow.alloc hown _
            have sz0 : ∀ n, ((wr.alloc (.cells (Acc.mk th op ce ar ne wa no ok).vals 61)).drewN n).heap.size = wr.heap.size + 1 := fun n => size_a _ _
            have be0 : ∀ n, RowKit.Below w.heap.size w ((wr.alloc (.cells (Acc.mk th op ce ar ne wa no ok).vals 61)).drewN n) := fun n => below_drewN (hbel.alloc hsz _) n
            rename_i nq
            have hre : wr.alloc (Obj.cells #[.int .i64 th, .int .i8 op, .int .i64 ce, .int .i64 ar, .int .i64 ne, .int .i64 wa, .int .i64 no, .bool ok] 61) = wr.alloc (.cells (Acc.mk th op ce ar ne wa no ok).vals 61) := rfl
            rw [hre]
            replace cv2 := cv2 (.cells (Acc.mk th op ce ar ne wa no ok).vals 61) nq
            replace e0 := e0 nq
            replace f0 := f0 nq
            replace c4' := c4' nq
            replace ow := ow nq
            replace sz0 := sz0 nq
            replace be0 := be0 nq
            generalize (wr.alloc (.cells (Acc.mk th op ce ar ne wa no ok).vals 61)).drewN nq = W at *
            have k0 := e0 0 (by decide)
            have k1 := e0 1 (by decide)
            have k2 := e0 2 (by decide)
            have k3 := e0 3 (by decide)
            have k4 := e0 4 (by decide)
            have k5 := e0 5 (by decide)
            have k6 := e0 6 (by decide)
            have k7 := e0 7 (by decide)
            simp [Acc.vals] at k0 k1 k2 k3 k4 k5 k6 k7
            have f2 := f0 2
            have f5 := f0 5
            have f6 := f0 6
            have hou : u3.ownBlock ≠ some wr.heap.size := fun e => by have := (hown.lt _ e).2; omega
            have nvb : ¬ wr.heap.size = vb := by omega
            have ntp : ¬ wr.heap.size = tp k := by omega
            clear e0 f0
            go_wp2_with (first | (go_at_call 16; refine (aload_calls _ vb vo xk cv2).mono ?_; rintro e w' ⟨rfl, rfl⟩) | (at_builtin; refine wpList_append_own _ rfl (.tmp 57) (.tmp 59) 36 rfl w.heap.size 61 i61 (.agg (Acc.mk 0 0 0 0 0 0 0 false).vals) 8 64 Try.underlying36 hi61 z61 s61 b61 rfl (by decide) _ _ _ rfl (World.ownsRow.alloc (own_set (own_set ow _ hou) _ hou) _) ⟨wr.heap.size + 1, 0, none⟩ 1 1 (Acc.mk th op ce ar ne xk xk ok).vals.toList rfl rfl ?c1 ?c2 ?c3 ?c4 ?c5 ?_))
            case c1 => exact fun j u h => row_cells' _ _ _ _ (by simp only [size_s, sz0]) j u h
            case c2 => simp [Acc.vals, Value.oneCell']
            case c3 => simp only [maxLen]; omega
            case c4 => omega
            case c5 => simp only [size_a, size_s, sz0]; omega
            intro v' w1 r1 r2 _
            have hb1 : RowKit.Below w.heap.size w w1 := (((be0.setCell (p := ⟨wr.heap.size, 5, none⟩) hsz _).setCell (p := ⟨wr.heap.size, 6, none⟩) hsz _).alloc (B := w.heap.size) (by simp only [size_s, sz0]; omega) _).grown r2 (by simp only [size_a, size_s, sz0]; omega) (fun j hj => (hown.lt j hj).1)
            clear r2
            try go_wp2
            go_roundw
            case rel => exact ⟨k + 1, by omega, by go_num, by rw [HN.out, HA.out, HL.out]; exact r1, hb1⟩
            case measure => simp [intOf]; omega
    · obtain rfl : k = n := by omega
      clear E
      go_wp2
      exact hQ _ _ _ _ _ _ _ _ _ _ _ _ _ _ _ _ _ _ _ _ _ _ _ _ _ _ _ _ _ _ _ _ _ _ _ _ _ _ _ _ _ _ _ _ _ _ _ _ _ _ _ _ _ _ _ _ _ hown hbel
end Go.Proofs.Ytkbfbphbdljaaaa

/- gate's able, in terms of the run. Every premise stands in the statements. -/
set_option linter.unusedVariables false
set_option linter.unusedSimpArgs false
namespace Go.Proofs.Ytkbfbphbdljaaaa
open Go.Tre Go.RowKit
open Go.ConcN (upd upd_ne upd_same)
variable {Λ : Type}
/-- Thread k's row. -/
def GSt.tpOf (G : GSt Λ) (k : Nat) : Nat := match G.tds[k]? with
  | some td => td.tp
  | none => 0
section
variable [Base]
variable {L : Lw Λ} {rp mb : Nat} {G : GSt Λ} {m : World} {O : Own} {h : Nat}
theorem Row.cellAt {e : TypeId} {g n cap : Nat} {xs : List Value} (hR : Row O m e 1 (.slice (some ⟨g, 0, none⟩) n cap) n xs) {j : Nat} {u : Value} (hj : xs[j]? = some u) : m.cell? ⟨g, j, none⟩ = some u := by
  rcases hR.2 with ⟨z, _⟩ | ⟨g', cap', cur, f, z, _, _, _, hm, _, _, hsz, ht⟩
  · cases z
  · cases z
    obtain ⟨hlt, rfl⟩ := List.getElem?_eq_some_iff.1 hj
    have hjn : j < n := by rw [hR.1] at hlt; omega
    have hl : j < cur.size := by
      have := congrArg List.length ht
      simp only [List.length_take, Array.length_toList] at this
      omega
    rw [cell_of_cells hm hl]
    congr 1
    have : xs[j] = (cur.toList.take (n * 1))[j]'(by simp; omega) := by simp only [ht]
    rw [this]; simp
theorem able_mem (I : MemI L rp mb (fun _ => none) G m O) (τ : Tape) : Calls Try.prog 76 #[.pointer (some ⟨rp, 0, none⟩)] (re (O.gh h m) τ 0) fun e w' =>
    ∃ v, e = .returned (.tuple #[v, .bool G.abs.isOver]) ∧ w'.ownsRow m.heap.size 30 1 v G.abs.able.length (ptrs G.tpOf G.abs.able) ∧ Below m.heap.size (re (O.gh h m) τ 0) w' := by
  have hsz : (re (O.gh h m) τ 0).heap.size = m.heap.size := gh_size
  have hl : G.abs.ths.length = G.tds.length := by simp [GSt.abs]
  obtain ⟨v, hv, hR, hk⟩ := I.threads
  rcases hR.2 with ⟨rfl, h0⟩ | ⟨g, cap, cur, f, rfl, hb, ho, hp, hm, hcap, hcm, hcs, ht⟩
  · refine (able_none (re (O.gh h m) τ 0) rp (by rw [re_cell?, gh_cell]; exact hv)).mono ?_
    rintro e w' ⟨rfl, rfl⟩
    have e1 : G.abs.isOver = true := by simp [AS.isOver, hl, h0]
    have e2 : G.abs.able = [] := by simp [AS.able, hl, h0]
    exact ⟨_, by rw [e1], by rw [e2]; exact World.ownsRow_nil _ _ _ _, Below.refl _ _⟩
  · have glt : g < m.heap.size := (Array.getElem?_eq_some_iff.1 hm).1
    have tpj : ∀ j, j < G.tds.length → ∃ td, G.tds[j]? = some td ∧ G.tpOf j = td.tp := fun j hj => ⟨G.tds[j], List.getElem?_eq_getElem hj, by simp [GSt.tpOf, List.getElem?_eq_getElem hj]⟩
    have hc := able_some (re (O.gh h m) τ 0) rp g cap G.tds.length G.tpOf G.abs.ended G.abs.rdy I.tlen (by rw [hsz]; exact I.rlt) (by rw [hsz]; exact glt) (fun j hj => by
        obtain ⟨td, htd, e⟩ := tpj j hj
        rw [hsz, e]; exact World.block_lt_of_cell? m _ (I.td j td htd).r) (by rw [re_cell?, gh_cell]; exact hv) (fun j hj => by
        obtain ⟨td, htd, e⟩ := tpj j hj
        rw [re_cell?, gh_cell, e]
        exact Row.cellAt hR (by simp [htd])) (fun j hj => by
        obtain ⟨td, htd, e⟩ := tpj j hj
        rw [re_cell?, gh_cell, e]
        have := (I.td j td htd).ended
        simp only [Option.isNone_none, Bool.true_and] at this
        rw [this]; simp [AS.ended, GSt.abs, htd]) (fun j hj w' hw' => ?_)
    · refine hc.mono ?_
      rintro e w' ⟨v, rfl, h1, h2⟩
      rw [hsz] at h1 h2
      refine ⟨v, ?_, ?_, h2⟩
      · simp only [AS.isOver, hl]; rfl
      · simp only [AS.able, hl]; exact h1
    · obtain ⟨td, htd, e⟩ := tpj j hj
      have D := I.td j td htd
      have cl : ∀ {a : Addr} {u : Value}, a.spot = none → m.cell? a = some u → w'.cell? a = some u := fun {a u} hsp ha => by
        have hlt := World.block_lt_of_cell? m a ha
        have := hw'.cell (p := a) (by rw [hsz]; exact hlt)
        rw [this, re_cell?, gh_cell]; exact ha
      rw [e]
      have hrd : G.abs.rdy j = td.T.can G.s := by simp [AS.rdy, GSt.abs, htd]
      rw [hrd]
      have hen := D.ended
      simp only [Option.isNone_none, Bool.true_and] at hen
      cases hT : td.T with
      | over f =>
        rw [hT] at hen
        exact can_ended w' td.tp (cl rfl hen)
      | acc op v arg new seg next stop =>
        rw [hT] at hen
        obtain ⟨s1, s2, s3⟩ := D.stands rfl (some v, op, arg, new) (by rw [hT]; rfl)
        obtain ⟨q0, q1, q2, q3, q4, q5, q6, q7⟩ := s2
        by_cases hop : (op != 6) = true
        · have : Th.can (.acc op v arg new seg next stop) G.s = true := by simp [Th.can, hop]
          rw [this]
          exact can_goes w' td.tp op (cl rfl hen) (cl rfl q1) hop
        · obtain rfl : op = 6 := by simpa using hop
          obtain ⟨x, hx⟩ := Option.isSome_iff_exists.1 (s3 v rfl)
          obtain ⟨z1, z2, z3, z4, z5⟩ := I.vals v x hx
          obtain ⟨vb, vo, vs⟩ := v
          simp only at z5
          subst z5
          have : Th.can (.acc 6 ⟨vb, vo, none⟩ arg new seg next stop) G.s = (x != arg) := by simp [Th.can, hx]
          rw [this]
          exact can_parks w' td.tp vb vo x arg (cl rfl hen) (cl rfl q1) (cl rfl s1) (cl rfl q3) (cl rfl z1) _ rfl
      | go init child seg next stop =>
        rw [hT] at hen
        obtain ⟨s1, s2, s3⟩ := D.stands rfl (none, 7, 0, 0) (by rw [hT]; rfl)
        obtain ⟨q0, q1, q2, q3, q4, q5, q6, q7⟩ := s2
        exact can_goes w' td.tp 7 (cl rfl hen) (cl rfl q1) (by decide)
end
end Go.Proofs.Ytkbfbphbdljaaaa

/- gate's until, its second loop: turn by turn. Every premise stands in the statements. -/
set_option linter.unusedVariables false
set_option linter.unusedSimpArgs false
namespace Go.Proofs.Ytkbfbphbdljaaaa
open Go.Tre Go.RowKit
open Go.Conc (G base baseD crowd rcase scase)
open Go.ConcN (upd upd_ne upd_same)
variable {Λ : Type}
section
variable [Base]
noncomputable def c44_r : Code := match body44 with | .block _ (.seq _ (.seq _ (.seq _ (.seq _ (.seq _ c))))) => c | _ => .skip
/-- A schedule, as the run calls it. 'KP': what of memory it leans on. -/
def SchedC (X : Rn Λ) (h : Nat) (sv : Value) (KP : Addr → Option Value) (sched : AS Λ → Option Nat) : Prop :=
  ∃ (f : FuncId) (fn : Func) (c : Code) (caps : Array Value), sv = .func (.func f) #[] caps ∧ Try.prog.funcs[f]? = some fn ∧ (fn.name == "runtime.NumGoroutine") = false ∧ fn.body = some c ∧ okCode Try.prog plS2 plE c = true ∧
    (∀ A k, sched A = some k → k ∈ A.able) ∧
    ∀ (m : World) (O : Own) (G : GSt Λ), MemI X.L X.rp X.mb (fun _ => none) G m O → Holds KP h m O → G.st = false → G.abs.able ≠ [] → ∀ (lb lc : Nat) (w : World), (∀ a u, m.cell? a = some u → w.cell? a = some u) →
      (∀ j, j < G.abs.able.length → w.cell? ⟨lb, j, none⟩ = some (.pointer (some ⟨G.tpOf (G.abs.able.getD j 0), 0, none⟩))) → G.abs.able.length ≤ lc →
      Calls Try.prog f (#[.int .i64 (G.went.length : Int), .slice (some ⟨lb, 0, none⟩) G.abs.able.length lc] ++ caps) w fun e w' => e = .returned (match sched G.abs with | none => .pointer none | some k => .pointer (some ⟨G.tpOf k, 0, none⟩)) ∧ w' = w

omit [Base] in
theorem AS.run_over {sched : AS Λ → Option Nat} {most fuel : Nat} {A : AS Λ} (h : A.isOver = true) : AS.run sched most fuel A = (A, 1, true) := by cases fuel <;> simp [AS.run, h]
omit [Base] in
theorem AS.run_dead {sched : AS Λ → Option Nat} {most fuel : Nat} {A : AS Λ} (h : A.isOver = false) (h2 : A.able = []) : AS.run sched most fuel A = (A, 3, true) := by cases fuel <;> simp [AS.run, h, h2]
omit [Base] in
theorem AS.run_cut {sched : AS Λ → Option Nat} {most fuel : Nat} {A : AS Λ} (h : A.isOver = false) (h2 : A.able ≠ []) (h3 : A.went.length = most) : AS.run sched most fuel A = (A, 2, true) := by cases fuel <;> simp [AS.run, h, h2, h3]
omit [Base] in
theorem AS.run_none {sched : AS Λ → Option Nat} {most fuel : Nat} {A : AS Λ} (h : A.isOver = false) (h2 : A.able ≠ []) (h3 : A.went.length ≠ most) (h4 : sched A = none) : AS.run sched most fuel A = (A, 0, false) := by cases fuel <;> simp [AS.run, h, h2, h3, h4]
omit [Base] in
theorem AS.run_go {sched : AS Λ → Option Nat} {most fuel k : Nat} {A : AS Λ} (h : A.isOver = false) (h2 : A.able ≠ []) (h3 : A.went.length ≠ most) (h4 : sched A = some k) : AS.run sched most (fuel + 1) A = AS.run sched most fuel ((A.pick k A.able.length).turn k) := by
  simp [AS.run, h, h2, h3, h4]
set_option maxRecDepth 100000 in
set_option maxHeartbeats 4000000 in
theorem Okk.turns {X : Rn Λ} {h most : Nat} {sv : Value} {KP : Addr → Option Value} {sched : AS Λ → Option Nat} {c : Frame} {cs : List Frame} (hE : X.E h = none) (hS : SchedC X h sv KP sched) (hmost : most ≤ 65536) :
    ∀ (fuel : Nat) (m : World) (O : Own) (Γ : Nat → Option Seat) (G : GSt Λ) (y2 y4 y5 y6 y7 y8 y9 y10 y11 y12 y13 y14 y15 y16 y17 y18 y19 y20 y21 y22 y23 y24 y25 y26 y27 y28 y29 y30 y31 y32 y33 y34 y35 y36 y37 y38 y39 y40 y41 y42 y43 y44 y45 y46 y47 y48 y49 y50 y51 y52 y53 y54 y55 y56 y57 y58 y59 y60 y61 y62 y63 y64 y65 y66 y67 y68 y69 y70 y71 y72 y73 y74 y75 y76 y77 y78 y79 : Value), MemI X.L X.rp X.mb (fun _ => none) G m O → SeatI X.E h (fun _ => none) G Γ → Proms X G → Holds KP h m O → G.st = false → G.went.length + fuel = most → G.ready.length = G.went.length → G.s.log.length ≤ 256000 + 10000 * G.went.length →
      (∀ (m' : World) (O' : Own) (Γ' : Nat → Option Seat) (G' : GSt Λ), MemI X.L X.rp X.mb (fun _ => none) G' m' O' → SeatI X.E h (fun _ => none) G' Γ' → Proms X G' → Holds KP h m' O' → G'.st = false → G'.abs = (AS.run sched most fuel G.abs).1 ∧ Ext G.κ G'.κ →
        Okk Try.prog X.Φ h (Go.Conc.G (c.finish (.tuple #[.int .i8 (AS.run sched most fuel G.abs).2.1, .bool (AS.run sched most fuel G.abs).2.2])) cs) m' O' Γ') →
      Okk Try.prog X.Φ h (Go.Conc.G ((base 44).at ⟨#[.pointer (some ⟨X.rp, 0, none⟩), .int .i64 (most : Int), y2, sv, y4, y5, y6, y7, y8, y9, y10, y11, y12, y13, y14, y15, y16, y17, y18, y19, y20, y21, y22, y23, y24, y25, y26, y27, y28, y29, y30, y31, y32, y33, y34, y35, y36, y37, y38, y39, y40, y41, y42, y43, y44, y45, y46, y47, y48, y49, y50, y51, y52, y53, y54, y55, y56, y57, y58, y59, y60, y61, y62, y63, y64, y65, y66, y67, y68, y69, y70, y71, y72, y73, y74, y75, y76, y77, y78, y79], []⟩ [.code body44, .inLoop body44, .inBlock 2]) (c :: cs)) m O Γ := by
  obtain ⟨sf, sfn, sc, caps, rfl, hsf, hsn, hsb, hsok, hsin, hcall⟩ := hS
  have hP := try_plain2
  intro fuel
  induction fuel using Nat.strongRecOn with
  | _ fuel ih =>
    intro m O Γ G y2 y4 y5 y6 y7 y8 y9 y10 y11 y12 y13 y14 y15 y16 y17 y18 y19 y20 y21 y22 y23 y24 y25 y26 y27 y28 y29 y30 y31 y32 y33 y34 y35 y36 y37 y38 y39 y40 y41 y42 y43 y44 y45 y46 y47 y48 y49 y50 y51 y52 y53 y54 y55 y56 y57 y58 y59 y60 y61 y62 y63 y64 y65 y66 y67 y68 y69 y70 y71 y72 y73 y74 y75 y76 y77 y78 y79 I S hprom hKP hst hfuel hready hlog hn
    have I0 := I
    have hpl : G.abs.ths.length = G.tds.length := by simp [GSt.abs]
    simp only [body44, Try.f44]
    refine .ctl0 rfl (fun _ => Go.Conc.stepG_block) (.ctl0 rfl (fun _ => Go.Conc.stepG_seq) (.ctl0 rfl (fun _ => Go.Conc.stepG_region) ?_))
    refine .val hP rfl rfl rfl (.pointer (some ⟨X.rp, 0, none⟩)) (fun τ => by simp [go_sem]) ?_
    walk_nrm
    refine .enter (f := 76) (args := #[.pointer (some ⟨X.rp, 0, none⟩)]) rfl rfl (fun w => ?_) (fun w => ?_) ?_
    · have := (callFunc_enter Try.func76 (by kernel_rfl) rfl #[.pointer (some ⟨X.rp, 0, none⟩)] w).1
      simp [go_sem, this]
    · have := (callFunc_enter Try.func76 (by kernel_rfl) rfl #[.pointer (some ⟨X.rp, 0, none⟩)] w).2
      simp [go_sem, this]
    refine Okk.callC hP Try.func76 rfl (by simp [okCode, okOp, plS, plS2, plE]) (R := fun v g' => ∃ v', v = .tuple #[v', .bool G.abs.isOver] ∧ g'.ownsRow m.heap.size 30 1 v' G.abs.able.length (ptrs G.tpOf G.abs.able) ∧ Upto (fun _ => False) m g') (Callable.mk rfl) (fun τ => (able_mem I τ).mono ?_) ?_
    · rintro e w' ⟨v, rfl, h1, h2⟩
      refine ⟨_, rfl, v, rfl, h1, (Upto.gh (O := O) (h := h)).trans ((Upto.of_heap (m := O.gh h m) (m' := re (O.gh h m) τ 0) rfl).trans ?_)⟩
      have hsz : (re (O.gh h m) τ 0).heap.size = m.heap.size := gh_size
      refine ⟨h2.size, fun a u hu _ => ?_, fun b o hb _ _ => ?_, fun b c e f hb _ => ⟨f, ?_⟩⟩
      · rw [h2.cell (p := a) (by rw [← hsz]; exact World.block_lt_of_cell? _ a hu)]; exact hu
      · rw [h2.block b (by rw [← hsz]; exact (Array.getElem?_eq_some_iff.1 hb).1)]; exact hb
      · rw [h2.block b (by rw [← hsz]; exact (Array.getElem?_eq_some_iff.1 hb).1)]; exact hb
    rintro _ m1 ⟨v, rfl, hown, hu1⟩ _
    obtain ⟨la, ln, lc, rfl⟩ := own_shape hown
    have hln : ln = G.abs.able.length := by
      rcases hown.2 with ⟨z, z'⟩ | ⟨g, cap, cur, z, _⟩
      · cases z; exact z'.symm
      · cases z; rfl
    subst hln
    rw [Frame.finish_at]
    walk_nrm
    refine .val hP rfl rfl rfl (.tuple #[.slice la G.abs.able.length lc, .bool G.abs.isOver]) (fun τ => by simp [go_sem]) ?_
    walk_nrm
    refine .val hP rfl rfl rfl (.slice la G.abs.able.length lc) (fun τ => by simp [go_sem]) ?_
    walk_nrm
    refine .val hP rfl rfl rfl (.bool G.abs.isOver) (fun τ => by simp [go_sem]) ?_
    walk_nrm
    refine .val hP rfl rfl rfl (.slice la G.abs.able.length lc) (fun τ => by simp [go_sem]) ?_
    walk_nrm
    refine .val hP rfl rfl rfl (.bool G.abs.isOver) (fun τ => by simp [go_sem]) ?_
    walk_nrm
    refine .ctl0 rfl (fun _ => Go.Conc.stepG_region_end) (.ctl0 rfl (fun _ => Go.Conc.stepG_seq) (.ctl0 rfl (fun _ => Go.Conc.stepG_block) (.ctl0 rfl (fun _ => Go.Conc.stepG_seq) (.ctl0 rfl (fun _ => Go.Conc.stepG_region) ?_))))
    refine .val hP rfl rfl rfl (.bool G.abs.isOver) (fun τ => by simp [go_sem]) ?_
    walk_nrm
    refine .val hP rfl rfl rfl (.bool G.abs.isOver) (fun τ => by simp [go_sem]) ?_
    walk_nrm
    have I1 := I.same hu1
    have hKP1 := hKP.upto hu1
    refine .ctl0 rfl (fun _ => Go.Conc.stepG_region_end) (.ctl0 rfl (fun _ => Go.Conc.stepG_cond (t := G.abs.isOver) rfl) ?_)
    cases hov : G.abs.isOver with
    | true =>
      simp only [if_true]
      refine .ctl0 rfl (fun _ => Go.Conc.stepG_seq) (.ctl0 rfl (fun _ => Go.Conc.stepG_region) ?_)
      refine .val hP rfl rfl rfl (.int .i8 1) (fun τ => by simp [go_sem]) ?_
      walk_nrm
      refine .val hP rfl rfl rfl (.bool true) (fun τ => by simp [go_sem]) ?_
      walk_nrm
      refine .ctl0 rfl (fun _ => Go.Conc.stepG_region_end) (.ctl0 rfl (fun _ => Go.Conc.stepG_ret') ?_)
      refine .leave (v := .tuple #[.int .i8 1, .bool true]) rfl rfl Try.func44 (fun w => by simp [go_sem, results, Try.f44]) (fun w => by simp [go_sem, results, Try.f44]) ?_
      have := hn m1 O Γ G I1 S hprom hKP1 hst ⟨by rw [AS.run_over hov], Ext.refl _⟩
      rw [AS.run_over hov] at this
      exact this
    | false =>
      simp only [Bool.false_eq_true, if_false]
      refine .ctl0 rfl (fun _ => Go.Conc.stepG_seq) (.ctl0 rfl (fun _ => Go.Conc.stepG_region) ?_)
      refine .val hP rfl rfl rfl (.slice la G.abs.able.length lc) (fun τ => by simp [go_sem]) ?_
      walk_nrm
      refine .val hP rfl rfl rfl (.int .i64 (G.abs.able.length : Int)) (fun τ => by simp [go_sem]) ?_
      walk_nrm
      by_cases hab : G.abs.able = []
      · have hz : ((G.abs.able.length : Int) == 0) = true := by rw [hab]; rfl
        refine .val hP rfl rfl rfl (.bool true) (fun τ => by simp [go_sem, hz]) ?_
        walk_nrm
        refine .val hP rfl rfl rfl (.bool true) (fun τ => by simp [go_sem]) ?_
        walk_nrm
        refine .ctl0 rfl (fun _ => Go.Conc.stepG_region_end) (.ctl0 rfl (fun _ => Go.Conc.stepG_cond (t := true) rfl) ?_)
        simp only [if_true]
        refine .ctl0 rfl (fun _ => Go.Conc.stepG_seq) (.ctl0 rfl (fun _ => Go.Conc.stepG_region) ?_)
        refine .val hP rfl rfl rfl (.int .i8 3) (fun τ => by simp [go_sem]) ?_
        walk_nrm
        refine .val hP rfl rfl rfl (.bool true) (fun τ => by simp [go_sem]) ?_
        walk_nrm
        refine .ctl0 rfl (fun _ => Go.Conc.stepG_region_end) (.ctl0 rfl (fun _ => Go.Conc.stepG_ret') ?_)
        refine .leave (v := .tuple #[.int .i8 3, .bool true]) rfl rfl Try.func44 (fun w => by simp [go_sem, results, Try.f44]) (fun w => by simp [go_sem, results, Try.f44]) ?_
        have := hn m1 O Γ G I1 S hprom hKP1 hst ⟨by rw [AS.run_dead hov hab], Ext.refl _⟩
        rw [AS.run_dead hov hab] at this
        exact this
      have hz : ((G.abs.able.length : Int) == 0) = false := by
        have : G.abs.able.length ≠ 0 := fun e => hab (List.eq_nil_of_length_eq_zero e)
        simp only [beq_eq_false_iff_ne, ne_eq]; omega
      refine .val hP rfl rfl rfl (.bool false) (fun τ => by simp [go_sem, hz]) ?_
      walk_nrm
      refine .val hP rfl rfl rfl (.bool false) (fun τ => by simp [go_sem]) ?_
      walk_nrm
      refine .ctl0 rfl (fun _ => Go.Conc.stepG_region_end) (.ctl0 rfl (fun _ => Go.Conc.stepG_cond (t := false) rfl) ?_)
      simp only [Bool.false_eq_true, if_false]
      obtain ⟨v3, hv3, hR3, hk3⟩ := I1.went
      obtain ⟨a3, c3, rfl⟩ := Row.shape hR3
      refine .ctl0 rfl (fun _ => Go.Conc.stepG_seq) (.ctl0 rfl (fun _ => Go.Conc.stepG_region) ?_)
      refine .val hP rfl rfl rfl (.pointer (some ⟨X.rp, 0, none⟩)) (fun τ => by simp [go_sem]) ?_
      walk_nrm
      refine .val hP rfl rfl rfl (.pointer (some ⟨X.rp, 0, none⟩)) (fun τ => by simp [go_sem]) ?_
      walk_nrm
      refine .val hP rfl rfl rfl (.pointer (some ⟨X.rp, 3, none⟩)) (fun τ => by simp [go_sem]) ?_
      walk_nrm
      refine .val hP rfl rfl rfl (.slice a3 G.went.length c3) (fun τ => by simp [go_sem, gh_cell, hv3]) ?_
      walk_nrm
      refine .val hP rfl rfl rfl (.int .i64 (G.went.length : Int)) (fun τ => by simp [go_sem]) ?_
      walk_nrm
      refine .val hP rfl rfl rfl (.int .i64 (most : Int)) (fun τ => by simp [go_sem]) ?_
      walk_nrm
      by_cases hcut : G.went.length = most
      · have hz2 : ((G.went.length : Int) == (most : Int)) = true := by rw [hcut]; simp
        refine .val hP rfl rfl rfl (.bool true) (fun τ => by simp [go_sem, hz2]; try omega) ?_
        walk_nrm
        refine .val hP rfl rfl rfl (.bool true) (fun τ => by simp [go_sem]) ?_
        walk_nrm
        refine .ctl0 rfl (fun _ => Go.Conc.stepG_region_end) (.ctl0 rfl (fun _ => Go.Conc.stepG_cond (t := true) rfl) ?_)
        simp only [if_true]
        refine .ctl0 rfl (fun _ => Go.Conc.stepG_seq) (.ctl0 rfl (fun _ => Go.Conc.stepG_region) ?_)
        refine .val hP rfl rfl rfl (.int .i8 2) (fun τ => by simp [go_sem]) ?_
        walk_nrm
        refine .val hP rfl rfl rfl (.bool true) (fun τ => by simp [go_sem]) ?_
        walk_nrm
        refine .ctl0 rfl (fun _ => Go.Conc.stepG_region_end) (.ctl0 rfl (fun _ => Go.Conc.stepG_ret') ?_)
        refine .leave (v := .tuple #[.int .i8 2, .bool true]) rfl rfl Try.func44 (fun w => by simp [go_sem, results, Try.f44]) (fun w => by simp [go_sem, results, Try.f44]) ?_
        have := hn m1 O Γ G I1 S hprom hKP1 hst ⟨by rw [AS.run_cut hov hab hcut], Ext.refl _⟩
        rw [AS.run_cut hov hab hcut] at this
        exact this
      have hz2 : ((G.went.length : Int) == (most : Int)) = false := by
        simp only [beq_eq_false_iff_ne, ne_eq]; omega
      refine .val hP rfl rfl rfl (.bool false) (fun τ => by simp [go_sem, hz2]; try omega) ?_
      walk_nrm
      refine .val hP rfl rfl rfl (.bool false) (fun τ => by simp [go_sem]) ?_
      walk_nrm
      refine .ctl0 rfl (fun _ => Go.Conc.stepG_region_end) (.ctl0 rfl (fun _ => Go.Conc.stepG_cond (t := false) rfl) ?_)
      simp only [Bool.false_eq_true, if_false]
      refine .ctl0 rfl (fun _ => Go.Conc.stepG_skip) (.ctl0 rfl (fun _ => Go.Conc.stepG_inBlock) (.ctl0 rfl (fun _ => Go.Conc.stepG_seq) (.ctl0 rfl (fun _ => Go.Conc.stepG_region) ?_)))
      refine .val hP rfl rfl rfl (.func (.func sf) #[] caps) (fun τ => by simp [go_sem]) ?_
      walk_nrm
      refine .val hP rfl rfl rfl (.pointer (some ⟨X.rp, 0, none⟩)) (fun τ => by simp [go_sem]) ?_
      walk_nrm
      refine .val hP rfl rfl rfl (.pointer (some ⟨X.rp, 0, none⟩)) (fun τ => by simp [go_sem]) ?_
      walk_nrm
      refine .val hP rfl rfl rfl (.pointer (some ⟨X.rp, 3, none⟩)) (fun τ => by simp [go_sem]) ?_
      walk_nrm
      refine .val hP rfl rfl rfl (.slice a3 G.went.length c3) (fun τ => by simp [go_sem, gh_cell, hv3]) ?_
      walk_nrm
      refine .val hP rfl rfl rfl (.int .i64 (G.went.length : Int)) (fun τ => by simp [go_sem]) ?_
      walk_nrm
      refine .val hP rfl rfl rfl (.slice la G.abs.able.length lc) (fun τ => by simp [go_sem]) ?_
      walk_nrm
      refine .enter (f := sf) (args := #[.int .i64 (G.went.length : Int), .slice la G.abs.able.length lc] ++ caps) rfl rfl (fun w => ?_) (fun w => ?_) ?_
      · have := (callFunc_enter hsf hsn hsb (#[.int .i64 (G.went.length : Int), .slice la G.abs.able.length lc] ++ caps) w).1
        simp [go_sem, this]
      · have := (callFunc_enter hsf hsn hsb (#[.int .i64 (G.went.length : Int), .slice la G.abs.able.length lc] ++ caps) w).2
        simp [go_sem, this]
      obtain ⟨lb, hla, hlcells, hlcap⟩ : ∃ lb, la = some ⟨lb, 0, none⟩ ∧ (∀ j, j < G.abs.able.length → m1.cell? ⟨lb, j, none⟩ = some (.pointer (some ⟨G.tpOf (G.abs.able.getD j 0), 0, none⟩))) ∧ G.abs.able.length ≤ lc := by
        rcases hown.2 with ⟨_, z⟩ | ⟨g, cap, cur, z, _, hm, hc1, _⟩
        · exact absurd (List.eq_nil_of_length_eq_zero z) hab
        · cases z
          refine ⟨g, rfl, fun j hj => ?_, hc1⟩
          rw [World.ownsRow.cellAt hown j (by omega)]
          simp [ptrs, List.getElem?_eq_getElem hj, List.getD_eq_getElem?_getD]
      subst hla
      refine Okk.callC hP hsf hsb hsok (R := fun v g' => v = (match sched G.abs with | none => .pointer none | some k => .pointer (some ⟨G.tpOf k, 0, none⟩)) ∧ Upto (fun _ => False) m1 g') (Callable.mk rfl) (fun τ => (hcall m1 O G I1 hKP1 hst hab lb lc (re (O.gh h m1) τ 0) (fun a u hu => by rw [re_cell?, gh_cell]; exact hu) (fun j hj => by rw [re_cell?, gh_cell]; exact hlcells j hj) hlcap).mono ?_) ?_
      · rintro e w' ⟨rfl, rfl⟩
        exact ⟨_, rfl, rfl, (Upto.gh (O := O) (h := h)).heap rfl⟩
      rintro v m2 ⟨hv, hu2⟩ _
      have I2 := I1.same hu2
      have hKP2 := hKP1.upto hu2
      rw [Frame.finish_at]
      walk_nrm
      cases hsc : sched G.abs with
      | none =>
        rw [hsc] at hv
        simp only at hv
        subst hv
        refine .val hP rfl rfl rfl (.pointer none) (fun τ => by simp [go_sem]) ?_
        walk_nrm
        refine .ctl0 rfl (fun _ => Go.Conc.stepG_region_end) (.ctl0 rfl (fun _ => Go.Conc.stepG_seq) (.ctl0 rfl (fun _ => Go.Conc.stepG_seq) (.ctl0 rfl (fun _ => Go.Conc.stepG_region) ?_)))
        refine .val hP rfl rfl rfl (.pointer none) (fun τ => by simp [go_sem]) ?_
        walk_nrm
        refine .val hP rfl rfl rfl (.bool true) (fun τ => by simp [go_sem, Try.underlying30, Program.pointee]) ?_
        walk_nrm
        refine .ctl0 rfl (fun _ => Go.Conc.stepG_region_end) (.ctl0 rfl (fun _ => Go.Conc.stepG_cond (t := true) rfl) ?_)
        simp only [if_true]
        refine .ctl0 rfl (fun _ => Go.Conc.stepG_seq) (.ctl0 rfl (fun _ => Go.Conc.stepG_region) ?_)
        refine .val hP rfl rfl rfl (.int .i8 0) (fun τ => by simp [go_sem]) ?_
        walk_nrm
        refine .val hP rfl rfl rfl (.bool false) (fun τ => by simp [go_sem]) ?_
        walk_nrm
        refine .ctl0 rfl (fun _ => Go.Conc.stepG_region_end) (.ctl0 rfl (fun _ => Go.Conc.stepG_ret') ?_)
        refine .leave (v := .tuple #[.int .i8 0, .bool false]) rfl rfl Try.func44 (fun w => by simp [go_sem, results, Try.f44]) (fun w => by simp [go_sem, results, Try.f44]) ?_
        have hcut' : G.abs.went.length ≠ most := hcut
        have := hn m2 O Γ G I2 S hprom hKP2 hst ⟨by rw [AS.run_none hov hab hcut' hsc], Ext.refl _⟩
        rw [AS.run_none hov hab hcut' hsc] at this
        exact this
      | some k =>
        rw [hsc] at hv
        simp only at hv
        subst hv
        have hcut' : G.abs.went.length ≠ most := hcut
        obtain ⟨fuel, rfl⟩ : ∃ f, fuel = f + 1 := ⟨fuel - 1, by omega⟩
        have hkin := hsin _ _ hsc
        simp only [AS.able, List.mem_filter, List.mem_range, hpl] at hkin
        obtain ⟨hkl, hkr⟩ := hkin
        obtain ⟨td, htd⟩ : ∃ td, G.tds[k]? = some td := ⟨G.tds[k], List.getElem?_eq_getElem hkl⟩
        have htp : G.tpOf k = td.tp := by simp [GSt.tpOf, htd]
        have hT : td.T.isOver = false := by
          simp only [AS.rdy, GSt.abs, List.getElem?_map, htd, Option.map_some] at hkr
          cases e : td.T <;> first | rfl | (rw [e] at hkr; simp [Th.can] at hkr)
        rw [htp]
        refine .val hP rfl rfl rfl (.pointer (some ⟨td.tp, 0, none⟩)) (fun τ => by simp [go_sem]) ?_
        walk_nrm
        refine .ctl0 rfl (fun _ => Go.Conc.stepG_region_end) (.ctl0 rfl (fun _ => Go.Conc.stepG_seq) (.ctl0 rfl (fun _ => Go.Conc.stepG_seq) (.ctl0 rfl (fun _ => Go.Conc.stepG_region) ?_)))
        refine .val hP rfl rfl rfl (.pointer (some ⟨td.tp, 0, none⟩)) (fun τ => by simp [go_sem]) ?_
        walk_nrm
        refine .val hP rfl rfl rfl (.bool false) (fun τ => by simp [go_sem, Try.underlying30, Program.pointee]) ?_
        walk_nrm
        refine .ctl0 rfl (fun _ => Go.Conc.stepG_region_end) (.ctl0 rfl (fun _ => Go.Conc.stepG_cond (t := false) rfl) ?_)
        simp only [Bool.false_eq_true, if_false]
        have key : ∀ (y2 y4 y5 y6 y7 y8 y9 y10 y11 y13 y15 y16 y17 y18 y19 y20 y21 y22 y23 y24 y25 y26 y27 y28 y29 y30 y31 y32 y33 y34 y35 y36 y37 y38 y39 y40 y41 y42 y43 y44 y45 y46 y47 y48 y49 y50 y51 y52 y53 y54 y55 y56 y57 y58 y59 y60 y61 y62 y63 y64 y65 y66 y67 y68 y69 y70 y71 y72 y73 y74 y75 y76 y77 y78 y79 : Value), Okk Try.prog X.Φ h (Go.Conc.G ((base 44).at ⟨#[.pointer (some ⟨X.rp, 0, none⟩), .int .i64 (most : Int), y2, .func (.func sf) #[] caps, y4, y5, y6, y7, y8, y9, y10, y11, .slice (some ⟨lb, 0, none⟩) G.abs.able.length lc, y13, .pointer (some ⟨td.tp, 0, none⟩), y15, y16, y17, y18, y19, y20, y21, y22, y23, y24, y25, y26, y27, y28, y29, y30, y31, y32, y33, y34, y35, y36, y37, y38, y39, y40, y41, y42, y43, y44, y45, y46, y47, y48, y49, y50, y51, y52, y53, y54, y55, y56, y57, y58, y59, y60, y61, y62, y63, y64, y65, y66, y67, y68, y69, y70, y71, y72, y73, y74, y75, y76, y77, y78, y79], []⟩ [.code c44_16, .code c44_r, .inBlock 3, .inLoop body44, .inBlock 2]) (c :: cs)) m2 O Γ := by
          intro y2 y4 y5 y6 y7 y8 y9 y10 y11 y13 y15 y16 y17 y18 y19 y20 y21 y22 y23 y24 y25 y26 y27 y28 y29 y30 y31 y32 y33 y34 y35 y36 y37 y38 y39 y40 y41 y42 y43 y44 y45 y46 y47 y48 y49 y50 y51 y52 y53 y54 y55 y56 y57 y58 y59 y60 y61 y62 y63 y64 y65 y66 y67 y68 y69 y70 y71 y72 y73 y74 y75 y76 y77 y78 y79
          have hv3' := hu2.cell _ _ hv3 (fun z => z)
          have hR3' := hR3.upto hu2 (fun _ _ _ z => z)
          have hsz2 : ∀ τ, (re (O.gh h m2) τ 0).heap.size = m2.heap.size := fun τ => gh_size
          have D2 := I2.td k td htd
          refine Okk.fresh fun hF2 => ?_
          refine .code hP (c := c44_16) (by simp [c44_16, body44, Try.f44, okCode, okOp]) (Q := fun t w' => ∃ v3', Turned X.rp 3 5 G.κ (.slice a3 G.went.length c3) m2 w' v3' ∧ w'.ownsRow Base.b0 3 1 v3' (G.went.length + 1) (G.went.map (Value.int .i64) ++ [.int .i64 (k : Int)]) ∧ ∃ (z54 z55 z56 z57 z58 z59 z60 z61 z62 z63 z64 z65 z66 : Value), t = #[.pointer (some ⟨X.rp, 0, none⟩), .int .i64 (most : Int), y2, .func (.func sf) #[] caps, y4, y5, y6, y7, y8, y9, y10, y11, .slice (some ⟨lb, 0, none⟩) G.abs.able.length lc, y13, .pointer (some ⟨td.tp, 0, none⟩), y15, y16, y17, y18, y19, y20, y21, y22, y23, y24, y25, y26, y27, y28, y29, y30, y31, y32, y33, y34, y35, y36, y37, y38, y39, y40, y41, y42, y43, y44, y45, y46, y47, y48, y49, y50, y51, y52, y53, z54, z55, z56, z57, z58, z59, z60, z61, z62, z63, z64, z65, z66, y67, y68, y69, y70, y71, y72, y73, y74, y75, y76, y77, y78, y79]) (fun τ => wp_mono (c44_16_wp (fun a w' => a.defers = [] ∧ ∃ v3', Turned X.rp 3 5 G.κ (.slice a3 G.went.length c3) m2 w' v3' ∧ w'.ownsRow Base.b0 3 1 v3' (G.went.length + 1) (G.went.map (Value.int .i64) ++ [.int .i64 (k : Int)]) ∧ ∃ (z54 z55 z56 z57 z58 z59 z60 z61 z62 z63 z64 z65 z66 : Value), a.tmps = #[.pointer (some ⟨X.rp, 0, none⟩), .int .i64 (most : Int), y2, .func (.func sf) #[] caps, y4, y5, y6, y7, y8, y9, y10, y11, .slice (some ⟨lb, 0, none⟩) G.abs.able.length lc, y13, .pointer (some ⟨td.tp, 0, none⟩), y15, y16, y17, y18, y19, y20, y21, y22, y23, y24, y25, y26, y27, y28, y29, y30, y31, y32, y33, y34, y35, y36, y37, y38, y39, y40, y41, y42, y43, y44, y45, y46, y47, y48, y49, y50, y51, y52, y53, z54, z55, z56, z57, z58, z59, z60, z61, z62, z63, z64, z65, z66, y67, y68, y69, y70, y71, y72, y73, y74, y75, y76, y77, y78, y79]) (re (O.gh h m2) τ 0) X.rp td.tp Base.b0 G.went.length k (.slice a3 G.went.length c3) (G.went.map (Value.int .i64)) _ _ _ _ _ _ _ _ _ _ _ _ _ _ _ _ _ _ _ _ _ _ _ _ _ _ _ _ _ _ _ _ _ _ _ _ _ _ _ _ _ _ _ _ _ _ _ _ _ _ _ _ _ _ _ _ _ _ _ _ _ _ _ _ _ _ _ _ _ _ _ _ _ _ _ _ _ _ (by rw [re_cell?, gh_cell]; exact hv3') (by rw [re_cell?, gh_cell]; exact D2.number) (gh_free I2.b0 (.inl I2.ro.1) (by rw [I2.ro.2]; exact Nat.zero_le _)) (hR3'.owns rfl) (by rw [hsz2]; have := I2.b0; have := I2.rlt; omega) I2.wlen.1 (fun e => by have := hk3 _ e; have := I2.k1; omega)
            (fun sb sm sk w' q1 q2 q3 => ⟨rfl, _, turned_of (h := h) (o := .cells #[.int .i64 (k : Int)] 3) (τ := τ) I2 hv3' hk3 (by decide) q1 q2 q3, own_set q1 _ (turned_ne I2 hk3 (by decide) q3 hsz2), ?_⟩)) (fun e a w' hq => by
              cases e with
              | normal => exact ⟨rfl, hq.1, hq.2⟩
              | _ => exact hq.elim)) ?_
          · exact ⟨_, _, _, _, _, _, _, _, _, _, _, _, _, rfl⟩
          rintro _ m3 ⟨v3', T3, hx3, z54, z55, z56, z57, z58, z59, z60, z61, z62, z63, z64, z65, z66, rfl⟩ _
          obtain ⟨κ3, hE3, I3⟩ := I2.went' hF2 hv3' T3 hx3 (by omega)
          have hKP3 := hKP2.turn I2 hR3' T3
          obtain ⟨v4, hv4, hR4, hk4⟩ := I3.ready
          simp only [c44_r, body44, Try.f44]
          refine .ctl0 rfl (fun _ => Go.Conc.stepG_seq) ?_
          have hsz3 : ∀ τ, (re (O.gh h m3) τ 0).heap.size = m3.heap.size := fun τ => gh_size
          refine Okk.fresh fun hF3 => ?_
          refine .code hP (c := c44_17) (by simp [c44_17, body44, Try.f44, okCode, okOp]) (Q := fun t w' => ∃ v4', Turned X.rp 4 6 κ3 v4 m3 w' v4' ∧ w'.ownsRow Base.b0 3 1 v4' (G.ready.length + 1) (G.ready.map (Value.int .i64) ++ [.int .i64 (G.abs.able.length : Int)]) ∧ ∃ (x67 x68 x69 x70 x71 x72 x73 x74 x75 x76 x77 : Value), t = #[.pointer (some ⟨X.rp, 0, none⟩), .int .i64 (most : Int), y2, .func (.func sf) #[] caps, y4, y5, y6, y7, y8, y9, y10, y11, .slice (some ⟨lb, 0, none⟩) G.abs.able.length lc, y13, .pointer (some ⟨td.tp, 0, none⟩), y15, y16, y17, y18, y19, y20, y21, y22, y23, y24, y25, y26, y27, y28, y29, y30, y31, y32, y33, y34, y35, y36, y37, y38, y39, y40, y41, y42, y43, y44, y45, y46, y47, y48, y49, y50, y51, y52, y53, z54, z55, z56, z57, z58, z59, z60, z61, z62, z63, z64, z65, z66, x67, x68, x69, x70, x71, x72, x73, x74, x75, x76, x77, y78, y79]) (fun τ => wp_mono (c44_17_wp (fun a w' => a.defers = [] ∧ ∃ v4', Turned X.rp 4 6 κ3 v4 m3 w' v4' ∧ w'.ownsRow Base.b0 3 1 v4' (G.ready.length + 1) (G.ready.map (Value.int .i64) ++ [.int .i64 (G.abs.able.length : Int)]) ∧ ∃ (x67 x68 x69 x70 x71 x72 x73 x74 x75 x76 x77 : Value), a.tmps = #[.pointer (some ⟨X.rp, 0, none⟩), .int .i64 (most : Int), y2, .func (.func sf) #[] caps, y4, y5, y6, y7, y8, y9, y10, y11, .slice (some ⟨lb, 0, none⟩) G.abs.able.length lc, y13, .pointer (some ⟨td.tp, 0, none⟩), y15, y16, y17, y18, y19, y20, y21, y22, y23, y24, y25, y26, y27, y28, y29, y30, y31, y32, y33, y34, y35, y36, y37, y38, y39, y40, y41, y42, y43, y44, y45, y46, y47, y48, y49, y50, y51, y52, y53, z54, z55, z56, z57, z58, z59, z60, z61, z62, z63, z64, z65, z66, x67, x68, x69, x70, x71, x72, x73, x74, x75, x76, x77, y78, y79]) (re (O.gh h m3) τ 0) X.rp Base.b0 G.ready.length G.abs.able.length lc (some ⟨lb, 0, none⟩) v4 (G.ready.map (Value.int .i64)) _ _ _ _ _ _ _ _ _ _ _ _ _ _ _ _ _ _ _ _ _ _ _ _ _ _ _ _ _ _ _ _ _ _ _ _ _ _ _ _ _ _ _ _ _ _ _ _ _ _ _ _ _ _ _ _ _ _ _ _ _ _ _ _ _ _ _ _ _ _ _ _ _ _ _ _ _ _ (by rw [re_cell?, gh_cell]; exact hv4) (gh_free I3.b0 (.inl I3.ro.1) (by rw [I3.ro.2]; exact Nat.zero_le _)) (hR4.owns rfl) (by rw [hsz3]; have := I3.b0; have := I3.rlt; omega) I3.wlen.2 (fun e => by have a1 : κ3 X.rp = 6 := hk4 _ e; have a2 : κ3 X.rp = 1 := I3.k1; omega)
            (fun sb sm sk w' q1 q2 q3 => ⟨rfl, _, turned_of (h := h) (o := .cells #[.int .i64 (G.abs.able.length : Int)] 3) (τ := τ) I3 hv4 hk4 (by decide) q1 ⟨q2.os, q2.tape, q2.output, q2.size, q2.block⟩ (fun g hg => q3 g hg), own_set q1 _ (turned_ne I3 hk4 (by decide) (fun g hg => q3 g hg) hsz3), ?_⟩)) (fun e a w' hq => by
              cases e with
              | normal => exact ⟨rfl, hq.1, hq.2⟩
              | _ => exact hq.elim)) ?_
          · exact ⟨_, _, _, _, _, _, _, _, _, _, _, rfl⟩
          rintro _ m4 ⟨v4', T4, hx4, x67, x68, x69, x70, x71, x72, x73, x74, x75, x76, x77, rfl⟩ _
          obtain ⟨κ4, hE4, I4⟩ := I3.ready' hF3 hv4 T4 hx4 (by show G.ready.length < 65536; omega)
          have hKP4 := hKP3.turn I3 hR4 T4
          have hE04 : Ext G.κ κ4 := hE3.trans hE4
          have I5 := I4.recap (n := G.s.log.length + 10000) (by show G.s.log.length ≤ _; omega) (by omega)
          refine .ctl0 rfl (fun _ => Go.Conc.stepG_region) ?_
          refine .val hP rfl rfl rfl (.pointer (some ⟨td.tp, 0, none⟩)) (fun τ => by simp [go_sem]) ?_
          walk_nrm
          refine .enter (f := 77) (args := #[.pointer (some ⟨td.tp, 0, none⟩)]) rfl rfl (fun w => ?_) (fun w => ?_) ?_
          · have := (callFunc_enter Try.func77 (by kernel_rfl) rfl #[.pointer (some ⟨td.tp, 0, none⟩)] w).1
            simp [go_sem, this]
          · have := (callFunc_enter Try.func77 (by kernel_rfl) rfl #[.pointer (some ⟨td.tp, 0, none⟩)] w).2
            simp [go_sem, this]
          have hpr4 : Proms X { G with went := G.went ++ [(k : Int)], ready := G.ready ++ [(G.abs.able.length : Int)], κ := κ4, cap := G.s.log.length + 10000 } := fun i td' hi => (hprom i td' hi).mono hE04
          refine Okk.goesI I5 (S.as rfl) hE htd rfl hT (hpr4 k td htd) (fun _ => Nat.le_refl _) fun m5 O5 Γ5 G5 hled IM SM hk => ?_
          obtain ⟨l1, l2, l3, l4, l5⟩ := hled.abs htd hst hpr4
          rw [Frame.finish_at]
          walk_nrm
          refine .ctl0 rfl (fun _ => Go.Conc.stepG_region_end) (.ctl0 rfl (fun _ => Go.Conc.stepG_inBlock) (.ctl0 rfl (fun _ => Go.Conc.stepG_inLoop) ?_))
          have hw5 : G5.went = G.went ++ [(k : Int)] := by have := congrArg AS.went l1; rw [AS.turn_went] at this; exact this
          have hr5 : G5.ready = G.ready ++ [(G.abs.able.length : Int)] := by have := congrArg AS.ready l1; rw [AS.turn_ready] at this; exact this
          have hrun : AS.run sched most (fuel + 1) G.abs = AS.run sched most fuel G5.abs := by
            rw [AS.run_go hov hab hcut' hsc, l1]; rfl
          refine ih fuel (by omega) m5 O5 Γ5 G5 _ _ _ _ _ _ _ _ _ _ _ _ _ _ _ _ _ _ _ _ _ _ _ _ _ _ _ _ _ _ _ _ _ _ _ _ _ _ _ _ _ _ _ _ _ _ _ _ _ _ _ _ _ _ _ _ _ _ _ _ _ _ _ _ _ _ _ _ _ _ _ _ _ _ _ _ _ IM SM l2 (hKP4.kept hk) l4 (by rw [hw5]; simp; omega) (by rw [hw5, hr5]; simp; omega) (by rw [hw5]; have := IM.llen; rw [l5] at this; simp at this ⊢; omega) ?_
          intro m' O' Γ' G' q1 q2 q3 q4 q5 q6
          have := hn m' O' Γ' G' q1 q2 q3 q4 q5 ⟨by rw [hrun]; exact q6.1, (hE04.trans l3).trans q6.2⟩
          rw [hrun] at this
          exact this
        exact .ctl0 rfl (fun _ => Go.Conc.stepG_skip) (.ctl0 rfl (fun _ => Go.Conc.stepG_seq) (key _ _ _ _ _ _ _ _ _ _ _ _ _ _ _ _ _ _ _ _ _ _ _ _ _ _ _ _ _ _ _ _ _ _ _ _ _ _ _ _ _ _ _ _ _ _ _ _ _ _ _ _ _ _ _ _ _ _ _ _ _ _ _ _ _ _ _ _ _ _ _ _ _ _ _))
end
end Go.Proofs.Ytkbfbphbdljaaaa

/- gate's until, whole. Every premise stands in the statements. -/
set_option linter.unusedVariables false
set_option linter.unusedSimpArgs false
namespace Go.Proofs.Ytkbfbphbdljaaaa
open Go.Tre Go.RowKit
open Go.Conc (G base baseD crowd rcase scase)
open Go.ConcN (upd upd_ne upd_same)
variable {Λ : Type}
/-- A body: its value, what it does at its beginning, what it is then about to do. -/
structure Bd (Λ : Type) where
  fv : Value
  init : Nat → Sh Λ → Sh Λ
  child : Nat → Sh Λ → Th Λ
def AS.begins (A : AS Λ) (l : List (Bd Λ)) : AS Λ := l.foldl (fun A b => A.begin b.init b.child) A
section
variable [Base]
noncomputable def loop44 : Code := match Try.f44.body with | some (.seq _ (.seq (.seq _ (.block _ (.loop c))) _)) => c | _ => .skip
set_option maxRecDepth 100000 in
set_option maxHeartbeats 4000000 in
theorem Okk.begins {X : Rn Λ} {h most bb bc : Nat} {sv : Value} {KP : Addr → Option Value} {c : Frame} {cs : List Frame} (bs : List (Bd Λ)) (hE : X.E h = none) (hn64 : bs.length ≤ 64) (hborn : ∀ b ∈ bs, Born X b.fv b.init b.child)
    (hbs : ∀ (j : Nat) (b : Bd Λ), bs[j]? = some b → KP ⟨bb, j, none⟩ = some b.fv) :
    ∀ (n j : Nat) (m : World) (O : Own) (Γ : Nat → Option Seat) (G : GSt Λ) (y2 y4 y5 y6 y7 y8 y9 y10 y11 y12 y13 y14 y18 y19 y20 y21 y22 y23 y24 y25 y26 y27 y28 y29 y30 y31 y32 y33 y34 y35 y36 y37 y38 y39 y40 y41 y42 y43 y44 y45 y46 y47 y48 y49 y50 y51 y52 y53 y54 y55 y56 y57 y58 y59 y60 y61 y62 y63 y64 y65 y66 y67 y68 y69 y70 y71 y72 y73 y74 y75 y76 y77 y78 y79 : Value), n + j = bs.length → MemI X.L X.rp X.mb (fun _ => none) G m O → SeatI X.E h (fun _ => none) G Γ → Proms X G → Holds KP h m O → G.st = false → G.tds.length = j → G.s.log.length ≤ 4000 * j → G.went = [] → G.ready = [] →
      (∀ (m' : World) (O' : Own) (Γ' : Nat → Option Seat) (G' : GSt Λ) (y2 y4 y5 y6 y7 y8 y9 y10 y11 y12 y13 y14 y17 y18 y19 y20 y21 y22 y23 y24 y25 y26 y27 y28 y29 y30 y31 y32 y33 y34 y35 y36 y37 y38 y39 y40 y41 y42 y43 y44 y45 y46 y47 y48 y49 y50 y51 y52 y53 y54 y55 y56 y57 y58 y59 y60 y61 y62 y63 y64 y65 y66 y67 y68 y69 y70 y71 y72 y73 y74 y75 y76 y77 y78 y79 : Value), MemI X.L X.rp X.mb (fun _ => none) G' m' O' → SeatI X.E h (fun _ => none) G' Γ' → Proms X G' → Holds KP h m' O' → G'.st = false → G'.s.log.length ≤ 256000 → G'.abs = G.abs.begins (bs.drop j) ∧ Ext G.κ G'.κ →
        Okk Try.prog X.Φ h (Go.Conc.G ((base 44).at ⟨#[.pointer (some ⟨X.rp, 0, none⟩), .int .i64 (most : Int), y2, sv, y4, y5, y6, y7, y8, y9, y10, y11, y12, y13, y14, .slice (some ⟨bb, 0, none⟩) bs.length bc, .int .i64 (bs.length : Int), y17, y18, y19, y20, y21, y22, y23, y24, y25, y26, y27, y28, y29, y30, y31, y32, y33, y34, y35, y36, y37, y38, y39, y40, y41, y42, y43, y44, y45, y46, y47, y48, y49, y50, y51, y52, y53, y54, y55, y56, y57, y58, y59, y60, y61, y62, y63, y64, y65, y66, y67, y68, y69, y70, y71, y72, y73, y74, y75, y76, y77, y78, y79], []⟩ [.code (match Try.f44.body with | some (.seq _ (.seq _ c)) => c | _ => .skip)]) (c :: cs)) m' O' Γ') →
      Okk Try.prog X.Φ h (Go.Conc.G ((base 44).at ⟨#[.pointer (some ⟨X.rp, 0, none⟩), .int .i64 (most : Int), y2, sv, y4, y5, y6, y7, y8, y9, y10, y11, y12, y13, y14, .slice (some ⟨bb, 0, none⟩) bs.length bc, .int .i64 (bs.length : Int), .int .i64 (j : Int), y18, y19, y20, y21, y22, y23, y24, y25, y26, y27, y28, y29, y30, y31, y32, y33, y34, y35, y36, y37, y38, y39, y40, y41, y42, y43, y44, y45, y46, y47, y48, y49, y50, y51, y52, y53, y54, y55, y56, y57, y58, y59, y60, y61, y62, y63, y64, y65, y66, y67, y68, y69, y70, y71, y72, y73, y74, y75, y76, y77, y78, y79], []⟩ [.code loop44, .inLoop loop44, .inBlock 0, .code (match Try.f44.body with | some (.seq _ (.seq _ c)) => c | _ => .skip)]) (c :: cs)) m O Γ := by
  have hP := try_plain2
  intro n
  induction n with
  | zero =>
    intro j m O Γ G y2 y4 y5 y6 y7 y8 y9 y10 y11 y12 y13 y14 y18 y19 y20 y21 y22 y23 y24 y25 y26 y27 y28 y29 y30 y31 y32 y33 y34 y35 y36 y37 y38 y39 y40 y41 y42 y43 y44 y45 y46 y47 y48 y49 y50 y51 y52 y53 y54 y55 y56 y57 y58 y59 y60 y61 y62 y63 y64 y65 y66 y67 y68 y69 y70 y71 y72 y73 y74 y75 y76 y77 y78 y79 hj I S hprom hKP hst htl hlog hw hr hn
    obtain rfl : j = bs.length := by omega
    simp only [loop44, Try.f44]
    refine .ctl0 rfl (fun _ => Go.Conc.stepG_seq) (.ctl0 rfl (fun _ => Go.Conc.stepG_region) ?_)
    refine .val hP rfl rfl rfl (.bool false) (fun τ => by simp [go_sem]) ?_
    walk_nrm
    refine .ctl0 rfl (fun _ => Go.Conc.stepG_region_end) (.ctl0 rfl (fun _ => Go.Conc.stepG_seq) (.ctl0 rfl (fun _ => Go.Conc.stepG_cond (t := false) rfl) ?_))
    simp only [Bool.false_eq_true, if_false]
    refine .ctl0 rfl (fun _ => Go.Conc.stepG_exit rfl) ?_
    exact hn m O Γ G _ _ _ _ _ _ _ _ _ _ _ _ _ _ _ _ _ _ _ _ _ _ _ _ _ _ _ _ _ _ _ _ _ _ _ _ _ _ _ _ _ _ _ _ _ _ _ _ _ _ _ _ _ _ _ _ _ _ _ _ _ _ _ _ _ _ _ _ _ _ _ _ _ _ _ I S hprom hKP hst (by omega) ⟨by simp [AS.begins], Ext.refl _⟩
  | succ n ih =>
    intro j m O Γ G y2 y4 y5 y6 y7 y8 y9 y10 y11 y12 y13 y14 y18 y19 y20 y21 y22 y23 y24 y25 y26 y27 y28 y29 y30 y31 y32 y33 y34 y35 y36 y37 y38 y39 y40 y41 y42 y43 y44 y45 y46 y47 y48 y49 y50 y51 y52 y53 y54 y55 y56 y57 y58 y59 y60 y61 y62 y63 y64 y65 y66 y67 y68 y69 y70 y71 y72 y73 y74 y75 y76 y77 y78 y79 hj I S hprom hKP hst htl hlog hw hr hn
    have hjl : j < bs.length := by omega
    obtain ⟨b, hb⟩ : ∃ b, bs[j]? = some b := ⟨bs[j], List.getElem?_eq_getElem hjl⟩
    have hcell := (mine_some (hKP _ _ (hbs j b hb)).1).2.2
    have hbf := (hborn b (List.mem_of_getElem? hb)).isBody
    simp only [loop44, Try.f44]
    refine .ctl0 rfl (fun _ => Go.Conc.stepG_seq) (.ctl0 rfl (fun _ => Go.Conc.stepG_region) ?_)
    refine .val hP rfl rfl rfl (.bool true) (fun τ => by simp [go_sem]; try omega) ?_
    walk_nrm
    refine .ctl0 rfl (fun _ => Go.Conc.stepG_region_end) (.ctl0 rfl (fun _ => Go.Conc.stepG_seq) (.ctl0 rfl (fun _ => Go.Conc.stepG_cond (t := true) rfl) ?_))
    simp only [if_true]
    refine .ctl0 rfl (fun _ => Go.Conc.stepG_skip) (.ctl0 rfl (fun _ => Go.Conc.stepG_seq) (.ctl0 rfl (fun _ => Go.Conc.stepG_block) (.ctl0 rfl (fun _ => Go.Conc.stepG_seq) (.ctl0 rfl (fun _ => Go.Conc.stepG_region) ?_))))
    refine .val hP rfl rfl rfl (.pointer (some ⟨bb, j, none⟩)) (fun τ => by simp [go_sem]; try omega) ?_
    walk_nrm
    refine .val hP rfl rfl rfl b.fv (fun τ => by rcases hbf with e | ⟨f, fn, c, caps, e, _⟩ <;> rw [e] at hcell ⊢ <;> simp [go_sem, gh_cell, hcell]) ?_
    walk_nrm
    refine .val hP rfl rfl rfl b.fv (fun τ => by rcases hbf with e | ⟨f, fn, c, caps, e, _⟩ <;> rw [e] <;> simp [go_sem]) ?_
    walk_nrm
    refine .ctl0 rfl (fun _ => Go.Conc.stepG_region_end) (.ctl0 rfl (fun _ => Go.Conc.stepG_region) ?_)
    refine .val hP rfl rfl rfl (.pointer (some ⟨X.rp, 0, none⟩)) (fun τ => by simp [go_sem]) ?_
    walk_nrm
    refine .val hP rfl rfl rfl b.fv (fun τ => by simp [go_sem]) ?_
    walk_nrm
    refine .enter (f := 75) (args := #[.pointer (some ⟨X.rp, 0, none⟩), b.fv]) rfl rfl (fun w => ?_) (fun w => ?_) ?_
    · have := (callFunc_enter Try.func75 (by kernel_rfl) rfl #[.pointer (some ⟨X.rp, 0, none⟩), b.fv] w).1
      simp [go_sem, this]
    · have := (callFunc_enter Try.func75 (by kernel_rfl) rfl #[.pointer (some ⟨X.rp, 0, none⟩), b.fv] w).2
      simp [go_sem, this]
    have I1 := I.recap (n := G.s.log.length + 4000) (by omega) (by omega)
    refine Okk.beginI (G := { G with cap := G.s.log.length + 4000 }) I1 (S.as rfl) hE hst (by show G.tds.length < 64; omega) rfl (hborn b (List.mem_of_getElem? hb)) (Nat.le_refl _) fun m' O' Γ' G' td' hG' hT hp IM SM hk => ?_
    obtain ⟨κ', hκ, rfl⟩ := hG'
    rw [Frame.finish_at]
    walk_nrm
    refine .ctl0 rfl (fun _ => Go.Conc.stepG_region_end) (.ctl0 rfl (fun _ => Go.Conc.stepG_inBlock) (.ctl0 rfl (fun _ => Go.Conc.stepG_region) ?_))
    refine .val hP rfl rfl rfl (.int .i64 ((j + 1 : Nat) : Int)) (fun τ => by
      have hwr : IntKind.i64.wrap ((j : Int) + 1) = ((j + 1 : Nat) : Int) := by
        have h1 : (-9223372036854775808 : Int) ≤ (j : Int) + 1 := by omega
        have h2 : (j : Int) + 1 ≤ 9223372036854775807 := by omega
        rw [IntWalk.i64_in _ ⟨h1, h2⟩]; omega
      simp [go_sem, hwr]; try omega) ?_
    walk_nrm
    refine .val hP rfl rfl rfl (.int .i64 ((j + 1 : Nat) : Int)) (fun τ => by simp [go_sem]) ?_
    walk_nrm
    refine .ctl0 rfl (fun _ => Go.Conc.stepG_region_end) (.ctl0 rfl (fun _ => Go.Conc.stepG_inLoop) ?_)
    have hlog' := IM.llen
    have hp' : Proms X { G with s := b.init G.tds.length G.s, tds := G.tds ++ [td'], κ := κ', cap := G.s.log.length + 4000 } := fun i td hi => Proms.begun (s' := b.init G.tds.length G.s) hprom hκ (by rw [hT]; exact hp) i td hi
    have habs : GSt.abs { G with s := b.init G.tds.length G.s, tds := G.tds ++ [td'], κ := κ', cap := G.s.log.length + 4000 } = G.abs.begin b.init b.child := by
      simp only [GSt.abs, AS.begin, List.map_append, List.map_cons, List.map_nil, hT, List.length_map]
    refine ih (j + 1) m' O' Γ' _ _ _ _ _ _ _ _ _ _ _ _ _ _ _ _ _ _ _ _ _ _ _ _ _ _ _ _ _ _ _ _ _ _ _ _ _ _ _ _ _ _ _ _ _ _ _ _ _ _ _ _ _ _ _ _ _ _ _ _ _ _ _ _ _ _ _ _ _ _ _ _ _ _ _ (by omega) IM SM hp' (hKP.kept hk) hst (by simp; omega) (by simp only at hlog' ⊢; omega) hw hr ?_
    intro m2 O2 Γ2 G2 y2 y4 y5 y6 y7 y8 y9 y10 y11 y12 y13 y14 y17 y18 y19 y20 y21 y22 y23 y24 y25 y26 y27 y28 y29 y30 y31 y32 y33 y34 y35 y36 y37 y38 y39 y40 y41 y42 y43 y44 y45 y46 y47 y48 y49 y50 y51 y52 y53 y54 y55 y56 y57 y58 y59 y60 y61 y62 y63 y64 y65 y66 y67 y68 y69 y70 y71 y72 y73 y74 y75 y76 y77 y78 y79 q1 q2 q3 q4 q5 q6 q7
    refine hn m2 O2 Γ2 G2 y2 y4 y5 y6 y7 y8 y9 y10 y11 y12 y13 y14 y17 y18 y19 y20 y21 y22 y23 y24 y25 y26 y27 y28 y29 y30 y31 y32 y33 y34 y35 y36 y37 y38 y39 y40 y41 y42 y43 y44 y45 y46 y47 y48 y49 y50 y51 y52 y53 y54 y55 y56 y57 y58 y59 y60 y61 y62 y63 y64 y65 y66 y67 y68 y69 y70 y71 y72 y73 y74 y75 y76 y77 y78 y79 q1 q2 q3 q4 q5 q6 ⟨?_, Ext.trans hκ q7.2⟩
    rw [q7.1, habs, List.drop_eq_getElem_cons hjl]
    have : bs[j] = b := by rw [List.getElem?_eq_getElem hjl] at hb; exact Option.some.inj hb
    rw [this]; rfl

set_option maxRecDepth 100000 in
set_option maxHeartbeats 4000000 in
/-- ████ until ████ -/
theorem Okk.untilI {X : Rn Λ} {h most bb bc : Nat} {sv : Value} {KP : Addr → Option Value} {sched : AS Λ → Option Nat} {c : Frame} {cs : List Frame} {m : World} {O : Own} {Γ : Nat → Option Seat} {G : GSt Λ} (bs : List (Bd Λ)) (hE : X.E h = none) (hS : SchedC X h sv KP sched) (hmost : most ≤ 65536)
    (hn64 : bs.length ≤ 64) (hborn : ∀ b ∈ bs, Born X b.fv b.init b.child) (ba : Option Addr) (hba : bs ≠ [] → ba = some ⟨bb, 0, none⟩) (hbs : ∀ (j : Nat) (b : Bd Λ), bs[j]? = some b → KP ⟨bb, j, none⟩ = some b.fv)
    (I : MemI X.L X.rp X.mb (fun _ => none) G m O) (S : SeatI X.E h (fun _ => none) G Γ) (hKP : Holds KP h m O) (hst : G.st = false) (ht : G.tds = []) (hl : G.s.log = []) (hw : G.went = []) (hr : G.ready = [])
    (hn : ∀ (m' : World) (O' : Own) (Γ' : Nat → Option Seat) (G' : GSt Λ), MemI X.L X.rp X.mb (fun _ => none) G' m' O' → SeatI X.E h (fun _ => none) G' Γ' → Proms X G' → Holds KP h m' O' → G'.st = false → G'.abs = (AS.run sched most most (G.abs.begins bs)).1 ∧ Ext G.κ G'.κ →
        Okk Try.prog X.Φ h (Go.Conc.G (c.finish (.tuple #[.int .i8 (AS.run sched most most (G.abs.begins bs)).2.1, .bool (AS.run sched most most (G.abs.begins bs)).2.2])) cs) m' O' Γ') :
    Okk Try.prog X.Φ h (Go.Conc.G (Frame.enter Try.prog 44 #[.pointer (some ⟨X.rp, 0, none⟩), .int .i64 (most : Int), .slice ba bs.length bc, sv] .normal) (c :: cs)) m O Γ := by
  have hP := try_plain2
  obtain ⟨sf, sfn, sc, caps, hsv, _⟩ := id hS
  rw [Go.Conc.enter_at _ Try.func44 rfl]
  simp only [Try.ntmps44]
  have habs0 : G.abs.went.length = 0 ∧ G.abs.ready.length = 0 := by simp [GSt.abs, hw, hr]
  have bw : ∀ (l : List (Bd Λ)) (A : AS Λ), (A.begins l).went = A.went ∧ (A.begins l).ready = A.ready := fun l => by
    induction l with
    | nil => intro A; exact ⟨rfl, rfl⟩
    | cons b l ih => intro A; exact ih (A.begin b.init b.child)
  -- the second loop
  have go : ∀ (m' : World) (O' : Own) (Γ' : Nat → Option Seat) (G' : GSt Λ) (y2 y4 y5 y6 y7 y8 y9 y10 y11 y12 y13 y14 y15 y16 y17 y18 y19 y20 y21 y22 y23 y24 y25 y26 y27 y28 y29 y30 y31 y32 y33 y34 y35 y36 y37 y38 y39 y40 y41 y42 y43 y44 y45 y46 y47 y48 y49 y50 y51 y52 y53 y54 y55 y56 y57 y58 y59 y60 y61 y62 y63 y64 y65 y66 y67 y68 y69 y70 y71 y72 y73 y74 y75 y76 y77 y78 y79 : Value), MemI X.L X.rp X.mb (fun _ => none) G' m' O' → SeatI X.E h (fun _ => none) G' Γ' → Proms X G' → Holds KP h m' O' → G'.st = false → G'.s.log.length ≤ 256000 → G'.abs = G.abs.begins bs ∧ Ext G.κ G'.κ →
        Okk Try.prog X.Φ h (Go.Conc.G ((base 44).at ⟨#[.pointer (some ⟨X.rp, 0, none⟩), .int .i64 (most : Int), y2, sv, y4, y5, y6, y7, y8, y9, y10, y11, y12, y13, y14, y15, y16, y17, y18, y19, y20, y21, y22, y23, y24, y25, y26, y27, y28, y29, y30, y31, y32, y33, y34, y35, y36, y37, y38, y39, y40, y41, y42, y43, y44, y45, y46, y47, y48, y49, y50, y51, y52, y53, y54, y55, y56, y57, y58, y59, y60, y61, y62, y63, y64, y65, y66, y67, y68, y69, y70, y71, y72, y73, y74, y75, y76, y77, y78, y79], []⟩ [.code (match Try.f44.body with | some (.seq _ (.seq _ c)) => c | _ => .skip)]) (c :: cs)) m' O' Γ' := by
    intro m' O' Γ' G' y2 y4 y5 y6 y7 y8 y9 y10 y11 y12 y13 y14 y15 y16 y17 y18 y19 y20 y21 y22 y23 y24 y25 y26 y27 y28 y29 y30 y31 y32 y33 y34 y35 y36 y37 y38 y39 y40 y41 y42 y43 y44 y45 y46 y47 y48 y49 y50 y51 y52 y53 y54 y55 y56 y57 y58 y59 y60 y61 y62 y63 y64 y65 y66 y67 y68 y69 y70 y71 y72 y73 y74 y75 y76 y77 y78 y79 q1 q2 q3 q4 q5 q6 q7
    simp only [Try.f44]
    refine .ctl0 rfl (fun _ => Go.Conc.stepG_block) (.ctl0 rfl (fun _ => Go.Conc.stepG_loop) ?_)
    have hw' : G'.went = [] := by have := congrArg AS.went q7.1; rw [(bw bs G.abs).1] at this; exact this.trans hw
    have hr' : G'.ready = [] := by have := congrArg AS.ready q7.1; rw [(bw bs G.abs).2] at this; exact this.trans hr
    refine Okk.turns hE hS hmost most m' O' Γ' G' _ _ _ _ _ _ _ _ _ _ _ _ _ _ _ _ _ _ _ _ _ _ _ _ _ _ _ _ _ _ _ _ _ _ _ _ _ _ _ _ _ _ _ _ _ _ _ _ _ _ _ _ _ _ _ _ _ _ _ _ _ _ _ _ _ _ _ _ _ _ _ _ _ _ _ _ _ q1 q2 q3 q4 q5 (by rw [hw']; simp) (by rw [hw', hr']) (by rw [hw']; simpa using q6) ?_
    rw [q7.1]
    exact fun m2 O2 Γ2 G2 a b c d e f => hn m2 O2 Γ2 G2 a b c d e ⟨f.1, Ext.trans q7.2 f.2⟩
  refine .ctl0 rfl (fun _ => Go.Conc.stepG_seq) (.ctl0 rfl (fun _ => Go.Conc.stepG_region) ?_)
  refine .val hP rfl rfl rfl (.int .i8 0) (fun τ => by simp [go_sem]) ?_
  subst hsv
  walk_nrm
  refine .val hP rfl rfl rfl (.bool false) (fun τ => by simp [go_sem]) ?_
  walk_nrm
  refine .ctl0 rfl (fun _ => Go.Conc.stepG_region_end) (.ctl0 rfl (fun _ => Go.Conc.stepG_seq) (.ctl0 rfl (fun _ => Go.Conc.stepG_seq) (.ctl0 rfl (fun _ => Go.Conc.stepG_region) ?_)))
  refine .val hP rfl rfl rfl (.slice ba bs.length bc) (fun τ => by simp [go_sem]) ?_
  walk_nrm
  refine .val hP rfl rfl rfl (.int .i64 (bs.length : Int)) (fun τ => by simp [go_sem]) ?_
  walk_nrm
  refine .val hP rfl rfl rfl (.int .i64 0) (fun τ => by simp [go_sem]) ?_
  walk_nrm
  refine .ctl0 rfl (fun _ => Go.Conc.stepG_region_end) (.ctl0 rfl (fun _ => Go.Conc.stepG_block) (.ctl0 rfl (fun _ => Go.Conc.stepG_loop) ?_))
  by_cases he : bs = []
  · subst he
    refine .ctl0 rfl (fun _ => Go.Conc.stepG_seq) (.ctl0 rfl (fun _ => Go.Conc.stepG_region) ?_)
    refine .val hP rfl rfl rfl (.bool false) (fun τ => by simp [go_sem]) ?_
    walk_nrm
    refine .ctl0 rfl (fun _ => Go.Conc.stepG_region_end) (.ctl0 rfl (fun _ => Go.Conc.stepG_seq) (.ctl0 rfl (fun _ => Go.Conc.stepG_cond (t := false) rfl) ?_))
    simp only [Bool.false_eq_true, if_false]
    refine .ctl0 rfl (fun _ => Go.Conc.stepG_exit rfl) ?_
    exact go m O Γ G _ _ _ _ _ _ _ _ _ _ _ _ _ _ _ _ _ _ _ _ _ _ _ _ _ _ _ _ _ _ _ _ _ _ _ _ _ _ _ _ _ _ _ _ _ _ _ _ _ _ _ _ _ _ _ _ _ _ _ _ _ _ _ _ _ _ _ _ _ _ _ _ _ _ _ _ _ I S (fun i td hi => by rw [ht] at hi; cases hi) hKP hst (by rw [hl]; decide) ⟨rfl, Ext.refl _⟩
  · have := hba he
    subst this
    refine Okk.begins bs hE hn64 hborn hbs bs.length 0 m O Γ G _ _ _ _ _ _ _ _ _ _ _ _ _ _ _ _ _ _ _ _ _ _ _ _ _ _ _ _ _ _ _ _ _ _ _ _ _ _ _ _ _ _ _ _ _ _ _ _ _ _ _ _ _ _ _ _ _ _ _ _ _ _ _ _ _ _ _ _ _ _ _ _ _ _ rfl I S (fun i td hi => by rw [ht] at hi; cases hi) hKP hst (by rw [ht]; rfl) (by rw [hl]; exact Nat.le_refl _) hw hr ?_
    intro m' O' Γ' G' y2 y4 y5 y6 y7 y8 y9 y10 y11 y12 y13 y14 y17 y18 y19 y20 y21 y22 y23 y24 y25 y26 y27 y28 y29 y30 y31 y32 y33 y34 y35 y36 y37 y38 y39 y40 y41 y42 y43 y44 y45 y46 y47 y48 y49 y50 y51 y52 y53 y54 y55 y56 y57 y58 y59 y60 y61 y62 y63 y64 y65 y66 y67 y68 y69 y70 y71 y72 y73 y74 y75 y76 y77 y78 y79 q1 q2 q3 q4 q5 q6 q7
    exact go m' O' Γ' G' _ _ _ _ _ _ _ _ _ _ _ _ _ _ _ _ _ _ _ _ _ _ _ _ _ _ _ _ _ _ _ _ _ _ _ _ _ _ _ _ _ _ _ _ _ _ _ _ _ _ _ _ _ _ _ _ _ _ _ _ _ _ _ _ _ _ _ _ _ _ _ _ _ _ _ _ _ q1 q2 q3 q4 q5 q6 q7
end
end Go.Proofs.Ytkbfbphbdljaaaa

/- gate's ends: the threads that are left are told, and stopped. Every premise stands in the statements. -/
set_option linter.unusedVariables false
set_option linter.unusedSimpArgs false
namespace Go.Proofs.Ytkbfbphbdljaaaa
open Go.Tre Go.RowKit
open Go.Conc (G base baseD crowd rcase scase)
open Go.ConcN (upd upd_ne upd_same)
variable {Λ : Type}
set_option maxRecDepth 100000 in
set_option maxHeartbeats 4000000 in
theorem c78_1_nil (Q : Act → World → Prop) (w : World) (rp : Nat) (h0 : w.cell? ⟨rp, 0, none⟩ = some (.slice none 0 0))
    (hQ : ∀ (y11 y12 y13 y14 y15 y16 y17 : Value), Q ⟨#[.pointer (some ⟨rp, 0, none⟩), undef, .slice none 0 0, .slice none 0 0, undef, undef, undef, undef, undef, undef, undef, y11, y12, y13, y14, y15, y16, y17, undef, undef, undef, undef, undef, undef, undef, undef, undef, undef, undef, undef, undef, undef, undef, undef, undef, undef, undef, undef, undef, undef, undef, undef, undef, undef, undef, undef, undef, undef, undef, undef, undef, undef, undef, undef, undef, undef, undef, undef, undef, undef, undef, undef, undef, undef, undef, undef, undef, undef, undef, undef, undef, undef, undef, undef, undef, undef, undef, undef, undef, undef, undef, undef, undef, undef, undef, undef, undef, undef, undef], []⟩ w) :
    c78_1.wp Try.prog (fun e a w => match e with | .normal => Q a w | _ => False) ⟨#[.pointer (some ⟨rp, 0, none⟩), undef, .slice none 0 0, .slice none 0 0, undef, undef, undef, undef, undef, undef, undef, undef, undef, undef, undef, undef, undef, undef, undef, undef, undef, undef, undef, undef, undef, undef, undef, undef, undef, undef, undef, undef, undef, undef, undef, undef, undef, undef, undef, undef, undef, undef, undef, undef, undef, undef, undef, undef, undef, undef, undef, undef, undef, undef, undef, undef, undef, undef, undef, undef, undef, undef, undef, undef, undef, undef, undef, undef, undef, undef, undef, undef, undef, undef, undef, undef, undef, undef, undef, undef, undef, undef, undef, undef, undef, undef, undef, undef, undef], []⟩ w := by
  simp only [c78_1, Try.f78]
  go_wp2
  refine wp_loop_rounds 1 ?_
  rw [rounds_succ]
  go_wp2
  exact hQ _ _ _ _ _ _ _
/-- Threads that are stopped, one behind the other. -/
def AS.stopTurn (A : AS Λ) (i : Nat) : AS Λ := match A.ths[i]? with
  | some (.acc _ _ _ _ _ _ stop) => { A with s := stop A.s, ths := A.ths.set i (.over false) }
  | some (.go _ _ _ _ stop) => { A with s := stop A.s, ths := A.ths.set i (.over false) }
  | _ => A
def AS.stopFrom (A : AS Λ) (i : Nat) : Nat → AS Λ
  | 0 => A
  | n + 1 => AS.stopFrom (A.stopTurn i) (i + 1) n
/-- Those who are left. -/
def AS.leftAcc (A : AS Λ) (i : Nat) : Acc := match A.ths[i]? with
  | some T => match T.req with
    | some q => leftOf A.s.names q.1 (match q.1 with | some v => (A.s.vals v).getD 0 | none => 0) ⟨i, q.2.1, -1, q.2.2.1, q.2.2.2, 0, 0, false⟩
    | none => ⟨0, 0, 0, 0, 0, 0, 0, false⟩
  | none => ⟨0, 0, 0, 0, 0, 0, 0, false⟩
def AS.left (A : AS Λ) : List Acc := ((List.range A.ths.length).filter fun i => !A.ended i).map A.leftAcc
theorem AS.left_LA (A : AS Λ) : A.left.flatMap (fun a => a.vals.toList) = LA A.ended A.leftAcc A.ths.length := by
  simp [AS.left, LA, List.flatMap_map]
theorem AS.left_LN (A : AS Λ) : A.left.length = LN A.ended A.ths.length := by simp [AS.left, LN]
theorem AS.stopTurn_len (A : AS Λ) (i : Nat) : (A.stopTurn i).ths.length = A.ths.length := by
  unfold AS.stopTurn; split <;> simp
section
variable [Base]
/-- A row of the holder's own, cell by cell. -/
def rowK (g : Nat) (xs : List Value) : Addr → Option Value := fun a => if a.block = g ∧ a.spot = none then xs[a.off]? else none
theorem MemI.setStops {L : Lw Λ} {rp mb : Nat} {B : Nat → Option Nat} {G : GSt Λ} {m : World} {O : Own} (I : MemI L rp mb B G m O) {m' : World} (hu : Upto (fun a => a = ⟨rp, 6, none⟩) m m') (h6 : m'.cell? ⟨rp, 6, none⟩ = some (.bool true)) : MemI L rp mb B { G with st := true } m' O := by
  have nW : ∀ z : Addr, G.κ z.block ≠ 1 → ¬ (z = ⟨rp, 6, none⟩) := fun z n1 h => n1 (by rw [h]; exact I.k1)
  have nr : ∀ j, j ≠ 6 → ¬ ((⟨rp, j, none⟩ : Addr) = ⟨rp, 6, none⟩) := fun j hj h => hj (congrArg Addr.off h)
  have hc : ∀ c, c ≠ 1 → ∀ a : Addr, a = ⟨rp, 6, none⟩ → G.κ a.block ≠ c := fun c h a ha e => nW a (by omega) ha
  have sm : ∀ c, Same (fun b => G.κ b = c) O O := fun c b _ => ⟨rfl, rfl⟩
  exact {
    b0 := I.b0, ro := I.ro, c1 := hu.cell _ _ I.c1 (nr 1 (by decide)), map := hu.obj _ _ I.map (by simp) (nW _ (by rw [I.k2]; decide)), stops := h6
    threads := I.threads.upto hu (nr 0 (by decide)) (hc 3 (by decide)) (sm _) (fun _ h => h), log := I.log.upto hu (nr 2 (by decide)) (hc 4 (by decide)) (sm _) (fun _ h => h)
    went := I.went.upto hu (nr 3 (by decide)) (hc 5 (by decide)) (sm _) (fun _ h => h), ready := I.ready.upto hu (nr 4 (by decide)) (hc 6 (by decide)) (sm _) (fun _ h => h), fell := I.fell.upto hu (nr 5 (by decide)) (hc 7 (by decide)) (sm _) (fun _ h => h)
    td := fun j td h => by
      obtain ⟨z1, z2, z3, z4, z5⟩ := I.kt j td h
      exact (I.td j td h).upto hu (fun k => nW _ (by simp only; omega)) (fun k => nW _ (by simp only; omega)) (fun k => nW _ (by simp only; omega)) (nW _ (by simp only; omega)) (nW _ (by simp only; omega)) ⟨rfl, rfl⟩ (fun _ h => h)
    vals := fun a x h => ⟨hu.cell _ _ (I.vals a x h).1 (nW _ (by have := I.k0 a x h; omega)), (I.vals a x h).2⟩
    nv := I.nv
    good := I.good
    law := I.lawStays hu (fun a ha => .inl (by rw [ha]; simp only; rw [I.k1]; decide)) (fun _ _ => ⟨rfl, rfl⟩)
    k1 := I.k1, k2 := I.k2, kt := I.kt, k0 := I.k0, kl := I.kl, klt := fun b h => Nat.lt_of_lt_of_le (I.klt b h) hu.size, llen := I.llen, cap := I.cap, tlen := I.tlen, wlen := I.wlen }
theorem e78_mem {L : Lw Λ} {rp mb : Nat} {G : GSt Λ} {m : World} {O : Own} {h : Nat} (I : MemI L rp mb (fun _ => none) G m O) {g cap : Nat} {cur : Array Value} {f : Nat × Nat} (hv : m.cell? ⟨rp, 0, none⟩ = some (.slice (some ⟨g, 0, none⟩) G.tds.length cap)) (hm : m.heap[g]? = some (.cells cur 30 f))
    (hR : Row O m 30 1 (.slice (some ⟨g, 0, none⟩) G.tds.length cap) G.tds.length (G.tds.map fun td => .pointer (some ⟨td.tp, 0, none⟩))) (τ : Tape) :
    E78 (re (O.gh h m) τ 0) rp mb g cap G.tds.length G.tpOf G.abs.ended (fun j => (G.tds[j]?).bind fun td => td.T.req.bind (·.1)) (fun j => match (G.tds[j]?).bind fun td => td.T.req.bind (·.1) with | some v => (G.s.vals v).getD 0 | none => 0)
      (fun j => match (G.tds[j]?).bind fun td => td.T.req with | some q => ⟨j, q.2.1, -1, q.2.2.1, q.2.2.2, 0, 0, false⟩ | none => ⟨0, 0, 0, 0, 0, 0, 0, false⟩) G.s.names := by
  have hsz : (re (O.gh h m) τ 0).heap.size = m.heap.size := gh_size
  have tpj : ∀ j, j < G.tds.length → ∃ td, G.tds[j]? = some td ∧ G.tpOf j = td.tp := fun j hj => ⟨G.tds[j], List.getElem?_eq_getElem hj, by simp [GSt.tpOf, List.getElem?_eq_getElem hj]⟩
  have cl : ∀ {a : Addr} {u : Value}, m.cell? a = some u → (re (O.gh h m) τ 0).cell? a = some u := fun {a u} ha => by rw [re_cell?, gh_cell]; exact ha
  have hfree : ∀ a, (G.s.vals a).isSome = true → FreeRow (re (O.gh h m) τ 0) a := fun a ha => by
    obtain ⟨y, hy⟩ := Option.isSome_iff_exists.1 ha
    obtain ⟨z1, z2, z3, z4, z5⟩ := I.vals a y hy
    obtain ⟨c', e', f', h', _⟩ := cells_of_cell z1
    exact ⟨c', e', gh_open z2 z3 z4 h'⟩
  have req : ∀ j td, G.tds[j]? = some td → G.abs.ended j = false → ∃ q, td.T.req = some q ∧ m.cell? ⟨td.tp, 4, none⟩ = some (.pointer q.1) ∧ (Acc.mk j q.2.1 (-1) q.2.2.1 q.2.2.2 0 0 false).at m td.tp 5 ∧ ∀ v, q.1 = some v → (G.s.vals v).isSome = true := fun j td htd hen => by
    have hT : td.T.isOver = false := by simpa [AS.ended, GSt.abs, htd] using hen
    obtain ⟨q, hq⟩ : ∃ q, td.T.req = some q := by cases e : td.T <;> first | exact ⟨_, rfl⟩ | (rw [e] at hT; cases hT)
    obtain ⟨s1, s2, s3⟩ := (I.td j td htd).stands rfl q hq
    exact ⟨q, hq, s1, s2, s3⟩
  refine ⟨by rw [hsz]; exact I.rlt, by rw [hsz]; exact (Array.getElem?_eq_some_iff.1 hm).1, by rw [hsz]; exact (Array.getElem?_eq_some_iff.1 I.map).1, fun j hj => ?_, cl hv, cl I.c1, gh_other I.map (by simp), fun y hy => hfree y (I.nv y hy), fun j hj => ?_, fun j hj => ?_, fun j hj hen => ?_, fun j hj hen => ?_, fun j v hj hen hpv => ?_⟩ <;> obtain ⟨td, htd, e⟩ := tpj j hj
  · rw [hsz, e]; exact World.block_lt_of_cell? m _ (I.td j td htd).r
  · rw [e]; exact cl (Row.cellAt hR (by simp [htd]))
  · rw [e]
    have := (I.td j td htd).ended
    simp only [Option.isNone_none, Bool.true_and] at this
    rw [cl this]; simp [AS.ended, GSt.abs, htd]
  · obtain ⟨q, hq, s1, _⟩ := req j td htd hen
    rw [e]; rw [cl s1]; simp [htd, hq]
  · obtain ⟨q, hq, _, s2, _⟩ := req j td htd hen
    rw [e]
    obtain ⟨q0, q1, q2, q3, q4, q5, q6, q7⟩ := s2
    simp only [htd, Option.bind_some, hq]
    exact ⟨cl q0, cl q1, cl q2, cl q3, cl q4, cl q5, cl q6, cl q7⟩
  · obtain ⟨q, hq, _, _, s3⟩ := req j td htd hen
    simp only [htd, Option.bind_some, hq] at hpv
    have hs := s3 v hpv
    obtain ⟨x, hx⟩ := Option.isSome_iff_exists.1 hs
    obtain ⟨z1, _, _, _, z5⟩ := I.vals v x hx
    refine ⟨z5, ?_, hfree v hs⟩
    simp only [htd, Option.bind_some, hq, hpv, hx, Option.getD_some]
    exact cl z1
end
end Go.Proofs.Ytkbfbphbdljaaaa

/- gate's ends, whole. Every premise stands in the statements. -/
set_option linter.unusedVariables false
set_option linter.unusedSimpArgs false
namespace Go.Proofs.Ytkbfbphbdljaaaa
open Go.Tre Go.RowKit
open Go.Conc (G base baseD crowd rcase scase)
open Go.ConcN (upd upd_ne upd_same)
variable {Λ : Type}
noncomputable def loop78 : Code := match Try.f78.body with | some (.seq _ (.seq _ (.seq _ (.seq _ (.seq (.seq _ (.block _ (.loop c))) _))))) => c | _ => .skip
noncomputable def rest78 : Code := match Try.f78.body with | some (.seq _ (.seq _ (.seq _ (.seq _ (.seq _ c))))) => c | _ => .skip
section
variable [Base]
/-- A stopped thread's turn, as plain data. -/
theorem Led.stop {X : Rn Λ} {i : Nat} {td : TD Λ} {G G' : GSt Λ} (h : Led X i td G td.T G') (hi : G.tds[i]? = some td) (hst : G.st = true) (hp : Proms X G) :
    G'.abs = G.abs.stopTurn i ∧ Proms X G' ∧ Ext G.κ G'.κ ∧ G'.st = true ∧ G'.cap = G.cap ∧ G'.tds.length = G.tds.length := by
  have hai : G.abs.ths[i]? = some td.T := by simp [GSt.abs, hi]
  have key : ∀ {s : Sh Λ}, Next (fun _ _ => True) G i td s (.over false) G' → G'.abs = { G.abs with s := s, ths := G.abs.ths.set i (.over false) } ∧ Proms X G' ∧ Ext G.κ G'.κ ∧ G'.st = true ∧ G'.cap = G.cap ∧ G'.tds.length = G.tds.length := fun {s} ⟨sc, κ, e1, e2, _⟩ => by
    subst e2
    refine ⟨by simp only [GSt.abs, GSt.to, GSt.put, map_setT], fun j td' hj => ?_, e1, hst, rfl, by simp [GSt.to, GSt.put]⟩
    rcases set_get hi hj with ⟨rfl, rfl⟩ | ⟨_, h'⟩
    · trivial
    · exact (hp j td' h').mono e1
  cases hT : td.T with
  | over f => rw [hT] at h; exact h.elim
  | acc op v arg new seg next stop =>
    rw [hT] at h hai
    simp only [Led, hst, if_true] at h
    have := key (s := stop G.s) (by rw [hst] at *; exact h)
    rw [AS.stopTurn, hai]; exact this
  | go init child seg next stop =>
    rw [hT] at h hai
    simp only [Led, hst, if_true] at h
    have := key (s := stop G.s) (by rw [hst] at *; exact h)
    rw [AS.stopTurn, hai]; exact this

set_option maxRecDepth 100000 in
set_option maxHeartbeats 4000000 in
theorem Okk.stops {X : Rn Λ} {h : Nat} {vl : Value} {KP : Addr → Option Value} {c : Frame} {cs : List Frame} (hE : X.E h = none) :
    ∀ (n j : Nat) (m : World) (O : Own) (Γ : Nat → Option Seat) (G : GSt Λ) (y1 y2 y4 y5 y6 y7 y8 y10 y11 y12 y13 y14 y15 y16 y17 y18 y19 y20 y21 y22 y23 y24 y25 y26 y27 y28 y29 y30 y31 y32 y33 y34 y35 y36 y37 y38 y39 y40 y41 y42 y43 y44 y45 y46 y47 y48 y49 y50 y51 y52 y53 y54 y55 y56 y57 y58 y59 y60 y61 y62 y63 y64 y65 y66 y67 y68 y69 y70 y71 y72 y73 y74 y75 y76 y77 y78 y79 y80 y81 y82 y83 y84 y85 y86 y87 y88 : Value), n + j = G.tds.length → MemI X.L X.rp X.mb (fun _ => none) G m O → SeatI X.E h (fun _ => none) G Γ → Proms X G → Holds KP h m O → G.st = true →
      (∀ (m' : World) (O' : Own) (Γ' : Nat → Option Seat) (G' : GSt Λ) (y1 y2 y4 y5 y6 y7 y8 y9 y10 y11 y12 y13 y14 y15 y16 y17 y18 y19 y20 y21 y22 y23 y24 y25 y26 y27 y28 y29 y30 y31 y32 y33 y34 y35 y36 y37 y38 y39 y40 y41 y42 y43 y44 y45 y46 y47 y48 y49 y50 y51 y52 y53 y54 y55 y56 y57 y58 y59 y60 y61 y62 y63 y64 y65 y66 y67 y68 y69 y70 y71 y72 y73 y74 y75 y76 y77 y78 y79 y80 y81 y82 y83 y84 y85 y86 y87 y88 : Value), MemI X.L X.rp X.mb (fun _ => none) G' m' O' → SeatI X.E h (fun _ => none) G' Γ' → Holds KP h m' O' → G'.st = true → G'.abs = G.abs.stopFrom j n ∧ Ext G.κ G'.κ →
        Okk Try.prog X.Φ h (Go.Conc.G ((base 78).at ⟨#[.pointer (some ⟨X.rp, 0, none⟩), y1, y2, vl, y4, y5, y6, y7, y8, y9, y10, y11, y12, y13, y14, y15, y16, y17, y18, y19, y20, y21, y22, y23, y24, y25, y26, y27, y28, y29, y30, y31, y32, y33, y34, y35, y36, y37, y38, y39, y40, y41, y42, y43, y44, y45, y46, y47, y48, y49, y50, y51, y52, y53, y54, y55, y56, y57, y58, y59, y60, y61, y62, y63, y64, y65, y66, y67, y68, y69, y70, y71, y72, y73, y74, y75, y76, y77, y78, y79, y80, y81, y82, y83, y84, y85, y86, y87, y88], []⟩ [.code rest78]) (c :: cs)) m' O' Γ') →
      Okk Try.prog X.Φ h (Go.Conc.G ((base 78).at ⟨#[.pointer (some ⟨X.rp, 0, none⟩), y1, y2, vl, y4, y5, y6, y7, y8, .int .i64 (j : Int), y10, y11, y12, y13, y14, y15, y16, y17, y18, y19, y20, y21, y22, y23, y24, y25, y26, y27, y28, y29, y30, y31, y32, y33, y34, y35, y36, y37, y38, y39, y40, y41, y42, y43, y44, y45, y46, y47, y48, y49, y50, y51, y52, y53, y54, y55, y56, y57, y58, y59, y60, y61, y62, y63, y64, y65, y66, y67, y68, y69, y70, y71, y72, y73, y74, y75, y76, y77, y78, y79, y80, y81, y82, y83, y84, y85, y86, y87, y88], []⟩ [.code loop78, .inLoop loop78, .inBlock 2, .code rest78]) (c :: cs)) m O Γ := by
  have hP := try_plain2
  intro n
  induction n with
  | zero =>
    intro j m O Γ G y1 y2 y4 y5 y6 y7 y8 y10 y11 y12 y13 y14 y15 y16 y17 y18 y19 y20 y21 y22 y23 y24 y25 y26 y27 y28 y29 y30 y31 y32 y33 y34 y35 y36 y37 y38 y39 y40 y41 y42 y43 y44 y45 y46 y47 y48 y49 y50 y51 y52 y53 y54 y55 y56 y57 y58 y59 y60 y61 y62 y63 y64 y65 y66 y67 y68 y69 y70 y71 y72 y73 y74 y75 y76 y77 y78 y79 y80 y81 y82 y83 y84 y85 y86 y87 y88 hj I S hprom hKP hst hn
    obtain rfl : j = G.tds.length := by omega
    obtain ⟨v0, hv0, hR0, hk0⟩ := I.threads
    obtain ⟨a0, c0, rfl⟩ := Row.shape hR0
    simp only [loop78, Try.f78]
    refine .ctl0 rfl (fun _ => Go.Conc.stepG_seq) (.ctl0 rfl (fun _ => Go.Conc.stepG_seq) (.ctl0 rfl (fun _ => Go.Conc.stepG_region) ?_))
    refine .val hP rfl rfl rfl (.int .i64 (G.tds.length : Int)) (fun τ => by simp [go_sem]) ?_
    walk_nrm
    refine .val hP rfl rfl rfl (.pointer (some ⟨X.rp, 0, none⟩)) (fun τ => by simp [go_sem]) ?_
    walk_nrm
    refine .val hP rfl rfl rfl (.pointer (some ⟨X.rp, 0, none⟩)) (fun τ => by simp [go_sem]) ?_
    walk_nrm
    refine .val hP rfl rfl rfl (.pointer (some ⟨X.rp, 0, none⟩)) (fun τ => by simp [go_sem]) ?_
    walk_nrm
    refine .val hP rfl rfl rfl (.slice a0 G.tds.length c0) (fun τ => by simp [go_sem, gh_cell, hv0]) ?_
    walk_nrm
    refine .val hP rfl rfl rfl (.int .i64 (G.tds.length : Int)) (fun τ => by simp [go_sem]) ?_
    walk_nrm
    refine .val hP rfl rfl rfl (.bool false) (fun τ => by simp [go_sem]) ?_
    walk_nrm
    refine .ctl0 rfl (fun _ => Go.Conc.stepG_region_end) (.ctl0 rfl (fun _ => Go.Conc.stepG_cond (t := false) rfl) ?_)
    simp only [Bool.false_eq_true, if_false]
    refine .ctl0 rfl (fun _ => Go.Conc.stepG_exit rfl) ?_
    exact hn m O Γ G _ _ _ _ _ _ _ _ _ _ _ _ _ _ _ _ _ _ _ _ _ _ _ _ _ _ _ _ _ _ _ _ _ _ _ _ _ _ _ _ _ _ _ _ _ _ _ _ _ _ _ _ _ _ _ _ _ _ _ _ _ _ _ _ _ _ _ _ _ _ _ _ _ _ _ _ _ _ _ _ _ _ _ _ _ _ _ I S hKP hst ⟨rfl, Ext.refl _⟩
  | succ n ih =>
    intro j m O Γ G y1 y2 y4 y5 y6 y7 y8 y10 y11 y12 y13 y14 y15 y16 y17 y18 y19 y20 y21 y22 y23 y24 y25 y26 y27 y28 y29 y30 y31 y32 y33 y34 y35 y36 y37 y38 y39 y40 y41 y42 y43 y44 y45 y46 y47 y48 y49 y50 y51 y52 y53 y54 y55 y56 y57 y58 y59 y60 y61 y62 y63 y64 y65 y66 y67 y68 y69 y70 y71 y72 y73 y74 y75 y76 y77 y78 y79 y80 y81 y82 y83 y84 y85 y86 y87 y88 hj I S hprom hKP hst hn
    have hjl : j < G.tds.length := by omega
    have h64 := I.tlen
    obtain ⟨td, htd⟩ : ∃ td, G.tds[j]? = some td := ⟨G.tds[j], List.getElem?_eq_getElem hjl⟩
    obtain ⟨v0, hv0, hR0, hk0⟩ := I.threads
    obtain ⟨g0, c0, rfl, hg0⟩ : ∃ g c, v0 = .slice (some ⟨g, 0, none⟩) G.tds.length c ∧ m.cell? ⟨g, j, none⟩ = some (.pointer (some ⟨td.tp, 0, none⟩)) := by
      rcases id hR0.2 with ⟨_, h0⟩ | ⟨g, cap, cur, f, rfl, _⟩
      · omega
      · exact ⟨g, cap, rfl, Row.cellAt hR0 (by simp [htd])⟩
    have D := I.td j td htd
    have hen := D.ended
    simp only [Option.isNone_none, Bool.true_and] at hen
    simp only [loop78, Try.f78]
    refine .ctl0 rfl (fun _ => Go.Conc.stepG_seq) (.ctl0 rfl (fun _ => Go.Conc.stepG_seq) (.ctl0 rfl (fun _ => Go.Conc.stepG_region) ?_))
    refine .val hP rfl rfl rfl (.int .i64 (j : Int)) (fun τ => by simp [go_sem]) ?_
    walk_nrm
    refine .val hP rfl rfl rfl (.pointer (some ⟨X.rp, 0, none⟩)) (fun τ => by simp [go_sem]) ?_
    walk_nrm
    refine .val hP rfl rfl rfl (.pointer (some ⟨X.rp, 0, none⟩)) (fun τ => by simp [go_sem]) ?_
    walk_nrm
    refine .val hP rfl rfl rfl (.pointer (some ⟨X.rp, 0, none⟩)) (fun τ => by simp [go_sem]) ?_
    walk_nrm
    refine .val hP rfl rfl rfl (.slice (some ⟨g0, 0, none⟩) G.tds.length c0) (fun τ => by simp [go_sem, gh_cell, hv0]) ?_
    walk_nrm
    refine .val hP rfl rfl rfl (.int .i64 (G.tds.length : Int)) (fun τ => by simp [go_sem]) ?_
    walk_nrm
    refine .val hP rfl rfl rfl (.bool true) (fun τ => by simp [go_sem]; try omega) ?_
    walk_nrm
    refine .ctl0 rfl (fun _ => Go.Conc.stepG_region_end) (.ctl0 rfl (fun _ => Go.Conc.stepG_cond (t := true) rfl) ?_)
    simp only [if_true]
    refine .ctl0 rfl (fun _ => Go.Conc.stepG_skip) (.ctl0 rfl (fun _ => Go.Conc.stepG_seq) (.ctl0 rfl (fun _ => Go.Conc.stepG_block) (.ctl0 rfl (fun _ => Go.Conc.stepG_seq) (.ctl0 rfl (fun _ => Go.Conc.stepG_region) ?_))))
    refine .val hP rfl rfl rfl (.pointer (some ⟨X.rp, 0, none⟩)) (fun τ => by simp [go_sem]) ?_
    walk_nrm
    refine .val hP rfl rfl rfl (.pointer (some ⟨X.rp, 0, none⟩)) (fun τ => by simp [go_sem]) ?_
    walk_nrm
    refine .val hP rfl rfl rfl (.pointer (some ⟨X.rp, 0, none⟩)) (fun τ => by simp [go_sem]) ?_
    walk_nrm
    refine .val hP rfl rfl rfl (.slice (some ⟨g0, 0, none⟩) G.tds.length c0) (fun τ => by simp [go_sem, gh_cell, hv0]) ?_
    walk_nrm
    refine .val hP rfl rfl rfl (.int .i64 (j : Int)) (fun τ => by simp [go_sem]) ?_
    walk_nrm
    refine .val hP rfl rfl rfl (.pointer (some ⟨g0, j, none⟩)) (fun τ => by simp [go_sem]; try omega) ?_
    walk_nrm
    refine .val hP rfl rfl rfl (.pointer (some ⟨td.tp, 0, none⟩)) (fun τ => by simp [go_sem, gh_cell, hg0]) ?_
    walk_nrm
    refine .val hP rfl rfl rfl (.pointer (some ⟨td.tp, 0, none⟩)) (fun τ => by simp [go_sem]) ?_
    walk_nrm
    refine .ctl0 rfl (fun _ => Go.Conc.stepG_region_end) (.ctl0 rfl (fun _ => Go.Conc.stepG_seq) (.ctl0 rfl (fun _ => Go.Conc.stepG_region) ?_))
    refine .val hP rfl rfl rfl (.pointer (some ⟨td.tp, 0, none⟩)) (fun τ => by simp [go_sem]) ?_
    walk_nrm
    refine .val hP rfl rfl rfl (.pointer (some ⟨td.tp, 0, none⟩)) (fun τ => by simp [go_sem]) ?_
    walk_nrm
    refine .val hP rfl rfl rfl (.pointer (some ⟨td.tp, 13, none⟩)) (fun τ => by simp [go_sem]) ?_
    walk_nrm
    refine .val hP rfl rfl rfl (.bool td.T.isOver) (fun τ => by simp [go_sem, gh_cell, hen]) ?_
    walk_nrm
    refine .val hP rfl rfl rfl (.bool (!td.T.isOver)) (fun τ => by simp [go_sem]) ?_
    walk_nrm
    refine .ctl0 rfl (fun _ => Go.Conc.stepG_region_end) (.ctl0 rfl (fun _ => Go.Conc.stepG_cond (t := !td.T.isOver) rfl) ?_)
    -- behind the round
    have next : ∀ (m' : World) (O' : Own) (Γ' : Nat → Option Seat) (G' : GSt Λ) (y1 y2 y4 y5 y6 y7 y8 y10 y11 y12 y13 y14 y15 y16 y17 y18 y19 y20 y21 y22 y23 y24 y25 y26 y27 y28 y29 y30 y31 y32 y33 y34 y35 y36 y37 y38 y39 y40 y41 y42 y43 y44 y45 y46 y47 y48 y49 y50 y51 y52 y53 y54 y55 y56 y57 y58 y59 y60 y61 y62 y63 y64 y65 y66 y67 y68 y69 y70 y71 y72 y73 y74 y75 y76 y77 y78 y79 y80 y81 y82 y83 y84 y85 y86 y87 y88 : Value), MemI X.L X.rp X.mb (fun _ => none) G' m' O' → SeatI X.E h (fun _ => none) G' Γ' → Proms X G' → Holds KP h m' O' → G'.st = true → G'.tds.length = G.tds.length → G'.abs = G.abs.stopTurn j ∧ Ext G.κ G'.κ →
        Okk Try.prog X.Φ h (Go.Conc.G ((base 78).at ⟨#[.pointer (some ⟨X.rp, 0, none⟩), y1, y2, vl, y4, y5, y6, y7, y8, .int .i64 (j : Int), y10, y11, y12, y13, y14, y15, y16, y17, y18, y19, y20, y21, y22, y23, y24, y25, y26, y27, y28, y29, y30, y31, y32, y33, y34, y35, y36, y37, y38, y39, y40, y41, y42, y43, y44, y45, y46, y47, y48, y49, y50, y51, y52, y53, y54, y55, y56, y57, y58, y59, y60, y61, y62, y63, y64, y65, y66, y67, y68, y69, y70, y71, y72, y73, y74, y75, y76, y77, y78, y79, y80, y81, y82, y83, y84, y85, y86, y87, y88], []⟩ [.inBlock 3, .code (match loop78 with | .seq _ (.seq _ c) => c | _ => .skip), .inLoop loop78, .inBlock 2, .code rest78]) (c :: cs)) m' O' Γ' := by
      intro m' O' Γ' G' y1 y2 y4 y5 y6 y7 y8 y10 y11 y12 y13 y14 y15 y16 y17 y18 y19 y20 y21 y22 y23 y24 y25 y26 y27 y28 y29 y30 y31 y32 y33 y34 y35 y36 y37 y38 y39 y40 y41 y42 y43 y44 y45 y46 y47 y48 y49 y50 y51 y52 y53 y54 y55 y56 y57 y58 y59 y60 y61 y62 y63 y64 y65 y66 y67 y68 y69 y70 y71 y72 y73 y74 y75 y76 y77 y78 y79 y80 y81 y82 y83 y84 y85 y86 y87 y88 q1 q2 q3 q4 q5 q6 q7
      simp only [loop78, Try.f78]
      refine .ctl0 rfl (fun _ => Go.Conc.stepG_inBlock) (.ctl0 rfl (fun _ => Go.Conc.stepG_region) ?_)
      refine .val hP rfl rfl rfl (.int .i64 (j : Int)) (fun τ => by simp [go_sem]) ?_
      walk_nrm
      refine .val hP rfl rfl rfl (.int .i64 ((j + 1 : Nat) : Int)) (fun τ => by
        have hwr : IntKind.i64.wrap ((j : Int) + 1) = ((j + 1 : Nat) : Int) := by
          have h1 : (-9223372036854775808 : Int) ≤ (j : Int) + 1 := by omega
          have h2 : (j : Int) + 1 ≤ 9223372036854775807 := by omega
          rw [IntWalk.i64_in _ ⟨h1, h2⟩]; omega
        simp [go_sem, hwr]; try omega) ?_
      walk_nrm
      refine .val hP rfl rfl rfl (.int .i64 ((j + 1 : Nat) : Int)) (fun τ => by simp [go_sem]) ?_
      walk_nrm
      refine .ctl0 rfl (fun _ => Go.Conc.stepG_region_end) (.ctl0 rfl (fun _ => Go.Conc.stepG_inLoop) ?_)
      refine ih (j + 1) m' O' Γ' G' _ _ _ _ _ _ _ _ _ _ _ _ _ _ _ _ _ _ _ _ _ _ _ _ _ _ _ _ _ _ _ _ _ _ _ _ _ _ _ _ _ _ _ _ _ _ _ _ _ _ _ _ _ _ _ _ _ _ _ _ _ _ _ _ _ _ _ _ _ _ _ _ _ _ _ _ _ _ _ _ _ _ _ _ _ _ (by omega) q1 q2 q3 q4 q5 ?_
      intro m2 O2 Γ2 G2 y1 y2 y4 y5 y6 y7 y8 y9 y10 y11 y12 y13 y14 y15 y16 y17 y18 y19 y20 y21 y22 y23 y24 y25 y26 y27 y28 y29 y30 y31 y32 y33 y34 y35 y36 y37 y38 y39 y40 y41 y42 y43 y44 y45 y46 y47 y48 y49 y50 y51 y52 y53 y54 y55 y56 y57 y58 y59 y60 y61 y62 y63 y64 y65 y66 y67 y68 y69 y70 y71 y72 y73 y74 y75 y76 y77 y78 y79 y80 y81 y82 y83 y84 y85 y86 y87 y88 r1 r2 r3 r4 r5
      refine hn m2 O2 Γ2 G2 y1 y2 y4 y5 y6 y7 y8 y9 y10 y11 y12 y13 y14 y15 y16 y17 y18 y19 y20 y21 y22 y23 y24 y25 y26 y27 y28 y29 y30 y31 y32 y33 y34 y35 y36 y37 y38 y39 y40 y41 y42 y43 y44 y45 y46 y47 y48 y49 y50 y51 y52 y53 y54 y55 y56 y57 y58 y59 y60 y61 y62 y63 y64 y65 y66 y67 y68 y69 y70 y71 y72 y73 y74 y75 y76 y77 y78 y79 y80 y81 y82 y83 y84 y85 y86 y87 y88 r1 r2 r3 r4 ⟨?_, Ext.trans q7.2 r5.2⟩
      rw [r5.1, q7.1]; rfl
    cases hT : td.T.isOver with
    | true =>
      simp only [Bool.not_true, Bool.false_eq_true, if_false]
      refine .ctl0 rfl (fun _ => Go.Conc.stepG_skip) ?_
      refine next m O Γ G _ _ _ _ _ _ _ _ _ _ _ _ _ _ _ _ _ _ _ _ _ _ _ _ _ _ _ _ _ _ _ _ _ _ _ _ _ _ _ _ _ _ _ _ _ _ _ _ _ _ _ _ _ _ _ _ _ _ _ _ _ _ _ _ _ _ _ _ _ _ _ _ _ _ _ _ _ _ _ _ _ _ _ _ _ _ I S hprom hKP hst rfl ⟨?_, Ext.refl _⟩
      have hai : G.abs.ths[j]? = some td.T := by simp [GSt.abs, htd]
      rw [AS.stopTurn, hai]
      cases e : td.T <;> first | rfl | (rw [e] at hT; cases hT)
    | false =>
      simp only [Bool.not_false, if_true]
      refine .ctl0 rfl (fun _ => Go.Conc.stepG_region) ?_
      refine .val hP rfl rfl rfl (.pointer (some ⟨td.tp, 0, none⟩)) (fun τ => by simp [go_sem]) ?_
      walk_nrm
      refine .enter (f := 77) (args := #[.pointer (some ⟨td.tp, 0, none⟩)]) rfl rfl (fun w => ?_) (fun w => ?_) ?_
      · have := (callFunc_enter Try.func77 (by kernel_rfl) rfl #[.pointer (some ⟨td.tp, 0, none⟩)] w).1
        simp [go_sem, this]
      · have := (callFunc_enter Try.func77 (by kernel_rfl) rfl #[.pointer (some ⟨td.tp, 0, none⟩)] w).2
        simp [go_sem, this]
      refine Okk.goesI I S hE htd rfl hT (hprom j td htd) (fun e => by rw [hst] at e; cases e) fun m5 O5 Γ5 G5 hled IM SM hk => ?_
      obtain ⟨l1, l2, l3, l4, l5, l6⟩ := hled.stop htd hst hprom
      rw [Frame.finish_at]
      walk_nrm
      refine .ctl0 rfl (fun _ => Go.Conc.stepG_region_end) ?_
      exact next m5 O5 Γ5 G5 _ _ _ _ _ _ _ _ _ _ _ _ _ _ _ _ _ _ _ _ _ _ _ _ _ _ _ _ _ _ _ _ _ _ _ _ _ _ _ _ _ _ _ _ _ _ _ _ _ _ _ _ _ _ _ _ _ _ _ _ _ _ _ _ _ _ _ _ _ _ _ _ _ _ _ _ _ _ _ _ _ _ _ _ _ _ IM SM l2 (hKP.kept hk) l4 l6 ⟨l1, l3⟩
end
end Go.Proofs.Ytkbfbphbdljaaaa
