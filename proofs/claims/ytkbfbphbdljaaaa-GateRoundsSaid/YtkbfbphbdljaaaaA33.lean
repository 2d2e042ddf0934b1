/- Texts of one proof, joined: each says what it proves. Every premise stands in the statements. -/
import Derived.Test.YtkbfbphbdljaaaaA32
import Derived.OneCell
/- GateRounds: its lone pieces. Every premise stands in the statements. -/
set_option linter.unusedVariables false
set_option linter.unusedSimpArgs false
namespace Go.Proofs.Ytkbfbphbdljaaaa
open Go.Tre Go.RowKit
noncomputable def c3_1 : Code := match Try.f3.body with | some (.seq _ (.seq _ (.seq _ (.seq _ (.seq _ (.seq _ (.seq c _))))))) => c | _ => .skip
theorem info35 : ∃ i, Try.prog.info? 35 = some i ∧ i.zero = some .nilFunc ∧ i.size = 1 ∧ i.bytes = 8 := by
  have h : (Try.prog.info? 35).map (fun i => (i.zero, i.size, i.bytes)) = some (some .nilFunc, 1, 8) := by kernel_rfl
  obtain ⟨i, h1, h2⟩ := Option.map_eq_some_iff.1 h
  simp only [Prod.mk.injEq] at h2
  exact ⟨i, h1, h2.1, h2.2.1, h2.2.2⟩
def lenOf : Value → Nat | .slice _ n _ => n | _ => 0
theorem lenOf_own {w : World} {B : Nat} {e : TypeId} {sz n : Nat} {v : Value} {xs : List Value} (h : w.ownsRow B e sz v n xs) : lenOf v = n := by
  rcases h.2 with ⟨rfl, rfl⟩ | ⟨g, cap, cur, rfl, _⟩ <;> rfl
/-- The closures that capture these boxes. -/
def clos (ob xb : Nat) (bl : List Nat) : List Value := bl.map fun b => .func (.func 12) #[] #[.pointer (some ⟨ob, 0, none⟩), .pointer (some ⟨b, 0, none⟩), .pointer (some ⟨xb, 0, none⟩)]
/-- How much they add. -/
def sumOf (ws : Nat → Nat) : Nat → Nat
  | 0 => 0
  | k + 1 => sumOf ws k + ws k % 32
theorem sumOf_le (ws : Nat → Nat) (k : Nat) : sumOf ws k ≤ 32 * k := by
  induction k with
  | zero => exact Nat.le_refl _
  | succ k ih => simp only [sumOf]; omega
/-- The boxes as they stand. -/
def Boxes (B : Nat) (bl : List Nat) (v : Value) (w : World) : Prop := ∀ j b : Nat, bl[j]? = some b → w.heap[b]? = some (.cells #[.int .i64 (j : Int)] 3) ∧ B ≤ b ∧ v.ownBlock ≠ some b
theorem boxes_step {B k cur : Nat} {wr w1 : World} {v v' : Value} {bl : List Nat} {o : Obj} (hbox : Boxes B bl v wr) (hk : bl.length = k) (hcl : cur < wr.heap.size) (hcb : B ≤ cur) (hcv : v.ownBlock ≠ some cur) (r2 : (wr.alloc o).grownBy w1 v.ownBlock)
    (r3 : ∀ g, v'.ownBlock = some g → v.ownBlock = some g ∨ (wr.alloc o).heap.size ≤ g) (hc1 : w1.heap[cur]? = some (.cells #[.int .i64 (k : Int)] 3)) (o2 : Obj) : Boxes B (bl ++ [cur]) v' (w1.alloc o2) := by
  have no : ∀ b, b < wr.heap.size → v.ownBlock ≠ some b → v'.ownBlock ≠ some b := fun b hb hv e => by
    rcases r3 b e with z | z
    · exact hv z
    · rw [size_a] at z; omega
  have al : ∀ b x, w1.heap[b]? = some x → (w1.alloc o2).heap[b]? = some x := fun b x hb => (RowKit.Below.heap_alloc _ _ _ (Array.getElem?_eq_some_iff.1 hb).1).trans hb
  intro j b hj
  rcases Nat.lt_trichotomy j bl.length with e | e | e
  · rw [List.getElem?_append_left e] at hj
    obtain ⟨h1, h2, h3⟩ := hbox j b hj
    have hlt := lt_of_block h1
    exact ⟨al _ _ ((r2.block b (by rw [size_a]; omega) (fun e => h3 e.symm)).trans ((RowKit.Below.heap_alloc _ _ _ hlt).trans h1)), h2, no b hlt h3⟩
  · subst e
    simp at hj; subst hj
    rw [hk]
    exact ⟨al _ _ hc1, hcb, no _ hcl hcv⟩
  · rw [List.getElem?_eq_none (by simp; omega)] at hj; cases hj
theorem clos_snoc (ob xb : Nat) (bl : List Nat) (b : Nat) : clos ob xb (bl ++ [b]) = clos ob xb bl ++ [.func (.func 12) #[] #[.pointer (some ⟨ob, 0, none⟩), .pointer (some ⟨b, 0, none⟩), .pointer (some ⟨xb, 0, none⟩)]] := by simp [clos]
set_option maxRecDepth 100000 in
set_option maxHeartbeats 4000000 in
theorem c3_1_wp (Q : Act → World → Prop) (w : World) (a0 : Option Addr) (n cap ob xb pb po : Nat) (ws : Nat → Nat) (hn : n ≤ 40) (h8 : ∀ j, j < n → ws j < 256) (ha : 0 < n → a0 = some ⟨pb, po, none⟩) (hob : w.cell? ⟨ob, 0, none⟩ = some (.slice a0 n cap)) (hbl : ob < w.heap.size) (hpl : 0 < n → pb < w.heap.size)
    (hws : ∀ j, j < n → w.cell? ⟨pb, po + j, none⟩ = some (.int .u8 (ws j : Int)))
    (hQ : ∀ (v : Value) (all cur : Nat) (bl : List Nat) (y21 y22 y23 y24 y25 y26 y27 y28 y29 y30 y31 y32 y33 y34 y35 y36 y37 y38 y39 : Value) (w' : World), w'.ownsRow w.heap.size 35 1 v n (clos ob xb bl) → Below w.heap.size w w' → bl.length = n → Boxes w.heap.size bl v w' → all = sumOf ws n → Q ⟨#[.slice a0 n cap, .pointer (some ⟨ob, 0, none⟩), .bool false, .bool true, .pointer (some ⟨xb, 0, none⟩), v, .int .i64 (all : Int), .pointer (some ⟨cur, 0, none⟩), undef, undef, undef, undef, .bool true, .bool true, .bool false, .bool false, .slice a0 n cap, .int .i64 (n : Int), .bool false, .bool false, undef, y21, y22, y23, y24, y25, y26, y27, y28, y29, y30, y31, y32, y33, y34, y35, y36, y37, y38, y39, undef, undef, undef, undef, undef, undef, undef, undef, undef, undef, undef, undef, undef, undef, undef, undef, undef, undef, undef, undef, undef, undef, undef, undef, undef, undef, undef, undef, undef, undef, undef, undef, undef, undef, undef, undef, undef, undef, undef, undef, undef, undef, undef, undef, undef, undef, undef, undef, undef, undef, undef, undef, undef, undef, undef], []⟩ w') :
    c3_1.wp Try.prog (fun e a w => match e with | .normal => Q a w | _ => False) ⟨#[.slice a0 n cap, .pointer (some ⟨ob, 0, none⟩), .bool false, .bool true, .pointer (some ⟨xb, 0, none⟩), .slice none 0 0, .int .i64 0, undef, undef, undef, undef, undef, .bool true, .bool true, .bool false, .bool false, .slice a0 n cap, .int .i64 (n : Int), .bool false, .bool false, undef, undef, undef, undef, undef, undef, undef, undef, undef, undef, undef, undef, undef, undef, undef, undef, undef, undef, undef, undef, undef, undef, undef, undef, undef, undef, undef, undef, undef, undef, undef, undef, undef, undef, undef, undef, undef, undef, undef, undef, undef, undef, undef, undef, undef, undef, undef, undef, undef, undef, undef, undef, undef, undef, undef, undef, undef, undef, undef, undef, undef, undef, undef, undef, undef, undef, undef, undef, undef, undef, undef, undef, undef, undef, undef], []⟩ w := by
  obtain ⟨i35, hi35, z35, sz35, b35⟩ := info35
  have HQ := Lib.hid hQ
  have HW := Lib.hid hws
  have H8 := Lib.hid h8
  have HB := Lib.hid hob
  clear hQ hws h8 hob
  simp only [c3_1, Try.f3]
  go_wp2
  go_loopw [5, 6, 7] (fun v s p wr => ∃ (k cur : Nat) (bl : List Nat), k ≤ n ∧ bl.length = k ∧ s = .int .i64 (sumOf ws k : Int) ∧ p = .pointer (some ⟨cur, 0, none⟩) ∧ wr.heap[cur]? = some (.cells #[.int .i64 (k : Int)] 3) ∧ w.heap.size ≤ cur ∧ v.ownBlock ≠ some cur ∧ wr.ownsRow w.heap.size 35 1 v k (clos ob xb bl) ∧ Below w.heap.size w wr ∧ Boxes w.heap.size bl v wr) (fun v _ _ _ => n - lenOf v)
  case atStart =>
    refine ⟨0, w.heap.size, [], Nat.zero_le _, rfl, rfl, rfl, ?_, Nat.le_refl _, by simp [Value.ownBlock], World.ownsRow_nil _ _ _ _, (Below.refl _ _).alloc (Nat.le_refl _) _, fun j b hj => by simp at hj⟩
    rw [get_a, if_pos rfl]; rfl
  case round =>
    obtain ⟨k, cur, bl, hk, hbll, rfl, rfl, hcur, hcb, hcv, hown, hbel, hbox⟩ := hrel
    by_cases hlt : k < n
    · obtain rfl := ha (by omega)
      have hpl' := hpl (by omega)
      have e1 : wr.cell? ⟨ob, 0, none⟩ = some (.slice (some ⟨pb, po, none⟩) n cap) := (below_cells hbel ob 0 hbl).trans HB.out
      have e2 : wr.cell? ⟨pb, po + k, none⟩ = some (.int .u8 (ws k : Int)) := (below_cells hbel pb _ hpl').trans (HW.out k hlt)
      have e3 : wr.cell? ⟨cur, 0, none⟩ = some (.int .i64 (k : Int)) := cell_of_one hcur
      have h8k := H8.out k hlt
      obtain ⟨sa, sl, sc, rfl⟩ := own_shape hown
      have hbk : k = sl := (lenOf_own hown).symm
      subst hbk
      have hs := sumOf_le ws k
      have hcl := lt_of_block hcur
      have hwr : wrap64 ((sumOf ws k : Int) + (ws k : Int) % 32) = ((sumOf ws (k + 1) : Nat) : Int) := by simp only [sumOf]; unfold wrap64; push_cast; omega
      have HX := Lib.hid hbox
      have HC := Lib.hid hcur
      have HV := Lib.hid hcv
      have hsz := hbel.size
      clear hbox hcur hcv ha hpl
      go_wp2_with (at_builtin; refine wpList_append_row rfl (.tmp 35) (.tmp 37) 29 rfl 35 i35 .nilFunc 1 8 Try.underlying29 hi35 z35 sz35 b35 rfl (by decide) w.heap.size (.slice sa k sc) k (clos ob xb bl) rfl (World.ownsRow.alloc hown _) ⟨wr.heap.size, 0, none⟩ 1 1 [.func (.func 12) #[] #[.pointer (some ⟨ob, 0, none⟩), .pointer (some ⟨cur, 0, none⟩), .pointer (some ⟨xb, 0, none⟩)]] rfl rfl (one_cell _ _ _) (by simp [Value.oneCell']) (by simp only [maxLen]; omega) (by omega) (by simp only [size_a]; omega) ?_; intro v' w1 r1 r2 r3; have hc1 : w1.heap[cur]? = some (.cells #[.int .i64 (k : Int)] 3) := (r2.block cur (by simp only [size_a]; omega) (fun e => HV.out e.symm)).trans ((RowKit.Below.heap_alloc _ _ _ hcl).trans HC.out); have e4 := cell_of_one hc1; have HC1 := Lib.hid hc1; clear hc1 e1 e2 e3)
      go_roundw
      case rel =>
        have hl1 := lenOf_own r1
        refine ⟨k + 1, w1.heap.size, bl ++ [cur], by omega, by simp [hbll], by simp only [sumOf]; push_cast; rfl, rfl, ?_, ?_, ?_, ?_, ?_, boxes_step HX.out hbll hcl hcb HV.out r2 r3 HC1.out _⟩
        · rw [get_a, if_pos rfl]; push_cast; rfl
        · have := r2.size; rw [size_a] at this; omega
        · intro e; have := (World.ownsRow.lt r1 _ e).2; omega
        · rw [clos_snoc]; exact World.ownsRow.alloc r1 _
        · exact (((hbel.alloc (by omega) _).grown r2 (by rw [size_a]; omega) (fun g hg => (World.ownsRow.lt hown g hg).1))).alloc (by have := r2.size; rw [size_a] at this; omega) _
      case measure =>
        rw [lenOf_own r1, lenOf_own hown]; omega
    · obtain rfl : k = n := by omega
      have e1 : wr.cell? ⟨ob, 0, none⟩ = some (.slice a0 k cap) := (below_cells hbel ob 0 hbl).trans HB.out
      have e3 : wr.cell? ⟨cur, 0, none⟩ = some (.int .i64 (k : Int)) := cell_of_one hcur
      have HX := Lib.hid hbox
      clear hbox hcur hcv ha hpl
      go_wp2
      exact HQ.out _ _ cur bl _ _ _ _ _ _ _ _ _ _ _ _ _ _ _ _ _ _ _ wr hown hbel hbll HX.out rfl
end Go.Proofs.Ytkbfbphbdljaaaa

/- GateRounds: the list that is wanted. Every premise stands in the statements. -/
set_option linter.unusedVariables false
set_option linter.unusedSimpArgs false
namespace Go.Proofs.Ytkbfbphbdljaaaa
open Go.Tre Go.RowKit
noncomputable def c3_2 : Code := match Try.f3.body with | some (.seq _ (.seq _ (.seq _ (.seq _ (.seq _ (.seq _ (.seq _ (.seq _ (.seq _ (.seq c _)))))))))) => c | _ => .skip
def nsOf (ws : Nat → Nat) (n : Nat) : List Nat := (List.range n).map fun j => ws j % 32
theorem nsOf_len (ws : Nat → Nat) (n : Nat) : (nsOf ws n).length = n := by simp [nsOf]
theorem nsOf_get (ws : Nat → Nat) (n j : Nat) (h : j < n) : (nsOf ws n).getD j 0 = ws j % 32 := by simp [nsOf, h]
/-- What is wanted, up to place k in round r. -/
def upTo (ns : List Nat) (r k : Nat) : List Nat := rowsOf ns 0 r ++ (List.range k).filter fun j => decide (r < ns.getD j 0)
theorem upTo_zero (ns : List Nat) (r : Nat) : upTo ns r 0 = rowsOf ns 0 r := by simp [upTo]
theorem upTo_yes {ns : List Nat} {r k : Nat} (h : r < ns.getD k 0) : upTo ns r (k + 1) = upTo ns r k ++ [k] := by simp only [upTo, List.range_succ, List.filter_append, List.append_assoc, List.filter_cons, List.filter_nil, decide_eq_true h, if_true]
theorem upTo_no {ns : List Nat} {r k : Nat} (h : ¬ r < ns.getD k 0) : upTo ns r (k + 1) = upTo ns r k := by simp only [upTo, List.range_succ, List.filter_append, List.filter_cons, List.filter_nil, decide_eq_false h, Bool.false_eq_true, if_false, List.append_nil]
theorem rowsOf_succ (ns : List Nat) (f : Nat) : ∀ r, rowsOf ns r (f + 1) = rowsOf ns r f ++ rowOf ns (r + f) 0 := by
  induction f with
  | zero => intro r; simp [rowsOf]
  | succ f ih =>
    intro r
    show rowOf ns r 0 ++ rowsOf ns (r + 1) (f + 1) = (rowOf ns r 0 ++ rowsOf ns (r + 1) f) ++ _
    rw [ih (r + 1), List.append_assoc]
    congr 2
    rw [show r + 1 + f = r + (f + 1) by omega]
theorem upTo_end (ns : List Nat) (r : Nat) : upTo ns r ns.length = rowsOf ns 0 (r + 1) := by
  rw [rowsOf_succ, upTo, rowOf, Nat.zero_add, Nat.sub_zero, List.range_eq_range']
theorem upTo_len (ns : List Nat) (r k : Nat) (hk : k ≤ ns.length) : (upTo ns r k).length ≤ ns.length * (r + 1) := by
  have h0 : ∀ r, (rowsOf ns 0 r).length ≤ ns.length * r := fun r => by
    induction r with
    | zero => simp [rowsOf]
    | succ r ih =>
      rw [rowsOf_succ, List.length_append, Nat.mul_succ]
      have : (rowOf ns (0 + r) 0).length ≤ ns.length := by
        have := List.length_filter_le (fun j => decide (0 + r < ns.getD j 0)) (List.range' 0 (ns.length - 0))
        simpa [rowOf] using this
      omega
  have h1 := h0 r
  have h2 := List.length_filter_le (fun j => decide (r < ns.getD j 0)) (List.range k)
  simp only [List.length_range] at h2
  rw [upTo, List.length_append, Nat.mul_succ]
  omega
def intsOf (l : List Nat) : List Value := l.map fun j : Nat => .int .i64 (j : Int)
theorem intsOf_snoc (l : List Nat) (k : Nat) : intsOf (l ++ [k]) = intsOf l ++ [.int .i64 (k : Int)] := by simp [intsOf]
set_option maxRecDepth 100000 in
set_option maxHeartbeats 4000000 in
theorem c3_2_wp (Q : Act → World → Prop) (w : World) (a0 : Option Addr) (n cap ob xb pb po qb cur all : Nat) (v rv : Value) (y21 y22 y23 y24 y25 y26 y27 y28 y29 y30 y31 y32 y33 y34 y35 y36 y37 y38 y39 : Value) (ws : Nat → Nat) (hn : n ≤ 40) (h8 : ∀ j, j < n → ws j < 256) (ha : 0 < n → a0 = some ⟨pb, po, none⟩) (hob : w.cell? ⟨ob, 0, none⟩ = some (.slice a0 n cap)) (hbl : ob < w.heap.size) (hpl : 0 < n → pb < w.heap.size)
    (hws : ∀ j, j < n → w.cell? ⟨pb, po + j, none⟩ = some (.int .u8 (ws j : Int)))
    (hQ : ∀ (wv : Value) (z10 z11 z42 z43 z44 z45 z46 z47 z48 z49 z50 z51 z52 z53 z54 z55 z56 z57 z58 z59 z60 z61 z62 : Value) (w' : World), w'.ownsRow w.heap.size 3 1 wv (rowsOf (nsOf ws n) 0 32).length (intsOf (rowsOf (nsOf ws n) 0 32)) → Below w.heap.size w w' → Q ⟨#[.slice a0 n cap, .pointer (some ⟨ob, 0, none⟩), .bool false, .bool true, .pointer (some ⟨xb, 0, none⟩), v, .int .i64 (all : Int), .pointer (some ⟨cur, 0, none⟩), .pointer (some ⟨qb, 0, none⟩), wv, z10, z11, .bool true, .bool true, .bool false, .bool false, .slice a0 n cap, .int .i64 (n : Int), .bool false, .bool false, undef, y21, y22, y23, y24, y25, y26, y27, y28, y29, y30, y31, y32, y33, y34, y35, y36, y37, y38, y39, v, rv, z42, z43, z44, z45, z46, z47, z48, z49, z50, z51, z52, z53, z54, z55, z56, z57, z58, z59, z60, z61, z62, undef, undef, undef, undef, undef, undef, undef, undef, undef, undef, undef, undef, undef, undef, undef, undef, undef, undef, undef, undef, undef, undef, undef, undef, undef, undef, undef, undef, undef, undef, undef, undef], []⟩ w') :
    c3_2.wp Try.prog (fun e a w => match e with | .normal => Q a w | _ => False) ⟨#[.slice a0 n cap, .pointer (some ⟨ob, 0, none⟩), .bool false, .bool true, .pointer (some ⟨xb, 0, none⟩), v, .int .i64 (all : Int), .pointer (some ⟨cur, 0, none⟩), .pointer (some ⟨qb, 0, none⟩), .slice none 0 0, undef, undef, .bool true, .bool true, .bool false, .bool false, .slice a0 n cap, .int .i64 (n : Int), .bool false, .bool false, undef, y21, y22, y23, y24, y25, y26, y27, y28, y29, y30, y31, y32, y33, y34, y35, y36, y37, y38, y39, v, rv, undef, undef, undef, undef, undef, undef, undef, undef, undef, undef, undef, undef, undef, undef, undef, undef, undef, undef, undef, undef, undef, undef, undef, undef, undef, undef, undef, undef, undef, undef, undef, undef, undef, undef, undef, undef, undef, undef, undef, undef, undef, undef, undef, undef, undef, undef, undef, undef, undef, undef, undef, undef, undef], []⟩ w := by
  obtain ⟨i3, hi3, z3, sz3, b3⟩ := info3
  have HQ := Lib.hid hQ
  have HW := Lib.hid hws
  have H8 := Lib.hid h8
  have HB := Lib.hid hob
  have HA := Lib.hid ha
  have HP := Lib.hid hpl
  clear hQ hws h8 hob ha hpl
  simp only [c3_2, Try.f3]
  go_wp2
  go_loopw [9, 10] (fun v i wr => ∃ r : Nat, r ≤ 32 ∧ i = .int .u8 (r : Int) ∧ wr.ownsRow w.heap.size 3 1 v (rowsOf (nsOf ws n) 0 r).length (intsOf (rowsOf (nsOf ws n) 0 r)) ∧ Below w.heap.size w wr) (fun _ i _ => 32 - (intOf i).toNat)
  case atStart => exact ⟨0, Nat.zero_le _, rfl, World.ownsRow_nil _ _ _ _, Below.refl _ _⟩
  case round =>
    obtain ⟨r, hr, rfl, hown, hbel⟩ := hrel
    by_cases hr32 : r < 32
    · have HN := Lib.hid hown
      have hsz0 := hbel.size
      clear hown
      go_wp2
      go_loopw [9, 11] (fun v i wq => ∃ k : Nat, k ≤ n ∧ i = .int .i64 (k : Int) ∧ wq.ownsRow w.heap.size 3 1 v (upTo (nsOf ws n) r k).length (intsOf (upTo (nsOf ws n) r k)) ∧ Below w.heap.size w wq) (fun _ i _ => n - (intOf i).toNat)
      case atStart => exact ⟨0, Nat.zero_le _, rfl, by rw [upTo_zero]; exact HN.out, hbel⟩
      case round =>
        obtain ⟨k, hk, rfl, hown, hbq⟩ := hrel
        have hsz := hbq.size
        have hlen := upTo_len (nsOf ws n) r k (by rw [nsOf_len]; exact hk)
        rw [nsOf_len] at hlen
        have hlen2 : (upTo (nsOf ws n) r k).length ≤ 1400 := by
          have : n * (r + 1) ≤ 40 * 33 := Nat.mul_le_mul hn (by omega)
          omega
        clear hlen
        by_cases hlt : k < n
        · obtain rfl := HA.out (by omega)
          have hpl' := HP.out (by omega)
          have e1 : wr.cell? ⟨ob, 0, none⟩ = some (.slice (some ⟨pb, po, none⟩) n cap) := (below_cells hbq ob 0 hbl).trans HB.out
          have e2 : wr.cell? ⟨pb, po + k, none⟩ = some (.int .u8 (ws k : Int)) := (below_cells hbq pb _ hpl').trans (HW.out k hlt)
          have h8k := H8.out k hlt
          have hns := nsOf_get ws n k hlt
          by_cases ht : r < ws k % 32
          · have hU := Lib.hid (upTo_yes (ns := nsOf ws n) (r := r) (k := k) (by rw [hns]; exact ht))
            clear hns
            obtain ⟨sa, sl, sc, rfl⟩ := own_shape hown
            have hd : decide ((r : Int) < (ws k : Int) % 32) = true := by simp; omega
            go_wp2_with (at_builtin; refine wpList_append_row rfl (.tmp 59) (.tmp 61) 37 rfl 3 i3 (.int .i64 0) 1 8 Try.underlying37 hi3 z3 sz3 b3 rfl (by decide) w.heap.size (.slice sa sl sc) _ _ rfl (World.ownsRow.alloc hown _) ⟨wr.heap.size, 0, none⟩ 1 1 [.int .i64 (k : Int)] rfl rfl (one_cell _ _ _) (by simp [Value.oneCell']) (by simp only [maxLen]; omega) (by omega) (by simp only [size_a]; omega) ?_; intro v' w1 r1 r2 r3)
            go_roundw
            case rel => exact ⟨k + 1, by omega, by go_num, by rw [hU.out, List.length_append, intsOf_snoc]; exact r1, (hbq.alloc hsz _).grown r2 (by rw [size_a]; omega) (fun g hg => (World.ownsRow.lt hown g hg).1)⟩
            case measure => simp [intOf]; omega
          · have hU := Lib.hid (upTo_no (ns := nsOf ws n) (r := r) (k := k) (by rw [hns]; exact ht))
            clear hns
            have hd : decide ((r : Int) < (ws k : Int) % 32) = false := by simp; omega
            go_wp2
            go_roundw
            case rel => exact ⟨k + 1, by omega, by go_num, by rw [hU.out]; exact hown, hbq⟩
            case measure => simp [intOf]; omega
        · obtain rfl : k = n := by omega
          have e1 : wr.cell? ⟨ob, 0, none⟩ = some (.slice a0 k cap) := (below_cells hbq ob 0 hbl).trans HB.out
          go_wp2
          go_roundw
          case rel =>
            refine ⟨r + 1, by omega, by go_num, ?_, hbq⟩
            have e := upTo_end (nsOf ws k) r
            rw [nsOf_len] at e
            rw [← e]; exact hown
          case measure => simp [intOf]; omega
    · obtain rfl : r = 32 := by omega
      go_wp2
      exact HQ.out _ _ _ _ _ _ _ _ _ _ _ _ _ _ _ _ _ _ _ _ _ _ _ _ _ hown hbel
end Go.Proofs.Ytkbfbphbdljaaaa

/- GateRounds: the run of its bodies, plain. Every premise stands in the statements. -/
set_option linter.unusedVariables false
set_option linter.unusedSimpArgs false
namespace Go.Proofs.Ytkbfbphbdljaaaa
open Go.Tre Go.RowKit
theorem map_getD (ns : List Nat) : (List.range ns.length).map (fun j => ns.getD j 0) = ns := by
  apply List.ext_getElem?
  intro j
  by_cases h : j < ns.length
  · simp [h]
  · rw [List.getElem?_eq_none (by simp; omega), List.getElem?_eq_none (by omega)]
theorem rowOf_len (ns : List Nat) (r : Nat) : (rowOf ns r 0).length = ns.countP fun a => decide (r < a) := by
  have e : rowOf ns r 0 = (List.range ns.length).filter fun j => decide (r < ns.getD j 0) := by rw [rowOf, Nat.sub_zero, List.range_eq_range']
  rw [e, ← List.countP_eq_length_filter]
  conv => rhs; rw [← map_getD ns]
  rw [List.countP_map]
  rfl
theorem sum_min (ns : List Nat) (f : Nat) : (ns.map fun a => min a (f + 1)).sum = (ns.map fun a => min a f).sum + ns.countP fun a => decide (f < a) := by
  induction ns with
  | nil => rfl
  | cons a l ih =>
    simp only [List.map_cons, List.sum_cons, List.countP_cons, ih]
    by_cases h : f < a
    · simp only [h, decide_true, if_true]; omega
    · simp only [h, decide_false, Bool.false_eq_true, if_false]; omega
theorem rowsOf_len (ns : List Nat) (f : Nat) : (rowsOf ns 0 f).length = (ns.map fun a => min a f).sum := by
  induction f with
  | zero =>
    have : (ns.map fun a => min a 0) = ns.map fun _ => 0 := List.map_congr_left fun a _ => Nat.min_zero a
    rw [this]
    show 0 = _
    clear this
    induction ns with
    | nil => rfl
    | cons a l ih => simp only [List.map_cons, List.sum_cons]; omega
  | succ f ih => rw [rowsOf_succ, List.length_append, ih, Nat.zero_add, rowOf_len, sum_min]
theorem sumOf_eq (ws : Nat → Nat) (n : Nat) : sumOf ws n = (nsOf ws n).sum := by
  induction n with
  | zero => rfl
  | succ n ih => simp only [sumOf, nsOf, List.range_succ, List.map_append, List.map_cons, List.map_nil, List.sum_append, List.sum_cons, List.sum_nil] at ih ⊢; rw [ih]; simp [nsOf]
theorem want_len (ws : Nat → Nat) (n : Nat) : (rowsOf (nsOf ws n) 0 32).length = sumOf ws n := by
  rw [rowsOf_len, sumOf_eq]
  congr 1
  have : (nsOf ws n).map (fun a => min a 32) = (nsOf ws n).map id := List.map_congr_left fun a ha => by
    simp only [nsOf, List.mem_map] at ha
    obtain ⟨j, _, rfl⟩ := ha
    simp only [id]; omega
  rw [this, List.map_id]
/-- The bodies. -/
def bodiesOf (ob xb : Nat) (ws : Nat → Nat) (bl : List Nat) : List (Bd Unit) := bl.mapIdx fun j b => ⟨.func (.func 12) #[] #[.pointer (some ⟨ob, 0, none⟩), .pointer (some ⟨b, 0, none⟩), .pointer (some ⟨xb, 0, none⟩)], fun _ s => s, fun _ _ => adds ⟨xb, 0, none⟩ (ws j % 32)⟩
theorem begins_adds (x : Addr) (l : List (Bd Unit)) (k : Nat → Nat) : ∀ (A : AS Unit) (m : Nat), A.ths.length = m → (∀ j b, l[j]? = some b → b.init = (fun _ s => s) ∧ b.child = fun _ _ => adds x (k (m + j))) →
    (A.begins l).s = A.s ∧ (A.begins l).went = A.went ∧ (A.begins l).ths.length = m + l.length ∧ ∀ j, (A.begins l).ths[j]? = if j < m then A.ths[j]? else if j < m + l.length then some (adds x (k j)) else none := by
  induction l with
  | nil => intro A m hm h; refine ⟨rfl, rfl, hm, fun j => ?_⟩; simp only [AS.begins, List.foldl_nil]; split; rfl; rw [if_neg (by simpa using by omega)]; exact List.getElem?_eq_none (by omega)
  | cons b l ih =>
    intro A m hm h
    obtain ⟨h1, h2⟩ := h 0 b rfl
    have hA : (A.begin b.init b.child).ths = A.ths ++ [adds x (k m)] := by simp [AS.begin, h2]
    obtain ⟨e1, e2, e3, e4⟩ := ih (A.begin b.init b.child) (m + 1) (by rw [hA]; simp [hm]) fun j b' hj => by
      obtain ⟨z1, z2⟩ := h (j + 1) b' (by simpa using hj)
      exact ⟨z1, by rw [z2, show m + (j + 1) = m + 1 + j by omega]⟩
    have hb : A.begins (b :: l) = (A.begin b.init b.child).begins l := rfl
    rw [hb]
    refine ⟨e1.trans (by simp [AS.begin, h1]), e2.trans rfl, by rw [e3]; simp; omega, fun j => ?_⟩
    rw [e4 j, hA]
    by_cases hj : j < m
    · rw [if_pos (by omega), if_pos hj, List.getElem?_append_left (by omega)]
    · by_cases hj' : j = m
      · subst hj'
        rw [if_pos (by omega), if_neg (by omega), if_pos (by simp), List.getElem?_append_right (by omega)]
        simp [hm]
      · rw [if_neg (by omega), if_neg hj]
        by_cases hl : j < m + 1 + l.length
        · rw [if_pos hl, if_pos (by simp; omega)]
        · rw [if_neg hl, if_neg (by simp; omega)]
/-- ████ The run. ████ -/
theorem rounds_run (ob xb n : Nat) (ws : Nat → Nat) (bl : List Nat) (hn : n ≤ 40) (hbl : bl.length = n) : ∃ B : AS Unit, AS.runs (schedR []) 4000 (sh0 ⟨xb, 0, none⟩) (bodiesOf ob xb ws bl) = (B, 1, true) ∧
    B.went = (rowsOf (nsOf ws n) 0 32).map (fun j : Nat => (j : Int)) ∧ B.s.vals ⟨xb, 0, none⟩ = some (sumOf ws n : Int) ∧ (∀ j, B.ended j = true) ∧ B.ths.length = n ∧ ∀ j, B.falls j = false := by
  have e : (min (max (4000 : Int) 0) 65536).toNat = 4000 := by decide
  obtain ⟨b1, b2, b3, b4⟩ := begins_adds ⟨xb, 0, none⟩ (bodiesOf ob xb ws bl) (fun j => ws j % 32) (AS.start (sh0 ⟨xb, 0, none⟩)) 0 rfl fun j b hj => by
    simp only [bodiesOf, List.getElem?_mapIdx, Option.map_eq_some_iff] at hj
    obtain ⟨y, _, rfl⟩ := hj
    exact ⟨rfl, by rw [Nat.zero_add]⟩
  have hl : (bodiesOf ob xb ws bl).length = n := by simp [bodiesOf, hbl]
  rw [hl, Nat.zero_add] at b3
  have hlen := want_len ws n
  have hs := sumOf_le ws n
  have hsplit : rowOf (nsOf ws n) 0 0 ++ rowsOf (nsOf ws n) (0 + 1) 31 = rowsOf (nsOf ws n) 0 32 := rfl
  obtain ⟨B, h1, h2, h3⟩ := Pos.all (Λ := Unit) (x := ⟨xb, 0, none⟩) (ns := nsOf ws n) (most := 4000) 31 n 0 0 ((AS.start (sh0 ⟨xb, 0, none⟩)).begins (bodiesOf ob xb ws bl)) 0 4000 (by rw [nsOf_len]; omega) (fun j hj => by rw [nsOf_len] at hj; rw [nsOf_get ws n j hj]; omega)
    ⟨by rw [b3, nsOf_len], fun j hj => by
      rw [nsOf_len] at hj
      rw [b4 j, if_neg (Nat.not_lt_zero _), hl, if_pos (by omega), if_neg (Nat.not_lt_zero _), nsOf_get ws n j hj, Nat.sub_zero], by rw [b1]; simp [AS.start, GSt.start, GSt.abs, sh0]⟩
    (.inl ⟨by rw [b2]; show (-1 : Int) < 0; decide, fun j hj => absurd hj (Nat.not_lt_zero _)⟩) (by rw [hsplit, hlen]; omega) (by rw [hsplit, hlen, b2]; show 0 + _ ≤ _; omega) (by decide) (by rw [hsplit, hlen]; omega)
  rw [hsplit] at h2 h3
  rw [hlen] at h3
  have hth : ∀ j, j < n → B.ths[j]? = some (.over false) := fun j hj => h3.th j (by rw [nsOf_len]; exact hj)
  have hBl : B.ths.length = n := h3.len.trans (nsOf_len ws n)
  refine ⟨B, by unfold AS.runs; rw [e]; exact h1, by rw [h2, b2]; rfl, by rw [h3.val]; simp, fun j => ?_, hBl, fun j => ?_⟩
  · by_cases hj : j < n
    · simp [AS.ended, hth j hj, Th.isOver]
    · simp [AS.ended, List.getElem?_eq_none (show B.ths.length ≤ j by omega)]
  · by_cases hj : j < n
    · simp [AS.falls, hth j hj, Th.fell]
    · simp [AS.falls, List.getElem?_eq_none (show B.ths.length ≤ j by omega)]
end Go.Proofs.Ytkbfbphbdljaaaa
