/- Texts of one proof, joined: each says what it proves. Every premise stands in the statements. -/
import Derived.Test.YtkbfbphbdljaaaaA22
import Derived.Deep.RegionLawGrows
/- gate's until: who went, how many were ready (lone). Every premise stands in the statements. -/
set_option linter.unusedVariables false
set_option linter.unusedSimpArgs false
namespace Go.Proofs.Ytkbfbphbdljaaaa
open Go.Tre Go.RowKit
noncomputable def body44 : Code := match Try.f44.body with | some (.seq _ (.seq _ (.block _ (.loop c)))) => c | _ => .skip
noncomputable def c44_16 : Code := match body44 with | .block _ (.seq _ (.seq _ (.seq _ (.seq _ (.seq c _))))) => c | _ => .skip
noncomputable def c44_17 : Code := match body44 with | .block _ (.seq _ (.seq _ (.seq _ (.seq _ (.seq _ (.seq c _)))))) => c | _ => .skip
theorem info3 : ∃ i, Try.prog.info? 3 = some i ∧ i.zero = some (.int .i64 0) ∧ i.size = 1 ∧ i.bytes = 8 := by
  have h : (Try.prog.info? 3).map (fun i => (i.zero, i.size, i.bytes)) = some (some (.int .i64 0), 1, 8) := by kernel_rfl
  cases e : Try.prog.info? 3 with
  | none => rw [e] at h; cases h
  | some i => rw [e] at h; simp at h; exact ⟨i, rfl, h.1, h.2.1, h.2.2⟩
theorem grown_two' {w w' : World} {o : Obj} {row : Option Nat} {a : Addr} {v : Value} (r : (w.alloc o).grownBy w' row) (n : row ≠ some a.block) (h : w.cell? a = some v) (hf : w.frozen? a = false) : w'.cell? a = some v ∧ w'.frozen? a = false := grown_two (o := o) ⟨r.os, r.tape, r.output, r.size, r.block⟩ n h hf
set_option maxRecDepth 100000 in
set_option maxHeartbeats 2000000 in
theorem c44_16_wp (Q : Act → World → Prop) (w : World) (rp tp base n : Nat) (k : Int) (v3 : Value) (xs : List Value) (y1 y2 y3 y4 y5 y6 y7 y8 y9 y10 y11 y12 y13 y15 y16 y17 y18 y19 y20 y21 y22 y23 y24 y25 y26 y27 y28 y29 y30 y31 y32 y33 y34 y35 y36 y37 y38 y39 y40 y41 y42 y43 y44 y45 y46 y47 y48 y49 y50 y51 y52 y53 y54 y55 y56 y57 y58 y59 y60 y61 y62 y63 y64 y65 y66 y67 y68 y69 y70 y71 y72 y73 y74 y75 y76 y77 y78 y79 : Value) (h1 : w.cell? ⟨rp, 3, none⟩ = some v3) (ht : w.cell? ⟨tp, 1, none⟩ = some (.int .i64 k))
   (hf : w.frozen? ⟨rp, 3, none⟩ = false) (hown : w.ownsRow base 3 1 v3 n xs) (hbase : base ≤ w.heap.size) (hn : n ≤ 65536) (n2 : v3.ownBlock ≠ some rp)
   (hQ : ∀ sb sm sk w', w'.ownsRow base 3 1 (.slice sb sm sk) (n + 1) (xs ++ [.int .i64 k]) → ((w.alloc (.cells #[.int .i64 k] 3)).drew).grownBy w' v3.ownBlock → (∀ g, (Value.slice sb sm sk).ownBlock = some g → v3.ownBlock = some g ∨ ((w.alloc (.cells #[.int .i64 k] 3)).drew).heap.size ≤ g) → Q ⟨#[.pointer (some ⟨rp, 0, none⟩), y1, y2, y3, y4, y5, y6, y7, y8, y9, y10, y11, y12, y13, .pointer (some ⟨tp, 0, none⟩), y15, y16, y17, y18, y19, y20, y21, y22, y23, y24, y25, y26, y27, y28, y29, y30, y31, y32, y33, y34, y35, y36, y37, y38, y39, y40, y41, y42, y43, y44, y45, y46, y47, y48, y49, y50, y51, y52, y53, .pointer (some ⟨rp, 0, none⟩), .pointer (some ⟨rp, 0, none⟩), .pointer (some ⟨rp, 0, none⟩), .pointer (some ⟨rp, 3, none⟩), v3, .pointer (some ⟨tp, 0, none⟩), .pointer (some ⟨tp, 0, none⟩), .pointer (some ⟨tp, 1, none⟩), .int .i64 k, .slice (some ⟨w.heap.size, 0, none⟩) 1 1, .slice sb sm sk, .pointer (some ⟨rp, 0, none⟩), .pointer (some ⟨rp, 3, none⟩), y67, y68, y69, y70, y71, y72, y73, y74, y75, y76, y77, y78, y79], []⟩ (w'.setCell ⟨rp, 3, none⟩ (.slice sb sm sk))) :
   c44_16.wp Try.prog (fun e a w => match e with | .normal => Q a w | _ => False) ⟨#[.pointer (some ⟨rp, 0, none⟩), y1, y2, y3, y4, y5, y6, y7, y8, y9, y10, y11, y12, y13, .pointer (some ⟨tp, 0, none⟩), y15, y16, y17, y18, y19, y20, y21, y22, y23, y24, y25, y26, y27, y28, y29, y30, y31, y32, y33, y34, y35, y36, y37, y38, y39, y40, y41, y42, y43, y44, y45, y46, y47, y48, y49, y50, y51, y52, y53, y54, y55, y56, y57, y58, y59, y60, y61, y62, y63, y64, y65, y66, y67, y68, y69, y70, y71, y72, y73, y74, y75, y76, y77, y78, y79], []⟩ w := by
  have l1 := World.block_lt_of_cell? w _ h1
  have l3 := World.block_lt_of_cell? w _ ht
  obtain ⟨i3, hi3, z3, s3, b3⟩ := info3
  simp only at l1 l3
  simp only [c44_16, body44, Try.f44]
  obtain ⟨sa, sl, sc, rfl⟩ := own_shape hown
  go_region_law (refine step_append_row rfl (.tmp 58) (.tmp 63) 37 rfl 3 i3 (.int .i64 0) 1 8 Try.underlying37 hi3 z3 s3 b3 rfl (by decide) base _ n xs (by simp [Act.eval, Act.put]; rfl) (by first | exact hown | exact hown.drew | exact hown.alloc _ | exact hown.drew.alloc _ | exact (hown.alloc _).drew) _ 1 1 [.int .i64 k] (by simp [Act.eval, Act.put]; rfl) rfl (by first | exact one_cell _ _ _) (by simp [Value.oneCell']) (by simp only [maxLen]; omega) (by omega) (by simp only [size_a, size_d, size_s]; omega) ?_; intro v' w' r1 r2 r3; obtain ⟨sb, sm, sk, rfl⟩ := own_shape r1; obtain ⟨k1, k2⟩ := grown_two r2 n2 h1 hf)
  all_goals (refine hQ _ _ _ _ ?_ ?_ ?_ <;> assumption)
set_option maxRecDepth 100000 in
set_option maxHeartbeats 2000000 in
theorem c44_17_wp (Q : Act → World → Prop) (w : World) (rp base n ln lc : Nat) (la : Option Addr) (v4 : Value) (xs : List Value) (y1 y2 y3 y4 y5 y6 y7 y8 y9 y10 y11 y13 y14 y15 y16 y17 y18 y19 y20 y21 y22 y23 y24 y25 y26 y27 y28 y29 y30 y31 y32 y33 y34 y35 y36 y37 y38 y39 y40 y41 y42 y43 y44 y45 y46 y47 y48 y49 y50 y51 y52 y53 y54 y55 y56 y57 y58 y59 y60 y61 y62 y63 y64 y65 y66 y67 y68 y69 y70 y71 y72 y73 y74 y75 y76 y77 y78 y79 : Value) (h1 : w.cell? ⟨rp, 4, none⟩ = some v4)
   (hf : w.frozen? ⟨rp, 4, none⟩ = false) (hown : w.ownsRow base 3 1 v4 n xs) (hbase : base ≤ w.heap.size) (hn : n ≤ 65536) (n2 : v4.ownBlock ≠ some rp)
   (hQ : ∀ sb sm sk w', w'.ownsRow base 3 1 (.slice sb sm sk) (n + 1) (xs ++ [.int .i64 (ln : Int)]) → (w.alloc (.cells #[.int .i64 (ln : Int)] 3)).grownBy w' v4.ownBlock → (∀ g, (Value.slice sb sm sk).ownBlock = some g → v4.ownBlock = some g ∨ (w.alloc (.cells #[.int .i64 (ln : Int)] 3)).heap.size ≤ g) → Q ⟨#[.pointer (some ⟨rp, 0, none⟩), y1, y2, y3, y4, y5, y6, y7, y8, y9, y10, y11, .slice la ln lc, y13, y14, y15, y16, y17, y18, y19, y20, y21, y22, y23, y24, y25, y26, y27, y28, y29, y30, y31, y32, y33, y34, y35, y36, y37, y38, y39, y40, y41, y42, y43, y44, y45, y46, y47, y48, y49, y50, y51, y52, y53, y54, y55, y56, y57, y58, y59, y60, y61, y62, y63, y64, y65, y66, .pointer (some ⟨rp, 0, none⟩), .pointer (some ⟨rp, 0, none⟩), .pointer (some ⟨rp, 0, none⟩), .pointer (some ⟨rp, 4, none⟩), v4, .slice la ln lc, .int .i64 (ln : Int), .slice (some ⟨w.heap.size, 0, none⟩) 1 1, .slice sb sm sk, .pointer (some ⟨rp, 0, none⟩), .pointer (some ⟨rp, 4, none⟩), y78, y79], []⟩ (w'.setCell ⟨rp, 4, none⟩ (.slice sb sm sk))) :
   c44_17.wp Try.prog (fun e a w => match e with | .normal => Q a w | _ => False) ⟨#[.pointer (some ⟨rp, 0, none⟩), y1, y2, y3, y4, y5, y6, y7, y8, y9, y10, y11, .slice la ln lc, y13, y14, y15, y16, y17, y18, y19, y20, y21, y22, y23, y24, y25, y26, y27, y28, y29, y30, y31, y32, y33, y34, y35, y36, y37, y38, y39, y40, y41, y42, y43, y44, y45, y46, y47, y48, y49, y50, y51, y52, y53, y54, y55, y56, y57, y58, y59, y60, y61, y62, y63, y64, y65, y66, y67, y68, y69, y70, y71, y72, y73, y74, y75, y76, y77, y78, y79], []⟩ w := by
  have l1 := World.block_lt_of_cell? w _ h1
  obtain ⟨i3, hi3, z3, s3, b3⟩ := info3
  simp only at l1
  simp only [c44_17, body44, Try.f44]
  obtain ⟨sa, sl, sc, rfl⟩ := own_shape hown
  go_wp2_with (at_builtin; refine wpList_append_row rfl (.tmp 71) (.tmp 74) 37 rfl 3 i3 (.int .i64 0) 1 8 Try.underlying37 hi3 z3 s3 b3 rfl (by decide) base (.slice sa sl sc) n xs rfl (World.ownsRow.alloc hown _) ⟨w.heap.size, 0, none⟩ 1 1 [.int .i64 (ln : Int)] rfl rfl (one_cell _ _ _) (by simp [Value.oneCell']) (by simp only [maxLen]; omega) (by omega) (by simp only [size_a, size_d, size_s]; omega) ?_; intro v' w' r1 r2 r3; obtain ⟨sb, sm, sk, rfl⟩ := own_shape r1; obtain ⟨k1, k2⟩ := grown_two' r2 n2 h1 hf)
  all_goals (refine hQ _ _ _ _ ?_ ?_ ?_ <;> assumption)
end Go.Proofs.Ytkbfbphbdljaaaa

/- More functions that are plain. Every premise stands in the statements. -/
set_option linter.unusedVariables false
set_option linter.unusedSimpArgs false
namespace Go.Proofs.Ytkbfbphbdljaaaa
open Go.Tre Go.RowKit
def plS3 (f : FuncId) : Bool := plS2 f || f == 15
variable [Base]
theorem try_plain3 : Plain Try.prog plS3 plE where
  body := fun f hf => by
    simp only [plS3, plS2, plS, Bool.or_eq_true, beq_iff_eq] at hf
    rcases hf with (((((((((rfl | rfl) | rfl) | rfl) | rfl) | rfl) | rfl) | rfl) | rfl) | rfl)
    · exact ⟨_, _, Try.func29, by kernel_rfl, rfl, by simp [okCode, okOp, plS, plS2, plS3, plE]⟩
    · exact ⟨_, _, Try.func37, by kernel_rfl, rfl, by simp [okCode, okOp, plS, plS2, plS3, plE]⟩
    · exact ⟨_, _, Try.func16, by kernel_rfl, rfl, by simp [okCode, okOp, plS, plS2, plS3, plE]⟩
    · exact ⟨_, _, Try.func42, by kernel_rfl, rfl, by simp [okCode, okOp, plS, plS2, plS3, plE]⟩
    · exact ⟨_, _, Try.func43, by kernel_rfl, rfl, by simp [okCode, okOp, plS, plS2, plS3, plE]⟩
    · exact ⟨_, _, Try.func38, by kernel_rfl, rfl, by simp [okCode, okOp, plS, plS2, plS3, plE]⟩
    · exact ⟨_, _, Try.func76, by kernel_rfl, rfl, by simp [okCode, okOp, plS, plS2, plS3, plE]⟩
    · exact ⟨_, _, Try.func110, by kernel_rfl, rfl, by simp [okCode, okOp, plS, plS2, plS3, plE]⟩
    · exact ⟨_, _, Try.func45, by kernel_rfl, rfl, by simp [okCode, okOp, plS, plS2, plS3, plE]⟩
    · exact ⟨_, _, Try.func15, by kernel_rfl, rfl, by simp [okCode, okOp, plS, plS2, plS3, plE]⟩
  ext := try_plain2.ext
  early := try_early
end Go.Proofs.Ytkbfbphbdljaaaa
