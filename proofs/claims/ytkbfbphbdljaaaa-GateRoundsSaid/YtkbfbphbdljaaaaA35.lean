/- Texts of one proof, joined: each says what it proves. Every premise stands in the statements. -/
import Derived.Test.YtkbfbphbdljaaaaA33
import Derived.Test.YtkbfbphbdljaaaaA34
import Derived.Test.YtkbfbphbdljaaaaA23
/- GateRounds: the last test. Every premise stands in the statements. -/
set_option linter.unusedVariables false
set_option linter.unusedSimpArgs false
namespace Go.Proofs.Ytkbfbphbdljaaaa
open Go.Tre Go.RowKit
noncomputable def c3_3 : Code := match Try.f3.body with | some (.seq _ (.seq _ (.seq _ (.seq _ (.seq _ (.seq _ (.seq _ (.seq _ (.seq _ (.seq _ (.seq c _))))))))))) => c | _ => .skip
set_option maxRecDepth 100000 in
set_option maxHeartbeats 4000000 in
theorem c3_3_wp (Q : Act → World → Prop) (w : World) (a0 sw s3 sl sf : Option Addr) (n cap ob xb qb cur L cw c3 cl cf gw g3 : Nat) (all : Nat) (v rv : Value) (y21 y22 y23 y24 y25 y26 y27 y28 y29 y30 y31 y32 y33 y34 y35 y36 y37 y38 y39 : Value) (z10 z11 z42 z43 z44 z45 z46 z47 z48 z49 z50 z51 z52 z53 z54 z55 z56 z57 z58 z59 z60 z61 z62 : Value) (xs : Nat → Int) (hL : L ≤ maxLen) (hall : all ≤ 100000)
    (q0 : w.cell? ⟨qb, 0, none⟩ = some (.int .i8 1)) (q1 : w.cell? ⟨qb, 1, none⟩ = some (.int .i64 (all : Int))) (q3 : w.cell? ⟨qb, 3, none⟩ = some (.slice s3 L c3)) (q5 : w.cell? ⟨qb, 5, none⟩ = some (.slice sl 0 cl)) (q6 : w.cell? ⟨qb, 6, none⟩ = some (.slice sf 0 cf)) (hx : w.cell? ⟨xb, 0, none⟩ = some (.int .i64 (all : Int)))
    (h1 : 0 < L → s3 = some ⟨g3, 0, none⟩) (h2 : 0 < L → sw = some ⟨gw, 0, none⟩) (h3 : ∀ j, j < L → w.cell? ⟨g3, 0 + j, none⟩ = some (.int .i64 (xs j))) (h4 : ∀ j, j < L → w.cell? ⟨gw, 0 + j, none⟩ = some (.int .i64 (xs j)))
    (hQ : ∀ (u63 u64 u65 u66 u67 u68 u69 u70 u71 u72 u73 u74 u75 u76 u77 u78 u79 u80 u81 u82 u83 u84 u85 u86 u87 u88 u89 u90 u91 u92 u93 u94 : Value) (m : Nat), Q ⟨#[.slice a0 n cap, .pointer (some ⟨ob, 0, none⟩), .bool true, .bool true, .pointer (some ⟨xb, 0, none⟩), v, .int .i64 (all : Int), .pointer (some ⟨cur, 0, none⟩), .pointer (some ⟨qb, 0, none⟩), .slice sw L cw, z10, z11, .bool true, .bool true, .bool false, .bool false, .slice a0 n cap, .int .i64 (n : Int), .bool false, .bool false, undef, y21, y22, y23, y24, y25, y26, y27, y28, y29, y30, y31, y32, y33, y34, y35, y36, y37, y38, y39, v, rv, z42, z43, z44, z45, z46, z47, z48, z49, z50, z51, z52, z53, z54, z55, z56, z57, z58, z59, z60, z61, z62, u63, u64, u65, u66, u67, u68, u69, u70, u71, u72, u73, u74, u75, u76, u77, u78, u79, u80, u81, u82, u83, u84, u85, u86, u87, u88, u89, u90, u91, u92, u93, u94], []⟩ (w.drewN m)) :
    c3_3.wp Try.prog (fun e a w => match e with | .normal => Q a w | _ => False) ⟨#[.slice a0 n cap, .pointer (some ⟨ob, 0, none⟩), .bool false, .bool true, .pointer (some ⟨xb, 0, none⟩), v, .int .i64 (all : Int), .pointer (some ⟨cur, 0, none⟩), .pointer (some ⟨qb, 0, none⟩), .slice sw L cw, z10, z11, .bool true, .bool true, .bool false, .bool false, .slice a0 n cap, .int .i64 (n : Int), .bool false, .bool false, undef, y21, y22, y23, y24, y25, y26, y27, y28, y29, y30, y31, y32, y33, y34, y35, y36, y37, y38, y39, v, rv, z42, z43, z44, z45, z46, z47, z48, z49, z50, z51, z52, z53, z54, z55, z56, z57, z58, z59, z60, z61, z62, undef, undef, undef, undef, undef, undef, undef, undef, undef, undef, undef, undef, undef, undef, undef, undef, undef, undef, undef, undef, undef, undef, undef, undef, undef, undef, undef, undef, undef, undef, undef, undef], []⟩ w := by
  have HQ := Lib.hid hQ
  have H1 := Lib.hid h1
  have H2 := Lib.hid h2
  have H3 := Lib.hid h3
  have H4 := Lib.hid h4
  clear hQ h1 h2 h3 h4
  simp only [c3_3, Try.f3]
  go_wp2_with (first | (go_at_call 15; refine (eqints_calls _ s3 sw L c3 cw g3 0 gw 0 xs hL H1.out H2.out H3.out H4.out).mono ?_; rintro e w' ⟨rfl, m, rfl⟩) | (go_at_call 16; refine (aload_calls _ xb 0 (all : Int) (by simpa [go_sem] using hx)).mono ?_; rintro e w' ⟨rfl, rfl⟩))
  exact HQ.out _ _ _ _ _ _ _ _ _ _ _ _ _ _ _ _ _ _ _ _ _ _ _ _ _ _ _ _ _ _ _ _ _
end Go.Proofs.Ytkbfbphbdljaaaa
