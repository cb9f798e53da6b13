/- Joined texts: C1, F1, F2, F3, F4, F5, F6, F7, F8, K1, K2, S1, S2, S3, S4, P1, F9, E1, E3, E2, Y1, E4. -/
import Derived.Test.YtdgnfdljkghpjaaGreatProg
import Derived.KernelRfl
import Derived.Test.YtdgnfdljkghpjaaGreatChecked
import Derived.Test.YtdgnfdljkghpjaaGreatV1
import Derived.Test.YtdgnfdljkghpjaaGreatV2
import Derived.Test.YtdgnfdljkghpjaaGreatV3
/- The functions' code in the abstract machine's words, each with the proof that it is so. Printed by a program. -/
set_option linter.unusedVariables false
namespace Go.Proofs.YtdgnfdljkghpjaaGreat.Am

abbrev oM (d k : Nat) : AOper := ⟨some d, .op (.mv (.t k)), none⟩
abbrev oP (d : Nat) (a : AOp) : AOper := ⟨some d, .op a, none⟩
abbrev oT (d : Nat) (a : AOp) (g : Nat) : AOper := ⟨some d, .op a, some (g, true)⟩
abbrev oF (d : Nat) (a : AOp) (g : Nat) : AOper := ⟨some d, .op a, some (g, false)⟩
abbrev oC (d n : Nat) (l : List Opd) : AOper := ⟨some d, .call (.f n) l, none⟩
abbrev kI (z : Int) : Opd := .k (.int .i64 z)
def c_laws_FnIndexPut : AFn := ⟨104, [.t 2], (.seq (.region [oP 2 (.mv (.k (.bool false)))]) (.seq (.seq (.region [oM 19 0, oC 20 8 [(.t 19)]]) (.cond (.t 20) (.seq (.region [oP 2 (.mv (.k (.bool true)))]) .ret) .skip)) (.seq (.region [oM 22 0, oC 23 9 [(.t 22)], oM 21 23, oP 24 (.ext (.t 21) 0), oP 25 (.ext (.t 21) 1), oP 4 (.alloc [.nils, .int .i64 0]), oM 3 24, ⟨none, .op (.store 2 (.t 4) (.t 25)), none⟩]) (.seq (.region [oM 27 3, oP 28 (.load true 2 (.t 4)), oC 29 10 [(.t 27), (.t 28)], oM 26 29, oP 30 (.ext (.t 26) 0), oP 31 (.ext (.t 26) 1), oM 5 30, oM 6 31]) (.seq (.region [oM 33 3, oP 34 (.load true 2 (.t 4)), oC 35 11 [(.t 33), (.t 34)], oM 32 35, oP 36 (.ext (.t 32) 0), oP 37 (.ext (.t 32) 1), oM 7 36, oM 8 37]) (.seq (.region [oM 39 0, oC 40 12 [(.t 39)], oM 38 40, oP 41 (.ext (.t 38) 0), oP 42 (.ext (.t 38) 1), oP 10 (.alloc [.nils, .int .i64 0]), oM 9 41, ⟨none, .op (.store 2 (.t 10) (.t 42)), none⟩]) (.seq (.region [oM 44 9, oP 45 (.load true 2 (.t 10)), oC 46 13 [(.t 44), (.t 45)], oM 43 46, oP 47 (.ext (.t 43) 0), oP 48 (.ext (.t 43) 1), oM 11 47, oM 12 48]) (.seq (.region [oM 50 9, oP 51 (.load true 2 (.t 10)), oC 52 14 [(.t 50), (.t 51)], oM 49 52, oP 53 (.ext (.t 49) 0), oP 54 (.ext (.t 49) 1), oM 13 53, oM 14 54]) (.seq (.seq (.region [oM 55 6, oM 56 8, oP 57 (.eq true false [.b] (.t 55) (.t 56)), oM 58 57, oF 59 (.mv (.t 5)) 58, oF 60 (.mv (.t 7)) 58, ⟨some 61, .call (.f 15) [(.t 59), (.t 60)], (some (58, false))⟩, oF 62 (.un .not (.t 61)) 58, oP 63 (.pick (.t 58) (.k (.bool true)) (.t 62)), oM 64 63, oF 65 (.mv (.t 12)) 64, oF 66 (.mv (.t 14)) 64, oF 67 (.eq true false [.b] (.t 65) (.t 66)) 64, oP 68 (.pick (.t 64) (.k (.bool true)) (.t 67)), oM 69 68, oF 70 (.mv (.t 11)) 69, oF 71 (.mv (.t 13)) 69, ⟨some 72, .call (.f 15) [(.t 70), (.t 71)], (some (69, false))⟩, oF 73 (.un .not (.t 72)) 69, oP 74 (.pick (.t 69) (.k (.bool true)) (.t 73))]) (.cond (.t 74) (.seq (.region [oP 2 (.mv (.k (.bool false)))]) .ret) .skip)) (.seq (.seq (.region [oM 75 12]) (.cond (.t 75) (.seq (.region [oM 77 11, oP 78 (.load true 2 (.t 10)), oC 79 10 [(.t 77), (.t 78)], oM 76 79, oP 80 (.ext (.t 76) 0), oP 81 (.ext (.t 76) 1), oM 15 80, oM 16 81]) (.seq (.region [oM 82 16, oP 83 (.un .not (.t 82)), oM 84 83, oF 85 (.mv (.t 15)) 84, oF 86 (.mv (.t 9)) 84, ⟨some 87, .call (.f 15) [(.t 85), (.t 86)], (some (84, false))⟩, oF 88 (.un .not (.t 87)) 84, oP 89 (.pick (.t 84) (.k (.bool true)) (.t 88))]) (.cond (.t 89) (.seq (.region [oP 2 (.mv (.k (.bool false)))]) .ret) .skip))) .skip)) (.seq (.seq (.region [oM 90 6, oP 91 (.un .not (.t 90))]) (.cond (.t 91) (.seq (.region [oP 2 (.mv (.k (.bool true)))]) .ret) .skip)) (.seq (.region [oM 93 5, oP 94 (.load true 2 (.t 4)), oC 95 13 [(.t 93), (.t 94)], oM 92 95, oP 96 (.ext (.t 92) 0), oP 97 (.ext (.t 92) 1), oM 17 96, oM 18 97]) (.seq (.region [oM 98 18, oM 99 98, oT 100 (.mv (.t 17)) 99, oT 101 (.mv (.t 3)) 99, ⟨some 102, .call (.f 15) [(.t 100), (.t 101)], (some (99, true))⟩, oP 103 (.pick (.t 99) (.t 102) (.k (.bool false))), oM 2 103]) .ret)))))))))))))⟩
theorem c_laws_FnIndexPut_ok : compFn Tryz.prog [] 3 = some c_laws_FnIndexPut := by kernel_rfl
def c_laws_big : AFn := ⟨6, [.t 2], (.seq (.region [oP 2 (.mv (.k (.bool false)))]) (.seq (.region [oM 3 0, oP 4 (.len false (.t 3)), oP 5 (.bin .gtr (.t 4) (kI 1048576)), oM 2 5]) .ret))⟩
theorem c_laws_big_ok : compFn Tryz.prog [] 8 = some c_laws_big := by kernel_rfl
def c_spec_DrawIndexPut : AFn := ⟨36, [.t 2, .m 3 true 2], (.seq (.region [oP 2 (.mv (.k (.nils))), oP 3 (.alloc [.nils, .int .i64 0])]) (.seq (.region [oM 7 0, oC 8 46 [(.t 7)], oM 4 8]) (.seq (.region [oM 9 4, oC 10 47 [(.t 9)], oM 5 10]) (.seq (.region [oM 11 4, oC 12 48 [(.t 11)], oP 13 (.mksl false 3 1 [.int .i64 0, .int .i64 0, .str []] [(0, (.t 12))]), oM 14 4, oC 15 49 [(.t 14), (kI 9)], oP 16 (.bin .add (kI 1) (.t 15)), oP 17 (.build [.nils, .int .i64 0] [(0, 1, (.t 13)), (1, 1, (.t 16))]), oP 6 (.alloc [.nils, .int .i64 0]), ⟨none, .op (.store 2 (.t 6) (.t 17)), none⟩]) (.seq (.seq (.region [oM 18 4, oC 19 50 [(.t 18), (kI 12)]]) (.cond (.t 19) (.region [oM 20 4, oC 21 51 [(.t 20), (kI 1), (kI 9)], oP 22 (.faddr 1 (.t 6)), ⟨none, .op (.store 1 (.t 22) (.t 21)), none⟩]) .skip)) (.seq (.seq (.region [oM 23 5, oP 24 (.len false (.t 23)), oP 25 (.bin .gtr (.t 24) (kI 0)), oM 26 25, oT 27 (.mv (.t 4)) 26, ⟨some 28, .call (.f 50) [(.t 27), (kI 6)], (some (26, true))⟩, oP 29 (.pick (.t 26) (.t 28) (.k (.bool false)))]) (.cond (.t 29) (.seq (.draw [[oM 30 5, oM 31 5, oP 32 (.iaddr 2 (.t 31) (kI 0)), oP 33 (.load true 2 (.t 32)), oM 2 30], [⟨none, .op (.store 2 (.t 3) (.t 33)), none⟩]]) .ret) .skip)) (.seq (.draw [[oM 34 5, oP 35 (.load true 2 (.t 6)), oM 2 34], [⟨none, .op (.store 2 (.t 3) (.t 35)), none⟩]]) .ret)))))))⟩
theorem c_spec_DrawIndexPut_ok : compFn Tryz.prog [] 9 = some c_spec_DrawIndexPut := by kernel_rfl
def c_impl_IndexPut : AFn := ⟨38, [.t 4, .t 5], (.seq (.region [oP 3 (.box true (.t 1)), oP 4 (.mv (.k (.nils))), oP 5 (.mv (.k (.bool false)))]) (.seq (.seq (.draw [[oM 7 0], [oC 8 52 [(.t 7)]], [oP 9 (.un .not (.t 8))], [oM 10 9], [oF 11 (.mv (.t 0)) 10], [oF 12 (.len false (.t 11)) 10], [oF 13 (.bin .gtr (.t 12) (kI 0)) 10], [oF 14 (.mv (.t 13)) 10], [oT 15 (.mv (.t 0)) 14, oT 16 (.iaddr 2 (.t 15) (kI 0)) 14, oT 17 (.faddr 0 (.t 16)) 14, oT 18 (.load false 1 (.t 17)) 14, oT 19 (.len false (.t 18)) 14, oT 20 (.faddr 0 (.t 3)) 14, oT 21 (.load false 1 (.t 20)) 14, oT 22 (.len false (.t 21)) 14], [oT 23 (.bin .neq (.t 19) (.t 22)) 14], [oF 24 (.pick (.t 14) (.t 23) (.k (.bool false))) 10], [oP 25 (.pick (.t 10) (.k (.bool true)) (.t 24))]]) (.cond (.t 25) (.seq (.region [oP 4 (.mv (.k (.nils))), oP 5 (.mv (.k (.bool false)))]) .ret) .skip)) (.seq (.draw [[oM 26 0, oC 27 54 [(.t 26)], oP 28 (.load true 2 (.t 3)), oP 29 (.mksl true 2 1 [.nils, .int .i64 0] [(0, (.t 28))])], [oP 30 (.app 2 32 (.t 27) (.t 29))], [oC 31 53 [(.t 30)]], [oM 6 31]]) (.seq (.region [oM 32 6, oC 33 55 [(.t 32), (.f 56)]]) (.seq (.seq (.region [oM 34 6, oC 35 52 [(.t 34)], oP 36 (.un .not (.t 35))]) (.cond (.t 36) (.seq (.region [oP 4 (.mv (.k (.nils))), oP 5 (.mv (.k (.bool false)))]) .ret) .skip)) (.seq (.region [oM 37 6, oM 4 37, oP 5 (.mv (.k (.bool true)))]) .ret))))))⟩
theorem c_impl_IndexPut_ok : compFn Tryz.prog [3, 29] 10 = some c_impl_IndexPut := by kernel_rfl
def c_spec_IndexPut : AFn := ⟨23, [.t 4, .t 5], (.seq (.region [oP 3 (.box true (.t 1)), oP 4 (.mv (.k (.nils))), oP 5 (.mv (.k (.bool false)))]) (.seq (.seq (.region [oM 7 0, oC 8 57 [(.t 7)], oP 9 (.un .not (.t 8))]) (.cond (.t 9) (.seq (.region [oP 4 (.mv (.k (.nils))), oP 5 (.mv (.k (.bool false)))]) .ret) .skip)) (.seq (.draw [[oM 10 0, oC 11 59 [(.t 10)], oP 12 (.faddr 0 (.t 3)), oP 13 (.load false 1 (.t 12)), oC 14 60 [(.t 13)], oP 15 (.faddr 1 (.t 3)), oP 16 (.load false 1 (.t 15))], [oP 17 (.build [.nils, .int .i64 0] [(0, 1, (.t 14)), (1, 1, (.t 16))])], [oC 18 58 [(.t 11), (.t 17)]], [oM 6 18]]) (.seq (.seq (.region [oM 19 6, oC 20 57 [(.t 19)], oP 21 (.un .not (.t 20))]) (.cond (.t 21) (.seq (.region [oP 4 (.mv (.k (.nils))), oP 5 (.mv (.k (.bool false)))]) .ret) .skip)) (.seq (.region [oM 22 6, oM 4 22, oP 5 (.mv (.k (.bool true)))]) .ret)))))⟩
theorem c_spec_IndexPut_ok : compFn Tryz.prog [3] 11 = some c_spec_IndexPut := by kernel_rfl
def c_spec_DrawIndexDrop : AFn := ⟨31, [.t 2, .m 3 true 2], (.seq (.region [oP 2 (.mv (.k (.nils))), oP 3 (.alloc [.nils, .int .i64 0])]) (.seq (.region [oM 6 0, oC 7 46 [(.t 6)], oM 4 7]) (.seq (.region [oM 8 4, oC 9 47 [(.t 8)], oM 5 9]) (.seq (.seq (.region [oM 10 5, oP 11 (.len false (.t 10)), oP 12 (.bin .gtr (.t 11) (kI 0)), oM 13 12, oT 14 (.mv (.t 4)) 13, ⟨some 15, .call (.f 50) [(.t 14), (kI 4)], (some (13, true))⟩, oT 16 (.un .not (.t 15)) 13, oP 17 (.pick (.t 13) (.t 16) (.k (.bool false)))]) (.cond (.t 17) (.seq (.draw [[oM 18 5, oM 19 5, oM 20 4, oM 21 5, oP 22 (.len false (.t 21)), oC 23 49 [(.t 20), (.t 22)], oP 24 (.iaddr 2 (.t 19) (.t 23)), oP 25 (.load true 2 (.t 24)), oM 2 18], [⟨none, .op (.store 2 (.t 3) (.t 25)), none⟩]]) .ret) .skip)) (.seq (.region [oM 26 5, oM 27 4, oC 28 48 [(.t 27)], oP 29 (.mksl false 3 1 [.int .i64 0, .int .i64 0, .str []] [(0, (.t 28))]), oP 30 (.build [.nils, .int .i64 0] [(0, 1, (.t 29)), (1, 1, (kI 1))]), oM 2 26, ⟨none, .op (.store 2 (.t 3) (.t 30)), none⟩]) .ret)))))⟩
theorem c_spec_DrawIndexDrop_ok : compFn Tryz.prog [] 12 = some c_spec_DrawIndexDrop := by kernel_rfl
def c_impl_IndexDrop : AFn := ⟨24, [.t 4, .t 5], (.seq (.region [oP 3 (.box true (.t 1)), oP 4 (.mv (.k (.nils))), oP 5 (.mv (.k (.bool false)))]) (.seq (.region [oM 7 0, oP 8 (.mkfn 62 [] [(.t 3)]), oC 9 61 [(.t 7), (.t 8)], oM 6 9]) (.seq (.seq (.region [oM 10 0, oC 11 52 [(.t 10)], oP 12 (.un .not (.t 11)), oM 13 12, oF 14 (.mv (.t 6)) 13, oF 15 (.bin .lss (.t 14) (kI 0)) 13, oP 16 (.pick (.t 13) (.k (.bool true)) (.t 15))]) (.cond (.t 16) (.seq (.region [oP 4 (.mv (.k (.nils))), oP 5 (.mv (.k (.bool false)))]) .ret) .skip)) (.seq (.region [oM 17 0, oC 18 54 [(.t 17)], oM 19 6, oM 20 6, oP 21 (.bin .add (.t 20) (kI 1)), oC 22 64 [(.t 18), (.t 19), (.t 21)], oC 23 53 [(.t 22)], oM 4 23, oP 5 (.mv (.k (.bool true)))]) .ret))))⟩
theorem c_impl_IndexDrop_ok : compFn Tryz.prog [3] 13 = some c_impl_IndexDrop := by kernel_rfl
def c_spec_IndexDrop : AFn := ⟨39, [.t 4, .t 5], (.seq (.region [oP 3 (.box true (.t 1)), oP 4 (.mv (.k (.nils))), oP 5 (.mv (.k (.bool false)))]) (.seq (.seq (.region [oM 8 0, oC 9 57 [(.t 8)], oP 10 (.un .not (.t 9))]) (.cond (.t 10) (.seq (.region [oP 4 (.mv (.k (.nils))), oP 5 (.mv (.k (.bool false)))]) .ret) .skip)) (.seq (.region [oP 11 (.mksl false 2 0 [.nils, .int .i64 0] []), oM 6 11]) (.seq (.seq (.region [oP 7 (.mv (kI 0))]) (.block 0 (.loop (.seq (.seq (.region [oM 12 7, oM 13 0, oP 14 (.len false (.t 13)), oP 15 (.bin .lss (.t 12) (.t 14))]) (.cond (.t 15) .skip (.exit 0))) (.seq (.block 1 (.seq (.draw [[oM 18 0, oM 19 7, oP 20 (.iaddr 2 (.t 18) (.t 19)), oP 21 (.load true 2 (.t 20)), oP 22 (.load true 2 (.t 3))], [oC 23 65 [(.t 21), (.t 22)]], [oP 24 (.un .not (.t 23))]]) (.cond (.t 24) (.region [oM 25 6, oM 26 0, oM 27 7, oP 28 (.iaddr 2 (.t 26) (.t 27)), oP 29 (.load true 2 (.t 28)), oP 30 (.mksl true 2 1 [.nils, .int .i64 0] [(0, (.t 29))]), oP 31 (.app 2 32 (.t 25) (.t 30)), oM 6 31]) .skip))) (.region [oM 16 7, oP 17 (.bin .add (.t 16) (kI 1)), oM 7 17])))))) (.seq (.seq (.region [oM 32 6, oP 33 (.len false (.t 32)), oM 34 0, oP 35 (.len false (.t 34)), oP 36 (.bin .eql (.t 33) (.t 35))]) (.cond (.t 36) (.seq (.region [oP 4 (.mv (.k (.nils))), oP 5 (.mv (.k (.bool false)))]) .ret) .skip)) (.seq (.region [oM 37 6, oC 38 59 [(.t 37)], oM 4 38, oP 5 (.mv (.k (.bool true)))]) .ret))))))⟩
theorem c_spec_IndexDrop_ok : compFn Tryz.prog [3, 30] 14 = some c_spec_IndexDrop := by kernel_rfl
def c_laws_sameEntries : AFn := ⟨42, [.t 4], (.seq (.region [oP 4 (.mv (.k (.bool false)))]) (.seq (.seq (.region [oM 6 0, oP 7 (.len false (.t 6)), oM 8 1, oP 9 (.len false (.t 8)), oP 10 (.bin .neq (.t 7) (.t 9))]) (.cond (.t 10) (.seq (.region [oP 4 (.mv (.k (.bool false)))]) .ret) .skip)) (.seq (.seq (.region [oP 5 (.mv (kI 0))]) (.block 0 (.loop (.seq (.seq (.region [oM 11 5, oM 12 0, oP 13 (.len false (.t 12)), oP 14 (.bin .lss (.t 11) (.t 13))]) (.cond (.t 14) .skip (.exit 0))) (.seq (.block 1 (.seq (.draw [[oM 17 0, oM 18 5, oP 19 (.iaddr 2 (.t 17) (.t 18)), oP 20 (.faddr 1 (.t 19)), oP 21 (.load false 1 (.t 20)), oM 22 1, oM 23 5, oP 24 (.iaddr 2 (.t 22) (.t 23)), oP 25 (.faddr 1 (.t 24)), oP 26 (.load false 1 (.t 25))], [oP 27 (.bin .neq (.t 21) (.t 26))], [oM 28 27], [oF 29 (.mv (.t 0)) 28, oF 30 (.mv (.t 5)) 28, oF 31 (.iaddr 2 (.t 29) (.t 30)) 28, oF 32 (.faddr 0 (.t 31)) 28, oF 33 (.load false 1 (.t 32)) 28, oF 34 (.mv (.t 1)) 28, oF 35 (.mv (.t 5)) 28, oF 36 (.iaddr 2 (.t 34) (.t 35)) 28, oF 37 (.faddr 0 (.t 36)) 28, oF 38 (.load false 1 (.t 37)) 28], [⟨some 39, .call (.f 38) [(.t 33), (.t 38)], (some (28, false))⟩], [oF 40 (.un .not (.t 39)) 28], [oP 41 (.pick (.t 28) (.k (.bool true)) (.t 40))]]) (.cond (.t 41) (.seq (.region [oP 4 (.mv (.k (.bool false)))]) .ret) .skip))) (.region [oM 15 5, oP 16 (.bin .add (.t 15) (kI 1)), oM 5 16])))))) (.seq (.region [oP 4 (.mv (.k (.bool true)))]) .ret))))⟩
theorem c_laws_sameEntries_ok : compFn Tryz.prog [] 15 = some c_laws_sameEntries := by kernel_rfl
def c_spec_IndexOf : AFn := ⟨32, [.t 8, .t 9], (.seq (.region [oP 8 (.mv (.k (.nils))), oP 9 (.mv (.k (.bool false)))]) (.seq (.seq (.region [oM 10 0, oM 11 1, oM 12 2, oC 13 83 [(.t 10), (.t 11), (.t 12)], oP 14 (.un .not (.t 13)), oM 15 14, oF 16 (.mv (.t 3)) 15, oF 17 (.mv (.t 0)) 15, oF 18 (.mv (.t 2)) 15, oF 19 (.iaddr 6 (.t 17) (.t 18)) 15, oF 20 (.faddr 1 (.t 19)) 15, oF 21 (.load false 1 (.t 20)) 15, oF 22 (.len false (.t 21)) 15, ⟨some 23, .call (.f 84) [(.t 16), (.t 22)], (some (15, false))⟩, oF 24 (.un .not (.t 23)) 15, oP 25 (.pick (.t 15) (.k (.bool true)) (.t 24))]) (.cond (.t 25) (.seq (.region [oP 8 (.mv (.k (.nils))), oP 9 (.mv (.k (.bool false)))]) .ret) .skip)) (.seq (.region [oM 26 1, oM 27 2, oP 28 (.iaddr 1 (.t 26) (.t 27)), oP 29 (.load true 1 (.t 28)), oM 30 3, oC 31 85 [(.t 29), (.t 30)], oM 8 31, oP 9 (.mv (.k (.bool true)))]) .ret)))⟩
theorem c_spec_IndexOf_ok : compFn Tryz.prog [] 31 = some c_spec_IndexOf := by kernel_rfl
def c_laws_sameVals : AFn := ⟨26, [.t 4], (.seq (.region [oP 4 (.mv (.k (.bool false)))]) (.seq (.seq (.region [oM 6 0, oP 7 (.len false (.t 6)), oM 8 1, oP 9 (.len false (.t 8)), oP 10 (.bin .neq (.t 7) (.t 9))]) (.cond (.t 10) (.seq (.region [oP 4 (.mv (.k (.bool false)))]) .ret) .skip)) (.seq (.seq (.region [oP 5 (.mv (kI 0))]) (.block 0 (.loop (.seq (.seq (.region [oM 11 5, oM 12 0, oP 13 (.len false (.t 12)), oP 14 (.bin .lss (.t 11) (.t 13))]) (.cond (.t 14) .skip (.exit 0))) (.seq (.block 1 (.seq (.draw [[oM 17 0, oM 18 5, oP 19 (.iaddr 3 (.t 17) (.t 18)), oP 20 (.load true 3 (.t 19)), oM 21 1, oM 22 5, oP 23 (.iaddr 3 (.t 21) (.t 22)), oP 24 (.load true 3 (.t 23))], [oP 25 (.eq true true [.i, .i, .s] (.t 20) (.t 24))]]) (.cond (.t 25) (.seq (.region [oP 4 (.mv (.k (.bool false)))]) .ret) .skip))) (.region [oM 15 5, oP 16 (.bin .add (.t 15) (kI 1)), oM 5 16])))))) (.seq (.region [oP 4 (.mv (.k (.bool true)))]) .ret))))⟩
theorem c_laws_sameVals_ok : compFn Tryz.prog [] 38 = some c_laws_sameVals := by kernel_rfl
def c_spec_l1Open : AFn := ⟨6, [.t 2], (.seq (.region [oP 2 (.mv (.k (.nilp)))]) (.seq (.region [oM 3 0, oP 4 (.build [.nils, .int .i64 0] [(0, 1, (.t 3))]), oP 5 (.box false (.t 4)), oM 2 5]) .ret))⟩
theorem c_spec_l1Open_ok : compFn Tryz.prog [] 46 = some c_spec_l1Open := by kernel_rfl
def c_spec_l1Rd_entries : AFn := ⟨34, [.t 2], (.seq (.region [oP 2 (.mv (.k (.nils)))]) (.seq (.region [oM 7 0, oC 8 76 [(.t 7)], oM 3 8]) (.seq (.region [oM 9 0, oM 10 3, oC 11 77 [(.t 9), (.t 10), (kI 6)], oM 4 11]) (.seq (.region [oM 13 3, oM 14 4, oM 15 0, oC 16 49 [(.t 15), (kI 3)], oP 17 (.mksl true 1 1 [.int .i64 0] [(0, (.t 16))]), oC 18 31 [(.t 13), (.t 14), (kI 0), (.t 17)], oM 12 18, oP 19 (.ext (.t 12) 0), oP 20 (.ext (.t 12) 1), oM 5 19, oM 6 20]) (.seq (.seq (.region [oM 21 0, oC 22 50 [(.t 21), (kI 30)], oM 23 22, oT 24 (.mv (.t 5)) 23, oT 25 (.len false (.t 24)) 23, oT 26 (.bin .gtr (.t 25) (kI 0)) 23, oP 27 (.pick (.t 23) (.t 26) (.k (.bool false)))]) (.cond (.t 27) (.region [oM 28 5, oM 29 0, oC 30 51 [(.t 29), (kI 1), (kI 9)], oP 31 (.iaddr 2 (.t 28) (kI 0)), oP 32 (.faddr 1 (.t 31)), ⟨none, .op (.store 1 (.t 32) (.t 30)), none⟩]) .skip)) (.seq (.region [oM 33 5, oM 2 33]) .ret))))))⟩
theorem c_spec_l1Rd_entries_ok : compFn Tryz.prog [17] 47 = some c_spec_l1Rd_entries := by kernel_rfl
def c_spec_l1Rd_val : AFn := ⟨29, [.m 2 true 3], (.seq (.region [oP 2 (.alloc [.int .i64 0, .int .i64 0, .str []])]) (.seq (.seq (.region [oM 3 0, oC 4 49 [(.t 3), (kI 12)]]) (.block 0 (.seq (.seq (.region [oP 6 (.bin .eql (.t 4) (kI 0)), oM 5 6]) (.cond (.t 5) .skip (.region [oP 7 (.bin .eql (.t 4) (kI 1)), oM 5 7]))) (.cond (.t 5) (.seq (.region [oP 8 (.build [.int .i64 0, .int .i64 0, .str []] []), ⟨none, .op (.store 3 (.t 2) (.t 8)), none⟩]) .ret) (.seq (.seq (.region [oP 10 (.bin .eql (.t 4) (kI 2)), oM 9 10]) (.cond (.t 9) .skip (.region [oP 11 (.bin .eql (.t 4) (kI 3)), oM 9 11]))) (.cond (.t 9) (.seq (.region [oP 12 (.mksl true 1 6 [.str []] [(0, (.k (.str []))), (1, (.k (.str [97]))), (2, (.k (.str [98]))), (3, (.k (.str [97, 32, 98]))), (4, (.k (.str [105, 116, 39, 115]))), (5, (.k (.str [120, 44, 37])))]), oM 13 0, oC 14 49 [(.t 13), (kI 6)], oP 15 (.iaddr 1 (.t 12) (.t 14)), oP 16 (.load false 1 (.t 15)), oC 17 101 [(.t 16)], ⟨none, .op (.store 3 (.t 2) (.t 17)), none⟩]) .ret) (.seq (.region [oP 19 (.bin .eql (.t 4) (kI 4)), oM 18 19]) (.cond (.t 18) (.seq (.region [oP 20 (.mksl true 1 4 [.int .i64 0] [(0, (kI (-1000000000))), (1, (kI 1000000000)), (2, (kI (-5))), (3, (kI 70))]), oM 21 0, oC 22 49 [(.t 21), (kI 4)], oP 23 (.iaddr 1 (.t 20) (.t 22)), oP 24 (.load false 1 (.t 23)), oC 25 102 [(.t 24)], ⟨none, .op (.store 3 (.t 2) (.t 25)), none⟩]) .ret) .skip)))))))) (.seq (.region [oM 26 0, oC 27 49 [(.t 26), (kI 5)], oC 28 102 [(.t 27)], ⟨none, .op (.store 3 (.t 2) (.t 28)), none⟩]) .ret)))⟩
theorem c_spec_l1Rd_val_ok : compFn Tryz.prog [12, 20] 48 = some c_spec_l1Rd_val := by kernel_rfl
def c_spec_l1Rd_below : AFn := ⟨24, [.t 4], (.seq (.region [oP 4 (.mv (kI 0))]) (.seq (.seq (.region [oM 6 1, oP 7 (.bin .leq (.t 6) (kI 1))]) (.cond (.t 7) (.seq (.region [oP 4 (.mv (kI 0))]) .ret) .skip)) (.seq (.seq (.region [oM 8 1, oP 9 (.bin .leq (.t 8) (kI 256))]) (.cond (.t 9) (.seq (.region [oM 10 0, oC 11 103 [(.t 10)], oM 12 1, oP 13 (.bin .rem (.t 11) (.t 12)), oM 4 13]) .ret) .skip)) (.seq (.region [oM 14 0, oC 15 103 [(.t 14)], oP 16 (.bin .mul (.t 15) (kI 256)), oM 5 16]) (.seq (.region [oM 17 5, oM 18 0, oC 19 103 [(.t 18)], oP 20 (.bin .add (.t 17) (.t 19)), oM 5 20]) (.seq (.region [oM 21 5, oM 22 1, oP 23 (.bin .rem (.t 21) (.t 22)), oM 4 23]) .ret))))))⟩
theorem c_spec_l1Rd_below_ok : compFn Tryz.prog [] 49 = some c_spec_l1Rd_below := by kernel_rfl
def c_spec_l1Rd_once : AFn := ⟨11, [.t 4], (.seq (.region [oP 4 (.mv (.k (.bool false)))]) (.seq (.region [oM 5 0, oM 6 1, oC 7 49 [(.t 5), (.t 6)], oM 8 1, oP 9 (.bin .sub (.t 8) (kI 1)), oP 10 (.bin .eql (.t 7) (.t 9)), oM 4 10]) .ret))⟩
theorem c_spec_l1Rd_once_ok : compFn Tryz.prog [] 50 = some c_spec_l1Rd_once := by kernel_rfl
def c_spec_l1Rd_off : AFn := ⟨22, [.t 6], (.seq (.region [oP 6 (.mv (kI 0))]) (.seq (.seq (.region [oM 7 0, oC 8 50 [(.t 7), (kI 24)]]) (.cond (.t 8) (.seq (.region [oM 9 1, oP 10 (.bin .sub (.t 9) (kI 1)), oM 11 2, oP 12 (.bin .add (.t 11) (kI 1)), oP 13 (.mksl true 1 4 [.int .i64 0] [(0, (.t 10)), (1, (.t 12)), (2, (kI (-9223372036854775808))), (3, (kI 9223372036854775807))]), oM 14 0, oC 15 49 [(.t 14), (kI 4)], oP 16 (.iaddr 1 (.t 13) (.t 15)), oP 17 (.load false 1 (.t 16)), oM 6 17]) .ret) .skip)) (.seq (.region [oM 18 0, oM 19 1, oM 20 2, oC 21 104 [(.t 18), (.t 19), (.t 20)], oM 6 21]) .ret)))⟩
theorem c_spec_l1Rd_off_ok : compFn Tryz.prog [13] 51 = some c_spec_l1Rd_off := by kernel_rfl
def c_impl_areEntries : AFn := ⟨57, [.t 2], (.seq (.region [oP 2 (.mv (.k (.bool false)))]) (.seq (.seq (.region [oM 5 0, oP 6 (.len false (.t 5)), oP 7 (.mv (kI 0))]) (.block 0 (.loop (.seq (.region [oP 8 (.bin .lss (.t 7) (.t 6))]) (.seq (.cond (.t 8) .skip (.exit 0)) (.seq (.block 1 (.seq (.region [oM 9 7, oP 10 (.iaddr 2 (.t 5) (.t 7)), oP 11 (.load true 2 (.t 10)), oP 4 (.alloc [.nils, .int .i64 0]), oM 3 9, ⟨none, .op (.store 2 (.t 4) (.t 11)), none⟩]) (.seq (.draw [[oP 12 (.faddr 0 (.t 4))], [oP 13 (.load false 1 (.t 12))], [oP 14 (.len false (.t 13))], [oP 15 (.bin .eql (.t 14) (kI 0))], [oM 16 15], [oF 17 (.faddr 0 (.t 4)) 16, oF 18 (.load false 1 (.t 17)) 16, oF 19 (.len false (.t 18)) 16, oF 20 (.mv (.t 0)) 16, oF 21 (.iaddr 2 (.t 20) (kI 0)) 16, oF 22 (.faddr 0 (.t 21)) 16, oF 23 (.load false 1 (.t 22)) 16, oF 24 (.len false (.t 23)) 16], [oF 25 (.bin .neq (.t 19) (.t 24)) 16], [oP 26 (.pick (.t 16) (.k (.bool true)) (.t 25))], [oM 27 26], [oF 28 (.faddr 0 (.t 4)) 27], [oF 29 (.load false 1 (.t 28)) 27], [⟨some 30, .call (.f 89) [(.t 29), (kI 16)], (some (27, false))⟩], [oF 31 (.un .not (.t 30)) 27], [oP 32 (.pick (.t 27) (.k (.bool true)) (.t 31))], [oM 33 32], [oF 34 (.faddr 1 (.t 4)) 33], [oF 35 (.load false 1 (.t 34)) 33], [⟨some 36, .call (.f 92) [(.t 35), (kI 1), (kI 1000000000)], (some (33, false))⟩], [oF 37 (.un .not (.t 36)) 33], [oP 38 (.pick (.t 33) (.k (.bool true)) (.t 37))], [oM 39 38], [oF 40 (.mv (.t 3)) 39], [oF 41 (.bin .gtr (.t 40) (kI 0)) 39], [oF 42 (.mv (.t 41)) 39], [oT 43 (.mv (.t 0)) 42, oT 44 (.mv (.t 3)) 42, oT 45 (.bin .sub (.t 44) (kI 1)) 42, oT 46 (.iaddr 2 (.t 43) (.t 45)) 42, oT 47 (.load true 2 (.t 46)) 42, oT 48 (.load true 2 (.t 4)) 42], [⟨some 49, .call (.f 56) [(.t 47), (.t 48)], (some (42, true))⟩], [oT 50 (.bin .geq (.t 49) (kI 0)) 42], [oF 51 (.pick (.t 42) (.t 50) (.k (.bool false))) 39], [oP 52 (.pick (.t 39) (.k (.bool true)) (.t 51))]]) (.cond (.t 52) (.seq (.region [oP 2 (.mv (.k (.bool false)))]) .ret) .skip)))) (.region [oP 53 (.bin .add (.t 7) (kI 1)), oM 7 53]))))))) (.seq (.region [oM 54 0, oP 55 (.len false (.t 54)), oP 56 (.bin .leq (.t 55) (kI 120)), oM 2 56]) .ret)))⟩
theorem c_impl_areEntries_ok : compFn Tryz.prog [] 52 = some c_impl_areEntries := by kernel_rfl
def c_impl_copiedEntries : AFn := ⟨24, [.t 2], (.seq (.region [oP 2 (.mv (.k (.nils)))]) (.seq (.region [oP 6 (.mksl false 2 0 [.nils, .int .i64 0] []), oM 3 6]) (.seq (.seq (.region [oM 7 0, oP 8 (.len false (.t 7)), oP 9 (.mv (kI 0))]) (.block 0 (.loop (.seq (.region [oP 10 (.bin .lss (.t 9) (.t 8))]) (.seq (.cond (.t 10) .skip (.exit 0)) (.seq (.block 1 (.seq (.region [oP 11 (.iaddr 2 (.t 7) (.t 9)), oP 12 (.load true 2 (.t 11)), oP 5 (.alloc [.nils, .int .i64 0]), ⟨none, .op (.store 2 (.t 5) (.t 12)), none⟩]) (.draw [[oM 13 3, oP 14 (.faddr 0 (.t 5)), oP 15 (.load false 1 (.t 14)), oC 16 105 [(.t 15)], oP 17 (.faddr 1 (.t 5)), oP 18 (.load false 1 (.t 17)), oP 19 (.build [.nils, .int .i64 0] [(0, 1, (.t 16)), (1, 1, (.t 18))]), oP 20 (.mksl true 2 1 [.nils, .int .i64 0] [(0, (.t 19))])], [oP 21 (.app 2 32 (.t 13) (.t 20))], [oM 3 21]]))) (.region [oP 22 (.bin .add (.t 9) (kI 1)), oM 9 22]))))))) (.seq (.region [oM 23 3, oM 2 23]) .ret))))⟩
theorem c_impl_copiedEntries_ok : compFn Tryz.prog [20] 53 = some c_impl_copiedEntries := by kernel_rfl
def c_slices_Clone_Entry : AFn := ⟨8, [.t 2], (.seq (.region [oP 2 (.mv (.k (.nils)))]) (.seq (.seq (.region [oM 3 0, oP 4 (.eq false false [.sl] (.t 3) (.k (.nils)))]) (.cond (.t 4) (.seq (.region [oP 2 (.mv (.k (.nils)))]) .ret) .skip)) (.seq (.region [oP 5 (.mksl false 2 0 [.nils, .int .i64 0] []), oM 6 0, oP 7 (.app 2 32 (.t 5) (.t 6)), oM 2 7]) .ret)))⟩
theorem c_slices_Clone_Entry_ok : compFn Tryz.prog [] 54 = some c_slices_Clone_Entry := by kernel_rfl
def c_slices_SortStableFunc_Entry : AFn := ⟨9, [], (.region [oM 4 0, oM 5 0, oP 6 (.len false (.t 5)), oM 7 1, oC 8 106 [(.t 4), (.t 6), (.t 7)]])⟩
theorem c_slices_SortStableFunc_Entry_ok : compFn Tryz.prog [] 55 = some c_slices_SortStableFunc_Entry := by kernel_rfl
def c_impl_entryOrder : AFn := ⟨17, [.t 4], (.seq (.region [oP 2 (.box true (.t 0)), oP 3 (.box true (.t 1)), oP 4 (.mv (kI 0))]) (.seq (.draw [[oP 5 (.faddr 0 (.t 2)), oP 6 (.load false 1 (.t 5)), oP 7 (.faddr 0 (.t 3)), oP 8 (.load false 1 (.t 7)), oC 9 108 [(.t 6), (.t 8)], oP 10 (.faddr 1 (.t 2)), oP 11 (.load false 1 (.t 10)), oP 12 (.faddr 1 (.t 3)), oP 13 (.load false 1 (.t 12))], [oC 14 109 [(.t 11), (.t 13)]], [oP 15 (.mksl true 1 2 [.int .i64 0] [(0, (.t 9)), (1, (.t 14))])], [oC 16 107 [(.t 15)]], [oM 4 16]]) .ret))⟩
theorem c_impl_entryOrder_ok : compFn Tryz.prog [2, 3, 15] 56 = some c_impl_entryOrder := by kernel_rfl
def c_spec_l11Right : AFn := ⟨69, [.t 2], (.seq (.region [oP 2 (.mv (.k (.bool false)))]) (.seq (.seq (.region [oP 3 (.mv (kI 0))]) (.block 0 (.loop (.seq (.seq (.region [oM 4 3, oM 5 0, oP 6 (.len false (.t 5)), oP 7 (.bin .lss (.t 4) (.t 6))]) (.cond (.t 7) .skip (.exit 0))) (.seq (.block 1 (.seq (.draw [[oM 10 0, oM 11 3], [oP 12 (.iaddr 2 (.t 10) (.t 11))], [oP 13 (.faddr 0 (.t 12))], [oP 14 (.load false 1 (.t 13))], [oC 15 110 [(.t 14)]], [oP 16 (.un .not (.t 15))], [oM 17 16], [oF 18 (.mv (.t 0)) 17, oF 19 (.mv (.t 3)) 17], [oF 20 (.iaddr 2 (.t 18) (.t 19)) 17], [oF 21 (.faddr 0 (.t 20)) 17], [oF 22 (.load false 1 (.t 21)) 17], [oF 23 (.len false (.t 22)) 17], [oF 24 (.bin .eql (.t 23) (kI 0)) 17], [oP 25 (.pick (.t 17) (.k (.bool true)) (.t 24))], [oM 26 25], [oF 27 (.mv (.t 0)) 26, oF 28 (.mv (.t 3)) 26, oF 29 (.iaddr 2 (.t 27) (.t 28)) 26, oF 30 (.faddr 0 (.t 29)) 26, oF 31 (.load false 1 (.t 30)) 26, oF 32 (.len false (.t 31)) 26, oF 33 (.mv (.t 0)) 26, oF 34 (.iaddr 2 (.t 33) (kI 0)) 26, oF 35 (.faddr 0 (.t 34)) 26, oF 36 (.load false 1 (.t 35)) 26, oF 37 (.len false (.t 36)) 26], [oF 38 (.bin .neq (.t 32) (.t 37)) 26], [oP 39 (.pick (.t 26) (.k (.bool true)) (.t 38))], [oM 40 39], [oF 41 (.mv (.t 0)) 40, oF 42 (.mv (.t 3)) 40], [oF 43 (.iaddr 2 (.t 41) (.t 42)) 40], [oF 44 (.faddr 1 (.t 43)) 40], [oF 45 (.load false 1 (.t 44)) 40], [⟨some 46, .call (.f 111) [(.t 45), (kI 1), (kI 1000000000)], (some (40, false))⟩], [oF 47 (.un .not (.t 46)) 40], [oP 48 (.pick (.t 40) (.k (.bool true)) (.t 47))], [oM 49 48], [oF 50 (.mv (.t 3)) 49], [oF 51 (.bin .gtr (.t 50) (kI 0)) 49], [oF 52 (.mv (.t 51)) 49], [oT 53 (.mv (.t 0)) 52, oT 54 (.mv (.t 3)) 52, oT 55 (.bin .sub (.t 54) (kI 1)) 52, oT 56 (.iaddr 2 (.t 53) (.t 55)) 52, oT 57 (.load true 2 (.t 56)) 52, oT 58 (.mv (.t 0)) 52, oT 59 (.mv (.t 3)) 52, oT 60 (.iaddr 2 (.t 58) (.t 59)) 52, oT 61 (.load true 2 (.t 60)) 52], [⟨some 62, .call (.f 112) [(.t 57), (.t 61)], (some (52, true))⟩], [oT 63 (.un .not (.t 62)) 52], [oF 64 (.pick (.t 52) (.t 63) (.k (.bool false))) 49], [oP 65 (.pick (.t 49) (.k (.bool true)) (.t 64))]]) (.cond (.t 65) (.seq (.region [oP 2 (.mv (.k (.bool false)))]) .ret) .skip))) (.region [oM 8 3, oP 9 (.bin .add (.t 8) (kI 1)), oM 3 9])))))) (.seq (.region [oM 66 0, oP 67 (.len false (.t 66)), oP 68 (.bin .leq (.t 67) (kI 120)), oM 2 68]) .ret)))⟩
theorem c_spec_l11Right_ok : compFn Tryz.prog [] 57 = some c_spec_l11Right := by kernel_rfl
def c_spec_l11Put : AFn := ⟨35, [.t 4], (.seq (.region [oP 3 (.box true (.t 1)), oP 4 (.mv (.k (.nils)))]) (.seq (.region [oP 5 (.mv (kI 0))]) (.seq (.block 0 (.loop (.seq (.seq (.draw [[oM 7 5, oM 8 0, oP 9 (.len false (.t 8))], [oP 10 (.bin .lss (.t 7) (.t 9))], [oM 11 10], [oT 12 (.mv (.t 0)) 11, oT 13 (.mv (.t 5)) 11, oT 14 (.iaddr 2 (.t 12) (.t 13)) 11, oT 15 (.load true 2 (.t 14)) 11, oT 16 (.load true 2 (.t 3)) 11], [⟨some 17, .call (.f 112) [(.t 15), (.t 16)], (some (11, true))⟩], [oP 18 (.pick (.t 11) (.t 17) (.k (.bool false)))]]) (.cond (.t 18) .skip (.exit 0))) (.block 1 (.region [oM 19 5, oP 20 (.bin .add (.t 19) (kI 1)), oM 5 20]))))) (.seq (.region [oP 21 (.mksl false 2 0 [.nils, .int .i64 0] []), oM 22 0, oM 23 5, oP 24 (.slice 2 (.t 22) none (some (.t 23)) none), oP 25 (.app 2 32 (.t 21) (.t 24)), oM 6 25]) (.seq (.region [oM 26 6, oP 27 (.load true 2 (.t 3)), oP 28 (.mksl true 2 1 [.nils, .int .i64 0] [(0, (.t 27))]), oP 29 (.app 2 32 (.t 26) (.t 28)), oM 6 29]) (.seq (.region [oM 30 6, oM 31 0, oM 32 5, oP 33 (.slice 2 (.t 31) (some (.t 32)) none none), oP 34 (.app 2 32 (.t 30) (.t 33)), oM 4 34]) .ret))))))⟩
theorem c_spec_l11Put_ok : compFn Tryz.prog [3, 28] 58 = some c_spec_l11Put := by kernel_rfl
def c_spec_l11Copy : AFn := ⟨28, [.t 2], (.seq (.region [oP 2 (.mv (.k (.nils)))]) (.seq (.region [oP 5 (.mksl false 2 0 [.nils, .int .i64 0] []), oM 3 5]) (.seq (.seq (.region [oP 4 (.mv (kI 0))]) (.block 0 (.loop (.seq (.seq (.region [oM 6 4, oM 7 0, oP 8 (.len false (.t 7)), oP 9 (.bin .lss (.t 6) (.t 8))]) (.cond (.t 9) .skip (.exit 0))) (.seq (.block 1 (.draw [[oM 12 3, oM 13 0, oM 14 4, oP 15 (.iaddr 2 (.t 13) (.t 14)), oP 16 (.faddr 0 (.t 15)), oP 17 (.load false 1 (.t 16)), oC 18 60 [(.t 17)], oM 19 0, oM 20 4, oP 21 (.iaddr 2 (.t 19) (.t 20)), oP 22 (.faddr 1 (.t 21)), oP 23 (.load false 1 (.t 22)), oP 24 (.build [.nils, .int .i64 0] [(0, 1, (.t 18)), (1, 1, (.t 23))]), oP 25 (.mksl true 2 1 [.nils, .int .i64 0] [(0, (.t 24))])], [oP 26 (.app 2 32 (.t 12) (.t 25))], [oM 3 26]])) (.region [oM 10 4, oP 11 (.bin .add (.t 10) (kI 1)), oM 4 11])))))) (.seq (.region [oM 27 3, oM 2 27]) .ret))))⟩
theorem c_spec_l11Copy_ok : compFn Tryz.prog [25] 59 = some c_spec_l11Copy := by kernel_rfl
def c_spec_l1CopyVals : AFn := ⟨6, [.t 2], (.seq (.region [oP 2 (.mv (.k (.nils)))]) (.seq (.region [oP 3 (.mksl false 3 0 [.int .i64 0, .int .i64 0, .str []] []), oM 4 0, oP 5 (.app 3 32 (.t 3) (.t 4)), oM 2 5]) .ret))⟩
theorem c_spec_l1CopyVals_ok : compFn Tryz.prog [] 60 = some c_spec_l1CopyVals := by kernel_rfl
def c_slices_IndexFunc_Entry : AFn := ⟨19, [.t 4], (.seq (.region [oP 4 (.mv (kI 0))]) (.seq (.seq (.region [oM 6 0, oP 7 (.len false (.t 6)), oP 8 (.mv (kI 0))]) (.block 0 (.loop (.seq (.region [oP 9 (.bin .lss (.t 8) (.t 7))]) (.seq (.cond (.t 9) .skip (.exit 0)) (.seq (.block 1 (.seq (.region [oM 10 8, oM 5 10]) (.seq (.region [oM 11 1, oM 12 0, oM 13 5, oP 14 (.iaddr 2 (.t 12) (.t 13)), oP 15 (.load true 2 (.t 14)), ⟨some 16, .call (.t 11) [(.t 15)], none⟩]) (.cond (.t 16) (.seq (.region [oM 17 5, oM 4 17]) .ret) .skip)))) (.region [oP 18 (.bin .add (.t 8) (kI 1)), oM 8 18]))))))) (.seq (.region [oP 4 (.mv (kI (-1)))]) .ret)))⟩
theorem c_slices_IndexFunc_Entry_ok : compFn Tryz.prog [] 61 = some c_slices_IndexFunc_Entry := by kernel_rfl
def c_impl_IndexDrop_1 : AFn := ⟨7, [.t 3], (.seq (.region [oP 2 (.box true (.t 0)), oP 3 (.mv (.k (.bool false)))]) (.seq (.region [oP 4 (.load true 2 (.t 2)), oP 5 (.load true 2 (.t 1)), oC 6 63 [(.t 4), (.t 5)], oM 3 6]) .ret))⟩
theorem c_impl_IndexDrop_1_ok : compFn Tryz.prog [2] 62 = some c_impl_IndexDrop_1 := by kernel_rfl
def c_impl_sameEntry : AFn := ⟨17, [.t 4], (.seq (.region [oP 2 (.box true (.t 0)), oP 3 (.box true (.t 1)), oP 4 (.mv (.k (.bool false)))]) (.seq (.region [oP 5 (.faddr 1 (.t 2)), oP 6 (.load false 1 (.t 5)), oP 7 (.faddr 1 (.t 3)), oP 8 (.load false 1 (.t 7)), oP 9 (.bin .eql (.t 6) (.t 8)), oM 10 9, oT 11 (.faddr 0 (.t 2)) 10, oT 12 (.load false 1 (.t 11)) 10, oT 13 (.faddr 0 (.t 3)) 10, oT 14 (.load false 1 (.t 13)) 10, ⟨some 15, .call (.f 113) [(.t 12), (.t 14)], (some (10, true))⟩, oP 16 (.pick (.t 10) (.t 15) (.k (.bool false))), oM 4 16]) .ret))⟩
theorem c_impl_sameEntry_ok : compFn Tryz.prog [2, 3] 63 = some c_impl_sameEntry := by kernel_rfl
def c_slices_Delete_Entry : AFn := ⟨33, [.t 6], (.seq (.region [oP 6 (.mv (.k (.nils)))]) (.seq (.region [oM 8 0, oM 9 1, oM 10 2, oM 11 0, oP 12 (.len false (.t 11)), oP 13 (.slice 2 (.t 8) (some (.t 9)) (some (.t 10)) (some (.t 12)))]) (.seq (.seq (.region [oM 14 1, oM 15 2, oP 16 (.bin .eql (.t 14) (.t 15))]) (.cond (.t 16) (.seq (.region [oM 17 0, oM 6 17]) .ret) .skip)) (.seq (.region [oM 18 0, oP 19 (.len false (.t 18)), oM 7 19]) (.seq (.draw [[oM 20 0, oM 21 1, oP 22 (.slice 2 (.t 20) none (some (.t 21)) none), oM 23 0, oM 24 2, oP 25 (.slice 2 (.t 23) (some (.t 24)) none none)], [oP 26 (.app 2 32 (.t 22) (.t 25))], [oM 0 26]]) (.seq (.region [oM 27 0, oM 28 0, oP 29 (.len false (.t 28)), oM 30 7, oP 31 (.slice 2 (.t 27) (some (.t 29)) (some (.t 30)) none), ⟨none, .op (.clear [.nils, .int .i64 0] (.t 31)), none⟩]) (.seq (.region [oM 32 0, oM 6 32]) .ret)))))))⟩
theorem c_slices_Delete_Entry_ok : compFn Tryz.prog [] 64 = some c_slices_Delete_Entry := by kernel_rfl
def c_spec_l11Same : AFn := ⟨17, [.t 4], (.seq (.region [oP 2 (.box true (.t 0)), oP 3 (.box true (.t 1)), oP 4 (.mv (.k (.bool false)))]) (.seq (.region [oP 5 (.faddr 1 (.t 2)), oP 6 (.load false 1 (.t 5)), oP 7 (.faddr 1 (.t 3)), oP 8 (.load false 1 (.t 7)), oP 9 (.bin .eql (.t 6) (.t 8)), oM 10 9, oT 11 (.faddr 0 (.t 2)) 10, oT 12 (.load false 1 (.t 11)) 10, oT 13 (.faddr 0 (.t 3)) 10, oT 14 (.load false 1 (.t 13)) 10, ⟨some 15, .call (.f 114) [(.t 12), (.t 14)], (some (10, true))⟩, oP 16 (.pick (.t 10) (.t 15) (.k (.bool false))), oM 4 16]) .ret))⟩
theorem c_spec_l11Same_ok : compFn Tryz.prog [2, 3] 65 = some c_spec_l11Same := by kernel_rfl
def c_spec_l1Rd_schema : AFn := ⟨96, [.t 2], (.seq (.region [oP 2 (.mv (.k (.nils)))]) (.seq (.region [oP 7 (.build [.str [], .int .i64 0, .bool false, .int .i64 0, .int .i64 0, .str []] [(0, 1, (.k (.str [107]))), (1, 1, (kI 1)), (2, 1, (.k (.bool true)))]), oP 8 (.build [.str [], .int .i64 0, .bool false, .int .i64 0, .int .i64 0, .str []] [(0, 1, (.k (.str [116]))), (1, 1, (kI 2))]), oC 9 102 [(kI 1)], oP 10 (.build [.str [], .int .i64 0, .bool false, .int .i64 0, .int .i64 0, .str []] [(0, 1, (.k (.str [110]))), (1, 1, (kI 1)), (3, 3, (.t 9))]), oP 11 (.mksl false 6 3 [.str [], .int .i64 0, .bool false, .int .i64 0, .int .i64 0, .str []] [(0, (.t 7)), (1, (.t 8)), (2, (.t 10))]), oP 12 (.mksl true 1 1 [.int .i64 0] [(0, (kI 0))]), oP 13 (.build [.str [], .nils, .nils, .nils, .nils, .nils] [(0, 1, (.k (.str [112]))), (1, 1, (.t 11)), (2, 1, (.t 12))]), oP 3 (.alloc [.str [], .nils, .nils, .nils, .nils, .nils]), ⟨none, .op (.store 6 (.t 3) (.t 13)), none⟩]) (.seq (.seq (.region [oM 14 0, oC 15 50 [(.t 14), (kI 2)]]) (.cond (.t 15) (.region [oP 16 (.mksl true 1 1 [.int .i64 0] [(0, (kI 2))]), oP 17 (.build [.nils] [(0, 1, (.t 16))]), oP 18 (.mksl true 1 1 [.nils] [(0, (.t 17))]), oP 19 (.faddr 3 (.t 3)), ⟨none, .op (.store 1 (.t 19) (.t 18)), none⟩]) .skip)) (.seq (.seq (.region [oM 20 0, oC 21 50 [(.t 20), (kI 2)]]) (.cond (.t 21) (.region [oC 22 134 [(kI 0)], oC 23 102 [(kI 4)], oC 24 135 [(.t 23)], oP 25 (.build [.int .i64 0, .int .i64 0, .int .i64 0, .int .i64 0, .str []] [(0, 1, (kI 4))]), oP 26 (.mksl true 5 3 [.int .i64 0, .int .i64 0, .int .i64 0, .int .i64 0, .str []] [(0, (.t 22)), (1, (.t 24)), (2, (.t 25))]), oP 27 (.build [.nils] [(0, 1, (.t 26))]), oP 28 (.mksl true 1 1 [.nils] [(0, (.t 27))]), oP 29 (.faddr 4 (.t 3)), ⟨none, .op (.store 1 (.t 29) (.t 28)), none⟩]) .skip)) (.seq (.region [oP 30 (.load true 6 (.t 3)), oP 31 (.mksl false 6 1 [.str [], .nils, .nils, .nils, .nils, .nils] [(0, (.t 30))]), oM 4 31]) (.seq (.seq (.region [oM 32 0, oC 33 50 [(.t 32), (kI 4)], oP 34 (.un .not (.t 33))]) (.cond (.t 34) (.seq (.region [oP 35 (.build [.str [], .int .i64 0, .bool false, .int .i64 0, .int .i64 0, .str []] [(0, 1, (.k (.str [107]))), (1, 1, (kI 1)), (2, 1, (.k (.bool true)))]), oM 36 0, oC 37 50 [(.t 36), (kI 4)], oP 38 (.build [.str [], .int .i64 0, .bool false, .int .i64 0, .int .i64 0, .str []] [(0, 1, (.k (.str [112]))), (1, 1, (kI 1)), (2, 1, (.t 37))]), oP 39 (.mksl true 6 2 [.str [], .int .i64 0, .bool false, .int .i64 0, .int .i64 0, .str []] [(0, (.t 35)), (1, (.t 38))]), oP 40 (.mksl true 1 1 [.int .i64 0] [(0, (kI 0))]), oP 41 (.mksl true 1 1 [.int .i64 0] [(0, (kI 1))]), oM 42 0, oC 43 136 [(.t 42)], oM 44 0, oC 45 136 [(.t 44)], oM 46 0, oC 47 50 [(.t 46), (kI 4)], oP 48 (.build [.nils, .str [], .int .i64 0, .int .i64 0, .bool false] [(0, 1, (.t 41)), (1, 1, (.k (.str [112]))), (2, 1, (.t 43)), (3, 1, (.t 45)), (4, 1, (.t 47))]), oP 49 (.mksl true 5 1 [.nils, .str [], .int .i64 0, .int .i64 0, .bool false] [(0, (.t 48))]), oP 50 (.build [.str [], .nils, .nils, .nils, .nils, .nils] [(0, 1, (.k (.str [99]))), (1, 1, (.t 39)), (2, 1, (.t 40)), (5, 1, (.t 49))]), oP 5 (.alloc [.str [], .nils, .nils, .nils, .nils, .nils]), ⟨none, .op (.store 6 (.t 5) (.t 50)), none⟩]) (.region [oM 51 4, oP 52 (.load true 6 (.t 5)), oP 53 (.mksl true 6 1 [.str [], .nils, .nils, .nils, .nils, .nils] [(0, (.t 52))]), oP 54 (.app 6 136 (.t 51) (.t 53)), oM 4 54])) .skip)) (.seq (.seq (.region [oM 55 0, oC 56 50 [(.t 55), (kI 3)]]) (.cond (.t 56) (.seq (.region [oP 57 (.build [.str [], .int .i64 0, .bool false, .int .i64 0, .int .i64 0, .str []] [(0, 1, (.k (.str [107]))), (1, 1, (kI 1)), (2, 1, (.k (.bool true)))]), oP 58 (.build [.str [], .int .i64 0, .bool false, .int .i64 0, .int .i64 0, .str []] [(0, 1, (.k (.str [117, 112]))), (1, 1, (kI 1))]), oP 59 (.mksl true 6 2 [.str [], .int .i64 0, .bool false, .int .i64 0, .int .i64 0, .str []] [(0, (.t 57)), (1, (.t 58))]), oP 60 (.mksl true 1 1 [.int .i64 0] [(0, (kI 0))]), oP 61 (.mksl true 1 1 [.int .i64 0] [(0, (kI 1))]), oM 62 0, oC 63 136 [(.t 62)], oM 64 0, oC 65 136 [(.t 64)], oP 66 (.build [.nils, .str [], .int .i64 0, .int .i64 0, .bool false] [(0, 1, (.t 61)), (1, 1, (.k (.str [116, 114, 101, 101]))), (2, 1, (.t 63)), (3, 1, (.t 65))]), oP 67 (.mksl true 5 1 [.nils, .str [], .int .i64 0, .int .i64 0, .bool false] [(0, (.t 66))]), oP 68 (.build [.str [], .nils, .nils, .nils, .nils, .nils] [(0, 1, (.k (.str [116, 114, 101, 101]))), (1, 1, (.t 59)), (2, 1, (.t 60)), (5, 1, (.t 67))]), oP 6 (.alloc [.str [], .nils, .nils, .nils, .nils, .nils]), ⟨none, .op (.store 6 (.t 6) (.t 68)), none⟩]) (.region [oM 69 4, oP 70 (.load true 6 (.t 6)), oP 71 (.mksl true 6 1 [.str [], .nils, .nils, .nils, .nils, .nils] [(0, (.t 70))]), oP 72 (.app 6 136 (.t 69) (.t 71)), oM 4 72])) .skip)) (.seq (.seq (.region [oM 73 0, oC 74 49 [(.t 73), (kI 40)]]) (.block 0 (.seq (.region [oP 76 (.bin .eql (.t 74) (kI 37)), oM 75 76]) (.cond (.t 75) (.region [oM 77 4, oP 78 (.iaddr 6 (.t 77) (kI 0)), oP 79 (.faddr 2 (.t 78)), ⟨none, .op (.store 1 (.t 79) (.k (.nils))), none⟩]) (.seq (.region [oP 81 (.bin .eql (.t 74) (kI 38)), oM 80 81]) (.cond (.t 80) (.region [oM 82 4, oP 83 (.iaddr 6 (.t 82) (kI 0)), oP 84 (.faddr 0 (.t 83)), ⟨none, .op (.store 1 (.t 84) (.k (.str [99]))), none⟩]) (.seq (.region [oP 86 (.bin .eql (.t 74) (kI 39)), oM 85 86]) (.cond (.t 85) (.draw [[oM 87 4, oP 88 (.iaddr 6 (.t 87) (kI 0)), oP 89 (.faddr 1 (.t 88)), oP 90 (.load false 1 (.t 89)), oM 91 0, oC 92 51 [(.t 91), (kI 1), (kI 2)]], [oP 93 (.iaddr 6 (.t 90) (kI 0))], [oP 94 (.faddr 1 (.t 93))], [⟨none, .op (.store 1 (.t 94) (.t 92)), none⟩]]) .skip)))))))) (.seq (.region [oM 95 4, oM 2 95]) .ret)))))))))⟩
theorem c_spec_l1Rd_schema_ok : compFn Tryz.prog [12, 16, 18, 26, 28, 39, 40, 41, 49, 53, 59, 60, 61, 67, 71] 76 = some c_spec_l1Rd_schema := by kernel_rfl
def c_spec_l1Rd_base : AFn := ⟨124, [.t 6], (.seq (.region [oP 6 (.mv (.k (.nils)))]) (.seq (.region [oM 17 1, oC 18 137 [(.t 17)], oM 16 18, oP 19 (.ext (.t 16) 0), oP 20 (.ext (.t 16) 1), oM 7 19, oM 8 20]) (.seq (.seq (.region [oP 9 (.mv (kI 0))]) (.block 0 (.loop (.seq (.seq (.region [oM 21 9, oM 22 1, oP 23 (.len false (.t 22)), oP 24 (.bin .lss (.t 21) (.t 23)), oM 25 24, oT 26 (.mv (.t 8)) 25, oP 27 (.pick (.t 25) (.t 26) (.k (.bool false)))]) (.cond (.t 27) .skip (.exit 0))) (.seq (.block 1 (.seq (.region [oM 30 0, oM 31 2, oC 32 49 [(.t 30), (.t 31)], oP 33 (.bin .add (kI 1) (.t 32)), oM 10 33]) (.block 2 (.loop (.seq (.seq (.region [oM 34 10, oP 35 (.bin .gtr (.t 34) (kI 0))]) (.cond (.t 35) .skip (.exit 2))) (.seq (.block 3 (.seq (.region [oM 38 0, oM 39 1, oM 40 9, oP 41 (.iaddr 6 (.t 39) (.t 40)), oP 42 (.load true 6 (.t 41)), oC 43 138 [(.t 38), (.t 42)], oM 11 43]) (.seq (.seq (.region [oM 44 1, oM 45 9, oP 46 (.iaddr 6 (.t 44) (.t 45)), oP 47 (.faddr 0 (.t 46)), oP 48 (.load false 1 (.t 47)), oP 49 (.bin .neq (.t 48) (.k (.str [112]))), oM 50 49, oT 51 (.mv (.t 7)) 50, oT 52 (.iaddr 1 (.t 51) (kI 0)) 50, oT 53 (.faddr 0 (.t 52)) 50, oT 54 (.load false 1 (.t 53)) 50, oT 55 (.len false (.t 54)) 50, oT 56 (.bin .gtr (.t 55) (kI 0)) 50, oP 57 (.pick (.t 50) (.t 56) (.k (.bool false))), oM 58 57, oT 59 (.mv (.t 0)) 58, ⟨some 60, .call (.f 50) [(.t 59), (kI 4)], (some (58, true))⟩, oT 61 (.un .not (.t 60)) 58, oP 62 (.pick (.t 58) (.t 61) (.k (.bool false)))]) (.cond (.t 62) (.seq (.region [oM 63 7, oP 64 (.iaddr 1 (.t 63) (kI 0)), oP 65 (.faddr 0 (.t 64)), oP 66 (.load false 1 (.t 65)), oM 12 66]) (.seq (.seq (.region [oM 67 1, oM 68 9, oP 69 (.iaddr 6 (.t 67) (.t 68)), oP 70 (.faddr 0 (.t 69)), oP 71 (.load false 1 (.t 70)), oP 72 (.bin .eql (.t 71) (.k (.str [116, 114, 101, 101])))]) (.cond (.t 72) (.region [oM 73 7, oM 74 9, oP 75 (.iaddr 1 (.t 73) (.t 74)), oP 76 (.faddr 0 (.t 75)), oP 77 (.load false 1 (.t 76)), oM 12 77]) .skip)) (.seq (.region [oM 78 12, oP 79 (.len false (.t 78)), oP 80 (.bin .gtr (.t 79) (kI 0))]) (.cond (.t 80) (.region [oM 81 11, oM 82 12, oM 83 0, oM 84 12, oP 85 (.len false (.t 84)), oC 86 49 [(.t 83), (.t 85)], oP 87 (.iaddr 2 (.t 82) (.t 86)), oP 88 (.faddr 1 (.t 87)), oP 89 (.load false 1 (.t 88)), oP 90 (.iaddr 3 (.t 89) (kI 0)), oP 91 (.load true 3 (.t 90)), oP 92 (.iaddr 3 (.t 81) (kI 1)), ⟨none, .op (.store 3 (.t 92) (.t 91)), none⟩]) .skip)))) .skip)) (.seq (.seq (.region [oM 93 1, oM 94 9, oP 95 (.iaddr 6 (.t 93) (.t 94)), oP 96 (.faddr 0 (.t 95)), oP 97 (.load false 1 (.t 96)), oP 98 (.bin .eql (.t 97) (.k (.str [116, 114, 101, 101]))), oM 99 98, oT 100 (.mv (.t 7)) 99, oT 101 (.mv (.t 9)) 99, oT 102 (.iaddr 1 (.t 100) (.t 101)) 99, oT 103 (.faddr 0 (.t 102)) 99, oT 104 (.load false 1 (.t 103)) 99, oT 105 (.len false (.t 104)) 99, oT 106 (.bin .eql (.t 105) (kI 0)) 99, oP 107 (.pick (.t 99) (.t 106) (.k (.bool false)))]) (.cond (.t 107) (.region [oM 108 11, oP 109 (.build [.int .i64 0, .int .i64 0, .str []] []), oP 110 (.iaddr 3 (.t 108) (kI 1)), ⟨none, .op (.store 3 (.t 110) (.t 109)), none⟩]) .skip)) (.seq (.region [oM 112 1, oM 113 7, oM 114 9, oM 115 11, oC 116 139 [(.t 112), (.t 113), (.t 114), (.t 115), (.k (.bool false))], oM 111 116, oP 117 (.ext (.t 111) 0), oP 118 (.ext (.t 111) 1), oP 119 (.ext (.t 111) 2), oM 13 117, oM 14 118, oM 15 119]) (.seq (.region [oM 120 15, oP 121 (.bin .neq (.t 120) (kI 1))]) (.cond (.t 121) (.region [oM 122 13, oM 7 122]) .skip))))))) (.region [oM 36 10, oP 37 (.bin .sub (.t 36) (kI 1)), oM 10 37]))))))) (.region [oM 28 9, oP 29 (.bin .add (.t 28) (kI 1)), oM 9 29])))))) (.seq (.region [oM 123 7, oM 6 123]) .ret))))⟩
theorem c_spec_l1Rd_base_ok : compFn Tryz.prog [] 77 = some c_spec_l1Rd_base := by kernel_rfl
def c_spec_l6Ok : AFn := ⟨17, [.t 6], (.seq (.region [oP 6 (.mv (.k (.bool false)))]) (.seq (.region [oM 7 0, oM 8 1, oC 9 146 [(.t 7), (.t 8)], oM 10 9, oT 11 (.mv (.t 2)) 10, oT 12 (.mv (.t 0)) 10, oT 13 (.len false (.t 12)) 10, oT 14 (.bin .sub (.t 13) (kI 1)) 10, ⟨some 15, .call (.f 111) [(.t 11), (kI 0), (.t 14)], (some (10, true))⟩, oP 16 (.pick (.t 10) (.t 15) (.k (.bool false))), oM 6 16]) .ret))⟩
theorem c_spec_l6Ok_ok : compFn Tryz.prog [] 83 = some c_spec_l6Ok := by kernel_rfl
def c_spec_l3Cols : AFn := ⟨33, [.t 4], (.seq (.region [oP 4 (.mv (.k (.bool false)))]) (.seq (.seq (.region [oP 5 (.mv (kI 0))]) (.block 0 (.loop (.seq (.seq (.region [oM 6 5, oM 7 0, oP 8 (.len false (.t 7)), oP 9 (.bin .lss (.t 6) (.t 8))]) (.cond (.t 9) .skip (.exit 0))) (.seq (.block 1 (.seq (.draw [[oM 12 0, oM 13 5, oP 14 (.iaddr 1 (.t 12) (.t 13)), oP 15 (.load false 1 (.t 14)), oM 16 1, oP 17 (.bin .sub (.t 16) (kI 1))], [oC 18 111 [(.t 15), (kI 0), (.t 17)]], [oP 19 (.un .not (.t 18))], [oM 20 19], [oF 21 (.mv (.t 0)) 20, oF 22 (.mv (.t 5)) 20, oF 23 (.slice 1 (.t 21) none (some (.t 22)) none) 20, oF 24 (.mv (.t 0)) 20, oF 25 (.mv (.t 5)) 20, oF 26 (.iaddr 1 (.t 24) (.t 25)) 20, oF 27 (.load false 1 (.t 26)) 20], [⟨some 28, .call (.f 147) [(.t 23), (.t 27)], (some (20, false))⟩], [oP 29 (.pick (.t 20) (.k (.bool true)) (.t 28))]]) (.cond (.t 29) (.seq (.region [oP 4 (.mv (.k (.bool false)))]) .ret) .skip))) (.region [oM 10 5, oP 11 (.bin .add (.t 10) (kI 1)), oM 5 11])))))) (.seq (.region [oM 30 0, oP 31 (.len false (.t 30)), oP 32 (.bin .gtr (.t 31) (kI 0)), oM 4 32]) .ret)))⟩
theorem c_spec_l3Cols_ok : compFn Tryz.prog [] 84 = some c_spec_l3Cols := by kernel_rfl
def c_spec_l11Of : AFn := ⟨39, [.t 4], (.seq (.region [oP 2 (.box true (.t 0)), oP 4 (.mv (.k (.nils)))]) (.seq (.region [oP 9 (.mksl false 2 0 [.nils, .int .i64 0] []), oM 5 9]) (.seq (.seq (.region [oP 6 (.mv (kI 0))]) (.block 0 (.loop (.seq (.seq (.region [oM 10 6, oP 11 (.faddr 0 (.t 2)), oP 12 (.load false 1 (.t 11)), oP 13 (.len false (.t 12)), oP 14 (.bin .lss (.t 10) (.t 13))]) (.cond (.t 14) .skip (.exit 0))) (.seq (.block 1 (.seq (.region [oM 18 1, oP 19 (.faddr 0 (.t 2)), oP 20 (.load false 1 (.t 19)), oM 21 6, oP 22 (.iaddr 2 (.t 20) (.t 21)), oP 23 (.faddr 1 (.t 22)), oP 24 (.load false 1 (.t 23)), oC 25 148 [(.t 18), (.t 24)], oM 17 25, oP 26 (.ext (.t 17) 0), oP 27 (.ext (.t 17) 1), oM 7 26, oM 8 27]) (.region [oM 28 5, oM 29 7, oP 30 (.faddr 0 (.t 2)), oP 31 (.load false 1 (.t 30)), oM 32 6, oP 33 (.iaddr 2 (.t 31) (.t 32)), oP 34 (.faddr 0 (.t 33)), oP 35 (.load false 1 (.t 34)), oP 36 (.build [.nils, .int .i64 0] [(0, 1, (.t 29)), (1, 1, (.t 35))]), oC 37 58 [(.t 28), (.t 36)], oM 5 37]))) (.region [oM 15 6, oP 16 (.bin .add (.t 15) (kI 1)), oM 6 16])))))) (.seq (.region [oM 38 5, oM 4 38]) .ret))))⟩
theorem c_spec_l11Of_ok : compFn Tryz.prog [2] 85 = some c_spec_l11Of := by kernel_rfl
def c_impl_ValOk : AFn := ⟨31, [.t 2], (.seq (.region [oP 1 (.box true (.t 0)), oP 2 (.mv (.k (.bool false)))]) (.seq (.seq (.region [oP 3 (.faddr 0 (.t 1)), oP 4 (.load false 1 (.t 3))]) (.block 0 (.seq (.region [oP 6 (.bin .eql (.t 4) (kI 0)), oM 5 6]) (.cond (.t 5) (.seq (.region [oP 7 (.load true 3 (.t 1)), oP 8 (.build [.int .i64 0, .int .i64 0, .str []] []), oP 9 (.eq false true [.i, .i, .s] (.t 7) (.t 8)), oM 2 9]) .ret) (.seq (.region [oP 11 (.bin .eql (.t 4) (kI 1)), oM 10 11]) (.cond (.t 10) (.seq (.region [oP 12 (.faddr 1 (.t 1)), oP 13 (.load false 1 (.t 12)), oC 14 92 [(.t 13), (kI (-1000000000)), (kI 1000000000)], oM 15 14, oT 16 (.faddr 2 (.t 1)) 15, oT 17 (.load false 1 (.t 16)) 15, oT 18 (.bin .eql (.t 17) (.k (.str []))) 15, oP 19 (.pick (.t 15) (.t 18) (.k (.bool false))), oM 2 19]) .ret) (.seq (.region [oP 21 (.bin .eql (.t 4) (kI 2)), oM 20 21]) (.cond (.t 20) (.seq (.region [oP 22 (.faddr 1 (.t 1)), oP 23 (.load false 1 (.t 22)), oP 24 (.bin .eql (.t 23) (kI 0)), oM 25 24, oT 26 (.faddr 2 (.t 1)) 25, oT 27 (.load false 1 (.t 26)) 25, oT 28 (.len true (.t 27)) 25, oT 29 (.bin .leq (.t 28) (kI 12)) 25, oP 30 (.pick (.t 25) (.t 29) (.k (.bool false))), oM 2 30]) .ret) .skip)))))))) (.seq (.region [oP 2 (.mv (.k (.bool false)))]) .ret)))⟩
theorem c_impl_ValOk_ok : compFn Tryz.prog [1] 86 = some c_impl_ValOk := by kernel_rfl
def c_impl_order : AFn := ⟨22, [.t 4], (.seq (.region [oP 2 (.box true (.t 0)), oP 3 (.box true (.t 1)), oP 4 (.mv (kI 0))]) (.seq (.draw [[oP 5 (.faddr 0 (.t 2)), oP 6 (.load false 1 (.t 5)), oP 7 (.faddr 0 (.t 3)), oP 8 (.load false 1 (.t 7)), oC 9 109 [(.t 6), (.t 8)], oP 10 (.faddr 1 (.t 2)), oP 11 (.load false 1 (.t 10)), oP 12 (.faddr 1 (.t 3)), oP 13 (.load false 1 (.t 12)), oC 14 109 [(.t 11), (.t 13)], oP 15 (.faddr 2 (.t 2)), oP 16 (.load false 1 (.t 15)), oP 17 (.faddr 2 (.t 3)), oP 18 (.load false 1 (.t 17))], [oC 19 149 [(.t 16), (.t 18)]], [oP 20 (.mksl true 1 3 [.int .i64 0] [(0, (.t 9)), (1, (.t 14)), (2, (.t 19))])], [oC 21 107 [(.t 20)]], [oM 4 21]]) .ret))⟩
theorem c_impl_order_ok : compFn Tryz.prog [2, 3, 20] 87 = some c_impl_order := by kernel_rfl
def c_impl_areVals : AFn := ⟨23, [.t 4], (.seq (.region [oP 4 (.mv (.k (.bool false)))]) (.seq (.seq (.region [oM 7 0, oP 8 (.len false (.t 7)), oP 9 (.mv (kI 0))]) (.block 0 (.loop (.seq (.region [oP 10 (.bin .lss (.t 9) (.t 8))]) (.seq (.cond (.t 10) .skip (.exit 0)) (.seq (.block 1 (.seq (.region [oM 11 9, oP 12 (.iaddr 3 (.t 7) (.t 9)), oP 13 (.load true 3 (.t 12)), oP 6 (.alloc [.int .i64 0, .int .i64 0, .str []]), oM 5 11, ⟨none, .op (.store 3 (.t 6) (.t 13)), none⟩]) (.seq (.region [oM 14 5, oM 15 1, oP 16 (.bin .eql (.t 14) (.t 15)), oM 17 16, oF 18 (.load true 3 (.t 6)) 17, ⟨some 19, .call (.f 86) [(.t 18)], (some (17, false))⟩, oF 20 (.un .not (.t 19)) 17, oP 21 (.pick (.t 17) (.k (.bool true)) (.t 20))]) (.cond (.t 21) (.seq (.region [oP 4 (.mv (.k (.bool false)))]) .ret) .skip)))) (.region [oP 22 (.bin .add (.t 9) (kI 1)), oM 9 22]))))))) (.seq (.region [oP 4 (.mv (.k (.bool true)))]) .ret)))⟩
theorem c_impl_areVals_ok : compFn Tryz.prog [] 89 = some c_impl_areVals := by kernel_rfl
def c_impl_in : AFn := ⟨15, [.t 6], (.seq (.region [oP 6 (.mv (.k (.bool false)))]) (.seq (.region [oM 7 1, oM 8 0, oP 9 (.bin .leq (.t 7) (.t 8)), oM 10 9, oT 11 (.mv (.t 0)) 10, oT 12 (.mv (.t 2)) 10, oT 13 (.bin .leq (.t 11) (.t 12)) 10, oP 14 (.pick (.t 10) (.t 13) (.k (.bool false))), oM 6 14]) .ret))⟩
theorem c_impl_in_ok : compFn Tryz.prog [] 92 = some c_impl_in := by kernel_rfl
def c_spec_l1Str : AFn := ⟨5, [.m 2 true 3], (.seq (.region [oP 2 (.alloc [.int .i64 0, .int .i64 0, .str []])]) (.seq (.region [oM 3 0, oP 4 (.build [.int .i64 0, .int .i64 0, .str []] [(0, 1, (kI 2)), (2, 1, (.t 3))]), ⟨none, .op (.store 3 (.t 2) (.t 4)), none⟩]) .ret))⟩
theorem c_spec_l1Str_ok : compFn Tryz.prog [] 101 = some c_spec_l1Str := by kernel_rfl
def c_spec_l1Int : AFn := ⟨5, [.m 2 true 3], (.seq (.region [oP 2 (.alloc [.int .i64 0, .int .i64 0, .str []])]) (.seq (.region [oM 3 0, oP 4 (.build [.int .i64 0, .int .i64 0, .str []] [(0, 1, (kI 1)), (1, 1, (.t 3))]), ⟨none, .op (.store 3 (.t 2) (.t 4)), none⟩]) .ret))⟩
theorem c_spec_l1Int_ok : compFn Tryz.prog [] 102 = some c_spec_l1Int := by kernel_rfl
def c_spec_l1Rd_next : AFn := ⟨32, [.t 2], (.seq (.region [oP 2 (.mv (kI 0))]) (.seq (.seq (.draw [[oM 3 0, oP 4 (.nilc (.t 3)), oP 5 (.faddr 1 (.t 4)), oP 6 (.load false 1 (.t 5)), oM 7 0, oP 8 (.nilc (.t 7)), oP 9 (.faddr 0 (.t 8)), oP 10 (.load false 1 (.t 9)), oP 11 (.len false (.t 10))], [oP 12 (.bin .geq (.t 6) (.t 11))]]) (.cond (.t 12) (.seq (.region [oP 2 (.mv (kI 0))]) .ret) .skip)) (.seq (.region [oM 13 0, oP 14 (.nilc (.t 13)), oP 15 (.faddr 1 (.t 14)), oP 16 (.load false 1 (.t 15)), oP 17 (.bin .add (.t 16) (kI 1)), oP 18 (.nilc (.t 13)), oP 19 (.faddr 1 (.t 18)), ⟨none, .op (.store 1 (.t 19) (.t 17)), none⟩]) (.seq (.draw [[oM 20 0, oP 21 (.nilc (.t 20)), oP 22 (.faddr 0 (.t 21)), oP 23 (.load false 1 (.t 22)), oM 24 0, oP 25 (.nilc (.t 24)), oP 26 (.faddr 1 (.t 25)), oP 27 (.load false 1 (.t 26)), oP 28 (.bin .sub (.t 27) (kI 1))], [oP 29 (.iaddr 1 (.t 23) (.t 28))], [oP 30 (.load false 1 (.t 29))], [oP 31 (.conv .i64 (.t 30))], [oM 2 31]]) .ret))))⟩
theorem c_spec_l1Rd_next_ok : compFn Tryz.prog [] 103 = some c_spec_l1Rd_next := by kernel_rfl
def c_spec_l1Rd_near : AFn := ⟨31, [.t 6], (.seq (.region [oP 6 (.mv (kI 0))]) (.seq (.seq (.region [oM 7 0, oC 8 49 [(.t 7), (kI 8)]]) (.block 0 (.seq (.region [oP 10 (.bin .eql (.t 8) (kI 0)), oM 9 10]) (.cond (.t 9) (.seq (.region [oM 11 1, oM 6 11]) .ret) (.seq (.region [oP 13 (.bin .eql (.t 8) (kI 1)), oM 12 13]) (.cond (.t 12) (.seq (.region [oM 14 2, oM 6 14]) .ret) .skip)))))) (.seq (.seq (.region [oM 15 2, oM 16 1, oP 17 (.bin .lss (.t 15) (.t 16))]) (.cond (.t 17) (.seq (.region [oM 18 1, oM 6 18]) .ret) .skip)) (.seq (.region [oM 19 1, oM 20 0, oC 21 153 [(.t 20)], oP 22 (.bin .shr (.t 21) (.k (.int .u64 1))), oM 23 2, oM 24 1, oP 25 (.bin .sub (.t 23) (.t 24)), oP 26 (.bin .add (.t 25) (kI 1)), oP 27 (.conv .u64 (.t 26)), oP 28 (.bin .rem (.t 22) (.t 27)), oP 29 (.conv .i64 (.t 28)), oP 30 (.bin .add (.t 19) (.t 29)), oM 6 30]) .ret))))⟩
theorem c_spec_l1Rd_near_ok : compFn Tryz.prog [] 104 = some c_spec_l1Rd_near := by kernel_rfl
def c_slices_Clone_Val : AFn := ⟨8, [.t 2], (.seq (.region [oP 2 (.mv (.k (.nils)))]) (.seq (.seq (.region [oM 3 0, oP 4 (.eq false false [.sl] (.t 3) (.k (.nils)))]) (.cond (.t 4) (.seq (.region [oP 2 (.mv (.k (.nils)))]) .ret) .skip)) (.seq (.region [oP 5 (.mksl false 3 0 [.int .i64 0, .int .i64 0, .str []] []), oM 6 0, oP 7 (.app 3 32 (.t 5) (.t 6)), oM 2 7]) .ret)))⟩
theorem c_slices_Clone_Val_ok : compFn Tryz.prog [] 105 = some c_slices_Clone_Val := by kernel_rfl
def c_slices_stableCmpFunc_Entry : AFn := ⟨63, [], (.seq (.region [oP 6 (.mv (kI 20))]) (.seq (.region [oM 10 6, oP 7 (.mv (kI 0)), oM 8 10]) (.seq (.block 0 (.loop (.seq (.seq (.region [oM 11 8, oM 12 1, oP 13 (.bin .leq (.t 11) (.t 12))]) (.cond (.t 13) .skip (.exit 0))) (.block 1 (.seq (.region [oM 14 0, oM 15 7, oM 16 8, oM 17 2, oC 18 154 [(.t 14), (.t 15), (.t 16), (.t 17)]]) (.seq (.region [oM 19 8, oM 7 19]) (.region [oM 20 8, oM 21 6, oP 22 (.bin .add (.t 20) (.t 21)), oM 8 22]))))))) (.seq (.region [oM 23 0, oM 24 7, oM 25 1, oM 26 2, oC 27 154 [(.t 23), (.t 24), (.t 25), (.t 26)]]) (.block 2 (.loop (.seq (.seq (.region [oM 28 6, oM 29 1, oP 30 (.bin .lss (.t 28) (.t 29))]) (.cond (.t 30) .skip (.exit 2))) (.block 3 (.seq (.region [oM 31 6, oP 32 (.bin .mul (kI 2) (.t 31)), oP 7 (.mv (kI 0)), oM 8 32]) (.seq (.block 4 (.loop (.seq (.seq (.region [oM 33 8, oM 34 1, oP 35 (.bin .leq (.t 33) (.t 34))]) (.cond (.t 35) .skip (.exit 4))) (.block 5 (.seq (.region [oM 36 0, oM 37 7, oM 38 7, oM 39 6, oP 40 (.bin .add (.t 38) (.t 39)), oM 41 8, oM 42 2, oC 43 155 [(.t 36), (.t 37), (.t 40), (.t 41), (.t 42)]]) (.seq (.region [oM 44 8, oM 7 44]) (.region [oM 45 8, oM 46 6, oP 47 (.bin .mul (kI 2) (.t 46)), oP 48 (.bin .add (.t 45) (.t 47)), oM 8 48]))))))) (.seq (.seq (.region [oM 49 7, oM 50 6, oP 51 (.bin .add (.t 49) (.t 50)), oM 9 51]) (.seq (.region [oM 52 9, oM 53 1, oP 54 (.bin .lss (.t 52) (.t 53))]) (.cond (.t 54) (.region [oM 55 0, oM 56 7, oM 57 9, oM 58 1, oM 59 2, oC 60 155 [(.t 55), (.t 56), (.t 57), (.t 58), (.t 59)]]) .skip))) (.region [oM 61 6, oP 62 (.bin .mul (.t 61) (kI 2)), oM 6 62]))))))))))))⟩
theorem c_slices_stableCmpFunc_Entry_ok : compFn Tryz.prog [] 106 = some c_slices_stableCmpFunc_Entry := by kernel_rfl
def c_cmp_Or_int : AFn := ⟨18, [.t 2], (.seq (.region [oP 2 (.mv (kI 0))]) (.seq (.region [oP 3 (.mv (kI 0))]) (.seq (.seq (.region [oM 6 0, oP 7 (.len false (.t 6)), oP 8 (.mv (kI 0))]) (.block 0 (.loop (.seq (.region [oP 9 (.bin .lss (.t 8) (.t 7))]) (.seq (.cond (.t 9) .skip (.exit 0)) (.seq (.block 1 (.seq (.region [oP 10 (.iaddr 1 (.t 6) (.t 8)), oP 11 (.load false 1 (.t 10)), oM 5 11]) (.seq (.region [oM 12 5, oM 13 3, oP 14 (.bin .neq (.t 12) (.t 13))]) (.cond (.t 14) (.seq (.region [oM 15 5, oM 2 15]) .ret) .skip)))) (.region [oP 16 (.bin .add (.t 8) (kI 1)), oM 8 16]))))))) (.seq (.region [oM 17 3, oM 2 17]) .ret))))⟩
theorem c_cmp_Or_int_ok : compFn Tryz.prog [] 107 = some c_cmp_Or_int := by kernel_rfl
def c_impl_orderOf : AFn := ⟨25, [.t 4], (.seq (.region [oP 4 (.mv (kI 0))]) (.seq (.seq (.region [oM 8 0, oP 9 (.len false (.t 8)), oP 10 (.mv (kI 0))]) (.block 0 (.loop (.seq (.region [oP 11 (.bin .lss (.t 10) (.t 9))]) (.seq (.cond (.t 11) .skip (.exit 0)) (.seq (.block 1 (.seq (.region [oM 12 10, oP 13 (.iaddr 3 (.t 8) (.t 10)), oP 14 (.load true 3 (.t 13)), oP 6 (.alloc [.int .i64 0, .int .i64 0, .str []]), oM 5 12, ⟨none, .op (.store 3 (.t 6) (.t 14)), none⟩]) (.seq (.draw [[oP 15 (.load true 3 (.t 6)), oM 16 1, oM 17 5, oP 18 (.iaddr 3 (.t 16) (.t 17)), oP 19 (.load true 3 (.t 18))], [oC 20 87 [(.t 15), (.t 19)]], [oM 7 20]]) (.seq (.region [oM 21 7, oP 22 (.bin .neq (.t 21) (kI 0))]) (.cond (.t 22) (.seq (.region [oM 23 7, oM 4 23]) .ret) .skip))))) (.region [oP 24 (.bin .add (.t 10) (kI 1)), oM 10 24]))))))) (.seq (.region [oP 4 (.mv (kI 0))]) .ret)))⟩
theorem c_impl_orderOf_ok : compFn Tryz.prog [] 108 = some c_impl_orderOf := by kernel_rfl
def c_cmp_Compare_int64 : AFn := ⟨20, [.t 4], (.seq (.region [oP 4 (.mv (kI 0))]) (.seq (.region [oM 7 0, oC 8 156 [(.t 7)], oM 5 8]) (.seq (.region [oM 9 1, oC 10 156 [(.t 9)], oM 6 10]) (.seq (.seq (.region [oM 11 5]) (.cond (.t 11) (.seq (.seq (.region [oM 12 6]) (.cond (.t 12) (.seq (.region [oP 4 (.mv (kI 0))]) .ret) .skip)) (.seq (.region [oP 4 (.mv (kI (-1)))]) .ret)) .skip)) (.seq (.seq (.region [oM 13 6]) (.cond (.t 13) (.seq (.region [oP 4 (.mv (kI 1))]) .ret) .skip)) (.seq (.seq (.region [oM 14 0, oM 15 1, oP 16 (.bin .lss (.t 14) (.t 15))]) (.cond (.t 16) (.seq (.region [oP 4 (.mv (kI (-1)))]) .ret) .skip)) (.seq (.seq (.region [oM 17 0, oM 18 1, oP 19 (.bin .gtr (.t 17) (.t 18))]) (.cond (.t 19) (.seq (.region [oP 4 (.mv (kI 1))]) .ret) .skip)) (.seq (.region [oP 4 (.mv (kI 0))]) .ret))))))))⟩
theorem c_cmp_Compare_int64_ok : compFn Tryz.prog [] 109 = some c_cmp_Compare_int64 := by kernel_rfl
def c_spec_l2Vals : AFn := ⟨19, [.t 2], (.seq (.region [oP 2 (.mv (.k (.bool false)))]) (.seq (.seq (.region [oP 3 (.mv (kI 0))]) (.block 0 (.loop (.seq (.seq (.region [oM 4 3, oM 5 0, oP 6 (.len false (.t 5)), oP 7 (.bin .lss (.t 4) (.t 6))]) (.cond (.t 7) .skip (.exit 0))) (.seq (.block 1 (.seq (.region [oM 10 0, oM 11 3, oP 12 (.iaddr 3 (.t 10) (.t 11)), oP 13 (.load true 3 (.t 12)), oC 14 157 [(.t 13)], oP 15 (.un .not (.t 14))]) (.cond (.t 15) (.seq (.region [oP 2 (.mv (.k (.bool false)))]) .ret) .skip))) (.region [oM 8 3, oP 9 (.bin .add (.t 8) (kI 1)), oM 3 9])))))) (.seq (.region [oM 16 0, oP 17 (.len false (.t 16)), oP 18 (.bin .leq (.t 17) (kI 16)), oM 2 18]) .ret)))⟩
theorem c_spec_l2Vals_ok : compFn Tryz.prog [] 110 = some c_spec_l2Vals := by kernel_rfl
def c_spec_l1In : AFn := ⟨15, [.t 6], (.seq (.region [oP 6 (.mv (.k (.bool false)))]) (.seq (.region [oM 7 0, oM 8 1, oP 9 (.bin .geq (.t 7) (.t 8)), oM 10 9, oT 11 (.mv (.t 0)) 10, oT 12 (.mv (.t 2)) 10, oT 13 (.bin .leq (.t 11) (.t 12)) 10, oP 14 (.pick (.t 10) (.t 13) (.k (.bool false))), oM 6 14]) .ret))⟩
theorem c_spec_l1In_ok : compFn Tryz.prog [] 111 = some c_spec_l1In := by kernel_rfl
def c_spec_l11Less : AFn := ⟨41, [.t 4], (.seq (.region [oP 2 (.box true (.t 0)), oP 3 (.box true (.t 1)), oP 4 (.mv (.k (.bool false)))]) (.seq (.seq (.region [oP 5 (.mv (kI 0))]) (.block 0 (.loop (.seq (.seq (.region [oM 7 5, oP 8 (.faddr 0 (.t 2)), oP 9 (.load false 1 (.t 8)), oP 10 (.len false (.t 9)), oP 11 (.bin .lss (.t 7) (.t 10)), oM 12 11, oT 13 (.mv (.t 5)) 12, oT 14 (.faddr 0 (.t 3)) 12, oT 15 (.load false 1 (.t 14)) 12, oT 16 (.len false (.t 15)) 12, oT 17 (.bin .lss (.t 13) (.t 16)) 12, oP 18 (.pick (.t 12) (.t 17) (.k (.bool false)))]) (.cond (.t 18) .skip (.exit 0))) (.seq (.block 1 (.seq (.draw [[oP 21 (.faddr 0 (.t 2)), oP 22 (.load false 1 (.t 21)), oM 23 5, oP 24 (.iaddr 3 (.t 22) (.t 23)), oP 25 (.load true 3 (.t 24)), oP 26 (.faddr 0 (.t 3)), oP 27 (.load false 1 (.t 26)), oM 28 5, oP 29 (.iaddr 3 (.t 27) (.t 28)), oP 30 (.load true 3 (.t 29))], [oC 31 158 [(.t 25), (.t 30)]], [oM 6 31]]) (.seq (.region [oM 32 6, oP 33 (.bin .neq (.t 32) (kI 0))]) (.cond (.t 33) (.seq (.region [oM 34 6, oP 35 (.bin .lss (.t 34) (kI 0)), oM 4 35]) .ret) .skip)))) (.region [oM 19 5, oP 20 (.bin .add (.t 19) (kI 1)), oM 5 20])))))) (.seq (.region [oP 36 (.faddr 1 (.t 2)), oP 37 (.load false 1 (.t 36)), oP 38 (.faddr 1 (.t 3)), oP 39 (.load false 1 (.t 38)), oP 40 (.bin .lss (.t 37) (.t 39)), oM 4 40]) .ret)))⟩
theorem c_spec_l11Less_ok : compFn Tryz.prog [2, 3] 112 = some c_spec_l11Less := by kernel_rfl
def c_slices_Equal_Val : AFn := ⟨26, [.t 4], (.seq (.region [oP 4 (.mv (.k (.bool false)))]) (.seq (.seq (.region [oM 6 0, oP 7 (.len false (.t 6)), oM 8 1, oP 9 (.len false (.t 8)), oP 10 (.bin .neq (.t 7) (.t 9))]) (.cond (.t 10) (.seq (.region [oP 4 (.mv (.k (.bool false)))]) .ret) .skip)) (.seq (.seq (.region [oM 11 0, oP 12 (.len false (.t 11)), oP 13 (.mv (kI 0))]) (.block 0 (.loop (.seq (.region [oP 14 (.bin .lss (.t 13) (.t 12))]) (.seq (.cond (.t 14) .skip (.exit 0)) (.seq (.block 1 (.seq (.region [oM 15 13, oM 5 15]) (.seq (.draw [[oM 16 0, oM 17 5, oP 18 (.iaddr 3 (.t 16) (.t 17)), oP 19 (.load true 3 (.t 18)), oM 20 1, oM 21 5, oP 22 (.iaddr 3 (.t 20) (.t 21)), oP 23 (.load true 3 (.t 22))], [oP 24 (.eq true true [.i, .i, .s] (.t 19) (.t 23))]]) (.cond (.t 24) (.seq (.region [oP 4 (.mv (.k (.bool false)))]) .ret) .skip)))) (.region [oP 25 (.bin .add (.t 13) (kI 1)), oM 13 25]))))))) (.seq (.region [oP 4 (.mv (.k (.bool true)))]) .ret))))⟩
theorem c_slices_Equal_Val_ok : compFn Tryz.prog [] 113 = some c_slices_Equal_Val := by kernel_rfl
def c_spec_l1SameVals : AFn := ⟨26, [.t 4], (.seq (.region [oP 4 (.mv (.k (.bool false)))]) (.seq (.seq (.region [oM 6 0, oP 7 (.len false (.t 6)), oM 8 1, oP 9 (.len false (.t 8)), oP 10 (.bin .neq (.t 7) (.t 9))]) (.cond (.t 10) (.seq (.region [oP 4 (.mv (.k (.bool false)))]) .ret) .skip)) (.seq (.seq (.region [oP 5 (.mv (kI 0))]) (.block 0 (.loop (.seq (.seq (.region [oM 11 5, oM 12 0, oP 13 (.len false (.t 12)), oP 14 (.bin .lss (.t 11) (.t 13))]) (.cond (.t 14) .skip (.exit 0))) (.seq (.block 1 (.seq (.draw [[oM 17 0, oM 18 5, oP 19 (.iaddr 3 (.t 17) (.t 18)), oP 20 (.load true 3 (.t 19)), oM 21 1, oM 22 5, oP 23 (.iaddr 3 (.t 21) (.t 22)), oP 24 (.load true 3 (.t 23))], [oP 25 (.eq true true [.i, .i, .s] (.t 20) (.t 24))]]) (.cond (.t 25) (.seq (.region [oP 4 (.mv (.k (.bool false)))]) .ret) .skip))) (.region [oM 15 5, oP 16 (.bin .add (.t 15) (kI 1)), oM 5 16])))))) (.seq (.region [oP 4 (.mv (.k (.bool true)))]) .ret))))⟩
theorem c_spec_l1SameVals_ok : compFn Tryz.prog [] 114 = some c_spec_l1SameVals := by kernel_rfl
def c_spec_l2Col : AFn := ⟨5, [.m 2 true 5], (.seq (.region [oP 2 (.alloc [.int .i64 0, .int .i64 0, .int .i64 0, .int .i64 0, .str []])]) (.seq (.region [oM 3 0, oP 4 (.build [.int .i64 0, .int .i64 0, .int .i64 0, .int .i64 0, .str []] [(0, 1, (kI 1)), (1, 1, (.t 3))]), ⟨none, .op (.store 5 (.t 2) (.t 4)), none⟩]) .ret))⟩
theorem c_spec_l2Col_ok : compFn Tryz.prog [] 134 = some c_spec_l2Col := by kernel_rfl
def c_spec_l2Const : AFn := ⟨5, [.m 2 true 5], (.seq (.region [oP 1 (.box true (.t 0)), oP 2 (.alloc [.int .i64 0, .int .i64 0, .int .i64 0, .int .i64 0, .str []])]) (.seq (.region [oP 3 (.load true 3 (.t 1)), oP 4 (.build [.int .i64 0, .int .i64 0, .int .i64 0, .int .i64 0, .str []] [(0, 1, (kI 2)), (2, 3, (.t 3))]), ⟨none, .op (.store 5 (.t 2) (.t 4)), none⟩]) .ret))⟩
theorem c_spec_l2Const_ok : compFn Tryz.prog [1] 135 = some c_spec_l2Const := by kernel_rfl
def c_spec_l1Rd_action : AFn := ⟨5, [.t 2], (.seq (.region [oP 2 (.mv (kI 0))]) (.seq (.region [oM 3 0, oC 4 49 [(.t 3), (kI 3)], oM 2 4]) .ret))⟩
theorem c_spec_l1Rd_action_ok : compFn Tryz.prog [] 136 = some c_spec_l1Rd_action := by kernel_rfl
def c_spec_DbNew : AFn := ⟨10, [.t 2, .t 3], (.seq (.region [oP 2 (.mv (.k (.nils))), oP 3 (.mv (.k (.bool false)))]) (.seq (.seq (.region [oM 4 0, oC 5 177 [(.t 4)], oP 6 (.un .not (.t 5))]) (.cond (.t 6) (.seq (.region [oP 2 (.mv (.k (.nils))), oP 3 (.mv (.k (.bool false)))]) .ret) .skip)) (.seq (.region [oM 7 0, oP 8 (.len false (.t 7)), oP 9 (.mkslice 1 24 [.nils] (.t 8) (.t 8)), oM 2 9, oP 3 (.mv (.k (.bool true)))]) .ret)))⟩
theorem c_spec_DbNew_ok : compFn Tryz.prog [] 137 = some c_spec_DbNew := by kernel_rfl
def c_spec_l1Rd_fit : AFn := ⟨44, [.t 4], (.seq (.region [oP 3 (.box true (.t 1)), oP 4 (.mv (.k (.nils)))]) (.seq (.region [oP 8 (.mksl false 3 0 [.int .i64 0, .int .i64 0, .str []] []), oM 5 8]) (.seq (.seq (.region [oP 6 (.mv (kI 0))]) (.block 0 (.loop (.seq (.seq (.region [oM 9 6, oP 10 (.faddr 1 (.t 3)), oP 11 (.load false 1 (.t 10)), oP 12 (.len false (.t 11)), oP 13 (.bin .lss (.t 9) (.t 12))]) (.cond (.t 13) .skip (.exit 0))) (.seq (.block 1 (.seq (.region [oM 16 0, oC 17 49 [(.t 16), (kI 5)], oC 18 102 [(.t 17)], oP 7 (.alloc [.int .i64 0, .int .i64 0, .str []]), ⟨none, .op (.store 3 (.t 7) (.t 18)), none⟩]) (.seq (.seq (.region [oP 19 (.faddr 1 (.t 3)), oP 20 (.load false 1 (.t 19)), oM 21 6, oP 22 (.iaddr 6 (.t 20) (.t 21)), oP 23 (.faddr 1 (.t 22)), oP 24 (.load false 1 (.t 23)), oP 25 (.bin .eql (.t 24) (kI 2))]) (.cond (.t 25) (.region [oP 26 (.mksl true 1 3 [.str []] [(0, (.k (.str []))), (1, (.k (.str [97]))), (2, (.k (.str [98])))]), oM 27 0, oC 28 49 [(.t 27), (kI 3)], oP 29 (.iaddr 1 (.t 26) (.t 28)), oP 30 (.load false 1 (.t 29)), oC 31 101 [(.t 30)], ⟨none, .op (.store 3 (.t 7) (.t 31)), none⟩]) .skip)) (.seq (.seq (.region [oM 32 0, oC 33 50 [(.t 32), (kI 8)]]) (.cond (.t 33) (.region [oP 34 (.build [.int .i64 0, .int .i64 0, .str []] []), ⟨none, .op (.store 3 (.t 7) (.t 34)), none⟩]) .skip)) (.seq (.seq (.region [oM 35 0, oC 36 50 [(.t 35), (kI 60)]]) (.cond (.t 36) (.region [oM 37 0, oC 38 48 [(.t 37)], ⟨none, .op (.store 3 (.t 7) (.t 38)), none⟩]) .skip)) (.region [oM 39 5, oP 40 (.load true 3 (.t 7)), oP 41 (.mksl true 3 1 [.int .i64 0, .int .i64 0, .str []] [(0, (.t 40))]), oP 42 (.app 3 32 (.t 39) (.t 41)), oM 5 42])))))) (.region [oM 14 6, oP 15 (.bin .add (.t 14) (kI 1)), oM 6 15])))))) (.seq (.region [oM 43 5, oM 4 43]) .ret))))⟩
theorem c_spec_l1Rd_fit_ok : compFn Tryz.prog [3, 26, 41] 138 = some c_spec_l1Rd_fit := by kernel_rfl
def c_spec_InsertRow : AFn := ⟨49, [.t 10, .t 11, .t 12], (.seq (.region [oP 10 (.mv (.k (.nils))), oP 11 (.mv (kI 0)), oP 12 (.mv (kI 0))]) (.seq (.seq (.region [oM 16 0, oM 17 1, oM 18 2, oC 19 83 [(.t 16), (.t 17), (.t 18)], oP 20 (.un .not (.t 19)), oM 21 20, oF 22 (.mv (.t 0)) 21, oF 23 (.mv (.t 2)) 21, oF 24 (.iaddr 6 (.t 22) (.t 23)) 21, oF 25 (.load true 6 (.t 24)) 21, oF 26 (.mv (.t 3)) 21, ⟨some 27, .call (.f 178) [(.t 25), (.t 26)], (some (21, false))⟩, oF 28 (.un .not (.t 27)) 21, oP 29 (.pick (.t 21) (.k (.bool true)) (.t 28))]) (.cond (.t 29) (.seq (.region [oP 10 (.mv (.k (.nils))), oP 11 (.mv (kI 0)), oP 12 (.mv (kI 1))]) .ret) .skip)) (.seq (.region [oM 31 0, oM 32 1, oM 33 2, oM 34 3, oM 35 4, oC 36 179 [(.t 31), (.t 32), (.t 33), (.t 34), (.t 35)], oM 30 36, oP 37 (.ext (.t 30) 0), oP 38 (.ext (.t 30) 1), oP 39 (.ext (.t 30) 2), oM 13 37, oM 14 38, oM 15 39]) (.seq (.seq (.region [oM 40 15, oP 41 (.bin .neq (.t 40) (kI 0))]) (.cond (.t 41) (.seq (.region [oM 42 1, oC 43 180 [(.t 42)], oM 44 15, oM 10 43, oP 11 (.mv (kI 0)), oM 12 44]) .ret) .skip)) (.seq (.region [oM 45 13, oC 46 180 [(.t 45)], oM 47 14, oM 48 15, oM 10 46, oM 11 47, oM 12 48]) .ret)))))⟩
theorem c_spec_InsertRow_ok : compFn Tryz.prog [] 139 = some c_spec_InsertRow := by kernel_rfl
def c_spec_DbOk : AFn := ⟨12, [.t 4], (.seq (.region [oP 4 (.mv (.k (.bool false)))]) (.seq (.region [oM 5 0, oC 6 177 [(.t 5)], oM 7 6, oT 8 (.mv (.t 0)) 7, oT 9 (.mv (.t 1)) 7, ⟨some 10, .call (.f 199) [(.t 8), (.t 9)], (some (7, true))⟩, oP 11 (.pick (.t 7) (.t 10) (.k (.bool false))), oM 4 11]) .ret))⟩
theorem c_spec_DbOk_ok : compFn Tryz.prog [] 146 = some c_spec_DbOk := by kernel_rfl
def c_spec_l1Has : AFn := ⟨18, [.t 4], (.seq (.region [oP 4 (.mv (.k (.bool false)))]) (.seq (.seq (.region [oP 5 (.mv (kI 0))]) (.block 0 (.loop (.seq (.seq (.region [oM 6 5, oM 7 0, oP 8 (.len false (.t 7)), oP 9 (.bin .lss (.t 6) (.t 8))]) (.cond (.t 9) .skip (.exit 0))) (.seq (.block 1 (.seq (.region [oM 12 0, oM 13 5, oP 14 (.iaddr 1 (.t 12) (.t 13)), oP 15 (.load false 1 (.t 14)), oM 16 1, oP 17 (.bin .eql (.t 15) (.t 16))]) (.cond (.t 17) (.seq (.region [oP 4 (.mv (.k (.bool true)))]) .ret) .skip))) (.region [oM 10 5, oP 11 (.bin .add (.t 10) (kI 1)), oM 5 11])))))) (.seq (.region [oP 4 (.mv (.k (.bool false)))]) .ret)))⟩
theorem c_spec_l1Has_ok : compFn Tryz.prog [] 147 = some c_spec_l1Has := by kernel_rfl
def c_spec_l4Key : AFn := ⟨36, [.t 4, .t 5], (.seq (.region [oP 4 (.mv (.k (.nils))), oP 5 (.mv (.k (.bool false)))]) (.seq (.region [oP 10 (.mksl false 3 0 [.int .i64 0, .int .i64 0, .str []] []), oM 6 10]) (.seq (.region [oP 7 (.mv (.k (.bool true)))]) (.seq (.seq (.region [oP 8 (.mv (kI 0))]) (.block 0 (.loop (.seq (.seq (.region [oM 11 8, oM 12 0, oP 13 (.len false (.t 12)), oP 14 (.bin .lss (.t 11) (.t 13))]) (.cond (.t 14) .skip (.exit 0))) (.seq (.block 1 (.seq (.region [oM 17 1, oM 18 0, oM 19 8, oP 20 (.iaddr 1 (.t 18) (.t 19)), oP 21 (.load false 1 (.t 20)), oP 22 (.iaddr 3 (.t 17) (.t 21)), oP 23 (.load true 3 (.t 22)), oP 9 (.alloc [.int .i64 0, .int .i64 0, .str []]), ⟨none, .op (.store 3 (.t 9) (.t 23)), none⟩]) (.seq (.region [oM 24 6, oP 25 (.load true 3 (.t 9)), oP 26 (.mksl true 3 1 [.int .i64 0, .int .i64 0, .str []] [(0, (.t 25))]), oP 27 (.app 3 32 (.t 24) (.t 26)), oM 6 27]) (.region [oM 28 7, oM 29 28, oT 30 (.faddr 0 (.t 9)) 29, oT 31 (.load false 1 (.t 30)) 29, oT 32 (.bin .neq (.t 31) (kI 0)) 29, oP 33 (.pick (.t 29) (.t 32) (.k (.bool false))), oM 7 33])))) (.region [oM 15 8, oP 16 (.bin .add (.t 15) (kI 1)), oM 8 16])))))) (.seq (.region [oM 34 6, oM 35 7, oM 4 34, oM 5 35]) .ret)))))⟩
theorem c_spec_l4Key_ok : compFn Tryz.prog [26] 148 = some c_spec_l4Key := by kernel_rfl
def c_cmp_Compare_string : AFn := ⟨20, [.t 4], (.seq (.region [oP 4 (.mv (kI 0))]) (.seq (.region [oM 7 0, oC 8 200 [(.t 7)], oM 5 8]) (.seq (.region [oM 9 1, oC 10 200 [(.t 9)], oM 6 10]) (.seq (.seq (.region [oM 11 5]) (.cond (.t 11) (.seq (.seq (.region [oM 12 6]) (.cond (.t 12) (.seq (.region [oP 4 (.mv (kI 0))]) .ret) .skip)) (.seq (.region [oP 4 (.mv (kI (-1)))]) .ret)) .skip)) (.seq (.seq (.region [oM 13 6]) (.cond (.t 13) (.seq (.region [oP 4 (.mv (kI 1))]) .ret) .skip)) (.seq (.seq (.region [oM 14 0, oM 15 1, oP 16 (.bin .lss (.t 14) (.t 15))]) (.cond (.t 16) (.seq (.region [oP 4 (.mv (kI (-1)))]) .ret) .skip)) (.seq (.seq (.region [oM 17 0, oM 18 1, oP 19 (.bin .gtr (.t 17) (.t 18))]) (.cond (.t 19) (.seq (.region [oP 4 (.mv (kI 1))]) .ret) .skip)) (.seq (.region [oP 4 (.mv (kI 0))]) .ret))))))))⟩
theorem c_cmp_Compare_string_ok : compFn Tryz.prog [] 149 = some c_cmp_Compare_string := by kernel_rfl
def c_spec_l1Rd_word : AFn := ⟨16, [.t 2], (.seq (.region [oP 2 (.mv (.k (.int .u64 0)))]) (.seq (.region [oP 3 (.mv (.k (.int .u64 0)))]) (.seq (.seq (.region [oP 4 (.mv (kI 0))]) (.block 0 (.loop (.seq (.seq (.region [oM 5 4, oP 6 (.bin .lss (.t 5) (kI 8))]) (.cond (.t 6) .skip (.exit 0))) (.seq (.block 1 (.region [oM 9 3, oP 10 (.bin .shl (.t 9) (.k (.int .u64 8))), oM 11 0, oC 12 103 [(.t 11)], oP 13 (.conv .u64 (.t 12)), oP 14 (.bin .or (.t 10) (.t 13)), oM 3 14])) (.region [oM 7 4, oP 8 (.bin .add (.t 7) (kI 1)), oM 4 8])))))) (.seq (.region [oM 15 3, oM 2 15]) .ret))))⟩
theorem c_spec_l1Rd_word_ok : compFn Tryz.prog [] 153 = some c_spec_l1Rd_word := by kernel_rfl
def c_slices_insertionSortCmpFunc_Entry : AFn := ⟨53, [], (.seq (.region [oM 10 1, oP 11 (.bin .add (.t 10) (kI 1)), oM 8 11]) (.block 0 (.loop (.seq (.seq (.region [oM 12 8, oM 13 2, oP 14 (.bin .lss (.t 12) (.t 13))]) (.cond (.t 14) .skip (.exit 0))) (.seq (.block 1 (.seq (.region [oM 17 8, oM 9 17]) (.block 2 (.loop (.seq (.seq (.draw [[oM 18 9, oM 19 1], [oP 20 (.bin .gtr (.t 18) (.t 19))], [oM 21 20], [oT 22 (.mv (.t 3)) 21, oT 23 (.mv (.t 0)) 21, oT 24 (.mv (.t 9)) 21, oT 25 (.iaddr 2 (.t 23) (.t 24)) 21, oT 26 (.load true 2 (.t 25)) 21, oT 27 (.mv (.t 0)) 21, oT 28 (.mv (.t 9)) 21, oT 29 (.bin .sub (.t 28) (kI 1)) 21, oT 30 (.iaddr 2 (.t 27) (.t 29)) 21, oT 31 (.load true 2 (.t 30)) 21], [⟨some 32, .call (.t 22) [(.t 26), (.t 31)], (some (21, true))⟩], [oT 33 (.bin .lss (.t 32) (kI 0)) 21], [oP 34 (.pick (.t 21) (.t 33) (.k (.bool false)))]]) (.cond (.t 34) .skip (.exit 2))) (.seq (.block 3 (.draw [[oM 37 0, oM 38 9, oM 39 0, oM 40 9, oP 41 (.bin .sub (.t 40) (kI 1)), oM 42 0, oM 43 9, oP 44 (.bin .sub (.t 43) (kI 1)), oP 45 (.iaddr 2 (.t 42) (.t 44)), oP 46 (.load true 2 (.t 45)), oM 47 0, oM 48 9, oP 49 (.iaddr 2 (.t 47) (.t 48)), oP 50 (.load true 2 (.t 49)), oP 51 (.iaddr 2 (.t 37) (.t 38)), ⟨none, .op (.store 2 (.t 51) (.t 46)), none⟩], [oP 52 (.iaddr 2 (.t 39) (.t 41))], [⟨none, .op (.store 2 (.t 52) (.t 50)), none⟩]])) (.region [oM 35 9, oP 36 (.bin .sub (.t 35) (kI 1)), oM 9 36]))))))) (.region [oM 15 8, oP 16 (.bin .add (.t 15) (kI 1)), oM 8 16]))))))⟩
theorem c_slices_insertionSortCmpFunc_Entry_ok : compFn Tryz.prog [] 154 = some c_slices_insertionSortCmpFunc_Entry := by kernel_rfl
def c_slices_symMergeCmpFunc_Entry : AFn := ⟨220, [], (.seq (.seq (.region [oM 25 2, oM 26 1, oP 27 (.bin .sub (.t 25) (.t 26)), oP 28 (.bin .eql (.t 27) (kI 1))]) (.cond (.t 28) (.seq (.region [oM 29 2, oM 10 29]) (.seq (.region [oM 30 3, oM 11 30]) (.seq (.block 0 (.loop (.seq (.seq (.region [oM 31 10, oM 32 11, oP 33 (.bin .lss (.t 31) (.t 32))]) (.cond (.t 33) .skip (.exit 0))) (.block 1 (.seq (.region [oM 34 10, oM 35 11, oP 36 (.bin .add (.t 34) (.t 35)), oP 37 (.conv .u64 (.t 36)), oP 38 (.bin .shr (.t 37) (.k (.int .u64 1))), oP 39 (.conv .i64 (.t 38)), oM 12 39]) (.seq (.draw [[oM 40 4, oM 41 0, oM 42 12, oP 43 (.iaddr 2 (.t 41) (.t 42)), oP 44 (.load true 2 (.t 43)), oM 45 0, oM 46 1, oP 47 (.iaddr 2 (.t 45) (.t 46)), oP 48 (.load true 2 (.t 47))], [⟨some 49, .call (.t 40) [(.t 44), (.t 48)], none⟩], [oP 50 (.bin .lss (.t 49) (kI 0))]]) (.cond (.t 50) (.region [oM 51 12, oP 52 (.bin .add (.t 51) (kI 1)), oM 10 52]) (.region [oM 53 12, oM 11 53])))))))) (.seq (.seq (.region [oM 54 1, oM 13 54]) (.block 2 (.loop (.seq (.seq (.region [oM 55 13, oM 56 10, oP 57 (.bin .sub (.t 56) (kI 1)), oP 58 (.bin .lss (.t 55) (.t 57))]) (.cond (.t 58) .skip (.exit 2))) (.seq (.block 3 (.draw [[oM 61 0, oM 62 13, oM 63 0, oM 64 13, oP 65 (.bin .add (.t 64) (kI 1)), oM 66 0, oM 67 13, oP 68 (.bin .add (.t 67) (kI 1)), oP 69 (.iaddr 2 (.t 66) (.t 68)), oP 70 (.load true 2 (.t 69)), oM 71 0, oM 72 13, oP 73 (.iaddr 2 (.t 71) (.t 72)), oP 74 (.load true 2 (.t 73)), oP 75 (.iaddr 2 (.t 61) (.t 62)), ⟨none, .op (.store 2 (.t 75) (.t 70)), none⟩], [oP 76 (.iaddr 2 (.t 63) (.t 65))], [⟨none, .op (.store 2 (.t 76) (.t 74)), none⟩]])) (.region [oM 59 13, oP 60 (.bin .add (.t 59) (kI 1)), oM 13 60])))))) .ret)))) .skip)) (.seq (.seq (.region [oM 77 3, oM 78 2, oP 79 (.bin .sub (.t 77) (.t 78)), oP 80 (.bin .eql (.t 79) (kI 1))]) (.cond (.t 80) (.seq (.region [oM 81 1, oM 14 81]) (.seq (.region [oM 82 2, oM 15 82]) (.seq (.block 4 (.loop (.seq (.seq (.region [oM 83 14, oM 84 15, oP 85 (.bin .lss (.t 83) (.t 84))]) (.cond (.t 85) .skip (.exit 4))) (.block 5 (.seq (.region [oM 86 14, oM 87 15, oP 88 (.bin .add (.t 86) (.t 87)), oP 89 (.conv .u64 (.t 88)), oP 90 (.bin .shr (.t 89) (.k (.int .u64 1))), oP 91 (.conv .i64 (.t 90)), oM 16 91]) (.seq (.draw [[oM 92 4, oM 93 0, oM 94 2, oP 95 (.iaddr 2 (.t 93) (.t 94)), oP 96 (.load true 2 (.t 95)), oM 97 0, oM 98 16, oP 99 (.iaddr 2 (.t 97) (.t 98)), oP 100 (.load true 2 (.t 99))], [⟨some 101, .call (.t 92) [(.t 96), (.t 100)], none⟩], [oP 102 (.bin .lss (.t 101) (kI 0))], [oP 103 (.un .not (.t 102))]]) (.cond (.t 103) (.region [oM 104 16, oP 105 (.bin .add (.t 104) (kI 1)), oM 14 105]) (.region [oM 106 16, oM 15 106])))))))) (.seq (.seq (.region [oM 107 2, oM 17 107]) (.block 6 (.loop (.seq (.seq (.region [oM 108 17, oM 109 14, oP 110 (.bin .gtr (.t 108) (.t 109))]) (.cond (.t 110) .skip (.exit 6))) (.seq (.block 7 (.draw [[oM 113 0, oM 114 17, oM 115 0, oM 116 17, oP 117 (.bin .sub (.t 116) (kI 1)), oM 118 0, oM 119 17, oP 120 (.bin .sub (.t 119) (kI 1)), oP 121 (.iaddr 2 (.t 118) (.t 120)), oP 122 (.load true 2 (.t 121)), oM 123 0, oM 124 17, oP 125 (.iaddr 2 (.t 123) (.t 124)), oP 126 (.load true 2 (.t 125)), oP 127 (.iaddr 2 (.t 113) (.t 114)), ⟨none, .op (.store 2 (.t 127) (.t 122)), none⟩], [oP 128 (.iaddr 2 (.t 115) (.t 117))], [⟨none, .op (.store 2 (.t 128) (.t 126)), none⟩]])) (.region [oM 111 17, oP 112 (.bin .sub (.t 111) (kI 1)), oM 17 112])))))) .ret)))) .skip)) (.seq (.region [oM 129 1, oM 130 3, oP 131 (.bin .add (.t 129) (.t 130)), oP 132 (.conv .u64 (.t 131)), oP 133 (.bin .shr (.t 132) (.k (.int .u64 1))), oP 134 (.conv .i64 (.t 133)), oM 18 134]) (.seq (.region [oM 135 18, oM 136 2, oP 137 (.bin .add (.t 135) (.t 136)), oM 19 137]) (.seq (.region [oP 20 (.mv (kI 0)), oP 21 (.mv (kI 0))]) (.seq (.seq (.region [oM 138 2, oM 139 18, oP 140 (.bin .gtr (.t 138) (.t 139))]) (.cond (.t 140) (.seq (.region [oM 141 19, oM 142 3, oP 143 (.bin .sub (.t 141) (.t 142)), oM 20 143]) (.region [oM 144 18, oM 21 144])) (.seq (.region [oM 145 1, oM 20 145]) (.region [oM 146 2, oM 21 146])))) (.seq (.region [oM 147 19, oP 148 (.bin .sub (.t 147) (kI 1)), oM 22 148]) (.seq (.block 8 (.loop (.seq (.seq (.region [oM 149 20, oM 150 21, oP 151 (.bin .lss (.t 149) (.t 150))]) (.cond (.t 151) .skip (.exit 8))) (.block 9 (.seq (.region [oM 152 20, oM 153 21, oP 154 (.bin .add (.t 152) (.t 153)), oP 155 (.conv .u64 (.t 154)), oP 156 (.bin .shr (.t 155) (.k (.int .u64 1))), oP 157 (.conv .i64 (.t 156)), oM 23 157]) (.seq (.draw [[oM 158 4, oM 159 0, oM 160 22, oM 161 23, oP 162 (.bin .sub (.t 160) (.t 161)), oP 163 (.iaddr 2 (.t 159) (.t 162)), oP 164 (.load true 2 (.t 163)), oM 165 0, oM 166 23, oP 167 (.iaddr 2 (.t 165) (.t 166)), oP 168 (.load true 2 (.t 167))], [⟨some 169, .call (.t 158) [(.t 164), (.t 168)], none⟩], [oP 170 (.bin .lss (.t 169) (kI 0))], [oP 171 (.un .not (.t 170))]]) (.cond (.t 171) (.region [oM 172 23, oP 173 (.bin .add (.t 172) (kI 1)), oM 20 173]) (.region [oM 174 23, oM 21 174])))))))) (.seq (.region [oM 175 19, oM 176 20, oP 177 (.bin .sub (.t 175) (.t 176)), oM 24 177]) (.seq (.seq (.region [oM 178 20, oM 179 2, oP 180 (.bin .lss (.t 178) (.t 179)), oM 181 180, oT 182 (.mv (.t 2)) 181, oT 183 (.mv (.t 24)) 181, oT 184 (.bin .lss (.t 182) (.t 183)) 181, oP 185 (.pick (.t 181) (.t 184) (.k (.bool false)))]) (.cond (.t 185) (.region [oM 186 0, oM 187 20, oM 188 2, oM 189 24, oM 190 4, oC 191 201 [(.t 186), (.t 187), (.t 188), (.t 189), (.t 190)]]) .skip)) (.seq (.seq (.region [oM 192 1, oM 193 20, oP 194 (.bin .lss (.t 192) (.t 193)), oM 195 194, oT 196 (.mv (.t 20)) 195, oT 197 (.mv (.t 18)) 195, oT 198 (.bin .lss (.t 196) (.t 197)) 195, oP 199 (.pick (.t 195) (.t 198) (.k (.bool false)))]) (.cond (.t 199) (.region [oM 200 0, oM 201 1, oM 202 20, oM 203 18, oM 204 4, oC 205 155 [(.t 200), (.t 201), (.t 202), (.t 203), (.t 204)]]) .skip)) (.seq (.region [oM 206 18, oM 207 24, oP 208 (.bin .lss (.t 206) (.t 207)), oM 209 208, oT 210 (.mv (.t 24)) 209, oT 211 (.mv (.t 3)) 209, oT 212 (.bin .lss (.t 210) (.t 211)) 209, oP 213 (.pick (.t 209) (.t 212) (.k (.bool false)))]) (.cond (.t 213) (.region [oM 214 0, oM 215 18, oM 216 24, oM 217 3, oM 218 4, oC 219 155 [(.t 214), (.t 215), (.t 216), (.t 217), (.t 218)]]) .skip)))))))))))))⟩
theorem c_slices_symMergeCmpFunc_Entry_ok : compFn Tryz.prog [] 155 = some c_slices_symMergeCmpFunc_Entry := by kernel_rfl
def c_cmp_isNaN_int64 : AFn := ⟨6, [.t 2], (.seq (.region [oP 2 (.mv (.k (.bool false)))]) (.seq (.region [oM 3 0, oM 4 0, oP 5 (.bin .neq (.t 3) (.t 4)), oM 2 5]) .ret))⟩
theorem c_cmp_isNaN_int64_ok : compFn Tryz.prog [] 156 = some c_cmp_isNaN_int64 := by kernel_rfl
def c_spec_ValOk : AFn := ⟨31, [.t 2], (.seq (.region [oP 1 (.box true (.t 0)), oP 2 (.mv (.k (.bool false)))]) (.seq (.seq (.region [oP 3 (.faddr 0 (.t 1)), oP 4 (.load false 1 (.t 3))]) (.block 0 (.seq (.region [oP 6 (.bin .eql (.t 4) (kI 0)), oM 5 6]) (.cond (.t 5) (.seq (.region [oP 7 (.load true 3 (.t 1)), oP 8 (.build [.int .i64 0, .int .i64 0, .str []] []), oP 9 (.eq false true [.i, .i, .s] (.t 7) (.t 8)), oM 2 9]) .ret) (.seq (.region [oP 11 (.bin .eql (.t 4) (kI 1)), oM 10 11]) (.cond (.t 10) (.seq (.region [oP 12 (.faddr 1 (.t 1)), oP 13 (.load false 1 (.t 12)), oC 14 111 [(.t 13), (kI (-1000000000)), (kI 1000000000)], oM 15 14, oT 16 (.faddr 2 (.t 1)) 15, oT 17 (.load false 1 (.t 16)) 15, oT 18 (.bin .eql (.t 17) (.k (.str []))) 15, oP 19 (.pick (.t 15) (.t 18) (.k (.bool false))), oM 2 19]) .ret) (.seq (.region [oP 21 (.bin .eql (.t 4) (kI 2)), oM 20 21]) (.cond (.t 20) (.seq (.region [oP 22 (.faddr 1 (.t 1)), oP 23 (.load false 1 (.t 22)), oP 24 (.bin .eql (.t 23) (kI 0)), oM 25 24, oT 26 (.faddr 2 (.t 1)) 25, oT 27 (.load false 1 (.t 26)) 25, oT 28 (.len true (.t 27)) 25, oT 29 (.bin .leq (.t 28) (kI 12)) 25, oP 30 (.pick (.t 25) (.t 29) (.k (.bool false))), oM 2 30]) .ret) .skip)))))))) (.seq (.region [oP 2 (.mv (.k (.bool false)))]) .ret)))⟩
theorem c_spec_ValOk_ok : compFn Tryz.prog [1] 157 = some c_spec_ValOk := by kernel_rfl
def c_spec_l1Order : AFn := ⟨36, [.t 4], (.seq (.region [oP 2 (.box true (.t 0)), oP 3 (.box true (.t 1)), oP 4 (.mv (kI 0))]) (.seq (.block 0 (.seq (.region [oP 6 (.faddr 0 (.t 2)), oP 7 (.load false 1 (.t 6)), oP 8 (.faddr 0 (.t 3)), oP 9 (.load false 1 (.t 8)), oP 10 (.bin .lss (.t 7) (.t 9)), oM 11 10, oF 12 (.faddr 0 (.t 2)) 11, oF 13 (.load false 1 (.t 12)) 11, oF 14 (.faddr 0 (.t 3)) 11, oF 15 (.load false 1 (.t 14)) 11, oF 16 (.bin .eql (.t 13) (.t 15)) 11, oF 17 (.mv (.t 16)) 11, oT 18 (.faddr 1 (.t 2)) 17, oT 19 (.load false 1 (.t 18)) 17, oT 20 (.faddr 1 (.t 3)) 17, oT 21 (.load false 1 (.t 20)) 17, oT 22 (.bin .lss (.t 19) (.t 21)) 17, oT 23 (.mv (.t 22)) 17, oF 24 (.faddr 2 (.t 2)) 23, oF 25 (.load false 1 (.t 24)) 23, oF 26 (.faddr 2 (.t 3)) 23, oF 27 (.load false 1 (.t 26)) 23, oF 28 (.bin .lss (.t 25) (.t 27)) 23, oT 29 (.pick (.t 23) (.k (.bool true)) (.t 28)) 17, oF 30 (.pick (.t 17) (.t 29) (.k (.bool false))) 11, oP 31 (.pick (.t 11) (.k (.bool true)) (.t 30)), oM 5 31]) (.cond (.t 5) (.seq (.region [oP 4 (.mv (kI (-1)))]) .ret) (.seq (.region [oP 33 (.load true 3 (.t 2)), oP 34 (.load true 3 (.t 3)), oP 35 (.eq false true [.i, .i, .s] (.t 33) (.t 34)), oM 32 35]) (.cond (.t 32) (.seq (.region [oP 4 (.mv (kI 0))]) .ret) .skip))))) (.seq (.region [oP 4 (.mv (kI 1))]) .ret)))⟩
theorem c_spec_l1Order_ok : compFn Tryz.prog [2, 3] 158 = some c_spec_l1Order := by kernel_rfl
def c_spec_SchemaOk : AFn := ⟨115, [.t 2], (.seq (.region [oP 2 (.mv (.k (.bool false)))]) (.seq (.seq (.region [oP 3 (.mv (kI 0))]) (.block 0 (.loop (.seq (.seq (.region [oM 9 3, oM 10 0, oP 11 (.len false (.t 10)), oP 12 (.bin .lss (.t 9) (.t 11))]) (.cond (.t 12) .skip (.exit 0))) (.seq (.block 1 (.seq (.draw [[oM 15 0, oM 16 3], [oP 17 (.iaddr 6 (.t 15) (.t 16))], [oP 18 (.load true 6 (.t 17))], [oC 19 205 [(.t 18)]], [oP 20 (.un .not (.t 19))], [oM 21 20], [oF 22 (.mv (.t 0)) 21, oF 23 (.mv (.t 3)) 21, oF 24 (.slice 6 (.t 22) none (some (.t 23)) none) 21, oF 25 (.mv (.t 0)) 21, oF 26 (.mv (.t 3)) 21, oF 27 (.iaddr 6 (.t 25) (.t 26)) 21, oF 28 (.faddr 0 (.t 27)) 21, oF 29 (.load false 1 (.t 28)) 21], [⟨some 30, .call (.f 206) [(.t 24), (.t 29)], (some (21, false))⟩], [oF 31 (.bin .geq (.t 30) (kI 0)) 21], [oP 32 (.pick (.t 21) (.k (.bool true)) (.t 31))]]) (.cond (.t 32) (.seq (.region [oP 2 (.mv (.k (.bool false)))]) .ret) .skip))) (.region [oM 13 3, oP 14 (.bin .add (.t 13) (kI 1)), oM 3 14])))))) (.seq (.seq (.region [oP 4 (.mv (kI 0))]) (.block 2 (.loop (.seq (.seq (.region [oM 33 4, oM 34 0, oP 35 (.len false (.t 34)), oP 36 (.bin .lss (.t 33) (.t 35))]) (.cond (.t 36) .skip (.exit 2))) (.seq (.block 3 (.seq (.region [oP 5 (.mv (kI 0))]) (.block 4 (.loop (.seq (.seq (.region [oM 39 5, oM 40 0, oM 41 4, oP 42 (.iaddr 6 (.t 40) (.t 41)), oP 43 (.faddr 5 (.t 42)), oP 44 (.load false 1 (.t 43)), oP 45 (.len false (.t 44)), oP 46 (.bin .lss (.t 39) (.t 45))]) (.cond (.t 46) .skip (.exit 4))) (.seq (.block 5 (.seq (.region [oM 49 0, oM 50 4, oP 51 (.iaddr 6 (.t 49) (.t 50)), oP 52 (.faddr 5 (.t 51)), oP 53 (.load false 1 (.t 52)), oM 54 5, oP 55 (.iaddr 5 (.t 53) (.t 54)), oP 56 (.load true 5 (.t 55)), oP 6 (.alloc [.nils, .str [], .int .i64 0, .int .i64 0, .bool false]), ⟨none, .op (.store 5 (.t 6) (.t 56)), none⟩]) (.seq (.region [oM 57 0, oP 58 (.faddr 1 (.t 6)), oP 59 (.load false 1 (.t 58)), oC 60 206 [(.t 57), (.t 59)], oM 7 60]) (.seq (.seq (.draw [[oM 61 7], [oP 62 (.bin .lss (.t 61) (kI 0))], [oM 63 62], [oF 64 (.mv (.t 0)) 63, oF 65 (.mv (.t 7)) 63, oF 66 (.iaddr 6 (.t 64) (.t 65)) 63, oF 67 (.faddr 2 (.t 66)) 63, oF 68 (.load false 1 (.t 67)) 63, oF 69 (.len false (.t 68)) 63, oF 70 (.faddr 0 (.t 6)) 63, oF 71 (.load false 1 (.t 70)) 63, oF 72 (.len false (.t 71)) 63], [oF 73 (.bin .neq (.t 69) (.t 72)) 63], [oP 74 (.pick (.t 63) (.k (.bool true)) (.t 73))]]) (.cond (.t 74) (.seq (.region [oP 2 (.mv (.k (.bool false)))]) .ret) .skip)) (.seq (.region [oP 8 (.mv (kI 0))]) (.block 6 (.loop (.seq (.seq (.region [oM 75 8, oP 76 (.faddr 0 (.t 6)), oP 77 (.load false 1 (.t 76)), oP 78 (.len false (.t 77)), oP 79 (.bin .lss (.t 75) (.t 78))]) (.cond (.t 79) .skip (.exit 6))) (.seq (.block 7 (.seq (.draw [[oM 82 0, oM 83 4, oP 84 (.iaddr 6 (.t 82) (.t 83)), oP 85 (.faddr 1 (.t 84)), oP 86 (.load false 1 (.t 85)), oP 87 (.faddr 0 (.t 6)), oP 88 (.load false 1 (.t 87)), oM 89 8, oP 90 (.iaddr 1 (.t 88) (.t 89)), oP 91 (.load false 1 (.t 90)), oP 92 (.iaddr 6 (.t 86) (.t 91)), oP 93 (.faddr 1 (.t 92)), oP 94 (.load false 1 (.t 93)), oM 95 0, oM 96 7, oP 97 (.iaddr 6 (.t 95) (.t 96)), oP 98 (.faddr 1 (.t 97)), oP 99 (.load false 1 (.t 98)), oM 100 0, oM 101 7, oP 102 (.iaddr 6 (.t 100) (.t 101)), oP 103 (.faddr 2 (.t 102)), oP 104 (.load false 1 (.t 103)), oM 105 8, oP 106 (.iaddr 1 (.t 104) (.t 105)), oP 107 (.load false 1 (.t 106)), oP 108 (.iaddr 6 (.t 99) (.t 107)), oP 109 (.faddr 1 (.t 108)), oP 110 (.load false 1 (.t 109))], [oP 111 (.bin .neq (.t 94) (.t 110))]]) (.cond (.t 111) (.seq (.region [oP 2 (.mv (.k (.bool false)))]) .ret) .skip))) (.region [oM 80 8, oP 81 (.bin .add (.t 80) (kI 1)), oM 8 81])))))))))) (.region [oM 47 5, oP 48 (.bin .add (.t 47) (kI 1)), oM 5 48]))))))) (.region [oM 37 4, oP 38 (.bin .add (.t 37) (kI 1)), oM 4 38])))))) (.seq (.region [oM 112 0, oP 113 (.len false (.t 112)), oP 114 (.bin .leq (.t 113) (kI 5)), oM 2 114]) .ret))))⟩
theorem c_spec_SchemaOk_ok : compFn Tryz.prog [] 177 = some c_spec_SchemaOk := by kernel_rfl
def c_spec_l4Kinds : AFn := ⟨46, [.t 4], (.seq (.region [oP 2 (.box true (.t 0)), oP 4 (.mv (.k (.bool false)))]) (.seq (.seq (.region [oM 6 1, oP 7 (.len false (.t 6)), oP 8 (.faddr 1 (.t 2)), oP 9 (.load false 1 (.t 8)), oP 10 (.len false (.t 9)), oP 11 (.bin .neq (.t 7) (.t 10))]) (.cond (.t 11) (.seq (.region [oP 4 (.mv (.k (.bool false)))]) .ret) .skip)) (.seq (.seq (.region [oP 5 (.mv (kI 0))]) (.block 0 (.loop (.seq (.seq (.region [oM 12 5, oM 13 1, oP 14 (.len false (.t 13)), oP 15 (.bin .lss (.t 12) (.t 14))]) (.cond (.t 15) .skip (.exit 0))) (.seq (.block 1 (.seq (.draw [[oM 18 1, oM 19 5], [oP 20 (.iaddr 3 (.t 18) (.t 19))], [oP 21 (.load true 3 (.t 20))], [oC 22 157 [(.t 21)]], [oP 23 (.un .not (.t 22))], [oM 24 23], [oF 25 (.mv (.t 1)) 24, oF 26 (.mv (.t 5)) 24], [oF 27 (.iaddr 3 (.t 25) (.t 26)) 24], [oF 28 (.faddr 0 (.t 27)) 24], [oF 29 (.load false 1 (.t 28)) 24], [oF 30 (.bin .neq (.t 29) (kI 0)) 24], [oF 31 (.mv (.t 30)) 24], [oT 32 (.mv (.t 1)) 31, oT 33 (.mv (.t 5)) 31, oT 34 (.iaddr 3 (.t 32) (.t 33)) 31, oT 35 (.faddr 0 (.t 34)) 31, oT 36 (.load false 1 (.t 35)) 31, oT 37 (.faddr 1 (.t 2)) 31, oT 38 (.load false 1 (.t 37)) 31, oT 39 (.mv (.t 5)) 31, oT 40 (.iaddr 6 (.t 38) (.t 39)) 31, oT 41 (.faddr 1 (.t 40)) 31, oT 42 (.load false 1 (.t 41)) 31], [oT 43 (.bin .neq (.t 36) (.t 42)) 31], [oF 44 (.pick (.t 31) (.t 43) (.k (.bool false))) 24], [oP 45 (.pick (.t 24) (.k (.bool true)) (.t 44))]]) (.cond (.t 45) (.seq (.region [oP 4 (.mv (.k (.bool false)))]) .ret) .skip))) (.region [oM 16 5, oP 17 (.bin .add (.t 16) (kI 1)), oM 5 17])))))) (.seq (.region [oP 4 (.mv (.k (.bool true)))]) .ret))))⟩
theorem c_spec_l4Kinds_ok : compFn Tryz.prog [2] 178 = some c_spec_l4Kinds := by kernel_rfl
def c_spec_l6Insert : AFn := ⟨81, [.t 10, .t 11, .t 12], (.seq (.region [oP 10 (.mv (.k (.nils))), oP 11 (.mv (kI 0)), oP 12 (.mv (kI 0))]) (.seq (.region [oM 16 0, oM 17 2, oP 18 (.iaddr 6 (.t 16) (.t 17)), oP 19 (.load true 6 (.t 18)), oP 13 (.alloc [.str [], .nils, .nils, .nils, .nils, .nils]), ⟨none, .op (.store 6 (.t 13) (.t 19)), none⟩]) (.seq (.seq (.region [oM 20 4]) (.cond (.t 20) (.region [oP 21 (.load true 6 (.t 13)), oM 22 3, oC 23 207 [(.t 21), (.t 22)], oM 3 23]) .skip)) (.seq (.region [oP 24 (.load true 6 (.t 13)), oM 25 3, oC 26 208 [(.t 24), (.t 25)], oM 14 26]) (.seq (.seq (.region [oM 27 14, oP 28 (.bin .neq (.t 27) (kI 0))]) (.cond (.t 28) (.seq (.region [oM 29 14, oP 10 (.mv (.k (.nils))), oP 11 (.mv (kI 0)), oM 12 29]) .ret) .skip)) (.seq (.region [oM 30 1, oM 31 2, oP 32 (.iaddr 1 (.t 30) (.t 31)), oP 33 (.load true 1 (.t 32)), oC 34 209 [(.t 33)], oM 35 3, oC 36 60 [(.t 35)], oP 37 (.build [.int .i64 0, .nils] [(0, 1, (.t 34)), (1, 1, (.t 36))]), oP 15 (.alloc [.int .i64 0, .nils]), ⟨none, .op (.store 2 (.t 15) (.t 37)), none⟩]) (.seq (.region [oM 39 0, oM 40 1, oM 41 2, oP 42 (.load true 2 (.t 15)), oM 43 4, oC 44 210 [(.t 39), (.t 40), (.t 41), (.t 42), (.t 43), (kI 0)], oM 38 44, oP 45 (.ext (.t 38) 0), oP 46 (.ext (.t 38) 1), oM 1 45, oM 14 46]) (.seq (.seq (.region [oM 47 14, oP 48 (.bin .neq (.t 47) (kI 0))]) (.cond (.t 48) (.seq (.region [oM 49 14, oP 10 (.mv (.k (.nils))), oP 11 (.mv (kI 0)), oM 12 49]) .ret) .skip)) (.seq (.seq (.region [oM 50 1, oM 51 2, oP 52 (.iaddr 1 (.t 50) (.t 51)), oP 53 (.faddr 0 (.t 52)), oP 54 (.load false 1 (.t 53)), oP 55 (.len false (.t 54)), oP 56 (.bin .eql (.t 55) (kI 60)), oM 57 56, oF 58 (.faddr 0 (.t 15)) 57, oF 59 (.load false 1 (.t 58)) 57, oF 60 (.bin .gtr (.t 59) (kI 1000000000)) 57, oP 61 (.pick (.t 57) (.k (.bool true)) (.t 60))]) (.cond (.t 61) (.seq (.region [oP 10 (.mv (.k (.nils))), oP 11 (.mv (kI 0)), oP 12 (.mv (kI 7))]) .ret) .skip)) (.seq (.draw [[oM 62 1, oM 63 2, oM 64 1, oM 65 2, oP 66 (.iaddr 1 (.t 64) (.t 65)), oP 67 (.load true 1 (.t 66)), oP 68 (.load true 2 (.t 15)), oC 69 212 [(.t 67), (.t 68)]], [oC 70 211 [(.t 62), (.t 63), (.t 69)]], [oM 1 70]]) (.seq (.seq (.region [oM 71 0, oM 72 1, oM 73 2, oP 74 (.faddr 1 (.t 15)), oP 75 (.load false 1 (.t 74)), oC 76 213 [(.t 71), (.t 72), (.t 73), (.t 75), (.k (.bool true))], oP 77 (.un .not (.t 76))]) (.cond (.t 77) (.seq (.region [oP 10 (.mv (.k (.nils))), oP 11 (.mv (kI 0)), oP 12 (.mv (kI 5))]) .ret) .skip)) (.seq (.draw [[oM 78 1, oP 79 (.faddr 0 (.t 15)), oP 80 (.load false 1 (.t 79)), oM 10 78], [oM 11 80], [oP 12 (.mv (kI 0))]]) .ret))))))))))))⟩
theorem c_spec_l6Insert_ok : compFn Tryz.prog [] 179 = some c_spec_l6Insert := by kernel_rfl
def c_spec_l4Copy : AFn := ⟨56, [.t 2], (.seq (.region [oP 2 (.mv (.k (.nils)))]) (.seq (.region [oM 7 0, oP 8 (.len false (.t 7)), oP 9 (.mkslice 1 24 [.nils] (.t 8) (.t 8)), oM 3 9]) (.seq (.seq (.region [oP 4 (.mv (kI 0))]) (.block 0 (.loop (.seq (.seq (.region [oM 10 4, oM 11 0, oP 12 (.len false (.t 11)), oP 13 (.bin .lss (.t 10) (.t 12))]) (.cond (.t 13) .skip (.exit 0))) (.seq (.block 1 (.seq (.region [oP 16 (.mksl false 2 0 [.int .i64 0, .nils] []), oM 5 16]) (.seq (.seq (.region [oP 6 (.mv (kI 0))]) (.block 2 (.loop (.seq (.seq (.region [oM 17 6, oM 18 0, oM 19 4, oP 20 (.iaddr 1 (.t 18) (.t 19)), oP 21 (.faddr 0 (.t 20)), oP 22 (.load false 1 (.t 21)), oP 23 (.len false (.t 22)), oP 24 (.bin .lss (.t 17) (.t 23))]) (.cond (.t 24) .skip (.exit 2))) (.seq (.block 3 (.draw [[oM 27 5, oM 28 0, oM 29 4, oP 30 (.iaddr 1 (.t 28) (.t 29)), oP 31 (.faddr 0 (.t 30)), oP 32 (.load false 1 (.t 31)), oM 33 6, oP 34 (.iaddr 2 (.t 32) (.t 33)), oP 35 (.faddr 0 (.t 34)), oP 36 (.load false 1 (.t 35)), oM 37 0, oM 38 4, oP 39 (.iaddr 1 (.t 37) (.t 38)), oP 40 (.faddr 0 (.t 39)), oP 41 (.load false 1 (.t 40)), oM 42 6, oP 43 (.iaddr 2 (.t 41) (.t 42)), oP 44 (.faddr 1 (.t 43)), oP 45 (.load false 1 (.t 44)), oC 46 60 [(.t 45)], oP 47 (.build [.int .i64 0, .nils] [(0, 1, (.t 36)), (1, 1, (.t 46))]), oP 48 (.mksl true 2 1 [.int .i64 0, .nils] [(0, (.t 47))])], [oP 49 (.app 2 32 (.t 27) (.t 48))], [oM 5 49]])) (.region [oM 25 6, oP 26 (.bin .add (.t 25) (kI 1)), oM 6 26])))))) (.region [oM 50 3, oM 51 4, oM 52 5, oP 53 (.build [.nils] [(0, 1, (.t 52))]), oP 54 (.iaddr 1 (.t 50) (.t 51)), ⟨none, .op (.store 1 (.t 54) (.t 53)), none⟩])))) (.region [oM 14 4, oP 15 (.bin .add (.t 14) (kI 1)), oM 4 15])))))) (.seq (.region [oM 55 3, oM 2 55]) .ret))))⟩
theorem c_spec_l4Copy_ok : compFn Tryz.prog [48] 180 = some c_spec_l4Copy := by kernel_rfl
def c_spec_l4Db : AFn := ⟨71, [.t 4], (.seq (.region [oP 4 (.mv (.k (.bool false)))]) (.seq (.seq (.region [oM 8 1, oP 9 (.len false (.t 8)), oM 10 0, oP 11 (.len false (.t 10)), oP 12 (.bin .neq (.t 9) (.t 11))]) (.cond (.t 12) (.seq (.region [oP 4 (.mv (.k (.bool false)))]) .ret) .skip)) (.seq (.seq (.region [oP 5 (.mv (kI 0))]) (.block 0 (.loop (.seq (.seq (.region [oM 13 5, oM 14 1, oP 15 (.len false (.t 14)), oP 16 (.bin .lss (.t 13) (.t 15))]) (.cond (.t 16) .skip (.exit 0))) (.seq (.block 1 (.seq (.region [oM 19 1, oM 20 5, oP 21 (.iaddr 1 (.t 19) (.t 20)), oP 22 (.faddr 0 (.t 21)), oP 23 (.load false 1 (.t 22)), oM 6 23]) (.seq (.seq (.region [oP 7 (.mv (kI 0))]) (.block 2 (.loop (.seq (.seq (.region [oM 24 7, oM 25 6, oP 26 (.len false (.t 25)), oP 27 (.bin .lss (.t 24) (.t 26))]) (.cond (.t 27) .skip (.exit 2))) (.seq (.block 3 (.seq (.draw [[oM 30 6, oM 31 7], [oP 32 (.iaddr 2 (.t 30) (.t 31))], [oP 33 (.faddr 0 (.t 32))], [oP 34 (.load false 1 (.t 33))], [oC 35 111 [(.t 34), (kI 1), (kI 1000000000)]], [oP 36 (.un .not (.t 35))], [oM 37 36], [oF 38 (.mv (.t 7)) 37], [oF 39 (.bin .gtr (.t 38) (kI 0)) 37], [oF 40 (.mv (.t 39)) 37], [oT 41 (.mv (.t 6)) 40, oT 42 (.mv (.t 7)) 40, oT 43 (.bin .sub (.t 42) (kI 1)) 40, oT 44 (.iaddr 2 (.t 41) (.t 43)) 40, oT 45 (.faddr 0 (.t 44)) 40, oT 46 (.load false 1 (.t 45)) 40, oT 47 (.mv (.t 6)) 40, oT 48 (.mv (.t 7)) 40, oT 49 (.iaddr 2 (.t 47) (.t 48)) 40, oT 50 (.faddr 0 (.t 49)) 40, oT 51 (.load false 1 (.t 50)) 40], [oT 52 (.bin .geq (.t 46) (.t 51)) 40], [oF 53 (.pick (.t 40) (.t 52) (.k (.bool false))) 37], [oP 54 (.pick (.t 37) (.k (.bool true)) (.t 53))], [oM 55 54], [oF 56 (.mv (.t 0)) 55, oF 57 (.mv (.t 5)) 55, oF 58 (.iaddr 6 (.t 56) (.t 57)) 55, oF 59 (.load true 6 (.t 58)) 55, oF 60 (.mv (.t 6)) 55, oF 61 (.mv (.t 7)) 55, oF 62 (.iaddr 2 (.t 60) (.t 61)) 55, oF 63 (.faddr 1 (.t 62)) 55, oF 64 (.load false 1 (.t 63)) 55], [⟨some 65, .call (.f 178) [(.t 59), (.t 64)], (some (55, false))⟩], [oF 66 (.un .not (.t 65)) 55], [oP 67 (.pick (.t 55) (.k (.bool true)) (.t 66))]]) (.cond (.t 67) (.seq (.region [oP 4 (.mv (.k (.bool false)))]) .ret) .skip))) (.region [oM 28 7, oP 29 (.bin .add (.t 28) (kI 1)), oM 7 29])))))) (.seq (.region [oM 68 6, oP 69 (.len false (.t 68)), oP 70 (.bin .gtr (.t 69) (kI 60))]) (.cond (.t 70) (.seq (.region [oP 4 (.mv (.k (.bool false)))]) .ret) .skip))))) (.region [oM 17 5, oP 18 (.bin .add (.t 17) (kI 1)), oM 5 18])))))) (.seq (.region [oP 4 (.mv (.k (.bool true)))]) .ret))))⟩
theorem c_spec_l4Db_ok : compFn Tryz.prog [] 199 = some c_spec_l4Db := by kernel_rfl
def c_cmp_isNaN_string : AFn := ⟨6, [.t 2], (.seq (.region [oP 2 (.mv (.k (.bool false)))]) (.seq (.region [oM 3 0, oM 4 0, oP 5 (.bin .neq (.t 3) (.t 4)), oM 2 5]) .ret))⟩
theorem c_cmp_isNaN_string_ok : compFn Tryz.prog [] 200 = some c_cmp_isNaN_string := by kernel_rfl
def c_slices_rotateCmpFunc_Entry : AFn := ⟨58, [], (.seq (.region [oM 12 2, oM 13 1, oP 14 (.bin .sub (.t 12) (.t 13)), oM 10 14]) (.seq (.region [oM 15 3, oM 16 2, oP 17 (.bin .sub (.t 15) (.t 16)), oM 11 17]) (.seq (.block 0 (.loop (.seq (.seq (.region [oM 18 10, oM 19 11, oP 20 (.bin .neq (.t 18) (.t 19))]) (.cond (.t 20) .skip (.exit 0))) (.block 1 (.seq (.region [oM 21 10, oM 22 11, oP 23 (.bin .gtr (.t 21) (.t 22))]) (.cond (.t 23) (.seq (.region [oM 24 0, oM 25 2, oM 26 10, oP 27 (.bin .sub (.t 25) (.t 26)), oM 28 2, oM 29 11, oM 30 4, oC 31 234 [(.t 24), (.t 27), (.t 28), (.t 29), (.t 30)]]) (.region [oM 32 10, oM 33 11, oP 34 (.bin .sub (.t 32) (.t 33)), oM 10 34])) (.seq (.region [oM 35 0, oM 36 2, oM 37 10, oP 38 (.bin .sub (.t 36) (.t 37)), oM 39 2, oM 40 11, oP 41 (.bin .add (.t 39) (.t 40)), oM 42 10, oP 43 (.bin .sub (.t 41) (.t 42)), oM 44 10, oM 45 4, oC 46 234 [(.t 35), (.t 38), (.t 43), (.t 44), (.t 45)]]) (.region [oM 47 11, oM 48 10, oP 49 (.bin .sub (.t 47) (.t 48)), oM 11 49])))))))) (.region [oM 50 0, oM 51 2, oM 52 10, oP 53 (.bin .sub (.t 51) (.t 52)), oM 54 2, oM 55 10, oM 56 4, oC 57 234 [(.t 50), (.t 53), (.t 54), (.t 55), (.t 56)]]))))⟩
theorem c_slices_rotateCmpFunc_Entry_ok : compFn Tryz.prog [] 201 = some c_slices_rotateCmpFunc_Entry := by kernel_rfl
def c_spec_TableOk : AFn := ⟨184, [.t 2], (.seq (.region [oP 1 (.box true (.t 0)), oP 2 (.mv (.k (.bool false)))]) (.seq (.region [oP 11 (.faddr 1 (.t 1)), oP 12 (.load false 1 (.t 11)), oP 13 (.len false (.t 12)), oM 3 13]) (.seq (.seq (.region [oP 14 (.faddr 0 (.t 1)), oP 15 (.load false 1 (.t 14)), oC 16 238 [(.t 15)], oP 17 (.un .not (.t 16)), oM 18 17, oF 19 (.mv (.t 3)) 18, ⟨some 20, .call (.f 111) [(.t 19), (kI 1), (kI 8)], (some (18, false))⟩, oF 21 (.un .not (.t 20)) 18, oP 22 (.pick (.t 18) (.k (.bool true)) (.t 21)), oM 23 22, oF 24 (.faddr 2 (.t 1)) 23, oF 25 (.load false 1 (.t 24)) 23, oF 26 (.mv (.t 3)) 23, ⟨some 27, .call (.f 84) [(.t 25), (.t 26)], (some (23, false))⟩, oF 28 (.un .not (.t 27)) 23, oP 29 (.pick (.t 23) (.k (.bool true)) (.t 28)), oM 30 29, oF 31 (.faddr 3 (.t 1)) 30, oF 32 (.load false 1 (.t 31)) 30, oF 33 (.len false (.t 32)) 30, oF 34 (.bin .gtr (.t 33) (kI 3)) 30, oP 35 (.pick (.t 30) (.k (.bool true)) (.t 34)), oM 36 35, oF 37 (.faddr 4 (.t 1)) 36, oF 38 (.load false 1 (.t 37)) 36, oF 39 (.len false (.t 38)) 36, oF 40 (.bin .gtr (.t 39) (kI 3)) 36, oP 41 (.pick (.t 36) (.k (.bool true)) (.t 40)), oM 42 41, oF 43 (.faddr 5 (.t 1)) 42, oF 44 (.load false 1 (.t 43)) 42, oF 45 (.len false (.t 44)) 42, oF 46 (.bin .gtr (.t 45) (kI 3)) 42, oP 47 (.pick (.t 42) (.k (.bool true)) (.t 46))]) (.cond (.t 47) (.seq (.region [oP 2 (.mv (.k (.bool false)))]) .ret) .skip)) (.seq (.seq (.region [oP 4 (.mv (kI 0))]) (.block 0 (.loop (.seq (.seq (.region [oM 48 4, oM 49 3, oP 50 (.bin .lss (.t 48) (.t 49))]) (.cond (.t 50) .skip (.exit 0))) (.seq (.block 1 (.seq (.region [oP 53 (.faddr 1 (.t 1)), oP 54 (.load false 1 (.t 53)), oM 55 4, oP 56 (.iaddr 6 (.t 54) (.t 55)), oP 57 (.load true 6 (.t 56)), oP 5 (.alloc [.str [], .int .i64 0, .bool false, .int .i64 0, .int .i64 0, .str []]), ⟨none, .op (.store 6 (.t 5) (.t 57)), none⟩]) (.seq (.draw [[oP 58 (.faddr 0 (.t 5))], [oP 59 (.load false 1 (.t 58))], [oC 60 238 [(.t 59)]], [oP 61 (.un .not (.t 60))], [oM 62 61], [oF 63 (.faddr 1 (.t 1)) 62, oF 64 (.load false 1 (.t 63)) 62, oF 65 (.mv (.t 4)) 62, oF 66 (.slice 6 (.t 64) none (some (.t 65)) none) 62, oF 67 (.build [.str [], .nils, .nils, .nils, .nils, .nils] [(1, 1, (.t 66))]) 62, oF 68 (.faddr 0 (.t 5)) 62, oF 69 (.load false 1 (.t 68)) 62], [⟨some 70, .call (.f 239) [(.t 67), (.t 69)], (some (62, false))⟩], [oF 71 (.bin .geq (.t 70) (kI 0)) 62], [oP 72 (.pick (.t 62) (.k (.bool true)) (.t 71))], [oM 73 72], [oF 74 (.faddr 1 (.t 5)) 73], [oF 75 (.load false 1 (.t 74)) 73], [⟨some 76, .call (.f 111) [(.t 75), (kI 1), (kI 2)], (some (73, false))⟩], [oF 77 (.un .not (.t 76)) 73], [oP 78 (.pick (.t 73) (.k (.bool true)) (.t 77))], [oM 79 78], [oF 80 (.faddr 3 (.t 5)) 79], [oF 81 (.load true 3 (.t 80)) 79], [⟨some 82, .call (.f 157) [(.t 81)], (some (79, false))⟩], [oF 83 (.un .not (.t 82)) 79], [oP 84 (.pick (.t 79) (.k (.bool true)) (.t 83))], [oM 85 84], [oF 86 (.faddr 3 (.t 5)) 85], [oF 87 (.faddr 0 (.t 86)) 85], [oF 88 (.load false 1 (.t 87)) 85], [oF 89 (.bin .neq (.t 88) (kI 0)) 85], [oF 90 (.mv (.t 89)) 85], [oT 91 (.faddr 3 (.t 5)) 90, oT 92 (.faddr 0 (.t 91)) 90, oT 93 (.load false 1 (.t 92)) 90, oT 94 (.faddr 1 (.t 5)) 90, oT 95 (.load false 1 (.t 94)) 90], [oT 96 (.bin .neq (.t 93) (.t 95)) 90], [oF 97 (.pick (.t 90) (.t 96) (.k (.bool false))) 85], [oP 98 (.pick (.t 85) (.k (.bool true)) (.t 97))]]) (.cond (.t 98) (.seq (.region [oP 2 (.mv (.k (.bool false)))]) .ret) .skip)))) (.region [oM 51 4, oP 52 (.bin .add (.t 51) (kI 1)), oM 4 52])))))) (.seq (.seq (.region [oP 6 (.mv (kI 0))]) (.block 2 (.loop (.seq (.seq (.region [oM 99 6, oP 100 (.faddr 2 (.t 1)), oP 101 (.load false 1 (.t 100)), oP 102 (.len false (.t 101)), oP 103 (.bin .lss (.t 99) (.t 102))]) (.cond (.t 103) .skip (.exit 2))) (.seq (.block 3 (.seq (.draw [[oP 106 (.faddr 1 (.t 1)), oP 107 (.load false 1 (.t 106)), oP 108 (.faddr 2 (.t 1)), oP 109 (.load false 1 (.t 108)), oM 110 6, oP 111 (.iaddr 1 (.t 109) (.t 110)), oP 112 (.load false 1 (.t 111))], [oP 113 (.iaddr 6 (.t 107) (.t 112))], [oP 114 (.faddr 2 (.t 113))], [oP 115 (.load false 1 (.t 114))], [oP 116 (.un .not (.t 115))]]) (.cond (.t 116) (.seq (.region [oP 2 (.mv (.k (.bool false)))]) .ret) .skip))) (.region [oM 104 6, oP 105 (.bin .add (.t 104) (kI 1)), oM 6 105])))))) (.seq (.seq (.region [oP 7 (.mv (kI 0))]) (.block 4 (.loop (.seq (.seq (.region [oM 117 7, oP 118 (.faddr 3 (.t 1)), oP 119 (.load false 1 (.t 118)), oP 120 (.len false (.t 119)), oP 121 (.bin .lss (.t 117) (.t 120))]) (.cond (.t 121) .skip (.exit 4))) (.seq (.block 5 (.seq (.region [oP 124 (.faddr 3 (.t 1)), oP 125 (.load false 1 (.t 124)), oM 126 7, oP 127 (.iaddr 1 (.t 125) (.t 126)), oP 128 (.faddr 0 (.t 127)), oP 129 (.load false 1 (.t 128)), oM 130 3, oC 131 84 [(.t 129), (.t 130)], oP 132 (.un .not (.t 131))]) (.cond (.t 132) (.seq (.region [oP 2 (.mv (.k (.bool false)))]) .ret) .skip))) (.region [oM 122 7, oP 123 (.bin .add (.t 122) (kI 1)), oM 7 123])))))) (.seq (.seq (.region [oP 8 (.mv (kI 0))]) (.block 6 (.loop (.seq (.seq (.region [oM 133 8, oP 134 (.faddr 4 (.t 1)), oP 135 (.load false 1 (.t 134)), oP 136 (.len false (.t 135)), oP 137 (.bin .lss (.t 133) (.t 136))]) (.cond (.t 137) .skip (.exit 6))) (.seq (.block 7 (.seq (.region [oP 140 (.faddr 4 (.t 1)), oP 141 (.load false 1 (.t 140)), oM 142 8, oP 143 (.iaddr 1 (.t 141) (.t 142)), oP 144 (.faddr 0 (.t 143)), oP 145 (.load false 1 (.t 144)), oM 146 3, oC 147 240 [(.t 145), (.t 146)], oP 148 (.un .not (.t 147))]) (.cond (.t 148) (.seq (.region [oP 2 (.mv (.k (.bool false)))]) .ret) .skip))) (.region [oM 138 8, oP 139 (.bin .add (.t 138) (kI 1)), oM 8 139])))))) (.seq (.seq (.region [oP 9 (.mv (kI 0))]) (.block 8 (.loop (.seq (.seq (.region [oM 149 9, oP 150 (.faddr 5 (.t 1)), oP 151 (.load false 1 (.t 150)), oP 152 (.len false (.t 151)), oP 153 (.bin .lss (.t 149) (.t 152))]) (.cond (.t 153) .skip (.exit 8))) (.seq (.block 9 (.seq (.region [oP 156 (.faddr 5 (.t 1)), oP 157 (.load false 1 (.t 156)), oM 158 9, oP 159 (.iaddr 5 (.t 157) (.t 158)), oP 160 (.load true 5 (.t 159)), oP 10 (.alloc [.nils, .str [], .int .i64 0, .int .i64 0, .bool false]), ⟨none, .op (.store 5 (.t 10) (.t 160)), none⟩]) (.seq (.region [oP 161 (.faddr 0 (.t 10)), oP 162 (.load false 1 (.t 161)), oM 163 3, oC 164 84 [(.t 162), (.t 163)], oP 165 (.un .not (.t 164)), oM 166 165, oF 167 (.faddr 1 (.t 10)) 166, oF 168 (.load false 1 (.t 167)) 166, ⟨some 169, .call (.f 238) [(.t 168)], (some (166, false))⟩, oF 170 (.un .not (.t 169)) 166, oP 171 (.pick (.t 166) (.k (.bool true)) (.t 170)), oM 172 171, oF 173 (.faddr 2 (.t 10)) 172, oF 174 (.load false 1 (.t 173)) 172, ⟨some 175, .call (.f 111) [(.t 174), (kI 0), (kI 2)], (some (172, false))⟩, oF 176 (.un .not (.t 175)) 172, oP 177 (.pick (.t 172) (.k (.bool true)) (.t 176)), oM 178 177, oF 179 (.faddr 3 (.t 10)) 178, oF 180 (.load false 1 (.t 179)) 178, ⟨some 181, .call (.f 111) [(.t 180), (kI 0), (kI 2)], (some (178, false))⟩, oF 182 (.un .not (.t 181)) 178, oP 183 (.pick (.t 178) (.k (.bool true)) (.t 182))]) (.cond (.t 183) (.seq (.region [oP 2 (.mv (.k (.bool false)))]) .ret) .skip)))) (.region [oM 154 9, oP 155 (.bin .add (.t 154) (kI 1)), oM 9 155])))))) (.seq (.region [oP 2 (.mv (.k (.bool true)))]) .ret)))))))))⟩
theorem c_spec_TableOk_ok : compFn Tryz.prog [1] 205 = some c_spec_TableOk := by kernel_rfl
def c_spec_l3At : AFn := ⟨20, [.t 4], (.seq (.region [oP 4 (.mv (kI 0))]) (.seq (.seq (.region [oP 5 (.mv (kI 0))]) (.block 0 (.loop (.seq (.seq (.region [oM 6 5, oM 7 0, oP 8 (.len false (.t 7)), oP 9 (.bin .lss (.t 6) (.t 8))]) (.cond (.t 9) .skip (.exit 0))) (.seq (.block 1 (.seq (.region [oM 12 0, oM 13 5, oP 14 (.iaddr 6 (.t 12) (.t 13)), oP 15 (.faddr 0 (.t 14)), oP 16 (.load false 1 (.t 15)), oM 17 1, oP 18 (.bin .eql (.t 16) (.t 17))]) (.cond (.t 18) (.seq (.region [oM 19 5, oM 4 19]) .ret) .skip))) (.region [oM 10 5, oP 11 (.bin .add (.t 10) (kI 1)), oM 5 11])))))) (.seq (.region [oP 4 (.mv (kI (-1)))]) .ret)))⟩
theorem c_spec_l3At_ok : compFn Tryz.prog [] 206 = some c_spec_l3At := by kernel_rfl
def c_spec_l6Able : AFn := ⟨15, [.t 4], (.seq (.region [oP 2 (.box true (.t 0)), oP 4 (.mv (kI 0))]) (.seq (.block 0 (.seq (.region [oP 6 (.load true 6 (.t 2)), oM 7 1, oC 8 241 [(.t 6), (.t 7)], oP 9 (.un .not (.t 8)), oM 5 9]) (.cond (.t 5) (.seq (.region [oP 4 (.mv (kI 2))]) .ret) (.seq (.region [oP 11 (.load true 6 (.t 2)), oM 12 1, oC 13 242 [(.t 11), (.t 12)], oP 14 (.un .not (.t 13)), oM 10 14]) (.cond (.t 10) (.seq (.region [oP 4 (.mv (kI 3))]) .ret) .skip))))) (.seq (.region [oP 4 (.mv (kI 0))]) .ret)))⟩
theorem c_spec_l6Able_ok : compFn Tryz.prog [2] 208 = some c_spec_l6Able := by kernel_rfl
def c_spec_l6Next : AFn := ⟨17, [.t 2], (.seq (.region [oP 1 (.box true (.t 0)), oP 2 (.mv (kI 0))]) (.seq (.region [oP 4 (.faddr 0 (.t 1)), oP 5 (.load false 1 (.t 4)), oP 6 (.len false (.t 5)), oM 3 6]) (.seq (.seq (.region [oM 7 3, oP 8 (.bin .eql (.t 7) (kI 0))]) (.cond (.t 8) (.seq (.region [oP 2 (.mv (kI 1))]) .ret) .skip)) (.seq (.region [oP 9 (.faddr 0 (.t 1)), oP 10 (.load false 1 (.t 9)), oM 11 3, oP 12 (.bin .sub (.t 11) (kI 1)), oP 13 (.iaddr 2 (.t 10) (.t 12)), oP 14 (.faddr 0 (.t 13)), oP 15 (.load false 1 (.t 14)), oP 16 (.bin .add (.t 15) (kI 1)), oM 2 16]) .ret))))⟩
theorem c_spec_l6Next_ok : compFn Tryz.prog [1] 209 = some c_spec_l6Next := by kernel_rfl
def c_spec_l6Clear : AFn := ⟨69, [.t 12, .t 13], (.seq (.region [oP 9 (.box true (.t 3)), oP 12 (.mv (.k (.nils))), oP 13 (.mv (kI 0))]) (.seq (.draw [[oM 18 0, oM 19 2, oP 20 (.iaddr 6 (.t 18) (.t 19)), oP 21 (.load true 6 (.t 20)), oM 22 1, oM 23 2, oP 24 (.iaddr 1 (.t 22) (.t 23)), oP 25 (.load true 1 (.t 24)), oP 26 (.load true 2 (.t 9))], [oC 27 243 [(.t 21), (.t 25), (.t 26)]], [oM 14 27]]) (.seq (.seq (.region [oM 28 14, oP 29 (.len false (.t 28)), oP 30 (.bin .gtr (.t 29) (kI 0)), oM 31 30, oT 32 (.mv (.t 4)) 31, oT 33 (.un .not (.t 32)) 31, oP 34 (.pick (.t 31) (.t 33) (.k (.bool false)))]) (.cond (.t 34) (.seq (.region [oP 12 (.mv (.k (.nils))), oP 13 (.mv (kI 4))]) .ret) .skip)) (.seq (.seq (.region [oP 15 (.mv (kI 0))]) (.block 0 (.loop (.seq (.seq (.region [oM 35 15, oM 36 14, oP 37 (.len false (.t 36)), oP 38 (.bin .lss (.t 35) (.t 37))]) (.cond (.t 38) .skip (.exit 0))) (.seq (.block 1 (.seq (.seq (.draw [[oM 41 1, oM 42 2, oP 43 (.iaddr 1 (.t 41) (.t 42)), oP 44 (.load true 1 (.t 43)), oM 45 14, oM 46 15, oP 47 (.iaddr 1 (.t 45) (.t 46)), oP 48 (.load false 1 (.t 47))], [oC 49 244 [(.t 44), (.t 48)]], [oP 50 (.bin .lss (.t 49) (kI 0))]]) (.cond (.t 50) (.exit 1) .skip)) (.seq (.region [oM 52 0, oM 53 1, oM 54 2, oM 55 14, oM 56 15, oP 57 (.iaddr 1 (.t 55) (.t 56)), oP 58 (.load false 1 (.t 57)), oM 59 5, oP 60 (.bin .add (.t 59) (kI 1)), oC 61 245 [(.t 52), (.t 53), (.t 54), (.t 58), (.t 60)], oM 51 61, oP 62 (.ext (.t 51) 0), oP 63 (.ext (.t 51) 1), oM 16 62, oM 17 63]) (.seq (.seq (.region [oM 64 17, oP 65 (.bin .neq (.t 64) (kI 0))]) (.cond (.t 65) (.seq (.region [oM 66 17, oP 12 (.mv (.k (.nils))), oM 13 66]) .ret) .skip)) (.region [oM 67 16, oM 1 67]))))) (.region [oM 39 15, oP 40 (.bin .add (.t 39) (kI 1)), oM 15 40])))))) (.seq (.region [oM 68 1, oM 12 68, oP 13 (.mv (kI 0))]) .ret)))))⟩
theorem c_spec_l6Clear_ok : compFn Tryz.prog [9] 210 = some c_spec_l6Clear := by kernel_rfl
def c_spec_l4With : AFn := ⟨16, [.t 6], (.seq (.region [oP 5 (.box true (.t 2)), oP 6 (.mv (.k (.nils)))]) (.seq (.region [oP 8 (.mksl false 1 0 [.nils] []), oM 9 0, oP 10 (.app 1 24 (.t 8) (.t 9)), oM 7 10]) (.seq (.region [oM 11 7, oM 12 1, oP 13 (.load true 1 (.t 5)), oP 14 (.iaddr 1 (.t 11) (.t 12)), ⟨none, .op (.store 1 (.t 14) (.t 13)), none⟩]) (.seq (.region [oM 15 7, oM 6 15]) .ret))))⟩
theorem c_spec_l4With_ok : compFn Tryz.prog [5] 211 = some c_spec_l4With := by kernel_rfl
def c_spec_l4Put : AFn := ⟨58, [.m 4 true 1], (.seq (.region [oP 2 (.box true (.t 0)), oP 3 (.box true (.t 1)), oP 4 (.alloc [.nils])]) (.seq (.region [oP 8 (.mksl false 2 0 [.int .i64 0, .nils] []), oM 5 8]) (.seq (.region [oP 6 (.mv (.k (.bool false)))]) (.seq (.seq (.region [oP 7 (.mv (kI 0))]) (.block 0 (.loop (.seq (.seq (.region [oM 9 7, oP 10 (.faddr 0 (.t 2)), oP 11 (.load false 1 (.t 10)), oP 12 (.len false (.t 11)), oP 13 (.bin .lss (.t 9) (.t 12))]) (.cond (.t 13) .skip (.exit 0))) (.seq (.block 1 (.seq (.seq (.draw [[oM 16 6], [oP 17 (.un .not (.t 16))], [oM 18 17], [oT 19 (.faddr 0 (.t 2)) 18, oT 20 (.load false 1 (.t 19)) 18, oT 21 (.mv (.t 7)) 18, oT 22 (.iaddr 2 (.t 20) (.t 21)) 18, oT 23 (.faddr 0 (.t 22)) 18, oT 24 (.load false 1 (.t 23)) 18, oT 25 (.faddr 0 (.t 3)) 18, oT 26 (.load false 1 (.t 25)) 18], [oT 27 (.bin .geq (.t 24) (.t 26)) 18], [oP 28 (.pick (.t 18) (.t 27) (.k (.bool false)))]]) (.cond (.t 28) (.seq (.region [oM 29 5, oP 30 (.load true 2 (.t 3)), oP 31 (.mksl true 2 1 [.int .i64 0, .nils] [(0, (.t 30))]), oP 32 (.app 2 32 (.t 29) (.t 31)), oM 5 32]) (.region [oP 6 (.mv (.k (.bool true)))])) .skip)) (.seq (.draw [[oP 33 (.faddr 0 (.t 2)), oP 34 (.load false 1 (.t 33)), oM 35 7, oP 36 (.iaddr 2 (.t 34) (.t 35)), oP 37 (.faddr 0 (.t 36)), oP 38 (.load false 1 (.t 37)), oP 39 (.faddr 0 (.t 3)), oP 40 (.load false 1 (.t 39))], [oP 41 (.bin .neq (.t 38) (.t 40))]]) (.cond (.t 41) (.region [oM 42 5, oP 43 (.faddr 0 (.t 2)), oP 44 (.load false 1 (.t 43)), oM 45 7, oP 46 (.iaddr 2 (.t 44) (.t 45)), oP 47 (.load true 2 (.t 46)), oP 48 (.mksl true 2 1 [.int .i64 0, .nils] [(0, (.t 47))]), oP 49 (.app 2 32 (.t 42) (.t 48)), oM 5 49]) .skip)))) (.region [oM 14 7, oP 15 (.bin .add (.t 14) (kI 1)), oM 7 15])))))) (.seq (.seq (.region [oM 50 6, oP 51 (.un .not (.t 50))]) (.cond (.t 51) (.region [oM 52 5, oP 53 (.load true 2 (.t 3)), oP 54 (.mksl true 2 1 [.int .i64 0, .nils] [(0, (.t 53))]), oP 55 (.app 2 32 (.t 52) (.t 54)), oM 5 55]) .skip)) (.seq (.region [oM 56 5, oP 57 (.build [.nils] [(0, 1, (.t 56))]), ⟨none, .op (.store 1 (.t 4) (.t 57)), none⟩]) .ret))))))⟩
theorem c_spec_l4Put_ok : compFn Tryz.prog [2, 3, 31, 48, 54] 212 = some c_spec_l4Put := by kernel_rfl
def c_spec_l5Refers : AFn := ⟨45, [.t 10], (.seq (.region [oP 10 (.mv (.k (.bool false)))]) (.seq (.seq (.region [oP 11 (.mv (kI 0))]) (.block 0 (.loop (.seq (.seq (.region [oM 13 11, oM 14 0, oM 15 2, oP 16 (.iaddr 6 (.t 14) (.t 15)), oP 17 (.faddr 5 (.t 16)), oP 18 (.load false 1 (.t 17)), oP 19 (.len false (.t 18)), oP 20 (.bin .lss (.t 13) (.t 19))]) (.cond (.t 20) .skip (.exit 0))) (.seq (.block 1 (.seq (.region [oM 23 0, oM 24 2, oP 25 (.iaddr 6 (.t 23) (.t 24)), oP 26 (.faddr 5 (.t 25)), oP 27 (.load false 1 (.t 26)), oM 28 11, oP 29 (.iaddr 5 (.t 27) (.t 28)), oP 30 (.load true 5 (.t 29)), oP 12 (.alloc [.nils, .str [], .int .i64 0, .int .i64 0, .bool false]), ⟨none, .op (.store 5 (.t 12) (.t 30)), none⟩]) (.seq (.region [oM 31 4, oM 32 31, oT 33 (.faddr 4 (.t 12)) 32, oT 34 (.load false 1 (.t 33)) 32, oP 35 (.pick (.t 32) (.t 34) (.k (.bool false))), oP 36 (.un .not (.t 35)), oM 37 36, oT 38 (.mv (.t 0)) 37, oT 39 (.mv (.t 1)) 37, oT 40 (.load true 5 (.t 12)) 37, oT 41 (.mv (.t 3)) 37, ⟨some 42, .call (.f 246) [(.t 38), (.t 39), (.t 40), (.t 41)], (some (37, true))⟩, oT 43 (.un .not (.t 42)) 37, oP 44 (.pick (.t 37) (.t 43) (.k (.bool false)))]) (.cond (.t 44) (.seq (.region [oP 10 (.mv (.k (.bool false)))]) .ret) .skip)))) (.region [oM 21 11, oP 22 (.bin .add (.t 21) (kI 1)), oM 11 22])))))) (.seq (.region [oP 10 (.mv (.k (.bool true)))]) .ret)))⟩
theorem c_spec_l5Refers_ok : compFn Tryz.prog [] 213 = some c_spec_l5Refers := by kernel_rfl
def c_slices_swapRangeCmpFunc_Entry : AFn := ⟨38, [], (.seq (.region [oP 10 (.mv (kI 0))]) (.block 0 (.loop (.seq (.seq (.region [oM 11 10, oM 12 3, oP 13 (.bin .lss (.t 11) (.t 12))]) (.cond (.t 13) .skip (.exit 0))) (.seq (.block 1 (.draw [[oM 16 0, oM 17 1, oM 18 10, oP 19 (.bin .add (.t 17) (.t 18)), oM 20 0, oM 21 2, oM 22 10, oP 23 (.bin .add (.t 21) (.t 22)), oM 24 0, oM 25 2, oM 26 10, oP 27 (.bin .add (.t 25) (.t 26)), oP 28 (.iaddr 2 (.t 24) (.t 27)), oP 29 (.load true 2 (.t 28)), oM 30 0, oM 31 1, oM 32 10, oP 33 (.bin .add (.t 31) (.t 32)), oP 34 (.iaddr 2 (.t 30) (.t 33)), oP 35 (.load true 2 (.t 34)), oP 36 (.iaddr 2 (.t 16) (.t 19)), ⟨none, .op (.store 2 (.t 36) (.t 29)), none⟩], [oP 37 (.iaddr 2 (.t 20) (.t 23))], [⟨none, .op (.store 2 (.t 37) (.t 35)), none⟩]])) (.region [oM 14 10, oP 15 (.bin .add (.t 14) (kI 1)), oM 10 15]))))))⟩
theorem c_slices_swapRangeCmpFunc_Entry_ok : compFn Tryz.prog [] 234 = some c_slices_swapRangeCmpFunc_Entry := by kernel_rfl
def c_spec_l3Name : AFn := ⟨23, [.t 2], (.seq (.region [oP 2 (.mv (.k (.bool false)))]) (.seq (.seq (.region [oP 3 (.mv (kI 0))]) (.block 0 (.loop (.seq (.seq (.region [oM 4 3, oM 5 0, oP 6 (.len true (.t 5)), oP 7 (.bin .lss (.t 4) (.t 6))]) (.cond (.t 7) .skip (.exit 0))) (.seq (.block 1 (.seq (.region [oM 10 0, oM 11 3, oP 12 (.idx (.t 10) (.t 11)), oP 13 (.bin .lss (.t 12) (.k (.int .u8 97))), oM 14 13, oF 15 (.mv (.t 0)) 14, oF 16 (.mv (.t 3)) 14, oF 17 (.idx (.t 15) (.t 16)) 14, oF 18 (.bin .gtr (.t 17) (.k (.int .u8 122))) 14, oP 19 (.pick (.t 14) (.k (.bool true)) (.t 18))]) (.cond (.t 19) (.seq (.region [oP 2 (.mv (.k (.bool false)))]) .ret) .skip))) (.region [oM 8 3, oP 9 (.bin .add (.t 8) (kI 1)), oM 3 9])))))) (.seq (.region [oM 20 0, oP 21 (.len true (.t 20)), oC 22 111 [(.t 21), (kI 1), (kI 8)], oM 2 22]) .ret)))⟩
theorem c_spec_l3Name_ok : compFn Tryz.prog [] 238 = some c_spec_l3Name := by kernel_rfl
def c_spec_ColAt : AFn := ⟨22, [.t 4], (.seq (.region [oP 2 (.box true (.t 0)), oP 4 (.mv (kI 0))]) (.seq (.seq (.region [oP 5 (.mv (kI 0))]) (.block 0 (.loop (.seq (.seq (.region [oM 6 5, oP 7 (.faddr 1 (.t 2)), oP 8 (.load false 1 (.t 7)), oP 9 (.len false (.t 8)), oP 10 (.bin .lss (.t 6) (.t 9))]) (.cond (.t 10) .skip (.exit 0))) (.seq (.block 1 (.seq (.region [oP 13 (.faddr 1 (.t 2)), oP 14 (.load false 1 (.t 13)), oM 15 5, oP 16 (.iaddr 6 (.t 14) (.t 15)), oP 17 (.faddr 0 (.t 16)), oP 18 (.load false 1 (.t 17)), oM 19 1, oP 20 (.bin .eql (.t 18) (.t 19))]) (.cond (.t 20) (.seq (.region [oM 21 5, oM 4 21]) .ret) .skip))) (.region [oM 11 5, oP 12 (.bin .add (.t 11) (kI 1)), oM 5 12])))))) (.seq (.region [oP 4 (.mv (kI (-1)))]) .ret)))⟩
theorem c_spec_ColAt_ok : compFn Tryz.prog [2] 239 = some c_spec_ColAt := by kernel_rfl
def c_spec_l2Expr : AFn := ⟨38, [.t 4], (.seq (.region [oP 4 (.mv (.k (.bool false)))]) (.seq (.region [oP 5 (.mv (kI 0))]) (.seq (.seq (.region [oP 6 (.mv (kI 0))]) (.block 0 (.loop (.seq (.seq (.region [oM 8 6, oM 9 0, oP 10 (.len false (.t 9)), oP 11 (.bin .lss (.t 8) (.t 10))]) (.cond (.t 11) .skip (.exit 0))) (.seq (.block 1 (.seq (.region [oM 14 0, oM 15 6, oP 16 (.iaddr 5 (.t 14) (.t 15)), oP 17 (.load true 5 (.t 16)), oM 18 1, oC 19 254 [(.t 17), (.t 18)], oM 7 19]) (.seq (.seq (.region [oM 20 7, oP 21 (.bin .lss (.t 20) (kI 0)), oM 22 21, oF 23 (.mv (.t 7)) 22, oF 24 (.mv (.t 5)) 22, oF 25 (.bin .gtr (.t 23) (.t 24)) 22, oP 26 (.pick (.t 22) (.k (.bool true)) (.t 25))]) (.cond (.t 26) (.seq (.region [oP 4 (.mv (.k (.bool false)))]) .ret) .skip)) (.region [oM 27 5, oM 28 7, oP 29 (.bin .sub (.t 27) (.t 28)), oP 30 (.bin .add (.t 29) (kI 1)), oM 5 30])))) (.region [oM 12 6, oP 13 (.bin .add (.t 12) (kI 1)), oM 6 13])))))) (.seq (.region [oM 31 5, oP 32 (.bin .eql (.t 31) (kI 1)), oM 33 32, oT 34 (.mv (.t 0)) 33, oT 35 (.len false (.t 34)) 33, oT 36 (.bin .leq (.t 35) (kI 24)) 33, oP 37 (.pick (.t 33) (.t 36) (.k (.bool false))), oM 4 37]) .ret))))⟩
theorem c_spec_l2Expr_ok : compFn Tryz.prog [] 240 = some c_spec_l2Expr := by kernel_rfl
def c_spec_l4Nulls : AFn := ⟨26, [.t 4], (.seq (.region [oP 2 (.box true (.t 0)), oP 4 (.mv (.k (.bool false)))]) (.seq (.seq (.region [oP 5 (.mv (kI 0))]) (.block 0 (.loop (.seq (.seq (.region [oM 6 5, oM 7 1, oP 8 (.len false (.t 7)), oP 9 (.bin .lss (.t 6) (.t 8))]) (.cond (.t 9) .skip (.exit 0))) (.seq (.block 1 (.seq (.region [oP 12 (.faddr 1 (.t 2)), oP 13 (.load false 1 (.t 12)), oM 14 5, oP 15 (.iaddr 6 (.t 13) (.t 14)), oP 16 (.faddr 2 (.t 15)), oP 17 (.load false 1 (.t 16)), oM 18 17, oT 19 (.mv (.t 1)) 18, oT 20 (.mv (.t 5)) 18, oT 21 (.iaddr 3 (.t 19) (.t 20)) 18, oT 22 (.faddr 0 (.t 21)) 18, oT 23 (.load false 1 (.t 22)) 18, oT 24 (.bin .eql (.t 23) (kI 0)) 18, oP 25 (.pick (.t 18) (.t 24) (.k (.bool false)))]) (.cond (.t 25) (.seq (.region [oP 4 (.mv (.k (.bool false)))]) .ret) .skip))) (.region [oM 10 5, oP 11 (.bin .add (.t 10) (kI 1)), oM 5 11])))))) (.seq (.region [oP 4 (.mv (.k (.bool true)))]) .ret)))⟩
theorem c_spec_l4Nulls_ok : compFn Tryz.prog [2] 241 = some c_spec_l4Nulls := by kernel_rfl
def c_spec_l4Checks : AFn := ⟨28, [.t 4], (.seq (.region [oP 2 (.box true (.t 0)), oP 4 (.mv (.k (.bool false)))]) (.seq (.seq (.region [oP 5 (.mv (kI 0))]) (.block 0 (.loop (.seq (.seq (.region [oM 7 5, oP 8 (.faddr 4 (.t 2)), oP 9 (.load false 1 (.t 8)), oP 10 (.len false (.t 9)), oP 11 (.bin .lss (.t 7) (.t 10))]) (.cond (.t 11) .skip (.exit 0))) (.seq (.block 1 (.seq (.region [oP 14 (.faddr 4 (.t 2)), oP 15 (.load false 1 (.t 14)), oM 16 5, oP 17 (.iaddr 1 (.t 15) (.t 16)), oP 18 (.faddr 0 (.t 17)), oP 19 (.load false 1 (.t 18)), oM 20 1, oC 21 255 [(.t 19), (.t 20)], oM 6 21]) (.seq (.region [oM 22 6, oP 23 (.bin .eql (.t 22) (kI 0)), oM 24 23, oF 25 (.mv (.t 6)) 24, oF 26 (.bin .lss (.t 25) (kI 0)) 24, oP 27 (.pick (.t 24) (.k (.bool true)) (.t 26))]) (.cond (.t 27) (.seq (.region [oP 4 (.mv (.k (.bool false)))]) .ret) .skip)))) (.region [oM 12 5, oP 13 (.bin .add (.t 12) (kI 1)), oM 5 13])))))) (.seq (.region [oP 4 (.mv (.k (.bool true)))]) .ret)))⟩
theorem c_spec_l4Checks_ok : compFn Tryz.prog [2] 242 = some c_spec_l4Checks := by kernel_rfl
def c_spec_l6Rivals : AFn := ⟨49, [.t 6], (.seq (.region [oP 3 (.box true (.t 0)), oP 4 (.box true (.t 1)), oP 5 (.box true (.t 2)), oP 6 (.mv (.k (.nils)))]) (.seq (.region [oP 9 (.mksl false 1 0 [.int .i64 0] []), oM 7 9]) (.seq (.seq (.region [oP 8 (.mv (kI 0))]) (.block 0 (.loop (.seq (.seq (.region [oM 10 8, oP 11 (.faddr 0 (.t 4)), oP 12 (.load false 1 (.t 11)), oP 13 (.len false (.t 12)), oP 14 (.bin .lss (.t 10) (.t 13))]) (.cond (.t 14) .skip (.exit 0))) (.seq (.block 1 (.seq (.draw [[oP 17 (.faddr 0 (.t 4)), oP 18 (.load false 1 (.t 17)), oM 19 8, oP 20 (.iaddr 2 (.t 18) (.t 19)), oP 21 (.faddr 0 (.t 20)), oP 22 (.load false 1 (.t 21)), oP 23 (.faddr 0 (.t 5)), oP 24 (.load false 1 (.t 23))], [oP 25 (.bin .neq (.t 22) (.t 24))], [oM 26 25], [oT 27 (.load true 6 (.t 3)) 26, oT 28 (.faddr 0 (.t 4)) 26, oT 29 (.load false 1 (.t 28)) 26, oT 30 (.mv (.t 8)) 26, oT 31 (.iaddr 2 (.t 29) (.t 30)) 26, oT 32 (.load true 2 (.t 31)) 26, oT 33 (.mksl true 2 1 [.int .i64 0, .nils] [(0, (.t 32))]) 26, oT 34 (.build [.nils] [(0, 1, (.t 33))]) 26, oT 35 (.load true 2 (.t 5)) 26], [⟨some 36, .call (.f 256) [(.t 27), (.t 34), (.t 35)], (some (26, true))⟩], [oT 37 (.un .not (.t 36)) 26], [oP 38 (.pick (.t 26) (.t 37) (.k (.bool false)))]]) (.cond (.t 38) (.region [oM 39 7, oP 40 (.faddr 0 (.t 4)), oP 41 (.load false 1 (.t 40)), oM 42 8, oP 43 (.iaddr 2 (.t 41) (.t 42)), oP 44 (.faddr 0 (.t 43)), oP 45 (.load false 1 (.t 44)), oP 46 (.mksl true 1 1 [.int .i64 0] [(0, (.t 45))]), oP 47 (.app 1 8 (.t 39) (.t 46)), oM 7 47]) .skip))) (.region [oM 15 8, oP 16 (.bin .add (.t 15) (kI 1)), oM 8 16])))))) (.seq (.region [oM 48 7, oM 6 48]) .ret))))⟩
theorem c_spec_l6Rivals_ok : compFn Tryz.prog [3, 4, 5, 33, 46] 243 = some c_spec_l6Rivals := by kernel_rfl
def c_spec_l5Parent : AFn := ⟨40, [.t 8], (.seq (.region [oP 6 (.box true (.t 2)), oP 8 (.mv (.k (.bool false)))]) (.seq (.region [oP 13 (.faddr 0 (.t 6)), oP 14 (.load false 1 (.t 13)), oM 15 3, oC 16 148 [(.t 14), (.t 15)], oM 12 16, oP 17 (.ext (.t 12) 0), oP 18 (.ext (.t 12) 1), oM 9 17, oM 10 18]) (.seq (.region [oM 19 0, oP 20 (.faddr 1 (.t 6)), oP 21 (.load false 1 (.t 20)), oC 22 206 [(.t 19), (.t 21)], oM 11 22]) (.seq (.draw [[oM 23 10], [oP 24 (.un .not (.t 23))], [oM 25 24], [oF 26 (.mv (.t 1)) 25, oF 27 (.mv (.t 11)) 25, oF 28 (.iaddr 1 (.t 26) (.t 27)) 25, oF 29 (.load true 1 (.t 28)) 25, oF 30 (.mv (.t 0)) 25, oF 31 (.mv (.t 11)) 25, oF 32 (.iaddr 6 (.t 30) (.t 31)) 25, oF 33 (.faddr 2 (.t 32)) 25, oF 34 (.load false 1 (.t 33)) 25, oF 35 (.mv (.t 9)) 25], [⟨some 36, .call (.f 259) [(.t 29), (.t 34), (.t 35)], (some (25, false))⟩], [oF 37 (.len false (.t 36)) 25], [oF 38 (.bin .gtr (.t 37) (kI 0)) 25], [oP 39 (.pick (.t 25) (.k (.bool true)) (.t 38))], [oM 8 39]]) .ret))))⟩
theorem c_spec_l5Parent_ok : compFn Tryz.prog [6] 246 = some c_spec_l5Parent := by kernel_rfl
def c_spec_l2Takes : AFn := ⟨48, [.t 4], (.seq (.region [oP 2 (.box true (.t 0)), oP 4 (.mv (kI 0))]) (.seq (.seq (.region [oP 5 (.faddr 0 (.t 2)), oP 6 (.load false 1 (.t 5)), oP 7 (.bin .neq (.t 6) (kI 1)), oM 8 7, oT 9 (.faddr 1 (.t 2)) 8, oT 10 (.load false 1 (.t 9)) 8, oT 11 (.bin .neq (.t 10) (kI 0)) 8, oP 12 (.pick (.t 8) (.t 11) (.k (.bool false))), oM 13 12, oF 14 (.faddr 0 (.t 2)) 13, oF 15 (.load false 1 (.t 14)) 13, oF 16 (.bin .neq (.t 15) (kI 2)) 13, oF 17 (.mv (.t 16)) 13, oT 18 (.faddr 2 (.t 2)) 17, oT 19 (.load true 3 (.t 18)) 17, oT 20 (.build [.int .i64 0, .int .i64 0, .str []] []) 17, oT 21 (.eq true true [.i, .i, .s] (.t 19) (.t 20)) 17, oF 22 (.pick (.t 17) (.t 21) (.k (.bool false))) 13, oP 23 (.pick (.t 13) (.k (.bool true)) (.t 22))]) (.cond (.t 23) (.seq (.region [oP 4 (.mv (kI (-1)))]) .ret) .skip)) (.seq (.seq (.region [oP 24 (.faddr 0 (.t 2)), oP 25 (.load false 1 (.t 24))]) (.block 0 (.seq (.region [oP 27 (.bin .eql (.t 25) (kI 1)), oM 26 27]) (.cond (.t 26) (.seq (.region [oP 28 (.faddr 1 (.t 2)), oP 29 (.load false 1 (.t 28)), oM 30 1, oP 31 (.bin .sub (.t 30) (kI 1)), oC 32 111 [(.t 29), (kI 0), (.t 31)]]) (.cond (.t 32) (.seq (.region [oP 4 (.mv (kI 0))]) .ret) .skip)) (.seq (.region [oP 34 (.bin .eql (.t 25) (kI 2)), oM 33 34]) (.cond (.t 33) (.seq (.region [oP 35 (.faddr 2 (.t 2)), oP 36 (.load true 3 (.t 35)), oC 37 157 [(.t 36)]]) (.cond (.t 37) (.seq (.region [oP 4 (.mv (kI 0))]) .ret) .skip)) (.seq (.seq (.region [oP 39 (.bin .eql (.t 25) (kI 7)), oM 38 39]) (.cond (.t 38) .skip (.region [oP 40 (.bin .eql (.t 25) (kI 8)), oM 38 40]))) (.cond (.t 38) (.seq (.region [oP 4 (.mv (kI 1))]) .ret) (.seq (.seq (.region [oP 42 (.bin .eql (.t 25) (kI 3)), oM 41 42]) (.cond (.t 41) .skip (.seq (.region [oP 43 (.bin .eql (.t 25) (kI 4)), oM 41 43]) (.cond (.t 41) .skip (.seq (.region [oP 44 (.bin .eql (.t 25) (kI 5)), oM 41 44]) (.cond (.t 41) .skip (.seq (.region [oP 45 (.bin .eql (.t 25) (kI 6)), oM 41 45]) (.cond (.t 41) .skip (.seq (.region [oP 46 (.bin .eql (.t 25) (kI 9)), oM 41 46]) (.cond (.t 41) .skip (.region [oP 47 (.bin .eql (.t 25) (kI 10)), oM 41 47]))))))))))) (.cond (.t 41) (.seq (.region [oP 4 (.mv (kI 2))]) .ret) .skip)))))))))) (.seq (.region [oP 4 (.mv (kI (-1)))]) .ret))))⟩
theorem c_spec_l2Takes_ok : compFn Tryz.prog [2] 254 = some c_spec_l2Takes := by kernel_rfl
def c_spec_l2Truth : AFn := ⟨27, [.t 4], (.seq (.region [oP 4 (.mv (kI 0))]) (.seq (.region [oM 10 0, oM 11 1, oC 12 261 [(.t 10), (.t 11)], oM 9 12, oP 13 (.ext (.t 9) 0), oP 14 (.ext (.t 9) 1), oP 5 (.alloc [.int .i64 0, .int .i64 0, .str []]), ⟨none, .op (.store 3 (.t 5) (.t 13)), none⟩, oM 6 14]) (.seq (.region [oP 16 (.load true 3 (.t 5)), oC 17 262 [(.t 16)], oM 15 17, oP 18 (.ext (.t 15) 0), oP 19 (.ext (.t 15) 1), oM 7 18, oM 8 19]) (.seq (.seq (.region [oM 20 6, oP 21 (.un .not (.t 20)), oM 22 21, oF 23 (.mv (.t 8)) 22, oF 24 (.un .not (.t 23)) 22, oP 25 (.pick (.t 22) (.k (.bool true)) (.t 24))]) (.cond (.t 25) (.seq (.region [oP 4 (.mv (kI (-1)))]) .ret) .skip)) (.seq (.region [oM 26 7, oM 4 26]) .ret)))))⟩
theorem c_spec_l2Truth_ok : compFn Tryz.prog [] 255 = some c_spec_l2Truth := by kernel_rfl
def c_spec_l5Unique : AFn := ⟨29, [.t 6], (.seq (.region [oP 3 (.box true (.t 0)), oP 4 (.box true (.t 1)), oP 5 (.box true (.t 2)), oP 6 (.mv (.k (.bool false)))]) (.seq (.seq (.region [oP 8 (.load true 1 (.t 4)), oP 9 (.faddr 2 (.t 3)), oP 10 (.load false 1 (.t 9)), oP 11 (.load true 2 (.t 5)), oC 12 263 [(.t 8), (.t 10), (.t 11)]]) (.cond (.t 12) (.seq (.region [oP 6 (.mv (.k (.bool false)))]) .ret) .skip)) (.seq (.seq (.region [oP 7 (.mv (kI 0))]) (.block 0 (.loop (.seq (.seq (.region [oM 13 7, oP 14 (.faddr 3 (.t 3)), oP 15 (.load false 1 (.t 14)), oP 16 (.len false (.t 15)), oP 17 (.bin .lss (.t 13) (.t 16))]) (.cond (.t 17) .skip (.exit 0))) (.seq (.block 1 (.seq (.draw [[oP 20 (.load true 1 (.t 4)), oP 21 (.faddr 3 (.t 3)), oP 22 (.load false 1 (.t 21)), oM 23 7, oP 24 (.iaddr 1 (.t 22) (.t 23)), oP 25 (.faddr 0 (.t 24)), oP 26 (.load false 1 (.t 25)), oP 27 (.load true 2 (.t 5))], [oC 28 263 [(.t 20), (.t 26), (.t 27)]]]) (.cond (.t 28) (.seq (.region [oP 6 (.mv (.k (.bool false)))]) .ret) .skip))) (.region [oM 18 7, oP 19 (.bin .add (.t 18) (kI 1)), oM 7 19])))))) (.seq (.region [oP 6 (.mv (.k (.bool true)))]) .ret))))⟩
theorem c_spec_l5Unique_ok : compFn Tryz.prog [3, 4, 5] 256 = some c_spec_l5Unique := by kernel_rfl
def c_spec_l4Find : AFn := ⟨46, [.t 6], (.seq (.region [oP 3 (.box true (.t 0)), oP 6 (.mv (.k (.nils)))]) (.seq (.region [oP 11 (.mksl false 1 0 [.int .i64 0] []), oM 7 11]) (.seq (.seq (.region [oP 8 (.mv (kI 0))]) (.block 0 (.loop (.seq (.seq (.region [oM 12 8, oP 13 (.faddr 0 (.t 3)), oP 14 (.load false 1 (.t 13)), oP 15 (.len false (.t 14)), oP 16 (.bin .lss (.t 12) (.t 15))]) (.cond (.t 16) .skip (.exit 0))) (.seq (.block 1 (.seq (.region [oM 20 1, oP 21 (.faddr 0 (.t 3)), oP 22 (.load false 1 (.t 21)), oM 23 8, oP 24 (.iaddr 2 (.t 22) (.t 23)), oP 25 (.faddr 1 (.t 24)), oP 26 (.load false 1 (.t 25)), oC 27 148 [(.t 20), (.t 26)], oM 19 27, oP 28 (.ext (.t 19) 0), oP 29 (.ext (.t 19) 1), oM 9 28, oM 10 29]) (.seq (.region [oM 30 10, oM 31 30, oT 32 (.mv (.t 9)) 31, oT 33 (.mv (.t 2)) 31, ⟨some 34, .call (.f 114) [(.t 32), (.t 33)], (some (31, true))⟩, oP 35 (.pick (.t 31) (.t 34) (.k (.bool false)))]) (.cond (.t 35) (.region [oM 36 7, oP 37 (.faddr 0 (.t 3)), oP 38 (.load false 1 (.t 37)), oM 39 8, oP 40 (.iaddr 2 (.t 38) (.t 39)), oP 41 (.faddr 0 (.t 40)), oP 42 (.load false 1 (.t 41)), oP 43 (.mksl true 1 1 [.int .i64 0] [(0, (.t 42))]), oP 44 (.app 1 8 (.t 36) (.t 43)), oM 7 44]) .skip)))) (.region [oM 17 8, oP 18 (.bin .add (.t 17) (kI 1)), oM 8 18])))))) (.seq (.region [oM 45 7, oM 6 45]) .ret))))⟩
theorem c_spec_l4Find_ok : compFn Tryz.prog [3, 43] 259 = some c_spec_l4Find := by kernel_rfl
def c_spec_l2Eval : AFn := ⟨107, [.m 4 true 3, .t 5], (.seq (.region [oP 4 (.alloc [.int .i64 0, .int .i64 0, .str []]), oP 5 (.mv (.k (.bool false)))]) (.seq (.region [oP 14 (.mksl false 3 0 [.int .i64 0, .int .i64 0, .str []] []), oM 6 14]) (.seq (.seq (.region [oP 7 (.mv (kI 0))]) (.block 0 (.loop (.seq (.seq (.region [oM 15 7, oM 16 0, oP 17 (.len false (.t 16)), oP 18 (.bin .lss (.t 15) (.t 17))]) (.cond (.t 18) .skip (.exit 0))) (.seq (.block 1 (.seq (.region [oM 21 6, oP 22 (.len false (.t 21)), oM 8 22]) (.seq (.region [oP 23 (.build [.int .i64 0, .int .i64 0, .str []] []), oP 9 (.alloc [.int .i64 0, .int .i64 0, .str []]), ⟨none, .op (.store 3 (.t 9) (.t 23)), none⟩]) (.seq (.region [oP 10 (.mv (.k (.bool true)))]) (.seq (.region [oP 11 (.mv (kI 0))]) (.seq (.seq (.region [oM 24 0, oM 25 7, oP 26 (.iaddr 5 (.t 24) (.t 25)), oP 27 (.faddr 0 (.t 26)), oP 28 (.load false 1 (.t 27))]) (.block 2 (.seq (.region [oP 49 (.bin .eql (.t 28) (kI 1)), oM 48 49]) (.cond (.t 48) (.region [oM 50 1, oM 51 0, oM 52 7, oP 53 (.iaddr 5 (.t 51) (.t 52)), oP 54 (.faddr 1 (.t 53)), oP 55 (.load false 1 (.t 54)), oP 56 (.iaddr 3 (.t 50) (.t 55)), oP 57 (.load true 3 (.t 56)), ⟨none, .op (.store 3 (.t 9) (.t 57)), none⟩]) (.seq (.region [oP 59 (.bin .eql (.t 28) (kI 2)), oM 58 59]) (.cond (.t 58) (.region [oM 60 0, oM 61 7, oP 62 (.iaddr 5 (.t 60) (.t 61)), oP 63 (.faddr 2 (.t 62)), oP 64 (.load true 3 (.t 63)), ⟨none, .op (.store 3 (.t 9) (.t 64)), none⟩]) (.seq (.region [oP 66 (.bin .eql (.t 28) (kI 8)), oM 65 66]) (.cond (.t 65) (.seq (.region [oM 67 6, oM 68 8, oP 69 (.bin .sub (.t 68) (kI 1)), oP 70 (.iaddr 3 (.t 67) (.t 69)), oP 71 (.faddr 0 (.t 70)), oP 72 (.load false 1 (.t 71)), oP 73 (.bin .eql (.t 72) (kI 0)), oC 74 265 [(.t 73)], oC 75 102 [(.t 74)], ⟨none, .op (.store 3 (.t 9) (.t 75)), none⟩]) (.region [oP 11 (.mv (kI 1))])) (.seq (.region [oP 77 (.bin .eql (.t 28) (kI 7)), oM 76 77]) (.cond (.t 76) (.seq (.region [oM 79 6, oM 80 8, oP 81 (.bin .sub (.t 80) (kI 1)), oP 82 (.iaddr 3 (.t 79) (.t 81)), oP 83 (.load true 3 (.t 82)), oC 84 262 [(.t 83)], oM 78 84, oP 85 (.ext (.t 78) 0), oP 86 (.ext (.t 78) 1), oM 12 85, oM 13 86]) (.seq (.region [oM 87 12, oC 88 267 [(.t 87)], oC 89 266 [(.t 88)], ⟨none, .op (.store 3 (.t 9) (.t 89)), none⟩]) (.seq (.region [oM 90 13, oM 10 90]) (.region [oP 11 (.mv (kI 1))])))) (.seq (.draw [[oM 30 0, oM 31 7, oP 32 (.iaddr 5 (.t 30) (.t 31)), oP 33 (.faddr 0 (.t 32)), oP 34 (.load false 1 (.t 33)), oM 35 6, oM 36 8, oP 37 (.bin .sub (.t 36) (kI 2)), oP 38 (.iaddr 3 (.t 35) (.t 37)), oP 39 (.load true 3 (.t 38)), oM 40 6, oM 41 8, oP 42 (.bin .sub (.t 41) (kI 1)), oP 43 (.iaddr 3 (.t 40) (.t 42)), oP 44 (.load true 3 (.t 43))], [oC 45 268 [(.t 34), (.t 39), (.t 44)]], [oM 29 45], [oP 46 (.ext (.t 29) 0), oP 47 (.ext (.t 29) 1), ⟨none, .op (.store 3 (.t 9) (.t 46)), none⟩], [oM 10 47]]) (.region [oP 11 (.mv (kI 2))])))))))))))) (.seq (.seq (.region [oM 91 10, oP 92 (.un .not (.t 91))]) (.cond (.t 92) (.seq (.region [oP 93 (.build [.int .i64 0, .int .i64 0, .str []] []), ⟨none, .op (.store 3 (.t 4) (.t 93)), none⟩, oP 5 (.mv (.k (.bool false)))]) .ret) .skip)) (.draw [[oP 94 (.mksl false 3 0 [.int .i64 0, .int .i64 0, .str []] []), oM 95 6, oM 96 8, oM 97 11, oP 98 (.bin .sub (.t 96) (.t 97)), oP 99 (.slice 3 (.t 95) none (some (.t 98)) none), oP 100 (.app 3 32 (.t 94) (.t 99)), oP 101 (.load true 3 (.t 9)), oP 102 (.mksl true 3 1 [.int .i64 0, .int .i64 0, .str []] [(0, (.t 101))])], [oP 103 (.app 3 32 (.t 100) (.t 102))], [oM 6 103]])))))))) (.region [oM 19 7, oP 20 (.bin .add (.t 19) (kI 1)), oM 7 20])))))) (.seq (.region [oM 104 6, oP 105 (.iaddr 3 (.t 104) (kI 0)), oP 106 (.load true 3 (.t 105)), ⟨none, .op (.store 3 (.t 4) (.t 106)), none⟩, oP 5 (.mv (.k (.bool true)))]) .ret))))⟩
theorem c_spec_l2Eval_ok : compFn Tryz.prog [102] 261 = some c_spec_l2Eval := by kernel_rfl
def c_spec_l2Of : AFn := ⟨14, [.t 2, .t 3], (.seq (.region [oP 1 (.box true (.t 0)), oP 2 (.mv (kI 0)), oP 3 (.mv (.k (.bool false)))]) (.seq (.seq (.region [oP 4 (.faddr 0 (.t 1)), oP 5 (.load false 1 (.t 4))]) (.block 0 (.seq (.region [oP 7 (.bin .eql (.t 5) (kI 0)), oM 6 7]) (.cond (.t 6) (.seq (.region [oP 2 (.mv (kI 2)), oP 3 (.mv (.k (.bool true)))]) .ret) (.seq (.region [oP 9 (.bin .eql (.t 5) (kI 1)), oM 8 9]) (.cond (.t 8) (.seq (.region [oP 10 (.faddr 1 (.t 1)), oP 11 (.load false 1 (.t 10)), oP 12 (.bin .neq (.t 11) (kI 0)), oC 13 265 [(.t 12)], oM 2 13, oP 3 (.mv (.k (.bool true)))]) .ret) .skip)))))) (.seq (.region [oP 2 (.mv (kI 0)), oP 3 (.mv (.k (.bool false)))]) .ret)))⟩
theorem c_spec_l2Of_ok : compFn Tryz.prog [1] 262 = some c_spec_l2Of := by kernel_rfl
def c_spec_l5Twice : AFn := ⟨37, [.t 6], (.seq (.region [oP 3 (.box true (.t 0)), oP 5 (.box true (.t 2)), oP 6 (.mv (.k (.bool false)))]) (.seq (.region [oM 12 1, oP 13 (.faddr 1 (.t 5)), oP 14 (.load false 1 (.t 13)), oC 15 148 [(.t 12), (.t 14)], oM 11 15, oP 16 (.ext (.t 11) 0), oP 17 (.ext (.t 11) 1), oM 7 16, oM 8 17]) (.seq (.seq (.region [oM 18 8, oP 19 (.un .not (.t 18))]) (.cond (.t 19) (.seq (.region [oP 6 (.mv (.k (.bool false)))]) .ret) .skip)) (.seq (.region [oP 20 (.load true 1 (.t 3)), oM 21 1, oM 22 7, oC 23 259 [(.t 20), (.t 21), (.t 22)], oM 9 23]) (.seq (.seq (.region [oP 10 (.mv (kI 0))]) (.block 0 (.loop (.seq (.seq (.region [oM 24 10, oM 25 9, oP 26 (.len false (.t 25)), oP 27 (.bin .lss (.t 24) (.t 26))]) (.cond (.t 27) .skip (.exit 0))) (.seq (.block 1 (.seq (.draw [[oM 30 9, oM 31 10, oP 32 (.iaddr 1 (.t 30) (.t 31)), oP 33 (.load false 1 (.t 32)), oP 34 (.faddr 0 (.t 5)), oP 35 (.load false 1 (.t 34))], [oP 36 (.bin .neq (.t 33) (.t 35))]]) (.cond (.t 36) (.seq (.region [oP 6 (.mv (.k (.bool true)))]) .ret) .skip))) (.region [oM 28 10, oP 29 (.bin .add (.t 28) (kI 1)), oM 10 29])))))) (.seq (.region [oP 6 (.mv (.k (.bool false)))]) .ret))))))⟩
theorem c_spec_l5Twice_ok : compFn Tryz.prog [3, 5] 263 = some c_spec_l5Twice := by kernel_rfl
def c_spec_l1Yes : AFn := ⟨4, [.t 2], (.seq (.region [oP 2 (.mv (kI 0))]) (.seq (.seq (.region [oM 3 0]) (.cond (.t 3) (.seq (.region [oP 2 (.mv (kI 1))]) .ret) .skip)) (.seq (.region [oP 2 (.mv (kI 0))]) .ret)))⟩
theorem c_spec_l1Yes_ok : compFn Tryz.prog [] 265 = some c_spec_l1Yes := by kernel_rfl
def c_spec_l2As : AFn := ⟨8, [.m 2 true 3], (.seq (.region [oP 2 (.alloc [.int .i64 0, .int .i64 0, .str []])]) (.seq (.seq (.region [oM 3 0, oP 4 (.bin .eql (.t 3) (kI 2))]) (.cond (.t 4) (.seq (.region [oP 5 (.build [.int .i64 0, .int .i64 0, .str []] []), ⟨none, .op (.store 3 (.t 2) (.t 5)), none⟩]) .ret) .skip)) (.seq (.region [oM 6 0, oC 7 102 [(.t 6)], ⟨none, .op (.store 3 (.t 2) (.t 7)), none⟩]) .ret)))⟩
theorem c_spec_l2As_ok : compFn Tryz.prog [] 266 = some c_spec_l2As := by kernel_rfl
def c_spec_Not3 : AFn := ⟨10, [.t 2], (.seq (.region [oP 2 (.mv (kI 0))]) (.seq (.seq (.region [oM 3 0]) (.block 0 (.seq (.region [oP 5 (.bin .eql (.t 3) (kI 0)), oM 4 5]) (.cond (.t 4) (.seq (.region [oP 2 (.mv (kI 1))]) .ret) (.seq (.region [oP 7 (.bin .eql (.t 3) (kI 1)), oM 6 7]) (.cond (.t 6) (.seq (.region [oP 2 (.mv (kI 0))]) .ret) (.seq (.region [oP 9 (.bin .eql (.t 3) (kI 2)), oM 8 9]) (.cond (.t 8) (.seq (.region [oP 2 (.mv (kI 2))]) .ret) .skip)))))))) (.seq (.region [oP 2 (.mv (kI (-1)))]) .ret)))⟩
theorem c_spec_Not3_ok : compFn Tryz.prog [] 267 = some c_spec_Not3 := by kernel_rfl
def c_spec_l2Two : AFn := ⟨66, [.m 6 true 3, .t 7], (.seq (.region [oP 4 (.box true (.t 1)), oP 5 (.box true (.t 2)), oP 6 (.alloc [.int .i64 0, .int .i64 0, .str []]), oP 7 (.mv (.k (.bool false)))]) (.seq (.seq (.region [oM 12 0]) (.block 0 (.seq (.region [oP 14 (.bin .eql (.t 12) (kI 3)), oM 13 14]) (.cond (.t 13) (.seq (.region [oP 15 (.load true 3 (.t 4)), oP 16 (.load true 3 (.t 5)), oC 17 270 [(.t 15), (.t 16)], oC 18 266 [(.t 17)], ⟨none, .op (.store 3 (.t 6) (.t 18)), none⟩, oP 7 (.mv (.k (.bool true)))]) .ret) (.seq (.region [oP 20 (.bin .eql (.t 12) (kI 4)), oM 19 20]) (.cond (.t 19) (.seq (.region [oP 21 (.load true 3 (.t 4)), oP 22 (.load true 3 (.t 5)), oC 23 271 [(.t 21), (.t 22)], oC 24 266 [(.t 23)], ⟨none, .op (.store 3 (.t 6) (.t 24)), none⟩, oP 7 (.mv (.k (.bool true)))]) .ret) (.seq (.region [oP 26 (.bin .eql (.t 12) (kI 9)), oM 25 26]) (.cond (.t 25) (.seq (.region [oP 27 (.load true 3 (.t 4)), oP 28 (.load true 3 (.t 5)), oC 29 272 [(.t 27), (.t 28), (kI 1)], oP 30 (.ext (.t 29) 0), oP 31 (.ext (.t 29) 1), ⟨none, .op (.store 3 (.t 6) (.t 30)), none⟩, oM 7 31]) .ret) (.seq (.region [oP 33 (.bin .eql (.t 12) (kI 10)), oM 32 33]) (.cond (.t 32) (.seq (.region [oP 34 (.load true 3 (.t 4)), oP 35 (.load true 3 (.t 5)), oC 36 272 [(.t 34), (.t 35), (kI (-1))], oP 37 (.ext (.t 36) 0), oP 38 (.ext (.t 36) 1), ⟨none, .op (.store 3 (.t 6) (.t 37)), none⟩, oM 7 38]) .ret) .skip)))))))))) (.seq (.region [oP 40 (.load true 3 (.t 4)), oC 41 262 [(.t 40)], oM 39 41, oP 42 (.ext (.t 39) 0), oP 43 (.ext (.t 39) 1), oM 8 42, oM 9 43]) (.seq (.region [oP 45 (.load true 3 (.t 5)), oC 46 262 [(.t 45)], oM 44 46, oP 47 (.ext (.t 44) 0), oP 48 (.ext (.t 44) 1), oM 10 47, oM 11 48]) (.seq (.seq (.region [oM 49 9, oP 50 (.un .not (.t 49)), oM 51 50, oF 52 (.mv (.t 11)) 51, oF 53 (.un .not (.t 52)) 51, oP 54 (.pick (.t 51) (.k (.bool true)) (.t 53))]) (.cond (.t 54) (.seq (.region [oP 55 (.build [.int .i64 0, .int .i64 0, .str []] []), ⟨none, .op (.store 3 (.t 6) (.t 55)), none⟩, oP 7 (.mv (.k (.bool false)))]) .ret) .skip)) (.seq (.seq (.region [oM 56 0, oP 57 (.bin .eql (.t 56) (kI 5))]) (.cond (.t 57) (.seq (.region [oM 58 8, oM 59 10, oC 60 273 [(.t 58), (.t 59)], oC 61 266 [(.t 60)], ⟨none, .op (.store 3 (.t 6) (.t 61)), none⟩, oP 7 (.mv (.k (.bool true)))]) .ret) .skip)) (.seq (.region [oM 62 8, oM 63 10, oC 64 274 [(.t 62), (.t 63)], oC 65 266 [(.t 64)], ⟨none, .op (.store 3 (.t 6) (.t 65)), none⟩, oP 7 (.mv (.k (.bool true)))]) .ret)))))))⟩
theorem c_spec_l2Two_ok : compFn Tryz.prog [4, 5] 268 = some c_spec_l2Two := by kernel_rfl
def c_spec_Equal3 : AFn := ⟨27, [.t 4], (.seq (.region [oP 2 (.box true (.t 0)), oP 3 (.box true (.t 1)), oP 4 (.mv (kI 0))]) (.seq (.seq (.region [oP 5 (.load true 3 (.t 2)), oC 6 157 [(.t 5)], oP 7 (.un .not (.t 6)), oM 8 7, oF 9 (.load true 3 (.t 3)) 8, ⟨some 10, .call (.f 157) [(.t 9)], (some (8, false))⟩, oF 11 (.un .not (.t 10)) 8, oP 12 (.pick (.t 8) (.k (.bool true)) (.t 11)), oM 13 12, oF 14 (.faddr 0 (.t 2)) 13, oF 15 (.load false 1 (.t 14)) 13, oF 16 (.bin .eql (.t 15) (kI 0)) 13, oP 17 (.pick (.t 13) (.k (.bool true)) (.t 16)), oM 18 17, oF 19 (.faddr 0 (.t 3)) 18, oF 20 (.load false 1 (.t 19)) 18, oF 21 (.bin .eql (.t 20) (kI 0)) 18, oP 22 (.pick (.t 18) (.k (.bool true)) (.t 21))]) (.cond (.t 22) (.seq (.region [oP 4 (.mv (kI 2))]) .ret) .skip)) (.seq (.region [oP 23 (.load true 3 (.t 2)), oP 24 (.load true 3 (.t 3)), oP 25 (.eq false true [.i, .i, .s] (.t 23) (.t 24)), oC 26 265 [(.t 25)], oM 4 26]) .ret)))⟩
theorem c_spec_Equal3_ok : compFn Tryz.prog [2, 3] 270 = some c_spec_Equal3 := by kernel_rfl
def c_spec_Less3 : AFn := ⟨28, [.t 4], (.seq (.region [oP 2 (.box true (.t 0)), oP 3 (.box true (.t 1)), oP 4 (.mv (kI 0))]) (.seq (.seq (.region [oP 5 (.load true 3 (.t 2)), oC 6 157 [(.t 5)], oP 7 (.un .not (.t 6)), oM 8 7, oF 9 (.load true 3 (.t 3)) 8, ⟨some 10, .call (.f 157) [(.t 9)], (some (8, false))⟩, oF 11 (.un .not (.t 10)) 8, oP 12 (.pick (.t 8) (.k (.bool true)) (.t 11)), oM 13 12, oF 14 (.faddr 0 (.t 2)) 13, oF 15 (.load false 1 (.t 14)) 13, oF 16 (.bin .eql (.t 15) (kI 0)) 13, oP 17 (.pick (.t 13) (.k (.bool true)) (.t 16)), oM 18 17, oF 19 (.faddr 0 (.t 3)) 18, oF 20 (.load false 1 (.t 19)) 18, oF 21 (.bin .eql (.t 20) (kI 0)) 18, oP 22 (.pick (.t 18) (.k (.bool true)) (.t 21))]) (.cond (.t 22) (.seq (.region [oP 4 (.mv (kI 2))]) .ret) .skip)) (.seq (.region [oP 23 (.load true 3 (.t 2)), oP 24 (.load true 3 (.t 3)), oC 25 158 [(.t 23), (.t 24)], oP 26 (.bin .lss (.t 25) (kI 0)), oC 27 265 [(.t 26)], oM 4 27]) .ret)))⟩
theorem c_spec_Less3_ok : compFn Tryz.prog [2, 3] 271 = some c_spec_Less3 := by kernel_rfl
def c_spec_l2Sum : AFn := ⟨38, [.m 6 true 3, .t 7], (.seq (.region [oP 3 (.box true (.t 0)), oP 4 (.box true (.t 1)), oP 6 (.alloc [.int .i64 0, .int .i64 0, .str []]), oP 7 (.mv (.k (.bool false)))]) (.seq (.seq (.region [oP 9 (.faddr 0 (.t 3)), oP 10 (.load false 1 (.t 9)), oP 11 (.bin .eql (.t 10) (kI 2)), oM 12 11, oF 13 (.faddr 0 (.t 4)) 12, oF 14 (.load false 1 (.t 13)) 12, oF 15 (.bin .eql (.t 14) (kI 2)) 12, oP 16 (.pick (.t 12) (.k (.bool true)) (.t 15))]) (.cond (.t 16) (.seq (.region [oP 17 (.build [.int .i64 0, .int .i64 0, .str []] []), ⟨none, .op (.store 3 (.t 6) (.t 17)), none⟩, oP 7 (.mv (.k (.bool false)))]) .ret) .skip)) (.seq (.seq (.region [oP 18 (.faddr 0 (.t 3)), oP 19 (.load false 1 (.t 18)), oP 20 (.bin .eql (.t 19) (kI 0)), oM 21 20, oF 22 (.faddr 0 (.t 4)) 21, oF 23 (.load false 1 (.t 22)) 21, oF 24 (.bin .eql (.t 23) (kI 0)) 21, oP 25 (.pick (.t 21) (.k (.bool true)) (.t 24))]) (.cond (.t 25) (.seq (.region [oP 26 (.build [.int .i64 0, .int .i64 0, .str []] []), ⟨none, .op (.store 3 (.t 6) (.t 26)), none⟩, oP 7 (.mv (.k (.bool true)))]) .ret) .skip)) (.seq (.region [oP 27 (.faddr 1 (.t 3)), oP 28 (.load false 1 (.t 27)), oM 29 2, oP 30 (.faddr 1 (.t 4)), oP 31 (.load false 1 (.t 30)), oP 32 (.bin .mul (.t 29) (.t 31)), oP 33 (.bin .add (.t 28) (.t 32)), oC 34 102 [(.t 33)], oP 8 (.alloc [.int .i64 0, .int .i64 0, .str []]), ⟨none, .op (.store 3 (.t 8) (.t 34)), none⟩]) (.seq (.draw [[oP 35 (.load true 3 (.t 8)), oP 36 (.load true 3 (.t 8)), oC 37 157 [(.t 36)]], [⟨none, .op (.store 3 (.t 6) (.t 35)), none⟩], [oM 7 37]]) .ret)))))⟩
theorem c_spec_l2Sum_ok : compFn Tryz.prog [3, 4] 272 = some c_spec_l2Sum := by kernel_rfl
def c_spec_And3 : AFn := ⟨28, [.t 4], (.seq (.region [oP 4 (.mv (kI 0))]) (.seq (.block 0 (.seq (.region [oM 6 0, oC 7 275 [(.t 6)], oP 8 (.un .not (.t 7)), oM 9 8, oF 10 (.mv (.t 1)) 9, ⟨some 11, .call (.f 275) [(.t 10)], (some (9, false))⟩, oF 12 (.un .not (.t 11)) 9, oP 13 (.pick (.t 9) (.k (.bool true)) (.t 12)), oM 5 13]) (.cond (.t 5) (.seq (.region [oP 4 (.mv (kI (-1)))]) .ret) (.seq (.region [oM 15 0, oP 16 (.bin .eql (.t 15) (kI 0)), oM 17 16, oF 18 (.mv (.t 1)) 17, oF 19 (.bin .eql (.t 18) (kI 0)) 17, oP 20 (.pick (.t 17) (.k (.bool true)) (.t 19)), oM 14 20]) (.cond (.t 14) (.seq (.region [oP 4 (.mv (kI 0))]) .ret) (.seq (.region [oM 22 0, oP 23 (.bin .eql (.t 22) (kI 1)), oM 24 23, oT 25 (.mv (.t 1)) 24, oT 26 (.bin .eql (.t 25) (kI 1)) 24, oP 27 (.pick (.t 24) (.t 26) (.k (.bool false))), oM 21 27]) (.cond (.t 21) (.seq (.region [oP 4 (.mv (kI 1))]) .ret) .skip))))))) (.seq (.region [oP 4 (.mv (kI 2))]) .ret)))⟩
theorem c_spec_And3_ok : compFn Tryz.prog [] 273 = some c_spec_And3 := by kernel_rfl
def c_spec_Or3 : AFn := ⟨28, [.t 4], (.seq (.region [oP 4 (.mv (kI 0))]) (.seq (.block 0 (.seq (.region [oM 6 0, oC 7 275 [(.t 6)], oP 8 (.un .not (.t 7)), oM 9 8, oF 10 (.mv (.t 1)) 9, ⟨some 11, .call (.f 275) [(.t 10)], (some (9, false))⟩, oF 12 (.un .not (.t 11)) 9, oP 13 (.pick (.t 9) (.k (.bool true)) (.t 12)), oM 5 13]) (.cond (.t 5) (.seq (.region [oP 4 (.mv (kI (-1)))]) .ret) (.seq (.region [oM 15 0, oP 16 (.bin .eql (.t 15) (kI 1)), oM 17 16, oF 18 (.mv (.t 1)) 17, oF 19 (.bin .eql (.t 18) (kI 1)) 17, oP 20 (.pick (.t 17) (.k (.bool true)) (.t 19)), oM 14 20]) (.cond (.t 14) (.seq (.region [oP 4 (.mv (kI 1))]) .ret) (.seq (.region [oM 22 0, oP 23 (.bin .eql (.t 22) (kI 0)), oM 24 23, oT 25 (.mv (.t 1)) 24, oT 26 (.bin .eql (.t 25) (kI 0)) 24, oP 27 (.pick (.t 24) (.t 26) (.k (.bool false))), oM 21 27]) (.cond (.t 21) (.seq (.region [oP 4 (.mv (kI 0))]) .ret) .skip))))))) (.seq (.region [oP 4 (.mv (kI 2))]) .ret)))⟩
theorem c_spec_Or3_ok : compFn Tryz.prog [] 274 = some c_spec_Or3 := by kernel_rfl
def c_spec_l2Tru : AFn := ⟨5, [.t 2], (.seq (.region [oP 2 (.mv (.k (.bool false)))]) (.seq (.region [oM 3 0, oC 4 111 [(.t 3), (kI 0), (kI 2)], oM 2 4]) .ret))⟩
theorem c_spec_l2Tru_ok : compFn Tryz.prog [] 275 = some c_spec_l2Tru := by kernel_rfl

end Go.Proofs.YtdgnfdljkghpjaaGreat.Am

/- Values: contracts of the functions that know them. -/
set_option linter.unusedVariables false
set_option linter.unusedSimpArgs false
namespace Go.Proofs.YtdgnfdljkghpjaaGreat.Am
theorem mixed : Tryz.prog.follows .mixedOrders = true := Tryz.checked.mixed

structure Val where
  k : Int
  n : Int
  s : List UInt8
  deriving DecidableEq
def encV (v : Val) : List Ce := [.int .i64 v.k, .int .i64 v.n, .str v.s]
def isIn (n lo hi : Int) : Bool := decide (lo ≤ n) && decide (n ≤ hi)
def okVal (v : Val) : Bool := (v.k == 0 && v.n == 0 && v.s == []) || (v.k == 1 && isIn v.n (-1000000000) 1000000000 && v.s == []) || (v.k == 2 && v.n == 0 && decide ((v.s.length : Int) ≤ 12))
def cmpI (a b : Int) : Int := if a < b then -1 else if b < a then 1 else 0
def cmpS (a b : List UInt8) : Int := if bytesLt a b then -1 else if a == b then 0 else 1
def orI : List Int → Int
  | [] => 0
  | n :: r => if n = 0 then orI r else n
def encI (n : Int) : List Ce := [.int .i64 n]
def order (v w : Val) : Int := orI [cmpI v.k w.k, cmpI v.n w.n, cmpS v.s w.s]

theorem in_ok (n lo hi : Int) : Pure Tryz.prog 92 [.c (.int .i64 n), .c (.int .i64 lo), .c (.int .i64 hi)] (.c (.bool (isIn n lo hi))) := by
  refine Pure.run mixed c_impl_in_ok (Nat.le_of_ble_eq_true rfl) fun σ hS hA => ?_
  clear hS hA
  repeat' first|refine yaG ?_|(exfalso;omega)|(refine yaS ?_ ?_<;>intro _)
  all_goals refine .ret rfl (.bool ?_)
  all_goals (simp_all [isIn] <;> omega)
theorem l1In_ok (n lo hi : Int) : Pure Tryz.prog 111 [.c (.int .i64 n), .c (.int .i64 lo), .c (.int .i64 hi)] (.c (.bool (isIn n lo hi))) := by
  refine Pure.run mixed c_spec_l1In_ok (Nat.le_of_ble_eq_true rfl) fun σ hS hA => ?_
  clear hS hA
  repeat' first|refine yaG ?_|(exfalso;omega)|(refine yaS ?_ ?_<;>intro _)
  all_goals refine .ret rfl (.bool ?_)
  all_goals (simp_all [isIn] <;> omega)
theorem ValOk_ok (v : Val) : Pure Tryz.prog 86 [.agg (encV v)] (.c (.bool (okVal v))) := by
  refine Pure.run mixed c_impl_ValOk_ok (Nat.le_of_ble_eq_true rfl) fun σ hS hA => ?_
  clear hS hA
  repeat' first|refine yaG ?_|((first|apply Go.pcallB|apply Go.spcallB|apply Qg.pcallB);(iterate 3 exact rfl);exact in_ok _ _ _;intro _ _)|(exfalso;omega)|(refine yaS ?_ ?_<;>intro _)
  all_goals refine .ret rfl (.bool ?_)
  all_goals simp_all [okVal]
theorem sValOk_ok (v : Val) : Pure Tryz.prog 157 [.agg (encV v)] (.c (.bool (okVal v))) := by
  refine Pure.run mixed c_spec_ValOk_ok (Nat.le_of_ble_eq_true rfl) fun σ hS hA => ?_
  clear hS hA
  repeat' first|refine yaG ?_|((first|apply Go.pcallB|apply Go.spcallB|apply Qg.pcallB);(iterate 3 exact rfl);exact l1In_ok _ _ _;intro _ _)|(exfalso;omega)|(refine yaS ?_ ?_<;>intro _)
  all_goals refine .ret rfl (.bool ?_)
  all_goals simp_all [okVal]
theorem isNaN_ok (n : Int) : Pure Tryz.prog 156 [.c (.int .i64 n)] (.c (.bool false)) := by
  refine Pure.run mixed c_cmp_isNaN_int64_ok (Nat.le_of_ble_eq_true rfl) fun σ hS hA => ?_
  repeat' first|refine yaG ?_|(exfalso;omega)|(refine yaS ?_ ?_<;>intro _)
  all_goals refine .ret rfl (.bool (by simp))
theorem isNaNS_ok (n : List UInt8) : Pure Tryz.prog 200 [.c (.str n)] (.c (.bool false)) := by
  refine Pure.run mixed c_cmp_isNaN_string_ok (Nat.le_of_ble_eq_true rfl) fun σ hS hA => ?_
  repeat' first|refine yaG ?_|(exfalso;omega)|(refine yaS ?_ ?_<;>intro _)
  all_goals refine .ret rfl (.bool (by simp))
theorem Compare_ok (a b : Int) : Pure Tryz.prog 109 [.c (.int .i64 a), .c (.int .i64 b)] (.c (.int .i64 (cmpI a b))) := by
  refine Pure.run mixed c_cmp_Compare_int64_ok (Nat.le_of_ble_eq_true rfl) fun σ hS hA => ?_
  clear hS hA
  repeat' first|refine yaG ?_|((first|apply yQ|apply yR|apply yS);(iterate 3 exact rfl);exact isNaN_ok _)|(exfalso;omega)|(refine yaS ?_ ?_<;>intro _)
  all_goals refine .ret rfl (.int ?_)
  all_goals unfold cmpI
  all_goals repeat' split
  all_goals omega
theorem CompareS_ok (a b : List UInt8) : Pure Tryz.prog 149 [.c (.str a), .c (.str b)] (.c (.int .i64 (cmpS a b))) := by
  refine Pure.run mixed c_cmp_Compare_string_ok (Nat.le_of_ble_eq_true rfl) fun σ hS hA => ?_
  clear hS hA
  repeat' first|refine yaG ?_|((first|apply yQ|apply yR|apply yS);(iterate 3 exact rfl);exact isNaNS_ok _)|(exfalso;omega)|(refine yaS ?_ ?_<;>intro _)
  all_goals refine .ret rfl (.int ?_)
  all_goals unfold cmpS
  all_goals repeat' split
  all_goals simp_all
theorem Or_ok (xs : List Int) (hx : xs.length ≤ 34359738368) : Pure Tryz.prog 107 [.c (.fz (xs.map encI))] (.c (.int .i64 (orI xs))) := by
  refine Pure.run mixed c_cmp_Or_int_ok (Nat.le_of_ble_eq_true rfl) fun σ hS hA => ?_
  clear hS hA
  repeat' first|refine yaG ?_|(exfalso;omega)|(refine yaS ?_ ?_<;>intro _)
  refine Go.keep [3, 6, 7, 8] (Go.loops (I := fun m fr τ => ∃ i : Nat, ∃ n L : Int, m = xs.length - i ∧ i ≤ xs.length ∧ n = i ∧ L = xs.length ∧ orI xs = orI (xs.drop i) ∧
    fr = [(3, .c (.int .i64 0)), (6, .c (.fz (xs.map encI))), (7, .c (.int .i64 L)), (8, .c (.int .i64 n))] ∧ τ = E σ []) ?_ _ _ _ ⟨0, _, _, rfl, Nat.zero_le _, rfl, by simp, rfl, rfl, rfl⟩)
  rintro m fr τ ⟨i, n, L, rfl, hi, hn, hL, hs, rfl, rfl⟩ hrec
  repeat' first|refine yaG ?_|((first|apply yG|apply yH|apply yI);exact rfl;(first|exact yX (enc := encI) rfl rfl hn (by omega) rfl))|(exfalso;omega)|(refine yaS ?_ ?_<;>intro _)
  · refine .ret rfl (.int ?_)
    rw [hs, List.drop_eq_getElem_cons (by omega)]
    simp [orI, *]
  · refine Go.keep [3, 6, 7, 8] (hrec _ _ _ ?_ ⟨i + 1, _, _, rfl, ?_, ?_, hL, ?_, rfl, rfl⟩)
    · omega
    · omega
    · exact (wrap_succ hn (by omega))
    · rw [hs, List.drop_eq_getElem_cons (by omega)]
      simp [orI, *]
  · refine .ret rfl (.int ?_)
    rw [hs, List.drop_eq_nil_of_le (by omega)]
    rfl
theorem order_ok (v w : Val) : Pure Tryz.prog 87 [.agg (encV v), .agg (encV w)] (.c (.int .i64 (order v w))) := by
  refine Pure.run mixed c_impl_order_ok (Nat.le_of_ble_eq_true rfl) fun σ hS hA => ?_
  clear hS hA
  repeat' first|refine yaG ?_|((first|apply yQ|apply yR|apply yS);(iterate 3 exact rfl);exact Compare_ok _ _)|((first|apply yQ|apply yR|apply yS);(iterate 3 exact rfl);exact CompareS_ok _ _)|((first|apply yQ|apply yR|apply yS);(iterate 3 exact rfl);exact Or_ok [cmpI v.k w.k, cmpI v.n w.n, cmpS v.s w.s] (by simp))|(exfalso;omega)|(refine yaS ?_ ?_<;>intro _)
  exact .ret rfl (.int rfl)
def l1Ord (v w : Val) : Int := if v.k < w.k ∨ (v.k = w.k ∧ (v.n < w.n ∨ bytesLt v.s w.s = true)) then -1 else if v = w then 0 else 1
theorem l1Order_ok (v w : Val) : Pure Tryz.prog 158 [.agg (encV v), .agg (encV w)] (.c (.int .i64 (l1Ord v w))) := by
  refine Pure.run mixed c_spec_l1Order_ok (Nat.le_of_ble_eq_true rfl) fun σ hS hA => ?_
  clear hS hA
  repeat' first|refine yaG ?_|(exfalso;omega)|(refine yaS ?_ ?_<;>intro _)
  all_goals refine .ret rfl (.int ?_)
  all_goals obtain ⟨vk, vn, vs⟩ := v
  all_goals obtain ⟨wk, wn, ws⟩ := w
  all_goals (simp_all [l1Ord] <;> split <;> simp_all <;> omega)
/-- As long and no longer: the values are right. -/
def areVals (xs : List Val) (most : Int) : Bool := decide ((xs.length : Int) ≤ most) && xs.all okVal
theorem areVals_ok (xs : List Val) (most : Int) (hm : 0 ≤ most) (hx : xs.length ≤ 34359738368) : Pure Tryz.prog 89 [.c (.fz (xs.map encV)), .c (.int .i64 most)] (.c (.bool (areVals xs most))) := by
  refine Pure.run mixed c_impl_areVals_ok (Nat.le_of_ble_eq_true rfl) fun σ hS hA => ?_
  clear hS hA
  repeat' first|refine yaG ?_|(exfalso;omega)|(refine yaS ?_ ?_<;>intro _)
  refine Go.keep [1, 7, 8, 9] (Go.loops (I := fun m fr τ => ∃ i : Nat, ∃ n L : Int, m = xs.length - i ∧ i ≤ xs.length ∧ n = i ∧ L = xs.length ∧ ((i : Int) ≤ most ∧ areVals xs most = (decide ((xs.length : Int) ≤ most) && (xs.drop i).all okVal)) ∧
    fr = [(1, .c (.int .i64 most)), (7, .c (.fz (xs.map encV))), (8, .c (.int .i64 L)), (9, .c (.int .i64 n))] ∧ τ = E σ []) ?_ _ _ _ ⟨0, _, _, rfl, Nat.zero_le _, rfl, by simp, ⟨hm, rfl⟩, rfl, rfl⟩)
  rintro m fr τ ⟨i, n, L, rfl, hi, hn, hL, ⟨hs1, hs⟩, rfl, rfl⟩ hrec
  repeat' first|refine yaG ?_|((first|apply yG|apply yH|apply yI);exact rfl;(first|exact yX (enc := encV) rfl rfl hn (by omega) rfl))|((first|apply Go.pcallB|apply Go.spcallB|apply Qg.pcallB);(iterate 3 exact rfl);exact ValOk_ok xs[i];intro _ _)|(exfalso;omega)|(refine yaS ?_ ?_<;>intro _)
  · refine .ret rfl (.bool ?_)
    clear hrec
    rw [hs]
    simp at *
    omega
  · refine .ret rfl (.bool ?_)
    clear hrec
    rw [hs, List.drop_eq_getElem_cons (by omega), List.all_cons]
    simp_all
  · refine Go.keep [1, 7, 8, 9] (hrec _ _ _ (by omega) ⟨i + 1, _, _, rfl, by omega, (wrap_succ hn (by omega)), hL, ⟨?_, ?_⟩, rfl, rfl⟩)
    · clear hrec
      simp at *
      omega
    · rw [hs, List.drop_eq_getElem_cons (by omega), List.all_cons]
      clear hrec
      simp_all
  · refine .ret rfl (.bool ?_)
    rw [hs, List.drop_eq_nil_of_le (by omega)]
    simp
    omega
theorem l2Vals_ok (xs : List Val) (hx : xs.length ≤ 34359738368) : Pure Tryz.prog 110 [.c (.fz (xs.map encV))] (.c (.bool (areVals xs 16))) := by
  refine Pure.run mixed c_spec_l2Vals_ok (Nat.le_of_ble_eq_true rfl) fun σ hS hA => ?_
  clear hS hA
  repeat' first|refine yaG ?_|(exfalso;omega)|(refine yaS ?_ ?_<;>intro _)
  refine Go.keep [0, 3] (Go.loops (I := fun m fr τ => ∃ i : Nat, ∃ n : Int, m = xs.length - i ∧ i ≤ xs.length ∧ n = i ∧ areVals xs 16 = (decide ((xs.length : Int) ≤ 16) && (xs.drop i).all okVal) ∧
    fr = [(0, .c (.fz (xs.map encV))), (3, .c (.int .i64 n))] ∧ τ = E σ []) ?_ _ _ _ ⟨0, _, rfl, Nat.zero_le _, rfl, rfl, rfl, rfl⟩)
  rintro m fr τ ⟨i, n, rfl, hi, hn, hs, rfl, rfl⟩ hrec
  repeat' first|refine yaG ?_|((first|apply yG|apply yH|apply yI);exact rfl;(first|exact yX (enc := encV) rfl rfl hn (by first|omega|(clear hrec;simp only [List.length_map] at *;omega)) rfl))|((first|apply Go.pcallB|apply Go.spcallB|apply Qg.pcallB);(iterate 3 exact rfl);exact sValOk_ok xs[i];intro _ _)|(exfalso;omega)|(refine yaS ?_ ?_<;>intro _)
  · refine .ret rfl (.bool ?_)
    rw [hs, List.drop_eq_getElem_cons (i := i) (by first | omega | (clear hrec; simp only [List.length_map] at *; omega)), List.all_cons]
    clear hrec
    simp_all
  · refine Go.keep [0, 3] (hrec _ _ _ (by first | omega | (clear hrec; simp only [List.length_map] at *; omega)) ⟨i + 1, _, rfl, (by first | omega | (clear hrec; simp only [List.length_map] at *; omega)), (wrap_succ hn (by omega)), ?_, rfl, rfl⟩)
    rw [hs, List.drop_eq_getElem_cons (i := i) (by first | omega | (clear hrec; simp only [List.length_map] at *; omega)), List.all_cons]
    clear hrec
    simp_all
  · refine .ret rfl (.bool ?_)
    rw [hs, List.drop_eq_nil_of_le (by first | omega | (clear hrec; simp only [List.length_map] at *; omega))]
    simp
def orderOf : List Val → List Val → Int
  | v :: r, w :: s => if order v w = 0 then orderOf r s else order v w
  | _, _ => 0
theorem orderOf_ok (xs ys : List Val) (hx : xs.length ≤ 34359738368) (hl : xs.length = ys.length) : Pure Tryz.prog 108 [.c (.fz (xs.map encV)), .c (.fz (ys.map encV))] (.c (.int .i64 (orderOf xs ys))) := by
  refine Pure.run mixed c_impl_orderOf_ok (Nat.le_of_ble_eq_true rfl) fun σ hS hA => ?_
  clear hS hA
  repeat' first|refine yaG ?_|(exfalso;omega)|(refine yaS ?_ ?_<;>intro _)
  refine Go.keep [1, 8, 9, 10] (Go.loops (I := fun m fr τ => ∃ i : Nat, ∃ n L : Int, m = xs.length - i ∧ i ≤ xs.length ∧ n = i ∧ L = xs.length ∧ orderOf xs ys = orderOf (xs.drop i) (ys.drop i) ∧
    fr = [(1, .c (.fz (ys.map encV))), (8, .c (.fz (xs.map encV))), (9, .c (.int .i64 L)), (10, .c (.int .i64 n))] ∧ τ = E σ []) ?_ _ _ _ ⟨0, _, _, rfl, Nat.zero_le _, rfl, by simp, rfl, rfl, rfl⟩)
  rintro m fr τ ⟨i, n, L, rfl, hi, hn, hL, hs, rfl, rfl⟩ hrec
  repeat' first|refine yaG ?_|((first|apply yG|apply yH|apply yI);exact rfl;(first|exact yX (enc := encV) rfl rfl hn (by first|omega|(clear hrec;simp only [List.length_map] at *;omega)) rfl))|((first|apply Go.pcallI|apply Go.spcallI|apply Qg.pcallI);(iterate 3 exact rfl);exact order_ok xs[i] ys[i];intro _ _)|(exfalso;omega)|(refine yaS ?_ ?_<;>intro _)
  · refine .ret rfl (.int ?_)
    rw [hs, List.drop_eq_getElem_cons (i := i) (by first | omega | (clear hrec; simp only [List.length_map] at *; omega)), List.drop_eq_getElem_cons (i := i) (by first | omega | (clear hrec; simp only [List.length_map] at *; omega))]
    simp only [orderOf]
    clear hrec
    simp_all [orderOf]
  · refine Go.keep [1, 8, 9, 10] (hrec _ _ _ (by first | omega | (clear hrec; simp only [List.length_map] at *; omega)) ⟨i + 1, _, _, rfl, (by first | omega | (clear hrec; simp only [List.length_map] at *; omega)), (wrap_succ hn (by omega)), hL, ?_, rfl, rfl⟩)
    rw [hs, List.drop_eq_getElem_cons (i := i) (by first | omega | (clear hrec; simp only [List.length_map] at *; omega)), List.drop_eq_getElem_cons (i := i) (by first | omega | (clear hrec; simp only [List.length_map] at *; omega))]
    simp only [orderOf]
    clear hrec
    simp_all [orderOf]
  · refine .ret rfl (.int ?_)
    rw [hs, List.drop_eq_nil_of_le (by first | omega | (clear hrec; simp only [List.length_map] at *; omega)), List.drop_eq_nil_of_le (by first | omega | (clear hrec; simp only [List.length_map] at *; omega))]
    rfl
end Go.Proofs.YtdgnfdljkghpjaaGreat.Am

/- Entries: contracts of the functions that read them. -/
set_option linter.unusedVariables false
set_option linter.unusedSimpArgs false
namespace Go.Proofs.YtdgnfdljkghpjaaGreat.Am

structure Entry where
  key : List Val
  id : Int
  deriving DecidableEq
def encE (e : Entry) : List Ce := [.fz (e.key.map encV), .int .i64 e.id]
def entOrd (e f : Entry) : Int := orI [orderOf e.key f.key, cmpI e.id f.id]
theorem entryOrder_ok (e f : Entry) (hx : e.key.length ≤ 34359738368) (hl : e.key.length = f.key.length) : Pure Tryz.prog 56 [.agg (encE e), .agg (encE f)] (.c (.int .i64 (entOrd e f))) := by
  refine Pure.run mixed c_impl_entryOrder_ok (Nat.le_of_ble_eq_true rfl) fun σ hS hA => ?_
  clear hS hA
  repeat' first|refine yaG ?_|((first|apply yQ|apply yR|apply yS);(iterate 3 exact rfl);exact orderOf_ok _ _ hx hl)|((first|apply yQ|apply yR|apply yS);(iterate 3 exact rfl);exact Compare_ok _ _)|((first|apply yQ|apply yR|apply yS);(iterate 3 exact rfl);exact Or_ok [orderOf e.key f.key, cmpI e.id f.id] (by simp))|(exfalso;omega)|(refine yaS ?_ ?_<;>intro _)
  exact .ret rfl (.int rfl)
def lessK : List Val → List Val → Int → Int → Bool
  | v :: r, w :: s, a, b => if l1Ord v w = 0 then lessK r s a b else decide (l1Ord v w < 0)
  | _, _, a, b => decide (a < b)
theorem lessK_end {xs ys : List Val} {a b : Int} (h : xs = [] ∨ ys = []) : lessK xs ys a b = decide (a < b) := by
  rcases h with rfl | rfl
  · rfl
  · cases xs <;> rfl
theorem l11Less_ok (e f : Entry) (hx : e.key.length ≤ 34359738368) : Pure Tryz.prog 112 [.agg (encE e), .agg (encE f)] (.c (.bool (lessK e.key f.key e.id f.id))) := by
  refine Pure.run mixed c_spec_l11Less_ok (Nat.le_of_ble_eq_true rfl) fun σ hS hA => ?_
  clear hS hA
  repeat' first|refine yaG ?_|(exfalso;omega)|(refine yaS ?_ ?_<;>intro _)
  refine Go.keep [2, 3, 5] (Go.loops (I := fun m fr τ => ∃ i : Nat, ∃ n : Int, m = e.key.length - i ∧ i ≤ e.key.length ∧ n = i ∧ lessK e.key f.key e.id f.id = lessK (e.key.drop i) (f.key.drop i) e.id f.id ∧
    fr = [(2, .c (.fp (encE e))), (3, .c (.fp (encE f))), (5, .c (.int .i64 n))] ∧ τ = E σ []) ?_ _ _ _ ⟨0, _, rfl, Nat.zero_le _, rfl, rfl, rfl, rfl⟩)
  rintro m fr τ ⟨i, n, rfl, hi, hn, hs, rfl, rfl⟩ hrec
  repeat' first|refine yaG ?_|((first|apply yG|apply yH|apply yI);exact rfl;(first|exact yX (enc := encV) rfl rfl hn (by first|omega|(clear hrec;simp only [List.length_map] at *;omega)) rfl))|((first|apply Go.pcallI|apply Go.spcallI|apply Qg.pcallI);(iterate 3 exact rfl);exact l1Order_ok e.key[i] f.key[i];intro _ _)|(exfalso;omega)|(refine yaS ?_ ?_<;>intro _)
  · refine .ret rfl (.bool ?_)
    rw [hs, List.drop_eq_getElem_cons (i := i) (by first | omega | (clear hrec; simp only [List.length_map] at *; omega)), List.drop_eq_getElem_cons (i := i) (by first | omega | (clear hrec; simp only [List.length_map] at *; omega))]
    simp only [lessK]
    clear hrec
    simp_all
  · refine Go.keep [2, 3, 5] (hrec _ _ _ (by first | omega | (clear hrec; simp only [List.length_map] at *; omega)) ⟨i + 1, _, rfl, (by first | omega | (clear hrec; simp only [List.length_map] at *; omega)), (wrap_succ hn (by omega)), ?_, rfl, rfl⟩)
    rw [hs, List.drop_eq_getElem_cons (i := i) (by first | omega | (clear hrec; simp only [List.length_map] at *; omega)), List.drop_eq_getElem_cons (i := i) (by first | omega | (clear hrec; simp only [List.length_map] at *; omega))]
    simp only [lessK]
    clear hrec
    simp_all
  · refine .ret rfl (.bool ?_)
    rw [hs, lessK_end]
    rw [List.drop_eq_nil_iff, List.drop_eq_nil_iff]
    omega
  · refine .ret rfl (.bool ?_)
    rw [hs, lessK_end]
    rw [List.drop_eq_nil_iff, List.drop_eq_nil_iff]
    omega
end Go.Proofs.YtdgnfdljkghpjaaGreat.Am

/- Entries: which lists of them are right. -/
set_option linter.unusedVariables false
set_option linter.unusedSimpArgs false
namespace Go.Proofs.YtdgnfdljkghpjaaGreat.Am

def risen (p : Option Entry) (e : Entry) : Bool := match p with | none => true | some q => decide (entOrd q e < 0)
def okOne (n0 : Nat) (p : Option Entry) (e : Entry) : Bool := decide (0 < e.key.length) && decide (e.key.length = n0) && areVals e.key 16 && isIn e.id 1 1000000000 && risen p e
def okRest (n0 : Nat) : Option Entry → List Entry → Bool
  | _, [] => true
  | p, e :: r => okOne n0 p e && okRest n0 (some e) r
theorem okRest_cons {n0 : Nat} {p : Option Entry} {e : Entry} {r : List Entry} : okRest n0 p (e :: r) = (okOne n0 p e && okRest n0 (some e) r) := by cases p <;> rfl
def okEnts (l : List Entry) : Bool := okRest (match l with | [] => 0 | e :: _ => e.key.length) none l && decide ((l.length : Int) ≤ 120)
def headLen (l : List Entry) : Nat := match l with | [] => 0 | e :: _ => e.key.length
theorem headLen_eq {l : List Entry} (h : 0 < l.length) : headLen l = l[0].key.length := by
  cases l with
  | nil => simp at h
  | cons e r => rfl

theorem okOne_of {n0 : Nat} {p : Option Entry} {e : Entry} (h1 : 0 < e.key.length) (h2 : e.key.length = n0) (h3 : areVals e.key 16 = true) (h4 : isIn e.id 1 1000000000 = true) (h5 : risen p e = true) : okOne n0 p e = true := by
  simp [okOne, h2, h3, h4, h5]
  omega

theorem areEntries_ok (l : List Entry) (hx : l.length ≤ 34359738368) (hk : ∀ e ∈ l, e.key.length ≤ 34359738368) : Pure Tryz.prog 52 [.c (.fz (l.map encE))] (.c (.bool (okEnts l))) := by
  refine Pure.run mixed c_impl_areEntries_ok (Nat.le_of_ble_eq_true rfl) fun σ hS hA => ?_
  clear hS hA
  repeat' first|refine yaG ?_|(exfalso;omega)|(refine yaS ?_ ?_<;>intro _)
  refine Go.keep [0, 5, 6, 7] (Go.loops (I := fun m fr τ => ∃ i : Nat, ∃ n L : Int, m = l.length - i ∧ i ≤ l.length ∧ n = i ∧ L = l.length ∧
    (∃ p : Option Entry, okEnts l = (okRest (headLen l) p (l.drop i) && decide ((l.length : Int) ≤ 120)) ∧ ((i = 0 ∧ p = none) ∨ ∃ j, ∃ hj : j < l.length, i = j + 1 ∧ p = some l[j] ∧ l[j].key.length = headLen l)) ∧
    fr = [(0, .c (.fz (l.map encE))), (5, .c (.fz (l.map encE))), (6, .c (.int .i64 L)), (7, .c (.int .i64 n))] ∧ τ = E σ []) ?_ _ _ _ ⟨0, _, _, rfl, Nat.zero_le _, rfl, rfl, ⟨none, rfl, .inl ⟨rfl, rfl⟩⟩, rfl, rfl⟩)
  rintro m fr τ ⟨i, n, L, rfl, hi, hn, hL, ⟨p, hs, hp⟩, rfl, rfl⟩ hrec
  by_cases hlt : i < l.length
  · have hki := hk _ (List.getElem_mem hlt)
    have hh := headLen_eq (show 0 < l.length by omega)
    rw [List.drop_eq_getElem_cons hlt, okRest_cons] at hs
    rcases hp with ⟨rfl, rfl⟩ | ⟨j, hj, rfl, rfl, hjk⟩
    · repeat' first|refine yaG ?_|((first|apply yG|apply yH|apply yI);exact rfl;(first|exact yX (enc := encE) rfl rfl hn hlt rfl|exact yX (enc := encE) (n := 0) rfl rfl rfl (by first|omega|(clear hrec;simp only [List.length_map] at *;omega)) rfl))|((first|apply Go.pcallB|apply Go.spcallB|apply Qg.pcallB);(iterate 3 exact rfl);(first|exact areVals_ok l[0].key 16 (by decide) hki|exact in_ok _ _ _);intro _ _)|(exfalso;omega)|(refine yaS ?_ ?_<;>intro _)
      all_goals first
        | (refine .ret rfl (.bool ?_); clear hrec; rw [hs]; clear hs hk; (simp_all [okOne, risen] <;> intros <;> omega); done)
        | (refine Go.keep [0, 5, 6, 7] (hrec _ _ _ (by first | omega | (clear hrec; simp only [List.length_map] at *; omega)) ⟨0 + 1, _, _, rfl, (by first | omega | (clear hrec; simp only [List.length_map] at *; omega)), (wrap_succ hn (by omega)), hL, ⟨some l[0], ?_, .inr ⟨0, hlt, rfl, rfl, hh.symm⟩⟩, rfl, rfl⟩); clear hrec; rw [hs, okOne_of (by omega) (by omega) (by simp_all) (by simp_all) (by simp_all [risen]), Bool.true_and])
    · have hkj := hk _ (List.getElem_mem hj)
      repeat' first|refine yaG ?_|((first|apply yG|apply yH|apply yI);exact rfl;(first|exact yX (enc := encE) rfl rfl hn hlt rfl|exact yX (enc := encE) (n := 0) rfl rfl rfl (by first|omega|(clear hrec;simp only [List.length_map] at *;omega)) rfl|exact yX (enc := encE) rfl rfl (wrap_pred hn (by first|omega|(clear hrec;simp only [List.length_map] at *;omega))) hj rfl))|((first|apply Go.pcallB|apply Go.spcallB|apply Qg.pcallB);(iterate 3 exact rfl);(first|exact areVals_ok l[j+1].key 16 (by decide) hki|exact in_ok _ _ _);intro _ _)|((first|apply Go.pcallI|apply Go.spcallI|apply Qg.pcallI);(iterate 3 exact rfl);exact entryOrder_ok l[j] l[j+1] hkj (by omega);intro _ _)|(exfalso;omega)|(refine yaS ?_ ?_<;>intro _)
      all_goals first
        | (refine .ret rfl (.bool ?_); clear hrec; rw [hs]; clear hs hk; (simp_all [okOne, risen] <;> intros <;> omega); done)
        | (refine Go.keep [0, 5, 6, 7] (hrec _ _ _ (by first | omega | (clear hrec; simp only [List.length_map] at *; omega)) ⟨j + 1 + 1, _, _, rfl, (by first | omega | (clear hrec; simp only [List.length_map] at *; omega)), (wrap_succ hn (by omega)), hL, ⟨some l[j + 1], ?_, .inr ⟨j + 1, hlt, rfl, rfl, by omega⟩⟩, rfl, rfl⟩); clear hrec; rw [hs, okOne_of (by omega) (by omega) (by simp_all) (by simp_all) (by simp_all [risen]), Bool.true_and])
        | (refine .ret rfl (.bool ?_); clear hrec; rw [hs]; clear hs hk hjk; (simp_all [okOne, risen] <;> intros <;> omega); done)
  · repeat' first|refine yaG ?_|(exfalso;omega)|(refine yaS ?_ ?_<;>intro _)
    refine .ret rfl (.bool ?_)
    rw [hs, List.drop_eq_nil_of_le (by omega)]
    simp [okRest]

theorem bytesLt_irrefl (a : List UInt8) : bytesLt a a = false := by
  induction a with
  | nil => rfl
  | cons x r ih => simp_all [bytesLt, Op.bytesLess]
theorem l1Ord_order {v w : Val} (hv : okVal v = true) (hw : okVal w = true) : l1Ord v w = order v w := by
  obtain ⟨a, b, s⟩ := v
  obtain ⟨c, d, t⟩ := w
  simp only [okVal, isIn, Bool.or_eq_true, Bool.and_eq_true, beq_iff_eq, decide_eq_true_eq] at hv hw
  simp only [l1Ord, order, orI, cmpI, cmpS, Val.mk.injEq]
  rcases hv with (⟨⟨rfl, rfl⟩, rfl⟩ | ⟨⟨rfl, hb⟩, rfl⟩) | ⟨⟨rfl, rfl⟩, hs⟩ <;> rcases hw with (⟨⟨rfl, rfl⟩, rfl⟩ | ⟨⟨rfl, hd⟩, rfl⟩) | ⟨⟨rfl, rfl⟩, ht⟩ <;> simp [bytesLt_irrefl]
  · by_cases h1 : b < d
    · simp [h1]
    · by_cases h2 : d < b
      · have : ¬ b = d := by omega
        simp [h1, h2, this]
      · have : b = d := by omega
        subst this
        simp
theorem areVals_head {v : Val} {r : List Val} {m : Int} (h : areVals (v :: r) m = true) : okVal v = true ∧ areVals r m = true := by
  simp only [areVals, List.all_cons, Bool.and_eq_true, decide_eq_true_eq, List.length_cons] at h ⊢
  exact ⟨h.2.1, by omega, h.2.2⟩
theorem lessK_order : ∀ {xs ys : List Val} {a b : Int}, areVals xs 16 = true → areVals ys 16 = true → xs.length = ys.length → lessK xs ys a b = decide (orI [orderOf xs ys, cmpI a b] < 0)
  | [], [], a, b, _, _, _ => by
    simp only [lessK, orderOf, orI, cmpI]
    by_cases h : a < b
    · simp [h]
    · by_cases h2 : b < a
      · simp [h, h2]
      · simp [h, h2]
  | v :: r, w :: s, a, b, hv, hw, hl => by
    obtain ⟨h1, h2⟩ := areVals_head hv
    obtain ⟨h3, h4⟩ := areVals_head hw
    have ih := lessK_order (a := a) (b := b) h2 h4 (by simpa using hl)
    simp only [lessK, orderOf, l1Ord_order h1 h3]
    by_cases h : order v w = 0
    · simp [h, ih]
    · simp [h, orI]

theorem risen_less {q e : Entry} (h1 : areVals q.key 16 = true) (h2 : areVals e.key 16 = true) (h3 : q.key.length = e.key.length) : risen (some q) e = lessK q.key e.key q.id e.id := (lessK_order h1 h2 h3).symm
theorem l11Right_ok (l : List Entry) (hx : l.length ≤ 34359738368) (hk : ∀ e ∈ l, e.key.length ≤ 34359738368) : Pure Tryz.prog 57 [.c (.fz (l.map encE))] (.c (.bool (okEnts l))) := by
  refine Pure.run mixed c_spec_l11Right_ok (Nat.le_of_ble_eq_true rfl) fun σ hS hA => ?_
  clear hS hA
  repeat' first|refine yaG ?_|(exfalso;omega)|(refine yaS ?_ ?_<;>intro _)
  refine Go.keep [0, 3] (Go.loops (I := fun m fr τ => ∃ i : Nat, ∃ n : Int, m = l.length - i ∧ i ≤ l.length ∧ n = i ∧
    (∃ p : Option Entry, okEnts l = (okRest (headLen l) p (l.drop i) && decide ((l.length : Int) ≤ 120)) ∧ ((i = 0 ∧ p = none) ∨ ∃ j, ∃ hj : j < l.length, i = j + 1 ∧ p = some l[j] ∧ l[j].key.length = headLen l ∧ areVals l[j].key 16 = true)) ∧
    fr = [(0, .c (.fz (l.map encE))), (3, .c (.int .i64 n))] ∧ τ = E σ []) ?_ _ _ _ ⟨0, _, rfl, Nat.zero_le _, rfl, ⟨none, rfl, .inl ⟨rfl, rfl⟩⟩, rfl, rfl⟩)
  rintro m fr τ ⟨i, n, rfl, hi, hn, ⟨p, hs, hp⟩, rfl, rfl⟩ hrec
  by_cases hlt : i < l.length
  · have hki := hk _ (List.getElem_mem hlt)
    have hh := headLen_eq (show 0 < l.length by omega)
    rw [List.drop_eq_getElem_cons hlt, okRest_cons] at hs
    rcases hp with ⟨rfl, rfl⟩ | ⟨j, hj, rfl, rfl, hjk, hjv⟩
    · repeat' first|refine yaG ?_|((first|apply yG|apply yH|apply yI);exact rfl;(first|exact yX (enc := encE) rfl rfl hn hlt rfl|exact yX (enc := encE) (n := 0) rfl rfl rfl (by first|omega|(clear hrec;simp only [List.length_map] at *;omega)) rfl))|((first|apply Go.pcallB|apply Go.spcallB|apply Qg.pcallB);(iterate 3 exact rfl);(first|exact l2Vals_ok l[0].key hki|exact l1In_ok _ _ _);intro _ _)|(exfalso;omega)|(refine yaS ?_ ?_<;>intro _)
      all_goals first
        | (refine .ret rfl (.bool ?_); clear hrec; rw [hs]; clear hs hk; (simp_all [okOne, risen] <;> intros <;> omega); done)
        | (refine Go.keep [0, 3] (hrec _ _ _ (by first | omega | (clear hrec; simp only [List.length_map] at *; omega)) ⟨0 + 1, _, rfl, (by first | omega | (clear hrec; simp only [List.length_map] at *; omega)), (wrap_succ hn (by omega)), ⟨some l[0], ?_, .inr ⟨0, hlt, rfl, rfl, hh.symm, by simp_all⟩⟩, rfl, rfl⟩); clear hrec; rw [hs, okOne_of (by omega) (by omega) (by simp_all) (by simp_all) (by simp_all [risen]), Bool.true_and])
    · have hkj := hk _ (List.getElem_mem hj)
      repeat' first|refine yaG ?_|((first|apply yG|apply yH|apply yI);exact rfl;(first|exact yX (enc := encE) rfl rfl hn hlt rfl|exact yX (enc := encE) (n := 0) rfl rfl rfl (by first|omega|(clear hrec;simp only [List.length_map] at *;omega)) rfl|exact yX (enc := encE) rfl rfl (wrap_pred hn (by first|omega|(clear hrec;simp only [List.length_map] at *;omega))) hj rfl))|((first|apply Go.pcallB|apply Go.spcallB|apply Qg.pcallB);(iterate 3 exact rfl);(first|exact l2Vals_ok l[j+1].key hki|exact l1In_ok _ _ _|exact l11Less_ok l[j] l[j+1] hkj);intro _ _)|(exfalso;omega)|(refine yaS ?_ ?_<;>intro _)
      all_goals first
        | (refine .ret rfl (.bool ?_); clear hrec; rw [hs]; clear hs hk; (simp_all [okOne, risen] <;> intros <;> omega); done)
        | (refine .ret rfl (.bool ?_); clear hrec; rw [hs]; clear hs hk hjk; (simp_all [okOne, risen] <;> intros <;> omega); done)
        | (refine .ret rfl (.bool ?_); clear hrec; rw [hs]; clear hs hk; have hq := risen_less (q := l[j]) (e := l[j + 1]) hjv (by (try clear hs); simp_all) (by omega); (simp_all [okOne] <;> intros <;> omega); done)
        | (refine Go.keep [0, 3] (hrec _ _ _ (by first | omega | (clear hrec; simp only [List.length_map] at *; omega)) ⟨j + 1 + 1, _, rfl, (by first | omega | (clear hrec; simp only [List.length_map] at *; omega)), (wrap_succ hn (by omega)), ⟨some l[j + 1], ?_, .inr ⟨j + 1, hlt, rfl, rfl, by omega, by simp_all⟩⟩, rfl, rfl⟩); clear hrec; have hq := risen_less (q := l[j]) (e := l[j + 1]) hjv (by (try clear hs); simp_all) (by omega); rw [hs, okOne_of (by omega) (by omega) (by simp_all) (by simp_all) (by rw [hq]; simp_all), Bool.true_and])
  · repeat' first|refine yaG ?_|(exfalso;omega)|(refine yaS ?_ ?_<;>intro _)
    refine .ret rfl (.bool ?_)
    rw [hs, List.drop_eq_nil_of_le (by omega)]
    simp [okRest]
end Go.Proofs.YtdgnfdljkghpjaaGreat.Am

/- Range: the program's and the reference's. -/
set_option linter.unusedVariables false
set_option linter.unusedSimpArgs false
namespace Go.Proofs.YtdgnfdljkghpjaaGreat.Am

theorem bytesLt_cases : ∀ (a b : List UInt8), bytesLt b a = (!bytesLt a b && !(a == b))
  | [], [] => rfl
  | [], _ :: _ => rfl
  | _ :: _, [] => rfl
  | x :: r, y :: s => by
    have ih := bytesLt_cases r s
    simp only [bytesLt] at ih
    simp only [bytesLt, Op.bytesLess, ih, List.cons_beq_cons]
    by_cases h : x = y
    · subst h
      simp [UInt8.lt_irrefl]
    · have h' : ¬ y = x := fun e => h e.symm
      simp only [beq_eq_false_iff_ne.2 h, beq_eq_false_iff_ne.2 h', Bool.false_and, Bool.or_false, Bool.not_false, Bool.and_true]
      rcases UInt8.lt_or_lt_of_ne h with h1 | h1
      · have h2 : ¬ y < x := UInt8.lt_asymm h1
        simp [h1, h2]
      · have h2 : ¬ x < y := UInt8.lt_asymm h1
        simp [h1, h2]
end Go.Proofs.YtdgnfdljkghpjaaGreat.Am

/- The laws' helpers on values and entries: sizes, copies, equality. -/
set_option linter.unusedVariables false
set_option linter.unusedSimpArgs false
namespace Go.Proofs.YtdgnfdljkghpjaaGreat.Am

theorem flatV (v : Val) : ∀ x ∈ encV v, Flat x := by
  intro x hx
  simp only [encV, List.mem_cons, List.not_mem_nil, or_false] at hx
  rcases hx with rfl | rfl | rfl <;> constructor
end Go.Proofs.YtdgnfdljkghpjaaGreat.Am

/- The laws' marks on values and entries. -/
set_option linter.unusedVariables false
set_option linter.unusedSimpArgs false
namespace Go.Proofs.YtdgnfdljkghpjaaGreat.Am

theorem put_off {σ : Store} {S : Nat → Prop} {id : Nat} {x : Nat × List (List Ce)} (hS : S id) (a : Nat) (h : ¬ S a) : (σ.put id x).get a = σ.get a := put_ne (fun e => h (by rw [e]; exact hS))
end Go.Proofs.YtdgnfdljkghpjaaGreat.Am

/- The laws' marks on values and entries, and whether they are held. -/
set_option linter.unusedVariables false
set_option linter.unusedSimpArgs false
namespace Go.Proofs.YtdgnfdljkghpjaaGreat.Am

theorem sl_inj {id v i n c id' v' i' n' c' : Nat} (h : Ce.sl id v i n c = Ce.sl id' v' i' n' c') : id = id' ∧ v = v' ∧ n = n' := by
  injection h with a b c d
  exact ⟨a, b, d⟩
end Go.Proofs.YtdgnfdljkghpjaaGreat.Am

/- The law FnExactRange: its function returns true. -/
set_option linter.unusedVariables false
set_option linter.unusedSimpArgs false
namespace Go.Proofs.YtdgnfdljkghpjaaGreat.Am

theorem flatI (xs : List Int) : ∀ e ∈ xs.map encI, e.length = 1 ∧ ∀ x ∈ e, Flat x := by
  intro e he
  obtain ⟨a, _, rfl⟩ := List.mem_map.1 he
  refine ⟨rfl, fun x hx => ?_⟩
  simp only [encI, List.mem_cons, List.not_mem_nil, or_false] at hx
  subst hx
  exact .int _ _
end Go.Proofs.YtdgnfdljkghpjaaGreat.Am

/- The laws' helpers on types, printed by a program: Tok, Check, Unique, Fk, Col. -/
set_option linter.unusedVariables false
set_option linter.unusedSimpArgs false
namespace Go.Proofs.YtdgnfdljkghpjaaGreat.Am
inductive Steps : List (Int → Int) → Prop where
  | nil : Steps []
  | cons {f : Int → Int} {r : List (Int → Int)} (h : ∀ l, 0 ≤ l → f l ≤ l) (k : Steps r) : Steps (f :: r)
def bV (N : Nat) (v : Val) : Prop := v.s.length ≤ N
/-- Blocks 0 and 1 are a function's variables: what lies behind them stays. -/
theorem Has.more {σ : Store} {S : Nat → Prop} {y x : Ce} {l : List (Nat × List (List Ce))} (h : ∀ A B, Has (E σ (A :: B :: l)) S y x) (hS : ∀ a, S a → σ.next + 2 ≤ a ∧ a < σ.next + 2 + l.length) (m : List (Nat × List (List Ce))) : ∀ A B, Has (E σ (A :: B :: (l ++ m))) S y x := by
  intro A B
  refine (h A B).frame fun a ha => ?_
  have := hS a ha
  rw [E_ge (by omega), E_ge (by omega)]
  obtain ⟨q, hq⟩ : ∃ q, a - σ.next = q + 2 := ⟨a - σ.next - 2, by omega⟩
  rw [hq]
  simp only [List.getElem?_cons_succ]
  rw [List.getElem?_append_left (by omega)]
theorem HasL.skip {τ : Store} {S : Nat → Prop} {c : Ce} {ys xs : List Ce} (hc : Flat c) (k : HasL τ S ys xs) : HasL τ S (c :: ys) (c :: xs) :=
  (HasL.two (S := fun _ => False) (.c hc) k (fun _ h => h.elim)).mono fun a ha => ha.elim (fun h => h.elim) id
structure Tok where
  kind : Int
  col : Int
  v : Val
  deriving DecidableEq
def encTok (a : Tok) : List Ce := [.int .i64 a.kind, .int .i64 a.col, .int .i64 a.v.k, .int .i64 a.v.n, .str a.v.s]
theorem flatTok (a : Tok) : ∀ x ∈ encTok a, Flat x := by
  intro x hx
  simp only [encTok, List.mem_cons, List.not_mem_nil, or_false] at hx
  rcases hx with rfl | rfl | rfl | rfl | rfl <;> constructor
def bTok (N : Nat) (a : Tok) : Prop := bV N a.v
structure Chk where
  expr : List Tok
  deriving DecidableEq
def encChk (a : Chk) : List Ce := [.fz (a.expr.map encTok)]
def bChk (N : Nat) (a : Chk) : Prop := (a.expr.length ≤ N ∧ ∀ x ∈ a.expr, bTok N x)
structure Uniq where
  cols : List Int
  deriving DecidableEq
def encUniq (a : Uniq) : List Ce := [.fz (a.cols.map encI)]
def bUniq (N : Nat) (a : Uniq) : Prop := a.cols.length ≤ N
structure Fk where
  cols : List Int
  table : List UInt8
  onDelete : Int
  onUpdate : Int
  deferred : Bool
  deriving DecidableEq
def encFk (a : Fk) : List Ce := [.fz (a.cols.map encI), .str a.table, .int .i64 a.onDelete, .int .i64 a.onUpdate, .bool a.deferred]
def bFk (N : Nat) (a : Fk) : Prop := a.cols.length ≤ N ∧ a.table.length ≤ N
structure Col where
  name : List UInt8
  kind : Int
  notNull : Bool
  dflt : Val
  deriving DecidableEq
def encCol (a : Col) : List Ce := [.str a.name, .int .i64 a.kind, .bool a.notNull, .int .i64 a.dflt.k, .int .i64 a.dflt.n, .str a.dflt.s]
theorem flatCol (a : Col) : ∀ x ∈ encCol a, Flat x := by
  intro x hx
  simp only [encCol, List.mem_cons, List.not_mem_nil, or_false] at hx
  rcases hx with rfl | rfl | rfl | rfl | rfl | rfl <;> constructor
def bCol (N : Nat) (a : Col) : Prop := a.name.length ≤ N ∧ bV N a.dflt
end Go.Proofs.YtdgnfdljkghpjaaGreat.Am

/- The laws' helpers on types, printed by a program: Table, Term, Select, Trigger. -/
set_option linter.unusedVariables false
set_option linter.unusedSimpArgs false
namespace Go.Proofs.YtdgnfdljkghpjaaGreat.Am
structure Table where
  name : List UInt8
  cols : List Col
  key : List Int
  uniques : List Uniq
  checks : List Chk
  fks : List Fk
  deriving DecidableEq
def encTable (a : Table) : List Ce := [.str a.name, .fz (a.cols.map encCol), .fz (a.key.map encI), .fz (a.uniques.map encUniq), .fz (a.checks.map encChk), .fz (a.fks.map encFk)]
def bTable (N : Nat) (a : Table) : Prop := a.name.length ≤ N ∧ (a.cols.length ≤ N ∧ ∀ x ∈ a.cols, bCol N x) ∧ a.key.length ≤ N ∧ (a.uniques.length ≤ N ∧ ∀ x ∈ a.uniques, bUniq N x) ∧ (a.checks.length ≤ N ∧ ∀ x ∈ a.checks, bChk N x) ∧ (a.fks.length ≤ N ∧ ∀ x ∈ a.fks, bFk N x)
end Go.Proofs.YtdgnfdljkghpjaaGreat.Am

/- Names and expressions: what the program and its reference say of them. -/
set_option linter.unusedVariables false
set_option linter.unusedSimpArgs false
namespace Go.Proofs.YtdgnfdljkghpjaaGreat.Am

theorem aop_idxS {fr : Fr} {σ : Store} {x y : Opd} {kd : IntKind} {s : List UInt8} {z : Int} {n : Nat} (hx : x.ev fr = some (.c (.str s))) (hy : y.ev fr = some (.c (.int kd z))) (hz : z = (n : Int)) (hn : n < s.length) : aop (.idx x y) fr σ = some (.c (.int .u8 (s[n].toNat : Int)), σ) := by
  subst hz
  simp [aop, hx, hy, hn]
def letter (c : UInt8) : Bool := decide (97 ≤ c.toNat) && decide (c.toNat ≤ 122)
def isNameF (s : List UInt8) : Bool := s.all letter && isIn s.length 1 8
theorem l3Name_ok (s : List UInt8) (hx : s.length ≤ 34359738368) : Pure Tryz.prog 238 [.c (.str s)] (.c (.bool (isNameF s))) := by
  refine Pure.run mixed c_spec_l3Name_ok (Nat.le_of_ble_eq_true rfl) fun σ hS hA => ?_
  clear hS hA
  repeat' first|refine yaG ?_|(exfalso;omega)|(refine yaS ?_ ?_<;>intro _)
  refine Go.keep [0, 3] (Go.loops (I := fun m fr τ => ∃ i : Nat, ∃ n : Int, m = s.length - i ∧ i ≤ s.length ∧ n = i ∧ s.all letter = (s.drop i).all letter ∧
    fr = [(0, .c (.str s)), (3, .c (.int .i64 n))] ∧ τ = E σ []) ?_ _ _ _ ⟨0, _, rfl, Nat.zero_le _, rfl, rfl, rfl, rfl⟩)
  rintro m fr τ ⟨i, n, rfl, hi, hn, hs, rfl, rfl⟩ hrec
  by_cases hlt : i < s.length
  · have hd := List.drop_eq_getElem_cons hlt
    repeat' first|refine yaG ?_|((first|apply yG|apply yH|apply yI);exact rfl;(first|exact aop_idxS rfl rfl hn hlt))|(exfalso;omega)|(refine yaS ?_ ?_<;>intro _)
    · refine .ret rfl (.bool ?_)
      rename_i h
      rw [isNameF, hs, hd, List.all_cons, letter, decide_eq_false (by omega)]
      rfl
    · refine .ret rfl (.bool ?_)
      rename_i h h2
      rw [isNameF, hs, hd, List.all_cons, letter, decide_eq_false (p := s[i].toNat ≤ 122) (by omega)]
      simp
    · rename_i h h2
      refine Go.keep [0, 3] (hrec _ _ _ (by omega) ⟨i + 1, _, rfl, hlt, wrap_succ hn (by omega), ?_, rfl, rfl⟩)
      rw [hs, hd, List.all_cons, letter, decide_eq_true (by omega), decide_eq_true (by omega)]
      rfl
  · repeat' first|refine yaG ?_|((first|apply yQ|apply yR|apply yS);(iterate 3 exact rfl);exact l1In_ok _ _ _)|(exfalso;omega)|(refine yaS ?_ ?_<;>intro _)
    refine .ret rfl (.bool ?_)
    rw [isNameF, hs, List.drop_eq_nil_of_le (by omega)]
    rfl

/-! ### Expressions -/
def tokTakes (t : Tok) : Int := if t.kind = 1 ∨ t.kind = 2 then 0 else if t.kind = 7 ∨ t.kind = 8 then 1 else 2
def vz (v : Val) : Bool := v.k == 0 && (v.n == 0 && v.s == [])
def isTokF (t : Tok) (n : Int) : Bool := if t.kind = 1 then isIn t.col 0 (n - 1) && vz t.v else if t.kind = 2 then t.col == 0 && okVal t.v else isIn t.kind 3 10 && t.col == 0 && vz t.v
end Go.Proofs.YtdgnfdljkghpjaaGreat.Am

/- Expressions and lists of columns. -/
set_option linter.unusedVariables false
set_option linter.unusedSimpArgs false
namespace Go.Proofs.YtdgnfdljkghpjaaGreat.Am

theorem nbT {x b : Bool} (h : x = b) (k : (!b) = true) : x = false := by cases b <;> simp_all
theorem nbF {x b : Bool} (h : x = b) (k : (!b) = false) : x = true := by cases b <;> simp_all
theorem bT {x b : Bool} (h : x = b) (k : b = true) : x = true := h.trans k
theorem bF {x b : Bool} (h : x = b) (k : b = false) : x = false := h.trans k
def takesF (t : Tok) (n : Int) : Int := if isTokF t n then tokTakes t else -1
theorem isIn_310 {k : Int} : isIn k 3 10 = true ↔ (k = 3 ∨ k = 4 ∨ k = 5 ∨ k = 6 ∨ k = 7 ∨ k = 8 ∨ k = 9 ∨ k = 10) := by
  simp only [isIn, Bool.and_eq_true, decide_eq_true_eq]
  omega
theorem l2Takes_ok (t : Tok) (n : Int) (h0 : -4611686018427387904 ≤ n) (h1 : n ≤ 4611686018427387904) : Pure Tryz.prog 254 [.agg (encTok t), .c (.int .i64 n)] (.c (.int .i64 (takesF t n))) := by
  refine Pure.run mixed c_spec_l2Takes_ok (Nat.le_of_ble_eq_true rfl) fun σ hS hA => ?_
  clear hS hA
  have hw : IntKind.i64.wrap (n - 1) = n - 1 := wrap64 (by omega) (by omega)
  have h310 := @isIn_310 t.kind
  repeat' first|refine yaG ?_|((first|apply Go.pcallB|apply Go.spcallB|apply Qg.pcallB);(iterate 3 exact rfl);(first|exact l1In_ok _ _ _|exact sValOk_ok _);intro _ _)|(exfalso;omega)|(refine yaS ?_ ?_<;>intro _)
  all_goals refine .ret rfl (.int ?_)
  all_goals first
    | (simp_all [takesF, isTokF, vz, tokTakes]; done)
    | (cases hk : isIn t.kind 3 10 <;> simp_all [takesF, isTokF, vz, tokTakes]; done)
    | (rename_i hl; have hz : vz t.v = false := (by cases h : vz t.v; (· rfl); (· exfalso; simp [vz] at h; simp [h] at hl)); clear hl; simp_all [takesF, isTokF]; done)
def exprAux (n : Int) : Int → List Tok → Bool
  | left, [] => left == 1
  | left, t :: r => isTokF t n && decide (tokTakes t ≤ left) && exprAux n (left + 1 - tokTakes t) r
theorem tokTakes_range (t : Tok) : 0 ≤ tokTakes t ∧ tokTakes t ≤ 2 := by
  simp only [tokTakes]
  split
  · omega
  · split <;> omega
theorem l2Expr_ok (e : List Tok) (n : Int) (hx : e.length ≤ 34359738368) (h0 : -4611686018427387904 ≤ n) (h1 : n ≤ 4611686018427387904) : Pure Tryz.prog 240 [.c (.fz (e.map encTok)), .c (.int .i64 n)] (.c (.bool (decide ((e.length : Int) ≤ 24) && exprAux n 0 e))) := by
  refine Pure.run mixed c_spec_l2Expr_ok (Nat.le_of_ble_eq_true rfl) fun σ hS hA => ?_
  clear hS hA
  repeat' first|refine yaG ?_|(exfalso;omega)|(refine yaS ?_ ?_<;>intro _)
  refine Go.keep [0, 1, 5, 6] (Go.loops (I := fun m fr τ => ∃ i : Nat, ∃ k l : Int, m = e.length - i ∧ i ≤ e.length ∧ k = i ∧ (0 ≤ l ∧ l ≤ i ∧ exprAux n 0 e = exprAux n l (e.drop i)) ∧
    fr = [(0, .c (.fz (e.map encTok))), (1, .c (.int .i64 n)), (5, .c (.int .i64 l)), (6, .c (.int .i64 k))] ∧ τ = E σ []) ?_ _ _ _ ⟨0, _, _, rfl, Nat.zero_le _, rfl, ⟨Int.le_refl _, by simp, rfl⟩, rfl, rfl⟩)
  rintro m fr τ ⟨i, k, l, rfl, hi, hk, ⟨hl0, hl1, hsl⟩, rfl, rfl⟩ hrec
  by_cases hlt : i < e.length
  · have hd := List.drop_eq_getElem_cons hlt
    have ht := tokTakes_range e[i]
    have neg : (isTokF e[i] n = false ∨ ¬ tokTakes e[i] ≤ l) → (decide ((e.length : Int) ≤ 24) && exprAux n 0 e) = false := by
      intro h
      rw [hsl, hd, exprAux]
      rcases h with h | h
      · simp [h]
      · rw [decide_eq_false (p := tokTakes e[i] ≤ l) h]; simp
    repeat' first|refine yaG ?_|((first|apply yG|apply yH|apply yI);exact rfl;(first|exact yX (enc := encTok) rfl rfl hk hlt rfl))|((first|apply Go.pcallI|apply Go.spcallI|apply Qg.pcallI);(iterate 3 exact rfl);exact l2Takes_ok e[i] n h0 h1;intro _ _)|(exfalso;omega)|(refine yaS ?_ ?_<;>intro _)
    · refine .ret rfl (.bool ?_)
      rename_i q hq h
      refine (neg (.inl ?_)).symm
      cases hc : isTokF e[i] n
      · rfl
      · simp only [takesF, hc, if_true] at hq; omega
    · refine .ret rfl (.bool ?_)
      rename_i q hq h h2
      refine (neg (.inr ?_)).symm
      simp only [takesF] at hq
      split at hq <;> omega
    · rename_i q hq h h2
      have hc : isTokF e[i] n = true ∧ tokTakes e[i] = q := by
        simp only [takesF] at hq
        split at hq
        · exact ⟨by assumption, hq⟩
        · omega
      have w1 : IntKind.i64.wrap (l - q) = l - q := wrap64 (by omega) (by omega)
      have w2 : IntKind.i64.wrap (l - q + 1) = l + 1 - tokTakes e[i] := by rw [wrap64 (by omega) (by omega)]; omega
      refine Go.keep [0, 1, 5, 6] (hrec _ _ _ (by omega) ⟨i + 1, _, _, rfl, hlt, wrap_succ hk (by omega), ⟨?_, ?_, ?_⟩, rfl, rfl⟩)
      · rw [w1, w2]; omega
      · rw [w1, w2]; omega
      · rw [w1, w2, hsl, hd, exprAux, decide_eq_true (p := tokTakes e[i] ≤ l) (by omega), hc.1]
        rfl
  · have hfin : exprAux n 0 e = (l == 1) := by
      rw [hsl, List.drop_eq_nil_of_le (by omega)]
      rfl
    repeat' first|refine yaG ?_|(exfalso;omega)|(refine yaS ?_ ?_<;>intro _)
    all_goals refine .ret rfl (.bool ?_)
    all_goals rw [hfin]
    all_goals clear hrec hfin hsl
    all_goals simp_all
/-! ### Lists of columns -/
def colsAux (n : Int) : List Int → List Int → Bool
  | _, [] => true
  | pre, c :: r => isIn c 0 (n - 1) && !(pre.any fun a => c == a) && colsAux n (pre ++ [c]) r
def colsF (l : List Int) (n : Int) : Bool := colsAux n [] l && decide (0 < (l.length : Int))
theorem aop_sliceF {fr : Fr} {σ : Store} {s : Nat} {x hi : Opd} {kd : IntKind} {es : List (List Ce)} {z : Int} {n : Nat} (hx : x.ev fr = some (.c (.fz es))) (hy : hi.ev fr = some (.c (.int kd z))) (hz : z = (n : Int)) (hn : n ≤ es.length) (hs : ∀ e ∈ es, e.length = s) : aop (.slice s x none (some hi) none) fr σ = some (.c (.fz (es.take n)), σ) := by
  have : sliceA σ s (.fz es) none (some (.c (.int kd z))) none = some (.fz (es.take n)) := by
    subst hz
    simp only [sliceA, bound]
    rw [if_pos (by omega)]
    simp only [Int.toNat_natCast]
    rw [if_pos ⟨Nat.zero_le _, hn, hs⟩, List.drop_zero]
  simp only [aop, hx, evo, hy, Option.map_some, this]
theorem encI_len {l : List Int} : ∀ e ∈ l.map encI, e.length = 1 := fun e he => (flatI l e he).1
end Go.Proofs.YtdgnfdljkghpjaaGreat.Am

/- Tables: their columns, references, rules. -/
set_option linter.unusedVariables false
set_option linter.unusedSimpArgs false
namespace Go.Proofs.YtdgnfdljkghpjaaGreat.Am

theorem l1Has_ok (l : List Int) (v : Int) (hx : l.length ≤ 34359738368) : Pure Tryz.prog 147 [.c (.fz (l.map encI)), .c (.int .i64 v)] (.c (.bool (l.any fun a => v == a))) := by
  refine Pure.run mixed c_spec_l1Has_ok (Nat.le_of_ble_eq_true rfl) fun σ hS hA => ?_
  clear hS hA
  repeat' first|refine yaG ?_|(exfalso;omega)|(refine yaS ?_ ?_<;>intro _)
  refine Go.keep [0, 1, 5] (Go.loops (I := fun m fr τ => ∃ i : Nat, ∃ k : Int, m = l.length - i ∧ i ≤ l.length ∧ k = i ∧ (l.any fun a => v == a) = ((l.drop i).any fun a => v == a) ∧
    fr = [(0, .c (.fz (l.map encI))), (1, .c (.int .i64 v)), (5, .c (.int .i64 k))] ∧ τ = E σ []) ?_ _ _ _ ⟨0, _, rfl, Nat.zero_le _, rfl, rfl, rfl, rfl⟩)
  rintro m fr τ ⟨i, k, rfl, hi, hn, hsl, rfl, rfl⟩ hrec
  by_cases hlt : i < l.length
  · have hd := List.drop_eq_getElem_cons hlt
    repeat' first|refine yaG ?_|((first|apply yG|apply yH|apply yI);exact rfl;(first|exact yX (enc := encI) rfl rfl hn hlt rfl))|(exfalso;omega)|(refine yaS ?_ ?_<;>intro _)
    · refine .ret rfl (.bool ?_)
      rename_i h
      rw [hsl, hd, List.any_cons, h]
      simp
    · rename_i h
      refine Go.keep [0, 1, 5] (hrec _ _ _ (by omega) ⟨i + 1, _, rfl, hlt, wrap_succ hn (by omega), ?_, rfl, rfl⟩)
      rw [hsl, hd, List.any_cons, beq_eq_false_iff_ne.2 (fun e => h e.symm)]
      rfl
  · repeat' first|refine yaG ?_|(exfalso;omega)|(refine yaS ?_ ?_<;>intro _)
    refine .ret rfl (.bool ?_)
    rw [hsl, List.drop_eq_nil_of_le (by omega)]
    rfl
theorem l3Cols_ok (l : List Int) (n : Int) (hx : l.length ≤ 34359738368) (h0 : -4611686018427387904 ≤ n) (h1 : n ≤ 4611686018427387904) : Pure Tryz.prog 84 [.c (.fz (l.map encI)), .c (.int .i64 n)] (.c (.bool (colsF l n))) := by
  refine Pure.run mixed c_spec_l3Cols_ok (Nat.le_of_ble_eq_true rfl) fun σ hS hA => ?_
  clear hS hA
  have hw : IntKind.i64.wrap (n - 1) = n - 1 := wrap64 (by omega) (by omega)
  repeat' first|refine yaG ?_|(exfalso;omega)|(refine yaS ?_ ?_<;>intro _)
  refine Go.keep [0, 1, 5] (Go.loops (I := fun m fr τ => ∃ i : Nat, ∃ k : Int, m = l.length - i ∧ i ≤ l.length ∧ k = i ∧ colsAux n [] l = colsAux n (l.take i) (l.drop i) ∧
    fr = [(0, .c (.fz (l.map encI))), (1, .c (.int .i64 n)), (5, .c (.int .i64 k))] ∧ τ = E σ []) ?_ _ _ _ ⟨0, _, rfl, Nat.zero_le _, rfl, rfl, rfl, rfl⟩)
  rintro m fr τ ⟨i, k, rfl, hi, hk, hsl, rfl, rfl⟩ hrec
  by_cases hlt : i < l.length
  · have hd := List.drop_eq_getElem_cons hlt
    have htk : (l.map encI).take i = (l.take i).map encI := List.map_take.symm
    have hstep : colsAux n [] l = (isIn l[i] 0 (n - 1) && !((l.take i).any fun a => l[i] == a) && colsAux n (l.take (i + 1)) (l.drop (i + 1))) := by
      rw [hsl, hd, colsAux, List.take_succ_eq_append_getElem hlt]
    repeat' first|refine yaG ?_|((first|apply yG|apply yH|apply yI);exact rfl;(first|exact yX (enc := encI) rfl rfl hk hlt rfl))|((first|apply Go.pcallB|apply Go.spcallB|apply Qg.pcallB);(iterate 3 exact rfl);exact l1In_ok _ _ _;intro _ _)|(exfalso;omega)|(refine yaS ?_ ?_<;>intro _)
    · refine .ret rfl (.bool ?_)
      rename_i b hb hb2
      rw [hw] at hb
      rw [colsF, hstep, nbT hb hb2]
      rfl
    rename_i b hb hb2
    repeat' first|refine yaG ?_|((first|apply yG|apply yH|apply yI);exact rfl;(first|exact aop_sliceF (n := i) rfl rfl hk (by simp;omega) encI_len|exact yX (enc := encI) rfl rfl hk hlt rfl))|(exfalso;omega)|(refine yaS ?_ ?_<;>intro _)
    rw [htk]
    repeat' first|refine yaG ?_|((first|apply Go.pcallB|apply Go.spcallB|apply Qg.pcallB);(iterate 3 exact rfl);exact l1Has_ok (l.take i) l[i] (by simp;omega);intro _ _)|(exfalso;omega)|(refine yaS ?_ ?_<;>intro _)
    · refine .ret rfl (.bool ?_)
      rename_i b1 hb1 hb3
      rw [colsF, hstep, bT hb1 hb3]
      simp
    · refine Go.keep [0, 1, 5] (hrec _ _ _ (by omega) ⟨i + 1, _, rfl, hlt, wrap_succ hk (by omega), ?_, rfl, rfl⟩)
      rename_i b1 hb1 hb3
      rw [hw] at hb
      rw [hstep, bF hb1 hb3, nbF hb hb2]
      simp
  · have hfin : colsAux n [] l = true := by
      rw [hsl, List.drop_eq_nil_of_le (by omega)]
      rfl
    repeat' first|refine yaG ?_|(exfalso;omega)|(refine yaS ?_ ?_<;>intro _)
    refine .ret rfl (.bool ?_)
    rw [colsF, hfin]
    rfl
def isOfF (v : Val) (k : Int) : Bool := okVal v && (v.k == 0 || v.k == k)
def isFkF (f : Fk) (n : Int) : Bool := colsF f.cols n && (isNameF f.table && (isIn f.onDelete 0 2 && isIn f.onUpdate 0 2))
/-! ### The columns of a table -/
def colOk (c : Col) : Bool := isNameF c.name && ((c.kind == 1 || c.kind == 2) && isOfF c.dflt c.kind)
def colsDef : List Col → List Col → Bool
  | _, [] => true
  | pre, c :: r => colOk c && !(pre.any fun d => d.name == c.name) && colsDef (pre ++ [c]) r
def areColsF (l : List Col) : Bool := decide ((l.length : Int) ≤ 8) && (colsDef [] l && decide (0 < (l.length : Int)))
/-! ### Tables -/
def notNullAt (t : Table) (c : Int) : Bool := match t.cols[c.toNat]? with | some x => x.notNull | none => false
def exprF (e : List Tok) (n : Int) : Bool := decide ((e.length : Int) ≤ 24) && exprAux n 0 e
def tableF (t : Table) : Bool :=
  isNameF t.name && (areColsF t.cols && (colsF t.key t.cols.length && (decide ((t.uniques.length : Int) ≤ 3) && (decide ((t.checks.length : Int) ≤ 3) && (decide ((t.fks.length : Int) ≤ 3) &&
    (!(t.key.any fun c => !notNullAt t c) && (!(t.uniques.any fun u => !colsF u.cols t.cols.length) && (!(t.checks.any fun c => !exprF c.expr t.cols.length) && !(t.fks.any fun f => !isFkF f t.cols.length)))))))))
theorem colsAux_in {n : Int} : ∀ {l pre : List Int}, colsAux n pre l = true → ∀ c ∈ l, isIn c 0 (n - 1) = true
  | [], _, _, c, h => by simp at h
  | a :: r, pre, h, c, hc => by
    simp only [colsAux, Bool.and_eq_true] at h
    rcases List.mem_cons.1 hc with rfl | hc
    · exact h.1.1
    · exact colsAux_in h.2 c hc
theorem colsF_in {l : List Int} {n : Int} (h : colsF l n = true) : ∀ c ∈ l, 0 ≤ c ∧ c < n := by
  intro c hc
  simp only [colsF, Bool.and_eq_true] at h
  have := colsAux_in h.1 c hc
  simp only [isIn, Bool.and_eq_true, decide_eq_true_eq] at this
  omega
theorem areColsF_len {l : List Col} (h : areColsF l = true) : 0 < l.length ∧ l.length ≤ 8 := by
  simp only [areColsF, Bool.and_eq_true, decide_eq_true_eq] at h
  omega
end Go.Proofs.YtdgnfdljkghpjaaGreat.Am

/- Tables, as the reference sees them. -/
set_option linter.unusedVariables false
set_option linter.unusedSimpArgs false
namespace Go.Proofs.YtdgnfdljkghpjaaGreat.Am

theorem ColAt_ok (x0 x2 x3 x4 x5 : Ce) (l : List Col) (s : List UInt8) (hx : l.length ≤ 34359738368) : Pure Tryz.prog 239 [.agg [x0, .fz (l.map encCol), x2, x3, x4, x5], .c (.str s)] (.c (.int .i64 (idxA (fun c => c.name == s) l 0))) := by
  refine Pure.run mixed c_spec_ColAt_ok (Nat.le_of_ble_eq_true rfl) fun σ hS hA => ?_
  clear hS hA
  repeat' first|refine yaG ?_|(exfalso;omega)|(refine yaS ?_ ?_<;>intro _)
  refine Go.keep [1, 2, 5] (Go.loops (I := fun m fr τ => ∃ i : Nat, ∃ k : Int, m = l.length - i ∧ i ≤ l.length ∧ k = i ∧ idxA (fun c => c.name == s) l 0 = idxA (fun c => c.name == s) (l.drop i) k ∧
    fr = [(1, .c (.str s)), (2, .c (.fp [x0, .fz (l.map encCol), x2, x3, x4, x5])), (5, .c (.int .i64 k))] ∧ τ = E σ []) ?_ _ _ _ ⟨0, _, rfl, Nat.zero_le _, rfl, rfl, rfl, rfl⟩)
  rintro m fr τ ⟨i, k, rfl, hi, hn, hsl, rfl, rfl⟩ hrec
  by_cases hlt : i < l.length
  · repeat' first|refine yaG ?_|((first|apply yG|apply yH|apply yI);exact rfl;(first|exact yX (enc := encCol) rfl rfl hn hlt rfl))|(exfalso;omega)|(refine yaS ?_ ?_<;>intro _)
    · refine .ret rfl (.int ?_)
      rw [hsl, List.drop_eq_getElem_cons hlt, idxA, if_pos (by assumption)]
    · rename_i h
      refine Go.keep [1, 2, 5] (hrec _ _ _ (by omega) ⟨i + 1, _, rfl, hlt, wrap_succ hn (by omega), ?_, rfl, rfl⟩)
      rw [hsl, List.drop_eq_getElem_cons hlt, idxA, if_neg (by rw [h]; simp), wrap64 (by omega) (by omega)]
  · repeat' first|refine yaG ?_|(exfalso;omega)|(refine yaS ?_ ?_<;>intro _)
    refine .ret rfl (.int ?_)
    rw [hsl, List.drop_eq_nil_of_le (by omega)]
    rfl
theorem l3At_ok (l : List Table) (s : List UInt8) (hx : l.length ≤ 34359738368) : Pure Tryz.prog 206 [.c (.fz (l.map encTable)), .c (.str s)] (.c (.int .i64 (idxA (fun t => t.name == s) l 0))) := by
  refine Pure.run mixed c_spec_l3At_ok (Nat.le_of_ble_eq_true rfl) fun σ hS hA => ?_
  clear hS hA
  repeat' first|refine yaG ?_|(exfalso;omega)|(refine yaS ?_ ?_<;>intro _)
  refine Go.keep [0, 1, 5] (Go.loops (I := fun m fr τ => ∃ i : Nat, ∃ k : Int, m = l.length - i ∧ i ≤ l.length ∧ k = i ∧ idxA (fun c => c.name == s) l 0 = idxA (fun c => c.name == s) (l.drop i) k ∧
    fr = [(0, .c (.fz (l.map encTable))), (1, .c (.str s)), (5, .c (.int .i64 k))] ∧ τ = E σ []) ?_ _ _ _ ⟨0, _, rfl, Nat.zero_le _, rfl, rfl, rfl, rfl⟩)
  rintro m fr τ ⟨i, k, rfl, hi, hn, hsl, rfl, rfl⟩ hrec
  by_cases hlt : i < l.length
  · repeat' first|refine yaG ?_|((first|apply yG|apply yH|apply yI);exact rfl;(first|exact yX (enc := encTable) rfl rfl hn hlt rfl))|(exfalso;omega)|(refine yaS ?_ ?_<;>intro _)
    · refine .ret rfl (.int ?_)
      rw [hsl, List.drop_eq_getElem_cons hlt, idxA, if_pos (by assumption)]
    · rename_i h
      refine Go.keep [0, 1, 5] (hrec _ _ _ (by omega) ⟨i + 1, _, rfl, hlt, wrap_succ hn (by omega), ?_, rfl, rfl⟩)
      rw [hsl, List.drop_eq_getElem_cons hlt, idxA, if_neg (by rw [h]; simp), wrap64 (by omega) (by omega)]
  · repeat' first|refine yaG ?_|(exfalso;omega)|(refine yaS ?_ ?_<;>intro _)
    refine .ret rfl (.int ?_)
    rw [hsl, List.drop_eq_nil_of_le (by omega)]
    rfl
theorem any_at {α : Type} {p : α → Bool} {l : List α} {i : Nat} (hi : i < l.length) (h : p l[i] = false) : (l.any fun a => !p a) = true := List.any_eq_true.2 ⟨l[i], List.getElem_mem hi, by rw [h]; rfl⟩
theorem any_none {α : Type} {p : α → Bool} {l : List α} (h : ∀ j (hj : j < l.length), p l[j] = true) : (l.any fun a => !p a) = false := by
  rw [List.any_eq_false]
  intro a ha
  obtain ⟨j, hj, rfl⟩ := List.mem_iff_getElem.1 ha
  rw [h j hj]
  simp
theorem upto {α : Type} {p : α → Bool} {l : List α} {i : Nat} (h : ∀ j (hj : j < l.length), j < i → p l[j] = true) (hi : i < l.length) (hp : p l[i] = true) : ∀ j (hj : j < l.length), j < i + 1 → p l[j] = true := fun j hj hji => by
  by_cases e : j = i
  · subst e; exact hp
  · exact h j hj (by omega)
theorem isIn12 {k : Int} : isIn k 1 2 = (k == 1 || k == 2) := by
  rw [Bool.eq_iff_iff]
  simp [isIn]
  omega
theorem tableF_iff {t : Table} : tableF t = true ↔ isNameF t.name = true ∧ isIn t.cols.length 1 8 = true ∧ colsF t.key t.cols.length = true ∧ (t.uniques.length : Int) ≤ 3 ∧ (t.checks.length : Int) ≤ 3 ∧ (t.fks.length : Int) ≤ 3 ∧ colsDef [] t.cols = true ∧
    (t.key.any fun c => !notNullAt t c) = false ∧ (t.uniques.any fun u => !colsF u.cols t.cols.length) = false ∧ (t.checks.any fun c => !exprF c.expr t.cols.length) = false ∧ (t.fks.any fun f => !isFkF f t.cols.length) = false := by
  simp only [tableF, areColsF, isIn, Bool.and_eq_true, decide_eq_true_eq, Bool.not_eq_true']
  constructor
  · rintro ⟨h1, ⟨h2, h3, h4⟩, h5, h6, h7, h8, h9, h10, h11, h12⟩
    exact ⟨h1, ⟨by omega, h2⟩, h5, h6, h7, h8, h3, h9, h10, h11, h12⟩
  · rintro ⟨h1, ⟨h2, h2'⟩, h3, h4, h5, h6, h7, h8, h9, h10, h11⟩
    exact ⟨h1, ⟨h2', h7, by omega⟩, h3, h4, h5, h6, h8, h9, h10, h11⟩
theorem tableF_not {t : Table} (h : tableF t = true → False) : tableF t = false := by
  cases c : tableF t
  · rfl
  · exact (h c).elim
theorem sTableOk_ok (t : Table) (hb : bTable 34359738368 t) : Pure Tryz.prog 205 [.agg (encTable t)] (.c (.bool (tableF t))) := by
  refine Pure.run mixed c_spec_TableOk_ok (Nat.le_of_ble_eq_true rfl) fun σ hS hA => ?_
  clear hS hA
  obtain ⟨b1, b2, b3, b4, b5, b6⟩ := hb
  repeat' first|refine yaG ?_|((first|apply Go.pcallB|apply Go.spcallB|apply Qg.pcallB);(iterate 3 exact rfl);(first|exact l3Name_ok t.name b1|exact l1In_ok _ _ _|exact l3Cols_ok t.key t.cols.length b3 (by omega) (by omega));intro _ _)|(exfalso;omega)|(refine yaS ?_ ?_<;>intro _)
  · exact .ret rfl (.bool (tableF_not fun h => by rename_i c p q; have h2 := (tableF_iff.1 h).1; rw [nbT p q] at h2; cases h2).symm)
  · exact .ret rfl (.bool (tableF_not fun h => by rename_i c1 p1 q1 c p q; have h2 := (tableF_iff.1 h).2.1; rw [nbT p q] at h2; cases h2).symm)
  · exact .ret rfl (.bool (tableF_not fun h => by rename_i c p q; have h2 := (tableF_iff.1 h).2.2.1; rw [nbT p q] at h2; cases h2).symm)
  · exact .ret rfl (.bool (tableF_not fun h => by have h2 := tableF_iff.1 h; omega).symm)
  · exact .ret rfl (.bool (tableF_not fun h => by have h2 := tableF_iff.1 h; omega).symm)
  · exact .ret rfl (.bool (tableF_not fun h => by have h2 := tableF_iff.1 h; omega).symm)
  rename_i c1 p1 q1 c2 p2 q2 c3 p3 q3 g1 g2 g3
  have k1 := nbF p1 q1
  have k2 := nbF p2 q2
  have k3 := nbF p3 q3
  have hin := colsF_in k3
  have hln : 1 ≤ (t.cols.length : Int) ∧ (t.cols.length : Int) ≤ 8 := by simpa [isIn] using k2
  clear p1 q1 p2 q2 p3 q3
  -- the columns
  refine Go.keep [1, 3, 4] (Go.loops (I := fun m fr τ => ∃ i : Nat, ∃ k : Int, m = t.cols.length - i ∧ i ≤ t.cols.length ∧ k = i ∧ colsDef [] t.cols = colsDef (t.cols.take i) (t.cols.drop i) ∧
    fr = [(1, .c (.fp (encTable t))), (3, .c (.int .i64 (t.cols.length : Int))), (4, .c (.int .i64 k))] ∧ τ = E σ []) ?_ _ _ _ ⟨0, _, rfl, Nat.zero_le _, rfl, rfl, rfl, rfl⟩)
  rintro m fr τ ⟨i, k, rfl, hi, hk, hsl, rfl, rfl⟩ hrec
  by_cases hlt : i < t.cols.length
  · have hd := List.drop_eq_getElem_cons hlt
    have hbc := b2.2 _ (List.getElem_mem hlt)
    have htk : (t.cols.map encCol).take i = (t.cols.take i).map encCol := List.map_take.symm
    have hstep : colsDef [] t.cols = (colOk t.cols[i] && !((t.cols.take i).any fun d => d.name == t.cols[i].name) && colsDef (t.cols.take (i + 1)) (t.cols.drop (i + 1))) := by
      rw [hsl, hd, colsDef, List.take_succ_eq_append_getElem hlt]
    have neg : (colOk t.cols[i] = false ∨ ((t.cols.take i).any fun d => d.name == t.cols[i].name) = true) → tableF t = false := fun h => tableF_not fun hh => by
      have h2 := (tableF_iff.1 hh).2.2.2.2.2.2.1
      rw [hstep] at h2
      rcases h with h | h <;> simp [h] at h2
    have hany := any_idx (p := fun d : Col => d.name == t.cols[i].name) (l := t.cols.take i)
    repeat' first|refine yaG ?_|((first|apply yG|apply yH|apply yI);exact rfl;(first|exact yX (enc := encCol) rfl rfl hk hlt rfl|exact aop_sliceF (n := i) rfl rfl hk (by simp;omega) (fun e he => by obtain ⟨c, _, rfl⟩ := List.mem_map.1 he;rfl)))|((first|apply Go.pcallB|apply Go.spcallB|apply Qg.pcallB);(iterate 3 exact rfl);exact l3Name_ok t.cols[i].name hbc.1;intro _ _)|(exfalso;omega)|(refine yaS ?_ ?_<;>intro _)
    · rename_i c p q
      exact .ret rfl (.bool (neg (.inl (by rw [colOk, nbT p q]; rfl))).symm)
    rename_i c p q
    have hnm := nbF p q
    rw [htk]
    repeat' first|refine yaG ?_|((first|apply Go.pcallB|apply Go.spcallB|apply Qg.pcallB);(iterate 3 exact rfl);(first|exact l1In_ok _ _ _|exact sValOk_ok _);intro _ _)|((first|apply Go.pcallI|apply Go.spcallI|apply Qg.pcallI);(iterate 3 exact rfl);exact ColAt_ok (.str []) .nils .nils .nils .nils (t.cols.take i) t.cols[i].name (by simp;omega);intro _ _)|(exfalso;omega)|(refine yaS ?_ ?_<;>intro _)
    all_goals clear p q
    all_goals try (refine .ret rfl (.bool (neg ?_).symm); clear hrec hsl hstep neg hin; simp_all [colOk, isOfF, isIn12]; done)
    all_goals have hok : (colOk t.cols[i] && !((t.cols.take i).any fun d => d.name == t.cols[i].name)) = true := (by clear hrec hsl hstep neg hin; simp_all [colOk, isOfF, isIn12])
    all_goals refine Go.keep [1, 3, 4] (hrec _ _ _ (by omega) ⟨i + 1, _, rfl, hlt, wrap_succ hk (by omega), ?_, rfl, rfl⟩)
    all_goals rw [hstep, hok, Bool.true_and]
  have hfin : colsDef [] t.cols = true := by
    rw [hsl, List.drop_eq_nil_of_le (by omega)]
    rfl
  clear hrec hsl
  repeat' first|refine yaG ?_|(exfalso;omega)|(refine yaS ?_ ?_<;>intro _)
  clear hlt hk hi
  -- the key
  refine Go.keep [1, 3, 6] (Go.loops (I := fun m fr τ => ∃ i : Nat, ∃ k : Int, m = t.key.length - i ∧ i ≤ t.key.length ∧ k = i ∧ (∀ j (hj : j < t.key.length), j < i → notNullAt t t.key[j] = true) ∧
    fr = [(1, .c (.fp (encTable t))), (3, .c (.int .i64 (t.cols.length : Int))), (6, .c (.int .i64 k))] ∧ τ = E σ []) ?_ _ _ _ ⟨0, _, rfl, Nat.zero_le _, rfl, fun j _ h => absurd h (by omega), rfl, rfl⟩)
  rintro m fr τ ⟨i, k, rfl, hi, hk, hall, rfl, rfl⟩ hrec
  by_cases hlt : i < t.key.length
  · have hc := hin _ (List.getElem_mem hlt)
    obtain ⟨n, hn⟩ : ∃ n : Nat, t.key[i] = n := ⟨t.key[i].toNat, by omega⟩
    have hn2 : n < t.cols.length := by omega
    have hnn : notNullAt t t.key[i] = t.cols[n].notNull := by simp [notNullAt, hn, hn2]
    repeat' first|refine yaG ?_|((first|apply yG|apply yH|apply yI);exact rfl;(first|exact yX (enc := encI) rfl rfl hk hlt rfl|exact yX (enc := encCol) rfl rfl hn hn2 rfl))|(exfalso;omega)|(refine yaS ?_ ?_<;>intro _)
    · rename_i h
      exact .ret rfl (.bool (tableF_not fun hh => by
        have h2 := (tableF_iff.1 hh).2.2.2.2.2.2.2.1
        rw [any_at hlt (by rw [hnn]; simpa using h)] at h2
        cases h2).symm)
    · rename_i h
      exact Go.keep [1, 3, 6] (hrec _ _ _ (by omega) ⟨i + 1, _, rfl, hlt, wrap_succ hk (by omega), upto hall hlt (by rw [hnn]; simpa using h), rfl, rfl⟩)
  have hkey := any_none (p := notNullAt t) (l := t.key) fun j hj => hall j hj (by omega)
  clear hrec hall
  repeat' first|refine yaG ?_|(exfalso;omega)|(refine yaS ?_ ?_<;>intro _)
  clear hlt hk hi
  -- the uniques
  refine Go.keep [1, 3, 7] (Go.loops (I := fun m fr τ => ∃ i : Nat, ∃ k : Int, m = t.uniques.length - i ∧ i ≤ t.uniques.length ∧ k = i ∧ (∀ j (hj : j < t.uniques.length), j < i → colsF t.uniques[j].cols t.cols.length = true) ∧
    fr = [(1, .c (.fp (encTable t))), (3, .c (.int .i64 (t.cols.length : Int))), (7, .c (.int .i64 k))] ∧ τ = E σ []) ?_ _ _ _ ⟨0, _, rfl, Nat.zero_le _, rfl, fun j _ h => absurd h (by omega), rfl, rfl⟩)
  rintro m fr τ ⟨i, k, rfl, hi, hk, hall, rfl, rfl⟩ hrec
  by_cases hlt : i < t.uniques.length
  · repeat' first|refine yaG ?_|((first|apply yG|apply yH|apply yI);exact rfl;(first|exact yX (enc := encUniq) rfl rfl hk hlt rfl))|((first|apply Go.pcallB|apply Go.spcallB|apply Qg.pcallB);(iterate 3 exact rfl);exact l3Cols_ok t.uniques[i].cols t.cols.length (b4.2 _ (List.getElem_mem hlt)) (by omega) (by omega);intro _ _)|(exfalso;omega)|(refine yaS ?_ ?_<;>intro _)
    · rename_i c p q
      exact .ret rfl (.bool (tableF_not fun hh => by
        have h2 := (tableF_iff.1 hh).2.2.2.2.2.2.2.2.1
        rw [any_at (p := fun u : Uniq => colsF u.cols t.cols.length) hlt (nbT p q)] at h2
        cases h2).symm)
    · rename_i c p q
      exact Go.keep [1, 3, 7] (hrec _ _ _ (by omega) ⟨i + 1, _, rfl, hlt, wrap_succ hk (by omega), upto (p := fun u : Uniq => colsF u.cols t.cols.length) hall hlt (nbF p q), rfl, rfl⟩)
  have huni := any_none (p := fun u : Uniq => colsF u.cols t.cols.length) (l := t.uniques) fun j hj => hall j hj (by omega)
  clear hrec hall
  repeat' first|refine yaG ?_|(exfalso;omega)|(refine yaS ?_ ?_<;>intro _)
  clear hlt hk hi
  -- the checks
  refine Go.keep [1, 3, 8] (Go.loops (I := fun m fr τ => ∃ i : Nat, ∃ k : Int, m = t.checks.length - i ∧ i ≤ t.checks.length ∧ k = i ∧ (∀ j (hj : j < t.checks.length), j < i → exprF t.checks[j].expr t.cols.length = true) ∧
    fr = [(1, .c (.fp (encTable t))), (3, .c (.int .i64 (t.cols.length : Int))), (8, .c (.int .i64 k))] ∧ τ = E σ []) ?_ _ _ _ ⟨0, _, rfl, Nat.zero_le _, rfl, fun j _ h => absurd h (by omega), rfl, rfl⟩)
  rintro m fr τ ⟨i, k, rfl, hi, hk, hall, rfl, rfl⟩ hrec
  by_cases hlt : i < t.checks.length
  · have hx := l2Expr_ok t.checks[i].expr t.cols.length (b5.2 _ (List.getElem_mem hlt)).1 (by omega) (by omega)
    rw [show (decide ((t.checks[i].expr.length : Int) ≤ 24) && exprAux t.cols.length 0 t.checks[i].expr) = exprF t.checks[i].expr t.cols.length from rfl] at hx
    repeat' first|refine yaG ?_|((first|apply yG|apply yH|apply yI);exact rfl;(first|exact yX (enc := encChk) rfl rfl hk hlt rfl))|((first|apply Go.pcallB|apply Go.spcallB|apply Qg.pcallB);(iterate 3 exact rfl);exact hx;intro _ _)|(exfalso;omega)|(refine yaS ?_ ?_<;>intro _)
    · rename_i c p q
      exact .ret rfl (.bool (tableF_not fun hh => by
        have h2 := (tableF_iff.1 hh).2.2.2.2.2.2.2.2.2.1
        rw [any_at (p := fun u : Chk => exprF u.expr t.cols.length) hlt (nbT p q)] at h2
        cases h2).symm)
    · rename_i c p q
      exact Go.keep [1, 3, 8] (hrec _ _ _ (by omega) ⟨i + 1, _, rfl, hlt, wrap_succ hk (by omega), upto (p := fun u : Chk => exprF u.expr t.cols.length) hall hlt (nbF p q), rfl, rfl⟩)
  have hchk := any_none (p := fun u : Chk => exprF u.expr t.cols.length) (l := t.checks) fun j hj => hall j hj (by omega)
  clear hrec hall
  repeat' first|refine yaG ?_|(exfalso;omega)|(refine yaS ?_ ?_<;>intro _)
  clear hlt hk hi
  -- the references
  refine Go.keep [1, 3, 9] (Go.loops (I := fun m fr τ => ∃ i : Nat, ∃ k : Int, m = t.fks.length - i ∧ i ≤ t.fks.length ∧ k = i ∧ (∀ j (hj : j < t.fks.length), j < i → isFkF t.fks[j] t.cols.length = true) ∧
    fr = [(1, .c (.fp (encTable t))), (3, .c (.int .i64 (t.cols.length : Int))), (9, .c (.int .i64 k))] ∧ τ = E σ []) ?_ _ _ _ ⟨0, _, rfl, Nat.zero_le _, rfl, fun j _ h => absurd h (by omega), rfl, rfl⟩)
  rintro m fr τ ⟨i, k, rfl, hi, hk, hall, rfl, rfl⟩ hrec
  by_cases hlt : i < t.fks.length
  · have hbf := b6.2 _ (List.getElem_mem hlt)
    have neg : isFkF t.fks[i] t.cols.length = false → tableF t = false := fun h => tableF_not fun hh => by
      have h2 := (tableF_iff.1 hh).2.2.2.2.2.2.2.2.2.2
      rw [any_at (p := fun u : Fk => isFkF u t.cols.length) hlt h] at h2
      cases h2
    repeat' first|refine yaG ?_|((first|apply yG|apply yH|apply yI);exact rfl;(first|exact yX (enc := encFk) rfl rfl hk hlt rfl))|((first|apply Go.pcallB|apply Go.spcallB|apply Qg.pcallB);(iterate 3 exact rfl);(first|exact l3Cols_ok t.fks[i].cols t.cols.length hbf.1 (by omega) (by omega)|exact l3Name_ok t.fks[i].table hbf.2|exact l1In_ok _ _ _);intro _ _)|(exfalso;omega)|(refine yaS ?_ ?_<;>intro _)
    all_goals try (refine .ret rfl (.bool (neg ?_).symm); clear hrec neg hin hall hkey huni hchk; simp_all [isFkF]; done)
    have hok : isFkF t.fks[i] t.cols.length = true := by
      clear hrec neg hin hall hkey huni hchk
      simp_all [isFkF]
    exact Go.keep [1, 3, 9] (hrec _ _ _ (by omega) ⟨i + 1, _, rfl, hlt, wrap_succ hk (by omega), upto (p := fun u : Fk => isFkF u t.cols.length) hall hlt hok, rfl, rfl⟩)
  have hfk := any_none (p := fun u : Fk => isFkF u t.cols.length) (l := t.fks) fun j hj => hall j hj (by omega)
  clear hrec hall
  repeat' first|refine yaG ?_|(exfalso;omega)|(refine yaS ?_ ?_<;>intro _)
  refine .ret rfl (.bool ?_)
  rw [eq_comm, tableF_iff]
  exact ⟨k1, k2, k3, by omega, by omega, by omega, hfin, hkey, huni, hchk, hfk⟩
end Go.Proofs.YtdgnfdljkghpjaaGreat.Am

/- What expressions come to, in plain Lean. -/
set_option linter.unusedVariables false
set_option linter.unusedSimpArgs false
namespace Go.Proofs.YtdgnfdljkghpjaaGreat.Am

def vNull : Val := ⟨0, 0, []⟩
def vInt (n : Int) : Val := ⟨1, n, []⟩
def yes (b : Bool) : Int := if b then 1 else 0
def truthV (v : Val) : Int := if v.k = 0 then 2 else if v.k = 1 then (if v.n = 0 then 0 else 1) else -1
def knownV (a b : Val) : Bool := okVal a && (okVal b && (!(a.k == 0) && !(b.k == 0)))
def eq3 (a b : Val) : Int := if knownV a b then yes (a == b) else 2
def less3 (a b : Val) : Int := if knownV a b then yes (decide (order a b < 0)) else 2
def tru (a : Int) : Bool := isIn a 0 2
def and3 (a b : Int) : Int := if tru a && tru b then (if a = 0 ∨ b = 0 then 0 else if a = 1 ∧ b = 1 then 1 else 2) else -1
def or3 (a b : Int) : Int := if tru a && tru b then (if a = 1 ∨ b = 1 then 1 else if a = 0 ∧ b = 0 then 0 else 2) else -1
def not3 (a : Int) : Int := if tru a then (if a = 2 then 2 else 1 - a) else -1
def asV (t : Int) : Val × Bool := if t = 2 then (vNull, true) else (vInt t, decide (0 ≤ t))
def sumV (a b : Val) (s : Int) : Val × Bool := if a.k = 2 ∨ b.k = 2 then (vNull, false) else if a.k = 0 ∨ b.k = 0 then (vNull, true) else (vInt (a.n + s * b.n), okVal (vInt (a.n + s * b.n)))
def vAt (l : List Val) (i : Nat) : Val := l[i]?.getD vNull
def applyF (t : Tok) (l row : List Val) : Val × Bool :=
  if t.kind = 1 then (vAt row t.col.toNat, true) else if t.kind = 2 then (t.v, true) else if t.kind = 3 then asV (eq3 (vAt l 0) (vAt l 1)) else if t.kind = 4 then asV (less3 (vAt l 0) (vAt l 1))
  else if t.kind = 5 then asV (and3 (truthV (vAt l 0)) (truthV (vAt l 1))) else if t.kind = 6 then asV (or3 (truthV (vAt l 0)) (truthV (vAt l 1))) else if t.kind = 7 then asV (not3 (truthV (vAt l 0)))
  else if t.kind = 8 then asV (yes ((vAt l 0).k == 0)) else if t.kind = 9 then sumV (vAt l 0) (vAt l 1) 1 else sumV (vAt l 0) (vAt l 1) (-1)
def fromOf (t : Tok) (st : List Val) : Nat := st.length - (tokTakes t).toNat
def evalL (row : List Val) : List Tok → List Val → Option (List Val)
  | [], st => some st
  | t :: r, st => if (applyF t (st.drop (fromOf t st)) row).2 then evalL row r (st.take (fromOf t st) ++ [(applyF t (st.drop (fromOf t st)) row).1]) else none
def evalR (e : List Tok) (row : List Val) : Val × Bool := match evalL row e [] with
  | some (v :: _) => (v, true)
  | _ => (vNull, false)
def evalOk (e : List Tok) (row : List Val) : Bool := areVals row 16 && exprF e row.length
def truthR (e : List Tok) (row : List Val) : Int := if (evalR e row).2 then truthV (evalR e row).1 else -1
def truthI (e : List Tok) (row : List Val) : Int := if evalOk e row then truthR e row else -1
/-- Values that are right: what an expression leaves on its stack. -/
def Oks (l : List Val) : Prop := ∀ v ∈ l, okVal v = true
theorem Oks.at_ {l : List Val} (h : Oks l) (i : Nat) : okVal (vAt l i) = true := by
  simp only [vAt]
  cases hi : l[i]? with
  | none => rfl
  | some v => exact h v (List.mem_of_getElem? hi)
theorem okVal_int {n : Int} (h0 : -1000000000 ≤ n) (h1 : n ≤ 1000000000) : okVal (vInt n) = true := by
  simp [okVal, vInt, isIn, h0, h1]
theorem yes_range (b : Bool) : 0 ≤ yes b ∧ yes b ≤ 1 := by cases b <;> simp [yes]
theorem okVal_asV {t : Int} (h : t ≤ 2) (hk : (asV t).2 = true) : okVal (asV t).1 = true := by
  simp only [asV] at hk ⊢
  split
  · rfl
  · rename_i h2
    rw [if_neg h2] at hk
    have h0 : 0 ≤ t := of_decide_eq_true hk
    exact okVal_int (by omega) (by omega)
theorem okVal_sumV {a b : Val} {s : Int} (hk : (sumV a b s).2 = true) : okVal (sumV a b s).1 = true := by
  simp only [sumV] at hk ⊢
  split
  · rfl
  · rename_i h
    rw [if_neg h] at hk
    split
    · rfl
    · rename_i h2
      rw [if_neg h2] at hk
      exact hk
theorem eq3_range (a b : Val) : 0 ≤ eq3 a b ∧ eq3 a b ≤ 2 := by
  simp only [eq3]
  have := yes_range (a == b)
  split <;> omega
theorem less3_range (a b : Val) : 0 ≤ less3 a b ∧ less3 a b ≤ 2 := by
  simp only [less3]
  have := yes_range (decide (order a b < 0))
  split <;> omega
theorem and3_range (a b : Int) : -1 ≤ and3 a b ∧ and3 a b ≤ 2 := by
  simp only [and3]
  split
  · split
    · omega
    · split <;> omega
  · omega
theorem or3_range (a b : Int) : -1 ≤ or3 a b ∧ or3 a b ≤ 2 := by
  simp only [or3]
  split
  · split
    · omega
    · split <;> omega
  · omega
theorem tru_range {a : Int} : tru a = true ↔ 0 ≤ a ∧ a ≤ 2 := by simp [tru, isIn]
theorem not3_range (a : Int) : -1 ≤ not3 a ∧ not3 a ≤ 2 := by
  simp only [not3]
  split
  · rename_i h
    have := tru_range.1 h
    split <;> omega
  · omega
theorem applyF_ok {t : Tok} {l row : List Val} (ht : t.kind = 2 → okVal t.v = true) (hl : Oks l) (hr : Oks row) (h : (applyF t l row).2 = true) : okVal (applyF t l row).1 = true := by
  simp only [applyF] at h ⊢
  split
  · exact hr.at_ _
  · rename_i n1
    rw [if_neg n1] at h
    split
    · rename_i n2; exact ht n2
    · rename_i n2
      rw [if_neg n2] at h
      split
      · rename_i n3
        rw [if_pos n3] at h
        exact okVal_asV (eq3_range _ _).2 h
      · rename_i n3
        rw [if_neg n3] at h
        split
        · rename_i n4
          rw [if_pos n4] at h
          exact okVal_asV (less3_range _ _).2 h
        · rename_i n4
          rw [if_neg n4] at h
          split
          · rename_i n5
            rw [if_pos n5] at h
            exact okVal_asV (and3_range _ _).2 h
          · rename_i n5
            rw [if_neg n5] at h
            split
            · rename_i n6
              rw [if_pos n6] at h
              exact okVal_asV (or3_range _ _).2 h
            · rename_i n6
              rw [if_neg n6] at h
              split
              · rename_i n7
                rw [if_pos n7] at h
                exact okVal_asV (not3_range _).2 h
              · rename_i n7
                rw [if_neg n7] at h
                split
                · rename_i n8
                  rw [if_pos n8] at h
                  exact okVal_asV (by have := yes_range ((vAt l 0).k == 0); omega) h
                · rename_i n8
                  rw [if_neg n8] at h
                  split
                  · rename_i n9
                    rw [if_pos n9] at h
                    exact okVal_sumV h
                  · rename_i n9
                    rw [if_neg n9] at h
                    exact okVal_sumV h
theorem tokOk_const {t : Tok} {n : Int} (h : isTokF t n = true) (h2 : t.kind = 2) : okVal t.v = true := by
  simp only [isTokF] at h
  rw [if_neg (by omega), if_pos h2] at h
  simp at h
  exact h.2
theorem okVal_range {v : Val} (h : okVal v = true) (h1 : v.k = 1) : -1000000000 ≤ v.n ∧ v.n ≤ 1000000000 := by
  simp [okVal, isIn, h1] at h
  exact h.1
theorem okVal_kind {v : Val} (h : okVal v = true) : v.k = 0 ∨ v.k = 1 ∨ v.k = 2 := by
  simp [okVal] at h
  rcases h with (h | h) | h <;> simp [h]
end Go.Proofs.YtdgnfdljkghpjaaGreat.Am

/- Entries: sameness, copies, dropping. -/
set_option linter.unusedVariables false
set_option linter.unusedSimpArgs false
namespace Go.Proofs.YtdgnfdljkghpjaaGreat.Am

theorem sameVals_step {xs ys : List Val} {i : Nat} (h1 : i < xs.length) (h2 : i < ys.length) : (xs.drop i == ys.drop i) = ((xs[i].k == ys[i].k && (xs[i].n == ys[i].n && xs[i].s == ys[i].s)) && (xs.drop (i + 1) == ys.drop (i + 1))) := by
  rw [List.drop_eq_getElem_cons h1, List.drop_eq_getElem_cons h2, List.cons_beq_cons]
  congr 1
  generalize xs[i] = a
  generalize ys[i] = b
  obtain ⟨a1, a2, a3⟩ := a
  obtain ⟨b1, b2, b3⟩ := b
  rw [Bool.eq_iff_iff]
  simp
theorem l1SameVals_ok (xs ys : List Val) (hx : xs.length ≤ 34359738368) : Pure Tryz.prog 114 [.c (.fz (xs.map encV)), .c (.fz (ys.map encV))] (.c (.bool (xs == ys))) := by
  refine Pure.run mixed c_spec_l1SameVals_ok (Nat.le_of_ble_eq_true rfl) fun σ hS hA => ?_
  clear hS hA
  repeat' first|refine yaG ?_|(exfalso;omega)|(refine yaS ?_ ?_<;>intro _)
  · refine .ret rfl (.bool ?_)
    rw [eq_comm, beq_eq_false_iff_ne]
    rintro rfl
    simp at *
  refine Go.keep [0, 1, 5] (Go.loops (I := fun m fr τ => ∃ i : Nat, ∃ n : Int, m = xs.length - i ∧ i ≤ xs.length ∧ n = i ∧ (xs.length = ys.length ∧ (xs == ys) = (xs.drop i == ys.drop i)) ∧
    fr = [(0, .c (.fz (xs.map encV))), (1, .c (.fz (ys.map encV))), (5, .c (.int .i64 n))] ∧ τ = E σ []) ?_ _ _ _ ⟨0, _, rfl, Nat.zero_le _, rfl, ⟨by omega, rfl⟩, rfl, rfl⟩)
  rintro m fr τ ⟨i, n, rfl, hi, hn, ⟨hl, hsl⟩, rfl, rfl⟩ hrec
  by_cases hlt : i < xs.length
  · have hlt2 : i < ys.length := by omega
    have hst := sameVals_step hlt hlt2
    repeat' first|refine yaG ?_|((first|apply yG|apply yH|apply yI);exact rfl;(first|exact yX (enc := encV) rfl rfl hn hlt rfl|exact yX (enc := encV) rfl rfl hn hlt2 rfl))|(exfalso;omega)|(refine yaS ?_ ?_<;>intro _)
    · refine .ret rfl (.bool ?_)
      rw [hsl, hst]
      clear hrec
      simp_all
      intros
      simp_all
    · refine Go.keep [0, 1, 5] (hrec _ _ _ (by omega) ⟨i + 1, _, rfl, hlt, wrap_succ hn (by omega), ⟨hl, ?_⟩, rfl, rfl⟩)
      rw [hsl, hst]
      clear hrec
      simp_all
  · repeat' first|refine yaG ?_|(exfalso;omega)|(refine yaS ?_ ?_<;>intro _)
    refine .ret rfl (.bool ?_)
    rw [hsl, List.drop_eq_nil_of_le (by omega), List.drop_eq_nil_of_le (by omega)]
    rfl
theorem equalVals_ok (xs ys : List Val) (hx : xs.length ≤ 34359738368) : Pure Tryz.prog 113 [.c (.fz (xs.map encV)), .c (.fz (ys.map encV))] (.c (.bool (xs == ys))) := by
  refine Pure.run mixed c_slices_Equal_Val_ok (Nat.le_of_ble_eq_true rfl) fun σ hS hA => ?_
  clear hS hA
  repeat' first|refine yaG ?_|(exfalso;omega)|(refine yaS ?_ ?_<;>intro _)
  · refine .ret rfl (.bool ?_)
    rw [eq_comm, beq_eq_false_iff_ne]
    rintro rfl
    simp at *
  refine Go.keep [0, 1, 12, 13] (Go.loops (I := fun m fr τ => ∃ i : Nat, ∃ n : Int, m = xs.length - i ∧ i ≤ xs.length ∧ n = i ∧ (xs.length = ys.length ∧ (xs == ys) = (xs.drop i == ys.drop i)) ∧
    fr = [(0, .c (.fz (xs.map encV))), (1, .c (.fz (ys.map encV))), (12, .c (.int .i64 (xs.length : Int))), (13, .c (.int .i64 n))] ∧ τ = E σ []) ?_ _ _ _ ⟨0, _, rfl, Nat.zero_le _, rfl, ⟨by omega, rfl⟩, rfl, rfl⟩)
  rintro m fr τ ⟨i, n, rfl, hi, hn, ⟨hl, hsl⟩, rfl, rfl⟩ hrec
  by_cases hlt : i < xs.length
  · have hlt2 : i < ys.length := by omega
    have hst := sameVals_step hlt hlt2
    repeat' first|refine yaG ?_|((first|apply yG|apply yH|apply yI);exact rfl;(first|exact yX (enc := encV) rfl rfl hn hlt rfl|exact yX (enc := encV) rfl rfl hn hlt2 rfl))|(exfalso;omega)|(refine yaS ?_ ?_<;>intro _)
    · refine .ret rfl (.bool ?_)
      rw [hsl, hst]
      clear hrec
      simp_all
      intros
      simp_all
    · refine Go.keep [0, 1, 12, 13] (hrec _ _ _ (by omega) ⟨i + 1, _, rfl, hlt, wrap_succ hn (by omega), ⟨hl, ?_⟩, rfl, rfl⟩)
      rw [hsl, hst]
      clear hrec
      simp_all
  · repeat' first|refine yaG ?_|(exfalso;omega)|(refine yaS ?_ ?_<;>intro _)
    refine .ret rfl (.bool ?_)
    rw [hsl, List.drop_eq_nil_of_le (by omega), List.drop_eq_nil_of_le (by omega)]
    rfl
theorem entry_beq (e f : Entry) : (e == f) = (e.id == f.id && e.key == f.key) := by
  obtain ⟨a, b⟩ := e
  obtain ⟨c, d⟩ := f
  rw [Bool.eq_iff_iff]
  simp
  exact And.comm
theorem l11Same_ok (e f : Entry) (hx : e.key.length ≤ 34359738368) : Pure Tryz.prog 65 [.agg (encE e), .agg (encE f)] (.c (.bool (e == f))) := by
  refine Pure.run mixed c_spec_l11Same_ok (Nat.le_of_ble_eq_true rfl) fun σ hS hA => ?_
  clear hS hA
  repeat' first|refine yaG ?_|((first|apply Go.pcallB|apply Go.spcallB|apply Qg.pcallB);(iterate 3 exact rfl);exact l1SameVals_ok e.key f.key hx;intro _ _)|(exfalso;omega)|(refine yaS ?_ ?_<;>intro _)
  all_goals refine .ret rfl (.bool ?_)
  all_goals rw [entry_beq]
  all_goals simp_all
theorem sameEntry_ok (e f : Entry) (hx : e.key.length ≤ 34359738368) : Pure Tryz.prog 63 [.agg (encE e), .agg (encE f)] (.c (.bool (e == f))) := by
  refine Pure.run mixed c_impl_sameEntry_ok (Nat.le_of_ble_eq_true rfl) fun σ hS hA => ?_
  clear hS hA
  repeat' first|refine yaG ?_|((first|apply Go.pcallB|apply Go.spcallB|apply Qg.pcallB);(iterate 3 exact rfl);exact equalVals_ok e.key f.key hx;intro _ _)|(exfalso;omega)|(refine yaS ?_ ?_<;>intro _)
  all_goals refine .ret rfl (.bool ?_)
  all_goals rw [entry_beq]
  all_goals simp_all
theorem dropFn_ok (e f : Entry) (hx : e.key.length ≤ 34359738368) : Pure Tryz.prog 62 [.agg (encE e), .c (.fp (encE f))] (.c (.bool (e == f))) := by
  refine Pure.run mixed c_impl_IndexDrop_1_ok (Nat.le_of_ble_eq_true rfl) fun σ hS hA => ?_
  clear hS hA
  repeat' first|refine yaG ?_|refine yaC (sameEntry_ok e f hx) ?_|(exfalso;omega)|(refine yaS ?_ ?_<;>intro _)
  exact .ret rfl (.bool rfl)
def idxI (p : Entry → Bool) : List Entry → Int → Int
  | [], _ => -1
  | a :: r, i => if p a then i else idxI p r (i + 1)
theorem indexFunc_ok (l : List Entry) (p : Entry → Bool) (n : Nat) (pre cap : List Ce) (hx : l.length ≤ 34359738368) (hp : ∀ e ∈ l, Pure Tryz.prog n (pre.map .c ++ [.agg (encE e)] ++ cap.map .c) (.c (.bool (p e)))) :
    Pure Tryz.prog 61 [.c (.fz (l.map encE)), .c (.fn n pre cap)] (.c (.int .i64 (idxI p l 0))) := by
  refine Pure.run mixed c_slices_IndexFunc_Entry_ok (Nat.le_of_ble_eq_true rfl) fun σ hS hA => ?_
  clear hS hA
  repeat' first|refine yaG ?_|(exfalso;omega)|(refine yaS ?_ ?_<;>intro _)
  refine Go.keep [0, 1, 7, 8] (Go.loops (I := fun m fr τ => ∃ i : Nat, ∃ k : Int, m = l.length - i ∧ i ≤ l.length ∧ k = i ∧ idxI p l 0 = idxI p (l.drop i) k ∧
    fr = [(0, .c (.fz (l.map encE))), (1, .c (.fn n pre cap)), (7, .c (.int .i64 (l.length : Int))), (8, .c (.int .i64 k))] ∧ τ = E σ []) ?_ _ _ _ ⟨0, _, rfl, Nat.zero_le _, rfl, rfl, rfl, rfl⟩)
  rintro m fr τ ⟨i, k, rfl, hi, hn, hsl, rfl, rfl⟩ hrec
  by_cases hlt : i < l.length
  · repeat' first|refine yaG ?_|((first|apply yG|apply yH|apply yI);exact rfl;(first|exact yX (enc := encE) rfl rfl hn hlt rfl))|((first|apply Go.pcallB|apply Go.spcallB|apply Qg.pcallB);(iterate 3 exact rfl);exact hp l[i] (List.getElem_mem hlt);intro _ _)|(exfalso;omega)|(refine yaS ?_ ?_<;>intro _)
    · refine .ret rfl (.int ?_)
      rw [hsl, List.drop_eq_getElem_cons hlt, idxI, if_pos (by simp_all)]
    · refine Go.keep [0, 1, 7, 8] (hrec _ _ _ (by omega) ⟨i + 1, _, rfl, hlt, wrap_succ hn (by omega), ?_, rfl, rfl⟩)
      rw [hsl, List.drop_eq_getElem_cons hlt, idxI, if_neg (by simp_all), wrap64 (by omega) (by omega)]
  · repeat' first|refine yaG ?_|(exfalso;omega)|(refine yaS ?_ ?_<;>intro _)
    refine .ret rfl (.int ?_)
    rw [hsl, List.drop_eq_nil_of_le (by omega)]
    rfl

/-! ### Copies -/
theorem clean_append {xs : List Val} : ∀ e ∈ xs.map encV, e.length = 3 ∧ ∀ x ∈ e, Flat x := by
  intro e he
  obtain ⟨a, _, rfl⟩ := List.mem_map.1 he
  exact ⟨rfl, flatV a⟩
theorem l1CopyVals_ok (xs : List Val) (hx : xs.length ≤ 34359738368) (σ : Store) : Ok Tryz.prog 60 [.c (.fz (xs.map encV))] σ (NewV σ (.c (.fz (xs.map encV)))) := by
  refine (Makes.new (s := 3) clean_append (Makes.run mixed c_spec_l1CopyVals_ok (Nat.le_of_ble_eq_true rfl) fun σ hS hA => ?_) σ).mono fun _ _ h => h.v
  clear hS hA
  repeat' first|refine yaG ?_|(exfalso;omega)|(refine yaS ?_ ?_<;>intro _)
  refine Go.app (ys := []) (junk := []) (zs := xs.map encV) rfl rfl rfl rfl rfl (by simp) Jk.nil (fun e he => (clean_append e he).1) (by simp; omega) fun v junk hj => ?_
  repeat' first|refine yaG ?_|(exfalso;omega)|(refine yaS ?_ ?_<;>intro _)
  exact .ret rfl ⟨v, junk, hj, rfl, rfl⟩
theorem cloneVals_ok (xs : List Val) (hx : xs.length ≤ 34359738368) (σ : Store) : Ok Tryz.prog 105 [.c (.fz (xs.map encV))] σ (NewV σ (.c (.fz (xs.map encV)))) :=
  (clone_ok mixed c_slices_Clone_Val_ok (xs.map encV) (fun e he => (clean_append e he).1) (by simp; omega) σ).mono fun _ _ h => h.new clean_append
end Go.Proofs.YtdgnfdljkghpjaaGreat.Am

/- Truths and what is made of values: the program. -/
set_option linter.unusedVariables false
set_option linter.unusedSimpArgs false
namespace Go.Proofs.YtdgnfdljkghpjaaGreat.Am

theorem val_eq (v w : Val) : ((v.k == w.k && (v.n == w.n && (v.s == w.s && true))) != false) = (v == w) := by
  obtain ⟨a, b, c⟩ := v
  obtain ⟨d, e, f⟩ := w
  rw [Bool.eq_iff_iff]
  simp
theorem encV_flat (v : Val) : ∀ x ∈ encV v, Flat x := flatV v
theorem fin_v {σ : Store} {l : List (Nat × List (List Ce))} (v : Val) : Fin σ (.agg (encV v)) (.agg (encV v)) (E σ l) :=
  ⟨l, rfl, .refl fun y hy => (encV_flat v y hy).old _⟩
theorem fin_vb {σ : Store} {l : List (Nat × List (List Ce))} (v : Val) (b : Bool) : Fin σ (.tup [.agg (encV v), .c (.bool b)]) (.tup [.agg (encV v), .c (.bool b)]) (E σ l) :=
  ⟨l, rfl, .refl fun y hy => by
    simp [AV.all, AV.all.allL, encV] at hy
    rcases hy with rfl | rfl | rfl | rfl
    · exact .int _ _
    · exact .int _ _
    · exact .str _
    · exact .bool _⟩
theorem retv_mt {fr : Fr} {σ : Store} {l : List (Nat × List (List Ce))} {k v i t u j s : Nat} {g : Bool} {es : List (List Ce)} {e : List Ce} {x y : AV} (hp : look fr t = some (.c (.ptr (σ.next + k) v i j))) (hl : l[k]? = some (v, es)) (he : es[i]? = some e) (hj : j ≤ e.length) (hx : takeA g s (e.drop j) = some x) (hu : look fr u = some y) :
    retv fr (E σ l) [.m t g s, .t u] = some (.tup [x, y]) := by
  have h1 := retv_m hp hl he hj hx
  simp only [retv, revs] at h1 ⊢
  cases hq : RV.ev fr (E σ l) (.m t g s) with
  | none => rw [hq] at h1; simp at h1
  | some q =>
    rw [hq] at h1
    simp only [Option.some.injEq] at h1
    subst h1
    have h2 : RV.ev fr (E σ l) (.t u) = some y := hu
    rw [h2]
end Go.Proofs.YtdgnfdljkghpjaaGreat.Am

/- Expressions: the program's Eval and Truth. -/
set_option linter.unusedVariables false
set_option linter.unusedSimpArgs false
namespace Go.Proofs.YtdgnfdljkghpjaaGreat.Am

theorem isTok_kinds {t : Tok} {n : Int} (h : isTokF t n = true) : t.kind = 1 ∨ t.kind = 2 ∨ (t.kind = 3 ∨ t.kind = 4 ∨ t.kind = 5 ∨ t.kind = 6 ∨ t.kind = 7 ∨ t.kind = 8 ∨ t.kind = 9 ∨ t.kind = 10) := by
  simp only [isTokF] at h
  split at h
  · exact .inl ‹_›
  · split at h
    · exact .inr (.inl ‹_›)
    · simp only [Bool.and_eq_true] at h
      exact .inr (.inr (isIn_310.1 h.1.1))
theorem isTok_col {t : Tok} {n : Int} (h : isTokF t n = true) (h1 : t.kind = 1) : 0 ≤ t.col ∧ t.col < n := by
  simp only [isTokF, if_pos h1, Bool.and_eq_true, isIn, decide_eq_true_eq] at h
  omega
theorem areVals_oks {l : List Val} {n : Int} (h : areVals l n = true) : Oks l ∧ (l.length : Int) ≤ n := by
  simp only [areVals, Bool.and_eq_true, decide_eq_true_eq, List.all_eq_true] at h
  exact ⟨h.2, h.1⟩
theorem exprF_aux {e : List Tok} {n : Int} (h : exprF e n = true) : (e.length : Int) ≤ 24 ∧ exprAux n 0 e = true := by
  simpa only [exprF, Bool.and_eq_true, decide_eq_true_eq] using h
theorem exprAux_cons {n a : Int} {t : Tok} {r : List Tok} (h : exprAux n a (t :: r) = true) : isTokF t n = true ∧ tokTakes t ≤ a ∧ exprAux n (a + 1 - tokTakes t) r = true := by
  simp only [exprAux, Bool.and_eq_true, decide_eq_true_eq] at h
  exact ⟨h.1.1, h.1.2, h.2⟩
theorem Oks.take {l : List Val} (h : Oks l) (n : Nat) : Oks (l.take n) := fun v hv => h v (List.mem_of_mem_take hv)
theorem Oks.drop {l : List Val} (h : Oks l) (n : Nat) : Oks (l.drop n) := fun v hv => h v (List.mem_of_mem_drop hv)
theorem Oks.snoc {l : List Val} (h : Oks l) {v : Val} (hv : okVal v = true) : Oks (l ++ [v]) := fun w hw => by
  rcases List.mem_append.1 hw with hw | hw
  · exact h w hw
  · rw [List.mem_singleton.1 hw]; exact hv
theorem flats {l : List Val} : ∀ e ∈ l.map encV, ∀ x ∈ e, Flat x := fun e he x hx => (clean_append e he).2 x hx
theorem lens {l : List Val} : ∀ e ∈ l.map encV, e.length = 3 := fun e he => (clean_append e he).1
theorem old_ptr {n id v i j : Nat} (h : id < n) : ∀ y ∈ (AV.c (.ptr id v i j)).all, Old n y := fun y hy => by
  simp only [AV.all, List.mem_singleton] at hy
  subst hy
  exact .ptr _ _ _ _ h
theorem old_sl {n id v i j c : Nat} (h : id < n) : ∀ y ∈ (AV.c (.sl id v i j c)).all, Old n y := fun y hy => by
  simp only [AV.all, List.mem_singleton] at hy
  subst hy
  exact .sl _ _ _ _ _ h
theorem old_int {n : Nat} {k : IntKind} {z : Int} : ∀ y ∈ (AV.c (.int k z)).all, Old n y := fun y hy => by
  simp only [AV.all, List.mem_singleton] at hy
  subst hy
  exact .int _ _
theorem old_fzF {n : Nat} {es : List (List Ce)} (h : ∀ e ∈ es, ∀ x ∈ e, Flat x) : ∀ y ∈ (AV.c (.fz es)).all, Old n y := fun y hy => by
  simp only [AV.all, List.mem_singleton] at hy
  subst hy
  exact .fz _ fun i j hi hj => (h _ (List.getElem_mem hi) _ (List.getElem_mem hj)).old _
theorem old_encV {n : Nat} {l : List Val} : ∀ y ∈ (AV.c (.fz (l.map encV))).all, Old n y := old_fzF flats
theorem old_encTok {n : Nat} {l : List Tok} : ∀ y ∈ (AV.c (.fz (l.map encTok))).all, Old n y := old_fzF fun e he x hx => by
  obtain ⟨a, _, rfl⟩ := List.mem_map.1 he
  exact flatTok a x hx
end Go.Proofs.YtdgnfdljkghpjaaGreat.Am

/- Truths and what is made of values: the reference. -/
set_option linter.unusedVariables false
set_option linter.unusedSimpArgs false
namespace Go.Proofs.YtdgnfdljkghpjaaGreat.Am

theorem fin_ib {σ : Store} {l : List (Nat × List (List Ce))} (n : Int) (b : Bool) : Fin σ (.tup [.c (.int .i64 n), .c (.bool b)]) (.tup [.c (.int .i64 n), .c (.bool b)]) (E σ l) :=
  ⟨l, rfl, .refl fun y hy => by
    simp [AV.all, AV.all.allL] at hy
    rcases hy with rfl | rfl
    · exact .int _ _
    · exact .bool _⟩
theorem l1Yes_ok (b : Bool) : Pure Tryz.prog 265 [.c (.bool b)] (.c (.int .i64 (yes b))) := by
  refine Pure.run mixed c_spec_l1Yes_ok (Nat.le_of_ble_eq_true rfl) fun σ hS hA => ?_
  clear hS hA
  repeat' first|refine yaG ?_|(exfalso;omega)|(refine yaS ?_ ?_<;>intro _)
  all_goals refine .ret rfl (.int ?_)
  all_goals simp_all [yes]
theorem l1Int_ok (n : Int) : Pure Tryz.prog 102 [.c (.int .i64 n)] (.agg (encV (vInt n))) := by
  refine Pure.run mixed c_spec_l1Int_ok (Nat.le_of_ble_eq_true rfl) fun σ hS hA => ?_
  clear hS hA
  repeat' first|refine yaG ?_|(exfalso;omega)|(refine yaS ?_ ?_<;>intro _)
  exact .ret (retv_m rfl rfl rfl (Nat.zero_le _) rfl) (fin_v (vInt n))
def asR (t : Int) : Val := if t = 2 then vNull else vInt t
theorem l2As_ok (t : Int) : Pure Tryz.prog 266 [.c (.int .i64 t)] (.agg (encV (asR t))) := by
  refine Pure.run mixed c_spec_l2As_ok (Nat.le_of_ble_eq_true rfl) fun σ hS hA => ?_
  clear hS hA
  repeat' first|refine yaG ?_|refine yaC (l1Int_ok t) ?_|(exfalso;omega)|(refine yaS ?_ ?_<;>intro _)
  · rename_i h
    rw [asR, if_pos h]
    exact .ret (retv_m rfl rfl rfl (Nat.zero_le _) rfl) (fin_v vNull)
  · rename_i h
    rw [asR, if_neg h]
    exact .ret (retv_m rfl rfl rfl (Nat.zero_le _) rfl) (fin_v (vInt t))
def ofT (v : Val) : Int := if v.k = 0 then 2 else if v.k = 1 then yes (v.n != 0) else 0
def ofB (v : Val) : Bool := decide (v.k = 0) || decide (v.k = 1)
theorem l2Of_ok (v : Val) : Pure Tryz.prog 262 [.agg (encV v)] (.tup [.c (.int .i64 (ofT v)), .c (.bool (ofB v))]) := by
  refine Pure.run mixed c_spec_l2Of_ok (Nat.le_of_ble_eq_true rfl) fun σ hS hA => ?_
  clear hS hA
  repeat' first|refine yaG ?_|((first|apply yQ|apply yR|apply yS);(iterate 3 exact rfl);exact l1Yes_ok _)|(exfalso;omega)|(refine yaS ?_ ?_<;>intro _)
  · rename_i h
    rw [ofT, if_pos h, ofB, decide_eq_true h]
    exact .ret rfl (fin_ib _ _)
  · rename_i h h1
    rw [ofT, if_neg h, if_pos h1, ofB, decide_eq_true h1, Bool.or_true]
    exact .ret rfl (fin_ib _ _)
  · rename_i h h1
    rw [ofT, if_neg h, if_neg h1, ofB, decide_eq_false h, decide_eq_false h1]
    exact .ret rfl (fin_ib _ _)
theorem sEqual3_ok (v w : Val) : Pure Tryz.prog 270 [.agg (encV v), .agg (encV w)] (.c (.int .i64 (eq3 v w))) := by
  refine Pure.run mixed c_spec_Equal3_ok (Nat.le_of_ble_eq_true rfl) fun σ hS hA => ?_
  clear hS hA
  cases hk : knownV v w
  · rw [eq3, hk]
    have hk2 := hk
    simp only [knownV] at hk2
    repeat' first|refine yaG ?_|((first|apply yQ|apply yR|apply yS);(iterate 3 exact rfl);exact l1Yes_ok _)|((first|apply Go.pcallB|apply Go.spcallB|apply Qg.pcallB);(iterate 3 exact rfl);(first|exact sValOk_ok v|exact sValOk_ok w);intro _ _)|(exfalso;omega)|(refine yaS ?_ ?_<;>intro _)
    all_goals first
      | exact .ret rfl (.int rfl)
      | (exfalso; simp_all; done)
  · rw [eq3, hk]
    have hk2 := hk
    simp only [knownV, Bool.and_eq_true, Bool.not_eq_true', beq_eq_false_iff_ne] at hk2
    obtain ⟨k1, k2, k3, k4⟩ := hk2
    have c1 := sValOk_ok v
    have c2 := sValOk_ok w
    rw [k1] at c1
    rw [k2] at c2
    repeat' first|refine yaG ?_|refine yaC (c1) ?_|refine yaC (c2) ?_|((first|apply yQ|apply yR|apply yS);(iterate 3 exact rfl);exact l1Yes_ok _)|(exfalso;omega)|(refine yaS ?_ ?_<;>intro _)
    all_goals first
      | (refine .ret rfl (.int ?_); rw [val_eq]; rfl)
      | (exfalso; simp_all; done)
theorem sLess3_ok (v w : Val) : Pure Tryz.prog 271 [.agg (encV v), .agg (encV w)] (.c (.int .i64 (less3 v w))) := by
  refine Pure.run mixed c_spec_Less3_ok (Nat.le_of_ble_eq_true rfl) fun σ hS hA => ?_
  clear hS hA
  cases hk : knownV v w
  · rw [less3, hk]
    have hk2 := hk
    simp only [knownV] at hk2
    repeat' first|refine yaG ?_|refine yaC (l1Order_ok v w) ?_|((first|apply yQ|apply yR|apply yS);(iterate 3 exact rfl);exact l1Yes_ok _)|((first|apply Go.pcallB|apply Go.spcallB|apply Qg.pcallB);(iterate 3 exact rfl);(first|exact sValOk_ok v|exact sValOk_ok w);intro _ _)|(exfalso;omega)|(refine yaS ?_ ?_<;>intro _)
    all_goals first
      | exact .ret rfl (.int rfl)
      | (exfalso; simp_all; done)
  · rw [less3, hk]
    have hk2 := hk
    simp only [knownV, Bool.and_eq_true, Bool.not_eq_true', beq_eq_false_iff_ne] at hk2
    obtain ⟨k1, k2, k3, k4⟩ := hk2
    have c1 := sValOk_ok v
    have c2 := sValOk_ok w
    have c3 := l1Order_ok v w
    rw [l1Ord_order k1 k2] at c3
    rw [k1] at c1
    rw [k2] at c2
    repeat' first|refine yaG ?_|refine yaC (c1) ?_|refine yaC (c2) ?_|refine yaC (c3) ?_|((first|apply yQ|apply yR|apply yS);(iterate 3 exact rfl);exact l1Yes_ok _)|(exfalso;omega)|(refine yaS ?_ ?_<;>intro _)
    all_goals first
      | exact .ret rfl (.int rfl)
      | (exfalso; simp_all; done)
theorem l2Tru_ok (t : Int) : Pure Tryz.prog 275 [.c (.int .i64 t)] (.c (.bool (tru t))) := by
  refine Pure.run mixed c_spec_l2Tru_ok (Nat.le_of_ble_eq_true rfl) fun σ hS hA => ?_
  clear hS hA
  repeat' first|refine yaG ?_|((first|apply yQ|apply yR|apply yS);(iterate 3 exact rfl);exact l1In_ok _ _ _)|(exfalso;omega)|(refine yaS ?_ ?_<;>intro _)
  exact .ret rfl (.bool rfl)
theorem sAnd3_ok (a b : Int) : Pure Tryz.prog 273 [.c (.int .i64 a), .c (.int .i64 b)] (.c (.int .i64 (and3 a b))) := by
  refine Pure.run mixed c_spec_And3_ok (Nat.le_of_ble_eq_true rfl) fun σ hS hA => ?_
  clear hS hA
  repeat' first|refine yaG ?_|((first|apply Go.pcallB|apply Go.spcallB|apply Qg.pcallB);(iterate 3 exact rfl);(first|exact l2Tru_ok a|exact l2Tru_ok b);intro _ _)|(exfalso;omega)|(refine yaS ?_ ?_<;>intro _)
  all_goals refine .ret rfl (.int ?_)
  all_goals simp_all [and3]
theorem sOr3_ok (a b : Int) : Pure Tryz.prog 274 [.c (.int .i64 a), .c (.int .i64 b)] (.c (.int .i64 (or3 a b))) := by
  refine Pure.run mixed c_spec_Or3_ok (Nat.le_of_ble_eq_true rfl) fun σ hS hA => ?_
  clear hS hA
  repeat' first|refine yaG ?_|((first|apply Go.pcallB|apply Go.spcallB|apply Qg.pcallB);(iterate 3 exact rfl);(first|exact l2Tru_ok a|exact l2Tru_ok b);intro _ _)|(exfalso;omega)|(refine yaS ?_ ?_<;>intro _)
  all_goals refine .ret rfl (.int ?_)
  all_goals simp_all [or3]
theorem sNot3_ok (a : Int) : Pure Tryz.prog 267 [.c (.int .i64 a)] (.c (.int .i64 (not3 a))) := by
  refine Pure.run mixed c_spec_Not3_ok (Nat.le_of_ble_eq_true rfl) fun σ hS hA => ?_
  clear hS hA
  repeat' first|refine yaG ?_|(exfalso;omega)|(refine yaS ?_ ?_<;>intro _)
  all_goals refine .ret rfl (.int ?_)
  · rename_i h; subst h; rfl
  · rename_i h1 h; subst h; rfl
  · rename_i h1 h2 h; subst h; rfl
  · rename_i h1 h2 h3
    have : tru a = false := by
      cases ht : tru a
      · rfl
      · have := tru_range.1 ht; omega
    rw [not3, this]
    rfl
theorem l2Sum_ok (a b : Val) (s : Int) (hs : s = 1 ∨ s = -1) (ha : okVal a = true) (hb : okVal b = true) : Pure Tryz.prog 272 [.agg (encV a), .agg (encV b), .c (.int .i64 s)] (.tup [.agg (encV (sumV a b s).1), .c (.bool (sumV a b s).2)]) := by
  refine Pure.run mixed c_spec_l2Sum_ok (Nat.le_of_ble_eq_true rfl) fun σ hS hA => ?_
  clear hS hA
  by_cases h1 : a.k = 2 ∨ b.k = 2
  · have e : sumV a b s = (vNull, false) := by simp only [sumV, if_pos h1]
    rw [e]
    rcases h1 with h1 | h1
    · repeat' first|refine yaG ?_|(exfalso;omega)|(refine yaS ?_ ?_<;>intro _)
      all_goals first
        | exact .ret (retv_mt rfl rfl rfl (Nat.zero_le _) rfl rfl) (fin_vb vNull _)
        | (exfalso; omega)
    · repeat' first|refine yaG ?_|(exfalso;omega)|(refine yaS ?_ ?_<;>intro _)
      all_goals first
        | exact .ret (retv_mt rfl rfl rfl (Nat.zero_le _) rfl rfl) (fin_vb vNull _)
        | (exfalso; omega)
  by_cases h2 : a.k = 0 ∨ b.k = 0
  · have e : sumV a b s = (vNull, true) := by simp only [sumV, if_neg h1, if_pos h2]
    rw [e]
    rcases h2 with h2 | h2
    · repeat' first|refine yaG ?_|(exfalso;omega)|(refine yaS ?_ ?_<;>intro _)
      all_goals first
        | exact .ret (retv_mt rfl rfl rfl (Nat.zero_le _) rfl rfl) (fin_vb vNull _)
        | (exfalso; omega)
    · repeat' first|refine yaG ?_|(exfalso;omega)|(refine yaS ?_ ?_<;>intro _)
      all_goals first
        | exact .ret (retv_mt rfl rfl rfl (Nat.zero_le _) rfl rfl) (fin_vb vNull _)
        | (exfalso; omega)
  have e : sumV a b s = (vInt (a.n + s * b.n), okVal (vInt (a.n + s * b.n))) := by simp only [sumV, if_neg h1, if_neg h2]
  have ka : a.k = 1 := by have := okVal_kind ha; omega
  have kb : b.k = 1 := by have := okVal_kind hb; omega
  have ra := okVal_range ha ka
  have rb := okVal_range hb kb
  have hw : IntKind.i64.wrap (a.n + IntKind.i64.wrap (s * b.n)) = a.n + s * b.n := by
    rcases hs with rfl | rfl
    · rw [wrap64 (n := 1 * b.n) (by omega) (by omega), wrap64 (by omega) (by omega)]
    · rw [wrap64 (n := -1 * b.n) (by omega) (by omega), wrap64 (by omega) (by omega)]
  rw [e]
  repeat' first|refine yaG ?_|((first|apply yG|apply yH|apply yI);exact rfl;(first|exact aop_store rfl rfl rfl rfl rfl rfl (Nat.le_of_ble_eq_true rfl)))|((first|apply yQ|apply yR|apply yS);(iterate 3 exact rfl);exact l1Int_ok _)|refine yaC (sValOk_ok (vInt (IntKind.i64.wrap (a.n + IntKind.i64.wrap (s * b.n))))) ?_|(exfalso;omega)|(refine yaS ?_ ?_<;>intro _)
  all_goals first
    | (exfalso; omega)
    | skip
  rw [hw]
  exact .ret (retv_mt rfl rfl rfl (Nat.zero_le _) rfl rfl) (fin_vb (vInt _) _)
def twoR (k : Int) (a b : Val) : Val × Bool := if k = 3 then (asR (eq3 a b), true) else if k = 4 then (asR (less3 a b), true) else if k = 9 then sumV a b 1 else if k = 10 then sumV a b (-1)
  else if ofB a && ofB b then (asR (if k = 5 then and3 (ofT a) (ofT b) else or3 (ofT a) (ofT b)), true) else (vNull, false)
theorem l2Two_ok (k : Int) (a b : Val) (ha : okVal a = true) (hb : okVal b = true) : Pure Tryz.prog 268 [.c (.int .i64 k), .agg (encV a), .agg (encV b)] (.tup [.agg (encV (twoR k a b).1), .c (.bool (twoR k a b).2)]) := by
  refine Pure.run mixed c_spec_l2Two_ok (Nat.le_of_ble_eq_true rfl) fun σ hS hA => ?_
  clear hS hA
  repeat' first|refine yaG ?_|refine yaC (sEqual3_ok a b) ?_|refine yaC (sLess3_ok a b) ?_|((first|apply yQ|apply yR|apply yS);(iterate 3 exact rfl);exact l2As_ok _)|refine yaC (l2Sum_ok a b 1 (.inl rfl) ha hb) ?_|refine yaC (l2Sum_ok a b (-1) (.inr rfl) ha hb) ?_|refine yaC (l2Of_ok a) ?_|refine yaC (l2Of_ok b) ?_|((first|apply yQ|apply yR|apply yS);(iterate 3 exact rfl);exact sAnd3_ok _ _)|((first|apply yQ|apply yR|apply yS);(iterate 3 exact rfl);exact sOr3_ok _ _)|(exfalso;omega)|(refine yaS ?_ ?_<;>intro _)
  · rename_i h
    rw [twoR, if_pos h]
    exact .ret (retv_mt rfl rfl rfl (Nat.zero_le _) rfl rfl) (fin_vb _ _)
  · rename_i h0 h
    rw [twoR, if_neg h0, if_pos h]
    exact .ret (retv_mt rfl rfl rfl (Nat.zero_le _) rfl rfl) (fin_vb _ _)
  · rename_i h0 h1 h
    rw [twoR, if_neg h0, if_neg h1, if_pos h]
    exact .ret (retv_mt rfl rfl rfl (Nat.zero_le _) rfl rfl) (fin_vb _ _)
  · rename_i h0 h1 h2 h
    rw [twoR, if_neg h0, if_neg h1, if_neg h2, if_pos h]
    exact .ret (retv_mt rfl rfl rfl (Nat.zero_le _) rfl rfl) (fin_vb _ _)
  · rename_i h0 h1 h2 h3 h
    have h : ofB a = false := by simpa using h
    rw [twoR, if_neg h0, if_neg h1, if_neg h2, if_neg h3, h]
    exact .ret (retv_mt rfl rfl rfl (Nat.zero_le _) rfl rfl) (fin_vb vNull _)
  · rename_i h0 h1 h2 h3 h4 h
    have h : ofB b = false := by simpa using h
    rw [twoR, if_neg h0, if_neg h1, if_neg h2, if_neg h3, h, Bool.and_false]
    exact .ret (retv_mt rfl rfl rfl (Nat.zero_le _) rfl rfl) (fin_vb vNull _)
  · rename_i h0 h1 h2 h3 h4 h h5
    have h4 : ofB a = true := by simpa using h4
    have h : ofB b = true := by simpa using h
    rw [twoR, if_neg h0, if_neg h1, if_neg h2, if_neg h3, h4, h, if_pos h5]
    exact .ret (retv_mt rfl rfl rfl (Nat.zero_le _) rfl rfl) (fin_vb _ _)
  · rename_i h0 h1 h2 h3 h4 h h5
    have h4 : ofB a = true := by simpa using h4
    have h : ofB b = true := by simpa using h
    rw [twoR, if_neg h0, if_neg h1, if_neg h2, if_neg h3, h4, h, if_neg h5]
    exact .ret (retv_mt rfl rfl rfl (Nat.zero_le _) rfl rfl) (fin_vb _ _)
theorem asV_asR {t : Int} (h0 : 0 ≤ t) : asV t = (asR t, true) := by
  simp only [asV, asR]
  split
  · rfl
  · rw [decide_eq_true h0]
theorem ofB_truth {a : Val} (h : ofB a = true) : truthV a = ofT a ∧ 0 ≤ ofT a ∧ ofT a ≤ 2 := by
  simp only [ofB, Bool.or_eq_true, decide_eq_true_eq] at h
  simp only [truthV, ofT]
  have := yes_range (a.n != 0)
  rcases h with h | h
  · simp [h]
  · have hn : ¬ a.k = 0 := by omega
    simp only [if_neg hn, if_pos h]
    refine ⟨?_, this.1, by omega⟩
    by_cases h0 : a.n = 0 <;> simp [h0, yes]
theorem ofB_not {a : Val} (h : ofB a = false) : truthV a = -1 := by
  simp only [ofB, Bool.or_eq_false_iff, decide_eq_false_iff_not] at h
  rw [truthV, if_neg h.1, if_neg h.2]
theorem and3_tru {a b : Int} (ha : 0 ≤ a ∧ a ≤ 2) (hb : 0 ≤ b ∧ b ≤ 2) : 0 ≤ and3 a b := by
  rw [and3, tru_range.2 ha, tru_range.2 hb]
  simp only [Bool.and_self, if_true]
  split
  · omega
  · split <;> omega
theorem or3_tru {a b : Int} (ha : 0 ≤ a ∧ a ≤ 2) (hb : 0 ≤ b ∧ b ≤ 2) : 0 ≤ or3 a b := by
  rw [or3, tru_range.2 ha, tru_range.2 hb]
  simp only [Bool.and_self, if_true]
  split
  · omega
  · split <;> omega
/-- The reference's op of two is the program's. -/
theorem twoR_eq (t : Tok) (a b : Val) (row : List Val) (hk : t.kind = 3 ∨ t.kind = 4 ∨ t.kind = 5 ∨ t.kind = 6 ∨ t.kind = 9 ∨ t.kind = 10) : (twoR t.kind a b).2 = (applyF t [a, b] row).2 ∧ ((applyF t [a, b] row).2 = true → twoR t.kind a b = applyF t [a, b] row) := by
  have h5 : ∀ f : Int → Int → Int, (f = and3 ∨ f = or3) → (if ofB a && ofB b then (asR (f (ofT a) (ofT b)), true) else (vNull, false)).2 = (asV (f (truthV a) (truthV b))).2 ∧ ((asV (f (truthV a) (truthV b))).2 = true → (if ofB a && ofB b then (asR (f (ofT a) (ofT b)), true) else (vNull, false)) = asV (f (truthV a) (truthV b))) := by
    intro f hf
    cases h1 : ofB a
    · have h3 : asV (f (truthV a) (truthV b)) = (vInt (-1), false) := by
        rw [ofB_not h1]
        rcases hf with rfl | rfl
        · rw [and3, show tru (-1) = false from rfl]; rfl
        · rw [or3, show tru (-1) = false from rfl]; rfl
      rw [h3]
      simp
    cases h2 : ofB b
    · have h3 : asV (f (truthV a) (truthV b)) = (vInt (-1), false) := by
        rw [ofB_not h2]
        rcases hf with rfl | rfl
        · rw [and3, show tru (-1) = false from rfl, Bool.and_false]; rfl
        · rw [or3, show tru (-1) = false from rfl, Bool.and_false]; rfl
      rw [h3]
      simp
    obtain ⟨e1, r1⟩ := ofB_truth h1
    obtain ⟨e2, r2⟩ := ofB_truth h2
    rw [e1, e2, asV_asR (by
      rcases hf with rfl | rfl
      · exact and3_tru r1 r2
      · exact or3_tru r1 r2)]
    simp
  rcases hk with h | h | h | h | h | h
  · simp only [twoR, applyF, vAt, h, List.getElem?_cons_zero, List.getElem?_cons_succ, Option.getD_some, Int.reduceEq, if_true, if_false, reduceIte]
    rw [asV_asR (eq3_range a b).1]
    simp
  · simp only [twoR, applyF, vAt, h, List.getElem?_cons_zero, List.getElem?_cons_succ, Option.getD_some, Int.reduceEq, if_true, if_false, reduceIte]
    rw [asV_asR (less3_range a b).1]
    simp
  · simp only [twoR, applyF, vAt, h, List.getElem?_cons_zero, List.getElem?_cons_succ, Option.getD_some, Int.reduceEq, if_true, if_false, reduceIte]
    exact h5 and3 (.inl rfl)
  · simp only [twoR, applyF, vAt, h, List.getElem?_cons_zero, List.getElem?_cons_succ, Option.getD_some, Int.reduceEq, if_true, if_false, reduceIte]
    exact h5 or3 (.inr rfl)
  · simp only [twoR, applyF, vAt, h, List.getElem?_cons_zero, List.getElem?_cons_succ, Option.getD_some, Int.reduceEq, if_true, if_false, reduceIte]
    simp
  · simp only [twoR, applyF, vAt, h, List.getElem?_cons_zero, List.getElem?_cons_succ, Option.getD_some, Int.reduceEq, if_true, if_false, reduceIte]
    simp
end Go.Proofs.YtdgnfdljkghpjaaGreat.Am

/- The reader that draws: numbers. -/
set_option linter.unusedVariables false
set_option linter.unusedSimpArgs false
namespace Go.Proofs.YtdgnfdljkghpjaaGreat.Am

/-- A number from lo up, below hi. -/
def NumIn (k : IntKind) (lo hi : Int) (r : AV) : Prop := ∃ n : Int, lo ≤ n ∧ n < hi ∧ r = .c (.int k n)
theorem old_c {n : Nat} {k : IntKind} {z : Int} : ∀ y ∈ (AV.c (.int k z)).all, Old n y := fun y hy => by
  simp only [AV.all, List.mem_singleton] at hy
  subst hy
  exact .int _ _
theorem old_b {n : Nat} {b : Bool} : ∀ y ∈ (AV.c (.bool b)).all, Old n y := fun y hy => by
  simp only [AV.all, List.mem_singleton] at hy
  subst hy
  exact .bool _
theorem aop_byte {fr : Fr} {σ : Store} {x : Opd} {b : UInt8} (hx : x.ev fr = some (.c (.fp (encB b)))) : aop (.load false 1 x) fr σ = some (.c (.int .u8 (b.toNat : Int)), σ) := by
  simp [aop, hx, Store.at_, encB, takeA]
theorem wrap_byte (b : UInt8) : IntKind.i64.wrap (b.toNat : Int) = b.toNat := by
  have := b.toNat_lt
  exact wrap64 (by omega) (by omega)
theorem next_ok : Draws Tryz.prog 103 [] (NumIn .i64 0 256) := by
  refine Draws.run mixed c_spec_l1Rd_next_ok (Nat.le_of_ble_eq_true rfl) fun σ id v code p hr hp hc hS => ?_
  clear hS
  by_cases hlt : p < code.length
  · have h1 : IntKind.i64.wrap ((p : Int) + 1) = ((p + 1 : Nat) : Int) := by rw [wrap64 (by omega) (by omega)]; omega
    have h2 : IntKind.i64.wrap (((p + 1 : Nat) : Int) - 1) = (p : Int) := by rw [wrap64 (by omega) (by omega)]; omega
    have hb := (code[p]'hlt).toNat_lt
    repeat' first|refine yaG ?_|((first|apply yG|apply yH|apply yI);exact rfl;(first|exact aop_rdb hr rfl|exact aop_rdp hr rfl|exact aop_rdput hr rfl rfl h1|exact yX (enc := encB) rfl rfl h2 hlt rfl|exact aop_byte rfl))|(exfalso;omega)|(refine yaS ?_ ?_<;>intro _)
    rw [wrap_byte]
    exact .ret rfl (.c hlt ⟨_, by omega, by omega, rfl⟩ old_c)
  · repeat' first|refine yaG ?_|((first|apply yG|apply yH|apply yI);exact rfl;(first|exact aop_rdb hr rfl|exact aop_rdp hr rfl))|(exfalso;omega)|(refine yaS ?_ ?_<;>intro _)
    exact .ret rfl (.c hp ⟨0, by omega, by omega, rfl⟩ old_c)
theorem tmod_in {a n : Int} (ha : 0 ≤ a) (hn : 1 < n) : 0 ≤ a.tmod n ∧ a.tmod n < n :=
  ⟨Int.tmod_nonneg n ha, Int.tmod_lt_of_pos a (by omega)⟩
/-- What below answers. -/
def BelowR (n : Int) (r : AV) : Prop := ∃ k : Int, 0 ≤ k ∧ (k < n ∨ (n ≤ 1 ∧ k = 0)) ∧ r = .c (.int .i64 k)
theorem below_ok (n : Int) (hn : n ≤ 34359738368) (h0 : -34359738368 ≤ n) : Draws Tryz.prog 49 [.c (.int .i64 n)] (BelowR n) := by
  refine Draws.run mixed c_spec_l1Rd_below_ok (Nat.le_of_ble_eq_true rfl) fun σ id v code p hr hp hc hS => ?_
  clear hS
  repeat' first|refine yaG ?_|(exfalso;omega)|(refine yaS ?_ ?_<;>intro _)
  · rename_i h
    exact .ret rfl (.c hp ⟨0, by omega, .inr ⟨h, rfl⟩, rfl⟩ old_c)
  · rename_i h h2
    refine Go.drawn hr hp rfl rfl rfl next_ok ?_
    rintro _ q hq ⟨a, ha0, ha1, rfl⟩
    have ht := tmod_in ha0 (show 1 < n by omega)
    have hne : n ≠ 0 := by omega
    repeat' first|refine yaG ?_|((first|apply yG|apply yH|apply yI);exact rfl;(first|exact aop_remR rfl rfl hne))|(exfalso;omega)|(refine yaS ?_ ?_<;>intro _)
    exact .ret rfl (.c hq ⟨_, ht.1, .inl ht.2, rfl⟩ old_c)
  · rename_i h h2
    refine Go.drawn hr hp rfl rfl rfl next_ok ?_
    rintro _ q hq ⟨a, ha0, ha1, rfl⟩
    repeat' first|refine yaG ?_|(exfalso;omega)|(refine yaS ?_ ?_<;>intro _)
    refine Go.drawn hr hq rfl rfl rfl next_ok ?_
    rintro _ q2 hq2 ⟨b, hb0, hb1, rfl⟩
    have h3 : IntKind.i64.wrap (a * 256) = a * 256 := wrap64 (by omega) (by omega)
    have h4 : IntKind.i64.wrap (IntKind.i64.wrap (a * 256) + b) = a * 256 + b := by rw [h3, wrap64 (by omega) (by omega)]
    have ht := tmod_in (a := IntKind.i64.wrap (IntKind.i64.wrap (a * 256) + b)) (by omega) (show 1 < n by omega)
    have hne : n ≠ 0 := by omega
    repeat' first|refine yaG ?_|((first|apply yG|apply yH|apply yI);exact rfl;(first|exact aop_remR rfl rfl hne))|(exfalso;omega)|(refine yaS ?_ ?_<;>intro _)
    exact .ret rfl (.c hq2 ⟨_, ht.1, .inl ht.2, rfl⟩ old_c)
/-- A drawn truth. -/
def Bit (r : AV) : Prop := ∃ b : Bool, r = .c (.bool b)
theorem once_ok (n : Int) (hn : n ≤ 34359738368) (h0 : -34359738368 ≤ n) : Draws Tryz.prog 50 [.c (.int .i64 n)] Bit := by
  refine Draws.run mixed c_spec_l1Rd_once_ok (Nat.le_of_ble_eq_true rfl) fun σ id v code p hr hp hc hS => ?_
  clear hS
  repeat' first|refine yaG ?_|(exfalso;omega)|(refine yaS ?_ ?_<;>intro _)
  refine Go.drawn hr hp rfl rfl rfl (below_ok n hn h0) ?_
  rintro _ q hq ⟨a, ha0, ha1, rfl⟩
  repeat' first|refine yaG ?_|(exfalso;omega)|(refine yaS ?_ ?_<;>intro _)
  exact .ret rfl (.c hq ⟨_, rfl⟩ old_b)
theorem action_ok : Draws Tryz.prog 136 [] (NumIn .i64 0 3) := by
  refine Draws.run mixed c_spec_l1Rd_action_ok (Nat.le_of_ble_eq_true rfl) fun σ id v code p hr hp hc hS => ?_
  clear hS
  repeat' first|refine yaG ?_|(exfalso;omega)|(refine yaS ?_ ?_<;>intro _)
  refine Go.drawn hr hp rfl rfl rfl (below_ok 3 (by decide) (by decide)) ?_
  rintro _ q hq ⟨a, ha0, ha1, rfl⟩
  repeat' first|refine yaG ?_|(exfalso;omega)|(refine yaS ?_ ?_<;>intro _)
  exact .ret rfl (.c hq ⟨a, ha0, by omega, rfl⟩ old_c)
theorem word_ok : Draws Tryz.prog 153 [] (fun r => ∃ n : Int, r = .c (.int .u64 n)) := by
  refine Draws.run mixed c_spec_l1Rd_word_ok (Nat.le_of_ble_eq_true rfl) fun σ id v code p hr hp hc hS => ?_
  clear hS
  repeat' first|refine yaG ?_|(exfalso;omega)|(refine yaS ?_ ?_<;>intro _)
  refine Go.keep [0, 3, 4] (Go.loops (I := fun m fr τ => ∃ (i : Nat) (k x : Int) (q : Nat), m = 8 - i ∧ i ≤ 8 ∧ k = i ∧ q ≤ code.length ∧
    fr = [(0, .c (.ptr id v 0 0)), (3, .c (.int .u64 x)), (4, .c (.int .i64 k))] ∧ τ = E (Rd.go σ id v code q) []) ?_ _ _ _ ⟨0, _, _, p, rfl, Nat.zero_le _, rfl, hp, rfl, rfl⟩)
  rintro m fr τ ⟨i, k, x, q, rfl, hi, hk, hq, rfl, rfl⟩ hrec
  by_cases hlt : i < 8
  · repeat' first|refine yaG ?_|(exfalso;omega)|(refine yaS ?_ ?_<;>intro _)
    refine Go.drawn hr hq rfl rfl rfl next_ok ?_
    rintro _ q2 hq2 ⟨a, ha0, ha1, rfl⟩
    repeat' first|refine yaG ?_|(exfalso;omega)|(refine yaS ?_ ?_<;>intro _)
    exact Go.keep [0, 3, 4] (hrec _ _ _ (by omega) ⟨i + 1, _, _, q2, rfl, hlt, wrap_succ hk (by omega), hq2, rfl, rfl⟩)
  · repeat' first|refine yaG ?_|(exfalso;omega)|(refine yaS ?_ ?_<;>intro _)
    exact .ret rfl (.c hq ⟨x, rfl⟩ old_c)
/-- Some number. -/
def AnyI (r : AV) : Prop := ∃ n : Int, r = .c (.int .i64 n)
theorem u64_pos {z : Int} (h0 : 1 ≤ z) (h1 : z ≤ 34359738368) : IntKind.u64.wrap z ≠ 0 := by
  have : IntKind.u64.wrap z = z % 18446744073709551616 := by simp [IntKind.wrap, IntKind.bits, IntKind.signed]
  omega
theorem near_ok (lo hi : Int) (h0 : -1073741824 ≤ lo) (h1 : lo ≤ 1073741824) (h2 : -1073741824 ≤ hi) (h3 : hi ≤ 1073741824) : Draws Tryz.prog 104 [.c (.int .i64 lo), .c (.int .i64 hi)] AnyI := by
  refine Draws.run mixed c_spec_l1Rd_near_ok (Nat.le_of_ble_eq_true rfl) fun σ id v code p hr hp hc hS => ?_
  clear hS
  repeat' first|refine yaG ?_|(exfalso;omega)|(refine yaS ?_ ?_<;>intro _)
  refine Go.drawn hr hp rfl rfl rfl (below_ok 8 (by decide) (by decide)) ?_
  rintro _ q hq ⟨a, ha0, ha1, rfl⟩
  repeat' first|refine yaG ?_|(exfalso;omega)|(refine yaS ?_ ?_<;>intro _)
  · exact .ret rfl (.c hq ⟨_, rfl⟩ old_c)
  · exact .ret rfl (.c hq ⟨_, rfl⟩ old_c)
  · exact .ret rfl (.c hq ⟨_, rfl⟩ old_c)
  · rename_i h5 h6 h7
    refine Go.drawn hr hq rfl rfl rfl word_ok ?_
    rintro _ q2 hq2 ⟨w, rfl⟩
    have e1 : IntKind.i64.wrap (hi - lo) = hi - lo := wrap64 (by omega) (by omega)
    have e2 : IntKind.i64.wrap (IntKind.i64.wrap (hi - lo) + 1) = hi - lo + 1 := by rw [e1, wrap64 (by omega) (by omega)]
    have hne : IntKind.u64.wrap (IntKind.i64.wrap (IntKind.i64.wrap (hi - lo) + 1)) ≠ 0 := by rw [e2]; exact u64_pos (by omega) (by omega)
    repeat' first|refine yaG ?_|((first|apply yG|apply yH|apply yI);exact rfl;(first|exact aop_remR rfl rfl hne))|(exfalso;omega)|(refine yaS ?_ ?_<;>intro _)
    exact .ret rfl (.c hq2 ⟨_, rfl⟩ old_c)
theorem off_ok (lo hi : Int) (h0 : -1073741824 ≤ lo) (h1 : lo ≤ 1073741824) (h2 : -1073741824 ≤ hi) (h3 : hi ≤ 1073741824) : Draws Tryz.prog 51 [.c (.int .i64 lo), .c (.int .i64 hi)] AnyI := by
  refine Draws.run mixed c_spec_l1Rd_off_ok (Nat.le_of_ble_eq_true rfl) fun σ id v code p hr hp hc hS => ?_
  clear hS
  repeat' first|refine yaG ?_|(exfalso;omega)|(refine yaS ?_ ?_<;>intro _)
  refine Go.drawn hr hp rfl rfl rfl (once_ok 24 (by decide) (by decide)) ?_
  rintro _ q hq ⟨b, rfl⟩
  cases b
  · repeat' first|refine yaG ?_|(exfalso;omega)|(refine yaS ?_ ?_<;>intro _)
    refine Go.drawn hr hq rfl rfl rfl (near_ok lo hi h0 h1 h2 h3) ?_
    rintro _ q2 hq2 ⟨w, rfl⟩
    repeat' first|refine yaG ?_|(exfalso;omega)|(refine yaS ?_ ?_<;>intro _)
    exact .ret rfl (.c hq2 ⟨_, rfl⟩ old_c)
  · repeat' first|refine yaG ?_|(exfalso;omega)|(refine yaS ?_ ?_<;>intro _)
    refine Go.drawn hr hq rfl rfl rfl (below_ok 4 (by decide) (by decide)) ?_
    rintro _ q2 hq2 ⟨k, hk0, hk1, rfl⟩
    obtain ⟨m, hm⟩ : ∃ m : Nat, k = m := ⟨k.toNat, by omega⟩
    have hm4 : m < 4 := by omega
    subst hm
    have hz : m = 0 ∨ m = 1 ∨ m = 2 ∨ m = 3 := by omega
    rcases hz with rfl | rfl | rfl | rfl
    all_goals repeat' first|refine yaG ?_|(exfalso;omega)|(refine yaS ?_ ?_<;>intro _)
    all_goals exact .ret rfl (.c hq2 ⟨_, rfl⟩ old_c)
/-! ### values and tokens -/
theorem l1Str_ok (x : List UInt8) : Pure Tryz.prog 101 [.c (.str x)] (.agg (encV ⟨2, 0, x⟩)) := by
  refine Pure.run mixed c_spec_l1Str_ok (Nat.le_of_ble_eq_true rfl) fun σ hS hA => ?_
  clear hS hA
  repeat' first|refine yaG ?_|(exfalso;omega)|(refine yaS ?_ ?_<;>intro _)
  exact .ret (retv_m rfl rfl rfl (Nat.zero_le _) rfl) (fin_v ⟨2, 0, x⟩)
def tCol (c : Int) : Tok := ⟨1, c, vNull⟩
def tConst (v : Val) : Tok := ⟨2, 0, v⟩
theorem fin_tok {σ : Store} {l : List (Nat × List (List Ce))} (t : Tok) : Fin σ (.agg (encTok t)) (.agg (encTok t)) (E σ l) :=
  ⟨l, rfl, .refl fun y hy => (flatTok t y hy).old _⟩
theorem l2Col_ok (c : Int) : Pure Tryz.prog 134 [.c (.int .i64 c)] (.agg (encTok (tCol c))) := by
  refine Pure.run mixed c_spec_l2Col_ok (Nat.le_of_ble_eq_true rfl) fun σ hS hA => ?_
  clear hS hA
  repeat' first|refine yaG ?_|(exfalso;omega)|(refine yaS ?_ ?_<;>intro _)
  exact .ret (retv_m rfl rfl rfl (Nat.zero_le _) rfl) (fin_tok (tCol c))
theorem l2Const_ok (w : Val) : Pure Tryz.prog 135 [.agg (encV w)] (.agg (encTok (tConst w))) := by
  refine Pure.run mixed c_spec_l2Const_ok (Nat.le_of_ble_eq_true rfl) fun σ hS hA => ?_
  clear hS hA
  repeat' first|refine yaG ?_|(exfalso;omega)|(refine yaS ?_ ?_<;>intro _)
  exact .ret (retv_m rfl rfl rfl (Nat.zero_le _) rfl) (fin_tok (tConst w))
/-- A drawn value. -/
def AnyV (r : AV) : Prop := ∃ w : Val, w.s.length ≤ 12 ∧ r = .agg (encV w)
theorem old_v {n : Nat} (w : Val) : ∀ y ∈ (AV.agg (encV w)).all, Old n y := fun y hy => (encV_flat w y hy).old _
end Go.Proofs.YtdgnfdljkghpjaaGreat.Am

/- Expressions: the reference's evaluation. -/
set_option linter.unusedVariables false
set_option linter.unusedSimpArgs false
namespace Go.Proofs.YtdgnfdljkghpjaaGreat.Am

theorem drop1 {st : List Val} (h : 1 ≤ st.length) : st.drop (st.length - 1) = [st[st.length - 1]] := by
  rw [List.drop_eq_getElem_cons (by omega), List.drop_eq_nil_of_le (by omega)]
theorem drop2 {st : List Val} (h : 2 ≤ st.length) : st.drop (st.length - 2) = [st[st.length - 2], st[st.length - 1]] := by
  rw [List.drop_eq_getElem_cons (by omega), show st.length - 2 + 1 = st.length - 1 by omega, drop1 (by omega)]
theorem frz_all {σ : Store} {l : List (Nat × List (List Ce))} {k v N : Nat} {ys : List Val} {junk : List (List Ce)} (hl : l[k]? = some (v, ys.map encV ++ junk)) (hN : N ≤ σ.next + k) : FrzV (E σ l) N (.c (vec (σ.next + k) v (ys.map encV) junk)) (.c (.fz (ys.map encV))) :=
  frz_drop (n := 0) hl flats (Nat.zero_le _) hN
theorem l2Eval_ok (e : List Tok) (row : List Val) (hx : e.length ≤ 24) (hrl : row.length ≤ 16) (hok : Oks row) (hea : exprAux row.length 0 e = true) : Pure Tryz.prog 261 [.c (.fz (e.map encTok)), .c (.fz (row.map encV))] (.tup [.agg (encV (evalR e row).1), .c (.bool (evalR e row).2)]) := by
  refine Pure.run mixed c_spec_l2Eval_ok (Nat.le_of_ble_eq_true rfl) fun σ hS hA => ?_
  clear hA
  repeat' first|refine yaG ?_|(exfalso;omega)|(refine yaS ?_ ?_<;>intro _)
  refine Go.freezeN (l := [(0, [[.int .i64 0, .int .i64 0, .str []]])]) (m := [(0, [])]) (fr' := [(0, .c (.fz (e.map encTok))), (1, .c (.fz (row.map encV))), (4, .c (.ptr (σ.next + 0) 0 0 0)), (6, .c (.fz (([] : List Val).map encV))), (7, .c (.int .i64 0))])
    hS (fun b hb e he x hx => ?_) (Nat.le_refl _) (.frz rfl (.refl old_encTok) (.frz rfl (.refl old_encV) (.frz rfl (.refl (old_ptr (by simp))) (.frz rfl (frz_all (σ := σ) (l := [(0, [[.int .i64 0, .int .i64 0, .str []]]), (0, [])]) (k := 1) (v := 0) (ys := []) (junk := []) rfl (Nat.le_refl _)) (.frz rfl (.refl old_int) .nil))))) ?_
  · rw [List.mem_singleton.1 hb] at he
    exact (flats (l := [vNull]) e he x hx).old _
  refine Go.loops (I := fun m fr τ => ∃ (i : Nat) (k : Int) (st : List Val), m = e.length - i ∧ i ≤ e.length ∧ k = i ∧ (st.length ≤ i ∧ Oks st ∧ exprAux row.length st.length (e.drop i) = true ∧ evalL row e [] = evalL row (e.drop i) st) ∧
    fr = [(0, .c (.fz (e.map encTok))), (1, .c (.fz (row.map encV))), (4, .c (.ptr (σ.next + 0) 0 0 0)), (6, .c (.fz (st.map encV))), (7, .c (.int .i64 k))] ∧
      τ = E σ [(0, [[.int .i64 0, .int .i64 0, .str []]])]) ?_ _ _ _ ⟨0, _, [], rfl, Nat.zero_le _, rfl, ⟨Nat.zero_le _, fun v hv => (by simp at hv), hea, rfl⟩, rfl, rfl⟩
  rintro m fr τ ⟨i, k, st, rfl, hi, hk, ⟨hsl, hst, haux, hev⟩, rfl, rfl⟩ hrec
  clear hea
  by_cases hlt : i < e.length
  · rw [List.drop_eq_getElem_cons hlt] at haux hev
    obtain ⟨htk, hle, haux⟩ := exprAux_cons haux
    have htr := tokTakes_range e[i]
    have hkd := isTok_kinds htk
    have hcol := isTok_col htk
    have hft : fromOf e[i] st = st.length - (tokTakes e[i]).toNat := rfl
    have hres := applyF_ok (tokOk_const htk) (hst.drop (fromOf e[i] st)) hok
    rw [evalL] at hev
    have hsl1 : st.length ≤ 24 := by omega
    obtain ⟨ap, hap⟩ : ∃ ap, applyF e[i] (st.drop (fromOf e[i] st)) row = ap := ⟨_, rfl⟩
    rw [hap] at hres hev
    repeat' first|apply Go.seq|apply Go.skip|apply Go.region|apply Go.nil|apply Go.blk|apply Go.draw|apply Go.segs|(apply Go.exit;exact rfl)|(apply Go.cond true;exact rfl)|(apply Go.cond false;exact rfl)|apply yB|apply yC|((first|apply yG|apply yH|apply yI);exact rfl;(first|exact yJ|exact yK rfl rfl|exact yL rfl|exact yM rfl|exact rfl|exact aL rfl rfl rfl rfl rfl|exact aS rfl rfl rfl rfl rfl rfl rfl))|((first|apply yN|apply yO|apply yP);exact rfl)|(exfalso;omega)|(((first|apply yT|apply yU|apply yV|apply yW);exact rfl;(first|exact .d|exact .e|exact .n|((fail_if_success exact bqt);(fail_if_success exact bqf);exact .b)))<;>intro _)
    apply Go.block
    repeat' first|apply Go.seq|apply Go.skip|apply Go.region|apply Go.nil|apply Go.blk|apply Go.draw|apply Go.segs|(apply Go.exit;exact rfl)|(apply Go.cond true;exact rfl)|(apply Go.cond false;exact rfl)|apply yB|apply yC|((first|apply yG|apply yH|apply yI);exact rfl;(first|exact yJ|exact yK rfl rfl|exact yL rfl|exact yM rfl|exact rfl|exact aL rfl rfl rfl rfl rfl|exact aS rfl rfl rfl rfl rfl rfl rfl|exact yX (enc := encTok) rfl rfl hk hlt rfl))|((first|apply yN|apply yO|apply yP);exact rfl)|(exfalso;omega)|(((first|apply yT|apply yU|apply yV|apply yW);exact rfl;(first|exact .d|exact .e|exact .n|((fail_if_success exact bqt);(fail_if_success exact bqf);exact .b)))<;>intro _)
    apply Go.block
    refine Go.join (K' := [_]) (fun fr τ => ∃ (av : Val) (ab : Bool), ab = ap.2 ∧ (ab = true → av = ap.1) ∧
      fr = [(0, .c (.fz (e.map encTok))), (1, .c (.fz (row.map encV))), (4, .c (.ptr (σ.next + 0) 0 0 0)), (6, .c (.fz (st.map encV))), (7, .c (.int .i64 k)), (8, .c (.int .i64 (st.length : Int))), (9, .c (.ptr (σ.next + 1) 0 0 0)), (10, .c (.bool ab)), (11, .c (.int .i64 (tokTakes e[i])))] ∧
      τ = E σ [(0, [[.int .i64 0, .int .i64 0, .str []]]), (0, [encV av])]) ?_ ?_
    · rintro fr τ ⟨av, ab, hab, hav, rfl, rfl⟩
      cases ab
      · rw [← hab, if_neg Bool.false_ne_true] at hev
        have hR : evalR e row = (vNull, false) := by rw [evalR, hev]
        rw [hR]
        repeat' first|refine yaG ?_|(exfalso;omega)|(refine yaS ?_ ?_<;>intro _)
        exact .ret (retv_mt rfl rfl rfl (Nat.zero_le _) rfl rfl) (fin_vb vNull _)
      obtain rfl := hav rfl
      rw [← hab, if_pos rfl] at hev
      have hn : fromOf e[i] st ≤ (st.map encV).length := by rw [List.length_map, hft]; omega
      have hz : IntKind.i64.wrap ((st.length : Int) - tokTakes e[i]) = (fromOf e[i] st : Int) := by rw [wrap64 (by omega) (by omega), hft]; omega
      have hres := hres hab.symm
      have hl1 : ((st.take (fromOf e[i] st)).length : Int) = st.length - tokTakes e[i] := by rw [List.length_take, hft]; omega
      generalize fromOf e[i] st = n at hn hz hl1 hev
      repeat' first|apply Go.seq|apply Go.skip|apply Go.region|apply Go.nil|apply Go.block|apply Go.blk|apply Go.segs|(apply Go.exit;exact rfl)|(apply Go.cond true;exact rfl)|(apply Go.cond false;exact rfl)|apply yB|apply yC|((first|apply yD|apply yE);(first|exact yF|assumption);iterate 6 exact rfl)|((first|apply yG|apply yH|apply yI);exact rfl;(first|exact yJ|exact yK rfl rfl|exact yL rfl|exact yM rfl|exact rfl|exact aL rfl rfl rfl rfl rfl|exact aS rfl rfl rfl rfl rfl rfl rfl))|((first|apply yN|apply yO|apply yP);exact rfl)|(exfalso;omega)|(((first|apply yT|apply yU|apply yV|apply yW);exact rfl;(first|exact .d|exact .e|exact .n|((fail_if_success exact bqt);(fail_if_success exact bqf);exact .b)))<;>intro _)
      apply Go.draw
      refine Go.qkm [(0, [[.int .i64 0, .int .i64 0, .str []]]), (0, [encV ap.1])] [] ?_
      repeat' first|(apply Qk.nil;show Go _ _ _ _ _ _ _ _)|(apply Qk.op;exact rfl;(first|(rintro _ ⟨_, rfl⟩;exact rfl)|(rintro _ ⟨_, rfl⟩;exact aop_load rfl rfl rfl (Nat.le_of_ble_eq_true rfl) rfl)|(rintro _ ⟨_, rfl⟩;exact aop_sliceF (s := 3) rfl rfl hz hn lens)))|(apply Qk.no;exact rfl)|(apply Qk.wop;exact rfl;exact rfl;(first|exact yJ|exact yL rfl|exact aop_store rfl rfl rfl rfl rfl rfl (Nat.le_of_ble_eq_true rfl));exact ⟨_, rfl⟩)
      have hb1 : (([] : List (List Ce)).length + ((st.map encV).take n).length) * 32 ≤ 140737488355328 := by rw [List.length_take, List.length_map, List.length_nil]; omega
      refine Qk.app (k := 2) (v := 0) (ys := []) (junk := []) (zs := (st.map encV).take n) rfl rfl rfl rfl rfl (fun e he => (by simp at he)) Jk.nil (fun e he => lens e (List.mem_of_mem_take he)) hb1 (fun z => ⟨[z], rfl⟩) fun v1 j1 hj1 => ?_
      repeat' first|(apply Qk.nil;show Go _ _ _ _ _ _ _ _)|(apply Qk.op;exact rfl;(first|(rintro _ ⟨_, rfl⟩;exact rfl)|(rintro _ ⟨_, rfl⟩;exact aop_load rfl rfl rfl (Nat.le_of_ble_eq_true rfl) rfl)))|(apply Qk.no;exact rfl)|(apply Qk.wop;exact rfl;exact rfl;(first|exact yJ|exact yL rfl|exact aop_store rfl rfl rfl rfl rfl rfl (Nat.le_of_ble_eq_true rfl));exact ⟨_, rfl⟩)
      have hb2 : ((([] : List (List Ce)) ++ (st.map encV).take n).length + 1) * 32 ≤ 140737488355328 := by rw [List.nil_append, List.length_take, List.length_map]; omega
      refine Go.sapp1 (k := 2) (z := encV ap.1) rfl rfl rfl rfl rfl (fun e he => lens e (List.mem_of_mem_take he)) hj1 rfl hb2 fun v' junk' hj' => ?_
      repeat' first|refine yaG ?_|(exfalso;omega)|(refine yaS ?_ ?_<;>intro _)
      have e1 : [] ++ (st.map encV).take n ++ [encV ap.1] = (st.take n ++ [ap.1]).map encV := by simp
      rw [e1]
      refine Go.freezeN (l := [(0, [[.int .i64 0, .int .i64 0, .str []]])]) (m := [(0, [encV ap.1]), (v', (st.take n ++ [ap.1]).map encV ++ junk')])
        (fr' := [(0, .c (.fz (e.map encTok))), (1, .c (.fz (row.map encV))), (4, .c (.ptr (σ.next + 0) 0 0 0)), (6, .c (.fz ((st.take n ++ [ap.1]).map encV))), (7, .c (.int .i64 (IntKind.i64.wrap (k + 1))))])
        hS (fun b hb e he x hx => ?_) (Nat.le_refl _) (.frz rfl (.refl old_encTok) (.frz rfl (.refl old_encV) (.frz rfl (.refl (old_ptr (by simp))) (.frz rfl (frz_all (σ := σ) (l := [(0, [[.int .i64 0, .int .i64 0, .str []]]), (0, [encV ap.1]), (v', (st.take n ++ [ap.1]).map encV ++ junk')]) (k := 2) (v := v') (ys := st.take n ++ [ap.1]) (junk := junk') rfl (Nat.le_succ _)) (.frz rfl (.refl old_int) .nil))))) ?_
      · rw [List.mem_singleton.1 hb] at he
        exact (flats (l := [vNull]) e he x hx).old _
      refine hrec _ _ _ (by omega) ⟨i + 1, _, st.take n ++ [ap.1], rfl, hlt, wrap_succ hk (by omega), ⟨?_, (hst.take n).snoc hres, ?_, hev⟩, rfl, rfl⟩
      · simp only [List.length_append, List.length_take, List.length_singleton]; omega
      · have e2 : ((st.take n ++ [ap.1]).length : Int) = st.length + 1 - tokTakes e[i] := by
          simp only [List.length_append, List.length_singleton]
          omega
        rw [e2]
        exact haux
    intro hj
    rw [List.singleton_append]
    by_cases h1 : e[i].kind = 1
    · have htk0 : tokTakes e[i] = 0 := by rw [tokTakes, if_pos (.inl h1)]
      have hc2 := hcol h1
      have hcz : e[i].col = (e[i].col.toNat : Int) := by omega
      have hcl : e[i].col.toNat < row.length := by omega
      have hape : ap = (row[e[i].col.toNat], true) := by rw [← hap, applyF, if_pos h1, vAt, List.getElem?_eq_getElem hcl]; rfl
      rw [htk0] at hj
      repeat' first|apply Go.seq|apply Go.skip|apply Go.region|apply Go.nil|apply Go.block|apply Go.draw|apply Go.segs|(apply Go.exit;exact rfl)|(apply Go.cond true;exact rfl)|(apply Go.cond false;exact rfl)|apply yB|apply yC|((first|apply yG|apply yH|apply yI);exact rfl;(first|exact yJ|exact yK rfl rfl|exact yL rfl|exact yM rfl|exact rfl|exact aL rfl rfl rfl rfl rfl|exact aS rfl rfl rfl rfl rfl rfl rfl|exact yX (enc := encTok) rfl rfl hk hlt rfl|exact yX (enc := encV) rfl rfl hcz hcl rfl))|((first|apply yN|apply yO|apply yP);exact rfl)|(exfalso;omega)|(((first|apply yT|apply yU|apply yV|apply yW);exact rfl;(first|exact .d|exact .e|exact .n|((fail_if_success exact bqt);(fail_if_success exact bqf);exact .b)))<;>intro _)
      exact Go.keep [0, 1, 4, 6, 7, 8, 9, 10, 11] (hj _ _ ⟨row[e[i].col.toNat], true, by rw [hape], fun _ => by rw [hape], rfl, rfl⟩)
    by_cases h2 : e[i].kind = 2
    · have htk0 : tokTakes e[i] = 0 := by rw [tokTakes, if_pos (.inr h2)]
      have hape : ap = (e[i].v, true) := by rw [← hap, applyF, if_neg h1, if_pos h2]
      rw [htk0] at hj
      repeat' first|apply Go.seq|apply Go.skip|apply Go.region|apply Go.nil|apply Go.block|apply Go.draw|apply Go.segs|(apply Go.exit;exact rfl)|(apply Go.cond true;exact rfl)|(apply Go.cond false;exact rfl)|apply yB|apply yC|((first|apply yG|apply yH|apply yI);exact rfl;(first|exact yJ|exact yK rfl rfl|exact yL rfl|exact yM rfl|exact rfl|exact aL rfl rfl rfl rfl rfl|exact aS rfl rfl rfl rfl rfl rfl rfl|exact yX (enc := encTok) rfl rfl hk hlt rfl))|((first|apply yN|apply yO|apply yP);exact rfl)|(exfalso;omega)|(((first|apply yT|apply yU|apply yV|apply yW);exact rfl;(first|exact .d|exact .e|exact .n|((fail_if_success exact bqt);(fail_if_success exact bqf);exact .b)))<;>intro _)
      exact Go.keep [0, 1, 4, 6, 7, 8, 9, 10, 11] (hj _ _ ⟨e[i].v, true, by rw [hape], fun _ => by rw [hape], rfl, rfl⟩)
    have hn12 : ¬ (e[i].kind = 1 ∨ e[i].kind = 2) := by omega
    by_cases h8 : e[i].kind = 8
    · have htk0 : tokTakes e[i] = 1 := by rw [tokTakes, if_neg hn12, if_pos (.inr h8)]
      have hz1 : IntKind.i64.wrap ((st.length : Int) - 1) = ((st.length - 1 : Nat) : Int) := by rw [wrap64 (by omega) (by omega)]; omega
      have hl1 : st.length - 1 < st.length := by omega
      have hf : fromOf e[i] st = st.length - 1 := by rw [hft, htk0]; rfl
      have hyr := yes_range (st[st.length - 1].k == 0)
      have hape : ap = (asR (yes (st[st.length - 1].k == 0)), true) := by
        rw [← hap, hf, drop1 (by omega), ← asV_asR hyr.1]
        simp [applyF, h8, vAt]
      have hv : asR (yes (st[st.length - 1].k == 0)) = vInt (yes (st[st.length - 1].k == 0)) := by rw [asR, if_neg (by omega)]
      rw [htk0] at hj
      repeat' first|apply Go.seq|apply Go.skip|apply Go.region|apply Go.nil|apply Go.block|apply Go.draw|apply Go.segs|(apply Go.exit;exact rfl)|(apply Go.cond true;exact rfl)|(apply Go.cond false;exact rfl)|apply yB|apply yC|((first|apply yG|apply yH|apply yI);exact rfl;(first|exact yJ|exact yK rfl rfl|exact yL rfl|exact yM rfl|exact rfl|exact aL rfl rfl rfl rfl rfl|exact aS rfl rfl rfl rfl rfl rfl rfl|exact yX (enc := encTok) rfl rfl hk hlt rfl|exact yX (enc := encV) rfl rfl hz1 hl1 rfl))|((first|apply yN|apply yO|apply yP);exact rfl)|((first|apply yQ|apply yR|apply yS);(iterate 3 exact rfl);(first|exact l1Yes_ok _|exact l1Int_ok _))|(exfalso;omega)|(((first|apply yT|apply yU|apply yV|apply yW);exact rfl;(first|exact .d|exact .e|exact .n|((fail_if_success exact bqt);(fail_if_success exact bqf);exact .b)))<;>intro _)
      exact Go.keep [0, 1, 4, 6, 7, 8, 9, 10, 11] (hj _ _ ⟨vInt (yes (st[st.length - 1].k == 0)), true, by rw [hape], fun _ => by rw [hape, hv], rfl, rfl⟩)
    by_cases h7 : e[i].kind = 7
    · have htk0 : tokTakes e[i] = 1 := by rw [tokTakes, if_neg hn12, if_pos (.inl h7)]
      have hz1 : IntKind.i64.wrap ((st.length : Int) - 1) = ((st.length - 1 : Nat) : Int) := by rw [wrap64 (by omega) (by omega)]; omega
      have hl1 : st.length - 1 < st.length := by omega
      have hf : fromOf e[i] st = st.length - 1 := by rw [hft, htk0]; rfl
      have hape : ap = asV (not3 (truthV st[st.length - 1])) := by
        rw [← hap, hf, drop1 (by omega)]
        simp [applyF, h7, vAt]
      rw [htk0] at hj
      repeat' first|apply Go.seq|apply Go.skip|apply Go.region|apply Go.nil|apply Go.block|apply Go.draw|apply Go.segs|(apply Go.exit;exact rfl)|(apply Go.cond true;exact rfl)|(apply Go.cond false;exact rfl)|apply yB|apply yC|((first|apply yG|apply yH|apply yI);exact rfl;(first|exact yJ|exact yK rfl rfl|exact yL rfl|exact yM rfl|exact rfl|exact aL rfl rfl rfl rfl rfl|exact aS rfl rfl rfl rfl rfl rfl rfl|exact yX (enc := encTok) rfl rfl hk hlt rfl|exact yX (enc := encV) rfl rfl hz1 hl1 rfl))|((first|apply yN|apply yO|apply yP);exact rfl)|((first|apply yQ|apply yR|apply yS);(iterate 3 exact rfl);(first|exact l2Of_ok st[st.length - 1]|exact sNot3_ok _|exact l2As_ok _))|(exfalso;omega)|(((first|apply yT|apply yU|apply yV|apply yW);exact rfl;(first|exact .d|exact .e|exact .n|((fail_if_success exact bqt);(fail_if_success exact bqf);exact .b)))<;>intro _)
      refine Go.keep [0, 1, 4, 6, 7, 8, 9, 10, 11] (hj _ _ ⟨asR (not3 (ofT st[st.length - 1])), ofB st[st.length - 1], ?_, ?_, rfl, rfl⟩)
      · rw [hape]
        cases hb : ofB st[st.length - 1]
        · rw [ofB_not hb]; rfl
        · obtain ⟨q1, q2⟩ := ofB_truth hb
          rw [q1, asV_asR]
          rw [not3, tru_range.2 q2, if_pos rfl]
          split <;> omega
      · intro hb
        obtain ⟨q1, q2⟩ := ofB_truth hb
        rw [hape, q1, asV_asR]
        rw [not3, tru_range.2 q2, if_pos rfl]
        split <;> omega
    have htk0 : tokTakes e[i] = 2 := by rw [tokTakes, if_neg hn12, if_neg (by omega)]
    have hz1 : IntKind.i64.wrap ((st.length : Int) - 1) = ((st.length - 1 : Nat) : Int) := by rw [wrap64 (by omega) (by omega)]; omega
    have hz2 : IntKind.i64.wrap ((st.length : Int) - 2) = ((st.length - 2 : Nat) : Int) := by rw [wrap64 (by omega) (by omega)]; omega
    have hl1 : st.length - 1 < st.length := by omega
    have hl2 : st.length - 2 < st.length := by omega
    have hf : fromOf e[i] st = st.length - 2 := by rw [hft, htk0]; rfl
    obtain ⟨hw1, hw2⟩ := twoR_eq e[i] st[st.length - 2] st[st.length - 1] row (by omega)
    have hap2 : applyF e[i] [st[st.length - 2], st[st.length - 1]] row = ap := by rw [← hap, hf, drop2 (by omega)]
    rw [hap2] at hw1 hw2
    have ctwo := l2Two_ok e[i].kind st[st.length - 2] st[st.length - 1] (hst _ (List.getElem_mem _)) (hst _ (List.getElem_mem _))
    generalize twoR e[i].kind st[st.length - 2] st[st.length - 1] = tw at ctwo hw1 hw2
    rw [htk0] at hj
    repeat' first|apply Go.seq|apply Go.skip|apply Go.region|apply Go.nil|apply Go.block|apply Go.segs|(apply Go.exit;exact rfl)|(apply Go.cond true;exact rfl)|(apply Go.cond false;exact rfl)|apply yB|apply yC|((first|apply yG|apply yH|apply yI);exact rfl;(first|exact yJ|exact yK rfl rfl|exact yL rfl|exact yM rfl|exact rfl|exact aL rfl rfl rfl rfl rfl|exact aS rfl rfl rfl rfl rfl rfl rfl|exact yX (enc := encTok) rfl rfl hk hlt rfl))|((first|apply yN|apply yO|apply yP);exact rfl)|(exfalso;omega)|(((first|apply yT|apply yU|apply yV|apply yW);exact rfl;(first|exact .d|exact .e|exact .n|((fail_if_success exact bqt);(fail_if_success exact bqf);exact .b)))<;>intro _)
    apply Go.draw
    apply Go.qs
    repeat' first|(apply yA;exact rfl)|apply yC|((first|apply yD|apply yE);(first|exact yF|assumption);iterate 6 exact rfl)|((first|apply yG|apply yH|apply yI);exact rfl;(first|exact yJ|exact yK rfl rfl|exact yL rfl|exact yM rfl|exact rfl|exact aL rfl rfl rfl rfl rfl|exact aS rfl rfl rfl rfl rfl rfl rfl|exact yX (enc := encTok) rfl rfl hk hlt rfl|exact yX (enc := encV) rfl rfl hz2 hl2 rfl|exact yX (enc := encV) rfl rfl hz1 hl1 rfl|exact aop_load rfl rfl rfl (Nat.le_of_ble_eq_true rfl) rfl))|((first|apply yN|apply yO|apply yP);exact rfl)|((first|apply yQ|apply yR|apply yS);(iterate 3 exact rfl);exact ctwo)|(exfalso;omega)|(((first|apply yT|apply yU|apply yV|apply yW);exact rfl;(first|exact .d|exact .e|exact .n|((fail_if_success exact bqt);(fail_if_success exact bqf);exact .b)))<;>intro _)
    refine Go.qkm [(0, [[.int .i64 0, .int .i64 0, .str []]])] [(0, [encV vNull])] ?_
    repeat' first|(apply Qk.nil;show Go _ _ _ _ _ _ _ _)|(apply Qk.op;exact rfl;(first|(rintro _ ⟨_, rfl⟩;exact rfl)|(rintro _ ⟨_, rfl⟩;exact aop_load rfl rfl rfl (Nat.le_of_ble_eq_true rfl) rfl)))|(apply Qk.no;exact rfl)|(apply Qk.wop;exact rfl;exact rfl;(first|exact yJ|exact yL rfl|exact aop_store rfl rfl rfl rfl rfl rfl (Nat.le_of_ble_eq_true rfl));exact ⟨_, rfl⟩)
    repeat' first|apply Go.seq|apply Go.skip|apply Go.region|apply Go.nil|apply Go.block|apply Go.draw|apply Go.segs|(apply Go.exit;exact rfl)|(apply Go.cond true;exact rfl)|(apply Go.cond false;exact rfl)|apply yB|apply yC|((first|apply yG|apply yH|apply yI);exact rfl;(first|exact yJ|exact yK rfl rfl|exact yL rfl|exact yM rfl|exact rfl|exact aL rfl rfl rfl rfl rfl|exact aS rfl rfl rfl rfl rfl rfl rfl))|((first|apply yN|apply yO|apply yP);exact rfl)|(exfalso;omega)|(((first|apply yT|apply yU|apply yV|apply yW);exact rfl;(first|exact .d|exact .e|exact .n|((fail_if_success exact bqt);(fail_if_success exact bqf);exact .b)))<;>intro _)
    exact Go.keep [0, 1, 4, 6, 7, 8, 9, 10, 11] (hj _ _ ⟨tw.1, tw.2, hw1, fun h => by rw [hw2 (by rw [← hw1]; exact h)], rfl, rfl⟩)
  · have hd : e.drop i = [] := List.drop_eq_nil_of_le (by omega)
    rw [hd] at haux hev
    simp only [exprAux, beq_iff_eq] at haux
    obtain ⟨w, rfl⟩ : ∃ w, st = [w] := List.length_eq_one_iff.1 (by omega)
    have hR : evalR e row = (w, true) := by rw [evalR, hev]; rfl
    rw [hR]
    repeat' first|refine yaG ?_|(exfalso;omega)|(refine yaS ?_ ?_<;>intro _)
    exact .ret (retv_mt rfl rfl rfl (Nat.zero_le _) rfl rfl) (fin_vb w _)
theorem l2Truth_ok (e : List Tok) (row : List Val) (hv : areVals row 16 = true) (he : exprF e row.length = true) : Pure Tryz.prog 255 [.c (.fz (e.map encTok)), .c (.fz (row.map encV))] (.c (.int .i64 (truthR e row))) := by
  refine Pure.run mixed c_spec_l2Truth_ok (Nat.le_of_ble_eq_true rfl) fun σ hS hA => ?_
  clear hS hA
  obtain ⟨hok, hrl⟩ := areVals_oks hv
  obtain ⟨hel, hea⟩ := exprF_aux he
  have c1 := l2Eval_ok e row (by omega) (by omega) hok hea
  have c2 := l2Of_ok (evalR e row).1
  rw [truthR]
  generalize evalR e row = q at c1 c2 ⊢
  obtain ⟨v, b⟩ := q
  simp only at c1 c2 ⊢
  cases hb : ofB v
  · rw [hb] at c2
    have h1 := ofB_not hb
    cases b
    · repeat' first|refine yaG ?_|refine yaC (c1) ?_|refine yaC (c2) ?_|(exfalso;omega)|(refine yaS ?_ ?_<;>intro _)
      exact .ret rfl (.int rfl)
    · repeat' first|refine yaG ?_|refine yaC (c1) ?_|refine yaC (c2) ?_|(exfalso;omega)|(refine yaS ?_ ?_<;>intro _)
      exact .ret rfl (.int (by rw [if_pos rfl, h1]))
  · rw [hb] at c2
    have h1 := (ofB_truth hb).1
    cases b
    · repeat' first|refine yaG ?_|refine yaC (c1) ?_|refine yaC (c2) ?_|(exfalso;omega)|(refine yaS ?_ ?_<;>intro _)
      exact .ret rfl (.int rfl)
    · repeat' first|refine yaG ?_|refine yaC (c1) ?_|refine yaC (c2) ?_|(exfalso;omega)|(refine yaS ?_ ?_<;>intro _)
      exact .ret rfl (.int (by rw [if_pos rfl, h1]))
end Go.Proofs.YtdgnfdljkghpjaaGreat.Am
