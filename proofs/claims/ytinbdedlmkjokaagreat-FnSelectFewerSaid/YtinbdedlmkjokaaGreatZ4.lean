/- Joined texts: C1, F1, F2, F3, F4, F5, F6, F7, F8, K1, K2, S1, S2, S3, S4, P1, F9. -/
import Derived.Test.YtinbdedlmkjokaaGreatProg
import Derived.KernelRfl
import Derived.Test.YtinbdedlmkjokaaGreatChecked
import Derived.Test.YtinbdedlmkjokaaGreatZ1
import Derived.Test.YtinbdedlmkjokaaGreatZ2
import Derived.Test.YtinbdedlmkjokaaGreatZ3
/- The functions' code in the abstract machine's words, each with the proof that it is so. Printed by a program. -/
set_option linter.unusedVariables false
namespace Go.Proofs.YtinbdedlmkjokaaGreat.Am

abbrev oM (d k : Nat) : AOper := ⟨some d, .op (.mv (.t k)), none⟩
abbrev oP (d : Nat) (a : AOp) : AOper := ⟨some d, .op a, none⟩
abbrev oT (d : Nat) (a : AOp) (g : Nat) : AOper := ⟨some d, .op a, some (g, true)⟩
abbrev oF (d : Nat) (a : AOp) (g : Nat) : AOper := ⟨some d, .op a, some (g, false)⟩
abbrev oC (d n : Nat) (l : List Opd) : AOper := ⟨some d, .call (.f n) l, none⟩
abbrev kI (z : Int) : Opd := .k (.int .i64 z)
def c_laws_FnSelectFewer : AFn := ⟨69, [.t 2], (.seq (.region [oP 2 (.mv (.k (.bool false)))]) (.seq (.seq (.region [oM 13 0, oC 14 8 [(.t 13)]]) (.cond (.t 14) (.seq (.region [oP 2 (.mv (.k (.bool true)))]) .ret) .skip)) (.seq (.region [oM 16 0, oC 17 22 [(.t 16)], oM 15 17, oP 18 (.ext (.t 15) 0), oP 19 (.ext (.t 15) 1), oP 20 (.ext (.t 15) 2), oP 5 (.alloc [.str [], .nils, .nils, .nils, .int .i64 0]), oM 3 18, oM 4 19, ⟨none, .op (.store 5 (.t 5) (.t 20)), none⟩]) (.seq (.region [oM 22 3, oM 23 4, oP 24 (.load true 5 (.t 5)), oC 25 23 [(.t 22), (.t 23), (.t 24)], oM 21 25, oP 26 (.ext (.t 21) 0), oP 27 (.ext (.t 21) 1), oM 6 26, oM 7 27]) (.seq (.region [oM 29 3, oM 30 4, oP 31 (.load true 5 (.t 5)), oC 32 24 [(.t 29), (.t 30), (.t 31)], oM 28 32, oP 33 (.ext (.t 28) 0), oP 34 (.ext (.t 28) 1), oM 8 33, oM 9 34]) (.seq (.region [oP 35 (.load true 5 (.t 5)), oP 10 (.alloc [.str [], .nils, .nils, .nils, .int .i64 0]), ⟨none, .op (.store 5 (.t 10) (.t 35)), none⟩]) (.seq (.region [oP 36 (.faddr 2 (.t 10)), ⟨none, .op (.store 1 (.t 36) (.k (.nils))), none⟩]) (.seq (.seq (.region [oM 37 7, oM 38 9, oP 39 (.eq true false [.b] (.t 37) (.t 38)), oM 40 39, oF 41 (.mv (.t 7)) 40, oF 42 (.un .not (.t 41)) 40, oP 43 (.pick (.t 40) (.k (.bool true)) (.t 42)), oM 44 43, oF 45 (.mv (.t 3)) 44, oF 46 (.load true 5 (.t 10)) 44, ⟨some 47, .call (.f 25) [(.t 45), (.t 46)], (some (44, false))⟩, oF 48 (.un .not (.t 47)) 44, oP 49 (.pick (.t 44) (.k (.bool true)) (.t 48))]) (.cond (.t 49) (.seq (.region [oM 50 7, oM 51 9, oP 52 (.eq false false [.b] (.t 50) (.t 51)), oM 2 52]) .ret) .skip)) (.seq (.region [oM 54 3, oM 55 4, oP 56 (.load true 5 (.t 10)), oC 57 23 [(.t 54), (.t 55), (.t 56)], oM 53 57, oP 58 (.ext (.t 53) 0), oP 59 (.ext (.t 53) 1), oM 11 58, oM 12 59]) (.seq (.region [oM 60 12, oP 61 (.un .not (.t 60)), oM 62 61, oF 63 (.mv (.t 6)) 62, oF 64 (.len false (.t 63)) 62, oF 65 (.mv (.t 11)) 62, oF 66 (.len false (.t 65)) 62, oF 67 (.bin .leq (.t 64) (.t 66)) 62, oP 68 (.pick (.t 62) (.k (.bool true)) (.t 67)), oM 2 68]) .ret))))))))))⟩
theorem c_laws_FnSelectFewer_ok : compFn Tryz.prog [] 5 = some c_laws_FnSelectFewer := by kernel_rfl
def c_laws_FnOrdered : AFn := ⟨121, [.t 2], (.seq (.region [oP 2 (.mv (.k (.bool false)))]) (.seq (.seq (.region [oM 13 0, oC 14 8 [(.t 13)]]) (.cond (.t 14) (.seq (.region [oP 2 (.mv (.k (.bool true)))]) .ret) .skip)) (.seq (.region [oM 16 0, oC 17 22 [(.t 16)], oM 15 17, oP 18 (.ext (.t 15) 0), oP 19 (.ext (.t 15) 1), oP 20 (.ext (.t 15) 2), oP 5 (.alloc [.str [], .nils, .nils, .nils, .int .i64 0]), oM 3 18, oM 4 19, ⟨none, .op (.store 5 (.t 5) (.t 20)), none⟩]) (.seq (.seq (.region [oP 21 (.faddr 3 (.t 5)), oP 22 (.load false 1 (.t 21)), oP 23 (.len false (.t 22)), oP 24 (.bin .gtr (.t 23) (kI 0))]) (.cond (.t 24) (.region [oP 25 (.faddr 3 (.t 5)), oP 26 (.load false 1 (.t 25)), oP 27 (.iaddr 1 (.t 26) (kI 0)), oP 28 (.load false 1 (.t 27)), oP 29 (.build [.int .i64 0, .int .i64 0, .int .i64 0, .int .i64 0, .str []] [(0, 1, (kI 1)), (1, 1, (.t 28))]), oP 30 (.mksl true 5 1 [.int .i64 0, .int .i64 0, .int .i64 0, .int .i64 0, .str []] [(0, (.t 29))]), oP 31 (.build [.nils] [(0, 1, (.t 30))]), oP 32 (.mksl true 1 1 [.nils] [(0, (.t 31))]), oP 33 (.faddr 1 (.t 5)), ⟨none, .op (.store 1 (.t 33) (.t 32)), none⟩]) .skip)) (.seq (.region [oM 35 3, oM 36 4, oP 37 (.load true 5 (.t 5)), oC 38 23 [(.t 35), (.t 36), (.t 37)], oM 34 38, oP 39 (.ext (.t 34) 0), oP 40 (.ext (.t 34) 1), oM 6 39, oM 7 40]) (.seq (.region [oM 42 3, oM 43 4, oP 44 (.load true 5 (.t 5)), oC 45 24 [(.t 42), (.t 43), (.t 44)], oM 41 45, oP 46 (.ext (.t 41) 0), oP 47 (.ext (.t 41) 1), oM 8 46, oM 9 47]) (.seq (.seq (.region [oM 48 7, oM 49 9, oP 50 (.eq true false [.b] (.t 48) (.t 49)), oM 51 50, oF 52 (.mv (.t 6)) 51, oF 53 (.mv (.t 8)) 51, ⟨some 54, .call (.f 26) [(.t 52), (.t 53)], (some (51, false))⟩, oF 55 (.un .not (.t 54)) 51, oP 56 (.pick (.t 51) (.k (.bool true)) (.t 55)), oM 57 56, oF 58 (.mv (.t 7)) 57, oF 59 (.un .not (.t 58)) 57, oP 60 (.pick (.t 57) (.k (.bool true)) (.t 59))]) (.cond (.t 60) (.seq (.region [oM 61 7, oM 62 9, oP 63 (.eq false false [.b] (.t 61) (.t 62)), oM 64 63, oT 65 (.mv (.t 6)) 64, oT 66 (.mv (.t 8)) 64, ⟨some 67, .call (.f 26) [(.t 65), (.t 66)], (some (64, true))⟩, oP 68 (.pick (.t 64) (.t 67) (.k (.bool false))), oM 2 68]) .ret) .skip)) (.seq (.seq (.region [oP 10 (.mv (kI 1))]) (.block 0 (.loop (.seq (.seq (.region [oM 69 10, oM 70 6, oP 71 (.len false (.t 70)), oP 72 (.bin .lss (.t 69) (.t 71)), oM 73 72, oT 74 (.faddr 3 (.t 5)) 73, oT 75 (.load false 1 (.t 74)) 73, oT 76 (.len false (.t 75)) 73, oT 77 (.bin .gtr (.t 76) (kI 0)) 73, oP 78 (.pick (.t 73) (.t 77) (.k (.bool false)))]) (.cond (.t 78) .skip (.exit 0))) (.seq (.block 1 (.seq (.draw [[oM 81 6, oM 82 10, oP 83 (.bin .sub (.t 82) (kI 1)), oP 84 (.iaddr 1 (.t 81) (.t 83)), oP 85 (.faddr 0 (.t 84)), oP 86 (.load false 1 (.t 85)), oP 87 (.iaddr 3 (.t 86) (kI 0)), oP 88 (.load true 3 (.t 87)), oM 89 6, oM 90 10, oP 91 (.iaddr 1 (.t 89) (.t 90)), oP 92 (.faddr 0 (.t 91)), oP 93 (.load false 1 (.t 92)), oP 94 (.iaddr 3 (.t 93) (kI 0)), oP 95 (.load true 3 (.t 94))], [oC 96 27 [(.t 88), (.t 95)]], [oP 97 (.bin .gtr (.t 96) (kI 0))]]) (.cond (.t 97) (.seq (.region [oP 2 (.mv (.k (.bool false)))]) .ret) .skip))) (.region [oM 79 10, oP 80 (.bin .add (.t 79) (kI 1)), oM 10 80])))))) (.seq (.draw [[oM 99 3, oM 100 4, oM 101 3, oP 102 (.faddr 0 (.t 5)), oP 103 (.load false 1 (.t 102)), oC 104 29 [(.t 101), (.t 103)], oP 105 (.faddr 2 (.t 5)), oP 106 (.load false 1 (.t 105))], [oC 107 28 [(.t 99), (.t 100), (.t 104), (.t 106)]], [oM 98 107], [oP 108 (.ext (.t 98) 0), oP 109 (.ext (.t 98) 1), oM 11 108], [oM 12 109]]) (.seq (.region [oM 110 12, oM 111 110, oT 112 (.mv (.t 6)) 111, oT 113 (.len false (.t 112)) 111, oT 114 (.faddr 4 (.t 5)) 111, oT 115 (.load false 1 (.t 114)) 111, oT 116 (.mv (.t 11)) 111, oT 117 (.len false (.t 116)) 111, oT 118 (.mm false (.t 115) (.t 117)) 111, oT 119 (.bin .eql (.t 113) (.t 118)) 111, oP 120 (.pick (.t 111) (.t 119) (.k (.bool false))), oM 2 120]) .ret))))))))))⟩
theorem c_laws_FnOrdered_ok : compFn Tryz.prog [30, 32] 6 = some c_laws_FnOrdered := by kernel_rfl
def c_laws_big : AFn := ⟨6, [.t 2], (.seq (.region [oP 2 (.mv (.k (.bool false)))]) (.seq (.region [oM 3 0, oP 4 (.len false (.t 3)), oP 5 (.bin .gtr (.t 4) (kI 1048576)), oM 2 5]) .ret))⟩
theorem c_laws_big_ok : compFn Tryz.prog [] 8 = some c_laws_big := by kernel_rfl
def c_spec_DrawRunSelect : AFn := ⟨20, [.t 2, .t 3, .m 4 true 5], (.seq (.region [oP 2 (.mv (.k (.nils))), oP 3 (.mv (.k (.nils))), oP 4 (.alloc [.str [], .nils, .nils, .nils, .int .i64 0])]) (.seq (.region [oM 8 0, oC 9 68 [(.t 8)], oM 5 9]) (.seq (.region [oM 10 5, oC 11 69 [(.t 10)], oM 6 11]) (.seq (.region [oM 12 5, oM 13 6, oC 14 70 [(.t 12), (.t 13), (kI 6)], oM 7 14]) (.seq (.region [oM 15 6, oM 16 7, oM 17 5, oM 18 6, oC 19 71 [(.t 17), (.t 18)], oM 2 15, oM 3 16, ⟨none, .op (.store 5 (.t 4) (.t 19)), none⟩]) .ret)))))⟩
theorem c_spec_DrawRunSelect_ok : compFn Tryz.prog [] 22 = some c_spec_DrawRunSelect := by kernel_rfl
def c_impl_RunSelect : AFn := ⟨97, [.t 6, .t 7], (.seq (.region [oP 5 (.box true (.t 2)), oP 6 (.mv (.k (.nils))), oP 7 (.mv (.k (.bool false)))]) (.seq (.seq (.region [oM 19 0, oM 20 1, oC 21 52 [(.t 19), (.t 20)], oP 22 (.un .not (.t 21)), oM 23 22, oF 24 (.mv (.t 0)) 23, oF 25 (.load true 5 (.t 5)) 23, ⟨some 26, .call (.f 72) [(.t 24), (.t 25)], (some (23, false))⟩, oF 27 (.un .not (.t 26)) 23, oP 28 (.pick (.t 23) (.k (.bool true)) (.t 27))]) (.cond (.t 28) (.seq (.region [oP 6 (.mv (.k (.nils))), oP 7 (.mv (.k (.bool false)))]) .ret) .skip)) (.seq (.region [oM 29 1, oM 30 0, oP 31 (.faddr 0 (.t 5)), oP 32 (.load false 1 (.t 31)), oC 33 29 [(.t 30), (.t 32)], oP 34 (.iaddr 1 (.t 29) (.t 33)), oP 35 (.faddr 0 (.t 34)), oP 36 (.load false 1 (.t 35)), oM 8 36]) (.seq (.region [oM 38 8, oP 39 (.faddr 2 (.t 5)), oP 40 (.load false 1 (.t 39)), oC 41 73 [(.t 38), (.t 40)], oM 37 41, oP 42 (.ext (.t 37) 0), oP 43 (.ext (.t 37) 1), oP 9 (.alloc [.nils]), ⟨none, .op (.store 1 (.t 9) (.t 42)), none⟩, oM 10 43]) (.seq (.seq (.region [oM 44 10, oP 45 (.un .not (.t 44))]) (.cond (.t 45) (.seq (.region [oP 6 (.mv (.k (.nils))), oP 7 (.mv (.k (.bool false)))]) .ret) .skip)) (.seq (.region [oM 46 8, oC 47 75 [(.t 46)], oP 48 (.mkfn 76 [] [(.t 9)]), oC 49 74 [(.t 47), (.t 48)], oM 8 49]) (.seq (.region [oM 50 8, oP 51 (.mkfn 79 [] [(.t 5)]), oC 52 78 [(.t 50), (.t 51)]]) (.seq (.region [oP 53 (.mksl false 1 0 [.nils] []), oM 11 53]) (.seq (.seq (.region [oM 54 8, oM 55 8, oP 56 (.len false (.t 55)), oP 57 (.faddr 4 (.t 5)), oP 58 (.load false 1 (.t 57)), oP 59 (.mm false (.t 56) (.t 58)), oP 60 (.slice 2 (.t 54) none (some (.t 59)) none), oP 61 (.len false (.t 60)), oP 62 (.mv (kI 0))]) (.block 0 (.loop (.seq (.region [oP 63 (.bin .lss (.t 62) (.t 61))]) (.seq (.cond (.t 63) .skip (.exit 0)) (.seq (.block 1 (.seq (.region [oP 64 (.iaddr 2 (.t 60) (.t 62)), oP 65 (.load true 2 (.t 64)), oP 13 (.alloc [.int .i64 0, .nils]), ⟨none, .op (.store 2 (.t 13) (.t 65)), none⟩]) (.seq (.region [oP 66 (.build [.nils] []), oP 14 (.alloc [.nils]), ⟨none, .op (.store 1 (.t 14) (.t 66)), none⟩]) (.seq (.seq (.region [oP 67 (.faddr 1 (.t 5)), oP 68 (.load false 1 (.t 67)), oP 69 (.len false (.t 68)), oP 70 (.mv (kI 0))]) (.block 2 (.loop (.seq (.region [oP 71 (.bin .lss (.t 70) (.t 69))]) (.seq (.cond (.t 71) .skip (.exit 2)) (.seq (.block 3 (.seq (.region [oP 72 (.iaddr 1 (.t 68) (.t 70)), oP 73 (.load true 1 (.t 72)), oP 16 (.alloc [.nils]), ⟨none, .op (.store 1 (.t 16) (.t 73)), none⟩]) (.seq (.region [oP 75 (.faddr 0 (.t 16)), oP 76 (.load false 1 (.t 75)), oP 77 (.faddr 1 (.t 13)), oP 78 (.load false 1 (.t 77)), oC 79 84 [(.t 76), (.t 78)], oM 74 79, oP 80 (.ext (.t 74) 0), oP 81 (.ext (.t 74) 1), oP 17 (.alloc [.int .i64 0, .int .i64 0, .str []]), ⟨none, .op (.store 3 (.t 17) (.t 80)), none⟩, oM 18 81]) (.seq (.seq (.region [oM 82 18, oP 83 (.un .not (.t 82))]) (.cond (.t 83) (.seq (.region [oP 6 (.mv (.k (.nils))), oP 7 (.mv (.k (.bool false)))]) .ret) .skip)) (.region [oP 84 (.faddr 0 (.t 14)), oP 85 (.load false 1 (.t 84)), oP 86 (.load true 3 (.t 17)), oP 87 (.mksl true 3 1 [.int .i64 0, .int .i64 0, .str []] [(0, (.t 86))]), oP 88 (.app 3 32 (.t 85) (.t 87)), oP 89 (.faddr 0 (.t 14)), ⟨none, .op (.store 1 (.t 89) (.t 88)), none⟩]))))) (.region [oP 90 (.bin .add (.t 70) (kI 1)), oM 70 90]))))))) (.region [oM 91 11, oP 92 (.load true 1 (.t 14)), oP 93 (.mksl true 1 1 [.nils] [(0, (.t 92))]), oP 94 (.app 1 24 (.t 91) (.t 93)), oM 11 94]))))) (.region [oP 95 (.bin .add (.t 62) (kI 1)), oM 62 95]))))))) (.seq (.region [oM 96 11, oM 6 96, oP 7 (.mv (.k (.bool true)))]) .ret))))))))))⟩
theorem c_impl_RunSelect_ok : compFn Tryz.prog [5, 87, 93] 23 = some c_impl_RunSelect := by kernel_rfl
def c_spec_RunSelect : AFn := ⟨147, [.t 6, .t 7], (.seq (.region [oP 5 (.box true (.t 2)), oP 6 (.mv (.k (.nils))), oP 7 (.mv (.k (.bool false)))]) (.seq (.seq (.region [oM 22 0, oM 23 1, oC 24 85 [(.t 22), (.t 23)], oP 25 (.un .not (.t 24)), oM 26 25, oF 27 (.mv (.t 0)) 26, oF 28 (.load true 5 (.t 5)) 26, ⟨some 29, .call (.f 86) [(.t 27), (.t 28)], (some (26, false))⟩, oF 30 (.un .not (.t 29)) 26, oP 31 (.pick (.t 26) (.k (.bool true)) (.t 30))]) (.cond (.t 31) (.seq (.region [oP 6 (.mv (.k (.nils))), oP 7 (.mv (.k (.bool false)))]) .ret) .skip)) (.seq (.region [oM 32 1, oM 33 0, oP 34 (.faddr 0 (.t 5)), oP 35 (.load false 1 (.t 34)), oC 36 87 [(.t 33), (.t 35)], oP 37 (.iaddr 1 (.t 32) (.t 36)), oP 38 (.load true 1 (.t 37)), oP 8 (.alloc [.nils]), ⟨none, .op (.store 1 (.t 8) (.t 38)), none⟩]) (.seq (.region [oP 40 (.load true 1 (.t 8)), oP 41 (.faddr 2 (.t 5)), oP 42 (.load false 1 (.t 41)), oC 43 88 [(.t 40), (.t 42)], oM 39 43, oP 44 (.ext (.t 39) 0), oP 45 (.ext (.t 39) 1), oM 9 44, oM 10 45]) (.seq (.seq (.region [oM 46 10, oP 47 (.un .not (.t 46))]) (.cond (.t 47) (.seq (.region [oP 6 (.mv (.k (.nils))), oP 7 (.mv (.k (.bool false)))]) .ret) .skip)) (.seq (.region [oP 48 (.mksl false 2 0 [.int .i64 0, .nils] []), oM 11 48]) (.seq (.seq (.region [oP 12 (.mv (kI 0))]) (.block 0 (.loop (.seq (.seq (.region [oM 49 12, oM 50 9, oP 51 (.len false (.t 50)), oP 52 (.bin .lss (.t 49) (.t 51))]) (.cond (.t 52) .skip (.exit 0))) (.seq (.block 1 (.seq (.draw [[oP 55 (.faddr 0 (.t 8)), oP 56 (.load false 1 (.t 55)), oP 57 (.load true 1 (.t 8)), oM 58 9, oM 59 12, oP 60 (.iaddr 1 (.t 58) (.t 59)), oP 61 (.load false 1 (.t 60)), oC 62 89 [(.t 57), (.t 61)], oP 63 (.iaddr 2 (.t 56) (.t 62)), oP 64 (.load true 2 (.t 63)), oP 13 (.alloc [.int .i64 0, .nils])], [⟨none, .op (.store 2 (.t 13) (.t 64)), none⟩]]) (.seq (.region [oP 14 (.mv (kI 0))]) (.seq (.block 2 (.loop (.seq (.seq (.draw [[oM 65 14, oM 66 11, oP 67 (.len false (.t 66))], [oP 68 (.bin .lss (.t 65) (.t 67))], [oM 69 68], [oT 70 (.faddr 3 (.t 5)) 69, oT 71 (.load false 1 (.t 70)) 69, oT 72 (.faddr 1 (.t 13)) 69, oT 73 (.load false 1 (.t 72)) 69, oT 74 (.mv (.t 11)) 69, oT 75 (.mv (.t 14)) 69, oT 76 (.iaddr 2 (.t 74) (.t 75)) 69, oT 77 (.faddr 1 (.t 76)) 69, oT 78 (.load false 1 (.t 77)) 69], [⟨some 79, .call (.f 90) [(.t 71), (.t 73), (.t 78)], (some (69, true))⟩], [oT 80 (.un .not (.t 79)) 69], [oP 81 (.pick (.t 69) (.t 80) (.k (.bool false)))]]) (.cond (.t 81) .skip (.exit 2))) (.block 3 (.region [oM 82 14, oP 83 (.bin .add (.t 82) (kI 1)), oM 14 83]))))) (.seq (.region [oP 84 (.mksl false 2 0 [.int .i64 0, .nils] []), oM 85 11, oM 86 14, oP 87 (.slice 2 (.t 85) none (some (.t 86)) none), oP 88 (.app 2 32 (.t 84) (.t 87)), oM 15 88]) (.seq (.region [oM 89 15, oP 90 (.load true 2 (.t 13)), oP 91 (.mksl true 2 1 [.int .i64 0, .nils] [(0, (.t 90))]), oP 92 (.app 2 32 (.t 89) (.t 91)), oM 15 92]) (.region [oM 93 15, oM 94 11, oM 95 14, oP 96 (.slice 2 (.t 94) (some (.t 95)) none none), oP 97 (.app 2 32 (.t 93) (.t 96)), oM 11 97]))))))) (.region [oM 53 12, oP 54 (.bin .add (.t 53) (kI 1)), oM 12 54])))))) (.seq (.region [oP 98 (.mksl false 1 0 [.nils] []), oM 16 98]) (.seq (.seq (.region [oP 17 (.mv (kI 0))]) (.block 4 (.loop (.seq (.seq (.region [oM 99 17, oM 100 11, oP 101 (.len false (.t 100)), oP 102 (.bin .lss (.t 99) (.t 101)), oM 103 102, oT 104 (.mv (.t 17)) 103, oT 105 (.faddr 4 (.t 5)) 103, oT 106 (.load false 1 (.t 105)) 103, oT 107 (.bin .lss (.t 104) (.t 106)) 103, oP 108 (.pick (.t 103) (.t 107) (.k (.bool false)))]) (.cond (.t 108) .skip (.exit 4))) (.seq (.block 5 (.seq (.region [oP 111 (.build [.nils] []), oP 18 (.alloc [.nils]), ⟨none, .op (.store 1 (.t 18) (.t 111)), none⟩]) (.seq (.seq (.region [oP 19 (.mv (kI 0))]) (.block 6 (.loop (.seq (.seq (.region [oM 112 19, oP 113 (.faddr 1 (.t 5)), oP 114 (.load false 1 (.t 113)), oP 115 (.len false (.t 114)), oP 116 (.bin .lss (.t 112) (.t 115))]) (.cond (.t 116) .skip (.exit 6))) (.seq (.block 7 (.seq (.draw [[oP 120 (.faddr 1 (.t 5)), oP 121 (.load false 1 (.t 120)), oM 122 19, oP 123 (.iaddr 1 (.t 121) (.t 122)), oP 124 (.faddr 0 (.t 123)), oP 125 (.load false 1 (.t 124)), oM 126 11, oM 127 17, oP 128 (.iaddr 2 (.t 126) (.t 127)), oP 129 (.faddr 1 (.t 128)), oP 130 (.load false 1 (.t 129)), oC 131 91 [(.t 125), (.t 130)], oM 119 131, oP 132 (.ext (.t 119) 0), oP 133 (.ext (.t 119) 1), oP 20 (.alloc [.int .i64 0, .int .i64 0, .str []]), ⟨none, .op (.store 3 (.t 20) (.t 132)), none⟩], [oM 21 133]]) (.seq (.seq (.region [oM 134 21, oP 135 (.un .not (.t 134))]) (.cond (.t 135) (.seq (.region [oP 6 (.mv (.k (.nils))), oP 7 (.mv (.k (.bool false)))]) .ret) .skip)) (.region [oP 136 (.faddr 0 (.t 18)), oP 137 (.load false 1 (.t 136)), oP 138 (.load true 3 (.t 20)), oP 139 (.mksl true 3 1 [.int .i64 0, .int .i64 0, .str []] [(0, (.t 138))]), oP 140 (.app 3 32 (.t 137) (.t 139)), oP 141 (.faddr 0 (.t 18)), ⟨none, .op (.store 1 (.t 141) (.t 140)), none⟩])))) (.region [oM 117 19, oP 118 (.bin .add (.t 117) (kI 1)), oM 19 118])))))) (.region [oM 142 16, oP 143 (.load true 1 (.t 18)), oP 144 (.mksl true 1 1 [.nils] [(0, (.t 143))]), oP 145 (.app 1 24 (.t 142) (.t 144)), oM 16 145])))) (.region [oM 109 17, oP 110 (.bin .add (.t 109) (kI 1)), oM 17 110])))))) (.seq (.region [oM 146 16, oM 6 146, oP 7 (.mv (.k (.bool true)))]) .ret))))))))))⟩
theorem c_spec_RunSelect_ok : compFn Tryz.prog [5, 91, 139, 144] 24 = some c_spec_RunSelect := by kernel_rfl
def c_spec_SelectOk : AFn := ⟨12, [.t 4], (.seq (.region [oP 3 (.box true (.t 1)), oP 4 (.mv (.k (.bool false)))]) (.seq (.region [oM 5 0, oC 6 92 [(.t 5)], oM 7 6, oT 8 (.mv (.t 0)) 7, oT 9 (.load true 5 (.t 3)) 7, ⟨some 10, .call (.f 86) [(.t 8), (.t 9)], (some (7, true))⟩, oP 11 (.pick (.t 7) (.t 10) (.k (.bool false))), oM 4 11]) .ret))⟩
theorem c_spec_SelectOk_ok : compFn Tryz.prog [3] 25 = some c_spec_SelectOk := by kernel_rfl
def c_laws_sameLines : AFn := ⟨29, [.t 4], (.seq (.region [oP 4 (.mv (.k (.bool false)))]) (.seq (.seq (.region [oM 6 0, oP 7 (.len false (.t 6)), oM 8 1, oP 9 (.len false (.t 8)), oP 10 (.bin .neq (.t 7) (.t 9))]) (.cond (.t 10) (.seq (.region [oP 4 (.mv (.k (.bool false)))]) .ret) .skip)) (.seq (.seq (.region [oP 5 (.mv (kI 0))]) (.block 0 (.loop (.seq (.seq (.region [oM 11 5, oM 12 0, oP 13 (.len false (.t 12)), oP 14 (.bin .lss (.t 11) (.t 13))]) (.cond (.t 14) .skip (.exit 0))) (.seq (.block 1 (.seq (.draw [[oM 17 0, oM 18 5, oP 19 (.iaddr 1 (.t 17) (.t 18)), oP 20 (.faddr 0 (.t 19)), oP 21 (.load false 1 (.t 20)), oM 22 1, oM 23 5, oP 24 (.iaddr 1 (.t 22) (.t 23)), oP 25 (.faddr 0 (.t 24)), oP 26 (.load false 1 (.t 25))], [oC 27 93 [(.t 21), (.t 26)]], [oP 28 (.un .not (.t 27))]]) (.cond (.t 28) (.seq (.region [oP 4 (.mv (.k (.bool false)))]) .ret) .skip))) (.region [oM 15 5, oP 16 (.bin .add (.t 15) (kI 1)), oM 5 16])))))) (.seq (.region [oP 4 (.mv (.k (.bool true)))]) .ret))))⟩
theorem c_laws_sameLines_ok : compFn Tryz.prog [] 26 = some c_laws_sameLines := by kernel_rfl
def c_impl_Order : AFn := ⟨16, [.t 4], (.seq (.region [oP 2 (.box true (.t 0)), oP 3 (.box true (.t 1)), oP 4 (.mv (kI 0))]) (.seq (.seq (.region [oP 5 (.load true 3 (.t 2)), oC 6 94 [(.t 5)], oP 7 (.un .not (.t 6)), oM 8 7, oF 9 (.load true 3 (.t 3)) 8, ⟨some 10, .call (.f 94) [(.t 9)], (some (8, false))⟩, oF 11 (.un .not (.t 10)) 8, oP 12 (.pick (.t 8) (.k (.bool true)) (.t 11))]) (.cond (.t 12) (.seq (.region [oP 4 (.mv (kI 0))]) .ret) .skip)) (.seq (.region [oP 13 (.load true 3 (.t 2)), oP 14 (.load true 3 (.t 3)), oC 15 95 [(.t 13), (.t 14)], oM 4 15]) .ret)))⟩
theorem c_impl_Order_ok : compFn Tryz.prog [2, 3] 27 = some c_impl_Order := by kernel_rfl
def c_impl_Matching : AFn := ⟨40, [.t 8, .t 9], (.seq (.region [oP 8 (.mv (.k (.nils))), oP 9 (.mv (.k (.bool false)))]) (.seq (.seq (.region [oM 10 0, oM 11 1, oC 12 52 [(.t 10), (.t 11)], oP 13 (.un .not (.t 12)), oM 14 13, oF 15 (.mv (.t 0)) 14, oF 16 (.mv (.t 2)) 14, ⟨some 17, .call (.f 96) [(.t 15), (.t 16)], (some (14, false))⟩, oF 18 (.un .not (.t 17)) 14, oP 19 (.pick (.t 14) (.k (.bool true)) (.t 18)), oM 20 19, oF 21 (.mv (.t 3)) 20, oF 22 (.mv (.t 0)) 20, oF 23 (.mv (.t 2)) 20, oF 24 (.iaddr 6 (.t 22) (.t 23)) 20, oF 25 (.faddr 1 (.t 24)) 20, oF 26 (.load false 1 (.t 25)) 20, oF 27 (.len false (.t 26)) 20, ⟨some 28, .call (.f 97) [(.t 21), (.t 27)], (some (20, false))⟩, oF 29 (.un .not (.t 28)) 20, oP 30 (.pick (.t 20) (.k (.bool true)) (.t 29))]) (.cond (.t 30) (.seq (.region [oP 8 (.mv (.k (.nils))), oP 9 (.mv (.k (.bool false)))]) .ret) .skip)) (.seq (.region [oM 31 1, oM 32 2, oP 33 (.iaddr 1 (.t 31) (.t 32)), oP 34 (.faddr 0 (.t 33)), oP 35 (.load false 1 (.t 34)), oM 36 3, oC 37 73 [(.t 35), (.t 36)], oP 38 (.ext (.t 37) 0), oP 39 (.ext (.t 37) 1), oM 8 38, oM 9 39]) .ret)))⟩
theorem c_impl_Matching_ok : compFn Tryz.prog [] 28 = some c_impl_Matching := by kernel_rfl
def c_impl_TableAt : AFn := ⟨8, [.t 4], (.seq (.region [oP 3 (.box true (.t 1)), oP 4 (.mv (kI 0))]) (.seq (.region [oM 5 0, oP 6 (.mkfn 99 [] [(.t 3)]), oC 7 98 [(.t 5), (.t 6)], oM 4 7]) .ret))⟩
theorem c_impl_TableAt_ok : compFn Tryz.prog [3] 29 = some c_impl_TableAt := by kernel_rfl
def c_spec_DbNew : AFn := ⟨10, [.t 2, .t 3], (.seq (.region [oP 2 (.mv (.k (.nils))), oP 3 (.mv (.k (.bool false)))]) (.seq (.seq (.region [oM 4 0, oC 5 92 [(.t 4)], oP 6 (.un .not (.t 5))]) (.cond (.t 6) (.seq (.region [oP 2 (.mv (.k (.nils))), oP 3 (.mv (.k (.bool false)))]) .ret) .skip)) (.seq (.region [oM 7 0, oP 8 (.len false (.t 7)), oP 9 (.mkslice 1 24 [.nils] (.t 8) (.t 8)), oM 2 9, oP 3 (.mv (.k (.bool true)))]) .ret)))⟩
theorem c_spec_DbNew_ok : compFn Tryz.prog [] 44 = some c_spec_DbNew := by kernel_rfl
def c_impl_isName : AFn := ⟨23, [.t 2], (.seq (.region [oP 2 (.mv (.k (.bool false)))]) (.seq (.seq (.region [oM 4 0, oP 5 (.len true (.t 4)), oP 6 (.mv (kI 0))]) (.block 0 (.loop (.seq (.region [oP 7 (.bin .lss (.t 6) (.t 5))]) (.seq (.cond (.t 7) .skip (.exit 0)) (.seq (.block 1 (.seq (.region [oM 8 6, oM 3 8]) (.seq (.region [oM 9 0, oM 10 3, oP 11 (.idx (.t 9) (.t 10)), oP 12 (.bin .lss (.t 11) (.k (.int .u8 97))), oM 13 12, oF 14 (.mv (.t 0)) 13, oF 15 (.mv (.t 3)) 13, oF 16 (.idx (.t 14) (.t 15)) 13, oF 17 (.bin .gtr (.t 16) (.k (.int .u8 122))) 13, oP 18 (.pick (.t 13) (.k (.bool true)) (.t 17))]) (.cond (.t 18) (.seq (.region [oP 2 (.mv (.k (.bool false)))]) .ret) .skip)))) (.region [oP 19 (.bin .add (.t 6) (kI 1)), oM 6 19]))))))) (.seq (.region [oM 20 0, oP 21 (.len true (.t 20)), oC 22 125 [(.t 21), (kI 1), (kI 8)], oM 2 22]) .ret)))⟩
theorem c_impl_isName_ok : compFn Tryz.prog [] 51 = some c_impl_isName := by kernel_rfl
def c_impl_DbOk : AFn := ⟨33, [.t 4], (.seq (.region [oP 4 (.mv (.k (.bool false)))]) (.seq (.seq (.region [oM 7 0, oC 8 118 [(.t 7)], oP 9 (.un .not (.t 8)), oM 10 9, oF 11 (.mv (.t 1)) 10, oF 12 (.len false (.t 11)) 10, oF 13 (.mv (.t 0)) 10, oF 14 (.len false (.t 13)) 10, oF 15 (.bin .neq (.t 12) (.t 14)) 10, oP 16 (.pick (.t 10) (.k (.bool true)) (.t 15))]) (.cond (.t 16) (.seq (.region [oP 4 (.mv (.k (.bool false)))]) .ret) .skip)) (.seq (.seq (.region [oM 17 1, oP 18 (.len false (.t 17)), oP 19 (.mv (kI 0))]) (.block 0 (.loop (.seq (.region [oP 20 (.bin .lss (.t 19) (.t 18))]) (.seq (.cond (.t 20) .skip (.exit 0)) (.seq (.block 1 (.seq (.region [oM 21 19, oP 22 (.iaddr 1 (.t 17) (.t 19)), oP 23 (.load true 1 (.t 22)), oP 6 (.alloc [.nils]), oM 5 21, ⟨none, .op (.store 1 (.t 6) (.t 23)), none⟩]) (.seq (.draw [[oM 24 0, oM 25 5, oP 26 (.iaddr 6 (.t 24) (.t 25)), oP 27 (.load true 6 (.t 26)), oP 28 (.faddr 0 (.t 6)), oP 29 (.load false 1 (.t 28))], [oC 30 126 [(.t 27), (.t 29)]], [oP 31 (.un .not (.t 30))]]) (.cond (.t 31) (.seq (.region [oP 4 (.mv (.k (.bool false)))]) .ret) .skip)))) (.region [oP 32 (.bin .add (.t 19) (kI 1)), oM 19 32]))))))) (.seq (.region [oP 4 (.mv (.k (.bool true)))]) .ret))))⟩
theorem c_impl_DbOk_ok : compFn Tryz.prog [] 52 = some c_impl_DbOk := by kernel_rfl
def c_spec_l1Open : AFn := ⟨6, [.t 2], (.seq (.region [oP 2 (.mv (.k (.nilp)))]) (.seq (.region [oM 3 0, oP 4 (.build [.nils, .int .i64 0] [(0, 1, (.t 3))]), oP 5 (.box false (.t 4)), oM 2 5]) .ret))⟩
theorem c_spec_l1Open_ok : compFn Tryz.prog [] 68 = some c_spec_l1Open := by kernel_rfl
def c_spec_l1Rd_schema : AFn := ⟨96, [.t 2], (.seq (.region [oP 2 (.mv (.k (.nils)))]) (.seq (.region [oP 7 (.build [.str [], .int .i64 0, .bool false, .int .i64 0, .int .i64 0, .str []] [(0, 1, (.k (.str [107]))), (1, 1, (kI 1)), (2, 1, (.k (.bool true)))]), oP 8 (.build [.str [], .int .i64 0, .bool false, .int .i64 0, .int .i64 0, .str []] [(0, 1, (.k (.str [116]))), (1, 1, (kI 2))]), oC 9 150 [(kI 1)], oP 10 (.build [.str [], .int .i64 0, .bool false, .int .i64 0, .int .i64 0, .str []] [(0, 1, (.k (.str [110]))), (1, 1, (kI 1)), (3, 3, (.t 9))]), oP 11 (.mksl false 6 3 [.str [], .int .i64 0, .bool false, .int .i64 0, .int .i64 0, .str []] [(0, (.t 7)), (1, (.t 8)), (2, (.t 10))]), oP 12 (.mksl true 1 1 [.int .i64 0] [(0, (kI 0))]), oP 13 (.build [.str [], .nils, .nils, .nils, .nils, .nils] [(0, 1, (.k (.str [112]))), (1, 1, (.t 11)), (2, 1, (.t 12))]), oP 3 (.alloc [.str [], .nils, .nils, .nils, .nils, .nils]), ⟨none, .op (.store 6 (.t 3) (.t 13)), none⟩]) (.seq (.seq (.region [oM 14 0, oC 15 151 [(.t 14), (kI 2)]]) (.cond (.t 15) (.region [oP 16 (.mksl true 1 1 [.int .i64 0] [(0, (kI 2))]), oP 17 (.build [.nils] [(0, 1, (.t 16))]), oP 18 (.mksl true 1 1 [.nils] [(0, (.t 17))]), oP 19 (.faddr 3 (.t 3)), ⟨none, .op (.store 1 (.t 19) (.t 18)), none⟩]) .skip)) (.seq (.seq (.region [oM 20 0, oC 21 151 [(.t 20), (kI 2)]]) (.cond (.t 21) (.region [oC 22 152 [(kI 0)], oC 23 150 [(kI 4)], oC 24 153 [(.t 23)], oP 25 (.build [.int .i64 0, .int .i64 0, .int .i64 0, .int .i64 0, .str []] [(0, 1, (kI 4))]), oP 26 (.mksl true 5 3 [.int .i64 0, .int .i64 0, .int .i64 0, .int .i64 0, .str []] [(0, (.t 22)), (1, (.t 24)), (2, (.t 25))]), oP 27 (.build [.nils] [(0, 1, (.t 26))]), oP 28 (.mksl true 1 1 [.nils] [(0, (.t 27))]), oP 29 (.faddr 4 (.t 3)), ⟨none, .op (.store 1 (.t 29) (.t 28)), none⟩]) .skip)) (.seq (.region [oP 30 (.load true 6 (.t 3)), oP 31 (.mksl false 6 1 [.str [], .nils, .nils, .nils, .nils, .nils] [(0, (.t 30))]), oM 4 31]) (.seq (.seq (.region [oM 32 0, oC 33 151 [(.t 32), (kI 4)], oP 34 (.un .not (.t 33))]) (.cond (.t 34) (.seq (.region [oP 35 (.build [.str [], .int .i64 0, .bool false, .int .i64 0, .int .i64 0, .str []] [(0, 1, (.k (.str [107]))), (1, 1, (kI 1)), (2, 1, (.k (.bool true)))]), oM 36 0, oC 37 151 [(.t 36), (kI 4)], oP 38 (.build [.str [], .int .i64 0, .bool false, .int .i64 0, .int .i64 0, .str []] [(0, 1, (.k (.str [112]))), (1, 1, (kI 1)), (2, 1, (.t 37))]), oP 39 (.mksl true 6 2 [.str [], .int .i64 0, .bool false, .int .i64 0, .int .i64 0, .str []] [(0, (.t 35)), (1, (.t 38))]), oP 40 (.mksl true 1 1 [.int .i64 0] [(0, (kI 0))]), oP 41 (.mksl true 1 1 [.int .i64 0] [(0, (kI 1))]), oM 42 0, oC 43 154 [(.t 42)], oM 44 0, oC 45 154 [(.t 44)], oM 46 0, oC 47 151 [(.t 46), (kI 4)], oP 48 (.build [.nils, .str [], .int .i64 0, .int .i64 0, .bool false] [(0, 1, (.t 41)), (1, 1, (.k (.str [112]))), (2, 1, (.t 43)), (3, 1, (.t 45)), (4, 1, (.t 47))]), oP 49 (.mksl true 5 1 [.nils, .str [], .int .i64 0, .int .i64 0, .bool false] [(0, (.t 48))]), oP 50 (.build [.str [], .nils, .nils, .nils, .nils, .nils] [(0, 1, (.k (.str [99]))), (1, 1, (.t 39)), (2, 1, (.t 40)), (5, 1, (.t 49))]), oP 5 (.alloc [.str [], .nils, .nils, .nils, .nils, .nils]), ⟨none, .op (.store 6 (.t 5) (.t 50)), none⟩]) (.region [oM 51 4, oP 52 (.load true 6 (.t 5)), oP 53 (.mksl true 6 1 [.str [], .nils, .nils, .nils, .nils, .nils] [(0, (.t 52))]), oP 54 (.app 6 136 (.t 51) (.t 53)), oM 4 54])) .skip)) (.seq (.seq (.region [oM 55 0, oC 56 151 [(.t 55), (kI 3)]]) (.cond (.t 56) (.seq (.region [oP 57 (.build [.str [], .int .i64 0, .bool false, .int .i64 0, .int .i64 0, .str []] [(0, 1, (.k (.str [107]))), (1, 1, (kI 1)), (2, 1, (.k (.bool true)))]), oP 58 (.build [.str [], .int .i64 0, .bool false, .int .i64 0, .int .i64 0, .str []] [(0, 1, (.k (.str [117, 112]))), (1, 1, (kI 1))]), oP 59 (.mksl true 6 2 [.str [], .int .i64 0, .bool false, .int .i64 0, .int .i64 0, .str []] [(0, (.t 57)), (1, (.t 58))]), oP 60 (.mksl true 1 1 [.int .i64 0] [(0, (kI 0))]), oP 61 (.mksl true 1 1 [.int .i64 0] [(0, (kI 1))]), oM 62 0, oC 63 154 [(.t 62)], oM 64 0, oC 65 154 [(.t 64)], oP 66 (.build [.nils, .str [], .int .i64 0, .int .i64 0, .bool false] [(0, 1, (.t 61)), (1, 1, (.k (.str [116, 114, 101, 101]))), (2, 1, (.t 63)), (3, 1, (.t 65))]), oP 67 (.mksl true 5 1 [.nils, .str [], .int .i64 0, .int .i64 0, .bool false] [(0, (.t 66))]), oP 68 (.build [.str [], .nils, .nils, .nils, .nils, .nils] [(0, 1, (.k (.str [116, 114, 101, 101]))), (1, 1, (.t 59)), (2, 1, (.t 60)), (5, 1, (.t 67))]), oP 6 (.alloc [.str [], .nils, .nils, .nils, .nils, .nils]), ⟨none, .op (.store 6 (.t 6) (.t 68)), none⟩]) (.region [oM 69 4, oP 70 (.load true 6 (.t 6)), oP 71 (.mksl true 6 1 [.str [], .nils, .nils, .nils, .nils, .nils] [(0, (.t 70))]), oP 72 (.app 6 136 (.t 69) (.t 71)), oM 4 72])) .skip)) (.seq (.seq (.region [oM 73 0, oC 74 155 [(.t 73), (kI 40)]]) (.block 0 (.seq (.region [oP 76 (.bin .eql (.t 74) (kI 37)), oM 75 76]) (.cond (.t 75) (.region [oM 77 4, oP 78 (.iaddr 6 (.t 77) (kI 0)), oP 79 (.faddr 2 (.t 78)), ⟨none, .op (.store 1 (.t 79) (.k (.nils))), none⟩]) (.seq (.region [oP 81 (.bin .eql (.t 74) (kI 38)), oM 80 81]) (.cond (.t 80) (.region [oM 82 4, oP 83 (.iaddr 6 (.t 82) (kI 0)), oP 84 (.faddr 0 (.t 83)), ⟨none, .op (.store 1 (.t 84) (.k (.str [99]))), none⟩]) (.seq (.region [oP 86 (.bin .eql (.t 74) (kI 39)), oM 85 86]) (.cond (.t 85) (.draw [[oM 87 4, oP 88 (.iaddr 6 (.t 87) (kI 0)), oP 89 (.faddr 1 (.t 88)), oP 90 (.load false 1 (.t 89)), oM 91 0, oC 92 156 [(.t 91), (kI 1), (kI 2)]], [oP 93 (.iaddr 6 (.t 90) (kI 0))], [oP 94 (.faddr 1 (.t 93))], [⟨none, .op (.store 1 (.t 94) (.t 92)), none⟩]]) .skip)))))))) (.seq (.region [oM 95 4, oM 2 95]) .ret)))))))))⟩
theorem c_spec_l1Rd_schema_ok : compFn Tryz.prog [12, 16, 18, 26, 28, 39, 40, 41, 49, 53, 59, 60, 61, 67, 71] 69 = some c_spec_l1Rd_schema := by kernel_rfl
def c_spec_l1Rd_base : AFn := ⟨124, [.t 6], (.seq (.region [oP 6 (.mv (.k (.nils)))]) (.seq (.region [oM 17 1, oC 18 44 [(.t 17)], oM 16 18, oP 19 (.ext (.t 16) 0), oP 20 (.ext (.t 16) 1), oM 7 19, oM 8 20]) (.seq (.seq (.region [oP 9 (.mv (kI 0))]) (.block 0 (.loop (.seq (.seq (.region [oM 21 9, oM 22 1, oP 23 (.len false (.t 22)), oP 24 (.bin .lss (.t 21) (.t 23)), oM 25 24, oT 26 (.mv (.t 8)) 25, oP 27 (.pick (.t 25) (.t 26) (.k (.bool false)))]) (.cond (.t 27) .skip (.exit 0))) (.seq (.block 1 (.seq (.region [oM 30 0, oM 31 2, oC 32 155 [(.t 30), (.t 31)], oP 33 (.bin .add (kI 1) (.t 32)), oM 10 33]) (.block 2 (.loop (.seq (.seq (.region [oM 34 10, oP 35 (.bin .gtr (.t 34) (kI 0))]) (.cond (.t 35) .skip (.exit 2))) (.seq (.block 3 (.seq (.region [oM 38 0, oM 39 1, oM 40 9, oP 41 (.iaddr 6 (.t 39) (.t 40)), oP 42 (.load true 6 (.t 41)), oC 43 157 [(.t 38), (.t 42)], oM 11 43]) (.seq (.seq (.region [oM 44 1, oM 45 9, oP 46 (.iaddr 6 (.t 44) (.t 45)), oP 47 (.faddr 0 (.t 46)), oP 48 (.load false 1 (.t 47)), oP 49 (.bin .neq (.t 48) (.k (.str [112]))), oM 50 49, oT 51 (.mv (.t 7)) 50, oT 52 (.iaddr 1 (.t 51) (kI 0)) 50, oT 53 (.faddr 0 (.t 52)) 50, oT 54 (.load false 1 (.t 53)) 50, oT 55 (.len false (.t 54)) 50, oT 56 (.bin .gtr (.t 55) (kI 0)) 50, oP 57 (.pick (.t 50) (.t 56) (.k (.bool false))), oM 58 57, oT 59 (.mv (.t 0)) 58, ⟨some 60, .call (.f 151) [(.t 59), (kI 4)], (some (58, true))⟩, oT 61 (.un .not (.t 60)) 58, oP 62 (.pick (.t 58) (.t 61) (.k (.bool false)))]) (.cond (.t 62) (.seq (.region [oM 63 7, oP 64 (.iaddr 1 (.t 63) (kI 0)), oP 65 (.faddr 0 (.t 64)), oP 66 (.load false 1 (.t 65)), oM 12 66]) (.seq (.seq (.region [oM 67 1, oM 68 9, oP 69 (.iaddr 6 (.t 67) (.t 68)), oP 70 (.faddr 0 (.t 69)), oP 71 (.load false 1 (.t 70)), oP 72 (.bin .eql (.t 71) (.k (.str [116, 114, 101, 101])))]) (.cond (.t 72) (.region [oM 73 7, oM 74 9, oP 75 (.iaddr 1 (.t 73) (.t 74)), oP 76 (.faddr 0 (.t 75)), oP 77 (.load false 1 (.t 76)), oM 12 77]) .skip)) (.seq (.region [oM 78 12, oP 79 (.len false (.t 78)), oP 80 (.bin .gtr (.t 79) (kI 0))]) (.cond (.t 80) (.region [oM 81 11, oM 82 12, oM 83 0, oM 84 12, oP 85 (.len false (.t 84)), oC 86 155 [(.t 83), (.t 85)], oP 87 (.iaddr 2 (.t 82) (.t 86)), oP 88 (.faddr 1 (.t 87)), oP 89 (.load false 1 (.t 88)), oP 90 (.iaddr 3 (.t 89) (kI 0)), oP 91 (.load true 3 (.t 90)), oP 92 (.iaddr 3 (.t 81) (kI 1)), ⟨none, .op (.store 3 (.t 92) (.t 91)), none⟩]) .skip)))) .skip)) (.seq (.seq (.region [oM 93 1, oM 94 9, oP 95 (.iaddr 6 (.t 93) (.t 94)), oP 96 (.faddr 0 (.t 95)), oP 97 (.load false 1 (.t 96)), oP 98 (.bin .eql (.t 97) (.k (.str [116, 114, 101, 101]))), oM 99 98, oT 100 (.mv (.t 7)) 99, oT 101 (.mv (.t 9)) 99, oT 102 (.iaddr 1 (.t 100) (.t 101)) 99, oT 103 (.faddr 0 (.t 102)) 99, oT 104 (.load false 1 (.t 103)) 99, oT 105 (.len false (.t 104)) 99, oT 106 (.bin .eql (.t 105) (kI 0)) 99, oP 107 (.pick (.t 99) (.t 106) (.k (.bool false)))]) (.cond (.t 107) (.region [oM 108 11, oP 109 (.build [.int .i64 0, .int .i64 0, .str []] []), oP 110 (.iaddr 3 (.t 108) (kI 1)), ⟨none, .op (.store 3 (.t 110) (.t 109)), none⟩]) .skip)) (.seq (.region [oM 112 1, oM 113 7, oM 114 9, oM 115 11, oC 116 158 [(.t 112), (.t 113), (.t 114), (.t 115), (.k (.bool false))], oM 111 116, oP 117 (.ext (.t 111) 0), oP 118 (.ext (.t 111) 1), oP 119 (.ext (.t 111) 2), oM 13 117, oM 14 118, oM 15 119]) (.seq (.region [oM 120 15, oP 121 (.bin .neq (.t 120) (kI 1))]) (.cond (.t 121) (.region [oM 122 13, oM 7 122]) .skip))))))) (.region [oM 36 10, oP 37 (.bin .sub (.t 36) (kI 1)), oM 10 37]))))))) (.region [oM 28 9, oP 29 (.bin .add (.t 28) (kI 1)), oM 9 29])))))) (.seq (.region [oM 123 7, oM 6 123]) .ret))))⟩
theorem c_spec_l1Rd_base_ok : compFn Tryz.prog [] 70 = some c_spec_l1Rd_base := by kernel_rfl
def c_spec_l1Rd_query : AFn := ⟨74, [.m 4 true 5], (.seq (.region [oP 4 (.alloc [.str [], .nils, .nils, .nils, .int .i64 0])]) (.seq (.region [oM 9 1, oM 10 0, oM 11 1, oP 12 (.len false (.t 11)), oC 13 155 [(.t 10), (.t 12)], oP 14 (.iaddr 6 (.t 9) (.t 13)), oP 15 (.load true 6 (.t 14)), oP 5 (.alloc [.str [], .nils, .nils, .nils, .nils, .nils]), ⟨none, .op (.store 6 (.t 5) (.t 15)), none⟩]) (.seq (.region [oP 16 (.faddr 1 (.t 5)), oP 17 (.load false 1 (.t 16)), oP 18 (.len false (.t 17)), oM 6 18]) (.seq (.draw [[oP 19 (.faddr 0 (.t 5)), oP 20 (.load false 1 (.t 19)), oM 21 0, oC 22 155 [(.t 21), (kI 6)], oP 23 (.bin .add (kI 1) (.t 22)), oP 24 (.build [.str [], .nils, .nils, .nils, .int .i64 0] [(0, 1, (.t 20)), (4, 1, (.t 23))]), oP 7 (.alloc [.str [], .nils, .nils, .nils, .int .i64 0])], [⟨none, .op (.store 5 (.t 7) (.t 24)), none⟩]]) (.seq (.seq (.region [oM 25 0, oC 26 155 [(.t 25), (kI 2)], oP 27 (.bin .add (kI 1) (.t 26)), oM 8 27]) (.block 0 (.loop (.seq (.seq (.region [oM 28 8, oP 29 (.bin .gtr (.t 28) (kI 0))]) (.cond (.t 29) .skip (.exit 0))) (.seq (.block 1 (.seq (.region [oM 32 0, oC 33 151 [(.t 32), (kI 3)]]) (.cond (.t 33) (.draw [[oP 34 (.faddr 1 (.t 7)), oP 35 (.load false 1 (.t 34)), oM 36 0, oM 37 6, oC 38 159 [(.t 36), (.t 37), (kI 2)], oP 39 (.build [.nils] [(0, 1, (.t 38))]), oP 40 (.mksl true 1 1 [.nils] [(0, (.t 39))])], [oP 41 (.app 1 24 (.t 35) (.t 40))], [oP 42 (.faddr 1 (.t 7))], [⟨none, .op (.store 1 (.t 42) (.t 41)), none⟩]]) (.draw [[oP 43 (.faddr 1 (.t 7)), oP 44 (.load false 1 (.t 43)), oM 45 0, oM 46 6, oC 47 155 [(.t 45), (.t 46)], oC 48 152 [(.t 47)], oP 49 (.mksl true 5 1 [.int .i64 0, .int .i64 0, .int .i64 0, .int .i64 0, .str []] [(0, (.t 48))]), oP 50 (.build [.nils] [(0, 1, (.t 49))]), oP 51 (.mksl true 1 1 [.nils] [(0, (.t 50))])], [oP 52 (.app 1 24 (.t 44) (.t 51))], [oP 53 (.faddr 1 (.t 7))], [⟨none, .op (.store 1 (.t 53) (.t 52)), none⟩]])))) (.region [oM 30 8, oP 31 (.bin .sub (.t 30) (kI 1)), oM 8 31])))))) (.seq (.seq (.region [oM 54 0, oC 55 151 [(.t 54), (kI 2)]]) (.cond (.t 55) (.region [oM 56 0, oM 57 6, oC 58 160 [(.t 56), (.t 57)], oP 59 (.faddr 2 (.t 7)), ⟨none, .op (.store 1 (.t 59) (.t 58)), none⟩]) .skip)) (.seq (.seq (.region [oM 60 0, oC 61 151 [(.t 60), (kI 3)], oP 62 (.un .not (.t 61))]) (.cond (.t 62) (.region [oM 63 0, oM 64 6, oC 65 155 [(.t 63), (.t 64)], oP 66 (.mksl true 1 1 [.int .i64 0] [(0, (.t 65))]), oP 67 (.faddr 3 (.t 7)), ⟨none, .op (.store 1 (.t 67) (.t 66)), none⟩]) .skip)) (.seq (.seq (.region [oM 68 0, oC 69 151 [(.t 68), (kI 30)]]) (.cond (.t 69) (.region [oM 70 0, oC 71 156 [(.t 70), (kI 0), (kI 60)], oP 72 (.faddr 4 (.t 7)), ⟨none, .op (.store 1 (.t 72) (.t 71)), none⟩]) .skip)) (.seq (.region [oP 73 (.load true 5 (.t 7)), ⟨none, .op (.store 5 (.t 4) (.t 73)), none⟩]) .ret)))))))))⟩
theorem c_spec_l1Rd_query_ok : compFn Tryz.prog [40, 49, 51, 66] 71 = some c_spec_l1Rd_query := by kernel_rfl
def c_impl_SelectOk : AFn := ⟨59, [.t 4], (.seq (.region [oP 3 (.box true (.t 1)), oP 4 (.mv (.k (.bool false)))]) (.seq (.region [oM 7 0, oP 8 (.faddr 0 (.t 3)), oP 9 (.load false 1 (.t 8)), oC 10 29 [(.t 7), (.t 9)], oM 5 10]) (.seq (.seq (.region [oM 11 0, oC 12 118 [(.t 11)], oP 13 (.un .not (.t 12)), oM 14 13, oF 15 (.mv (.t 5)) 14, oF 16 (.bin .lss (.t 15) (kI 0)) 14, oP 17 (.pick (.t 14) (.k (.bool true)) (.t 16)), oM 18 17, oF 19 (.faddr 1 (.t 3)) 18, oF 20 (.load false 1 (.t 19)) 18, oF 21 (.len false (.t 20)) 18, ⟨some 22, .call (.f 125) [(.t 21), (kI 1), (kI 8)], (some (18, false))⟩, oF 23 (.un .not (.t 22)) 18, oP 24 (.pick (.t 18) (.k (.bool true)) (.t 23)), oM 25 24, oF 26 (.faddr 4 (.t 3)) 25, oF 27 (.load false 1 (.t 26)) 25, ⟨some 28, .call (.f 125) [(.t 27), (kI 0), (kI 60)], (some (25, false))⟩, oF 29 (.un .not (.t 28)) 25, oP 30 (.pick (.t 25) (.k (.bool true)) (.t 29))]) (.cond (.t 30) (.seq (.region [oP 4 (.mv (.k (.bool false)))]) .ret) .skip)) (.seq (.region [oM 31 0, oM 32 5, oP 33 (.iaddr 6 (.t 31) (.t 32)), oP 34 (.faddr 1 (.t 33)), oP 35 (.load false 1 (.t 34)), oP 36 (.len false (.t 35)), oM 6 36]) (.seq (.region [oP 37 (.faddr 1 (.t 3)), oP 38 (.load false 1 (.t 37)), oM 39 6, oC 40 161 [(.t 38), (.t 39)], oM 41 40, oT 42 (.faddr 2 (.t 3)) 41, oT 43 (.load false 1 (.t 42)) 41, oT 44 (.mv (.t 6)) 41, ⟨some 45, .call (.f 97) [(.t 43), (.t 44)], (some (41, true))⟩, oP 46 (.pick (.t 41) (.t 45) (.k (.bool false))), oM 47 46, oT 48 (.faddr 3 (.t 3)) 47, oT 49 (.load false 1 (.t 48)) 47, oT 50 (.len false (.t 49)) 47, oT 51 (.bin .eql (.t 50) (kI 0)) 47, oT 52 (.mv (.t 51)) 47, oF 53 (.faddr 3 (.t 3)) 52, oF 54 (.load false 1 (.t 53)) 52, oF 55 (.mv (.t 6)) 52, ⟨some 56, .call (.f 162) [(.t 54), (.t 55)], (some (52, false))⟩, oT 57 (.pick (.t 52) (.k (.bool true)) (.t 56)) 47, oP 58 (.pick (.t 47) (.t 57) (.k (.bool false))), oM 4 58]) .ret)))))⟩
theorem c_impl_SelectOk_ok : compFn Tryz.prog [3] 72 = some c_impl_SelectOk := by kernel_rfl
def c_impl_matching : AFn := ⟨36, [.t 4, .t 5], (.seq (.region [oP 4 (.mv (.k (.nils))), oP 5 (.mv (.k (.bool false)))]) (.seq (.region [oP 10 (.mksl false 1 0 [.int .i64 0] []), oM 6 10]) (.seq (.seq (.region [oM 11 0, oP 12 (.len false (.t 11)), oP 13 (.mv (kI 0))]) (.block 0 (.loop (.seq (.region [oP 14 (.bin .lss (.t 13) (.t 12))]) (.seq (.cond (.t 14) .skip (.exit 0)) (.seq (.block 1 (.seq (.region [oP 15 (.iaddr 2 (.t 11) (.t 13)), oP 16 (.load true 2 (.t 15)), oP 8 (.alloc [.int .i64 0, .nils]), ⟨none, .op (.store 2 (.t 8) (.t 16)), none⟩]) (.seq (.region [oP 9 (.mv (kI 1))]) (.seq (.seq (.region [oM 17 1, oP 18 (.len false (.t 17)), oP 19 (.bin .gtr (.t 18) (kI 0))]) (.cond (.t 19) (.region [oM 20 1, oP 21 (.faddr 1 (.t 8)), oP 22 (.load false 1 (.t 21)), oC 23 163 [(.t 20), (.t 22)], oM 9 23]) .skip)) (.seq (.region [oM 24 9]) (.block 2 (.seq (.region [oP 26 (.bin .eql (.t 24) (kI (-1))), oM 25 26]) (.cond (.t 25) (.seq (.region [oP 4 (.mv (.k (.nils))), oP 5 (.mv (.k (.bool false)))]) .ret) (.seq (.region [oP 28 (.bin .eql (.t 24) (kI 1)), oM 27 28]) (.cond (.t 27) (.region [oM 29 6, oP 30 (.faddr 0 (.t 8)), oP 31 (.load false 1 (.t 30)), oP 32 (.mksl true 1 1 [.int .i64 0] [(0, (.t 31))]), oP 33 (.app 1 8 (.t 29) (.t 32)), oM 6 33]) .skip)))))))))) (.region [oP 34 (.bin .add (.t 13) (kI 1)), oM 13 34]))))))) (.seq (.region [oM 35 6, oM 4 35, oP 5 (.mv (.k (.bool true)))]) .ret))))⟩
theorem c_impl_matching_ok : compFn Tryz.prog [32] 73 = some c_impl_matching := by kernel_rfl
def c_slices_DeleteFunc_Row : AFn := ⟨42, [.t 4], (.seq (.region [oP 4 (.mv (.k (.nils)))]) (.seq (.region [oM 8 0, oM 9 1, oC 10 164 [(.t 8), (.t 9)], oM 5 10]) (.seq (.seq (.region [oM 11 5, oP 12 (.bin .eql (.t 11) (kI (-1)))]) (.cond (.t 12) (.seq (.region [oM 13 0, oM 4 13]) .ret) .skip)) (.seq (.seq (.region [oM 14 5, oP 15 (.bin .add (.t 14) (kI 1)), oM 6 15]) (.block 0 (.loop (.seq (.seq (.region [oM 16 6, oM 17 0, oP 18 (.len false (.t 17)), oP 19 (.bin .lss (.t 16) (.t 18))]) (.cond (.t 19) .skip (.exit 0))) (.seq (.block 1 (.seq (.region [oM 22 0, oM 23 6, oP 24 (.iaddr 2 (.t 22) (.t 23)), oP 25 (.load true 2 (.t 24)), oP 7 (.alloc [.int .i64 0, .nils]), ⟨none, .op (.store 2 (.t 7) (.t 25)), none⟩]) (.seq (.region [oM 26 1, oP 27 (.load true 2 (.t 7)), ⟨some 28, .call (.t 26) [(.t 27)], none⟩, oP 29 (.un .not (.t 28))]) (.cond (.t 29) (.seq (.region [oM 30 0, oM 31 5, oP 32 (.load true 2 (.t 7)), oP 33 (.iaddr 2 (.t 30) (.t 31)), ⟨none, .op (.store 2 (.t 33) (.t 32)), none⟩]) (.region [oM 34 5, oP 35 (.bin .add (.t 34) (kI 1)), oM 5 35])) .skip)))) (.region [oM 20 6, oP 21 (.bin .add (.t 20) (kI 1)), oM 6 21])))))) (.seq (.region [oM 36 0, oM 37 5, oP 38 (.slice 2 (.t 36) (some (.t 37)) none none), ⟨none, .op (.clear [.int .i64 0, .nils] (.t 38)), none⟩]) (.seq (.region [oM 39 0, oM 40 5, oP 41 (.slice 2 (.t 39) none (some (.t 40)) none), oM 4 41]) .ret))))))⟩
theorem c_slices_DeleteFunc_Row_ok : compFn Tryz.prog [] 74 = some c_slices_DeleteFunc_Row := by kernel_rfl
def c_slices_Clone_Row : AFn := ⟨8, [.t 2], (.seq (.region [oP 2 (.mv (.k (.nils)))]) (.seq (.seq (.region [oM 3 0, oP 4 (.eq false false [.sl] (.t 3) (.k (.nils)))]) (.cond (.t 4) (.seq (.region [oP 2 (.mv (.k (.nils)))]) .ret) .skip)) (.seq (.region [oP 5 (.mksl false 2 0 [.int .i64 0, .nils] []), oM 6 0, oP 7 (.app 2 32 (.t 5) (.t 6)), oM 2 7]) .ret)))⟩
theorem c_slices_Clone_Row_ok : compFn Tryz.prog [] 75 = some c_slices_Clone_Row := by kernel_rfl
def c_impl_RunSelect_1 : AFn := ⟨9, [.t 3], (.seq (.region [oP 2 (.box true (.t 0)), oP 3 (.mv (.k (.bool false)))]) (.seq (.region [oP 4 (.load false 1 (.t 1)), oP 5 (.faddr 0 (.t 2)), oP 6 (.load false 1 (.t 5)), oC 7 77 [(.t 4), (.t 6)], oP 8 (.un .not (.t 7)), oM 3 8]) .ret))⟩
theorem c_impl_RunSelect_1_ok : compFn Tryz.prog [2] 76 = some c_impl_RunSelect_1 := by kernel_rfl
def c_slices_Contains_int64_int64 : AFn := ⟨9, [.t 4], (.seq (.region [oP 4 (.mv (.k (.bool false)))]) (.seq (.region [oM 5 0, oM 6 1, oC 7 165 [(.t 5), (.t 6)], oP 8 (.bin .geq (.t 7) (kI 0)), oM 4 8]) .ret))⟩
theorem c_slices_Contains_int64_int64_ok : compFn Tryz.prog [] 77 = some c_slices_Contains_int64_int64 := by kernel_rfl
def c_slices_SortStableFunc_Row : AFn := ⟨9, [], (.region [oM 4 0, oM 5 0, oP 6 (.len false (.t 5)), oM 7 1, oC 8 166 [(.t 4), (.t 6), (.t 7)]])⟩
theorem c_slices_SortStableFunc_Row_ok : compFn Tryz.prog [] 78 = some c_slices_SortStableFunc_Row := by kernel_rfl
def c_impl_RunSelect_2 : AFn := ⟨36, [.t 5], (.seq (.region [oP 3 (.box true (.t 0)), oP 4 (.box true (.t 1)), oP 5 (.mv (kI 0))]) (.seq (.region [oP 11 (.faddr 3 (.t 2)), oP 12 (.load false 1 (.t 11)), oP 13 (.faddr 1 (.t 3)), oP 14 (.load false 1 (.t 13)), oC 15 80 [(.t 12), (.t 14)], oM 10 15, oP 16 (.ext (.t 10) 0), oP 17 (.ext (.t 10) 1), oM 6 16, oM 7 17]) (.seq (.region [oP 19 (.faddr 3 (.t 2)), oP 20 (.load false 1 (.t 19)), oP 21 (.faddr 1 (.t 4)), oP 22 (.load false 1 (.t 21)), oC 23 80 [(.t 20), (.t 22)], oM 18 23, oP 24 (.ext (.t 18) 0), oP 25 (.ext (.t 18) 1), oM 8 24, oM 9 25]) (.seq (.draw [[oM 26 6, oM 27 8, oC 28 82 [(.t 26), (.t 27)], oP 29 (.faddr 0 (.t 3)), oP 30 (.load false 1 (.t 29)), oP 31 (.faddr 0 (.t 4)), oP 32 (.load false 1 (.t 31))], [oC 33 83 [(.t 30), (.t 32)]], [oP 34 (.mksl true 1 2 [.int .i64 0] [(0, (.t 28)), (1, (.t 33))])], [oC 35 81 [(.t 34)]], [oM 5 35]]) .ret))))⟩
theorem c_impl_RunSelect_2_ok : compFn Tryz.prog [3, 4, 34] 79 = some c_impl_RunSelect_2 := by kernel_rfl
def c_impl_keyOf : AFn := ⟨36, [.t 4, .t 5], (.seq (.region [oP 4 (.mv (.k (.nils))), oP 5 (.mv (.k (.bool false)))]) (.seq (.region [oP 10 (.mksl false 3 0 [.int .i64 0, .int .i64 0, .str []] []), oM 6 10, oP 7 (.mv (.k (.bool true)))]) (.seq (.seq (.region [oM 11 0, oP 12 (.len false (.t 11)), oP 13 (.mv (kI 0))]) (.block 0 (.loop (.seq (.region [oP 14 (.bin .lss (.t 13) (.t 12))]) (.seq (.cond (.t 14) .skip (.exit 0)) (.seq (.block 1 (.seq (.region [oP 15 (.iaddr 1 (.t 11) (.t 13)), oP 16 (.load false 1 (.t 15)), oM 9 16]) (.seq (.region [oM 17 6, oM 18 1, oM 19 9, oP 20 (.iaddr 3 (.t 18) (.t 19)), oP 21 (.load true 3 (.t 20)), oP 22 (.mksl true 3 1 [.int .i64 0, .int .i64 0, .str []] [(0, (.t 21))]), oP 23 (.app 3 32 (.t 17) (.t 22)), oM 6 23]) (.region [oM 24 7, oM 25 24, oT 26 (.mv (.t 1)) 25, oT 27 (.mv (.t 9)) 25, oT 28 (.iaddr 3 (.t 26) (.t 27)) 25, oT 29 (.faddr 0 (.t 28)) 25, oT 30 (.load false 1 (.t 29)) 25, oT 31 (.bin .neq (.t 30) (kI 0)) 25, oP 32 (.pick (.t 25) (.t 31) (.k (.bool false))), oM 7 32])))) (.region [oP 33 (.bin .add (.t 13) (kI 1)), oM 13 33]))))))) (.seq (.region [oM 34 6, oM 35 7, oM 4 34, oM 5 35]) .ret))))⟩
theorem c_impl_keyOf_ok : compFn Tryz.prog [22] 80 = some c_impl_keyOf := by kernel_rfl
def c_cmp_Or_int : AFn := ⟨18, [.t 2], (.seq (.region [oP 2 (.mv (kI 0))]) (.seq (.region [oP 3 (.mv (kI 0))]) (.seq (.seq (.region [oM 6 0, oP 7 (.len false (.t 6)), oP 8 (.mv (kI 0))]) (.block 0 (.loop (.seq (.region [oP 9 (.bin .lss (.t 8) (.t 7))]) (.seq (.cond (.t 9) .skip (.exit 0)) (.seq (.block 1 (.seq (.region [oP 10 (.iaddr 1 (.t 6) (.t 8)), oP 11 (.load false 1 (.t 10)), oM 5 11]) (.seq (.region [oM 12 5, oM 13 3, oP 14 (.bin .neq (.t 12) (.t 13))]) (.cond (.t 14) (.seq (.region [oM 15 5, oM 2 15]) .ret) .skip)))) (.region [oP 16 (.bin .add (.t 8) (kI 1)), oM 8 16]))))))) (.seq (.region [oM 17 3, oM 2 17]) .ret))))⟩
theorem c_cmp_Or_int_ok : compFn Tryz.prog [] 81 = some c_cmp_Or_int := by kernel_rfl
def c_impl_orderOf : AFn := ⟨25, [.t 4], (.seq (.region [oP 4 (.mv (kI 0))]) (.seq (.seq (.region [oM 8 0, oP 9 (.len false (.t 8)), oP 10 (.mv (kI 0))]) (.block 0 (.loop (.seq (.region [oP 11 (.bin .lss (.t 10) (.t 9))]) (.seq (.cond (.t 11) .skip (.exit 0)) (.seq (.block 1 (.seq (.region [oM 12 10, oP 13 (.iaddr 3 (.t 8) (.t 10)), oP 14 (.load true 3 (.t 13)), oP 6 (.alloc [.int .i64 0, .int .i64 0, .str []]), oM 5 12, ⟨none, .op (.store 3 (.t 6) (.t 14)), none⟩]) (.seq (.draw [[oP 15 (.load true 3 (.t 6)), oM 16 1, oM 17 5, oP 18 (.iaddr 3 (.t 16) (.t 17)), oP 19 (.load true 3 (.t 18))], [oC 20 95 [(.t 15), (.t 19)]], [oM 7 20]]) (.seq (.region [oM 21 7, oP 22 (.bin .neq (.t 21) (kI 0))]) (.cond (.t 22) (.seq (.region [oM 23 7, oM 4 23]) .ret) .skip))))) (.region [oP 24 (.bin .add (.t 10) (kI 1)), oM 10 24]))))))) (.seq (.region [oP 4 (.mv (kI 0))]) .ret)))⟩
theorem c_impl_orderOf_ok : compFn Tryz.prog [] 82 = some c_impl_orderOf := by kernel_rfl
def c_cmp_Compare_int64 : AFn := ⟨20, [.t 4], (.seq (.region [oP 4 (.mv (kI 0))]) (.seq (.region [oM 7 0, oC 8 167 [(.t 7)], oM 5 8]) (.seq (.region [oM 9 1, oC 10 167 [(.t 9)], oM 6 10]) (.seq (.seq (.region [oM 11 5]) (.cond (.t 11) (.seq (.seq (.region [oM 12 6]) (.cond (.t 12) (.seq (.region [oP 4 (.mv (kI 0))]) .ret) .skip)) (.seq (.region [oP 4 (.mv (kI (-1)))]) .ret)) .skip)) (.seq (.seq (.region [oM 13 6]) (.cond (.t 13) (.seq (.region [oP 4 (.mv (kI 1))]) .ret) .skip)) (.seq (.seq (.region [oM 14 0, oM 15 1, oP 16 (.bin .lss (.t 14) (.t 15))]) (.cond (.t 16) (.seq (.region [oP 4 (.mv (kI (-1)))]) .ret) .skip)) (.seq (.seq (.region [oM 17 0, oM 18 1, oP 19 (.bin .gtr (.t 17) (.t 18))]) (.cond (.t 19) (.seq (.region [oP 4 (.mv (kI 1))]) .ret) .skip)) (.seq (.region [oP 4 (.mv (kI 0))]) .ret))))))))⟩
theorem c_cmp_Compare_int64_ok : compFn Tryz.prog [] 83 = some c_cmp_Compare_int64 := by kernel_rfl
def c_impl_Eval : AFn := ⟨57, [.m 4 true 3, .t 5], (.seq (.region [oP 4 (.alloc [.int .i64 0, .int .i64 0, .str []]), oP 5 (.mv (.k (.bool false)))]) (.seq (.seq (.region [oM 12 1, oC 13 168 [(.t 12), (kI 16)], oP 14 (.un .not (.t 13)), oM 15 14, oF 16 (.mv (.t 0)) 15, oF 17 (.mv (.t 1)) 15, oF 18 (.len false (.t 17)) 15, ⟨some 19, .call (.f 169) [(.t 16), (.t 18)], (some (15, false))⟩, oF 20 (.un .not (.t 19)) 15, oP 21 (.pick (.t 15) (.k (.bool true)) (.t 20))]) (.cond (.t 21) (.seq (.region [oP 22 (.build [.int .i64 0, .int .i64 0, .str []] []), ⟨none, .op (.store 3 (.t 4) (.t 22)), none⟩, oP 5 (.mv (.k (.bool false)))]) .ret) .skip)) (.seq (.region [oP 23 (.mksl false 3 0 [.int .i64 0, .int .i64 0, .str []] []), oM 6 23]) (.seq (.seq (.region [oM 24 0, oP 25 (.len false (.t 24)), oP 26 (.mv (kI 0))]) (.block 0 (.loop (.seq (.region [oP 27 (.bin .lss (.t 26) (.t 25))]) (.seq (.cond (.t 27) .skip (.exit 0)) (.seq (.block 1 (.seq (.region [oP 28 (.iaddr 5 (.t 24) (.t 26)), oP 29 (.load true 5 (.t 28)), oP 8 (.alloc [.int .i64 0, .int .i64 0, .int .i64 0, .int .i64 0, .str []]), ⟨none, .op (.store 5 (.t 8) (.t 29)), none⟩]) (.seq (.region [oM 30 6, oP 31 (.len false (.t 30)), oP 32 (.load true 5 (.t 8)), oC 33 170 [(.t 32)], oP 34 (.bin .sub (.t 31) (.t 33)), oM 9 34]) (.seq (.draw [[oP 36 (.load true 5 (.t 8)), oM 37 6, oM 38 9, oP 39 (.slice 3 (.t 37) (some (.t 38)) none none), oM 40 1, oC 41 171 [(.t 36), (.t 39), (.t 40)], oM 35 41, oP 42 (.ext (.t 35) 0), oP 43 (.ext (.t 35) 1), oP 10 (.alloc [.int .i64 0, .int .i64 0, .str []]), ⟨none, .op (.store 3 (.t 10) (.t 42)), none⟩], [oM 11 43]]) (.seq (.seq (.region [oM 44 11, oP 45 (.un .not (.t 44))]) (.cond (.t 45) (.seq (.region [oP 46 (.build [.int .i64 0, .int .i64 0, .str []] []), ⟨none, .op (.store 3 (.t 4) (.t 46)), none⟩, oP 5 (.mv (.k (.bool false)))]) .ret) .skip)) (.draw [[oM 47 6, oM 48 9, oP 49 (.slice 3 (.t 47) none (some (.t 48)) none), oP 50 (.load true 3 (.t 10)), oP 51 (.mksl true 3 1 [.int .i64 0, .int .i64 0, .str []] [(0, (.t 50))])], [oP 52 (.app 3 32 (.t 49) (.t 51))], [oM 6 52]])))))) (.region [oP 53 (.bin .add (.t 26) (kI 1)), oM 26 53]))))))) (.seq (.region [oM 54 6, oP 55 (.iaddr 3 (.t 54) (kI 0)), oP 56 (.load true 3 (.t 55)), ⟨none, .op (.store 3 (.t 4) (.t 56)), none⟩, oP 5 (.mv (.k (.bool true)))]) .ret)))))⟩
theorem c_impl_Eval_ok : compFn Tryz.prog [51] 84 = some c_impl_Eval := by kernel_rfl
def c_spec_DbOk : AFn := ⟨12, [.t 4], (.seq (.region [oP 4 (.mv (.k (.bool false)))]) (.seq (.region [oM 5 0, oC 6 92 [(.t 5)], oM 7 6, oT 8 (.mv (.t 0)) 7, oT 9 (.mv (.t 1)) 7, ⟨some 10, .call (.f 172) [(.t 8), (.t 9)], (some (7, true))⟩, oP 11 (.pick (.t 7) (.t 10) (.k (.bool false))), oM 4 11]) .ret))⟩
theorem c_spec_DbOk_ok : compFn Tryz.prog [] 85 = some c_spec_DbOk := by kernel_rfl
def c_spec_l10Ok : AFn := ⟨71, [.t 4], (.seq (.region [oP 3 (.box true (.t 1)), oP 4 (.mv (.k (.bool false)))]) (.seq (.region [oM 8 0, oP 9 (.faddr 0 (.t 3)), oP 10 (.load false 1 (.t 9)), oC 11 87 [(.t 8), (.t 10)], oM 5 11]) (.seq (.seq (.region [oM 12 5, oP 13 (.bin .lss (.t 12) (kI 0)), oM 14 13, oF 15 (.faddr 1 (.t 3)) 14, oF 16 (.load false 1 (.t 15)) 14, oF 17 (.len false (.t 16)) 14, ⟨some 18, .call (.f 173) [(.t 17), (kI 1), (kI 8)], (some (14, false))⟩, oF 19 (.un .not (.t 18)) 14, oP 20 (.pick (.t 14) (.k (.bool true)) (.t 19)), oM 21 20, oF 22 (.faddr 4 (.t 3)) 21, oF 23 (.load false 1 (.t 22)) 21, ⟨some 24, .call (.f 173) [(.t 23), (kI 0), (kI 60)], (some (21, false))⟩, oF 25 (.un .not (.t 24)) 21, oP 26 (.pick (.t 21) (.k (.bool true)) (.t 25))]) (.cond (.t 26) (.seq (.region [oP 4 (.mv (.k (.bool false)))]) .ret) .skip)) (.seq (.region [oM 27 0, oM 28 5, oP 29 (.iaddr 6 (.t 27) (.t 28)), oP 30 (.faddr 1 (.t 29)), oP 31 (.load false 1 (.t 30)), oP 32 (.len false (.t 31)), oM 6 32]) (.seq (.seq (.region [oP 7 (.mv (kI 0))]) (.block 0 (.loop (.seq (.seq (.region [oM 33 7, oP 34 (.faddr 1 (.t 3)), oP 35 (.load false 1 (.t 34)), oP 36 (.len false (.t 35)), oP 37 (.bin .lss (.t 33) (.t 36))]) (.cond (.t 37) .skip (.exit 0))) (.seq (.block 1 (.seq (.region [oP 40 (.faddr 1 (.t 3)), oP 41 (.load false 1 (.t 40)), oM 42 7, oP 43 (.iaddr 1 (.t 41) (.t 42)), oP 44 (.faddr 0 (.t 43)), oP 45 (.load false 1 (.t 44)), oM 46 6, oC 47 174 [(.t 45), (.t 46)], oP 48 (.un .not (.t 47))]) (.cond (.t 48) (.seq (.region [oP 4 (.mv (.k (.bool false)))]) .ret) .skip))) (.region [oM 38 7, oP 39 (.bin .add (.t 38) (kI 1)), oM 7 39])))))) (.seq (.region [oP 49 (.faddr 2 (.t 3)), oP 50 (.load false 1 (.t 49)), oP 51 (.len false (.t 50)), oP 52 (.bin .eql (.t 51) (kI 0)), oM 53 52, oF 54 (.faddr 2 (.t 3)) 53, oF 55 (.load false 1 (.t 54)) 53, oF 56 (.mv (.t 6)) 53, ⟨some 57, .call (.f 174) [(.t 55), (.t 56)], (some (53, false))⟩, oP 58 (.pick (.t 53) (.k (.bool true)) (.t 57)), oM 59 58, oT 60 (.faddr 3 (.t 3)) 59, oT 61 (.load false 1 (.t 60)) 59, oT 62 (.len false (.t 61)) 59, oT 63 (.bin .eql (.t 62) (kI 0)) 59, oT 64 (.mv (.t 63)) 59, oF 65 (.faddr 3 (.t 3)) 64, oF 66 (.load false 1 (.t 65)) 64, oF 67 (.mv (.t 6)) 64, ⟨some 68, .call (.f 175) [(.t 66), (.t 67)], (some (64, false))⟩, oT 69 (.pick (.t 64) (.k (.bool true)) (.t 68)) 59, oP 70 (.pick (.t 59) (.t 69) (.k (.bool false))), oM 4 70]) .ret))))))⟩
theorem c_spec_l10Ok_ok : compFn Tryz.prog [3] 86 = some c_spec_l10Ok := by kernel_rfl
def c_spec_l3At : AFn := ⟨20, [.t 4], (.seq (.region [oP 4 (.mv (kI 0))]) (.seq (.seq (.region [oP 5 (.mv (kI 0))]) (.block 0 (.loop (.seq (.seq (.region [oM 6 5, oM 7 0, oP 8 (.len false (.t 7)), oP 9 (.bin .lss (.t 6) (.t 8))]) (.cond (.t 9) .skip (.exit 0))) (.seq (.block 1 (.seq (.region [oM 12 0, oM 13 5, oP 14 (.iaddr 6 (.t 12) (.t 13)), oP 15 (.faddr 0 (.t 14)), oP 16 (.load false 1 (.t 15)), oM 17 1, oP 18 (.bin .eql (.t 16) (.t 17))]) (.cond (.t 18) (.seq (.region [oM 19 5, oM 4 19]) .ret) .skip))) (.region [oM 10 5, oP 11 (.bin .add (.t 10) (kI 1)), oM 5 11])))))) (.seq (.region [oP 4 (.mv (kI (-1)))]) .ret)))⟩
theorem c_spec_l3At_ok : compFn Tryz.prog [] 87 = some c_spec_l3At := by kernel_rfl
def c_spec_l7Matching : AFn := ⟨42, [.t 4, .t 5], (.seq (.region [oP 2 (.box true (.t 0)), oP 4 (.mv (.k (.nils))), oP 5 (.mv (.k (.bool false)))]) (.seq (.region [oP 9 (.mksl false 1 0 [.int .i64 0] []), oM 6 9]) (.seq (.seq (.region [oP 7 (.mv (kI 0))]) (.block 0 (.loop (.seq (.seq (.region [oM 10 7, oP 11 (.faddr 0 (.t 2)), oP 12 (.load false 1 (.t 11)), oP 13 (.len false (.t 12)), oP 14 (.bin .lss (.t 10) (.t 13))]) (.cond (.t 14) .skip (.exit 0))) (.seq (.block 1 (.seq (.region [oP 8 (.mv (kI 1))]) (.seq (.seq (.region [oM 17 1, oP 18 (.len false (.t 17)), oP 19 (.bin .gtr (.t 18) (kI 0))]) (.cond (.t 19) (.region [oM 20 1, oP 21 (.faddr 0 (.t 2)), oP 22 (.load false 1 (.t 21)), oM 23 7, oP 24 (.iaddr 2 (.t 22) (.t 23)), oP 25 (.faddr 1 (.t 24)), oP 26 (.load false 1 (.t 25)), oC 27 176 [(.t 20), (.t 26)], oM 8 27]) .skip)) (.seq (.seq (.region [oM 28 8, oP 29 (.bin .lss (.t 28) (kI 0))]) (.cond (.t 29) (.seq (.region [oP 4 (.mv (.k (.nils))), oP 5 (.mv (.k (.bool false)))]) .ret) .skip)) (.seq (.region [oM 30 8, oP 31 (.bin .eql (.t 30) (kI 1))]) (.cond (.t 31) (.region [oM 32 6, oP 33 (.faddr 0 (.t 2)), oP 34 (.load false 1 (.t 33)), oM 35 7, oP 36 (.iaddr 2 (.t 34) (.t 35)), oP 37 (.faddr 0 (.t 36)), oP 38 (.load false 1 (.t 37)), oP 39 (.mksl true 1 1 [.int .i64 0] [(0, (.t 38))]), oP 40 (.app 1 8 (.t 32) (.t 39)), oM 6 40]) .skip)))))) (.region [oM 15 7, oP 16 (.bin .add (.t 15) (kI 1)), oM 7 16])))))) (.seq (.region [oM 41 6, oM 4 41, oP 5 (.mv (.k (.bool true)))]) .ret))))⟩
theorem c_spec_l7Matching_ok : compFn Tryz.prog [2, 39] 88 = some c_spec_l7Matching := by kernel_rfl
def c_spec_l4At : AFn := ⟨22, [.t 4], (.seq (.region [oP 2 (.box true (.t 0)), oP 4 (.mv (kI 0))]) (.seq (.seq (.region [oP 5 (.mv (kI 0))]) (.block 0 (.loop (.seq (.seq (.region [oM 6 5, oP 7 (.faddr 0 (.t 2)), oP 8 (.load false 1 (.t 7)), oP 9 (.len false (.t 8)), oP 10 (.bin .lss (.t 6) (.t 9))]) (.cond (.t 10) .skip (.exit 0))) (.seq (.block 1 (.seq (.region [oP 13 (.faddr 0 (.t 2)), oP 14 (.load false 1 (.t 13)), oM 15 5, oP 16 (.iaddr 2 (.t 14) (.t 15)), oP 17 (.faddr 0 (.t 16)), oP 18 (.load false 1 (.t 17)), oM 19 1, oP 20 (.bin .eql (.t 18) (.t 19))]) (.cond (.t 20) (.seq (.region [oM 21 5, oM 4 21]) .ret) .skip))) (.region [oM 11 5, oP 12 (.bin .add (.t 11) (kI 1)), oM 5 12])))))) (.seq (.region [oP 4 (.mv (kI (-1)))]) .ret)))⟩
theorem c_spec_l4At_ok : compFn Tryz.prog [2] 89 = some c_spec_l4At := by kernel_rfl
def c_spec_l10Less : AFn := ⟨34, [.t 6], (.seq (.region [oP 6 (.mv (.k (.bool false)))]) (.seq (.seq (.region [oP 7 (.mv (kI 0))]) (.block 0 (.loop (.seq (.seq (.region [oM 9 7, oM 10 0, oP 11 (.len false (.t 10)), oP 12 (.bin .lss (.t 9) (.t 11))]) (.cond (.t 12) .skip (.exit 0))) (.seq (.block 1 (.seq (.draw [[oM 15 1, oM 16 0, oM 17 7, oP 18 (.iaddr 1 (.t 16) (.t 17)), oP 19 (.load false 1 (.t 18)), oP 20 (.iaddr 3 (.t 15) (.t 19)), oP 21 (.load true 3 (.t 20)), oM 22 2, oM 23 0, oM 24 7, oP 25 (.iaddr 1 (.t 23) (.t 24)), oP 26 (.load false 1 (.t 25)), oP 27 (.iaddr 3 (.t 22) (.t 26)), oP 28 (.load true 3 (.t 27))], [oC 29 177 [(.t 21), (.t 28)]], [oM 8 29]]) (.seq (.region [oM 30 8, oP 31 (.bin .neq (.t 30) (kI 0))]) (.cond (.t 31) (.seq (.region [oM 32 8, oP 33 (.bin .lss (.t 32) (kI 0)), oM 6 33]) .ret) .skip)))) (.region [oM 13 7, oP 14 (.bin .add (.t 13) (kI 1)), oM 7 14])))))) (.seq (.region [oP 6 (.mv (.k (.bool false)))]) .ret)))⟩
theorem c_spec_l10Less_ok : compFn Tryz.prog [] 90 = some c_spec_l10Less := by kernel_rfl
def c_spec_l2Eval : AFn := ⟨107, [.m 4 true 3, .t 5], (.seq (.region [oP 4 (.alloc [.int .i64 0, .int .i64 0, .str []]), oP 5 (.mv (.k (.bool false)))]) (.seq (.region [oP 14 (.mksl false 3 0 [.int .i64 0, .int .i64 0, .str []] []), oM 6 14]) (.seq (.seq (.region [oP 7 (.mv (kI 0))]) (.block 0 (.loop (.seq (.seq (.region [oM 15 7, oM 16 0, oP 17 (.len false (.t 16)), oP 18 (.bin .lss (.t 15) (.t 17))]) (.cond (.t 18) .skip (.exit 0))) (.seq (.block 1 (.seq (.region [oM 21 6, oP 22 (.len false (.t 21)), oM 8 22]) (.seq (.region [oP 23 (.build [.int .i64 0, .int .i64 0, .str []] []), oP 9 (.alloc [.int .i64 0, .int .i64 0, .str []]), ⟨none, .op (.store 3 (.t 9) (.t 23)), none⟩]) (.seq (.region [oP 10 (.mv (.k (.bool true)))]) (.seq (.region [oP 11 (.mv (kI 0))]) (.seq (.seq (.region [oM 24 0, oM 25 7, oP 26 (.iaddr 5 (.t 24) (.t 25)), oP 27 (.faddr 0 (.t 26)), oP 28 (.load false 1 (.t 27))]) (.block 2 (.seq (.region [oP 49 (.bin .eql (.t 28) (kI 1)), oM 48 49]) (.cond (.t 48) (.region [oM 50 1, oM 51 0, oM 52 7, oP 53 (.iaddr 5 (.t 51) (.t 52)), oP 54 (.faddr 1 (.t 53)), oP 55 (.load false 1 (.t 54)), oP 56 (.iaddr 3 (.t 50) (.t 55)), oP 57 (.load true 3 (.t 56)), ⟨none, .op (.store 3 (.t 9) (.t 57)), none⟩]) (.seq (.region [oP 59 (.bin .eql (.t 28) (kI 2)), oM 58 59]) (.cond (.t 58) (.region [oM 60 0, oM 61 7, oP 62 (.iaddr 5 (.t 60) (.t 61)), oP 63 (.faddr 2 (.t 62)), oP 64 (.load true 3 (.t 63)), ⟨none, .op (.store 3 (.t 9) (.t 64)), none⟩]) (.seq (.region [oP 66 (.bin .eql (.t 28) (kI 8)), oM 65 66]) (.cond (.t 65) (.seq (.region [oM 67 6, oM 68 8, oP 69 (.bin .sub (.t 68) (kI 1)), oP 70 (.iaddr 3 (.t 67) (.t 69)), oP 71 (.faddr 0 (.t 70)), oP 72 (.load false 1 (.t 71)), oP 73 (.bin .eql (.t 72) (kI 0)), oC 74 178 [(.t 73)], oC 75 150 [(.t 74)], ⟨none, .op (.store 3 (.t 9) (.t 75)), none⟩]) (.region [oP 11 (.mv (kI 1))])) (.seq (.region [oP 77 (.bin .eql (.t 28) (kI 7)), oM 76 77]) (.cond (.t 76) (.seq (.region [oM 79 6, oM 80 8, oP 81 (.bin .sub (.t 80) (kI 1)), oP 82 (.iaddr 3 (.t 79) (.t 81)), oP 83 (.load true 3 (.t 82)), oC 84 179 [(.t 83)], oM 78 84, oP 85 (.ext (.t 78) 0), oP 86 (.ext (.t 78) 1), oM 12 85, oM 13 86]) (.seq (.region [oM 87 12, oC 88 181 [(.t 87)], oC 89 180 [(.t 88)], ⟨none, .op (.store 3 (.t 9) (.t 89)), none⟩]) (.seq (.region [oM 90 13, oM 10 90]) (.region [oP 11 (.mv (kI 1))])))) (.seq (.draw [[oM 30 0, oM 31 7, oP 32 (.iaddr 5 (.t 30) (.t 31)), oP 33 (.faddr 0 (.t 32)), oP 34 (.load false 1 (.t 33)), oM 35 6, oM 36 8, oP 37 (.bin .sub (.t 36) (kI 2)), oP 38 (.iaddr 3 (.t 35) (.t 37)), oP 39 (.load true 3 (.t 38)), oM 40 6, oM 41 8, oP 42 (.bin .sub (.t 41) (kI 1)), oP 43 (.iaddr 3 (.t 40) (.t 42)), oP 44 (.load true 3 (.t 43))], [oC 45 182 [(.t 34), (.t 39), (.t 44)]], [oM 29 45], [oP 46 (.ext (.t 29) 0), oP 47 (.ext (.t 29) 1), ⟨none, .op (.store 3 (.t 9) (.t 46)), none⟩], [oM 10 47]]) (.region [oP 11 (.mv (kI 2))])))))))))))) (.seq (.seq (.region [oM 91 10, oP 92 (.un .not (.t 91))]) (.cond (.t 92) (.seq (.region [oP 93 (.build [.int .i64 0, .int .i64 0, .str []] []), ⟨none, .op (.store 3 (.t 4) (.t 93)), none⟩, oP 5 (.mv (.k (.bool false)))]) .ret) .skip)) (.draw [[oP 94 (.mksl false 3 0 [.int .i64 0, .int .i64 0, .str []] []), oM 95 6, oM 96 8, oM 97 11, oP 98 (.bin .sub (.t 96) (.t 97)), oP 99 (.slice 3 (.t 95) none (some (.t 98)) none), oP 100 (.app 3 32 (.t 94) (.t 99)), oP 101 (.load true 3 (.t 9)), oP 102 (.mksl true 3 1 [.int .i64 0, .int .i64 0, .str []] [(0, (.t 101))])], [oP 103 (.app 3 32 (.t 100) (.t 102))], [oM 6 103]])))))))) (.region [oM 19 7, oP 20 (.bin .add (.t 19) (kI 1)), oM 7 20])))))) (.seq (.region [oM 104 6, oP 105 (.iaddr 3 (.t 104) (kI 0)), oP 106 (.load true 3 (.t 105)), ⟨none, .op (.store 3 (.t 4) (.t 106)), none⟩, oP 5 (.mv (.k (.bool true)))]) .ret))))⟩
theorem c_spec_l2Eval_ok : compFn Tryz.prog [102] 91 = some c_spec_l2Eval := by kernel_rfl
def c_spec_SchemaOk : AFn := ⟨115, [.t 2], (.seq (.region [oP 2 (.mv (.k (.bool false)))]) (.seq (.seq (.region [oP 3 (.mv (kI 0))]) (.block 0 (.loop (.seq (.seq (.region [oM 9 3, oM 10 0, oP 11 (.len false (.t 10)), oP 12 (.bin .lss (.t 9) (.t 11))]) (.cond (.t 12) .skip (.exit 0))) (.seq (.block 1 (.seq (.draw [[oM 15 0, oM 16 3], [oP 17 (.iaddr 6 (.t 15) (.t 16))], [oP 18 (.load true 6 (.t 17))], [oC 19 183 [(.t 18)]], [oP 20 (.un .not (.t 19))], [oM 21 20], [oF 22 (.mv (.t 0)) 21, oF 23 (.mv (.t 3)) 21, oF 24 (.slice 6 (.t 22) none (some (.t 23)) none) 21, oF 25 (.mv (.t 0)) 21, oF 26 (.mv (.t 3)) 21, oF 27 (.iaddr 6 (.t 25) (.t 26)) 21, oF 28 (.faddr 0 (.t 27)) 21, oF 29 (.load false 1 (.t 28)) 21], [⟨some 30, .call (.f 87) [(.t 24), (.t 29)], (some (21, false))⟩], [oF 31 (.bin .geq (.t 30) (kI 0)) 21], [oP 32 (.pick (.t 21) (.k (.bool true)) (.t 31))]]) (.cond (.t 32) (.seq (.region [oP 2 (.mv (.k (.bool false)))]) .ret) .skip))) (.region [oM 13 3, oP 14 (.bin .add (.t 13) (kI 1)), oM 3 14])))))) (.seq (.seq (.region [oP 4 (.mv (kI 0))]) (.block 2 (.loop (.seq (.seq (.region [oM 33 4, oM 34 0, oP 35 (.len false (.t 34)), oP 36 (.bin .lss (.t 33) (.t 35))]) (.cond (.t 36) .skip (.exit 2))) (.seq (.block 3 (.seq (.region [oP 5 (.mv (kI 0))]) (.block 4 (.loop (.seq (.seq (.region [oM 39 5, oM 40 0, oM 41 4, oP 42 (.iaddr 6 (.t 40) (.t 41)), oP 43 (.faddr 5 (.t 42)), oP 44 (.load false 1 (.t 43)), oP 45 (.len false (.t 44)), oP 46 (.bin .lss (.t 39) (.t 45))]) (.cond (.t 46) .skip (.exit 4))) (.seq (.block 5 (.seq (.region [oM 49 0, oM 50 4, oP 51 (.iaddr 6 (.t 49) (.t 50)), oP 52 (.faddr 5 (.t 51)), oP 53 (.load false 1 (.t 52)), oM 54 5, oP 55 (.iaddr 5 (.t 53) (.t 54)), oP 56 (.load true 5 (.t 55)), oP 6 (.alloc [.nils, .str [], .int .i64 0, .int .i64 0, .bool false]), ⟨none, .op (.store 5 (.t 6) (.t 56)), none⟩]) (.seq (.region [oM 57 0, oP 58 (.faddr 1 (.t 6)), oP 59 (.load false 1 (.t 58)), oC 60 87 [(.t 57), (.t 59)], oM 7 60]) (.seq (.seq (.draw [[oM 61 7], [oP 62 (.bin .lss (.t 61) (kI 0))], [oM 63 62], [oF 64 (.mv (.t 0)) 63, oF 65 (.mv (.t 7)) 63, oF 66 (.iaddr 6 (.t 64) (.t 65)) 63, oF 67 (.faddr 2 (.t 66)) 63, oF 68 (.load false 1 (.t 67)) 63, oF 69 (.len false (.t 68)) 63, oF 70 (.faddr 0 (.t 6)) 63, oF 71 (.load false 1 (.t 70)) 63, oF 72 (.len false (.t 71)) 63], [oF 73 (.bin .neq (.t 69) (.t 72)) 63], [oP 74 (.pick (.t 63) (.k (.bool true)) (.t 73))]]) (.cond (.t 74) (.seq (.region [oP 2 (.mv (.k (.bool false)))]) .ret) .skip)) (.seq (.region [oP 8 (.mv (kI 0))]) (.block 6 (.loop (.seq (.seq (.region [oM 75 8, oP 76 (.faddr 0 (.t 6)), oP 77 (.load false 1 (.t 76)), oP 78 (.len false (.t 77)), oP 79 (.bin .lss (.t 75) (.t 78))]) (.cond (.t 79) .skip (.exit 6))) (.seq (.block 7 (.seq (.draw [[oM 82 0, oM 83 4, oP 84 (.iaddr 6 (.t 82) (.t 83)), oP 85 (.faddr 1 (.t 84)), oP 86 (.load false 1 (.t 85)), oP 87 (.faddr 0 (.t 6)), oP 88 (.load false 1 (.t 87)), oM 89 8, oP 90 (.iaddr 1 (.t 88) (.t 89)), oP 91 (.load false 1 (.t 90)), oP 92 (.iaddr 6 (.t 86) (.t 91)), oP 93 (.faddr 1 (.t 92)), oP 94 (.load false 1 (.t 93)), oM 95 0, oM 96 7, oP 97 (.iaddr 6 (.t 95) (.t 96)), oP 98 (.faddr 1 (.t 97)), oP 99 (.load false 1 (.t 98)), oM 100 0, oM 101 7, oP 102 (.iaddr 6 (.t 100) (.t 101)), oP 103 (.faddr 2 (.t 102)), oP 104 (.load false 1 (.t 103)), oM 105 8, oP 106 (.iaddr 1 (.t 104) (.t 105)), oP 107 (.load false 1 (.t 106)), oP 108 (.iaddr 6 (.t 99) (.t 107)), oP 109 (.faddr 1 (.t 108)), oP 110 (.load false 1 (.t 109))], [oP 111 (.bin .neq (.t 94) (.t 110))]]) (.cond (.t 111) (.seq (.region [oP 2 (.mv (.k (.bool false)))]) .ret) .skip))) (.region [oM 80 8, oP 81 (.bin .add (.t 80) (kI 1)), oM 8 81])))))))))) (.region [oM 47 5, oP 48 (.bin .add (.t 47) (kI 1)), oM 5 48]))))))) (.region [oM 37 4, oP 38 (.bin .add (.t 37) (kI 1)), oM 4 38])))))) (.seq (.region [oM 112 0, oP 113 (.len false (.t 112)), oP 114 (.bin .leq (.t 113) (kI 5)), oM 2 114]) .ret))))⟩
theorem c_spec_SchemaOk_ok : compFn Tryz.prog [] 92 = some c_spec_SchemaOk := by kernel_rfl
def c_laws_sameVals : AFn := ⟨26, [.t 4], (.seq (.region [oP 4 (.mv (.k (.bool false)))]) (.seq (.seq (.region [oM 6 0, oP 7 (.len false (.t 6)), oM 8 1, oP 9 (.len false (.t 8)), oP 10 (.bin .neq (.t 7) (.t 9))]) (.cond (.t 10) (.seq (.region [oP 4 (.mv (.k (.bool false)))]) .ret) .skip)) (.seq (.seq (.region [oP 5 (.mv (kI 0))]) (.block 0 (.loop (.seq (.seq (.region [oM 11 5, oM 12 0, oP 13 (.len false (.t 12)), oP 14 (.bin .lss (.t 11) (.t 13))]) (.cond (.t 14) .skip (.exit 0))) (.seq (.block 1 (.seq (.draw [[oM 17 0, oM 18 5, oP 19 (.iaddr 3 (.t 17) (.t 18)), oP 20 (.load true 3 (.t 19)), oM 21 1, oM 22 5, oP 23 (.iaddr 3 (.t 21) (.t 22)), oP 24 (.load true 3 (.t 23))], [oP 25 (.eq true true [.i, .i, .s] (.t 20) (.t 24))]]) (.cond (.t 25) (.seq (.region [oP 4 (.mv (.k (.bool false)))]) .ret) .skip))) (.region [oM 15 5, oP 16 (.bin .add (.t 15) (kI 1)), oM 5 16])))))) (.seq (.region [oP 4 (.mv (.k (.bool true)))]) .ret))))⟩
theorem c_laws_sameVals_ok : compFn Tryz.prog [] 93 = some c_laws_sameVals := by kernel_rfl
def c_impl_ValOk : AFn := ⟨31, [.t 2], (.seq (.region [oP 1 (.box true (.t 0)), oP 2 (.mv (.k (.bool false)))]) (.seq (.seq (.region [oP 3 (.faddr 0 (.t 1)), oP 4 (.load false 1 (.t 3))]) (.block 0 (.seq (.region [oP 6 (.bin .eql (.t 4) (kI 0)), oM 5 6]) (.cond (.t 5) (.seq (.region [oP 7 (.load true 3 (.t 1)), oP 8 (.build [.int .i64 0, .int .i64 0, .str []] []), oP 9 (.eq false true [.i, .i, .s] (.t 7) (.t 8)), oM 2 9]) .ret) (.seq (.region [oP 11 (.bin .eql (.t 4) (kI 1)), oM 10 11]) (.cond (.t 10) (.seq (.region [oP 12 (.faddr 1 (.t 1)), oP 13 (.load false 1 (.t 12)), oC 14 125 [(.t 13), (kI (-1000000000)), (kI 1000000000)], oM 15 14, oT 16 (.faddr 2 (.t 1)) 15, oT 17 (.load false 1 (.t 16)) 15, oT 18 (.bin .eql (.t 17) (.k (.str []))) 15, oP 19 (.pick (.t 15) (.t 18) (.k (.bool false))), oM 2 19]) .ret) (.seq (.region [oP 21 (.bin .eql (.t 4) (kI 2)), oM 20 21]) (.cond (.t 20) (.seq (.region [oP 22 (.faddr 1 (.t 1)), oP 23 (.load false 1 (.t 22)), oP 24 (.bin .eql (.t 23) (kI 0)), oM 25 24, oT 26 (.faddr 2 (.t 1)) 25, oT 27 (.load false 1 (.t 26)) 25, oT 28 (.len true (.t 27)) 25, oT 29 (.bin .leq (.t 28) (kI 12)) 25, oP 30 (.pick (.t 25) (.t 29) (.k (.bool false))), oM 2 30]) .ret) .skip)))))))) (.seq (.region [oP 2 (.mv (.k (.bool false)))]) .ret)))⟩
theorem c_impl_ValOk_ok : compFn Tryz.prog [1] 94 = some c_impl_ValOk := by kernel_rfl
def c_impl_order : AFn := ⟨22, [.t 4], (.seq (.region [oP 2 (.box true (.t 0)), oP 3 (.box true (.t 1)), oP 4 (.mv (kI 0))]) (.seq (.draw [[oP 5 (.faddr 0 (.t 2)), oP 6 (.load false 1 (.t 5)), oP 7 (.faddr 0 (.t 3)), oP 8 (.load false 1 (.t 7)), oC 9 83 [(.t 6), (.t 8)], oP 10 (.faddr 1 (.t 2)), oP 11 (.load false 1 (.t 10)), oP 12 (.faddr 1 (.t 3)), oP 13 (.load false 1 (.t 12)), oC 14 83 [(.t 11), (.t 13)], oP 15 (.faddr 2 (.t 2)), oP 16 (.load false 1 (.t 15)), oP 17 (.faddr 2 (.t 3)), oP 18 (.load false 1 (.t 17))], [oC 19 184 [(.t 16), (.t 18)]], [oP 20 (.mksl true 1 3 [.int .i64 0] [(0, (.t 9)), (1, (.t 14)), (2, (.t 19))])], [oC 21 81 [(.t 20)]], [oM 4 21]]) .ret))⟩
theorem c_impl_order_ok : compFn Tryz.prog [2, 3, 20] 95 = some c_impl_order := by kernel_rfl
def c_impl_isTable : AFn := ⟨10, [.t 4], (.seq (.region [oP 4 (.mv (.k (.bool false)))]) (.seq (.region [oM 5 1, oM 6 0, oP 7 (.len false (.t 6)), oP 8 (.bin .sub (.t 7) (kI 1)), oC 9 125 [(.t 5), (kI 0), (.t 8)], oM 4 9]) .ret))⟩
theorem c_impl_isTable_ok : compFn Tryz.prog [] 96 = some c_impl_isTable := by kernel_rfl
def c_impl_isWhere : AFn := ⟨13, [.t 4], (.seq (.region [oP 4 (.mv (.k (.bool false)))]) (.seq (.region [oM 5 0, oP 6 (.len false (.t 5)), oP 7 (.bin .eql (.t 6) (kI 0)), oM 8 7, oF 9 (.mv (.t 0)) 8, oF 10 (.mv (.t 1)) 8, ⟨some 11, .call (.f 169) [(.t 9), (.t 10)], (some (8, false))⟩, oP 12 (.pick (.t 8) (.k (.bool true)) (.t 11)), oM 4 12]) .ret))⟩
theorem c_impl_isWhere_ok : compFn Tryz.prog [] 97 = some c_impl_isWhere := by kernel_rfl
def c_slices_IndexFunc_Table : AFn := ⟨19, [.t 4], (.seq (.region [oP 4 (.mv (kI 0))]) (.seq (.seq (.region [oM 6 0, oP 7 (.len false (.t 6)), oP 8 (.mv (kI 0))]) (.block 0 (.loop (.seq (.region [oP 9 (.bin .lss (.t 8) (.t 7))]) (.seq (.cond (.t 9) .skip (.exit 0)) (.seq (.block 1 (.seq (.region [oM 10 8, oM 5 10]) (.seq (.region [oM 11 1, oM 12 0, oM 13 5, oP 14 (.iaddr 6 (.t 12) (.t 13)), oP 15 (.load true 6 (.t 14)), ⟨some 16, .call (.t 11) [(.t 15)], none⟩]) (.cond (.t 16) (.seq (.region [oM 17 5, oM 4 17]) .ret) .skip)))) (.region [oP 18 (.bin .add (.t 8) (kI 1)), oM 8 18]))))))) (.seq (.region [oP 4 (.mv (kI (-1)))]) .ret)))⟩
theorem c_slices_IndexFunc_Table_ok : compFn Tryz.prog [] 98 = some c_slices_IndexFunc_Table := by kernel_rfl
def c_impl_TableAt_1 : AFn := ⟨8, [.t 3], (.seq (.region [oP 2 (.box true (.t 0)), oP 3 (.mv (.k (.bool false)))]) (.seq (.region [oP 4 (.faddr 0 (.t 2)), oP 5 (.load false 1 (.t 4)), oP 6 (.load false 1 (.t 1)), oP 7 (.bin .eql (.t 5) (.t 6)), oM 3 7]) .ret))⟩
theorem c_impl_TableAt_1_ok : compFn Tryz.prog [2] 99 = some c_impl_TableAt_1 := by kernel_rfl
def c_impl_SchemaOk : AFn := ⟨32, [.t 2], (.seq (.region [oP 1 (.box true (.t 0)), oP 2 (.mv (.k (.bool false)))]) (.seq (.seq (.region [oP 5 (.load false 1 (.t 1)), oP 6 (.len false (.t 5)), oP 7 (.bin .gtr (.t 6) (kI 5))]) (.cond (.t 7) (.seq (.region [oP 2 (.mv (.k (.bool false)))]) .ret) .skip)) (.seq (.seq (.region [oP 8 (.load false 1 (.t 1)), oP 9 (.len false (.t 8)), oP 10 (.mv (kI 0))]) (.block 0 (.loop (.seq (.region [oP 11 (.bin .lss (.t 10) (.t 9))]) (.seq (.cond (.t 11) .skip (.exit 0)) (.seq (.block 1 (.seq (.region [oM 12 10, oP 13 (.iaddr 6 (.t 8) (.t 10)), oP 14 (.load true 6 (.t 13)), oP 4 (.alloc [.str [], .nils, .nils, .nils, .nils, .nils]), oM 3 12, ⟨none, .op (.store 6 (.t 4) (.t 14)), none⟩]) (.seq (.draw [[oP 15 (.load true 6 (.t 4))], [oC 16 195 [(.t 15)]], [oP 17 (.un .not (.t 16))], [oM 18 17], [oF 19 (.load false 1 (.t 1)) 18, oF 20 (.mv (.t 3)) 18, oF 21 (.slice 6 (.t 19) none (some (.t 20)) none) 18, oF 22 (.faddr 0 (.t 4)) 18, oF 23 (.load false 1 (.t 22)) 18], [⟨some 24, .call (.f 29) [(.t 21), (.t 23)], (some (18, false))⟩], [oF 25 (.bin .geq (.t 24) (kI 0)) 18], [oP 26 (.pick (.t 18) (.k (.bool true)) (.t 25))]]) (.cond (.t 26) (.seq (.region [oP 2 (.mv (.k (.bool false)))]) .ret) .skip)))) (.region [oP 27 (.bin .add (.t 10) (kI 1)), oM 10 27]))))))) (.seq (.region [oP 28 (.load false 1 (.t 1)), oP 29 (.mkfn 197 [] [(.t 1)]), oC 30 196 [(.t 28), (.t 29)], oP 31 (.un .not (.t 30)), oM 2 31]) .ret))))⟩
theorem c_impl_SchemaOk_ok : compFn Tryz.prog [1] 118 = some c_impl_SchemaOk := by kernel_rfl
def c_impl_in : AFn := ⟨15, [.t 6], (.seq (.region [oP 6 (.mv (.k (.bool false)))]) (.seq (.region [oM 7 1, oM 8 0, oP 9 (.bin .leq (.t 7) (.t 8)), oM 10 9, oT 11 (.mv (.t 0)) 10, oT 12 (.mv (.t 2)) 10, oT 13 (.bin .leq (.t 11) (.t 12)) 10, oP 14 (.pick (.t 10) (.t 13) (.k (.bool false))), oM 6 14]) .ret))⟩
theorem c_impl_in_ok : compFn Tryz.prog [] 125 = some c_impl_in := by kernel_rfl
def c_impl_areRows : AFn := ⟨44, [.t 4], (.seq (.region [oP 2 (.box true (.t 0)), oP 4 (.mv (.k (.bool false)))]) (.seq (.seq (.region [oM 7 1, oP 8 (.len false (.t 7)), oP 9 (.mv (kI 0))]) (.block 0 (.loop (.seq (.region [oP 10 (.bin .lss (.t 9) (.t 8))]) (.seq (.cond (.t 10) .skip (.exit 0)) (.seq (.block 1 (.seq (.region [oM 11 9, oP 12 (.iaddr 2 (.t 7) (.t 9)), oP 13 (.load true 2 (.t 12)), oP 6 (.alloc [.int .i64 0, .nils]), oM 5 11, ⟨none, .op (.store 2 (.t 6) (.t 13)), none⟩]) (.seq (.draw [[oP 14 (.faddr 0 (.t 6))], [oP 15 (.load false 1 (.t 14))], [oC 16 125 [(.t 15), (kI 1), (kI 1000000000)]], [oP 17 (.un .not (.t 16))], [oM 18 17], [oF 19 (.mv (.t 5)) 18], [oF 20 (.bin .gtr (.t 19) (kI 0)) 18], [oF 21 (.mv (.t 20)) 18], [oT 22 (.mv (.t 1)) 21, oT 23 (.mv (.t 5)) 21, oT 24 (.bin .sub (.t 23) (kI 1)) 21, oT 25 (.iaddr 2 (.t 22) (.t 24)) 21, oT 26 (.faddr 0 (.t 25)) 21, oT 27 (.load false 1 (.t 26)) 21, oT 28 (.faddr 0 (.t 6)) 21, oT 29 (.load false 1 (.t 28)) 21], [oT 30 (.bin .geq (.t 27) (.t 29)) 21], [oF 31 (.pick (.t 21) (.t 30) (.k (.bool false))) 18], [oP 32 (.pick (.t 18) (.k (.bool true)) (.t 31))], [oM 33 32], [oF 34 (.load true 6 (.t 2)) 33, oF 35 (.faddr 1 (.t 6)) 33, oF 36 (.load false 1 (.t 35)) 33], [⟨some 37, .call (.f 201) [(.t 34), (.t 36)], (some (33, false))⟩], [oF 38 (.un .not (.t 37)) 33], [oP 39 (.pick (.t 33) (.k (.bool true)) (.t 38))]]) (.cond (.t 39) (.seq (.region [oP 4 (.mv (.k (.bool false)))]) .ret) .skip)))) (.region [oP 40 (.bin .add (.t 9) (kI 1)), oM 9 40]))))))) (.seq (.region [oM 41 1, oP 42 (.len false (.t 41)), oP 43 (.bin .leq (.t 42) (kI 60)), oM 4 43]) .ret)))⟩
theorem c_impl_areRows_ok : compFn Tryz.prog [2] 126 = some c_impl_areRows := by kernel_rfl
def c_spec_l1Int : AFn := ⟨5, [.m 2 true 3], (.seq (.region [oP 2 (.alloc [.int .i64 0, .int .i64 0, .str []])]) (.seq (.region [oM 3 0, oP 4 (.build [.int .i64 0, .int .i64 0, .str []] [(0, 1, (kI 1)), (1, 1, (.t 3))]), ⟨none, .op (.store 3 (.t 2) (.t 4)), none⟩]) .ret))⟩
theorem c_spec_l1Int_ok : compFn Tryz.prog [] 150 = some c_spec_l1Int := by kernel_rfl
def c_spec_l1Rd_once : AFn := ⟨11, [.t 4], (.seq (.region [oP 4 (.mv (.k (.bool false)))]) (.seq (.region [oM 5 0, oM 6 1, oC 7 155 [(.t 5), (.t 6)], oM 8 1, oP 9 (.bin .sub (.t 8) (kI 1)), oP 10 (.bin .eql (.t 7) (.t 9)), oM 4 10]) .ret))⟩
theorem c_spec_l1Rd_once_ok : compFn Tryz.prog [] 151 = some c_spec_l1Rd_once := by kernel_rfl
def c_spec_l2Col : AFn := ⟨5, [.m 2 true 5], (.seq (.region [oP 2 (.alloc [.int .i64 0, .int .i64 0, .int .i64 0, .int .i64 0, .str []])]) (.seq (.region [oM 3 0, oP 4 (.build [.int .i64 0, .int .i64 0, .int .i64 0, .int .i64 0, .str []] [(0, 1, (kI 1)), (1, 1, (.t 3))]), ⟨none, .op (.store 5 (.t 2) (.t 4)), none⟩]) .ret))⟩
theorem c_spec_l2Col_ok : compFn Tryz.prog [] 152 = some c_spec_l2Col := by kernel_rfl
def c_spec_l2Const : AFn := ⟨5, [.m 2 true 5], (.seq (.region [oP 1 (.box true (.t 0)), oP 2 (.alloc [.int .i64 0, .int .i64 0, .int .i64 0, .int .i64 0, .str []])]) (.seq (.region [oP 3 (.load true 3 (.t 1)), oP 4 (.build [.int .i64 0, .int .i64 0, .int .i64 0, .int .i64 0, .str []] [(0, 1, (kI 2)), (2, 3, (.t 3))]), ⟨none, .op (.store 5 (.t 2) (.t 4)), none⟩]) .ret))⟩
theorem c_spec_l2Const_ok : compFn Tryz.prog [1] 153 = some c_spec_l2Const := by kernel_rfl
def c_spec_l1Rd_action : AFn := ⟨5, [.t 2], (.seq (.region [oP 2 (.mv (kI 0))]) (.seq (.region [oM 3 0, oC 4 155 [(.t 3), (kI 3)], oM 2 4]) .ret))⟩
theorem c_spec_l1Rd_action_ok : compFn Tryz.prog [] 154 = some c_spec_l1Rd_action := by kernel_rfl
def c_spec_l1Rd_below : AFn := ⟨24, [.t 4], (.seq (.region [oP 4 (.mv (kI 0))]) (.seq (.seq (.region [oM 6 1, oP 7 (.bin .leq (.t 6) (kI 1))]) (.cond (.t 7) (.seq (.region [oP 4 (.mv (kI 0))]) .ret) .skip)) (.seq (.seq (.region [oM 8 1, oP 9 (.bin .leq (.t 8) (kI 256))]) (.cond (.t 9) (.seq (.region [oM 10 0, oC 11 222 [(.t 10)], oM 12 1, oP 13 (.bin .rem (.t 11) (.t 12)), oM 4 13]) .ret) .skip)) (.seq (.region [oM 14 0, oC 15 222 [(.t 14)], oP 16 (.bin .mul (.t 15) (kI 256)), oM 5 16]) (.seq (.region [oM 17 5, oM 18 0, oC 19 222 [(.t 18)], oP 20 (.bin .add (.t 17) (.t 19)), oM 5 20]) (.seq (.region [oM 21 5, oM 22 1, oP 23 (.bin .rem (.t 21) (.t 22)), oM 4 23]) .ret))))))⟩
theorem c_spec_l1Rd_below_ok : compFn Tryz.prog [] 155 = some c_spec_l1Rd_below := by kernel_rfl
def c_spec_l1Rd_off : AFn := ⟨22, [.t 6], (.seq (.region [oP 6 (.mv (kI 0))]) (.seq (.seq (.region [oM 7 0, oC 8 151 [(.t 7), (kI 24)]]) (.cond (.t 8) (.seq (.region [oM 9 1, oP 10 (.bin .sub (.t 9) (kI 1)), oM 11 2, oP 12 (.bin .add (.t 11) (kI 1)), oP 13 (.mksl true 1 4 [.int .i64 0] [(0, (.t 10)), (1, (.t 12)), (2, (kI (-9223372036854775808))), (3, (kI 9223372036854775807))]), oM 14 0, oC 15 155 [(.t 14), (kI 4)], oP 16 (.iaddr 1 (.t 13) (.t 15)), oP 17 (.load false 1 (.t 16)), oM 6 17]) .ret) .skip)) (.seq (.region [oM 18 0, oM 19 1, oM 20 2, oC 21 223 [(.t 18), (.t 19), (.t 20)], oM 6 21]) .ret)))⟩
theorem c_spec_l1Rd_off_ok : compFn Tryz.prog [13] 156 = some c_spec_l1Rd_off := by kernel_rfl
def c_spec_l1Rd_fit : AFn := ⟨44, [.t 4], (.seq (.region [oP 3 (.box true (.t 1)), oP 4 (.mv (.k (.nils)))]) (.seq (.region [oP 8 (.mksl false 3 0 [.int .i64 0, .int .i64 0, .str []] []), oM 5 8]) (.seq (.seq (.region [oP 6 (.mv (kI 0))]) (.block 0 (.loop (.seq (.seq (.region [oM 9 6, oP 10 (.faddr 1 (.t 3)), oP 11 (.load false 1 (.t 10)), oP 12 (.len false (.t 11)), oP 13 (.bin .lss (.t 9) (.t 12))]) (.cond (.t 13) .skip (.exit 0))) (.seq (.block 1 (.seq (.region [oM 16 0, oC 17 155 [(.t 16), (kI 5)], oC 18 150 [(.t 17)], oP 7 (.alloc [.int .i64 0, .int .i64 0, .str []]), ⟨none, .op (.store 3 (.t 7) (.t 18)), none⟩]) (.seq (.seq (.region [oP 19 (.faddr 1 (.t 3)), oP 20 (.load false 1 (.t 19)), oM 21 6, oP 22 (.iaddr 6 (.t 20) (.t 21)), oP 23 (.faddr 1 (.t 22)), oP 24 (.load false 1 (.t 23)), oP 25 (.bin .eql (.t 24) (kI 2))]) (.cond (.t 25) (.region [oP 26 (.mksl true 1 3 [.str []] [(0, (.k (.str []))), (1, (.k (.str [97]))), (2, (.k (.str [98])))]), oM 27 0, oC 28 155 [(.t 27), (kI 3)], oP 29 (.iaddr 1 (.t 26) (.t 28)), oP 30 (.load false 1 (.t 29)), oC 31 224 [(.t 30)], ⟨none, .op (.store 3 (.t 7) (.t 31)), none⟩]) .skip)) (.seq (.seq (.region [oM 32 0, oC 33 151 [(.t 32), (kI 8)]]) (.cond (.t 33) (.region [oP 34 (.build [.int .i64 0, .int .i64 0, .str []] []), ⟨none, .op (.store 3 (.t 7) (.t 34)), none⟩]) .skip)) (.seq (.seq (.region [oM 35 0, oC 36 151 [(.t 35), (kI 60)]]) (.cond (.t 36) (.region [oM 37 0, oC 38 225 [(.t 37)], ⟨none, .op (.store 3 (.t 7) (.t 38)), none⟩]) .skip)) (.region [oM 39 5, oP 40 (.load true 3 (.t 7)), oP 41 (.mksl true 3 1 [.int .i64 0, .int .i64 0, .str []] [(0, (.t 40))]), oP 42 (.app 3 32 (.t 39) (.t 41)), oM 5 42])))))) (.region [oM 14 6, oP 15 (.bin .add (.t 14) (kI 1)), oM 6 15])))))) (.seq (.region [oM 43 5, oM 4 43]) .ret))))⟩
theorem c_spec_l1Rd_fit_ok : compFn Tryz.prog [3, 26, 41] 157 = some c_spec_l1Rd_fit := by kernel_rfl
def c_spec_InsertRow : AFn := ⟨49, [.t 10, .t 11, .t 12], (.seq (.region [oP 10 (.mv (.k (.nils))), oP 11 (.mv (kI 0)), oP 12 (.mv (kI 0))]) (.seq (.seq (.region [oM 16 0, oM 17 1, oM 18 2, oC 19 226 [(.t 16), (.t 17), (.t 18)], oP 20 (.un .not (.t 19)), oM 21 20, oF 22 (.mv (.t 0)) 21, oF 23 (.mv (.t 2)) 21, oF 24 (.iaddr 6 (.t 22) (.t 23)) 21, oF 25 (.load true 6 (.t 24)) 21, oF 26 (.mv (.t 3)) 21, ⟨some 27, .call (.f 227) [(.t 25), (.t 26)], (some (21, false))⟩, oF 28 (.un .not (.t 27)) 21, oP 29 (.pick (.t 21) (.k (.bool true)) (.t 28))]) (.cond (.t 29) (.seq (.region [oP 10 (.mv (.k (.nils))), oP 11 (.mv (kI 0)), oP 12 (.mv (kI 1))]) .ret) .skip)) (.seq (.region [oM 31 0, oM 32 1, oM 33 2, oM 34 3, oM 35 4, oC 36 228 [(.t 31), (.t 32), (.t 33), (.t 34), (.t 35)], oM 30 36, oP 37 (.ext (.t 30) 0), oP 38 (.ext (.t 30) 1), oP 39 (.ext (.t 30) 2), oM 13 37, oM 14 38, oM 15 39]) (.seq (.seq (.region [oM 40 15, oP 41 (.bin .neq (.t 40) (kI 0))]) (.cond (.t 41) (.seq (.region [oM 42 1, oC 43 229 [(.t 42)], oM 44 15, oM 10 43, oP 11 (.mv (kI 0)), oM 12 44]) .ret) .skip)) (.seq (.region [oM 45 13, oC 46 229 [(.t 45)], oM 47 14, oM 48 15, oM 10 46, oM 11 47, oM 12 48]) .ret)))))⟩
theorem c_spec_InsertRow_ok : compFn Tryz.prog [] 158 = some c_spec_InsertRow := by kernel_rfl
def c_spec_l1Rd_expr : AFn := ⟨57, [.t 6], (.seq (.region [oP 6 (.mv (.k (.nils)))]) (.seq (.seq (.region [oM 9 2, oP 10 (.bin .eql (.t 9) (kI 0)), oM 11 10, oF 12 (.mv (.t 0)) 11, ⟨some 13, .call (.f 151) [(.t 12), (kI 4)], (some (11, false))⟩, oP 14 (.pick (.t 11) (.k (.bool true)) (.t 13))]) (.cond (.t 14) (.seq (.seq (.region [oM 15 1, oP 16 (.bin .gtr (.t 15) (kI 0)), oM 17 16, oT 18 (.mv (.t 0)) 17, ⟨some 19, .call (.f 151) [(.t 18), (kI 3)], (some (17, true))⟩, oT 20 (.un .not (.t 19)) 17, oP 21 (.pick (.t 17) (.t 20) (.k (.bool false)))]) (.cond (.t 21) (.seq (.region [oM 22 0, oM 23 1, oC 24 155 [(.t 22), (.t 23)], oC 25 152 [(.t 24)], oP 26 (.mksl false 5 1 [.int .i64 0, .int .i64 0, .int .i64 0, .int .i64 0, .str []] [(0, (.t 25))]), oM 6 26]) .ret) .skip)) (.seq (.region [oM 27 0, oC 28 225 [(.t 27)], oC 29 153 [(.t 28)], oP 30 (.mksl false 5 1 [.int .i64 0, .int .i64 0, .int .i64 0, .int .i64 0, .str []] [(0, (.t 29))]), oM 6 30]) .ret)) .skip)) (.seq (.region [oM 31 0, oC 32 155 [(.t 31), (kI 8)], oP 33 (.bin .add (kI 3) (.t 32)), oM 7 33]) (.seq (.region [oM 34 0, oM 35 1, oM 36 2, oP 37 (.bin .sub (.t 36) (kI 1)), oC 38 159 [(.t 34), (.t 35), (.t 37)], oM 8 38]) (.seq (.seq (.region [oM 39 7, oP 40 (.bin .neq (.t 39) (kI 7)), oM 41 40, oT 42 (.mv (.t 7)) 41, oT 43 (.bin .neq (.t 42) (kI 8)) 41, oP 44 (.pick (.t 41) (.t 43) (.k (.bool false)))]) (.cond (.t 44) (.region [oM 45 8, oM 46 0, oM 47 1, oM 48 2, oP 49 (.bin .sub (.t 48) (kI 1)), oC 50 159 [(.t 46), (.t 47), (.t 49)], oP 51 (.app 5 48 (.t 45) (.t 50)), oM 8 51]) .skip)) (.seq (.region [oM 52 8, oM 53 7, oP 54 (.build [.int .i64 0, .int .i64 0, .int .i64 0, .int .i64 0, .str []] [(0, 1, (.t 53))]), oP 55 (.mksl true 5 1 [.int .i64 0, .int .i64 0, .int .i64 0, .int .i64 0, .str []] [(0, (.t 54))]), oP 56 (.app 5 48 (.t 52) (.t 55)), oM 6 56]) .ret))))))⟩
theorem c_spec_l1Rd_expr_ok : compFn Tryz.prog [55] 159 = some c_spec_l1Rd_expr := by kernel_rfl
def c_spec_l1Rd_cond : AFn := ⟨45, [.t 4], (.seq (.region [oP 4 (.mv (.k (.nils)))]) (.seq (.region [oM 7 0, oM 8 1, oC 9 155 [(.t 7), (.t 8)], oM 5 9]) (.seq (.region [oM 10 0, oC 11 155 [(.t 10), (kI 4)], oC 12 150 [(.t 11)], oC 13 153 [(.t 12)], oP 6 (.alloc [.int .i64 0, .int .i64 0, .int .i64 0, .int .i64 0, .str []]), ⟨none, .op (.store 5 (.t 6) (.t 13)), none⟩]) (.seq (.seq (.region [oM 14 0, oC 15 155 [(.t 14), (kI 5)]]) (.block 0 (.seq (.region [oP 17 (.bin .eql (.t 15) (kI 0)), oM 16 17]) (.cond (.t 16) (.seq (.region [oC 18 150 [(kI 1)], oC 19 153 [(.t 18)], oP 20 (.mksl true 5 1 [.int .i64 0, .int .i64 0, .int .i64 0, .int .i64 0, .str []] [(0, (.t 19))]), oM 4 20]) .ret) (.seq (.region [oP 22 (.bin .eql (.t 15) (kI 1)), oM 21 22]) (.cond (.t 21) (.seq (.draw [[oM 23 5, oC 24 152 [(.t 23)], oP 25 (.load true 5 (.t 6)), oP 26 (.build [.int .i64 0, .int .i64 0, .int .i64 0, .int .i64 0, .str []] [(0, 1, (kI 3))])], [oP 27 (.mksl true 5 3 [.int .i64 0, .int .i64 0, .int .i64 0, .int .i64 0, .str []] [(0, (.t 24)), (1, (.t 25)), (2, (.t 26))])], [oM 4 27]]) .ret) (.seq (.region [oP 29 (.bin .eql (.t 15) (kI 2)), oM 28 29]) (.cond (.t 28) (.seq (.region [oM 30 5, oC 31 152 [(.t 30)], oP 32 (.build [.int .i64 0, .int .i64 0, .int .i64 0, .int .i64 0, .str []] [(0, 1, (kI 8))]), oP 33 (.build [.int .i64 0, .int .i64 0, .int .i64 0, .int .i64 0, .str []] [(0, 1, (kI 7))]), oP 34 (.mksl true 5 3 [.int .i64 0, .int .i64 0, .int .i64 0, .int .i64 0, .str []] [(0, (.t 31)), (1, (.t 32)), (2, (.t 33))]), oM 4 34]) .ret) (.seq (.region [oP 36 (.bin .eql (.t 15) (kI 3)), oM 35 36]) (.cond (.t 35) (.seq (.region [oM 37 0, oM 38 1, oC 39 159 [(.t 37), (.t 38), (kI 2)], oM 4 39]) .ret) .skip)))))))))) (.seq (.draw [[oP 40 (.load true 5 (.t 6)), oM 41 5, oC 42 152 [(.t 41)], oP 43 (.build [.int .i64 0, .int .i64 0, .int .i64 0, .int .i64 0, .str []] [(0, 1, (kI 4))])], [oP 44 (.mksl true 5 3 [.int .i64 0, .int .i64 0, .int .i64 0, .int .i64 0, .str []] [(0, (.t 40)), (1, (.t 42)), (2, (.t 43))])], [oM 4 44]]) .ret)))))⟩
theorem c_spec_l1Rd_cond_ok : compFn Tryz.prog [20, 27, 34, 44] 160 = some c_spec_l1Rd_cond := by kernel_rfl
def c_impl_areTerms : AFn := ⟨9, [.t 4], (.seq (.region [oP 3 (.box true (.t 1)), oP 4 (.mv (.k (.bool false)))]) (.seq (.region [oM 5 0, oP 6 (.mkfn 231 [] [(.t 3)]), oC 7 230 [(.t 5), (.t 6)], oP 8 (.un .not (.t 7)), oM 4 8]) .ret))⟩
theorem c_impl_areTerms_ok : compFn Tryz.prog [3] 161 = some c_impl_areTerms := by kernel_rfl
def c_impl_areColumns : AFn := ⟨30, [.t 4], (.seq (.region [oP 4 (.mv (.k (.bool false)))]) (.seq (.seq (.region [oM 7 0, oP 8 (.len false (.t 7)), oP 9 (.mv (kI 0))]) (.block 0 (.loop (.seq (.region [oP 10 (.bin .lss (.t 9) (.t 8))]) (.seq (.cond (.t 10) .skip (.exit 0)) (.seq (.block 1 (.seq (.region [oM 11 9, oP 12 (.iaddr 1 (.t 7) (.t 9)), oP 13 (.load false 1 (.t 12)), oM 5 11, oM 6 13]) (.seq (.region [oM 14 6, oM 15 1, oP 16 (.bin .sub (.t 15) (kI 1)), oC 17 125 [(.t 14), (kI 0), (.t 16)], oP 18 (.un .not (.t 17)), oM 19 18, oF 20 (.mv (.t 0)) 19, oF 21 (.mv (.t 5)) 19, oF 22 (.slice 1 (.t 20) none (some (.t 21)) none) 19, oF 23 (.mv (.t 6)) 19, ⟨some 24, .call (.f 77) [(.t 22), (.t 23)], (some (19, false))⟩, oP 25 (.pick (.t 19) (.k (.bool true)) (.t 24))]) (.cond (.t 25) (.seq (.region [oP 4 (.mv (.k (.bool false)))]) .ret) .skip)))) (.region [oP 26 (.bin .add (.t 9) (kI 1)), oM 9 26]))))))) (.seq (.region [oM 27 0, oP 28 (.len false (.t 27)), oP 29 (.bin .gtr (.t 28) (kI 0)), oM 4 29]) .ret)))⟩
theorem c_impl_areColumns_ok : compFn Tryz.prog [] 162 = some c_impl_areColumns := by kernel_rfl
def c_impl_Truth : AFn := ⟨17, [.t 4], (.seq (.region [oP 4 (.mv (kI 0))]) (.seq (.region [oM 8 0, oM 9 1, oC 10 84 [(.t 8), (.t 9)], oM 7 10, oP 11 (.ext (.t 7) 0), oP 12 (.ext (.t 7) 1), oP 5 (.alloc [.int .i64 0, .int .i64 0, .str []]), ⟨none, .op (.store 3 (.t 5) (.t 11)), none⟩, oM 6 12]) (.seq (.seq (.region [oM 13 6, oP 14 (.un .not (.t 13))]) (.cond (.t 14) (.seq (.region [oP 4 (.mv (kI (-1)))]) .ret) .skip)) (.seq (.region [oP 15 (.load true 3 (.t 5)), oC 16 232 [(.t 15)], oM 4 16]) .ret))))⟩
theorem c_impl_Truth_ok : compFn Tryz.prog [] 163 = some c_impl_Truth := by kernel_rfl
def c_slices_IndexFunc_Row : AFn := ⟨19, [.t 4], (.seq (.region [oP 4 (.mv (kI 0))]) (.seq (.seq (.region [oM 6 0, oP 7 (.len false (.t 6)), oP 8 (.mv (kI 0))]) (.block 0 (.loop (.seq (.region [oP 9 (.bin .lss (.t 8) (.t 7))]) (.seq (.cond (.t 9) .skip (.exit 0)) (.seq (.block 1 (.seq (.region [oM 10 8, oM 5 10]) (.seq (.region [oM 11 1, oM 12 0, oM 13 5, oP 14 (.iaddr 2 (.t 12) (.t 13)), oP 15 (.load true 2 (.t 14)), ⟨some 16, .call (.t 11) [(.t 15)], none⟩]) (.cond (.t 16) (.seq (.region [oM 17 5, oM 4 17]) .ret) .skip)))) (.region [oP 18 (.bin .add (.t 8) (kI 1)), oM 8 18]))))))) (.seq (.region [oP 4 (.mv (kI (-1)))]) .ret)))⟩
theorem c_slices_IndexFunc_Row_ok : compFn Tryz.prog [] 164 = some c_slices_IndexFunc_Row := by kernel_rfl
def c_slices_Index_int64_int64 : AFn := ⟨19, [.t 4], (.seq (.region [oP 4 (.mv (kI 0))]) (.seq (.seq (.region [oM 6 0, oP 7 (.len false (.t 6)), oP 8 (.mv (kI 0))]) (.block 0 (.loop (.seq (.region [oP 9 (.bin .lss (.t 8) (.t 7))]) (.seq (.cond (.t 9) .skip (.exit 0)) (.seq (.block 1 (.seq (.region [oM 10 8, oM 5 10]) (.seq (.region [oM 11 1, oM 12 0, oM 13 5, oP 14 (.iaddr 1 (.t 12) (.t 13)), oP 15 (.load false 1 (.t 14)), oP 16 (.bin .eql (.t 11) (.t 15))]) (.cond (.t 16) (.seq (.region [oM 17 5, oM 4 17]) .ret) .skip)))) (.region [oP 18 (.bin .add (.t 8) (kI 1)), oM 8 18]))))))) (.seq (.region [oP 4 (.mv (kI (-1)))]) .ret)))⟩
theorem c_slices_Index_int64_int64_ok : compFn Tryz.prog [] 165 = some c_slices_Index_int64_int64 := by kernel_rfl
def c_slices_stableCmpFunc_Row : AFn := ⟨63, [], (.seq (.region [oP 6 (.mv (kI 20))]) (.seq (.region [oM 10 6, oP 7 (.mv (kI 0)), oM 8 10]) (.seq (.block 0 (.loop (.seq (.seq (.region [oM 11 8, oM 12 1, oP 13 (.bin .leq (.t 11) (.t 12))]) (.cond (.t 13) .skip (.exit 0))) (.block 1 (.seq (.region [oM 14 0, oM 15 7, oM 16 8, oM 17 2, oC 18 233 [(.t 14), (.t 15), (.t 16), (.t 17)]]) (.seq (.region [oM 19 8, oM 7 19]) (.region [oM 20 8, oM 21 6, oP 22 (.bin .add (.t 20) (.t 21)), oM 8 22]))))))) (.seq (.region [oM 23 0, oM 24 7, oM 25 1, oM 26 2, oC 27 233 [(.t 23), (.t 24), (.t 25), (.t 26)]]) (.block 2 (.loop (.seq (.seq (.region [oM 28 6, oM 29 1, oP 30 (.bin .lss (.t 28) (.t 29))]) (.cond (.t 30) .skip (.exit 2))) (.block 3 (.seq (.region [oM 31 6, oP 32 (.bin .mul (kI 2) (.t 31)), oP 7 (.mv (kI 0)), oM 8 32]) (.seq (.block 4 (.loop (.seq (.seq (.region [oM 33 8, oM 34 1, oP 35 (.bin .leq (.t 33) (.t 34))]) (.cond (.t 35) .skip (.exit 4))) (.block 5 (.seq (.region [oM 36 0, oM 37 7, oM 38 7, oM 39 6, oP 40 (.bin .add (.t 38) (.t 39)), oM 41 8, oM 42 2, oC 43 234 [(.t 36), (.t 37), (.t 40), (.t 41), (.t 42)]]) (.seq (.region [oM 44 8, oM 7 44]) (.region [oM 45 8, oM 46 6, oP 47 (.bin .mul (kI 2) (.t 46)), oP 48 (.bin .add (.t 45) (.t 47)), oM 8 48]))))))) (.seq (.seq (.region [oM 49 7, oM 50 6, oP 51 (.bin .add (.t 49) (.t 50)), oM 9 51]) (.seq (.region [oM 52 9, oM 53 1, oP 54 (.bin .lss (.t 52) (.t 53))]) (.cond (.t 54) (.region [oM 55 0, oM 56 7, oM 57 9, oM 58 1, oM 59 2, oC 60 234 [(.t 55), (.t 56), (.t 57), (.t 58), (.t 59)]]) .skip))) (.region [oM 61 6, oP 62 (.bin .mul (.t 61) (kI 2)), oM 6 62]))))))))))))⟩
theorem c_slices_stableCmpFunc_Row_ok : compFn Tryz.prog [] 166 = some c_slices_stableCmpFunc_Row := by kernel_rfl
def c_cmp_isNaN_int64 : AFn := ⟨6, [.t 2], (.seq (.region [oP 2 (.mv (.k (.bool false)))]) (.seq (.region [oM 3 0, oM 4 0, oP 5 (.bin .neq (.t 3) (.t 4)), oM 2 5]) .ret))⟩
theorem c_cmp_isNaN_int64_ok : compFn Tryz.prog [] 167 = some c_cmp_isNaN_int64 := by kernel_rfl
def c_impl_areVals : AFn := ⟨23, [.t 4], (.seq (.region [oP 4 (.mv (.k (.bool false)))]) (.seq (.seq (.region [oM 7 0, oP 8 (.len false (.t 7)), oP 9 (.mv (kI 0))]) (.block 0 (.loop (.seq (.region [oP 10 (.bin .lss (.t 9) (.t 8))]) (.seq (.cond (.t 10) .skip (.exit 0)) (.seq (.block 1 (.seq (.region [oM 11 9, oP 12 (.iaddr 3 (.t 7) (.t 9)), oP 13 (.load true 3 (.t 12)), oP 6 (.alloc [.int .i64 0, .int .i64 0, .str []]), oM 5 11, ⟨none, .op (.store 3 (.t 6) (.t 13)), none⟩]) (.seq (.region [oM 14 5, oM 15 1, oP 16 (.bin .eql (.t 14) (.t 15)), oM 17 16, oF 18 (.load true 3 (.t 6)) 17, ⟨some 19, .call (.f 94) [(.t 18)], (some (17, false))⟩, oF 20 (.un .not (.t 19)) 17, oP 21 (.pick (.t 17) (.k (.bool true)) (.t 20))]) (.cond (.t 21) (.seq (.region [oP 4 (.mv (.k (.bool false)))]) .ret) .skip)))) (.region [oP 22 (.bin .add (.t 9) (kI 1)), oM 9 22]))))))) (.seq (.region [oP 4 (.mv (.k (.bool true)))]) .ret)))⟩
theorem c_impl_areVals_ok : compFn Tryz.prog [] 168 = some c_impl_areVals := by kernel_rfl
def c_impl_ExprOk : AFn := ⟨40, [.t 4], (.seq (.region [oP 4 (.mv (.k (.bool false)))]) (.seq (.seq (.region [oM 8 0, oP 9 (.len false (.t 8)), oP 10 (.bin .gtr (.t 9) (kI 24)), oM 11 10, oF 12 (.mv (.t 1)) 11, ⟨some 13, .call (.f 125) [(.t 12), (kI 0), (kI 16)], (some (11, false))⟩, oF 14 (.un .not (.t 13)) 11, oP 15 (.pick (.t 11) (.k (.bool true)) (.t 14))]) (.cond (.t 15) (.seq (.region [oP 4 (.mv (.k (.bool false)))]) .ret) .skip)) (.seq (.region [oP 5 (.mv (kI 0))]) (.seq (.seq (.region [oM 16 0, oP 17 (.len false (.t 16)), oP 18 (.mv (kI 0))]) (.block 0 (.loop (.seq (.region [oP 19 (.bin .lss (.t 18) (.t 17))]) (.seq (.cond (.t 19) .skip (.exit 0)) (.seq (.block 1 (.seq (.region [oP 20 (.iaddr 5 (.t 16) (.t 18)), oP 21 (.load true 5 (.t 20)), oP 7 (.alloc [.int .i64 0, .int .i64 0, .int .i64 0, .int .i64 0, .str []]), ⟨none, .op (.store 5 (.t 7) (.t 21)), none⟩]) (.seq (.seq (.region [oP 22 (.load true 5 (.t 7)), oM 23 1, oC 24 235 [(.t 22), (.t 23)], oP 25 (.un .not (.t 24)), oM 26 25, oF 27 (.mv (.t 5)) 26, oF 28 (.load true 5 (.t 7)) 26, ⟨some 29, .call (.f 170) [(.t 28)], (some (26, false))⟩, oF 30 (.bin .lss (.t 27) (.t 29)) 26, oP 31 (.pick (.t 26) (.k (.bool true)) (.t 30))]) (.cond (.t 31) (.seq (.region [oP 4 (.mv (.k (.bool false)))]) .ret) .skip)) (.region [oM 32 5, oP 33 (.load true 5 (.t 7)), oC 34 170 [(.t 33)], oP 35 (.bin .sub (kI 1) (.t 34)), oP 36 (.bin .add (.t 32) (.t 35)), oM 5 36])))) (.region [oP 37 (.bin .add (.t 18) (kI 1)), oM 18 37]))))))) (.seq (.region [oM 38 5, oP 39 (.bin .eql (.t 38) (kI 1)), oM 4 39]) .ret)))))⟩
theorem c_impl_ExprOk_ok : compFn Tryz.prog [] 169 = some c_impl_ExprOk := by kernel_rfl
def c_impl_Tok_takes : AFn := ⟨11, [.t 2], (.seq (.region [oP 1 (.box true (.t 0)), oP 2 (.mv (kI 0))]) (.seq (.seq (.region [oP 3 (.faddr 0 (.t 1)), oP 4 (.load false 1 (.t 3))]) (.block 0 (.seq (.seq (.region [oP 6 (.bin .eql (.t 4) (kI 1)), oM 5 6]) (.cond (.t 5) .skip (.region [oP 7 (.bin .eql (.t 4) (kI 2)), oM 5 7]))) (.cond (.t 5) (.seq (.region [oP 2 (.mv (kI 0))]) .ret) (.seq (.seq (.region [oP 9 (.bin .eql (.t 4) (kI 7)), oM 8 9]) (.cond (.t 8) .skip (.region [oP 10 (.bin .eql (.t 4) (kI 8)), oM 8 10]))) (.cond (.t 8) (.seq (.region [oP 2 (.mv (kI 1))]) .ret) .skip)))))) (.seq (.region [oP 2 (.mv (kI 2))]) .ret)))⟩
theorem c_impl_Tok_takes_ok : compFn Tryz.prog [1] 170 = some c_impl_Tok_takes := by kernel_rfl
def c_impl_Tok_apply : AFn := ⟨114, [.m 6 true 3, .t 7], (.seq (.region [oP 3 (.box true (.t 0)), oP 6 (.alloc [.int .i64 0, .int .i64 0, .str []]), oP 7 (.mv (.k (.bool false)))]) (.seq (.seq (.region [oP 8 (.faddr 0 (.t 3)), oP 9 (.load false 1 (.t 8))]) (.block 0 (.seq (.region [oP 11 (.bin .eql (.t 9) (kI 1)), oM 10 11]) (.cond (.t 10) (.seq (.region [oM 12 2, oP 13 (.faddr 1 (.t 3)), oP 14 (.load false 1 (.t 13)), oP 15 (.iaddr 3 (.t 12) (.t 14)), oP 16 (.load true 3 (.t 15)), ⟨none, .op (.store 3 (.t 6) (.t 16)), none⟩, oP 7 (.mv (.k (.bool true)))]) .ret) (.seq (.region [oP 18 (.bin .eql (.t 9) (kI 2)), oM 17 18]) (.cond (.t 17) (.seq (.region [oP 19 (.faddr 2 (.t 3)), oP 20 (.load true 3 (.t 19)), ⟨none, .op (.store 3 (.t 6) (.t 20)), none⟩, oP 7 (.mv (.k (.bool true)))]) .ret) (.seq (.region [oP 22 (.bin .eql (.t 9) (kI 3)), oM 21 22]) (.cond (.t 21) (.seq (.draw [[oM 23 1, oP 24 (.iaddr 3 (.t 23) (kI 0)), oP 25 (.load true 3 (.t 24)), oM 26 1, oP 27 (.iaddr 3 (.t 26) (kI 1)), oP 28 (.load true 3 (.t 27))], [oC 29 237 [(.t 25), (.t 28)]], [oC 30 236 [(.t 29)]], [oP 31 (.ext (.t 30) 0), oP 32 (.ext (.t 30) 1)], [⟨none, .op (.store 3 (.t 6) (.t 31)), none⟩], [oM 7 32]]) .ret) (.seq (.region [oP 34 (.bin .eql (.t 9) (kI 4)), oM 33 34]) (.cond (.t 33) (.seq (.draw [[oM 35 1, oP 36 (.iaddr 3 (.t 35) (kI 0)), oP 37 (.load true 3 (.t 36)), oM 38 1, oP 39 (.iaddr 3 (.t 38) (kI 1)), oP 40 (.load true 3 (.t 39))], [oC 41 238 [(.t 37), (.t 40)]], [oC 42 236 [(.t 41)]], [oP 43 (.ext (.t 42) 0), oP 44 (.ext (.t 42) 1)], [⟨none, .op (.store 3 (.t 6) (.t 43)), none⟩], [oM 7 44]]) .ret) (.seq (.region [oP 46 (.bin .eql (.t 9) (kI 5)), oM 45 46]) (.cond (.t 45) (.seq (.draw [[oM 47 1, oP 48 (.iaddr 3 (.t 47) (kI 0)), oP 49 (.load true 3 (.t 48)), oC 50 232 [(.t 49)], oM 51 1, oP 52 (.iaddr 3 (.t 51) (kI 1)), oP 53 (.load true 3 (.t 52))], [oC 54 232 [(.t 53)]], [oC 55 239 [(.t 50), (.t 54)]], [oC 56 236 [(.t 55)]], [oP 57 (.ext (.t 56) 0), oP 58 (.ext (.t 56) 1)], [⟨none, .op (.store 3 (.t 6) (.t 57)), none⟩], [oM 7 58]]) .ret) (.seq (.region [oP 60 (.bin .eql (.t 9) (kI 6)), oM 59 60]) (.cond (.t 59) (.seq (.draw [[oM 61 1, oP 62 (.iaddr 3 (.t 61) (kI 0)), oP 63 (.load true 3 (.t 62)), oC 64 232 [(.t 63)], oM 65 1, oP 66 (.iaddr 3 (.t 65) (kI 1)), oP 67 (.load true 3 (.t 66))], [oC 68 232 [(.t 67)]], [oC 69 240 [(.t 64), (.t 68)]], [oC 70 236 [(.t 69)]], [oP 71 (.ext (.t 70) 0), oP 72 (.ext (.t 70) 1)], [⟨none, .op (.store 3 (.t 6) (.t 71)), none⟩], [oM 7 72]]) .ret) (.seq (.region [oP 74 (.bin .eql (.t 9) (kI 7)), oM 73 74]) (.cond (.t 73) (.seq (.region [oM 75 1, oP 76 (.iaddr 3 (.t 75) (kI 0)), oP 77 (.load true 3 (.t 76)), oC 78 232 [(.t 77)], oC 79 241 [(.t 78)], oC 80 236 [(.t 79)], oP 81 (.ext (.t 80) 0), oP 82 (.ext (.t 80) 1), ⟨none, .op (.store 3 (.t 6) (.t 81)), none⟩, oM 7 82]) .ret) (.seq (.region [oP 84 (.bin .eql (.t 9) (kI 8)), oM 83 84]) (.cond (.t 83) (.seq (.region [oM 85 1, oP 86 (.iaddr 3 (.t 85) (kI 0)), oP 87 (.faddr 0 (.t 86)), oP 88 (.load false 1 (.t 87)), oP 89 (.bin .eql (.t 88) (kI 0)), oC 90 242 [(.t 89)], oC 91 236 [(.t 90)], oP 92 (.ext (.t 91) 0), oP 93 (.ext (.t 91) 1), ⟨none, .op (.store 3 (.t 6) (.t 92)), none⟩, oM 7 93]) .ret) (.seq (.region [oP 95 (.bin .eql (.t 9) (kI 9)), oM 94 95]) (.cond (.t 94) (.seq (.draw [[oM 96 1, oP 97 (.iaddr 3 (.t 96) (kI 0)), oP 98 (.load true 3 (.t 97)), oM 99 1, oP 100 (.iaddr 3 (.t 99) (kI 1)), oP 101 (.load true 3 (.t 100))], [oC 102 243 [(.t 98), (.t 101), (kI 1)]], [oP 103 (.ext (.t 102) 0), oP 104 (.ext (.t 102) 1)], [⟨none, .op (.store 3 (.t 6) (.t 103)), none⟩], [oM 7 104]]) .ret) .skip)))))))))))))))))))) (.seq (.draw [[oM 105 1, oP 106 (.iaddr 3 (.t 105) (kI 0)), oP 107 (.load true 3 (.t 106)), oM 108 1, oP 109 (.iaddr 3 (.t 108) (kI 1)), oP 110 (.load true 3 (.t 109))], [oC 111 243 [(.t 107), (.t 110), (kI (-1))]], [oP 112 (.ext (.t 111) 0), oP 113 (.ext (.t 111) 1)], [⟨none, .op (.store 3 (.t 6) (.t 112)), none⟩], [oM 7 113]]) .ret)))⟩
theorem c_impl_Tok_apply_ok : compFn Tryz.prog [3] 171 = some c_impl_Tok_apply := by kernel_rfl
def c_spec_l4Db : AFn := ⟨71, [.t 4], (.seq (.region [oP 4 (.mv (.k (.bool false)))]) (.seq (.seq (.region [oM 8 1, oP 9 (.len false (.t 8)), oM 10 0, oP 11 (.len false (.t 10)), oP 12 (.bin .neq (.t 9) (.t 11))]) (.cond (.t 12) (.seq (.region [oP 4 (.mv (.k (.bool false)))]) .ret) .skip)) (.seq (.seq (.region [oP 5 (.mv (kI 0))]) (.block 0 (.loop (.seq (.seq (.region [oM 13 5, oM 14 1, oP 15 (.len false (.t 14)), oP 16 (.bin .lss (.t 13) (.t 15))]) (.cond (.t 16) .skip (.exit 0))) (.seq (.block 1 (.seq (.region [oM 19 1, oM 20 5, oP 21 (.iaddr 1 (.t 19) (.t 20)), oP 22 (.faddr 0 (.t 21)), oP 23 (.load false 1 (.t 22)), oM 6 23]) (.seq (.seq (.region [oP 7 (.mv (kI 0))]) (.block 2 (.loop (.seq (.seq (.region [oM 24 7, oM 25 6, oP 26 (.len false (.t 25)), oP 27 (.bin .lss (.t 24) (.t 26))]) (.cond (.t 27) .skip (.exit 2))) (.seq (.block 3 (.seq (.draw [[oM 30 6, oM 31 7], [oP 32 (.iaddr 2 (.t 30) (.t 31))], [oP 33 (.faddr 0 (.t 32))], [oP 34 (.load false 1 (.t 33))], [oC 35 173 [(.t 34), (kI 1), (kI 1000000000)]], [oP 36 (.un .not (.t 35))], [oM 37 36], [oF 38 (.mv (.t 7)) 37], [oF 39 (.bin .gtr (.t 38) (kI 0)) 37], [oF 40 (.mv (.t 39)) 37], [oT 41 (.mv (.t 6)) 40, oT 42 (.mv (.t 7)) 40, oT 43 (.bin .sub (.t 42) (kI 1)) 40, oT 44 (.iaddr 2 (.t 41) (.t 43)) 40, oT 45 (.faddr 0 (.t 44)) 40, oT 46 (.load false 1 (.t 45)) 40, oT 47 (.mv (.t 6)) 40, oT 48 (.mv (.t 7)) 40, oT 49 (.iaddr 2 (.t 47) (.t 48)) 40, oT 50 (.faddr 0 (.t 49)) 40, oT 51 (.load false 1 (.t 50)) 40], [oT 52 (.bin .geq (.t 46) (.t 51)) 40], [oF 53 (.pick (.t 40) (.t 52) (.k (.bool false))) 37], [oP 54 (.pick (.t 37) (.k (.bool true)) (.t 53))], [oM 55 54], [oF 56 (.mv (.t 0)) 55, oF 57 (.mv (.t 5)) 55, oF 58 (.iaddr 6 (.t 56) (.t 57)) 55, oF 59 (.load true 6 (.t 58)) 55, oF 60 (.mv (.t 6)) 55, oF 61 (.mv (.t 7)) 55, oF 62 (.iaddr 2 (.t 60) (.t 61)) 55, oF 63 (.faddr 1 (.t 62)) 55, oF 64 (.load false 1 (.t 63)) 55], [⟨some 65, .call (.f 227) [(.t 59), (.t 64)], (some (55, false))⟩], [oF 66 (.un .not (.t 65)) 55], [oP 67 (.pick (.t 55) (.k (.bool true)) (.t 66))]]) (.cond (.t 67) (.seq (.region [oP 4 (.mv (.k (.bool false)))]) .ret) .skip))) (.region [oM 28 7, oP 29 (.bin .add (.t 28) (kI 1)), oM 7 29])))))) (.seq (.region [oM 68 6, oP 69 (.len false (.t 68)), oP 70 (.bin .gtr (.t 69) (kI 60))]) (.cond (.t 70) (.seq (.region [oP 4 (.mv (.k (.bool false)))]) .ret) .skip))))) (.region [oM 17 5, oP 18 (.bin .add (.t 17) (kI 1)), oM 5 18])))))) (.seq (.region [oP 4 (.mv (.k (.bool true)))]) .ret))))⟩
theorem c_spec_l4Db_ok : compFn Tryz.prog [] 172 = some c_spec_l4Db := by kernel_rfl
def c_spec_l1In : AFn := ⟨15, [.t 6], (.seq (.region [oP 6 (.mv (.k (.bool false)))]) (.seq (.region [oM 7 0, oM 8 1, oP 9 (.bin .geq (.t 7) (.t 8)), oM 10 9, oT 11 (.mv (.t 0)) 10, oT 12 (.mv (.t 2)) 10, oT 13 (.bin .leq (.t 11) (.t 12)) 10, oP 14 (.pick (.t 10) (.t 13) (.k (.bool false))), oM 6 14]) .ret))⟩
theorem c_spec_l1In_ok : compFn Tryz.prog [] 173 = some c_spec_l1In := by kernel_rfl
def c_spec_l2Expr : AFn := ⟨38, [.t 4], (.seq (.region [oP 4 (.mv (.k (.bool false)))]) (.seq (.region [oP 5 (.mv (kI 0))]) (.seq (.seq (.region [oP 6 (.mv (kI 0))]) (.block 0 (.loop (.seq (.seq (.region [oM 8 6, oM 9 0, oP 10 (.len false (.t 9)), oP 11 (.bin .lss (.t 8) (.t 10))]) (.cond (.t 11) .skip (.exit 0))) (.seq (.block 1 (.seq (.region [oM 14 0, oM 15 6, oP 16 (.iaddr 5 (.t 14) (.t 15)), oP 17 (.load true 5 (.t 16)), oM 18 1, oC 19 244 [(.t 17), (.t 18)], oM 7 19]) (.seq (.seq (.region [oM 20 7, oP 21 (.bin .lss (.t 20) (kI 0)), oM 22 21, oF 23 (.mv (.t 7)) 22, oF 24 (.mv (.t 5)) 22, oF 25 (.bin .gtr (.t 23) (.t 24)) 22, oP 26 (.pick (.t 22) (.k (.bool true)) (.t 25))]) (.cond (.t 26) (.seq (.region [oP 4 (.mv (.k (.bool false)))]) .ret) .skip)) (.region [oM 27 5, oM 28 7, oP 29 (.bin .sub (.t 27) (.t 28)), oP 30 (.bin .add (.t 29) (kI 1)), oM 5 30])))) (.region [oM 12 6, oP 13 (.bin .add (.t 12) (kI 1)), oM 6 13])))))) (.seq (.region [oM 31 5, oP 32 (.bin .eql (.t 31) (kI 1)), oM 33 32, oT 34 (.mv (.t 0)) 33, oT 35 (.len false (.t 34)) 33, oT 36 (.bin .leq (.t 35) (kI 24)) 33, oP 37 (.pick (.t 33) (.t 36) (.k (.bool false))), oM 4 37]) .ret))))⟩
theorem c_spec_l2Expr_ok : compFn Tryz.prog [] 174 = some c_spec_l2Expr := by kernel_rfl
def c_spec_l3Cols : AFn := ⟨33, [.t 4], (.seq (.region [oP 4 (.mv (.k (.bool false)))]) (.seq (.seq (.region [oP 5 (.mv (kI 0))]) (.block 0 (.loop (.seq (.seq (.region [oM 6 5, oM 7 0, oP 8 (.len false (.t 7)), oP 9 (.bin .lss (.t 6) (.t 8))]) (.cond (.t 9) .skip (.exit 0))) (.seq (.block 1 (.seq (.draw [[oM 12 0, oM 13 5, oP 14 (.iaddr 1 (.t 12) (.t 13)), oP 15 (.load false 1 (.t 14)), oM 16 1, oP 17 (.bin .sub (.t 16) (kI 1))], [oC 18 173 [(.t 15), (kI 0), (.t 17)]], [oP 19 (.un .not (.t 18))], [oM 20 19], [oF 21 (.mv (.t 0)) 20, oF 22 (.mv (.t 5)) 20, oF 23 (.slice 1 (.t 21) none (some (.t 22)) none) 20, oF 24 (.mv (.t 0)) 20, oF 25 (.mv (.t 5)) 20, oF 26 (.iaddr 1 (.t 24) (.t 25)) 20, oF 27 (.load false 1 (.t 26)) 20], [⟨some 28, .call (.f 245) [(.t 23), (.t 27)], (some (20, false))⟩], [oP 29 (.pick (.t 20) (.k (.bool true)) (.t 28))]]) (.cond (.t 29) (.seq (.region [oP 4 (.mv (.k (.bool false)))]) .ret) .skip))) (.region [oM 10 5, oP 11 (.bin .add (.t 10) (kI 1)), oM 5 11])))))) (.seq (.region [oM 30 0, oP 31 (.len false (.t 30)), oP 32 (.bin .gtr (.t 31) (kI 0)), oM 4 32]) .ret)))⟩
theorem c_spec_l3Cols_ok : compFn Tryz.prog [] 175 = some c_spec_l3Cols := by kernel_rfl
def c_spec_l2Truth : AFn := ⟨27, [.t 4], (.seq (.region [oP 4 (.mv (kI 0))]) (.seq (.region [oM 10 0, oM 11 1, oC 12 91 [(.t 10), (.t 11)], oM 9 12, oP 13 (.ext (.t 9) 0), oP 14 (.ext (.t 9) 1), oP 5 (.alloc [.int .i64 0, .int .i64 0, .str []]), ⟨none, .op (.store 3 (.t 5) (.t 13)), none⟩, oM 6 14]) (.seq (.region [oP 16 (.load true 3 (.t 5)), oC 17 179 [(.t 16)], oM 15 17, oP 18 (.ext (.t 15) 0), oP 19 (.ext (.t 15) 1), oM 7 18, oM 8 19]) (.seq (.seq (.region [oM 20 6, oP 21 (.un .not (.t 20)), oM 22 21, oF 23 (.mv (.t 8)) 22, oF 24 (.un .not (.t 23)) 22, oP 25 (.pick (.t 22) (.k (.bool true)) (.t 24))]) (.cond (.t 25) (.seq (.region [oP 4 (.mv (kI (-1)))]) .ret) .skip)) (.seq (.region [oM 26 7, oM 4 26]) .ret)))))⟩
theorem c_spec_l2Truth_ok : compFn Tryz.prog [] 176 = some c_spec_l2Truth := by kernel_rfl
def c_spec_l1Order : AFn := ⟨36, [.t 4], (.seq (.region [oP 2 (.box true (.t 0)), oP 3 (.box true (.t 1)), oP 4 (.mv (kI 0))]) (.seq (.block 0 (.seq (.region [oP 6 (.faddr 0 (.t 2)), oP 7 (.load false 1 (.t 6)), oP 8 (.faddr 0 (.t 3)), oP 9 (.load false 1 (.t 8)), oP 10 (.bin .lss (.t 7) (.t 9)), oM 11 10, oF 12 (.faddr 0 (.t 2)) 11, oF 13 (.load false 1 (.t 12)) 11, oF 14 (.faddr 0 (.t 3)) 11, oF 15 (.load false 1 (.t 14)) 11, oF 16 (.bin .eql (.t 13) (.t 15)) 11, oF 17 (.mv (.t 16)) 11, oT 18 (.faddr 1 (.t 2)) 17, oT 19 (.load false 1 (.t 18)) 17, oT 20 (.faddr 1 (.t 3)) 17, oT 21 (.load false 1 (.t 20)) 17, oT 22 (.bin .lss (.t 19) (.t 21)) 17, oT 23 (.mv (.t 22)) 17, oF 24 (.faddr 2 (.t 2)) 23, oF 25 (.load false 1 (.t 24)) 23, oF 26 (.faddr 2 (.t 3)) 23, oF 27 (.load false 1 (.t 26)) 23, oF 28 (.bin .lss (.t 25) (.t 27)) 23, oT 29 (.pick (.t 23) (.k (.bool true)) (.t 28)) 17, oF 30 (.pick (.t 17) (.t 29) (.k (.bool false))) 11, oP 31 (.pick (.t 11) (.k (.bool true)) (.t 30)), oM 5 31]) (.cond (.t 5) (.seq (.region [oP 4 (.mv (kI (-1)))]) .ret) (.seq (.region [oP 33 (.load true 3 (.t 2)), oP 34 (.load true 3 (.t 3)), oP 35 (.eq false true [.i, .i, .s] (.t 33) (.t 34)), oM 32 35]) (.cond (.t 32) (.seq (.region [oP 4 (.mv (kI 0))]) .ret) .skip))))) (.seq (.region [oP 4 (.mv (kI 1))]) .ret)))⟩
theorem c_spec_l1Order_ok : compFn Tryz.prog [2, 3] 177 = some c_spec_l1Order := by kernel_rfl
def c_spec_l1Yes : AFn := ⟨4, [.t 2], (.seq (.region [oP 2 (.mv (kI 0))]) (.seq (.seq (.region [oM 3 0]) (.cond (.t 3) (.seq (.region [oP 2 (.mv (kI 1))]) .ret) .skip)) (.seq (.region [oP 2 (.mv (kI 0))]) .ret)))⟩
theorem c_spec_l1Yes_ok : compFn Tryz.prog [] 178 = some c_spec_l1Yes := by kernel_rfl
def c_spec_l2Of : AFn := ⟨14, [.t 2, .t 3], (.seq (.region [oP 1 (.box true (.t 0)), oP 2 (.mv (kI 0)), oP 3 (.mv (.k (.bool false)))]) (.seq (.seq (.region [oP 4 (.faddr 0 (.t 1)), oP 5 (.load false 1 (.t 4))]) (.block 0 (.seq (.region [oP 7 (.bin .eql (.t 5) (kI 0)), oM 6 7]) (.cond (.t 6) (.seq (.region [oP 2 (.mv (kI 2)), oP 3 (.mv (.k (.bool true)))]) .ret) (.seq (.region [oP 9 (.bin .eql (.t 5) (kI 1)), oM 8 9]) (.cond (.t 8) (.seq (.region [oP 10 (.faddr 1 (.t 1)), oP 11 (.load false 1 (.t 10)), oP 12 (.bin .neq (.t 11) (kI 0)), oC 13 178 [(.t 12)], oM 2 13, oP 3 (.mv (.k (.bool true)))]) .ret) .skip)))))) (.seq (.region [oP 2 (.mv (kI 0)), oP 3 (.mv (.k (.bool false)))]) .ret)))⟩
theorem c_spec_l2Of_ok : compFn Tryz.prog [1] 179 = some c_spec_l2Of := by kernel_rfl
def c_spec_l2As : AFn := ⟨8, [.m 2 true 3], (.seq (.region [oP 2 (.alloc [.int .i64 0, .int .i64 0, .str []])]) (.seq (.seq (.region [oM 3 0, oP 4 (.bin .eql (.t 3) (kI 2))]) (.cond (.t 4) (.seq (.region [oP 5 (.build [.int .i64 0, .int .i64 0, .str []] []), ⟨none, .op (.store 3 (.t 2) (.t 5)), none⟩]) .ret) .skip)) (.seq (.region [oM 6 0, oC 7 150 [(.t 6)], ⟨none, .op (.store 3 (.t 2) (.t 7)), none⟩]) .ret)))⟩
theorem c_spec_l2As_ok : compFn Tryz.prog [] 180 = some c_spec_l2As := by kernel_rfl
def c_spec_Not3 : AFn := ⟨10, [.t 2], (.seq (.region [oP 2 (.mv (kI 0))]) (.seq (.seq (.region [oM 3 0]) (.block 0 (.seq (.region [oP 5 (.bin .eql (.t 3) (kI 0)), oM 4 5]) (.cond (.t 4) (.seq (.region [oP 2 (.mv (kI 1))]) .ret) (.seq (.region [oP 7 (.bin .eql (.t 3) (kI 1)), oM 6 7]) (.cond (.t 6) (.seq (.region [oP 2 (.mv (kI 0))]) .ret) (.seq (.region [oP 9 (.bin .eql (.t 3) (kI 2)), oM 8 9]) (.cond (.t 8) (.seq (.region [oP 2 (.mv (kI 2))]) .ret) .skip)))))))) (.seq (.region [oP 2 (.mv (kI (-1)))]) .ret)))⟩
theorem c_spec_Not3_ok : compFn Tryz.prog [] 181 = some c_spec_Not3 := by kernel_rfl
def c_spec_l2Two : AFn := ⟨66, [.m 6 true 3, .t 7], (.seq (.region [oP 4 (.box true (.t 1)), oP 5 (.box true (.t 2)), oP 6 (.alloc [.int .i64 0, .int .i64 0, .str []]), oP 7 (.mv (.k (.bool false)))]) (.seq (.seq (.region [oM 12 0]) (.block 0 (.seq (.region [oP 14 (.bin .eql (.t 12) (kI 3)), oM 13 14]) (.cond (.t 13) (.seq (.region [oP 15 (.load true 3 (.t 4)), oP 16 (.load true 3 (.t 5)), oC 17 246 [(.t 15), (.t 16)], oC 18 180 [(.t 17)], ⟨none, .op (.store 3 (.t 6) (.t 18)), none⟩, oP 7 (.mv (.k (.bool true)))]) .ret) (.seq (.region [oP 20 (.bin .eql (.t 12) (kI 4)), oM 19 20]) (.cond (.t 19) (.seq (.region [oP 21 (.load true 3 (.t 4)), oP 22 (.load true 3 (.t 5)), oC 23 247 [(.t 21), (.t 22)], oC 24 180 [(.t 23)], ⟨none, .op (.store 3 (.t 6) (.t 24)), none⟩, oP 7 (.mv (.k (.bool true)))]) .ret) (.seq (.region [oP 26 (.bin .eql (.t 12) (kI 9)), oM 25 26]) (.cond (.t 25) (.seq (.region [oP 27 (.load true 3 (.t 4)), oP 28 (.load true 3 (.t 5)), oC 29 248 [(.t 27), (.t 28), (kI 1)], oP 30 (.ext (.t 29) 0), oP 31 (.ext (.t 29) 1), ⟨none, .op (.store 3 (.t 6) (.t 30)), none⟩, oM 7 31]) .ret) (.seq (.region [oP 33 (.bin .eql (.t 12) (kI 10)), oM 32 33]) (.cond (.t 32) (.seq (.region [oP 34 (.load true 3 (.t 4)), oP 35 (.load true 3 (.t 5)), oC 36 248 [(.t 34), (.t 35), (kI (-1))], oP 37 (.ext (.t 36) 0), oP 38 (.ext (.t 36) 1), ⟨none, .op (.store 3 (.t 6) (.t 37)), none⟩, oM 7 38]) .ret) .skip)))))))))) (.seq (.region [oP 40 (.load true 3 (.t 4)), oC 41 179 [(.t 40)], oM 39 41, oP 42 (.ext (.t 39) 0), oP 43 (.ext (.t 39) 1), oM 8 42, oM 9 43]) (.seq (.region [oP 45 (.load true 3 (.t 5)), oC 46 179 [(.t 45)], oM 44 46, oP 47 (.ext (.t 44) 0), oP 48 (.ext (.t 44) 1), oM 10 47, oM 11 48]) (.seq (.seq (.region [oM 49 9, oP 50 (.un .not (.t 49)), oM 51 50, oF 52 (.mv (.t 11)) 51, oF 53 (.un .not (.t 52)) 51, oP 54 (.pick (.t 51) (.k (.bool true)) (.t 53))]) (.cond (.t 54) (.seq (.region [oP 55 (.build [.int .i64 0, .int .i64 0, .str []] []), ⟨none, .op (.store 3 (.t 6) (.t 55)), none⟩, oP 7 (.mv (.k (.bool false)))]) .ret) .skip)) (.seq (.seq (.region [oM 56 0, oP 57 (.bin .eql (.t 56) (kI 5))]) (.cond (.t 57) (.seq (.region [oM 58 8, oM 59 10, oC 60 249 [(.t 58), (.t 59)], oC 61 180 [(.t 60)], ⟨none, .op (.store 3 (.t 6) (.t 61)), none⟩, oP 7 (.mv (.k (.bool true)))]) .ret) .skip)) (.seq (.region [oM 62 8, oM 63 10, oC 64 250 [(.t 62), (.t 63)], oC 65 180 [(.t 64)], ⟨none, .op (.store 3 (.t 6) (.t 65)), none⟩, oP 7 (.mv (.k (.bool true)))]) .ret)))))))⟩
theorem c_spec_l2Two_ok : compFn Tryz.prog [4, 5] 182 = some c_spec_l2Two := by kernel_rfl
def c_spec_TableOk : AFn := ⟨184, [.t 2], (.seq (.region [oP 1 (.box true (.t 0)), oP 2 (.mv (.k (.bool false)))]) (.seq (.region [oP 11 (.faddr 1 (.t 1)), oP 12 (.load false 1 (.t 11)), oP 13 (.len false (.t 12)), oM 3 13]) (.seq (.seq (.region [oP 14 (.faddr 0 (.t 1)), oP 15 (.load false 1 (.t 14)), oC 16 251 [(.t 15)], oP 17 (.un .not (.t 16)), oM 18 17, oF 19 (.mv (.t 3)) 18, ⟨some 20, .call (.f 173) [(.t 19), (kI 1), (kI 8)], (some (18, false))⟩, oF 21 (.un .not (.t 20)) 18, oP 22 (.pick (.t 18) (.k (.bool true)) (.t 21)), oM 23 22, oF 24 (.faddr 2 (.t 1)) 23, oF 25 (.load false 1 (.t 24)) 23, oF 26 (.mv (.t 3)) 23, ⟨some 27, .call (.f 175) [(.t 25), (.t 26)], (some (23, false))⟩, oF 28 (.un .not (.t 27)) 23, oP 29 (.pick (.t 23) (.k (.bool true)) (.t 28)), oM 30 29, oF 31 (.faddr 3 (.t 1)) 30, oF 32 (.load false 1 (.t 31)) 30, oF 33 (.len false (.t 32)) 30, oF 34 (.bin .gtr (.t 33) (kI 3)) 30, oP 35 (.pick (.t 30) (.k (.bool true)) (.t 34)), oM 36 35, oF 37 (.faddr 4 (.t 1)) 36, oF 38 (.load false 1 (.t 37)) 36, oF 39 (.len false (.t 38)) 36, oF 40 (.bin .gtr (.t 39) (kI 3)) 36, oP 41 (.pick (.t 36) (.k (.bool true)) (.t 40)), oM 42 41, oF 43 (.faddr 5 (.t 1)) 42, oF 44 (.load false 1 (.t 43)) 42, oF 45 (.len false (.t 44)) 42, oF 46 (.bin .gtr (.t 45) (kI 3)) 42, oP 47 (.pick (.t 42) (.k (.bool true)) (.t 46))]) (.cond (.t 47) (.seq (.region [oP 2 (.mv (.k (.bool false)))]) .ret) .skip)) (.seq (.seq (.region [oP 4 (.mv (kI 0))]) (.block 0 (.loop (.seq (.seq (.region [oM 48 4, oM 49 3, oP 50 (.bin .lss (.t 48) (.t 49))]) (.cond (.t 50) .skip (.exit 0))) (.seq (.block 1 (.seq (.region [oP 53 (.faddr 1 (.t 1)), oP 54 (.load false 1 (.t 53)), oM 55 4, oP 56 (.iaddr 6 (.t 54) (.t 55)), oP 57 (.load true 6 (.t 56)), oP 5 (.alloc [.str [], .int .i64 0, .bool false, .int .i64 0, .int .i64 0, .str []]), ⟨none, .op (.store 6 (.t 5) (.t 57)), none⟩]) (.seq (.draw [[oP 58 (.faddr 0 (.t 5))], [oP 59 (.load false 1 (.t 58))], [oC 60 251 [(.t 59)]], [oP 61 (.un .not (.t 60))], [oM 62 61], [oF 63 (.faddr 1 (.t 1)) 62, oF 64 (.load false 1 (.t 63)) 62, oF 65 (.mv (.t 4)) 62, oF 66 (.slice 6 (.t 64) none (some (.t 65)) none) 62, oF 67 (.build [.str [], .nils, .nils, .nils, .nils, .nils] [(1, 1, (.t 66))]) 62, oF 68 (.faddr 0 (.t 5)) 62, oF 69 (.load false 1 (.t 68)) 62], [⟨some 70, .call (.f 252) [(.t 67), (.t 69)], (some (62, false))⟩], [oF 71 (.bin .geq (.t 70) (kI 0)) 62], [oP 72 (.pick (.t 62) (.k (.bool true)) (.t 71))], [oM 73 72], [oF 74 (.faddr 1 (.t 5)) 73], [oF 75 (.load false 1 (.t 74)) 73], [⟨some 76, .call (.f 173) [(.t 75), (kI 1), (kI 2)], (some (73, false))⟩], [oF 77 (.un .not (.t 76)) 73], [oP 78 (.pick (.t 73) (.k (.bool true)) (.t 77))], [oM 79 78], [oF 80 (.faddr 3 (.t 5)) 79], [oF 81 (.load true 3 (.t 80)) 79], [⟨some 82, .call (.f 253) [(.t 81)], (some (79, false))⟩], [oF 83 (.un .not (.t 82)) 79], [oP 84 (.pick (.t 79) (.k (.bool true)) (.t 83))], [oM 85 84], [oF 86 (.faddr 3 (.t 5)) 85], [oF 87 (.faddr 0 (.t 86)) 85], [oF 88 (.load false 1 (.t 87)) 85], [oF 89 (.bin .neq (.t 88) (kI 0)) 85], [oF 90 (.mv (.t 89)) 85], [oT 91 (.faddr 3 (.t 5)) 90, oT 92 (.faddr 0 (.t 91)) 90, oT 93 (.load false 1 (.t 92)) 90, oT 94 (.faddr 1 (.t 5)) 90, oT 95 (.load false 1 (.t 94)) 90], [oT 96 (.bin .neq (.t 93) (.t 95)) 90], [oF 97 (.pick (.t 90) (.t 96) (.k (.bool false))) 85], [oP 98 (.pick (.t 85) (.k (.bool true)) (.t 97))]]) (.cond (.t 98) (.seq (.region [oP 2 (.mv (.k (.bool false)))]) .ret) .skip)))) (.region [oM 51 4, oP 52 (.bin .add (.t 51) (kI 1)), oM 4 52])))))) (.seq (.seq (.region [oP 6 (.mv (kI 0))]) (.block 2 (.loop (.seq (.seq (.region [oM 99 6, oP 100 (.faddr 2 (.t 1)), oP 101 (.load false 1 (.t 100)), oP 102 (.len false (.t 101)), oP 103 (.bin .lss (.t 99) (.t 102))]) (.cond (.t 103) .skip (.exit 2))) (.seq (.block 3 (.seq (.draw [[oP 106 (.faddr 1 (.t 1)), oP 107 (.load false 1 (.t 106)), oP 108 (.faddr 2 (.t 1)), oP 109 (.load false 1 (.t 108)), oM 110 6, oP 111 (.iaddr 1 (.t 109) (.t 110)), oP 112 (.load false 1 (.t 111))], [oP 113 (.iaddr 6 (.t 107) (.t 112))], [oP 114 (.faddr 2 (.t 113))], [oP 115 (.load false 1 (.t 114))], [oP 116 (.un .not (.t 115))]]) (.cond (.t 116) (.seq (.region [oP 2 (.mv (.k (.bool false)))]) .ret) .skip))) (.region [oM 104 6, oP 105 (.bin .add (.t 104) (kI 1)), oM 6 105])))))) (.seq (.seq (.region [oP 7 (.mv (kI 0))]) (.block 4 (.loop (.seq (.seq (.region [oM 117 7, oP 118 (.faddr 3 (.t 1)), oP 119 (.load false 1 (.t 118)), oP 120 (.len false (.t 119)), oP 121 (.bin .lss (.t 117) (.t 120))]) (.cond (.t 121) .skip (.exit 4))) (.seq (.block 5 (.seq (.region [oP 124 (.faddr 3 (.t 1)), oP 125 (.load false 1 (.t 124)), oM 126 7, oP 127 (.iaddr 1 (.t 125) (.t 126)), oP 128 (.faddr 0 (.t 127)), oP 129 (.load false 1 (.t 128)), oM 130 3, oC 131 175 [(.t 129), (.t 130)], oP 132 (.un .not (.t 131))]) (.cond (.t 132) (.seq (.region [oP 2 (.mv (.k (.bool false)))]) .ret) .skip))) (.region [oM 122 7, oP 123 (.bin .add (.t 122) (kI 1)), oM 7 123])))))) (.seq (.seq (.region [oP 8 (.mv (kI 0))]) (.block 6 (.loop (.seq (.seq (.region [oM 133 8, oP 134 (.faddr 4 (.t 1)), oP 135 (.load false 1 (.t 134)), oP 136 (.len false (.t 135)), oP 137 (.bin .lss (.t 133) (.t 136))]) (.cond (.t 137) .skip (.exit 6))) (.seq (.block 7 (.seq (.region [oP 140 (.faddr 4 (.t 1)), oP 141 (.load false 1 (.t 140)), oM 142 8, oP 143 (.iaddr 1 (.t 141) (.t 142)), oP 144 (.faddr 0 (.t 143)), oP 145 (.load false 1 (.t 144)), oM 146 3, oC 147 174 [(.t 145), (.t 146)], oP 148 (.un .not (.t 147))]) (.cond (.t 148) (.seq (.region [oP 2 (.mv (.k (.bool false)))]) .ret) .skip))) (.region [oM 138 8, oP 139 (.bin .add (.t 138) (kI 1)), oM 8 139])))))) (.seq (.seq (.region [oP 9 (.mv (kI 0))]) (.block 8 (.loop (.seq (.seq (.region [oM 149 9, oP 150 (.faddr 5 (.t 1)), oP 151 (.load false 1 (.t 150)), oP 152 (.len false (.t 151)), oP 153 (.bin .lss (.t 149) (.t 152))]) (.cond (.t 153) .skip (.exit 8))) (.seq (.block 9 (.seq (.region [oP 156 (.faddr 5 (.t 1)), oP 157 (.load false 1 (.t 156)), oM 158 9, oP 159 (.iaddr 5 (.t 157) (.t 158)), oP 160 (.load true 5 (.t 159)), oP 10 (.alloc [.nils, .str [], .int .i64 0, .int .i64 0, .bool false]), ⟨none, .op (.store 5 (.t 10) (.t 160)), none⟩]) (.seq (.region [oP 161 (.faddr 0 (.t 10)), oP 162 (.load false 1 (.t 161)), oM 163 3, oC 164 175 [(.t 162), (.t 163)], oP 165 (.un .not (.t 164)), oM 166 165, oF 167 (.faddr 1 (.t 10)) 166, oF 168 (.load false 1 (.t 167)) 166, ⟨some 169, .call (.f 251) [(.t 168)], (some (166, false))⟩, oF 170 (.un .not (.t 169)) 166, oP 171 (.pick (.t 166) (.k (.bool true)) (.t 170)), oM 172 171, oF 173 (.faddr 2 (.t 10)) 172, oF 174 (.load false 1 (.t 173)) 172, ⟨some 175, .call (.f 173) [(.t 174), (kI 0), (kI 2)], (some (172, false))⟩, oF 176 (.un .not (.t 175)) 172, oP 177 (.pick (.t 172) (.k (.bool true)) (.t 176)), oM 178 177, oF 179 (.faddr 3 (.t 10)) 178, oF 180 (.load false 1 (.t 179)) 178, ⟨some 181, .call (.f 173) [(.t 180), (kI 0), (kI 2)], (some (178, false))⟩, oF 182 (.un .not (.t 181)) 178, oP 183 (.pick (.t 178) (.k (.bool true)) (.t 182))]) (.cond (.t 183) (.seq (.region [oP 2 (.mv (.k (.bool false)))]) .ret) .skip)))) (.region [oM 154 9, oP 155 (.bin .add (.t 154) (kI 1)), oM 9 155])))))) (.seq (.region [oP 2 (.mv (.k (.bool true)))]) .ret)))))))))⟩
theorem c_spec_TableOk_ok : compFn Tryz.prog [1] 183 = some c_spec_TableOk := by kernel_rfl
def c_cmp_Compare_string : AFn := ⟨20, [.t 4], (.seq (.region [oP 4 (.mv (kI 0))]) (.seq (.region [oM 7 0, oC 8 254 [(.t 7)], oM 5 8]) (.seq (.region [oM 9 1, oC 10 254 [(.t 9)], oM 6 10]) (.seq (.seq (.region [oM 11 5]) (.cond (.t 11) (.seq (.seq (.region [oM 12 6]) (.cond (.t 12) (.seq (.region [oP 4 (.mv (kI 0))]) .ret) .skip)) (.seq (.region [oP 4 (.mv (kI (-1)))]) .ret)) .skip)) (.seq (.seq (.region [oM 13 6]) (.cond (.t 13) (.seq (.region [oP 4 (.mv (kI 1))]) .ret) .skip)) (.seq (.seq (.region [oM 14 0, oM 15 1, oP 16 (.bin .lss (.t 14) (.t 15))]) (.cond (.t 16) (.seq (.region [oP 4 (.mv (kI (-1)))]) .ret) .skip)) (.seq (.seq (.region [oM 17 0, oM 18 1, oP 19 (.bin .gtr (.t 17) (.t 18))]) (.cond (.t 19) (.seq (.region [oP 4 (.mv (kI 1))]) .ret) .skip)) (.seq (.region [oP 4 (.mv (kI 0))]) .ret))))))))⟩
theorem c_cmp_Compare_string_ok : compFn Tryz.prog [] 184 = some c_cmp_Compare_string := by kernel_rfl
def c_impl_TableOk : AFn := ⟨68, [.t 2], (.seq (.region [oP 1 (.box true (.t 0)), oP 2 (.mv (.k (.bool false)))]) (.seq (.region [oP 4 (.faddr 1 (.t 1)), oP 5 (.load false 1 (.t 4)), oP 6 (.len false (.t 5)), oP 3 (.alloc [.int .i64 0]), ⟨none, .op (.store 1 (.t 3) (.t 6)), none⟩]) (.seq (.seq (.region [oP 7 (.faddr 0 (.t 1)), oP 8 (.load false 1 (.t 7)), oC 9 51 [(.t 8)], oP 10 (.un .not (.t 9)), oM 11 10, oF 12 (.faddr 1 (.t 1)) 11, oF 13 (.load false 1 (.t 12)) 11, ⟨some 14, .call (.f 261) [(.t 13)], (some (11, false))⟩, oF 15 (.un .not (.t 14)) 11, oP 16 (.pick (.t 11) (.k (.bool true)) (.t 15)), oM 17 16, oF 18 (.faddr 2 (.t 1)) 17, oF 19 (.load false 1 (.t 18)) 17, oF 20 (.load false 1 (.t 3)) 17, ⟨some 21, .call (.f 162) [(.t 19), (.t 20)], (some (17, false))⟩, oF 22 (.un .not (.t 21)) 17, oP 23 (.pick (.t 17) (.k (.bool true)) (.t 22)), oM 24 23, oF 25 (.faddr 3 (.t 1)) 24, oF 26 (.load false 1 (.t 25)) 24, oF 27 (.len false (.t 26)) 24, oF 28 (.bin .gtr (.t 27) (kI 3)) 24, oP 29 (.pick (.t 24) (.k (.bool true)) (.t 28)), oM 30 29, oF 31 (.faddr 4 (.t 1)) 30, oF 32 (.load false 1 (.t 31)) 30, oF 33 (.len false (.t 32)) 30, oF 34 (.bin .gtr (.t 33) (kI 3)) 30, oP 35 (.pick (.t 30) (.k (.bool true)) (.t 34)), oM 36 35, oF 37 (.faddr 5 (.t 1)) 36, oF 38 (.load false 1 (.t 37)) 36, oF 39 (.len false (.t 38)) 36, oF 40 (.bin .gtr (.t 39) (kI 3)) 36, oP 41 (.pick (.t 36) (.k (.bool true)) (.t 40))]) (.cond (.t 41) (.seq (.region [oP 2 (.mv (.k (.bool false)))]) .ret) .skip)) (.seq (.region [oP 42 (.faddr 2 (.t 1)), oP 43 (.load false 1 (.t 42)), oP 44 (.mkfn 263 [] [(.t 1)]), oC 45 262 [(.t 43), (.t 44)], oP 46 (.un .not (.t 45)), oM 47 46, oT 48 (.faddr 3 (.t 1)) 47, oT 49 (.load false 1 (.t 48)) 47, oT 50 (.mkfn 265 [] [(.t 3)]) 47, ⟨some 51, .call (.f 264) [(.t 49), (.t 50)], (some (47, true))⟩, oT 52 (.un .not (.t 51)) 47, oP 53 (.pick (.t 47) (.t 52) (.k (.bool false))), oM 54 53, oT 55 (.faddr 4 (.t 1)) 54, oT 56 (.load false 1 (.t 55)) 54, oT 57 (.mkfn 266 [] [(.t 3)]) 54, ⟨some 58, .call (.f 202) [(.t 56), (.t 57)], (some (54, true))⟩, oT 59 (.un .not (.t 58)) 54, oP 60 (.pick (.t 54) (.t 59) (.k (.bool false))), oM 61 60, oT 62 (.faddr 5 (.t 1)) 61, oT 63 (.load false 1 (.t 62)) 61, oT 64 (.mkfn 267 [] [(.t 3)]) 61, ⟨some 65, .call (.f 198) [(.t 63), (.t 64)], (some (61, true))⟩, oT 66 (.un .not (.t 65)) 61, oP 67 (.pick (.t 61) (.t 66) (.k (.bool false))), oM 2 67]) .ret))))⟩
theorem c_impl_TableOk_ok : compFn Tryz.prog [1] 195 = some c_impl_TableOk := by kernel_rfl
def c_slices_ContainsFunc_Table : AFn := ⟨9, [.t 4], (.seq (.region [oP 4 (.mv (.k (.bool false)))]) (.seq (.region [oM 5 0, oM 6 1, oC 7 98 [(.t 5), (.t 6)], oP 8 (.bin .geq (.t 7) (kI 0)), oM 4 8]) .ret))⟩
theorem c_slices_ContainsFunc_Table_ok : compFn Tryz.prog [] 196 = some c_slices_ContainsFunc_Table := by kernel_rfl
def c_impl_SchemaOk_1 : AFn := ⟨8, [.t 3], (.seq (.region [oP 2 (.box true (.t 0)), oP 3 (.mv (.k (.bool false)))]) (.seq (.region [oP 4 (.faddr 5 (.t 2)), oP 5 (.load false 1 (.t 4)), oP 6 (.mkfn 199 [] [(.t 1), (.t 2)]), oC 7 198 [(.t 5), (.t 6)], oM 3 7]) .ret))⟩
theorem c_impl_SchemaOk_1_ok : compFn Tryz.prog [2] 197 = some c_impl_SchemaOk_1 := by kernel_rfl
def c_slices_ContainsFunc_Fk : AFn := ⟨9, [.t 4], (.seq (.region [oP 4 (.mv (.k (.bool false)))]) (.seq (.region [oM 5 0, oM 6 1, oC 7 269 [(.t 5), (.t 6)], oP 8 (.bin .geq (.t 7) (kI 0)), oM 4 8]) .ret))⟩
theorem c_slices_ContainsFunc_Fk_ok : compFn Tryz.prog [] 198 = some c_slices_ContainsFunc_Fk := by kernel_rfl
def c_impl_SchemaOk_1_1 : AFn := ⟨10, [.t 4], (.seq (.region [oP 3 (.box true (.t 0)), oP 4 (.mv (.k (.bool false)))]) (.seq (.region [oP 5 (.load false 1 (.t 1)), oP 6 (.load true 6 (.t 2)), oP 7 (.load true 5 (.t 3)), oC 8 200 [(.t 5), (.t 6), (.t 7)], oP 9 (.un .not (.t 8)), oM 4 9]) .ret))⟩
theorem c_impl_SchemaOk_1_1_ok : compFn Tryz.prog [3] 199 = some c_impl_SchemaOk_1_1 := by kernel_rfl
def c_impl_isMet : AFn := ⟨60, [.t 6], (.seq (.region [oP 4 (.box true (.t 1)), oP 5 (.box true (.t 2)), oP 6 (.mv (.k (.bool false)))]) (.seq (.region [oM 10 0, oP 11 (.faddr 1 (.t 5)), oP 12 (.load false 1 (.t 11)), oC 13 29 [(.t 10), (.t 12)], oM 7 13]) (.seq (.seq (.draw [[oM 14 7], [oP 15 (.bin .lss (.t 14) (kI 0))], [oM 16 15], [oF 17 (.mv (.t 0)) 16, oF 18 (.mv (.t 7)) 16, oF 19 (.iaddr 6 (.t 17) (.t 18)) 16, oF 20 (.faddr 2 (.t 19)) 16, oF 21 (.load false 1 (.t 20)) 16, oF 22 (.len false (.t 21)) 16, oF 23 (.faddr 0 (.t 5)) 16, oF 24 (.load false 1 (.t 23)) 16, oF 25 (.len false (.t 24)) 16], [oF 26 (.bin .neq (.t 22) (.t 25)) 16], [oP 27 (.pick (.t 16) (.k (.bool true)) (.t 26))]]) (.cond (.t 27) (.seq (.region [oP 6 (.mv (.k (.bool false)))]) .ret) .skip)) (.seq (.seq (.region [oP 28 (.faddr 0 (.t 5)), oP 29 (.load false 1 (.t 28)), oP 30 (.len false (.t 29)), oP 31 (.mv (kI 0))]) (.block 0 (.loop (.seq (.region [oP 32 (.bin .lss (.t 31) (.t 30))]) (.seq (.cond (.t 32) .skip (.exit 0)) (.seq (.block 1 (.seq (.region [oM 33 31, oP 34 (.iaddr 1 (.t 29) (.t 31)), oP 35 (.load false 1 (.t 34)), oM 8 33, oM 9 35]) (.seq (.draw [[oM 36 0, oM 37 7, oP 38 (.iaddr 6 (.t 36) (.t 37)), oP 39 (.faddr 1 (.t 38)), oP 40 (.load false 1 (.t 39)), oM 41 0, oM 42 7, oP 43 (.iaddr 6 (.t 41) (.t 42)), oP 44 (.faddr 2 (.t 43)), oP 45 (.load false 1 (.t 44)), oM 46 8, oP 47 (.iaddr 1 (.t 45) (.t 46)), oP 48 (.load false 1 (.t 47)), oP 49 (.iaddr 6 (.t 40) (.t 48)), oP 50 (.faddr 1 (.t 49)), oP 51 (.load false 1 (.t 50)), oP 52 (.faddr 1 (.t 4)), oP 53 (.load false 1 (.t 52)), oM 54 9, oP 55 (.iaddr 6 (.t 53) (.t 54)), oP 56 (.faddr 1 (.t 55)), oP 57 (.load false 1 (.t 56))], [oP 58 (.bin .neq (.t 51) (.t 57))]]) (.cond (.t 58) (.seq (.region [oP 6 (.mv (.k (.bool false)))]) .ret) .skip)))) (.region [oP 59 (.bin .add (.t 31) (kI 1)), oM 31 59]))))))) (.seq (.region [oP 6 (.mv (.k (.bool true)))]) .ret)))))⟩
theorem c_impl_isMet_ok : compFn Tryz.prog [4, 5] 200 = some c_impl_isMet := by kernel_rfl
def c_impl_fit : AFn := ⟨30, [.t 4], (.seq (.region [oP 2 (.box true (.t 0)), oP 4 (.mv (.k (.bool false)))]) (.seq (.seq (.region [oM 7 1, oP 8 (.len false (.t 7)), oP 9 (.faddr 1 (.t 2)), oP 10 (.load false 1 (.t 9)), oP 11 (.len false (.t 10)), oP 12 (.bin .neq (.t 8) (.t 11))]) (.cond (.t 12) (.seq (.region [oP 4 (.mv (.k (.bool false)))]) .ret) .skip)) (.seq (.seq (.region [oM 13 1, oP 14 (.len false (.t 13)), oP 15 (.mv (kI 0))]) (.block 0 (.loop (.seq (.region [oP 16 (.bin .lss (.t 15) (.t 14))]) (.seq (.cond (.t 16) .skip (.exit 0)) (.seq (.block 1 (.seq (.region [oM 17 15, oP 18 (.iaddr 3 (.t 13) (.t 15)), oP 19 (.load true 3 (.t 18)), oP 6 (.alloc [.int .i64 0, .int .i64 0, .str []]), oM 5 17, ⟨none, .op (.store 3 (.t 6) (.t 19)), none⟩]) (.seq (.draw [[oP 20 (.load true 3 (.t 6)), oP 21 (.faddr 1 (.t 2)), oP 22 (.load false 1 (.t 21)), oM 23 5, oP 24 (.iaddr 6 (.t 22) (.t 23)), oP 25 (.faddr 1 (.t 24)), oP 26 (.load false 1 (.t 25))], [oC 27 270 [(.t 20), (.t 26)]], [oP 28 (.un .not (.t 27))]]) (.cond (.t 28) (.seq (.region [oP 4 (.mv (.k (.bool false)))]) .ret) .skip)))) (.region [oP 29 (.bin .add (.t 15) (kI 1)), oM 15 29]))))))) (.seq (.region [oP 4 (.mv (.k (.bool true)))]) .ret))))⟩
theorem c_impl_fit_ok : compFn Tryz.prog [2] 201 = some c_impl_fit := by kernel_rfl
def c_slices_ContainsFunc_Check : AFn := ⟨9, [.t 4], (.seq (.region [oP 4 (.mv (.k (.bool false)))]) (.seq (.region [oM 5 0, oM 6 1, oC 7 271 [(.t 5), (.t 6)], oP 8 (.bin .geq (.t 7) (kI 0)), oM 4 8]) .ret))⟩
theorem c_slices_ContainsFunc_Check_ok : compFn Tryz.prog [] 202 = some c_slices_ContainsFunc_Check := by kernel_rfl
def c_spec_l1Rd_next : AFn := ⟨32, [.t 2], (.seq (.region [oP 2 (.mv (kI 0))]) (.seq (.seq (.draw [[oM 3 0, oP 4 (.nilc (.t 3)), oP 5 (.faddr 1 (.t 4)), oP 6 (.load false 1 (.t 5)), oM 7 0, oP 8 (.nilc (.t 7)), oP 9 (.faddr 0 (.t 8)), oP 10 (.load false 1 (.t 9)), oP 11 (.len false (.t 10))], [oP 12 (.bin .geq (.t 6) (.t 11))]]) (.cond (.t 12) (.seq (.region [oP 2 (.mv (kI 0))]) .ret) .skip)) (.seq (.region [oM 13 0, oP 14 (.nilc (.t 13)), oP 15 (.faddr 1 (.t 14)), oP 16 (.load false 1 (.t 15)), oP 17 (.bin .add (.t 16) (kI 1)), oP 18 (.nilc (.t 13)), oP 19 (.faddr 1 (.t 18)), ⟨none, .op (.store 1 (.t 19) (.t 17)), none⟩]) (.seq (.draw [[oM 20 0, oP 21 (.nilc (.t 20)), oP 22 (.faddr 0 (.t 21)), oP 23 (.load false 1 (.t 22)), oM 24 0, oP 25 (.nilc (.t 24)), oP 26 (.faddr 1 (.t 25)), oP 27 (.load false 1 (.t 26)), oP 28 (.bin .sub (.t 27) (kI 1))], [oP 29 (.iaddr 1 (.t 23) (.t 28))], [oP 30 (.load false 1 (.t 29))], [oP 31 (.conv .i64 (.t 30))], [oM 2 31]]) .ret))))⟩
theorem c_spec_l1Rd_next_ok : compFn Tryz.prog [] 222 = some c_spec_l1Rd_next := by kernel_rfl
def c_spec_l1Rd_near : AFn := ⟨31, [.t 6], (.seq (.region [oP 6 (.mv (kI 0))]) (.seq (.seq (.region [oM 7 0, oC 8 155 [(.t 7), (kI 8)]]) (.block 0 (.seq (.region [oP 10 (.bin .eql (.t 8) (kI 0)), oM 9 10]) (.cond (.t 9) (.seq (.region [oM 11 1, oM 6 11]) .ret) (.seq (.region [oP 13 (.bin .eql (.t 8) (kI 1)), oM 12 13]) (.cond (.t 12) (.seq (.region [oM 14 2, oM 6 14]) .ret) .skip)))))) (.seq (.seq (.region [oM 15 2, oM 16 1, oP 17 (.bin .lss (.t 15) (.t 16))]) (.cond (.t 17) (.seq (.region [oM 18 1, oM 6 18]) .ret) .skip)) (.seq (.region [oM 19 1, oM 20 0, oC 21 275 [(.t 20)], oP 22 (.bin .shr (.t 21) (.k (.int .u64 1))), oM 23 2, oM 24 1, oP 25 (.bin .sub (.t 23) (.t 24)), oP 26 (.bin .add (.t 25) (kI 1)), oP 27 (.conv .u64 (.t 26)), oP 28 (.bin .rem (.t 22) (.t 27)), oP 29 (.conv .i64 (.t 28)), oP 30 (.bin .add (.t 19) (.t 29)), oM 6 30]) .ret))))⟩
theorem c_spec_l1Rd_near_ok : compFn Tryz.prog [] 223 = some c_spec_l1Rd_near := by kernel_rfl
def c_spec_l1Str : AFn := ⟨5, [.m 2 true 3], (.seq (.region [oP 2 (.alloc [.int .i64 0, .int .i64 0, .str []])]) (.seq (.region [oM 3 0, oP 4 (.build [.int .i64 0, .int .i64 0, .str []] [(0, 1, (kI 2)), (2, 1, (.t 3))]), ⟨none, .op (.store 3 (.t 2) (.t 4)), none⟩]) .ret))⟩
theorem c_spec_l1Str_ok : compFn Tryz.prog [] 224 = some c_spec_l1Str := by kernel_rfl
def c_spec_l1Rd_val : AFn := ⟨29, [.m 2 true 3], (.seq (.region [oP 2 (.alloc [.int .i64 0, .int .i64 0, .str []])]) (.seq (.seq (.region [oM 3 0, oC 4 155 [(.t 3), (kI 12)]]) (.block 0 (.seq (.seq (.region [oP 6 (.bin .eql (.t 4) (kI 0)), oM 5 6]) (.cond (.t 5) .skip (.region [oP 7 (.bin .eql (.t 4) (kI 1)), oM 5 7]))) (.cond (.t 5) (.seq (.region [oP 8 (.build [.int .i64 0, .int .i64 0, .str []] []), ⟨none, .op (.store 3 (.t 2) (.t 8)), none⟩]) .ret) (.seq (.seq (.region [oP 10 (.bin .eql (.t 4) (kI 2)), oM 9 10]) (.cond (.t 9) .skip (.region [oP 11 (.bin .eql (.t 4) (kI 3)), oM 9 11]))) (.cond (.t 9) (.seq (.region [oP 12 (.mksl true 1 6 [.str []] [(0, (.k (.str []))), (1, (.k (.str [97]))), (2, (.k (.str [98]))), (3, (.k (.str [97, 32, 98]))), (4, (.k (.str [105, 116, 39, 115]))), (5, (.k (.str [120, 44, 37])))]), oM 13 0, oC 14 155 [(.t 13), (kI 6)], oP 15 (.iaddr 1 (.t 12) (.t 14)), oP 16 (.load false 1 (.t 15)), oC 17 224 [(.t 16)], ⟨none, .op (.store 3 (.t 2) (.t 17)), none⟩]) .ret) (.seq (.region [oP 19 (.bin .eql (.t 4) (kI 4)), oM 18 19]) (.cond (.t 18) (.seq (.region [oP 20 (.mksl true 1 4 [.int .i64 0] [(0, (kI (-1000000000))), (1, (kI 1000000000)), (2, (kI (-5))), (3, (kI 70))]), oM 21 0, oC 22 155 [(.t 21), (kI 4)], oP 23 (.iaddr 1 (.t 20) (.t 22)), oP 24 (.load false 1 (.t 23)), oC 25 150 [(.t 24)], ⟨none, .op (.store 3 (.t 2) (.t 25)), none⟩]) .ret) .skip)))))))) (.seq (.region [oM 26 0, oC 27 155 [(.t 26), (kI 5)], oC 28 150 [(.t 27)], ⟨none, .op (.store 3 (.t 2) (.t 28)), none⟩]) .ret)))⟩
theorem c_spec_l1Rd_val_ok : compFn Tryz.prog [12, 20] 225 = some c_spec_l1Rd_val := by kernel_rfl
def c_spec_l6Ok : AFn := ⟨17, [.t 6], (.seq (.region [oP 6 (.mv (.k (.bool false)))]) (.seq (.region [oM 7 0, oM 8 1, oC 9 85 [(.t 7), (.t 8)], oM 10 9, oT 11 (.mv (.t 2)) 10, oT 12 (.mv (.t 0)) 10, oT 13 (.len false (.t 12)) 10, oT 14 (.bin .sub (.t 13) (kI 1)) 10, ⟨some 15, .call (.f 173) [(.t 11), (kI 0), (.t 14)], (some (10, true))⟩, oP 16 (.pick (.t 10) (.t 15) (.k (.bool false))), oM 6 16]) .ret))⟩
theorem c_spec_l6Ok_ok : compFn Tryz.prog [] 226 = some c_spec_l6Ok := by kernel_rfl
def c_spec_l4Kinds : AFn := ⟨46, [.t 4], (.seq (.region [oP 2 (.box true (.t 0)), oP 4 (.mv (.k (.bool false)))]) (.seq (.seq (.region [oM 6 1, oP 7 (.len false (.t 6)), oP 8 (.faddr 1 (.t 2)), oP 9 (.load false 1 (.t 8)), oP 10 (.len false (.t 9)), oP 11 (.bin .neq (.t 7) (.t 10))]) (.cond (.t 11) (.seq (.region [oP 4 (.mv (.k (.bool false)))]) .ret) .skip)) (.seq (.seq (.region [oP 5 (.mv (kI 0))]) (.block 0 (.loop (.seq (.seq (.region [oM 12 5, oM 13 1, oP 14 (.len false (.t 13)), oP 15 (.bin .lss (.t 12) (.t 14))]) (.cond (.t 15) .skip (.exit 0))) (.seq (.block 1 (.seq (.draw [[oM 18 1, oM 19 5], [oP 20 (.iaddr 3 (.t 18) (.t 19))], [oP 21 (.load true 3 (.t 20))], [oC 22 253 [(.t 21)]], [oP 23 (.un .not (.t 22))], [oM 24 23], [oF 25 (.mv (.t 1)) 24, oF 26 (.mv (.t 5)) 24], [oF 27 (.iaddr 3 (.t 25) (.t 26)) 24], [oF 28 (.faddr 0 (.t 27)) 24], [oF 29 (.load false 1 (.t 28)) 24], [oF 30 (.bin .neq (.t 29) (kI 0)) 24], [oF 31 (.mv (.t 30)) 24], [oT 32 (.mv (.t 1)) 31, oT 33 (.mv (.t 5)) 31, oT 34 (.iaddr 3 (.t 32) (.t 33)) 31, oT 35 (.faddr 0 (.t 34)) 31, oT 36 (.load false 1 (.t 35)) 31, oT 37 (.faddr 1 (.t 2)) 31, oT 38 (.load false 1 (.t 37)) 31, oT 39 (.mv (.t 5)) 31, oT 40 (.iaddr 6 (.t 38) (.t 39)) 31, oT 41 (.faddr 1 (.t 40)) 31, oT 42 (.load false 1 (.t 41)) 31], [oT 43 (.bin .neq (.t 36) (.t 42)) 31], [oF 44 (.pick (.t 31) (.t 43) (.k (.bool false))) 24], [oP 45 (.pick (.t 24) (.k (.bool true)) (.t 44))]]) (.cond (.t 45) (.seq (.region [oP 4 (.mv (.k (.bool false)))]) .ret) .skip))) (.region [oM 16 5, oP 17 (.bin .add (.t 16) (kI 1)), oM 5 17])))))) (.seq (.region [oP 4 (.mv (.k (.bool true)))]) .ret))))⟩
theorem c_spec_l4Kinds_ok : compFn Tryz.prog [2] 227 = some c_spec_l4Kinds := by kernel_rfl
def c_spec_l6Insert : AFn := ⟨81, [.t 10, .t 11, .t 12], (.seq (.region [oP 10 (.mv (.k (.nils))), oP 11 (.mv (kI 0)), oP 12 (.mv (kI 0))]) (.seq (.region [oM 16 0, oM 17 2, oP 18 (.iaddr 6 (.t 16) (.t 17)), oP 19 (.load true 6 (.t 18)), oP 13 (.alloc [.str [], .nils, .nils, .nils, .nils, .nils]), ⟨none, .op (.store 6 (.t 13) (.t 19)), none⟩]) (.seq (.seq (.region [oM 20 4]) (.cond (.t 20) (.region [oP 21 (.load true 6 (.t 13)), oM 22 3, oC 23 276 [(.t 21), (.t 22)], oM 3 23]) .skip)) (.seq (.region [oP 24 (.load true 6 (.t 13)), oM 25 3, oC 26 277 [(.t 24), (.t 25)], oM 14 26]) (.seq (.seq (.region [oM 27 14, oP 28 (.bin .neq (.t 27) (kI 0))]) (.cond (.t 28) (.seq (.region [oM 29 14, oP 10 (.mv (.k (.nils))), oP 11 (.mv (kI 0)), oM 12 29]) .ret) .skip)) (.seq (.region [oM 30 1, oM 31 2, oP 32 (.iaddr 1 (.t 30) (.t 31)), oP 33 (.load true 1 (.t 32)), oC 34 278 [(.t 33)], oM 35 3, oC 36 279 [(.t 35)], oP 37 (.build [.int .i64 0, .nils] [(0, 1, (.t 34)), (1, 1, (.t 36))]), oP 15 (.alloc [.int .i64 0, .nils]), ⟨none, .op (.store 2 (.t 15) (.t 37)), none⟩]) (.seq (.region [oM 39 0, oM 40 1, oM 41 2, oP 42 (.load true 2 (.t 15)), oM 43 4, oC 44 280 [(.t 39), (.t 40), (.t 41), (.t 42), (.t 43), (kI 0)], oM 38 44, oP 45 (.ext (.t 38) 0), oP 46 (.ext (.t 38) 1), oM 1 45, oM 14 46]) (.seq (.seq (.region [oM 47 14, oP 48 (.bin .neq (.t 47) (kI 0))]) (.cond (.t 48) (.seq (.region [oM 49 14, oP 10 (.mv (.k (.nils))), oP 11 (.mv (kI 0)), oM 12 49]) .ret) .skip)) (.seq (.seq (.region [oM 50 1, oM 51 2, oP 52 (.iaddr 1 (.t 50) (.t 51)), oP 53 (.faddr 0 (.t 52)), oP 54 (.load false 1 (.t 53)), oP 55 (.len false (.t 54)), oP 56 (.bin .eql (.t 55) (kI 60)), oM 57 56, oF 58 (.faddr 0 (.t 15)) 57, oF 59 (.load false 1 (.t 58)) 57, oF 60 (.bin .gtr (.t 59) (kI 1000000000)) 57, oP 61 (.pick (.t 57) (.k (.bool true)) (.t 60))]) (.cond (.t 61) (.seq (.region [oP 10 (.mv (.k (.nils))), oP 11 (.mv (kI 0)), oP 12 (.mv (kI 7))]) .ret) .skip)) (.seq (.draw [[oM 62 1, oM 63 2, oM 64 1, oM 65 2, oP 66 (.iaddr 1 (.t 64) (.t 65)), oP 67 (.load true 1 (.t 66)), oP 68 (.load true 2 (.t 15)), oC 69 282 [(.t 67), (.t 68)]], [oC 70 281 [(.t 62), (.t 63), (.t 69)]], [oM 1 70]]) (.seq (.seq (.region [oM 71 0, oM 72 1, oM 73 2, oP 74 (.faddr 1 (.t 15)), oP 75 (.load false 1 (.t 74)), oC 76 283 [(.t 71), (.t 72), (.t 73), (.t 75), (.k (.bool true))], oP 77 (.un .not (.t 76))]) (.cond (.t 77) (.seq (.region [oP 10 (.mv (.k (.nils))), oP 11 (.mv (kI 0)), oP 12 (.mv (kI 5))]) .ret) .skip)) (.seq (.draw [[oM 78 1, oP 79 (.faddr 0 (.t 15)), oP 80 (.load false 1 (.t 79)), oM 10 78], [oM 11 80], [oP 12 (.mv (kI 0))]]) .ret))))))))))))⟩
theorem c_spec_l6Insert_ok : compFn Tryz.prog [] 228 = some c_spec_l6Insert := by kernel_rfl
def c_spec_l4Copy : AFn := ⟨56, [.t 2], (.seq (.region [oP 2 (.mv (.k (.nils)))]) (.seq (.region [oM 7 0, oP 8 (.len false (.t 7)), oP 9 (.mkslice 1 24 [.nils] (.t 8) (.t 8)), oM 3 9]) (.seq (.seq (.region [oP 4 (.mv (kI 0))]) (.block 0 (.loop (.seq (.seq (.region [oM 10 4, oM 11 0, oP 12 (.len false (.t 11)), oP 13 (.bin .lss (.t 10) (.t 12))]) (.cond (.t 13) .skip (.exit 0))) (.seq (.block 1 (.seq (.region [oP 16 (.mksl false 2 0 [.int .i64 0, .nils] []), oM 5 16]) (.seq (.seq (.region [oP 6 (.mv (kI 0))]) (.block 2 (.loop (.seq (.seq (.region [oM 17 6, oM 18 0, oM 19 4, oP 20 (.iaddr 1 (.t 18) (.t 19)), oP 21 (.faddr 0 (.t 20)), oP 22 (.load false 1 (.t 21)), oP 23 (.len false (.t 22)), oP 24 (.bin .lss (.t 17) (.t 23))]) (.cond (.t 24) .skip (.exit 2))) (.seq (.block 3 (.draw [[oM 27 5, oM 28 0, oM 29 4, oP 30 (.iaddr 1 (.t 28) (.t 29)), oP 31 (.faddr 0 (.t 30)), oP 32 (.load false 1 (.t 31)), oM 33 6, oP 34 (.iaddr 2 (.t 32) (.t 33)), oP 35 (.faddr 0 (.t 34)), oP 36 (.load false 1 (.t 35)), oM 37 0, oM 38 4, oP 39 (.iaddr 1 (.t 37) (.t 38)), oP 40 (.faddr 0 (.t 39)), oP 41 (.load false 1 (.t 40)), oM 42 6, oP 43 (.iaddr 2 (.t 41) (.t 42)), oP 44 (.faddr 1 (.t 43)), oP 45 (.load false 1 (.t 44)), oC 46 279 [(.t 45)], oP 47 (.build [.int .i64 0, .nils] [(0, 1, (.t 36)), (1, 1, (.t 46))]), oP 48 (.mksl true 2 1 [.int .i64 0, .nils] [(0, (.t 47))])], [oP 49 (.app 2 32 (.t 27) (.t 48))], [oM 5 49]])) (.region [oM 25 6, oP 26 (.bin .add (.t 25) (kI 1)), oM 6 26])))))) (.region [oM 50 3, oM 51 4, oM 52 5, oP 53 (.build [.nils] [(0, 1, (.t 52))]), oP 54 (.iaddr 1 (.t 50) (.t 51)), ⟨none, .op (.store 1 (.t 54) (.t 53)), none⟩])))) (.region [oM 14 4, oP 15 (.bin .add (.t 14) (kI 1)), oM 4 15])))))) (.seq (.region [oM 55 3, oM 2 55]) .ret))))⟩
theorem c_spec_l4Copy_ok : compFn Tryz.prog [48] 229 = some c_spec_l4Copy := by kernel_rfl
def c_slices_ContainsFunc_Term : AFn := ⟨9, [.t 4], (.seq (.region [oP 4 (.mv (.k (.bool false)))]) (.seq (.region [oM 5 0, oM 6 1, oC 7 284 [(.t 5), (.t 6)], oP 8 (.bin .geq (.t 7) (kI 0)), oM 4 8]) .ret))⟩
theorem c_slices_ContainsFunc_Term_ok : compFn Tryz.prog [] 230 = some c_slices_ContainsFunc_Term := by kernel_rfl
def c_impl_areTerms_1 : AFn := ⟨9, [.t 3], (.seq (.region [oP 2 (.box true (.t 0)), oP 3 (.mv (.k (.bool false)))]) (.seq (.region [oP 4 (.faddr 0 (.t 2)), oP 5 (.load false 1 (.t 4)), oP 6 (.load false 1 (.t 1)), oC 7 169 [(.t 5), (.t 6)], oP 8 (.un .not (.t 7)), oM 3 8]) .ret))⟩
theorem c_impl_areTerms_1_ok : compFn Tryz.prog [2] 231 = some c_impl_areTerms_1 := by kernel_rfl
def c_impl_truth : AFn := ⟨13, [.t 2], (.seq (.region [oP 1 (.box true (.t 0)), oP 2 (.mv (kI 0))]) (.seq (.seq (.region [oP 3 (.faddr 0 (.t 1)), oP 4 (.load false 1 (.t 3))]) (.block 0 (.seq (.region [oP 6 (.bin .eql (.t 4) (kI 0)), oM 5 6]) (.cond (.t 5) (.seq (.region [oP 2 (.mv (kI 2))]) .ret) (.seq (.region [oP 8 (.bin .eql (.t 4) (kI 1)), oM 7 8]) (.cond (.t 7) (.seq (.region [oP 9 (.faddr 1 (.t 1)), oP 10 (.load false 1 (.t 9)), oP 11 (.bin .neq (.t 10) (kI 0)), oC 12 242 [(.t 11)], oM 2 12]) .ret) .skip)))))) (.seq (.region [oP 2 (.mv (kI (-1)))]) .ret)))⟩
theorem c_impl_truth_ok : compFn Tryz.prog [1] 232 = some c_impl_truth := by kernel_rfl
def c_slices_insertionSortCmpFunc_Row : AFn := ⟨53, [], (.seq (.region [oM 10 1, oP 11 (.bin .add (.t 10) (kI 1)), oM 8 11]) (.block 0 (.loop (.seq (.seq (.region [oM 12 8, oM 13 2, oP 14 (.bin .lss (.t 12) (.t 13))]) (.cond (.t 14) .skip (.exit 0))) (.seq (.block 1 (.seq (.region [oM 17 8, oM 9 17]) (.block 2 (.loop (.seq (.seq (.draw [[oM 18 9, oM 19 1], [oP 20 (.bin .gtr (.t 18) (.t 19))], [oM 21 20], [oT 22 (.mv (.t 3)) 21, oT 23 (.mv (.t 0)) 21, oT 24 (.mv (.t 9)) 21, oT 25 (.iaddr 2 (.t 23) (.t 24)) 21, oT 26 (.load true 2 (.t 25)) 21, oT 27 (.mv (.t 0)) 21, oT 28 (.mv (.t 9)) 21, oT 29 (.bin .sub (.t 28) (kI 1)) 21, oT 30 (.iaddr 2 (.t 27) (.t 29)) 21, oT 31 (.load true 2 (.t 30)) 21], [⟨some 32, .call (.t 22) [(.t 26), (.t 31)], (some (21, true))⟩], [oT 33 (.bin .lss (.t 32) (kI 0)) 21], [oP 34 (.pick (.t 21) (.t 33) (.k (.bool false)))]]) (.cond (.t 34) .skip (.exit 2))) (.seq (.block 3 (.draw [[oM 37 0, oM 38 9, oM 39 0, oM 40 9, oP 41 (.bin .sub (.t 40) (kI 1)), oM 42 0, oM 43 9, oP 44 (.bin .sub (.t 43) (kI 1)), oP 45 (.iaddr 2 (.t 42) (.t 44)), oP 46 (.load true 2 (.t 45)), oM 47 0, oM 48 9, oP 49 (.iaddr 2 (.t 47) (.t 48)), oP 50 (.load true 2 (.t 49)), oP 51 (.iaddr 2 (.t 37) (.t 38)), ⟨none, .op (.store 2 (.t 51) (.t 46)), none⟩], [oP 52 (.iaddr 2 (.t 39) (.t 41))], [⟨none, .op (.store 2 (.t 52) (.t 50)), none⟩]])) (.region [oM 35 9, oP 36 (.bin .sub (.t 35) (kI 1)), oM 9 36]))))))) (.region [oM 15 8, oP 16 (.bin .add (.t 15) (kI 1)), oM 8 16]))))))⟩
theorem c_slices_insertionSortCmpFunc_Row_ok : compFn Tryz.prog [] 233 = some c_slices_insertionSortCmpFunc_Row := by kernel_rfl
def c_slices_symMergeCmpFunc_Row : AFn := ⟨220, [], (.seq (.seq (.region [oM 25 2, oM 26 1, oP 27 (.bin .sub (.t 25) (.t 26)), oP 28 (.bin .eql (.t 27) (kI 1))]) (.cond (.t 28) (.seq (.region [oM 29 2, oM 10 29]) (.seq (.region [oM 30 3, oM 11 30]) (.seq (.block 0 (.loop (.seq (.seq (.region [oM 31 10, oM 32 11, oP 33 (.bin .lss (.t 31) (.t 32))]) (.cond (.t 33) .skip (.exit 0))) (.block 1 (.seq (.region [oM 34 10, oM 35 11, oP 36 (.bin .add (.t 34) (.t 35)), oP 37 (.conv .u64 (.t 36)), oP 38 (.bin .shr (.t 37) (.k (.int .u64 1))), oP 39 (.conv .i64 (.t 38)), oM 12 39]) (.seq (.draw [[oM 40 4, oM 41 0, oM 42 12, oP 43 (.iaddr 2 (.t 41) (.t 42)), oP 44 (.load true 2 (.t 43)), oM 45 0, oM 46 1, oP 47 (.iaddr 2 (.t 45) (.t 46)), oP 48 (.load true 2 (.t 47))], [⟨some 49, .call (.t 40) [(.t 44), (.t 48)], none⟩], [oP 50 (.bin .lss (.t 49) (kI 0))]]) (.cond (.t 50) (.region [oM 51 12, oP 52 (.bin .add (.t 51) (kI 1)), oM 10 52]) (.region [oM 53 12, oM 11 53])))))))) (.seq (.seq (.region [oM 54 1, oM 13 54]) (.block 2 (.loop (.seq (.seq (.region [oM 55 13, oM 56 10, oP 57 (.bin .sub (.t 56) (kI 1)), oP 58 (.bin .lss (.t 55) (.t 57))]) (.cond (.t 58) .skip (.exit 2))) (.seq (.block 3 (.draw [[oM 61 0, oM 62 13, oM 63 0, oM 64 13, oP 65 (.bin .add (.t 64) (kI 1)), oM 66 0, oM 67 13, oP 68 (.bin .add (.t 67) (kI 1)), oP 69 (.iaddr 2 (.t 66) (.t 68)), oP 70 (.load true 2 (.t 69)), oM 71 0, oM 72 13, oP 73 (.iaddr 2 (.t 71) (.t 72)), oP 74 (.load true 2 (.t 73)), oP 75 (.iaddr 2 (.t 61) (.t 62)), ⟨none, .op (.store 2 (.t 75) (.t 70)), none⟩], [oP 76 (.iaddr 2 (.t 63) (.t 65))], [⟨none, .op (.store 2 (.t 76) (.t 74)), none⟩]])) (.region [oM 59 13, oP 60 (.bin .add (.t 59) (kI 1)), oM 13 60])))))) .ret)))) .skip)) (.seq (.seq (.region [oM 77 3, oM 78 2, oP 79 (.bin .sub (.t 77) (.t 78)), oP 80 (.bin .eql (.t 79) (kI 1))]) (.cond (.t 80) (.seq (.region [oM 81 1, oM 14 81]) (.seq (.region [oM 82 2, oM 15 82]) (.seq (.block 4 (.loop (.seq (.seq (.region [oM 83 14, oM 84 15, oP 85 (.bin .lss (.t 83) (.t 84))]) (.cond (.t 85) .skip (.exit 4))) (.block 5 (.seq (.region [oM 86 14, oM 87 15, oP 88 (.bin .add (.t 86) (.t 87)), oP 89 (.conv .u64 (.t 88)), oP 90 (.bin .shr (.t 89) (.k (.int .u64 1))), oP 91 (.conv .i64 (.t 90)), oM 16 91]) (.seq (.draw [[oM 92 4, oM 93 0, oM 94 2, oP 95 (.iaddr 2 (.t 93) (.t 94)), oP 96 (.load true 2 (.t 95)), oM 97 0, oM 98 16, oP 99 (.iaddr 2 (.t 97) (.t 98)), oP 100 (.load true 2 (.t 99))], [⟨some 101, .call (.t 92) [(.t 96), (.t 100)], none⟩], [oP 102 (.bin .lss (.t 101) (kI 0))], [oP 103 (.un .not (.t 102))]]) (.cond (.t 103) (.region [oM 104 16, oP 105 (.bin .add (.t 104) (kI 1)), oM 14 105]) (.region [oM 106 16, oM 15 106])))))))) (.seq (.seq (.region [oM 107 2, oM 17 107]) (.block 6 (.loop (.seq (.seq (.region [oM 108 17, oM 109 14, oP 110 (.bin .gtr (.t 108) (.t 109))]) (.cond (.t 110) .skip (.exit 6))) (.seq (.block 7 (.draw [[oM 113 0, oM 114 17, oM 115 0, oM 116 17, oP 117 (.bin .sub (.t 116) (kI 1)), oM 118 0, oM 119 17, oP 120 (.bin .sub (.t 119) (kI 1)), oP 121 (.iaddr 2 (.t 118) (.t 120)), oP 122 (.load true 2 (.t 121)), oM 123 0, oM 124 17, oP 125 (.iaddr 2 (.t 123) (.t 124)), oP 126 (.load true 2 (.t 125)), oP 127 (.iaddr 2 (.t 113) (.t 114)), ⟨none, .op (.store 2 (.t 127) (.t 122)), none⟩], [oP 128 (.iaddr 2 (.t 115) (.t 117))], [⟨none, .op (.store 2 (.t 128) (.t 126)), none⟩]])) (.region [oM 111 17, oP 112 (.bin .sub (.t 111) (kI 1)), oM 17 112])))))) .ret)))) .skip)) (.seq (.region [oM 129 1, oM 130 3, oP 131 (.bin .add (.t 129) (.t 130)), oP 132 (.conv .u64 (.t 131)), oP 133 (.bin .shr (.t 132) (.k (.int .u64 1))), oP 134 (.conv .i64 (.t 133)), oM 18 134]) (.seq (.region [oM 135 18, oM 136 2, oP 137 (.bin .add (.t 135) (.t 136)), oM 19 137]) (.seq (.region [oP 20 (.mv (kI 0)), oP 21 (.mv (kI 0))]) (.seq (.seq (.region [oM 138 2, oM 139 18, oP 140 (.bin .gtr (.t 138) (.t 139))]) (.cond (.t 140) (.seq (.region [oM 141 19, oM 142 3, oP 143 (.bin .sub (.t 141) (.t 142)), oM 20 143]) (.region [oM 144 18, oM 21 144])) (.seq (.region [oM 145 1, oM 20 145]) (.region [oM 146 2, oM 21 146])))) (.seq (.region [oM 147 19, oP 148 (.bin .sub (.t 147) (kI 1)), oM 22 148]) (.seq (.block 8 (.loop (.seq (.seq (.region [oM 149 20, oM 150 21, oP 151 (.bin .lss (.t 149) (.t 150))]) (.cond (.t 151) .skip (.exit 8))) (.block 9 (.seq (.region [oM 152 20, oM 153 21, oP 154 (.bin .add (.t 152) (.t 153)), oP 155 (.conv .u64 (.t 154)), oP 156 (.bin .shr (.t 155) (.k (.int .u64 1))), oP 157 (.conv .i64 (.t 156)), oM 23 157]) (.seq (.draw [[oM 158 4, oM 159 0, oM 160 22, oM 161 23, oP 162 (.bin .sub (.t 160) (.t 161)), oP 163 (.iaddr 2 (.t 159) (.t 162)), oP 164 (.load true 2 (.t 163)), oM 165 0, oM 166 23, oP 167 (.iaddr 2 (.t 165) (.t 166)), oP 168 (.load true 2 (.t 167))], [⟨some 169, .call (.t 158) [(.t 164), (.t 168)], none⟩], [oP 170 (.bin .lss (.t 169) (kI 0))], [oP 171 (.un .not (.t 170))]]) (.cond (.t 171) (.region [oM 172 23, oP 173 (.bin .add (.t 172) (kI 1)), oM 20 173]) (.region [oM 174 23, oM 21 174])))))))) (.seq (.region [oM 175 19, oM 176 20, oP 177 (.bin .sub (.t 175) (.t 176)), oM 24 177]) (.seq (.seq (.region [oM 178 20, oM 179 2, oP 180 (.bin .lss (.t 178) (.t 179)), oM 181 180, oT 182 (.mv (.t 2)) 181, oT 183 (.mv (.t 24)) 181, oT 184 (.bin .lss (.t 182) (.t 183)) 181, oP 185 (.pick (.t 181) (.t 184) (.k (.bool false)))]) (.cond (.t 185) (.region [oM 186 0, oM 187 20, oM 188 2, oM 189 24, oM 190 4, oC 191 285 [(.t 186), (.t 187), (.t 188), (.t 189), (.t 190)]]) .skip)) (.seq (.seq (.region [oM 192 1, oM 193 20, oP 194 (.bin .lss (.t 192) (.t 193)), oM 195 194, oT 196 (.mv (.t 20)) 195, oT 197 (.mv (.t 18)) 195, oT 198 (.bin .lss (.t 196) (.t 197)) 195, oP 199 (.pick (.t 195) (.t 198) (.k (.bool false)))]) (.cond (.t 199) (.region [oM 200 0, oM 201 1, oM 202 20, oM 203 18, oM 204 4, oC 205 234 [(.t 200), (.t 201), (.t 202), (.t 203), (.t 204)]]) .skip)) (.seq (.region [oM 206 18, oM 207 24, oP 208 (.bin .lss (.t 206) (.t 207)), oM 209 208, oT 210 (.mv (.t 24)) 209, oT 211 (.mv (.t 3)) 209, oT 212 (.bin .lss (.t 210) (.t 211)) 209, oP 213 (.pick (.t 209) (.t 212) (.k (.bool false)))]) (.cond (.t 213) (.region [oM 214 0, oM 215 18, oM 216 24, oM 217 3, oM 218 4, oC 219 234 [(.t 214), (.t 215), (.t 216), (.t 217), (.t 218)]]) .skip)))))))))))))⟩
theorem c_slices_symMergeCmpFunc_Row_ok : compFn Tryz.prog [] 234 = some c_slices_symMergeCmpFunc_Row := by kernel_rfl
def c_impl_isTok : AFn := ⟨44, [.t 4], (.seq (.region [oP 2 (.box true (.t 0)), oP 4 (.mv (.k (.bool false)))]) (.seq (.seq (.region [oP 5 (.faddr 0 (.t 2)), oP 6 (.load false 1 (.t 5))]) (.block 0 (.seq (.region [oP 8 (.bin .eql (.t 6) (kI 1)), oM 7 8]) (.cond (.t 7) (.seq (.region [oP 9 (.faddr 1 (.t 2)), oP 10 (.load false 1 (.t 9)), oM 11 1, oP 12 (.bin .sub (.t 11) (kI 1)), oC 13 125 [(.t 10), (kI 0), (.t 12)], oM 14 13, oT 15 (.faddr 2 (.t 2)) 14, oT 16 (.load true 3 (.t 15)) 14, oT 17 (.build [.int .i64 0, .int .i64 0, .str []] []) 14, oT 18 (.eq false true [.i, .i, .s] (.t 16) (.t 17)) 14, oP 19 (.pick (.t 14) (.t 18) (.k (.bool false))), oM 4 19]) .ret) (.seq (.region [oP 21 (.bin .eql (.t 6) (kI 2)), oM 20 21]) (.cond (.t 20) (.seq (.region [oP 22 (.faddr 1 (.t 2)), oP 23 (.load false 1 (.t 22)), oP 24 (.bin .eql (.t 23) (kI 0)), oM 25 24, oT 26 (.faddr 2 (.t 2)) 25, oT 27 (.load true 3 (.t 26)) 25, ⟨some 28, .call (.f 94) [(.t 27)], (some (25, true))⟩, oP 29 (.pick (.t 25) (.t 28) (.k (.bool false))), oM 4 29]) .ret) .skip)))))) (.seq (.region [oP 30 (.faddr 0 (.t 2)), oP 31 (.load false 1 (.t 30)), oC 32 125 [(.t 31), (kI 3), (kI 10)], oM 33 32, oT 34 (.faddr 1 (.t 2)) 33, oT 35 (.load false 1 (.t 34)) 33, oT 36 (.bin .eql (.t 35) (kI 0)) 33, oP 37 (.pick (.t 33) (.t 36) (.k (.bool false))), oM 38 37, oT 39 (.faddr 2 (.t 2)) 38, oT 40 (.load true 3 (.t 39)) 38, oT 41 (.build [.int .i64 0, .int .i64 0, .str []] []) 38, oT 42 (.eq false true [.i, .i, .s] (.t 40) (.t 41)) 38, oP 43 (.pick (.t 38) (.t 42) (.k (.bool false))), oM 4 43]) .ret)))⟩
theorem c_impl_isTok_ok : compFn Tryz.prog [2] 235 = some c_impl_isTok := by kernel_rfl
def c_impl_valOf : AFn := ⟨11, [.m 2 true 3, .t 3], (.seq (.region [oP 2 (.alloc [.int .i64 0, .int .i64 0, .str []]), oP 3 (.mv (.k (.bool false)))]) (.seq (.seq (.region [oM 4 0, oP 5 (.bin .eql (.t 4) (kI 2))]) (.cond (.t 5) (.seq (.region [oP 6 (.build [.int .i64 0, .int .i64 0, .str []] []), ⟨none, .op (.store 3 (.t 2) (.t 6)), none⟩, oP 3 (.mv (.k (.bool true)))]) .ret) .skip)) (.seq (.region [oM 7 0, oP 8 (.build [.int .i64 0, .int .i64 0, .str []] [(0, 1, (kI 1)), (1, 1, (.t 7))]), oM 9 0, oP 10 (.bin .geq (.t 9) (kI 0)), ⟨none, .op (.store 3 (.t 2) (.t 8)), none⟩, oM 3 10]) .ret)))⟩
theorem c_impl_valOf_ok : compFn Tryz.prog [] 236 = some c_impl_valOf := by kernel_rfl
def c_impl_Equal3 : AFn := ⟨13, [.t 4], (.seq (.region [oP 2 (.box true (.t 0)), oP 3 (.box true (.t 1)), oP 4 (.mv (kI 0))]) (.seq (.seq (.region [oP 5 (.load true 3 (.t 2)), oP 6 (.load true 3 (.t 3)), oC 7 286 [(.t 5), (.t 6)], oP 8 (.un .not (.t 7))]) (.cond (.t 8) (.seq (.region [oP 4 (.mv (kI 2))]) .ret) .skip)) (.seq (.region [oP 9 (.load true 3 (.t 2)), oP 10 (.load true 3 (.t 3)), oP 11 (.eq false true [.i, .i, .s] (.t 9) (.t 10)), oC 12 242 [(.t 11)], oM 4 12]) .ret)))⟩
theorem c_impl_Equal3_ok : compFn Tryz.prog [2, 3] 237 = some c_impl_Equal3 := by kernel_rfl
def c_impl_Less3 : AFn := ⟨14, [.t 4], (.seq (.region [oP 2 (.box true (.t 0)), oP 3 (.box true (.t 1)), oP 4 (.mv (kI 0))]) (.seq (.seq (.region [oP 5 (.load true 3 (.t 2)), oP 6 (.load true 3 (.t 3)), oC 7 286 [(.t 5), (.t 6)], oP 8 (.un .not (.t 7))]) (.cond (.t 8) (.seq (.region [oP 4 (.mv (kI 2))]) .ret) .skip)) (.seq (.region [oP 9 (.load true 3 (.t 2)), oP 10 (.load true 3 (.t 3)), oC 11 95 [(.t 9), (.t 10)], oP 12 (.bin .lss (.t 11) (kI 0)), oC 13 242 [(.t 12)], oM 4 13]) .ret)))⟩
theorem c_impl_Less3_ok : compFn Tryz.prog [2, 3] 238 = some c_impl_Less3 := by kernel_rfl
def c_impl_And3 : AFn := ⟨25, [.t 4], (.seq (.region [oP 4 (.mv (kI 0))]) (.seq (.block 0 (.seq (.region [oM 6 0, oM 7 1, oP 8 (.mksl true 1 2 [.int .i64 0] [(0, (.t 6)), (1, (.t 7))]), oC 9 287 [(.t 8)], oP 10 (.un .not (.t 9)), oM 5 10]) (.cond (.t 5) (.seq (.region [oP 4 (.mv (kI (-1)))]) .ret) (.seq (.region [oM 12 0, oP 13 (.bin .eql (.t 12) (kI 0)), oM 14 13, oF 15 (.mv (.t 1)) 14, oF 16 (.bin .eql (.t 15) (kI 0)) 14, oP 17 (.pick (.t 14) (.k (.bool true)) (.t 16)), oM 11 17]) (.cond (.t 11) (.seq (.region [oP 4 (.mv (kI 0))]) .ret) (.seq (.region [oM 19 0, oP 20 (.bin .eql (.t 19) (kI 1)), oM 21 20, oT 22 (.mv (.t 1)) 21, oT 23 (.bin .eql (.t 22) (kI 1)) 21, oP 24 (.pick (.t 21) (.t 23) (.k (.bool false))), oM 18 24]) (.cond (.t 18) (.seq (.region [oP 4 (.mv (kI 1))]) .ret) .skip))))))) (.seq (.region [oP 4 (.mv (kI 2))]) .ret)))⟩
theorem c_impl_And3_ok : compFn Tryz.prog [8] 239 = some c_impl_And3 := by kernel_rfl
def c_impl_Or3 : AFn := ⟨25, [.t 4], (.seq (.region [oP 4 (.mv (kI 0))]) (.seq (.block 0 (.seq (.region [oM 6 0, oM 7 1, oP 8 (.mksl true 1 2 [.int .i64 0] [(0, (.t 6)), (1, (.t 7))]), oC 9 287 [(.t 8)], oP 10 (.un .not (.t 9)), oM 5 10]) (.cond (.t 5) (.seq (.region [oP 4 (.mv (kI (-1)))]) .ret) (.seq (.region [oM 12 0, oP 13 (.bin .eql (.t 12) (kI 1)), oM 14 13, oF 15 (.mv (.t 1)) 14, oF 16 (.bin .eql (.t 15) (kI 1)) 14, oP 17 (.pick (.t 14) (.k (.bool true)) (.t 16)), oM 11 17]) (.cond (.t 11) (.seq (.region [oP 4 (.mv (kI 1))]) .ret) (.seq (.region [oM 19 0, oP 20 (.bin .eql (.t 19) (kI 0)), oM 21 20, oT 22 (.mv (.t 1)) 21, oT 23 (.bin .eql (.t 22) (kI 0)) 21, oP 24 (.pick (.t 21) (.t 23) (.k (.bool false))), oM 18 24]) (.cond (.t 18) (.seq (.region [oP 4 (.mv (kI 0))]) .ret) .skip))))))) (.seq (.region [oP 4 (.mv (kI 2))]) .ret)))⟩
theorem c_impl_Or3_ok : compFn Tryz.prog [8] 240 = some c_impl_Or3 := by kernel_rfl
def c_impl_Not3 : AFn := ⟨13, [.t 2], (.seq (.region [oP 2 (.mv (kI 0))]) (.seq (.block 0 (.seq (.region [oM 4 0, oP 5 (.mksl true 1 1 [.int .i64 0] [(0, (.t 4))]), oC 6 287 [(.t 5)], oP 7 (.un .not (.t 6)), oM 3 7]) (.cond (.t 3) (.seq (.region [oP 2 (.mv (kI (-1)))]) .ret) (.seq (.region [oM 9 0, oP 10 (.bin .eql (.t 9) (kI 2)), oM 8 10]) (.cond (.t 8) (.seq (.region [oP 2 (.mv (kI 2))]) .ret) .skip))))) (.seq (.region [oM 11 0, oP 12 (.bin .sub (kI 1) (.t 11)), oM 2 12]) .ret)))⟩
theorem c_impl_Not3_ok : compFn Tryz.prog [5] 241 = some c_impl_Not3 := by kernel_rfl
def c_impl_truthOf : AFn := ⟨4, [.t 2], (.seq (.region [oP 2 (.mv (kI 0))]) (.seq (.seq (.region [oM 3 0]) (.cond (.t 3) (.seq (.region [oP 2 (.mv (kI 1))]) .ret) .skip)) (.seq (.region [oP 2 (.mv (kI 0))]) .ret)))⟩
theorem c_impl_truthOf_ok : compFn Tryz.prog [] 242 = some c_impl_truthOf := by kernel_rfl
def c_impl_sumOf : AFn := ⟨40, [.m 6 true 3, .t 7], (.seq (.region [oP 3 (.box true (.t 0)), oP 4 (.box true (.t 1)), oP 6 (.alloc [.int .i64 0, .int .i64 0, .str []]), oP 7 (.mv (.k (.bool false)))]) (.seq (.block 0 (.seq (.region [oP 10 (.faddr 0 (.t 3)), oP 11 (.load false 1 (.t 10)), oP 12 (.bin .eql (.t 11) (kI 2)), oM 13 12, oF 14 (.faddr 0 (.t 4)) 13, oF 15 (.load false 1 (.t 14)) 13, oF 16 (.bin .eql (.t 15) (kI 2)) 13, oP 17 (.pick (.t 13) (.k (.bool true)) (.t 16)), oM 9 17]) (.cond (.t 9) (.seq (.region [oP 18 (.build [.int .i64 0, .int .i64 0, .str []] []), ⟨none, .op (.store 3 (.t 6) (.t 18)), none⟩, oP 7 (.mv (.k (.bool false)))]) .ret) (.seq (.region [oP 20 (.faddr 0 (.t 3)), oP 21 (.load false 1 (.t 20)), oP 22 (.bin .eql (.t 21) (kI 0)), oM 23 22, oF 24 (.faddr 0 (.t 4)) 23, oF 25 (.load false 1 (.t 24)) 23, oF 26 (.bin .eql (.t 25) (kI 0)) 23, oP 27 (.pick (.t 23) (.k (.bool true)) (.t 26)), oM 19 27]) (.cond (.t 19) (.seq (.region [oP 28 (.build [.int .i64 0, .int .i64 0, .str []] []), ⟨none, .op (.store 3 (.t 6) (.t 28)), none⟩, oP 7 (.mv (.k (.bool true)))]) .ret) .skip))))) (.seq (.region [oP 29 (.faddr 1 (.t 3)), oP 30 (.load false 1 (.t 29)), oM 31 2, oP 32 (.faddr 1 (.t 4)), oP 33 (.load false 1 (.t 32)), oP 34 (.bin .mul (.t 31) (.t 33)), oP 35 (.bin .add (.t 30) (.t 34)), oP 36 (.build [.int .i64 0, .int .i64 0, .str []] [(0, 1, (kI 1)), (1, 1, (.t 35))]), oP 8 (.alloc [.int .i64 0, .int .i64 0, .str []]), ⟨none, .op (.store 3 (.t 8) (.t 36)), none⟩]) (.seq (.draw [[oP 37 (.load true 3 (.t 8)), oP 38 (.load true 3 (.t 8)), oC 39 94 [(.t 38)]], [⟨none, .op (.store 3 (.t 6) (.t 37)), none⟩], [oM 7 39]]) .ret))))⟩
theorem c_impl_sumOf_ok : compFn Tryz.prog [3, 4] 243 = some c_impl_sumOf := by kernel_rfl
def c_spec_l2Takes : AFn := ⟨48, [.t 4], (.seq (.region [oP 2 (.box true (.t 0)), oP 4 (.mv (kI 0))]) (.seq (.seq (.region [oP 5 (.faddr 0 (.t 2)), oP 6 (.load false 1 (.t 5)), oP 7 (.bin .neq (.t 6) (kI 1)), oM 8 7, oT 9 (.faddr 1 (.t 2)) 8, oT 10 (.load false 1 (.t 9)) 8, oT 11 (.bin .neq (.t 10) (kI 0)) 8, oP 12 (.pick (.t 8) (.t 11) (.k (.bool false))), oM 13 12, oF 14 (.faddr 0 (.t 2)) 13, oF 15 (.load false 1 (.t 14)) 13, oF 16 (.bin .neq (.t 15) (kI 2)) 13, oF 17 (.mv (.t 16)) 13, oT 18 (.faddr 2 (.t 2)) 17, oT 19 (.load true 3 (.t 18)) 17, oT 20 (.build [.int .i64 0, .int .i64 0, .str []] []) 17, oT 21 (.eq true true [.i, .i, .s] (.t 19) (.t 20)) 17, oF 22 (.pick (.t 17) (.t 21) (.k (.bool false))) 13, oP 23 (.pick (.t 13) (.k (.bool true)) (.t 22))]) (.cond (.t 23) (.seq (.region [oP 4 (.mv (kI (-1)))]) .ret) .skip)) (.seq (.seq (.region [oP 24 (.faddr 0 (.t 2)), oP 25 (.load false 1 (.t 24))]) (.block 0 (.seq (.region [oP 27 (.bin .eql (.t 25) (kI 1)), oM 26 27]) (.cond (.t 26) (.seq (.region [oP 28 (.faddr 1 (.t 2)), oP 29 (.load false 1 (.t 28)), oM 30 1, oP 31 (.bin .sub (.t 30) (kI 1)), oC 32 173 [(.t 29), (kI 0), (.t 31)]]) (.cond (.t 32) (.seq (.region [oP 4 (.mv (kI 0))]) .ret) .skip)) (.seq (.region [oP 34 (.bin .eql (.t 25) (kI 2)), oM 33 34]) (.cond (.t 33) (.seq (.region [oP 35 (.faddr 2 (.t 2)), oP 36 (.load true 3 (.t 35)), oC 37 253 [(.t 36)]]) (.cond (.t 37) (.seq (.region [oP 4 (.mv (kI 0))]) .ret) .skip)) (.seq (.seq (.region [oP 39 (.bin .eql (.t 25) (kI 7)), oM 38 39]) (.cond (.t 38) .skip (.region [oP 40 (.bin .eql (.t 25) (kI 8)), oM 38 40]))) (.cond (.t 38) (.seq (.region [oP 4 (.mv (kI 1))]) .ret) (.seq (.seq (.region [oP 42 (.bin .eql (.t 25) (kI 3)), oM 41 42]) (.cond (.t 41) .skip (.seq (.region [oP 43 (.bin .eql (.t 25) (kI 4)), oM 41 43]) (.cond (.t 41) .skip (.seq (.region [oP 44 (.bin .eql (.t 25) (kI 5)), oM 41 44]) (.cond (.t 41) .skip (.seq (.region [oP 45 (.bin .eql (.t 25) (kI 6)), oM 41 45]) (.cond (.t 41) .skip (.seq (.region [oP 46 (.bin .eql (.t 25) (kI 9)), oM 41 46]) (.cond (.t 41) .skip (.region [oP 47 (.bin .eql (.t 25) (kI 10)), oM 41 47]))))))))))) (.cond (.t 41) (.seq (.region [oP 4 (.mv (kI 2))]) .ret) .skip)))))))))) (.seq (.region [oP 4 (.mv (kI (-1)))]) .ret))))⟩
theorem c_spec_l2Takes_ok : compFn Tryz.prog [2] 244 = some c_spec_l2Takes := by kernel_rfl
def c_spec_l1Has : AFn := ⟨18, [.t 4], (.seq (.region [oP 4 (.mv (.k (.bool false)))]) (.seq (.seq (.region [oP 5 (.mv (kI 0))]) (.block 0 (.loop (.seq (.seq (.region [oM 6 5, oM 7 0, oP 8 (.len false (.t 7)), oP 9 (.bin .lss (.t 6) (.t 8))]) (.cond (.t 9) .skip (.exit 0))) (.seq (.block 1 (.seq (.region [oM 12 0, oM 13 5, oP 14 (.iaddr 1 (.t 12) (.t 13)), oP 15 (.load false 1 (.t 14)), oM 16 1, oP 17 (.bin .eql (.t 15) (.t 16))]) (.cond (.t 17) (.seq (.region [oP 4 (.mv (.k (.bool true)))]) .ret) .skip))) (.region [oM 10 5, oP 11 (.bin .add (.t 10) (kI 1)), oM 5 11])))))) (.seq (.region [oP 4 (.mv (.k (.bool false)))]) .ret)))⟩
theorem c_spec_l1Has_ok : compFn Tryz.prog [] 245 = some c_spec_l1Has := by kernel_rfl
def c_spec_Equal3 : AFn := ⟨27, [.t 4], (.seq (.region [oP 2 (.box true (.t 0)), oP 3 (.box true (.t 1)), oP 4 (.mv (kI 0))]) (.seq (.seq (.region [oP 5 (.load true 3 (.t 2)), oC 6 253 [(.t 5)], oP 7 (.un .not (.t 6)), oM 8 7, oF 9 (.load true 3 (.t 3)) 8, ⟨some 10, .call (.f 253) [(.t 9)], (some (8, false))⟩, oF 11 (.un .not (.t 10)) 8, oP 12 (.pick (.t 8) (.k (.bool true)) (.t 11)), oM 13 12, oF 14 (.faddr 0 (.t 2)) 13, oF 15 (.load false 1 (.t 14)) 13, oF 16 (.bin .eql (.t 15) (kI 0)) 13, oP 17 (.pick (.t 13) (.k (.bool true)) (.t 16)), oM 18 17, oF 19 (.faddr 0 (.t 3)) 18, oF 20 (.load false 1 (.t 19)) 18, oF 21 (.bin .eql (.t 20) (kI 0)) 18, oP 22 (.pick (.t 18) (.k (.bool true)) (.t 21))]) (.cond (.t 22) (.seq (.region [oP 4 (.mv (kI 2))]) .ret) .skip)) (.seq (.region [oP 23 (.load true 3 (.t 2)), oP 24 (.load true 3 (.t 3)), oP 25 (.eq false true [.i, .i, .s] (.t 23) (.t 24)), oC 26 178 [(.t 25)], oM 4 26]) .ret)))⟩
theorem c_spec_Equal3_ok : compFn Tryz.prog [2, 3] 246 = some c_spec_Equal3 := by kernel_rfl
def c_spec_Less3 : AFn := ⟨28, [.t 4], (.seq (.region [oP 2 (.box true (.t 0)), oP 3 (.box true (.t 1)), oP 4 (.mv (kI 0))]) (.seq (.seq (.region [oP 5 (.load true 3 (.t 2)), oC 6 253 [(.t 5)], oP 7 (.un .not (.t 6)), oM 8 7, oF 9 (.load true 3 (.t 3)) 8, ⟨some 10, .call (.f 253) [(.t 9)], (some (8, false))⟩, oF 11 (.un .not (.t 10)) 8, oP 12 (.pick (.t 8) (.k (.bool true)) (.t 11)), oM 13 12, oF 14 (.faddr 0 (.t 2)) 13, oF 15 (.load false 1 (.t 14)) 13, oF 16 (.bin .eql (.t 15) (kI 0)) 13, oP 17 (.pick (.t 13) (.k (.bool true)) (.t 16)), oM 18 17, oF 19 (.faddr 0 (.t 3)) 18, oF 20 (.load false 1 (.t 19)) 18, oF 21 (.bin .eql (.t 20) (kI 0)) 18, oP 22 (.pick (.t 18) (.k (.bool true)) (.t 21))]) (.cond (.t 22) (.seq (.region [oP 4 (.mv (kI 2))]) .ret) .skip)) (.seq (.region [oP 23 (.load true 3 (.t 2)), oP 24 (.load true 3 (.t 3)), oC 25 177 [(.t 23), (.t 24)], oP 26 (.bin .lss (.t 25) (kI 0)), oC 27 178 [(.t 26)], oM 4 27]) .ret)))⟩
theorem c_spec_Less3_ok : compFn Tryz.prog [2, 3] 247 = some c_spec_Less3 := by kernel_rfl
def c_spec_l2Sum : AFn := ⟨38, [.m 6 true 3, .t 7], (.seq (.region [oP 3 (.box true (.t 0)), oP 4 (.box true (.t 1)), oP 6 (.alloc [.int .i64 0, .int .i64 0, .str []]), oP 7 (.mv (.k (.bool false)))]) (.seq (.seq (.region [oP 9 (.faddr 0 (.t 3)), oP 10 (.load false 1 (.t 9)), oP 11 (.bin .eql (.t 10) (kI 2)), oM 12 11, oF 13 (.faddr 0 (.t 4)) 12, oF 14 (.load false 1 (.t 13)) 12, oF 15 (.bin .eql (.t 14) (kI 2)) 12, oP 16 (.pick (.t 12) (.k (.bool true)) (.t 15))]) (.cond (.t 16) (.seq (.region [oP 17 (.build [.int .i64 0, .int .i64 0, .str []] []), ⟨none, .op (.store 3 (.t 6) (.t 17)), none⟩, oP 7 (.mv (.k (.bool false)))]) .ret) .skip)) (.seq (.seq (.region [oP 18 (.faddr 0 (.t 3)), oP 19 (.load false 1 (.t 18)), oP 20 (.bin .eql (.t 19) (kI 0)), oM 21 20, oF 22 (.faddr 0 (.t 4)) 21, oF 23 (.load false 1 (.t 22)) 21, oF 24 (.bin .eql (.t 23) (kI 0)) 21, oP 25 (.pick (.t 21) (.k (.bool true)) (.t 24))]) (.cond (.t 25) (.seq (.region [oP 26 (.build [.int .i64 0, .int .i64 0, .str []] []), ⟨none, .op (.store 3 (.t 6) (.t 26)), none⟩, oP 7 (.mv (.k (.bool true)))]) .ret) .skip)) (.seq (.region [oP 27 (.faddr 1 (.t 3)), oP 28 (.load false 1 (.t 27)), oM 29 2, oP 30 (.faddr 1 (.t 4)), oP 31 (.load false 1 (.t 30)), oP 32 (.bin .mul (.t 29) (.t 31)), oP 33 (.bin .add (.t 28) (.t 32)), oC 34 150 [(.t 33)], oP 8 (.alloc [.int .i64 0, .int .i64 0, .str []]), ⟨none, .op (.store 3 (.t 8) (.t 34)), none⟩]) (.seq (.draw [[oP 35 (.load true 3 (.t 8)), oP 36 (.load true 3 (.t 8)), oC 37 253 [(.t 36)]], [⟨none, .op (.store 3 (.t 6) (.t 35)), none⟩], [oM 7 37]]) .ret)))))⟩
theorem c_spec_l2Sum_ok : compFn Tryz.prog [3, 4] 248 = some c_spec_l2Sum := by kernel_rfl
def c_spec_And3 : AFn := ⟨28, [.t 4], (.seq (.region [oP 4 (.mv (kI 0))]) (.seq (.block 0 (.seq (.region [oM 6 0, oC 7 288 [(.t 6)], oP 8 (.un .not (.t 7)), oM 9 8, oF 10 (.mv (.t 1)) 9, ⟨some 11, .call (.f 288) [(.t 10)], (some (9, false))⟩, oF 12 (.un .not (.t 11)) 9, oP 13 (.pick (.t 9) (.k (.bool true)) (.t 12)), oM 5 13]) (.cond (.t 5) (.seq (.region [oP 4 (.mv (kI (-1)))]) .ret) (.seq (.region [oM 15 0, oP 16 (.bin .eql (.t 15) (kI 0)), oM 17 16, oF 18 (.mv (.t 1)) 17, oF 19 (.bin .eql (.t 18) (kI 0)) 17, oP 20 (.pick (.t 17) (.k (.bool true)) (.t 19)), oM 14 20]) (.cond (.t 14) (.seq (.region [oP 4 (.mv (kI 0))]) .ret) (.seq (.region [oM 22 0, oP 23 (.bin .eql (.t 22) (kI 1)), oM 24 23, oT 25 (.mv (.t 1)) 24, oT 26 (.bin .eql (.t 25) (kI 1)) 24, oP 27 (.pick (.t 24) (.t 26) (.k (.bool false))), oM 21 27]) (.cond (.t 21) (.seq (.region [oP 4 (.mv (kI 1))]) .ret) .skip))))))) (.seq (.region [oP 4 (.mv (kI 2))]) .ret)))⟩
theorem c_spec_And3_ok : compFn Tryz.prog [] 249 = some c_spec_And3 := by kernel_rfl
def c_spec_Or3 : AFn := ⟨28, [.t 4], (.seq (.region [oP 4 (.mv (kI 0))]) (.seq (.block 0 (.seq (.region [oM 6 0, oC 7 288 [(.t 6)], oP 8 (.un .not (.t 7)), oM 9 8, oF 10 (.mv (.t 1)) 9, ⟨some 11, .call (.f 288) [(.t 10)], (some (9, false))⟩, oF 12 (.un .not (.t 11)) 9, oP 13 (.pick (.t 9) (.k (.bool true)) (.t 12)), oM 5 13]) (.cond (.t 5) (.seq (.region [oP 4 (.mv (kI (-1)))]) .ret) (.seq (.region [oM 15 0, oP 16 (.bin .eql (.t 15) (kI 1)), oM 17 16, oF 18 (.mv (.t 1)) 17, oF 19 (.bin .eql (.t 18) (kI 1)) 17, oP 20 (.pick (.t 17) (.k (.bool true)) (.t 19)), oM 14 20]) (.cond (.t 14) (.seq (.region [oP 4 (.mv (kI 1))]) .ret) (.seq (.region [oM 22 0, oP 23 (.bin .eql (.t 22) (kI 0)), oM 24 23, oT 25 (.mv (.t 1)) 24, oT 26 (.bin .eql (.t 25) (kI 0)) 24, oP 27 (.pick (.t 24) (.t 26) (.k (.bool false))), oM 21 27]) (.cond (.t 21) (.seq (.region [oP 4 (.mv (kI 0))]) .ret) .skip))))))) (.seq (.region [oP 4 (.mv (kI 2))]) .ret)))⟩
theorem c_spec_Or3_ok : compFn Tryz.prog [] 250 = some c_spec_Or3 := by kernel_rfl
def c_spec_l3Name : AFn := ⟨23, [.t 2], (.seq (.region [oP 2 (.mv (.k (.bool false)))]) (.seq (.seq (.region [oP 3 (.mv (kI 0))]) (.block 0 (.loop (.seq (.seq (.region [oM 4 3, oM 5 0, oP 6 (.len true (.t 5)), oP 7 (.bin .lss (.t 4) (.t 6))]) (.cond (.t 7) .skip (.exit 0))) (.seq (.block 1 (.seq (.region [oM 10 0, oM 11 3, oP 12 (.idx (.t 10) (.t 11)), oP 13 (.bin .lss (.t 12) (.k (.int .u8 97))), oM 14 13, oF 15 (.mv (.t 0)) 14, oF 16 (.mv (.t 3)) 14, oF 17 (.idx (.t 15) (.t 16)) 14, oF 18 (.bin .gtr (.t 17) (.k (.int .u8 122))) 14, oP 19 (.pick (.t 14) (.k (.bool true)) (.t 18))]) (.cond (.t 19) (.seq (.region [oP 2 (.mv (.k (.bool false)))]) .ret) .skip))) (.region [oM 8 3, oP 9 (.bin .add (.t 8) (kI 1)), oM 3 9])))))) (.seq (.region [oM 20 0, oP 21 (.len true (.t 20)), oC 22 173 [(.t 21), (kI 1), (kI 8)], oM 2 22]) .ret)))⟩
theorem c_spec_l3Name_ok : compFn Tryz.prog [] 251 = some c_spec_l3Name := by kernel_rfl
def c_spec_ColAt : AFn := ⟨22, [.t 4], (.seq (.region [oP 2 (.box true (.t 0)), oP 4 (.mv (kI 0))]) (.seq (.seq (.region [oP 5 (.mv (kI 0))]) (.block 0 (.loop (.seq (.seq (.region [oM 6 5, oP 7 (.faddr 1 (.t 2)), oP 8 (.load false 1 (.t 7)), oP 9 (.len false (.t 8)), oP 10 (.bin .lss (.t 6) (.t 9))]) (.cond (.t 10) .skip (.exit 0))) (.seq (.block 1 (.seq (.region [oP 13 (.faddr 1 (.t 2)), oP 14 (.load false 1 (.t 13)), oM 15 5, oP 16 (.iaddr 6 (.t 14) (.t 15)), oP 17 (.faddr 0 (.t 16)), oP 18 (.load false 1 (.t 17)), oM 19 1, oP 20 (.bin .eql (.t 18) (.t 19))]) (.cond (.t 20) (.seq (.region [oM 21 5, oM 4 21]) .ret) .skip))) (.region [oM 11 5, oP 12 (.bin .add (.t 11) (kI 1)), oM 5 12])))))) (.seq (.region [oP 4 (.mv (kI (-1)))]) .ret)))⟩
theorem c_spec_ColAt_ok : compFn Tryz.prog [2] 252 = some c_spec_ColAt := by kernel_rfl
def c_spec_ValOk : AFn := ⟨31, [.t 2], (.seq (.region [oP 1 (.box true (.t 0)), oP 2 (.mv (.k (.bool false)))]) (.seq (.seq (.region [oP 3 (.faddr 0 (.t 1)), oP 4 (.load false 1 (.t 3))]) (.block 0 (.seq (.region [oP 6 (.bin .eql (.t 4) (kI 0)), oM 5 6]) (.cond (.t 5) (.seq (.region [oP 7 (.load true 3 (.t 1)), oP 8 (.build [.int .i64 0, .int .i64 0, .str []] []), oP 9 (.eq false true [.i, .i, .s] (.t 7) (.t 8)), oM 2 9]) .ret) (.seq (.region [oP 11 (.bin .eql (.t 4) (kI 1)), oM 10 11]) (.cond (.t 10) (.seq (.region [oP 12 (.faddr 1 (.t 1)), oP 13 (.load false 1 (.t 12)), oC 14 173 [(.t 13), (kI (-1000000000)), (kI 1000000000)], oM 15 14, oT 16 (.faddr 2 (.t 1)) 15, oT 17 (.load false 1 (.t 16)) 15, oT 18 (.bin .eql (.t 17) (.k (.str []))) 15, oP 19 (.pick (.t 15) (.t 18) (.k (.bool false))), oM 2 19]) .ret) (.seq (.region [oP 21 (.bin .eql (.t 4) (kI 2)), oM 20 21]) (.cond (.t 20) (.seq (.region [oP 22 (.faddr 1 (.t 1)), oP 23 (.load false 1 (.t 22)), oP 24 (.bin .eql (.t 23) (kI 0)), oM 25 24, oT 26 (.faddr 2 (.t 1)) 25, oT 27 (.load false 1 (.t 26)) 25, oT 28 (.len true (.t 27)) 25, oT 29 (.bin .leq (.t 28) (kI 12)) 25, oP 30 (.pick (.t 25) (.t 29) (.k (.bool false))), oM 2 30]) .ret) .skip)))))))) (.seq (.region [oP 2 (.mv (.k (.bool false)))]) .ret)))⟩
theorem c_spec_ValOk_ok : compFn Tryz.prog [1] 253 = some c_spec_ValOk := by kernel_rfl
def c_cmp_isNaN_string : AFn := ⟨6, [.t 2], (.seq (.region [oP 2 (.mv (.k (.bool false)))]) (.seq (.region [oM 3 0, oM 4 0, oP 5 (.bin .neq (.t 3) (.t 4)), oM 2 5]) .ret))⟩
theorem c_cmp_isNaN_string_ok : compFn Tryz.prog [] 254 = some c_cmp_isNaN_string := by kernel_rfl
def c_impl_areCols : AFn := ⟨47, [.t 2], (.seq (.region [oP 2 (.mv (.k (.bool false)))]) (.seq (.seq (.region [oM 5 0, oP 6 (.len false (.t 5)), oP 7 (.mv (kI 0))]) (.block 0 (.loop (.seq (.region [oP 8 (.bin .lss (.t 7) (.t 6))]) (.seq (.cond (.t 8) .skip (.exit 0)) (.seq (.block 1 (.seq (.region [oM 9 7, oP 10 (.iaddr 6 (.t 5) (.t 7)), oP 11 (.load true 6 (.t 10)), oP 4 (.alloc [.str [], .int .i64 0, .bool false, .int .i64 0, .int .i64 0, .str []]), oM 3 9, ⟨none, .op (.store 6 (.t 4) (.t 11)), none⟩]) (.seq (.seq (.region [oM 12 3, oP 13 (.bin .eql (.t 12) (kI 8)), oM 14 13, oF 15 (.faddr 0 (.t 4)) 14, oF 16 (.load false 1 (.t 15)) 14, ⟨some 17, .call (.f 51) [(.t 16)], (some (14, false))⟩, oF 18 (.un .not (.t 17)) 14, oP 19 (.pick (.t 14) (.k (.bool true)) (.t 18)), oM 20 19, oF 21 (.faddr 1 (.t 4)) 20, oF 22 (.load false 1 (.t 21)) 20, oF 23 (.bin .neq (.t 22) (kI 1)) 20, oF 24 (.mv (.t 23)) 20, oT 25 (.faddr 1 (.t 4)) 24, oT 26 (.load false 1 (.t 25)) 24, oT 27 (.bin .neq (.t 26) (kI 2)) 24, oF 28 (.pick (.t 24) (.t 27) (.k (.bool false))) 20, oP 29 (.pick (.t 20) (.k (.bool true)) (.t 28)), oM 30 29, oF 31 (.faddr 3 (.t 4)) 30, oF 32 (.load true 3 (.t 31)) 30, oF 33 (.faddr 1 (.t 4)) 30, oF 34 (.load false 1 (.t 33)) 30, ⟨some 35, .call (.f 270) [(.t 32), (.t 34)], (some (30, false))⟩, oF 36 (.un .not (.t 35)) 30, oP 37 (.pick (.t 30) (.k (.bool true)) (.t 36))]) (.cond (.t 37) (.seq (.region [oP 2 (.mv (.k (.bool false)))]) .ret) .skip)) (.seq (.region [oM 38 0, oM 39 3, oP 40 (.slice 6 (.t 38) none (some (.t 39)) none), oP 41 (.mkfn 292 [] [(.t 4)]), oC 42 291 [(.t 40), (.t 41)]]) (.cond (.t 42) (.seq (.region [oP 2 (.mv (.k (.bool false)))]) .ret) .skip))))) (.region [oP 43 (.bin .add (.t 7) (kI 1)), oM 7 43]))))))) (.seq (.region [oM 44 0, oP 45 (.len false (.t 44)), oP 46 (.bin .gtr (.t 45) (kI 0)), oM 2 46]) .ret)))⟩
theorem c_impl_areCols_ok : compFn Tryz.prog [] 261 = some c_impl_areCols := by kernel_rfl
def c_slices_ContainsFunc_int64_int64' : AFn := ⟨9, [.t 4], (.seq (.region [oP 4 (.mv (.k (.bool false)))]) (.seq (.region [oM 5 0, oM 6 1, oC 7 293 [(.t 5), (.t 6)], oP 8 (.bin .geq (.t 7) (kI 0)), oM 4 8]) .ret))⟩
theorem c_slices_ContainsFunc_int64_int64'_ok : compFn Tryz.prog [] 262 = some c_slices_ContainsFunc_int64_int64' := by kernel_rfl
def c_impl_TableOk_1 : AFn := ⟨11, [.t 3], (.seq (.region [oP 3 (.mv (.k (.bool false)))]) (.seq (.region [oP 4 (.faddr 1 (.t 1)), oP 5 (.load false 1 (.t 4)), oM 6 0, oP 7 (.iaddr 6 (.t 5) (.t 6)), oP 8 (.faddr 2 (.t 7)), oP 9 (.load false 1 (.t 8)), oP 10 (.un .not (.t 9)), oM 3 10]) .ret))⟩
theorem c_impl_TableOk_1_ok : compFn Tryz.prog [] 263 = some c_impl_TableOk_1 := by kernel_rfl
def c_slices_ContainsFunc_Unique : AFn := ⟨9, [.t 4], (.seq (.region [oP 4 (.mv (.k (.bool false)))]) (.seq (.region [oM 5 0, oM 6 1, oC 7 294 [(.t 5), (.t 6)], oP 8 (.bin .geq (.t 7) (kI 0)), oM 4 8]) .ret))⟩
theorem c_slices_ContainsFunc_Unique_ok : compFn Tryz.prog [] 264 = some c_slices_ContainsFunc_Unique := by kernel_rfl
def c_impl_TableOk_2 : AFn := ⟨9, [.t 3], (.seq (.region [oP 2 (.box true (.t 0)), oP 3 (.mv (.k (.bool false)))]) (.seq (.region [oP 4 (.faddr 0 (.t 2)), oP 5 (.load false 1 (.t 4)), oP 6 (.load false 1 (.t 1)), oC 7 162 [(.t 5), (.t 6)], oP 8 (.un .not (.t 7)), oM 3 8]) .ret))⟩
theorem c_impl_TableOk_2_ok : compFn Tryz.prog [2] 265 = some c_impl_TableOk_2 := by kernel_rfl
def c_impl_TableOk_3 : AFn := ⟨9, [.t 3], (.seq (.region [oP 2 (.box true (.t 0)), oP 3 (.mv (.k (.bool false)))]) (.seq (.region [oP 4 (.faddr 0 (.t 2)), oP 5 (.load false 1 (.t 4)), oP 6 (.load false 1 (.t 1)), oC 7 169 [(.t 5), (.t 6)], oP 8 (.un .not (.t 7)), oM 3 8]) .ret))⟩
theorem c_impl_TableOk_3_ok : compFn Tryz.prog [2] 266 = some c_impl_TableOk_3 := by kernel_rfl
def c_impl_TableOk_4 : AFn := ⟨8, [.t 3], (.seq (.region [oP 2 (.box true (.t 0)), oP 3 (.mv (.k (.bool false)))]) (.seq (.region [oP 4 (.load true 5 (.t 2)), oP 5 (.load false 1 (.t 1)), oC 6 268 [(.t 4), (.t 5)], oP 7 (.un .not (.t 6)), oM 3 7]) .ret))⟩
theorem c_impl_TableOk_4_ok : compFn Tryz.prog [2] 267 = some c_impl_TableOk_4 := by kernel_rfl
def c_impl_isFk : AFn := ⟨24, [.t 4], (.seq (.region [oP 2 (.box true (.t 0)), oP 4 (.mv (.k (.bool false)))]) (.seq (.region [oP 5 (.faddr 0 (.t 2)), oP 6 (.load false 1 (.t 5)), oM 7 1, oC 8 162 [(.t 6), (.t 7)], oM 9 8, oT 10 (.faddr 1 (.t 2)) 9, oT 11 (.load false 1 (.t 10)) 9, ⟨some 12, .call (.f 51) [(.t 11)], (some (9, true))⟩, oP 13 (.pick (.t 9) (.t 12) (.k (.bool false))), oM 14 13, oT 15 (.faddr 2 (.t 2)) 14, oT 16 (.load false 1 (.t 15)) 14, ⟨some 17, .call (.f 125) [(.t 16), (kI 0), (kI 2)], (some (14, true))⟩, oP 18 (.pick (.t 14) (.t 17) (.k (.bool false))), oM 19 18, oT 20 (.faddr 3 (.t 2)) 19, oT 21 (.load false 1 (.t 20)) 19, ⟨some 22, .call (.f 125) [(.t 21), (kI 0), (kI 2)], (some (19, true))⟩, oP 23 (.pick (.t 19) (.t 22) (.k (.bool false))), oM 4 23]) .ret))⟩
theorem c_impl_isFk_ok : compFn Tryz.prog [2] 268 = some c_impl_isFk := by kernel_rfl
def c_slices_IndexFunc_Fk : AFn := ⟨19, [.t 4], (.seq (.region [oP 4 (.mv (kI 0))]) (.seq (.seq (.region [oM 6 0, oP 7 (.len false (.t 6)), oP 8 (.mv (kI 0))]) (.block 0 (.loop (.seq (.region [oP 9 (.bin .lss (.t 8) (.t 7))]) (.seq (.cond (.t 9) .skip (.exit 0)) (.seq (.block 1 (.seq (.region [oM 10 8, oM 5 10]) (.seq (.region [oM 11 1, oM 12 0, oM 13 5, oP 14 (.iaddr 5 (.t 12) (.t 13)), oP 15 (.load true 5 (.t 14)), ⟨some 16, .call (.t 11) [(.t 15)], none⟩]) (.cond (.t 16) (.seq (.region [oM 17 5, oM 4 17]) .ret) .skip)))) (.region [oP 18 (.bin .add (.t 8) (kI 1)), oM 8 18]))))))) (.seq (.region [oP 4 (.mv (kI (-1)))]) .ret)))⟩
theorem c_slices_IndexFunc_Fk_ok : compFn Tryz.prog [] 269 = some c_slices_IndexFunc_Fk := by kernel_rfl
def c_impl_isOf : AFn := ⟨18, [.t 4], (.seq (.region [oP 2 (.box true (.t 0)), oP 4 (.mv (.k (.bool false)))]) (.seq (.region [oP 5 (.load true 3 (.t 2)), oC 6 94 [(.t 5)], oM 7 6, oT 8 (.faddr 0 (.t 2)) 7, oT 9 (.load false 1 (.t 8)) 7, oT 10 (.bin .eql (.t 9) (kI 0)) 7, oT 11 (.mv (.t 10)) 7, oF 12 (.faddr 0 (.t 2)) 11, oF 13 (.load false 1 (.t 12)) 11, oF 14 (.mv (.t 1)) 11, oF 15 (.bin .eql (.t 13) (.t 14)) 11, oT 16 (.pick (.t 11) (.k (.bool true)) (.t 15)) 7, oP 17 (.pick (.t 7) (.t 16) (.k (.bool false))), oM 4 17]) .ret))⟩
theorem c_impl_isOf_ok : compFn Tryz.prog [2] 270 = some c_impl_isOf := by kernel_rfl
def c_slices_IndexFunc_Check : AFn := ⟨19, [.t 4], (.seq (.region [oP 4 (.mv (kI 0))]) (.seq (.seq (.region [oM 6 0, oP 7 (.len false (.t 6)), oP 8 (.mv (kI 0))]) (.block 0 (.loop (.seq (.region [oP 9 (.bin .lss (.t 8) (.t 7))]) (.seq (.cond (.t 9) .skip (.exit 0)) (.seq (.block 1 (.seq (.region [oM 10 8, oM 5 10]) (.seq (.region [oM 11 1, oM 12 0, oM 13 5, oP 14 (.iaddr 1 (.t 12) (.t 13)), oP 15 (.load true 1 (.t 14)), ⟨some 16, .call (.t 11) [(.t 15)], none⟩]) (.cond (.t 16) (.seq (.region [oM 17 5, oM 4 17]) .ret) .skip)))) (.region [oP 18 (.bin .add (.t 8) (kI 1)), oM 8 18]))))))) (.seq (.region [oP 4 (.mv (kI (-1)))]) .ret)))⟩
theorem c_slices_IndexFunc_Check_ok : compFn Tryz.prog [] 271 = some c_slices_IndexFunc_Check := by kernel_rfl
def c_spec_l1Rd_word : AFn := ⟨16, [.t 2], (.seq (.region [oP 2 (.mv (.k (.int .u64 0)))]) (.seq (.region [oP 3 (.mv (.k (.int .u64 0)))]) (.seq (.seq (.region [oP 4 (.mv (kI 0))]) (.block 0 (.loop (.seq (.seq (.region [oM 5 4, oP 6 (.bin .lss (.t 5) (kI 8))]) (.cond (.t 6) .skip (.exit 0))) (.seq (.block 1 (.region [oM 9 3, oP 10 (.bin .shl (.t 9) (.k (.int .u64 8))), oM 11 0, oC 12 222 [(.t 11)], oP 13 (.conv .u64 (.t 12)), oP 14 (.bin .or (.t 10) (.t 13)), oM 3 14])) (.region [oM 7 4, oP 8 (.bin .add (.t 7) (kI 1)), oM 4 8])))))) (.seq (.region [oM 15 3, oM 2 15]) .ret))))⟩
theorem c_spec_l1Rd_word_ok : compFn Tryz.prog [] 275 = some c_spec_l1Rd_word := by kernel_rfl
def c_spec_l6Able : AFn := ⟨15, [.t 4], (.seq (.region [oP 2 (.box true (.t 0)), oP 4 (.mv (kI 0))]) (.seq (.block 0 (.seq (.region [oP 6 (.load true 6 (.t 2)), oM 7 1, oC 8 295 [(.t 6), (.t 7)], oP 9 (.un .not (.t 8)), oM 5 9]) (.cond (.t 5) (.seq (.region [oP 4 (.mv (kI 2))]) .ret) (.seq (.region [oP 11 (.load true 6 (.t 2)), oM 12 1, oC 13 296 [(.t 11), (.t 12)], oP 14 (.un .not (.t 13)), oM 10 14]) (.cond (.t 10) (.seq (.region [oP 4 (.mv (kI 3))]) .ret) .skip))))) (.seq (.region [oP 4 (.mv (kI 0))]) .ret)))⟩
theorem c_spec_l6Able_ok : compFn Tryz.prog [2] 277 = some c_spec_l6Able := by kernel_rfl
def c_spec_l6Next : AFn := ⟨17, [.t 2], (.seq (.region [oP 1 (.box true (.t 0)), oP 2 (.mv (kI 0))]) (.seq (.region [oP 4 (.faddr 0 (.t 1)), oP 5 (.load false 1 (.t 4)), oP 6 (.len false (.t 5)), oM 3 6]) (.seq (.seq (.region [oM 7 3, oP 8 (.bin .eql (.t 7) (kI 0))]) (.cond (.t 8) (.seq (.region [oP 2 (.mv (kI 1))]) .ret) .skip)) (.seq (.region [oP 9 (.faddr 0 (.t 1)), oP 10 (.load false 1 (.t 9)), oM 11 3, oP 12 (.bin .sub (.t 11) (kI 1)), oP 13 (.iaddr 2 (.t 10) (.t 12)), oP 14 (.faddr 0 (.t 13)), oP 15 (.load false 1 (.t 14)), oP 16 (.bin .add (.t 15) (kI 1)), oM 2 16]) .ret))))⟩
theorem c_spec_l6Next_ok : compFn Tryz.prog [1] 278 = some c_spec_l6Next := by kernel_rfl
def c_spec_l1CopyVals : AFn := ⟨6, [.t 2], (.seq (.region [oP 2 (.mv (.k (.nils)))]) (.seq (.region [oP 3 (.mksl false 3 0 [.int .i64 0, .int .i64 0, .str []] []), oM 4 0, oP 5 (.app 3 32 (.t 3) (.t 4)), oM 2 5]) .ret))⟩
theorem c_spec_l1CopyVals_ok : compFn Tryz.prog [] 279 = some c_spec_l1CopyVals := by kernel_rfl
def c_spec_l6Clear : AFn := ⟨69, [.t 12, .t 13], (.seq (.region [oP 9 (.box true (.t 3)), oP 12 (.mv (.k (.nils))), oP 13 (.mv (kI 0))]) (.seq (.draw [[oM 18 0, oM 19 2, oP 20 (.iaddr 6 (.t 18) (.t 19)), oP 21 (.load true 6 (.t 20)), oM 22 1, oM 23 2, oP 24 (.iaddr 1 (.t 22) (.t 23)), oP 25 (.load true 1 (.t 24)), oP 26 (.load true 2 (.t 9))], [oC 27 297 [(.t 21), (.t 25), (.t 26)]], [oM 14 27]]) (.seq (.seq (.region [oM 28 14, oP 29 (.len false (.t 28)), oP 30 (.bin .gtr (.t 29) (kI 0)), oM 31 30, oT 32 (.mv (.t 4)) 31, oT 33 (.un .not (.t 32)) 31, oP 34 (.pick (.t 31) (.t 33) (.k (.bool false)))]) (.cond (.t 34) (.seq (.region [oP 12 (.mv (.k (.nils))), oP 13 (.mv (kI 4))]) .ret) .skip)) (.seq (.seq (.region [oP 15 (.mv (kI 0))]) (.block 0 (.loop (.seq (.seq (.region [oM 35 15, oM 36 14, oP 37 (.len false (.t 36)), oP 38 (.bin .lss (.t 35) (.t 37))]) (.cond (.t 38) .skip (.exit 0))) (.seq (.block 1 (.seq (.seq (.draw [[oM 41 1, oM 42 2, oP 43 (.iaddr 1 (.t 41) (.t 42)), oP 44 (.load true 1 (.t 43)), oM 45 14, oM 46 15, oP 47 (.iaddr 1 (.t 45) (.t 46)), oP 48 (.load false 1 (.t 47))], [oC 49 89 [(.t 44), (.t 48)]], [oP 50 (.bin .lss (.t 49) (kI 0))]]) (.cond (.t 50) (.exit 1) .skip)) (.seq (.region [oM 52 0, oM 53 1, oM 54 2, oM 55 14, oM 56 15, oP 57 (.iaddr 1 (.t 55) (.t 56)), oP 58 (.load false 1 (.t 57)), oM 59 5, oP 60 (.bin .add (.t 59) (kI 1)), oC 61 298 [(.t 52), (.t 53), (.t 54), (.t 58), (.t 60)], oM 51 61, oP 62 (.ext (.t 51) 0), oP 63 (.ext (.t 51) 1), oM 16 62, oM 17 63]) (.seq (.seq (.region [oM 64 17, oP 65 (.bin .neq (.t 64) (kI 0))]) (.cond (.t 65) (.seq (.region [oM 66 17, oP 12 (.mv (.k (.nils))), oM 13 66]) .ret) .skip)) (.region [oM 67 16, oM 1 67]))))) (.region [oM 39 15, oP 40 (.bin .add (.t 39) (kI 1)), oM 15 40])))))) (.seq (.region [oM 68 1, oM 12 68, oP 13 (.mv (kI 0))]) .ret)))))⟩
theorem c_spec_l6Clear_ok : compFn Tryz.prog [9] 280 = some c_spec_l6Clear := by kernel_rfl
def c_spec_l4With : AFn := ⟨16, [.t 6], (.seq (.region [oP 5 (.box true (.t 2)), oP 6 (.mv (.k (.nils)))]) (.seq (.region [oP 8 (.mksl false 1 0 [.nils] []), oM 9 0, oP 10 (.app 1 24 (.t 8) (.t 9)), oM 7 10]) (.seq (.region [oM 11 7, oM 12 1, oP 13 (.load true 1 (.t 5)), oP 14 (.iaddr 1 (.t 11) (.t 12)), ⟨none, .op (.store 1 (.t 14) (.t 13)), none⟩]) (.seq (.region [oM 15 7, oM 6 15]) .ret))))⟩
theorem c_spec_l4With_ok : compFn Tryz.prog [5] 281 = some c_spec_l4With := by kernel_rfl
def c_spec_l4Put : AFn := ⟨58, [.m 4 true 1], (.seq (.region [oP 2 (.box true (.t 0)), oP 3 (.box true (.t 1)), oP 4 (.alloc [.nils])]) (.seq (.region [oP 8 (.mksl false 2 0 [.int .i64 0, .nils] []), oM 5 8]) (.seq (.region [oP 6 (.mv (.k (.bool false)))]) (.seq (.seq (.region [oP 7 (.mv (kI 0))]) (.block 0 (.loop (.seq (.seq (.region [oM 9 7, oP 10 (.faddr 0 (.t 2)), oP 11 (.load false 1 (.t 10)), oP 12 (.len false (.t 11)), oP 13 (.bin .lss (.t 9) (.t 12))]) (.cond (.t 13) .skip (.exit 0))) (.seq (.block 1 (.seq (.seq (.draw [[oM 16 6], [oP 17 (.un .not (.t 16))], [oM 18 17], [oT 19 (.faddr 0 (.t 2)) 18, oT 20 (.load false 1 (.t 19)) 18, oT 21 (.mv (.t 7)) 18, oT 22 (.iaddr 2 (.t 20) (.t 21)) 18, oT 23 (.faddr 0 (.t 22)) 18, oT 24 (.load false 1 (.t 23)) 18, oT 25 (.faddr 0 (.t 3)) 18, oT 26 (.load false 1 (.t 25)) 18], [oT 27 (.bin .geq (.t 24) (.t 26)) 18], [oP 28 (.pick (.t 18) (.t 27) (.k (.bool false)))]]) (.cond (.t 28) (.seq (.region [oM 29 5, oP 30 (.load true 2 (.t 3)), oP 31 (.mksl true 2 1 [.int .i64 0, .nils] [(0, (.t 30))]), oP 32 (.app 2 32 (.t 29) (.t 31)), oM 5 32]) (.region [oP 6 (.mv (.k (.bool true)))])) .skip)) (.seq (.draw [[oP 33 (.faddr 0 (.t 2)), oP 34 (.load false 1 (.t 33)), oM 35 7, oP 36 (.iaddr 2 (.t 34) (.t 35)), oP 37 (.faddr 0 (.t 36)), oP 38 (.load false 1 (.t 37)), oP 39 (.faddr 0 (.t 3)), oP 40 (.load false 1 (.t 39))], [oP 41 (.bin .neq (.t 38) (.t 40))]]) (.cond (.t 41) (.region [oM 42 5, oP 43 (.faddr 0 (.t 2)), oP 44 (.load false 1 (.t 43)), oM 45 7, oP 46 (.iaddr 2 (.t 44) (.t 45)), oP 47 (.load true 2 (.t 46)), oP 48 (.mksl true 2 1 [.int .i64 0, .nils] [(0, (.t 47))]), oP 49 (.app 2 32 (.t 42) (.t 48)), oM 5 49]) .skip)))) (.region [oM 14 7, oP 15 (.bin .add (.t 14) (kI 1)), oM 7 15])))))) (.seq (.seq (.region [oM 50 6, oP 51 (.un .not (.t 50))]) (.cond (.t 51) (.region [oM 52 5, oP 53 (.load true 2 (.t 3)), oP 54 (.mksl true 2 1 [.int .i64 0, .nils] [(0, (.t 53))]), oP 55 (.app 2 32 (.t 52) (.t 54)), oM 5 55]) .skip)) (.seq (.region [oM 56 5, oP 57 (.build [.nils] [(0, 1, (.t 56))]), ⟨none, .op (.store 1 (.t 4) (.t 57)), none⟩]) .ret))))))⟩
theorem c_spec_l4Put_ok : compFn Tryz.prog [2, 3, 31, 48, 54] 282 = some c_spec_l4Put := by kernel_rfl
def c_spec_l5Refers : AFn := ⟨45, [.t 10], (.seq (.region [oP 10 (.mv (.k (.bool false)))]) (.seq (.seq (.region [oP 11 (.mv (kI 0))]) (.block 0 (.loop (.seq (.seq (.region [oM 13 11, oM 14 0, oM 15 2, oP 16 (.iaddr 6 (.t 14) (.t 15)), oP 17 (.faddr 5 (.t 16)), oP 18 (.load false 1 (.t 17)), oP 19 (.len false (.t 18)), oP 20 (.bin .lss (.t 13) (.t 19))]) (.cond (.t 20) .skip (.exit 0))) (.seq (.block 1 (.seq (.region [oM 23 0, oM 24 2, oP 25 (.iaddr 6 (.t 23) (.t 24)), oP 26 (.faddr 5 (.t 25)), oP 27 (.load false 1 (.t 26)), oM 28 11, oP 29 (.iaddr 5 (.t 27) (.t 28)), oP 30 (.load true 5 (.t 29)), oP 12 (.alloc [.nils, .str [], .int .i64 0, .int .i64 0, .bool false]), ⟨none, .op (.store 5 (.t 12) (.t 30)), none⟩]) (.seq (.region [oM 31 4, oM 32 31, oT 33 (.faddr 4 (.t 12)) 32, oT 34 (.load false 1 (.t 33)) 32, oP 35 (.pick (.t 32) (.t 34) (.k (.bool false))), oP 36 (.un .not (.t 35)), oM 37 36, oT 38 (.mv (.t 0)) 37, oT 39 (.mv (.t 1)) 37, oT 40 (.load true 5 (.t 12)) 37, oT 41 (.mv (.t 3)) 37, ⟨some 42, .call (.f 299) [(.t 38), (.t 39), (.t 40), (.t 41)], (some (37, true))⟩, oT 43 (.un .not (.t 42)) 37, oP 44 (.pick (.t 37) (.t 43) (.k (.bool false)))]) (.cond (.t 44) (.seq (.region [oP 10 (.mv (.k (.bool false)))]) .ret) .skip)))) (.region [oM 21 11, oP 22 (.bin .add (.t 21) (kI 1)), oM 11 22])))))) (.seq (.region [oP 10 (.mv (.k (.bool true)))]) .ret)))⟩
theorem c_spec_l5Refers_ok : compFn Tryz.prog [] 283 = some c_spec_l5Refers := by kernel_rfl
def c_slices_IndexFunc_Term : AFn := ⟨19, [.t 4], (.seq (.region [oP 4 (.mv (kI 0))]) (.seq (.seq (.region [oM 6 0, oP 7 (.len false (.t 6)), oP 8 (.mv (kI 0))]) (.block 0 (.loop (.seq (.region [oP 9 (.bin .lss (.t 8) (.t 7))]) (.seq (.cond (.t 9) .skip (.exit 0)) (.seq (.block 1 (.seq (.region [oM 10 8, oM 5 10]) (.seq (.region [oM 11 1, oM 12 0, oM 13 5, oP 14 (.iaddr 1 (.t 12) (.t 13)), oP 15 (.load true 1 (.t 14)), ⟨some 16, .call (.t 11) [(.t 15)], none⟩]) (.cond (.t 16) (.seq (.region [oM 17 5, oM 4 17]) .ret) .skip)))) (.region [oP 18 (.bin .add (.t 8) (kI 1)), oM 8 18]))))))) (.seq (.region [oP 4 (.mv (kI (-1)))]) .ret)))⟩
theorem c_slices_IndexFunc_Term_ok : compFn Tryz.prog [] 284 = some c_slices_IndexFunc_Term := by kernel_rfl
def c_slices_rotateCmpFunc_Row : AFn := ⟨58, [], (.seq (.region [oM 12 2, oM 13 1, oP 14 (.bin .sub (.t 12) (.t 13)), oM 10 14]) (.seq (.region [oM 15 3, oM 16 2, oP 17 (.bin .sub (.t 15) (.t 16)), oM 11 17]) (.seq (.block 0 (.loop (.seq (.seq (.region [oM 18 10, oM 19 11, oP 20 (.bin .neq (.t 18) (.t 19))]) (.cond (.t 20) .skip (.exit 0))) (.block 1 (.seq (.region [oM 21 10, oM 22 11, oP 23 (.bin .gtr (.t 21) (.t 22))]) (.cond (.t 23) (.seq (.region [oM 24 0, oM 25 2, oM 26 10, oP 27 (.bin .sub (.t 25) (.t 26)), oM 28 2, oM 29 11, oM 30 4, oC 31 300 [(.t 24), (.t 27), (.t 28), (.t 29), (.t 30)]]) (.region [oM 32 10, oM 33 11, oP 34 (.bin .sub (.t 32) (.t 33)), oM 10 34])) (.seq (.region [oM 35 0, oM 36 2, oM 37 10, oP 38 (.bin .sub (.t 36) (.t 37)), oM 39 2, oM 40 11, oP 41 (.bin .add (.t 39) (.t 40)), oM 42 10, oP 43 (.bin .sub (.t 41) (.t 42)), oM 44 10, oM 45 4, oC 46 300 [(.t 35), (.t 38), (.t 43), (.t 44), (.t 45)]]) (.region [oM 47 11, oM 48 10, oP 49 (.bin .sub (.t 47) (.t 48)), oM 11 49])))))))) (.region [oM 50 0, oM 51 2, oM 52 10, oP 53 (.bin .sub (.t 51) (.t 52)), oM 54 2, oM 55 10, oM 56 4, oC 57 300 [(.t 50), (.t 53), (.t 54), (.t 55), (.t 56)]]))))⟩
theorem c_slices_rotateCmpFunc_Row_ok : compFn Tryz.prog [] 285 = some c_slices_rotateCmpFunc_Row := by kernel_rfl
def c_impl_areKnown : AFn := ⟨21, [.t 4], (.seq (.region [oP 2 (.box true (.t 0)), oP 3 (.box true (.t 1)), oP 4 (.mv (.k (.bool false)))]) (.seq (.region [oP 5 (.load true 3 (.t 2)), oC 6 94 [(.t 5)], oM 7 6, oT 8 (.load true 3 (.t 3)) 7, ⟨some 9, .call (.f 94) [(.t 8)], (some (7, true))⟩, oP 10 (.pick (.t 7) (.t 9) (.k (.bool false))), oM 11 10, oT 12 (.faddr 0 (.t 2)) 11, oT 13 (.load false 1 (.t 12)) 11, oT 14 (.bin .neq (.t 13) (kI 0)) 11, oP 15 (.pick (.t 11) (.t 14) (.k (.bool false))), oM 16 15, oT 17 (.faddr 0 (.t 3)) 16, oT 18 (.load false 1 (.t 17)) 16, oT 19 (.bin .neq (.t 18) (kI 0)) 16, oP 20 (.pick (.t 16) (.t 19) (.k (.bool false))), oM 4 20]) .ret))⟩
theorem c_impl_areKnown_ok : compFn Tryz.prog [2, 3] 286 = some c_impl_areKnown := by kernel_rfl
def c_impl_areTruths : AFn := ⟨6, [.t 2], (.seq (.region [oP 2 (.mv (.k (.bool false)))]) (.seq (.region [oM 3 0, oC 4 262 [(.t 3), (.f 301)], oP 5 (.un .not (.t 4)), oM 2 5]) .ret))⟩
theorem c_impl_areTruths_ok : compFn Tryz.prog [] 287 = some c_impl_areTruths := by kernel_rfl
def c_spec_l2Tru : AFn := ⟨5, [.t 2], (.seq (.region [oP 2 (.mv (.k (.bool false)))]) (.seq (.region [oM 3 0, oC 4 173 [(.t 3), (kI 0), (kI 2)], oM 2 4]) .ret))⟩
theorem c_spec_l2Tru_ok : compFn Tryz.prog [] 288 = some c_spec_l2Tru := by kernel_rfl
def c_slices_ContainsFunc_Col : AFn := ⟨9, [.t 4], (.seq (.region [oP 4 (.mv (.k (.bool false)))]) (.seq (.region [oM 5 0, oM 6 1, oC 7 302 [(.t 5), (.t 6)], oP 8 (.bin .geq (.t 7) (kI 0)), oM 4 8]) .ret))⟩
theorem c_slices_ContainsFunc_Col_ok : compFn Tryz.prog [] 291 = some c_slices_ContainsFunc_Col := by kernel_rfl
def c_impl_areCols_1 : AFn := ⟨9, [.t 3], (.seq (.region [oP 2 (.box true (.t 0)), oP 3 (.mv (.k (.bool false)))]) (.seq (.region [oP 4 (.faddr 0 (.t 2)), oP 5 (.load false 1 (.t 4)), oP 6 (.faddr 0 (.t 1)), oP 7 (.load false 1 (.t 6)), oP 8 (.bin .eql (.t 5) (.t 7)), oM 3 8]) .ret))⟩
theorem c_impl_areCols_1_ok : compFn Tryz.prog [2] 292 = some c_impl_areCols_1 := by kernel_rfl
def c_slices_IndexFunc_int64_int64' : AFn := ⟨19, [.t 4], (.seq (.region [oP 4 (.mv (kI 0))]) (.seq (.seq (.region [oM 6 0, oP 7 (.len false (.t 6)), oP 8 (.mv (kI 0))]) (.block 0 (.loop (.seq (.region [oP 9 (.bin .lss (.t 8) (.t 7))]) (.seq (.cond (.t 9) .skip (.exit 0)) (.seq (.block 1 (.seq (.region [oM 10 8, oM 5 10]) (.seq (.region [oM 11 1, oM 12 0, oM 13 5, oP 14 (.iaddr 1 (.t 12) (.t 13)), oP 15 (.load false 1 (.t 14)), ⟨some 16, .call (.t 11) [(.t 15)], none⟩]) (.cond (.t 16) (.seq (.region [oM 17 5, oM 4 17]) .ret) .skip)))) (.region [oP 18 (.bin .add (.t 8) (kI 1)), oM 8 18]))))))) (.seq (.region [oP 4 (.mv (kI (-1)))]) .ret)))⟩
theorem c_slices_IndexFunc_int64_int64'_ok : compFn Tryz.prog [] 293 = some c_slices_IndexFunc_int64_int64' := by kernel_rfl
def c_slices_IndexFunc_Unique : AFn := ⟨19, [.t 4], (.seq (.region [oP 4 (.mv (kI 0))]) (.seq (.seq (.region [oM 6 0, oP 7 (.len false (.t 6)), oP 8 (.mv (kI 0))]) (.block 0 (.loop (.seq (.region [oP 9 (.bin .lss (.t 8) (.t 7))]) (.seq (.cond (.t 9) .skip (.exit 0)) (.seq (.block 1 (.seq (.region [oM 10 8, oM 5 10]) (.seq (.region [oM 11 1, oM 12 0, oM 13 5, oP 14 (.iaddr 1 (.t 12) (.t 13)), oP 15 (.load true 1 (.t 14)), ⟨some 16, .call (.t 11) [(.t 15)], none⟩]) (.cond (.t 16) (.seq (.region [oM 17 5, oM 4 17]) .ret) .skip)))) (.region [oP 18 (.bin .add (.t 8) (kI 1)), oM 8 18]))))))) (.seq (.region [oP 4 (.mv (kI (-1)))]) .ret)))⟩
theorem c_slices_IndexFunc_Unique_ok : compFn Tryz.prog [] 294 = some c_slices_IndexFunc_Unique := by kernel_rfl
def c_spec_l4Nulls : AFn := ⟨26, [.t 4], (.seq (.region [oP 2 (.box true (.t 0)), oP 4 (.mv (.k (.bool false)))]) (.seq (.seq (.region [oP 5 (.mv (kI 0))]) (.block 0 (.loop (.seq (.seq (.region [oM 6 5, oM 7 1, oP 8 (.len false (.t 7)), oP 9 (.bin .lss (.t 6) (.t 8))]) (.cond (.t 9) .skip (.exit 0))) (.seq (.block 1 (.seq (.region [oP 12 (.faddr 1 (.t 2)), oP 13 (.load false 1 (.t 12)), oM 14 5, oP 15 (.iaddr 6 (.t 13) (.t 14)), oP 16 (.faddr 2 (.t 15)), oP 17 (.load false 1 (.t 16)), oM 18 17, oT 19 (.mv (.t 1)) 18, oT 20 (.mv (.t 5)) 18, oT 21 (.iaddr 3 (.t 19) (.t 20)) 18, oT 22 (.faddr 0 (.t 21)) 18, oT 23 (.load false 1 (.t 22)) 18, oT 24 (.bin .eql (.t 23) (kI 0)) 18, oP 25 (.pick (.t 18) (.t 24) (.k (.bool false)))]) (.cond (.t 25) (.seq (.region [oP 4 (.mv (.k (.bool false)))]) .ret) .skip))) (.region [oM 10 5, oP 11 (.bin .add (.t 10) (kI 1)), oM 5 11])))))) (.seq (.region [oP 4 (.mv (.k (.bool true)))]) .ret)))⟩
theorem c_spec_l4Nulls_ok : compFn Tryz.prog [2] 295 = some c_spec_l4Nulls := by kernel_rfl
def c_spec_l4Checks : AFn := ⟨28, [.t 4], (.seq (.region [oP 2 (.box true (.t 0)), oP 4 (.mv (.k (.bool false)))]) (.seq (.seq (.region [oP 5 (.mv (kI 0))]) (.block 0 (.loop (.seq (.seq (.region [oM 7 5, oP 8 (.faddr 4 (.t 2)), oP 9 (.load false 1 (.t 8)), oP 10 (.len false (.t 9)), oP 11 (.bin .lss (.t 7) (.t 10))]) (.cond (.t 11) .skip (.exit 0))) (.seq (.block 1 (.seq (.region [oP 14 (.faddr 4 (.t 2)), oP 15 (.load false 1 (.t 14)), oM 16 5, oP 17 (.iaddr 1 (.t 15) (.t 16)), oP 18 (.faddr 0 (.t 17)), oP 19 (.load false 1 (.t 18)), oM 20 1, oC 21 176 [(.t 19), (.t 20)], oM 6 21]) (.seq (.region [oM 22 6, oP 23 (.bin .eql (.t 22) (kI 0)), oM 24 23, oF 25 (.mv (.t 6)) 24, oF 26 (.bin .lss (.t 25) (kI 0)) 24, oP 27 (.pick (.t 24) (.k (.bool true)) (.t 26))]) (.cond (.t 27) (.seq (.region [oP 4 (.mv (.k (.bool false)))]) .ret) .skip)))) (.region [oM 12 5, oP 13 (.bin .add (.t 12) (kI 1)), oM 5 13])))))) (.seq (.region [oP 4 (.mv (.k (.bool true)))]) .ret)))⟩
theorem c_spec_l4Checks_ok : compFn Tryz.prog [2] 296 = some c_spec_l4Checks := by kernel_rfl
def c_spec_l6Rivals : AFn := ⟨49, [.t 6], (.seq (.region [oP 3 (.box true (.t 0)), oP 4 (.box true (.t 1)), oP 5 (.box true (.t 2)), oP 6 (.mv (.k (.nils)))]) (.seq (.region [oP 9 (.mksl false 1 0 [.int .i64 0] []), oM 7 9]) (.seq (.seq (.region [oP 8 (.mv (kI 0))]) (.block 0 (.loop (.seq (.seq (.region [oM 10 8, oP 11 (.faddr 0 (.t 4)), oP 12 (.load false 1 (.t 11)), oP 13 (.len false (.t 12)), oP 14 (.bin .lss (.t 10) (.t 13))]) (.cond (.t 14) .skip (.exit 0))) (.seq (.block 1 (.seq (.draw [[oP 17 (.faddr 0 (.t 4)), oP 18 (.load false 1 (.t 17)), oM 19 8, oP 20 (.iaddr 2 (.t 18) (.t 19)), oP 21 (.faddr 0 (.t 20)), oP 22 (.load false 1 (.t 21)), oP 23 (.faddr 0 (.t 5)), oP 24 (.load false 1 (.t 23))], [oP 25 (.bin .neq (.t 22) (.t 24))], [oM 26 25], [oT 27 (.load true 6 (.t 3)) 26, oT 28 (.faddr 0 (.t 4)) 26, oT 29 (.load false 1 (.t 28)) 26, oT 30 (.mv (.t 8)) 26, oT 31 (.iaddr 2 (.t 29) (.t 30)) 26, oT 32 (.load true 2 (.t 31)) 26, oT 33 (.mksl true 2 1 [.int .i64 0, .nils] [(0, (.t 32))]) 26, oT 34 (.build [.nils] [(0, 1, (.t 33))]) 26, oT 35 (.load true 2 (.t 5)) 26], [⟨some 36, .call (.f 303) [(.t 27), (.t 34), (.t 35)], (some (26, true))⟩], [oT 37 (.un .not (.t 36)) 26], [oP 38 (.pick (.t 26) (.t 37) (.k (.bool false)))]]) (.cond (.t 38) (.region [oM 39 7, oP 40 (.faddr 0 (.t 4)), oP 41 (.load false 1 (.t 40)), oM 42 8, oP 43 (.iaddr 2 (.t 41) (.t 42)), oP 44 (.faddr 0 (.t 43)), oP 45 (.load false 1 (.t 44)), oP 46 (.mksl true 1 1 [.int .i64 0] [(0, (.t 45))]), oP 47 (.app 1 8 (.t 39) (.t 46)), oM 7 47]) .skip))) (.region [oM 15 8, oP 16 (.bin .add (.t 15) (kI 1)), oM 8 16])))))) (.seq (.region [oM 48 7, oM 6 48]) .ret))))⟩
theorem c_spec_l6Rivals_ok : compFn Tryz.prog [3, 4, 5, 33, 46] 297 = some c_spec_l6Rivals := by kernel_rfl
def c_spec_l5Parent : AFn := ⟨40, [.t 8], (.seq (.region [oP 6 (.box true (.t 2)), oP 8 (.mv (.k (.bool false)))]) (.seq (.region [oP 13 (.faddr 0 (.t 6)), oP 14 (.load false 1 (.t 13)), oM 15 3, oC 16 304 [(.t 14), (.t 15)], oM 12 16, oP 17 (.ext (.t 12) 0), oP 18 (.ext (.t 12) 1), oM 9 17, oM 10 18]) (.seq (.region [oM 19 0, oP 20 (.faddr 1 (.t 6)), oP 21 (.load false 1 (.t 20)), oC 22 87 [(.t 19), (.t 21)], oM 11 22]) (.seq (.draw [[oM 23 10], [oP 24 (.un .not (.t 23))], [oM 25 24], [oF 26 (.mv (.t 1)) 25, oF 27 (.mv (.t 11)) 25, oF 28 (.iaddr 1 (.t 26) (.t 27)) 25, oF 29 (.load true 1 (.t 28)) 25, oF 30 (.mv (.t 0)) 25, oF 31 (.mv (.t 11)) 25, oF 32 (.iaddr 6 (.t 30) (.t 31)) 25, oF 33 (.faddr 2 (.t 32)) 25, oF 34 (.load false 1 (.t 33)) 25, oF 35 (.mv (.t 9)) 25], [⟨some 36, .call (.f 307) [(.t 29), (.t 34), (.t 35)], (some (25, false))⟩], [oF 37 (.len false (.t 36)) 25], [oF 38 (.bin .gtr (.t 37) (kI 0)) 25], [oP 39 (.pick (.t 25) (.k (.bool true)) (.t 38))], [oM 8 39]]) .ret))))⟩
theorem c_spec_l5Parent_ok : compFn Tryz.prog [6] 299 = some c_spec_l5Parent := by kernel_rfl
def c_slices_swapRangeCmpFunc_Row : AFn := ⟨38, [], (.seq (.region [oP 10 (.mv (kI 0))]) (.block 0 (.loop (.seq (.seq (.region [oM 11 10, oM 12 3, oP 13 (.bin .lss (.t 11) (.t 12))]) (.cond (.t 13) .skip (.exit 0))) (.seq (.block 1 (.draw [[oM 16 0, oM 17 1, oM 18 10, oP 19 (.bin .add (.t 17) (.t 18)), oM 20 0, oM 21 2, oM 22 10, oP 23 (.bin .add (.t 21) (.t 22)), oM 24 0, oM 25 2, oM 26 10, oP 27 (.bin .add (.t 25) (.t 26)), oP 28 (.iaddr 2 (.t 24) (.t 27)), oP 29 (.load true 2 (.t 28)), oM 30 0, oM 31 1, oM 32 10, oP 33 (.bin .add (.t 31) (.t 32)), oP 34 (.iaddr 2 (.t 30) (.t 33)), oP 35 (.load true 2 (.t 34)), oP 36 (.iaddr 2 (.t 16) (.t 19)), ⟨none, .op (.store 2 (.t 36) (.t 29)), none⟩], [oP 37 (.iaddr 2 (.t 20) (.t 23))], [⟨none, .op (.store 2 (.t 37) (.t 35)), none⟩]])) (.region [oM 14 10, oP 15 (.bin .add (.t 14) (kI 1)), oM 10 15]))))))⟩
theorem c_slices_swapRangeCmpFunc_Row_ok : compFn Tryz.prog [] 300 = some c_slices_swapRangeCmpFunc_Row := by kernel_rfl
def c_impl_areTruths_1 : AFn := ⟨6, [.t 2], (.seq (.region [oP 2 (.mv (.k (.bool false)))]) (.seq (.region [oM 3 0, oC 4 125 [(.t 3), (kI 0), (kI 2)], oP 5 (.un .not (.t 4)), oM 2 5]) .ret))⟩
theorem c_impl_areTruths_1_ok : compFn Tryz.prog [] 301 = some c_impl_areTruths_1 := by kernel_rfl
def c_slices_IndexFunc_Col : AFn := ⟨19, [.t 4], (.seq (.region [oP 4 (.mv (kI 0))]) (.seq (.seq (.region [oM 6 0, oP 7 (.len false (.t 6)), oP 8 (.mv (kI 0))]) (.block 0 (.loop (.seq (.region [oP 9 (.bin .lss (.t 8) (.t 7))]) (.seq (.cond (.t 9) .skip (.exit 0)) (.seq (.block 1 (.seq (.region [oM 10 8, oM 5 10]) (.seq (.region [oM 11 1, oM 12 0, oM 13 5, oP 14 (.iaddr 6 (.t 12) (.t 13)), oP 15 (.load true 6 (.t 14)), ⟨some 16, .call (.t 11) [(.t 15)], none⟩]) (.cond (.t 16) (.seq (.region [oM 17 5, oM 4 17]) .ret) .skip)))) (.region [oP 18 (.bin .add (.t 8) (kI 1)), oM 8 18]))))))) (.seq (.region [oP 4 (.mv (kI (-1)))]) .ret)))⟩
theorem c_slices_IndexFunc_Col_ok : compFn Tryz.prog [] 302 = some c_slices_IndexFunc_Col := by kernel_rfl
def c_spec_l5Unique : AFn := ⟨29, [.t 6], (.seq (.region [oP 3 (.box true (.t 0)), oP 4 (.box true (.t 1)), oP 5 (.box true (.t 2)), oP 6 (.mv (.k (.bool false)))]) (.seq (.seq (.region [oP 8 (.load true 1 (.t 4)), oP 9 (.faddr 2 (.t 3)), oP 10 (.load false 1 (.t 9)), oP 11 (.load true 2 (.t 5)), oC 12 308 [(.t 8), (.t 10), (.t 11)]]) (.cond (.t 12) (.seq (.region [oP 6 (.mv (.k (.bool false)))]) .ret) .skip)) (.seq (.seq (.region [oP 7 (.mv (kI 0))]) (.block 0 (.loop (.seq (.seq (.region [oM 13 7, oP 14 (.faddr 3 (.t 3)), oP 15 (.load false 1 (.t 14)), oP 16 (.len false (.t 15)), oP 17 (.bin .lss (.t 13) (.t 16))]) (.cond (.t 17) .skip (.exit 0))) (.seq (.block 1 (.seq (.draw [[oP 20 (.load true 1 (.t 4)), oP 21 (.faddr 3 (.t 3)), oP 22 (.load false 1 (.t 21)), oM 23 7, oP 24 (.iaddr 1 (.t 22) (.t 23)), oP 25 (.faddr 0 (.t 24)), oP 26 (.load false 1 (.t 25)), oP 27 (.load true 2 (.t 5))], [oC 28 308 [(.t 20), (.t 26), (.t 27)]]]) (.cond (.t 28) (.seq (.region [oP 6 (.mv (.k (.bool false)))]) .ret) .skip))) (.region [oM 18 7, oP 19 (.bin .add (.t 18) (kI 1)), oM 7 19])))))) (.seq (.region [oP 6 (.mv (.k (.bool true)))]) .ret))))⟩
theorem c_spec_l5Unique_ok : compFn Tryz.prog [3, 4, 5] 303 = some c_spec_l5Unique := by kernel_rfl
def c_spec_l4Key : AFn := ⟨36, [.t 4, .t 5], (.seq (.region [oP 4 (.mv (.k (.nils))), oP 5 (.mv (.k (.bool false)))]) (.seq (.region [oP 10 (.mksl false 3 0 [.int .i64 0, .int .i64 0, .str []] []), oM 6 10]) (.seq (.region [oP 7 (.mv (.k (.bool true)))]) (.seq (.seq (.region [oP 8 (.mv (kI 0))]) (.block 0 (.loop (.seq (.seq (.region [oM 11 8, oM 12 0, oP 13 (.len false (.t 12)), oP 14 (.bin .lss (.t 11) (.t 13))]) (.cond (.t 14) .skip (.exit 0))) (.seq (.block 1 (.seq (.region [oM 17 1, oM 18 0, oM 19 8, oP 20 (.iaddr 1 (.t 18) (.t 19)), oP 21 (.load false 1 (.t 20)), oP 22 (.iaddr 3 (.t 17) (.t 21)), oP 23 (.load true 3 (.t 22)), oP 9 (.alloc [.int .i64 0, .int .i64 0, .str []]), ⟨none, .op (.store 3 (.t 9) (.t 23)), none⟩]) (.seq (.region [oM 24 6, oP 25 (.load true 3 (.t 9)), oP 26 (.mksl true 3 1 [.int .i64 0, .int .i64 0, .str []] [(0, (.t 25))]), oP 27 (.app 3 32 (.t 24) (.t 26)), oM 6 27]) (.region [oM 28 7, oM 29 28, oT 30 (.faddr 0 (.t 9)) 29, oT 31 (.load false 1 (.t 30)) 29, oT 32 (.bin .neq (.t 31) (kI 0)) 29, oP 33 (.pick (.t 29) (.t 32) (.k (.bool false))), oM 7 33])))) (.region [oM 15 8, oP 16 (.bin .add (.t 15) (kI 1)), oM 8 16])))))) (.seq (.region [oM 34 6, oM 35 7, oM 4 34, oM 5 35]) .ret)))))⟩
theorem c_spec_l4Key_ok : compFn Tryz.prog [26] 304 = some c_spec_l4Key := by kernel_rfl
def c_spec_l4Find : AFn := ⟨46, [.t 6], (.seq (.region [oP 3 (.box true (.t 0)), oP 6 (.mv (.k (.nils)))]) (.seq (.region [oP 11 (.mksl false 1 0 [.int .i64 0] []), oM 7 11]) (.seq (.seq (.region [oP 8 (.mv (kI 0))]) (.block 0 (.loop (.seq (.seq (.region [oM 12 8, oP 13 (.faddr 0 (.t 3)), oP 14 (.load false 1 (.t 13)), oP 15 (.len false (.t 14)), oP 16 (.bin .lss (.t 12) (.t 15))]) (.cond (.t 16) .skip (.exit 0))) (.seq (.block 1 (.seq (.region [oM 20 1, oP 21 (.faddr 0 (.t 3)), oP 22 (.load false 1 (.t 21)), oM 23 8, oP 24 (.iaddr 2 (.t 22) (.t 23)), oP 25 (.faddr 1 (.t 24)), oP 26 (.load false 1 (.t 25)), oC 27 304 [(.t 20), (.t 26)], oM 19 27, oP 28 (.ext (.t 19) 0), oP 29 (.ext (.t 19) 1), oM 9 28, oM 10 29]) (.seq (.region [oM 30 10, oM 31 30, oT 32 (.mv (.t 9)) 31, oT 33 (.mv (.t 2)) 31, ⟨some 34, .call (.f 310) [(.t 32), (.t 33)], (some (31, true))⟩, oP 35 (.pick (.t 31) (.t 34) (.k (.bool false)))]) (.cond (.t 35) (.region [oM 36 7, oP 37 (.faddr 0 (.t 3)), oP 38 (.load false 1 (.t 37)), oM 39 8, oP 40 (.iaddr 2 (.t 38) (.t 39)), oP 41 (.faddr 0 (.t 40)), oP 42 (.load false 1 (.t 41)), oP 43 (.mksl true 1 1 [.int .i64 0] [(0, (.t 42))]), oP 44 (.app 1 8 (.t 36) (.t 43)), oM 7 44]) .skip)))) (.region [oM 17 8, oP 18 (.bin .add (.t 17) (kI 1)), oM 8 18])))))) (.seq (.region [oM 45 7, oM 6 45]) .ret))))⟩
theorem c_spec_l4Find_ok : compFn Tryz.prog [3, 43] 307 = some c_spec_l4Find := by kernel_rfl
def c_spec_l5Twice : AFn := ⟨37, [.t 6], (.seq (.region [oP 3 (.box true (.t 0)), oP 5 (.box true (.t 2)), oP 6 (.mv (.k (.bool false)))]) (.seq (.region [oM 12 1, oP 13 (.faddr 1 (.t 5)), oP 14 (.load false 1 (.t 13)), oC 15 304 [(.t 12), (.t 14)], oM 11 15, oP 16 (.ext (.t 11) 0), oP 17 (.ext (.t 11) 1), oM 7 16, oM 8 17]) (.seq (.seq (.region [oM 18 8, oP 19 (.un .not (.t 18))]) (.cond (.t 19) (.seq (.region [oP 6 (.mv (.k (.bool false)))]) .ret) .skip)) (.seq (.region [oP 20 (.load true 1 (.t 3)), oM 21 1, oM 22 7, oC 23 307 [(.t 20), (.t 21), (.t 22)], oM 9 23]) (.seq (.seq (.region [oP 10 (.mv (kI 0))]) (.block 0 (.loop (.seq (.seq (.region [oM 24 10, oM 25 9, oP 26 (.len false (.t 25)), oP 27 (.bin .lss (.t 24) (.t 26))]) (.cond (.t 27) .skip (.exit 0))) (.seq (.block 1 (.seq (.draw [[oM 30 9, oM 31 10, oP 32 (.iaddr 1 (.t 30) (.t 31)), oP 33 (.load false 1 (.t 32)), oP 34 (.faddr 0 (.t 5)), oP 35 (.load false 1 (.t 34))], [oP 36 (.bin .neq (.t 33) (.t 35))]]) (.cond (.t 36) (.seq (.region [oP 6 (.mv (.k (.bool true)))]) .ret) .skip))) (.region [oM 28 10, oP 29 (.bin .add (.t 28) (kI 1)), oM 10 29])))))) (.seq (.region [oP 6 (.mv (.k (.bool false)))]) .ret))))))⟩
theorem c_spec_l5Twice_ok : compFn Tryz.prog [3, 5] 308 = some c_spec_l5Twice := by kernel_rfl
def c_spec_l1SameVals : AFn := ⟨26, [.t 4], (.seq (.region [oP 4 (.mv (.k (.bool false)))]) (.seq (.seq (.region [oM 6 0, oP 7 (.len false (.t 6)), oM 8 1, oP 9 (.len false (.t 8)), oP 10 (.bin .neq (.t 7) (.t 9))]) (.cond (.t 10) (.seq (.region [oP 4 (.mv (.k (.bool false)))]) .ret) .skip)) (.seq (.seq (.region [oP 5 (.mv (kI 0))]) (.block 0 (.loop (.seq (.seq (.region [oM 11 5, oM 12 0, oP 13 (.len false (.t 12)), oP 14 (.bin .lss (.t 11) (.t 13))]) (.cond (.t 14) .skip (.exit 0))) (.seq (.block 1 (.seq (.draw [[oM 17 0, oM 18 5, oP 19 (.iaddr 3 (.t 17) (.t 18)), oP 20 (.load true 3 (.t 19)), oM 21 1, oM 22 5, oP 23 (.iaddr 3 (.t 21) (.t 22)), oP 24 (.load true 3 (.t 23))], [oP 25 (.eq true true [.i, .i, .s] (.t 20) (.t 24))]]) (.cond (.t 25) (.seq (.region [oP 4 (.mv (.k (.bool false)))]) .ret) .skip))) (.region [oM 15 5, oP 16 (.bin .add (.t 15) (kI 1)), oM 5 16])))))) (.seq (.region [oP 4 (.mv (.k (.bool true)))]) .ret))))⟩
theorem c_spec_l1SameVals_ok : compFn Tryz.prog [] 310 = some c_spec_l1SameVals := by kernel_rfl
end Go.Proofs.YtinbdedlmkjokaaGreat.Am

/- Values: contracts of the functions that know them. -/
set_option linter.unusedVariables false
set_option linter.unusedSimpArgs false
namespace Go.Proofs.YtinbdedlmkjokaaGreat.Am
theorem mixed : Tryz.prog.follows .mixedOrders = true := Tryz.checked.mixed

structure Val where
  k : Int
  n : Int
  s : List UInt8
  deriving DecidableEq
def encV (v : Val) : List Ce := [.int .i64 v.k, .int .i64 v.n, .str v.s]
def isIn (n lo hi : Int) : Bool := decide (lo ≤ n) && decide (n ≤ hi)
def okVal (v : Val) : Bool := (v.k == 0 && v.n == 0 && v.s == []) || (v.k == 1 && isIn v.n (-1000000000) 1000000000 && v.s == []) || (v.k == 2 && v.n == 0 && decide ((v.s.length : Int) ≤ 12))
def cmpI (a b : Int) : Int := if a < b then -1 else if b < a then 1 else 0
def cmpS (a b : List UInt8) : Int := if bytesLt a b then -1 else if a == b then 0 else 1
def orI : List Int → Int
  | [] => 0
  | n :: r => if n = 0 then orI r else n
def encI (n : Int) : List Ce := [.int .i64 n]
def order (v w : Val) : Int := orI [cmpI v.k w.k, cmpI v.n w.n, cmpS v.s w.s]

theorem in_ok (n lo hi : Int) : Pure Tryz.prog 125 [.c (.int .i64 n), .c (.int .i64 lo), .c (.int .i64 hi)] (.c (.bool (isIn n lo hi))) := by
  refine Pure.run mixed c_impl_in_ok (Nat.le_of_ble_eq_true rfl) fun σ hS hA => ?_
  clear hS hA
  repeat' first|refine yaG ?_|(exfalso;omega)|(refine yaS ?_ ?_<;>intro _)
  all_goals refine .ret rfl (.bool ?_)
  all_goals (simp_all [isIn] <;> omega)
theorem l1In_ok (n lo hi : Int) : Pure Tryz.prog 173 [.c (.int .i64 n), .c (.int .i64 lo), .c (.int .i64 hi)] (.c (.bool (isIn n lo hi))) := by
  refine Pure.run mixed c_spec_l1In_ok (Nat.le_of_ble_eq_true rfl) fun σ hS hA => ?_
  clear hS hA
  repeat' first|refine yaG ?_|(exfalso;omega)|(refine yaS ?_ ?_<;>intro _)
  all_goals refine .ret rfl (.bool ?_)
  all_goals (simp_all [isIn] <;> omega)
theorem ValOk_ok (v : Val) : Pure Tryz.prog 94 [.agg (encV v)] (.c (.bool (okVal v))) := by
  refine Pure.run mixed c_impl_ValOk_ok (Nat.le_of_ble_eq_true rfl) fun σ hS hA => ?_
  clear hS hA
  repeat' first|refine yaG ?_|((first|apply Go.pcallB|apply Go.spcallB|apply Qg.pcallB);(iterate 3 exact rfl);exact in_ok _ _ _;intro _ _)|(exfalso;omega)|(refine yaS ?_ ?_<;>intro _)
  all_goals refine .ret rfl (.bool ?_)
  all_goals simp_all [okVal]
theorem sValOk_ok (v : Val) : Pure Tryz.prog 253 [.agg (encV v)] (.c (.bool (okVal v))) := by
  refine Pure.run mixed c_spec_ValOk_ok (Nat.le_of_ble_eq_true rfl) fun σ hS hA => ?_
  clear hS hA
  repeat' first|refine yaG ?_|((first|apply Go.pcallB|apply Go.spcallB|apply Qg.pcallB);(iterate 3 exact rfl);exact l1In_ok _ _ _;intro _ _)|(exfalso;omega)|(refine yaS ?_ ?_<;>intro _)
  all_goals refine .ret rfl (.bool ?_)
  all_goals simp_all [okVal]
theorem isNaN_ok (n : Int) : Pure Tryz.prog 167 [.c (.int .i64 n)] (.c (.bool false)) := by
  refine Pure.run mixed c_cmp_isNaN_int64_ok (Nat.le_of_ble_eq_true rfl) fun σ hS hA => ?_
  repeat' first|refine yaG ?_|(exfalso;omega)|(refine yaS ?_ ?_<;>intro _)
  all_goals refine .ret rfl (.bool (by simp))
theorem isNaNS_ok (n : List UInt8) : Pure Tryz.prog 254 [.c (.str n)] (.c (.bool false)) := by
  refine Pure.run mixed c_cmp_isNaN_string_ok (Nat.le_of_ble_eq_true rfl) fun σ hS hA => ?_
  repeat' first|refine yaG ?_|(exfalso;omega)|(refine yaS ?_ ?_<;>intro _)
  all_goals refine .ret rfl (.bool (by simp))
theorem Compare_ok (a b : Int) : Pure Tryz.prog 83 [.c (.int .i64 a), .c (.int .i64 b)] (.c (.int .i64 (cmpI a b))) := by
  refine Pure.run mixed c_cmp_Compare_int64_ok (Nat.le_of_ble_eq_true rfl) fun σ hS hA => ?_
  clear hS hA
  repeat' first|refine yaG ?_|refine yaC (isNaN_ok _) ?_|(exfalso;omega)|(refine yaS ?_ ?_<;>intro _)
  all_goals refine .ret rfl (.int ?_)
  all_goals unfold cmpI
  all_goals repeat' split
  all_goals omega
theorem CompareS_ok (a b : List UInt8) : Pure Tryz.prog 184 [.c (.str a), .c (.str b)] (.c (.int .i64 (cmpS a b))) := by
  refine Pure.run mixed c_cmp_Compare_string_ok (Nat.le_of_ble_eq_true rfl) fun σ hS hA => ?_
  clear hS hA
  repeat' first|refine yaG ?_|refine yaC (isNaNS_ok _) ?_|(exfalso;omega)|(refine yaS ?_ ?_<;>intro _)
  all_goals refine .ret rfl (.int ?_)
  all_goals unfold cmpS
  all_goals repeat' split
  all_goals simp_all
theorem Or_ok (xs : List Int) (hx : xs.length ≤ 34359738368) : Pure Tryz.prog 81 [.c (.fz (xs.map encI))] (.c (.int .i64 (orI xs))) := by
  refine Pure.run mixed c_cmp_Or_int_ok (Nat.le_of_ble_eq_true rfl) fun σ hS hA => ?_
  clear hS hA
  repeat' first|refine yaG ?_|(exfalso;omega)|(refine yaS ?_ ?_<;>intro _)
  refine Go.keep [3, 6, 7, 8] (Go.loops (I := fun m fr τ => ∃ i : Nat, ∃ n L : Int, m = xs.length - i ∧ i ≤ xs.length ∧ n = i ∧ L = xs.length ∧ orI xs = orI (xs.drop i) ∧
    fr = [(3, .c (.int .i64 0)), (6, .c (.fz (xs.map encI))), (7, .c (.int .i64 L)), (8, .c (.int .i64 n))] ∧ τ = E σ []) ?_ _ _ _ ⟨0, _, _, rfl, Nat.zero_le _, rfl, by simp, rfl, rfl, rfl⟩)
  rintro m fr τ ⟨i, n, L, rfl, hi, hn, hL, hs, rfl, rfl⟩ hrec
  repeat' first|refine yaG ?_|((first|apply yG|apply yH|apply yI);exact rfl;(first|exact yX (enc := encI) rfl rfl hn (by omega) rfl))|(exfalso;omega)|(refine yaS ?_ ?_<;>intro _)
  · refine .ret rfl (.int ?_)
    rw [hs, List.drop_eq_getElem_cons (by omega)]
    simp [orI, *]
  · refine Go.keep [3, 6, 7, 8] (hrec _ _ _ ?_ ⟨i + 1, _, _, rfl, ?_, ?_, hL, ?_, rfl, rfl⟩)
    · omega
    · omega
    · exact (wrap_succ hn (by omega))
    · rw [hs, List.drop_eq_getElem_cons (by omega)]
      simp [orI, *]
  · refine .ret rfl (.int ?_)
    rw [hs, List.drop_eq_nil_of_le (by omega)]
    rfl
theorem order_ok (v w : Val) : Pure Tryz.prog 95 [.agg (encV v), .agg (encV w)] (.c (.int .i64 (order v w))) := by
  refine Pure.run mixed c_impl_order_ok (Nat.le_of_ble_eq_true rfl) fun σ hS hA => ?_
  clear hS hA
  repeat' first|refine yaG ?_|refine yaC (Compare_ok _ _) ?_|refine yaC (CompareS_ok _ _) ?_|refine yaC (Or_ok [cmpI v.k w.k, cmpI v.n w.n, cmpS v.s w.s] (by simp)) ?_|(exfalso;omega)|(refine yaS ?_ ?_<;>intro _)
  exact .ret rfl (.int rfl)
def l1Ord (v w : Val) : Int := if v.k < w.k ∨ (v.k = w.k ∧ (v.n < w.n ∨ bytesLt v.s w.s = true)) then -1 else if v = w then 0 else 1
theorem l1Order_ok (v w : Val) : Pure Tryz.prog 177 [.agg (encV v), .agg (encV w)] (.c (.int .i64 (l1Ord v w))) := by
  refine Pure.run mixed c_spec_l1Order_ok (Nat.le_of_ble_eq_true rfl) fun σ hS hA => ?_
  clear hS hA
  repeat' first|refine yaG ?_|(exfalso;omega)|(refine yaS ?_ ?_<;>intro _)
  all_goals refine .ret rfl (.int ?_)
  all_goals obtain ⟨vk, vn, vs⟩ := v
  all_goals obtain ⟨wk, wn, ws⟩ := w
  all_goals (simp_all [l1Ord] <;> split <;> simp_all <;> omega)
/-- As long and no longer: the values are right. -/
def areVals (xs : List Val) (most : Int) : Bool := decide ((xs.length : Int) ≤ most) && xs.all okVal
theorem areVals_ok (xs : List Val) (most : Int) (hm : 0 ≤ most) (hx : xs.length ≤ 34359738368) : Pure Tryz.prog 168 [.c (.fz (xs.map encV)), .c (.int .i64 most)] (.c (.bool (areVals xs most))) := by
  refine Pure.run mixed c_impl_areVals_ok (Nat.le_of_ble_eq_true rfl) fun σ hS hA => ?_
  clear hS hA
  repeat' first|refine yaG ?_|(exfalso;omega)|(refine yaS ?_ ?_<;>intro _)
  refine Go.keep [1, 7, 8, 9] (Go.loops (I := fun m fr τ => ∃ i : Nat, ∃ n L : Int, m = xs.length - i ∧ i ≤ xs.length ∧ n = i ∧ L = xs.length ∧ ((i : Int) ≤ most ∧ areVals xs most = (decide ((xs.length : Int) ≤ most) && (xs.drop i).all okVal)) ∧
    fr = [(1, .c (.int .i64 most)), (7, .c (.fz (xs.map encV))), (8, .c (.int .i64 L)), (9, .c (.int .i64 n))] ∧ τ = E σ []) ?_ _ _ _ ⟨0, _, _, rfl, Nat.zero_le _, rfl, by simp, ⟨hm, rfl⟩, rfl, rfl⟩)
  rintro m fr τ ⟨i, n, L, rfl, hi, hn, hL, ⟨hs1, hs⟩, rfl, rfl⟩ hrec
  repeat' first|refine yaG ?_|((first|apply yG|apply yH|apply yI);exact rfl;(first|exact yX (enc := encV) rfl rfl hn (by omega) rfl))|((first|apply Go.pcallB|apply Go.spcallB|apply Qg.pcallB);(iterate 3 exact rfl);exact ValOk_ok xs[i];intro _ _)|(exfalso;omega)|(refine yaS ?_ ?_<;>intro _)
  · refine .ret rfl (.bool ?_)
    clear hrec
    rw [hs]
    simp at *
    omega
  · refine .ret rfl (.bool ?_)
    clear hrec
    rw [hs, List.drop_eq_getElem_cons (by omega), List.all_cons]
    simp_all
  · refine Go.keep [1, 7, 8, 9] (hrec _ _ _ (by omega) ⟨i + 1, _, _, rfl, by omega, (wrap_succ hn (by omega)), hL, ⟨?_, ?_⟩, rfl, rfl⟩)
    · clear hrec
      simp at *
      omega
    · rw [hs, List.drop_eq_getElem_cons (by omega), List.all_cons]
      clear hrec
      simp_all
  · refine .ret rfl (.bool ?_)
    rw [hs, List.drop_eq_nil_of_le (by omega)]
    simp
    omega
def orderOf : List Val → List Val → Int
  | v :: r, w :: s => if order v w = 0 then orderOf r s else order v w
  | _, _ => 0
theorem orderOf_ok (xs ys : List Val) (hx : xs.length ≤ 34359738368) (hl : xs.length = ys.length) : Pure Tryz.prog 82 [.c (.fz (xs.map encV)), .c (.fz (ys.map encV))] (.c (.int .i64 (orderOf xs ys))) := by
  refine Pure.run mixed c_impl_orderOf_ok (Nat.le_of_ble_eq_true rfl) fun σ hS hA => ?_
  clear hS hA
  repeat' first|refine yaG ?_|(exfalso;omega)|(refine yaS ?_ ?_<;>intro _)
  refine Go.keep [1, 8, 9, 10] (Go.loops (I := fun m fr τ => ∃ i : Nat, ∃ n L : Int, m = xs.length - i ∧ i ≤ xs.length ∧ n = i ∧ L = xs.length ∧ orderOf xs ys = orderOf (xs.drop i) (ys.drop i) ∧
    fr = [(1, .c (.fz (ys.map encV))), (8, .c (.fz (xs.map encV))), (9, .c (.int .i64 L)), (10, .c (.int .i64 n))] ∧ τ = E σ []) ?_ _ _ _ ⟨0, _, _, rfl, Nat.zero_le _, rfl, by simp, rfl, rfl, rfl⟩)
  rintro m fr τ ⟨i, n, L, rfl, hi, hn, hL, hs, rfl, rfl⟩ hrec
  repeat' first|refine yaG ?_|((first|apply yG|apply yH|apply yI);exact rfl;(first|exact yX (enc := encV) rfl rfl hn (by first|omega|(clear hrec;simp only [List.length_map] at *;omega)) rfl))|((first|apply Go.pcallI|apply Go.spcallI|apply Qg.pcallI);(iterate 3 exact rfl);exact order_ok xs[i] ys[i];intro _ _)|(exfalso;omega)|(refine yaS ?_ ?_<;>intro _)
  · refine .ret rfl (.int ?_)
    rw [hs, List.drop_eq_getElem_cons (i := i) (by first | omega | (clear hrec; simp only [List.length_map] at *; omega)), List.drop_eq_getElem_cons (i := i) (by first | omega | (clear hrec; simp only [List.length_map] at *; omega))]
    simp only [orderOf]
    clear hrec
    simp_all [orderOf]
  · refine Go.keep [1, 8, 9, 10] (hrec _ _ _ (by first | omega | (clear hrec; simp only [List.length_map] at *; omega)) ⟨i + 1, _, _, rfl, (by first | omega | (clear hrec; simp only [List.length_map] at *; omega)), (wrap_succ hn (by omega)), hL, ?_, rfl, rfl⟩)
    rw [hs, List.drop_eq_getElem_cons (i := i) (by first | omega | (clear hrec; simp only [List.length_map] at *; omega)), List.drop_eq_getElem_cons (i := i) (by first | omega | (clear hrec; simp only [List.length_map] at *; omega))]
    simp only [orderOf]
    clear hrec
    simp_all [orderOf]
  · refine .ret rfl (.int ?_)
    rw [hs, List.drop_eq_nil_of_le (by first | omega | (clear hrec; simp only [List.length_map] at *; omega)), List.drop_eq_nil_of_le (by first | omega | (clear hrec; simp only [List.length_map] at *; omega))]
    rfl
end Go.Proofs.YtinbdedlmkjokaaGreat.Am

/- Entries: contracts of the functions that read them. -/
set_option linter.unusedVariables false
set_option linter.unusedSimpArgs false
namespace Go.Proofs.YtinbdedlmkjokaaGreat.Am

structure Entry where
  key : List Val
  id : Int
  deriving DecidableEq
def entOrd (e f : Entry) : Int := orI [orderOf e.key f.key, cmpI e.id f.id]
end Go.Proofs.YtinbdedlmkjokaaGreat.Am

/- Entries: which lists of them are right. -/
set_option linter.unusedVariables false
set_option linter.unusedSimpArgs false
namespace Go.Proofs.YtinbdedlmkjokaaGreat.Am

theorem bytesLt_irrefl (a : List UInt8) : bytesLt a a = false := by
  induction a with
  | nil => rfl
  | cons x r ih => simp_all [bytesLt, Op.bytesLess]
theorem l1Ord_order {v w : Val} (hv : okVal v = true) (hw : okVal w = true) : l1Ord v w = order v w := by
  obtain ⟨a, b, s⟩ := v
  obtain ⟨c, d, t⟩ := w
  simp only [okVal, isIn, Bool.or_eq_true, Bool.and_eq_true, beq_iff_eq, decide_eq_true_eq] at hv hw
  simp only [l1Ord, order, orI, cmpI, cmpS, Val.mk.injEq]
  rcases hv with (⟨⟨rfl, rfl⟩, rfl⟩ | ⟨⟨rfl, hb⟩, rfl⟩) | ⟨⟨rfl, rfl⟩, hs⟩ <;> rcases hw with (⟨⟨rfl, rfl⟩, rfl⟩ | ⟨⟨rfl, hd⟩, rfl⟩) | ⟨⟨rfl, rfl⟩, ht⟩ <;> simp [bytesLt_irrefl]
  · by_cases h1 : b < d
    · simp [h1]
    · by_cases h2 : d < b
      · have : ¬ b = d := by omega
        simp [h1, h2, this]
      · have : b = d := by omega
        subst this
        simp
end Go.Proofs.YtinbdedlmkjokaaGreat.Am

/- Range: the program's and the reference's. -/
set_option linter.unusedVariables false
set_option linter.unusedSimpArgs false
namespace Go.Proofs.YtinbdedlmkjokaaGreat.Am

theorem bytesLt_cases : ∀ (a b : List UInt8), bytesLt b a = (!bytesLt a b && !(a == b))
  | [], [] => rfl
  | [], _ :: _ => rfl
  | _ :: _, [] => rfl
  | x :: r, y :: s => by
    have ih := bytesLt_cases r s
    simp only [bytesLt] at ih
    simp only [bytesLt, Op.bytesLess, ih, List.cons_beq_cons]
    by_cases h : x = y
    · subst h
      simp [UInt8.lt_irrefl]
    · have h' : ¬ y = x := fun e => h e.symm
      simp only [beq_eq_false_iff_ne.2 h, beq_eq_false_iff_ne.2 h', Bool.false_and, Bool.or_false, Bool.not_false, Bool.and_true]
      rcases UInt8.lt_or_lt_of_ne h with h1 | h1
      · have h2 : ¬ y < x := UInt8.lt_asymm h1
        simp [h1, h2]
      · have h2 : ¬ x < y := UInt8.lt_asymm h1
        simp [h1, h2]
end Go.Proofs.YtinbdedlmkjokaaGreat.Am

/- The laws' helpers on values and entries: sizes, copies, equality. -/
set_option linter.unusedVariables false
set_option linter.unusedSimpArgs false
namespace Go.Proofs.YtinbdedlmkjokaaGreat.Am

theorem flatV (v : Val) : ∀ x ∈ encV v, Flat x := by
  intro x hx
  simp only [encV, List.mem_cons, List.not_mem_nil, or_false] at hx
  rcases hx with rfl | rfl | rfl <;> constructor
end Go.Proofs.YtinbdedlmkjokaaGreat.Am

/- The laws' marks on values and entries. -/
set_option linter.unusedVariables false
set_option linter.unusedSimpArgs false
namespace Go.Proofs.YtinbdedlmkjokaaGreat.Am

theorem put_off {σ : Store} {S : Nat → Prop} {id : Nat} {x : Nat × List (List Ce)} (hS : S id) (a : Nat) (h : ¬ S a) : (σ.put id x).get a = σ.get a := put_ne (fun e => h (by rw [e]; exact hS))
end Go.Proofs.YtinbdedlmkjokaaGreat.Am

/- The laws' marks on values and entries, and whether they are held. -/
set_option linter.unusedVariables false
set_option linter.unusedSimpArgs false
namespace Go.Proofs.YtinbdedlmkjokaaGreat.Am

theorem sl_inj {id v i n c id' v' i' n' c' : Nat} (h : Ce.sl id v i n c = Ce.sl id' v' i' n' c') : id = id' ∧ v = v' ∧ n = n' := by
  injection h with a b c d
  exact ⟨a, b, d⟩
end Go.Proofs.YtinbdedlmkjokaaGreat.Am

/- The law FnExactRange: its function returns true. -/
set_option linter.unusedVariables false
set_option linter.unusedSimpArgs false
namespace Go.Proofs.YtinbdedlmkjokaaGreat.Am

theorem flatI (xs : List Int) : ∀ e ∈ xs.map encI, e.length = 1 ∧ ∀ x ∈ e, Flat x := by
  intro e he
  obtain ⟨a, _, rfl⟩ := List.mem_map.1 he
  refine ⟨rfl, fun x hx => ?_⟩
  simp only [encI, List.mem_cons, List.not_mem_nil, or_false] at hx
  subst hx
  exact .int _ _
theorem cnt3 (xs : List Val) : cntL (fun _ => 3) xs = 3 * xs.length := by
  induction xs with
  | nil => rfl
  | cons a r ih => simp only [cntL, ih, List.length_cons]; omega
end Go.Proofs.YtinbdedlmkjokaaGreat.Am

/- The laws' helpers on types, printed by a program: Tok, Check, Unique, Fk, Col. -/
set_option linter.unusedVariables false
set_option linter.unusedSimpArgs false
namespace Go.Proofs.YtinbdedlmkjokaaGreat.Am
inductive Steps : List (Int → Int) → Prop where
  | nil : Steps []
  | cons {f : Int → Int} {r : List (Int → Int)} (h : ∀ l, 0 ≤ l → f l ≤ l) (k : Steps r) : Steps (f :: r)
def bV (N : Nat) (v : Val) : Prop := v.s.length ≤ N
/-- Blocks 0 and 1 are a function's variables: what lies behind them stays. -/
theorem Has.more {σ : Store} {S : Nat → Prop} {y x : Ce} {l : List (Nat × List (List Ce))} (h : ∀ A B, Has (E σ (A :: B :: l)) S y x) (hS : ∀ a, S a → σ.next + 2 ≤ a ∧ a < σ.next + 2 + l.length) (m : List (Nat × List (List Ce))) : ∀ A B, Has (E σ (A :: B :: (l ++ m))) S y x := by
  intro A B
  refine (h A B).frame fun a ha => ?_
  have := hS a ha
  rw [E_ge (by omega), E_ge (by omega)]
  obtain ⟨q, hq⟩ : ∃ q, a - σ.next = q + 2 := ⟨a - σ.next - 2, by omega⟩
  rw [hq]
  simp only [List.getElem?_cons_succ]
  rw [List.getElem?_append_left (by omega)]
theorem HasL.skip {τ : Store} {S : Nat → Prop} {c : Ce} {ys xs : List Ce} (hc : Flat c) (k : HasL τ S ys xs) : HasL τ S (c :: ys) (c :: xs) :=
  (HasL.two (S := fun _ => False) (.c hc) k (fun _ h => h.elim)).mono fun a ha => ha.elim (fun h => h.elim) id
structure Tok where
  kind : Int
  col : Int
  v : Val
  deriving DecidableEq
def encTok (a : Tok) : List Ce := [.int .i64 a.kind, .int .i64 a.col, .int .i64 a.v.k, .int .i64 a.v.n, .str a.v.s]
theorem flatTok (a : Tok) : ∀ x ∈ encTok a, Flat x := by
  intro x hx
  simp only [encTok, List.mem_cons, List.not_mem_nil, or_false] at hx
  rcases hx with rfl | rfl | rfl | rfl | rfl <;> constructor
def bTok (N : Nat) (a : Tok) : Prop := bV N a.v
structure Chk where
  expr : List Tok
  deriving DecidableEq
def encChk (a : Chk) : List Ce := [.fz (a.expr.map encTok)]
def bChk (N : Nat) (a : Chk) : Prop := (a.expr.length ≤ N ∧ ∀ x ∈ a.expr, bTok N x)
structure Uniq where
  cols : List Int
  deriving DecidableEq
def encUniq (a : Uniq) : List Ce := [.fz (a.cols.map encI)]
def bUniq (N : Nat) (a : Uniq) : Prop := a.cols.length ≤ N
structure Fk where
  cols : List Int
  table : List UInt8
  onDelete : Int
  onUpdate : Int
  deferred : Bool
  deriving DecidableEq
def encFk (a : Fk) : List Ce := [.fz (a.cols.map encI), .str a.table, .int .i64 a.onDelete, .int .i64 a.onUpdate, .bool a.deferred]
def bFk (N : Nat) (a : Fk) : Prop := a.cols.length ≤ N ∧ a.table.length ≤ N
structure Col where
  name : List UInt8
  kind : Int
  notNull : Bool
  dflt : Val
  deriving DecidableEq
def encCol (a : Col) : List Ce := [.str a.name, .int .i64 a.kind, .bool a.notNull, .int .i64 a.dflt.k, .int .i64 a.dflt.n, .str a.dflt.s]
theorem flatCol (a : Col) : ∀ x ∈ encCol a, Flat x := by
  intro x hx
  simp only [encCol, List.mem_cons, List.not_mem_nil, or_false] at hx
  rcases hx with rfl | rfl | rfl | rfl | rfl | rfl <;> constructor
def bCol (N : Nat) (a : Col) : Prop := a.name.length ≤ N ∧ bV N a.dflt
end Go.Proofs.YtinbdedlmkjokaaGreat.Am

/- The laws' helpers on types, printed by a program: Table, Term, Select, Trigger. -/
set_option linter.unusedVariables false
set_option linter.unusedSimpArgs false
namespace Go.Proofs.YtinbdedlmkjokaaGreat.Am
structure Table where
  name : List UInt8
  cols : List Col
  key : List Int
  uniques : List Uniq
  checks : List Chk
  fks : List Fk
  deriving DecidableEq
def encTable (a : Table) : List Ce := [.str a.name, .fz (a.cols.map encCol), .fz (a.key.map encI), .fz (a.uniques.map encUniq), .fz (a.checks.map encChk), .fz (a.fks.map encFk)]
def bTable (N : Nat) (a : Table) : Prop := a.name.length ≤ N ∧ (a.cols.length ≤ N ∧ ∀ x ∈ a.cols, bCol N x) ∧ a.key.length ≤ N ∧ (a.uniques.length ≤ N ∧ ∀ x ∈ a.uniques, bUniq N x) ∧ (a.checks.length ≤ N ∧ ∀ x ∈ a.checks, bChk N x) ∧ (a.fks.length ≤ N ∧ ∀ x ∈ a.fks, bFk N x)
structure Term where
  expr : List Tok
  deriving DecidableEq
def encTerm (a : Term) : List Ce := [.fz (a.expr.map encTok)]
def bTerm (N : Nat) (a : Term) : Prop := (a.expr.length ≤ N ∧ ∀ x ∈ a.expr, bTok N x)
structure Sel where
  table : List UInt8
  terms : List Term
  wher : List Tok
  by_ : List Int
  most : Int
  deriving DecidableEq
def encSel (a : Sel) : List Ce := [.str a.table, .fz (a.terms.map encTerm), .fz (a.wher.map encTok), .fz (a.by_.map encI), .int .i64 a.most]
def bSel (N : Nat) (a : Sel) : Prop := a.table.length ≤ N ∧ (a.terms.length ≤ N ∧ ∀ x ∈ a.terms, bTerm N x) ∧ (a.wher.length ≤ N ∧ ∀ x ∈ a.wher, bTok N x) ∧ a.by_.length ≤ N
end Go.Proofs.YtinbdedlmkjokaaGreat.Am

/- Names and expressions: what the program and its reference say of them. -/
set_option linter.unusedVariables false
set_option linter.unusedSimpArgs false
namespace Go.Proofs.YtinbdedlmkjokaaGreat.Am

theorem aop_idxS {fr : Fr} {σ : Store} {x y : Opd} {kd : IntKind} {s : List UInt8} {z : Int} {n : Nat} (hx : x.ev fr = some (.c (.str s))) (hy : y.ev fr = some (.c (.int kd z))) (hz : z = (n : Int)) (hn : n < s.length) : aop (.idx x y) fr σ = some (.c (.int .u8 (s[n].toNat : Int)), σ) := by
  subst hz
  simp [aop, hx, hy, hn]
def letter (c : UInt8) : Bool := decide (97 ≤ c.toNat) && decide (c.toNat ≤ 122)
def isNameF (s : List UInt8) : Bool := s.all letter && isIn s.length 1 8
theorem isName_ok (s : List UInt8) (hx : s.length ≤ 34359738368) : Pure Tryz.prog 51 [.c (.str s)] (.c (.bool (isNameF s))) := by
  refine Pure.run mixed c_impl_isName_ok (Nat.le_of_ble_eq_true rfl) fun σ hS hA => ?_
  clear hS hA
  repeat' first|refine yaG ?_|(exfalso;omega)|(refine yaS ?_ ?_<;>intro _)
  refine Go.keep [0, 5, 6] (Go.loops (I := fun m fr τ => ∃ i : Nat, ∃ n : Int, m = s.length - i ∧ i ≤ s.length ∧ n = i ∧ s.all letter = (s.drop i).all letter ∧
    fr = [(0, .c (.str s)), (5, .c (.int .i64 (s.length : Int))), (6, .c (.int .i64 n))] ∧ τ = E σ []) ?_ _ _ _ ⟨0, _, rfl, Nat.zero_le _, rfl, rfl, rfl, rfl⟩)
  rintro m fr τ ⟨i, n, rfl, hi, hn, hs, rfl, rfl⟩ hrec
  by_cases hlt : i < s.length
  · have hd := List.drop_eq_getElem_cons hlt
    repeat' first|refine yaG ?_|((first|apply yG|apply yH|apply yI);exact rfl;(first|exact aop_idxS rfl rfl hn hlt))|(exfalso;omega)|(refine yaS ?_ ?_<;>intro _)
    · refine .ret rfl (.bool ?_)
      rename_i h
      rw [isNameF, hs, hd, List.all_cons, letter, decide_eq_false (by omega)]
      rfl
    · refine .ret rfl (.bool ?_)
      rename_i h h2
      rw [isNameF, hs, hd, List.all_cons, letter, decide_eq_false (p := s[i].toNat ≤ 122) (by omega)]
      simp
    · rename_i h h2
      refine Go.keep [0, 5, 6] (hrec _ _ _ (by omega) ⟨i + 1, _, rfl, hlt, wrap_succ hn (by omega), ?_, rfl, rfl⟩)
      rw [hs, hd, List.all_cons, letter, decide_eq_true (by omega), decide_eq_true (by omega)]
      rfl
  · repeat' first|refine yaG ?_|refine yaC (in_ok _ _ _) ?_|(exfalso;omega)|(refine yaS ?_ ?_<;>intro _)
    refine .ret rfl (.bool ?_)
    rw [isNameF, hs, List.drop_eq_nil_of_le (by omega)]
    rfl
theorem l3Name_ok (s : List UInt8) (hx : s.length ≤ 34359738368) : Pure Tryz.prog 251 [.c (.str s)] (.c (.bool (isNameF s))) := by
  refine Pure.run mixed c_spec_l3Name_ok (Nat.le_of_ble_eq_true rfl) fun σ hS hA => ?_
  clear hS hA
  repeat' first|refine yaG ?_|(exfalso;omega)|(refine yaS ?_ ?_<;>intro _)
  refine Go.keep [0, 3] (Go.loops (I := fun m fr τ => ∃ i : Nat, ∃ n : Int, m = s.length - i ∧ i ≤ s.length ∧ n = i ∧ s.all letter = (s.drop i).all letter ∧
    fr = [(0, .c (.str s)), (3, .c (.int .i64 n))] ∧ τ = E σ []) ?_ _ _ _ ⟨0, _, rfl, Nat.zero_le _, rfl, rfl, rfl, rfl⟩)
  rintro m fr τ ⟨i, n, rfl, hi, hn, hs, rfl, rfl⟩ hrec
  by_cases hlt : i < s.length
  · have hd := List.drop_eq_getElem_cons hlt
    repeat' first|refine yaG ?_|((first|apply yG|apply yH|apply yI);exact rfl;(first|exact aop_idxS rfl rfl hn hlt))|(exfalso;omega)|(refine yaS ?_ ?_<;>intro _)
    · refine .ret rfl (.bool ?_)
      rename_i h
      rw [isNameF, hs, hd, List.all_cons, letter, decide_eq_false (by omega)]
      rfl
    · refine .ret rfl (.bool ?_)
      rename_i h h2
      rw [isNameF, hs, hd, List.all_cons, letter, decide_eq_false (p := s[i].toNat ≤ 122) (by omega)]
      simp
    · rename_i h h2
      refine Go.keep [0, 3] (hrec _ _ _ (by omega) ⟨i + 1, _, rfl, hlt, wrap_succ hn (by omega), ?_, rfl, rfl⟩)
      rw [hs, hd, List.all_cons, letter, decide_eq_true (by omega), decide_eq_true (by omega)]
      rfl
  · repeat' first|refine yaG ?_|refine yaC (l1In_ok _ _ _) ?_|(exfalso;omega)|(refine yaS ?_ ?_<;>intro _)
    refine .ret rfl (.bool ?_)
    rw [isNameF, hs, List.drop_eq_nil_of_le (by omega)]
    rfl

/-! ### Expressions -/
def tokTakes (t : Tok) : Int := if t.kind = 1 ∨ t.kind = 2 then 0 else if t.kind = 7 ∨ t.kind = 8 then 1 else 2
def vz (v : Val) : Bool := v.k == 0 && (v.n == 0 && v.s == [])
def isTokF (t : Tok) (n : Int) : Bool := if t.kind = 1 then isIn t.col 0 (n - 1) && vz t.v else if t.kind = 2 then t.col == 0 && okVal t.v else isIn t.kind 3 10 && t.col == 0 && vz t.v
theorem takes_ok (t : Tok) : Pure Tryz.prog 170 [.agg (encTok t)] (.c (.int .i64 (tokTakes t))) := by
  refine Pure.run mixed c_impl_Tok_takes_ok (Nat.le_of_ble_eq_true rfl) fun σ hS hA => ?_
  clear hS hA
  repeat' first|refine yaG ?_|(exfalso;omega)|(refine yaS ?_ ?_<;>intro _)
  all_goals refine .ret rfl (.int ?_)
  all_goals simp_all [tokTakes]
theorem isTok_ok (t : Tok) (n : Int) (h0 : -4611686018427387904 ≤ n) (h1 : n ≤ 4611686018427387904) : Pure Tryz.prog 235 [.agg (encTok t), .c (.int .i64 n)] (.c (.bool (isTokF t n))) := by
  refine Pure.run mixed c_impl_isTok_ok (Nat.le_of_ble_eq_true rfl) fun σ hS hA => ?_
  clear hS hA
  have hw : IntKind.i64.wrap (n - 1) = n - 1 := wrap64 (by omega) (by omega)
  repeat' first|refine yaG ?_|((first|apply Go.pcallB|apply Go.spcallB|apply Qg.pcallB);(iterate 3 exact rfl);(first|exact in_ok _ _ _|exact ValOk_ok _);intro _ _)|(exfalso;omega)|(refine yaS ?_ ?_<;>intro _)
  all_goals refine .ret rfl (.bool ?_)
  all_goals simp_all [isTokF, vz]
end Go.Proofs.YtinbdedlmkjokaaGreat.Am

/- Expressions and lists of columns. -/
set_option linter.unusedVariables false
set_option linter.unusedSimpArgs false
namespace Go.Proofs.YtinbdedlmkjokaaGreat.Am

theorem nbT {x b : Bool} (h : x = b) (k : (!b) = true) : x = false := by cases b <;> simp_all
theorem nbF {x b : Bool} (h : x = b) (k : (!b) = false) : x = true := by cases b <;> simp_all
theorem bT {x b : Bool} (h : x = b) (k : b = true) : x = true := h.trans k
theorem bF {x b : Bool} (h : x = b) (k : b = false) : x = false := h.trans k
def takesF (t : Tok) (n : Int) : Int := if isTokF t n then tokTakes t else -1
theorem isIn_310 {k : Int} : isIn k 3 10 = true ↔ (k = 3 ∨ k = 4 ∨ k = 5 ∨ k = 6 ∨ k = 7 ∨ k = 8 ∨ k = 9 ∨ k = 10) := by
  simp only [isIn, Bool.and_eq_true, decide_eq_true_eq]
  omega
theorem l2Takes_ok (t : Tok) (n : Int) (h0 : -4611686018427387904 ≤ n) (h1 : n ≤ 4611686018427387904) : Pure Tryz.prog 244 [.agg (encTok t), .c (.int .i64 n)] (.c (.int .i64 (takesF t n))) := by
  refine Pure.run mixed c_spec_l2Takes_ok (Nat.le_of_ble_eq_true rfl) fun σ hS hA => ?_
  clear hS hA
  have hw : IntKind.i64.wrap (n - 1) = n - 1 := wrap64 (by omega) (by omega)
  have h310 := @isIn_310 t.kind
  repeat' first|refine yaG ?_|((first|apply Go.pcallB|apply Go.spcallB|apply Qg.pcallB);(iterate 3 exact rfl);(first|exact l1In_ok _ _ _|exact sValOk_ok _);intro _ _)|(exfalso;omega)|(refine yaS ?_ ?_<;>intro _)
  all_goals refine .ret rfl (.int ?_)
  all_goals first
    | (simp_all [takesF, isTokF, vz, tokTakes]; done)
    | (cases hk : isIn t.kind 3 10 <;> simp_all [takesF, isTokF, vz, tokTakes]; done)
    | (rename_i hl; have hz : vz t.v = false := (by cases h : vz t.v; (· rfl); (· exfalso; simp [vz] at h; simp [h] at hl)); clear hl; simp_all [takesF, isTokF]; done)
def exprAux (n : Int) : Int → List Tok → Bool
  | left, [] => left == 1
  | left, t :: r => isTokF t n && decide (tokTakes t ≤ left) && exprAux n (left + 1 - tokTakes t) r
theorem tokTakes_range (t : Tok) : 0 ≤ tokTakes t ∧ tokTakes t ≤ 2 := by
  simp only [tokTakes]
  split
  · omega
  · split <;> omega
theorem ExprOk_ok (e : List Tok) (n : Int) (hx : e.length ≤ 34359738368) : Pure Tryz.prog 169 [.c (.fz (e.map encTok)), .c (.int .i64 n)] (.c (.bool (decide ((e.length : Int) ≤ 24) && isIn n 0 16 && exprAux n 0 e))) := by
  refine Pure.run mixed c_impl_ExprOk_ok (Nat.le_of_ble_eq_true rfl) fun σ hS hA => ?_
  clear hS hA
  repeat' first|refine yaG ?_|((first|apply Go.pcallB|apply Go.spcallB|apply Qg.pcallB);(iterate 3 exact rfl);exact in_ok _ _ _;intro _ _)|(exfalso;omega)|(refine yaS ?_ ?_<;>intro _)
  · refine .ret rfl (.bool ?_)
    rename_i h
    rw [decide_eq_false (by omega)]
    rfl
  · refine .ret rfl (.bool ?_)
    simp_all
  rename_i hl b hb hn
  have hn16 : 0 ≤ n ∧ n ≤ 16 := by
    have : isIn n 0 16 = true := by simp_all
    simpa [isIn] using this
  refine Go.keep [1, 5, 16, 17, 18] (Go.loops (I := fun m fr τ => ∃ i : Nat, ∃ k l : Int, m = e.length - i ∧ i ≤ e.length ∧ k = i ∧ (0 ≤ l ∧ l ≤ i ∧ exprAux n 0 e = exprAux n l (e.drop i)) ∧
    fr = [(1, .c (.int .i64 n)), (5, .c (.int .i64 l)), (16, .c (.fz (e.map encTok))), (17, .c (.int .i64 (e.length : Int))), (18, .c (.int .i64 k))] ∧ τ = E σ []) ?_ _ _ _ ⟨0, _, _, rfl, Nat.zero_le _, rfl, ⟨Int.le_refl _, by simp, rfl⟩, rfl, rfl⟩)
  rintro m fr τ ⟨i, k, l, rfl, hi, hk, ⟨hl0, hl1, hsl⟩, rfl, rfl⟩ hrec
  have hres : (decide ((e.length : Int) ≤ 24) && isIn n 0 16 && exprAux n 0 e) = exprAux n 0 e := by
    rw [decide_eq_true (p := (e.length : Int) ≤ 24) (by omega), hb]
    cases b
    · simp at hn
    · simp
  by_cases hlt : i < e.length
  · have hd := List.drop_eq_getElem_cons hlt
    have ht := tokTakes_range e[i]
    repeat' first|refine yaG ?_|((first|apply yG|apply yH|apply yI);exact rfl;(first|exact yX (enc := encTok) rfl rfl hk hlt rfl))|refine yaC (takes_ok e[i]) ?_|((first|apply Go.pcallB|apply Go.spcallB|apply Qg.pcallB);(iterate 3 exact rfl);exact isTok_ok e[i] n (by omega) (by omega);intro _ _)|(exfalso;omega)|(refine yaS ?_ ?_<;>intro _)
    · refine .ret rfl (.bool ?_)
      rename_i b1 hb1 hb2
      rw [hres, hsl, hd, exprAux, nbT hb1 hb2]
      rfl
    · refine .ret rfl (.bool ?_)
      rename_i h
      rw [hres, hsl, hd, exprAux, decide_eq_false (p := tokTakes e[i] ≤ l) (by omega)]
      simp
    · rename_i b1 hb1 hb2 h
      have w1 : IntKind.i64.wrap (1 - tokTakes e[i]) = 1 - tokTakes e[i] := wrap64 (by omega) (by omega)
      have w2 : IntKind.i64.wrap (l + (1 - tokTakes e[i])) = l + 1 - tokTakes e[i] := by rw [wrap64 (by omega) (by omega)]; omega
      refine Go.keep [1, 5, 16, 17, 18] (hrec _ _ _ (by omega) ⟨i + 1, _, _, rfl, hlt, wrap_succ hk (by omega), ⟨?_, ?_, ?_⟩, rfl, rfl⟩)
      · rw [w1, w2]; omega
      · rw [w1, w2]; omega
      · rw [w1, w2, hsl, hd, exprAux, decide_eq_true (p := tokTakes e[i] ≤ l) (by omega)]
        rw [nbF hb1 hb2]
        rfl
  · repeat' first|refine yaG ?_|(exfalso;omega)|(refine yaS ?_ ?_<;>intro _)
    refine .ret rfl (.bool ?_)
    rw [hres, hsl, List.drop_eq_nil_of_le (by omega)]
    rfl
theorem l2Expr_ok (e : List Tok) (n : Int) (hx : e.length ≤ 34359738368) (h0 : -4611686018427387904 ≤ n) (h1 : n ≤ 4611686018427387904) : Pure Tryz.prog 174 [.c (.fz (e.map encTok)), .c (.int .i64 n)] (.c (.bool (decide ((e.length : Int) ≤ 24) && exprAux n 0 e))) := by
  refine Pure.run mixed c_spec_l2Expr_ok (Nat.le_of_ble_eq_true rfl) fun σ hS hA => ?_
  clear hS hA
  repeat' first|refine yaG ?_|(exfalso;omega)|(refine yaS ?_ ?_<;>intro _)
  refine Go.keep [0, 1, 5, 6] (Go.loops (I := fun m fr τ => ∃ i : Nat, ∃ k l : Int, m = e.length - i ∧ i ≤ e.length ∧ k = i ∧ (0 ≤ l ∧ l ≤ i ∧ exprAux n 0 e = exprAux n l (e.drop i)) ∧
    fr = [(0, .c (.fz (e.map encTok))), (1, .c (.int .i64 n)), (5, .c (.int .i64 l)), (6, .c (.int .i64 k))] ∧ τ = E σ []) ?_ _ _ _ ⟨0, _, _, rfl, Nat.zero_le _, rfl, ⟨Int.le_refl _, by simp, rfl⟩, rfl, rfl⟩)
  rintro m fr τ ⟨i, k, l, rfl, hi, hk, ⟨hl0, hl1, hsl⟩, rfl, rfl⟩ hrec
  by_cases hlt : i < e.length
  · have hd := List.drop_eq_getElem_cons hlt
    have ht := tokTakes_range e[i]
    have neg : (isTokF e[i] n = false ∨ ¬ tokTakes e[i] ≤ l) → (decide ((e.length : Int) ≤ 24) && exprAux n 0 e) = false := by
      intro h
      rw [hsl, hd, exprAux]
      rcases h with h | h
      · simp [h]
      · rw [decide_eq_false (p := tokTakes e[i] ≤ l) h]; simp
    repeat' first|refine yaG ?_|((first|apply yG|apply yH|apply yI);exact rfl;(first|exact yX (enc := encTok) rfl rfl hk hlt rfl))|((first|apply Go.pcallI|apply Go.spcallI|apply Qg.pcallI);(iterate 3 exact rfl);exact l2Takes_ok e[i] n h0 h1;intro _ _)|(exfalso;omega)|(refine yaS ?_ ?_<;>intro _)
    · refine .ret rfl (.bool ?_)
      rename_i q hq h
      refine (neg (.inl ?_)).symm
      cases hc : isTokF e[i] n
      · rfl
      · simp only [takesF, hc, if_true] at hq; omega
    · refine .ret rfl (.bool ?_)
      rename_i q hq h h2
      refine (neg (.inr ?_)).symm
      simp only [takesF] at hq
      split at hq <;> omega
    · rename_i q hq h h2
      have hc : isTokF e[i] n = true ∧ tokTakes e[i] = q := by
        simp only [takesF] at hq
        split at hq
        · exact ⟨by assumption, hq⟩
        · omega
      have w1 : IntKind.i64.wrap (l - q) = l - q := wrap64 (by omega) (by omega)
      have w2 : IntKind.i64.wrap (l - q + 1) = l + 1 - tokTakes e[i] := by rw [wrap64 (by omega) (by omega)]; omega
      refine Go.keep [0, 1, 5, 6] (hrec _ _ _ (by omega) ⟨i + 1, _, _, rfl, hlt, wrap_succ hk (by omega), ⟨?_, ?_, ?_⟩, rfl, rfl⟩)
      · rw [w1, w2]; omega
      · rw [w1, w2]; omega
      · rw [w1, w2, hsl, hd, exprAux, decide_eq_true (p := tokTakes e[i] ≤ l) (by omega), hc.1]
        rfl
  · have hfin : exprAux n 0 e = (l == 1) := by
      rw [hsl, List.drop_eq_nil_of_le (by omega)]
      rfl
    repeat' first|refine yaG ?_|(exfalso;omega)|(refine yaS ?_ ?_<;>intro _)
    all_goals refine .ret rfl (.bool ?_)
    all_goals rw [hfin]
    all_goals clear hrec hfin hsl
    all_goals simp_all
/-! ### Lists of columns -/
def colsAux (n : Int) : List Int → List Int → Bool
  | _, [] => true
  | pre, c :: r => isIn c 0 (n - 1) && !(pre.any fun a => c == a) && colsAux n (pre ++ [c]) r
def colsF (l : List Int) (n : Int) : Bool := colsAux n [] l && decide (0 < (l.length : Int))
theorem aop_sliceF {fr : Fr} {σ : Store} {s : Nat} {x hi : Opd} {kd : IntKind} {es : List (List Ce)} {z : Int} {n : Nat} (hx : x.ev fr = some (.c (.fz es))) (hy : hi.ev fr = some (.c (.int kd z))) (hz : z = (n : Int)) (hn : n ≤ es.length) (hs : ∀ e ∈ es, e.length = s) : aop (.slice s x none (some hi) none) fr σ = some (.c (.fz (es.take n)), σ) := by
  have : sliceA σ s (.fz es) none (some (.c (.int kd z))) none = some (.fz (es.take n)) := by
    subst hz
    simp only [sliceA, bound]
    rw [if_pos (by omega)]
    simp only [Int.toNat_natCast]
    rw [if_pos ⟨Nat.zero_le _, hn, hs⟩, List.drop_zero]
  simp only [aop, hx, evo, hy, Option.map_some, this]
theorem encI_len {l : List Int} : ∀ e ∈ l.map encI, e.length = 1 := fun e he => (flatI l e he).1
theorem areColumns_ok (l : List Int) (n : Int) (hx : l.length ≤ 34359738368) (h0 : -4611686018427387904 ≤ n) (h1 : n ≤ 4611686018427387904) : Pure Tryz.prog 162 [.c (.fz (l.map encI)), .c (.int .i64 n)] (.c (.bool (colsF l n))) := by
  refine Pure.run mixed c_impl_areColumns_ok (Nat.le_of_ble_eq_true rfl) fun σ hS hA => ?_
  clear hS hA
  have hw : IntKind.i64.wrap (n - 1) = n - 1 := wrap64 (by omega) (by omega)
  repeat' first|refine yaG ?_|(exfalso;omega)|(refine yaS ?_ ?_<;>intro _)
  refine Go.keep [0, 1, 7, 8, 9] (Go.loops (I := fun m fr τ => ∃ i : Nat, ∃ k : Int, m = l.length - i ∧ i ≤ l.length ∧ k = i ∧ colsAux n [] l = colsAux n (l.take i) (l.drop i) ∧
    fr = [(0, .c (.fz (l.map encI))), (1, .c (.int .i64 n)), (7, .c (.fz (l.map encI))), (8, .c (.int .i64 (l.length : Int))), (9, .c (.int .i64 k))] ∧ τ = E σ []) ?_ _ _ _ ⟨0, _, rfl, Nat.zero_le _, rfl, rfl, rfl, rfl⟩)
  rintro m fr τ ⟨i, k, rfl, hi, hk, hsl, rfl, rfl⟩ hrec
  by_cases hlt : i < l.length
  · have hd := List.drop_eq_getElem_cons hlt
    have htk : (l.map encI).take i = (l.take i).map encI := List.map_take.symm
    have hstep : colsAux n [] l = (isIn l[i] 0 (n - 1) && !((l.take i).any fun a => l[i] == a) && colsAux n (l.take (i + 1)) (l.drop (i + 1))) := by
      rw [hsl, hd, colsAux, List.take_succ_eq_append_getElem hlt]
    repeat' first|refine yaG ?_|((first|apply yG|apply yH|apply yI);exact rfl;(first|exact yX (enc := encI) rfl rfl hk hlt rfl))|((first|apply Go.pcallB|apply Go.spcallB|apply Qg.pcallB);(iterate 3 exact rfl);exact in_ok _ _ _;intro _ _)|(exfalso;omega)|(refine yaS ?_ ?_<;>intro _)
    · refine .ret rfl (.bool ?_)
      rename_i b hb hb2
      rw [hw] at hb
      rw [colsF, hstep, nbT hb hb2]
      rfl
    rename_i b hb hb2
    refine .op rfl (aop_sliceF (n := i) rfl rfl hk (by simp; omega) encI_len) ?_
    rw [htk]
    repeat' first|refine yaG ?_|((first|apply Go.pcallB|apply Go.spcallB|apply Qg.pcallB);(iterate 3 exact rfl);exact containsInt_ok mixed c_slices_Contains_int64_int64_ok c_slices_Index_int64_int64_ok (l.take i) l[i] (by simp;omega);intro _ _)|(exfalso;omega)|(refine yaS ?_ ?_<;>intro _)
    · refine .ret rfl (.bool ?_)
      rename_i b1 hb1 hb3
      rw [colsF, hstep, bT hb1 hb3]
      simp
    · refine Go.keep [0, 1, 7, 8, 9] (hrec _ _ _ (by omega) ⟨i + 1, _, rfl, hlt, wrap_succ hk (by omega), ?_, rfl, rfl⟩)
      rename_i b1 hb1 hb3
      rw [hw] at hb
      rw [hstep, bF hb1 hb3, nbF hb hb2]
      simp
  · have hfin : colsAux n [] l = true := by
      rw [hsl, List.drop_eq_nil_of_le (by omega)]
      rfl
    repeat' first|refine yaG ?_|(exfalso;omega)|(refine yaS ?_ ?_<;>intro _)
    refine .ret rfl (.bool ?_)
    rw [colsF, hfin]
    rfl
end Go.Proofs.YtinbdedlmkjokaaGreat.Am

/- Tables: their columns, references, rules. -/
set_option linter.unusedVariables false
set_option linter.unusedSimpArgs false
namespace Go.Proofs.YtinbdedlmkjokaaGreat.Am

theorem l1Has_ok (l : List Int) (v : Int) (hx : l.length ≤ 34359738368) : Pure Tryz.prog 245 [.c (.fz (l.map encI)), .c (.int .i64 v)] (.c (.bool (l.any fun a => v == a))) := by
  refine Pure.run mixed c_spec_l1Has_ok (Nat.le_of_ble_eq_true rfl) fun σ hS hA => ?_
  clear hS hA
  repeat' first|refine yaG ?_|(exfalso;omega)|(refine yaS ?_ ?_<;>intro _)
  refine Go.keep [0, 1, 5] (Go.loops (I := fun m fr τ => ∃ i : Nat, ∃ k : Int, m = l.length - i ∧ i ≤ l.length ∧ k = i ∧ (l.any fun a => v == a) = ((l.drop i).any fun a => v == a) ∧
    fr = [(0, .c (.fz (l.map encI))), (1, .c (.int .i64 v)), (5, .c (.int .i64 k))] ∧ τ = E σ []) ?_ _ _ _ ⟨0, _, rfl, Nat.zero_le _, rfl, rfl, rfl, rfl⟩)
  rintro m fr τ ⟨i, k, rfl, hi, hn, hsl, rfl, rfl⟩ hrec
  by_cases hlt : i < l.length
  · have hd := List.drop_eq_getElem_cons hlt
    repeat' first|refine yaG ?_|((first|apply yG|apply yH|apply yI);exact rfl;(first|exact yX (enc := encI) rfl rfl hn hlt rfl))|(exfalso;omega)|(refine yaS ?_ ?_<;>intro _)
    · refine .ret rfl (.bool ?_)
      rename_i h
      rw [hsl, hd, List.any_cons, h]
      simp
    · rename_i h
      refine Go.keep [0, 1, 5] (hrec _ _ _ (by omega) ⟨i + 1, _, rfl, hlt, wrap_succ hn (by omega), ?_, rfl, rfl⟩)
      rw [hsl, hd, List.any_cons, beq_eq_false_iff_ne.2 (fun e => h e.symm)]
      rfl
  · repeat' first|refine yaG ?_|(exfalso;omega)|(refine yaS ?_ ?_<;>intro _)
    refine .ret rfl (.bool ?_)
    rw [hsl, List.drop_eq_nil_of_le (by omega)]
    rfl
theorem l3Cols_ok (l : List Int) (n : Int) (hx : l.length ≤ 34359738368) (h0 : -4611686018427387904 ≤ n) (h1 : n ≤ 4611686018427387904) : Pure Tryz.prog 175 [.c (.fz (l.map encI)), .c (.int .i64 n)] (.c (.bool (colsF l n))) := by
  refine Pure.run mixed c_spec_l3Cols_ok (Nat.le_of_ble_eq_true rfl) fun σ hS hA => ?_
  clear hS hA
  have hw : IntKind.i64.wrap (n - 1) = n - 1 := wrap64 (by omega) (by omega)
  repeat' first|refine yaG ?_|(exfalso;omega)|(refine yaS ?_ ?_<;>intro _)
  refine Go.keep [0, 1, 5] (Go.loops (I := fun m fr τ => ∃ i : Nat, ∃ k : Int, m = l.length - i ∧ i ≤ l.length ∧ k = i ∧ colsAux n [] l = colsAux n (l.take i) (l.drop i) ∧
    fr = [(0, .c (.fz (l.map encI))), (1, .c (.int .i64 n)), (5, .c (.int .i64 k))] ∧ τ = E σ []) ?_ _ _ _ ⟨0, _, rfl, Nat.zero_le _, rfl, rfl, rfl, rfl⟩)
  rintro m fr τ ⟨i, k, rfl, hi, hk, hsl, rfl, rfl⟩ hrec
  by_cases hlt : i < l.length
  · have hd := List.drop_eq_getElem_cons hlt
    have htk : (l.map encI).take i = (l.take i).map encI := List.map_take.symm
    have hstep : colsAux n [] l = (isIn l[i] 0 (n - 1) && !((l.take i).any fun a => l[i] == a) && colsAux n (l.take (i + 1)) (l.drop (i + 1))) := by
      rw [hsl, hd, colsAux, List.take_succ_eq_append_getElem hlt]
    repeat' first|refine yaG ?_|((first|apply yG|apply yH|apply yI);exact rfl;(first|exact yX (enc := encI) rfl rfl hk hlt rfl))|((first|apply Go.pcallB|apply Go.spcallB|apply Qg.pcallB);(iterate 3 exact rfl);exact l1In_ok _ _ _;intro _ _)|(exfalso;omega)|(refine yaS ?_ ?_<;>intro _)
    · refine .ret rfl (.bool ?_)
      rename_i b hb hb2
      rw [hw] at hb
      rw [colsF, hstep, nbT hb hb2]
      rfl
    rename_i b hb hb2
    repeat' first|refine yaG ?_|((first|apply yG|apply yH|apply yI);exact rfl;(first|exact aop_sliceF (n := i) rfl rfl hk (by simp;omega) encI_len|exact yX (enc := encI) rfl rfl hk hlt rfl))|(exfalso;omega)|(refine yaS ?_ ?_<;>intro _)
    rw [htk]
    repeat' first|refine yaG ?_|((first|apply Go.pcallB|apply Go.spcallB|apply Qg.pcallB);(iterate 3 exact rfl);exact l1Has_ok (l.take i) l[i] (by simp;omega);intro _ _)|(exfalso;omega)|(refine yaS ?_ ?_<;>intro _)
    · refine .ret rfl (.bool ?_)
      rename_i b1 hb1 hb3
      rw [colsF, hstep, bT hb1 hb3]
      simp
    · refine Go.keep [0, 1, 5] (hrec _ _ _ (by omega) ⟨i + 1, _, rfl, hlt, wrap_succ hk (by omega), ?_, rfl, rfl⟩)
      rename_i b1 hb1 hb3
      rw [hw] at hb
      rw [hstep, bF hb1 hb3, nbF hb hb2]
      simp
  · have hfin : colsAux n [] l = true := by
      rw [hsl, List.drop_eq_nil_of_le (by omega)]
      rfl
    repeat' first|refine yaG ?_|(exfalso;omega)|(refine yaS ?_ ?_<;>intro _)
    refine .ret rfl (.bool ?_)
    rw [colsF, hfin]
    rfl
def isOfF (v : Val) (k : Int) : Bool := okVal v && (v.k == 0 || v.k == k)
theorem isOf_ok (v : Val) (k : Int) : Pure Tryz.prog 270 [.agg (encV v), .c (.int .i64 k)] (.c (.bool (isOfF v k))) := by
  refine Pure.run mixed c_impl_isOf_ok (Nat.le_of_ble_eq_true rfl) fun σ hS hA => ?_
  clear hS hA
  repeat' first|refine yaG ?_|((first|apply Go.pcallB|apply Go.spcallB|apply Qg.pcallB);(iterate 3 exact rfl);exact ValOk_ok _;intro _ _)|(exfalso;omega)|(refine yaS ?_ ?_<;>intro _)
  all_goals refine .ret rfl (.bool ?_)
  all_goals simp_all [isOfF]
def isFkF (f : Fk) (n : Int) : Bool := colsF f.cols n && (isNameF f.table && (isIn f.onDelete 0 2 && isIn f.onUpdate 0 2))
theorem isFk_ok (f : Fk) (n : Int) (hb : bFk 34359738368 f) (h0 : -4611686018427387904 ≤ n) (h1 : n ≤ 4611686018427387904) : Pure Tryz.prog 268 [.agg (encFk f), .c (.int .i64 n)] (.c (.bool (isFkF f n))) := by
  refine Pure.run mixed c_impl_isFk_ok (Nat.le_of_ble_eq_true rfl) fun σ hS hA => ?_
  clear hS hA
  repeat' first|refine yaG ?_|((first|apply Go.pcallB|apply Go.spcallB|apply Qg.pcallB);(iterate 3 exact rfl);(first|exact areColumns_ok f.cols n hb.1 h0 h1|exact isName_ok f.table hb.2|exact in_ok _ _ _);intro _ _)|(exfalso;omega)|(refine yaS ?_ ?_<;>intro _)
  all_goals refine .ret rfl (.bool ?_)
  all_goals simp_all [isFkF]
/-! ### The columns of a table -/
def colOk (c : Col) : Bool := isNameF c.name && ((c.kind == 1 || c.kind == 2) && isOfF c.dflt c.kind)
def colsDef : List Col → List Col → Bool
  | _, [] => true
  | pre, c :: r => colOk c && !(pre.any fun d => d.name == c.name) && colsDef (pre ++ [c]) r
def areColsF (l : List Col) : Bool := decide ((l.length : Int) ≤ 8) && (colsDef [] l && decide (0 < (l.length : Int)))
theorem areCols1_ok (d c : Col) : Pure Tryz.prog 292 [.agg (encCol d), .c (.fp (encCol c))] (.c (.bool (d.name == c.name))) := by
  refine Pure.run mixed c_impl_areCols_1_ok (Nat.le_of_ble_eq_true rfl) fun σ hS hA => ?_
  clear hS hA
  repeat' first|refine yaG ?_|(exfalso;omega)|(refine yaS ?_ ?_<;>intro _)
  all_goals refine .ret rfl (.bool ?_)
  all_goals simp_all
theorem areCols_ok (l : List Col) (hx : l.length ≤ 34359738368) (hb : ∀ c ∈ l, bCol 34359738368 c) : Pure Tryz.prog 261 [.c (.fz (l.map encCol))] (.c (.bool (areColsF l))) := by
  refine Pure.run mixed c_impl_areCols_ok (Nat.le_of_ble_eq_true rfl) fun σ hS hA => ?_
  clear hS hA
  repeat' first|refine yaG ?_|(exfalso;omega)|(refine yaS ?_ ?_<;>intro _)
  refine Go.keep [0, 5, 6, 7] (Go.loops (I := fun m fr τ => ∃ i : Nat, ∃ k : Int, m = l.length - i ∧ i ≤ l.length ∧ k = i ∧ (i ≤ 8 ∧ colsDef [] l = colsDef (l.take i) (l.drop i)) ∧
    fr = [(0, .c (.fz (l.map encCol))), (5, .c (.fz (l.map encCol))), (6, .c (.int .i64 (l.length : Int))), (7, .c (.int .i64 k))] ∧ τ = E σ []) ?_ _ _ _ ⟨0, _, rfl, Nat.zero_le _, rfl, ⟨by omega, rfl⟩, rfl, rfl⟩)
  rintro m fr τ ⟨i, k, rfl, hi, hk, ⟨h8, hsl⟩, rfl, rfl⟩ hrec
  by_cases hlt : i < l.length
  · have hd := List.drop_eq_getElem_cons hlt
    have hbc := hb _ (List.getElem_mem hlt)
    have htk : (l.map encCol).take i = (l.take i).map encCol := List.map_take.symm
    have hstep : colsDef [] l = (colOk l[i] && !((l.take i).any fun d => d.name == l[i].name) && colsDef (l.take (i + 1)) (l.drop (i + 1))) := by
      rw [hsl, hd, colsDef, List.take_succ_eq_append_getElem hlt]
    have neg : (k = 8 ∨ colOk l[i] = false ∨ ((l.take i).any fun d => d.name == l[i].name) = true) → areColsF l = false := by
      rintro (h | h | h)
      · rw [areColsF, decide_eq_false (by omega)]
        rfl
      · rw [areColsF, hstep, h]
        simp
      · rw [areColsF, hstep, h]
        simp
    repeat' first|refine yaG ?_|((first|apply yG|apply yH|apply yI);exact rfl;(first|exact yX (enc := encCol) rfl rfl hk hlt rfl))|((first|apply Go.pcallB|apply Go.spcallB|apply Qg.pcallB);(iterate 3 exact rfl);(first|exact isName_ok l[i].name hbc.1|exact isOf_ok l[i].dflt l[i].kind);intro _ _)|(exfalso;omega)|(refine yaS ?_ ?_<;>intro _)
    all_goals try (refine .ret rfl (.bool (neg ?_).symm); clear hrec hsl hstep neg; simp_all [colOk]; done)
    all_goals have hcol : colOk l[i] = true := (by clear hrec hsl hstep neg; simp_all [colOk])
    all_goals refine .op rfl (aop_sliceF (n := i) rfl rfl hk (by simp; omega) (fun e he => by obtain ⟨c, _, rfl⟩ := List.mem_map.1 he; rfl)) ?_
    all_goals rw [htk]
    all_goals (repeat' first|(apply yA;exact rfl)|apply yB|apply yC|((first|apply yD|apply yE);(first|exact yF|assumption);iterate 6 exact rfl)|((first|apply yG|apply yH|apply yI);exact rfl;(first|exact yJ|exact yK rfl rfl|exact yL rfl|exact yM rfl|exact rfl|exact aL rfl rfl rfl rfl rfl|exact aS rfl rfl rfl rfl rfl rfl rfl))|((first|apply yN|apply yO|apply yP);exact rfl)|((first|apply Go.pcallB|apply Go.spcallB|apply Qg.pcallB);(iterate 3 exact rfl);exact containsFuncA_ok mixed c_slices_ContainsFunc_Col_ok c_slices_IndexFunc_Col_ok encCol (fun c => .agg (encCol c)) (fun _ => rfl) (fun _ => rfl) (l.take i) (fun d => d.name == l[i].name) _ [] [.fp (encCol l[i])] (by simp;omega) (fun j hj _ => areCols1_ok _ _);intro _ _)|(exfalso;omega)|(((first|apply yT|apply yU|apply yV|apply yW);exact rfl;(first|exact .d|exact .e|exact .n|((fail_if_success exact bqt);(fail_if_success exact bqf);exact .b)))<;>intro _))
    all_goals rename_i b9 hb9 hb8
    all_goals first
      | exact .ret rfl (.bool (neg (.inr (.inr (bT hb9 hb8)))).symm)
      | (refine Go.keep [0, 5, 6, 7] (hrec _ _ _ (by omega) ⟨i + 1, _, rfl, hlt, wrap_succ hk (by omega), ⟨by omega, ?_⟩, rfl, rfl⟩); rw [hstep, hcol, bF hb9 hb8]; rfl)
  · have hfin : colsDef [] l = true := by
      rw [hsl, List.drop_eq_nil_of_le (by omega)]
      rfl
    repeat' first|refine yaG ?_|(exfalso;omega)|(refine yaS ?_ ?_<;>intro _)
    refine .ret rfl (.bool ?_)
    rw [areColsF, hfin, decide_eq_true (p := (l.length : Int) ≤ 8) (by omega)]
    rfl

/-! ### Tables -/
def notNullAt (t : Table) (c : Int) : Bool := match t.cols[c.toNat]? with | some x => x.notNull | none => false
def exprF (e : List Tok) (n : Int) : Bool := decide ((e.length : Int) ≤ 24) && exprAux n 0 e
def tableF (t : Table) : Bool :=
  isNameF t.name && (areColsF t.cols && (colsF t.key t.cols.length && (decide ((t.uniques.length : Int) ≤ 3) && (decide ((t.checks.length : Int) ≤ 3) && (decide ((t.fks.length : Int) ≤ 3) &&
    (!(t.key.any fun c => !notNullAt t c) && (!(t.uniques.any fun u => !colsF u.cols t.cols.length) && (!(t.checks.any fun c => !exprF c.expr t.cols.length) && !(t.fks.any fun f => !isFkF f t.cols.length)))))))))
theorem colsAux_in {n : Int} : ∀ {l pre : List Int}, colsAux n pre l = true → ∀ c ∈ l, isIn c 0 (n - 1) = true
  | [], _, _, c, h => by simp at h
  | a :: r, pre, h, c, hc => by
    simp only [colsAux, Bool.and_eq_true] at h
    rcases List.mem_cons.1 hc with rfl | hc
    · exact h.1.1
    · exact colsAux_in h.2 c hc
theorem colsF_in {l : List Int} {n : Int} (h : colsF l n = true) : ∀ c ∈ l, 0 ≤ c ∧ c < n := by
  intro c hc
  simp only [colsF, Bool.and_eq_true] at h
  have := colsAux_in h.1 c hc
  simp only [isIn, Bool.and_eq_true, decide_eq_true_eq] at this
  omega
theorem areColsF_len {l : List Col} (h : areColsF l = true) : 0 < l.length ∧ l.length ≤ 8 := by
  simp only [areColsF, Bool.and_eq_true, decide_eq_true_eq] at h
  omega
theorem TableOk1_ok (t : Table) (c : Int) (h0 : 0 ≤ c) (h1 : c < t.cols.length) : Pure Tryz.prog 263 [.c (.int .i64 c), .c (.fp (encTable t))] (.c (.bool (!notNullAt t c))) := by
  refine Pure.run mixed c_impl_TableOk_1_ok (Nat.le_of_ble_eq_true rfl) fun σ hS hA => ?_
  clear hS hA
  obtain ⟨n, rfl⟩ : ∃ n : Nat, c = n := ⟨c.toNat, by omega⟩
  have hn : n < t.cols.length := by omega
  repeat' first|refine yaG ?_|((first|apply yG|apply yH|apply yI);exact rfl;(first|exact yX (enc := encCol) rfl rfl rfl hn rfl))|(exfalso;omega)|(refine yaS ?_ ?_<;>intro _)
  refine .ret rfl (.bool ?_)
  simp [notNullAt, hn]
theorem TableOk2_ok (u : Uniq) (n : Int) (hb : bUniq 34359738368 u) (h0 : -4611686018427387904 ≤ n) (h1 : n ≤ 4611686018427387904) : Pure Tryz.prog 265 [.agg (encUniq u), .c (.fp [.int .i64 n])] (.c (.bool (!colsF u.cols n))) := by
  refine Pure.run mixed c_impl_TableOk_2_ok (Nat.le_of_ble_eq_true rfl) fun σ hS hA => ?_
  clear hS hA
  repeat' first|refine yaG ?_|refine yaC (areColumns_ok u.cols n hb h0 h1) ?_|(exfalso;omega)|(refine yaS ?_ ?_<;>intro _)
  exact .ret rfl (.bool rfl)
theorem exprF_eq {e : List Tok} {n : Int} (h0 : 0 ≤ n) (h1 : n ≤ 16) : (decide ((e.length : Int) ≤ 24) && isIn n 0 16 && exprAux n 0 e) = exprF e n := by
  have : isIn n 0 16 = true := by simp [isIn, h0, h1]
  rw [this, Bool.and_true]
  rfl
theorem TableOk3_ok (c : Chk) (n : Int) (hb : bChk 34359738368 c) (h0 : 0 ≤ n) (h1 : n ≤ 16) : Pure Tryz.prog 266 [.agg (encChk c), .c (.fp [.int .i64 n])] (.c (.bool (!exprF c.expr n))) := by
  refine Pure.run mixed c_impl_TableOk_3_ok (Nat.le_of_ble_eq_true rfl) fun σ hS hA => ?_
  clear hS hA
  have hc := ExprOk_ok c.expr n hb.1
  rw [exprF_eq h0 h1] at hc
  repeat' first|refine yaG ?_|refine yaC (hc) ?_|(exfalso;omega)|(refine yaS ?_ ?_<;>intro _)
  exact .ret rfl (.bool rfl)
theorem TableOk4_ok (f : Fk) (n : Int) (hb : bFk 34359738368 f) (h0 : -4611686018427387904 ≤ n) (h1 : n ≤ 4611686018427387904) : Pure Tryz.prog 267 [.agg (encFk f), .c (.fp [.int .i64 n])] (.c (.bool (!isFkF f n))) := by
  refine Pure.run mixed c_impl_TableOk_4_ok (Nat.le_of_ble_eq_true rfl) fun σ hS hA => ?_
  clear hS hA
  repeat' first|refine yaG ?_|refine yaC (isFk_ok f n hb h0 h1) ?_|(exfalso;omega)|(refine yaS ?_ ?_<;>intro _)
  exact .ret rfl (.bool rfl)
theorem TableOk_ok (t : Table) (hb : bTable 34359738368 t) : Pure Tryz.prog 195 [.agg (encTable t)] (.c (.bool (tableF t))) := by
  refine Pure.run mixed c_impl_TableOk_ok (Nat.le_of_ble_eq_true rfl) fun σ hS hA => ?_
  clear hS hA
  obtain ⟨b1, b2, b3, b4, b5, b6⟩ := hb
  repeat' first|refine yaG ?_|((first|apply Go.pcallB|apply Go.spcallB|apply Qg.pcallB);(iterate 3 exact rfl);(first|exact isName_ok t.name b1|exact areCols_ok t.cols b2.1 b2.2|exact areColumns_ok t.key t.cols.length b3 (by omega) (by omega));intro _ _)|(exfalso;omega)|(refine yaS ?_ ?_<;>intro _)
  all_goals try (refine .ret rfl (.bool ?_); simp_all [tableF]; done)
  · refine .ret rfl (.bool ?_)
    rw [tableF, decide_eq_false (p := (t.uniques.length : Int) ≤ 3) (by omega)]
    simp
  · refine .ret rfl (.bool ?_)
    rw [tableF, decide_eq_false (p := (t.checks.length : Int) ≤ 3) (by omega)]
    simp
  · refine .ret rfl (.bool ?_)
    rw [tableF, decide_eq_false (p := (t.fks.length : Int) ≤ 3) (by omega)]
    simp
  rename_i c1 p1 q1 c2 p2 q2 c3 p3 q3 g1 g2 g3
  have k1 := nbF p1 q1
  have k2 := nbF p2 q2
  have k3 := nbF p3 q3
  have hcl := areColsF_len k2
  have hin := colsF_in k3
  clear p1 q1 p2 q2 p3 q3
  repeat' first|refine yaG ?_|((first|apply Go.pcallB|apply Go.spcallB|apply Qg.pcallB);(iterate 3 exact rfl);(first|exact containsFuncA_ok mixed c_slices_ContainsFunc_int64_int64'_ok c_slices_IndexFunc_int64_int64'_ok encI (fun n => .c (.int .i64 n)) (fun _ => rfl) (fun _ => rfl) t.key (fun c => !notNullAt t c) _ [] [.fp (encTable t)] b3 (fun j hj _ => TableOk1_ok t _ (hin _ (List.getElem_mem hj)).1 (hin _ (List.getElem_mem hj)).2)|exact containsFuncA_ok mixed c_slices_ContainsFunc_Unique_ok c_slices_IndexFunc_Unique_ok encUniq (fun u => .agg (encUniq u)) (fun _ => rfl) (fun _ => rfl) t.uniques (fun u => !colsF u.cols t.cols.length) _ [] [.fp [.int .i64 t.cols.length]] b4.1 (fun j hj _ => TableOk2_ok _ _ (b4.2 _ (List.getElem_mem hj)) (by omega) (by omega))|exact containsFuncA_ok mixed c_slices_ContainsFunc_Check_ok c_slices_IndexFunc_Check_ok encChk (fun u => .agg (encChk u)) (fun _ => rfl) (fun _ => rfl) t.checks (fun c => !exprF c.expr t.cols.length) _ [] [.fp [.int .i64 t.cols.length]] b5.1 (fun j hj _ => TableOk3_ok _ _ (b5.2 _ (List.getElem_mem hj)) (by omega) (by omega))|exact containsFuncA_ok mixed c_slices_ContainsFunc_Fk_ok c_slices_IndexFunc_Fk_ok encFk (fun u => .agg (encFk u)) (fun _ => rfl) (fun _ => rfl) t.fks (fun f => !isFkF f t.cols.length) _ [] [.fp [.int .i64 t.cols.length]] b6.1 (fun j hj _ => TableOk4_ok _ _ (b6.2 _ (List.getElem_mem hj)) (by omega) (by omega)));intro _ _)|(exfalso;omega)|(refine yaS ?_ ?_<;>intro _)
  all_goals refine .ret rfl (.bool ?_)
  all_goals rw [tableF, k1, k2, k3, decide_eq_true (p := (t.uniques.length : Int) ≤ 3) (by omega), decide_eq_true (p := (t.checks.length : Int) ≤ 3) (by omega), decide_eq_true (p := (t.fks.length : Int) ≤ 3) (by omega)]
  all_goals simp_all
end Go.Proofs.YtinbdedlmkjokaaGreat.Am

/- Tables, as the reference sees them. -/
set_option linter.unusedVariables false
set_option linter.unusedSimpArgs false
namespace Go.Proofs.YtinbdedlmkjokaaGreat.Am

theorem ColAt_ok (x0 x2 x3 x4 x5 : Ce) (l : List Col) (s : List UInt8) (hx : l.length ≤ 34359738368) : Pure Tryz.prog 252 [.agg [x0, .fz (l.map encCol), x2, x3, x4, x5], .c (.str s)] (.c (.int .i64 (idxA (fun c => c.name == s) l 0))) := by
  refine Pure.run mixed c_spec_ColAt_ok (Nat.le_of_ble_eq_true rfl) fun σ hS hA => ?_
  clear hS hA
  repeat' first|refine yaG ?_|(exfalso;omega)|(refine yaS ?_ ?_<;>intro _)
  refine Go.keep [1, 2, 5] (Go.loops (I := fun m fr τ => ∃ i : Nat, ∃ k : Int, m = l.length - i ∧ i ≤ l.length ∧ k = i ∧ idxA (fun c => c.name == s) l 0 = idxA (fun c => c.name == s) (l.drop i) k ∧
    fr = [(1, .c (.str s)), (2, .c (.fp [x0, .fz (l.map encCol), x2, x3, x4, x5])), (5, .c (.int .i64 k))] ∧ τ = E σ []) ?_ _ _ _ ⟨0, _, rfl, Nat.zero_le _, rfl, rfl, rfl, rfl⟩)
  rintro m fr τ ⟨i, k, rfl, hi, hn, hsl, rfl, rfl⟩ hrec
  by_cases hlt : i < l.length
  · repeat' first|refine yaG ?_|((first|apply yG|apply yH|apply yI);exact rfl;(first|exact yX (enc := encCol) rfl rfl hn hlt rfl))|(exfalso;omega)|(refine yaS ?_ ?_<;>intro _)
    · refine .ret rfl (.int ?_)
      rw [hsl, List.drop_eq_getElem_cons hlt, idxA, if_pos (by assumption)]
    · rename_i h
      refine Go.keep [1, 2, 5] (hrec _ _ _ (by omega) ⟨i + 1, _, rfl, hlt, wrap_succ hn (by omega), ?_, rfl, rfl⟩)
      rw [hsl, List.drop_eq_getElem_cons hlt, idxA, if_neg (by rw [h]; simp), wrap64 (by omega) (by omega)]
  · repeat' first|refine yaG ?_|(exfalso;omega)|(refine yaS ?_ ?_<;>intro _)
    refine .ret rfl (.int ?_)
    rw [hsl, List.drop_eq_nil_of_le (by omega)]
    rfl
theorem l3At_ok (l : List Table) (s : List UInt8) (hx : l.length ≤ 34359738368) : Pure Tryz.prog 87 [.c (.fz (l.map encTable)), .c (.str s)] (.c (.int .i64 (idxA (fun t => t.name == s) l 0))) := by
  refine Pure.run mixed c_spec_l3At_ok (Nat.le_of_ble_eq_true rfl) fun σ hS hA => ?_
  clear hS hA
  repeat' first|refine yaG ?_|(exfalso;omega)|(refine yaS ?_ ?_<;>intro _)
  refine Go.keep [0, 1, 5] (Go.loops (I := fun m fr τ => ∃ i : Nat, ∃ k : Int, m = l.length - i ∧ i ≤ l.length ∧ k = i ∧ idxA (fun c => c.name == s) l 0 = idxA (fun c => c.name == s) (l.drop i) k ∧
    fr = [(0, .c (.fz (l.map encTable))), (1, .c (.str s)), (5, .c (.int .i64 k))] ∧ τ = E σ []) ?_ _ _ _ ⟨0, _, rfl, Nat.zero_le _, rfl, rfl, rfl, rfl⟩)
  rintro m fr τ ⟨i, k, rfl, hi, hn, hsl, rfl, rfl⟩ hrec
  by_cases hlt : i < l.length
  · repeat' first|refine yaG ?_|((first|apply yG|apply yH|apply yI);exact rfl;(first|exact yX (enc := encTable) rfl rfl hn hlt rfl))|(exfalso;omega)|(refine yaS ?_ ?_<;>intro _)
    · refine .ret rfl (.int ?_)
      rw [hsl, List.drop_eq_getElem_cons hlt, idxA, if_pos (by assumption)]
    · rename_i h
      refine Go.keep [0, 1, 5] (hrec _ _ _ (by omega) ⟨i + 1, _, rfl, hlt, wrap_succ hn (by omega), ?_, rfl, rfl⟩)
      rw [hsl, List.drop_eq_getElem_cons hlt, idxA, if_neg (by rw [h]; simp), wrap64 (by omega) (by omega)]
  · repeat' first|refine yaG ?_|(exfalso;omega)|(refine yaS ?_ ?_<;>intro _)
    refine .ret rfl (.int ?_)
    rw [hsl, List.drop_eq_nil_of_le (by omega)]
    rfl
theorem any_at {α : Type} {p : α → Bool} {l : List α} {i : Nat} (hi : i < l.length) (h : p l[i] = false) : (l.any fun a => !p a) = true := List.any_eq_true.2 ⟨l[i], List.getElem_mem hi, by rw [h]; rfl⟩
theorem any_none {α : Type} {p : α → Bool} {l : List α} (h : ∀ j (hj : j < l.length), p l[j] = true) : (l.any fun a => !p a) = false := by
  rw [List.any_eq_false]
  intro a ha
  obtain ⟨j, hj, rfl⟩ := List.mem_iff_getElem.1 ha
  rw [h j hj]
  simp
theorem upto {α : Type} {p : α → Bool} {l : List α} {i : Nat} (h : ∀ j (hj : j < l.length), j < i → p l[j] = true) (hi : i < l.length) (hp : p l[i] = true) : ∀ j (hj : j < l.length), j < i + 1 → p l[j] = true := fun j hj hji => by
  by_cases e : j = i
  · subst e; exact hp
  · exact h j hj (by omega)
theorem isIn12 {k : Int} : isIn k 1 2 = (k == 1 || k == 2) := by
  rw [Bool.eq_iff_iff]
  simp [isIn]
  omega
theorem tableF_iff {t : Table} : tableF t = true ↔ isNameF t.name = true ∧ isIn t.cols.length 1 8 = true ∧ colsF t.key t.cols.length = true ∧ (t.uniques.length : Int) ≤ 3 ∧ (t.checks.length : Int) ≤ 3 ∧ (t.fks.length : Int) ≤ 3 ∧ colsDef [] t.cols = true ∧
    (t.key.any fun c => !notNullAt t c) = false ∧ (t.uniques.any fun u => !colsF u.cols t.cols.length) = false ∧ (t.checks.any fun c => !exprF c.expr t.cols.length) = false ∧ (t.fks.any fun f => !isFkF f t.cols.length) = false := by
  simp only [tableF, areColsF, isIn, Bool.and_eq_true, decide_eq_true_eq, Bool.not_eq_true']
  constructor
  · rintro ⟨h1, ⟨h2, h3, h4⟩, h5, h6, h7, h8, h9, h10, h11, h12⟩
    exact ⟨h1, ⟨by omega, h2⟩, h5, h6, h7, h8, h3, h9, h10, h11, h12⟩
  · rintro ⟨h1, ⟨h2, h2'⟩, h3, h4, h5, h6, h7, h8, h9, h10, h11⟩
    exact ⟨h1, ⟨h2', h7, by omega⟩, h3, h4, h5, h6, h8, h9, h10, h11⟩
theorem tableF_not {t : Table} (h : tableF t = true → False) : tableF t = false := by
  cases c : tableF t
  · rfl
  · exact (h c).elim
theorem sTableOk_ok (t : Table) (hb : bTable 34359738368 t) : Pure Tryz.prog 183 [.agg (encTable t)] (.c (.bool (tableF t))) := by
  refine Pure.run mixed c_spec_TableOk_ok (Nat.le_of_ble_eq_true rfl) fun σ hS hA => ?_
  clear hS hA
  obtain ⟨b1, b2, b3, b4, b5, b6⟩ := hb
  repeat' first|refine yaG ?_|((first|apply Go.pcallB|apply Go.spcallB|apply Qg.pcallB);(iterate 3 exact rfl);(first|exact l3Name_ok t.name b1|exact l1In_ok _ _ _|exact l3Cols_ok t.key t.cols.length b3 (by omega) (by omega));intro _ _)|(exfalso;omega)|(refine yaS ?_ ?_<;>intro _)
  · exact .ret rfl (.bool (tableF_not fun h => by rename_i c p q; have h2 := (tableF_iff.1 h).1; rw [nbT p q] at h2; cases h2).symm)
  · exact .ret rfl (.bool (tableF_not fun h => by rename_i c1 p1 q1 c p q; have h2 := (tableF_iff.1 h).2.1; rw [nbT p q] at h2; cases h2).symm)
  · exact .ret rfl (.bool (tableF_not fun h => by rename_i c p q; have h2 := (tableF_iff.1 h).2.2.1; rw [nbT p q] at h2; cases h2).symm)
  · exact .ret rfl (.bool (tableF_not fun h => by have h2 := tableF_iff.1 h; omega).symm)
  · exact .ret rfl (.bool (tableF_not fun h => by have h2 := tableF_iff.1 h; omega).symm)
  · exact .ret rfl (.bool (tableF_not fun h => by have h2 := tableF_iff.1 h; omega).symm)
  rename_i c1 p1 q1 c2 p2 q2 c3 p3 q3 g1 g2 g3
  have k1 := nbF p1 q1
  have k2 := nbF p2 q2
  have k3 := nbF p3 q3
  have hin := colsF_in k3
  have hln : 1 ≤ (t.cols.length : Int) ∧ (t.cols.length : Int) ≤ 8 := by simpa [isIn] using k2
  clear p1 q1 p2 q2 p3 q3
  -- the columns
  refine Go.keep [1, 3, 4] (Go.loops (I := fun m fr τ => ∃ i : Nat, ∃ k : Int, m = t.cols.length - i ∧ i ≤ t.cols.length ∧ k = i ∧ colsDef [] t.cols = colsDef (t.cols.take i) (t.cols.drop i) ∧
    fr = [(1, .c (.fp (encTable t))), (3, .c (.int .i64 (t.cols.length : Int))), (4, .c (.int .i64 k))] ∧ τ = E σ []) ?_ _ _ _ ⟨0, _, rfl, Nat.zero_le _, rfl, rfl, rfl, rfl⟩)
  rintro m fr τ ⟨i, k, rfl, hi, hk, hsl, rfl, rfl⟩ hrec
  by_cases hlt : i < t.cols.length
  · have hd := List.drop_eq_getElem_cons hlt
    have hbc := b2.2 _ (List.getElem_mem hlt)
    have htk : (t.cols.map encCol).take i = (t.cols.take i).map encCol := List.map_take.symm
    have hstep : colsDef [] t.cols = (colOk t.cols[i] && !((t.cols.take i).any fun d => d.name == t.cols[i].name) && colsDef (t.cols.take (i + 1)) (t.cols.drop (i + 1))) := by
      rw [hsl, hd, colsDef, List.take_succ_eq_append_getElem hlt]
    have neg : (colOk t.cols[i] = false ∨ ((t.cols.take i).any fun d => d.name == t.cols[i].name) = true) → tableF t = false := fun h => tableF_not fun hh => by
      have h2 := (tableF_iff.1 hh).2.2.2.2.2.2.1
      rw [hstep] at h2
      rcases h with h | h <;> simp [h] at h2
    have hany := any_idx (p := fun d : Col => d.name == t.cols[i].name) (l := t.cols.take i)
    repeat' first|refine yaG ?_|((first|apply yG|apply yH|apply yI);exact rfl;(first|exact yX (enc := encCol) rfl rfl hk hlt rfl|exact aop_sliceF (n := i) rfl rfl hk (by simp;omega) (fun e he => by obtain ⟨c, _, rfl⟩ := List.mem_map.1 he;rfl)))|((first|apply Go.pcallB|apply Go.spcallB|apply Qg.pcallB);(iterate 3 exact rfl);exact l3Name_ok t.cols[i].name hbc.1;intro _ _)|(exfalso;omega)|(refine yaS ?_ ?_<;>intro _)
    · rename_i c p q
      exact .ret rfl (.bool (neg (.inl (by rw [colOk, nbT p q]; rfl))).symm)
    rename_i c p q
    have hnm := nbF p q
    rw [htk]
    repeat' first|refine yaG ?_|((first|apply Go.pcallB|apply Go.spcallB|apply Qg.pcallB);(iterate 3 exact rfl);(first|exact l1In_ok _ _ _|exact sValOk_ok _);intro _ _)|((first|apply Go.pcallI|apply Go.spcallI|apply Qg.pcallI);(iterate 3 exact rfl);exact ColAt_ok (.str []) .nils .nils .nils .nils (t.cols.take i) t.cols[i].name (by simp;omega);intro _ _)|(exfalso;omega)|(refine yaS ?_ ?_<;>intro _)
    all_goals clear p q
    all_goals try (refine .ret rfl (.bool (neg ?_).symm); clear hrec hsl hstep neg hin; simp_all [colOk, isOfF, isIn12]; done)
    all_goals have hok : (colOk t.cols[i] && !((t.cols.take i).any fun d => d.name == t.cols[i].name)) = true := (by clear hrec hsl hstep neg hin; simp_all [colOk, isOfF, isIn12])
    all_goals refine Go.keep [1, 3, 4] (hrec _ _ _ (by omega) ⟨i + 1, _, rfl, hlt, wrap_succ hk (by omega), ?_, rfl, rfl⟩)
    all_goals rw [hstep, hok, Bool.true_and]
  have hfin : colsDef [] t.cols = true := by
    rw [hsl, List.drop_eq_nil_of_le (by omega)]
    rfl
  clear hrec hsl
  repeat' first|refine yaG ?_|(exfalso;omega)|(refine yaS ?_ ?_<;>intro _)
  clear hlt hk hi
  -- the key
  refine Go.keep [1, 3, 6] (Go.loops (I := fun m fr τ => ∃ i : Nat, ∃ k : Int, m = t.key.length - i ∧ i ≤ t.key.length ∧ k = i ∧ (∀ j (hj : j < t.key.length), j < i → notNullAt t t.key[j] = true) ∧
    fr = [(1, .c (.fp (encTable t))), (3, .c (.int .i64 (t.cols.length : Int))), (6, .c (.int .i64 k))] ∧ τ = E σ []) ?_ _ _ _ ⟨0, _, rfl, Nat.zero_le _, rfl, fun j _ h => absurd h (by omega), rfl, rfl⟩)
  rintro m fr τ ⟨i, k, rfl, hi, hk, hall, rfl, rfl⟩ hrec
  by_cases hlt : i < t.key.length
  · have hc := hin _ (List.getElem_mem hlt)
    obtain ⟨n, hn⟩ : ∃ n : Nat, t.key[i] = n := ⟨t.key[i].toNat, by omega⟩
    have hn2 : n < t.cols.length := by omega
    have hnn : notNullAt t t.key[i] = t.cols[n].notNull := by simp [notNullAt, hn, hn2]
    repeat' first|refine yaG ?_|((first|apply yG|apply yH|apply yI);exact rfl;(first|exact yX (enc := encI) rfl rfl hk hlt rfl|exact yX (enc := encCol) rfl rfl hn hn2 rfl))|(exfalso;omega)|(refine yaS ?_ ?_<;>intro _)
    · rename_i h
      exact .ret rfl (.bool (tableF_not fun hh => by
        have h2 := (tableF_iff.1 hh).2.2.2.2.2.2.2.1
        rw [any_at hlt (by rw [hnn]; simpa using h)] at h2
        cases h2).symm)
    · rename_i h
      exact Go.keep [1, 3, 6] (hrec _ _ _ (by omega) ⟨i + 1, _, rfl, hlt, wrap_succ hk (by omega), upto hall hlt (by rw [hnn]; simpa using h), rfl, rfl⟩)
  have hkey := any_none (p := notNullAt t) (l := t.key) fun j hj => hall j hj (by omega)
  clear hrec hall
  repeat' first|refine yaG ?_|(exfalso;omega)|(refine yaS ?_ ?_<;>intro _)
  clear hlt hk hi
  -- the uniques
  refine Go.keep [1, 3, 7] (Go.loops (I := fun m fr τ => ∃ i : Nat, ∃ k : Int, m = t.uniques.length - i ∧ i ≤ t.uniques.length ∧ k = i ∧ (∀ j (hj : j < t.uniques.length), j < i → colsF t.uniques[j].cols t.cols.length = true) ∧
    fr = [(1, .c (.fp (encTable t))), (3, .c (.int .i64 (t.cols.length : Int))), (7, .c (.int .i64 k))] ∧ τ = E σ []) ?_ _ _ _ ⟨0, _, rfl, Nat.zero_le _, rfl, fun j _ h => absurd h (by omega), rfl, rfl⟩)
  rintro m fr τ ⟨i, k, rfl, hi, hk, hall, rfl, rfl⟩ hrec
  by_cases hlt : i < t.uniques.length
  · repeat' first|refine yaG ?_|((first|apply yG|apply yH|apply yI);exact rfl;(first|exact yX (enc := encUniq) rfl rfl hk hlt rfl))|((first|apply Go.pcallB|apply Go.spcallB|apply Qg.pcallB);(iterate 3 exact rfl);exact l3Cols_ok t.uniques[i].cols t.cols.length (b4.2 _ (List.getElem_mem hlt)) (by omega) (by omega);intro _ _)|(exfalso;omega)|(refine yaS ?_ ?_<;>intro _)
    · rename_i c p q
      exact .ret rfl (.bool (tableF_not fun hh => by
        have h2 := (tableF_iff.1 hh).2.2.2.2.2.2.2.2.1
        rw [any_at (p := fun u : Uniq => colsF u.cols t.cols.length) hlt (nbT p q)] at h2
        cases h2).symm)
    · rename_i c p q
      exact Go.keep [1, 3, 7] (hrec _ _ _ (by omega) ⟨i + 1, _, rfl, hlt, wrap_succ hk (by omega), upto (p := fun u : Uniq => colsF u.cols t.cols.length) hall hlt (nbF p q), rfl, rfl⟩)
  have huni := any_none (p := fun u : Uniq => colsF u.cols t.cols.length) (l := t.uniques) fun j hj => hall j hj (by omega)
  clear hrec hall
  repeat' first|refine yaG ?_|(exfalso;omega)|(refine yaS ?_ ?_<;>intro _)
  clear hlt hk hi
  -- the checks
  refine Go.keep [1, 3, 8] (Go.loops (I := fun m fr τ => ∃ i : Nat, ∃ k : Int, m = t.checks.length - i ∧ i ≤ t.checks.length ∧ k = i ∧ (∀ j (hj : j < t.checks.length), j < i → exprF t.checks[j].expr t.cols.length = true) ∧
    fr = [(1, .c (.fp (encTable t))), (3, .c (.int .i64 (t.cols.length : Int))), (8, .c (.int .i64 k))] ∧ τ = E σ []) ?_ _ _ _ ⟨0, _, rfl, Nat.zero_le _, rfl, fun j _ h => absurd h (by omega), rfl, rfl⟩)
  rintro m fr τ ⟨i, k, rfl, hi, hk, hall, rfl, rfl⟩ hrec
  by_cases hlt : i < t.checks.length
  · have hx := l2Expr_ok t.checks[i].expr t.cols.length (b5.2 _ (List.getElem_mem hlt)).1 (by omega) (by omega)
    rw [show (decide ((t.checks[i].expr.length : Int) ≤ 24) && exprAux t.cols.length 0 t.checks[i].expr) = exprF t.checks[i].expr t.cols.length from rfl] at hx
    repeat' first|refine yaG ?_|((first|apply yG|apply yH|apply yI);exact rfl;(first|exact yX (enc := encChk) rfl rfl hk hlt rfl))|((first|apply Go.pcallB|apply Go.spcallB|apply Qg.pcallB);(iterate 3 exact rfl);exact hx;intro _ _)|(exfalso;omega)|(refine yaS ?_ ?_<;>intro _)
    · rename_i c p q
      exact .ret rfl (.bool (tableF_not fun hh => by
        have h2 := (tableF_iff.1 hh).2.2.2.2.2.2.2.2.2.1
        rw [any_at (p := fun u : Chk => exprF u.expr t.cols.length) hlt (nbT p q)] at h2
        cases h2).symm)
    · rename_i c p q
      exact Go.keep [1, 3, 8] (hrec _ _ _ (by omega) ⟨i + 1, _, rfl, hlt, wrap_succ hk (by omega), upto (p := fun u : Chk => exprF u.expr t.cols.length) hall hlt (nbF p q), rfl, rfl⟩)
  have hchk := any_none (p := fun u : Chk => exprF u.expr t.cols.length) (l := t.checks) fun j hj => hall j hj (by omega)
  clear hrec hall
  repeat' first|refine yaG ?_|(exfalso;omega)|(refine yaS ?_ ?_<;>intro _)
  clear hlt hk hi
  -- the references
  refine Go.keep [1, 3, 9] (Go.loops (I := fun m fr τ => ∃ i : Nat, ∃ k : Int, m = t.fks.length - i ∧ i ≤ t.fks.length ∧ k = i ∧ (∀ j (hj : j < t.fks.length), j < i → isFkF t.fks[j] t.cols.length = true) ∧
    fr = [(1, .c (.fp (encTable t))), (3, .c (.int .i64 (t.cols.length : Int))), (9, .c (.int .i64 k))] ∧ τ = E σ []) ?_ _ _ _ ⟨0, _, rfl, Nat.zero_le _, rfl, fun j _ h => absurd h (by omega), rfl, rfl⟩)
  rintro m fr τ ⟨i, k, rfl, hi, hk, hall, rfl, rfl⟩ hrec
  by_cases hlt : i < t.fks.length
  · have hbf := b6.2 _ (List.getElem_mem hlt)
    have neg : isFkF t.fks[i] t.cols.length = false → tableF t = false := fun h => tableF_not fun hh => by
      have h2 := (tableF_iff.1 hh).2.2.2.2.2.2.2.2.2.2
      rw [any_at (p := fun u : Fk => isFkF u t.cols.length) hlt h] at h2
      cases h2
    repeat' first|refine yaG ?_|((first|apply yG|apply yH|apply yI);exact rfl;(first|exact yX (enc := encFk) rfl rfl hk hlt rfl))|((first|apply Go.pcallB|apply Go.spcallB|apply Qg.pcallB);(iterate 3 exact rfl);(first|exact l3Cols_ok t.fks[i].cols t.cols.length hbf.1 (by omega) (by omega)|exact l3Name_ok t.fks[i].table hbf.2|exact l1In_ok _ _ _);intro _ _)|(exfalso;omega)|(refine yaS ?_ ?_<;>intro _)
    all_goals try (refine .ret rfl (.bool (neg ?_).symm); clear hrec neg hin hall hkey huni hchk; simp_all [isFkF]; done)
    have hok : isFkF t.fks[i] t.cols.length = true := by
      clear hrec neg hin hall hkey huni hchk
      simp_all [isFkF]
    exact Go.keep [1, 3, 9] (hrec _ _ _ (by omega) ⟨i + 1, _, rfl, hlt, wrap_succ hk (by omega), upto (p := fun u : Fk => isFkF u t.cols.length) hall hlt hok, rfl, rfl⟩)
  have hfk := any_none (p := fun u : Fk => isFkF u t.cols.length) (l := t.fks) fun j hj => hall j hj (by omega)
  clear hrec hall
  repeat' first|refine yaG ?_|(exfalso;omega)|(refine yaS ?_ ?_<;>intro _)
  refine .ret rfl (.bool ?_)
  rw [eq_comm, tableF_iff]
  exact ⟨k1, k2, k3, by omega, by omega, by omega, hfin, hkey, huni, hchk, hfk⟩
end Go.Proofs.YtinbdedlmkjokaaGreat.Am

/- What expressions come to, in plain Lean. -/
set_option linter.unusedVariables false
set_option linter.unusedSimpArgs false
namespace Go.Proofs.YtinbdedlmkjokaaGreat.Am

def vNull : Val := ⟨0, 0, []⟩
def vInt (n : Int) : Val := ⟨1, n, []⟩
def yes (b : Bool) : Int := if b then 1 else 0
def truthV (v : Val) : Int := if v.k = 0 then 2 else if v.k = 1 then (if v.n = 0 then 0 else 1) else -1
def knownV (a b : Val) : Bool := okVal a && (okVal b && (!(a.k == 0) && !(b.k == 0)))
def eq3 (a b : Val) : Int := if knownV a b then yes (a == b) else 2
def less3 (a b : Val) : Int := if knownV a b then yes (decide (order a b < 0)) else 2
def tru (a : Int) : Bool := isIn a 0 2
def and3 (a b : Int) : Int := if tru a && tru b then (if a = 0 ∨ b = 0 then 0 else if a = 1 ∧ b = 1 then 1 else 2) else -1
def or3 (a b : Int) : Int := if tru a && tru b then (if a = 1 ∨ b = 1 then 1 else if a = 0 ∧ b = 0 then 0 else 2) else -1
def not3 (a : Int) : Int := if tru a then (if a = 2 then 2 else 1 - a) else -1
def asV (t : Int) : Val × Bool := if t = 2 then (vNull, true) else (vInt t, decide (0 ≤ t))
def sumV (a b : Val) (s : Int) : Val × Bool := if a.k = 2 ∨ b.k = 2 then (vNull, false) else if a.k = 0 ∨ b.k = 0 then (vNull, true) else (vInt (a.n + s * b.n), okVal (vInt (a.n + s * b.n)))
def vAt (l : List Val) (i : Nat) : Val := l[i]?.getD vNull
def applyF (t : Tok) (l row : List Val) : Val × Bool :=
  if t.kind = 1 then (vAt row t.col.toNat, true) else if t.kind = 2 then (t.v, true) else if t.kind = 3 then asV (eq3 (vAt l 0) (vAt l 1)) else if t.kind = 4 then asV (less3 (vAt l 0) (vAt l 1))
  else if t.kind = 5 then asV (and3 (truthV (vAt l 0)) (truthV (vAt l 1))) else if t.kind = 6 then asV (or3 (truthV (vAt l 0)) (truthV (vAt l 1))) else if t.kind = 7 then asV (not3 (truthV (vAt l 0)))
  else if t.kind = 8 then asV (yes ((vAt l 0).k == 0)) else if t.kind = 9 then sumV (vAt l 0) (vAt l 1) 1 else sumV (vAt l 0) (vAt l 1) (-1)
def fromOf (t : Tok) (st : List Val) : Nat := st.length - (tokTakes t).toNat
def evalL (row : List Val) : List Tok → List Val → Option (List Val)
  | [], st => some st
  | t :: r, st => if (applyF t (st.drop (fromOf t st)) row).2 then evalL row r (st.take (fromOf t st) ++ [(applyF t (st.drop (fromOf t st)) row).1]) else none
def evalR (e : List Tok) (row : List Val) : Val × Bool := match evalL row e [] with
  | some (v :: _) => (v, true)
  | _ => (vNull, false)
def evalOk (e : List Tok) (row : List Val) : Bool := areVals row 16 && exprF e row.length
def evalI (e : List Tok) (row : List Val) : Val × Bool := if evalOk e row then evalR e row else (vNull, false)
def truthR (e : List Tok) (row : List Val) : Int := if (evalR e row).2 then truthV (evalR e row).1 else -1
def truthI (e : List Tok) (row : List Val) : Int := if evalOk e row then truthR e row else -1
theorem truthI_eq (e : List Tok) (row : List Val) : (if (evalI e row).2 then truthV (evalI e row).1 else -1) = truthI e row := by
  simp only [evalI, truthI, truthR]
  split <;> simp
/-- Values that are right: what an expression leaves on its stack. -/
def Oks (l : List Val) : Prop := ∀ v ∈ l, okVal v = true
theorem Oks.at_ {l : List Val} (h : Oks l) (i : Nat) : okVal (vAt l i) = true := by
  simp only [vAt]
  cases hi : l[i]? with
  | none => rfl
  | some v => exact h v (List.mem_of_getElem? hi)
theorem okVal_null : okVal vNull = true := rfl
theorem okVal_int {n : Int} (h0 : -1000000000 ≤ n) (h1 : n ≤ 1000000000) : okVal (vInt n) = true := by
  simp [okVal, vInt, isIn, h0, h1]
theorem yes_range (b : Bool) : 0 ≤ yes b ∧ yes b ≤ 1 := by cases b <;> simp [yes]
theorem okVal_asV {t : Int} (h : t ≤ 2) (hk : (asV t).2 = true) : okVal (asV t).1 = true := by
  simp only [asV] at hk ⊢
  split
  · rfl
  · rename_i h2
    rw [if_neg h2] at hk
    have h0 : 0 ≤ t := of_decide_eq_true hk
    exact okVal_int (by omega) (by omega)
theorem okVal_sumV {a b : Val} {s : Int} (hk : (sumV a b s).2 = true) : okVal (sumV a b s).1 = true := by
  simp only [sumV] at hk ⊢
  split
  · rfl
  · rename_i h
    rw [if_neg h] at hk
    split
    · rfl
    · rename_i h2
      rw [if_neg h2] at hk
      exact hk
theorem eq3_range (a b : Val) : 0 ≤ eq3 a b ∧ eq3 a b ≤ 2 := by
  simp only [eq3]
  have := yes_range (a == b)
  split <;> omega
theorem less3_range (a b : Val) : 0 ≤ less3 a b ∧ less3 a b ≤ 2 := by
  simp only [less3]
  have := yes_range (decide (order a b < 0))
  split <;> omega
theorem and3_range (a b : Int) : -1 ≤ and3 a b ∧ and3 a b ≤ 2 := by
  simp only [and3]
  split
  · split
    · omega
    · split <;> omega
  · omega
theorem or3_range (a b : Int) : -1 ≤ or3 a b ∧ or3 a b ≤ 2 := by
  simp only [or3]
  split
  · split
    · omega
    · split <;> omega
  · omega
theorem tru_range {a : Int} : tru a = true ↔ 0 ≤ a ∧ a ≤ 2 := by simp [tru, isIn]
theorem not3_range (a : Int) : -1 ≤ not3 a ∧ not3 a ≤ 2 := by
  simp only [not3]
  split
  · rename_i h
    have := tru_range.1 h
    split <;> omega
  · omega
theorem applyF_ok {t : Tok} {l row : List Val} (ht : t.kind = 2 → okVal t.v = true) (hl : Oks l) (hr : Oks row) (h : (applyF t l row).2 = true) : okVal (applyF t l row).1 = true := by
  simp only [applyF] at h ⊢
  split
  · exact hr.at_ _
  · rename_i n1
    rw [if_neg n1] at h
    split
    · rename_i n2; exact ht n2
    · rename_i n2
      rw [if_neg n2] at h
      split
      · rename_i n3
        rw [if_pos n3] at h
        exact okVal_asV (eq3_range _ _).2 h
      · rename_i n3
        rw [if_neg n3] at h
        split
        · rename_i n4
          rw [if_pos n4] at h
          exact okVal_asV (less3_range _ _).2 h
        · rename_i n4
          rw [if_neg n4] at h
          split
          · rename_i n5
            rw [if_pos n5] at h
            exact okVal_asV (and3_range _ _).2 h
          · rename_i n5
            rw [if_neg n5] at h
            split
            · rename_i n6
              rw [if_pos n6] at h
              exact okVal_asV (or3_range _ _).2 h
            · rename_i n6
              rw [if_neg n6] at h
              split
              · rename_i n7
                rw [if_pos n7] at h
                exact okVal_asV (not3_range _).2 h
              · rename_i n7
                rw [if_neg n7] at h
                split
                · rename_i n8
                  rw [if_pos n8] at h
                  exact okVal_asV (by have := yes_range ((vAt l 0).k == 0); omega) h
                · rename_i n8
                  rw [if_neg n8] at h
                  split
                  · rename_i n9
                    rw [if_pos n9] at h
                    exact okVal_sumV h
                  · rename_i n9
                    rw [if_neg n9] at h
                    exact okVal_sumV h
theorem tokOk_const {t : Tok} {n : Int} (h : isTokF t n = true) (h2 : t.kind = 2) : okVal t.v = true := by
  simp only [isTokF] at h
  rw [if_neg (by omega), if_pos h2] at h
  simp at h
  exact h.2
theorem okVal_range {v : Val} (h : okVal v = true) (h1 : v.k = 1) : -1000000000 ≤ v.n ∧ v.n ≤ 1000000000 := by
  simp [okVal, isIn, h1] at h
  exact h.1
theorem okVal_kind {v : Val} (h : okVal v = true) : v.k = 0 ∨ v.k = 1 ∨ v.k = 2 := by
  simp [okVal] at h
  rcases h with (h | h) | h <;> simp [h]
end Go.Proofs.YtinbdedlmkjokaaGreat.Am

/- Entries: sameness, copies, dropping. -/
set_option linter.unusedVariables false
set_option linter.unusedSimpArgs false
namespace Go.Proofs.YtinbdedlmkjokaaGreat.Am

theorem sameVals_step {xs ys : List Val} {i : Nat} (h1 : i < xs.length) (h2 : i < ys.length) : (xs.drop i == ys.drop i) = ((xs[i].k == ys[i].k && (xs[i].n == ys[i].n && xs[i].s == ys[i].s)) && (xs.drop (i + 1) == ys.drop (i + 1))) := by
  rw [List.drop_eq_getElem_cons h1, List.drop_eq_getElem_cons h2, List.cons_beq_cons]
  congr 1
  generalize xs[i] = a
  generalize ys[i] = b
  obtain ⟨a1, a2, a3⟩ := a
  obtain ⟨b1, b2, b3⟩ := b
  rw [Bool.eq_iff_iff]
  simp
theorem l1SameVals_ok (xs ys : List Val) (hx : xs.length ≤ 34359738368) : Pure Tryz.prog 310 [.c (.fz (xs.map encV)), .c (.fz (ys.map encV))] (.c (.bool (xs == ys))) := by
  refine Pure.run mixed c_spec_l1SameVals_ok (Nat.le_of_ble_eq_true rfl) fun σ hS hA => ?_
  clear hS hA
  repeat' first|refine yaG ?_|(exfalso;omega)|(refine yaS ?_ ?_<;>intro _)
  · refine .ret rfl (.bool ?_)
    rw [eq_comm, beq_eq_false_iff_ne]
    rintro rfl
    simp at *
  refine Go.keep [0, 1, 5] (Go.loops (I := fun m fr τ => ∃ i : Nat, ∃ n : Int, m = xs.length - i ∧ i ≤ xs.length ∧ n = i ∧ (xs.length = ys.length ∧ (xs == ys) = (xs.drop i == ys.drop i)) ∧
    fr = [(0, .c (.fz (xs.map encV))), (1, .c (.fz (ys.map encV))), (5, .c (.int .i64 n))] ∧ τ = E σ []) ?_ _ _ _ ⟨0, _, rfl, Nat.zero_le _, rfl, ⟨by omega, rfl⟩, rfl, rfl⟩)
  rintro m fr τ ⟨i, n, rfl, hi, hn, ⟨hl, hsl⟩, rfl, rfl⟩ hrec
  by_cases hlt : i < xs.length
  · have hlt2 : i < ys.length := by omega
    have hst := sameVals_step hlt hlt2
    repeat' first|refine yaG ?_|((first|apply yG|apply yH|apply yI);exact rfl;(first|exact yX (enc := encV) rfl rfl hn hlt rfl|exact yX (enc := encV) rfl rfl hn hlt2 rfl))|(exfalso;omega)|(refine yaS ?_ ?_<;>intro _)
    · refine .ret rfl (.bool ?_)
      rw [hsl, hst]
      clear hrec
      simp_all
      intros
      simp_all
    · refine Go.keep [0, 1, 5] (hrec _ _ _ (by omega) ⟨i + 1, _, rfl, hlt, wrap_succ hn (by omega), ⟨hl, ?_⟩, rfl, rfl⟩)
      rw [hsl, hst]
      clear hrec
      simp_all
  · repeat' first|refine yaG ?_|(exfalso;omega)|(refine yaS ?_ ?_<;>intro _)
    refine .ret rfl (.bool ?_)
    rw [hsl, List.drop_eq_nil_of_le (by omega), List.drop_eq_nil_of_le (by omega)]
    rfl
/-! ### Copies -/
theorem clean_append {xs : List Val} : ∀ e ∈ xs.map encV, e.length = 3 ∧ ∀ x ∈ e, Flat x := by
  intro e he
  obtain ⟨a, _, rfl⟩ := List.mem_map.1 he
  exact ⟨rfl, flatV a⟩
end Go.Proofs.YtinbdedlmkjokaaGreat.Am
