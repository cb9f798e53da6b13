/- Joined texts: C1, Am21, Am22, F1, F2, F3, F4, Am23, Am24, Am25, F5, Am26, F6, F7, Am28, F8. -/
import Derived.Test.YtcfpdongfdhgjaaProg
import Derived.KernelRfl
import Derived.Test.YtcfpdongfdhgjaaChecked
import Derived.Test.YtcfpdongfdhgjaaIp1
import Derived.Test.YtcfpdongfdhgjaaIp2
/- The functions' code in the abstract machine's words, each with the proof that it is so. Printed by a program. -/
set_option linter.unusedVariables false
namespace Go.Proofs.Ytcfpdongfdhgjaa.Am

abbrev oM (d k : Nat) : AOper := ⟨some d, .op (.mv (.t k)), none⟩
abbrev oP (d : Nat) (a : AOp) : AOper := ⟨some d, .op a, none⟩
abbrev oT (d : Nat) (a : AOp) (g : Nat) : AOper := ⟨some d, .op a, some (g, true)⟩
abbrev oF (d : Nat) (a : AOp) (g : Nat) : AOper := ⟨some d, .op a, some (g, false)⟩
abbrev oC (d n : Nat) (l : List Opd) : AOper := ⟨some d, .call (.f n) l, none⟩
abbrev kI (z : Int) : Opd := .k (.int .i64 z)
def c_laws_FnExactIndexPut : AFn := ⟨119, [.t 4], (.seq (.region [oP 3 (.box true (.t 1)), oP 4 (.mv (.k (.bool false)))]) (.seq (.region [oP 5 (.mv (kI 1048576))]) (.seq (.region [oM 17 0, oM 18 5, oC 19 4 [(.t 17), (.t 18)], oM 5 19]) (.seq (.seq (.region [oM 20 5, oP 21 (.bin .lss (.t 20) (kI 0))]) (.cond (.t 21) (.seq (.region [oP 4 (.mv (.k (.bool true)))]) .ret) .skip)) (.seq (.region [oP 22 (.load true 2 (.t 3)), oM 23 5, oC 24 5 [(.t 22), (.t 23)], oM 5 24]) (.seq (.seq (.region [oM 25 5, oP 26 (.bin .lss (.t 25) (kI 0))]) (.cond (.t 26) (.seq (.region [oP 4 (.mv (.k (.bool true)))]) .ret) .skip)) (.seq (.draw [[oM 28 0, oC 29 7 [(.t 28)], oP 30 (.load true 2 (.t 3))], [oC 31 8 [(.t 30)]], [oC 32 6 [(.t 29), (.t 31)]], [oM 27 32], [oP 33 (.ext (.t 27) 0), oP 34 (.ext (.t 27) 1), oM 6 33], [oM 7 34]]) (.seq (.region [oM 35 0, oC 36 7 [(.t 35)], oM 8 36]) (.seq (.region [oP 37 (.load true 2 (.t 3)), oC 38 8 [(.t 37)], oP 9 (.alloc [.nils, .int .i64 0]), ⟨none, .op (.store 2 (.t 9) (.t 38)), none⟩]) (.seq (.region [oM 40 8, oP 41 (.load true 2 (.t 9)), oC 42 9 [(.t 40), (.t 41)], oM 39 42, oP 43 (.ext (.t 39) 0), oP 44 (.ext (.t 39) 1), oM 10 43, oM 11 44]) (.seq (.seq (.region [oM 45 10, oM 46 6, oC 47 10 [(.t 45), (.t 46)], oP 48 (.un .not (.t 47)), oM 49 48, oF 50 (.mv (.t 11)) 49, oF 51 (.mv (.t 7)) 49, oF 52 (.eq true false [.b] (.t 50) (.t 51)) 49, oP 53 (.pick (.t 49) (.k (.bool true)) (.t 52))]) (.cond (.t 53) (.seq (.region [oP 4 (.mv (.k (.bool false)))]) .ret) .skip)) (.seq (.seq (.region [oM 54 8, oM 55 0, oC 56 7 [(.t 55)], oC 57 10 [(.t 54), (.t 56)], oP 58 (.un .not (.t 57))]) (.cond (.t 58) (.seq (.region [oP 4 (.mv (.k (.bool false)))]) .ret) .skip)) (.seq (.seq (.draw [[oP 59 (.load true 2 (.t 9)), oP 60 (.load true 2 (.t 3)), oC 61 8 [(.t 60)]], [oC 62 11 [(.t 59), (.t 61)]], [oP 63 (.un .not (.t 62))]]) (.cond (.t 63) (.seq (.region [oP 4 (.mv (.k (.bool false)))]) .ret) .skip)) (.seq (.region [oP 12 (.mv (kI 1))]) (.seq (.region [oM 64 8, oM 65 12, oC 66 12 [(.t 64), (.t 65)], oM 12 66]) (.seq (.region [oP 67 (.load true 2 (.t 9)), oM 68 12, oC 69 13 [(.t 67), (.t 68)], oM 12 69]) (.seq (.seq (.region [oM 70 12, oP 71 (.bin .lss (.t 70) (kI 0)), oM 72 71, oF 73 (.mv (.t 10)) 72, oF 74 (.mv (.t 6)) 72, ⟨some 75, .call (.f 10) [(.t 73), (.t 74)], (some (72, false))⟩, oF 76 (.un .not (.t 75)) 72, oP 77 (.pick (.t 72) (.k (.bool true)) (.t 76)), oM 78 77, oF 79 (.mv (.t 11)) 78, oF 80 (.mv (.t 7)) 78, oF 81 (.eq true false [.b] (.t 79) (.t 80)) 78, oP 82 (.pick (.t 78) (.k (.bool true)) (.t 81))]) (.cond (.t 82) (.seq (.region [oP 4 (.mv (.k (.bool false)))]) .ret) .skip)) (.seq (.region [oP 13 (.mv (kI 1))]) (.seq (.region [oM 83 10, oM 84 13, oC 85 12 [(.t 83), (.t 84)], oM 13 85]) (.seq (.region [oP 14 (.mv (kI 1))]) (.seq (.region [oM 86 10, oM 87 14, oC 88 14 [(.t 86), (.t 87)], oM 14 88]) (.seq (.seq (.region [oM 89 14, oP 90 (.bin .lss (.t 89) (kI 0))]) (.cond (.t 90) (.seq (.region [oP 4 (.mv (.k (.bool false)))]) .ret) .skip)) (.seq (.seq (.region [oM 91 14, oM 92 13, oP 93 (.bin .neq (.t 91) (.t 92))]) (.cond (.t 93) (.seq (.region [oP 4 (.mv (.k (.bool false)))]) .ret) .skip)) (.seq (.draw [[oM 95 0, oC 96 7 [(.t 95)], oP 97 (.load true 2 (.t 3))], [oC 98 8 [(.t 97)]], [oC 99 9 [(.t 96), (.t 98)]], [oM 94 99], [oP 100 (.ext (.t 94) 0), oP 101 (.ext (.t 94) 1), oM 15 100], [oM 16 101]]) (.seq (.seq (.region [oM 102 15, oM 103 6, oC 104 10 [(.t 102), (.t 103)], oP 105 (.un .not (.t 104)), oM 106 105, oF 107 (.mv (.t 16)) 106, oF 108 (.mv (.t 7)) 106, oF 109 (.eq true false [.b] (.t 107) (.t 108)) 106, oP 110 (.pick (.t 106) (.k (.bool true)) (.t 109))]) (.cond (.t 110) (.seq (.region [oP 4 (.mv (.k (.bool false)))]) .ret) .skip)) (.seq (.region [oP 14 (.mv (kI 1))]) (.seq (.region [oM 111 10, oM 112 14, oC 113 14 [(.t 111), (.t 112)], oM 14 113]) (.seq (.seq (.region [oM 114 14, oP 115 (.bin .lss (.t 114) (kI 0))]) (.cond (.t 115) (.seq (.region [oP 4 (.mv (.k (.bool false)))]) .ret) .skip)) (.seq (.seq (.region [oM 116 14, oM 117 13, oP 118 (.bin .neq (.t 116) (.t 117))]) (.cond (.t 118) (.seq (.region [oP 4 (.mv (.k (.bool false)))]) .ret) .skip)) (.seq (.region [oP 4 (.mv (.k (.bool true)))]) .ret))))))))))))))))))))))))))))))⟩
theorem c_laws_FnExactIndexPut_ok : compFn Try.prog [3] 3 = some c_laws_FnExactIndexPut := by kernel_rfl
def c_laws_szEntryS : AFn := ⟨27, [.t 4], (.seq (.region [oP 4 (.mv (kI 0))]) (.seq (.region [oM 6 1, oM 7 0, oP 8 (.len false (.t 7)), oP 9 (.bin .sub (.t 6) (.t 8)), oM 1 9]) (.seq (.seq (.region [oM 10 1, oP 11 (.bin .lss (.t 10) (kI 0))]) (.cond (.t 11) (.seq (.region [oP 4 (.mv (kI (-1)))]) .ret) .skip)) (.seq (.seq (.region [oP 5 (.mv (kI 0))]) (.block 0 (.loop (.seq (.seq (.region [oM 12 5, oM 13 0, oP 14 (.len false (.t 13)), oP 15 (.bin .lss (.t 12) (.t 14))]) (.cond (.t 15) .skip (.exit 0))) (.seq (.block 1 (.seq (.region [oM 18 0, oM 19 5, oP 20 (.iaddr 2 (.t 18) (.t 19)), oP 21 (.load true 2 (.t 20)), oM 22 1, oC 23 5 [(.t 21), (.t 22)], oM 1 23]) (.seq (.region [oM 24 1, oP 25 (.bin .lss (.t 24) (kI 0))]) (.cond (.t 25) (.seq (.region [oP 4 (.mv (kI (-1)))]) .ret) .skip)))) (.region [oM 16 5, oP 17 (.bin .add (.t 16) (kI 1)), oM 5 17])))))) (.seq (.region [oM 26 1, oM 4 26]) .ret)))))⟩
theorem c_laws_szEntryS_ok : compFn Try.prog [] 4 = some c_laws_szEntryS := by kernel_rfl
def c_laws_szEntry : AFn := ⟨12, [.t 4], (.seq (.region [oP 2 (.box true (.t 0)), oP 4 (.mv (kI 0))]) (.seq (.region [oP 5 (.faddr 0 (.t 2)), oP 6 (.load false 1 (.t 5)), oM 7 1, oC 8 15 [(.t 6), (.t 7)], oM 1 8]) (.seq (.seq (.region [oM 9 1, oP 10 (.bin .lss (.t 9) (kI 0))]) (.cond (.t 10) (.seq (.region [oP 4 (.mv (kI (-1)))]) .ret) .skip)) (.seq (.region [oM 11 1, oM 4 11]) .ret))))⟩
theorem c_laws_szEntry_ok : compFn Try.prog [2] 5 = some c_laws_szEntry := by kernel_rfl
def c_spec_IndexPut : AFn := ⟨23, [.t 4, .t 5], (.seq (.region [oP 3 (.box true (.t 1)), oP 4 (.mv (.k (.nils))), oP 5 (.mv (.k (.bool false)))]) (.seq (.seq (.region [oM 7 0, oC 8 16 [(.t 7)], oP 9 (.un .not (.t 8))]) (.cond (.t 9) (.seq (.region [oP 4 (.mv (.k (.nils))), oP 5 (.mv (.k (.bool false)))]) .ret) .skip)) (.seq (.draw [[oM 10 0, oC 11 18 [(.t 10)], oP 12 (.faddr 0 (.t 3)), oP 13 (.load false 1 (.t 12)), oC 14 19 [(.t 13)], oP 15 (.faddr 1 (.t 3)), oP 16 (.load false 1 (.t 15))], [oP 17 (.build [.nils, .int .i64 0] [(0, 1, (.t 14)), (1, 1, (.t 16))])], [oC 18 17 [(.t 11), (.t 17)]], [oM 6 18]]) (.seq (.seq (.region [oM 19 6, oC 20 16 [(.t 19)], oP 21 (.un .not (.t 20))]) (.cond (.t 21) (.seq (.region [oP 4 (.mv (.k (.nils))), oP 5 (.mv (.k (.bool false)))]) .ret) .skip)) (.seq (.region [oM 22 6, oM 4 22, oP 5 (.mv (.k (.bool true)))]) .ret)))))⟩
theorem c_spec_IndexPut_ok : compFn Try.prog [3] 6 = some c_spec_IndexPut := by kernel_rfl
def c_laws_toEntryS : AFn := ⟨23, [.t 2], (.seq (.region [oP 2 (.mv (.k (.nils)))]) (.seq (.region [oM 5 0, oP 6 (.len false (.t 5)), oP 7 (.mkslice 2 32 [.nils, .int .i64 0] (.t 6) (.t 6)), oM 3 7]) (.seq (.seq (.region [oP 4 (.mv (kI 0))]) (.block 0 (.loop (.seq (.seq (.region [oM 8 4, oM 9 0, oP 10 (.len false (.t 9)), oP 11 (.bin .lss (.t 8) (.t 10))]) (.cond (.t 11) .skip (.exit 0))) (.seq (.block 1 (.region [oM 14 3, oM 15 4, oM 16 0, oM 17 4, oP 18 (.iaddr 2 (.t 16) (.t 17)), oP 19 (.load true 2 (.t 18)), oC 20 8 [(.t 19)], oP 21 (.iaddr 2 (.t 14) (.t 15)), ⟨none, .op (.store 2 (.t 21) (.t 20)), none⟩])) (.region [oM 12 4, oP 13 (.bin .add (.t 12) (kI 1)), oM 4 13])))))) (.seq (.region [oM 22 3, oM 2 22]) .ret))))⟩
theorem c_laws_toEntryS_ok : compFn Try.prog [] 7 = some c_laws_toEntryS := by kernel_rfl
def c_laws_toEntry : AFn := ⟨12, [.m 2 true 2], (.seq (.region [oP 1 (.box true (.t 0)), oP 2 (.alloc [.nils, .int .i64 0])]) (.seq (.region [oP 3 (.alloc [.nils, .int .i64 0])]) (.seq (.region [oP 4 (.faddr 0 (.t 1)), oP 5 (.load false 1 (.t 4)), oC 6 20 [(.t 5)], oP 7 (.faddr 0 (.t 3)), ⟨none, .op (.store 1 (.t 7) (.t 6)), none⟩]) (.seq (.region [oP 8 (.faddr 1 (.t 1)), oP 9 (.load false 1 (.t 8)), oP 10 (.faddr 1 (.t 3)), ⟨none, .op (.store 1 (.t 10) (.t 9)), none⟩]) (.seq (.region [oP 11 (.load true 2 (.t 3)), ⟨none, .op (.store 2 (.t 2) (.t 11)), none⟩]) .ret)))))⟩
theorem c_laws_toEntry_ok : compFn Try.prog [1] 8 = some c_laws_toEntry := by kernel_rfl
def c_impl_IndexPut : AFn := ⟨38, [.t 4, .t 5], (.seq (.region [oP 3 (.box true (.t 1)), oP 4 (.mv (.k (.nils))), oP 5 (.mv (.k (.bool false)))]) (.seq (.seq (.draw [[oM 7 0], [oC 8 21 [(.t 7)]], [oP 9 (.un .not (.t 8))], [oM 10 9], [oF 11 (.mv (.t 0)) 10], [oF 12 (.len false (.t 11)) 10], [oF 13 (.bin .gtr (.t 12) (kI 0)) 10], [oF 14 (.mv (.t 13)) 10], [oT 15 (.mv (.t 0)) 14, oT 16 (.iaddr 2 (.t 15) (kI 0)) 14, oT 17 (.faddr 0 (.t 16)) 14, oT 18 (.load false 1 (.t 17)) 14, oT 19 (.len false (.t 18)) 14, oT 20 (.faddr 0 (.t 3)) 14, oT 21 (.load false 1 (.t 20)) 14, oT 22 (.len false (.t 21)) 14], [oT 23 (.bin .neq (.t 19) (.t 22)) 14], [oF 24 (.pick (.t 14) (.t 23) (.k (.bool false))) 10], [oP 25 (.pick (.t 10) (.k (.bool true)) (.t 24))]]) (.cond (.t 25) (.seq (.region [oP 4 (.mv (.k (.nils))), oP 5 (.mv (.k (.bool false)))]) .ret) .skip)) (.seq (.draw [[oM 26 0, oC 27 23 [(.t 26)], oP 28 (.load true 2 (.t 3)), oP 29 (.mksl true 2 1 [.nils, .int .i64 0] [(0, (.t 28))])], [oP 30 (.app 2 32 (.t 27) (.t 29))], [oC 31 22 [(.t 30)]], [oM 6 31]]) (.seq (.region [oM 32 6, oC 33 24 [(.t 32), (.f 25)]]) (.seq (.seq (.region [oM 34 6, oC 35 21 [(.t 34)], oP 36 (.un .not (.t 35))]) (.cond (.t 36) (.seq (.region [oP 4 (.mv (.k (.nils))), oP 5 (.mv (.k (.bool false)))]) .ret) .skip)) (.seq (.region [oM 37 6, oM 4 37, oP 5 (.mv (.k (.bool true)))]) .ret))))))⟩
theorem c_impl_IndexPut_ok : compFn Try.prog [3, 29] 9 = some c_impl_IndexPut := by kernel_rfl
def c_laws_eqEntryS : AFn := ⟨27, [.t 4], (.seq (.region [oP 4 (.mv (.k (.bool false)))]) (.seq (.seq (.region [oM 6 0, oP 7 (.len false (.t 6)), oM 8 1, oP 9 (.len false (.t 8)), oP 10 (.bin .neq (.t 7) (.t 9))]) (.cond (.t 10) (.seq (.region [oP 4 (.mv (.k (.bool false)))]) .ret) .skip)) (.seq (.seq (.region [oP 5 (.mv (kI 0))]) (.block 0 (.loop (.seq (.seq (.region [oM 11 5, oM 12 0, oP 13 (.len false (.t 12)), oP 14 (.bin .lss (.t 11) (.t 13))]) (.cond (.t 14) .skip (.exit 0))) (.seq (.block 1 (.seq (.draw [[oM 17 0, oM 18 5, oP 19 (.iaddr 2 (.t 17) (.t 18)), oP 20 (.load true 2 (.t 19)), oM 21 1, oM 22 5, oP 23 (.iaddr 2 (.t 21) (.t 22)), oP 24 (.load true 2 (.t 23))], [oC 25 11 [(.t 20), (.t 24)]], [oP 26 (.un .not (.t 25))]]) (.cond (.t 26) (.seq (.region [oP 4 (.mv (.k (.bool false)))]) .ret) .skip))) (.region [oM 15 5, oP 16 (.bin .add (.t 15) (kI 1)), oM 5 16])))))) (.seq (.region [oP 4 (.mv (.k (.bool true)))]) .ret))))⟩
theorem c_laws_eqEntryS_ok : compFn Try.prog [] 10 = some c_laws_eqEntryS := by kernel_rfl
def c_laws_eqEntry : AFn := ⟨16, [.t 4], (.seq (.region [oP 2 (.box true (.t 0)), oP 3 (.box true (.t 1)), oP 4 (.mv (.k (.bool false)))]) (.seq (.seq (.region [oP 5 (.faddr 0 (.t 2)), oP 6 (.load false 1 (.t 5)), oP 7 (.faddr 0 (.t 3)), oP 8 (.load false 1 (.t 7)), oC 9 26 [(.t 6), (.t 8)], oP 10 (.un .not (.t 9))]) (.cond (.t 10) (.seq (.region [oP 4 (.mv (.k (.bool false)))]) .ret) .skip)) (.seq (.seq (.region [oP 11 (.faddr 1 (.t 2)), oP 12 (.load false 1 (.t 11)), oP 13 (.faddr 1 (.t 3)), oP 14 (.load false 1 (.t 13)), oP 15 (.bin .neq (.t 12) (.t 14))]) (.cond (.t 15) (.seq (.region [oP 4 (.mv (.k (.bool false)))]) .ret) .skip)) (.seq (.region [oP 4 (.mv (.k (.bool true)))]) .ret))))⟩
theorem c_laws_eqEntry_ok : compFn Try.prog [2, 3] 11 = some c_laws_eqEntry := by kernel_rfl
def c_laws_markEntryS : AFn := ⟨27, [.t 4], (.seq (.region [oP 4 (.mv (kI 0))]) (.seq (.seq (.region [oP 5 (.mv (kI 0))]) (.block 0 (.loop (.seq (.seq (.region [oM 6 5, oM 7 0, oP 8 (.len false (.t 7)), oP 9 (.bin .lss (.t 6) (.t 8))]) (.cond (.t 9) .skip (.exit 0))) (.seq (.block 1 (.seq (.region [oM 12 0, oM 13 5, oP 14 (.iaddr 2 (.t 12) (.t 13)), oP 15 (.faddr 0 (.t 14)), oP 16 (.load false 1 (.t 15)), oM 17 1, oC 18 27 [(.t 16), (.t 17)], oM 1 18]) (.seq (.region [oM 19 0, oM 20 5, oM 21 1, oP 22 (.iaddr 2 (.t 19) (.t 20)), oP 23 (.faddr 1 (.t 22)), ⟨none, .op (.store 1 (.t 23) (.t 21)), none⟩]) (.region [oM 24 1, oP 25 (.bin .add (.t 24) (kI 1)), oM 1 25])))) (.region [oM 10 5, oP 11 (.bin .add (.t 10) (kI 1)), oM 5 11])))))) (.seq (.region [oM 26 1, oM 4 26]) .ret)))⟩
theorem c_laws_markEntryS_ok : compFn Try.prog [] 12 = some c_laws_markEntryS := by kernel_rfl
def c_laws_markEntry : AFn := ⟨10, [.t 4], (.seq (.region [oP 2 (.box true (.t 0)), oP 4 (.mv (kI 0))]) (.seq (.region [oP 5 (.faddr 0 (.t 2)), oP 6 (.load false 1 (.t 5)), oM 7 1, oC 8 27 [(.t 6), (.t 7)], oM 1 8]) (.seq (.region [oM 9 1, oM 4 9]) .ret)))⟩
theorem c_laws_markEntry_ok : compFn Try.prog [2] 13 = some c_laws_markEntry := by kernel_rfl
def c_laws_heldEntryS : AFn := ⟨31, [.t 4], (.seq (.region [oP 4 (.mv (kI 0))]) (.seq (.seq (.region [oP 5 (.mv (kI 0))]) (.block 0 (.loop (.seq (.seq (.region [oM 6 5, oM 7 0, oP 8 (.len false (.t 7)), oP 9 (.bin .lss (.t 6) (.t 8))]) (.cond (.t 9) .skip (.exit 0))) (.seq (.block 1 (.seq (.region [oM 12 0, oM 13 5, oP 14 (.iaddr 2 (.t 12) (.t 13)), oP 15 (.faddr 0 (.t 14)), oP 16 (.load false 1 (.t 15)), oM 17 1, oC 18 28 [(.t 16), (.t 17)], oM 1 18]) (.seq (.seq (.region [oM 19 1, oP 20 (.bin .lss (.t 19) (kI 0))]) (.cond (.t 20) (.seq (.region [oP 4 (.mv (kI (-1)))]) .ret) .skip)) (.seq (.seq (.region [oM 21 0, oM 22 5, oP 23 (.iaddr 2 (.t 21) (.t 22)), oP 24 (.faddr 1 (.t 23)), oP 25 (.load false 1 (.t 24)), oM 26 1, oP 27 (.bin .neq (.t 25) (.t 26))]) (.cond (.t 27) (.seq (.region [oP 4 (.mv (kI (-1)))]) .ret) .skip)) (.region [oM 28 1, oP 29 (.bin .add (.t 28) (kI 1)), oM 1 29]))))) (.region [oM 10 5, oP 11 (.bin .add (.t 10) (kI 1)), oM 5 11])))))) (.seq (.region [oM 30 1, oM 4 30]) .ret)))⟩
theorem c_laws_heldEntryS_ok : compFn Try.prog [] 14 = some c_laws_heldEntryS := by kernel_rfl
def c_laws_szValS : AFn := ⟨27, [.t 4], (.seq (.region [oP 4 (.mv (kI 0))]) (.seq (.region [oM 6 1, oM 7 0, oP 8 (.len false (.t 7)), oP 9 (.bin .sub (.t 6) (.t 8)), oM 1 9]) (.seq (.seq (.region [oM 10 1, oP 11 (.bin .lss (.t 10) (kI 0))]) (.cond (.t 11) (.seq (.region [oP 4 (.mv (kI (-1)))]) .ret) .skip)) (.seq (.seq (.region [oP 5 (.mv (kI 0))]) (.block 0 (.loop (.seq (.seq (.region [oM 12 5, oM 13 0, oP 14 (.len false (.t 13)), oP 15 (.bin .lss (.t 12) (.t 14))]) (.cond (.t 15) .skip (.exit 0))) (.seq (.block 1 (.seq (.region [oM 18 0, oM 19 5, oP 20 (.iaddr 3 (.t 18) (.t 19)), oP 21 (.load true 3 (.t 20)), oM 22 1, oC 23 29 [(.t 21), (.t 22)], oM 1 23]) (.seq (.region [oM 24 1, oP 25 (.bin .lss (.t 24) (kI 0))]) (.cond (.t 25) (.seq (.region [oP 4 (.mv (kI (-1)))]) .ret) .skip)))) (.region [oM 16 5, oP 17 (.bin .add (.t 16) (kI 1)), oM 5 17])))))) (.seq (.region [oM 26 1, oM 4 26]) .ret)))))⟩
theorem c_laws_szValS_ok : compFn Try.prog [] 15 = some c_laws_szValS := by kernel_rfl
def c_spec_l11Right : AFn := ⟨69, [.t 2], (.seq (.region [oP 2 (.mv (.k (.bool false)))]) (.seq (.seq (.region [oP 3 (.mv (kI 0))]) (.block 0 (.loop (.seq (.seq (.region [oM 4 3, oM 5 0, oP 6 (.len false (.t 5)), oP 7 (.bin .lss (.t 4) (.t 6))]) (.cond (.t 7) .skip (.exit 0))) (.seq (.block 1 (.seq (.draw [[oM 10 0, oM 11 3], [oP 12 (.iaddr 2 (.t 10) (.t 11))], [oP 13 (.faddr 0 (.t 12))], [oP 14 (.load false 1 (.t 13))], [oC 15 30 [(.t 14)]], [oP 16 (.un .not (.t 15))], [oM 17 16], [oF 18 (.mv (.t 0)) 17, oF 19 (.mv (.t 3)) 17], [oF 20 (.iaddr 2 (.t 18) (.t 19)) 17], [oF 21 (.faddr 0 (.t 20)) 17], [oF 22 (.load false 1 (.t 21)) 17], [oF 23 (.len false (.t 22)) 17], [oF 24 (.bin .eql (.t 23) (kI 0)) 17], [oP 25 (.pick (.t 17) (.k (.bool true)) (.t 24))], [oM 26 25], [oF 27 (.mv (.t 0)) 26, oF 28 (.mv (.t 3)) 26, oF 29 (.iaddr 2 (.t 27) (.t 28)) 26, oF 30 (.faddr 0 (.t 29)) 26, oF 31 (.load false 1 (.t 30)) 26, oF 32 (.len false (.t 31)) 26, oF 33 (.mv (.t 0)) 26, oF 34 (.iaddr 2 (.t 33) (kI 0)) 26, oF 35 (.faddr 0 (.t 34)) 26, oF 36 (.load false 1 (.t 35)) 26, oF 37 (.len false (.t 36)) 26], [oF 38 (.bin .neq (.t 32) (.t 37)) 26], [oP 39 (.pick (.t 26) (.k (.bool true)) (.t 38))], [oM 40 39], [oF 41 (.mv (.t 0)) 40, oF 42 (.mv (.t 3)) 40], [oF 43 (.iaddr 2 (.t 41) (.t 42)) 40], [oF 44 (.faddr 1 (.t 43)) 40], [oF 45 (.load false 1 (.t 44)) 40], [⟨some 46, .call (.f 31) [(.t 45), (kI 1), (kI 1000000000)], (some (40, false))⟩], [oF 47 (.un .not (.t 46)) 40], [oP 48 (.pick (.t 40) (.k (.bool true)) (.t 47))], [oM 49 48], [oF 50 (.mv (.t 3)) 49], [oF 51 (.bin .gtr (.t 50) (kI 0)) 49], [oF 52 (.mv (.t 51)) 49], [oT 53 (.mv (.t 0)) 52, oT 54 (.mv (.t 3)) 52, oT 55 (.bin .sub (.t 54) (kI 1)) 52, oT 56 (.iaddr 2 (.t 53) (.t 55)) 52, oT 57 (.load true 2 (.t 56)) 52, oT 58 (.mv (.t 0)) 52, oT 59 (.mv (.t 3)) 52, oT 60 (.iaddr 2 (.t 58) (.t 59)) 52, oT 61 (.load true 2 (.t 60)) 52], [⟨some 62, .call (.f 32) [(.t 57), (.t 61)], (some (52, true))⟩], [oT 63 (.un .not (.t 62)) 52], [oF 64 (.pick (.t 52) (.t 63) (.k (.bool false))) 49], [oP 65 (.pick (.t 49) (.k (.bool true)) (.t 64))]]) (.cond (.t 65) (.seq (.region [oP 2 (.mv (.k (.bool false)))]) .ret) .skip))) (.region [oM 8 3, oP 9 (.bin .add (.t 8) (kI 1)), oM 3 9])))))) (.seq (.region [oM 66 0, oP 67 (.len false (.t 66)), oP 68 (.bin .leq (.t 67) (kI 120)), oM 2 68]) .ret)))⟩
theorem c_spec_l11Right_ok : compFn Try.prog [] 16 = some c_spec_l11Right := by kernel_rfl
def c_spec_l11Put : AFn := ⟨35, [.t 4], (.seq (.region [oP 3 (.box true (.t 1)), oP 4 (.mv (.k (.nils)))]) (.seq (.region [oP 5 (.mv (kI 0))]) (.seq (.block 0 (.loop (.seq (.seq (.draw [[oM 7 5, oM 8 0, oP 9 (.len false (.t 8))], [oP 10 (.bin .lss (.t 7) (.t 9))], [oM 11 10], [oT 12 (.mv (.t 0)) 11, oT 13 (.mv (.t 5)) 11, oT 14 (.iaddr 2 (.t 12) (.t 13)) 11, oT 15 (.load true 2 (.t 14)) 11, oT 16 (.load true 2 (.t 3)) 11], [⟨some 17, .call (.f 32) [(.t 15), (.t 16)], (some (11, true))⟩], [oP 18 (.pick (.t 11) (.t 17) (.k (.bool false)))]]) (.cond (.t 18) .skip (.exit 0))) (.block 1 (.region [oM 19 5, oP 20 (.bin .add (.t 19) (kI 1)), oM 5 20]))))) (.seq (.region [oP 21 (.mksl false 2 0 [.nils, .int .i64 0] []), oM 22 0, oM 23 5, oP 24 (.slice 2 (.t 22) none (some (.t 23)) none), oP 25 (.app 2 32 (.t 21) (.t 24)), oM 6 25]) (.seq (.region [oM 26 6, oP 27 (.load true 2 (.t 3)), oP 28 (.mksl true 2 1 [.nils, .int .i64 0] [(0, (.t 27))]), oP 29 (.app 2 32 (.t 26) (.t 28)), oM 6 29]) (.seq (.region [oM 30 6, oM 31 0, oM 32 5, oP 33 (.slice 2 (.t 31) (some (.t 32)) none none), oP 34 (.app 2 32 (.t 30) (.t 33)), oM 4 34]) .ret))))))⟩
theorem c_spec_l11Put_ok : compFn Try.prog [3, 28] 17 = some c_spec_l11Put := by kernel_rfl
def c_spec_l11Copy : AFn := ⟨28, [.t 2], (.seq (.region [oP 2 (.mv (.k (.nils)))]) (.seq (.region [oP 5 (.mksl false 2 0 [.nils, .int .i64 0] []), oM 3 5]) (.seq (.seq (.region [oP 4 (.mv (kI 0))]) (.block 0 (.loop (.seq (.seq (.region [oM 6 4, oM 7 0, oP 8 (.len false (.t 7)), oP 9 (.bin .lss (.t 6) (.t 8))]) (.cond (.t 9) .skip (.exit 0))) (.seq (.block 1 (.draw [[oM 12 3, oM 13 0, oM 14 4, oP 15 (.iaddr 2 (.t 13) (.t 14)), oP 16 (.faddr 0 (.t 15)), oP 17 (.load false 1 (.t 16)), oC 18 19 [(.t 17)], oM 19 0, oM 20 4, oP 21 (.iaddr 2 (.t 19) (.t 20)), oP 22 (.faddr 1 (.t 21)), oP 23 (.load false 1 (.t 22)), oP 24 (.build [.nils, .int .i64 0] [(0, 1, (.t 18)), (1, 1, (.t 23))]), oP 25 (.mksl true 2 1 [.nils, .int .i64 0] [(0, (.t 24))])], [oP 26 (.app 2 32 (.t 12) (.t 25))], [oM 3 26]])) (.region [oM 10 4, oP 11 (.bin .add (.t 10) (kI 1)), oM 4 11])))))) (.seq (.region [oM 27 3, oM 2 27]) .ret))))⟩
theorem c_spec_l11Copy_ok : compFn Try.prog [25] 18 = some c_spec_l11Copy := by kernel_rfl
def c_spec_l1CopyVals : AFn := ⟨6, [.t 2], (.seq (.region [oP 2 (.mv (.k (.nils)))]) (.seq (.region [oP 3 (.mksl false 3 0 [.int .i64 0, .int .i64 0, .str []] []), oM 4 0, oP 5 (.app 3 32 (.t 3) (.t 4)), oM 2 5]) .ret))⟩
theorem c_spec_l1CopyVals_ok : compFn Try.prog [] 19 = some c_spec_l1CopyVals := by kernel_rfl
def c_laws_toValS : AFn := ⟨23, [.t 2], (.seq (.region [oP 2 (.mv (.k (.nils)))]) (.seq (.region [oM 5 0, oP 6 (.len false (.t 5)), oP 7 (.mkslice 3 32 [.int .i64 0, .int .i64 0, .str []] (.t 6) (.t 6)), oM 3 7]) (.seq (.seq (.region [oP 4 (.mv (kI 0))]) (.block 0 (.loop (.seq (.seq (.region [oM 8 4, oM 9 0, oP 10 (.len false (.t 9)), oP 11 (.bin .lss (.t 8) (.t 10))]) (.cond (.t 11) .skip (.exit 0))) (.seq (.block 1 (.region [oM 14 3, oM 15 4, oM 16 0, oM 17 4, oP 18 (.iaddr 3 (.t 16) (.t 17)), oP 19 (.load true 3 (.t 18)), oC 20 33 [(.t 19)], oP 21 (.iaddr 3 (.t 14) (.t 15)), ⟨none, .op (.store 3 (.t 21) (.t 20)), none⟩])) (.region [oM 12 4, oP 13 (.bin .add (.t 12) (kI 1)), oM 4 13])))))) (.seq (.region [oM 22 3, oM 2 22]) .ret))))⟩
theorem c_laws_toValS_ok : compFn Try.prog [] 20 = some c_laws_toValS := by kernel_rfl
def c_impl_areEntries : AFn := ⟨57, [.t 2], (.seq (.region [oP 2 (.mv (.k (.bool false)))]) (.seq (.seq (.region [oM 5 0, oP 6 (.len false (.t 5)), oP 7 (.mv (kI 0))]) (.block 0 (.loop (.seq (.region [oP 8 (.bin .lss (.t 7) (.t 6))]) (.seq (.cond (.t 8) .skip (.exit 0)) (.seq (.block 1 (.seq (.region [oM 9 7, oP 10 (.iaddr 2 (.t 5) (.t 7)), oP 11 (.load true 2 (.t 10)), oP 4 (.alloc [.nils, .int .i64 0]), oM 3 9, ⟨none, .op (.store 2 (.t 4) (.t 11)), none⟩]) (.seq (.draw [[oP 12 (.faddr 0 (.t 4))], [oP 13 (.load false 1 (.t 12))], [oP 14 (.len false (.t 13))], [oP 15 (.bin .eql (.t 14) (kI 0))], [oM 16 15], [oF 17 (.faddr 0 (.t 4)) 16, oF 18 (.load false 1 (.t 17)) 16, oF 19 (.len false (.t 18)) 16, oF 20 (.mv (.t 0)) 16, oF 21 (.iaddr 2 (.t 20) (kI 0)) 16, oF 22 (.faddr 0 (.t 21)) 16, oF 23 (.load false 1 (.t 22)) 16, oF 24 (.len false (.t 23)) 16], [oF 25 (.bin .neq (.t 19) (.t 24)) 16], [oP 26 (.pick (.t 16) (.k (.bool true)) (.t 25))], [oM 27 26], [oF 28 (.faddr 0 (.t 4)) 27], [oF 29 (.load false 1 (.t 28)) 27], [⟨some 30, .call (.f 34) [(.t 29), (kI 16)], (some (27, false))⟩], [oF 31 (.un .not (.t 30)) 27], [oP 32 (.pick (.t 27) (.k (.bool true)) (.t 31))], [oM 33 32], [oF 34 (.faddr 1 (.t 4)) 33], [oF 35 (.load false 1 (.t 34)) 33], [⟨some 36, .call (.f 35) [(.t 35), (kI 1), (kI 1000000000)], (some (33, false))⟩], [oF 37 (.un .not (.t 36)) 33], [oP 38 (.pick (.t 33) (.k (.bool true)) (.t 37))], [oM 39 38], [oF 40 (.mv (.t 3)) 39], [oF 41 (.bin .gtr (.t 40) (kI 0)) 39], [oF 42 (.mv (.t 41)) 39], [oT 43 (.mv (.t 0)) 42, oT 44 (.mv (.t 3)) 42, oT 45 (.bin .sub (.t 44) (kI 1)) 42, oT 46 (.iaddr 2 (.t 43) (.t 45)) 42, oT 47 (.load true 2 (.t 46)) 42, oT 48 (.load true 2 (.t 4)) 42], [⟨some 49, .call (.f 25) [(.t 47), (.t 48)], (some (42, true))⟩], [oT 50 (.bin .geq (.t 49) (kI 0)) 42], [oF 51 (.pick (.t 42) (.t 50) (.k (.bool false))) 39], [oP 52 (.pick (.t 39) (.k (.bool true)) (.t 51))]]) (.cond (.t 52) (.seq (.region [oP 2 (.mv (.k (.bool false)))]) .ret) .skip)))) (.region [oP 53 (.bin .add (.t 7) (kI 1)), oM 7 53]))))))) (.seq (.region [oM 54 0, oP 55 (.len false (.t 54)), oP 56 (.bin .leq (.t 55) (kI 120)), oM 2 56]) .ret)))⟩
theorem c_impl_areEntries_ok : compFn Try.prog [] 21 = some c_impl_areEntries := by kernel_rfl
def c_impl_copiedEntries : AFn := ⟨24, [.t 2], (.seq (.region [oP 2 (.mv (.k (.nils)))]) (.seq (.region [oP 6 (.mksl false 2 0 [.nils, .int .i64 0] []), oM 3 6]) (.seq (.seq (.region [oM 7 0, oP 8 (.len false (.t 7)), oP 9 (.mv (kI 0))]) (.block 0 (.loop (.seq (.region [oP 10 (.bin .lss (.t 9) (.t 8))]) (.seq (.cond (.t 10) .skip (.exit 0)) (.seq (.block 1 (.seq (.region [oP 11 (.iaddr 2 (.t 7) (.t 9)), oP 12 (.load true 2 (.t 11)), oP 5 (.alloc [.nils, .int .i64 0]), ⟨none, .op (.store 2 (.t 5) (.t 12)), none⟩]) (.draw [[oM 13 3, oP 14 (.faddr 0 (.t 5)), oP 15 (.load false 1 (.t 14)), oC 16 36 [(.t 15)], oP 17 (.faddr 1 (.t 5)), oP 18 (.load false 1 (.t 17)), oP 19 (.build [.nils, .int .i64 0] [(0, 1, (.t 16)), (1, 1, (.t 18))]), oP 20 (.mksl true 2 1 [.nils, .int .i64 0] [(0, (.t 19))])], [oP 21 (.app 2 32 (.t 13) (.t 20))], [oM 3 21]]))) (.region [oP 22 (.bin .add (.t 9) (kI 1)), oM 9 22]))))))) (.seq (.region [oM 23 3, oM 2 23]) .ret))))⟩
theorem c_impl_copiedEntries_ok : compFn Try.prog [20] 22 = some c_impl_copiedEntries := by kernel_rfl
def c_slices_Clone_Entry : AFn := ⟨8, [.t 2], (.seq (.region [oP 2 (.mv (.k (.nils)))]) (.seq (.seq (.region [oM 3 0, oP 4 (.eq false false [.sl] (.t 3) (.k (.nils)))]) (.cond (.t 4) (.seq (.region [oP 2 (.mv (.k (.nils)))]) .ret) .skip)) (.seq (.region [oP 5 (.mksl false 2 0 [.nils, .int .i64 0] []), oM 6 0, oP 7 (.app 2 32 (.t 5) (.t 6)), oM 2 7]) .ret)))⟩
theorem c_slices_Clone_Entry_ok : compFn Try.prog [] 23 = some c_slices_Clone_Entry := by kernel_rfl
def c_slices_SortStableFunc_Entry : AFn := ⟨9, [], (.region [oM 4 0, oM 5 0, oP 6 (.len false (.t 5)), oM 7 1, oC 8 37 [(.t 4), (.t 6), (.t 7)]])⟩
theorem c_slices_SortStableFunc_Entry_ok : compFn Try.prog [] 24 = some c_slices_SortStableFunc_Entry := by kernel_rfl
def c_impl_entryOrder : AFn := ⟨17, [.t 4], (.seq (.region [oP 2 (.box true (.t 0)), oP 3 (.box true (.t 1)), oP 4 (.mv (kI 0))]) (.seq (.draw [[oP 5 (.faddr 0 (.t 2)), oP 6 (.load false 1 (.t 5)), oP 7 (.faddr 0 (.t 3)), oP 8 (.load false 1 (.t 7)), oC 9 39 [(.t 6), (.t 8)], oP 10 (.faddr 1 (.t 2)), oP 11 (.load false 1 (.t 10)), oP 12 (.faddr 1 (.t 3)), oP 13 (.load false 1 (.t 12))], [oC 14 40 [(.t 11), (.t 13)]], [oP 15 (.mksl true 1 2 [.int .i64 0] [(0, (.t 9)), (1, (.t 14))])], [oC 16 38 [(.t 15)]], [oM 4 16]]) .ret))⟩
theorem c_impl_entryOrder_ok : compFn Try.prog [2, 3, 15] 25 = some c_impl_entryOrder := by kernel_rfl
def c_laws_eqValS : AFn := ⟨27, [.t 4], (.seq (.region [oP 4 (.mv (.k (.bool false)))]) (.seq (.seq (.region [oM 6 0, oP 7 (.len false (.t 6)), oM 8 1, oP 9 (.len false (.t 8)), oP 10 (.bin .neq (.t 7) (.t 9))]) (.cond (.t 10) (.seq (.region [oP 4 (.mv (.k (.bool false)))]) .ret) .skip)) (.seq (.seq (.region [oP 5 (.mv (kI 0))]) (.block 0 (.loop (.seq (.seq (.region [oM 11 5, oM 12 0, oP 13 (.len false (.t 12)), oP 14 (.bin .lss (.t 11) (.t 13))]) (.cond (.t 14) .skip (.exit 0))) (.seq (.block 1 (.seq (.draw [[oM 17 0, oM 18 5, oP 19 (.iaddr 3 (.t 17) (.t 18)), oP 20 (.load true 3 (.t 19)), oM 21 1, oM 22 5, oP 23 (.iaddr 3 (.t 21) (.t 22)), oP 24 (.load true 3 (.t 23))], [oC 25 41 [(.t 20), (.t 24)]], [oP 26 (.un .not (.t 25))]]) (.cond (.t 26) (.seq (.region [oP 4 (.mv (.k (.bool false)))]) .ret) .skip))) (.region [oM 15 5, oP 16 (.bin .add (.t 15) (kI 1)), oM 5 16])))))) (.seq (.region [oP 4 (.mv (.k (.bool true)))]) .ret))))⟩
theorem c_laws_eqValS_ok : compFn Try.prog [] 26 = some c_laws_eqValS := by kernel_rfl
def c_laws_markValS : AFn := ⟨35, [.t 4], (.seq (.region [oP 4 (.mv (kI 0))]) (.seq (.seq (.region [oP 5 (.mv (kI 0))]) (.block 0 (.loop (.seq (.seq (.region [oM 6 5, oM 7 0, oP 8 (.len false (.t 7)), oP 9 (.bin .lss (.t 6) (.t 8))]) (.cond (.t 9) .skip (.exit 0))) (.seq (.block 1 (.seq (.region [oM 12 0, oM 13 5, oM 14 1, oP 15 (.iaddr 3 (.t 12) (.t 13)), oP 16 (.faddr 0 (.t 15)), ⟨none, .op (.store 1 (.t 16) (.t 14)), none⟩]) (.seq (.region [oM 17 1, oP 18 (.bin .add (.t 17) (kI 1)), oM 1 18]) (.seq (.region [oM 19 0, oM 20 5, oM 21 1, oP 22 (.iaddr 3 (.t 19) (.t 20)), oP 23 (.faddr 1 (.t 22)), ⟨none, .op (.store 1 (.t 23) (.t 21)), none⟩]) (.seq (.region [oM 24 1, oP 25 (.bin .add (.t 24) (kI 1)), oM 1 25]) (.seq (.region [oM 26 0, oM 27 5, oM 28 1, oC 29 42 [(.t 28)], oP 30 (.iaddr 3 (.t 26) (.t 27)), oP 31 (.faddr 2 (.t 30)), ⟨none, .op (.store 1 (.t 31) (.t 29)), none⟩]) (.region [oM 32 1, oP 33 (.bin .add (.t 32) (kI 1)), oM 1 33]))))))) (.region [oM 10 5, oP 11 (.bin .add (.t 10) (kI 1)), oM 5 11])))))) (.seq (.region [oM 34 1, oM 4 34]) .ret)))⟩
theorem c_laws_markValS_ok : compFn Try.prog [] 27 = some c_laws_markValS := by kernel_rfl
def c_laws_heldValS : AFn := ⟨41, [.t 4], (.seq (.region [oP 4 (.mv (kI 0))]) (.seq (.seq (.region [oP 5 (.mv (kI 0))]) (.block 0 (.loop (.seq (.seq (.region [oM 6 5, oM 7 0, oP 8 (.len false (.t 7)), oP 9 (.bin .lss (.t 6) (.t 8))]) (.cond (.t 9) .skip (.exit 0))) (.seq (.block 1 (.seq (.seq (.region [oM 12 0, oM 13 5, oP 14 (.iaddr 3 (.t 12) (.t 13)), oP 15 (.faddr 0 (.t 14)), oP 16 (.load false 1 (.t 15)), oM 17 1, oP 18 (.bin .neq (.t 16) (.t 17))]) (.cond (.t 18) (.seq (.region [oP 4 (.mv (kI (-1)))]) .ret) .skip)) (.seq (.region [oM 19 1, oP 20 (.bin .add (.t 19) (kI 1)), oM 1 20]) (.seq (.seq (.region [oM 21 0, oM 22 5, oP 23 (.iaddr 3 (.t 21) (.t 22)), oP 24 (.faddr 1 (.t 23)), oP 25 (.load false 1 (.t 24)), oM 26 1, oP 27 (.bin .neq (.t 25) (.t 26))]) (.cond (.t 27) (.seq (.region [oP 4 (.mv (kI (-1)))]) .ret) .skip)) (.seq (.region [oM 28 1, oP 29 (.bin .add (.t 28) (kI 1)), oM 1 29]) (.seq (.seq (.draw [[oM 30 0, oM 31 5, oP 32 (.iaddr 3 (.t 30) (.t 31)), oP 33 (.faddr 2 (.t 32)), oP 34 (.load false 1 (.t 33)), oM 35 1, oC 36 42 [(.t 35)]], [oP 37 (.bin .neq (.t 34) (.t 36))]]) (.cond (.t 37) (.seq (.region [oP 4 (.mv (kI (-1)))]) .ret) .skip)) (.region [oM 38 1, oP 39 (.bin .add (.t 38) (kI 1)), oM 1 39]))))))) (.region [oM 10 5, oP 11 (.bin .add (.t 10) (kI 1)), oM 5 11])))))) (.seq (.region [oM 40 1, oM 4 40]) .ret)))⟩
theorem c_laws_heldValS_ok : compFn Try.prog [] 28 = some c_laws_heldValS := by kernel_rfl
def c_laws_szVal : AFn := ⟨13, [.t 4], (.seq (.region [oP 2 (.box true (.t 0)), oP 4 (.mv (kI 0))]) (.seq (.region [oM 5 1, oP 6 (.faddr 2 (.t 2)), oP 7 (.load false 1 (.t 6)), oP 8 (.len true (.t 7)), oP 9 (.bin .sub (.t 5) (.t 8)), oM 1 9]) (.seq (.seq (.region [oM 10 1, oP 11 (.bin .lss (.t 10) (kI 0))]) (.cond (.t 11) (.seq (.region [oP 4 (.mv (kI (-1)))]) .ret) .skip)) (.seq (.region [oM 12 1, oM 4 12]) .ret))))⟩
theorem c_laws_szVal_ok : compFn Try.prog [2] 29 = some c_laws_szVal := by kernel_rfl
def c_spec_l2Vals : AFn := ⟨19, [.t 2], (.seq (.region [oP 2 (.mv (.k (.bool false)))]) (.seq (.seq (.region [oP 3 (.mv (kI 0))]) (.block 0 (.loop (.seq (.seq (.region [oM 4 3, oM 5 0, oP 6 (.len false (.t 5)), oP 7 (.bin .lss (.t 4) (.t 6))]) (.cond (.t 7) .skip (.exit 0))) (.seq (.block 1 (.seq (.region [oM 10 0, oM 11 3, oP 12 (.iaddr 3 (.t 10) (.t 11)), oP 13 (.load true 3 (.t 12)), oC 14 43 [(.t 13)], oP 15 (.un .not (.t 14))]) (.cond (.t 15) (.seq (.region [oP 2 (.mv (.k (.bool false)))]) .ret) .skip))) (.region [oM 8 3, oP 9 (.bin .add (.t 8) (kI 1)), oM 3 9])))))) (.seq (.region [oM 16 0, oP 17 (.len false (.t 16)), oP 18 (.bin .leq (.t 17) (kI 16)), oM 2 18]) .ret)))⟩
theorem c_spec_l2Vals_ok : compFn Try.prog [] 30 = some c_spec_l2Vals := by kernel_rfl
def c_spec_l1In : AFn := ⟨15, [.t 6], (.seq (.region [oP 6 (.mv (.k (.bool false)))]) (.seq (.region [oM 7 0, oM 8 1, oP 9 (.bin .geq (.t 7) (.t 8)), oM 10 9, oT 11 (.mv (.t 0)) 10, oT 12 (.mv (.t 2)) 10, oT 13 (.bin .leq (.t 11) (.t 12)) 10, oP 14 (.pick (.t 10) (.t 13) (.k (.bool false))), oM 6 14]) .ret))⟩
theorem c_spec_l1In_ok : compFn Try.prog [] 31 = some c_spec_l1In := by kernel_rfl
def c_spec_l11Less : AFn := ⟨41, [.t 4], (.seq (.region [oP 2 (.box true (.t 0)), oP 3 (.box true (.t 1)), oP 4 (.mv (.k (.bool false)))]) (.seq (.seq (.region [oP 5 (.mv (kI 0))]) (.block 0 (.loop (.seq (.seq (.region [oM 7 5, oP 8 (.faddr 0 (.t 2)), oP 9 (.load false 1 (.t 8)), oP 10 (.len false (.t 9)), oP 11 (.bin .lss (.t 7) (.t 10)), oM 12 11, oT 13 (.mv (.t 5)) 12, oT 14 (.faddr 0 (.t 3)) 12, oT 15 (.load false 1 (.t 14)) 12, oT 16 (.len false (.t 15)) 12, oT 17 (.bin .lss (.t 13) (.t 16)) 12, oP 18 (.pick (.t 12) (.t 17) (.k (.bool false)))]) (.cond (.t 18) .skip (.exit 0))) (.seq (.block 1 (.seq (.draw [[oP 21 (.faddr 0 (.t 2)), oP 22 (.load false 1 (.t 21)), oM 23 5, oP 24 (.iaddr 3 (.t 22) (.t 23)), oP 25 (.load true 3 (.t 24)), oP 26 (.faddr 0 (.t 3)), oP 27 (.load false 1 (.t 26)), oM 28 5, oP 29 (.iaddr 3 (.t 27) (.t 28)), oP 30 (.load true 3 (.t 29))], [oC 31 44 [(.t 25), (.t 30)]], [oM 6 31]]) (.seq (.region [oM 32 6, oP 33 (.bin .neq (.t 32) (kI 0))]) (.cond (.t 33) (.seq (.region [oM 34 6, oP 35 (.bin .lss (.t 34) (kI 0)), oM 4 35]) .ret) .skip)))) (.region [oM 19 5, oP 20 (.bin .add (.t 19) (kI 1)), oM 5 20])))))) (.seq (.region [oP 36 (.faddr 1 (.t 2)), oP 37 (.load false 1 (.t 36)), oP 38 (.faddr 1 (.t 3)), oP 39 (.load false 1 (.t 38)), oP 40 (.bin .lss (.t 37) (.t 39)), oM 4 40]) .ret)))⟩
theorem c_spec_l11Less_ok : compFn Try.prog [2, 3] 32 = some c_spec_l11Less := by kernel_rfl
def c_laws_toVal : AFn := ⟨14, [.m 2 true 3], (.seq (.region [oP 1 (.box true (.t 0)), oP 2 (.alloc [.int .i64 0, .int .i64 0, .str []])]) (.seq (.region [oP 3 (.alloc [.int .i64 0, .int .i64 0, .str []])]) (.seq (.region [oP 4 (.faddr 0 (.t 1)), oP 5 (.load false 1 (.t 4)), oP 6 (.faddr 0 (.t 3)), ⟨none, .op (.store 1 (.t 6) (.t 5)), none⟩]) (.seq (.region [oP 7 (.faddr 1 (.t 1)), oP 8 (.load false 1 (.t 7)), oP 9 (.faddr 1 (.t 3)), ⟨none, .op (.store 1 (.t 9) (.t 8)), none⟩]) (.seq (.region [oP 10 (.faddr 2 (.t 1)), oP 11 (.load false 1 (.t 10)), oP 12 (.faddr 2 (.t 3)), ⟨none, .op (.store 1 (.t 12) (.t 11)), none⟩]) (.seq (.region [oP 13 (.load true 3 (.t 3)), ⟨none, .op (.store 3 (.t 2) (.t 13)), none⟩]) .ret))))))⟩
theorem c_laws_toVal_ok : compFn Try.prog [1] 33 = some c_laws_toVal := by kernel_rfl
def c_impl_areVals : AFn := ⟨23, [.t 4], (.seq (.region [oP 4 (.mv (.k (.bool false)))]) (.seq (.seq (.region [oM 7 0, oP 8 (.len false (.t 7)), oP 9 (.mv (kI 0))]) (.block 0 (.loop (.seq (.region [oP 10 (.bin .lss (.t 9) (.t 8))]) (.seq (.cond (.t 10) .skip (.exit 0)) (.seq (.block 1 (.seq (.region [oM 11 9, oP 12 (.iaddr 3 (.t 7) (.t 9)), oP 13 (.load true 3 (.t 12)), oP 6 (.alloc [.int .i64 0, .int .i64 0, .str []]), oM 5 11, ⟨none, .op (.store 3 (.t 6) (.t 13)), none⟩]) (.seq (.region [oM 14 5, oM 15 1, oP 16 (.bin .eql (.t 14) (.t 15)), oM 17 16, oF 18 (.load true 3 (.t 6)) 17, ⟨some 19, .call (.f 45) [(.t 18)], (some (17, false))⟩, oF 20 (.un .not (.t 19)) 17, oP 21 (.pick (.t 17) (.k (.bool true)) (.t 20))]) (.cond (.t 21) (.seq (.region [oP 4 (.mv (.k (.bool false)))]) .ret) .skip)))) (.region [oP 22 (.bin .add (.t 9) (kI 1)), oM 9 22]))))))) (.seq (.region [oP 4 (.mv (.k (.bool true)))]) .ret)))⟩
theorem c_impl_areVals_ok : compFn Try.prog [] 34 = some c_impl_areVals := by kernel_rfl
def c_impl_in : AFn := ⟨15, [.t 6], (.seq (.region [oP 6 (.mv (.k (.bool false)))]) (.seq (.region [oM 7 1, oM 8 0, oP 9 (.bin .leq (.t 7) (.t 8)), oM 10 9, oT 11 (.mv (.t 0)) 10, oT 12 (.mv (.t 2)) 10, oT 13 (.bin .leq (.t 11) (.t 12)) 10, oP 14 (.pick (.t 10) (.t 13) (.k (.bool false))), oM 6 14]) .ret))⟩
theorem c_impl_in_ok : compFn Try.prog [] 35 = some c_impl_in := by kernel_rfl
def c_slices_Clone_Val : AFn := ⟨8, [.t 2], (.seq (.region [oP 2 (.mv (.k (.nils)))]) (.seq (.seq (.region [oM 3 0, oP 4 (.eq false false [.sl] (.t 3) (.k (.nils)))]) (.cond (.t 4) (.seq (.region [oP 2 (.mv (.k (.nils)))]) .ret) .skip)) (.seq (.region [oP 5 (.mksl false 3 0 [.int .i64 0, .int .i64 0, .str []] []), oM 6 0, oP 7 (.app 3 32 (.t 5) (.t 6)), oM 2 7]) .ret)))⟩
theorem c_slices_Clone_Val_ok : compFn Try.prog [] 36 = some c_slices_Clone_Val := by kernel_rfl
def c_slices_stableCmpFunc_Entry : AFn := ⟨63, [], (.seq (.region [oP 6 (.mv (kI 20))]) (.seq (.region [oM 10 6, oP 7 (.mv (kI 0)), oM 8 10]) (.seq (.block 0 (.loop (.seq (.seq (.region [oM 11 8, oM 12 1, oP 13 (.bin .leq (.t 11) (.t 12))]) (.cond (.t 13) .skip (.exit 0))) (.block 1 (.seq (.region [oM 14 0, oM 15 7, oM 16 8, oM 17 2, oC 18 46 [(.t 14), (.t 15), (.t 16), (.t 17)]]) (.seq (.region [oM 19 8, oM 7 19]) (.region [oM 20 8, oM 21 6, oP 22 (.bin .add (.t 20) (.t 21)), oM 8 22]))))))) (.seq (.region [oM 23 0, oM 24 7, oM 25 1, oM 26 2, oC 27 46 [(.t 23), (.t 24), (.t 25), (.t 26)]]) (.block 2 (.loop (.seq (.seq (.region [oM 28 6, oM 29 1, oP 30 (.bin .lss (.t 28) (.t 29))]) (.cond (.t 30) .skip (.exit 2))) (.block 3 (.seq (.region [oM 31 6, oP 32 (.bin .mul (kI 2) (.t 31)), oP 7 (.mv (kI 0)), oM 8 32]) (.seq (.block 4 (.loop (.seq (.seq (.region [oM 33 8, oM 34 1, oP 35 (.bin .leq (.t 33) (.t 34))]) (.cond (.t 35) .skip (.exit 4))) (.block 5 (.seq (.region [oM 36 0, oM 37 7, oM 38 7, oM 39 6, oP 40 (.bin .add (.t 38) (.t 39)), oM 41 8, oM 42 2, oC 43 47 [(.t 36), (.t 37), (.t 40), (.t 41), (.t 42)]]) (.seq (.region [oM 44 8, oM 7 44]) (.region [oM 45 8, oM 46 6, oP 47 (.bin .mul (kI 2) (.t 46)), oP 48 (.bin .add (.t 45) (.t 47)), oM 8 48]))))))) (.seq (.seq (.region [oM 49 7, oM 50 6, oP 51 (.bin .add (.t 49) (.t 50)), oM 9 51]) (.seq (.region [oM 52 9, oM 53 1, oP 54 (.bin .lss (.t 52) (.t 53))]) (.cond (.t 54) (.region [oM 55 0, oM 56 7, oM 57 9, oM 58 1, oM 59 2, oC 60 47 [(.t 55), (.t 56), (.t 57), (.t 58), (.t 59)]]) .skip))) (.region [oM 61 6, oP 62 (.bin .mul (.t 61) (kI 2)), oM 6 62]))))))))))))⟩
theorem c_slices_stableCmpFunc_Entry_ok : compFn Try.prog [] 37 = some c_slices_stableCmpFunc_Entry := by kernel_rfl
def c_cmp_Or_int : AFn := ⟨18, [.t 2], (.seq (.region [oP 2 (.mv (kI 0))]) (.seq (.region [oP 3 (.mv (kI 0))]) (.seq (.seq (.region [oM 6 0, oP 7 (.len false (.t 6)), oP 8 (.mv (kI 0))]) (.block 0 (.loop (.seq (.region [oP 9 (.bin .lss (.t 8) (.t 7))]) (.seq (.cond (.t 9) .skip (.exit 0)) (.seq (.block 1 (.seq (.region [oP 10 (.iaddr 1 (.t 6) (.t 8)), oP 11 (.load false 1 (.t 10)), oM 5 11]) (.seq (.region [oM 12 5, oM 13 3, oP 14 (.bin .neq (.t 12) (.t 13))]) (.cond (.t 14) (.seq (.region [oM 15 5, oM 2 15]) .ret) .skip)))) (.region [oP 16 (.bin .add (.t 8) (kI 1)), oM 8 16]))))))) (.seq (.region [oM 17 3, oM 2 17]) .ret))))⟩
theorem c_cmp_Or_int_ok : compFn Try.prog [] 38 = some c_cmp_Or_int := by kernel_rfl
def c_impl_orderOf : AFn := ⟨25, [.t 4], (.seq (.region [oP 4 (.mv (kI 0))]) (.seq (.seq (.region [oM 8 0, oP 9 (.len false (.t 8)), oP 10 (.mv (kI 0))]) (.block 0 (.loop (.seq (.region [oP 11 (.bin .lss (.t 10) (.t 9))]) (.seq (.cond (.t 11) .skip (.exit 0)) (.seq (.block 1 (.seq (.region [oM 12 10, oP 13 (.iaddr 3 (.t 8) (.t 10)), oP 14 (.load true 3 (.t 13)), oP 6 (.alloc [.int .i64 0, .int .i64 0, .str []]), oM 5 12, ⟨none, .op (.store 3 (.t 6) (.t 14)), none⟩]) (.seq (.draw [[oP 15 (.load true 3 (.t 6)), oM 16 1, oM 17 5, oP 18 (.iaddr 3 (.t 16) (.t 17)), oP 19 (.load true 3 (.t 18))], [oC 20 48 [(.t 15), (.t 19)]], [oM 7 20]]) (.seq (.region [oM 21 7, oP 22 (.bin .neq (.t 21) (kI 0))]) (.cond (.t 22) (.seq (.region [oM 23 7, oM 4 23]) .ret) .skip))))) (.region [oP 24 (.bin .add (.t 10) (kI 1)), oM 10 24]))))))) (.seq (.region [oP 4 (.mv (kI 0))]) .ret)))⟩
theorem c_impl_orderOf_ok : compFn Try.prog [] 39 = some c_impl_orderOf := by kernel_rfl
def c_cmp_Compare_int64 : AFn := ⟨20, [.t 4], (.seq (.region [oP 4 (.mv (kI 0))]) (.seq (.region [oM 7 0, oC 8 49 [(.t 7)], oM 5 8]) (.seq (.region [oM 9 1, oC 10 49 [(.t 9)], oM 6 10]) (.seq (.seq (.region [oM 11 5]) (.cond (.t 11) (.seq (.seq (.region [oM 12 6]) (.cond (.t 12) (.seq (.region [oP 4 (.mv (kI 0))]) .ret) .skip)) (.seq (.region [oP 4 (.mv (kI (-1)))]) .ret)) .skip)) (.seq (.seq (.region [oM 13 6]) (.cond (.t 13) (.seq (.region [oP 4 (.mv (kI 1))]) .ret) .skip)) (.seq (.seq (.region [oM 14 0, oM 15 1, oP 16 (.bin .lss (.t 14) (.t 15))]) (.cond (.t 16) (.seq (.region [oP 4 (.mv (kI (-1)))]) .ret) .skip)) (.seq (.seq (.region [oM 17 0, oM 18 1, oP 19 (.bin .gtr (.t 17) (.t 18))]) (.cond (.t 19) (.seq (.region [oP 4 (.mv (kI 1))]) .ret) .skip)) (.seq (.region [oP 4 (.mv (kI 0))]) .ret))))))))⟩
theorem c_cmp_Compare_int64_ok : compFn Try.prog [] 40 = some c_cmp_Compare_int64 := by kernel_rfl
def c_laws_eqVal : AFn := ⟨20, [.t 4], (.seq (.region [oP 2 (.box true (.t 0)), oP 3 (.box true (.t 1)), oP 4 (.mv (.k (.bool false)))]) (.seq (.seq (.region [oP 5 (.faddr 0 (.t 2)), oP 6 (.load false 1 (.t 5)), oP 7 (.faddr 0 (.t 3)), oP 8 (.load false 1 (.t 7)), oP 9 (.bin .neq (.t 6) (.t 8))]) (.cond (.t 9) (.seq (.region [oP 4 (.mv (.k (.bool false)))]) .ret) .skip)) (.seq (.seq (.region [oP 10 (.faddr 1 (.t 2)), oP 11 (.load false 1 (.t 10)), oP 12 (.faddr 1 (.t 3)), oP 13 (.load false 1 (.t 12)), oP 14 (.bin .neq (.t 11) (.t 13))]) (.cond (.t 14) (.seq (.region [oP 4 (.mv (.k (.bool false)))]) .ret) .skip)) (.seq (.seq (.region [oP 15 (.faddr 2 (.t 2)), oP 16 (.load false 1 (.t 15)), oP 17 (.faddr 2 (.t 3)), oP 18 (.load false 1 (.t 17)), oP 19 (.bin .neq (.t 16) (.t 18))]) (.cond (.t 19) (.seq (.region [oP 4 (.mv (.k (.bool false)))]) .ret) .skip)) (.seq (.region [oP 4 (.mv (.k (.bool true)))]) .ret)))))⟩
theorem c_laws_eqVal_ok : compFn Try.prog [2, 3] 41 = some c_laws_eqVal := by kernel_rfl
def c_laws_markText : AFn := ⟨20, [.t 2], (.seq (.region [oP 2 (.mv (.k (.str [])))]) (.seq (.seq (.region [oM 4 0, oP 5 (.bin .leq (.t 4) (kI 0))]) (.cond (.t 5) (.seq (.region [oP 2 (.mv (.k (.str [109, 48])))]) .ret) .skip)) (.seq (.region [oP 3 (.mv (.k (.str [])))]) (.seq (.block 0 (.loop (.seq (.seq (.region [oM 6 0, oP 7 (.bin .gtr (.t 6) (kI 0))]) (.cond (.t 7) .skip (.exit 0))) (.block 1 (.seq (.region [oM 8 0, oP 9 (.bin .rem (.t 8) (kI 10)), oP 10 (.bin .add (kI 48) (.t 9)), oP 11 (.conv .u8 (.t 10)), oP 12 (.mksl true 1 1 [.int .u8 0] [(0, (.t 11))]), oP 13 (.b2s (.t 12)), oM 14 3, oP 15 (.bin .add (.t 13) (.t 14)), oM 3 15]) (.region [oM 16 0, oP 17 (.bin .quo (.t 16) (kI 10)), oM 0 17])))))) (.seq (.region [oM 18 3, oP 19 (.bin .add (.k (.str [109])) (.t 18)), oM 2 19]) .ret)))))⟩
theorem c_laws_markText_ok : compFn Try.prog [12] 42 = some c_laws_markText := by kernel_rfl
def c_spec_ValOk : AFn := ⟨31, [.t 2], (.seq (.region [oP 1 (.box true (.t 0)), oP 2 (.mv (.k (.bool false)))]) (.seq (.seq (.region [oP 3 (.faddr 0 (.t 1)), oP 4 (.load false 1 (.t 3))]) (.block 0 (.seq (.region [oP 6 (.bin .eql (.t 4) (kI 0)), oM 5 6]) (.cond (.t 5) (.seq (.region [oP 7 (.load true 3 (.t 1)), oP 8 (.build [.int .i64 0, .int .i64 0, .str []] []), oP 9 (.eq false true [.i, .i, .s] (.t 7) (.t 8)), oM 2 9]) .ret) (.seq (.region [oP 11 (.bin .eql (.t 4) (kI 1)), oM 10 11]) (.cond (.t 10) (.seq (.region [oP 12 (.faddr 1 (.t 1)), oP 13 (.load false 1 (.t 12)), oC 14 31 [(.t 13), (kI (-1000000000)), (kI 1000000000)], oM 15 14, oT 16 (.faddr 2 (.t 1)) 15, oT 17 (.load false 1 (.t 16)) 15, oT 18 (.bin .eql (.t 17) (.k (.str []))) 15, oP 19 (.pick (.t 15) (.t 18) (.k (.bool false))), oM 2 19]) .ret) (.seq (.region [oP 21 (.bin .eql (.t 4) (kI 2)), oM 20 21]) (.cond (.t 20) (.seq (.region [oP 22 (.faddr 1 (.t 1)), oP 23 (.load false 1 (.t 22)), oP 24 (.bin .eql (.t 23) (kI 0)), oM 25 24, oT 26 (.faddr 2 (.t 1)) 25, oT 27 (.load false 1 (.t 26)) 25, oT 28 (.len true (.t 27)) 25, oT 29 (.bin .leq (.t 28) (kI 12)) 25, oP 30 (.pick (.t 25) (.t 29) (.k (.bool false))), oM 2 30]) .ret) .skip)))))))) (.seq (.region [oP 2 (.mv (.k (.bool false)))]) .ret)))⟩
theorem c_spec_ValOk_ok : compFn Try.prog [1] 43 = some c_spec_ValOk := by kernel_rfl
def c_spec_l1Order : AFn := ⟨36, [.t 4], (.seq (.region [oP 2 (.box true (.t 0)), oP 3 (.box true (.t 1)), oP 4 (.mv (kI 0))]) (.seq (.block 0 (.seq (.region [oP 6 (.faddr 0 (.t 2)), oP 7 (.load false 1 (.t 6)), oP 8 (.faddr 0 (.t 3)), oP 9 (.load false 1 (.t 8)), oP 10 (.bin .lss (.t 7) (.t 9)), oM 11 10, oF 12 (.faddr 0 (.t 2)) 11, oF 13 (.load false 1 (.t 12)) 11, oF 14 (.faddr 0 (.t 3)) 11, oF 15 (.load false 1 (.t 14)) 11, oF 16 (.bin .eql (.t 13) (.t 15)) 11, oF 17 (.mv (.t 16)) 11, oT 18 (.faddr 1 (.t 2)) 17, oT 19 (.load false 1 (.t 18)) 17, oT 20 (.faddr 1 (.t 3)) 17, oT 21 (.load false 1 (.t 20)) 17, oT 22 (.bin .lss (.t 19) (.t 21)) 17, oT 23 (.mv (.t 22)) 17, oF 24 (.faddr 2 (.t 2)) 23, oF 25 (.load false 1 (.t 24)) 23, oF 26 (.faddr 2 (.t 3)) 23, oF 27 (.load false 1 (.t 26)) 23, oF 28 (.bin .lss (.t 25) (.t 27)) 23, oT 29 (.pick (.t 23) (.k (.bool true)) (.t 28)) 17, oF 30 (.pick (.t 17) (.t 29) (.k (.bool false))) 11, oP 31 (.pick (.t 11) (.k (.bool true)) (.t 30)), oM 5 31]) (.cond (.t 5) (.seq (.region [oP 4 (.mv (kI (-1)))]) .ret) (.seq (.region [oP 33 (.load true 3 (.t 2)), oP 34 (.load true 3 (.t 3)), oP 35 (.eq false true [.i, .i, .s] (.t 33) (.t 34)), oM 32 35]) (.cond (.t 32) (.seq (.region [oP 4 (.mv (kI 0))]) .ret) .skip))))) (.seq (.region [oP 4 (.mv (kI 1))]) .ret)))⟩
theorem c_spec_l1Order_ok : compFn Try.prog [2, 3] 44 = some c_spec_l1Order := by kernel_rfl
def c_impl_ValOk : AFn := ⟨31, [.t 2], (.seq (.region [oP 1 (.box true (.t 0)), oP 2 (.mv (.k (.bool false)))]) (.seq (.seq (.region [oP 3 (.faddr 0 (.t 1)), oP 4 (.load false 1 (.t 3))]) (.block 0 (.seq (.region [oP 6 (.bin .eql (.t 4) (kI 0)), oM 5 6]) (.cond (.t 5) (.seq (.region [oP 7 (.load true 3 (.t 1)), oP 8 (.build [.int .i64 0, .int .i64 0, .str []] []), oP 9 (.eq false true [.i, .i, .s] (.t 7) (.t 8)), oM 2 9]) .ret) (.seq (.region [oP 11 (.bin .eql (.t 4) (kI 1)), oM 10 11]) (.cond (.t 10) (.seq (.region [oP 12 (.faddr 1 (.t 1)), oP 13 (.load false 1 (.t 12)), oC 14 35 [(.t 13), (kI (-1000000000)), (kI 1000000000)], oM 15 14, oT 16 (.faddr 2 (.t 1)) 15, oT 17 (.load false 1 (.t 16)) 15, oT 18 (.bin .eql (.t 17) (.k (.str []))) 15, oP 19 (.pick (.t 15) (.t 18) (.k (.bool false))), oM 2 19]) .ret) (.seq (.region [oP 21 (.bin .eql (.t 4) (kI 2)), oM 20 21]) (.cond (.t 20) (.seq (.region [oP 22 (.faddr 1 (.t 1)), oP 23 (.load false 1 (.t 22)), oP 24 (.bin .eql (.t 23) (kI 0)), oM 25 24, oT 26 (.faddr 2 (.t 1)) 25, oT 27 (.load false 1 (.t 26)) 25, oT 28 (.len true (.t 27)) 25, oT 29 (.bin .leq (.t 28) (kI 12)) 25, oP 30 (.pick (.t 25) (.t 29) (.k (.bool false))), oM 2 30]) .ret) .skip)))))))) (.seq (.region [oP 2 (.mv (.k (.bool false)))]) .ret)))⟩
theorem c_impl_ValOk_ok : compFn Try.prog [1] 45 = some c_impl_ValOk := by kernel_rfl
def c_slices_insertionSortCmpFunc_Entry : AFn := ⟨53, [], (.seq (.region [oM 10 1, oP 11 (.bin .add (.t 10) (kI 1)), oM 8 11]) (.block 0 (.loop (.seq (.seq (.region [oM 12 8, oM 13 2, oP 14 (.bin .lss (.t 12) (.t 13))]) (.cond (.t 14) .skip (.exit 0))) (.seq (.block 1 (.seq (.region [oM 17 8, oM 9 17]) (.block 2 (.loop (.seq (.seq (.draw [[oM 18 9, oM 19 1], [oP 20 (.bin .gtr (.t 18) (.t 19))], [oM 21 20], [oT 22 (.mv (.t 3)) 21, oT 23 (.mv (.t 0)) 21, oT 24 (.mv (.t 9)) 21, oT 25 (.iaddr 2 (.t 23) (.t 24)) 21, oT 26 (.load true 2 (.t 25)) 21, oT 27 (.mv (.t 0)) 21, oT 28 (.mv (.t 9)) 21, oT 29 (.bin .sub (.t 28) (kI 1)) 21, oT 30 (.iaddr 2 (.t 27) (.t 29)) 21, oT 31 (.load true 2 (.t 30)) 21], [⟨some 32, .call (.t 22) [(.t 26), (.t 31)], (some (21, true))⟩], [oT 33 (.bin .lss (.t 32) (kI 0)) 21], [oP 34 (.pick (.t 21) (.t 33) (.k (.bool false)))]]) (.cond (.t 34) .skip (.exit 2))) (.seq (.block 3 (.draw [[oM 37 0, oM 38 9, oM 39 0, oM 40 9, oP 41 (.bin .sub (.t 40) (kI 1)), oM 42 0, oM 43 9, oP 44 (.bin .sub (.t 43) (kI 1)), oP 45 (.iaddr 2 (.t 42) (.t 44)), oP 46 (.load true 2 (.t 45)), oM 47 0, oM 48 9, oP 49 (.iaddr 2 (.t 47) (.t 48)), oP 50 (.load true 2 (.t 49)), oP 51 (.iaddr 2 (.t 37) (.t 38)), ⟨none, .op (.store 2 (.t 51) (.t 46)), none⟩], [oP 52 (.iaddr 2 (.t 39) (.t 41))], [⟨none, .op (.store 2 (.t 52) (.t 50)), none⟩]])) (.region [oM 35 9, oP 36 (.bin .sub (.t 35) (kI 1)), oM 9 36]))))))) (.region [oM 15 8, oP 16 (.bin .add (.t 15) (kI 1)), oM 8 16]))))))⟩
theorem c_slices_insertionSortCmpFunc_Entry_ok : compFn Try.prog [] 46 = some c_slices_insertionSortCmpFunc_Entry := by kernel_rfl
def c_slices_symMergeCmpFunc_Entry : AFn := ⟨220, [], (.seq (.seq (.region [oM 25 2, oM 26 1, oP 27 (.bin .sub (.t 25) (.t 26)), oP 28 (.bin .eql (.t 27) (kI 1))]) (.cond (.t 28) (.seq (.region [oM 29 2, oM 10 29]) (.seq (.region [oM 30 3, oM 11 30]) (.seq (.block 0 (.loop (.seq (.seq (.region [oM 31 10, oM 32 11, oP 33 (.bin .lss (.t 31) (.t 32))]) (.cond (.t 33) .skip (.exit 0))) (.block 1 (.seq (.region [oM 34 10, oM 35 11, oP 36 (.bin .add (.t 34) (.t 35)), oP 37 (.conv .u64 (.t 36)), oP 38 (.bin .shr (.t 37) (.k (.int .u64 1))), oP 39 (.conv .i64 (.t 38)), oM 12 39]) (.seq (.draw [[oM 40 4, oM 41 0, oM 42 12, oP 43 (.iaddr 2 (.t 41) (.t 42)), oP 44 (.load true 2 (.t 43)), oM 45 0, oM 46 1, oP 47 (.iaddr 2 (.t 45) (.t 46)), oP 48 (.load true 2 (.t 47))], [⟨some 49, .call (.t 40) [(.t 44), (.t 48)], none⟩], [oP 50 (.bin .lss (.t 49) (kI 0))]]) (.cond (.t 50) (.region [oM 51 12, oP 52 (.bin .add (.t 51) (kI 1)), oM 10 52]) (.region [oM 53 12, oM 11 53])))))))) (.seq (.seq (.region [oM 54 1, oM 13 54]) (.block 2 (.loop (.seq (.seq (.region [oM 55 13, oM 56 10, oP 57 (.bin .sub (.t 56) (kI 1)), oP 58 (.bin .lss (.t 55) (.t 57))]) (.cond (.t 58) .skip (.exit 2))) (.seq (.block 3 (.draw [[oM 61 0, oM 62 13, oM 63 0, oM 64 13, oP 65 (.bin .add (.t 64) (kI 1)), oM 66 0, oM 67 13, oP 68 (.bin .add (.t 67) (kI 1)), oP 69 (.iaddr 2 (.t 66) (.t 68)), oP 70 (.load true 2 (.t 69)), oM 71 0, oM 72 13, oP 73 (.iaddr 2 (.t 71) (.t 72)), oP 74 (.load true 2 (.t 73)), oP 75 (.iaddr 2 (.t 61) (.t 62)), ⟨none, .op (.store 2 (.t 75) (.t 70)), none⟩], [oP 76 (.iaddr 2 (.t 63) (.t 65))], [⟨none, .op (.store 2 (.t 76) (.t 74)), none⟩]])) (.region [oM 59 13, oP 60 (.bin .add (.t 59) (kI 1)), oM 13 60])))))) .ret)))) .skip)) (.seq (.seq (.region [oM 77 3, oM 78 2, oP 79 (.bin .sub (.t 77) (.t 78)), oP 80 (.bin .eql (.t 79) (kI 1))]) (.cond (.t 80) (.seq (.region [oM 81 1, oM 14 81]) (.seq (.region [oM 82 2, oM 15 82]) (.seq (.block 4 (.loop (.seq (.seq (.region [oM 83 14, oM 84 15, oP 85 (.bin .lss (.t 83) (.t 84))]) (.cond (.t 85) .skip (.exit 4))) (.block 5 (.seq (.region [oM 86 14, oM 87 15, oP 88 (.bin .add (.t 86) (.t 87)), oP 89 (.conv .u64 (.t 88)), oP 90 (.bin .shr (.t 89) (.k (.int .u64 1))), oP 91 (.conv .i64 (.t 90)), oM 16 91]) (.seq (.draw [[oM 92 4, oM 93 0, oM 94 2, oP 95 (.iaddr 2 (.t 93) (.t 94)), oP 96 (.load true 2 (.t 95)), oM 97 0, oM 98 16, oP 99 (.iaddr 2 (.t 97) (.t 98)), oP 100 (.load true 2 (.t 99))], [⟨some 101, .call (.t 92) [(.t 96), (.t 100)], none⟩], [oP 102 (.bin .lss (.t 101) (kI 0))], [oP 103 (.un .not (.t 102))]]) (.cond (.t 103) (.region [oM 104 16, oP 105 (.bin .add (.t 104) (kI 1)), oM 14 105]) (.region [oM 106 16, oM 15 106])))))))) (.seq (.seq (.region [oM 107 2, oM 17 107]) (.block 6 (.loop (.seq (.seq (.region [oM 108 17, oM 109 14, oP 110 (.bin .gtr (.t 108) (.t 109))]) (.cond (.t 110) .skip (.exit 6))) (.seq (.block 7 (.draw [[oM 113 0, oM 114 17, oM 115 0, oM 116 17, oP 117 (.bin .sub (.t 116) (kI 1)), oM 118 0, oM 119 17, oP 120 (.bin .sub (.t 119) (kI 1)), oP 121 (.iaddr 2 (.t 118) (.t 120)), oP 122 (.load true 2 (.t 121)), oM 123 0, oM 124 17, oP 125 (.iaddr 2 (.t 123) (.t 124)), oP 126 (.load true 2 (.t 125)), oP 127 (.iaddr 2 (.t 113) (.t 114)), ⟨none, .op (.store 2 (.t 127) (.t 122)), none⟩], [oP 128 (.iaddr 2 (.t 115) (.t 117))], [⟨none, .op (.store 2 (.t 128) (.t 126)), none⟩]])) (.region [oM 111 17, oP 112 (.bin .sub (.t 111) (kI 1)), oM 17 112])))))) .ret)))) .skip)) (.seq (.region [oM 129 1, oM 130 3, oP 131 (.bin .add (.t 129) (.t 130)), oP 132 (.conv .u64 (.t 131)), oP 133 (.bin .shr (.t 132) (.k (.int .u64 1))), oP 134 (.conv .i64 (.t 133)), oM 18 134]) (.seq (.region [oM 135 18, oM 136 2, oP 137 (.bin .add (.t 135) (.t 136)), oM 19 137]) (.seq (.region [oP 20 (.mv (kI 0)), oP 21 (.mv (kI 0))]) (.seq (.seq (.region [oM 138 2, oM 139 18, oP 140 (.bin .gtr (.t 138) (.t 139))]) (.cond (.t 140) (.seq (.region [oM 141 19, oM 142 3, oP 143 (.bin .sub (.t 141) (.t 142)), oM 20 143]) (.region [oM 144 18, oM 21 144])) (.seq (.region [oM 145 1, oM 20 145]) (.region [oM 146 2, oM 21 146])))) (.seq (.region [oM 147 19, oP 148 (.bin .sub (.t 147) (kI 1)), oM 22 148]) (.seq (.block 8 (.loop (.seq (.seq (.region [oM 149 20, oM 150 21, oP 151 (.bin .lss (.t 149) (.t 150))]) (.cond (.t 151) .skip (.exit 8))) (.block 9 (.seq (.region [oM 152 20, oM 153 21, oP 154 (.bin .add (.t 152) (.t 153)), oP 155 (.conv .u64 (.t 154)), oP 156 (.bin .shr (.t 155) (.k (.int .u64 1))), oP 157 (.conv .i64 (.t 156)), oM 23 157]) (.seq (.draw [[oM 158 4, oM 159 0, oM 160 22, oM 161 23, oP 162 (.bin .sub (.t 160) (.t 161)), oP 163 (.iaddr 2 (.t 159) (.t 162)), oP 164 (.load true 2 (.t 163)), oM 165 0, oM 166 23, oP 167 (.iaddr 2 (.t 165) (.t 166)), oP 168 (.load true 2 (.t 167))], [⟨some 169, .call (.t 158) [(.t 164), (.t 168)], none⟩], [oP 170 (.bin .lss (.t 169) (kI 0))], [oP 171 (.un .not (.t 170))]]) (.cond (.t 171) (.region [oM 172 23, oP 173 (.bin .add (.t 172) (kI 1)), oM 20 173]) (.region [oM 174 23, oM 21 174])))))))) (.seq (.region [oM 175 19, oM 176 20, oP 177 (.bin .sub (.t 175) (.t 176)), oM 24 177]) (.seq (.seq (.region [oM 178 20, oM 179 2, oP 180 (.bin .lss (.t 178) (.t 179)), oM 181 180, oT 182 (.mv (.t 2)) 181, oT 183 (.mv (.t 24)) 181, oT 184 (.bin .lss (.t 182) (.t 183)) 181, oP 185 (.pick (.t 181) (.t 184) (.k (.bool false)))]) (.cond (.t 185) (.region [oM 186 0, oM 187 20, oM 188 2, oM 189 24, oM 190 4, oC 191 50 [(.t 186), (.t 187), (.t 188), (.t 189), (.t 190)]]) .skip)) (.seq (.seq (.region [oM 192 1, oM 193 20, oP 194 (.bin .lss (.t 192) (.t 193)), oM 195 194, oT 196 (.mv (.t 20)) 195, oT 197 (.mv (.t 18)) 195, oT 198 (.bin .lss (.t 196) (.t 197)) 195, oP 199 (.pick (.t 195) (.t 198) (.k (.bool false)))]) (.cond (.t 199) (.region [oM 200 0, oM 201 1, oM 202 20, oM 203 18, oM 204 4, oC 205 47 [(.t 200), (.t 201), (.t 202), (.t 203), (.t 204)]]) .skip)) (.seq (.region [oM 206 18, oM 207 24, oP 208 (.bin .lss (.t 206) (.t 207)), oM 209 208, oT 210 (.mv (.t 24)) 209, oT 211 (.mv (.t 3)) 209, oT 212 (.bin .lss (.t 210) (.t 211)) 209, oP 213 (.pick (.t 209) (.t 212) (.k (.bool false)))]) (.cond (.t 213) (.region [oM 214 0, oM 215 18, oM 216 24, oM 217 3, oM 218 4, oC 219 47 [(.t 214), (.t 215), (.t 216), (.t 217), (.t 218)]]) .skip)))))))))))))⟩
theorem c_slices_symMergeCmpFunc_Entry_ok : compFn Try.prog [] 47 = some c_slices_symMergeCmpFunc_Entry := by kernel_rfl
def c_impl_order : AFn := ⟨22, [.t 4], (.seq (.region [oP 2 (.box true (.t 0)), oP 3 (.box true (.t 1)), oP 4 (.mv (kI 0))]) (.seq (.draw [[oP 5 (.faddr 0 (.t 2)), oP 6 (.load false 1 (.t 5)), oP 7 (.faddr 0 (.t 3)), oP 8 (.load false 1 (.t 7)), oC 9 40 [(.t 6), (.t 8)], oP 10 (.faddr 1 (.t 2)), oP 11 (.load false 1 (.t 10)), oP 12 (.faddr 1 (.t 3)), oP 13 (.load false 1 (.t 12)), oC 14 40 [(.t 11), (.t 13)], oP 15 (.faddr 2 (.t 2)), oP 16 (.load false 1 (.t 15)), oP 17 (.faddr 2 (.t 3)), oP 18 (.load false 1 (.t 17))], [oC 19 51 [(.t 16), (.t 18)]], [oP 20 (.mksl true 1 3 [.int .i64 0] [(0, (.t 9)), (1, (.t 14)), (2, (.t 19))])], [oC 21 38 [(.t 20)]], [oM 4 21]]) .ret))⟩
theorem c_impl_order_ok : compFn Try.prog [2, 3, 20] 48 = some c_impl_order := by kernel_rfl
def c_cmp_isNaN_int64 : AFn := ⟨6, [.t 2], (.seq (.region [oP 2 (.mv (.k (.bool false)))]) (.seq (.region [oM 3 0, oM 4 0, oP 5 (.bin .neq (.t 3) (.t 4)), oM 2 5]) .ret))⟩
theorem c_cmp_isNaN_int64_ok : compFn Try.prog [] 49 = some c_cmp_isNaN_int64 := by kernel_rfl
def c_slices_rotateCmpFunc_Entry : AFn := ⟨58, [], (.seq (.region [oM 12 2, oM 13 1, oP 14 (.bin .sub (.t 12) (.t 13)), oM 10 14]) (.seq (.region [oM 15 3, oM 16 2, oP 17 (.bin .sub (.t 15) (.t 16)), oM 11 17]) (.seq (.block 0 (.loop (.seq (.seq (.region [oM 18 10, oM 19 11, oP 20 (.bin .neq (.t 18) (.t 19))]) (.cond (.t 20) .skip (.exit 0))) (.block 1 (.seq (.region [oM 21 10, oM 22 11, oP 23 (.bin .gtr (.t 21) (.t 22))]) (.cond (.t 23) (.seq (.region [oM 24 0, oM 25 2, oM 26 10, oP 27 (.bin .sub (.t 25) (.t 26)), oM 28 2, oM 29 11, oM 30 4, oC 31 52 [(.t 24), (.t 27), (.t 28), (.t 29), (.t 30)]]) (.region [oM 32 10, oM 33 11, oP 34 (.bin .sub (.t 32) (.t 33)), oM 10 34])) (.seq (.region [oM 35 0, oM 36 2, oM 37 10, oP 38 (.bin .sub (.t 36) (.t 37)), oM 39 2, oM 40 11, oP 41 (.bin .add (.t 39) (.t 40)), oM 42 10, oP 43 (.bin .sub (.t 41) (.t 42)), oM 44 10, oM 45 4, oC 46 52 [(.t 35), (.t 38), (.t 43), (.t 44), (.t 45)]]) (.region [oM 47 11, oM 48 10, oP 49 (.bin .sub (.t 47) (.t 48)), oM 11 49])))))))) (.region [oM 50 0, oM 51 2, oM 52 10, oP 53 (.bin .sub (.t 51) (.t 52)), oM 54 2, oM 55 10, oM 56 4, oC 57 52 [(.t 50), (.t 53), (.t 54), (.t 55), (.t 56)]]))))⟩
theorem c_slices_rotateCmpFunc_Entry_ok : compFn Try.prog [] 50 = some c_slices_rotateCmpFunc_Entry := by kernel_rfl
def c_cmp_Compare_string : AFn := ⟨20, [.t 4], (.seq (.region [oP 4 (.mv (kI 0))]) (.seq (.region [oM 7 0, oC 8 53 [(.t 7)], oM 5 8]) (.seq (.region [oM 9 1, oC 10 53 [(.t 9)], oM 6 10]) (.seq (.seq (.region [oM 11 5]) (.cond (.t 11) (.seq (.seq (.region [oM 12 6]) (.cond (.t 12) (.seq (.region [oP 4 (.mv (kI 0))]) .ret) .skip)) (.seq (.region [oP 4 (.mv (kI (-1)))]) .ret)) .skip)) (.seq (.seq (.region [oM 13 6]) (.cond (.t 13) (.seq (.region [oP 4 (.mv (kI 1))]) .ret) .skip)) (.seq (.seq (.region [oM 14 0, oM 15 1, oP 16 (.bin .lss (.t 14) (.t 15))]) (.cond (.t 16) (.seq (.region [oP 4 (.mv (kI (-1)))]) .ret) .skip)) (.seq (.seq (.region [oM 17 0, oM 18 1, oP 19 (.bin .gtr (.t 17) (.t 18))]) (.cond (.t 19) (.seq (.region [oP 4 (.mv (kI 1))]) .ret) .skip)) (.seq (.region [oP 4 (.mv (kI 0))]) .ret))))))))⟩
theorem c_cmp_Compare_string_ok : compFn Try.prog [] 51 = some c_cmp_Compare_string := by kernel_rfl
def c_slices_swapRangeCmpFunc_Entry : AFn := ⟨38, [], (.seq (.region [oP 10 (.mv (kI 0))]) (.block 0 (.loop (.seq (.seq (.region [oM 11 10, oM 12 3, oP 13 (.bin .lss (.t 11) (.t 12))]) (.cond (.t 13) .skip (.exit 0))) (.seq (.block 1 (.draw [[oM 16 0, oM 17 1, oM 18 10, oP 19 (.bin .add (.t 17) (.t 18)), oM 20 0, oM 21 2, oM 22 10, oP 23 (.bin .add (.t 21) (.t 22)), oM 24 0, oM 25 2, oM 26 10, oP 27 (.bin .add (.t 25) (.t 26)), oP 28 (.iaddr 2 (.t 24) (.t 27)), oP 29 (.load true 2 (.t 28)), oM 30 0, oM 31 1, oM 32 10, oP 33 (.bin .add (.t 31) (.t 32)), oP 34 (.iaddr 2 (.t 30) (.t 33)), oP 35 (.load true 2 (.t 34)), oP 36 (.iaddr 2 (.t 16) (.t 19)), ⟨none, .op (.store 2 (.t 36) (.t 29)), none⟩], [oP 37 (.iaddr 2 (.t 20) (.t 23))], [⟨none, .op (.store 2 (.t 37) (.t 35)), none⟩]])) (.region [oM 14 10, oP 15 (.bin .add (.t 14) (kI 1)), oM 10 15]))))))⟩
theorem c_slices_swapRangeCmpFunc_Entry_ok : compFn Try.prog [] 52 = some c_slices_swapRangeCmpFunc_Entry := by kernel_rfl
def c_cmp_isNaN_string : AFn := ⟨6, [.t 2], (.seq (.region [oP 2 (.mv (.k (.bool false)))]) (.seq (.region [oM 3 0, oM 4 0, oP 5 (.bin .neq (.t 3) (.t 4)), oM 2 5]) .ret))⟩
theorem c_cmp_isNaN_string_ok : compFn Try.prog [] 53 = some c_cmp_isNaN_string := by kernel_rfl

end Go.Proofs.Ytcfpdongfdhgjaa.Am

/- The abstract machine, part 21: a store and what a call has made since; steps in these words. -/
set_option linter.unusedVariables false
set_option linter.unusedSimpArgs false
namespace Go.Proofs.Ytcfpdongfdhgjaa.Am
open Go.RowKit

/-- A store, and blocks made since. -/
def E (σ : Store) (l : List (Nat × List (List Ce))) : Store := ⟨σ.next + l.length, fun id => if id < σ.next then σ.get id else l[id - σ.next]?⟩
theorem E_next {σ : Store} {l : List (Nat × List (List Ce))} : (E σ l).next = σ.next + l.length := rfl
theorem E_lt {σ : Store} {l : List (Nat × List (List Ce))} {id : Nat} (h : id < σ.next) : (E σ l).get id = σ.get id := if_pos h
theorem E_ge {σ : Store} {l : List (Nat × List (List Ce))} {id : Nat} (h : ¬ id < σ.next) : (E σ l).get id = l[id - σ.next]? := if_neg h
theorem E_at {σ : Store} {l : List (Nat × List (List Ce))} {k : Nat} : (E σ l).get (σ.next + k) = l[k]? := by
  rw [E_ge (by omega)]
  congr 1
  omega
theorem Store.ext {σ τ : Store} (h : σ.next = τ.next) (h2 : ∀ id, σ.get id = τ.get id) : σ = τ := by
  cases σ; cases τ
  simp only at h h2
  subst h
  congr
  exact funext h2
theorem new_self {σ : Store} {x : Nat × List (List Ce)} {id : Nat} (h : id = σ.next) : (σ.new x).get id = some x := if_pos h
theorem new_ne {σ : Store} {x : Nat × List (List Ce)} {id : Nat} (h : id ≠ σ.next) : (σ.new x).get id = σ.get id := if_neg h
theorem put_self {σ : Store} {x : Nat × List (List Ce)} {id j : Nat} (h : j = id) : (σ.put id x).get j = some x := if_pos h
theorem put_ne {σ : Store} {x : Nat × List (List Ce)} {id j : Nat} (h : j ≠ id) : (σ.put id x).get j = σ.get j := if_neg h
theorem E_nil {σ : Store} (h : OldS σ) : E σ [] = σ := by
  refine Store.ext rfl fun id => ?_
  by_cases hn : id < σ.next
  · rw [E_lt hn]
  · rw [E_ge hn]
    cases hg : σ.get id with
    | none => simp
    | some y => exact absurd (h id y hg).1 hn
theorem E_new {σ : Store} {l : List (Nat × List (List Ce))} {x : Nat × List (List Ce)} : (E σ l).new x = E σ (l ++ [x]) := by
  refine Store.ext (by simp [E, Store.new]; omega) fun id => ?_
  by_cases e : id = σ.next + l.length
  · rw [new_self (by rw [E_next]; exact e)]
    subst e
    rw [E_at]
    simp
  · rw [new_ne (by rw [E_next]; exact e)]
    by_cases hn : id < σ.next
    · rw [E_lt hn, E_lt hn]
    · rw [E_ge hn, E_ge hn, List.getElem?_append]
      split
      · rfl
      · rename_i h2
        have : id - σ.next - l.length ≠ 0 := by omega
        rw [List.getElem?_eq_none (by omega)]
        rw [List.getElem?_eq_none (by simp; omega)]
theorem E_put {σ : Store} {l : List (Nat × List (List Ce))} {k : Nat} (hk : k < l.length) {x : Nat × List (List Ce)} : (E σ l).put (σ.next + k) x = E σ (l.set k x) := by
  refine Store.ext (by simp [E, Store.put]) fun id => ?_
  by_cases e : id = σ.next + k
  · subst e
    rw [put_self rfl, E_at]
    simp [hk]
  · rw [put_ne e]
    by_cases hn : id < σ.next
    · rw [E_lt hn, E_lt hn]
    · rw [E_ge hn, E_ge hn, List.getElem?_set_ne (by omega)]
theorem E_E {σ : Store} {l m : List (Nat × List (List Ce))} : E (E σ l) m = E σ (l ++ m) := by
  refine Store.ext (by simp [E]; omega) fun id => ?_
  by_cases hn : id < σ.next
  · rw [E_lt (by rw [E_next]; omega), E_lt hn, E_lt hn]
  · rw [E_ge hn, List.getElem?_append]
    by_cases h2 : id < σ.next + l.length
    · rw [E_lt (by rw [E_next]; omega), E_ge hn, if_pos (by omega)]
    · rw [E_ge (by rw [E_next]; omega), if_neg (by omega)]
      rw [E_next]
      congr 1
      omega

/-! ### What may be said otherwise: freezing, forgetting -/
theorem Shift.frz {n0 nt n : Nat} {fr fr' : Fr} {σ σ2 : Store} (h1 : ∀ t x, look fr' t = some x → ∃ y, look fr t = some y ∧ FrzV σ n y x) (hnext : σ2.next = n)
    (hsub : ∀ id y, σ2.get id = some y → σ.get id = some y ∧ id < n ∧ ∀ i j (hi : i < y.2.length) (hj : j < y.2[i].length), Old n y.2[i][j]) (hn : n0 ≤ n) : Shift n0 nt fr σ fr' σ2 := by
  intro C a hF hR
  let D : Cx := ⟨C.μ, fun id v => C.F id v ∧ id < n, Mof C.μ σ2, C.w⟩
  have hMsub : ∀ b, D.M b → C.M b := by
    rintro b ⟨id, v', es, hg, hne, rfl⟩
    exact (hR.M _).2 ⟨id, v', es, (hsub id _ hg).1, hne, rfl⟩
  have hcut : ∀ {x : Ce} {u : Value}, Rp C x u → Old n x → Rp D x u := fun hx ho => Rp.cut (C := C) (D := D) rfl rfl (fun id v hf hlt => ⟨hf, hlt⟩) hMsub hx ho
  refine ⟨D, ⟨rfl, fun id v hlt hf => ⟨⟨hf, by omega⟩, rfl⟩, fun b _ hm => hMsub b hm⟩, ⟨hF.defers, hF.size, fun t x hx => ?_⟩, ⟨fun id v hf => by rw [hnext]; exact hf.2, fun id v' es hg => ?_, fun b => Iff.rfl, fun id v es id' v' es' h1 n1 h2 n2 hb => ?_, fun id v' es hg hne => ?_⟩⟩
  · obtain ⟨y, hy, hz⟩ := h1 t x hx
    obtain ⟨q1, q2⟩ := hF.slot t y hy
    refine ⟨q1, hz.sound (D := D) hR rfl rfl (fun id v hf hlt => ⟨hf, hlt⟩) hMsub (fun id v' es hn hg hne hm => ?_) q2⟩
    obtain ⟨id2, v2, es2, hg2, hne2, hb⟩ := hm
    have g := hsub id2 _ hg2
    have := hR.inj id v' es id2 v2 es2 hg hne g.1 hne2 hb.symm
    omega
  · obtain ⟨g1, g2, _⟩ := hsub id _ hg
    obtain ⟨a1, a2, a3⟩ := hR.live id v' es g1
    exact ⟨⟨a1, g2⟩, fun v1 hv1 => a2 v1 hv1.1, a3⟩
  · exact hR.inj id v es id' v' es' (hsub id _ h1).1 n1 (hsub id' _ h2).1 n2 hb
  · obtain ⟨g1, g2, g3⟩ := hsub id _ hg
    obtain ⟨cs, t, hb, hz, hl, hc⟩ := hR.blk id v' es g1 hne
    refine ⟨cs, t, hb, hz, hl, fun i j hi hj => ?_⟩
    obtain ⟨u, h1, h2⟩ := hc i j hi hj
    exact ⟨u, h1, hcut h2 (g3 i j hi hj)⟩

theorem Old.mono {n m : Nat} (h : n ≤ m) {x : Ce} (ho : Old n x) : Old m x := by
  induction ho with
  | int k i => exact .int k i
  | bool b => exact .bool b
  | str s => exact .str s
  | nilp => exact .nilp
  | nils => exact .nils
  | nilf => exact .nilf
  | emp => exact .emp
  | any => exact .any
  | fz es _ ih => exact .fz es ih
  | fp cs _ ih => exact .fp cs ih
  | sl id v i m c hlt => exact .sl _ _ _ _ _ (by omega)
  | ptr id v i j hlt => exact .ptr _ _ _ _ (by omega)
  | fn f pre cap _ _ ih1 ih2 => exact .fn f pre cap ih1 ih2
/-- A value all of whose cells are known reads as itself. -/
theorem FrzV.refl {σ : Store} {n : Nat} : ∀ {x : AV}, (∀ y ∈ x.all, Old n y) → FrzV σ n x x
  | .c x, h => .c (.same x (h x (by simp [AV.all])))
  | .agg xs, h => .agg rfl fun i hi => .same _ (h _ (by simp [AV.all]))
  | .tup vs, h => .tup rfl fun i hi => FrzV.refl (x := vs[i]) fun y hy => h y (by
      simp only [AV.all]
      have : ∀ (vs : List AV) (i : Nat) (hi : i < vs.length), y ∈ vs[i].all → y ∈ AV.all.allL vs := by
        intro vs
        induction vs with
        | nil => intro i hi; simp at hi
        | cons v r ih =>
          intro i hi hy
          simp only [AV.all.allL, List.mem_append]
          cases i with
          | zero => exact .inl hy
          | succ i => exact .inr (ih i (by simpa using hi) hy)
      exact this vs i hi hy)
  | .un, h => .un _
termination_by x => SizeOf.sizeOf x
decreasing_by
  have := List.sizeOf_lt_of_mem (List.getElem_mem hi)
  simp
  omega

section
variable {P : Program} {n0 nt : Nat} {rets : List RV} {R : AV → Store → Prop} {K : List AK} {fr : Fr} {σ : Store}
/-- A variable that is made, filled and then only read. -/
theorem Go.var {d s i : Nat} {z cs : List Ce} {w : AV} {rest : List AOper} (h0 : n0 ≤ σ.next) (hi : i ≠ d) (hw : look fr i = some w) (hx : w.cells = some cs) (hl : cs.length = s) (hz : z.length = s)
    (h : Go P n0 nt rets R (.ops rest :: K) ((d, .c (.fp cs)) :: fr) σ) : Go P n0 nt rets R (.ops (⟨some d, .op (.alloc z), none⟩ :: ⟨none, .op (.store s (.t d) (.t i)), none⟩ :: rest) :: K) fr σ := by
  refine .old fun ho hS => .op (v := .c (.ptr σ.next 0 0 0)) (σ' := σ.new (0, [z])) rfl rfl (.op (v := .un) (σ' := (σ.new (0, [z])).put σ.next (0, [cs])) rfl ?_ (.shift (fr' := (d, .c (.fp cs)) :: fr) (σ' := σ) ?_ h))
  · have e1 : (Opd.t d).ev (putA fr (some d) (.c (.ptr σ.next 0 0 0))) = some (.c (.ptr σ.next 0 0 0)) := by simp [Opd.ev, putA, look]
    have e0 : (Opd.t i).ev (putA fr (some d) (.c (.ptr σ.next 0 0 0))) = some w := by simp [Opd.ev, putA, look, Ne.symm hi, hw]
    have e2 : (σ.new (0, [z])).get σ.next = some (0, [z]) := new_self rfl
    have e3 : splice z 0 cs = cs := by
      simp only [splice, List.take_zero, List.nil_append, Nat.zero_add]
      rw [List.drop_eq_nil_of_le (by omega)]
      simp
    simp [aop, e1, e0, hx, e2, hl, hz, e3]
  · refine Shift.frz (n := σ.next) (fun t y hy => ?_) rfl (fun id y hg => ?_) h0
    · simp only [look] at hy
      split at hy
      · rename_i e
        subst e
        injection hy with hy
        subst hy
        refine ⟨.c (.ptr σ.next 0 0 0), by simp [putA, look], .c (.ptr σ.next 0 0 0 [cs] cs cs (Nat.le_refl _) (put_self rfl) rfl (by simp) fun k hk => ?_)⟩
        simp only [Nat.zero_add]
        refine .same _ (ho i w hw _ ?_)
        cases w <;> simp [AV.cells] at hx <;> subst hx <;> simp [AV.all]
      · rename_i e
        exact ⟨y, by simp [putA, look, e, hy], .refl (ho t y hy)⟩
    · obtain ⟨q1, q2⟩ := hS id y hg
      refine ⟨?_, q1, q2⟩
      rw [put_ne (by omega), new_ne (by omega)]
      exact hg
/-- .. with a move between. -/
theorem Go.var2 {d s i e : Nat} {z cs : List Ce} {w u : AV} {k : Nat} {rest : List AOper} (h0 : n0 ≤ σ.next) (hi : i ≠ d) (hie : i ≠ e) (hde : d ≠ e) (hyd : k ≠ d) (hy : look fr k = some u) (hw : look fr i = some w) (hx : w.cells = some cs) (hl : cs.length = s) (hz : z.length = s)
    (h : Go P n0 nt rets R (.ops rest :: K) ((e, u) :: (d, .c (.fp cs)) :: fr) σ) : Go P n0 nt rets R (.ops (⟨some d, .op (.alloc z), none⟩ :: ⟨some e, .op (.mv (.t k)), none⟩ :: ⟨none, .op (.store s (.t d) (.t i)), none⟩ :: rest) :: K) fr σ := by
  refine .old fun ho hS => .op (v := .c (.ptr σ.next 0 0 0)) (σ' := σ.new (0, [z])) rfl rfl (.op (v := u) (σ' := σ.new (0, [z])) rfl (by simp [aop, Opd.ev, look, putA, Ne.symm hyd, hy]) (.op (v := .un) (σ' := (σ.new (0, [z])).put σ.next (0, [cs])) rfl ?_ (.shift (fr' := (e, u) :: (d, .c (.fp cs)) :: fr) (σ' := σ) ?_ h)))
  · have e1 : (Opd.t d).ev (putA (putA fr (some d) (.c (.ptr σ.next 0 0 0))) (some e) u) = some (.c (.ptr σ.next 0 0 0)) := by simp [Opd.ev, putA, look, Ne.symm hde]
    have e0 : (Opd.t i).ev (putA (putA fr (some d) (.c (.ptr σ.next 0 0 0))) (some e) u) = some w := by simp [Opd.ev, putA, look, Ne.symm hi, Ne.symm hie, hw]
    have e2 : (σ.new (0, [z])).get σ.next = some (0, [z]) := new_self rfl
    have e3 : splice z 0 cs = cs := by
      simp only [splice, List.take_zero, List.nil_append, Nat.zero_add]
      rw [List.drop_eq_nil_of_le (by omega)]
      simp
    simp [aop, e1, e0, hx, e2, hl, hz, e3]
  · have hu : ∀ c ∈ u.all, Old σ.next c := ho k u hy
    refine Shift.frz (n := σ.next) (fun t y hy => ?_) rfl (fun id y hg => ?_) h0
    · simp only [look] at hy
      split at hy
      · rename_i e1
        subst e1
        injection hy with hy
        subst hy
        exact ⟨u, by simp [putA, look], .refl hu⟩
      · rename_i e1
        split at hy
        · rename_i e
          subst e
          injection hy with hy
          subst hy
          refine ⟨.c (.ptr σ.next 0 0 0), by simp [putA, look, e1], .c (.ptr σ.next 0 0 0 [cs] cs cs (Nat.le_refl _) (put_self rfl) rfl (by simp) fun k hk => ?_)⟩
          simp only [Nat.zero_add]
          refine .same _ (ho i w hw _ ?_)
          cases w <;> simp [AV.cells] at hx <;> subst hx <;> simp [AV.all]
        · rename_i e
          exact ⟨y, by simp [putA, look, e, e1, hy], .refl (ho t y hy)⟩
    · obtain ⟨q1, q2⟩ := hS id y hg
      refine ⟨?_, q1, q2⟩
      rw [put_ne (by omega), new_ne (by omega)]
      exact hg
end

end Go.Proofs.Ytcfpdongfdhgjaa.Am

/- The abstract machine, part 22: steps, loops, contracts. -/
set_option linter.unusedVariables false
set_option linter.unusedSimpArgs false
namespace Go.Proofs.Ytcfpdongfdhgjaa.Am
open Go.RowKit

/-- A slice with what follows its elements in its block. -/
def vec (id v : Nat) (ys junk : List (List Ce)) : Ce := .sl id v 0 ys.length (ys.length + junk.length)

/-- A cell that leads nowhere. -/
inductive Flat : Ce → Prop where
  | int (k : IntKind) (m : Int) : Flat (.int k m)
  | bool (b : Bool) : Flat (.bool b)
  | str (s : List UInt8) : Flat (.str s)
  | nilp : Flat .nilp
  | nils : Flat .nils
  | nilf : Flat .nilf
  | emp : Flat .emp
  | any : Flat .any
/-- The spare room of a block: cells that lead nowhere. -/
def Jk (s : Nat) (junk : List (List Ce)) : Prop := ∀ e ∈ junk, e.length = s ∧ ∀ x ∈ e, Flat x
theorem Jk.nil {s : Nat} : Jk s [] := fun e he => by simp at he

/-! ### Contracts -/
/-- The call returns r (in words that nobody writes) and leaves the caller's store as it was. -/
structure Pure (P : Program) (f : Nat) (args : List AV) (r : AV) : Prop where
  at_ : ∀ σ, Ok P f args σ (fun r' σ' => r' = r ∧ σ' = σ)
/-- What is frozen at the end. -/
def Fin (σ : Store) (r2 : AV) (r : AV) (σ' : Store) : Prop := ∃ l, σ' = E σ l ∧ FrzV σ' σ.next r r2
theorem Ok.old {P : Program} {fz : List Nat} {f : Nat} {af : AFn} (h : compFn P fz f = some af) {args : List AV} {σ : Store} {Q : AV → Store → Prop} (hk : OldS σ → (∀ x ∈ args, ∀ y ∈ x.all, Old σ.next y) → Ok P f args σ Q) : Ok P f args σ Q := by
  refine ⟨?_, fun C cargs hR ha => ?_⟩
  · unfold compFn at h
    split at h
    · rename_i fn hf
      split at h
      · rename_i c hb
        split at h
        · cases h
        · rename_i hname
          exact ⟨fn, hf, by rw [hb]; rfl, by simpa using hname⟩
      · cases h
    · cases h
  · obtain ⟨hl, hv⟩ := ha
    refine (hk hR.old fun x hx y hy => ?_).2 C cargs hR ⟨hl, hv⟩
    obtain ⟨i, hi, rfl⟩ := List.mem_iff_getElem.1 hx
    exact (hv i hi).old hR.F y hy
/-- A contract out of a run, with what is known at its start. -/
theorem Ok.run {P : Program} (hm : P.follows .mixedOrders = true) {fz : List Nat} {f : Nat} {af : AFn} (h : compFn P fz f = some af) {args : List AV} {σ : Store} {R : AV → Store → Prop} (hn : args.length ≤ af.nt)
    (hg : OldS σ → (∀ x ∈ args, ∀ y ∈ x.all, Old σ.next y) → Go P σ.next af.nt af.rets R [.code af.body] (frOf 0 args) (E σ [])) : Ok P f args σ R :=
  .old h fun hS ha => .of_go hm h hn (by have := hg hS ha; rwa [E_nil hS] at this)
theorem Pure.run {P : Program} (hm : P.follows .mixedOrders = true) {fz : List Nat} {f : Nat} {af : AFn} (h : compFn P fz f = some af) {args : List AV} {r2 : AV} (hn : args.length ≤ af.nt)
    (hg : ∀ σ, OldS σ → (∀ x ∈ args, ∀ y ∈ x.all, Old σ.next y) → Go P σ.next af.nt af.rets (Fin σ r2) [.code af.body] (frOf 0 args) (E σ [])) : Pure P f args r2 := by
  constructor
  intro σ
  refine .old h fun hS ha => ?_
  refine Ok.pure (Ok.run hm h hn (hg σ)) r2 (fun id y hy => (hS id y hy).1) ?_
  rintro r σ1 ⟨l, rfl, hz⟩
  exact ⟨fun id y hy => by rw [E_lt (hS id y hy).1]; exact hy, hz⟩

/-- The call makes one slice anew: its elements ys, and nothing else that is kept. -/
def Made (σ : Store) (s : Nat) (ys : List (List Ce)) (r : AV) (σ' : Store) : Prop := ∃ v junk, Jk s junk ∧ r = .c (vec (σ.next + 0) v ys junk) ∧ σ' = E σ [(v, ys ++ junk)]
structure Makes (P : Program) (f : Nat) (args : List AV) (s : Nat) (ys : List (List Ce)) : Prop where
  at_ : ∀ σ, Ok P f args σ (Made σ s ys)
theorem Makes.run {P : Program} (hm : P.follows .mixedOrders = true) {fz : List Nat} {f : Nat} {af : AFn} (h : compFn P fz f = some af) {args : List AV} {s : Nat} {ys : List (List Ce)} (hn : args.length ≤ af.nt)
    (hg : ∀ σ, OldS σ → (∀ x ∈ args, ∀ y ∈ x.all, Old σ.next y) → Go P σ.next af.nt af.rets (Made σ s ys) [.code af.body] (frOf 0 args) (E σ [])) : Makes P f args s ys :=
  ⟨fun σ => Ok.run hm h hn (hg σ)⟩

theorem Fin.same {σ : Store} {l : List (Nat × List (List Ce))} {r r2 : AV} (e : r = r2) (h : ∀ y ∈ r2.all, Old σ.next y) : Fin σ r2 r (E σ l) := by
  subst e
  exact ⟨l, rfl, .refl h⟩
theorem Fin.bool {σ : Store} {l : List (Nat × List (List Ce))} {b b2 : Bool} (e : b = b2) : Fin σ (.c (.bool b2)) (.c (.bool b)) (E σ l) :=
  .same (by rw [e]) (by intro y hy; simp [AV.all] at hy; subst hy; exact .bool _)
theorem Fin.int {σ : Store} {l : List (Nat × List (List Ce))} {k : IntKind} {b b2 : Int} (e : b = b2) : Fin σ (.c (.int k b2)) (.c (.int k b)) (E σ l) :=
  .same (by rw [e]) (by intro y hy; simp [AV.all] at hy; subst hy; exact .int _ _)
theorem Fin.str {σ : Store} {l : List (Nat × List (List Ce))} {b b2 : List UInt8} (e : b = b2) : Fin σ (.c (.str b2)) (.c (.str b)) (E σ l) :=
  .same (by rw [e]) (by intro y hy; simp [AV.all] at hy; subst hy; exact .str _)

/-! ### Steps -/
section
variable {P : Program} {n0 nt : Nat} {rets : List RV} {R : AV → Store → Prop} {K : List AK} {fr : Fr} {σ : Store}
theorem Go.ite {c : Opd} {a b : AC} (t : Bool) (h : c.ev fr = some (.c (.bool t))) (h1 : t = true → Go P n0 nt rets R (.code a :: K) fr σ) (h2 : t = false → Go P n0 nt rets R (.code b :: K) fr σ) : Go P n0 nt rets R (.code (.cond c a b) :: K) fr σ := by
  refine .cond t h ?_
  cases t
  · exact h2 rfl
  · exact h1 rfl
theorem Go.pcall {d : Option Nat} {f : Opd} {args : List Opd} {g : Option (Nat × Bool)} {rest : List AOper} {n : Nat} {pre cap : List Ce} {vs : List AV} {r : AV} (hw : wants fr g = some true) (hf : f.ev fr = some (.c (.fn n pre cap))) (ha : evs fr args = some vs)
    (hp : Pure P n (pre.map .c ++ vs ++ cap.map .c) r) (h : Go P n0 nt rets R (.ops rest :: K) (putA fr d r) σ) : Go P n0 nt rets R (.ops (⟨d, .call f args, g⟩ :: rest) :: K) fr σ :=
  .call _ hw hf ha (hp.at_ σ) (by rintro r' σ' ⟨rfl, rfl⟩; exact h)
theorem Go.spcall {d : Option Nat} {f : Opd} {args : List Opd} {g : Option (Nat × Bool)} {rest : List (List AOper)} {n : Nat} {pre cap : List Ce} {vs : List AV} {r : AV} (hw : wants fr g = some true) (hf : f.ev fr = some (.c (.fn n pre cap))) (ha : evs fr args = some vs)
    (hp : Pure P n (pre.map .c ++ vs ++ cap.map .c) r) (h : Go P n0 nt rets R (.segs rest :: K) (putA fr d r) σ) : Go P n0 nt rets R (.segs ([⟨d, .call f args, g⟩] :: rest) :: K) fr σ :=
  .scall _ hw hf ha (hp.at_ σ) (by rintro r' σ' ⟨rfl, rfl⟩; exact h)
/-- A segment none of whose operations writes, in the text's order. -/
def Qg (P : Program) (σ : Store) (l : List AOper) (fr : Fr) (Post : Fr → Prop) : Prop := ∃ F, Qs P σ l fr F ∧ Post F
theorem Go.qs {s1 s2 : AOper} {seg : List AOper} {rest : List (List AOper)} (h : Qg P σ (s1 :: s2 :: seg) fr fun F => Go P n0 nt rets R (.segs rest :: K) F σ) : Go P n0 nt rets R (.segs ((s1 :: s2 :: seg) :: rest) :: K) fr σ :=
  let ⟨_, h1, h2⟩ := h
  .quiet h1 h2
theorem Qg.nil {Post : Fr → Prop} (h : Post fr) : Qg P σ [] fr Post := ⟨fr, .nil, h⟩
theorem Qg.op {d : Option Nat} {o : AOp} {g : Option (Nat × Bool)} {rest : List AOper} {v : AV} {Post : Fr → Prop} (hw : wants fr g = some true) (ha : aop o fr σ = some (v, σ)) (h : Qg P σ rest (putA fr d v) Post) : Qg P σ (⟨d, .op o, g⟩ :: rest) fr Post :=
  let ⟨F, h1, h2⟩ := h
  ⟨F, .op hw ha h1, h2⟩
theorem Qg.no {d : Option Nat} {o : AO} {g : Option (Nat × Bool)} {rest : List AOper} {Post : Fr → Prop} (hw : wants fr g = some false) (h : Qg P σ rest (putA fr d (.tup [])) Post) : Qg P σ (⟨d, o, g⟩ :: rest) fr Post :=
  let ⟨F, h1, h2⟩ := h
  ⟨F, .no hw h1, h2⟩
theorem Qg.pcall {d : Option Nat} {f : Opd} {args : List Opd} {g : Option (Nat × Bool)} {rest : List AOper} {n : Nat} {pre cap : List Ce} {vs : List AV} {r : AV} {Post : Fr → Prop} (hw : wants fr g = some true) (hf : f.ev fr = some (.c (.fn n pre cap))) (ha : evs fr args = some vs)
    (hp : Pure P n (pre.map .c ++ vs ++ cap.map .c) r) (h : Qg P σ rest (putA fr d r) Post) : Qg P σ (⟨d, .call f args, g⟩ :: rest) fr Post :=
  let ⟨F, h1, h2⟩ := h
  ⟨F, .call hw hf ha (hp.at_ σ) h1, h2⟩

theorem Go.pcallB {d : Option Nat} {f : Opd} {args : List Opd} {g : Option (Nat × Bool)} {rest : List AOper} {n : Nat} {pre cap : List Ce} {vs : List AV} {B : Bool} (hw : wants fr g = some true) (hf : f.ev fr = some (.c (.fn n pre cap))) (ha : evs fr args = some vs)
    (hp : Pure P n (pre.map .c ++ vs ++ cap.map .c) (.c (.bool B))) (h : ∀ b, B = b → Go P n0 nt rets R (.ops rest :: K) (putA fr d (.c (.bool b))) σ) : Go P n0 nt rets R (.ops (⟨d, .call f args, g⟩ :: rest) :: K) fr σ :=
  Go.pcall hw hf ha hp (h B rfl)
theorem Go.spcallB {d : Option Nat} {f : Opd} {args : List Opd} {g : Option (Nat × Bool)} {rest : List (List AOper)} {n : Nat} {pre cap : List Ce} {vs : List AV} {B : Bool} (hw : wants fr g = some true) (hf : f.ev fr = some (.c (.fn n pre cap))) (ha : evs fr args = some vs)
    (hp : Pure P n (pre.map .c ++ vs ++ cap.map .c) (.c (.bool B))) (h : ∀ b, B = b → Go P n0 nt rets R (.segs rest :: K) (putA fr d (.c (.bool b))) σ) : Go P n0 nt rets R (.segs ([⟨d, .call f args, g⟩] :: rest) :: K) fr σ :=
  Go.spcall hw hf ha hp (h B rfl)
theorem Qg.pcallB {d : Option Nat} {f : Opd} {args : List Opd} {g : Option (Nat × Bool)} {rest : List AOper} {n : Nat} {pre cap : List Ce} {vs : List AV} {B : Bool} {Post : Fr → Prop} (hw : wants fr g = some true) (hf : f.ev fr = some (.c (.fn n pre cap))) (ha : evs fr args = some vs)
    (hp : Pure P n (pre.map .c ++ vs ++ cap.map .c) (.c (.bool B))) (h : ∀ b, B = b → Qg P σ rest (putA fr d (.c (.bool b))) Post) : Qg P σ (⟨d, .call f args, g⟩ :: rest) fr Post :=
  Qg.pcall hw hf ha hp (h B rfl)
theorem Go.pcallI {d : Option Nat} {f : Opd} {args : List Opd} {g : Option (Nat × Bool)} {rest : List AOper} {n : Nat} {pre cap : List Ce} {vs : List AV} {k : IntKind} {B : Int} (hw : wants fr g = some true) (hf : f.ev fr = some (.c (.fn n pre cap))) (ha : evs fr args = some vs)
    (hp : Pure P n (pre.map .c ++ vs ++ cap.map .c) (.c (.int k B))) (h : ∀ b, B = b → Go P n0 nt rets R (.ops rest :: K) (putA fr d (.c (.int k b))) σ) : Go P n0 nt rets R (.ops (⟨d, .call f args, g⟩ :: rest) :: K) fr σ :=
  Go.pcall hw hf ha hp (h B rfl)
theorem Go.spcallI {d : Option Nat} {f : Opd} {args : List Opd} {g : Option (Nat × Bool)} {rest : List (List AOper)} {n : Nat} {pre cap : List Ce} {vs : List AV} {k : IntKind} {B : Int} (hw : wants fr g = some true) (hf : f.ev fr = some (.c (.fn n pre cap))) (ha : evs fr args = some vs)
    (hp : Pure P n (pre.map .c ++ vs ++ cap.map .c) (.c (.int k B))) (h : ∀ b, B = b → Go P n0 nt rets R (.segs rest :: K) (putA fr d (.c (.int k b))) σ) : Go P n0 nt rets R (.segs ([⟨d, .call f args, g⟩] :: rest) :: K) fr σ :=
  Go.spcall hw hf ha hp (h B rfl)
theorem Qg.pcallI {d : Option Nat} {f : Opd} {args : List Opd} {g : Option (Nat × Bool)} {rest : List AOper} {n : Nat} {pre cap : List Ce} {vs : List AV} {k : IntKind} {B : Int} {Post : Fr → Prop} (hw : wants fr g = some true) (hf : f.ev fr = some (.c (.fn n pre cap))) (ha : evs fr args = some vs)
    (hp : Pure P n (pre.map .c ++ vs ++ cap.map .c) (.c (.int k B))) (h : ∀ b, B = b → Qg P σ rest (putA fr d (.c (.int k b))) Post) : Qg P σ (⟨d, .call f args, g⟩ :: rest) fr Post :=
  Qg.pcall hw hf ha hp (h B rfl)
theorem look_again {t : Nat} {x : AV} (h : look fr t = some x) (u : Nat) : look ((t, x) :: fr) u = look fr u := by
  simp only [look]
  split
  · rename_i e; subst e; exact h.symm
  · rfl
theorem Go.same {fr' : Fr} (h : ∀ t, look fr' t = look fr t) (hg : Go P n0 nt rets R K fr' σ) : Go P n0 nt rets R K fr σ :=
  .shift (fun C a hF hR => ⟨C, ⟨rfl, fun _ _ _ h => ⟨h, rfl⟩, fun _ _ h => h⟩, ⟨hF.defers, hF.size, fun t x hx => hF.slot t x (by rw [← h t]; exact hx)⟩, hR⟩) hg
/-- Is a guard's condition true? -/
theorem Go.guard {d : Option Nat} {o : AO} {t : Nat} {b : Bool} {rest : List AOper} (B : Bool) (h : look fr t = some (.c (.bool B))) (h1 : B = true → Go P n0 nt rets R (.ops (⟨d, o, some (t, b)⟩ :: rest) :: K) ((t, .c (.bool true)) :: fr) σ) (h2 : B = false → Go P n0 nt rets R (.ops (⟨d, o, some (t, b)⟩ :: rest) :: K) ((t, .c (.bool false)) :: fr) σ) :
    Go P n0 nt rets R (.ops (⟨d, o, some (t, b)⟩ :: rest) :: K) fr σ := by
  cases B
  · exact .same (look_again h) (h2 rfl)
  · exact .same (look_again h) (h1 rfl)
theorem Go.sguard {d : Option Nat} {o : AO} {t : Nat} {b : Bool} {rest : List (List AOper)} (B : Bool) (h : look fr t = some (.c (.bool B))) (h1 : B = true → Go P n0 nt rets R (.segs ([⟨d, o, some (t, b)⟩] :: rest) :: K) ((t, .c (.bool true)) :: fr) σ) (h2 : B = false → Go P n0 nt rets R (.segs ([⟨d, o, some (t, b)⟩] :: rest) :: K) ((t, .c (.bool false)) :: fr) σ) :
    Go P n0 nt rets R (.segs ([⟨d, o, some (t, b)⟩] :: rest) :: K) fr σ := by
  cases B
  · exact .same (look_again h) (h2 rfl)
  · exact .same (look_again h) (h1 rfl)
theorem Qg.guard {d : Option Nat} {o : AO} {t : Nat} {b : Bool} {rest : List AOper} {Post : Fr → Prop} (B : Bool) (h : look fr t = some (.c (.bool B))) (h1 : B = true → Qg P σ (⟨d, o, some (t, b)⟩ :: rest) ((t, .c (.bool true)) :: fr) Post) (h2 : B = false → Qg P σ (⟨d, o, some (t, b)⟩ :: rest) ((t, .c (.bool false)) :: fr) Post) :
    Qg P σ (⟨d, o, some (t, b)⟩ :: rest) fr Post := by
  have key : ∀ {fr'}, (∀ t, look fr' t = look fr t) → Qg P σ (⟨d, o, some (t, b)⟩ :: rest) fr' Post → Qg P σ (⟨d, o, some (t, b)⟩ :: rest) fr Post := fun he ⟨F, q1, q2⟩ => ⟨F, .same he q1, q2⟩
  cases B
  · exact key (look_again h) (h2 rfl)
  · exact key (look_again h) (h1 rfl)
/-- A loop, by a number that falls. -/
theorem Go.loops {body : AC} {I : Nat → Fr → Store → Prop} (h : ∀ m fr σ, I m fr σ → (∀ m' fr' σ', m' < m → I m' fr' σ' → Go P n0 nt rets R (.lp body :: K) fr' σ') → Go P n0 nt rets R (.code body :: .lp body :: K) fr σ)
    (m : Nat) (fr : Fr) (σ : Store) (hI : I m fr σ) : Go P n0 nt rets R (.code (.loop body) :: K) fr σ := by
  have key : ∀ m fr σ, I m fr σ → Go P n0 nt rets R (.code body :: .lp body :: K) fr σ := by
    intro m
    induction m using Nat.strongRecOn with
    | _ m ih => exact fun fr σ hI => h m fr σ hI fun m' fr' σ' hlt hI' => .lp (ih m' hlt fr' σ' hI')
  exact .loop (key m fr σ hI)

/-! ### Operations, in these words -/
theorem aop_new {l : List (Nat × List (List Ce))} {x : Opd} {v : AV} {cs : List Ce} (hx : x.ev fr = some v) (hc : v.cells = some cs) : aop (.box false x) fr (E σ l) = some (.c (.ptr (σ.next + l.length) 0 0 0), E σ (l ++ [(0, [cs])])) := by
  simp [aop, hx, hc, E_new, E_next]
theorem aop_alloc {l : List (Nat × List (List Ce))} {z : List Ce} : aop (.alloc z) fr (E σ l) = some (.c (.ptr (σ.next + l.length) 0 0 0), E σ (l ++ [(0, [z])])) := by
  simp [aop, E_new, E_next]
theorem aop_mksl {l : List (Nat × List (List Ce))} {s n : Nat} {z : List Ce} {ps : List (Nat × Opd)} {es : List (List Ce)} (h : fillS fr s (List.replicate n z) ps = some es) : aop (.mksl false s n z ps) fr (E σ l) = some (.c (.sl (σ.next + l.length) 0 0 n n), E σ (l ++ [(0, es)])) := by
  simp [aop, h, E_new, E_next]
theorem aop_load {l : List (Nat × List (List Ce))} {g : Bool} {s k v i j : Nat} {a : Opd} {es : List (List Ce)} {e : List Ce} {x : AV} (ha : a.ev fr = some (.c (.ptr (σ.next + k) v i j))) (hl : l[k]? = some (v, es)) (he : es[i]? = some e) (hj : j ≤ e.length) (hx : takeA g s (e.drop j) = some x) :
    aop (.load g s a) fr (E σ l) = some (x, E σ l) := by
  simp [aop, ha, Store.at_, E_at, hl, he, hj, hx]
theorem aop_store {l : List (Nat × List (List Ce))} {s k v i j : Nat} {a y : Opd} {es : List (List Ce)} {e cs : List Ce} {x : AV} (ha : a.ev fr = some (.c (.ptr (σ.next + k) v i j))) (hy : y.ev fr = some x) (hc : x.cells = some cs) (hl : l[k]? = some (v, es)) (he : es[i]? = some e) (hs : cs.length = s) (hj : j + s ≤ e.length) :
    aop (.store s a y) fr (E σ l) = some (.un, E σ (l.set k (v, es.set i (splice e j cs)))) := by
  have hk : k < l.length := (List.getElem?_eq_some_iff.1 hl).1
  simp [aop, ha, hy, hc, E_at, hl, he, hs, hj, E_put hk]
theorem aop_iaddr {l : List (Nat × List (List Ce))} {s k v i m c n : Nat} {x y : Opd} {kd : IntKind} {es : List (List Ce)} {z : Int} (hx : x.ev fr = some (.c (.sl (σ.next + k) v i m c))) (hy : y.ev fr = some (.c (.int kd z))) (hz : z = (n : Int)) (hn : n < m) (hl : l[k]? = some (v, es)) {e : List Ce} (he : es[i + n]? = some e) (hs : e.length = s) :
    aop (.iaddr s x y) fr (E σ l) = some (.c (.ptr (σ.next + k) v (i + n) 0), E σ l) := by
  subst hz
  simp [aop, hx, hy, iaddrA, hn, E_at, hl, he, hs]
theorem aop_iaddrF {τ : Store} {s n : Nat} {x y : Opd} {kd : IntKind} {es : List (List Ce)} {z : Int} {e : List Ce} (hx : x.ev fr = some (.c (.fz es))) (hy : y.ev fr = some (.c (.int kd z))) (hz : z = (n : Int)) (he : es[n]? = some e) (hs : e.length = s) :
    aop (.iaddr s x y) fr τ = some (.c (.fp e), τ) := by
  subst hz
  simp [aop, hx, hy, iaddrA, he, hs]

theorem aop_iaddrM {τ : Store} {α : Type} {enc : α → List Ce} {xs : List α} {s n : Nat} {x y : Opd} {kd : IntKind} {z : Int} (hx : x.ev fr = some (.c (.fz (xs.map enc)))) (hy : y.ev fr = some (.c (.int kd z))) (hz : z = (n : Int)) (hn : n < xs.length) (hs : (enc xs[n]).length = s) :
    aop (.iaddr s x y) fr τ = some (.c (.fp (enc xs[n])), τ) :=
  aop_iaddrF hx hy hz (by simp [hn]) hs

theorem aop_lenM {τ : Store} {α : Type} {enc : α → List Ce} {xs : List α} {x : Opd} (hx : x.ev fr = some (.c (.fz (xs.map enc)))) : aop (.len false x) fr τ = some (.c (.int .i64 (xs.length : Int)), τ) := by
  simp [aop, hx]

theorem aop_app {l : List (Nat × List (List Ce))} {s bytes k v : Nat} {x y : Opd} {u : Ce} {ys junk zs : List (List Ce)} (hx : x.ev fr = some (.c (vec (σ.next + k) v ys junk))) (hy : y.ev fr = some (.c u)) (hu : (E σ l).els u = some zs) (hl : l[k]? = some (v, ys ++ junk))
    (hys : ∀ e ∈ ys, e.length = s) (hj : Jk s junk) (hzs : ∀ e ∈ zs, e.length = s) (hb : (ys.length + zs.length) * bytes ≤ 140737488355328) :
    ∃ v' junk', Jk s junk' ∧ aop (.app s bytes x y) fr (E σ l) = some (.c (vec (σ.next + k) v' (ys ++ zs) junk'), E σ (l.set k (v', ys ++ zs ++ junk'))) := by
  have hk : k < l.length := (List.getElem?_eq_some_iff.1 hl).1
  have hall : ∀ e ∈ ys ++ junk, e.length = s := by
    intro e he
    rcases List.mem_append.1 he with h | h
    · exact hys e h
    · exact (hj e h).1
  have hns : ∀ b, u ≠ .str b := by
    rintro b rfl
    simp [Store.els] at hu
  have h0 : aop (.app s bytes x y) fr (E σ l) = (((E σ l).els u).bind (appA (E σ l) s bytes (vec (σ.next + k) v ys junk))).map fun r => (.c r.1, r.2) := by
    simp only [aop, hx, hy]
  rw [h0, hu]
  simp only [Option.bind_some]
  by_cases c : zs.length ≤ junk.length
  · refine ⟨v, junk.drop zs.length, fun e he => hj e (List.mem_of_mem_drop he), ?_⟩
    have e2 : splice (ys ++ junk) (0 + ys.length) zs = ys ++ zs ++ junk.drop zs.length := by
      simp only [splice, Nat.zero_add, List.take_left', List.drop_append, Nat.add_sub_cancel_left]
      rw [List.drop_eq_nil_of_le (by omega)]
      simp
    have c2 : ys.length + zs.length ≤ ys.length + junk.length := by omega
    have e1 : appA (E σ l) s bytes (vec (σ.next + k) v ys junk) zs = some (.sl (σ.next + k) v 0 (ys.length + zs.length) (ys.length + junk.length), (E σ l).put (σ.next + k) (v, splice (ys ++ junk) (0 + ys.length) zs)) := by
      unfold appA vec
      rw [if_pos hzs]
      simp only [E_at, hl]
      rw [if_pos ⟨trivial, by simp, by omega, hall⟩, if_pos c2]
    rw [e1, e2, E_put hk]
    simp only [Option.map_some, vec, List.length_append, List.length_drop]
    rw [show ys.length + zs.length + (junk.length - zs.length) = ys.length + junk.length by omega]
  · refine ⟨v + 1, [], Jk.nil, ?_⟩
    have c2 : ¬ ys.length + zs.length ≤ ys.length + junk.length := by omega
    have e1 : appA (E σ l) s bytes (vec (σ.next + k) v ys junk) zs = some (.sl (σ.next + k) (v + 1) 0 (ys.length + zs.length) (ys.length + zs.length), (E σ l).put (σ.next + k) (v + 1, ((ys ++ junk).drop 0).take ys.length ++ zs)) := by
      unfold appA vec
      rw [if_pos hzs]
      simp only [E_at, hl]
      rw [if_pos ⟨trivial, by simp, by omega, hall⟩, if_neg c2, if_pos hb]
    rw [e1, E_put hk]
    simp [vec]
theorem Go.app {d : Option Nat} {g : Option (Nat × Bool)} {rest : List AOper} {l : List (Nat × List (List Ce))} {s bytes k v : Nat} {x y : Opd} {u : Ce} {ys junk zs : List (List Ce)} (hw : wants fr g = some true) (hx : x.ev fr = some (.c (vec (σ.next + k) v ys junk))) (hy : y.ev fr = some (.c u)) (hu : (E σ l).els u = some zs) (hl : l[k]? = some (v, ys ++ junk))
    (hys : ∀ e ∈ ys, e.length = s) (hj : Jk s junk) (hzs : ∀ e ∈ zs, e.length = s) (hb : (ys.length + zs.length) * bytes ≤ 140737488355328)
    (h : ∀ v' junk', Jk s junk' → Go P n0 nt rets R (.ops rest :: K) (putA fr d (.c (vec (σ.next + k) v' (ys ++ zs) junk'))) (E σ (l.set k (v', ys ++ zs ++ junk')))) :
    Go P n0 nt rets R (.ops (⟨d, .op (.app s bytes x y), g⟩ :: rest) :: K) fr (E σ l) := by
  obtain ⟨v', junk', h1, h2⟩ := aop_app hx hy hu hl hys hj hzs hb
  exact .op hw h2 (h v' junk' h1)
theorem Go.sapp {d : Option Nat} {g : Option (Nat × Bool)} {rest : List (List AOper)} {l : List (Nat × List (List Ce))} {s bytes k v : Nat} {x y : Opd} {u : Ce} {ys junk zs : List (List Ce)} (hw : wants fr g = some true) (hx : x.ev fr = some (.c (vec (σ.next + k) v ys junk))) (hy : y.ev fr = some (.c u)) (hu : (E σ l).els u = some zs) (hl : l[k]? = some (v, ys ++ junk))
    (hys : ∀ e ∈ ys, e.length = s) (hj : Jk s junk) (hzs : ∀ e ∈ zs, e.length = s) (hb : (ys.length + zs.length) * bytes ≤ 140737488355328)
    (h : ∀ v' junk', Jk s junk' → Go P n0 nt rets R (.segs rest :: K) (putA fr d (.c (vec (σ.next + k) v' (ys ++ zs) junk'))) (E σ (l.set k (v', ys ++ zs ++ junk')))) :
    Go P n0 nt rets R (.segs ([⟨d, .op (.app s bytes x y), g⟩] :: rest) :: K) fr (E σ l) := by
  obtain ⟨v', junk', h1, h2⟩ := aop_app hx hy hu hl hys hj hzs hb
  exact .sop hw h2 (h v' junk' h1)
theorem Go.app1 {d : Option Nat} {g : Option (Nat × Bool)} {rest : List AOper} {l : List (Nat × List (List Ce))} {s bytes k v : Nat} {x y : Opd} {u : Ce} {ys junk : List (List Ce)} {z : List Ce} (hw : wants fr g = some true) (hx : x.ev fr = some (.c (vec (σ.next + k) v ys junk))) (hy : y.ev fr = some (.c u)) (hu : (E σ l).els u = some [z]) (hl : l[k]? = some (v, ys ++ junk))
    (hys : ∀ e ∈ ys, e.length = s) (hj : Jk s junk) (hzs : z.length = s) (hb : (ys.length + 1) * bytes ≤ 140737488355328)
    (h : ∀ v' junk', Jk s junk' → Go P n0 nt rets R (.ops rest :: K) (putA fr d (.c (vec (σ.next + k) v' (ys ++ [z]) junk'))) (E σ (l.set k (v', ys ++ [z] ++ junk')))) :
    Go P n0 nt rets R (.ops (⟨d, .op (.app s bytes x y), g⟩ :: rest) :: K) fr (E σ l) :=
  Go.app hw hx hy hu hl hys hj (by intro e he; simp at he; subst he; exact hzs) (by simpa using hb) h
theorem Go.sapp1 {d : Option Nat} {g : Option (Nat × Bool)} {rest : List (List AOper)} {l : List (Nat × List (List Ce))} {s bytes k v : Nat} {x y : Opd} {u : Ce} {ys junk : List (List Ce)} {z : List Ce} (hw : wants fr g = some true) (hx : x.ev fr = some (.c (vec (σ.next + k) v ys junk))) (hy : y.ev fr = some (.c u)) (hu : (E σ l).els u = some [z]) (hl : l[k]? = some (v, ys ++ junk))
    (hys : ∀ e ∈ ys, e.length = s) (hj : Jk s junk) (hzs : z.length = s) (hb : (ys.length + 1) * bytes ≤ 140737488355328)
    (h : ∀ v' junk', Jk s junk' → Go P n0 nt rets R (.segs rest :: K) (putA fr d (.c (vec (σ.next + k) v' (ys ++ [z]) junk'))) (E σ (l.set k (v', ys ++ [z] ++ junk')))) :
    Go P n0 nt rets R (.segs ([⟨d, .op (.app s bytes x y), g⟩] :: rest) :: K) fr (E σ l) :=
  Go.sapp hw hx hy hu hl hys hj (by intro e he; simp at he; subst he; exact hzs) (by simpa using hb) h
theorem frz_vec {l : List (Nat × List (List Ce))} {k v : Nat} {ys junk : List (List Ce)} (hl : l[k]? = some (v, ys ++ junk)) (ho : ∀ e ∈ ys, ∀ x ∈ e, Old σ.next x) : Frz (E σ l) σ.next (vec (σ.next + k) v ys junk) (.fz ys) := by
  refine .sl _ _ _ _ _ (ys ++ junk) ys (by omega) (by rw [E_at]; exact hl) (by simp) rfl (fun i hi => ?_) (fun i j hi hj => ?_)
  · simp only [Nat.zero_add]
    rw [List.getElem_append_left hi]
  · have e : (ys ++ junk)[0 + i]'(by simp; omega) = ys[i] := by
      simp only [Nat.zero_add]
      rw [List.getElem_append_left hi]
    simp only [e]
    exact .same _ (ho _ (List.getElem_mem hi) _ (List.getElem_mem hj))
end

theorem wrap64 {n : Int} (h1 : -9223372036854775808 ≤ n) (h2 : n ≤ 9223372036854775807) : IntKind.i64.wrap n = n := by
  rw [IntKind.wrap_i64]
  omega

theorem wrap_succ {n : Int} {i : Nat} (h : n = i) (hb : i + 1 ≤ 34359738368) : IntKind.i64.wrap (n + 1) = ((i + 1 : Nat) : Int) := by
  rw [wrap64 (by omega) (by omega)]
  omega

theorem wrap_pred {n : Int} {i : Nat} (h : n = ((i + 1 : Nat) : Int)) (hb : i + 1 ≤ 34359738368) : IntKind.i64.wrap (n - 1) = (i : Int) := by
  rw [wrap64 (by omega) (by omega)]
  omega

/-! ### Short words for what is printed at every place -/
section
variable {P : Program} {n0 nt : Nat} {rets : List RV} {R : AV → Store → Prop} {K : List AK} {fr : Fr} {σ : Store}
/-- Steps that only turn the text. -/
def adm (fr : Fr) : List AK → Option (List AK)
  | .code .skip :: K => some K
  | .code (.seq a b) :: K => some (.code a :: .code b :: K)
  | .code (.region l) :: K => some (.ops l :: K)
  | .code (.draw s) :: K => some (.segs s :: K)
  | .code (.block id c) :: K => some (.code c :: .blk id :: K)
  | .code (.exit id) :: K => exitA id K
  | .code (.cond c a b) :: K => match c.ev fr with
    | some (.c (.bool true)) => some (.code a :: K)
    | some (.c (.bool false)) => some (.code b :: K)
    | _ => none
  | .blk _ :: K => some K
  | .ops [] :: K => some K
  | .segs [] :: K => some K
  | _ => none
theorem Go.adm {K' : List AK} (h : adm fr K = some K') (g : Go P n0 nt rets R K' fr σ) : Go P n0 nt rets R K fr σ := by
  unfold Am.adm at h
  split at h
  · injection h with h; subst h; exact .skip g
  · injection h with h; subst h; exact .seq g
  · injection h with h; subst h; exact .region g
  · injection h with h; subst h; exact .draw g
  · injection h with h; subst h; exact .block g
  · exact .exit h g
  · split at h
    · rename_i hc; injection h with h; subst h; exact .cond true hc g
    · rename_i hc; injection h with h; subst h; exact .cond false hc g
    · cases h
  · injection h with h; subst h; exact .blk g
  · injection h with h; subst h; exact .nil g
  · injection h with h; subst h; exact .segs g
  · cases h
/-- What a condition says. -/
inductive Bq : Bool → Prop → Prop → Prop where
  | d {p : Prop} {i : Decidable p} : Bq (@decide p i) p (¬ p)
  | e {x y : Int} : Bq (x == y) (x = y) (¬ x = y)
  | n {x y : Int} : Bq (x != y) (¬ x = y) (x = y)
  | b {B : Bool} : Bq B (B = true) (B = false)
theorem Bq.yes {B : Bool} {p r : Prop} (q : Bq B p r) (h : B = true) : p := by
  cases q
  · exact of_decide_eq_true h
  · exact eq_of_beq h
  · simpa using h
  · exact h
theorem Bq.no {B : Bool} {p r : Prop} (q : Bq B p r) (h : B = false) : r := by
  cases q
  · exact of_decide_eq_false h
  · simpa using h
  · simpa using h
  · exact h
theorem bqt : Bq true (true = true) (true = false) := .b
theorem bqf : Bq false (false = true) (false = false) := .b
theorem Go.iQ {c : Opd} {a b : AC} {B : Bool} {p r : Prop} (h : c.ev fr = some (.c (.bool B))) (q : Bq B p r) (h1 : p → Go P n0 nt rets R (.code a :: K) fr σ) (h2 : r → Go P n0 nt rets R (.code b :: K) fr σ) : Go P n0 nt rets R (.code (.cond c a b) :: K) fr σ :=
  .ite B h (fun e => h1 (q.yes e)) (fun e => h2 (q.no e))
theorem Go.gQ {d : Option Nat} {o : AO} {t : Nat} {b : Bool} {rest : List AOper} {B : Bool} {p r : Prop} (h : look fr t = some (.c (.bool B))) (q : Bq B p r) (h1 : p → Go P n0 nt rets R (.ops (⟨d, o, some (t, b)⟩ :: rest) :: K) ((t, .c (.bool true)) :: fr) σ) (h2 : r → Go P n0 nt rets R (.ops (⟨d, o, some (t, b)⟩ :: rest) :: K) ((t, .c (.bool false)) :: fr) σ) :
    Go P n0 nt rets R (.ops (⟨d, o, some (t, b)⟩ :: rest) :: K) fr σ := .guard B h (fun e => h1 (q.yes e)) (fun e => h2 (q.no e))
theorem Go.sQ {d : Option Nat} {o : AO} {t : Nat} {b : Bool} {rest : List (List AOper)} {B : Bool} {p r : Prop} (h : look fr t = some (.c (.bool B))) (q : Bq B p r) (h1 : p → Go P n0 nt rets R (.segs ([⟨d, o, some (t, b)⟩] :: rest) :: K) ((t, .c (.bool true)) :: fr) σ) (h2 : r → Go P n0 nt rets R (.segs ([⟨d, o, some (t, b)⟩] :: rest) :: K) ((t, .c (.bool false)) :: fr) σ) :
    Go P n0 nt rets R (.segs ([⟨d, o, some (t, b)⟩] :: rest) :: K) fr σ := .sguard B h (fun e => h1 (q.yes e)) (fun e => h2 (q.no e))
theorem Qg.gQ {d : Option Nat} {o : AO} {t : Nat} {b : Bool} {rest : List AOper} {Post : Fr → Prop} {B : Bool} {p r : Prop} (h : look fr t = some (.c (.bool B))) (q : Bq B p r) (h1 : p → Qg P σ (⟨d, o, some (t, b)⟩ :: rest) ((t, .c (.bool true)) :: fr) Post) (h2 : r → Qg P σ (⟨d, o, some (t, b)⟩ :: rest) ((t, .c (.bool false)) :: fr) Post) :
    Qg P σ (⟨d, o, some (t, b)⟩ :: rest) fr Post := .guard B h (fun e => h1 (q.yes e)) (fun e => h2 (q.no e))
theorem Go.v2 {d s i : Nat} {e : Nat} {z cs : List Ce} {w u : AV} {k : Nat} {rest : List AOper} (h0 : n0 ≤ σ.next) (hh : (i != d && i != e && d != e && k != d) = true) (hy : look fr k = some u) (hw : look fr i = some w) (hx : w.cells = some cs) (hl : cs.length = s) (hz : z.length = s)
    (h : Go P n0 nt rets R (.ops rest :: K) ((e, u) :: (d, .c (.fp cs)) :: fr) σ) : Go P n0 nt rets R (.ops (⟨some d, .op (.alloc z), none⟩ :: ⟨some e, .op (.mv (.t k)), none⟩ :: ⟨none, .op (.store s (.t d) (.t i)), none⟩ :: rest) :: K) fr σ := by
  simp only [Bool.and_eq_true, bne_iff_ne] at hh
  exact .var2 h0 hh.1.1.1 hh.1.1.2 hh.1.2 hh.2 hy hw hx hl hz h
theorem Go.v1 {d s i : Nat} {z cs : List Ce} {w : AV} {rest : List AOper} (h0 : n0 ≤ σ.next) (hi : (i != d) = true) (hi : true = true) (hw : look fr i = some w) (hx : w.cells = some cs) (hl : cs.length = s) (hz : z.length = s)
    (h : Go P n0 nt rets R (.ops rest :: K) ((d, .c (.fp cs)) :: fr) σ) : Go P n0 nt rets R (.ops (⟨some d, .op (.alloc z), none⟩ :: ⟨none, .op (.store s (.t d) (.t i)), none⟩ :: rest) :: K) fr σ := by
  rename_i hh
  simp only [bne_iff_ne] at hh
  exact .var h0 hh hw hx hl hz h
theorem aL {l : List (Nat × List (List Ce))} {g : Bool} {s k v i j : Nat} {a : Opd} {es : List (List Ce)} {e : List Ce} {x : AV} (ha : a.ev fr = some (.c (.ptr (σ.next + k) v i j))) (hl : l[k]? = some (v, es)) (he : es[i]? = some e) (hj : Nat.ble j e.length = true) (hx : takeA g s (e.drop j) = some x) :
    aop (.load g s a) fr (E σ l) = some (x, E σ l) := aop_load ha hl he (Nat.le_of_ble_eq_true hj) hx
theorem aS {l : List (Nat × List (List Ce))} {s k v i j : Nat} {a y : Opd} {es : List (List Ce)} {e cs : List Ce} {x : AV} (ha : a.ev fr = some (.c (.ptr (σ.next + k) v i j))) (hy : y.ev fr = some x) (hc : x.cells = some cs) (hl : l[k]? = some (v, es)) (he : es[i]? = some e) (hs : cs.length = s) (hj : Nat.ble (j + s) e.length = true) :
    aop (.store s a y) fr (E σ l) = some (.un, E σ (l.set k (v, es.set i (splice e j cs)))) := aop_store ha hy hc hl he hs (Nat.le_of_ble_eq_true hj)
theorem leAdd {a b : Nat} : a ≤ a + b := Nat.le_add_right a b
end
end Go.Proofs.Ytcfpdongfdhgjaa.Am

/- Values: contracts of the functions that know them. -/
set_option linter.unusedVariables false
set_option linter.unusedSimpArgs false
namespace Go.Proofs.Ytcfpdongfdhgjaa.Am
theorem mixed : Try.prog.follows .mixedOrders = true := Try.checked.mixed

structure Val where
  k : Int
  n : Int
  s : List UInt8
  deriving DecidableEq
def encV (v : Val) : List Ce := [.int .i64 v.k, .int .i64 v.n, .str v.s]
def isIn (n lo hi : Int) : Bool := decide (lo ≤ n) && decide (n ≤ hi)
def okVal (v : Val) : Bool := (v.k == 0 && v.n == 0 && v.s == []) || (v.k == 1 && isIn v.n (-1000000000) 1000000000 && v.s == []) || (v.k == 2 && v.n == 0 && decide ((v.s.length : Int) ≤ 12))
def cmpI (a b : Int) : Int := if a < b then -1 else if b < a then 1 else 0
def cmpS (a b : List UInt8) : Int := if bytesLt a b then -1 else if a == b then 0 else 1
def orI : List Int → Int
  | [] => 0
  | n :: r => if n = 0 then orI r else n
def encI (n : Int) : List Ce := [.int .i64 n]
def order (v w : Val) : Int := orI [cmpI v.k w.k, cmpI v.n w.n, cmpS v.s w.s]

theorem in_ok (n lo hi : Int) : Pure Try.prog 35 [.c (.int .i64 n), .c (.int .i64 lo), .c (.int .i64 hi)] (.c (.bool (isIn n lo hi))) := by
  refine Pure.run mixed c_impl_in_ok (Nat.le_of_ble_eq_true rfl) fun σ hS hA => ?_
  clear hS hA
  repeat' first | (apply Go.adm; exact rfl) | apply Go.qs | apply Qg.nil | ((first | apply Go.v2 | apply Go.v1); (first | exact leAdd | assumption); iterate 6 exact rfl) | ((first | apply Go.op | apply Go.sop | apply Qg.op); exact rfl; (first | exact aop_alloc | exact aop_new rfl rfl | exact aop_mksl rfl | exact aop_lenM rfl | exact rfl | exact aL rfl rfl rfl rfl rfl | exact aS rfl rfl rfl rfl rfl rfl rfl)) | ((first | apply Go.no | apply Go.sno | apply Qg.no); exact rfl) | (exfalso; omega) | (((first | apply Go.iQ | apply Go.gQ | apply Go.sQ | apply Qg.gQ); exact rfl; (first | exact .d | exact .e | exact .n | ((fail_if_success exact bqt); (fail_if_success exact bqf); exact .b))) <;> intro _)
  all_goals refine .ret rfl (.bool ?_)
  all_goals (simp_all [isIn] <;> omega)
theorem l1In_ok (n lo hi : Int) : Pure Try.prog 31 [.c (.int .i64 n), .c (.int .i64 lo), .c (.int .i64 hi)] (.c (.bool (isIn n lo hi))) := by
  refine Pure.run mixed c_spec_l1In_ok (Nat.le_of_ble_eq_true rfl) fun σ hS hA => ?_
  clear hS hA
  repeat' first | (apply Go.adm; exact rfl) | apply Go.qs | apply Qg.nil | ((first | apply Go.v2 | apply Go.v1); (first | exact leAdd | assumption); iterate 6 exact rfl) | ((first | apply Go.op | apply Go.sop | apply Qg.op); exact rfl; (first | exact aop_alloc | exact aop_new rfl rfl | exact aop_mksl rfl | exact aop_lenM rfl | exact rfl | exact aL rfl rfl rfl rfl rfl | exact aS rfl rfl rfl rfl rfl rfl rfl)) | ((first | apply Go.no | apply Go.sno | apply Qg.no); exact rfl) | (exfalso; omega) | (((first | apply Go.iQ | apply Go.gQ | apply Go.sQ | apply Qg.gQ); exact rfl; (first | exact .d | exact .e | exact .n | ((fail_if_success exact bqt); (fail_if_success exact bqf); exact .b))) <;> intro _)
  all_goals refine .ret rfl (.bool ?_)
  all_goals (simp_all [isIn] <;> omega)
theorem ValOk_ok (v : Val) : Pure Try.prog 45 [.agg (encV v)] (.c (.bool (okVal v))) := by
  refine Pure.run mixed c_impl_ValOk_ok (Nat.le_of_ble_eq_true rfl) fun σ hS hA => ?_
  clear hS hA
  repeat' first | (apply Go.adm; exact rfl) | apply Go.qs | apply Qg.nil | ((first | apply Go.v2 | apply Go.v1); (first | exact leAdd | assumption); iterate 6 exact rfl) | ((first | apply Go.op | apply Go.sop | apply Qg.op); exact rfl; (first | exact aop_alloc | exact aop_new rfl rfl | exact aop_mksl rfl | exact aop_lenM rfl | exact rfl | exact aL rfl rfl rfl rfl rfl | exact aS rfl rfl rfl rfl rfl rfl rfl)) | ((first | apply Go.no | apply Go.sno | apply Qg.no); exact rfl) | ((first | apply Go.pcallB | apply Go.spcallB | apply Qg.pcallB); (iterate 3 exact rfl); exact in_ok _ _ _; intro _ _) | (exfalso; omega) | (((first | apply Go.iQ | apply Go.gQ | apply Go.sQ | apply Qg.gQ); exact rfl; (first | exact .d | exact .e | exact .n | ((fail_if_success exact bqt); (fail_if_success exact bqf); exact .b))) <;> intro _)
  all_goals refine .ret rfl (.bool ?_)
  all_goals simp_all [okVal]
theorem sValOk_ok (v : Val) : Pure Try.prog 43 [.agg (encV v)] (.c (.bool (okVal v))) := by
  refine Pure.run mixed c_spec_ValOk_ok (Nat.le_of_ble_eq_true rfl) fun σ hS hA => ?_
  clear hS hA
  repeat' first | (apply Go.adm; exact rfl) | apply Go.qs | apply Qg.nil | ((first | apply Go.v2 | apply Go.v1); (first | exact leAdd | assumption); iterate 6 exact rfl) | ((first | apply Go.op | apply Go.sop | apply Qg.op); exact rfl; (first | exact aop_alloc | exact aop_new rfl rfl | exact aop_mksl rfl | exact aop_lenM rfl | exact rfl | exact aL rfl rfl rfl rfl rfl | exact aS rfl rfl rfl rfl rfl rfl rfl)) | ((first | apply Go.no | apply Go.sno | apply Qg.no); exact rfl) | ((first | apply Go.pcallB | apply Go.spcallB | apply Qg.pcallB); (iterate 3 exact rfl); exact l1In_ok _ _ _; intro _ _) | (exfalso; omega) | (((first | apply Go.iQ | apply Go.gQ | apply Go.sQ | apply Qg.gQ); exact rfl; (first | exact .d | exact .e | exact .n | ((fail_if_success exact bqt); (fail_if_success exact bqf); exact .b))) <;> intro _)
  all_goals refine .ret rfl (.bool ?_)
  all_goals simp_all [okVal]
theorem isNaN_ok (n : Int) : Pure Try.prog 49 [.c (.int .i64 n)] (.c (.bool false)) := by
  refine Pure.run mixed c_cmp_isNaN_int64_ok (Nat.le_of_ble_eq_true rfl) fun σ hS hA => ?_
  repeat' first | (apply Go.adm; exact rfl) | apply Go.qs | apply Qg.nil | ((first | apply Go.v2 | apply Go.v1); (first | exact leAdd | assumption); iterate 6 exact rfl) | ((first | apply Go.op | apply Go.sop | apply Qg.op); exact rfl; (first | exact aop_alloc | exact aop_new rfl rfl | exact aop_mksl rfl | exact aop_lenM rfl | exact rfl | exact aL rfl rfl rfl rfl rfl | exact aS rfl rfl rfl rfl rfl rfl rfl)) | ((first | apply Go.no | apply Go.sno | apply Qg.no); exact rfl) | (exfalso; omega) | (((first | apply Go.iQ | apply Go.gQ | apply Go.sQ | apply Qg.gQ); exact rfl; (first | exact .d | exact .e | exact .n | ((fail_if_success exact bqt); (fail_if_success exact bqf); exact .b))) <;> intro _)
  all_goals refine .ret rfl (.bool (by simp))
theorem isNaNS_ok (n : List UInt8) : Pure Try.prog 53 [.c (.str n)] (.c (.bool false)) := by
  refine Pure.run mixed c_cmp_isNaN_string_ok (Nat.le_of_ble_eq_true rfl) fun σ hS hA => ?_
  repeat' first | (apply Go.adm; exact rfl) | apply Go.qs | apply Qg.nil | ((first | apply Go.v2 | apply Go.v1); (first | exact leAdd | assumption); iterate 6 exact rfl) | ((first | apply Go.op | apply Go.sop | apply Qg.op); exact rfl; (first | exact aop_alloc | exact aop_new rfl rfl | exact aop_mksl rfl | exact aop_lenM rfl | exact rfl | exact aL rfl rfl rfl rfl rfl | exact aS rfl rfl rfl rfl rfl rfl rfl)) | ((first | apply Go.no | apply Go.sno | apply Qg.no); exact rfl) | (exfalso; omega) | (((first | apply Go.iQ | apply Go.gQ | apply Go.sQ | apply Qg.gQ); exact rfl; (first | exact .d | exact .e | exact .n | ((fail_if_success exact bqt); (fail_if_success exact bqf); exact .b))) <;> intro _)
  all_goals refine .ret rfl (.bool (by simp))
theorem Compare_ok (a b : Int) : Pure Try.prog 40 [.c (.int .i64 a), .c (.int .i64 b)] (.c (.int .i64 (cmpI a b))) := by
  refine Pure.run mixed c_cmp_Compare_int64_ok (Nat.le_of_ble_eq_true rfl) fun σ hS hA => ?_
  clear hS hA
  repeat' first | (apply Go.adm; exact rfl) | apply Go.qs | apply Qg.nil | ((first | apply Go.v2 | apply Go.v1); (first | exact leAdd | assumption); iterate 6 exact rfl) | ((first | apply Go.op | apply Go.sop | apply Qg.op); exact rfl; (first | exact aop_alloc | exact aop_new rfl rfl | exact aop_mksl rfl | exact aop_lenM rfl | exact rfl | exact aL rfl rfl rfl rfl rfl | exact aS rfl rfl rfl rfl rfl rfl rfl)) | ((first | apply Go.no | apply Go.sno | apply Qg.no); exact rfl) | ((first | apply Go.pcall | apply Go.spcall | apply Qg.pcall); (iterate 3 exact rfl); exact isNaN_ok _) | (exfalso; omega) | (((first | apply Go.iQ | apply Go.gQ | apply Go.sQ | apply Qg.gQ); exact rfl; (first | exact .d | exact .e | exact .n | ((fail_if_success exact bqt); (fail_if_success exact bqf); exact .b))) <;> intro _)
  all_goals refine .ret rfl (.int ?_)
  all_goals unfold cmpI
  all_goals repeat' split
  all_goals omega
theorem CompareS_ok (a b : List UInt8) : Pure Try.prog 51 [.c (.str a), .c (.str b)] (.c (.int .i64 (cmpS a b))) := by
  refine Pure.run mixed c_cmp_Compare_string_ok (Nat.le_of_ble_eq_true rfl) fun σ hS hA => ?_
  clear hS hA
  repeat' first | (apply Go.adm; exact rfl) | apply Go.qs | apply Qg.nil | ((first | apply Go.v2 | apply Go.v1); (first | exact leAdd | assumption); iterate 6 exact rfl) | ((first | apply Go.op | apply Go.sop | apply Qg.op); exact rfl; (first | exact aop_alloc | exact aop_new rfl rfl | exact aop_mksl rfl | exact aop_lenM rfl | exact rfl | exact aL rfl rfl rfl rfl rfl | exact aS rfl rfl rfl rfl rfl rfl rfl)) | ((first | apply Go.no | apply Go.sno | apply Qg.no); exact rfl) | ((first | apply Go.pcall | apply Go.spcall | apply Qg.pcall); (iterate 3 exact rfl); exact isNaNS_ok _) | (exfalso; omega) | (((first | apply Go.iQ | apply Go.gQ | apply Go.sQ | apply Qg.gQ); exact rfl; (first | exact .d | exact .e | exact .n | ((fail_if_success exact bqt); (fail_if_success exact bqf); exact .b))) <;> intro _)
  all_goals refine .ret rfl (.int ?_)
  all_goals unfold cmpS
  all_goals repeat' split
  all_goals simp_all
theorem Or_ok (xs : List Int) (hx : xs.length ≤ 34359738368) : Pure Try.prog 38 [.c (.fz (xs.map encI))] (.c (.int .i64 (orI xs))) := by
  refine Pure.run mixed c_cmp_Or_int_ok (Nat.le_of_ble_eq_true rfl) fun σ hS hA => ?_
  clear hS hA
  repeat' first | (apply Go.adm; exact rfl) | apply Go.qs | apply Qg.nil | ((first | apply Go.v2 | apply Go.v1); (first | exact leAdd | assumption); iterate 6 exact rfl) | ((first | apply Go.op | apply Go.sop | apply Qg.op); exact rfl; (first | exact aop_alloc | exact aop_new rfl rfl | exact aop_mksl rfl | exact aop_lenM rfl | exact rfl | exact aL rfl rfl rfl rfl rfl | exact aS rfl rfl rfl rfl rfl rfl rfl)) | ((first | apply Go.no | apply Go.sno | apply Qg.no); exact rfl) | (exfalso; omega) | (((first | apply Go.iQ | apply Go.gQ | apply Go.sQ | apply Qg.gQ); exact rfl; (first | exact .d | exact .e | exact .n | ((fail_if_success exact bqt); (fail_if_success exact bqf); exact .b))) <;> intro _)
  refine Go.keep [3, 6, 7, 8] (Go.loops (I := fun m fr τ => ∃ i : Nat, ∃ n L : Int, m = xs.length - i ∧ i ≤ xs.length ∧ n = i ∧ L = xs.length ∧ orI xs = orI (xs.drop i) ∧
    fr = [(3, .c (.int .i64 0)), (6, .c (.fz (xs.map encI))), (7, .c (.int .i64 L)), (8, .c (.int .i64 n))] ∧ τ = E σ []) ?_ _ _ _ ⟨0, _, _, rfl, Nat.zero_le _, rfl, by simp, rfl, rfl, rfl⟩)
  rintro m fr τ ⟨i, n, L, rfl, hi, hn, hL, hs, rfl, rfl⟩ hrec
  repeat' first | (apply Go.adm; exact rfl) | apply Go.qs | apply Qg.nil | ((first | apply Go.v2 | apply Go.v1); (first | exact leAdd | assumption); iterate 6 exact rfl) | ((first | apply Go.op | apply Go.sop | apply Qg.op); exact rfl; (first | exact aop_alloc | exact aop_new rfl rfl | exact aop_mksl rfl | exact aop_lenM rfl | exact rfl | exact aL rfl rfl rfl rfl rfl | exact aS rfl rfl rfl rfl rfl rfl rfl | exact aop_iaddrM (enc := encI) rfl rfl hn (by omega) rfl)) | ((first | apply Go.no | apply Go.sno | apply Qg.no); exact rfl) | (exfalso; omega) | (((first | apply Go.iQ | apply Go.gQ | apply Go.sQ | apply Qg.gQ); exact rfl; (first | exact .d | exact .e | exact .n | ((fail_if_success exact bqt); (fail_if_success exact bqf); exact .b))) <;> intro _)
  · refine .ret rfl (.int ?_)
    rw [hs, List.drop_eq_getElem_cons (by omega)]
    simp [orI, *]
  · refine Go.keep [3, 6, 7, 8] (hrec _ _ _ ?_ ⟨i + 1, _, _, rfl, ?_, ?_, hL, ?_, rfl, rfl⟩)
    · omega
    · omega
    · exact (wrap_succ hn (by omega))
    · rw [hs, List.drop_eq_getElem_cons (by omega)]
      simp [orI, *]
  · refine .ret rfl (.int ?_)
    rw [hs, List.drop_eq_nil_of_le (by omega)]
    rfl
theorem order_ok (v w : Val) : Pure Try.prog 48 [.agg (encV v), .agg (encV w)] (.c (.int .i64 (order v w))) := by
  refine Pure.run mixed c_impl_order_ok (Nat.le_of_ble_eq_true rfl) fun σ hS hA => ?_
  clear hS hA
  repeat' first | (apply Go.adm; exact rfl) | apply Go.qs | apply Qg.nil | ((first | apply Go.v2 | apply Go.v1); (first | exact leAdd | assumption); iterate 6 exact rfl) | ((first | apply Go.op | apply Go.sop | apply Qg.op); exact rfl; (first | exact aop_alloc | exact aop_new rfl rfl | exact aop_mksl rfl | exact aop_lenM rfl | exact rfl | exact aL rfl rfl rfl rfl rfl | exact aS rfl rfl rfl rfl rfl rfl rfl)) | ((first | apply Go.no | apply Go.sno | apply Qg.no); exact rfl) | ((first | apply Go.pcall | apply Go.spcall | apply Qg.pcall); (iterate 3 exact rfl); (first | exact Compare_ok _ _ | exact CompareS_ok _ _ | exact Or_ok [cmpI v.k w.k, cmpI v.n w.n, cmpS v.s w.s] (by simp))) | (exfalso; omega) | (((first | apply Go.iQ | apply Go.gQ | apply Go.sQ | apply Qg.gQ); exact rfl; (first | exact .d | exact .e | exact .n | ((fail_if_success exact bqt); (fail_if_success exact bqf); exact .b))) <;> intro _)
  exact .ret rfl (.int rfl)
def l1Ord (v w : Val) : Int := if v.k < w.k ∨ (v.k = w.k ∧ (v.n < w.n ∨ bytesLt v.s w.s = true)) then -1 else if v = w then 0 else 1
theorem l1Order_ok (v w : Val) : Pure Try.prog 44 [.agg (encV v), .agg (encV w)] (.c (.int .i64 (l1Ord v w))) := by
  refine Pure.run mixed c_spec_l1Order_ok (Nat.le_of_ble_eq_true rfl) fun σ hS hA => ?_
  clear hS hA
  repeat' first | (apply Go.adm; exact rfl) | apply Go.qs | apply Qg.nil | ((first | apply Go.v2 | apply Go.v1); (first | exact leAdd | assumption); iterate 6 exact rfl) | ((first | apply Go.op | apply Go.sop | apply Qg.op); exact rfl; (first | exact aop_alloc | exact aop_new rfl rfl | exact aop_mksl rfl | exact aop_lenM rfl | exact rfl | exact aL rfl rfl rfl rfl rfl | exact aS rfl rfl rfl rfl rfl rfl rfl)) | ((first | apply Go.no | apply Go.sno | apply Qg.no); exact rfl) | (exfalso; omega) | (((first | apply Go.iQ | apply Go.gQ | apply Go.sQ | apply Qg.gQ); exact rfl; (first | exact .d | exact .e | exact .n | ((fail_if_success exact bqt); (fail_if_success exact bqf); exact .b))) <;> intro _)
  all_goals refine .ret rfl (.int ?_)
  all_goals obtain ⟨vk, vn, vs⟩ := v
  all_goals obtain ⟨wk, wn, ws⟩ := w
  all_goals (simp_all [l1Ord] <;> split <;> simp_all <;> omega)
/-- As long and no longer: the values are right. -/
def areVals (xs : List Val) (most : Int) : Bool := decide ((xs.length : Int) ≤ most) && xs.all okVal
theorem areVals_ok (xs : List Val) (most : Int) (hm : 0 ≤ most) (hx : xs.length ≤ 34359738368) : Pure Try.prog 34 [.c (.fz (xs.map encV)), .c (.int .i64 most)] (.c (.bool (areVals xs most))) := by
  refine Pure.run mixed c_impl_areVals_ok (Nat.le_of_ble_eq_true rfl) fun σ hS hA => ?_
  clear hS hA
  repeat' first | (apply Go.adm; exact rfl) | apply Go.qs | apply Qg.nil | ((first | apply Go.v2 | apply Go.v1); (first | exact leAdd | assumption); iterate 6 exact rfl) | ((first | apply Go.op | apply Go.sop | apply Qg.op); exact rfl; (first | exact aop_alloc | exact aop_new rfl rfl | exact aop_mksl rfl | exact aop_lenM rfl | exact rfl | exact aL rfl rfl rfl rfl rfl | exact aS rfl rfl rfl rfl rfl rfl rfl)) | ((first | apply Go.no | apply Go.sno | apply Qg.no); exact rfl) | (exfalso; omega) | (((first | apply Go.iQ | apply Go.gQ | apply Go.sQ | apply Qg.gQ); exact rfl; (first | exact .d | exact .e | exact .n | ((fail_if_success exact bqt); (fail_if_success exact bqf); exact .b))) <;> intro _)
  refine Go.keep [1, 7, 8, 9] (Go.loops (I := fun m fr τ => ∃ i : Nat, ∃ n L : Int, m = xs.length - i ∧ i ≤ xs.length ∧ n = i ∧ L = xs.length ∧ ((i : Int) ≤ most ∧ areVals xs most = (decide ((xs.length : Int) ≤ most) && (xs.drop i).all okVal)) ∧
    fr = [(1, .c (.int .i64 most)), (7, .c (.fz (xs.map encV))), (8, .c (.int .i64 L)), (9, .c (.int .i64 n))] ∧ τ = E σ []) ?_ _ _ _ ⟨0, _, _, rfl, Nat.zero_le _, rfl, by simp, ⟨hm, rfl⟩, rfl, rfl⟩)
  rintro m fr τ ⟨i, n, L, rfl, hi, hn, hL, ⟨hs1, hs⟩, rfl, rfl⟩ hrec
  repeat' first | (apply Go.adm; exact rfl) | apply Go.qs | apply Qg.nil | ((first | apply Go.v2 | apply Go.v1); (first | exact leAdd | assumption); iterate 6 exact rfl) | ((first | apply Go.op | apply Go.sop | apply Qg.op); exact rfl; (first | exact aop_alloc | exact aop_new rfl rfl | exact aop_mksl rfl | exact aop_lenM rfl | exact rfl | exact aL rfl rfl rfl rfl rfl | exact aS rfl rfl rfl rfl rfl rfl rfl | exact aop_iaddrM (enc := encV) rfl rfl hn (by omega) rfl)) | ((first | apply Go.no | apply Go.sno | apply Qg.no); exact rfl) | ((first | apply Go.pcallB | apply Go.spcallB | apply Qg.pcallB); (iterate 3 exact rfl); exact ValOk_ok xs[i]; intro _ _) | (exfalso; omega) | (((first | apply Go.iQ | apply Go.gQ | apply Go.sQ | apply Qg.gQ); exact rfl; (first | exact .d | exact .e | exact .n | ((fail_if_success exact bqt); (fail_if_success exact bqf); exact .b))) <;> intro _)
  · refine .ret rfl (.bool ?_)
    clear hrec
    rw [hs]
    simp at *
    omega
  · refine .ret rfl (.bool ?_)
    clear hrec
    rw [hs, List.drop_eq_getElem_cons (by omega), List.all_cons]
    simp_all
  · refine Go.keep [1, 7, 8, 9] (hrec _ _ _ (by omega) ⟨i + 1, _, _, rfl, by omega, (wrap_succ hn (by omega)), hL, ⟨?_, ?_⟩, rfl, rfl⟩)
    · clear hrec
      simp at *
      omega
    · rw [hs, List.drop_eq_getElem_cons (by omega), List.all_cons]
      clear hrec
      simp_all
  · refine .ret rfl (.bool ?_)
    rw [hs, List.drop_eq_nil_of_le (by omega)]
    simp
    omega
theorem l2Vals_ok (xs : List Val) (hx : xs.length ≤ 34359738368) : Pure Try.prog 30 [.c (.fz (xs.map encV))] (.c (.bool (areVals xs 16))) := by
  refine Pure.run mixed c_spec_l2Vals_ok (Nat.le_of_ble_eq_true rfl) fun σ hS hA => ?_
  clear hS hA
  repeat' first | (apply Go.adm; exact rfl) | apply Go.qs | apply Qg.nil | ((first | apply Go.v2 | apply Go.v1); (first | exact leAdd | assumption); iterate 6 exact rfl) | ((first | apply Go.op | apply Go.sop | apply Qg.op); exact rfl; (first | exact aop_alloc | exact aop_new rfl rfl | exact aop_mksl rfl | exact aop_lenM rfl | exact rfl | exact aL rfl rfl rfl rfl rfl | exact aS rfl rfl rfl rfl rfl rfl rfl)) | ((first | apply Go.no | apply Go.sno | apply Qg.no); exact rfl) | (exfalso; omega) | (((first | apply Go.iQ | apply Go.gQ | apply Go.sQ | apply Qg.gQ); exact rfl; (first | exact .d | exact .e | exact .n | ((fail_if_success exact bqt); (fail_if_success exact bqf); exact .b))) <;> intro _)
  refine Go.keep [0, 3] (Go.loops (I := fun m fr τ => ∃ i : Nat, ∃ n : Int, m = xs.length - i ∧ i ≤ xs.length ∧ n = i ∧ areVals xs 16 = (decide ((xs.length : Int) ≤ 16) && (xs.drop i).all okVal) ∧
    fr = [(0, .c (.fz (xs.map encV))), (3, .c (.int .i64 n))] ∧ τ = E σ []) ?_ _ _ _ ⟨0, _, rfl, Nat.zero_le _, rfl, rfl, rfl, rfl⟩)
  rintro m fr τ ⟨i, n, rfl, hi, hn, hs, rfl, rfl⟩ hrec
  repeat' first | (apply Go.adm; exact rfl) | apply Go.qs | apply Qg.nil | ((first | apply Go.v2 | apply Go.v1); (first | exact leAdd | assumption); iterate 6 exact rfl) | ((first | apply Go.op | apply Go.sop | apply Qg.op); exact rfl; (first | exact aop_alloc | exact aop_new rfl rfl | exact aop_mksl rfl | exact aop_lenM rfl | exact rfl | exact aL rfl rfl rfl rfl rfl | exact aS rfl rfl rfl rfl rfl rfl rfl | exact aop_iaddrM (enc := encV) rfl rfl hn (by first | omega | (clear hrec; simp only [List.length_map] at *; omega)) rfl)) | ((first | apply Go.no | apply Go.sno | apply Qg.no); exact rfl) | ((first | apply Go.pcallB | apply Go.spcallB | apply Qg.pcallB); (iterate 3 exact rfl); exact sValOk_ok xs[i]; intro _ _) | (exfalso; omega) | (((first | apply Go.iQ | apply Go.gQ | apply Go.sQ | apply Qg.gQ); exact rfl; (first | exact .d | exact .e | exact .n | ((fail_if_success exact bqt); (fail_if_success exact bqf); exact .b))) <;> intro _)
  · refine .ret rfl (.bool ?_)
    rw [hs, List.drop_eq_getElem_cons (i := i) (by first | omega | (clear hrec; simp only [List.length_map] at *; omega)), List.all_cons]
    clear hrec
    simp_all
  · refine Go.keep [0, 3] (hrec _ _ _ (by first | omega | (clear hrec; simp only [List.length_map] at *; omega)) ⟨i + 1, _, rfl, (by first | omega | (clear hrec; simp only [List.length_map] at *; omega)), (wrap_succ hn (by omega)), ?_, rfl, rfl⟩)
    rw [hs, List.drop_eq_getElem_cons (i := i) (by first | omega | (clear hrec; simp only [List.length_map] at *; omega)), List.all_cons]
    clear hrec
    simp_all
  · refine .ret rfl (.bool ?_)
    rw [hs, List.drop_eq_nil_of_le (by first | omega | (clear hrec; simp only [List.length_map] at *; omega))]
    simp
theorem eqVal_ok (v w : Val) : Pure Try.prog 41 [.agg (encV v), .agg (encV w)] (.c (.bool (v == w))) := by
  refine Pure.run mixed c_laws_eqVal_ok (Nat.le_of_ble_eq_true rfl) fun σ hS hA => ?_
  clear hS hA
  repeat' first | (apply Go.adm; exact rfl) | apply Go.qs | apply Qg.nil | ((first | apply Go.v2 | apply Go.v1); (first | exact leAdd | assumption); iterate 6 exact rfl) | ((first | apply Go.op | apply Go.sop | apply Qg.op); exact rfl; (first | exact aop_alloc | exact aop_new rfl rfl | exact aop_mksl rfl | exact aop_lenM rfl | exact rfl | exact aL rfl rfl rfl rfl rfl | exact aS rfl rfl rfl rfl rfl rfl rfl)) | ((first | apply Go.no | apply Go.sno | apply Qg.no); exact rfl) | (exfalso; omega) | (((first | apply Go.iQ | apply Go.gQ | apply Go.sQ | apply Qg.gQ); exact rfl; (first | exact .d | exact .e | exact .n | ((fail_if_success exact bqt); (fail_if_success exact bqf); exact .b))) <;> intro _)
  all_goals refine .ret rfl (.bool ?_)
  all_goals obtain ⟨vk, vn, vs⟩ := v
  all_goals obtain ⟨wk, wn, ws⟩ := w
  all_goals simp_all
theorem eqValS_ok (xs ys : List Val) (hx : xs.length ≤ 34359738368) : Pure Try.prog 26 [.c (.fz (xs.map encV)), .c (.fz (ys.map encV))] (.c (.bool (xs == ys))) := by
  refine Pure.run mixed c_laws_eqValS_ok (Nat.le_of_ble_eq_true rfl) fun σ hS hA => ?_
  clear hS hA
  repeat' first | (apply Go.adm; exact rfl) | apply Go.qs | apply Qg.nil | ((first | apply Go.v2 | apply Go.v1); (first | exact leAdd | assumption); iterate 6 exact rfl) | ((first | apply Go.op | apply Go.sop | apply Qg.op); exact rfl; (first | exact aop_alloc | exact aop_new rfl rfl | exact aop_mksl rfl | exact aop_lenM rfl | exact rfl | exact aL rfl rfl rfl rfl rfl | exact aS rfl rfl rfl rfl rfl rfl rfl)) | ((first | apply Go.no | apply Go.sno | apply Qg.no); exact rfl) | (exfalso; omega) | (((first | apply Go.iQ | apply Go.gQ | apply Go.sQ | apply Qg.gQ); exact rfl; (first | exact .d | exact .e | exact .n | ((fail_if_success exact bqt); (fail_if_success exact bqf); exact .b))) <;> intro _)
  · refine .ret rfl (.bool ?_)
    rw [eq_comm, beq_eq_false_iff_ne]
    rintro rfl
    simp at *
  refine Go.keep [0, 1, 5] (Go.loops (I := fun m fr τ => ∃ i : Nat, ∃ n : Int, m = xs.length - i ∧ i ≤ xs.length ∧ n = i ∧ (xs.length = ys.length ∧ (xs == ys) = (xs.drop i == ys.drop i)) ∧
    fr = [(0, .c (.fz (xs.map encV))), (1, .c (.fz (ys.map encV))), (5, .c (.int .i64 n))] ∧ τ = E σ []) ?_ _ _ _ ⟨0, _, rfl, Nat.zero_le _, rfl, ⟨by omega, rfl⟩, rfl, rfl⟩)
  rintro m fr τ ⟨i, n, rfl, hi, hn, ⟨hl, hs⟩, rfl, rfl⟩ hrec
  repeat' first | (apply Go.adm; exact rfl) | apply Go.qs | apply Qg.nil | ((first | apply Go.v2 | apply Go.v1); (first | exact leAdd | assumption); iterate 6 exact rfl) | ((first | apply Go.op | apply Go.sop | apply Qg.op); exact rfl; (first | exact aop_alloc | exact aop_new rfl rfl | exact aop_mksl rfl | exact aop_lenM rfl | exact rfl | exact aL rfl rfl rfl rfl rfl | exact aS rfl rfl rfl rfl rfl rfl rfl | exact aop_iaddrM (enc := encV) rfl rfl hn (by first | omega | (clear hrec; simp only [List.length_map] at *; omega)) rfl)) | ((first | apply Go.no | apply Go.sno | apply Qg.no); exact rfl) | ((first | apply Go.pcallB | apply Go.spcallB | apply Qg.pcallB); (iterate 3 exact rfl); exact eqVal_ok xs[i] ys[i]; intro _ _) | (exfalso; omega) | (((first | apply Go.iQ | apply Go.gQ | apply Go.sQ | apply Qg.gQ); exact rfl; (first | exact .d | exact .e | exact .n | ((fail_if_success exact bqt); (fail_if_success exact bqf); exact .b))) <;> intro _)
  · refine .ret rfl (.bool ?_)
    rw [hs, List.drop_eq_getElem_cons (i := i) (by first | omega | (clear hrec; simp only [List.length_map] at *; omega)), List.drop_eq_getElem_cons (i := i) (by first | omega | (clear hrec; simp only [List.length_map] at *; omega)), List.cons_beq_cons]
    clear hrec
    simp_all
  · refine Go.keep [0, 1, 5] (hrec _ _ _ (by first | omega | (clear hrec; simp only [List.length_map] at *; omega)) ⟨i + 1, _, rfl, (by first | omega | (clear hrec; simp only [List.length_map] at *; omega)), (wrap_succ hn (by omega)), ⟨hl, ?_⟩, rfl, rfl⟩)
    rw [hs, List.drop_eq_getElem_cons (i := i) (by first | omega | (clear hrec; simp only [List.length_map] at *; omega)), List.drop_eq_getElem_cons (i := i) (by first | omega | (clear hrec; simp only [List.length_map] at *; omega)), List.cons_beq_cons]
    clear hrec
    simp_all
  · refine .ret rfl (.bool ?_)
    rw [hs, List.drop_eq_nil_of_le (by first | omega | (clear hrec; simp only [List.length_map] at *; omega)), List.drop_eq_nil_of_le (by first | omega | (clear hrec; simp only [List.length_map] at *; omega))]
    rfl
def orderOf : List Val → List Val → Int
  | v :: r, w :: s => if order v w = 0 then orderOf r s else order v w
  | _, _ => 0
theorem orderOf_ok (xs ys : List Val) (hx : xs.length ≤ 34359738368) (hl : xs.length = ys.length) : Pure Try.prog 39 [.c (.fz (xs.map encV)), .c (.fz (ys.map encV))] (.c (.int .i64 (orderOf xs ys))) := by
  refine Pure.run mixed c_impl_orderOf_ok (Nat.le_of_ble_eq_true rfl) fun σ hS hA => ?_
  clear hS hA
  repeat' first | (apply Go.adm; exact rfl) | apply Go.qs | apply Qg.nil | ((first | apply Go.v2 | apply Go.v1); (first | exact leAdd | assumption); iterate 6 exact rfl) | ((first | apply Go.op | apply Go.sop | apply Qg.op); exact rfl; (first | exact aop_alloc | exact aop_new rfl rfl | exact aop_mksl rfl | exact aop_lenM rfl | exact rfl | exact aL rfl rfl rfl rfl rfl | exact aS rfl rfl rfl rfl rfl rfl rfl)) | ((first | apply Go.no | apply Go.sno | apply Qg.no); exact rfl) | (exfalso; omega) | (((first | apply Go.iQ | apply Go.gQ | apply Go.sQ | apply Qg.gQ); exact rfl; (first | exact .d | exact .e | exact .n | ((fail_if_success exact bqt); (fail_if_success exact bqf); exact .b))) <;> intro _)
  refine Go.keep [1, 8, 9, 10] (Go.loops (I := fun m fr τ => ∃ i : Nat, ∃ n L : Int, m = xs.length - i ∧ i ≤ xs.length ∧ n = i ∧ L = xs.length ∧ orderOf xs ys = orderOf (xs.drop i) (ys.drop i) ∧
    fr = [(1, .c (.fz (ys.map encV))), (8, .c (.fz (xs.map encV))), (9, .c (.int .i64 L)), (10, .c (.int .i64 n))] ∧ τ = E σ []) ?_ _ _ _ ⟨0, _, _, rfl, Nat.zero_le _, rfl, by simp, rfl, rfl, rfl⟩)
  rintro m fr τ ⟨i, n, L, rfl, hi, hn, hL, hs, rfl, rfl⟩ hrec
  repeat' first | (apply Go.adm; exact rfl) | apply Go.qs | apply Qg.nil | ((first | apply Go.v2 | apply Go.v1); (first | exact leAdd | assumption); iterate 6 exact rfl) | ((first | apply Go.op | apply Go.sop | apply Qg.op); exact rfl; (first | exact aop_alloc | exact aop_new rfl rfl | exact aop_mksl rfl | exact aop_lenM rfl | exact rfl | exact aL rfl rfl rfl rfl rfl | exact aS rfl rfl rfl rfl rfl rfl rfl | exact aop_iaddrM (enc := encV) rfl rfl hn (by first | omega | (clear hrec; simp only [List.length_map] at *; omega)) rfl)) | ((first | apply Go.no | apply Go.sno | apply Qg.no); exact rfl) | ((first | apply Go.pcallI | apply Go.spcallI | apply Qg.pcallI); (iterate 3 exact rfl); exact order_ok xs[i] ys[i]; intro _ _) | (exfalso; omega) | (((first | apply Go.iQ | apply Go.gQ | apply Go.sQ | apply Qg.gQ); exact rfl; (first | exact .d | exact .e | exact .n | ((fail_if_success exact bqt); (fail_if_success exact bqf); exact .b))) <;> intro _)
  · refine .ret rfl (.int ?_)
    rw [hs, List.drop_eq_getElem_cons (i := i) (by first | omega | (clear hrec; simp only [List.length_map] at *; omega)), List.drop_eq_getElem_cons (i := i) (by first | omega | (clear hrec; simp only [List.length_map] at *; omega))]
    simp only [orderOf]
    clear hrec
    simp_all [orderOf]
  · refine Go.keep [1, 8, 9, 10] (hrec _ _ _ (by first | omega | (clear hrec; simp only [List.length_map] at *; omega)) ⟨i + 1, _, _, rfl, (by first | omega | (clear hrec; simp only [List.length_map] at *; omega)), (wrap_succ hn (by omega)), hL, ?_, rfl, rfl⟩)
    rw [hs, List.drop_eq_getElem_cons (i := i) (by first | omega | (clear hrec; simp only [List.length_map] at *; omega)), List.drop_eq_getElem_cons (i := i) (by first | omega | (clear hrec; simp only [List.length_map] at *; omega))]
    simp only [orderOf]
    clear hrec
    simp_all [orderOf]
  · refine .ret rfl (.int ?_)
    rw [hs, List.drop_eq_nil_of_le (by first | omega | (clear hrec; simp only [List.length_map] at *; omega)), List.drop_eq_nil_of_le (by first | omega | (clear hrec; simp only [List.length_map] at *; omega))]
    rfl
end Go.Proofs.Ytcfpdongfdhgjaa.Am

/- Entries: contracts of the functions that read them. -/
set_option linter.unusedVariables false
set_option linter.unusedSimpArgs false
namespace Go.Proofs.Ytcfpdongfdhgjaa.Am

structure Entry where
  key : List Val
  id : Int
  deriving DecidableEq
def encE (e : Entry) : List Ce := [.fz (e.key.map encV), .int .i64 e.id]
def entOrd (e f : Entry) : Int := orI [orderOf e.key f.key, cmpI e.id f.id]
theorem entryOrder_ok (e f : Entry) (hx : e.key.length ≤ 34359738368) (hl : e.key.length = f.key.length) : Pure Try.prog 25 [.agg (encE e), .agg (encE f)] (.c (.int .i64 (entOrd e f))) := by
  refine Pure.run mixed c_impl_entryOrder_ok (Nat.le_of_ble_eq_true rfl) fun σ hS hA => ?_
  clear hS hA
  repeat' first | (apply Go.adm; exact rfl) | apply Go.qs | apply Qg.nil | ((first | apply Go.v2 | apply Go.v1); (first | exact leAdd | assumption); iterate 6 exact rfl) | ((first | apply Go.op | apply Go.sop | apply Qg.op); exact rfl; (first | exact aop_alloc | exact aop_new rfl rfl | exact aop_mksl rfl | exact aop_lenM rfl | exact rfl | exact aL rfl rfl rfl rfl rfl | exact aS rfl rfl rfl rfl rfl rfl rfl)) | ((first | apply Go.no | apply Go.sno | apply Qg.no); exact rfl) | ((first | apply Go.pcall | apply Go.spcall | apply Qg.pcall); (iterate 3 exact rfl); (first | exact orderOf_ok _ _ hx hl | exact Compare_ok _ _ | exact Or_ok [orderOf e.key f.key, cmpI e.id f.id] (by simp))) | (exfalso; omega) | (((first | apply Go.iQ | apply Go.gQ | apply Go.sQ | apply Qg.gQ); exact rfl; (first | exact .d | exact .e | exact .n | ((fail_if_success exact bqt); (fail_if_success exact bqf); exact .b))) <;> intro _)
  exact .ret rfl (.int rfl)
def lessK : List Val → List Val → Int → Int → Bool
  | v :: r, w :: s, a, b => if l1Ord v w = 0 then lessK r s a b else decide (l1Ord v w < 0)
  | _, _, a, b => decide (a < b)
theorem lessK_end {xs ys : List Val} {a b : Int} (h : xs = [] ∨ ys = []) : lessK xs ys a b = decide (a < b) := by
  rcases h with rfl | rfl
  · rfl
  · cases xs <;> rfl
theorem l11Less_ok (e f : Entry) (hx : e.key.length ≤ 34359738368) : Pure Try.prog 32 [.agg (encE e), .agg (encE f)] (.c (.bool (lessK e.key f.key e.id f.id))) := by
  refine Pure.run mixed c_spec_l11Less_ok (Nat.le_of_ble_eq_true rfl) fun σ hS hA => ?_
  clear hS hA
  repeat' first | (apply Go.adm; exact rfl) | apply Go.qs | apply Qg.nil | ((first | apply Go.v2 | apply Go.v1); (first | exact leAdd | assumption); iterate 6 exact rfl) | ((first | apply Go.op | apply Go.sop | apply Qg.op); exact rfl; (first | exact aop_alloc | exact aop_new rfl rfl | exact aop_mksl rfl | exact aop_lenM rfl | exact rfl | exact aL rfl rfl rfl rfl rfl | exact aS rfl rfl rfl rfl rfl rfl rfl)) | ((first | apply Go.no | apply Go.sno | apply Qg.no); exact rfl) | (exfalso; omega) | (((first | apply Go.iQ | apply Go.gQ | apply Go.sQ | apply Qg.gQ); exact rfl; (first | exact .d | exact .e | exact .n | ((fail_if_success exact bqt); (fail_if_success exact bqf); exact .b))) <;> intro _)
  refine Go.keep [2, 3, 5] (Go.loops (I := fun m fr τ => ∃ i : Nat, ∃ n : Int, m = e.key.length - i ∧ i ≤ e.key.length ∧ n = i ∧ lessK e.key f.key e.id f.id = lessK (e.key.drop i) (f.key.drop i) e.id f.id ∧
    fr = [(2, .c (.fp (encE e))), (3, .c (.fp (encE f))), (5, .c (.int .i64 n))] ∧ τ = E σ []) ?_ _ _ _ ⟨0, _, rfl, Nat.zero_le _, rfl, rfl, rfl, rfl⟩)
  rintro m fr τ ⟨i, n, rfl, hi, hn, hs, rfl, rfl⟩ hrec
  repeat' first | (apply Go.adm; exact rfl) | apply Go.qs | apply Qg.nil | ((first | apply Go.v2 | apply Go.v1); (first | exact leAdd | assumption); iterate 6 exact rfl) | ((first | apply Go.op | apply Go.sop | apply Qg.op); exact rfl; (first | exact aop_alloc | exact aop_new rfl rfl | exact aop_mksl rfl | exact aop_lenM rfl | exact rfl | exact aL rfl rfl rfl rfl rfl | exact aS rfl rfl rfl rfl rfl rfl rfl | exact aop_iaddrM (enc := encV) rfl rfl hn (by first | omega | (clear hrec; simp only [List.length_map] at *; omega)) rfl)) | ((first | apply Go.no | apply Go.sno | apply Qg.no); exact rfl) | ((first | apply Go.pcallI | apply Go.spcallI | apply Qg.pcallI); (iterate 3 exact rfl); exact l1Order_ok e.key[i] f.key[i]; intro _ _) | (exfalso; omega) | (((first | apply Go.iQ | apply Go.gQ | apply Go.sQ | apply Qg.gQ); exact rfl; (first | exact .d | exact .e | exact .n | ((fail_if_success exact bqt); (fail_if_success exact bqf); exact .b))) <;> intro _)
  · refine .ret rfl (.bool ?_)
    rw [hs, List.drop_eq_getElem_cons (i := i) (by first | omega | (clear hrec; simp only [List.length_map] at *; omega)), List.drop_eq_getElem_cons (i := i) (by first | omega | (clear hrec; simp only [List.length_map] at *; omega))]
    simp only [lessK]
    clear hrec
    simp_all
  · refine Go.keep [2, 3, 5] (hrec _ _ _ (by first | omega | (clear hrec; simp only [List.length_map] at *; omega)) ⟨i + 1, _, rfl, (by first | omega | (clear hrec; simp only [List.length_map] at *; omega)), (wrap_succ hn (by omega)), ?_, rfl, rfl⟩)
    rw [hs, List.drop_eq_getElem_cons (i := i) (by first | omega | (clear hrec; simp only [List.length_map] at *; omega)), List.drop_eq_getElem_cons (i := i) (by first | omega | (clear hrec; simp only [List.length_map] at *; omega))]
    simp only [lessK]
    clear hrec
    simp_all
  · refine .ret rfl (.bool ?_)
    rw [hs, lessK_end]
    rw [List.drop_eq_nil_iff, List.drop_eq_nil_iff]
    omega
  · refine .ret rfl (.bool ?_)
    rw [hs, lessK_end]
    rw [List.drop_eq_nil_iff, List.drop_eq_nil_iff]
    omega
end Go.Proofs.Ytcfpdongfdhgjaa.Am

/- Entries: which lists of them are right. -/
set_option linter.unusedVariables false
set_option linter.unusedSimpArgs false
namespace Go.Proofs.Ytcfpdongfdhgjaa.Am

def risen (p : Option Entry) (e : Entry) : Bool := match p with | none => true | some q => decide (entOrd q e < 0)
def okOne (n0 : Nat) (p : Option Entry) (e : Entry) : Bool := decide (0 < e.key.length) && decide (e.key.length = n0) && areVals e.key 16 && isIn e.id 1 1000000000 && risen p e
def okRest (n0 : Nat) : Option Entry → List Entry → Bool
  | _, [] => true
  | p, e :: r => okOne n0 p e && okRest n0 (some e) r
theorem okRest_cons {n0 : Nat} {p : Option Entry} {e : Entry} {r : List Entry} : okRest n0 p (e :: r) = (okOne n0 p e && okRest n0 (some e) r) := by cases p <;> rfl
def okEnts (l : List Entry) : Bool := okRest (match l with | [] => 0 | e :: _ => e.key.length) none l && decide ((l.length : Int) ≤ 120)
def headLen (l : List Entry) : Nat := match l with | [] => 0 | e :: _ => e.key.length
theorem headLen_eq {l : List Entry} (h : 0 < l.length) : headLen l = l[0].key.length := by
  cases l with
  | nil => simp at h
  | cons e r => rfl

theorem okOne_of {n0 : Nat} {p : Option Entry} {e : Entry} (h1 : 0 < e.key.length) (h2 : e.key.length = n0) (h3 : areVals e.key 16 = true) (h4 : isIn e.id 1 1000000000 = true) (h5 : risen p e = true) : okOne n0 p e = true := by
  simp [okOne, h2, h3, h4, h5]
  omega

theorem areEntries_ok (l : List Entry) (hx : l.length ≤ 34359738368) (hk : ∀ e ∈ l, e.key.length ≤ 34359738368) : Pure Try.prog 21 [.c (.fz (l.map encE))] (.c (.bool (okEnts l))) := by
  refine Pure.run mixed c_impl_areEntries_ok (Nat.le_of_ble_eq_true rfl) fun σ hS hA => ?_
  clear hS hA
  repeat' first | (apply Go.adm; exact rfl) | apply Go.qs | apply Qg.nil | ((first | apply Go.v2 | apply Go.v1); (first | exact leAdd | assumption); iterate 6 exact rfl) | ((first | apply Go.op | apply Go.sop | apply Qg.op); exact rfl; (first | exact aop_alloc | exact aop_new rfl rfl | exact aop_mksl rfl | exact aop_lenM rfl | exact rfl | exact aL rfl rfl rfl rfl rfl | exact aS rfl rfl rfl rfl rfl rfl rfl)) | ((first | apply Go.no | apply Go.sno | apply Qg.no); exact rfl) | (exfalso; omega) | (((first | apply Go.iQ | apply Go.gQ | apply Go.sQ | apply Qg.gQ); exact rfl; (first | exact .d | exact .e | exact .n | ((fail_if_success exact bqt); (fail_if_success exact bqf); exact .b))) <;> intro _)
  refine Go.keep [0, 5, 6, 7] (Go.loops (I := fun m fr τ => ∃ i : Nat, ∃ n L : Int, m = l.length - i ∧ i ≤ l.length ∧ n = i ∧ L = l.length ∧
    (∃ p : Option Entry, okEnts l = (okRest (headLen l) p (l.drop i) && decide ((l.length : Int) ≤ 120)) ∧ ((i = 0 ∧ p = none) ∨ ∃ j, ∃ hj : j < l.length, i = j + 1 ∧ p = some l[j] ∧ l[j].key.length = headLen l)) ∧
    fr = [(0, .c (.fz (l.map encE))), (5, .c (.fz (l.map encE))), (6, .c (.int .i64 L)), (7, .c (.int .i64 n))] ∧ τ = E σ []) ?_ _ _ _ ⟨0, _, _, rfl, Nat.zero_le _, rfl, rfl, ⟨none, rfl, .inl ⟨rfl, rfl⟩⟩, rfl, rfl⟩)
  rintro m fr τ ⟨i, n, L, rfl, hi, hn, hL, ⟨p, hs, hp⟩, rfl, rfl⟩ hrec
  by_cases hlt : i < l.length
  · have hki := hk _ (List.getElem_mem hlt)
    have hh := headLen_eq (show 0 < l.length by omega)
    rw [List.drop_eq_getElem_cons hlt, okRest_cons] at hs
    rcases hp with ⟨rfl, rfl⟩ | ⟨j, hj, rfl, rfl, hjk⟩
    · repeat' first | (apply Go.adm; exact rfl) | apply Go.qs | apply Qg.nil | ((first | apply Go.v2 | apply Go.v1); (first | exact leAdd | assumption); iterate 6 exact rfl) | ((first | apply Go.op | apply Go.sop | apply Qg.op); exact rfl; (first | exact aop_alloc | exact aop_new rfl rfl | exact aop_mksl rfl | exact aop_lenM rfl | exact rfl | exact aL rfl rfl rfl rfl rfl | exact aS rfl rfl rfl rfl rfl rfl rfl | exact aop_iaddrM (enc := encE) rfl rfl hn hlt rfl | exact aop_iaddrM (enc := encE) (n := 0) rfl rfl rfl (by first | omega | (clear hrec; simp only [List.length_map] at *; omega)) rfl)) | ((first | apply Go.no | apply Go.sno | apply Qg.no); exact rfl) | ((first | apply Go.pcallB | apply Go.spcallB | apply Qg.pcallB); (iterate 3 exact rfl); (first | exact areVals_ok l[0].key 16 (by decide) hki | exact in_ok _ _ _); intro _ _) | (exfalso; omega) | (((first | apply Go.iQ | apply Go.gQ | apply Go.sQ | apply Qg.gQ); exact rfl; (first | exact .d | exact .e | exact .n | ((fail_if_success exact bqt); (fail_if_success exact bqf); exact .b))) <;> intro _)
      all_goals first
        | (refine .ret rfl (.bool ?_); clear hrec; rw [hs]; clear hs hk; (simp_all [okOne, risen] <;> intros <;> omega); done)
        | (refine Go.keep [0, 5, 6, 7] (hrec _ _ _ (by first | omega | (clear hrec; simp only [List.length_map] at *; omega)) ⟨0 + 1, _, _, rfl, (by first | omega | (clear hrec; simp only [List.length_map] at *; omega)), (wrap_succ hn (by omega)), hL, ⟨some l[0], ?_, .inr ⟨0, hlt, rfl, rfl, hh.symm⟩⟩, rfl, rfl⟩); clear hrec; rw [hs, okOne_of (by omega) (by omega) (by simp_all) (by simp_all) (by simp_all [risen]), Bool.true_and])
    · have hkj := hk _ (List.getElem_mem hj)
      repeat' first | (apply Go.adm; exact rfl) | apply Go.qs | apply Qg.nil | ((first | apply Go.v2 | apply Go.v1); (first | exact leAdd | assumption); iterate 6 exact rfl) | ((first | apply Go.op | apply Go.sop | apply Qg.op); exact rfl; (first | exact aop_alloc | exact aop_new rfl rfl | exact aop_mksl rfl | exact aop_lenM rfl | exact rfl | exact aL rfl rfl rfl rfl rfl | exact aS rfl rfl rfl rfl rfl rfl rfl | exact aop_iaddrM (enc := encE) rfl rfl hn hlt rfl | exact aop_iaddrM (enc := encE) (n := 0) rfl rfl rfl (by first | omega | (clear hrec; simp only [List.length_map] at *; omega)) rfl | exact aop_iaddrM (enc := encE) rfl rfl (wrap_pred hn (by first | omega | (clear hrec; simp only [List.length_map] at *; omega))) hj rfl)) | ((first | apply Go.no | apply Go.sno | apply Qg.no); exact rfl) | ((first | apply Go.pcallB | apply Go.spcallB | apply Qg.pcallB); (iterate 3 exact rfl); (first | exact areVals_ok l[j+1].key 16 (by decide) hki | exact in_ok _ _ _); intro _ _) | ((first | apply Go.pcallI | apply Go.spcallI | apply Qg.pcallI); (iterate 3 exact rfl); exact entryOrder_ok l[j] l[j+1] hkj (by omega); intro _ _) | (exfalso; omega) | (((first | apply Go.iQ | apply Go.gQ | apply Go.sQ | apply Qg.gQ); exact rfl; (first | exact .d | exact .e | exact .n | ((fail_if_success exact bqt); (fail_if_success exact bqf); exact .b))) <;> intro _)
      all_goals first
        | (refine .ret rfl (.bool ?_); clear hrec; rw [hs]; clear hs hk; (simp_all [okOne, risen] <;> intros <;> omega); done)
        | (refine Go.keep [0, 5, 6, 7] (hrec _ _ _ (by first | omega | (clear hrec; simp only [List.length_map] at *; omega)) ⟨j + 1 + 1, _, _, rfl, (by first | omega | (clear hrec; simp only [List.length_map] at *; omega)), (wrap_succ hn (by omega)), hL, ⟨some l[j + 1], ?_, .inr ⟨j + 1, hlt, rfl, rfl, by omega⟩⟩, rfl, rfl⟩); clear hrec; rw [hs, okOne_of (by omega) (by omega) (by simp_all) (by simp_all) (by simp_all [risen]), Bool.true_and])
        | (refine .ret rfl (.bool ?_); clear hrec; rw [hs]; clear hs hk hjk; (simp_all [okOne, risen] <;> intros <;> omega); done)
  · repeat' first | (apply Go.adm; exact rfl) | apply Go.qs | apply Qg.nil | ((first | apply Go.v2 | apply Go.v1); (first | exact leAdd | assumption); iterate 6 exact rfl) | ((first | apply Go.op | apply Go.sop | apply Qg.op); exact rfl; (first | exact aop_alloc | exact aop_new rfl rfl | exact aop_mksl rfl | exact aop_lenM rfl | exact rfl | exact aL rfl rfl rfl rfl rfl | exact aS rfl rfl rfl rfl rfl rfl rfl)) | ((first | apply Go.no | apply Go.sno | apply Qg.no); exact rfl) | (exfalso; omega) | (((first | apply Go.iQ | apply Go.gQ | apply Go.sQ | apply Qg.gQ); exact rfl; (first | exact .d | exact .e | exact .n | ((fail_if_success exact bqt); (fail_if_success exact bqf); exact .b))) <;> intro _)
    refine .ret rfl (.bool ?_)
    rw [hs, List.drop_eq_nil_of_le (by omega)]
    simp [okRest]

theorem bytesLt_irrefl (a : List UInt8) : bytesLt a a = false := by
  induction a with
  | nil => rfl
  | cons x r ih => simp_all [bytesLt, Op.bytesLess]
theorem l1Ord_order {v w : Val} (hv : okVal v = true) (hw : okVal w = true) : l1Ord v w = order v w := by
  obtain ⟨a, b, s⟩ := v
  obtain ⟨c, d, t⟩ := w
  simp only [okVal, isIn, Bool.or_eq_true, Bool.and_eq_true, beq_iff_eq, decide_eq_true_eq] at hv hw
  simp only [l1Ord, order, orI, cmpI, cmpS, Val.mk.injEq]
  rcases hv with (⟨⟨rfl, rfl⟩, rfl⟩ | ⟨⟨rfl, hb⟩, rfl⟩) | ⟨⟨rfl, rfl⟩, hs⟩ <;> rcases hw with (⟨⟨rfl, rfl⟩, rfl⟩ | ⟨⟨rfl, hd⟩, rfl⟩) | ⟨⟨rfl, rfl⟩, ht⟩ <;> simp [bytesLt_irrefl]
  · by_cases h1 : b < d
    · simp [h1]
    · by_cases h2 : d < b
      · have : ¬ b = d := by omega
        simp [h1, h2, this]
      · have : b = d := by omega
        subst this
        simp
theorem areVals_head {v : Val} {r : List Val} {m : Int} (h : areVals (v :: r) m = true) : okVal v = true ∧ areVals r m = true := by
  simp only [areVals, List.all_cons, Bool.and_eq_true, decide_eq_true_eq, List.length_cons] at h ⊢
  exact ⟨h.2.1, by omega, h.2.2⟩
theorem lessK_order : ∀ {xs ys : List Val} {a b : Int}, areVals xs 16 = true → areVals ys 16 = true → xs.length = ys.length → lessK xs ys a b = decide (orI [orderOf xs ys, cmpI a b] < 0)
  | [], [], a, b, _, _, _ => by
    simp only [lessK, orderOf, orI, cmpI]
    by_cases h : a < b
    · simp [h]
    · by_cases h2 : b < a
      · simp [h, h2]
      · simp [h, h2]
  | v :: r, w :: s, a, b, hv, hw, hl => by
    obtain ⟨h1, h2⟩ := areVals_head hv
    obtain ⟨h3, h4⟩ := areVals_head hw
    have ih := lessK_order (a := a) (b := b) h2 h4 (by simpa using hl)
    simp only [lessK, orderOf, l1Ord_order h1 h3]
    by_cases h : order v w = 0
    · simp [h, ih]
    · simp [h, orI]

theorem risen_less {q e : Entry} (h1 : areVals q.key 16 = true) (h2 : areVals e.key 16 = true) (h3 : q.key.length = e.key.length) : risen (some q) e = lessK q.key e.key q.id e.id := (lessK_order h1 h2 h3).symm
theorem l11Right_ok (l : List Entry) (hx : l.length ≤ 34359738368) (hk : ∀ e ∈ l, e.key.length ≤ 34359738368) : Pure Try.prog 16 [.c (.fz (l.map encE))] (.c (.bool (okEnts l))) := by
  refine Pure.run mixed c_spec_l11Right_ok (Nat.le_of_ble_eq_true rfl) fun σ hS hA => ?_
  clear hS hA
  repeat' first | (apply Go.adm; exact rfl) | apply Go.qs | apply Qg.nil | ((first | apply Go.v2 | apply Go.v1); (first | exact leAdd | assumption); iterate 6 exact rfl) | ((first | apply Go.op | apply Go.sop | apply Qg.op); exact rfl; (first | exact aop_alloc | exact aop_new rfl rfl | exact aop_mksl rfl | exact aop_lenM rfl | exact rfl | exact aL rfl rfl rfl rfl rfl | exact aS rfl rfl rfl rfl rfl rfl rfl)) | ((first | apply Go.no | apply Go.sno | apply Qg.no); exact rfl) | (exfalso; omega) | (((first | apply Go.iQ | apply Go.gQ | apply Go.sQ | apply Qg.gQ); exact rfl; (first | exact .d | exact .e | exact .n | ((fail_if_success exact bqt); (fail_if_success exact bqf); exact .b))) <;> intro _)
  refine Go.keep [0, 3] (Go.loops (I := fun m fr τ => ∃ i : Nat, ∃ n : Int, m = l.length - i ∧ i ≤ l.length ∧ n = i ∧
    (∃ p : Option Entry, okEnts l = (okRest (headLen l) p (l.drop i) && decide ((l.length : Int) ≤ 120)) ∧ ((i = 0 ∧ p = none) ∨ ∃ j, ∃ hj : j < l.length, i = j + 1 ∧ p = some l[j] ∧ l[j].key.length = headLen l ∧ areVals l[j].key 16 = true)) ∧
    fr = [(0, .c (.fz (l.map encE))), (3, .c (.int .i64 n))] ∧ τ = E σ []) ?_ _ _ _ ⟨0, _, rfl, Nat.zero_le _, rfl, ⟨none, rfl, .inl ⟨rfl, rfl⟩⟩, rfl, rfl⟩)
  rintro m fr τ ⟨i, n, rfl, hi, hn, ⟨p, hs, hp⟩, rfl, rfl⟩ hrec
  by_cases hlt : i < l.length
  · have hki := hk _ (List.getElem_mem hlt)
    have hh := headLen_eq (show 0 < l.length by omega)
    rw [List.drop_eq_getElem_cons hlt, okRest_cons] at hs
    rcases hp with ⟨rfl, rfl⟩ | ⟨j, hj, rfl, rfl, hjk, hjv⟩
    · repeat' first | (apply Go.adm; exact rfl) | apply Go.qs | apply Qg.nil | ((first | apply Go.v2 | apply Go.v1); (first | exact leAdd | assumption); iterate 6 exact rfl) | ((first | apply Go.op | apply Go.sop | apply Qg.op); exact rfl; (first | exact aop_alloc | exact aop_new rfl rfl | exact aop_mksl rfl | exact aop_lenM rfl | exact rfl | exact aL rfl rfl rfl rfl rfl | exact aS rfl rfl rfl rfl rfl rfl rfl | exact aop_iaddrM (enc := encE) rfl rfl hn hlt rfl | exact aop_iaddrM (enc := encE) (n := 0) rfl rfl rfl (by first | omega | (clear hrec; simp only [List.length_map] at *; omega)) rfl)) | ((first | apply Go.no | apply Go.sno | apply Qg.no); exact rfl) | ((first | apply Go.pcallB | apply Go.spcallB | apply Qg.pcallB); (iterate 3 exact rfl); (first | exact l2Vals_ok l[0].key hki | exact l1In_ok _ _ _); intro _ _) | (exfalso; omega) | (((first | apply Go.iQ | apply Go.gQ | apply Go.sQ | apply Qg.gQ); exact rfl; (first | exact .d | exact .e | exact .n | ((fail_if_success exact bqt); (fail_if_success exact bqf); exact .b))) <;> intro _)
      all_goals first
        | (refine .ret rfl (.bool ?_); clear hrec; rw [hs]; clear hs hk; (simp_all [okOne, risen] <;> intros <;> omega); done)
        | (refine Go.keep [0, 3] (hrec _ _ _ (by first | omega | (clear hrec; simp only [List.length_map] at *; omega)) ⟨0 + 1, _, rfl, (by first | omega | (clear hrec; simp only [List.length_map] at *; omega)), (wrap_succ hn (by omega)), ⟨some l[0], ?_, .inr ⟨0, hlt, rfl, rfl, hh.symm, by simp_all⟩⟩, rfl, rfl⟩); clear hrec; rw [hs, okOne_of (by omega) (by omega) (by simp_all) (by simp_all) (by simp_all [risen]), Bool.true_and])
    · have hkj := hk _ (List.getElem_mem hj)
      repeat' first | (apply Go.adm; exact rfl) | apply Go.qs | apply Qg.nil | ((first | apply Go.v2 | apply Go.v1); (first | exact leAdd | assumption); iterate 6 exact rfl) | ((first | apply Go.op | apply Go.sop | apply Qg.op); exact rfl; (first | exact aop_alloc | exact aop_new rfl rfl | exact aop_mksl rfl | exact aop_lenM rfl | exact rfl | exact aL rfl rfl rfl rfl rfl | exact aS rfl rfl rfl rfl rfl rfl rfl | exact aop_iaddrM (enc := encE) rfl rfl hn hlt rfl | exact aop_iaddrM (enc := encE) (n := 0) rfl rfl rfl (by first | omega | (clear hrec; simp only [List.length_map] at *; omega)) rfl | exact aop_iaddrM (enc := encE) rfl rfl (wrap_pred hn (by first | omega | (clear hrec; simp only [List.length_map] at *; omega))) hj rfl)) | ((first | apply Go.no | apply Go.sno | apply Qg.no); exact rfl) | ((first | apply Go.pcallB | apply Go.spcallB | apply Qg.pcallB); (iterate 3 exact rfl); (first | exact l2Vals_ok l[j+1].key hki | exact l1In_ok _ _ _ | exact l11Less_ok l[j] l[j+1] hkj); intro _ _) | (exfalso; omega) | (((first | apply Go.iQ | apply Go.gQ | apply Go.sQ | apply Qg.gQ); exact rfl; (first | exact .d | exact .e | exact .n | ((fail_if_success exact bqt); (fail_if_success exact bqf); exact .b))) <;> intro _)
      all_goals first
        | (refine .ret rfl (.bool ?_); clear hrec; rw [hs]; clear hs hk; (simp_all [okOne, risen] <;> intros <;> omega); done)
        | (refine .ret rfl (.bool ?_); clear hrec; rw [hs]; clear hs hk hjk; (simp_all [okOne, risen] <;> intros <;> omega); done)
        | (refine .ret rfl (.bool ?_); clear hrec; rw [hs]; clear hs hk; have hq := risen_less (q := l[j]) (e := l[j + 1]) hjv (by (try clear hs); simp_all) (by omega); (simp_all [okOne] <;> intros <;> omega); done)
        | (refine Go.keep [0, 3] (hrec _ _ _ (by first | omega | (clear hrec; simp only [List.length_map] at *; omega)) ⟨j + 1 + 1, _, rfl, (by first | omega | (clear hrec; simp only [List.length_map] at *; omega)), (wrap_succ hn (by omega)), ⟨some l[j + 1], ?_, .inr ⟨j + 1, hlt, rfl, rfl, by omega, by simp_all⟩⟩, rfl, rfl⟩); clear hrec; have hq := risen_less (q := l[j]) (e := l[j + 1]) hjv (by (try clear hs); simp_all) (by omega); rw [hs, okOne_of (by omega) (by omega) (by simp_all) (by simp_all) (by rw [hq]; simp_all), Bool.true_and])
  · repeat' first | (apply Go.adm; exact rfl) | apply Go.qs | apply Qg.nil | ((first | apply Go.v2 | apply Go.v1); (first | exact leAdd | assumption); iterate 6 exact rfl) | ((first | apply Go.op | apply Go.sop | apply Qg.op); exact rfl; (first | exact aop_alloc | exact aop_new rfl rfl | exact aop_mksl rfl | exact aop_lenM rfl | exact rfl | exact aL rfl rfl rfl rfl rfl | exact aS rfl rfl rfl rfl rfl rfl rfl)) | ((first | apply Go.no | apply Go.sno | apply Qg.no); exact rfl) | (exfalso; omega) | (((first | apply Go.iQ | apply Go.gQ | apply Go.sQ | apply Qg.gQ); exact rfl; (first | exact .d | exact .e | exact .n | ((fail_if_success exact bqt); (fail_if_success exact bqf); exact .b))) <;> intro _)
    refine .ret rfl (.bool ?_)
    rw [hs, List.drop_eq_nil_of_le (by omega)]
    simp [okRest]
end Go.Proofs.Ytcfpdongfdhgjaa.Am

/- Range: the program's and the reference's. -/
set_option linter.unusedVariables false
set_option linter.unusedSimpArgs false
namespace Go.Proofs.Ytcfpdongfdhgjaa.Am

theorem bytesLt_cases : ∀ (a b : List UInt8), bytesLt b a = (!bytesLt a b && !(a == b))
  | [], [] => rfl
  | [], _ :: _ => rfl
  | _ :: _, [] => rfl
  | x :: r, y :: s => by
    have ih := bytesLt_cases r s
    simp only [bytesLt] at ih
    simp only [bytesLt, Op.bytesLess, ih, List.cons_beq_cons]
    by_cases h : x = y
    · subst h
      simp [UInt8.lt_irrefl]
    · have h' : ¬ y = x := fun e => h e.symm
      simp only [beq_eq_false_iff_ne.2 h, beq_eq_false_iff_ne.2 h', Bool.false_and, Bool.or_false, Bool.not_false, Bool.and_true]
      rcases UInt8.lt_or_lt_of_ne h with h1 | h1
      · have h2 : ¬ y < x := UInt8.lt_asymm h1
        simp [h1, h2]
      · have h2 : ¬ x < y := UInt8.lt_asymm h1
        simp [h1, h2]
end Go.Proofs.Ytcfpdongfdhgjaa.Am

/- The abstract machine, part 23: owned trees. -/
set_option linter.unusedVariables false
set_option linter.unusedSimpArgs false
namespace Go.Proofs.Ytcfpdongfdhgjaa.Am
open Go.RowKit

theorem Flat.old {x : Ce} (h : Flat x) (n : Nat) : Old n x := by
  cases h with
  | int k m => exact .int k m
  | bool b => exact .bool b
  | str s => exact .str s
  | nilp => exact .nilp
  | nils => exact .nils
  | nilf => exact .nilf
  | emp => exact .emp
  | any => exact .any
theorem Flat.move {C D : Cx} {x : Ce} (h : Flat x) {v : Value} (hx : Rp C x v) : Rp D x v := by
  cases h <;> cases hx <;> constructor <;> assumption
/-- A cell that leads nowhere, or to blocks from n on. -/
inductive Tidy (n : Nat) : Ce → Prop where
  | flat {x : Ce} (h : Flat x) : Tidy n x
  | sl (id v i m c : Nat) (h : n ≤ id) : Tidy n (.sl id v i m c)
  | ptr (id v i j : Nat) (h : n ≤ id) : Tidy n (.ptr id v i j)
def TidyL (n : Nat) (l : List (Nat × List (List Ce))) : Prop := ∀ b ∈ l, ∀ e ∈ b.2, ∀ x ∈ e, Tidy n x
/-- x is, in a store, a tree of owned slices that reads as y; S holds its blocks. -/
inductive Has (σ : Store) : (Nat → Prop) → Ce → Ce → Prop where
  | c {S : Nat → Prop} {x : Ce} (h : Flat x) : Has σ S x x
  | nil {S : Nat → Prop} : Has σ S (.fz []) .nils
  | o {S : Nat → Prop} (ys : List (List Ce)) (id v s : Nat) (cs junk : List (List Ce)) (T : Nat → Nat → Nat → Prop) (hg : σ.get id = some (v, cs ++ junk)) (hS : S id) (hl : cs.length = ys.length)
      (hs : ∀ i (hi : i < ys.length), (cs[i]'(by omega)).length = ys[i].length) (hall : ∀ e ∈ cs ++ junk, e.length = s) (hj : ∀ e ∈ junk, ∀ x ∈ e, Flat x)
      (hT : ∀ i j a, T i j a → S a ∧ a ≠ id) (hd : ∀ i j i' j' a, T i j a → T i' j' a → i = i' ∧ j = j')
      (h : ∀ i j (hi : i < ys.length) (hj : j < ys[i].length), Has σ (T i j) ys[i][j] ((cs[i]'(by omega))[j]'(by have := hs i hi; omega))) :
      Has σ S (.fz ys) (.sl id v 0 ys.length (ys.length + junk.length))
theorem Has.mono {σ : Store} {S S' : Nat → Prop} (hSS : ∀ a, S a → S' a) {y x : Ce} (h : Has σ S y x) : Has σ S' y x := by
  cases h with
  | c h => exact .c h
  | nil => exact .nil
  | o ys id v s cs junk T hg hS hl hs hall hj hT hd h => exact .o ys id v s cs junk T hg (hSS _ hS) hl hs hall hj (fun i j a ha => ⟨hSS _ (hT i j a ha).1, (hT i j a ha).2⟩) hd h
theorem Has.frame {σ σ' : Store} {S : Nat → Prop} {y x : Ce} (h : Has σ S y x) : (∀ a, S a → σ'.get a = σ.get a) → Has σ' S y x := by
  induction h with
  | c h => exact fun _ => .c h
  | nil => exact fun _ => .nil
  | o ys id v s cs junk T hg hS hl hs hall hj hT hd h ih =>
    intro hf
    exact .o ys id v s cs junk T (by rw [hf _ hS]; exact hg) hS hl hs hall hj hT hd fun i j hi hj => ih i j hi hj fun a ha => hf a (hT i j a ha).1
theorem Has.frz {σ : Store} {S : Nat → Prop} {y x : Ce} (h : Has σ S y x) {n : Nat} (hn : ∀ a, S a → n ≤ a) : Frz σ n x y := by
  induction h with
  | c h => exact .same _ (h.old n)
  | nil => exact .nil
  | o ys id v s cs junk T hg hS hl hs hall hj hT hd h ih =>
    refine .sl id v 0 _ _ (cs ++ junk) ys (hn _ hS) hg (by simp; omega) rfl (fun k hk => ?_) (fun k j hk hj => ?_)
    · have e : (cs ++ junk)[0 + k]'(by simp; omega) = cs[k]'(by omega) := by
        simp only [Nat.zero_add]
        rw [List.getElem_append_left (by omega)]
      rw [e]
      exact (hs k hk).symm
    · have e : (cs ++ junk)[0 + k]'(by simp; omega) = cs[k]'(by omega) := by
        simp only [Nat.zero_add]
        rw [List.getElem_append_left (by omega)]
      simp only [e]
      exact ih k j hk hj fun a ha => hn a (hT k j a ha).1
theorem Has.tidy {σ : Store} {S : Nat → Prop} {y x : Ce} (h : Has σ S y x) {n : Nat} (hn : ∀ a, S a → n ≤ a) : Tidy n x := by
  cases h with
  | c h => exact .flat h
  | nil => exact .flat .nils
  | o ys id v s cs junk T hg hS hl hs hall hj hT hd h => exact .sl _ _ _ _ _ (hn _ hS)
/-- .. of the cells of a struct. -/
def HasL (σ : Store) (S : Nat → Prop) (ys xs : List Ce) : Prop :=
  ∃ U : Nat → Nat → Prop, xs.length = ys.length ∧ (∀ j a, U j a → S a) ∧ (∀ j j' a, U j a → U j' a → j = j') ∧ ∀ j (hy : j < ys.length) (hx : j < xs.length), Has σ (U j) ys[j] xs[j]
theorem HasL.mono {σ : Store} {S S' : Nat → Prop} (hSS : ∀ a, S a → S' a) {ys xs : List Ce} (h : HasL σ S ys xs) : HasL σ S' ys xs :=
  let ⟨U, h1, h2, h3, h4⟩ := h
  ⟨U, h1, fun j a ha => hSS a (h2 j a ha), h3, h4⟩
theorem HasL.frame {σ σ' : Store} {S : Nat → Prop} {ys xs : List Ce} (h : HasL σ S ys xs) (hf : ∀ a, S a → σ'.get a = σ.get a) : HasL σ' S ys xs :=
  let ⟨U, h1, h2, h3, h4⟩ := h
  ⟨U, h1, h2, h3, fun j hy hx => (h4 j hy hx).frame fun a ha => hf a (h2 j a ha)⟩
theorem HasL.flat {σ : Store} {S : Nat → Prop} {xs : List Ce} (h : ∀ x ∈ xs, Flat x) : HasL σ S xs xs :=
  ⟨fun _ _ => False, rfl, fun _ _ h => h.elim, fun _ _ _ h => h.elim, fun j hy hx => .c (h _ (List.getElem_mem hy))⟩

/-- The call makes a tree that reads as y. -/
def New (σ : Store) (y : Ce) (r : AV) (σ' : Store) : Prop := ∃ x l, r = .c x ∧ σ' = E σ l ∧ TidyL σ.next l ∧ Has σ' (fun a => σ.next ≤ a ∧ a < σ'.next) y x
def NewL (σ : Store) (ys : List Ce) (r : AV) (σ' : Store) : Prop := ∃ xs l, r = .agg xs ∧ σ' = E σ l ∧ TidyL σ.next l ∧ HasL σ' (fun a => σ.next ≤ a ∧ a < σ'.next) ys xs

/-- The slices' copies of the laws. -/
def toSCode (s bytes f : Nat) (z : List Ce) : AFn := ⟨23, [.t 2], (.seq (.region [⟨some 2, .op (.mv (.k (.nils))), none⟩]) (.seq (.region [⟨some 5, .op (.mv (.t 0)), none⟩, ⟨some 6, .op (.len false (.t 5)), none⟩, ⟨some 7, .op (.mkslice s bytes z (.t 6) (.t 6)), none⟩, ⟨some 3, .op (.mv (.t 7)), none⟩]) (.seq (.seq (.region [⟨some 4, .op (.mv (.k (.int .i64 0))), none⟩]) (.block 0 (.loop (.seq (.seq (.region [⟨some 8, .op (.mv (.t 4)), none⟩, ⟨some 9, .op (.mv (.t 0)), none⟩, ⟨some 10, .op (.len false (.t 9)), none⟩, ⟨some 11, .op (.bin .lss (.t 8) (.t 10)), none⟩]) (.cond (.t 11) .skip (.exit 0))) (.seq (.block 1 (.region [⟨some 14, .op (.mv (.t 3)), none⟩, ⟨some 15, .op (.mv (.t 4)), none⟩, ⟨some 16, .op (.mv (.t 0)), none⟩, ⟨some 17, .op (.mv (.t 4)), none⟩, ⟨some 18, .op (.iaddr s (.t 16) (.t 17)), none⟩, ⟨some 19, .op (.load true s (.t 18)), none⟩, ⟨some 20, .call (.f f) [(.t 19)], none⟩, ⟨some 21, .op (.iaddr s (.t 14) (.t 15)), none⟩, ⟨none, .op (.store s (.t 21) (.t 20)), none⟩])) (.region [⟨some 12, .op (.mv (.t 4)), none⟩, ⟨some 13, .op (.bin .add (.t 12) (.k (.int .i64 1))), none⟩, ⟨some 4, .op (.mv (.t 13)), none⟩])))))) (.seq (.region [⟨some 22, .op (.mv (.t 3)), none⟩, ⟨some 2, .op (.mv (.t 22)), none⟩]) .ret))))⟩

theorem takeA_all {s : Nat} {cs : List Ce} (h : cs.length = s) : takeA true s cs = some (.agg cs) := by
  simp [takeA, h]
  rw [List.take_of_length_le (by omega)]
theorem aop_loadF {fr : Fr} {σ : Store} {s : Nat} {a : Opd} {cs : List Ce} (ha : a.ev fr = some (.c (.fp cs))) (hs : cs.length = s) : aop (.load true s a) fr σ = some (.agg cs, σ) := by
  simp [aop, ha, Store.at_, takeA_all hs]
theorem aop_mkslice {fr : Fr} {σ : Store} {l : List (Nat × List (List Ce))} {s bytes n : Nat} {z : List Ce} {x y : Opd} (hx : x.ev fr = some (.c (.int .i64 (n : Int)))) (hy : y.ev fr = some (.c (.int .i64 (n : Int)))) (hb : bytes * n ≤ 140737488355328) :
    aop (.mkslice s bytes z x y) fr (E σ l) = some (.c (.sl (σ.next + l.length) 0 0 n n), E σ (l ++ [(0, List.replicate n z)])) := by
  have : ((bytes : Int) * (n : Int) ≤ 140737488355328) := by rw [← Int.natCast_mul]; omega
  simp only [aop, hx, hy]
  rw [if_pos ⟨by omega, by omega, this⟩]
  simp [E_new, E_next]
theorem splice_all {s : Nat} {e cs : List Ce} (h1 : e.length = s) (h2 : cs.length = s) : splice e 0 cs = cs := by
  simp only [splice, List.take_zero, List.nil_append, Nat.zero_add]
  rw [List.drop_eq_nil_of_le (by omega)]
  simp

theorem toS_ok {P : Program} (hm : P.follows .mixedOrders = true) {fz : List Nat} {n s bytes f : Nat} {z : List Ce} (hc : compFn P fz n = some (toSCode s bytes f z)) {α : Type} (enc : α → List Ce) (xs : List α) (hx : xs.length ≤ 34359738368) (hb : bytes ≤ 4096) (hz : z.length = s) (hs : ∀ a, (enc a).length = s)
    (hzf : ∀ x ∈ z, Flat x) (hf : ∀ a ∈ xs, ∀ σ, Ok P f [.agg (enc a)] σ (NewL σ (enc a))) (σ : Store) : Ok P n [.c (.fz (xs.map enc))] σ (New σ (.fz (xs.map enc))) := by
  refine Ok.run hm hc (Nat.le_of_ble_eq_true rfl) fun hS hA => ?_
  clear hS hA
  have hbn : bytes * xs.length ≤ 140737488355328 := Nat.le_trans (Nat.mul_le_mul hb hx) (by decide)
  repeat' first | (apply Go.adm; exact rfl) | apply Go.qs | apply Qg.nil | ((first | apply Go.v2 | apply Go.v1); (first | exact leAdd | assumption); iterate 6 exact rfl) | ((first | apply Go.op | apply Go.sop | apply Qg.op); exact rfl; (first | exact aop_alloc | exact aop_new rfl rfl | exact aop_mksl rfl | exact aop_lenM rfl | exact rfl | exact aL rfl rfl rfl rfl rfl | exact aS rfl rfl rfl rfl rfl rfl rfl | exact aop_mkslice rfl rfl hbn)) | ((first | apply Go.no | apply Go.sno | apply Qg.no); exact rfl) | (exfalso; omega) | (((first | apply Go.iQ | apply Go.gQ | apply Go.sQ | apply Qg.gQ); exact rfl; (first | exact .d | exact .e | exact .n | ((fail_if_success exact bqt); (fail_if_success exact bqf); exact .b))) <;> intro _)
  refine Go.keep [0, 3, 4] (Go.loops (I := fun m fr τ => ∃ i : Nat, ∃ n : Int, ∃ cs l', m = xs.length - i ∧ i ≤ xs.length ∧ n = i ∧
    (cs.length = xs.length ∧ TidyL σ.next ((0, cs) :: l') ∧ (∀ e ∈ cs, e.length = s) ∧ ∃ b : Nat → Nat, b 0 = σ.next + 1 ∧ (∀ k, b k ≤ b (k + 1)) ∧ b i ≤ τ.next ∧
      ∀ k (h1 : k < xs.length) (h2 : k < cs.length), k < i → HasL τ (fun a => b k ≤ a ∧ a < b (k + 1)) (enc xs[k]) cs[k]) ∧
    fr = [(0, .c (.fz (xs.map enc))), (3, .c (.sl (σ.next + 0) 0 0 xs.length xs.length)), (4, .c (.int .i64 n))] ∧ τ = E σ ((0, cs) :: l')) ?_ _ _ _
    ⟨0, _, List.replicate xs.length z, [], rfl, Nat.zero_le _, rfl, ⟨by simp, fun b hb e he x hx => by simp at hb; subst hb; rw [List.eq_of_mem_replicate he] at hx; exact .flat (hzf x hx), fun e he => by rw [List.eq_of_mem_replicate he]; exact hz, fun _ => σ.next + 1, rfl, fun _ => Nat.le_refl _, by simp [E_next], fun k _ _ h => absurd h (by omega)⟩, rfl, rfl⟩)
  rintro m fr τ ⟨i, n, cs, l', rfl, hi, hn, ⟨hcl, htd, hcs, b, hb0, hbm, hbi, hh⟩, rfl, rfl⟩ hrec
  have hmono : ∀ k k', k ≤ k' → b k ≤ b k' := by
    intro k k' h
    induction h with
    | refl => exact Nat.le_refl _
    | step _ ih => exact Nat.le_trans ih (hbm _)
  by_cases hlt : i < xs.length
  · repeat' first | (apply Go.adm; exact rfl) | apply Go.qs | apply Qg.nil | ((first | apply Go.v2 | apply Go.v1); (first | exact leAdd | assumption); iterate 6 exact rfl) | ((first | apply Go.op | apply Go.sop | apply Qg.op); exact rfl; (first | exact aop_alloc | exact aop_new rfl rfl | exact aop_mksl rfl | exact aop_lenM rfl | exact rfl | exact aL rfl rfl rfl rfl rfl | exact aS rfl rfl rfl rfl rfl rfl rfl | exact aop_iaddrM rfl rfl hn hlt (hs _) | exact aop_loadF rfl (hs _))) | ((first | apply Go.no | apply Go.sno | apply Qg.no); exact rfl) | (exfalso; omega) | (((first | apply Go.iQ | apply Go.gQ | apply Go.sQ | apply Qg.gQ); exact rfl; (first | exact .d | exact .e | exact .n | ((fail_if_success exact bqt); (fail_if_success exact bqf); exact .b))) <;> intro _)
    refine Go.call (NewL (E σ ((0, cs) :: l')) (enc xs[i])) rfl rfl rfl (hf _ (List.getElem_mem hlt) _) ?_
    rintro r σ1 ⟨ys', l2, rfl, rfl, htd2, hnew⟩
    rw [E_E] at hnew ⊢
    have hlc : i < cs.length := by omega
    have hyl : ys'.length = s := by
      obtain ⟨U, h1, _⟩ := hnew
      rw [h1, hs]
    have hcl2 : cs[i].length = s := hcs _ (List.getElem_mem hlc)
    have he : cs[0 + i]? = some cs[i] := by simp [hlc]
    have hsp := splice_all hcl2 hyl
    refine .op rfl (aop_iaddr (k := 0) (n := i) rfl rfl hn hlt rfl he hcl2) ?_
    refine .op rfl (aop_store (k := 0) rfl rfl rfl rfl he hyl (by omega)) ?_
    rw [hsp]
    repeat' first | (apply Go.adm; exact rfl) | apply Go.qs | apply Qg.nil | ((first | apply Go.v2 | apply Go.v1); (first | exact leAdd | assumption); iterate 6 exact rfl) | ((first | apply Go.op | apply Go.sop | apply Qg.op); exact rfl; (first | exact aop_alloc | exact aop_new rfl rfl | exact aop_mksl rfl | exact aop_lenM rfl | exact rfl | exact aL rfl rfl rfl rfl rfl | exact aS rfl rfl rfl rfl rfl rfl rfl)) | ((first | apply Go.no | apply Go.sno | apply Qg.no); exact rfl) | (exfalso; omega) | (((first | apply Go.iQ | apply Go.gQ | apply Go.sQ | apply Qg.gQ); exact rfl; (first | exact .d | exact .e | exact .n | ((fail_if_success exact bqt); (fail_if_success exact bqf); exact .b))) <;> intro _)
    have hget : ∀ a, σ.next < a → (E σ ((0, cs.set (0 + i) ys') :: (l' ++ l2))).get a = (E σ ((0, cs) :: l' ++ l2)).get a := by
      intro a ha
      rw [E_ge (by omega), E_ge (by omega)]
      obtain ⟨q, hq⟩ : ∃ q, a - σ.next = q + 1 := ⟨a - σ.next - 1, by omega⟩
      rw [hq]
      rfl
    have hN : (E σ ((0, cs) :: l' ++ l2)).next = σ.next + (l'.length + l2.length + 1) := by simp [E_next]
    have hN1 : (E σ ((0, cs) :: l')).next = σ.next + (l'.length + 1) := by simp [E_next]
    refine Go.keep [0, 3, 4] (hrec _ _ _ (by omega) ⟨i + 1, _, cs.set (0 + i) ys', l' ++ l2, rfl, hlt, wrap_succ hn (by omega), ⟨by simp [hcl], fun b hb e he x hx => ?_, fun e he' => ?_, fun k => if k ≤ i then b k else σ.next + (l'.length + l2.length + 1), by simp [hb0], fun k => ?_, ?_, fun k h1 h2 hk => ?_⟩, rfl, rfl⟩)
    · rcases List.mem_cons.1 hb with rfl | hb
      · rcases List.mem_or_eq_of_mem_set he with h | h
        · exact htd (0, cs) (by simp) e h x hx
        · subst h
          obtain ⟨U, h1, h2, h3, h4⟩ := hnew
          obtain ⟨j, hj, rfl⟩ := List.mem_iff_getElem.1 hx
          refine (h4 j (by omega) hj).tidy fun a ha => ?_
          have := h2 j a ha
          omega
      · rcases List.mem_append.1 hb with h | h
        · exact htd b (by simp [h]) e he x hx
        · cases htd2 b h e he x hx with
          | flat h => exact .flat h
          | sl id v i m c h => exact .sl _ _ _ _ _ (by omega)
          | ptr id v i j h => exact .ptr _ _ _ _ (by omega)
    · rcases List.mem_or_eq_of_mem_set he' with h | h
      · exact hcs _ h
      · rw [h]; exact hyl
    · dsimp only
      by_cases h1 : k + 1 ≤ i
      · rw [if_pos (by omega), if_pos h1]; exact hbm k
      · rw [if_neg h1]
        split
        · have := hmono k i (by omega)
          omega
        · omega
    · dsimp only
      rw [if_neg (by omega)]
      show _ ≤ (E σ ((0, cs.set (0 + i) ys') :: (l' ++ l2))).next
      simp [E_next]
    · dsimp only
      by_cases e : k = i
      · subst e
        have e1 : (cs.set (0 + k) ys')[k] = ys' := by simp
        rw [e1, if_pos (Nat.le_refl _), if_neg (by omega)]
        refine (hnew.frame fun a ha => hget a (by omega)).mono fun a ha => ?_
        omega
      · have e1 : (cs.set (0 + i) ys')[k] = cs[k]'(by omega) := by
          simp only [Nat.zero_add]
          rw [List.getElem_set_ne (Ne.symm e)]
        rw [e1, if_pos (by omega), if_pos (by omega)]
        have hk0 := hmono 0 k (by omega)
        have hki := hmono (k + 1) i (by omega)
        refine (hh k h1 (by omega) (by omega)).frame fun a ha => ?_
        show (E σ ((0, cs.set (0 + i) ys') :: (l' ++ l2))).get a = _
        rw [hget a (by omega), E_ge (by omega), E_ge (by omega), List.getElem?_append_left (by simp; omega)]
  · repeat' first | (apply Go.adm; exact rfl) | apply Go.qs | apply Qg.nil | ((first | apply Go.v2 | apply Go.v1); (first | exact leAdd | assumption); iterate 6 exact rfl) | ((first | apply Go.op | apply Go.sop | apply Qg.op); exact rfl; (first | exact aop_alloc | exact aop_new rfl rfl | exact aop_mksl rfl | exact aop_lenM rfl | exact rfl | exact aL rfl rfl rfl rfl rfl | exact aS rfl rfl rfl rfl rfl rfl rfl)) | ((first | apply Go.no | apply Go.sno | apply Qg.no); exact rfl) | (exfalso; omega) | (((first | apply Go.iQ | apply Go.gQ | apply Go.sQ | apply Qg.gQ); exact rfl; (first | exact .d | exact .e | exact .n | ((fail_if_success exact bqt); (fail_if_success exact bqf); exact .b))) <;> intro _)
    have hii : i = xs.length := by omega
    subst hii
    have hch : ∀ k, ∃ U : Nat → Nat → Prop, ∀ (h1 : k < xs.length) (h2 : k < cs.length), (cs[k].length = (enc xs[k]).length ∧ (∀ j a, U j a → b k ≤ a ∧ a < b (k + 1)) ∧ (∀ j j' a, U j a → U j' a → j = j') ∧ ∀ j (hy : j < (enc xs[k]).length) (hx : j < cs[k].length), Has (E σ ((0, cs) :: l')) (U j) (enc xs[k])[j] cs[k][j]) := by
      intro k
      by_cases h1 : k < xs.length
      · obtain ⟨U, hU⟩ := hh k h1 (by omega) h1
        exact ⟨U, fun _ _ => hU⟩
      · exact ⟨fun _ _ => False, fun h => absurd h h1⟩
    obtain ⟨U, hU⟩ := Classical.axiomOfChoice hch
    refine .ret rfl ⟨.sl (σ.next + 0) 0 0 xs.length xs.length, (0, cs) :: l', rfl, rfl, htd, ?_⟩
    have hb1 : ∀ k, σ.next + 1 ≤ b k := fun k => by have := hmono 0 k (by omega); omega
    have := Has.o (σ := E σ ((0, cs) :: l')) (S := fun a => σ.next ≤ a ∧ a < (E σ ((0, cs) :: l')).next) (xs.map enc) (σ.next + 0) 0 s cs [] (fun k j a => k < xs.length ∧ U k j a) (by rw [E_at]; simp) (by simp [E_next]) (by simp [hcl])
      (fun k hk => by
        have h1 : k < xs.length := by simpa using hk
        rw [(hU k h1 (by omega)).1]
        simp) (fun e he => hcs e (by simpa using he)) (fun e he => by simp at he) (fun k j a ha => by
        have h3 := (hU k ha.1 (by omega)).2.1 j a ha.2
        have h4 := hb1 k
        have h5 := hmono (k + 1) xs.length (by omega)
        simp only [Nat.add_zero]
        omega)
      (fun k j k' j' a ha ha' => by
        have h3 := (hU k ha.1 (by omega)).2.1 j a ha.2
        have h4 := (hU k' ha'.1 (by omega)).2.1 j' a ha'.2
        have hkk : k = k' := by
          rcases Nat.lt_trichotomy k k' with h | h | h
          · have := hmono (k + 1) k' h
            omega
          · exact h
          · have := hmono (k' + 1) k h
            omega
        subst hkk
        exact ⟨rfl, (hU k ha.1 (by omega)).2.2.1 j j' a ha.2 ha'.2⟩)
      (fun k j hk hj => by
        have h1 : k < xs.length := by simpa using hk
        have h2 : j < (enc xs[k]).length := by simpa using hj
        have h3 := (hU k h1 (by omega)).1
        have h4 := (hU k h1 (by omega)).2.2.2 j h2 (by omega)
        have e : (xs.map enc)[k] = enc xs[k] := by simp
        simp only [e]
        exact h4.mono fun a ha => ⟨h1, ha⟩)
    simpa using this
end Go.Proofs.Ytcfpdongfdhgjaa.Am

/- The abstract machine, part 24: what is owned is lent to a function that makes something anew; trees as values that nobody writes. -/
set_option linter.unusedVariables false
set_option linter.unusedSimpArgs false
namespace Go.Proofs.Ytcfpdongfdhgjaa.Am
open Go.RowKit

theorem Tidy.move {C D : Cx} {n : Nat} {x : Ce} (h : Tidy n x) (hw : D.w = C.w) (hF : ∀ id v, n ≤ id → C.F id v → D.F id v ∧ D.μ id v = C.μ id v) {v : Value} (hx : Rp C x v) : Rp D x v := by
  cases h with
  | flat h => exact h.move hx
  | sl id v i m c h =>
    cases hx with
    | sl0 _ _ _ a hf => exact .sl0 _ _ _ _ (hF _ _ h hf).1
    | sl _ _ _ _ _ cap hf hn hc hv hk =>
      obtain ⟨h1, h2⟩ := hF _ _ h hf
      have := Rp.sl (C := D) id v i m c cap h1 hn hc (by rw [h2]; exact hv) (by rw [h2, hw]; exact hk)
      rw [h2] at this
      exact this
  | ptr id v i j h =>
    cases hx with
    | ptr _ _ _ _ hf hv =>
      obtain ⟨h1, h2⟩ := hF _ _ h hf
      have := Rp.ptr (C := D) id v i j h1 (by rw [h2]; exact hv)
      rw [h2] at this
      exact this
theorem tidyV_move {C D : Cx} {n : Nat} (hw : D.w = C.w) (hF : ∀ id v, n ≤ id → C.F id v → D.F id v ∧ D.μ id v = C.μ id v) {x : AV} {v : Value} (hx : RpV C x v) : (∀ y ∈ x.all, Tidy n y) → RpV D x v := by
  induction hx with
  | c h => exact fun ht => .c ((ht _ (by simp [AV.all])).move hw hF h)
  | agg hl h => exact fun ht => .agg hl fun i hi => (ht _ (by simp [AV.all])).move hw hF (h i hi)
  | @tup xs vs hl h ih =>
    refine fun ht => .tup hl fun i hi => ih i hi fun y hy => ht y ?_
    have : ∀ (vs : List AV) (i : Nat) (hi : i < vs.length), y ∈ vs[i].all → y ∈ AV.all.allL vs := by
      intro vs
      induction vs with
      | nil => intro i hi; simp at hi
      | cons v r ih =>
        intro i hi hy
        simp only [AV.all.allL, List.mem_append]
        cases i with
        | zero => exact .inl hy
        | succ i => exact .inr (ih i (by simpa using hi) hy)
    simp only [AV.all]
    exact this xs i hi hy
  | un v => exact fun _ => .un v

theorem Ok.lent {P : Program} {f : Nat} {args args' : List AV} {σ : Store} {Q : AV → Store → Prop} (h : Ok P f args' (Store.none σ.next) Q) (hl : args'.length = args.length)
    (hf : ∀ i (hi : i < args.length), FrzV σ 0 args[i] (args'[i]'(by omega)) ∨ args[i] = args'[i]'(by omega))
    (hq : ∀ r τ, Q r τ → ∃ l, τ = E (Store.none σ.next) l ∧ TidyL σ.next l ∧ ∀ y ∈ r.all, Tidy σ.next y) :
    Ok P f args σ (fun r σ' => ∃ l, σ' = E σ l ∧ Q r (E (Store.none σ.next) l)) := by
  refine ⟨h.1, fun C cargs hR ⟨hal, ha⟩ => ?_⟩
  let C' : Cx := ⟨C.μ, C.F, fun _ => False, C.w⟩
  have hR' : Rl C' (Store.none σ.next) := ⟨hR.F, fun id v es hg => by simp [Store.none] at hg, fun b => ⟨fun h => h.elim, fun ⟨id, v, es, hg, _⟩ => by simp [Store.none] at hg⟩, fun id v es id' v' es' hg => by simp [Store.none] at hg, fun id v es hg => by simp [Store.none] at hg⟩
  have hle : C.Le C' := ⟨fun _ _ h => ⟨h, rfl⟩, rfl, rfl, rfl, Nat.le_refl _, fun _ _ _ => rfl, fun b cs t h => ⟨cs, h, rfl⟩, fun _ _ h => h.elim⟩
  refine (h.2 C' cargs hR' ⟨by omega, fun i hi => ?_⟩).mono ?_
  · rcases hf i (by omega) with h | h
    · exact h.sound (D := C') hR rfl rfl (fun id v _ hlt => absurd hlt (by omega)) (fun b h => h.elim) (fun _ _ _ _ _ _ h => h) (ha i (by omega))
    · rw [← h]; exact (ha i (by omega)).mono hle
  · rintro e w' ⟨D', τ, r, v, rfl, rfl, hQ, hRD, hx, hle'⟩
    obtain ⟨l, rfl, ht, htr⟩ := hq r τ hQ
    let μ := fun id v => if id < σ.next then C.μ id v else D'.μ id v
    let F := fun id v => if id < σ.next then C.F id v else D'.F id v
    let D : Cx := ⟨μ, F, Mof μ (E σ l), D'.w⟩
    have newb : ∀ id v es, σ.next ≤ id → (E (Store.none σ.next) l).get id = some (v, es) → es ≠ [] → ¬ (D'.μ id v).b < C.w.heap.size := by
      intro id v es hn hg hne hlt
      exact hle'.M _ hlt ((hRD.M _).2 ⟨id, v, es, hg, hne, rfl⟩)
    have getn : ∀ id, σ.next ≤ id → (E σ l).get id = (E (Store.none σ.next) l).get id := by
      intro id hn
      rw [E_ge (by omega), E_ge (by show ¬ id < σ.next; omega)]
      rfl
    have oldb : ∀ id v es, σ.get id = some (v, es) → es ≠ [] → (C.μ id v).b < C.w.heap.size := by
      intro id v es hg hne
      obtain ⟨cs, t, hb, _⟩ := hR.blk id v es hg hne
      exact lt_of_block hb
    have hFo : ∀ id v, C.F id v → D.F id v ∧ D.μ id v = C.μ id v := by
      intro id v hf
      have := hR.F id v hf
      exact ⟨by show (if id < σ.next then C.F id v else D'.F id v); rw [if_pos this]; exact hf, if_pos this⟩
    have hFn : ∀ id v, σ.next ≤ id → D'.F id v → D.F id v ∧ D.μ id v = D'.μ id v := by
      intro id v hn hf
      exact ⟨by show (if id < σ.next then C.F id v else D'.F id v); rw [if_neg (Nat.not_lt.2 hn)]; exact hf, if_neg (Nat.not_lt.2 hn)⟩
    have hLe : C.Le D := by
      refine ⟨hFo, hle'.os, hle'.tape, hle'.output, hle'.size, fun b hb _ => hle'.keep b hb (fun h => h), hle'.shp, fun b hb hm => ?_⟩
      obtain ⟨id, v1, es, hg, hne, hbb⟩ := hm
      by_cases hn : id < σ.next
      · rw [E_lt hn] at hg
        have : μ id v1 = C.μ id v1 := if_pos hn
        rw [this] at hbb
        exact (hR.M b).2 ⟨id, v1, es, hg, hne, hbb⟩
      · rw [getn id (by omega)] at hg
        have : μ id v1 = D'.μ id v1 := if_neg hn
        rw [this] at hbb
        exact absurd hb (by rw [← hbb]; exact newb id v1 es (by omega) hg hne)
    refine ⟨D, E σ l, r, v, rfl, rfl, ⟨l, rfl, hQ⟩, ⟨fun id v hf => ?_, fun id v1 es hg => ?_, fun b => Iff.rfl, fun id v1 es id' v1' es' hg hne hg' hne' hbb => ?_, fun id v1 es hg hne => ?_⟩, tidyV_move (C := D') (D := D) rfl hFn hx htr, hLe⟩
    · simp only [D, F] at hf
      split at hf
      · rw [E_next]; omega
      · exact hRD.F id v hf
    · by_cases hn : id < σ.next
      · rw [E_lt hn] at hg
        obtain ⟨a1, a2, a3⟩ := hR.live id v1 es hg
        simp only [D, F, μ, if_pos hn]
        exact ⟨a1, a2, a3⟩
      · rw [getn id (by omega)] at hg
        obtain ⟨a1, a2, a3⟩ := hRD.live id v1 es hg
        simp only [D, F, μ, if_neg hn]
        exact ⟨a1, a2, a3⟩
    · simp only [D, μ] at hbb
      by_cases hn : id < σ.next
      · rw [E_lt hn] at hg
        rw [if_pos hn] at hbb
        by_cases hn' : id' < σ.next
        · rw [E_lt hn'] at hg'
          rw [if_pos hn'] at hbb
          exact hR.inj id v1 es id' v1' es' hg hne hg' hne' hbb
        · rw [getn id' (by omega)] at hg'
          rw [if_neg hn'] at hbb
          exact absurd (oldb id v1 es hg hne) (by rw [hbb]; exact newb id' v1' es' (by omega) hg' hne')
      · rw [getn id (by omega)] at hg
        rw [if_neg hn] at hbb
        by_cases hn' : id' < σ.next
        · rw [E_lt hn'] at hg'
          rw [if_pos hn'] at hbb
          exact absurd (oldb id' v1' es' hg' hne') (by rw [← hbb]; exact newb id v1 es (by omega) hg hne)
        · rw [getn id' (by omega)] at hg'
          rw [if_neg hn'] at hbb
          exact hRD.inj id v1 es id' v1' es' hg hne hg' hne' hbb
    · by_cases hn : id < σ.next
      · rw [E_lt hn] at hg
        have e : D.μ id v1 = C.μ id v1 := if_pos hn
        obtain ⟨cs, t, hb, hz, hs, hc⟩ := hR.blk id v1 es hg hne
        rw [e]
        refine ⟨cs, t, ?_, hz, hs, fun i j hi hj => ?_⟩
        · show D'.w.heap[_]? = _
          rw [hle'.keep _ (lt_of_block hb) (fun h => h)]
          exact hb
        · obtain ⟨u, h1, h2⟩ := hc i j hi hj
          exact ⟨u, h1, h2.mono hLe⟩
      · have hg2 := hg
        rw [getn id (by omega)] at hg
        have e : D.μ id v1 = D'.μ id v1 := if_neg hn
        obtain ⟨cs, t, hb, hz, hs, hc⟩ := hRD.blk id v1 es hg hne
        rw [e]
        refine ⟨cs, t, hb, hz, hs, fun i j hi hj => ?_⟩
        obtain ⟨u, h1, h2⟩ := hc i j hi hj
        refine ⟨u, h1, Tidy.move (n := σ.next) (C := D') (D := D) ?_ rfl hFn h2⟩
        rw [E_ge hn] at hg2
        exact ht _ (List.mem_of_getElem? hg2) _ (List.getElem_mem hi) _ (List.getElem_mem hj)

/-! ### Trees as values -/
theorem Ok.old' {P : Program} {f : Nat} {args : List AV} {σ : Store} {Q Q' : AV → Store → Prop} (h1 : Ok P f args σ Q') (hk : OldS σ → (∀ x ∈ args, ∀ y ∈ x.all, Old σ.next y) → Ok P f args σ Q) : Ok P f args σ Q := by
  refine ⟨h1.1, fun C cargs hR ha => ?_⟩
  obtain ⟨hl, hv⟩ := ha
  refine (hk hR.old fun x hx y hy => ?_).2 C cargs hR ⟨hl, hv⟩
  obtain ⟨i, hi, rfl⟩ := List.mem_iff_getElem.1 hx
  exact (hv i hi).old hR.F y hy
theorem New.pure {P : Program} {f : Nat} {args : List AV} {y : Ce} (h : ∀ σ, Ok P f args σ (New σ y)) : Pure P f args (.c y) := by
  constructor
  intro σ
  refine .old' (h σ) fun hS ha => Ok.pure (h σ) (.c y) (fun id y hy => (hS id y hy).1) ?_
  rintro r σ1 ⟨x, l, rfl, rfl, _, hh⟩
  exact ⟨fun id y hy => by rw [E_lt (hS id y hy).1]; exact hy, .c (hh.frz fun a ha => ha.1)⟩
theorem NewL.pure {P : Program} {f : Nat} {args : List AV} {ys : List Ce} (h : ∀ σ, Ok P f args σ (NewL σ ys)) : Pure P f args (.agg ys) := by
  constructor
  intro σ
  refine .old' (h σ) fun hS ha => Ok.pure (h σ) (.agg ys) (fun id y hy => (hS id y hy).1) ?_
  rintro r σ1 ⟨xs, l, rfl, rfl, _, U, h1, h2, h3, h4⟩
  exact ⟨fun id y hy => by rw [E_lt (hS id y hy).1]; exact hy, .agg h1.symm fun i hi => (h4 i (by omega) hi).frz fun a ha => (h2 i a ha).1⟩
theorem Made.new {σ : Store} {s : Nat} {ys : List (List Ce)} (hy : ∀ e ∈ ys, e.length = s ∧ ∀ x ∈ e, Flat x) {r : AV} {σ' : Store} (h : Made σ s ys r σ') : New σ (.fz ys) r σ' := by
  obtain ⟨v, junk, hj, rfl, rfl⟩ := h
  have hall : ∀ e ∈ ys ++ junk, e.length = s ∧ ∀ x ∈ e, Flat x := by
    intro e he
    rcases List.mem_append.1 he with h | h
    · exact hy e h
    · exact hj e h
  refine ⟨_, _, rfl, rfl, ?_, ?_⟩
  · intro b hb e he x hx
    simp at hb
    subst hb
    exact .flat ((hall e he).2 x hx)
  · exact .o ys (σ.next + 0) v s ys junk (fun _ _ _ => False) (by rw [E_at]; rfl) (by simp [E_next]) rfl (fun i hi => rfl) (fun e he => (hall e he).1) (fun e he => (hj e he).2) (fun _ _ _ h => h.elim) (fun _ _ _ _ _ h => h.elim)
      fun i j hi hj => .c ((hy _ (List.getElem_mem hi)).2 _ (List.getElem_mem hj))
theorem Makes.new {P : Program} {f : Nat} {args : List AV} {s : Nat} {ys : List (List Ce)} (hy : ∀ e ∈ ys, e.length = s ∧ ∀ x ∈ e, Flat x) (h : Makes P f args s ys) (σ : Store) : Ok P f args σ (New σ (.fz ys)) :=
  (h.at_ σ).mono fun r σ' hq => hq.new hy

end Go.Proofs.Ytcfpdongfdhgjaa.Am

/- The abstract machine, part 25: the laws' helpers on slices of structs, once for all: sizes, equality. -/
set_option linter.unusedVariables false
set_option linter.unusedSimpArgs false
namespace Go.Proofs.Ytcfpdongfdhgjaa.Am
open Go.RowKit

/-- What is left of a measure behind a list. -/
def szList {α : Type} (g : α → Int → Int) : List α → Int → Int
  | [], left => left
  | x :: r, left => if g x left < 0 then -1 else szList g r (g x left)
def szL {α : Type} (g : α → Int → Int) (xs : List α) (left : Int) : Int := if left - xs.length < 0 then -1 else szList g xs (left - xs.length)
theorem szList_le {α : Type} {g : α → Int → Int} (hg : ∀ a l, 0 ≤ l → g a l ≤ l) : ∀ (xs : List α) (left : Int), 0 ≤ left → szList g xs left ≤ left
  | [], left, h => Int.le_refl _
  | x :: r, left, h => by
    simp only [szList]
    have := hg x left h
    split
    · omega
    · have := szList_le hg r (g x left) (by omega)
      omega
theorem szL_le {α : Type} {g : α → Int → Int} (hg : ∀ a l, 0 ≤ l → g a l ≤ l) (xs : List α) (left : Int) (h : 0 ≤ left) : szL g xs left ≤ left := by
  simp only [szL]
  split
  · omega
  · have := szList_le hg xs (left - xs.length) (by omega)
    omega
/-- What was measured is small. -/
theorem szList_mem {α : Type} {g : α → Int → Int} (hg : ∀ a l, 0 ≤ l → g a l ≤ l) : ∀ {xs : List α} {left : Int}, 0 ≤ left → 0 ≤ szList g xs left → ∀ x ∈ xs, ∃ l, 0 ≤ l ∧ l ≤ left ∧ 0 ≤ g x l
  | y :: r, left, h, hs, x, hx => by
    simp only [szList] at hs
    split at hs
    · omega
    · rename_i h0
      have h1 := hg y left h
      rcases List.mem_cons.1 hx with rfl | hx
      · exact ⟨left, h, Int.le_refl _, by omega⟩
      · obtain ⟨l, a, b, c⟩ := szList_mem hg (by omega) hs x hx
        exact ⟨l, a, by omega, c⟩
theorem szL_mem {α : Type} {g : α → Int → Int} (hg : ∀ a l, 0 ≤ l → g a l ≤ l) {xs : List α} {left : Int} (h : 0 ≤ left) (hs : 0 ≤ szL g xs left) : (xs.length : Int) ≤ left ∧ ∀ x ∈ xs, ∃ l, 0 ≤ l ∧ l ≤ left ∧ 0 ≤ g x l := by
  simp only [szL] at hs
  split at hs
  · omega
  · refine ⟨by omega, fun x hx => ?_⟩
    obtain ⟨l, a, b, c⟩ := szList_mem hg (by omega) hs x hx
    exact ⟨l, a, by omega, c⟩

def szSCode (s f : Nat) : AFn := ⟨27, [.t 4], (.seq (.region [⟨some 4, .op (.mv (.k (.int .i64 0))), none⟩]) (.seq (.region [⟨some 6, .op (.mv (.t 1)), none⟩, ⟨some 7, .op (.mv (.t 0)), none⟩, ⟨some 8, .op (.len false (.t 7)), none⟩, ⟨some 9, .op (.bin .sub (.t 6) (.t 8)), none⟩, ⟨some 1, .op (.mv (.t 9)), none⟩]) (.seq (.seq (.region [⟨some 10, .op (.mv (.t 1)), none⟩, ⟨some 11, .op (.bin .lss (.t 10) (.k (.int .i64 0))), none⟩]) (.cond (.t 11) (.seq (.region [⟨some 4, .op (.mv (.k (.int .i64 (-1)))), none⟩]) .ret) .skip)) (.seq (.seq (.region [⟨some 5, .op (.mv (.k (.int .i64 0))), none⟩]) (.block 0 (.loop (.seq (.seq (.region [⟨some 12, .op (.mv (.t 5)), none⟩, ⟨some 13, .op (.mv (.t 0)), none⟩, ⟨some 14, .op (.len false (.t 13)), none⟩, ⟨some 15, .op (.bin .lss (.t 12) (.t 14)), none⟩]) (.cond (.t 15) .skip (.exit 0))) (.seq (.block 1 (.seq (.region [⟨some 18, .op (.mv (.t 0)), none⟩, ⟨some 19, .op (.mv (.t 5)), none⟩, ⟨some 20, .op (.iaddr s (.t 18) (.t 19)), none⟩, ⟨some 21, .op (.load true s (.t 20)), none⟩, ⟨some 22, .op (.mv (.t 1)), none⟩, ⟨some 23, .call (.f f) [(.t 21), (.t 22)], none⟩, ⟨some 1, .op (.mv (.t 23)), none⟩]) (.seq (.region [⟨some 24, .op (.mv (.t 1)), none⟩, ⟨some 25, .op (.bin .lss (.t 24) (.k (.int .i64 0))), none⟩]) (.cond (.t 25) (.seq (.region [⟨some 4, .op (.mv (.k (.int .i64 (-1)))), none⟩]) .ret) .skip)))) (.region [⟨some 16, .op (.mv (.t 5)), none⟩, ⟨some 17, .op (.bin .add (.t 16) (.k (.int .i64 1))), none⟩, ⟨some 5, .op (.mv (.t 17)), none⟩])))))) (.seq (.region [⟨some 26, .op (.mv (.t 1)), none⟩, ⟨some 4, .op (.mv (.t 26)), none⟩]) .ret)))))⟩
theorem szS_ok {P : Program} (hm : P.follows .mixedOrders = true) {fz : List Nat} {n s f : Nat} (hc : compFn P fz n = some (szSCode s f)) {α : Type} (enc : α → List Ce) (g : α → Int → Int) (xs : List α) (left : Int) (hx : xs.length ≤ 1125899906842624) (h0 : 0 ≤ left) (h1 : left ≤ 34359738368) (hs : ∀ a, (enc a).length = s)
    (hg : ∀ a l, 0 ≤ l → g a l ≤ l) (hf : ∀ a ∈ xs, ∀ l, 0 ≤ l → l ≤ left → Pure P f [.agg (enc a), .c (.int .i64 l)] (.c (.int .i64 (g a l)))) : Pure P n [.c (.fz (xs.map enc)), .c (.int .i64 left)] (.c (.int .i64 (szL g xs left))) := by
  refine Pure.run hm hc (Nat.le_of_ble_eq_true rfl) fun σ hS hA => ?_
  clear hS hA
  have hw : IntKind.i64.wrap (left - xs.length) = left - xs.length := wrap64 (by omega) (by omega)
  repeat' first | (apply Go.adm; exact rfl) | apply Go.qs | apply Qg.nil | ((first | apply Go.v2 | apply Go.v1); (first | exact leAdd | assumption); iterate 6 exact rfl) | ((first | apply Go.op | apply Go.sop | apply Qg.op); exact rfl; (first | exact aop_alloc | exact aop_new rfl rfl | exact aop_mksl rfl | exact aop_lenM rfl | exact rfl | exact aL rfl rfl rfl rfl rfl | exact aS rfl rfl rfl rfl rfl rfl rfl)) | ((first | apply Go.no | apply Go.sno | apply Qg.no); exact rfl) | (exfalso; omega) | (((first | apply Go.iQ | apply Go.gQ | apply Go.sQ | apply Qg.gQ); exact rfl; (first | exact .d | exact .e | exact .n | ((fail_if_success exact bqt); (fail_if_success exact bqf); exact .b))) <;> intro _)
  · refine .ret rfl (.int ?_)
    rename_i h
    rw [hw] at h
    rw [szL, if_pos h]
  rename_i hnn
  rw [hw] at hnn
  have hsz : szL g xs left = szList g xs (left - xs.length) := by rw [szL, if_neg hnn]
  rw [hsz, hw]
  refine Go.keep [0, 1, 5] (Go.loops (I := fun m fr τ => ∃ i : Nat, ∃ n l : Int, m = xs.length - i ∧ i ≤ xs.length ∧ n = i ∧ (0 ≤ l ∧ l ≤ left ∧ szList g xs (left - xs.length) = szList g (xs.drop i) l) ∧
    fr = [(0, .c (.fz (xs.map enc))), (1, .c (.int .i64 l)), (5, .c (.int .i64 n))] ∧ τ = E σ []) ?_ _ _ _ ⟨0, _, _, rfl, Nat.zero_le _, rfl, ⟨by omega, by omega, rfl⟩, rfl, rfl⟩)
  rintro m fr τ ⟨i, n, l, rfl, hi, hn, ⟨hl0, hl1, hsl⟩, rfl, rfl⟩ hrec
  by_cases hlt : i < xs.length
  · have hp := hf _ (List.getElem_mem hlt) l hl0 hl1
    have hgl := hg xs[i] l hl0
    repeat' first | (apply Go.adm; exact rfl) | apply Go.qs | apply Qg.nil | ((first | apply Go.v2 | apply Go.v1); (first | exact leAdd | assumption); iterate 6 exact rfl) | ((first | apply Go.op | apply Go.sop | apply Qg.op); exact rfl; (first | exact aop_alloc | exact aop_new rfl rfl | exact aop_mksl rfl | exact aop_lenM rfl | exact rfl | exact aL rfl rfl rfl rfl rfl | exact aS rfl rfl rfl rfl rfl rfl rfl | exact aop_iaddrM rfl rfl hn hlt (hs _) | exact aop_loadF rfl (hs _))) | ((first | apply Go.no | apply Go.sno | apply Qg.no); exact rfl) | ((first | apply Go.pcallI | apply Go.spcallI | apply Qg.pcallI); (iterate 3 exact rfl); exact hp; intro _ _) | (exfalso; omega) | (((first | apply Go.iQ | apply Go.gQ | apply Go.sQ | apply Qg.gQ); exact rfl; (first | exact .d | exact .e | exact .n | ((fail_if_success exact bqt); (fail_if_success exact bqf); exact .b))) <;> intro _)
    · refine .ret rfl (.int ?_)
      rw [hsl, List.drop_eq_getElem_cons hlt, szList, if_pos (by omega)]
    · refine Go.keep [0, 1, 5] (hrec _ _ _ (by omega) ⟨i + 1, _, _, rfl, hlt, wrap_succ hn (by omega), ⟨?_, ?_, ?_⟩, rfl, rfl⟩)
      · omega
      · omega
      · rw [hsl, List.drop_eq_getElem_cons hlt, szList, if_neg (by omega)]
        congr 1
  · repeat' first | (apply Go.adm; exact rfl) | apply Go.qs | apply Qg.nil | ((first | apply Go.v2 | apply Go.v1); (first | exact leAdd | assumption); iterate 6 exact rfl) | ((first | apply Go.op | apply Go.sop | apply Qg.op); exact rfl; (first | exact aop_alloc | exact aop_new rfl rfl | exact aop_mksl rfl | exact aop_lenM rfl | exact rfl | exact aL rfl rfl rfl rfl rfl | exact aS rfl rfl rfl rfl rfl rfl rfl)) | ((first | apply Go.no | apply Go.sno | apply Qg.no); exact rfl) | (exfalso; omega) | (((first | apply Go.iQ | apply Go.gQ | apply Go.sQ | apply Qg.gQ); exact rfl; (first | exact .d | exact .e | exact .n | ((fail_if_success exact bqt); (fail_if_success exact bqf); exact .b))) <;> intro _)
    refine .ret rfl (.int ?_)
    rw [hsl, List.drop_eq_nil_of_le (by omega)]
    rfl

def eqSCode (s f : Nat) : AFn := ⟨27, [.t 4], (.seq (.region [⟨some 4, .op (.mv (.k (.bool false))), none⟩]) (.seq (.seq (.region [⟨some 6, .op (.mv (.t 0)), none⟩, ⟨some 7, .op (.len false (.t 6)), none⟩, ⟨some 8, .op (.mv (.t 1)), none⟩, ⟨some 9, .op (.len false (.t 8)), none⟩, ⟨some 10, .op (.bin .neq (.t 7) (.t 9)), none⟩]) (.cond (.t 10) (.seq (.region [⟨some 4, .op (.mv (.k (.bool false))), none⟩]) .ret) .skip)) (.seq (.seq (.region [⟨some 5, .op (.mv (.k (.int .i64 0))), none⟩]) (.block 0 (.loop (.seq (.seq (.region [⟨some 11, .op (.mv (.t 5)), none⟩, ⟨some 12, .op (.mv (.t 0)), none⟩, ⟨some 13, .op (.len false (.t 12)), none⟩, ⟨some 14, .op (.bin .lss (.t 11) (.t 13)), none⟩]) (.cond (.t 14) .skip (.exit 0))) (.seq (.block 1 (.seq (.draw [[⟨some 17, .op (.mv (.t 0)), none⟩, ⟨some 18, .op (.mv (.t 5)), none⟩, ⟨some 19, .op (.iaddr s (.t 17) (.t 18)), none⟩, ⟨some 20, .op (.load true s (.t 19)), none⟩, ⟨some 21, .op (.mv (.t 1)), none⟩, ⟨some 22, .op (.mv (.t 5)), none⟩, ⟨some 23, .op (.iaddr s (.t 21) (.t 22)), none⟩, ⟨some 24, .op (.load true s (.t 23)), none⟩], [⟨some 25, .call (.f f) [(.t 20), (.t 24)], none⟩], [⟨some 26, .op (.un .not (.t 25)), none⟩]]) (.cond (.t 26) (.seq (.region [⟨some 4, .op (.mv (.k (.bool false))), none⟩]) .ret) .skip))) (.region [⟨some 15, .op (.mv (.t 5)), none⟩, ⟨some 16, .op (.bin .add (.t 15) (.k (.int .i64 1))), none⟩, ⟨some 5, .op (.mv (.t 16)), none⟩])))))) (.seq (.region [⟨some 4, .op (.mv (.k (.bool true))), none⟩]) .ret))))⟩
theorem eqS_ok {P : Program} (hm : P.follows .mixedOrders = true) {fz : List Nat} {n s f : Nat} (hc : compFn P fz n = some (eqSCode s f)) {α : Type} [DecidableEq α] (enc : α → List Ce) (xs ys : List α) (hx : xs.length ≤ 34359738368) (hs : ∀ a, (enc a).length = s)
    (hf : ∀ a ∈ xs, ∀ b, Pure P f [.agg (enc a), .agg (enc b)] (.c (.bool (a == b)))) : Pure P n [.c (.fz (xs.map enc)), .c (.fz (ys.map enc))] (.c (.bool (xs == ys))) := by
  refine Pure.run hm hc (Nat.le_of_ble_eq_true rfl) fun σ hS hA => ?_
  clear hS hA
  repeat' first | (apply Go.adm; exact rfl) | apply Go.qs | apply Qg.nil | ((first | apply Go.v2 | apply Go.v1); (first | exact leAdd | assumption); iterate 6 exact rfl) | ((first | apply Go.op | apply Go.sop | apply Qg.op); exact rfl; (first | exact aop_alloc | exact aop_new rfl rfl | exact aop_mksl rfl | exact aop_lenM rfl | exact rfl | exact aL rfl rfl rfl rfl rfl | exact aS rfl rfl rfl rfl rfl rfl rfl)) | ((first | apply Go.no | apply Go.sno | apply Qg.no); exact rfl) | (exfalso; omega) | (((first | apply Go.iQ | apply Go.gQ | apply Go.sQ | apply Qg.gQ); exact rfl; (first | exact .d | exact .e | exact .n | ((fail_if_success exact bqt); (fail_if_success exact bqf); exact .b))) <;> intro _)
  · refine .ret rfl (.bool ?_)
    rw [eq_comm, beq_eq_false_iff_ne]
    rintro rfl
    simp at *
  refine Go.keep [0, 1, 5] (Go.loops (I := fun m fr τ => ∃ i : Nat, ∃ n : Int, m = xs.length - i ∧ i ≤ xs.length ∧ n = i ∧ (xs.length = ys.length ∧ (xs == ys) = (xs.drop i == ys.drop i)) ∧
    fr = [(0, .c (.fz (xs.map enc))), (1, .c (.fz (ys.map enc))), (5, .c (.int .i64 n))] ∧ τ = E σ []) ?_ _ _ _ ⟨0, _, rfl, Nat.zero_le _, rfl, ⟨by omega, rfl⟩, rfl, rfl⟩)
  rintro m fr τ ⟨i, n, rfl, hi, hn, ⟨hl, hsl⟩, rfl, rfl⟩ hrec
  by_cases hlt : i < xs.length
  · have hlt2 : i < ys.length := by omega
    have hp := hf _ (List.getElem_mem hlt) ys[i]
    repeat' first | (apply Go.adm; exact rfl) | apply Go.qs | apply Qg.nil | ((first | apply Go.v2 | apply Go.v1); (first | exact leAdd | assumption); iterate 6 exact rfl) | ((first | apply Go.op | apply Go.sop | apply Qg.op); exact rfl; (first | exact aop_alloc | exact aop_new rfl rfl | exact aop_mksl rfl | exact aop_lenM rfl | exact rfl | exact aL rfl rfl rfl rfl rfl | exact aS rfl rfl rfl rfl rfl rfl rfl | exact aop_iaddrM rfl rfl hn hlt (hs _) | exact aop_iaddrM rfl rfl hn hlt2 (hs _) | exact aop_loadF rfl (hs _))) | ((first | apply Go.no | apply Go.sno | apply Qg.no); exact rfl) | ((first | apply Go.pcallB | apply Go.spcallB | apply Qg.pcallB); (iterate 3 exact rfl); exact hp; intro _ _) | (exfalso; omega) | (((first | apply Go.iQ | apply Go.gQ | apply Go.sQ | apply Qg.gQ); exact rfl; (first | exact .d | exact .e | exact .n | ((fail_if_success exact bqt); (fail_if_success exact bqf); exact .b))) <;> intro _)
    · refine .ret rfl (.bool ?_)
      rw [hsl, List.drop_eq_getElem_cons hlt, List.drop_eq_getElem_cons hlt2, List.cons_beq_cons]
      clear hrec
      simp_all
    · refine Go.keep [0, 1, 5] (hrec _ _ _ (by omega) ⟨i + 1, _, rfl, hlt, wrap_succ hn (by omega), ⟨hl, ?_⟩, rfl, rfl⟩)
      rw [hsl, List.drop_eq_getElem_cons hlt, List.drop_eq_getElem_cons hlt2, List.cons_beq_cons]
      clear hrec
      simp_all
  · repeat' first | (apply Go.adm; exact rfl) | apply Go.qs | apply Qg.nil | ((first | apply Go.v2 | apply Go.v1); (first | exact leAdd | assumption); iterate 6 exact rfl) | ((first | apply Go.op | apply Go.sop | apply Qg.op); exact rfl; (first | exact aop_alloc | exact aop_new rfl rfl | exact aop_mksl rfl | exact aop_lenM rfl | exact rfl | exact aL rfl rfl rfl rfl rfl | exact aS rfl rfl rfl rfl rfl rfl rfl)) | ((first | apply Go.no | apply Go.sno | apply Qg.no); exact rfl) | (exfalso; omega) | (((first | apply Go.iQ | apply Go.gQ | apply Go.sQ | apply Qg.gQ); exact rfl; (first | exact .d | exact .e | exact .n | ((fail_if_success exact bqt); (fail_if_success exact bqf); exact .b))) <;> intro _)
    refine .ret rfl (.bool ?_)
    rw [hsl, List.drop_eq_nil_of_le (by omega), List.drop_eq_nil_of_le (by omega)]
    rfl
theorem retv_m {fr : Fr} {σ : Store} {l : List (Nat × List (List Ce))} {k v i t j s : Nat} {g : Bool} {es : List (List Ce)} {e : List Ce} {x : AV} (hp : look fr t = some (.c (.ptr (σ.next + k) v i j))) (hl : l[k]? = some (v, es)) (he : es[i]? = some e) (hj : j ≤ e.length) (hx : takeA g s (e.drop j) = some x) :
    retv fr (E σ l) [.m t g s] = some x := by
  simp [retv, revs, RV.ev, hp, Store.at_, E_at, hl, he, hj, hx]
theorem Tidy.mono {n m : Nat} (h : n ≤ m) {x : Ce} (ht : Tidy m x) : Tidy n x := by
  cases ht with
  | flat h => exact .flat h
  | sl id v i m c h => exact .sl _ _ _ _ _ (by omega)
  | ptr id v i j h => exact .ptr _ _ _ _ (by omega)
theorem TidyL.nil {n : Nat} : TidyL n [] := fun b hb => by simp at hb
theorem TidyL.cons {n v : Nat} {es : List (List Ce)} {l : List (Nat × List (List Ce))} (h : ∀ e ∈ es, ∀ x ∈ e, Tidy n x) (hl : TidyL n l) : TidyL n ((v, es) :: l) := by
  intro b hb e he x hx
  rcases List.mem_cons.1 hb with rfl | hb
  · exact h e he x hx
  · exact hl b hb e he x hx
theorem TidyL.one {n v : Nat} {e : List Ce} {l : List (Nat × List (List Ce))} (h : ∀ x ∈ e, Tidy n x) (hl : TidyL n l) : TidyL n ((v, [e]) :: l) :=
  .cons (fun e' he x hx => by simp at he; subst he; exact h x hx) hl
theorem TidyL.mono {n m : Nat} (h : n ≤ m) {l : List (Nat × List (List Ce))} (hl : TidyL m l) : TidyL n l := fun b hb e he x hx => (hl b hb e he x hx).mono h
theorem E_two {σ : Store} {a a' b b' : Nat × List (List Ce)} {l : List (Nat × List (List Ce))} {id : Nat} (h : σ.next + 2 ≤ id) : (E σ (a' :: b' :: l)).get id = (E σ (a :: b :: l)).get id := by
  rw [E_ge (by omega), E_ge (by omega)]
  obtain ⟨q, hq⟩ : ∃ q, id - σ.next = q + 2 := ⟨id - σ.next - 2, by omega⟩
  rw [hq]
  rfl
end Go.Proofs.Ytcfpdongfdhgjaa.Am

/- The laws' helpers on values and entries: sizes, copies, equality. -/
set_option linter.unusedVariables false
set_option linter.unusedSimpArgs false
namespace Go.Proofs.Ytcfpdongfdhgjaa.Am

def szV (v : Val) (left : Int) : Int := if left - v.s.length < 0 then -1 else left - v.s.length
def szE (e : Entry) (left : Int) : Int := if szL szV e.key left < 0 then -1 else szL szV e.key left
theorem szV_le (v : Val) (l : Int) (h : 0 ≤ l) : szV v l ≤ l := by
  simp only [szV]
  split <;> omega
theorem szE_le (e : Entry) (l : Int) (h : 0 ≤ l) : szE e l ≤ l := by
  have := szL_le szV_le e.key l h
  simp only [szE]
  split <;> omega
theorem szVal_ok (v : Val) (left : Int) (hx : v.s.length ≤ 1125899906842624) (h0 : 0 ≤ left) (h1 : left ≤ 34359738368) : Pure Try.prog 29 [.agg (encV v), .c (.int .i64 left)] (.c (.int .i64 (szV v left))) := by
  refine Pure.run mixed c_laws_szVal_ok (Nat.le_of_ble_eq_true rfl) fun σ hS hA => ?_
  clear hS hA
  have hw : IntKind.i64.wrap (left - v.s.length) = left - v.s.length := wrap64 (by omega) (by omega)
  repeat' first | (apply Go.adm; exact rfl) | apply Go.qs | apply Qg.nil | ((first | apply Go.v2 | apply Go.v1); (first | exact leAdd | assumption); iterate 6 exact rfl) | ((first | apply Go.op | apply Go.sop | apply Qg.op); exact rfl; (first | exact aop_alloc | exact aop_new rfl rfl | exact aop_mksl rfl | exact aop_lenM rfl | exact rfl | exact aL rfl rfl rfl rfl rfl | exact aS rfl rfl rfl rfl rfl rfl rfl)) | ((first | apply Go.no | apply Go.sno | apply Qg.no); exact rfl) | (exfalso; omega) | (((first | apply Go.iQ | apply Go.gQ | apply Go.sQ | apply Qg.gQ); exact rfl; (first | exact .d | exact .e | exact .n | ((fail_if_success exact bqt); (fail_if_success exact bqf); exact .b))) <;> intro _)
  · refine .ret rfl (.int ?_)
    rename_i h
    rw [hw] at h
    rw [szV, if_pos h]
  · refine .ret rfl (.int ?_)
    rename_i h
    rw [hw] at h ⊢
    rw [szV, if_neg h]
def LenV (v : Val) : Prop := v.s.length ≤ 1125899906842624
def LenE (e : Entry) : Prop := e.key.length ≤ 1125899906842624 ∧ ∀ v ∈ e.key, LenV v
theorem szValS_ok (xs : List Val) (left : Int) (hx : xs.length ≤ 1125899906842624) (hv : ∀ v ∈ xs, LenV v) (h0 : 0 ≤ left) (h1 : left ≤ 34359738368) : Pure Try.prog 15 [.c (.fz (xs.map encV)), .c (.int .i64 left)] (.c (.int .i64 (szL szV xs left))) :=
  szS_ok mixed c_laws_szValS_ok encV szV xs left hx h0 h1 (fun _ => rfl) szV_le fun a ha l h2 h3 => szVal_ok a l (hv a ha) h2 (by omega)
theorem szEntry_ok (e : Entry) (left : Int) (hx : LenE e) (h0 : 0 ≤ left) (h1 : left ≤ 34359738368) : Pure Try.prog 5 [.agg (encE e), .c (.int .i64 left)] (.c (.int .i64 (szE e left))) := by
  refine Pure.run mixed c_laws_szEntry_ok (Nat.le_of_ble_eq_true rfl) fun σ hS hA => ?_
  clear hS hA
  repeat' first | (apply Go.adm; exact rfl) | apply Go.qs | apply Qg.nil | ((first | apply Go.v2 | apply Go.v1); (first | exact leAdd | assumption); iterate 6 exact rfl) | ((first | apply Go.op | apply Go.sop | apply Qg.op); exact rfl; (first | exact aop_alloc | exact aop_new rfl rfl | exact aop_mksl rfl | exact aop_lenM rfl | exact rfl | exact aL rfl rfl rfl rfl rfl | exact aS rfl rfl rfl rfl rfl rfl rfl)) | ((first | apply Go.no | apply Go.sno | apply Qg.no); exact rfl) | ((first | apply Go.pcallI | apply Go.spcallI | apply Qg.pcallI); (iterate 3 exact rfl); exact szValS_ok e.key left hx.1 hx.2 h0 h1; intro _ _) | (exfalso; omega) | (((first | apply Go.iQ | apply Go.gQ | apply Go.sQ | apply Qg.gQ); exact rfl; (first | exact .d | exact .e | exact .n | ((fail_if_success exact bqt); (fail_if_success exact bqf); exact .b))) <;> intro _)
  all_goals refine .ret rfl (.int ?_)
  · rw [szE, if_pos (by omega)]
  · rw [szE, if_neg (by omega)]
    omega
theorem szEntryS_ok (xs : List Entry) (left : Int) (hx : xs.length ≤ 1125899906842624) (hv : ∀ e ∈ xs, LenE e) (h0 : 0 ≤ left) (h1 : left ≤ 34359738368) : Pure Try.prog 4 [.c (.fz (xs.map encE)), .c (.int .i64 left)] (.c (.int .i64 (szL szE xs left))) :=
  szS_ok mixed c_laws_szEntryS_ok encE szE xs left hx h0 h1 (fun _ => rfl) szE_le fun a ha l h2 h3 => szEntry_ok a l (hv a ha) h2 (by omega)

theorem flatV (v : Val) : ∀ x ∈ encV v, Flat x := by
  intro x hx
  simp only [encV, List.mem_cons, List.not_mem_nil, or_false] at hx
  rcases hx with rfl | rfl | rfl <;> constructor
theorem toVal_ok (v : Val) (σ : Store) : Ok Try.prog 33 [.agg (encV v)] σ (NewL σ (encV v)) := by
  refine Ok.run mixed c_laws_toVal_ok (Nat.le_of_ble_eq_true rfl) fun hS hA => ?_
  clear hS hA
  repeat' first | (apply Go.adm; exact rfl) | apply Go.qs | apply Qg.nil | ((first | apply Go.v2 | apply Go.v1); (first | exact leAdd | assumption); iterate 6 exact rfl) | ((first | apply Go.op | apply Go.sop | apply Qg.op); exact rfl; (first | exact aop_alloc | exact aop_new rfl rfl | exact aop_mksl rfl | exact aop_lenM rfl | exact rfl | exact aL rfl rfl rfl rfl rfl | exact aS rfl rfl rfl rfl rfl rfl rfl)) | ((first | apply Go.no | apply Go.sno | apply Qg.no); exact rfl) | (exfalso; omega) | (((first | apply Go.iQ | apply Go.gQ | apply Go.sQ | apply Qg.gQ); exact rfl; (first | exact .d | exact .e | exact .n | ((fail_if_success exact bqt); (fail_if_success exact bqf); exact .b))) <;> intro _)
  refine .ret (retv_m rfl rfl rfl (Nat.le_of_ble_eq_true rfl) rfl) ⟨encV v, _, rfl, rfl, ?_, .flat (flatV v)⟩
  show TidyL σ.next [(0, [encV v]), (0, [encV v])]
  exact .one (fun x hx => .flat (flatV v x hx)) (.one (fun x hx => .flat (flatV v x hx)) .nil)
theorem toValS_ok (xs : List Val) (hx : xs.length ≤ 34359738368) (σ : Store) : Ok Try.prog 20 [.c (.fz (xs.map encV))] σ (New σ (.fz (xs.map encV))) :=
  toS_ok mixed c_laws_toValS_ok encV xs hx (by decide) rfl (fun _ => rfl) (by intro x hx; simp only [List.mem_cons, List.not_mem_nil, or_false] at hx; rcases hx with rfl | rfl | rfl <;> constructor) (fun a _ σ => toVal_ok a σ) σ
theorem toEntry_ok (e : Entry) (hx : e.key.length ≤ 34359738368) (σ : Store) : Ok Try.prog 8 [.agg (encE e)] σ (NewL σ (encE e)) := by
  refine Ok.run mixed c_laws_toEntry_ok (Nat.le_of_ble_eq_true rfl) fun hS hA => ?_
  clear hS hA
  repeat' first | (apply Go.adm; exact rfl) | apply Go.qs | apply Qg.nil | ((first | apply Go.v2 | apply Go.v1); (first | exact leAdd | assumption); iterate 6 exact rfl) | ((first | apply Go.op | apply Go.sop | apply Qg.op); exact rfl; (first | exact aop_alloc | exact aop_new rfl rfl | exact aop_mksl rfl | exact aop_lenM rfl | exact rfl | exact aL rfl rfl rfl rfl rfl | exact aS rfl rfl rfl rfl rfl rfl rfl)) | ((first | apply Go.no | apply Go.sno | apply Qg.no); exact rfl) | (exfalso; omega) | (((first | apply Go.iQ | apply Go.gQ | apply Go.sQ | apply Qg.gQ); exact rfl; (first | exact .d | exact .e | exact .n | ((fail_if_success exact bqt); (fail_if_success exact bqf); exact .b))) <;> intro _)
  refine Go.call _ rfl rfl rfl (toValS_ok e.key hx _) ?_
  rintro r σ1 ⟨x, l2, rfl, rfl, ht, hh⟩
  rw [E_E] at hh ⊢
  repeat' first | (apply Go.adm; exact rfl) | apply Go.qs | apply Qg.nil | ((first | apply Go.v2 | apply Go.v1); (first | exact leAdd | assumption); iterate 6 exact rfl) | ((first | apply Go.op | apply Go.sop | apply Qg.op); exact rfl; (first | exact aop_alloc | exact aop_new rfl rfl | exact aop_mksl rfl | exact aop_lenM rfl | exact rfl | exact aL rfl rfl rfl rfl rfl | exact aS rfl rfl rfl rfl rfl rfl rfl)) | ((first | apply Go.no | apply Go.sno | apply Qg.no); exact rfl) | (exfalso; omega) | (((first | apply Go.iQ | apply Go.gQ | apply Go.sQ | apply Qg.gQ); exact rfl; (first | exact .d | exact .e | exact .n | ((fail_if_success exact bqt); (fail_if_success exact bqf); exact .b))) <;> intro _)
  refine .ret (retv_m rfl rfl rfl (Nat.le_of_ble_eq_true rfl) rfl) ⟨[x, .int .i64 e.id], _, rfl, rfl, ?_, ?_⟩
  · show TidyL σ.next ((0, [[x, .int .i64 e.id]]) :: (0, [[x, .int .i64 e.id]]) :: l2)
    have hx : ∀ y ∈ [x, Ce.int .i64 e.id], Tidy σ.next y := by
      intro y hy
      simp only [List.mem_cons, List.not_mem_nil, or_false] at hy
      rcases hy with rfl | rfl
      · exact hh.tidy fun a ha => by have := ha.1; simp [E_next] at this; omega
      · exact .flat (.int _ _)
    exact .one hx (.one hx (ht.mono (by simp [E_next])))
  · refine ⟨fun j a => j = 0 ∧ σ.next + 2 ≤ a ∧ a < (E σ ((0, [[x, .int .i64 e.id]]) :: (0, [[x, .int .i64 e.id]]) :: l2)).next, rfl, fun j a ha => ⟨by omega, ha.2.2⟩, fun j j' a h h' => by omega, fun j hy hx => ?_⟩
    match j, hy, hx with
    | 0, _, _ =>
      refine (hh.frame fun a ha => ?_).mono fun a ha => ⟨rfl, ?_, ?_⟩
      · exact E_two (by have := ha.1; simp [E_next] at this; omega)
      · have := ha.1; simp [E_next] at this; omega
      · have := ha.2; simp [E_next] at this ⊢; omega
    | 1, _, _ => exact .c (.int _ _)
theorem toEntryS_ok (xs : List Entry) (hx : xs.length ≤ 34359738368) (hk : ∀ e ∈ xs, e.key.length ≤ 34359738368) (σ : Store) : Ok Try.prog 7 [.c (.fz (xs.map encE))] σ (New σ (.fz (xs.map encE))) :=
  toS_ok mixed c_laws_toEntryS_ok encE xs hx (by decide) rfl (fun _ => rfl) (by intro x hx; simp only [List.mem_cons, List.not_mem_nil, or_false] at hx; rcases hx with rfl | rfl <;> constructor) (fun a ha σ => toEntry_ok a (hk a ha) σ) σ
theorem eqEntry_ok (e f : Entry) (hx : e.key.length ≤ 34359738368) : Pure Try.prog 11 [.agg (encE e), .agg (encE f)] (.c (.bool (e == f))) := by
  refine Pure.run mixed c_laws_eqEntry_ok (Nat.le_of_ble_eq_true rfl) fun σ hS hA => ?_
  clear hS hA
  repeat' first | (apply Go.adm; exact rfl) | apply Go.qs | apply Qg.nil | ((first | apply Go.v2 | apply Go.v1); (first | exact leAdd | assumption); iterate 6 exact rfl) | ((first | apply Go.op | apply Go.sop | apply Qg.op); exact rfl; (first | exact aop_alloc | exact aop_new rfl rfl | exact aop_mksl rfl | exact aop_lenM rfl | exact rfl | exact aL rfl rfl rfl rfl rfl | exact aS rfl rfl rfl rfl rfl rfl rfl)) | ((first | apply Go.no | apply Go.sno | apply Qg.no); exact rfl) | ((first | apply Go.pcallB | apply Go.spcallB | apply Qg.pcallB); (iterate 3 exact rfl); exact eqValS_ok e.key f.key hx; intro _ _) | (exfalso; omega) | (((first | apply Go.iQ | apply Go.gQ | apply Go.sQ | apply Qg.gQ); exact rfl; (first | exact .d | exact .e | exact .n | ((fail_if_success exact bqt); (fail_if_success exact bqf); exact .b))) <;> intro _)
  all_goals refine .ret rfl (.bool ?_)
  all_goals obtain ⟨a, b⟩ := e
  all_goals obtain ⟨c, d⟩ := f
  all_goals simp_all
theorem eqEntryS_ok (xs ys : List Entry) (hx : xs.length ≤ 34359738368) (hk : ∀ e ∈ xs, e.key.length ≤ 34359738368) : Pure Try.prog 10 [.c (.fz (xs.map encE)), .c (.fz (ys.map encE))] (.c (.bool (xs == ys))) :=
  eqS_ok mixed c_laws_eqEntryS_ok encE xs ys hx (fun _ => rfl) fun a ha b => eqEntry_ok a b (hk a ha)
end Go.Proofs.Ytcfpdongfdhgjaa.Am

/- The abstract machine, part 26: writing into owned trees; the laws' marks. -/
set_option linter.unusedVariables false
set_option linter.unusedSimpArgs false
namespace Go.Proofs.Ytcfpdongfdhgjaa.Am
open Go.RowKit

/-- What a slice's tree is made of. -/
theorem Has.open {σ : Store} {S : Nat → Prop} {ys : List (List Ce)} {x : Ce} (h : Has σ S (.fz ys) x) (hne : 0 < ys.length) : ∃ (id v s : Nat) (cs junk : List (List Ce)) (T : Nat → Nat → Nat → Prop), x = .sl id v 0 ys.length (ys.length + junk.length) ∧ σ.get id = some (v, cs ++ junk) ∧ S id ∧ ∃ hl : cs.length = ys.length,
    ∃ hs : ∀ i (hi : i < ys.length), (cs[i]'(by omega)).length = ys[i].length, (∀ e ∈ cs ++ junk, e.length = s) ∧ (∀ e ∈ junk, ∀ x ∈ e, Flat x) ∧ (∀ i j a, T i j a → S a ∧ a ≠ id) ∧ (∀ i j i' j' a, T i j a → T i' j' a → i = i' ∧ j = j') ∧
      ∀ i j (hi : i < ys.length) (hj : j < ys[i].length), Has σ (T i j) ys[i][j] ((cs[i]'(by omega))[j]'(by have := hs i hi; omega)) := by
  cases h with
  | c h => cases h
  | nil => simp at hne
  | o ys id v s cs junk T hg hS hl hs hall hj hT hd h => exact ⟨id, v, s, cs, junk, T, rfl, hg, hS, hl, hs, hall, hj, hT, hd, h⟩
theorem splice_set {e : List Ce} {j : Nat} {z : Ce} (h : j < e.length) : splice e j [z] = e.set j z := by
  simp only [splice, List.length_singleton]
  rw [List.set_eq_take_append_cons_drop, if_pos h]
  simp
/-- A flat cell of the tree's upper block is written. -/
theorem Has.write {σ : Store} {S : Nat → Prop} {ys : List (List Ce)} {x : Ce} (h : Has σ S (.fz ys) x) {i j : Nat} (hi : i < ys.length) (hj : j < ys[i].length) : ∃ (id v : Nat) (c : Nat) (es : List (List Ce)) (e : List Ce), x = .sl id v 0 ys.length c ∧ σ.get id = some (v, es) ∧ es[0 + i]? = some e ∧ e.length = ys[i].length ∧ S id ∧
    ∀ z, Flat z → Has (σ.put id (v, es.set (0 + i) (splice e (0 + j) [z]))) S (.fz (ys.set i (ys[i].set j z))) x := by
  obtain ⟨id, v, s, cs, junk, T, rfl, hg, hS, hl, hs, hall, hjk, hT, hd, hh⟩ := h.open (by omega)
  have hic : i < cs.length := by omega
  refine ⟨id, v, _, cs ++ junk, cs[i], rfl, hg, by rw [Nat.zero_add, List.getElem?_append_left hic, List.getElem?_eq_getElem hic], hs i hi, hS, fun z hz => ?_⟩
  have hlen : cs[i].length = ys[i].length := hs i hi
  simp only [Nat.zero_add]
  rw [splice_set (by omega), List.set_append_left _ _ hic]
  have hy : (ys.set i (ys[i].set j z)).length = ys.length := by simp
  have key := Has.o (σ := σ.put id (v, cs.set i (cs[i].set j z) ++ junk)) (S := S) (ys.set i (ys[i].set j z)) id v s (cs.set i (cs[i].set j z)) junk T (put_self rfl) hS (by simp [hl])
    (fun k hk => by
      have hk' : k < ys.length := by simpa using hk
      by_cases e : k = i
      · subst e; simp [hlen]
      · rw [List.getElem_set_ne (Ne.symm e), List.getElem_set_ne (Ne.symm e)]; exact hs k hk')
    (fun e he => by
      rcases List.mem_append.1 he with h1 | h1
      · rcases List.mem_or_eq_of_mem_set h1 with h2 | h2
        · exact hall e (List.mem_append_left _ h2)
        · subst h2
          rw [List.length_set]
          exact hall _ (List.mem_append_left _ (List.getElem_mem hic))
      · exact hall e (List.mem_append_right _ h1)) hjk hT hd
    (fun k m hk hm => by
      have hk' : k < ys.length := by simpa using hk
      have fr : ∀ {k m} {y x : Ce}, Has σ (T k m) y x → Has (σ.put id (v, cs.set i (cs[i].set j z) ++ junk)) (T k m) y x := fun h => h.frame fun a ha => put_ne (hT _ _ a ha).2
      by_cases e : k = i
      · subst e
        have e1 : (ys.set k (ys[k].set j z))[k] = ys[k].set j z := by simp
        have e2 : (cs.set k (cs[k].set j z))[k]'(by simp; omega) = cs[k].set j z := by simp
        simp only [e1, e2]
        by_cases e3 : m = j
        · subst e3
          simp only [List.getElem_set_self]
          exact .c hz
        · have hm' : m < ys[k].length := by simpa using hm
          rw [List.getElem_set_ne (Ne.symm e3), List.getElem_set_ne (Ne.symm e3)]
          exact fr (hh k m hk' hm')
      · have e1 : (ys.set i (ys[i].set j z))[k] = ys[k] := by rw [List.getElem_set_ne (Ne.symm e)]
        have e2 : (cs.set i (cs[i].set j z))[k]'(by simp; omega) = cs[k]'(by omega) := by rw [List.getElem_set_ne (Ne.symm e)]
        simp only [e1, e2]
        exact fr (hh k m hk' (by simpa only [e1] using hm)))
  rw [hy] at key
  exact key
/-- A tree below is handed on and comes back changed. -/
theorem Has.child {σ : Store} {S : Nat → Prop} {ys : List (List Ce)} {x : Ce} (h : Has σ S (.fz ys) x) {i j : Nat} (hi : i < ys.length) (hj : j < ys[i].length) : ∃ (id v : Nat) (c : Nat) (es : List (List Ce)) (e : List Ce) (T : Nat → Prop), x = .sl id v 0 ys.length c ∧ σ.get id = some (v, es) ∧ es[0 + i]? = some e ∧ e.length = ys[i].length ∧ (∀ a, T a → S a) ∧
    ∃ hj' : j < e.length, Has σ T ys[i][j] e[j] ∧ ∀ σ' y', (∀ a, ¬ T a → σ'.get a = σ.get a) → Has σ' T y' e[j] → Has σ' S (.fz (ys.set i (ys[i].set j y'))) x := by
  obtain ⟨id, v, s, cs, junk, T, rfl, hg, hS, hl, hs, hall, hjk, hT, hd, hh⟩ := h.open (by omega)
  have hic : i < cs.length := by omega
  have hlen : cs[i].length = ys[i].length := hs i hi
  refine ⟨id, v, _, cs ++ junk, cs[i], T i j, rfl, hg, by rw [Nat.zero_add, List.getElem?_append_left hic, List.getElem?_eq_getElem hic], hlen, fun a ha => (hT i j a ha).1, by omega, hh i j hi hj, fun σ' y' hf hy' => ?_⟩
  have hy : (ys.set i (ys[i].set j y')).length = ys.length := by simp
  have key := Has.o (σ := σ') (S := S) (ys.set i (ys[i].set j y')) id v s cs junk T (by rw [hf id (fun h => (hT i j id h).2 rfl)]; exact hg) hS (by simp [hl])
    (fun k hk => by
      have hk' : k < ys.length := by simpa using hk
      by_cases e : k = i
      · subst e; simp [hlen]
      · rw [List.getElem_set_ne (Ne.symm e)]; exact hs k hk') hall hjk hT hd
    (fun k m hk hm => by
      have hk' : k < ys.length := by simpa using hk
      have fr : ∀ {k m} {y x : Ce}, ¬ (k = i ∧ m = j) → Has σ (T k m) y x → Has σ' (T k m) y x := fun hne h => h.frame fun a ha => hf a fun h2 => hne (hd _ _ _ _ a ha h2)
      by_cases e : k = i
      · subst e
        have e1 : (ys.set k (ys[k].set j y'))[k] = ys[k].set j y' := by simp
        simp only [e1]
        by_cases e3 : m = j
        · subst e3
          simp only [List.getElem_set_self]
          exact hy'
        · have hm' : m < ys[k].length := by simpa using hm
          rw [List.getElem_set_ne (Ne.symm e3)]
          exact fr (by omega) (hh k m hk' hm')
      · have e1 : (ys.set i (ys[i].set j y'))[k] = ys[k] := by rw [List.getElem_set_ne (Ne.symm e)]
        simp only [e1]
        exact fr (by omega) (hh k m hk' (by simpa only [e1] using hm)))
  rw [hy] at key
  exact key

/-! ### Operations on a block of a store, whichever it is -/
theorem aop_iaddrO {fr : Fr} {σ : Store} {s id v i m c n : Nat} {x y : Opd} {kd : IntKind} {es : List (List Ce)} {z : Int} (hx : x.ev fr = some (.c (.sl id v i m c))) (hy : y.ev fr = some (.c (.int kd z))) (hz : z = (n : Int)) (hn : n < m) (hl : σ.get id = some (v, es)) {e : List Ce} (he : es[i + n]? = some e) (hs : e.length = s) :
    aop (.iaddr s x y) fr σ = some (.c (.ptr id v (i + n) 0), σ) := by
  subst hz
  simp [aop, hx, hy, iaddrA, hn, hl, he, hs]
theorem aop_storeO {fr : Fr} {σ : Store} {id v i j : Nat} {a y : Opd} {es : List (List Ce)} {e : List Ce} {z : Ce} (ha : a.ev fr = some (.c (.ptr id v i j))) (hy : y.ev fr = some (.c z)) (hl : σ.get id = some (v, es)) (he : es[i]? = some e) (hj : j < e.length) :
    aop (.store 1 a y) fr σ = some (.un, σ.put id (v, es.set i (splice e j [z]))) := by
  have : j + 1 ≤ e.length := by omega
  simp [aop, ha, hy, AV.cells, hl, he, this]
theorem aop_loadO {fr : Fr} {σ : Store} {id v i j : Nat} {a : Opd} {es : List (List Ce)} {e : List Ce} (ha : a.ev fr = some (.c (.ptr id v i j))) (hl : σ.get id = some (v, es)) (he : es[i]? = some e) (hj : j < e.length) :
    aop (.load false 1 a) fr σ = some (.c e[j], σ) := by
  have h1 : j ≤ e.length := by omega
  have h2 : e.drop j = e[j] :: e.drop (j + 1) := List.drop_eq_getElem_cons hj
  simp only [aop, ha, Store.at_, hl, he, if_true, Option.bind_some, if_pos h1, h2, takeA]
  rfl

theorem aop_lenH {fr : Fr} {σ : Store} {S : Nat → Prop} {ys : List (List Ce)} {x : Ce} {o : Opd} (hx : o.ev fr = some (.c x)) (h : Has σ S (.fz ys) x) : aop (.len false o) fr σ = some (.c (.int .i64 (ys.length : Int)), σ) := by
  cases h with
  | c h => cases h
  | nil => simp [aop, hx]
  | o ys id v s cs junk T hg hS hl hs hall hj hT hd h => simp [aop, hx]

/-- The call marks a tree, in place. -/
structure Marks (P : Program) (f : Nat) (y y' : Ce) (k k' : Int) : Prop where
  at_ : ∀ σ S x, Has σ S y x → Ok P f [.c x, .c (.int .i64 k)] σ (fun r σ' => r = .c (.int .i64 k') ∧ σ'.next = σ.next ∧ (∀ a, ¬ S a → σ'.get a = σ.get a) ∧ Has σ' S y' x)

/-- The marks' loop: B marks one element. -/
def markSCode (nt q : Nat) (B : AC) : AFn := ⟨nt, [.t 4], (.seq (.region [⟨some 4, .op (.mv (.k (.int .i64 0))), none⟩]) (.seq (.seq (.region [⟨some 5, .op (.mv (.k (.int .i64 0))), none⟩]) (.block 0 (.loop (.seq (.seq (.region [⟨some 6, .op (.mv (.t 5)), none⟩, ⟨some 7, .op (.mv (.t 0)), none⟩, ⟨some 8, .op (.len false (.t 7)), none⟩, ⟨some 9, .op (.bin .lss (.t 6) (.t 8)), none⟩]) (.cond (.t 9) .skip (.exit 0))) (.seq (.block 1 B) (.region [⟨some 10, .op (.mv (.t 5)), none⟩, ⟨some 11, .op (.bin .add (.t 10) (.k (.int .i64 1))), none⟩, ⟨some 5, .op (.mv (.t 11)), none⟩])))))) (.seq (.region [⟨some q, .op (.mv (.t 1)), none⟩, ⟨some 4, .op (.mv (.t q)), none⟩]) .ret)))⟩
def markL {α : Type} (m : α → Int → α) (c : α → Int) : List α → Int → List α
  | [], _ => []
  | a :: r, k => m a k :: markL m c r (k + c a)
def cntL {α : Type} (c : α → Int) : List α → Int
  | [] => 0
  | a :: r => c a + cntL c r
theorem markL_length {α : Type} {m : α → Int → α} {c : α → Int} : ∀ {xs : List α} {k : Int}, (markL m c xs k).length = xs.length
  | [], k => rfl
  | a :: r, k => by simp [markL, markL_length]
theorem markL_append {α : Type} {m : α → Int → α} {c : α → Int} : ∀ {xs ys : List α} {k : Int}, markL m c (xs ++ ys) k = markL m c xs k ++ markL m c ys (k + cntL c xs)
  | [], ys, k => by simp [markL, cntL]
  | a :: r, ys, k => by
    simp only [List.cons_append, markL, markL_append, cntL]
    rw [Int.add_assoc]
theorem cntL_append {α : Type} {c : α → Int} : ∀ {xs ys : List α}, cntL c (xs ++ ys) = cntL c xs + cntL c ys
  | [], ys => by simp [cntL]
  | a :: r, ys => by
    simp only [List.cons_append, cntL, cntL_append]
    omega
theorem cntL_nonneg {α : Type} {c : α → Int} (h : ∀ a, 0 ≤ c a) : ∀ xs : List α, 0 ≤ cntL c xs
  | [] => Int.le_refl _
  | a :: r => by
    have := cntL_nonneg h r
    have := h a
    simp only [cntL]
    omega
theorem markS_ok {P : Program} (hm : P.follows .mixedOrders = true) {fz : List Nat} {n nt q : Nat} {B : AC} (hc : compFn P fz n = some (markSCode nt q B)) (hnt : 2 ≤ nt) (hq : 12 ≤ q) {α : Type} (enc : α → List Ce) (m : α → Int → α) (c : α → Int) (hc0 : ∀ a, 0 ≤ c a) (xs : List α) (k : Int) (hx : xs.length ≤ 34359738368) (hk0 : 0 ≤ k) (hk : k + cntL c xs ≤ 34359738368)
    (hB : ∀ (n0 : Nat) (rets : List RV) (R : AV → Store → Prop) (K : List AK) (σ τ : Store) (S : Nat → Prop) (x : Ce) (i : Nat) (ni : Int) (ki : Int) (ys : List α) (hi : i < ys.length) (fr : Fr), n0 ≤ τ.next → ys.length ≤ 34359738368 → ni = (i : Int) → 0 ≤ ki → ki + c ys[i] ≤ 34359738368 →
      look fr 0 = some (.c x) → look fr 1 = some (.c (.int .i64 ki)) → look fr 5 = some (.c (.int .i64 ni)) → ys[i] ∈ xs → Has τ S (.fz (ys.map enc)) x →
      (∀ fr' τ', look fr' 0 = some (.c x) → look fr' 1 = some (.c (.int .i64 (ki + c ys[i]))) → look fr' 5 = some (.c (.int .i64 ni)) → τ'.next = τ.next → (∀ a, ¬ S a → τ'.get a = τ.get a) → Has τ' S (.fz ((ys.set i (m ys[i] ki)).map enc)) x → Go P n0 nt rets R K fr' τ') →
      Go P n0 nt rets R (.code B :: K) fr τ) : Marks P n (.fz (xs.map enc)) (.fz ((markL m c xs k).map enc)) k (k + cntL c xs) := by
  constructor
  intro σ S x hh
  refine .old hc fun hS hA => .of_go hm hc (by simpa [markSCode] using hnt) ?_
  have hlen : (xs.map enc).length = xs.length := by simp
  repeat' first | (apply Go.adm; exact rfl) | apply Go.qs | apply Qg.nil | ((first | apply Go.v2 | apply Go.v1); (first | exact leAdd | assumption); iterate 6 exact rfl) | ((first | apply Go.op | apply Go.sop | apply Qg.op); exact rfl; (first | exact aop_alloc | exact aop_new rfl rfl | exact aop_mksl rfl | exact aop_lenM rfl | exact rfl | exact aL rfl rfl rfl rfl rfl | exact aS rfl rfl rfl rfl rfl rfl rfl)) | ((first | apply Go.no | apply Go.sno | apply Qg.no); exact rfl) | (exfalso; omega) | (((first | apply Go.iQ | apply Go.gQ | apply Go.sQ | apply Qg.gQ); exact rfl; (first | exact .d | exact .e | exact .n | ((fail_if_success exact bqt); (fail_if_success exact bqf); exact .b))) <;> intro _)
  refine Go.keep [0, 1, 5] (Go.loops (I := fun mm fr τ => ∃ i : Nat, ∃ n ki : Int, mm = xs.length - i ∧ i ≤ xs.length ∧ n = i ∧ (ki = k + cntL c (xs.take i) ∧ τ.next = σ.next ∧ (∀ a, ¬ S a → τ.get a = σ.get a) ∧ Has τ S (.fz ((markL m c (xs.take i) k ++ xs.drop i).map enc)) x) ∧
    fr = [(0, .c x), (1, .c (.int .i64 ki)), (5, .c (.int .i64 n))]) ?_ _ _ _ ⟨0, _, _, rfl, Nat.zero_le _, rfl, ⟨by simp [cntL], rfl, fun _ _ => rfl, by simpa [markL] using hh⟩, rfl⟩)
  rintro mm fr τ ⟨i, n, ki, rfl, hi, hn, ⟨hki, hnx, hfr, hhi⟩, rfl⟩ hrec
  by_cases hlt : i < xs.length
  · have hmap : (((markL m c (xs.take i) k ++ xs.drop i).map enc).length : Int) = xs.length := by simp [markL_length]; omega
    repeat' first | (apply Go.adm; exact rfl) | apply Go.qs | apply Qg.nil | ((first | apply Go.v2 | apply Go.v1); (first | exact leAdd | assumption); iterate 6 exact rfl) | ((first | apply Go.op | apply Go.sop | apply Qg.op); exact rfl; (first | exact aop_alloc | exact aop_new rfl rfl | exact aop_mksl rfl | exact aop_lenM rfl | exact rfl | exact aL rfl rfl rfl rfl rfl | exact aS rfl rfl rfl rfl rfl rfl rfl | exact aop_lenH rfl hhi)) | ((first | apply Go.no | apply Go.sno | apply Qg.no); exact rfl) | (exfalso; omega) | (((first | apply Go.iQ | apply Go.gQ | apply Go.sQ | apply Qg.gQ); exact rfl; (first | exact .d | exact .e | exact .n | ((fail_if_success exact bqt); (fail_if_success exact bqf); exact .b))) <;> intro _)
    rw [hmap]
    repeat' first | (apply Go.adm; exact rfl) | apply Go.qs | apply Qg.nil | ((first | apply Go.v2 | apply Go.v1); (first | exact leAdd | assumption); iterate 6 exact rfl) | ((first | apply Go.op | apply Go.sop | apply Qg.op); exact rfl; (first | exact aop_alloc | exact aop_new rfl rfl | exact aop_mksl rfl | exact aop_lenM rfl | exact rfl | exact aL rfl rfl rfl rfl rfl | exact aS rfl rfl rfl rfl rfl rfl rfl)) | ((first | apply Go.no | apply Go.sno | apply Qg.no); exact rfl) | (exfalso; omega) | (((first | apply Go.iQ | apply Go.gQ | apply Go.sQ | apply Qg.gQ); exact rfl; (first | exact .d | exact .e | exact .n | ((fail_if_success exact bqt); (fail_if_success exact bqf); exact .b))) <;> intro _)
    · have hyl : (markL m c (xs.take i) k ++ xs.drop i).length = xs.length := by simp [markL_length]; omega
      have hyi : (markL m c (xs.take i) k ++ xs.drop i)[i]'(by omega) = xs[i] := by
        rw [List.getElem_append_right (by simp [markL_length]; omega)]
        simp [markL_length, Nat.min_eq_left (Nat.le_of_lt hlt)]
      have htk : xs.take (i + 1) = xs.take i ++ [xs[i]] := List.take_succ_eq_append_getElem hlt
      have hcs : cntL c (xs.take (i + 1)) = cntL c (xs.take i) + c xs[i] := by rw [htk, cntL_append]; simp [cntL]
      have hle : cntL c (xs.take (i + 1)) ≤ cntL c xs := by
        have h1 : cntL c xs = cntL c (xs.take (i + 1)) + cntL c (xs.drop (i + 1)) := by rw [← cntL_append, List.take_append_drop]
        have := cntL_nonneg hc0 (xs.drop (i + 1))
        omega
      have hn0 := cntL_nonneg hc0 (xs.take i)
      refine hB _ _ _ _ σ τ S _ i n ki (markL m c (xs.take i) k ++ xs.drop i) (by omega) _ (by omega) (by omega) hn (by omega) (by rw [hyi]; omega) rfl rfl rfl (by rw [hyi]; exact List.getElem_mem hlt) hhi ?_
      intro fr' τ' h0 h1 h5 hnx' hfr' hh'
      rw [hyi] at h1 hh'
      refine .same (fr' := (0, .c x) :: (1, .c (.int .i64 (ki + c xs[i]))) :: (5, .c (.int .i64 n)) :: fr') (fun t => ?_) ?_
      · simp only [look]
        split
        · rename_i e; subst e; exact h0.symm
        · split
          · rename_i e; subst e; exact h1.symm
          · split
            · rename_i e; subst e; exact h5.symm
            · rfl
      repeat' first | (apply Go.adm; exact rfl) | apply Go.qs | apply Qg.nil | ((first | apply Go.v2 | apply Go.v1); (first | exact leAdd | assumption); iterate 6 exact rfl) | ((first | apply Go.op | apply Go.sop | apply Qg.op); exact rfl; (first | exact aop_alloc | exact aop_new rfl rfl | exact aop_mksl rfl | exact aop_lenM rfl | exact rfl | exact aL rfl rfl rfl rfl rfl | exact aS rfl rfl rfl rfl rfl rfl rfl)) | ((first | apply Go.no | apply Go.sno | apply Qg.no); exact rfl) | (exfalso; omega) | (((first | apply Go.iQ | apply Go.gQ | apply Go.sQ | apply Qg.gQ); exact rfl; (first | exact .d | exact .e | exact .n | ((fail_if_success exact bqt); (fail_if_success exact bqf); exact .b))) <;> intro _)
      refine Go.keep [0, 1, 5] (hrec _ _ _ (by omega) ⟨i + 1, _, _, rfl, hlt, wrap_succ hn (by omega), ⟨by omega, by omega, fun a ha => (hfr' a ha).trans (hfr a ha), ?_⟩, rfl⟩)
      have he : (markL m c (xs.take i) k ++ xs.drop i).set i (m xs[i] ki) = markL m c (xs.take (i + 1)) k ++ xs.drop (i + 1) := by
        have h00 : i - (markL m c (xs.take i) k).length = 0 := by simp [markL_length]; omega
        rw [htk, markL_append, List.set_append_right _ _ (by simp [markL_length]; omega), h00, List.drop_eq_getElem_cons hlt, List.set_cons_zero, List.append_assoc, hki]
        rfl
      rw [← he]
      exact hh'
  · have hmap : (((markL m c (xs.take i) k ++ xs.drop i).map enc).length : Int) = xs.length := by simp [markL_length]; omega
    repeat' first | (apply Go.adm; exact rfl) | apply Go.qs | apply Qg.nil | ((first | apply Go.v2 | apply Go.v1); (first | exact leAdd | assumption); iterate 6 exact rfl) | ((first | apply Go.op | apply Go.sop | apply Qg.op); exact rfl; (first | exact aop_alloc | exact aop_new rfl rfl | exact aop_mksl rfl | exact aop_lenM rfl | exact rfl | exact aL rfl rfl rfl rfl rfl | exact aS rfl rfl rfl rfl rfl rfl rfl | exact aop_lenH rfl hhi)) | ((first | apply Go.no | apply Go.sno | apply Qg.no); exact rfl) | (exfalso; omega) | (((first | apply Go.iQ | apply Go.gQ | apply Go.sQ | apply Qg.gQ); exact rfl; (first | exact .d | exact .e | exact .n | ((fail_if_success exact bqt); (fail_if_success exact bqf); exact .b))) <;> intro _)
    rw [hmap]
    repeat' first | (apply Go.adm; exact rfl) | apply Go.qs | apply Qg.nil | ((first | apply Go.v2 | apply Go.v1); (first | exact leAdd | assumption); iterate 6 exact rfl) | ((first | apply Go.op | apply Go.sop | apply Qg.op); exact rfl; (first | exact aop_alloc | exact aop_new rfl rfl | exact aop_mksl rfl | exact aop_lenM rfl | exact rfl | exact aL rfl rfl rfl rfl rfl | exact aS rfl rfl rfl rfl rfl rfl rfl)) | ((first | apply Go.no | apply Go.sno | apply Qg.no); exact rfl) | (exfalso; omega) | (((first | apply Go.iQ | apply Go.gQ | apply Go.sQ | apply Qg.gQ); exact rfl; (first | exact .d | exact .e | exact .n | ((fail_if_success exact bqt); (fail_if_success exact bqf); exact .b))) <;> intro _)
    · refine .op (v := .c (.int .i64 ki)) (σ' := τ) rfl (by simp [aop, Opd.ev, putA, look]) ?_
      repeat' first | (apply Go.adm; exact rfl) | apply Go.qs | apply Qg.nil | ((first | apply Go.v2 | apply Go.v1); (first | exact leAdd | assumption); iterate 6 exact rfl) | ((first | apply Go.op | apply Go.sop | apply Qg.op); exact rfl; (first | exact aop_alloc | exact aop_new rfl rfl | exact aop_mksl rfl | exact aop_lenM rfl | exact rfl | exact aL rfl rfl rfl rfl rfl | exact aS rfl rfl rfl rfl rfl rfl rfl)) | ((first | apply Go.no | apply Go.sno | apply Qg.no); exact rfl) | (exfalso; omega) | (((first | apply Go.iQ | apply Go.gQ | apply Go.sQ | apply Qg.gQ); exact rfl; (first | exact .d | exact .e | exact .n | ((fail_if_success exact bqt); (fail_if_success exact bqf); exact .b))) <;> intro _)
      have hii : i = xs.length := by omega
      subst hii
      rw [List.take_length] at hki hhi
      rw [List.drop_length, List.append_nil] at hhi
      refine .ret rfl ⟨by rw [hki], hnx, hfr, hhi⟩
end Go.Proofs.Ytcfpdongfdhgjaa.Am

/- The laws' marks on values and entries. -/
set_option linter.unusedVariables false
set_option linter.unusedSimpArgs false
namespace Go.Proofs.Ytcfpdongfdhgjaa.Am

def mDig : Nat → Nat → List UInt8 → List UInt8
  | 0, _, acc => acc
  | f + 1, n, acc => if n = 0 then acc else mDig f (n / 10) (UInt8.ofNat (48 + n % 10) :: acc)
def mText (k : Int) : List UInt8 := if k ≤ 0 then [109, 48] else 109 :: mDig 13 k.toNat []
theorem mDig_zero : ∀ {f : Nat} {acc : List UInt8}, mDig f 0 acc = acc
  | 0, _ => rfl
  | f + 1, _ => rfl
theorem aop_cat {fr : Fr} {σ : Store} {x y : Opd} {a b : List UInt8} (hx : x.ev fr = some (.c (.str a))) (hy : y.ev fr = some (.c (.str b))) (h : a.length + b.length ≤ 9223372036854775807) : aop (.bin .add x y) fr σ = some (.c (.str (a ++ b)), σ) := by
  simp [aop, hx, hy, binA, h]
theorem aop_rem {fr : Fr} {σ : Store} {x y : Opd} {k : IntKind} {a b : Int} (hx : x.ev fr = some (.c (.int k a))) (hy : y.ev fr = some (.c (.int k b))) (h : b ≠ 0) : aop (.bin .rem x y) fr σ = some (.c (.int k (a.tmod b)), σ) := by
  simp [aop, hx, hy, binA, h]
theorem aop_quo {fr : Fr} {σ : Store} {x y : Opd} {k : IntKind} {a b : Int} (hx : x.ev fr = some (.c (.int k a))) (hy : y.ev fr = some (.c (.int k b))) (h : b ≠ 0) : aop (.bin .quo x y) fr σ = some (.c (.int k (k.wrap (a.tdiv b))), σ) := by
  simp [aop, hx, hy, binA, h]
theorem wrapU8 {n : Int} (h1 : 0 ≤ n) (h2 : n ≤ 255) : IntKind.u8.wrap n = n := by
  rw [IntKind.wrap_u8]
  omega
theorem markText_ok (k : Int) (hk : k ≤ 34359738368) : Pure Try.prog 42 [.c (.int .i64 k)] (.c (.str (mText k))) := by
  refine Pure.run mixed c_laws_markText_ok (Nat.le_of_ble_eq_true rfl) fun σ hS hA => ?_
  clear hS hA
  repeat' first | (apply Go.adm; exact rfl) | apply Go.qs | apply Qg.nil | ((first | apply Go.v2 | apply Go.v1); (first | exact leAdd | assumption); iterate 6 exact rfl) | ((first | apply Go.op | apply Go.sop | apply Qg.op); exact rfl; (first | exact aop_alloc | exact aop_new rfl rfl | exact aop_mksl rfl | exact aop_lenM rfl | exact rfl | exact aL rfl rfl rfl rfl rfl | exact aS rfl rfl rfl rfl rfl rfl rfl)) | ((first | apply Go.no | apply Go.sno | apply Qg.no); exact rfl) | (exfalso; omega) | (((first | apply Go.iQ | apply Go.gQ | apply Go.sQ | apply Qg.gQ); exact rfl; (first | exact .d | exact .e | exact .n | ((fail_if_success exact bqt); (fail_if_success exact bqf); exact .b))) <;> intro _)
  · refine .ret rfl (.str ?_)
    rw [mText, if_pos (by assumption)]
  rename_i hpos
  refine Go.keep [0, 3] (Go.loops (I := fun m fr τ => ∃ n : Nat, ∃ ni : Int, ∃ acc : List UInt8, ni = n ∧ n < 10 ^ m ∧ m ≤ 13 ∧ mText k = 109 :: mDig m n acc ∧ acc.length + m ≤ 13 ∧
    fr = [(0, .c (.int .i64 ni)), (3, .c (.str acc))] ∧ τ = E σ []) ?_ 13 _ _ ⟨k.toNat, _, [], by omega, by omega, Nat.le_refl _, by rw [mText, if_neg hpos], by simp, rfl, rfl⟩)
  rintro m fr τ ⟨n, ni, acc, hn, hlt, hm, hs, hal, rfl, rfl⟩ hrec
  match m, hlt, hm, hs, hal, hrec with
  | 0, hlt, hm, hs, hal, hrec =>
    have : n = 0 := by simpa using hlt
    subst this
    repeat' first | (apply Go.adm; exact rfl) | apply Go.qs | apply Qg.nil | ((first | apply Go.v2 | apply Go.v1); (first | exact leAdd | assumption); iterate 6 exact rfl) | ((first | apply Go.op | apply Go.sop | apply Qg.op); exact rfl; (first | exact aop_alloc | exact aop_new rfl rfl | exact aop_mksl rfl | exact aop_lenM rfl | exact rfl | exact aL rfl rfl rfl rfl rfl | exact aS rfl rfl rfl rfl rfl rfl rfl | exact aop_cat rfl rfl (by simp; omega) | exact aop_rem rfl rfl (by decide) | exact aop_quo rfl rfl (by decide))) | ((first | apply Go.no | apply Go.sno | apply Qg.no); exact rfl) | (exfalso; omega) | (((first | apply Go.iQ | apply Go.gQ | apply Go.sQ | apply Qg.gQ); exact rfl; (first | exact .d | exact .e | exact .n | ((fail_if_success exact bqt); (fail_if_success exact bqf); exact .b))) <;> intro _)
    refine .ret rfl (.str ?_)
    rw [hs, mDig_zero]
    rfl
  | m + 1, hlt, hm, hs, hal, hrec =>
    have hb : n ≤ 10 ^ 13 := Nat.le_trans (Nat.le_of_lt hlt) (Nat.pow_le_pow_right (by decide) hm)
    by_cases h0 : n = 0
    · subst h0
      repeat' first | (apply Go.adm; exact rfl) | apply Go.qs | apply Qg.nil | ((first | apply Go.v2 | apply Go.v1); (first | exact leAdd | assumption); iterate 6 exact rfl) | ((first | apply Go.op | apply Go.sop | apply Qg.op); exact rfl; (first | exact aop_alloc | exact aop_new rfl rfl | exact aop_mksl rfl | exact aop_lenM rfl | exact rfl | exact aL rfl rfl rfl rfl rfl | exact aS rfl rfl rfl rfl rfl rfl rfl | exact aop_cat rfl rfl (by simp; omega) | exact aop_rem rfl rfl (by decide) | exact aop_quo rfl rfl (by decide))) | ((first | apply Go.no | apply Go.sno | apply Qg.no); exact rfl) | (exfalso; omega) | (((first | apply Go.iQ | apply Go.gQ | apply Go.sQ | apply Qg.gQ); exact rfl; (first | exact .d | exact .e | exact .n | ((fail_if_success exact bqt); (fail_if_success exact bqf); exact .b))) <;> intro _)
      refine .ret rfl (.str ?_)
      rw [hs, mDig_zero]
      rfl
    · repeat' first | (apply Go.adm; exact rfl) | apply Go.qs | apply Qg.nil | ((first | apply Go.v2 | apply Go.v1); (first | exact leAdd | assumption); iterate 6 exact rfl) | ((first | apply Go.op | apply Go.sop | apply Qg.op); exact rfl; (first | exact aop_alloc | exact aop_new rfl rfl | exact aop_mksl rfl | exact aop_lenM rfl | exact rfl | exact aL rfl rfl rfl rfl rfl | exact aS rfl rfl rfl rfl rfl rfl rfl | exact aop_cat rfl rfl (by simp; omega) | exact aop_rem rfl rfl (by decide) | exact aop_quo rfl rfl (by decide))) | ((first | apply Go.no | apply Go.sno | apply Qg.no); exact rfl) | (exfalso; omega) | (((first | apply Go.iQ | apply Go.gQ | apply Go.sQ | apply Qg.gQ); exact rfl; (first | exact .d | exact .e | exact .n | ((fail_if_success exact bqt); (fail_if_success exact bqf); exact .b))) <;> intro _)
      have q1 : (n : Int).tdiv 10 = ((n / 10 : Nat) : Int) := rfl
      have q2 : (n : Int).tmod 10 = ((n % 10 : Nat) : Int) := rfl
      have e1 : IntKind.i64.wrap (ni.tdiv 10) = ((n / 10 : Nat) : Int) := by
        rw [hn, q1, wrap64 (by omega) (by omega)]
      have e2 : (IntKind.u8.wrap (IntKind.i64.wrap (48 + ni.tmod 10))) = ((48 + n % 10 : Nat) : Int) := by
        rw [hn, q2, wrap64 (by omega) (by omega), wrapU8 (by omega) (by omega)]
        omega
      refine Go.keep [0, 3] (hrec m _ _ (by omega) ⟨n / 10, _, _, e1, ?_, by omega, ?_, ?_, rfl, rfl⟩)
      · rw [Nat.div_lt_iff_lt_mul (by decide), ← Nat.pow_succ]
        exact hlt
      · rw [hs, mDig, if_neg h0, e2]
        rfl
      · simp
        omega

def markV (v : Val) (k : Int) : Val := ⟨k, k + 1, mText (k + 2)⟩
theorem look_three {fr : Fr} {x0 x1 x5 : AV} (h0 : look fr 0 = some x0) (h1 : look fr 1 = some x1) (h5 : look fr 5 = some x5) (t : Nat) : look ((0, x0) :: (1, x1) :: (5, x5) :: fr) t = look fr t := by
  simp only [look]
  split
  · rename_i e; subst e; exact h0.symm
  · split
    · rename_i e; subst e; exact h1.symm
    · split
      · rename_i e; subst e; exact h5.symm
      · rfl
theorem put_off {σ : Store} {S : Nat → Prop} {id : Nat} {x : Nat × List (List Ce)} (hS : S id) (a : Nat) (h : ¬ S a) : (σ.put id x).get a = σ.get a := put_ne (fun e => h (by rw [e]; exact hS))
end Go.Proofs.Ytcfpdongfdhgjaa.Am

/- The laws' marks on values and entries, and whether they are held. -/
set_option linter.unusedVariables false
set_option linter.unusedSimpArgs false
namespace Go.Proofs.Ytcfpdongfdhgjaa.Am

theorem sl_inj {id v i n c id' v' i' n' c' : Nat} (h : Ce.sl id v i n c = Ce.sl id' v' i' n' c') : id = id' ∧ v = v' ∧ n = n' := by
  injection h with a b c d
  exact ⟨a, b, d⟩
theorem markValS_ok (xs : List Val) (k : Int) (hx : xs.length ≤ 34359738368) (hk0 : 0 ≤ k) (hk : k + cntL (fun _ => 3) xs ≤ 34359738368) : Marks Try.prog 27 (.fz (xs.map encV)) (.fz ((markL markV (fun _ => 3) xs k).map encV)) k (k + cntL (fun _ => 3) xs) := by
  refine markS_ok (nt := 35) (q := 34) mixed c_laws_markValS_ok (by decide) (by decide) encV markV (fun _ => 3) (fun _ => by decide) xs k hx hk0 hk ?_
  intro n0 rets R K σ τ S x i ni ki ys hi fr hn0 hyl hni hki0 hki1 h0 h1 h5 hmem hh hnext
  have hi' : i < (ys.map encV).length := by simpa using hi
  have hyi : (ys.map encV)[i] = encV ys[i] := by simp
  obtain ⟨id, v, c, es, e, rfl, hg, he, hel, hS, hw⟩ := hh.write (i := i) (j := 0) hi' (by simp [encV])
  have hel1 : e.length = 3 := by rw [hel, hyi]; rfl
  have hw1 : IntKind.i64.wrap (ki + 1) = ki + 1 := wrap64 (by omega) (by omega)
  have hw2 : IntKind.i64.wrap (ki + 1 + 1) = ki + 2 := by rw [wrap64 (by omega) (by omega)]; omega
  have hw3 : IntKind.i64.wrap (ki + 2 + 1) = ki + 3 := by rw [wrap64 (by omega) (by omega)]; omega
  refine .same (look_three h0 h1 h5) ?_
  have hh1 := hw (.int .i64 ki) (.int _ _)
  obtain ⟨id1, v1, c1, es1, e1, hx1, hg1, he1, hel1', hS1, hwb⟩ := hh1.write (i := i) (j := 1) (by simpa using hi') (by simp [encV])
  obtain ⟨rfl, rfl, -⟩ := sl_inj hx1
  have hh2 := hwb (.int .i64 (ki + 1)) (.int _ _)
  obtain ⟨id2, v2, c2, es2, e2, hx2, hg2, he2, hel2', hS2, hwc⟩ := hh2.write (i := i) (j := 2) (by simpa using hi') (by simp [encV])
  obtain ⟨rfl, rfl, -⟩ := sl_inj hx2
  have hh3 := hwc (.str (mText (ki + 2))) (.str _)
  have hel2 : e1.length = 3 := by rw [hel1']; simp [encV]
  have hel3 : e2.length = 3 := by rw [hel2']; simp [encV]
  repeat' first | (apply Go.adm; exact rfl) | apply Go.qs | apply Qg.nil | ((first | apply Go.v2 | apply Go.v1); (first | exact leAdd | assumption); iterate 6 exact rfl) | ((first | apply Go.op | apply Go.sop | apply Qg.op); exact rfl; (first | exact aop_alloc | exact aop_new rfl rfl | exact aop_mksl rfl | exact aop_lenM rfl | exact rfl | exact aL rfl rfl rfl rfl rfl | exact aS rfl rfl rfl rfl rfl rfl rfl | exact aop_iaddrO rfl rfl hni hi' hg he hel1 | exact aop_storeO rfl rfl hg he (by omega))) | ((first | apply Go.no | apply Go.sno | apply Qg.no); exact rfl) | (exfalso; omega) | (((first | apply Go.iQ | apply Go.gQ | apply Go.sQ | apply Qg.gQ); exact rfl; (first | exact .d | exact .e | exact .n | ((fail_if_success exact bqt); (fail_if_success exact bqf); exact .b))) <;> intro _)
  rw [hw1]
  repeat' first | (apply Go.adm; exact rfl) | apply Go.qs | apply Qg.nil | ((first | apply Go.v2 | apply Go.v1); (first | exact leAdd | assumption); iterate 6 exact rfl) | ((first | apply Go.op | apply Go.sop | apply Qg.op); exact rfl; (first | exact aop_alloc | exact aop_new rfl rfl | exact aop_mksl rfl | exact aop_lenM rfl | exact rfl | exact aL rfl rfl rfl rfl rfl | exact aS rfl rfl rfl rfl rfl rfl rfl | exact aop_iaddrO rfl rfl hni hi' hg1 he1 hel2 | exact aop_storeO rfl rfl hg1 he1 (by omega))) | ((first | apply Go.no | apply Go.sno | apply Qg.no); exact rfl) | (exfalso; omega) | (((first | apply Go.iQ | apply Go.gQ | apply Go.sQ | apply Qg.gQ); exact rfl; (first | exact .d | exact .e | exact .n | ((fail_if_success exact bqt); (fail_if_success exact bqf); exact .b))) <;> intro _)
  rw [hw2]
  repeat' first | (apply Go.adm; exact rfl) | apply Go.qs | apply Qg.nil | ((first | apply Go.v2 | apply Go.v1); (first | exact leAdd | assumption); iterate 6 exact rfl) | ((first | apply Go.op | apply Go.sop | apply Qg.op); exact rfl; (first | exact aop_alloc | exact aop_new rfl rfl | exact aop_mksl rfl | exact aop_lenM rfl | exact rfl | exact aL rfl rfl rfl rfl rfl | exact aS rfl rfl rfl rfl rfl rfl rfl | exact aop_iaddrO rfl rfl hni hi' hg2 he2 hel3 | exact aop_storeO rfl rfl hg2 he2 (by omega))) | ((first | apply Go.no | apply Go.sno | apply Qg.no); exact rfl) | ((first | apply Go.pcall | apply Go.spcall | apply Qg.pcall); (iterate 3 exact rfl); exact markText_ok _ (by omega)) | (exfalso; omega) | (((first | apply Go.iQ | apply Go.gQ | apply Go.sQ | apply Qg.gQ); exact rfl; (first | exact .d | exact .e | exact .n | ((fail_if_success exact bqt); (fail_if_success exact bqf); exact .b))) <;> intro _)
  refine hnext _ _ rfl (congrArg (fun z => some (AV.c (Ce.int .i64 z))) hw3) rfl rfl (fun a ha => ?_) ?_
  · rw [put_off hS a ha, put_off hS a ha, put_off hS a ha]
  · simp only [List.set_set, List.getElem_set_self, hyi] at hh3
    rw [List.map_set]
    exact hh3
def markE (e : Entry) (k : Int) : Entry := ⟨markL markV (fun _ => 3) e.key k, k + cntL (fun _ => 3) e.key⟩
def cntE (e : Entry) : Int := cntL (fun _ => 3) e.key + 1
theorem cntE_nonneg (e : Entry) : 0 ≤ cntE e := by
  have := cntL_nonneg (c := fun _ : Val => 3) (fun _ => by decide) e.key
  simp only [cntE]
  omega
theorem markEntryS_ok (xs : List Entry) (k : Int) (hx : xs.length ≤ 34359738368) (hkl : ∀ e ∈ xs, e.key.length ≤ 34359738368) (hk0 : 0 ≤ k) (hk : k + cntL cntE xs ≤ 34359738368) : Marks Try.prog 12 (.fz (xs.map encE)) (.fz ((markL markE cntE xs k).map encE)) k (k + cntL cntE xs) := by
  refine markS_ok (nt := 27) (q := 26) mixed c_laws_markEntryS_ok (by decide) (by decide) encE markE cntE cntE_nonneg xs k hx hk0 hk ?_
  intro n0 rets R K σ τ S x i ni ki ys hi fr hn0 hyl hni hki0 hki1 h0 h1 h5 hmem hh hnext
  have hi' : i < (ys.map encE).length := by simpa using hi
  have hyi : (ys.map encE)[i] = encE ys[i] := by simp
  have hyk := hkl _ hmem
  simp only [cntE] at hki1
  have hcn := cntL_nonneg (c := fun _ : Val => 3) (fun _ => by decide) ys[i].key
  obtain ⟨id, v, c, es, e, T, rfl, hg, he, hel, hTS, hj, hch, hback⟩ := hh.child (i := i) (j := 0) hi' (by simp [encE])
  have hel1 : e.length = 2 := by rw [hel, hyi]; rfl
  have hch' : Has τ T (.fz (ys[i].key.map encV)) e[0] := by
    have e0 : (ys.map encE)[i][0]'(by simp [encE]) = .fz (ys[i].key.map encV) := by simp [encE]
    rw [← e0]
    exact hch
  refine .same (look_three h0 h1 h5) ?_
  repeat' first | (apply Go.adm; exact rfl) | apply Go.qs | apply Qg.nil | ((first | apply Go.v2 | apply Go.v1); (first | exact leAdd | assumption); iterate 6 exact rfl) | ((first | apply Go.op | apply Go.sop | apply Qg.op); exact rfl; (first | exact aop_alloc | exact aop_new rfl rfl | exact aop_mksl rfl | exact aop_lenM rfl | exact rfl | exact aL rfl rfl rfl rfl rfl | exact aS rfl rfl rfl rfl rfl rfl rfl | exact aop_iaddrO rfl rfl hni hi' hg he hel1 | exact aop_loadO rfl hg he (show 0 + 0 < e.length by omega))) | ((first | apply Go.no | apply Go.sno | apply Qg.no); exact rfl) | (exfalso; omega) | (((first | apply Go.iQ | apply Go.gQ | apply Go.sQ | apply Qg.gQ); exact rfl; (first | exact .d | exact .e | exact .n | ((fail_if_success exact bqt); (fail_if_success exact bqf); exact .b))) <;> intro _)
  refine Go.call _ rfl rfl rfl ((markValS_ok ys[i].key ki hyk hki0 (by omega)).at_ τ T _ hch') ?_
  rintro r τ1 ⟨rfl, hnx1, hfr1, hh1⟩
  have hh2 := hback τ1 _ hfr1 hh1
  obtain ⟨id1, v1, c1, es1, e1, hx1, hg1, he1, hel1', hS1, hwb⟩ := hh2.write (i := i) (j := 1) (by simpa using hi') (by simp [encE])
  obtain ⟨rfl, rfl, -⟩ := sl_inj hx1
  have hel2 : e1.length = 2 := by rw [hel1']; simp [encE]
  have hh3 := hwb (.int .i64 (ki + cntL (fun _ => 3) ys[i].key)) (.int _ _)
  repeat' first | (apply Go.adm; exact rfl) | apply Go.qs | apply Qg.nil | ((first | apply Go.v2 | apply Go.v1); (first | exact leAdd | assumption); iterate 6 exact rfl) | ((first | apply Go.op | apply Go.sop | apply Qg.op); exact rfl; (first | exact aop_alloc | exact aop_new rfl rfl | exact aop_mksl rfl | exact aop_lenM rfl | exact rfl | exact aL rfl rfl rfl rfl rfl | exact aS rfl rfl rfl rfl rfl rfl rfl | exact aop_iaddrO rfl rfl hni hi' hg1 he1 hel2 | exact aop_storeO rfl rfl hg1 he1 (by omega))) | ((first | apply Go.no | apply Go.sno | apply Qg.no); exact rfl) | (exfalso; omega) | (((first | apply Go.iQ | apply Go.gQ | apply Go.sQ | apply Qg.gQ); exact rfl; (first | exact .d | exact .e | exact .n | ((fail_if_success exact bqt); (fail_if_success exact bqf); exact .b))) <;> intro _)
  have hw1 : IntKind.i64.wrap (ki + cntL (fun _ => 3) ys[i].key + 1) = ki + cntE ys[i] := by
    rw [wrap64 (by omega) (by omega), cntE]
    omega
  refine hnext _ _ rfl (congrArg (fun z => some (AV.c (Ce.int .i64 z))) hw1) rfl hnx1 (fun a ha => ?_) ?_
  · rw [put_off hS1 a ha]
    exact hfr1 a fun h => ha (hTS a h)
  · simp only [List.set_set, List.getElem_set_self, hyi] at hh3
    rw [List.map_set]
    exact hh3
end Go.Proofs.Ytcfpdongfdhgjaa.Am

/- The abstract machine, part 28: trees that grow; several results. -/
set_option linter.unusedVariables false
set_option linter.unusedSimpArgs false
namespace Go.Proofs.Ytcfpdongfdhgjaa.Am
open Go.RowKit

/-- A store with blocks more, whose cells lead nowhere below. -/
def Gr (σ τ : Store) : Prop := ∃ l, τ = E σ l ∧ TidyL σ.next l
theorem Gr.start (σ : Store) : Gr σ (E σ []) := ⟨[], rfl, fun b hb => by simp at hb⟩
theorem Gr.next {σ τ : Store} (h : Gr σ τ) : σ.next ≤ τ.next := by
  obtain ⟨l, rfl, _⟩ := h
  simp [E_next]
theorem Gr.lt {σ τ : Store} (h : Gr σ τ) {a : Nat} (ha : a < σ.next) : τ.get a = σ.get a := by
  obtain ⟨l, rfl, _⟩ := h
  exact E_lt ha
theorem Gr.trans {σ τ ρ : Store} (h : Gr σ τ) (k : Gr τ ρ) : Gr σ ρ := by
  obtain ⟨l, rfl, h1⟩ := h
  obtain ⟨m, rfl, h2⟩ := k
  refine ⟨l ++ m, E_E, fun b hb e he x hx => ?_⟩
  rcases List.mem_append.1 hb with hb | hb
  · exact h1 b hb e he x hx
  · exact (h2 b hb e he x hx).mono (by simp [E_next])
theorem Gr.new {σ τ : Store} (h : Gr σ τ) {v : Nat} {es : List (List Ce)} (ht : ∀ e ∈ es, ∀ x ∈ e, Tidy σ.next x) : Gr σ (τ.new (v, es)) := by
  obtain ⟨l, rfl, h1⟩ := h
  refine ⟨l ++ [(v, es)], E_new, fun b hb e he x hx => ?_⟩
  rcases List.mem_append.1 hb with hb | hb
  · exact h1 b hb e he x hx
  · simp at hb
    subst hb
    exact ht e he x hx
theorem Gr.put {σ τ : Store} (h : Gr σ τ) {id v : Nat} {es : List (List Ce)} (h0 : σ.next ≤ id) (h1 : id < τ.next) (ht : ∀ e ∈ es, ∀ x ∈ e, Tidy σ.next x) : Gr σ (τ.put id (v, es)) := by
  obtain ⟨l, rfl, h2⟩ := h
  obtain ⟨k, rfl⟩ : ∃ k, id = σ.next + k := ⟨id - σ.next, by omega⟩
  rw [E_next] at h1
  refine ⟨l.set k (v, es), E_put (by omega), fun b hb e he x hx => ?_⟩
  rcases List.mem_or_eq_of_mem_set hb with hb | hb
  · exact h2 b hb e he x hx
  · subst hb
    exact ht e he x hx
theorem Gr.tidy {σ τ : Store} (h : Gr σ τ) {id : Nat} {y : Nat × List (List Ce)} (h0 : σ.next ≤ id) (hg : τ.get id = some y) : ∀ e ∈ y.2, ∀ x ∈ e, Tidy σ.next x := by
  obtain ⟨l, rfl, h2⟩ := h
  rw [E_ge (by omega)] at hg
  exact h2 y (List.mem_of_getElem? hg)
/-- A slice's tree whose block holds elements of size s. -/
structure Row (τ : Store) (S : Nat → Prop) (s : Nat) (ys : List (List Ce)) (x : Ce) : Prop where
  has : Has τ S (.fz ys) x
  sz : ∀ id v i n c w es, x = .sl id v i n c → τ.get id = some (w, es) → ∀ e ∈ es, e.length = s
theorem Row.mono {τ : Store} {S S' : Nat → Prop} {s : Nat} {ys : List (List Ce)} {x : Ce} (h : Row τ S s ys x) (hS : ∀ a, S a → S' a) : Row τ S' s ys x := ⟨h.has.mono hS, h.sz⟩
theorem Row.frame {τ τ' : Store} {S : Nat → Prop} {s : Nat} {ys : List (List Ce)} {x : Ce} (h : Row τ S s ys x) (hf : ∀ a, S a → τ'.get a = τ.get a) : Row τ' S s ys x := by
  refine ⟨h.has.frame hf, fun id v i n c w es hx hg => ?_⟩
  have hS : S id := by
    have := h.has
    subst hx
    cases this with
    | o ys id v s cs junk T hg hS => exact hS
  exact h.sz id v i n c w es hx (by rw [← hf id hS]; exact hg)
theorem Row.nils {τ : Store} {S : Nat → Prop} {s : Nat} : Row τ S s [] .nils := ⟨.nil, fun id v i n c w es hx => by cases hx⟩
theorem Has.one {τ : Store} {id v s : Nat} {S : Nat → Prop} (hg : τ.get id = some (v, [])) (hS : S id) : Has τ S (.fz []) (.sl id v 0 0 0) :=
  .o [] id v s [] [] (fun _ _ _ => False) hg hS rfl (fun i hi => by simp at hi) (fun e he => by simp at he) (fun e he => by simp at he) (fun _ _ _ h => h.elim) (fun _ _ _ _ _ h => h.elim) (fun i j hi => by simp at hi)
theorem Row.empty {τ : Store} {id v s : Nat} {S : Nat → Prop} (hg : τ.get id = some (v, [])) (hS : S id) : Row τ S s [] (.sl id v 0 0 0) :=
  ⟨.one (s := s) hg hS, fun id' v' i n c w es hx h => by cases hx; rw [hg] at h; cases h; intro e he; simp at he⟩

/-- One more element, with what it owns. -/
theorem Row.push {τ : Store} {S : Nat → Prop} {s bytes : Nat} {ys : List (List Ce)} {x : Ce} (h : Row τ S s ys x) (hS : ∀ a, S a → a < τ.next) {T : Nat → Prop} {e ye : List Ce} (he : HasL τ T ye e) (hT : ∀ a, T a → a < τ.next) (hd : ∀ a, S a → ¬ T a)
    (hes : ye.length = s) (hb : (ys.length + 1) * bytes ≤ 140737488355328) :
    ∃ x' τ', appA τ s bytes x [e] = some (x', τ') ∧ τ.next ≤ τ'.next ∧ (∀ a, a < τ.next → ¬ S a → τ'.get a = τ.get a) ∧ Row τ' (fun a => S a ∨ T a ∨ (τ.next ≤ a ∧ a < τ'.next)) s (ys ++ [ye]) x' ∧
      ∀ σ, Gr σ τ → (∀ a, S a → σ.next ≤ a) → (∀ z ∈ e, Tidy σ.next z) → Gr σ τ' := by
  obtain ⟨U, he1, he2, he3, he4⟩ := he
  have hel : e.length = s := by omega
  have hall1 : ∀ q ∈ [e], q.length = s := fun q hq => by simp at hq; subst hq; exact hel
  cases h.has with
  | c h' => cases h'
  | nil =>
    refine ⟨.sl τ.next 0 0 1 1, τ.new (0, [e]), ?_, Nat.le_succ _, fun a ha _ => ?_, ⟨?_, ?_⟩, fun σ hg _ ht => hg.new fun q hq => by simp at hq; subst hq; exact ht⟩
    · unfold appA
      rw [if_pos hall1]
      simp only [List.length_singleton]
      rw [if_pos (by simpa using hb)]
    · show (if a = τ.next then _ else _) = _
      rw [if_neg (by omega)]
    · have hgn : (τ.new (0, [e])).get τ.next = some (0, [e]) := if_pos rfl
      have hfr : ∀ a, T a → (τ.new (0, [e])).get a = τ.get a := fun a ha => if_neg (by have := hT a ha; omega)
      exact Has.o [ye] τ.next 0 s [e] [] (fun i j a => i = 0 ∧ U j a) hgn (.inr (.inr ⟨Nat.le_refl _, Nat.lt_succ_self _⟩)) rfl (fun i hi => by
          have : i = 0 := by simpa using hi
          subst this
          exact he1) (fun q hq => hall1 q (by simpa using hq)) (fun q hq => by simp at hq) (fun i j a ha => ⟨.inr (.inl (he2 j a ha.2)), by have := hT a (he2 j a ha.2); omega⟩) (fun i j i' j' a h1 h2 => ⟨h1.1.trans h2.1.symm, he3 j j' a h1.2 h2.2⟩)
        (fun i j hi hj => by
          have : i = 0 := by simpa using hi
          subst this
          exact ((he4 j hj (by simp at hj ⊢; omega)).frame fun a ha => hfr a (he2 j a ha)).mono fun a ha => ⟨rfl, ha⟩)
    · intro id v i n c w es hx hg
      cases hx
      have : (τ.new (0, [e])).get τ.next = some (0, [e]) := if_pos rfl
      rw [this] at hg
      cases hg
      exact hall1
  | o ys id v s' cs junk T0 hg hSid hl hsz hall hj hT0 hd0 hh =>
    have hall' : ∀ q ∈ cs ++ junk, q.length = s := h.sz _ _ _ _ _ _ _ rfl hg
    have hidl := hS id hSid
    -- the new tree, whatever spare room is left
    have tree : ∀ (v' : Nat) (junk' : List (List Ce)), (∀ q ∈ junk', q ∈ junk) → Row (τ.put id (v', cs ++ [e] ++ junk')) (fun a => S a ∨ T a ∨ (τ.next ≤ a ∧ a < (τ.put id (v', cs ++ [e] ++ junk')).next)) s (ys ++ [ye]) (.sl id v' 0 (ys ++ [ye]).length ((ys ++ [ye]).length + junk'.length)) := by
      intro v' junk' hjj
      have hgn : (τ.put id (v', cs ++ [e] ++ junk')).get id = some (v', cs ++ [e] ++ junk') := if_pos rfl
      have hne : ∀ a, a ≠ id → (τ.put id (v', cs ++ [e] ++ junk')).get a = τ.get a := fun a ha => if_neg ha
      have hall2 : ∀ q ∈ cs ++ [e] ++ junk', q.length = s := by
        intro q hq
        simp only [List.mem_append] at hq
        rcases hq with (hq | hq) | hq
        · exact hall' q (List.mem_append_left _ hq)
        · exact hall1 q hq
        · exact hall' q (List.mem_append_right _ (hjj q hq))
      refine ⟨Has.o (ys ++ [ye]) id v' s (cs ++ [e]) junk' (fun i j a => (i < ys.length ∧ T0 i j a) ∨ (i = ys.length ∧ U j a)) hgn (Or.inl hSid) (by simp [hl]) (fun i hi => ?_) hall2 (fun q hq => hj q (hjj q hq)) (fun i j a ha => ?_) (fun i j i' j' a h1 h2 => ?_) (fun i j hi hjy => ?_), fun id' v2 i n c w es hx hg' => ?_⟩
      · by_cases c : i < ys.length
        · rw [List.getElem_append_left (by omega), List.getElem_append_left c]; exact hsz i c
        · have hi2 : i = ys.length := by simp at hi; omega
          subst hi2
          rw [List.getElem_append_right (by omega), List.getElem_append_right (by omega)]
          simp [hl, he1]
      · rcases ha with ⟨_, ha⟩ | ⟨_, ha⟩
        · exact ⟨.inl (hT0 i j a ha).1, (hT0 i j a ha).2⟩
        · refine ⟨.inr (.inl (he2 j a ha)), fun e' => ?_⟩
          subst e'
          exact hd _ hSid (he2 j _ ha)
      · rcases h1 with ⟨c1, h1⟩ | ⟨c1, h1⟩ <;> rcases h2 with ⟨c2, h2⟩ | ⟨c2, h2⟩
        · exact hd0 _ _ _ _ a h1 h2
        · exact absurd (he2 _ _ h2) (hd a (hT0 _ _ a h1).1)
        · exact absurd (he2 _ _ h1) (hd a (hT0 _ _ a h2).1)
        · exact ⟨by omega, he3 _ _ a h1 h2⟩
      · by_cases c : i < ys.length
        · have e1 : (ys ++ [ye])[i] = ys[i] := List.getElem_append_left c
          have e2 : (cs ++ [e])[i]'(by simp; omega) = cs[i]'(by omega) := List.getElem_append_left (by omega)
          simp only [e1, e2]
          exact ((hh i j c (by rw [← e1]; exact hjy)).frame fun a ha => hne a (hT0 i j a ha).2).mono fun a ha => .inl ⟨c, ha⟩
        · have hi2 : i = ys.length := by simp at hi; omega
          subst hi2
          have e1 : (ys ++ [ye])[ys.length]'hi = ye := by rw [List.getElem_append_right (by omega)]; simp
          have e2 : (cs ++ [e])[ys.length]'(by simp; omega) = e := by rw [List.getElem_append_right (by omega)]; simp [hl]
          simp only [e1, e2]
          have hjy' : j < ye.length := by rw [← e1]; exact hjy
          exact ((he4 j hjy' (by omega)).frame fun a ha => hne a fun e' => by subst e'; exact hd _ hSid (he2 j _ ha)).mono fun a ha => .inr ⟨trivial, ha⟩
      · cases hx
        rw [hgn] at hg'
        cases hg'
        exact hall2
    have hfr : ∀ (v' : Nat) (es' : List (List Ce)) (a : Nat), a < τ.next → ¬ S a → (τ.put id (v', es')).get a = τ.get a := fun v' es' a _ ha => if_neg fun e => ha (by rw [e]; exact hSid)
    have hgr : ∀ (v' : Nat) (junk' : List (List Ce)), (∀ q ∈ junk', q ∈ junk) → ∀ σ, Gr σ τ → (∀ a, S a → σ.next ≤ a) → (∀ z ∈ e, Tidy σ.next z) → Gr σ (τ.put id (v', cs ++ [e] ++ junk')) := by
      intro v' junk' hjj σ hG hlo ht
      refine hG.put (hlo id hSid) hidl fun q hq => ?_
      have hold := hG.tidy (hlo id hSid) hg
      simp only [List.mem_append] at hq
      rcases hq with (hq | hq) | hq
      · exact hold q (List.mem_append_left _ hq)
      · simp at hq; subst hq; exact ht
      · exact hold q (List.mem_append_right _ (hjj q hq))
    by_cases c : 1 ≤ junk.length
    · refine ⟨.sl id v 0 (ys ++ [ye]).length ((ys ++ [ye]).length + (junk.drop 1).length), τ.put id (v, cs ++ [e] ++ junk.drop 1), ?_, Nat.le_refl _, hfr v (cs ++ [e] ++ junk.drop 1), ?_, hgr v (junk.drop 1) fun q hq => List.mem_of_mem_drop hq⟩
      · have e2 : splice (cs ++ junk) (0 + ys.length) [e] = cs ++ [e] ++ junk.drop 1 := by
          simp only [splice, Nat.zero_add, List.length_singleton]
          rw [← hl, List.take_left' rfl, List.drop_append]
          rw [List.drop_eq_nil_of_le (by omega), Nat.add_sub_cancel_left]
          simp
        unfold appA
        rw [if_pos hall1]
        simp only [hg]
        rw [if_pos ⟨trivial, by simp [hl], by omega, hall'⟩, if_pos (by simp; omega), e2]
        simp only [List.length_append, List.length_singleton, List.length_drop]
        rw [show ys.length + 1 + (junk.length - 1) = ys.length + junk.length by omega]
      · exact tree v (junk.drop 1) fun q hq => List.mem_of_mem_drop hq
    · refine ⟨.sl id (v + 1) 0 (ys ++ [ye]).length ((ys ++ [ye]).length + 0), τ.put id (v + 1, cs ++ [e] ++ []), ?_, Nat.le_refl _, hfr (v + 1) (cs ++ [e] ++ []), ?_, hgr (v + 1) [] fun q hq => by simp at hq⟩
      · unfold appA
        rw [if_pos hall1]
        simp only [hg]
        have e3 : (List.drop 0 (cs ++ junk)).take ys.length = cs := by rw [List.drop_zero, ← hl, List.take_left' rfl]
        rw [if_pos ⟨trivial, by simp [hl], by omega, hall'⟩, if_neg (by simp only [List.length_singleton]; omega), if_pos (by simpa using hb), e3]
        simp
      · exact tree (v + 1) [] fun q hq => by simp at hq

/-! ### Values of several cells -/
inductive HasV (τ : Store) : (Nat → Prop) → AV → AV → Prop where
  | c {S : Nat → Prop} {y x : Ce} (h : Has τ S y x) : HasV τ S (.c y) (.c x)
  | agg {S : Nat → Prop} {ys xs : List Ce} (h : HasL τ S ys xs) : HasV τ S (.agg ys) (.agg xs)
  | tup {S : Nat → Prop} {ys xs : List AV} (U : Nat → Nat → Prop) (hl : xs.length = ys.length) (hU : ∀ i a, U i a → S a) (hd : ∀ i i' a, U i a → U i' a → i = i') (h : ∀ i (hy : i < ys.length) (hx : i < xs.length), HasV τ (U i) ys[i] xs[i]) : HasV τ S (.tup ys) (.tup xs)
theorem HasV.frame {τ τ' : Store} {S : Nat → Prop} {y x : AV} (h : HasV τ S y x) : (∀ a, S a → τ'.get a = τ.get a) → HasV τ' S y x := by
  induction h with
  | c h => exact fun hf => .c (h.frame hf)
  | agg h => exact fun hf => .agg (h.frame hf)
  | tup U hl hU hd h ih => exact fun hf => .tup U hl hU hd fun i hy hx => ih i hy hx fun a ha => hf a (hU i a ha)
theorem HasV.mono' {τ : Store} {S S' : Nat → Prop} {y x : AV} (h : HasV τ S y x) (hS : ∀ a, S a → S' a) : HasV τ S' y x := by
  cases h with
  | c h => exact .c (h.mono hS)
  | agg h => exact .agg (h.mono hS)
  | tup U hl hU hd h => exact .tup U hl (fun i a ha => hS a (hU i a ha)) hd h
theorem HasL.frz {τ : Store} {S : Nat → Prop} {ys xs : List Ce} (h : HasL τ S ys xs) {n : Nat} (hn : ∀ a, S a → n ≤ a) : FrzV τ n (.agg xs) (.agg ys) := by
  obtain ⟨U, h1, h2, h3, h4⟩ := h
  exact .agg h1.symm fun i hi => (h4 i (by omega) hi).frz fun a ha => hn a (h2 i a ha)
theorem HasV.frz {τ : Store} {S : Nat → Prop} {y x : AV} (h : HasV τ S y x) : ∀ {n : Nat}, (∀ a, S a → n ≤ a) → FrzV τ n x y := by
  induction h with
  | c h => exact fun hn => .c (h.frz hn)
  | agg h => exact fun hn => h.frz hn
  | tup U hl hU hd h ih => exact fun hn => .tup hl.symm fun i hi => ih i (by omega) hi fun a ha => hn a (hU i a ha)
theorem HasV.tidy {τ : Store} {S : Nat → Prop} {y x : AV} (h : HasV τ S y x) {n : Nat} : (∀ a, S a → n ≤ a) → ∀ z ∈ x.all, Tidy n z := by
  induction h with
  | c h =>
    intro hn z hz
    simp [AV.all] at hz
    subst hz
    exact h.tidy hn
  | agg h =>
    intro hn z hz
    obtain ⟨U, h1, h2, h3, h4⟩ := h
    simp only [AV.all] at hz
    obtain ⟨j, hj, rfl⟩ := List.mem_iff_getElem.1 hz
    exact (h4 j (by omega) hj).tidy fun a ha => hn a (h2 j a ha)
  | tup U hl hU hd h ih =>
    intro hn z hz
    obtain ⟨i, hi, hz⟩ := mem_allL (by simpa only [AV.all] using hz)
    exact ih i (by omega) hi (fun a ha => hn a (hU i a ha)) z hz
theorem HasL.tidy {τ : Store} {S : Nat → Prop} {ys xs : List Ce} (h : HasL τ S ys xs) {n : Nat} (hn : ∀ a, S a → n ≤ a) : ∀ z ∈ xs, Tidy n z :=
  (HasV.agg h).tidy hn
theorem HasL.two {τ : Store} {S S' : Nat → Prop} {y x : Ce} {ys xs : List Ce} (h : Has τ S y x) (k : HasL τ S' ys xs) (hd : ∀ a, S a → ¬ S' a) : HasL τ (fun a => S a ∨ S' a) (y :: ys) (x :: xs) := by
  obtain ⟨U, h1, h2, h3, h4⟩ := k
  refine ⟨fun j a => (j = 0 ∧ S a) ∨ ∃ m, j = m + 1 ∧ U m a, by simp [h1], fun j a ha => ?_, fun j j' a h h' => ?_, fun j hy hx => ?_⟩
  · rcases ha with ⟨_, ha⟩ | ⟨m, _, ha⟩
    · exact .inl ha
    · exact .inr (h2 m a ha)
  · rcases h with ⟨c, h⟩ | ⟨m, c, h⟩ <;> rcases h' with ⟨c', h'⟩ | ⟨m', c', h'⟩
    · omega
    · exact absurd (h2 _ _ h') (hd a h)
    · exact absurd (h2 _ _ h) (hd a h')
    · have := h3 m m' a h h'
      omega
  · cases j with
    | zero => exact h.mono fun a ha => .inl ⟨rfl, ha⟩
    | succ j => exact (h4 j (by simpa using hy) (by simpa using hx)).mono fun a ha => .inr ⟨j, rfl, ha⟩
theorem HasL.nil {τ : Store} {S : Nat → Prop} : HasL τ S [] [] := ⟨fun _ _ => False, rfl, fun _ _ h => h.elim, fun _ _ _ h => h.elim, fun j hy => by simp at hy⟩
theorem HasV.pair {τ : Store} {S S1 S2 : Nat → Prop} {y1 x1 y2 x2 : AV} (h1 : HasV τ S1 y1 x1) (h2 : HasV τ S2 y2 x2) (s1 : ∀ a, S1 a → S a) (s2 : ∀ a, S2 a → S a) (hd : ∀ a, S1 a → ¬ S2 a) : HasV τ S (.tup [y1, y2]) (.tup [x1, x2]) := by
  refine .tup (fun i a => (i = 0 ∧ S1 a) ∨ (i = 1 ∧ S2 a)) rfl (fun i a ha => ?_) (fun i i' a h h' => ?_) (fun i hy hx => ?_)
  · rcases ha with ⟨_, ha⟩ | ⟨_, ha⟩
    · exact s1 a ha
    · exact s2 a ha
  · rcases h with ⟨c, h⟩ | ⟨c, h⟩ <;> rcases h' with ⟨c', h'⟩ | ⟨c', h'⟩
    · omega
    · exact absurd h' (hd a h)
    · exact absurd h (hd a h')
    · omega
  · match i, hy, hx with
    | 0, _, _ => exact h1.mono' fun a ha => .inl ⟨rfl, ha⟩
    | 1, _, _ => exact h2.mono' fun a ha => .inr ⟨rfl, ha⟩
/-- The call makes anew what reads as y. -/
def NewV (σ : Store) (y : AV) (r : AV) (τ : Store) : Prop := Gr σ τ ∧ HasV τ (fun a => σ.next ≤ a ∧ a < τ.next) y r
theorem New.v {σ τ : Store} {y : Ce} {r : AV} (h : New σ y r τ) : NewV σ (.c y) r τ := by
  obtain ⟨x, l, rfl, rfl, ht, hh⟩ := h
  exact ⟨⟨l, rfl, ht⟩, .c hh⟩
theorem NewV.n {σ τ : Store} {y : Ce} {r : AV} (h : NewV σ (.c y) r τ) : New σ y r τ := by
  obtain ⟨⟨l, rfl, ht⟩, hh⟩ := h
  cases hh with
  | c hh => exact ⟨_, l, rfl, rfl, ht, hh⟩
theorem NewL.v {σ τ : Store} {ys : List Ce} {r : AV} (h : NewL σ ys r τ) : NewV σ (.agg ys) r τ := by
  obtain ⟨x, l, rfl, rfl, ht, hh⟩ := h
  exact ⟨⟨l, rfl, ht⟩, .agg hh⟩
theorem NewV.l {σ τ : Store} {ys : List Ce} {r : AV} (h : NewV σ (.agg ys) r τ) : NewL σ ys r τ := by
  obtain ⟨⟨l, rfl, ht⟩, hh⟩ := h
  cases hh with
  | agg hh => exact ⟨_, l, rfl, rfl, ht, hh⟩
theorem NewV.pure {P : Program} {f : Nat} {args : List AV} {y : AV} (h : ∀ σ, Ok P f args σ (NewV σ y)) : Pure P f args y := by
  constructor
  intro σ
  refine .old' (h σ) fun hS ha => Ok.pure (h σ) y (fun id y hy => (hS id y hy).1) ?_
  rintro r σ1 ⟨hg, hh⟩
  exact ⟨fun id y hy => by rw [hg.lt (hS id y hy).1]; exact hy, hh.frz fun a ha => ha.1⟩
theorem E_inj {σ : Store} {l m : List (Nat × List (List Ce))} (h : E σ l = E σ m) : l = m := by
  refine List.ext_getElem? fun k => ?_
  have := congrArg (fun s => s.get (σ.next + k)) h
  simpa only [E_at] using this
theorem Ok.lentV {P : Program} {f : Nat} {args args' : List AV} {σ : Store} {y : AV} (h : ∀ σ, Ok P f args' σ (NewV σ y)) (hl : args'.length = args.length)
    (hf : ∀ i (hi : i < args.length), FrzV σ 0 args[i] (args'[i]'(by omega)) ∨ args[i] = args'[i]'(by omega)) : Ok P f args σ (NewV σ y) := by
  refine (Ok.lent (h (Store.none σ.next)) hl hf ?_).mono ?_
  · rintro r τ ⟨⟨l, rfl, ht⟩, hh⟩
    exact ⟨l, rfl, ht, hh.tidy fun a ha => ha.1⟩
  · rintro r σ' ⟨l, rfl, ⟨l', e, ht⟩, hh⟩
    obtain rfl := E_inj e
    refine ⟨⟨l, rfl, ht⟩, hh.frame fun a ha => ?_⟩
    have h1 : ¬ a < σ.next := by have := ha.1; exact Nat.not_lt.2 this
    rw [E_ge h1, E_ge (by exact h1)]
    rfl
/-- Arguments, some of them lent. -/
inductive Lend (σ : Store) : List AV → List AV → Prop where
  | nil : Lend σ [] []
  | own {x y : AV} {us bs : List AV} (h : FrzV σ 0 x y) (r : Lend σ us bs) : Lend σ (x :: us) (y :: bs)
  | same {a : AV} {us bs : List AV} (r : Lend σ us bs) : Lend σ (a :: us) (a :: bs)
theorem Lend.spec {σ : Store} {us bs : List AV} (h : Lend σ us bs) : ∃ hl : bs.length = us.length, ∀ i (hi : i < us.length), FrzV σ 0 us[i] (bs[i]'(by omega)) ∨ us[i] = bs[i]'(by omega) := by
  induction h with
  | nil => exact ⟨rfl, fun i hi => by simp at hi⟩
  | own h r ih =>
    obtain ⟨hl, hz⟩ := ih
    refine ⟨by simp [hl], fun i hi => ?_⟩
    cases i with
    | zero => exact .inl h
    | succ i => exact hz i (by simpa using hi)
  | same r ih =>
    obtain ⟨hl, hz⟩ := ih
    refine ⟨by simp [hl], fun i hi => ?_⟩
    cases i with
    | zero => exact .inr rfl
    | succ i => exact hz i (by simpa using hi)
theorem Lend.pure {P : Program} {σ : Store} {n : Nat} {args args' : List AV} {r : AV} (h : Lend σ args args') (hp : Pure P n args' r) (hs : Solid r) : Ok P n args σ (fun r' σ' => r' = r ∧ σ' = σ) :=
  let ⟨hl, hz⟩ := h.spec
  Ok.lend (hp.at_ _) hs hl hz
theorem Lend.new {P : Program} {σ : Store} {n : Nat} {args args' : List AV} {y : AV} (h : Lend σ args args') (hp : ∀ σ, Ok P n args' σ (NewV σ y)) : Ok P n args σ (NewV σ y) :=
  let ⟨hl, hz⟩ := h.spec
  Ok.lentV hp hl hz
theorem HasV.lend {τ : Store} {S : Nat → Prop} {y x : AV} (h : HasV τ S y x) : FrzV τ 0 x y := h.frz fun _ _ => Nat.zero_le _
section
variable {P : Program} {n0 nt : Nat} {rets : List RV} {R : AV → Store → Prop} {K : List AK} {fr : Fr} {σ : Store}
theorem Go.lcall {d : Option Nat} {f : Opd} {args : List Opd} {g : Option (Nat × Bool)} {rest : List AOper} {n : Nat} {pre cap : List Ce} {vs args' : List AV} {r : AV} (hw : wants fr g = some true) (hf : f.ev fr = some (.c (.fn n pre cap))) (ha : evs fr args = some vs)
    (hp : Pure P n args' r) (hs : Solid r) (hz : Lend σ (pre.map AV.c ++ vs ++ cap.map AV.c) args') (h : Go P n0 nt rets R (.ops rest :: K) (putA fr d r) σ) : Go P n0 nt rets R (.ops (⟨d, .call f args, g⟩ :: rest) :: K) fr σ :=
  .call _ hw hf ha (hz.pure hp hs) (by rintro r' σ' ⟨rfl, rfl⟩; exact h)
/-- A lent call in a part by itself. -/
theorem Go.slcall {d : Option Nat} {f : Opd} {args : List Opd} {g : Option (Nat × Bool)} {rest : List (List AOper)} {n : Nat} {pre cap : List Ce} {vs args' : List AV} {r : AV} (hw : wants fr g = some true) (hf : f.ev fr = some (.c (.fn n pre cap))) (ha : evs fr args = some vs)
    (hp : Pure P n args' r) (hs : Solid r) (hz : Lend σ (pre.map AV.c ++ vs ++ cap.map AV.c) args') (h : Go P n0 nt rets R (.segs rest :: K) (putA fr d r) σ) : Go P n0 nt rets R (.segs ([⟨d, .call f args, g⟩] :: rest) :: K) fr σ :=
  .scall _ hw hf ha (hz.pure hp hs) (by rintro r' σ' ⟨rfl, rfl⟩; exact h)
end
/-- The end, in words of the caller's store alone. -/
def Ends (σ : Store) (r2 : AV) (r : AV) (σ' : Store) : Prop := (∀ id, id < σ.next → σ'.get id = σ.get id) ∧ FrzV σ' σ.next r r2
theorem Pure.run2 {P : Program} (hm : P.follows .mixedOrders = true) {fz : List Nat} {f : Nat} {af : AFn} (h : compFn P fz f = some af) {args : List AV} {r2 : AV} (hn : args.length ≤ af.nt)
    (hg : ∀ σ, OldS σ → Go P σ.next af.nt af.rets (Ends σ r2) [.code af.body] (frOf 0 args) (E σ [])) : Pure P f args r2 := by
  constructor
  intro σ
  refine .old h fun hS ha => ?_
  refine Ok.pure (Ok.run hm h hn (fun hS _ => hg σ hS)) r2 (fun id y hy => (hS id y hy).1) ?_
  rintro r σ1 ⟨h1, h2⟩
  exact ⟨fun id y hy => by rw [h1 id (hS id y hy).1]; exact hy, h2⟩

/-! ### A slice that grows by elements that own something -/
structure Grow (σ τ : Store) (s : Nat) (ys : List (List Ce)) (x : Ce) : Prop where
  gr : Gr σ τ
  row : Row τ (fun a => σ.next ≤ a ∧ a < τ.next) s ys x
theorem Grow.nils {σ τ : Store} {s : Nat} (h : Gr σ τ) : Grow σ τ s [] .nils := ⟨h, .nils⟩
theorem Grow.empty {σ : Store} {s : Nat} : Grow σ (E σ [(0, [])]) s [] (.sl (σ.next + 0) 0 0 0 0) :=
  ⟨⟨[(0, [])], rfl, fun b hb e he => by simp at hb; subst hb; simp at he⟩, .empty (v := 0) (by rw [E_at]; rfl) ⟨Nat.le_add_right _ _, by simp [E_next]⟩⟩
theorem Grow.v {σ τ : Store} {s : Nat} {ys : List (List Ce)} {x : Ce} (h : Grow σ τ s ys x) : NewV σ (.c (.fz ys)) (.c x) τ := ⟨h.gr, .c h.row.has⟩
/-- .. while something else is made. -/
theorem Grow.later {σ τ ρ : Store} {s : Nat} {ys : List (List Ce)} {x : Ce} (h : Grow σ τ s ys x) (g : Gr τ ρ) : Gr σ ρ ∧ Row ρ (fun a => σ.next ≤ a ∧ a < τ.next) s ys x :=
  ⟨h.gr.trans g, h.row.frame fun a ha => g.lt ha.2⟩
section
variable {P : Program} {n0 nt : Nat} {rets : List RV} {R : AV → Store → Prop} {K : List AK} {fr : Fr} {σ : Store}
theorem Go.qd {s1 s2 : AOper} {seg : List AOper} {rest : List (List AOper)} (h : Qc P (fun F τ => Go P n0 nt rets R (.segs rest :: K) F τ) (s1 :: s2 :: seg) fr σ) : Go P n0 nt rets R (.segs ((s1 :: s2 :: seg) :: rest) :: K) fr σ := .qc _ h fun _ _ h => h
theorem Qc.pcall {Z : Fr → Store → Prop} {d : Option Nat} {f : Opd} {args : List Opd} {g : Option (Nat × Bool)} {rest : List AOper} {n : Nat} {pre cap : List Ce} {vs : List AV} {r : AV} (hw : wants fr g = some true) (hf : f.ev fr = some (.c (.fn n pre cap))) (ha : evs fr args = some vs)
    (hp : Pure P n (pre.map .c ++ vs ++ cap.map .c) r) (h : Qc P Z rest (putA fr d r) σ) : Qc P Z (⟨d, .call f args, g⟩ :: rest) fr σ :=
  .call _ hw hf ha (hp.at_ σ) (by rintro r' σ' ⟨rfl, rfl⟩; exact h)
theorem aop_grow {σ0 : Store} {n s bytes : Nat} {ys : List (List Ce)} {ye e : List Ce} {xc : Ce} {x y : Opd} (hx : x.ev fr = some (.c xc)) (hy : y.ev fr = some (.c (.fz [e]))) (hg : Gr σ0 σ) (hr : Row σ (fun a => σ0.next ≤ a ∧ a < n) s ys xc) (h0 : σ0.next ≤ n) (hn : n ≤ σ.next) (hch : HasL σ (fun a => n ≤ a ∧ a < σ.next) ye e)
    (hes : ye.length = s) (hb : (ys.length + 1) * bytes ≤ 140737488355328) : ∃ x' τ', aop (.app s bytes x y) fr σ = some (.c x', τ') ∧ Grow σ0 τ' s (ys ++ [ye]) x' := by
  obtain ⟨x', τ', h1, h2, h3, h4, h5⟩ := hr.push (fun a ha => by have := ha.2; omega) hch (fun a ha => ha.2) (fun a ha ha' => by have := ha.2; have := ha'.1; omega) hes hb
  refine ⟨x', τ', ?_, h5 σ0 hg (fun a ha => ha.1) (hch.tidy fun a ha => by have := ha.1; omega), h4.mono fun a ha => ?_⟩
  · simp only [aop, hx, hy, Store.els, Option.bind_some, h1, Option.map_some]
  · rcases ha with ha | ha | ha <;> have := ha.1 <;> have := ha.2 <;> constructor <;> omega
theorem Go.grow {σ0 : Store} {d : Option Nat} {g : Option (Nat × Bool)} {rest : List AOper} {n s bytes : Nat} {ys : List (List Ce)} {ye e : List Ce} {xc : Ce} {x y : Opd} (hw : wants fr g = some true) (hx : x.ev fr = some (.c xc)) (hy : y.ev fr = some (.c (.fz [e]))) (hg : Gr σ0 σ ∧ Row σ (fun a => σ0.next ≤ a ∧ a < n) s ys xc) (h0 : σ0.next ≤ n) (hn : n ≤ σ.next) (hch : HasL σ (fun a => n ≤ a ∧ a < σ.next) ye e)
    (hes : ye.length = s) (hb : (ys.length + 1) * bytes ≤ 140737488355328) (h : ∀ x' τ', Grow σ0 τ' s (ys ++ [ye]) x' → Go P n0 nt rets R (.ops rest :: K) (putA fr d (.c x')) τ') : Go P n0 nt rets R (.ops (⟨d, .op (.app s bytes x y), g⟩ :: rest) :: K) fr σ :=
  let ⟨_, _, h1, h2⟩ := aop_grow (bytes := bytes) hx hy hg.1 hg.2 h0 hn hch hes hb
  .op hw h1 (h _ _ h2)
theorem Go.sgrow {σ0 : Store} {d : Option Nat} {g : Option (Nat × Bool)} {rest : List (List AOper)} {n s bytes : Nat} {ys : List (List Ce)} {ye e : List Ce} {xc : Ce} {x y : Opd} (hw : wants fr g = some true) (hx : x.ev fr = some (.c xc)) (hy : y.ev fr = some (.c (.fz [e]))) (hg : Gr σ0 σ ∧ Row σ (fun a => σ0.next ≤ a ∧ a < n) s ys xc) (h0 : σ0.next ≤ n) (hn : n ≤ σ.next) (hch : HasL σ (fun a => n ≤ a ∧ a < σ.next) ye e)
    (hes : ye.length = s) (hb : (ys.length + 1) * bytes ≤ 140737488355328) (h : ∀ x' τ', Grow σ0 τ' s (ys ++ [ye]) x' → Go P n0 nt rets R (.segs rest :: K) (putA fr d (.c x')) τ') : Go P n0 nt rets R (.segs ([⟨d, .op (.app s bytes x y), g⟩] :: rest) :: K) fr σ :=
  let ⟨_, _, h1, h2⟩ := aop_grow (bytes := bytes) hx hy hg.1 hg.2 h0 hn hch hes hb
  .sop hw h1 (h _ _ h2)
end
end Go.Proofs.Ytcfpdongfdhgjaa.Am

/- The law FnExactRange: its function returns true. -/
set_option linter.unusedVariables false
set_option linter.unusedSimpArgs false
namespace Go.Proofs.Ytcfpdongfdhgjaa.Am

theorem szList_cnt {α : Type} {g : α → Int → Int} {c : α → Int} (hg : ∀ a l, 0 ≤ l → g a l ≤ l) (hc : ∀ a l, 0 ≤ l → 0 ≤ g a l → c a ≤ 4 * (l - g a l) + 1) : ∀ (xs : List α) (left : Int), 0 ≤ left → 0 ≤ szList g xs left → cntL c xs ≤ 4 * (left - szList g xs left) + xs.length
  | [], left, h, hs => by simp [cntL, szList]
  | x :: r, left, h, hs => by
    simp only [szList] at hs ⊢
    split at hs
    · omega
    · rename_i h0
      rw [if_neg h0]
      have h1 := hc x left h (by omega)
      have h2 := szList_cnt hg hc r (g x left) (by omega) hs
      simp only [cntL, List.length_cons]
      omega
theorem szL_cnt {α : Type} {g : α → Int → Int} {c : α → Int} (hg : ∀ a l, 0 ≤ l → g a l ≤ l) (hc : ∀ a l, 0 ≤ l → 0 ≤ g a l → c a ≤ 4 * (l - g a l) + 1) (xs : List α) (left : Int) (h : 0 ≤ left) (hs : 0 ≤ szL g xs left) : cntL c xs ≤ 4 * (left - szL g xs left) := by
  simp only [szL] at hs ⊢
  split at hs
  · omega
  · rename_i h0
    rw [if_neg h0]
    have := szList_cnt hg hc xs (left - xs.length) (by omega) hs
    omega
theorem cnt3 (xs : List Val) : cntL (fun _ => 3) xs = 3 * xs.length := by
  induction xs with
  | nil => rfl
  | cons a r ih => simp only [cntL, ih, List.length_cons]; omega
theorem cntE_sz (e : Entry) (l : Int) (h : 0 ≤ l) (hs : 0 ≤ szE e l) : cntE e ≤ 4 * (l - szE e l) + 1 := by
  simp only [szE] at hs ⊢
  split at hs
  · omega
  · rename_i h0
    rw [if_neg h0, cntE, cnt3]
    have h1 : szL szV e.key l ≤ l - e.key.length := by
      simp only [szL] at hs ⊢
      split at hs
      · omega
      · rename_i h2
        rw [if_neg h2]
        exact szList_le szV_le _ _ (by omega)
    omega
end Go.Proofs.Ytcfpdongfdhgjaa.Am
