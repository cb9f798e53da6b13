/- Joined texts: C1, Am21, Am22, F1, F2, F3, F4, Am23. -/
import Derived.Test.YtcfpdongfdhgjaaGreatProg
import Derived.KernelRfl
import Derived.Test.YtcfpdongfdhgjaaGreatChecked
import Derived.Test.YtcfpdongfdhgjaaGreatSb1
import Derived.Test.YtcfpdongfdhgjaaGreatSb2
/- The functions' code in the abstract machine's words, each with the proof that it is so. Printed by a program. -/
set_option linter.unusedVariables false
namespace Go.Proofs.YtcfpdongfdhgjaaGreat.Am

abbrev oM (d k : Nat) : AOper := ⟨some d, .op (.mv (.t k)), none⟩
abbrev oP (d : Nat) (a : AOp) : AOper := ⟨some d, .op a, none⟩
abbrev oT (d : Nat) (a : AOp) (g : Nat) : AOper := ⟨some d, .op a, some (g, true)⟩
abbrev oF (d : Nat) (a : AOp) (g : Nat) : AOper := ⟨some d, .op a, some (g, false)⟩
abbrev oC (d n : Nat) (l : List Opd) : AOper := ⟨some d, .call (.f n) l, none⟩
abbrev kI (z : Int) : Opd := .k (.int .i64 z)
def c_laws_FnExactSessionOk : AFn := ⟨27, [.t 2], (.seq (.region [oP 1 (.box true (.t 0)), oP 2 (.mv (.k (.bool false)))]) (.seq (.region [oP 3 (.mv (kI 1048576))]) (.seq (.region [oP 7 (.load true 5 (.t 1)), oM 8 3, oC 9 59 [(.t 7), (.t 8)], oM 3 9]) (.seq (.seq (.region [oM 10 3, oP 11 (.bin .lss (.t 10) (kI 0))]) (.cond (.t 11) (.seq (.region [oP 2 (.mv (.k (.bool true)))]) .ret) .skip)) (.seq (.region [oP 12 (.load true 5 (.t 1)), oC 13 61 [(.t 12)], oC 14 60 [(.t 13)], oM 4 14]) (.seq (.region [oP 15 (.load true 5 (.t 1)), oC 16 61 [(.t 15)], oP 5 (.alloc [.nils, .nils, .bool false, .nils, .nils]), ⟨none, .op (.store 5 (.t 5) (.t 16)), none⟩]) (.seq (.region [oP 17 (.load true 5 (.t 5)), oC 18 62 [(.t 17)], oM 6 18]) (.seq (.seq (.region [oM 19 6, oM 20 4, oP 21 (.eq true false [.b] (.t 19) (.t 20))]) (.cond (.t 21) (.seq (.region [oP 2 (.mv (.k (.bool false)))]) .ret) .skip)) (.seq (.seq (.draw [[oP 22 (.load true 5 (.t 5)), oP 23 (.load true 5 (.t 1)), oC 24 61 [(.t 23)]], [oC 25 16 [(.t 22), (.t 24)]], [oP 26 (.un .not (.t 25))]]) (.cond (.t 26) (.seq (.region [oP 2 (.mv (.k (.bool false)))]) .ret) .skip)) (.seq (.region [oP 2 (.mv (.k (.bool true)))]) .ret))))))))))⟩
theorem c_laws_FnExactSessionOk_ok : compFn Tryz.prog [1] 9 = some c_laws_FnExactSessionOk := by kernel_rfl
def c_laws_szTableS : AFn := ⟨27, [.t 4], (.seq (.region [oP 4 (.mv (kI 0))]) (.seq (.region [oM 6 1, oM 7 0, oP 8 (.len false (.t 7)), oP 9 (.bin .sub (.t 6) (.t 8)), oM 1 9]) (.seq (.seq (.region [oM 10 1, oP 11 (.bin .lss (.t 10) (kI 0))]) (.cond (.t 11) (.seq (.region [oP 4 (.mv (kI (-1)))]) .ret) .skip)) (.seq (.seq (.region [oP 5 (.mv (kI 0))]) (.block 0 (.loop (.seq (.seq (.region [oM 12 5, oM 13 0, oP 14 (.len false (.t 13)), oP 15 (.bin .lss (.t 12) (.t 14))]) (.cond (.t 15) .skip (.exit 0))) (.seq (.block 1 (.seq (.region [oM 18 0, oM 19 5, oP 20 (.iaddr 6 (.t 18) (.t 19)), oP 21 (.load true 6 (.t 20)), oM 22 1, oC 23 71 [(.t 21), (.t 22)], oM 1 23]) (.seq (.region [oM 24 1, oP 25 (.bin .lss (.t 24) (kI 0))]) (.cond (.t 25) (.seq (.region [oP 4 (.mv (kI (-1)))]) .ret) .skip)))) (.region [oM 16 5, oP 17 (.bin .add (.t 16) (kI 1)), oM 5 17])))))) (.seq (.region [oM 26 1, oM 4 26]) .ret)))))⟩
theorem c_laws_szTableS_ok : compFn Tryz.prog [] 12 = some c_laws_szTableS := by kernel_rfl
def c_laws_toTableS : AFn := ⟨23, [.t 2], (.seq (.region [oP 2 (.mv (.k (.nils)))]) (.seq (.region [oM 5 0, oP 6 (.len false (.t 5)), oP 7 (.mkslice 6 136 [.str [], .nils, .nils, .nils, .nils, .nils] (.t 6) (.t 6)), oM 3 7]) (.seq (.seq (.region [oP 4 (.mv (kI 0))]) (.block 0 (.loop (.seq (.seq (.region [oM 8 4, oM 9 0, oP 10 (.len false (.t 9)), oP 11 (.bin .lss (.t 8) (.t 10))]) (.cond (.t 11) .skip (.exit 0))) (.seq (.block 1 (.region [oM 14 3, oM 15 4, oM 16 0, oM 17 4, oP 18 (.iaddr 6 (.t 16) (.t 17)), oP 19 (.load true 6 (.t 18)), oC 20 74 [(.t 19)], oP 21 (.iaddr 6 (.t 14) (.t 15)), ⟨none, .op (.store 6 (.t 21) (.t 20)), none⟩])) (.region [oM 12 4, oP 13 (.bin .add (.t 12) (kI 1)), oM 4 13])))))) (.seq (.region [oM 22 3, oM 2 22]) .ret))))⟩
theorem c_laws_toTableS_ok : compFn Tryz.prog [] 14 = some c_laws_toTableS := by kernel_rfl
def c_laws_eqSession : AFn := ⟨34, [.t 4], (.seq (.region [oP 2 (.box true (.t 0)), oP 3 (.box true (.t 1)), oP 4 (.mv (.k (.bool false)))]) (.seq (.seq (.region [oP 5 (.faddr 0 (.t 2)), oP 6 (.load false 1 (.t 5)), oP 7 (.faddr 0 (.t 3)), oP 8 (.load false 1 (.t 7)), oC 9 17 [(.t 6), (.t 8)], oP 10 (.un .not (.t 9))]) (.cond (.t 10) (.seq (.region [oP 4 (.mv (.k (.bool false)))]) .ret) .skip)) (.seq (.seq (.region [oP 11 (.faddr 1 (.t 2)), oP 12 (.load false 1 (.t 11)), oP 13 (.faddr 1 (.t 3)), oP 14 (.load false 1 (.t 13)), oC 15 28 [(.t 12), (.t 14)], oP 16 (.un .not (.t 15))]) (.cond (.t 16) (.seq (.region [oP 4 (.mv (.k (.bool false)))]) .ret) .skip)) (.seq (.seq (.region [oP 17 (.faddr 2 (.t 2)), oP 18 (.load false 1 (.t 17)), oP 19 (.faddr 2 (.t 3)), oP 20 (.load false 1 (.t 19)), oP 21 (.eq true false [.b] (.t 18) (.t 20))]) (.cond (.t 21) (.seq (.region [oP 4 (.mv (.k (.bool false)))]) .ret) .skip)) (.seq (.seq (.region [oP 22 (.faddr 3 (.t 2)), oP 23 (.load false 1 (.t 22)), oP 24 (.faddr 3 (.t 3)), oP 25 (.load false 1 (.t 24)), oC 26 28 [(.t 23), (.t 25)], oP 27 (.un .not (.t 26))]) (.cond (.t 27) (.seq (.region [oP 4 (.mv (.k (.bool false)))]) .ret) .skip)) (.seq (.seq (.region [oP 28 (.faddr 4 (.t 2)), oP 29 (.load false 1 (.t 28)), oP 30 (.faddr 4 (.t 3)), oP 31 (.load false 1 (.t 30)), oC 32 77 [(.t 29), (.t 31)], oP 33 (.un .not (.t 32))]) (.cond (.t 33) (.seq (.region [oP 4 (.mv (.k (.bool false)))]) .ret) .skip)) (.seq (.region [oP 4 (.mv (.k (.bool true)))]) .ret)))))))⟩
theorem c_laws_eqSession_ok : compFn Tryz.prog [2, 3] 16 = some c_laws_eqSession := by kernel_rfl
def c_laws_eqTableS : AFn := ⟨27, [.t 4], (.seq (.region [oP 4 (.mv (.k (.bool false)))]) (.seq (.seq (.region [oM 6 0, oP 7 (.len false (.t 6)), oM 8 1, oP 9 (.len false (.t 8)), oP 10 (.bin .neq (.t 7) (.t 9))]) (.cond (.t 10) (.seq (.region [oP 4 (.mv (.k (.bool false)))]) .ret) .skip)) (.seq (.seq (.region [oP 5 (.mv (kI 0))]) (.block 0 (.loop (.seq (.seq (.region [oM 11 5, oM 12 0, oP 13 (.len false (.t 12)), oP 14 (.bin .lss (.t 11) (.t 13))]) (.cond (.t 14) .skip (.exit 0))) (.seq (.block 1 (.seq (.draw [[oM 17 0, oM 18 5, oP 19 (.iaddr 6 (.t 17) (.t 18)), oP 20 (.load true 6 (.t 19)), oM 21 1, oM 22 5, oP 23 (.iaddr 6 (.t 21) (.t 22)), oP 24 (.load true 6 (.t 23))], [oC 25 78 [(.t 20), (.t 24)]], [oP 26 (.un .not (.t 25))]]) (.cond (.t 26) (.seq (.region [oP 4 (.mv (.k (.bool false)))]) .ret) .skip))) (.region [oM 15 5, oP 16 (.bin .add (.t 15) (kI 1)), oM 5 16])))))) (.seq (.region [oP 4 (.mv (.k (.bool true)))]) .ret))))⟩
theorem c_laws_eqTableS_ok : compFn Tryz.prog [] 17 = some c_laws_eqTableS := by kernel_rfl
def c_laws_szDataS : AFn := ⟨27, [.t 4], (.seq (.region [oP 4 (.mv (kI 0))]) (.seq (.region [oM 6 1, oM 7 0, oP 8 (.len false (.t 7)), oP 9 (.bin .sub (.t 6) (.t 8)), oM 1 9]) (.seq (.seq (.region [oM 10 1, oP 11 (.bin .lss (.t 10) (kI 0))]) (.cond (.t 11) (.seq (.region [oP 4 (.mv (kI (-1)))]) .ret) .skip)) (.seq (.seq (.region [oP 5 (.mv (kI 0))]) (.block 0 (.loop (.seq (.seq (.region [oM 12 5, oM 13 0, oP 14 (.len false (.t 13)), oP 15 (.bin .lss (.t 12) (.t 14))]) (.cond (.t 15) .skip (.exit 0))) (.seq (.block 1 (.seq (.region [oM 18 0, oM 19 5, oP 20 (.iaddr 1 (.t 18) (.t 19)), oP 21 (.load true 1 (.t 20)), oM 22 1, oC 23 88 [(.t 21), (.t 22)], oM 1 23]) (.seq (.region [oM 24 1, oP 25 (.bin .lss (.t 24) (kI 0))]) (.cond (.t 25) (.seq (.region [oP 4 (.mv (kI (-1)))]) .ret) .skip)))) (.region [oM 16 5, oP 17 (.bin .add (.t 16) (kI 1)), oM 5 17])))))) (.seq (.region [oM 26 1, oM 4 26]) .ret)))))⟩
theorem c_laws_szDataS_ok : compFn Tryz.prog [] 21 = some c_laws_szDataS := by kernel_rfl
def c_laws_szTokS : AFn := ⟨27, [.t 4], (.seq (.region [oP 4 (.mv (kI 0))]) (.seq (.region [oM 6 1, oM 7 0, oP 8 (.len false (.t 7)), oP 9 (.bin .sub (.t 6) (.t 8)), oM 1 9]) (.seq (.seq (.region [oM 10 1, oP 11 (.bin .lss (.t 10) (kI 0))]) (.cond (.t 11) (.seq (.region [oP 4 (.mv (kI (-1)))]) .ret) .skip)) (.seq (.seq (.region [oP 5 (.mv (kI 0))]) (.block 0 (.loop (.seq (.seq (.region [oM 12 5, oM 13 0, oP 14 (.len false (.t 13)), oP 15 (.bin .lss (.t 12) (.t 14))]) (.cond (.t 15) .skip (.exit 0))) (.seq (.block 1 (.seq (.region [oM 18 0, oM 19 5, oP 20 (.iaddr 5 (.t 18) (.t 19)), oP 21 (.load true 5 (.t 20)), oM 22 1, oC 23 89 [(.t 21), (.t 22)], oM 1 23]) (.seq (.region [oM 24 1, oP 25 (.bin .lss (.t 24) (kI 0))]) (.cond (.t 25) (.seq (.region [oP 4 (.mv (kI (-1)))]) .ret) .skip)))) (.region [oM 16 5, oP 17 (.bin .add (.t 16) (kI 1)), oM 5 17])))))) (.seq (.region [oM 26 1, oM 4 26]) .ret)))))⟩
theorem c_laws_szTokS_ok : compFn Tryz.prog [] 22 = some c_laws_szTokS := by kernel_rfl
def c_laws_toDataS : AFn := ⟨23, [.t 2], (.seq (.region [oP 2 (.mv (.k (.nils)))]) (.seq (.region [oM 5 0, oP 6 (.len false (.t 5)), oP 7 (.mkslice 1 24 [.nils] (.t 6) (.t 6)), oM 3 7]) (.seq (.seq (.region [oP 4 (.mv (kI 0))]) (.block 0 (.loop (.seq (.seq (.region [oM 8 4, oM 9 0, oP 10 (.len false (.t 9)), oP 11 (.bin .lss (.t 8) (.t 10))]) (.cond (.t 11) .skip (.exit 0))) (.seq (.block 1 (.region [oM 14 3, oM 15 4, oM 16 0, oM 17 4, oP 18 (.iaddr 1 (.t 16) (.t 17)), oP 19 (.load true 1 (.t 18)), oC 20 93 [(.t 19)], oP 21 (.iaddr 1 (.t 14) (.t 15)), ⟨none, .op (.store 1 (.t 21) (.t 20)), none⟩])) (.region [oM 12 4, oP 13 (.bin .add (.t 12) (kI 1)), oM 4 13])))))) (.seq (.region [oM 22 3, oM 2 22]) .ret))))⟩
theorem c_laws_toDataS_ok : compFn Tryz.prog [] 24 = some c_laws_toDataS := by kernel_rfl
def c_laws_toTokS : AFn := ⟨23, [.t 2], (.seq (.region [oP 2 (.mv (.k (.nils)))]) (.seq (.region [oM 5 0, oP 6 (.len false (.t 5)), oP 7 (.mkslice 5 48 [.int .i64 0, .int .i64 0, .int .i64 0, .int .i64 0, .str []] (.t 6) (.t 6)), oM 3 7]) (.seq (.seq (.region [oP 4 (.mv (kI 0))]) (.block 0 (.loop (.seq (.seq (.region [oM 8 4, oM 9 0, oP 10 (.len false (.t 9)), oP 11 (.bin .lss (.t 8) (.t 10))]) (.cond (.t 11) .skip (.exit 0))) (.seq (.block 1 (.region [oM 14 3, oM 15 4, oM 16 0, oM 17 4, oP 18 (.iaddr 5 (.t 16) (.t 17)), oP 19 (.load true 5 (.t 18)), oC 20 94 [(.t 19)], oP 21 (.iaddr 5 (.t 14) (.t 15)), ⟨none, .op (.store 5 (.t 21) (.t 20)), none⟩])) (.region [oM 12 4, oP 13 (.bin .add (.t 12) (kI 1)), oM 4 13])))))) (.seq (.region [oM 22 3, oM 2 22]) .ret))))⟩
theorem c_laws_toTokS_ok : compFn Tryz.prog [] 25 = some c_laws_toTokS := by kernel_rfl
def c_laws_eqInt64S : AFn := ⟨26, [.t 4], (.seq (.region [oP 4 (.mv (.k (.bool false)))]) (.seq (.seq (.region [oM 6 0, oP 7 (.len false (.t 6)), oM 8 1, oP 9 (.len false (.t 8)), oP 10 (.bin .neq (.t 7) (.t 9))]) (.cond (.t 10) (.seq (.region [oP 4 (.mv (.k (.bool false)))]) .ret) .skip)) (.seq (.seq (.region [oP 5 (.mv (kI 0))]) (.block 0 (.loop (.seq (.seq (.region [oM 11 5, oM 12 0, oP 13 (.len false (.t 12)), oP 14 (.bin .lss (.t 11) (.t 13))]) (.cond (.t 14) .skip (.exit 0))) (.seq (.block 1 (.seq (.draw [[oM 17 0, oM 18 5, oP 19 (.iaddr 1 (.t 17) (.t 18)), oP 20 (.load false 1 (.t 19)), oM 21 1, oM 22 5, oP 23 (.iaddr 1 (.t 21) (.t 22)), oP 24 (.load false 1 (.t 23))], [oP 25 (.bin .neq (.t 20) (.t 24))]]) (.cond (.t 25) (.seq (.region [oP 4 (.mv (.k (.bool false)))]) .ret) .skip))) (.region [oM 15 5, oP 16 (.bin .add (.t 15) (kI 1)), oM 5 16])))))) (.seq (.region [oP 4 (.mv (.k (.bool true)))]) .ret))))⟩
theorem c_laws_eqInt64S_ok : compFn Tryz.prog [] 27 = some c_laws_eqInt64S := by kernel_rfl
def c_laws_eqDataS : AFn := ⟨27, [.t 4], (.seq (.region [oP 4 (.mv (.k (.bool false)))]) (.seq (.seq (.region [oM 6 0, oP 7 (.len false (.t 6)), oM 8 1, oP 9 (.len false (.t 8)), oP 10 (.bin .neq (.t 7) (.t 9))]) (.cond (.t 10) (.seq (.region [oP 4 (.mv (.k (.bool false)))]) .ret) .skip)) (.seq (.seq (.region [oP 5 (.mv (kI 0))]) (.block 0 (.loop (.seq (.seq (.region [oM 11 5, oM 12 0, oP 13 (.len false (.t 12)), oP 14 (.bin .lss (.t 11) (.t 13))]) (.cond (.t 14) .skip (.exit 0))) (.seq (.block 1 (.seq (.draw [[oM 17 0, oM 18 5, oP 19 (.iaddr 1 (.t 17) (.t 18)), oP 20 (.load true 1 (.t 19)), oM 21 1, oM 22 5, oP 23 (.iaddr 1 (.t 21) (.t 22)), oP 24 (.load true 1 (.t 23))], [oC 25 99 [(.t 20), (.t 24)]], [oP 26 (.un .not (.t 25))]]) (.cond (.t 26) (.seq (.region [oP 4 (.mv (.k (.bool false)))]) .ret) .skip))) (.region [oM 15 5, oP 16 (.bin .add (.t 15) (kI 1)), oM 5 16])))))) (.seq (.region [oP 4 (.mv (.k (.bool true)))]) .ret))))⟩
theorem c_laws_eqDataS_ok : compFn Tryz.prog [] 28 = some c_laws_eqDataS := by kernel_rfl
def c_laws_eqTokS : AFn := ⟨27, [.t 4], (.seq (.region [oP 4 (.mv (.k (.bool false)))]) (.seq (.seq (.region [oM 6 0, oP 7 (.len false (.t 6)), oM 8 1, oP 9 (.len false (.t 8)), oP 10 (.bin .neq (.t 7) (.t 9))]) (.cond (.t 10) (.seq (.region [oP 4 (.mv (.k (.bool false)))]) .ret) .skip)) (.seq (.seq (.region [oP 5 (.mv (kI 0))]) (.block 0 (.loop (.seq (.seq (.region [oM 11 5, oM 12 0, oP 13 (.len false (.t 12)), oP 14 (.bin .lss (.t 11) (.t 13))]) (.cond (.t 14) .skip (.exit 0))) (.seq (.block 1 (.seq (.draw [[oM 17 0, oM 18 5, oP 19 (.iaddr 5 (.t 17) (.t 18)), oP 20 (.load true 5 (.t 19)), oM 21 1, oM 22 5, oP 23 (.iaddr 5 (.t 21) (.t 22)), oP 24 (.load true 5 (.t 23))], [oC 25 100 [(.t 20), (.t 24)]], [oP 26 (.un .not (.t 25))]]) (.cond (.t 26) (.seq (.region [oP 4 (.mv (.k (.bool false)))]) .ret) .skip))) (.region [oM 15 5, oP 16 (.bin .add (.t 15) (kI 1)), oM 5 16])))))) (.seq (.region [oP 4 (.mv (.k (.bool true)))]) .ret))))⟩
theorem c_laws_eqTokS_ok : compFn Tryz.prog [] 29 = some c_laws_eqTokS := by kernel_rfl
def c_laws_szValS : AFn := ⟨27, [.t 4], (.seq (.region [oP 4 (.mv (kI 0))]) (.seq (.region [oM 6 1, oM 7 0, oP 8 (.len false (.t 7)), oP 9 (.bin .sub (.t 6) (.t 8)), oM 1 9]) (.seq (.seq (.region [oM 10 1, oP 11 (.bin .lss (.t 10) (kI 0))]) (.cond (.t 11) (.seq (.region [oP 4 (.mv (kI (-1)))]) .ret) .skip)) (.seq (.seq (.region [oP 5 (.mv (kI 0))]) (.block 0 (.loop (.seq (.seq (.region [oM 12 5, oM 13 0, oP 14 (.len false (.t 13)), oP 15 (.bin .lss (.t 12) (.t 14))]) (.cond (.t 15) .skip (.exit 0))) (.seq (.block 1 (.seq (.region [oM 18 0, oM 19 5, oP 20 (.iaddr 3 (.t 18) (.t 19)), oP 21 (.load true 3 (.t 20)), oM 22 1, oC 23 103 [(.t 21), (.t 22)], oM 1 23]) (.seq (.region [oM 24 1, oP 25 (.bin .lss (.t 24) (kI 0))]) (.cond (.t 25) (.seq (.region [oP 4 (.mv (kI (-1)))]) .ret) .skip)))) (.region [oM 16 5, oP 17 (.bin .add (.t 16) (kI 1)), oM 5 17])))))) (.seq (.region [oM 26 1, oM 4 26]) .ret)))))⟩
theorem c_laws_szValS_ok : compFn Tryz.prog [] 35 = some c_laws_szValS := by kernel_rfl
def c_laws_toValS : AFn := ⟨23, [.t 2], (.seq (.region [oP 2 (.mv (.k (.nils)))]) (.seq (.region [oM 5 0, oP 6 (.len false (.t 5)), oP 7 (.mkslice 3 32 [.int .i64 0, .int .i64 0, .str []] (.t 6) (.t 6)), oM 3 7]) (.seq (.seq (.region [oP 4 (.mv (kI 0))]) (.block 0 (.loop (.seq (.seq (.region [oM 8 4, oM 9 0, oP 10 (.len false (.t 9)), oP 11 (.bin .lss (.t 8) (.t 10))]) (.cond (.t 11) .skip (.exit 0))) (.seq (.block 1 (.region [oM 14 3, oM 15 4, oM 16 0, oM 17 4, oP 18 (.iaddr 3 (.t 16) (.t 17)), oP 19 (.load true 3 (.t 18)), oC 20 109 [(.t 19)], oP 21 (.iaddr 3 (.t 14) (.t 15)), ⟨none, .op (.store 3 (.t 21) (.t 20)), none⟩])) (.region [oM 12 4, oP 13 (.bin .add (.t 12) (kI 1)), oM 4 13])))))) (.seq (.region [oM 22 3, oM 2 22]) .ret))))⟩
theorem c_laws_toValS_ok : compFn Tryz.prog [] 38 = some c_laws_toValS := by kernel_rfl
def c_laws_eqValS : AFn := ⟨27, [.t 4], (.seq (.region [oP 4 (.mv (.k (.bool false)))]) (.seq (.seq (.region [oM 6 0, oP 7 (.len false (.t 6)), oM 8 1, oP 9 (.len false (.t 8)), oP 10 (.bin .neq (.t 7) (.t 9))]) (.cond (.t 10) (.seq (.region [oP 4 (.mv (.k (.bool false)))]) .ret) .skip)) (.seq (.seq (.region [oP 5 (.mv (kI 0))]) (.block 0 (.loop (.seq (.seq (.region [oM 11 5, oM 12 0, oP 13 (.len false (.t 12)), oP 14 (.bin .lss (.t 11) (.t 13))]) (.cond (.t 14) .skip (.exit 0))) (.seq (.block 1 (.seq (.draw [[oM 17 0, oM 18 5, oP 19 (.iaddr 3 (.t 17) (.t 18)), oP 20 (.load true 3 (.t 19)), oM 21 1, oM 22 5, oP 23 (.iaddr 3 (.t 21) (.t 22)), oP 24 (.load true 3 (.t 23))], [oC 25 114 [(.t 20), (.t 24)]], [oP 26 (.un .not (.t 25))]]) (.cond (.t 26) (.seq (.region [oP 4 (.mv (.k (.bool false)))]) .ret) .skip))) (.region [oM 15 5, oP 16 (.bin .add (.t 15) (kI 1)), oM 5 16])))))) (.seq (.region [oP 4 (.mv (.k (.bool true)))]) .ret))))⟩
theorem c_laws_eqValS_ok : compFn Tryz.prog [] 41 = some c_laws_eqValS := by kernel_rfl
def c_laws_toInt64S : AFn := ⟨22, [.t 2], (.seq (.region [oP 2 (.mv (.k (.nils)))]) (.seq (.region [oM 5 0, oP 6 (.len false (.t 5)), oP 7 (.mkslice 1 8 [.int .i64 0] (.t 6) (.t 6)), oM 3 7]) (.seq (.seq (.region [oP 4 (.mv (kI 0))]) (.block 0 (.loop (.seq (.seq (.region [oM 8 4, oM 9 0, oP 10 (.len false (.t 9)), oP 11 (.bin .lss (.t 8) (.t 10))]) (.cond (.t 11) .skip (.exit 0))) (.seq (.block 1 (.region [oM 14 3, oM 15 4, oM 16 0, oM 17 4, oP 18 (.iaddr 1 (.t 16) (.t 17)), oP 19 (.load false 1 (.t 18)), oP 20 (.iaddr 1 (.t 14) (.t 15)), ⟨none, .op (.store 1 (.t 20) (.t 19)), none⟩])) (.region [oM 12 4, oP 13 (.bin .add (.t 12) (kI 1)), oM 4 13])))))) (.seq (.region [oM 21 3, oM 2 21]) .ret))))⟩
theorem c_laws_toInt64S_ok : compFn Tryz.prog [] 51 = some c_laws_toInt64S := by kernel_rfl
def c_laws_szSession : AFn := ⟨30, [.t 4], (.seq (.region [oP 2 (.box true (.t 0)), oP 4 (.mv (kI 0))]) (.seq (.region [oP 5 (.faddr 0 (.t 2)), oP 6 (.load false 1 (.t 5)), oM 7 1, oC 8 12 [(.t 6), (.t 7)], oM 1 8]) (.seq (.seq (.region [oM 9 1, oP 10 (.bin .lss (.t 9) (kI 0))]) (.cond (.t 10) (.seq (.region [oP 4 (.mv (kI (-1)))]) .ret) .skip)) (.seq (.region [oP 11 (.faddr 1 (.t 2)), oP 12 (.load false 1 (.t 11)), oM 13 1, oC 14 21 [(.t 12), (.t 13)], oM 1 14]) (.seq (.seq (.region [oM 15 1, oP 16 (.bin .lss (.t 15) (kI 0))]) (.cond (.t 16) (.seq (.region [oP 4 (.mv (kI (-1)))]) .ret) .skip)) (.seq (.region [oP 17 (.faddr 3 (.t 2)), oP 18 (.load false 1 (.t 17)), oM 19 1, oC 20 21 [(.t 18), (.t 19)], oM 1 20]) (.seq (.seq (.region [oM 21 1, oP 22 (.bin .lss (.t 21) (kI 0))]) (.cond (.t 22) (.seq (.region [oP 4 (.mv (kI (-1)))]) .ret) .skip)) (.seq (.region [oP 23 (.faddr 4 (.t 2)), oP 24 (.load false 1 (.t 23)), oM 25 1, oC 26 135 [(.t 24), (.t 25)], oM 1 26]) (.seq (.seq (.region [oM 27 1, oP 28 (.bin .lss (.t 27) (kI 0))]) (.cond (.t 28) (.seq (.region [oP 4 (.mv (kI (-1)))]) .ret) .skip)) (.seq (.region [oM 29 1, oM 4 29]) .ret))))))))))⟩
theorem c_laws_szSession_ok : compFn Tryz.prog [2] 59 = some c_laws_szSession := by kernel_rfl
def c_spec_SessionOk : AFn := ⟨66, [.t 2], (.seq (.region [oP 1 (.box true (.t 0)), oP 2 (.mv (.k (.bool false)))]) (.seq (.seq (.region [oP 4 (.faddr 0 (.t 1)), oP 5 (.load false 1 (.t 4)), oP 6 (.faddr 1 (.t 1)), oP 7 (.load false 1 (.t 6)), oC 8 136 [(.t 5), (.t 7)], oP 9 (.un .not (.t 8)), oM 10 9, oF 11 (.faddr 4 (.t 1)) 10, oF 12 (.load false 1 (.t 11)) 10, oF 13 (.len false (.t 12)) 10, oF 14 (.bin .gtr (.t 13) (kI 8)) 10, oP 15 (.pick (.t 10) (.k (.bool true)) (.t 14))]) (.cond (.t 15) (.seq (.region [oP 2 (.mv (.k (.bool false)))]) .ret) .skip)) (.seq (.seq (.region [oP 16 (.faddr 2 (.t 1)), oP 17 (.load false 1 (.t 16)), oP 18 (.un .not (.t 17))]) (.cond (.t 18) (.seq (.region [oP 19 (.faddr 0 (.t 1)), oP 20 (.load false 1 (.t 19)), oP 21 (.faddr 1 (.t 1)), oP 22 (.load false 1 (.t 21)), oC 23 137 [(.t 20), (.t 22)], oM 24 23, oT 25 (.faddr 3 (.t 1)) 24, oT 26 (.load false 1 (.t 25)) 24, oT 27 (.len false (.t 26)) 24, oT 28 (.faddr 4 (.t 1)) 24, oT 29 (.load false 1 (.t 28)) 24, oT 30 (.len false (.t 29)) 24, oT 31 (.bin .add (.t 27) (.t 30)) 24, oT 32 (.bin .eql (.t 31) (kI 0)) 24, oP 33 (.pick (.t 24) (.t 32) (.k (.bool false))), oM 2 33]) .ret) .skip)) (.seq (.seq (.region [oP 3 (.mv (kI 0))]) (.block 0 (.loop (.seq (.seq (.region [oM 34 3, oP 35 (.faddr 4 (.t 1)), oP 36 (.load false 1 (.t 35)), oP 37 (.len false (.t 36)), oP 38 (.bin .lss (.t 34) (.t 37))]) (.cond (.t 38) .skip (.exit 0))) (.seq (.block 1 (.seq (.draw [[oP 41 (.faddr 4 (.t 1)), oP 42 (.load false 1 (.t 41)), oM 43 3], [oP 44 (.iaddr 2 (.t 42) (.t 43))], [oP 45 (.faddr 0 (.t 44))], [oP 46 (.load false 1 (.t 45))], [oC 47 138 [(.t 46)]], [oP 48 (.un .not (.t 47))], [oM 49 48], [oF 50 (.faddr 0 (.t 1)) 49, oF 51 (.load false 1 (.t 50)) 49, oF 52 (.faddr 4 (.t 1)) 49, oF 53 (.load false 1 (.t 52)) 49, oF 54 (.mv (.t 3)) 49, oF 55 (.iaddr 2 (.t 53) (.t 54)) 49, oF 56 (.faddr 1 (.t 55)) 49, oF 57 (.load false 1 (.t 56)) 49], [⟨some 58, .call (.f 136) [(.t 51), (.t 57)], (some (49, false))⟩], [oF 59 (.un .not (.t 58)) 49], [oP 60 (.pick (.t 49) (.k (.bool true)) (.t 59))]]) (.cond (.t 60) (.seq (.region [oP 2 (.mv (.k (.bool false)))]) .ret) .skip))) (.region [oM 39 3, oP 40 (.bin .add (.t 39) (kI 1)), oM 3 40])))))) (.seq (.region [oP 61 (.faddr 0 (.t 1)), oP 62 (.load false 1 (.t 61)), oP 63 (.faddr 3 (.t 1)), oP 64 (.load false 1 (.t 63)), oC 65 137 [(.t 62), (.t 64)], oM 2 65]) .ret)))))⟩
theorem c_spec_SessionOk_ok : compFn Tryz.prog [1] 60 = some c_spec_SessionOk := by kernel_rfl
def c_laws_toSession : AFn := ⟨24, [.m 2 true 5], (.seq (.region [oP 1 (.box true (.t 0)), oP 2 (.alloc [.nils, .nils, .bool false, .nils, .nils])]) (.seq (.region [oP 3 (.alloc [.nils, .nils, .bool false, .nils, .nils])]) (.seq (.region [oP 4 (.faddr 0 (.t 1)), oP 5 (.load false 1 (.t 4)), oC 6 14 [(.t 5)], oP 7 (.faddr 0 (.t 3)), ⟨none, .op (.store 1 (.t 7) (.t 6)), none⟩]) (.seq (.region [oP 8 (.faddr 1 (.t 1)), oP 9 (.load false 1 (.t 8)), oC 10 24 [(.t 9)], oP 11 (.faddr 1 (.t 3)), ⟨none, .op (.store 1 (.t 11) (.t 10)), none⟩]) (.seq (.region [oP 12 (.faddr 2 (.t 1)), oP 13 (.load false 1 (.t 12)), oP 14 (.faddr 2 (.t 3)), ⟨none, .op (.store 1 (.t 14) (.t 13)), none⟩]) (.seq (.region [oP 15 (.faddr 3 (.t 1)), oP 16 (.load false 1 (.t 15)), oC 17 24 [(.t 16)], oP 18 (.faddr 3 (.t 3)), ⟨none, .op (.store 1 (.t 18) (.t 17)), none⟩]) (.seq (.region [oP 19 (.faddr 4 (.t 1)), oP 20 (.load false 1 (.t 19)), oC 21 139 [(.t 20)], oP 22 (.faddr 4 (.t 3)), ⟨none, .op (.store 1 (.t 22) (.t 21)), none⟩]) (.seq (.region [oP 23 (.load true 5 (.t 3)), ⟨none, .op (.store 5 (.t 2) (.t 23)), none⟩]) .ret))))))))⟩
theorem c_laws_toSession_ok : compFn Tryz.prog [1] 61 = some c_laws_toSession := by kernel_rfl
def c_impl_SessionOk : AFn := ⟨47, [.t 2], (.seq (.region [oP 1 (.box true (.t 0)), oP 2 (.mv (.k (.bool false)))]) (.seq (.seq (.region [oP 3 (.faddr 0 (.t 1)), oP 4 (.load false 1 (.t 3)), oP 5 (.faddr 1 (.t 1)), oP 6 (.load false 1 (.t 5)), oC 7 140 [(.t 4), (.t 6)], oP 8 (.un .not (.t 7)), oM 9 8, oF 10 (.faddr 4 (.t 1)) 9, oF 11 (.load false 1 (.t 10)) 9, oF 12 (.len false (.t 11)) 9, oF 13 (.bin .gtr (.t 12) (kI 8)) 9, oP 14 (.pick (.t 9) (.k (.bool true)) (.t 13))]) (.cond (.t 14) (.seq (.region [oP 2 (.mv (.k (.bool false)))]) .ret) .skip)) (.seq (.seq (.region [oP 15 (.faddr 2 (.t 1)), oP 16 (.load false 1 (.t 15)), oP 17 (.un .not (.t 16))]) (.cond (.t 17) (.seq (.region [oP 18 (.faddr 0 (.t 1)), oP 19 (.load false 1 (.t 18)), oP 20 (.faddr 1 (.t 1)), oP 21 (.load false 1 (.t 20)), oC 22 141 [(.t 19), (.t 21)], oM 23 22, oT 24 (.faddr 3 (.t 1)) 23, oT 25 (.load false 1 (.t 24)) 23, oT 26 (.len false (.t 25)) 23, oT 27 (.bin .eql (.t 26) (kI 0)) 23, oP 28 (.pick (.t 23) (.t 27) (.k (.bool false))), oM 29 28, oT 30 (.faddr 4 (.t 1)) 29, oT 31 (.load false 1 (.t 30)) 29, oT 32 (.len false (.t 31)) 29, oT 33 (.bin .eql (.t 32) (kI 0)) 29, oP 34 (.pick (.t 29) (.t 33) (.k (.bool false))), oM 2 34]) .ret) .skip)) (.seq (.region [oP 35 (.faddr 0 (.t 1)), oP 36 (.load false 1 (.t 35)), oP 37 (.faddr 3 (.t 1)), oP 38 (.load false 1 (.t 37)), oC 39 141 [(.t 36), (.t 38)], oM 40 39, oT 41 (.faddr 4 (.t 1)) 40, oT 42 (.load false 1 (.t 41)) 40, oT 43 (.mkfn 143 [] [(.t 1)]) 40, ⟨some 44, .call (.f 142) [(.t 42), (.t 43)], (some (40, true))⟩, oT 45 (.un .not (.t 44)) 40, oP 46 (.pick (.t 40) (.t 45) (.k (.bool false))), oM 2 46]) .ret))))⟩
theorem c_impl_SessionOk_ok : compFn Tryz.prog [1] 62 = some c_impl_SessionOk := by kernel_rfl
def c_laws_szTable : AFn := ⟨43, [.t 4], (.seq (.region [oP 2 (.box true (.t 0)), oP 4 (.mv (kI 0))]) (.seq (.region [oM 5 1, oP 6 (.faddr 0 (.t 2)), oP 7 (.load false 1 (.t 6)), oP 8 (.len true (.t 7)), oP 9 (.bin .sub (.t 5) (.t 8)), oM 1 9]) (.seq (.seq (.region [oM 10 1, oP 11 (.bin .lss (.t 10) (kI 0))]) (.cond (.t 11) (.seq (.region [oP 4 (.mv (kI (-1)))]) .ret) .skip)) (.seq (.region [oP 12 (.faddr 1 (.t 2)), oP 13 (.load false 1 (.t 12)), oM 14 1, oC 15 175 [(.t 13), (.t 14)], oM 1 15]) (.seq (.seq (.region [oM 16 1, oP 17 (.bin .lss (.t 16) (kI 0))]) (.cond (.t 17) (.seq (.region [oP 4 (.mv (kI (-1)))]) .ret) .skip)) (.seq (.region [oP 18 (.faddr 2 (.t 2)), oP 19 (.load false 1 (.t 18)), oM 20 1, oC 21 154 [(.t 19), (.t 20)], oM 1 21]) (.seq (.seq (.region [oM 22 1, oP 23 (.bin .lss (.t 22) (kI 0))]) (.cond (.t 23) (.seq (.region [oP 4 (.mv (kI (-1)))]) .ret) .skip)) (.seq (.region [oP 24 (.faddr 3 (.t 2)), oP 25 (.load false 1 (.t 24)), oM 26 1, oC 27 176 [(.t 25), (.t 26)], oM 1 27]) (.seq (.seq (.region [oM 28 1, oP 29 (.bin .lss (.t 28) (kI 0))]) (.cond (.t 29) (.seq (.region [oP 4 (.mv (kI (-1)))]) .ret) .skip)) (.seq (.region [oP 30 (.faddr 4 (.t 2)), oP 31 (.load false 1 (.t 30)), oM 32 1, oC 33 177 [(.t 31), (.t 32)], oM 1 33]) (.seq (.seq (.region [oM 34 1, oP 35 (.bin .lss (.t 34) (kI 0))]) (.cond (.t 35) (.seq (.region [oP 4 (.mv (kI (-1)))]) .ret) .skip)) (.seq (.region [oP 36 (.faddr 5 (.t 2)), oP 37 (.load false 1 (.t 36)), oM 38 1, oC 39 178 [(.t 37), (.t 38)], oM 1 39]) (.seq (.seq (.region [oM 40 1, oP 41 (.bin .lss (.t 40) (kI 0))]) (.cond (.t 41) (.seq (.region [oP 4 (.mv (kI (-1)))]) .ret) .skip)) (.seq (.region [oM 42 1, oM 4 42]) .ret))))))))))))))⟩
theorem c_laws_szTable_ok : compFn Tryz.prog [2] 71 = some c_laws_szTable := by kernel_rfl
def c_laws_toTable : AFn := ⟨28, [.m 2 true 6], (.seq (.region [oP 1 (.box true (.t 0)), oP 2 (.alloc [.str [], .nils, .nils, .nils, .nils, .nils])]) (.seq (.region [oP 3 (.alloc [.str [], .nils, .nils, .nils, .nils, .nils])]) (.seq (.region [oP 4 (.faddr 0 (.t 1)), oP 5 (.load false 1 (.t 4)), oP 6 (.faddr 0 (.t 3)), ⟨none, .op (.store 1 (.t 6) (.t 5)), none⟩]) (.seq (.region [oP 7 (.faddr 1 (.t 1)), oP 8 (.load false 1 (.t 7)), oC 9 182 [(.t 8)], oP 10 (.faddr 1 (.t 3)), ⟨none, .op (.store 1 (.t 10) (.t 9)), none⟩]) (.seq (.region [oP 11 (.faddr 2 (.t 1)), oP 12 (.load false 1 (.t 11)), oC 13 51 [(.t 12)], oP 14 (.faddr 2 (.t 3)), ⟨none, .op (.store 1 (.t 14) (.t 13)), none⟩]) (.seq (.region [oP 15 (.faddr 3 (.t 1)), oP 16 (.load false 1 (.t 15)), oC 17 183 [(.t 16)], oP 18 (.faddr 3 (.t 3)), ⟨none, .op (.store 1 (.t 18) (.t 17)), none⟩]) (.seq (.region [oP 19 (.faddr 4 (.t 1)), oP 20 (.load false 1 (.t 19)), oC 21 184 [(.t 20)], oP 22 (.faddr 4 (.t 3)), ⟨none, .op (.store 1 (.t 22) (.t 21)), none⟩]) (.seq (.region [oP 23 (.faddr 5 (.t 1)), oP 24 (.load false 1 (.t 23)), oC 25 185 [(.t 24)], oP 26 (.faddr 5 (.t 3)), ⟨none, .op (.store 1 (.t 26) (.t 25)), none⟩]) (.seq (.region [oP 27 (.load true 6 (.t 3)), ⟨none, .op (.store 6 (.t 2) (.t 27)), none⟩]) .ret)))))))))⟩
theorem c_laws_toTable_ok : compFn Tryz.prog [1] 74 = some c_laws_toTable := by kernel_rfl
def c_laws_eqSaveS : AFn := ⟨27, [.t 4], (.seq (.region [oP 4 (.mv (.k (.bool false)))]) (.seq (.seq (.region [oM 6 0, oP 7 (.len false (.t 6)), oM 8 1, oP 9 (.len false (.t 8)), oP 10 (.bin .neq (.t 7) (.t 9))]) (.cond (.t 10) (.seq (.region [oP 4 (.mv (.k (.bool false)))]) .ret) .skip)) (.seq (.seq (.region [oP 5 (.mv (kI 0))]) (.block 0 (.loop (.seq (.seq (.region [oM 11 5, oM 12 0, oP 13 (.len false (.t 12)), oP 14 (.bin .lss (.t 11) (.t 13))]) (.cond (.t 14) .skip (.exit 0))) (.seq (.block 1 (.seq (.draw [[oM 17 0, oM 18 5, oP 19 (.iaddr 2 (.t 17) (.t 18)), oP 20 (.load true 2 (.t 19)), oM 21 1, oM 22 5, oP 23 (.iaddr 2 (.t 21) (.t 22)), oP 24 (.load true 2 (.t 23))], [oC 25 190 [(.t 20), (.t 24)]], [oP 26 (.un .not (.t 25))]]) (.cond (.t 26) (.seq (.region [oP 4 (.mv (.k (.bool false)))]) .ret) .skip))) (.region [oM 15 5, oP 16 (.bin .add (.t 15) (kI 1)), oM 5 16])))))) (.seq (.region [oP 4 (.mv (.k (.bool true)))]) .ret))))⟩
theorem c_laws_eqSaveS_ok : compFn Tryz.prog [] 77 = some c_laws_eqSaveS := by kernel_rfl
def c_laws_eqTable : AFn := ⟨40, [.t 4], (.seq (.region [oP 2 (.box true (.t 0)), oP 3 (.box true (.t 1)), oP 4 (.mv (.k (.bool false)))]) (.seq (.seq (.region [oP 5 (.faddr 0 (.t 2)), oP 6 (.load false 1 (.t 5)), oP 7 (.faddr 0 (.t 3)), oP 8 (.load false 1 (.t 7)), oP 9 (.bin .neq (.t 6) (.t 8))]) (.cond (.t 9) (.seq (.region [oP 4 (.mv (.k (.bool false)))]) .ret) .skip)) (.seq (.seq (.region [oP 10 (.faddr 1 (.t 2)), oP 11 (.load false 1 (.t 10)), oP 12 (.faddr 1 (.t 3)), oP 13 (.load false 1 (.t 12)), oC 14 191 [(.t 11), (.t 13)], oP 15 (.un .not (.t 14))]) (.cond (.t 15) (.seq (.region [oP 4 (.mv (.k (.bool false)))]) .ret) .skip)) (.seq (.seq (.region [oP 16 (.faddr 2 (.t 2)), oP 17 (.load false 1 (.t 16)), oP 18 (.faddr 2 (.t 3)), oP 19 (.load false 1 (.t 18)), oC 20 27 [(.t 17), (.t 19)], oP 21 (.un .not (.t 20))]) (.cond (.t 21) (.seq (.region [oP 4 (.mv (.k (.bool false)))]) .ret) .skip)) (.seq (.seq (.region [oP 22 (.faddr 3 (.t 2)), oP 23 (.load false 1 (.t 22)), oP 24 (.faddr 3 (.t 3)), oP 25 (.load false 1 (.t 24)), oC 26 192 [(.t 23), (.t 25)], oP 27 (.un .not (.t 26))]) (.cond (.t 27) (.seq (.region [oP 4 (.mv (.k (.bool false)))]) .ret) .skip)) (.seq (.seq (.region [oP 28 (.faddr 4 (.t 2)), oP 29 (.load false 1 (.t 28)), oP 30 (.faddr 4 (.t 3)), oP 31 (.load false 1 (.t 30)), oC 32 193 [(.t 29), (.t 31)], oP 33 (.un .not (.t 32))]) (.cond (.t 33) (.seq (.region [oP 4 (.mv (.k (.bool false)))]) .ret) .skip)) (.seq (.seq (.region [oP 34 (.faddr 5 (.t 2)), oP 35 (.load false 1 (.t 34)), oP 36 (.faddr 5 (.t 3)), oP 37 (.load false 1 (.t 36)), oC 38 194 [(.t 35), (.t 37)], oP 39 (.un .not (.t 38))]) (.cond (.t 39) (.seq (.region [oP 4 (.mv (.k (.bool false)))]) .ret) .skip)) (.seq (.region [oP 4 (.mv (.k (.bool true)))]) .ret))))))))⟩
theorem c_laws_eqTable_ok : compFn Tryz.prog [2, 3] 78 = some c_laws_eqTable := by kernel_rfl
def c_laws_szData : AFn := ⟨12, [.t 4], (.seq (.region [oP 2 (.box true (.t 0)), oP 4 (.mv (kI 0))]) (.seq (.region [oP 5 (.faddr 0 (.t 2)), oP 6 (.load false 1 (.t 5)), oM 7 1, oC 8 200 [(.t 6), (.t 7)], oM 1 8]) (.seq (.seq (.region [oM 9 1, oP 10 (.bin .lss (.t 9) (kI 0))]) (.cond (.t 10) (.seq (.region [oP 4 (.mv (kI (-1)))]) .ret) .skip)) (.seq (.region [oM 11 1, oM 4 11]) .ret))))⟩
theorem c_laws_szData_ok : compFn Tryz.prog [2] 88 = some c_laws_szData := by kernel_rfl
def c_laws_szTok : AFn := ⟨12, [.t 4], (.seq (.region [oP 2 (.box true (.t 0)), oP 4 (.mv (kI 0))]) (.seq (.region [oP 5 (.faddr 2 (.t 2)), oP 6 (.load true 3 (.t 5)), oM 7 1, oC 8 103 [(.t 6), (.t 7)], oM 1 8]) (.seq (.seq (.region [oM 9 1, oP 10 (.bin .lss (.t 9) (kI 0))]) (.cond (.t 10) (.seq (.region [oP 4 (.mv (kI (-1)))]) .ret) .skip)) (.seq (.region [oM 11 1, oM 4 11]) .ret))))⟩
theorem c_laws_szTok_ok : compFn Tryz.prog [2] 89 = some c_laws_szTok := by kernel_rfl
def c_spec_l2Expr : AFn := ⟨38, [.t 4], (.seq (.region [oP 4 (.mv (.k (.bool false)))]) (.seq (.region [oP 5 (.mv (kI 0))]) (.seq (.seq (.region [oP 6 (.mv (kI 0))]) (.block 0 (.loop (.seq (.seq (.region [oM 8 6, oM 9 0, oP 10 (.len false (.t 9)), oP 11 (.bin .lss (.t 8) (.t 10))]) (.cond (.t 11) .skip (.exit 0))) (.seq (.block 1 (.seq (.region [oM 14 0, oM 15 6, oP 16 (.iaddr 5 (.t 14) (.t 15)), oP 17 (.load true 5 (.t 16)), oM 18 1, oC 19 201 [(.t 17), (.t 18)], oM 7 19]) (.seq (.seq (.region [oM 20 7, oP 21 (.bin .lss (.t 20) (kI 0)), oM 22 21, oF 23 (.mv (.t 7)) 22, oF 24 (.mv (.t 5)) 22, oF 25 (.bin .gtr (.t 23) (.t 24)) 22, oP 26 (.pick (.t 22) (.k (.bool true)) (.t 25))]) (.cond (.t 26) (.seq (.region [oP 4 (.mv (.k (.bool false)))]) .ret) .skip)) (.region [oM 27 5, oM 28 7, oP 29 (.bin .sub (.t 27) (.t 28)), oP 30 (.bin .add (.t 29) (kI 1)), oM 5 30])))) (.region [oM 12 6, oP 13 (.bin .add (.t 12) (kI 1)), oM 6 13])))))) (.seq (.region [oM 31 5, oP 32 (.bin .eql (.t 31) (kI 1)), oM 33 32, oT 34 (.mv (.t 0)) 33, oT 35 (.len false (.t 34)) 33, oT 36 (.bin .leq (.t 35) (kI 24)) 33, oP 37 (.pick (.t 33) (.t 36) (.k (.bool false))), oM 4 37]) .ret))))⟩
theorem c_spec_l2Expr_ok : compFn Tryz.prog [] 91 = some c_spec_l2Expr := by kernel_rfl
def c_laws_toData : AFn := ⟨9, [.m 2 true 1], (.seq (.region [oP 1 (.box true (.t 0)), oP 2 (.alloc [.nils])]) (.seq (.region [oP 3 (.alloc [.nils])]) (.seq (.region [oP 4 (.faddr 0 (.t 1)), oP 5 (.load false 1 (.t 4)), oC 6 202 [(.t 5)], oP 7 (.faddr 0 (.t 3)), ⟨none, .op (.store 1 (.t 7) (.t 6)), none⟩]) (.seq (.region [oP 8 (.load true 1 (.t 3)), ⟨none, .op (.store 1 (.t 2) (.t 8)), none⟩]) .ret))))⟩
theorem c_laws_toData_ok : compFn Tryz.prog [1] 93 = some c_laws_toData := by kernel_rfl
def c_laws_toTok : AFn := ⟨15, [.m 2 true 5], (.seq (.region [oP 1 (.box true (.t 0)), oP 2 (.alloc [.int .i64 0, .int .i64 0, .int .i64 0, .int .i64 0, .str []])]) (.seq (.region [oP 3 (.alloc [.int .i64 0, .int .i64 0, .int .i64 0, .int .i64 0, .str []])]) (.seq (.region [oP 4 (.faddr 0 (.t 1)), oP 5 (.load false 1 (.t 4)), oP 6 (.faddr 0 (.t 3)), ⟨none, .op (.store 1 (.t 6) (.t 5)), none⟩]) (.seq (.region [oP 7 (.faddr 1 (.t 1)), oP 8 (.load false 1 (.t 7)), oP 9 (.faddr 1 (.t 3)), ⟨none, .op (.store 1 (.t 9) (.t 8)), none⟩]) (.seq (.region [oP 10 (.faddr 2 (.t 1)), oP 11 (.load true 3 (.t 10)), oC 12 109 [(.t 11)], oP 13 (.faddr 2 (.t 3)), ⟨none, .op (.store 3 (.t 13) (.t 12)), none⟩]) (.seq (.region [oP 14 (.load true 5 (.t 3)), ⟨none, .op (.store 5 (.t 2) (.t 14)), none⟩]) .ret))))))⟩
theorem c_laws_toTok_ok : compFn Tryz.prog [1] 94 = some c_laws_toTok := by kernel_rfl
def c_impl_DbOk : AFn := ⟨33, [.t 4], (.seq (.region [oP 4 (.mv (.k (.bool false)))]) (.seq (.seq (.region [oM 7 0, oC 8 186 [(.t 7)], oP 9 (.un .not (.t 8)), oM 10 9, oF 11 (.mv (.t 1)) 10, oF 12 (.len false (.t 11)) 10, oF 13 (.mv (.t 0)) 10, oF 14 (.len false (.t 13)) 10, oF 15 (.bin .neq (.t 12) (.t 14)) 10, oP 16 (.pick (.t 10) (.k (.bool true)) (.t 15))]) (.cond (.t 16) (.seq (.region [oP 4 (.mv (.k (.bool false)))]) .ret) .skip)) (.seq (.seq (.region [oM 17 1, oP 18 (.len false (.t 17)), oP 19 (.mv (kI 0))]) (.block 0 (.loop (.seq (.region [oP 20 (.bin .lss (.t 19) (.t 18))]) (.seq (.cond (.t 20) .skip (.exit 0)) (.seq (.block 1 (.seq (.region [oM 21 19, oP 22 (.iaddr 1 (.t 17) (.t 19)), oP 23 (.load true 1 (.t 22)), oP 6 (.alloc [.nils]), oM 5 21, ⟨none, .op (.store 1 (.t 6) (.t 23)), none⟩]) (.seq (.draw [[oM 24 0, oM 25 5, oP 26 (.iaddr 6 (.t 24) (.t 25)), oP 27 (.load true 6 (.t 26)), oP 28 (.faddr 0 (.t 6)), oP 29 (.load false 1 (.t 28))], [oC 30 203 [(.t 27), (.t 29)]], [oP 31 (.un .not (.t 30))]]) (.cond (.t 31) (.seq (.region [oP 4 (.mv (.k (.bool false)))]) .ret) .skip)))) (.region [oP 32 (.bin .add (.t 19) (kI 1)), oM 19 32]))))))) (.seq (.region [oP 4 (.mv (.k (.bool true)))]) .ret))))⟩
theorem c_impl_DbOk_ok : compFn Tryz.prog [] 95 = some c_impl_DbOk := by kernel_rfl
def c_laws_eqData : AFn := ⟨11, [.t 4], (.seq (.region [oP 2 (.box true (.t 0)), oP 3 (.box true (.t 1)), oP 4 (.mv (.k (.bool false)))]) (.seq (.seq (.region [oP 5 (.faddr 0 (.t 2)), oP 6 (.load false 1 (.t 5)), oP 7 (.faddr 0 (.t 3)), oP 8 (.load false 1 (.t 7)), oC 9 204 [(.t 6), (.t 8)], oP 10 (.un .not (.t 9))]) (.cond (.t 10) (.seq (.region [oP 4 (.mv (.k (.bool false)))]) .ret) .skip)) (.seq (.region [oP 4 (.mv (.k (.bool true)))]) .ret)))⟩
theorem c_laws_eqData_ok : compFn Tryz.prog [2, 3] 99 = some c_laws_eqData := by kernel_rfl
def c_laws_eqTok : AFn := ⟨21, [.t 4], (.seq (.region [oP 2 (.box true (.t 0)), oP 3 (.box true (.t 1)), oP 4 (.mv (.k (.bool false)))]) (.seq (.seq (.region [oP 5 (.faddr 0 (.t 2)), oP 6 (.load false 1 (.t 5)), oP 7 (.faddr 0 (.t 3)), oP 8 (.load false 1 (.t 7)), oP 9 (.bin .neq (.t 6) (.t 8))]) (.cond (.t 9) (.seq (.region [oP 4 (.mv (.k (.bool false)))]) .ret) .skip)) (.seq (.seq (.region [oP 10 (.faddr 1 (.t 2)), oP 11 (.load false 1 (.t 10)), oP 12 (.faddr 1 (.t 3)), oP 13 (.load false 1 (.t 12)), oP 14 (.bin .neq (.t 11) (.t 13))]) (.cond (.t 14) (.seq (.region [oP 4 (.mv (.k (.bool false)))]) .ret) .skip)) (.seq (.seq (.region [oP 15 (.faddr 2 (.t 2)), oP 16 (.load true 3 (.t 15)), oP 17 (.faddr 2 (.t 3)), oP 18 (.load true 3 (.t 17)), oC 19 114 [(.t 16), (.t 18)], oP 20 (.un .not (.t 19))]) (.cond (.t 20) (.seq (.region [oP 4 (.mv (.k (.bool false)))]) .ret) .skip)) (.seq (.region [oP 4 (.mv (.k (.bool true)))]) .ret)))))⟩
theorem c_laws_eqTok_ok : compFn Tryz.prog [2, 3] 100 = some c_laws_eqTok := by kernel_rfl
def c_laws_szVal : AFn := ⟨13, [.t 4], (.seq (.region [oP 2 (.box true (.t 0)), oP 4 (.mv (kI 0))]) (.seq (.region [oM 5 1, oP 6 (.faddr 2 (.t 2)), oP 7 (.load false 1 (.t 6)), oP 8 (.len true (.t 7)), oP 9 (.bin .sub (.t 5) (.t 8)), oM 1 9]) (.seq (.seq (.region [oM 10 1, oP 11 (.bin .lss (.t 10) (kI 0))]) (.cond (.t 11) (.seq (.region [oP 4 (.mv (kI (-1)))]) .ret) .skip)) (.seq (.region [oM 12 1, oM 4 12]) .ret))))⟩
theorem c_laws_szVal_ok : compFn Tryz.prog [2] 103 = some c_laws_szVal := by kernel_rfl
def c_spec_l1In : AFn := ⟨15, [.t 6], (.seq (.region [oP 6 (.mv (.k (.bool false)))]) (.seq (.region [oM 7 0, oM 8 1, oP 9 (.bin .geq (.t 7) (.t 8)), oM 10 9, oT 11 (.mv (.t 0)) 10, oT 12 (.mv (.t 2)) 10, oT 13 (.bin .leq (.t 11) (.t 12)) 10, oP 14 (.pick (.t 10) (.t 13) (.k (.bool false))), oM 6 14]) .ret))⟩
theorem c_spec_l1In_ok : compFn Tryz.prog [] 105 = some c_spec_l1In := by kernel_rfl
def c_laws_toVal : AFn := ⟨14, [.m 2 true 3], (.seq (.region [oP 1 (.box true (.t 0)), oP 2 (.alloc [.int .i64 0, .int .i64 0, .str []])]) (.seq (.region [oP 3 (.alloc [.int .i64 0, .int .i64 0, .str []])]) (.seq (.region [oP 4 (.faddr 0 (.t 1)), oP 5 (.load false 1 (.t 4)), oP 6 (.faddr 0 (.t 3)), ⟨none, .op (.store 1 (.t 6) (.t 5)), none⟩]) (.seq (.region [oP 7 (.faddr 1 (.t 1)), oP 8 (.load false 1 (.t 7)), oP 9 (.faddr 1 (.t 3)), ⟨none, .op (.store 1 (.t 9) (.t 8)), none⟩]) (.seq (.region [oP 10 (.faddr 2 (.t 1)), oP 11 (.load false 1 (.t 10)), oP 12 (.faddr 2 (.t 3)), ⟨none, .op (.store 1 (.t 12) (.t 11)), none⟩]) (.seq (.region [oP 13 (.load true 3 (.t 3)), ⟨none, .op (.store 3 (.t 2) (.t 13)), none⟩]) .ret))))))⟩
theorem c_laws_toVal_ok : compFn Tryz.prog [1] 109 = some c_laws_toVal := by kernel_rfl
def c_impl_fit : AFn := ⟨30, [.t 4], (.seq (.region [oP 2 (.box true (.t 0)), oP 4 (.mv (.k (.bool false)))]) (.seq (.seq (.region [oM 7 1, oP 8 (.len false (.t 7)), oP 9 (.faddr 1 (.t 2)), oP 10 (.load false 1 (.t 9)), oP 11 (.len false (.t 10)), oP 12 (.bin .neq (.t 8) (.t 11))]) (.cond (.t 12) (.seq (.region [oP 4 (.mv (.k (.bool false)))]) .ret) .skip)) (.seq (.seq (.region [oM 13 1, oP 14 (.len false (.t 13)), oP 15 (.mv (kI 0))]) (.block 0 (.loop (.seq (.region [oP 16 (.bin .lss (.t 15) (.t 14))]) (.seq (.cond (.t 16) .skip (.exit 0)) (.seq (.block 1 (.seq (.region [oM 17 15, oP 18 (.iaddr 3 (.t 13) (.t 15)), oP 19 (.load true 3 (.t 18)), oP 6 (.alloc [.int .i64 0, .int .i64 0, .str []]), oM 5 17, ⟨none, .op (.store 3 (.t 6) (.t 19)), none⟩]) (.seq (.draw [[oP 20 (.load true 3 (.t 6)), oP 21 (.faddr 1 (.t 2)), oP 22 (.load false 1 (.t 21)), oM 23 5, oP 24 (.iaddr 6 (.t 22) (.t 23)), oP 25 (.faddr 1 (.t 24)), oP 26 (.load false 1 (.t 25))], [oC 27 211 [(.t 20), (.t 26)]], [oP 28 (.un .not (.t 27))]]) (.cond (.t 28) (.seq (.region [oP 4 (.mv (.k (.bool false)))]) .ret) .skip)))) (.region [oP 29 (.bin .add (.t 15) (kI 1)), oM 15 29]))))))) (.seq (.region [oP 4 (.mv (.k (.bool true)))]) .ret))))⟩
theorem c_impl_fit_ok : compFn Tryz.prog [2] 111 = some c_impl_fit := by kernel_rfl
def c_laws_eqVal : AFn := ⟨20, [.t 4], (.seq (.region [oP 2 (.box true (.t 0)), oP 3 (.box true (.t 1)), oP 4 (.mv (.k (.bool false)))]) (.seq (.seq (.region [oP 5 (.faddr 0 (.t 2)), oP 6 (.load false 1 (.t 5)), oP 7 (.faddr 0 (.t 3)), oP 8 (.load false 1 (.t 7)), oP 9 (.bin .neq (.t 6) (.t 8))]) (.cond (.t 9) (.seq (.region [oP 4 (.mv (.k (.bool false)))]) .ret) .skip)) (.seq (.seq (.region [oP 10 (.faddr 1 (.t 2)), oP 11 (.load false 1 (.t 10)), oP 12 (.faddr 1 (.t 3)), oP 13 (.load false 1 (.t 12)), oP 14 (.bin .neq (.t 11) (.t 13))]) (.cond (.t 14) (.seq (.region [oP 4 (.mv (.k (.bool false)))]) .ret) .skip)) (.seq (.seq (.region [oP 15 (.faddr 2 (.t 2)), oP 16 (.load false 1 (.t 15)), oP 17 (.faddr 2 (.t 3)), oP 18 (.load false 1 (.t 17)), oP 19 (.bin .neq (.t 16) (.t 18))]) (.cond (.t 19) (.seq (.region [oP 4 (.mv (.k (.bool false)))]) .ret) .skip)) (.seq (.region [oP 4 (.mv (.k (.bool true)))]) .ret)))))⟩
theorem c_laws_eqVal_ok : compFn Tryz.prog [2, 3] 114 = some c_laws_eqVal := by kernel_rfl
def c_spec_l2Truth : AFn := ⟨27, [.t 4], (.seq (.region [oP 4 (.mv (kI 0))]) (.seq (.region [oM 10 0, oM 11 1, oC 12 160 [(.t 10), (.t 11)], oM 9 12, oP 13 (.ext (.t 9) 0), oP 14 (.ext (.t 9) 1), oP 5 (.alloc [.int .i64 0, .int .i64 0, .str []]), ⟨none, .op (.store 3 (.t 5) (.t 13)), none⟩, oM 6 14]) (.seq (.region [oP 16 (.load true 3 (.t 5)), oC 17 213 [(.t 16)], oM 15 17, oP 18 (.ext (.t 15) 0), oP 19 (.ext (.t 15) 1), oM 7 18, oM 8 19]) (.seq (.seq (.region [oM 20 6, oP 21 (.un .not (.t 20)), oM 22 21, oF 23 (.mv (.t 8)) 22, oF 24 (.un .not (.t 23)) 22, oP 25 (.pick (.t 22) (.k (.bool true)) (.t 24))]) (.cond (.t 25) (.seq (.region [oP 4 (.mv (kI (-1)))]) .ret) .skip)) (.seq (.region [oM 26 7, oM 4 26]) .ret)))))⟩
theorem c_spec_l2Truth_ok : compFn Tryz.prog [] 117 = some c_spec_l2Truth := by kernel_rfl
def c_impl_ExprOk : AFn := ⟨40, [.t 4], (.seq (.region [oP 4 (.mv (.k (.bool false)))]) (.seq (.seq (.region [oM 8 0, oP 9 (.len false (.t 8)), oP 10 (.bin .gtr (.t 9) (kI 24)), oM 11 10, oF 12 (.mv (.t 1)) 11, ⟨some 13, .call (.f 148) [(.t 12), (kI 0), (kI 16)], (some (11, false))⟩, oF 14 (.un .not (.t 13)) 11, oP 15 (.pick (.t 11) (.k (.bool true)) (.t 14))]) (.cond (.t 15) (.seq (.region [oP 4 (.mv (.k (.bool false)))]) .ret) .skip)) (.seq (.region [oP 5 (.mv (kI 0))]) (.seq (.seq (.region [oM 16 0, oP 17 (.len false (.t 16)), oP 18 (.mv (kI 0))]) (.block 0 (.loop (.seq (.region [oP 19 (.bin .lss (.t 18) (.t 17))]) (.seq (.cond (.t 19) .skip (.exit 0)) (.seq (.block 1 (.seq (.region [oP 20 (.iaddr 5 (.t 16) (.t 18)), oP 21 (.load true 5 (.t 20)), oP 7 (.alloc [.int .i64 0, .int .i64 0, .int .i64 0, .int .i64 0, .str []]), ⟨none, .op (.store 5 (.t 7) (.t 21)), none⟩]) (.seq (.seq (.region [oP 22 (.load true 5 (.t 7)), oM 23 1, oC 24 214 [(.t 22), (.t 23)], oP 25 (.un .not (.t 24)), oM 26 25, oF 27 (.mv (.t 5)) 26, oF 28 (.load true 5 (.t 7)) 26, ⟨some 29, .call (.f 215) [(.t 28)], (some (26, false))⟩, oF 30 (.bin .lss (.t 27) (.t 29)) 26, oP 31 (.pick (.t 26) (.k (.bool true)) (.t 30))]) (.cond (.t 31) (.seq (.region [oP 4 (.mv (.k (.bool false)))]) .ret) .skip)) (.region [oM 32 5, oP 33 (.load true 5 (.t 7)), oC 34 215 [(.t 33)], oP 35 (.bin .sub (kI 1) (.t 34)), oP 36 (.bin .add (.t 32) (.t 35)), oM 5 36])))) (.region [oP 37 (.bin .add (.t 18) (kI 1)), oM 18 37]))))))) (.seq (.region [oM 38 5, oP 39 (.bin .eql (.t 38) (kI 1)), oM 4 39]) .ret)))))⟩
theorem c_impl_ExprOk_ok : compFn Tryz.prog [] 118 = some c_impl_ExprOk := by kernel_rfl
def c_impl_Truth : AFn := ⟨17, [.t 4], (.seq (.region [oP 4 (.mv (kI 0))]) (.seq (.region [oM 8 0, oM 9 1, oC 10 173 [(.t 8), (.t 9)], oM 7 10, oP 11 (.ext (.t 7) 0), oP 12 (.ext (.t 7) 1), oP 5 (.alloc [.int .i64 0, .int .i64 0, .str []]), ⟨none, .op (.store 3 (.t 5) (.t 11)), none⟩, oM 6 12]) (.seq (.seq (.region [oM 13 6, oP 14 (.un .not (.t 13))]) (.cond (.t 14) (.seq (.region [oP 4 (.mv (kI (-1)))]) .ret) .skip)) (.seq (.region [oP 15 (.load true 3 (.t 5)), oC 16 217 [(.t 15)], oM 4 16]) .ret))))⟩
theorem c_impl_Truth_ok : compFn Tryz.prog [] 120 = some c_impl_Truth := by kernel_rfl
def c_spec_l3Cols : AFn := ⟨33, [.t 4], (.seq (.region [oP 4 (.mv (.k (.bool false)))]) (.seq (.seq (.region [oP 5 (.mv (kI 0))]) (.block 0 (.loop (.seq (.seq (.region [oM 6 5, oM 7 0, oP 8 (.len false (.t 7)), oP 9 (.bin .lss (.t 6) (.t 8))]) (.cond (.t 9) .skip (.exit 0))) (.seq (.block 1 (.seq (.draw [[oM 12 0, oM 13 5, oP 14 (.iaddr 1 (.t 12) (.t 13)), oP 15 (.load false 1 (.t 14)), oM 16 1, oP 17 (.bin .sub (.t 16) (kI 1))], [oC 18 105 [(.t 15), (kI 0), (.t 17)]], [oP 19 (.un .not (.t 18))], [oM 20 19], [oF 21 (.mv (.t 0)) 20, oF 22 (.mv (.t 5)) 20, oF 23 (.slice 1 (.t 21) none (some (.t 22)) none) 20, oF 24 (.mv (.t 0)) 20, oF 25 (.mv (.t 5)) 20, oF 26 (.iaddr 1 (.t 24) (.t 25)) 20, oF 27 (.load false 1 (.t 26)) 20], [⟨some 28, .call (.f 220) [(.t 23), (.t 27)], (some (20, false))⟩], [oP 29 (.pick (.t 20) (.k (.bool true)) (.t 28))]]) (.cond (.t 29) (.seq (.region [oP 4 (.mv (.k (.bool false)))]) .ret) .skip))) (.region [oM 10 5, oP 11 (.bin .add (.t 10) (kI 1)), oM 5 11])))))) (.seq (.region [oM 30 0, oP 31 (.len false (.t 30)), oP 32 (.bin .gtr (.t 31) (kI 0)), oM 4 32]) .ret)))⟩
theorem c_spec_l3Cols_ok : compFn Tryz.prog [] 129 = some c_spec_l3Cols := by kernel_rfl
def c_impl_keyOf : AFn := ⟨36, [.t 4, .t 5], (.seq (.region [oP 4 (.mv (.k (.nils))), oP 5 (.mv (.k (.bool false)))]) (.seq (.region [oP 10 (.mksl false 3 0 [.int .i64 0, .int .i64 0, .str []] []), oM 6 10, oP 7 (.mv (.k (.bool true)))]) (.seq (.seq (.region [oM 11 0, oP 12 (.len false (.t 11)), oP 13 (.mv (kI 0))]) (.block 0 (.loop (.seq (.region [oP 14 (.bin .lss (.t 13) (.t 12))]) (.seq (.cond (.t 14) .skip (.exit 0)) (.seq (.block 1 (.seq (.region [oP 15 (.iaddr 1 (.t 11) (.t 13)), oP 16 (.load false 1 (.t 15)), oM 9 16]) (.seq (.region [oM 17 6, oM 18 1, oM 19 9, oP 20 (.iaddr 3 (.t 18) (.t 19)), oP 21 (.load true 3 (.t 20)), oP 22 (.mksl true 3 1 [.int .i64 0, .int .i64 0, .str []] [(0, (.t 21))]), oP 23 (.app 3 32 (.t 17) (.t 22)), oM 6 23]) (.region [oM 24 7, oM 25 24, oT 26 (.mv (.t 1)) 25, oT 27 (.mv (.t 9)) 25, oT 28 (.iaddr 3 (.t 26) (.t 27)) 25, oT 29 (.faddr 0 (.t 28)) 25, oT 30 (.load false 1 (.t 29)) 25, oT 31 (.bin .neq (.t 30) (kI 0)) 25, oP 32 (.pick (.t 25) (.t 31) (.k (.bool false))), oM 7 32])))) (.region [oP 33 (.bin .add (.t 13) (kI 1)), oM 13 33]))))))) (.seq (.region [oM 34 6, oM 35 7, oM 4 34, oM 5 35]) .ret))))⟩
theorem c_impl_keyOf_ok : compFn Tryz.prog [22] 132 = some c_impl_keyOf := by kernel_rfl
def c_laws_szSaveS : AFn := ⟨27, [.t 4], (.seq (.region [oP 4 (.mv (kI 0))]) (.seq (.region [oM 6 1, oM 7 0, oP 8 (.len false (.t 7)), oP 9 (.bin .sub (.t 6) (.t 8)), oM 1 9]) (.seq (.seq (.region [oM 10 1, oP 11 (.bin .lss (.t 10) (kI 0))]) (.cond (.t 11) (.seq (.region [oP 4 (.mv (kI (-1)))]) .ret) .skip)) (.seq (.seq (.region [oP 5 (.mv (kI 0))]) (.block 0 (.loop (.seq (.seq (.region [oM 12 5, oM 13 0, oP 14 (.len false (.t 13)), oP 15 (.bin .lss (.t 12) (.t 14))]) (.cond (.t 15) .skip (.exit 0))) (.seq (.block 1 (.seq (.region [oM 18 0, oM 19 5, oP 20 (.iaddr 2 (.t 18) (.t 19)), oP 21 (.load true 2 (.t 20)), oM 22 1, oC 23 226 [(.t 21), (.t 22)], oM 1 23]) (.seq (.region [oM 24 1, oP 25 (.bin .lss (.t 24) (kI 0))]) (.cond (.t 25) (.seq (.region [oP 4 (.mv (kI (-1)))]) .ret) .skip)))) (.region [oM 16 5, oP 17 (.bin .add (.t 16) (kI 1)), oM 5 17])))))) (.seq (.region [oM 26 1, oM 4 26]) .ret)))))⟩
theorem c_laws_szSaveS_ok : compFn Tryz.prog [] 135 = some c_laws_szSaveS := by kernel_rfl
def c_spec_SoundNow : AFn := ⟨15, [.t 4], (.seq (.region [oP 4 (.mv (.k (.bool false)))]) (.seq (.region [oM 5 0, oM 6 1, oC 7 155 [(.t 5), (.t 6)], oM 8 7, oT 9 (.mv (.t 0)) 8, oT 10 (.mv (.t 1)) 8, ⟨some 11, .call (.f 227) [(.t 9), (.t 10), (.k (.bool true))], (some (8, true))⟩, oT 12 (.len false (.t 11)) 8, oT 13 (.bin .eql (.t 12) (kI 0)) 8, oP 14 (.pick (.t 8) (.t 13) (.k (.bool false))), oM 4 14]) .ret))⟩
theorem c_spec_SoundNow_ok : compFn Tryz.prog [] 136 = some c_spec_SoundNow := by kernel_rfl
def c_spec_Sound : AFn := ⟨15, [.t 4], (.seq (.region [oP 4 (.mv (.k (.bool false)))]) (.seq (.region [oM 5 0, oM 6 1, oC 7 155 [(.t 5), (.t 6)], oM 8 7, oT 9 (.mv (.t 0)) 8, oT 10 (.mv (.t 1)) 8, ⟨some 11, .call (.f 227) [(.t 9), (.t 10), (.k (.bool false))], (some (8, true))⟩, oT 12 (.len false (.t 11)) 8, oT 13 (.bin .eql (.t 12) (kI 0)) 8, oP 14 (.pick (.t 8) (.t 13) (.k (.bool false))), oM 4 14]) .ret))⟩
theorem c_spec_Sound_ok : compFn Tryz.prog [] 137 = some c_spec_Sound := by kernel_rfl
def c_spec_l3Name : AFn := ⟨23, [.t 2], (.seq (.region [oP 2 (.mv (.k (.bool false)))]) (.seq (.seq (.region [oP 3 (.mv (kI 0))]) (.block 0 (.loop (.seq (.seq (.region [oM 4 3, oM 5 0, oP 6 (.len true (.t 5)), oP 7 (.bin .lss (.t 4) (.t 6))]) (.cond (.t 7) .skip (.exit 0))) (.seq (.block 1 (.seq (.region [oM 10 0, oM 11 3, oP 12 (.idx (.t 10) (.t 11)), oP 13 (.bin .lss (.t 12) (.k (.int .u8 97))), oM 14 13, oF 15 (.mv (.t 0)) 14, oF 16 (.mv (.t 3)) 14, oF 17 (.idx (.t 15) (.t 16)) 14, oF 18 (.bin .gtr (.t 17) (.k (.int .u8 122))) 14, oP 19 (.pick (.t 14) (.k (.bool true)) (.t 18))]) (.cond (.t 19) (.seq (.region [oP 2 (.mv (.k (.bool false)))]) .ret) .skip))) (.region [oM 8 3, oP 9 (.bin .add (.t 8) (kI 1)), oM 3 9])))))) (.seq (.region [oM 20 0, oP 21 (.len true (.t 20)), oC 22 105 [(.t 21), (kI 1), (kI 8)], oM 2 22]) .ret)))⟩
theorem c_spec_l3Name_ok : compFn Tryz.prog [] 138 = some c_spec_l3Name := by kernel_rfl
def c_laws_toSaveS : AFn := ⟨23, [.t 2], (.seq (.region [oP 2 (.mv (.k (.nils)))]) (.seq (.region [oM 5 0, oP 6 (.len false (.t 5)), oP 7 (.mkslice 2 40 [.str [], .nils] (.t 6) (.t 6)), oM 3 7]) (.seq (.seq (.region [oP 4 (.mv (kI 0))]) (.block 0 (.loop (.seq (.seq (.region [oM 8 4, oM 9 0, oP 10 (.len false (.t 9)), oP 11 (.bin .lss (.t 8) (.t 10))]) (.cond (.t 11) .skip (.exit 0))) (.seq (.block 1 (.region [oM 14 3, oM 15 4, oM 16 0, oM 17 4, oP 18 (.iaddr 2 (.t 16) (.t 17)), oP 19 (.load true 2 (.t 18)), oC 20 228 [(.t 19)], oP 21 (.iaddr 2 (.t 14) (.t 15)), ⟨none, .op (.store 2 (.t 21) (.t 20)), none⟩])) (.region [oM 12 4, oP 13 (.bin .add (.t 12) (kI 1)), oM 4 13])))))) (.seq (.region [oM 22 3, oM 2 22]) .ret))))⟩
theorem c_laws_toSaveS_ok : compFn Tryz.prog [] 139 = some c_laws_toSaveS := by kernel_rfl
def c_impl_SoundNow : AFn := ⟨15, [.t 4], (.seq (.region [oP 4 (.mv (.k (.bool false)))]) (.seq (.region [oM 5 0, oM 6 1, oC 7 95 [(.t 5), (.t 6)], oM 8 7, oT 9 (.mv (.t 0)) 8, oT 10 (.mv (.t 1)) 8, ⟨some 11, .call (.f 229) [(.t 9), (.t 10), (.k (.bool false))], (some (8, true))⟩, oT 12 (.len false (.t 11)) 8, oT 13 (.bin .eql (.t 12) (kI 0)) 8, oP 14 (.pick (.t 8) (.t 13) (.k (.bool false))), oM 4 14]) .ret))⟩
theorem c_impl_SoundNow_ok : compFn Tryz.prog [] 140 = some c_impl_SoundNow := by kernel_rfl
def c_impl_Sound : AFn := ⟨15, [.t 4], (.seq (.region [oP 4 (.mv (.k (.bool false)))]) (.seq (.region [oM 5 0, oM 6 1, oC 7 95 [(.t 5), (.t 6)], oM 8 7, oT 9 (.mv (.t 0)) 8, oT 10 (.mv (.t 1)) 8, ⟨some 11, .call (.f 229) [(.t 9), (.t 10), (.k (.bool true))], (some (8, true))⟩, oT 12 (.len false (.t 11)) 8, oT 13 (.bin .eql (.t 12) (kI 0)) 8, oP 14 (.pick (.t 8) (.t 13) (.k (.bool false))), oM 4 14]) .ret))⟩
theorem c_impl_Sound_ok : compFn Tryz.prog [] 141 = some c_impl_Sound := by kernel_rfl
def c_slices_ContainsFunc_Save : AFn := ⟨9, [.t 4], (.seq (.region [oP 4 (.mv (.k (.bool false)))]) (.seq (.region [oM 5 0, oM 6 1, oC 7 230 [(.t 5), (.t 6)], oP 8 (.bin .geq (.t 7) (kI 0)), oM 4 8]) .ret))⟩
theorem c_slices_ContainsFunc_Save_ok : compFn Tryz.prog [] 142 = some c_slices_ContainsFunc_Save := by kernel_rfl
def c_impl_SessionOk_1 : AFn := ⟨16, [.t 3], (.seq (.region [oP 2 (.box true (.t 0)), oP 3 (.mv (.k (.bool false)))]) (.seq (.region [oP 4 (.faddr 0 (.t 2)), oP 5 (.load false 1 (.t 4)), oC 6 144 [(.t 5)], oP 7 (.un .not (.t 6)), oM 8 7, oF 9 (.faddr 0 (.t 1)) 8, oF 10 (.load false 1 (.t 9)) 8, oF 11 (.faddr 1 (.t 2)) 8, oF 12 (.load false 1 (.t 11)) 8, ⟨some 13, .call (.f 140) [(.t 10), (.t 12)], (some (8, false))⟩, oF 14 (.un .not (.t 13)) 8, oP 15 (.pick (.t 8) (.k (.bool true)) (.t 14)), oM 3 15]) .ret))⟩
theorem c_impl_SessionOk_1_ok : compFn Tryz.prog [2] 143 = some c_impl_SessionOk_1 := by kernel_rfl
def c_impl_isName : AFn := ⟨23, [.t 2], (.seq (.region [oP 2 (.mv (.k (.bool false)))]) (.seq (.seq (.region [oM 4 0, oP 5 (.len true (.t 4)), oP 6 (.mv (kI 0))]) (.block 0 (.loop (.seq (.region [oP 7 (.bin .lss (.t 6) (.t 5))]) (.seq (.cond (.t 7) .skip (.exit 0)) (.seq (.block 1 (.seq (.region [oM 8 6, oM 3 8]) (.seq (.region [oM 9 0, oM 10 3, oP 11 (.idx (.t 9) (.t 10)), oP 12 (.bin .lss (.t 11) (.k (.int .u8 97))), oM 13 12, oF 14 (.mv (.t 0)) 13, oF 15 (.mv (.t 3)) 13, oF 16 (.idx (.t 14) (.t 15)) 13, oF 17 (.bin .gtr (.t 16) (.k (.int .u8 122))) 13, oP 18 (.pick (.t 13) (.k (.bool true)) (.t 17))]) (.cond (.t 18) (.seq (.region [oP 2 (.mv (.k (.bool false)))]) .ret) .skip)))) (.region [oP 19 (.bin .add (.t 6) (kI 1)), oM 6 19]))))))) (.seq (.region [oM 20 0, oP 21 (.len true (.t 20)), oC 22 148 [(.t 21), (kI 1), (kI 8)], oM 2 22]) .ret)))⟩
theorem c_impl_isName_ok : compFn Tryz.prog [] 144 = some c_impl_isName := by kernel_rfl
def c_spec_l1Order : AFn := ⟨36, [.t 4], (.seq (.region [oP 2 (.box true (.t 0)), oP 3 (.box true (.t 1)), oP 4 (.mv (kI 0))]) (.seq (.block 0 (.seq (.region [oP 6 (.faddr 0 (.t 2)), oP 7 (.load false 1 (.t 6)), oP 8 (.faddr 0 (.t 3)), oP 9 (.load false 1 (.t 8)), oP 10 (.bin .lss (.t 7) (.t 9)), oM 11 10, oF 12 (.faddr 0 (.t 2)) 11, oF 13 (.load false 1 (.t 12)) 11, oF 14 (.faddr 0 (.t 3)) 11, oF 15 (.load false 1 (.t 14)) 11, oF 16 (.bin .eql (.t 13) (.t 15)) 11, oF 17 (.mv (.t 16)) 11, oT 18 (.faddr 1 (.t 2)) 17, oT 19 (.load false 1 (.t 18)) 17, oT 20 (.faddr 1 (.t 3)) 17, oT 21 (.load false 1 (.t 20)) 17, oT 22 (.bin .lss (.t 19) (.t 21)) 17, oT 23 (.mv (.t 22)) 17, oF 24 (.faddr 2 (.t 2)) 23, oF 25 (.load false 1 (.t 24)) 23, oF 26 (.faddr 2 (.t 3)) 23, oF 27 (.load false 1 (.t 26)) 23, oF 28 (.bin .lss (.t 25) (.t 27)) 23, oT 29 (.pick (.t 23) (.k (.bool true)) (.t 28)) 17, oF 30 (.pick (.t 17) (.t 29) (.k (.bool false))) 11, oP 31 (.pick (.t 11) (.k (.bool true)) (.t 30)), oM 5 31]) (.cond (.t 5) (.seq (.region [oP 4 (.mv (kI (-1)))]) .ret) (.seq (.region [oP 33 (.load true 3 (.t 2)), oP 34 (.load true 3 (.t 3)), oP 35 (.eq false true [.i, .i, .s] (.t 33) (.t 34)), oM 32 35]) (.cond (.t 32) (.seq (.region [oP 4 (.mv (kI 0))]) .ret) .skip))))) (.seq (.region [oP 4 (.mv (kI 1))]) .ret)))⟩
theorem c_spec_l1Order_ok : compFn Tryz.prog [2, 3] 145 = some c_spec_l1Order := by kernel_rfl
def c_spec_l1Int : AFn := ⟨5, [.m 2 true 3], (.seq (.region [oP 2 (.alloc [.int .i64 0, .int .i64 0, .str []])]) (.seq (.region [oM 3 0, oP 4 (.build [.int .i64 0, .int .i64 0, .str []] [(0, 1, (kI 1)), (1, 1, (.t 3))]), ⟨none, .op (.store 3 (.t 2) (.t 4)), none⟩]) .ret))⟩
theorem c_spec_l1Int_ok : compFn Tryz.prog [] 146 = some c_spec_l1Int := by kernel_rfl
def c_impl_in : AFn := ⟨15, [.t 6], (.seq (.region [oP 6 (.mv (.k (.bool false)))]) (.seq (.region [oM 7 1, oM 8 0, oP 9 (.bin .leq (.t 7) (.t 8)), oM 10 9, oT 11 (.mv (.t 0)) 10, oT 12 (.mv (.t 2)) 10, oT 13 (.bin .leq (.t 11) (.t 12)) 10, oP 14 (.pick (.t 10) (.t 13) (.k (.bool false))), oM 6 14]) .ret))⟩
theorem c_impl_in_ok : compFn Tryz.prog [] 148 = some c_impl_in := by kernel_rfl
def c_impl_order : AFn := ⟨22, [.t 4], (.seq (.region [oP 2 (.box true (.t 0)), oP 3 (.box true (.t 1)), oP 4 (.mv (kI 0))]) (.seq (.draw [[oP 5 (.faddr 0 (.t 2)), oP 6 (.load false 1 (.t 5)), oP 7 (.faddr 0 (.t 3)), oP 8 (.load false 1 (.t 7)), oC 9 172 [(.t 6), (.t 8)], oP 10 (.faddr 1 (.t 2)), oP 11 (.load false 1 (.t 10)), oP 12 (.faddr 1 (.t 3)), oP 13 (.load false 1 (.t 12)), oC 14 172 [(.t 11), (.t 13)], oP 15 (.faddr 2 (.t 2)), oP 16 (.load false 1 (.t 15)), oP 17 (.faddr 2 (.t 3)), oP 18 (.load false 1 (.t 17))], [oC 19 234 [(.t 16), (.t 18)]], [oP 20 (.mksl true 1 3 [.int .i64 0] [(0, (.t 9)), (1, (.t 14)), (2, (.t 19))])], [oC 21 170 [(.t 20)]], [oM 4 21]]) .ret))⟩
theorem c_impl_order_ok : compFn Tryz.prog [2, 3, 20] 151 = some c_impl_order := by kernel_rfl
def c_laws_szInt64S : AFn := ⟨12, [.t 4], (.seq (.region [oP 4 (.mv (kI 0))]) (.seq (.region [oM 5 1, oM 6 0, oP 7 (.len false (.t 6)), oP 8 (.bin .sub (.t 5) (.t 7)), oM 1 8]) (.seq (.seq (.region [oM 9 1, oP 10 (.bin .lss (.t 9) (kI 0))]) (.cond (.t 10) (.seq (.region [oP 4 (.mv (kI (-1)))]) .ret) .skip)) (.seq (.region [oM 11 1, oM 4 11]) .ret))))⟩
theorem c_laws_szInt64S_ok : compFn Tryz.prog [] 154 = some c_laws_szInt64S := by kernel_rfl
def c_spec_DbOk : AFn := ⟨12, [.t 4], (.seq (.region [oP 4 (.mv (.k (.bool false)))]) (.seq (.region [oM 5 0, oC 6 179 [(.t 5)], oM 7 6, oT 8 (.mv (.t 0)) 7, oT 9 (.mv (.t 1)) 7, ⟨some 10, .call (.f 239) [(.t 8), (.t 9)], (some (7, true))⟩, oP 11 (.pick (.t 7) (.t 10) (.k (.bool false))), oM 4 11]) .ret))⟩
theorem c_spec_DbOk_ok : compFn Tryz.prog [] 155 = some c_spec_DbOk := by kernel_rfl
def c_spec_l3At : AFn := ⟨20, [.t 4], (.seq (.region [oP 4 (.mv (kI 0))]) (.seq (.seq (.region [oP 5 (.mv (kI 0))]) (.block 0 (.loop (.seq (.seq (.region [oM 6 5, oM 7 0, oP 8 (.len false (.t 7)), oP 9 (.bin .lss (.t 6) (.t 8))]) (.cond (.t 9) .skip (.exit 0))) (.seq (.block 1 (.seq (.region [oM 12 0, oM 13 5, oP 14 (.iaddr 6 (.t 12) (.t 13)), oP 15 (.faddr 0 (.t 14)), oP 16 (.load false 1 (.t 15)), oM 17 1, oP 18 (.bin .eql (.t 16) (.t 17))]) (.cond (.t 18) (.seq (.region [oM 19 5, oM 4 19]) .ret) .skip))) (.region [oM 10 5, oP 11 (.bin .add (.t 10) (kI 1)), oM 5 11])))))) (.seq (.region [oP 4 (.mv (kI (-1)))]) .ret)))⟩
theorem c_spec_l3At_ok : compFn Tryz.prog [] 157 = some c_spec_l3At := by kernel_rfl
def c_spec_l2Eval : AFn := ⟨107, [.m 4 true 3, .t 5], (.seq (.region [oP 4 (.alloc [.int .i64 0, .int .i64 0, .str []]), oP 5 (.mv (.k (.bool false)))]) (.seq (.region [oP 14 (.mksl false 3 0 [.int .i64 0, .int .i64 0, .str []] []), oM 6 14]) (.seq (.seq (.region [oP 7 (.mv (kI 0))]) (.block 0 (.loop (.seq (.seq (.region [oM 15 7, oM 16 0, oP 17 (.len false (.t 16)), oP 18 (.bin .lss (.t 15) (.t 17))]) (.cond (.t 18) .skip (.exit 0))) (.seq (.block 1 (.seq (.region [oM 21 6, oP 22 (.len false (.t 21)), oM 8 22]) (.seq (.region [oP 23 (.build [.int .i64 0, .int .i64 0, .str []] []), oP 9 (.alloc [.int .i64 0, .int .i64 0, .str []]), ⟨none, .op (.store 3 (.t 9) (.t 23)), none⟩]) (.seq (.region [oP 10 (.mv (.k (.bool true)))]) (.seq (.region [oP 11 (.mv (kI 0))]) (.seq (.seq (.region [oM 24 0, oM 25 7, oP 26 (.iaddr 5 (.t 24) (.t 25)), oP 27 (.faddr 0 (.t 26)), oP 28 (.load false 1 (.t 27))]) (.block 2 (.seq (.region [oP 49 (.bin .eql (.t 28) (kI 1)), oM 48 49]) (.cond (.t 48) (.region [oM 50 1, oM 51 0, oM 52 7, oP 53 (.iaddr 5 (.t 51) (.t 52)), oP 54 (.faddr 1 (.t 53)), oP 55 (.load false 1 (.t 54)), oP 56 (.iaddr 3 (.t 50) (.t 55)), oP 57 (.load true 3 (.t 56)), ⟨none, .op (.store 3 (.t 9) (.t 57)), none⟩]) (.seq (.region [oP 59 (.bin .eql (.t 28) (kI 2)), oM 58 59]) (.cond (.t 58) (.region [oM 60 0, oM 61 7, oP 62 (.iaddr 5 (.t 60) (.t 61)), oP 63 (.faddr 2 (.t 62)), oP 64 (.load true 3 (.t 63)), ⟨none, .op (.store 3 (.t 9) (.t 64)), none⟩]) (.seq (.region [oP 66 (.bin .eql (.t 28) (kI 8)), oM 65 66]) (.cond (.t 65) (.seq (.region [oM 67 6, oM 68 8, oP 69 (.bin .sub (.t 68) (kI 1)), oP 70 (.iaddr 3 (.t 67) (.t 69)), oP 71 (.faddr 0 (.t 70)), oP 72 (.load false 1 (.t 71)), oP 73 (.bin .eql (.t 72) (kI 0)), oC 74 240 [(.t 73)], oC 75 146 [(.t 74)], ⟨none, .op (.store 3 (.t 9) (.t 75)), none⟩]) (.region [oP 11 (.mv (kI 1))])) (.seq (.region [oP 77 (.bin .eql (.t 28) (kI 7)), oM 76 77]) (.cond (.t 76) (.seq (.region [oM 79 6, oM 80 8, oP 81 (.bin .sub (.t 80) (kI 1)), oP 82 (.iaddr 3 (.t 79) (.t 81)), oP 83 (.load true 3 (.t 82)), oC 84 213 [(.t 83)], oM 78 84, oP 85 (.ext (.t 78) 0), oP 86 (.ext (.t 78) 1), oM 12 85, oM 13 86]) (.seq (.region [oM 87 12, oC 88 242 [(.t 87)], oC 89 241 [(.t 88)], ⟨none, .op (.store 3 (.t 9) (.t 89)), none⟩]) (.seq (.region [oM 90 13, oM 10 90]) (.region [oP 11 (.mv (kI 1))])))) (.seq (.draw [[oM 30 0, oM 31 7, oP 32 (.iaddr 5 (.t 30) (.t 31)), oP 33 (.faddr 0 (.t 32)), oP 34 (.load false 1 (.t 33)), oM 35 6, oM 36 8, oP 37 (.bin .sub (.t 36) (kI 2)), oP 38 (.iaddr 3 (.t 35) (.t 37)), oP 39 (.load true 3 (.t 38)), oM 40 6, oM 41 8, oP 42 (.bin .sub (.t 41) (kI 1)), oP 43 (.iaddr 3 (.t 40) (.t 42)), oP 44 (.load true 3 (.t 43))], [oC 45 243 [(.t 34), (.t 39), (.t 44)]], [oM 29 45], [oP 46 (.ext (.t 29) 0), oP 47 (.ext (.t 29) 1), ⟨none, .op (.store 3 (.t 9) (.t 46)), none⟩], [oM 10 47]]) (.region [oP 11 (.mv (kI 2))])))))))))))) (.seq (.seq (.region [oM 91 10, oP 92 (.un .not (.t 91))]) (.cond (.t 92) (.seq (.region [oP 93 (.build [.int .i64 0, .int .i64 0, .str []] []), ⟨none, .op (.store 3 (.t 4) (.t 93)), none⟩, oP 5 (.mv (.k (.bool false)))]) .ret) .skip)) (.draw [[oP 94 (.mksl false 3 0 [.int .i64 0, .int .i64 0, .str []] []), oM 95 6, oM 96 8, oM 97 11, oP 98 (.bin .sub (.t 96) (.t 97)), oP 99 (.slice 3 (.t 95) none (some (.t 98)) none), oP 100 (.app 3 32 (.t 94) (.t 99)), oP 101 (.load true 3 (.t 9)), oP 102 (.mksl true 3 1 [.int .i64 0, .int .i64 0, .str []] [(0, (.t 101))])], [oP 103 (.app 3 32 (.t 100) (.t 102))], [oM 6 103]])))))))) (.region [oM 19 7, oP 20 (.bin .add (.t 19) (kI 1)), oM 7 20])))))) (.seq (.region [oM 104 6, oP 105 (.iaddr 3 (.t 104) (kI 0)), oP 106 (.load true 3 (.t 105)), ⟨none, .op (.store 3 (.t 4) (.t 106)), none⟩, oP 5 (.mv (.k (.bool true)))]) .ret))))⟩
theorem c_spec_l2Eval_ok : compFn Tryz.prog [102] 160 = some c_spec_l2Eval := by kernel_rfl
def c_impl_TableAt : AFn := ⟨8, [.t 4], (.seq (.region [oP 3 (.box true (.t 1)), oP 4 (.mv (kI 0))]) (.seq (.region [oM 5 0, oP 6 (.mkfn 247 [] [(.t 3)]), oC 7 246 [(.t 5), (.t 6)], oM 4 7]) .ret))⟩
theorem c_impl_TableAt_ok : compFn Tryz.prog [3] 163 = some c_impl_TableAt := by kernel_rfl
def c_slices_Contains_int64_int64 : AFn := ⟨9, [.t 4], (.seq (.region [oP 4 (.mv (.k (.bool false)))]) (.seq (.region [oM 5 0, oM 6 1, oC 7 249 [(.t 5), (.t 6)], oP 8 (.bin .geq (.t 7) (kI 0)), oM 4 8]) .ret))⟩
theorem c_slices_Contains_int64_int64_ok : compFn Tryz.prog [] 167 = some c_slices_Contains_int64_int64 := by kernel_rfl
def c_cmp_Or_int : AFn := ⟨18, [.t 2], (.seq (.region [oP 2 (.mv (kI 0))]) (.seq (.region [oP 3 (.mv (kI 0))]) (.seq (.seq (.region [oM 6 0, oP 7 (.len false (.t 6)), oP 8 (.mv (kI 0))]) (.block 0 (.loop (.seq (.region [oP 9 (.bin .lss (.t 8) (.t 7))]) (.seq (.cond (.t 9) .skip (.exit 0)) (.seq (.block 1 (.seq (.region [oP 10 (.iaddr 1 (.t 6) (.t 8)), oP 11 (.load false 1 (.t 10)), oM 5 11]) (.seq (.region [oM 12 5, oM 13 3, oP 14 (.bin .neq (.t 12) (.t 13))]) (.cond (.t 14) (.seq (.region [oM 15 5, oM 2 15]) .ret) .skip)))) (.region [oP 16 (.bin .add (.t 8) (kI 1)), oM 8 16]))))))) (.seq (.region [oM 17 3, oM 2 17]) .ret))))⟩
theorem c_cmp_Or_int_ok : compFn Tryz.prog [] 170 = some c_cmp_Or_int := by kernel_rfl
def c_cmp_Compare_int64 : AFn := ⟨20, [.t 4], (.seq (.region [oP 4 (.mv (kI 0))]) (.seq (.region [oM 7 0, oC 8 251 [(.t 7)], oM 5 8]) (.seq (.region [oM 9 1, oC 10 251 [(.t 9)], oM 6 10]) (.seq (.seq (.region [oM 11 5]) (.cond (.t 11) (.seq (.seq (.region [oM 12 6]) (.cond (.t 12) (.seq (.region [oP 4 (.mv (kI 0))]) .ret) .skip)) (.seq (.region [oP 4 (.mv (kI (-1)))]) .ret)) .skip)) (.seq (.seq (.region [oM 13 6]) (.cond (.t 13) (.seq (.region [oP 4 (.mv (kI 1))]) .ret) .skip)) (.seq (.seq (.region [oM 14 0, oM 15 1, oP 16 (.bin .lss (.t 14) (.t 15))]) (.cond (.t 16) (.seq (.region [oP 4 (.mv (kI (-1)))]) .ret) .skip)) (.seq (.seq (.region [oM 17 0, oM 18 1, oP 19 (.bin .gtr (.t 17) (.t 18))]) (.cond (.t 19) (.seq (.region [oP 4 (.mv (kI 1))]) .ret) .skip)) (.seq (.region [oP 4 (.mv (kI 0))]) .ret))))))))⟩
theorem c_cmp_Compare_int64_ok : compFn Tryz.prog [] 172 = some c_cmp_Compare_int64 := by kernel_rfl
def c_impl_Eval : AFn := ⟨57, [.m 4 true 3, .t 5], (.seq (.region [oP 4 (.alloc [.int .i64 0, .int .i64 0, .str []]), oP 5 (.mv (.k (.bool false)))]) (.seq (.seq (.region [oM 12 1, oC 13 252 [(.t 12), (kI 16)], oP 14 (.un .not (.t 13)), oM 15 14, oF 16 (.mv (.t 0)) 15, oF 17 (.mv (.t 1)) 15, oF 18 (.len false (.t 17)) 15, ⟨some 19, .call (.f 118) [(.t 16), (.t 18)], (some (15, false))⟩, oF 20 (.un .not (.t 19)) 15, oP 21 (.pick (.t 15) (.k (.bool true)) (.t 20))]) (.cond (.t 21) (.seq (.region [oP 22 (.build [.int .i64 0, .int .i64 0, .str []] []), ⟨none, .op (.store 3 (.t 4) (.t 22)), none⟩, oP 5 (.mv (.k (.bool false)))]) .ret) .skip)) (.seq (.region [oP 23 (.mksl false 3 0 [.int .i64 0, .int .i64 0, .str []] []), oM 6 23]) (.seq (.seq (.region [oM 24 0, oP 25 (.len false (.t 24)), oP 26 (.mv (kI 0))]) (.block 0 (.loop (.seq (.region [oP 27 (.bin .lss (.t 26) (.t 25))]) (.seq (.cond (.t 27) .skip (.exit 0)) (.seq (.block 1 (.seq (.region [oP 28 (.iaddr 5 (.t 24) (.t 26)), oP 29 (.load true 5 (.t 28)), oP 8 (.alloc [.int .i64 0, .int .i64 0, .int .i64 0, .int .i64 0, .str []]), ⟨none, .op (.store 5 (.t 8) (.t 29)), none⟩]) (.seq (.region [oM 30 6, oP 31 (.len false (.t 30)), oP 32 (.load true 5 (.t 8)), oC 33 215 [(.t 32)], oP 34 (.bin .sub (.t 31) (.t 33)), oM 9 34]) (.seq (.draw [[oP 36 (.load true 5 (.t 8)), oM 37 6, oM 38 9, oP 39 (.slice 3 (.t 37) (some (.t 38)) none none), oM 40 1, oC 41 253 [(.t 36), (.t 39), (.t 40)], oM 35 41, oP 42 (.ext (.t 35) 0), oP 43 (.ext (.t 35) 1), oP 10 (.alloc [.int .i64 0, .int .i64 0, .str []]), ⟨none, .op (.store 3 (.t 10) (.t 42)), none⟩], [oM 11 43]]) (.seq (.seq (.region [oM 44 11, oP 45 (.un .not (.t 44))]) (.cond (.t 45) (.seq (.region [oP 46 (.build [.int .i64 0, .int .i64 0, .str []] []), ⟨none, .op (.store 3 (.t 4) (.t 46)), none⟩, oP 5 (.mv (.k (.bool false)))]) .ret) .skip)) (.draw [[oM 47 6, oM 48 9, oP 49 (.slice 3 (.t 47) none (some (.t 48)) none), oP 50 (.load true 3 (.t 10)), oP 51 (.mksl true 3 1 [.int .i64 0, .int .i64 0, .str []] [(0, (.t 50))])], [oP 52 (.app 3 32 (.t 49) (.t 51))], [oM 6 52]])))))) (.region [oP 53 (.bin .add (.t 26) (kI 1)), oM 26 53]))))))) (.seq (.region [oM 54 6, oP 55 (.iaddr 3 (.t 54) (kI 0)), oP 56 (.load true 3 (.t 55)), ⟨none, .op (.store 3 (.t 4) (.t 56)), none⟩, oP 5 (.mv (.k (.bool true)))]) .ret)))))⟩
theorem c_impl_Eval_ok : compFn Tryz.prog [51] 173 = some c_impl_Eval := by kernel_rfl
def c_laws_szColS : AFn := ⟨27, [.t 4], (.seq (.region [oP 4 (.mv (kI 0))]) (.seq (.region [oM 6 1, oM 7 0, oP 8 (.len false (.t 7)), oP 9 (.bin .sub (.t 6) (.t 8)), oM 1 9]) (.seq (.seq (.region [oM 10 1, oP 11 (.bin .lss (.t 10) (kI 0))]) (.cond (.t 11) (.seq (.region [oP 4 (.mv (kI (-1)))]) .ret) .skip)) (.seq (.seq (.region [oP 5 (.mv (kI 0))]) (.block 0 (.loop (.seq (.seq (.region [oM 12 5, oM 13 0, oP 14 (.len false (.t 13)), oP 15 (.bin .lss (.t 12) (.t 14))]) (.cond (.t 15) .skip (.exit 0))) (.seq (.block 1 (.seq (.region [oM 18 0, oM 19 5, oP 20 (.iaddr 6 (.t 18) (.t 19)), oP 21 (.load true 6 (.t 20)), oM 22 1, oC 23 255 [(.t 21), (.t 22)], oM 1 23]) (.seq (.region [oM 24 1, oP 25 (.bin .lss (.t 24) (kI 0))]) (.cond (.t 25) (.seq (.region [oP 4 (.mv (kI (-1)))]) .ret) .skip)))) (.region [oM 16 5, oP 17 (.bin .add (.t 16) (kI 1)), oM 5 17])))))) (.seq (.region [oM 26 1, oM 4 26]) .ret)))))⟩
theorem c_laws_szColS_ok : compFn Tryz.prog [] 175 = some c_laws_szColS := by kernel_rfl
def c_laws_szUniqueS : AFn := ⟨27, [.t 4], (.seq (.region [oP 4 (.mv (kI 0))]) (.seq (.region [oM 6 1, oM 7 0, oP 8 (.len false (.t 7)), oP 9 (.bin .sub (.t 6) (.t 8)), oM 1 9]) (.seq (.seq (.region [oM 10 1, oP 11 (.bin .lss (.t 10) (kI 0))]) (.cond (.t 11) (.seq (.region [oP 4 (.mv (kI (-1)))]) .ret) .skip)) (.seq (.seq (.region [oP 5 (.mv (kI 0))]) (.block 0 (.loop (.seq (.seq (.region [oM 12 5, oM 13 0, oP 14 (.len false (.t 13)), oP 15 (.bin .lss (.t 12) (.t 14))]) (.cond (.t 15) .skip (.exit 0))) (.seq (.block 1 (.seq (.region [oM 18 0, oM 19 5, oP 20 (.iaddr 1 (.t 18) (.t 19)), oP 21 (.load true 1 (.t 20)), oM 22 1, oC 23 256 [(.t 21), (.t 22)], oM 1 23]) (.seq (.region [oM 24 1, oP 25 (.bin .lss (.t 24) (kI 0))]) (.cond (.t 25) (.seq (.region [oP 4 (.mv (kI (-1)))]) .ret) .skip)))) (.region [oM 16 5, oP 17 (.bin .add (.t 16) (kI 1)), oM 5 17])))))) (.seq (.region [oM 26 1, oM 4 26]) .ret)))))⟩
theorem c_laws_szUniqueS_ok : compFn Tryz.prog [] 176 = some c_laws_szUniqueS := by kernel_rfl
def c_laws_szCheckS : AFn := ⟨27, [.t 4], (.seq (.region [oP 4 (.mv (kI 0))]) (.seq (.region [oM 6 1, oM 7 0, oP 8 (.len false (.t 7)), oP 9 (.bin .sub (.t 6) (.t 8)), oM 1 9]) (.seq (.seq (.region [oM 10 1, oP 11 (.bin .lss (.t 10) (kI 0))]) (.cond (.t 11) (.seq (.region [oP 4 (.mv (kI (-1)))]) .ret) .skip)) (.seq (.seq (.region [oP 5 (.mv (kI 0))]) (.block 0 (.loop (.seq (.seq (.region [oM 12 5, oM 13 0, oP 14 (.len false (.t 13)), oP 15 (.bin .lss (.t 12) (.t 14))]) (.cond (.t 15) .skip (.exit 0))) (.seq (.block 1 (.seq (.region [oM 18 0, oM 19 5, oP 20 (.iaddr 1 (.t 18) (.t 19)), oP 21 (.load true 1 (.t 20)), oM 22 1, oC 23 257 [(.t 21), (.t 22)], oM 1 23]) (.seq (.region [oM 24 1, oP 25 (.bin .lss (.t 24) (kI 0))]) (.cond (.t 25) (.seq (.region [oP 4 (.mv (kI (-1)))]) .ret) .skip)))) (.region [oM 16 5, oP 17 (.bin .add (.t 16) (kI 1)), oM 5 17])))))) (.seq (.region [oM 26 1, oM 4 26]) .ret)))))⟩
theorem c_laws_szCheckS_ok : compFn Tryz.prog [] 177 = some c_laws_szCheckS := by kernel_rfl
def c_laws_szFkS : AFn := ⟨27, [.t 4], (.seq (.region [oP 4 (.mv (kI 0))]) (.seq (.region [oM 6 1, oM 7 0, oP 8 (.len false (.t 7)), oP 9 (.bin .sub (.t 6) (.t 8)), oM 1 9]) (.seq (.seq (.region [oM 10 1, oP 11 (.bin .lss (.t 10) (kI 0))]) (.cond (.t 11) (.seq (.region [oP 4 (.mv (kI (-1)))]) .ret) .skip)) (.seq (.seq (.region [oP 5 (.mv (kI 0))]) (.block 0 (.loop (.seq (.seq (.region [oM 12 5, oM 13 0, oP 14 (.len false (.t 13)), oP 15 (.bin .lss (.t 12) (.t 14))]) (.cond (.t 15) .skip (.exit 0))) (.seq (.block 1 (.seq (.region [oM 18 0, oM 19 5, oP 20 (.iaddr 5 (.t 18) (.t 19)), oP 21 (.load true 5 (.t 20)), oM 22 1, oC 23 258 [(.t 21), (.t 22)], oM 1 23]) (.seq (.region [oM 24 1, oP 25 (.bin .lss (.t 24) (kI 0))]) (.cond (.t 25) (.seq (.region [oP 4 (.mv (kI (-1)))]) .ret) .skip)))) (.region [oM 16 5, oP 17 (.bin .add (.t 16) (kI 1)), oM 5 17])))))) (.seq (.region [oM 26 1, oM 4 26]) .ret)))))⟩
theorem c_laws_szFkS_ok : compFn Tryz.prog [] 178 = some c_laws_szFkS := by kernel_rfl
def c_spec_SchemaOk : AFn := ⟨115, [.t 2], (.seq (.region [oP 2 (.mv (.k (.bool false)))]) (.seq (.seq (.region [oP 3 (.mv (kI 0))]) (.block 0 (.loop (.seq (.seq (.region [oM 9 3, oM 10 0, oP 11 (.len false (.t 10)), oP 12 (.bin .lss (.t 9) (.t 11))]) (.cond (.t 12) .skip (.exit 0))) (.seq (.block 1 (.seq (.draw [[oM 15 0, oM 16 3], [oP 17 (.iaddr 6 (.t 15) (.t 16))], [oP 18 (.load true 6 (.t 17))], [oC 19 259 [(.t 18)]], [oP 20 (.un .not (.t 19))], [oM 21 20], [oF 22 (.mv (.t 0)) 21, oF 23 (.mv (.t 3)) 21, oF 24 (.slice 6 (.t 22) none (some (.t 23)) none) 21, oF 25 (.mv (.t 0)) 21, oF 26 (.mv (.t 3)) 21, oF 27 (.iaddr 6 (.t 25) (.t 26)) 21, oF 28 (.faddr 0 (.t 27)) 21, oF 29 (.load false 1 (.t 28)) 21], [⟨some 30, .call (.f 157) [(.t 24), (.t 29)], (some (21, false))⟩], [oF 31 (.bin .geq (.t 30) (kI 0)) 21], [oP 32 (.pick (.t 21) (.k (.bool true)) (.t 31))]]) (.cond (.t 32) (.seq (.region [oP 2 (.mv (.k (.bool false)))]) .ret) .skip))) (.region [oM 13 3, oP 14 (.bin .add (.t 13) (kI 1)), oM 3 14])))))) (.seq (.seq (.region [oP 4 (.mv (kI 0))]) (.block 2 (.loop (.seq (.seq (.region [oM 33 4, oM 34 0, oP 35 (.len false (.t 34)), oP 36 (.bin .lss (.t 33) (.t 35))]) (.cond (.t 36) .skip (.exit 2))) (.seq (.block 3 (.seq (.region [oP 5 (.mv (kI 0))]) (.block 4 (.loop (.seq (.seq (.region [oM 39 5, oM 40 0, oM 41 4, oP 42 (.iaddr 6 (.t 40) (.t 41)), oP 43 (.faddr 5 (.t 42)), oP 44 (.load false 1 (.t 43)), oP 45 (.len false (.t 44)), oP 46 (.bin .lss (.t 39) (.t 45))]) (.cond (.t 46) .skip (.exit 4))) (.seq (.block 5 (.seq (.region [oM 49 0, oM 50 4, oP 51 (.iaddr 6 (.t 49) (.t 50)), oP 52 (.faddr 5 (.t 51)), oP 53 (.load false 1 (.t 52)), oM 54 5, oP 55 (.iaddr 5 (.t 53) (.t 54)), oP 56 (.load true 5 (.t 55)), oP 6 (.alloc [.nils, .str [], .int .i64 0, .int .i64 0, .bool false]), ⟨none, .op (.store 5 (.t 6) (.t 56)), none⟩]) (.seq (.region [oM 57 0, oP 58 (.faddr 1 (.t 6)), oP 59 (.load false 1 (.t 58)), oC 60 157 [(.t 57), (.t 59)], oM 7 60]) (.seq (.seq (.draw [[oM 61 7], [oP 62 (.bin .lss (.t 61) (kI 0))], [oM 63 62], [oF 64 (.mv (.t 0)) 63, oF 65 (.mv (.t 7)) 63, oF 66 (.iaddr 6 (.t 64) (.t 65)) 63, oF 67 (.faddr 2 (.t 66)) 63, oF 68 (.load false 1 (.t 67)) 63, oF 69 (.len false (.t 68)) 63, oF 70 (.faddr 0 (.t 6)) 63, oF 71 (.load false 1 (.t 70)) 63, oF 72 (.len false (.t 71)) 63], [oF 73 (.bin .neq (.t 69) (.t 72)) 63], [oP 74 (.pick (.t 63) (.k (.bool true)) (.t 73))]]) (.cond (.t 74) (.seq (.region [oP 2 (.mv (.k (.bool false)))]) .ret) .skip)) (.seq (.region [oP 8 (.mv (kI 0))]) (.block 6 (.loop (.seq (.seq (.region [oM 75 8, oP 76 (.faddr 0 (.t 6)), oP 77 (.load false 1 (.t 76)), oP 78 (.len false (.t 77)), oP 79 (.bin .lss (.t 75) (.t 78))]) (.cond (.t 79) .skip (.exit 6))) (.seq (.block 7 (.seq (.draw [[oM 82 0, oM 83 4, oP 84 (.iaddr 6 (.t 82) (.t 83)), oP 85 (.faddr 1 (.t 84)), oP 86 (.load false 1 (.t 85)), oP 87 (.faddr 0 (.t 6)), oP 88 (.load false 1 (.t 87)), oM 89 8, oP 90 (.iaddr 1 (.t 88) (.t 89)), oP 91 (.load false 1 (.t 90)), oP 92 (.iaddr 6 (.t 86) (.t 91)), oP 93 (.faddr 1 (.t 92)), oP 94 (.load false 1 (.t 93)), oM 95 0, oM 96 7, oP 97 (.iaddr 6 (.t 95) (.t 96)), oP 98 (.faddr 1 (.t 97)), oP 99 (.load false 1 (.t 98)), oM 100 0, oM 101 7, oP 102 (.iaddr 6 (.t 100) (.t 101)), oP 103 (.faddr 2 (.t 102)), oP 104 (.load false 1 (.t 103)), oM 105 8, oP 106 (.iaddr 1 (.t 104) (.t 105)), oP 107 (.load false 1 (.t 106)), oP 108 (.iaddr 6 (.t 99) (.t 107)), oP 109 (.faddr 1 (.t 108)), oP 110 (.load false 1 (.t 109))], [oP 111 (.bin .neq (.t 94) (.t 110))]]) (.cond (.t 111) (.seq (.region [oP 2 (.mv (.k (.bool false)))]) .ret) .skip))) (.region [oM 80 8, oP 81 (.bin .add (.t 80) (kI 1)), oM 8 81])))))))))) (.region [oM 47 5, oP 48 (.bin .add (.t 47) (kI 1)), oM 5 48]))))))) (.region [oM 37 4, oP 38 (.bin .add (.t 37) (kI 1)), oM 4 38])))))) (.seq (.region [oM 112 0, oP 113 (.len false (.t 112)), oP 114 (.bin .leq (.t 113) (kI 5)), oM 2 114]) .ret))))⟩
theorem c_spec_SchemaOk_ok : compFn Tryz.prog [] 179 = some c_spec_SchemaOk := by kernel_rfl
def c_laws_toColS : AFn := ⟨23, [.t 2], (.seq (.region [oP 2 (.mv (.k (.nils)))]) (.seq (.region [oM 5 0, oP 6 (.len false (.t 5)), oP 7 (.mkslice 6 64 [.str [], .int .i64 0, .bool false, .int .i64 0, .int .i64 0, .str []] (.t 6) (.t 6)), oM 3 7]) (.seq (.seq (.region [oP 4 (.mv (kI 0))]) (.block 0 (.loop (.seq (.seq (.region [oM 8 4, oM 9 0, oP 10 (.len false (.t 9)), oP 11 (.bin .lss (.t 8) (.t 10))]) (.cond (.t 11) .skip (.exit 0))) (.seq (.block 1 (.region [oM 14 3, oM 15 4, oM 16 0, oM 17 4, oP 18 (.iaddr 6 (.t 16) (.t 17)), oP 19 (.load true 6 (.t 18)), oC 20 260 [(.t 19)], oP 21 (.iaddr 6 (.t 14) (.t 15)), ⟨none, .op (.store 6 (.t 21) (.t 20)), none⟩])) (.region [oM 12 4, oP 13 (.bin .add (.t 12) (kI 1)), oM 4 13])))))) (.seq (.region [oM 22 3, oM 2 22]) .ret))))⟩
theorem c_laws_toColS_ok : compFn Tryz.prog [] 182 = some c_laws_toColS := by kernel_rfl
def c_laws_toUniqueS : AFn := ⟨23, [.t 2], (.seq (.region [oP 2 (.mv (.k (.nils)))]) (.seq (.region [oM 5 0, oP 6 (.len false (.t 5)), oP 7 (.mkslice 1 24 [.nils] (.t 6) (.t 6)), oM 3 7]) (.seq (.seq (.region [oP 4 (.mv (kI 0))]) (.block 0 (.loop (.seq (.seq (.region [oM 8 4, oM 9 0, oP 10 (.len false (.t 9)), oP 11 (.bin .lss (.t 8) (.t 10))]) (.cond (.t 11) .skip (.exit 0))) (.seq (.block 1 (.region [oM 14 3, oM 15 4, oM 16 0, oM 17 4, oP 18 (.iaddr 1 (.t 16) (.t 17)), oP 19 (.load true 1 (.t 18)), oC 20 261 [(.t 19)], oP 21 (.iaddr 1 (.t 14) (.t 15)), ⟨none, .op (.store 1 (.t 21) (.t 20)), none⟩])) (.region [oM 12 4, oP 13 (.bin .add (.t 12) (kI 1)), oM 4 13])))))) (.seq (.region [oM 22 3, oM 2 22]) .ret))))⟩
theorem c_laws_toUniqueS_ok : compFn Tryz.prog [] 183 = some c_laws_toUniqueS := by kernel_rfl
def c_laws_toCheckS : AFn := ⟨23, [.t 2], (.seq (.region [oP 2 (.mv (.k (.nils)))]) (.seq (.region [oM 5 0, oP 6 (.len false (.t 5)), oP 7 (.mkslice 1 24 [.nils] (.t 6) (.t 6)), oM 3 7]) (.seq (.seq (.region [oP 4 (.mv (kI 0))]) (.block 0 (.loop (.seq (.seq (.region [oM 8 4, oM 9 0, oP 10 (.len false (.t 9)), oP 11 (.bin .lss (.t 8) (.t 10))]) (.cond (.t 11) .skip (.exit 0))) (.seq (.block 1 (.region [oM 14 3, oM 15 4, oM 16 0, oM 17 4, oP 18 (.iaddr 1 (.t 16) (.t 17)), oP 19 (.load true 1 (.t 18)), oC 20 262 [(.t 19)], oP 21 (.iaddr 1 (.t 14) (.t 15)), ⟨none, .op (.store 1 (.t 21) (.t 20)), none⟩])) (.region [oM 12 4, oP 13 (.bin .add (.t 12) (kI 1)), oM 4 13])))))) (.seq (.region [oM 22 3, oM 2 22]) .ret))))⟩
theorem c_laws_toCheckS_ok : compFn Tryz.prog [] 184 = some c_laws_toCheckS := by kernel_rfl
def c_laws_toFkS : AFn := ⟨23, [.t 2], (.seq (.region [oP 2 (.mv (.k (.nils)))]) (.seq (.region [oM 5 0, oP 6 (.len false (.t 5)), oP 7 (.mkslice 5 64 [.nils, .str [], .int .i64 0, .int .i64 0, .bool false] (.t 6) (.t 6)), oM 3 7]) (.seq (.seq (.region [oP 4 (.mv (kI 0))]) (.block 0 (.loop (.seq (.seq (.region [oM 8 4, oM 9 0, oP 10 (.len false (.t 9)), oP 11 (.bin .lss (.t 8) (.t 10))]) (.cond (.t 11) .skip (.exit 0))) (.seq (.block 1 (.region [oM 14 3, oM 15 4, oM 16 0, oM 17 4, oP 18 (.iaddr 5 (.t 16) (.t 17)), oP 19 (.load true 5 (.t 18)), oC 20 263 [(.t 19)], oP 21 (.iaddr 5 (.t 14) (.t 15)), ⟨none, .op (.store 5 (.t 21) (.t 20)), none⟩])) (.region [oM 12 4, oP 13 (.bin .add (.t 12) (kI 1)), oM 4 13])))))) (.seq (.region [oM 22 3, oM 2 22]) .ret))))⟩
theorem c_laws_toFkS_ok : compFn Tryz.prog [] 185 = some c_laws_toFkS := by kernel_rfl
def c_impl_SchemaOk : AFn := ⟨32, [.t 2], (.seq (.region [oP 1 (.box true (.t 0)), oP 2 (.mv (.k (.bool false)))]) (.seq (.seq (.region [oP 5 (.load false 1 (.t 1)), oP 6 (.len false (.t 5)), oP 7 (.bin .gtr (.t 6) (kI 5))]) (.cond (.t 7) (.seq (.region [oP 2 (.mv (.k (.bool false)))]) .ret) .skip)) (.seq (.seq (.region [oP 8 (.load false 1 (.t 1)), oP 9 (.len false (.t 8)), oP 10 (.mv (kI 0))]) (.block 0 (.loop (.seq (.region [oP 11 (.bin .lss (.t 10) (.t 9))]) (.seq (.cond (.t 11) .skip (.exit 0)) (.seq (.block 1 (.seq (.region [oM 12 10, oP 13 (.iaddr 6 (.t 8) (.t 10)), oP 14 (.load true 6 (.t 13)), oP 4 (.alloc [.str [], .nils, .nils, .nils, .nils, .nils]), oM 3 12, ⟨none, .op (.store 6 (.t 4) (.t 14)), none⟩]) (.seq (.draw [[oP 15 (.load true 6 (.t 4))], [oC 16 264 [(.t 15)]], [oP 17 (.un .not (.t 16))], [oM 18 17], [oF 19 (.load false 1 (.t 1)) 18, oF 20 (.mv (.t 3)) 18, oF 21 (.slice 6 (.t 19) none (some (.t 20)) none) 18, oF 22 (.faddr 0 (.t 4)) 18, oF 23 (.load false 1 (.t 22)) 18], [⟨some 24, .call (.f 163) [(.t 21), (.t 23)], (some (18, false))⟩], [oF 25 (.bin .geq (.t 24) (kI 0)) 18], [oP 26 (.pick (.t 18) (.k (.bool true)) (.t 25))]]) (.cond (.t 26) (.seq (.region [oP 2 (.mv (.k (.bool false)))]) .ret) .skip)))) (.region [oP 27 (.bin .add (.t 10) (kI 1)), oM 10 27]))))))) (.seq (.region [oP 28 (.load false 1 (.t 1)), oP 29 (.mkfn 266 [] [(.t 1)]), oC 30 265 [(.t 28), (.t 29)], oP 31 (.un .not (.t 30)), oM 2 31]) .ret))))⟩
theorem c_impl_SchemaOk_ok : compFn Tryz.prog [1] 186 = some c_impl_SchemaOk := by kernel_rfl
def c_laws_eqSave : AFn := ⟨16, [.t 4], (.seq (.region [oP 2 (.box true (.t 0)), oP 3 (.box true (.t 1)), oP 4 (.mv (.k (.bool false)))]) (.seq (.seq (.region [oP 5 (.faddr 0 (.t 2)), oP 6 (.load false 1 (.t 5)), oP 7 (.faddr 0 (.t 3)), oP 8 (.load false 1 (.t 7)), oP 9 (.bin .neq (.t 6) (.t 8))]) (.cond (.t 9) (.seq (.region [oP 4 (.mv (.k (.bool false)))]) .ret) .skip)) (.seq (.seq (.region [oP 10 (.faddr 1 (.t 2)), oP 11 (.load false 1 (.t 10)), oP 12 (.faddr 1 (.t 3)), oP 13 (.load false 1 (.t 12)), oC 14 28 [(.t 11), (.t 13)], oP 15 (.un .not (.t 14))]) (.cond (.t 15) (.seq (.region [oP 4 (.mv (.k (.bool false)))]) .ret) .skip)) (.seq (.region [oP 4 (.mv (.k (.bool true)))]) .ret))))⟩
theorem c_laws_eqSave_ok : compFn Tryz.prog [2, 3] 190 = some c_laws_eqSave := by kernel_rfl
def c_laws_eqColS : AFn := ⟨27, [.t 4], (.seq (.region [oP 4 (.mv (.k (.bool false)))]) (.seq (.seq (.region [oM 6 0, oP 7 (.len false (.t 6)), oM 8 1, oP 9 (.len false (.t 8)), oP 10 (.bin .neq (.t 7) (.t 9))]) (.cond (.t 10) (.seq (.region [oP 4 (.mv (.k (.bool false)))]) .ret) .skip)) (.seq (.seq (.region [oP 5 (.mv (kI 0))]) (.block 0 (.loop (.seq (.seq (.region [oM 11 5, oM 12 0, oP 13 (.len false (.t 12)), oP 14 (.bin .lss (.t 11) (.t 13))]) (.cond (.t 14) .skip (.exit 0))) (.seq (.block 1 (.seq (.draw [[oM 17 0, oM 18 5, oP 19 (.iaddr 6 (.t 17) (.t 18)), oP 20 (.load true 6 (.t 19)), oM 21 1, oM 22 5, oP 23 (.iaddr 6 (.t 21) (.t 22)), oP 24 (.load true 6 (.t 23))], [oC 25 270 [(.t 20), (.t 24)]], [oP 26 (.un .not (.t 25))]]) (.cond (.t 26) (.seq (.region [oP 4 (.mv (.k (.bool false)))]) .ret) .skip))) (.region [oM 15 5, oP 16 (.bin .add (.t 15) (kI 1)), oM 5 16])))))) (.seq (.region [oP 4 (.mv (.k (.bool true)))]) .ret))))⟩
theorem c_laws_eqColS_ok : compFn Tryz.prog [] 191 = some c_laws_eqColS := by kernel_rfl
def c_laws_eqUniqueS : AFn := ⟨27, [.t 4], (.seq (.region [oP 4 (.mv (.k (.bool false)))]) (.seq (.seq (.region [oM 6 0, oP 7 (.len false (.t 6)), oM 8 1, oP 9 (.len false (.t 8)), oP 10 (.bin .neq (.t 7) (.t 9))]) (.cond (.t 10) (.seq (.region [oP 4 (.mv (.k (.bool false)))]) .ret) .skip)) (.seq (.seq (.region [oP 5 (.mv (kI 0))]) (.block 0 (.loop (.seq (.seq (.region [oM 11 5, oM 12 0, oP 13 (.len false (.t 12)), oP 14 (.bin .lss (.t 11) (.t 13))]) (.cond (.t 14) .skip (.exit 0))) (.seq (.block 1 (.seq (.draw [[oM 17 0, oM 18 5, oP 19 (.iaddr 1 (.t 17) (.t 18)), oP 20 (.load true 1 (.t 19)), oM 21 1, oM 22 5, oP 23 (.iaddr 1 (.t 21) (.t 22)), oP 24 (.load true 1 (.t 23))], [oC 25 271 [(.t 20), (.t 24)]], [oP 26 (.un .not (.t 25))]]) (.cond (.t 26) (.seq (.region [oP 4 (.mv (.k (.bool false)))]) .ret) .skip))) (.region [oM 15 5, oP 16 (.bin .add (.t 15) (kI 1)), oM 5 16])))))) (.seq (.region [oP 4 (.mv (.k (.bool true)))]) .ret))))⟩
theorem c_laws_eqUniqueS_ok : compFn Tryz.prog [] 192 = some c_laws_eqUniqueS := by kernel_rfl
def c_laws_eqCheckS : AFn := ⟨27, [.t 4], (.seq (.region [oP 4 (.mv (.k (.bool false)))]) (.seq (.seq (.region [oM 6 0, oP 7 (.len false (.t 6)), oM 8 1, oP 9 (.len false (.t 8)), oP 10 (.bin .neq (.t 7) (.t 9))]) (.cond (.t 10) (.seq (.region [oP 4 (.mv (.k (.bool false)))]) .ret) .skip)) (.seq (.seq (.region [oP 5 (.mv (kI 0))]) (.block 0 (.loop (.seq (.seq (.region [oM 11 5, oM 12 0, oP 13 (.len false (.t 12)), oP 14 (.bin .lss (.t 11) (.t 13))]) (.cond (.t 14) .skip (.exit 0))) (.seq (.block 1 (.seq (.draw [[oM 17 0, oM 18 5, oP 19 (.iaddr 1 (.t 17) (.t 18)), oP 20 (.load true 1 (.t 19)), oM 21 1, oM 22 5, oP 23 (.iaddr 1 (.t 21) (.t 22)), oP 24 (.load true 1 (.t 23))], [oC 25 272 [(.t 20), (.t 24)]], [oP 26 (.un .not (.t 25))]]) (.cond (.t 26) (.seq (.region [oP 4 (.mv (.k (.bool false)))]) .ret) .skip))) (.region [oM 15 5, oP 16 (.bin .add (.t 15) (kI 1)), oM 5 16])))))) (.seq (.region [oP 4 (.mv (.k (.bool true)))]) .ret))))⟩
theorem c_laws_eqCheckS_ok : compFn Tryz.prog [] 193 = some c_laws_eqCheckS := by kernel_rfl
def c_laws_eqFkS : AFn := ⟨27, [.t 4], (.seq (.region [oP 4 (.mv (.k (.bool false)))]) (.seq (.seq (.region [oM 6 0, oP 7 (.len false (.t 6)), oM 8 1, oP 9 (.len false (.t 8)), oP 10 (.bin .neq (.t 7) (.t 9))]) (.cond (.t 10) (.seq (.region [oP 4 (.mv (.k (.bool false)))]) .ret) .skip)) (.seq (.seq (.region [oP 5 (.mv (kI 0))]) (.block 0 (.loop (.seq (.seq (.region [oM 11 5, oM 12 0, oP 13 (.len false (.t 12)), oP 14 (.bin .lss (.t 11) (.t 13))]) (.cond (.t 14) .skip (.exit 0))) (.seq (.block 1 (.seq (.draw [[oM 17 0, oM 18 5, oP 19 (.iaddr 5 (.t 17) (.t 18)), oP 20 (.load true 5 (.t 19)), oM 21 1, oM 22 5, oP 23 (.iaddr 5 (.t 21) (.t 22)), oP 24 (.load true 5 (.t 23))], [oC 25 273 [(.t 20), (.t 24)]], [oP 26 (.un .not (.t 25))]]) (.cond (.t 26) (.seq (.region [oP 4 (.mv (.k (.bool false)))]) .ret) .skip))) (.region [oM 15 5, oP 16 (.bin .add (.t 15) (kI 1)), oM 5 16])))))) (.seq (.region [oP 4 (.mv (.k (.bool true)))]) .ret))))⟩
theorem c_laws_eqFkS_ok : compFn Tryz.prog [] 194 = some c_laws_eqFkS := by kernel_rfl
def c_laws_szRowS : AFn := ⟨27, [.t 4], (.seq (.region [oP 4 (.mv (kI 0))]) (.seq (.region [oM 6 1, oM 7 0, oP 8 (.len false (.t 7)), oP 9 (.bin .sub (.t 6) (.t 8)), oM 1 9]) (.seq (.seq (.region [oM 10 1, oP 11 (.bin .lss (.t 10) (kI 0))]) (.cond (.t 11) (.seq (.region [oP 4 (.mv (kI (-1)))]) .ret) .skip)) (.seq (.seq (.region [oP 5 (.mv (kI 0))]) (.block 0 (.loop (.seq (.seq (.region [oM 12 5, oM 13 0, oP 14 (.len false (.t 13)), oP 15 (.bin .lss (.t 12) (.t 14))]) (.cond (.t 15) .skip (.exit 0))) (.seq (.block 1 (.seq (.region [oM 18 0, oM 19 5, oP 20 (.iaddr 2 (.t 18) (.t 19)), oP 21 (.load true 2 (.t 20)), oM 22 1, oC 23 275 [(.t 21), (.t 22)], oM 1 23]) (.seq (.region [oM 24 1, oP 25 (.bin .lss (.t 24) (kI 0))]) (.cond (.t 25) (.seq (.region [oP 4 (.mv (kI (-1)))]) .ret) .skip)))) (.region [oM 16 5, oP 17 (.bin .add (.t 16) (kI 1)), oM 5 17])))))) (.seq (.region [oM 26 1, oM 4 26]) .ret)))))⟩
theorem c_laws_szRowS_ok : compFn Tryz.prog [] 200 = some c_laws_szRowS := by kernel_rfl
def c_spec_l2Takes : AFn := ⟨48, [.t 4], (.seq (.region [oP 2 (.box true (.t 0)), oP 4 (.mv (kI 0))]) (.seq (.seq (.region [oP 5 (.faddr 0 (.t 2)), oP 6 (.load false 1 (.t 5)), oP 7 (.bin .neq (.t 6) (kI 1)), oM 8 7, oT 9 (.faddr 1 (.t 2)) 8, oT 10 (.load false 1 (.t 9)) 8, oT 11 (.bin .neq (.t 10) (kI 0)) 8, oP 12 (.pick (.t 8) (.t 11) (.k (.bool false))), oM 13 12, oF 14 (.faddr 0 (.t 2)) 13, oF 15 (.load false 1 (.t 14)) 13, oF 16 (.bin .neq (.t 15) (kI 2)) 13, oF 17 (.mv (.t 16)) 13, oT 18 (.faddr 2 (.t 2)) 17, oT 19 (.load true 3 (.t 18)) 17, oT 20 (.build [.int .i64 0, .int .i64 0, .str []] []) 17, oT 21 (.eq true true [.i, .i, .s] (.t 19) (.t 20)) 17, oF 22 (.pick (.t 17) (.t 21) (.k (.bool false))) 13, oP 23 (.pick (.t 13) (.k (.bool true)) (.t 22))]) (.cond (.t 23) (.seq (.region [oP 4 (.mv (kI (-1)))]) .ret) .skip)) (.seq (.seq (.region [oP 24 (.faddr 0 (.t 2)), oP 25 (.load false 1 (.t 24))]) (.block 0 (.seq (.region [oP 27 (.bin .eql (.t 25) (kI 1)), oM 26 27]) (.cond (.t 26) (.seq (.region [oP 28 (.faddr 1 (.t 2)), oP 29 (.load false 1 (.t 28)), oM 30 1, oP 31 (.bin .sub (.t 30) (kI 1)), oC 32 105 [(.t 29), (kI 0), (.t 31)]]) (.cond (.t 32) (.seq (.region [oP 4 (.mv (kI 0))]) .ret) .skip)) (.seq (.region [oP 34 (.bin .eql (.t 25) (kI 2)), oM 33 34]) (.cond (.t 33) (.seq (.region [oP 35 (.faddr 2 (.t 2)), oP 36 (.load true 3 (.t 35)), oC 37 276 [(.t 36)]]) (.cond (.t 37) (.seq (.region [oP 4 (.mv (kI 0))]) .ret) .skip)) (.seq (.seq (.region [oP 39 (.bin .eql (.t 25) (kI 7)), oM 38 39]) (.cond (.t 38) .skip (.region [oP 40 (.bin .eql (.t 25) (kI 8)), oM 38 40]))) (.cond (.t 38) (.seq (.region [oP 4 (.mv (kI 1))]) .ret) (.seq (.seq (.region [oP 42 (.bin .eql (.t 25) (kI 3)), oM 41 42]) (.cond (.t 41) .skip (.seq (.region [oP 43 (.bin .eql (.t 25) (kI 4)), oM 41 43]) (.cond (.t 41) .skip (.seq (.region [oP 44 (.bin .eql (.t 25) (kI 5)), oM 41 44]) (.cond (.t 41) .skip (.seq (.region [oP 45 (.bin .eql (.t 25) (kI 6)), oM 41 45]) (.cond (.t 41) .skip (.seq (.region [oP 46 (.bin .eql (.t 25) (kI 9)), oM 41 46]) (.cond (.t 41) .skip (.region [oP 47 (.bin .eql (.t 25) (kI 10)), oM 41 47]))))))))))) (.cond (.t 41) (.seq (.region [oP 4 (.mv (kI 2))]) .ret) .skip)))))))))) (.seq (.region [oP 4 (.mv (kI (-1)))]) .ret))))⟩
theorem c_spec_l2Takes_ok : compFn Tryz.prog [2] 201 = some c_spec_l2Takes := by kernel_rfl
def c_laws_toRowS : AFn := ⟨23, [.t 2], (.seq (.region [oP 2 (.mv (.k (.nils)))]) (.seq (.region [oM 5 0, oP 6 (.len false (.t 5)), oP 7 (.mkslice 2 32 [.int .i64 0, .nils] (.t 6) (.t 6)), oM 3 7]) (.seq (.seq (.region [oP 4 (.mv (kI 0))]) (.block 0 (.loop (.seq (.seq (.region [oM 8 4, oM 9 0, oP 10 (.len false (.t 9)), oP 11 (.bin .lss (.t 8) (.t 10))]) (.cond (.t 11) .skip (.exit 0))) (.seq (.block 1 (.region [oM 14 3, oM 15 4, oM 16 0, oM 17 4, oP 18 (.iaddr 2 (.t 16) (.t 17)), oP 19 (.load true 2 (.t 18)), oC 20 277 [(.t 19)], oP 21 (.iaddr 2 (.t 14) (.t 15)), ⟨none, .op (.store 2 (.t 21) (.t 20)), none⟩])) (.region [oM 12 4, oP 13 (.bin .add (.t 12) (kI 1)), oM 4 13])))))) (.seq (.region [oM 22 3, oM 2 22]) .ret))))⟩
theorem c_laws_toRowS_ok : compFn Tryz.prog [] 202 = some c_laws_toRowS := by kernel_rfl
def c_impl_areRows : AFn := ⟨44, [.t 4], (.seq (.region [oP 2 (.box true (.t 0)), oP 4 (.mv (.k (.bool false)))]) (.seq (.seq (.region [oM 7 1, oP 8 (.len false (.t 7)), oP 9 (.mv (kI 0))]) (.block 0 (.loop (.seq (.region [oP 10 (.bin .lss (.t 9) (.t 8))]) (.seq (.cond (.t 10) .skip (.exit 0)) (.seq (.block 1 (.seq (.region [oM 11 9, oP 12 (.iaddr 2 (.t 7) (.t 9)), oP 13 (.load true 2 (.t 12)), oP 6 (.alloc [.int .i64 0, .nils]), oM 5 11, ⟨none, .op (.store 2 (.t 6) (.t 13)), none⟩]) (.seq (.draw [[oP 14 (.faddr 0 (.t 6))], [oP 15 (.load false 1 (.t 14))], [oC 16 148 [(.t 15), (kI 1), (kI 1000000000)]], [oP 17 (.un .not (.t 16))], [oM 18 17], [oF 19 (.mv (.t 5)) 18], [oF 20 (.bin .gtr (.t 19) (kI 0)) 18], [oF 21 (.mv (.t 20)) 18], [oT 22 (.mv (.t 1)) 21, oT 23 (.mv (.t 5)) 21, oT 24 (.bin .sub (.t 23) (kI 1)) 21, oT 25 (.iaddr 2 (.t 22) (.t 24)) 21, oT 26 (.faddr 0 (.t 25)) 21, oT 27 (.load false 1 (.t 26)) 21, oT 28 (.faddr 0 (.t 6)) 21, oT 29 (.load false 1 (.t 28)) 21], [oT 30 (.bin .geq (.t 27) (.t 29)) 21], [oF 31 (.pick (.t 21) (.t 30) (.k (.bool false))) 18], [oP 32 (.pick (.t 18) (.k (.bool true)) (.t 31))], [oM 33 32], [oF 34 (.load true 6 (.t 2)) 33, oF 35 (.faddr 1 (.t 6)) 33, oF 36 (.load false 1 (.t 35)) 33], [⟨some 37, .call (.f 111) [(.t 34), (.t 36)], (some (33, false))⟩], [oF 38 (.un .not (.t 37)) 33], [oP 39 (.pick (.t 33) (.k (.bool true)) (.t 38))]]) (.cond (.t 39) (.seq (.region [oP 4 (.mv (.k (.bool false)))]) .ret) .skip)))) (.region [oP 40 (.bin .add (.t 9) (kI 1)), oM 9 40]))))))) (.seq (.region [oM 41 1, oP 42 (.len false (.t 41)), oP 43 (.bin .leq (.t 42) (kI 60)), oM 4 43]) .ret)))⟩
theorem c_impl_areRows_ok : compFn Tryz.prog [2] 203 = some c_impl_areRows := by kernel_rfl
def c_laws_eqRowS : AFn := ⟨27, [.t 4], (.seq (.region [oP 4 (.mv (.k (.bool false)))]) (.seq (.seq (.region [oM 6 0, oP 7 (.len false (.t 6)), oM 8 1, oP 9 (.len false (.t 8)), oP 10 (.bin .neq (.t 7) (.t 9))]) (.cond (.t 10) (.seq (.region [oP 4 (.mv (.k (.bool false)))]) .ret) .skip)) (.seq (.seq (.region [oP 5 (.mv (kI 0))]) (.block 0 (.loop (.seq (.seq (.region [oM 11 5, oM 12 0, oP 13 (.len false (.t 12)), oP 14 (.bin .lss (.t 11) (.t 13))]) (.cond (.t 14) .skip (.exit 0))) (.seq (.block 1 (.seq (.draw [[oM 17 0, oM 18 5, oP 19 (.iaddr 2 (.t 17) (.t 18)), oP 20 (.load true 2 (.t 19)), oM 21 1, oM 22 5, oP 23 (.iaddr 2 (.t 21) (.t 22)), oP 24 (.load true 2 (.t 23))], [oC 25 278 [(.t 20), (.t 24)]], [oP 26 (.un .not (.t 25))]]) (.cond (.t 26) (.seq (.region [oP 4 (.mv (.k (.bool false)))]) .ret) .skip))) (.region [oM 15 5, oP 16 (.bin .add (.t 15) (kI 1)), oM 5 16])))))) (.seq (.region [oP 4 (.mv (.k (.bool true)))]) .ret))))⟩
theorem c_laws_eqRowS_ok : compFn Tryz.prog [] 204 = some c_laws_eqRowS := by kernel_rfl
def c_spec_l4Kinds : AFn := ⟨46, [.t 4], (.seq (.region [oP 2 (.box true (.t 0)), oP 4 (.mv (.k (.bool false)))]) (.seq (.seq (.region [oM 6 1, oP 7 (.len false (.t 6)), oP 8 (.faddr 1 (.t 2)), oP 9 (.load false 1 (.t 8)), oP 10 (.len false (.t 9)), oP 11 (.bin .neq (.t 7) (.t 10))]) (.cond (.t 11) (.seq (.region [oP 4 (.mv (.k (.bool false)))]) .ret) .skip)) (.seq (.seq (.region [oP 5 (.mv (kI 0))]) (.block 0 (.loop (.seq (.seq (.region [oM 12 5, oM 13 1, oP 14 (.len false (.t 13)), oP 15 (.bin .lss (.t 12) (.t 14))]) (.cond (.t 15) .skip (.exit 0))) (.seq (.block 1 (.seq (.draw [[oM 18 1, oM 19 5], [oP 20 (.iaddr 3 (.t 18) (.t 19))], [oP 21 (.load true 3 (.t 20))], [oC 22 276 [(.t 21)]], [oP 23 (.un .not (.t 22))], [oM 24 23], [oF 25 (.mv (.t 1)) 24, oF 26 (.mv (.t 5)) 24], [oF 27 (.iaddr 3 (.t 25) (.t 26)) 24], [oF 28 (.faddr 0 (.t 27)) 24], [oF 29 (.load false 1 (.t 28)) 24], [oF 30 (.bin .neq (.t 29) (kI 0)) 24], [oF 31 (.mv (.t 30)) 24], [oT 32 (.mv (.t 1)) 31, oT 33 (.mv (.t 5)) 31, oT 34 (.iaddr 3 (.t 32) (.t 33)) 31, oT 35 (.faddr 0 (.t 34)) 31, oT 36 (.load false 1 (.t 35)) 31, oT 37 (.faddr 1 (.t 2)) 31, oT 38 (.load false 1 (.t 37)) 31, oT 39 (.mv (.t 5)) 31, oT 40 (.iaddr 6 (.t 38) (.t 39)) 31, oT 41 (.faddr 1 (.t 40)) 31, oT 42 (.load false 1 (.t 41)) 31], [oT 43 (.bin .neq (.t 36) (.t 42)) 31], [oF 44 (.pick (.t 31) (.t 43) (.k (.bool false))) 24], [oP 45 (.pick (.t 24) (.k (.bool true)) (.t 44))]]) (.cond (.t 45) (.seq (.region [oP 4 (.mv (.k (.bool false)))]) .ret) .skip))) (.region [oM 16 5, oP 17 (.bin .add (.t 16) (kI 1)), oM 5 17])))))) (.seq (.region [oP 4 (.mv (.k (.bool true)))]) .ret))))⟩
theorem c_spec_l4Kinds_ok : compFn Tryz.prog [2] 206 = some c_spec_l4Kinds := by kernel_rfl
def c_impl_isOf : AFn := ⟨18, [.t 4], (.seq (.region [oP 2 (.box true (.t 0)), oP 4 (.mv (.k (.bool false)))]) (.seq (.region [oP 5 (.load true 3 (.t 2)), oC 6 280 [(.t 5)], oM 7 6, oT 8 (.faddr 0 (.t 2)) 7, oT 9 (.load false 1 (.t 8)) 7, oT 10 (.bin .eql (.t 9) (kI 0)) 7, oT 11 (.mv (.t 10)) 7, oF 12 (.faddr 0 (.t 2)) 11, oF 13 (.load false 1 (.t 12)) 11, oF 14 (.mv (.t 1)) 11, oF 15 (.bin .eql (.t 13) (.t 14)) 11, oT 16 (.pick (.t 11) (.k (.bool true)) (.t 15)) 7, oP 17 (.pick (.t 7) (.t 16) (.k (.bool false))), oM 4 17]) .ret))⟩
theorem c_impl_isOf_ok : compFn Tryz.prog [2] 211 = some c_impl_isOf := by kernel_rfl
def c_spec_l2Of : AFn := ⟨14, [.t 2, .t 3], (.seq (.region [oP 1 (.box true (.t 0)), oP 2 (.mv (kI 0)), oP 3 (.mv (.k (.bool false)))]) (.seq (.seq (.region [oP 4 (.faddr 0 (.t 1)), oP 5 (.load false 1 (.t 4))]) (.block 0 (.seq (.region [oP 7 (.bin .eql (.t 5) (kI 0)), oM 6 7]) (.cond (.t 6) (.seq (.region [oP 2 (.mv (kI 2)), oP 3 (.mv (.k (.bool true)))]) .ret) (.seq (.region [oP 9 (.bin .eql (.t 5) (kI 1)), oM 8 9]) (.cond (.t 8) (.seq (.region [oP 10 (.faddr 1 (.t 1)), oP 11 (.load false 1 (.t 10)), oP 12 (.bin .neq (.t 11) (kI 0)), oC 13 240 [(.t 12)], oM 2 13, oP 3 (.mv (.k (.bool true)))]) .ret) .skip)))))) (.seq (.region [oP 2 (.mv (kI 0)), oP 3 (.mv (.k (.bool false)))]) .ret)))⟩
theorem c_spec_l2Of_ok : compFn Tryz.prog [1] 213 = some c_spec_l2Of := by kernel_rfl
def c_impl_isTok : AFn := ⟨44, [.t 4], (.seq (.region [oP 2 (.box true (.t 0)), oP 4 (.mv (.k (.bool false)))]) (.seq (.seq (.region [oP 5 (.faddr 0 (.t 2)), oP 6 (.load false 1 (.t 5))]) (.block 0 (.seq (.region [oP 8 (.bin .eql (.t 6) (kI 1)), oM 7 8]) (.cond (.t 7) (.seq (.region [oP 9 (.faddr 1 (.t 2)), oP 10 (.load false 1 (.t 9)), oM 11 1, oP 12 (.bin .sub (.t 11) (kI 1)), oC 13 148 [(.t 10), (kI 0), (.t 12)], oM 14 13, oT 15 (.faddr 2 (.t 2)) 14, oT 16 (.load true 3 (.t 15)) 14, oT 17 (.build [.int .i64 0, .int .i64 0, .str []] []) 14, oT 18 (.eq false true [.i, .i, .s] (.t 16) (.t 17)) 14, oP 19 (.pick (.t 14) (.t 18) (.k (.bool false))), oM 4 19]) .ret) (.seq (.region [oP 21 (.bin .eql (.t 6) (kI 2)), oM 20 21]) (.cond (.t 20) (.seq (.region [oP 22 (.faddr 1 (.t 2)), oP 23 (.load false 1 (.t 22)), oP 24 (.bin .eql (.t 23) (kI 0)), oM 25 24, oT 26 (.faddr 2 (.t 2)) 25, oT 27 (.load true 3 (.t 26)) 25, ⟨some 28, .call (.f 280) [(.t 27)], (some (25, true))⟩, oP 29 (.pick (.t 25) (.t 28) (.k (.bool false))), oM 4 29]) .ret) .skip)))))) (.seq (.region [oP 30 (.faddr 0 (.t 2)), oP 31 (.load false 1 (.t 30)), oC 32 148 [(.t 31), (kI 3), (kI 10)], oM 33 32, oT 34 (.faddr 1 (.t 2)) 33, oT 35 (.load false 1 (.t 34)) 33, oT 36 (.bin .eql (.t 35) (kI 0)) 33, oP 37 (.pick (.t 33) (.t 36) (.k (.bool false))), oM 38 37, oT 39 (.faddr 2 (.t 2)) 38, oT 40 (.load true 3 (.t 39)) 38, oT 41 (.build [.int .i64 0, .int .i64 0, .str []] []) 38, oT 42 (.eq false true [.i, .i, .s] (.t 40) (.t 41)) 38, oP 43 (.pick (.t 38) (.t 42) (.k (.bool false))), oM 4 43]) .ret)))⟩
theorem c_impl_isTok_ok : compFn Tryz.prog [2] 214 = some c_impl_isTok := by kernel_rfl
def c_impl_Tok_takes : AFn := ⟨11, [.t 2], (.seq (.region [oP 1 (.box true (.t 0)), oP 2 (.mv (kI 0))]) (.seq (.seq (.region [oP 3 (.faddr 0 (.t 1)), oP 4 (.load false 1 (.t 3))]) (.block 0 (.seq (.seq (.region [oP 6 (.bin .eql (.t 4) (kI 1)), oM 5 6]) (.cond (.t 5) .skip (.region [oP 7 (.bin .eql (.t 4) (kI 2)), oM 5 7]))) (.cond (.t 5) (.seq (.region [oP 2 (.mv (kI 0))]) .ret) (.seq (.seq (.region [oP 9 (.bin .eql (.t 4) (kI 7)), oM 8 9]) (.cond (.t 8) .skip (.region [oP 10 (.bin .eql (.t 4) (kI 8)), oM 8 10]))) (.cond (.t 8) (.seq (.region [oP 2 (.mv (kI 1))]) .ret) .skip)))))) (.seq (.region [oP 2 (.mv (kI 2))]) .ret)))⟩
theorem c_impl_Tok_takes_ok : compFn Tryz.prog [1] 215 = some c_impl_Tok_takes := by kernel_rfl
def c_impl_truth : AFn := ⟨13, [.t 2], (.seq (.region [oP 1 (.box true (.t 0)), oP 2 (.mv (kI 0))]) (.seq (.seq (.region [oP 3 (.faddr 0 (.t 1)), oP 4 (.load false 1 (.t 3))]) (.block 0 (.seq (.region [oP 6 (.bin .eql (.t 4) (kI 0)), oM 5 6]) (.cond (.t 5) (.seq (.region [oP 2 (.mv (kI 2))]) .ret) (.seq (.region [oP 8 (.bin .eql (.t 4) (kI 1)), oM 7 8]) (.cond (.t 7) (.seq (.region [oP 9 (.faddr 1 (.t 1)), oP 10 (.load false 1 (.t 9)), oP 11 (.bin .neq (.t 10) (kI 0)), oC 12 281 [(.t 11)], oM 2 12]) .ret) .skip)))))) (.seq (.region [oP 2 (.mv (kI (-1)))]) .ret)))⟩
theorem c_impl_truth_ok : compFn Tryz.prog [1] 217 = some c_impl_truth := by kernel_rfl
def c_spec_l1SameVals : AFn := ⟨26, [.t 4], (.seq (.region [oP 4 (.mv (.k (.bool false)))]) (.seq (.seq (.region [oM 6 0, oP 7 (.len false (.t 6)), oM 8 1, oP 9 (.len false (.t 8)), oP 10 (.bin .neq (.t 7) (.t 9))]) (.cond (.t 10) (.seq (.region [oP 4 (.mv (.k (.bool false)))]) .ret) .skip)) (.seq (.seq (.region [oP 5 (.mv (kI 0))]) (.block 0 (.loop (.seq (.seq (.region [oM 11 5, oM 12 0, oP 13 (.len false (.t 12)), oP 14 (.bin .lss (.t 11) (.t 13))]) (.cond (.t 14) .skip (.exit 0))) (.seq (.block 1 (.seq (.draw [[oM 17 0, oM 18 5, oP 19 (.iaddr 3 (.t 17) (.t 18)), oP 20 (.load true 3 (.t 19)), oM 21 1, oM 22 5, oP 23 (.iaddr 3 (.t 21) (.t 22)), oP 24 (.load true 3 (.t 23))], [oP 25 (.eq true true [.i, .i, .s] (.t 20) (.t 24))]]) (.cond (.t 25) (.seq (.region [oP 4 (.mv (.k (.bool false)))]) .ret) .skip))) (.region [oM 15 5, oP 16 (.bin .add (.t 15) (kI 1)), oM 5 16])))))) (.seq (.region [oP 4 (.mv (.k (.bool true)))]) .ret))))⟩
theorem c_spec_l1SameVals_ok : compFn Tryz.prog [] 218 = some c_spec_l1SameVals := by kernel_rfl
def c_slices_Equal_Val : AFn := ⟨26, [.t 4], (.seq (.region [oP 4 (.mv (.k (.bool false)))]) (.seq (.seq (.region [oM 6 0, oP 7 (.len false (.t 6)), oM 8 1, oP 9 (.len false (.t 8)), oP 10 (.bin .neq (.t 7) (.t 9))]) (.cond (.t 10) (.seq (.region [oP 4 (.mv (.k (.bool false)))]) .ret) .skip)) (.seq (.seq (.region [oM 11 0, oP 12 (.len false (.t 11)), oP 13 (.mv (kI 0))]) (.block 0 (.loop (.seq (.region [oP 14 (.bin .lss (.t 13) (.t 12))]) (.seq (.cond (.t 14) .skip (.exit 0)) (.seq (.block 1 (.seq (.region [oM 15 13, oM 5 15]) (.seq (.draw [[oM 16 0, oM 17 5, oP 18 (.iaddr 3 (.t 16) (.t 17)), oP 19 (.load true 3 (.t 18)), oM 20 1, oM 21 5, oP 22 (.iaddr 3 (.t 20) (.t 21)), oP 23 (.load true 3 (.t 22))], [oP 24 (.eq true true [.i, .i, .s] (.t 19) (.t 23))]]) (.cond (.t 24) (.seq (.region [oP 4 (.mv (.k (.bool false)))]) .ret) .skip)))) (.region [oP 25 (.bin .add (.t 13) (kI 1)), oM 13 25]))))))) (.seq (.region [oP 4 (.mv (.k (.bool true)))]) .ret))))⟩
theorem c_slices_Equal_Val_ok : compFn Tryz.prog [] 219 = some c_slices_Equal_Val := by kernel_rfl
def c_spec_l1Has : AFn := ⟨18, [.t 4], (.seq (.region [oP 4 (.mv (.k (.bool false)))]) (.seq (.seq (.region [oP 5 (.mv (kI 0))]) (.block 0 (.loop (.seq (.seq (.region [oM 6 5, oM 7 0, oP 8 (.len false (.t 7)), oP 9 (.bin .lss (.t 6) (.t 8))]) (.cond (.t 9) .skip (.exit 0))) (.seq (.block 1 (.seq (.region [oM 12 0, oM 13 5, oP 14 (.iaddr 1 (.t 12) (.t 13)), oP 15 (.load false 1 (.t 14)), oM 16 1, oP 17 (.bin .eql (.t 15) (.t 16))]) (.cond (.t 17) (.seq (.region [oP 4 (.mv (.k (.bool true)))]) .ret) .skip))) (.region [oM 10 5, oP 11 (.bin .add (.t 10) (kI 1)), oM 5 11])))))) (.seq (.region [oP 4 (.mv (.k (.bool false)))]) .ret)))⟩
theorem c_spec_l1Has_ok : compFn Tryz.prog [] 220 = some c_spec_l1Has := by kernel_rfl
def c_spec_l4Key : AFn := ⟨36, [.t 4, .t 5], (.seq (.region [oP 4 (.mv (.k (.nils))), oP 5 (.mv (.k (.bool false)))]) (.seq (.region [oP 10 (.mksl false 3 0 [.int .i64 0, .int .i64 0, .str []] []), oM 6 10]) (.seq (.region [oP 7 (.mv (.k (.bool true)))]) (.seq (.seq (.region [oP 8 (.mv (kI 0))]) (.block 0 (.loop (.seq (.seq (.region [oM 11 8, oM 12 0, oP 13 (.len false (.t 12)), oP 14 (.bin .lss (.t 11) (.t 13))]) (.cond (.t 14) .skip (.exit 0))) (.seq (.block 1 (.seq (.region [oM 17 1, oM 18 0, oM 19 8, oP 20 (.iaddr 1 (.t 18) (.t 19)), oP 21 (.load false 1 (.t 20)), oP 22 (.iaddr 3 (.t 17) (.t 21)), oP 23 (.load true 3 (.t 22)), oP 9 (.alloc [.int .i64 0, .int .i64 0, .str []]), ⟨none, .op (.store 3 (.t 9) (.t 23)), none⟩]) (.seq (.region [oM 24 6, oP 25 (.load true 3 (.t 9)), oP 26 (.mksl true 3 1 [.int .i64 0, .int .i64 0, .str []] [(0, (.t 25))]), oP 27 (.app 3 32 (.t 24) (.t 26)), oM 6 27]) (.region [oM 28 7, oM 29 28, oT 30 (.faddr 0 (.t 9)) 29, oT 31 (.load false 1 (.t 30)) 29, oT 32 (.bin .neq (.t 31) (kI 0)) 29, oP 33 (.pick (.t 29) (.t 32) (.k (.bool false))), oM 7 33])))) (.region [oM 15 8, oP 16 (.bin .add (.t 15) (kI 1)), oM 8 16])))))) (.seq (.region [oM 34 6, oM 35 7, oM 4 34, oM 5 35]) .ret)))))⟩
theorem c_spec_l4Key_ok : compFn Tryz.prog [26] 221 = some c_spec_l4Key := by kernel_rfl
def c_impl_areColumns : AFn := ⟨30, [.t 4], (.seq (.region [oP 4 (.mv (.k (.bool false)))]) (.seq (.seq (.region [oM 7 0, oP 8 (.len false (.t 7)), oP 9 (.mv (kI 0))]) (.block 0 (.loop (.seq (.region [oP 10 (.bin .lss (.t 9) (.t 8))]) (.seq (.cond (.t 10) .skip (.exit 0)) (.seq (.block 1 (.seq (.region [oM 11 9, oP 12 (.iaddr 1 (.t 7) (.t 9)), oP 13 (.load false 1 (.t 12)), oM 5 11, oM 6 13]) (.seq (.region [oM 14 6, oM 15 1, oP 16 (.bin .sub (.t 15) (kI 1)), oC 17 148 [(.t 14), (kI 0), (.t 16)], oP 18 (.un .not (.t 17)), oM 19 18, oF 20 (.mv (.t 0)) 19, oF 21 (.mv (.t 5)) 19, oF 22 (.slice 1 (.t 20) none (some (.t 21)) none) 19, oF 23 (.mv (.t 6)) 19, ⟨some 24, .call (.f 167) [(.t 22), (.t 23)], (some (19, false))⟩, oP 25 (.pick (.t 19) (.k (.bool true)) (.t 24))]) (.cond (.t 25) (.seq (.region [oP 4 (.mv (.k (.bool false)))]) .ret) .skip)))) (.region [oP 26 (.bin .add (.t 9) (kI 1)), oM 9 26]))))))) (.seq (.region [oM 27 0, oP 28 (.len false (.t 27)), oP 29 (.bin .gtr (.t 28) (kI 0)), oM 4 29]) .ret)))⟩
theorem c_impl_areColumns_ok : compFn Tryz.prog [] 223 = some c_impl_areColumns := by kernel_rfl
def c_laws_szSave : AFn := ⟨19, [.t 4], (.seq (.region [oP 2 (.box true (.t 0)), oP 4 (.mv (kI 0))]) (.seq (.region [oM 5 1, oP 6 (.faddr 0 (.t 2)), oP 7 (.load false 1 (.t 6)), oP 8 (.len true (.t 7)), oP 9 (.bin .sub (.t 5) (.t 8)), oM 1 9]) (.seq (.seq (.region [oM 10 1, oP 11 (.bin .lss (.t 10) (kI 0))]) (.cond (.t 11) (.seq (.region [oP 4 (.mv (kI (-1)))]) .ret) .skip)) (.seq (.region [oP 12 (.faddr 1 (.t 2)), oP 13 (.load false 1 (.t 12)), oM 14 1, oC 15 21 [(.t 13), (.t 14)], oM 1 15]) (.seq (.seq (.region [oM 16 1, oP 17 (.bin .lss (.t 16) (kI 0))]) (.cond (.t 17) (.seq (.region [oP 4 (.mv (kI (-1)))]) .ret) .skip)) (.seq (.region [oM 18 1, oM 4 18]) .ret))))))⟩
theorem c_laws_szSave_ok : compFn Tryz.prog [2] 226 = some c_laws_szSave := by kernel_rfl
def c_spec_l5Flaws : AFn := ⟨100, [.t 6], (.seq (.region [oP 6 (.mv (.k (.nils)))]) (.seq (.region [oP 11 (.mksl false 3 0 [.int .i64 0, .int .i64 0, .int .i64 0] []), oM 7 11]) (.seq (.seq (.region [oP 8 (.mv (kI 0))]) (.block 0 (.loop (.seq (.seq (.region [oM 12 8, oM 13 0, oP 14 (.len false (.t 13)), oP 15 (.bin .lss (.t 12) (.t 14))]) (.cond (.t 15) .skip (.exit 0))) (.seq (.block 1 (.seq (.region [oP 9 (.mv (kI 0))]) (.block 2 (.loop (.seq (.seq (.region [oM 18 9, oM 19 1, oM 20 8, oP 21 (.iaddr 1 (.t 19) (.t 20)), oP 22 (.faddr 0 (.t 21)), oP 23 (.load false 1 (.t 22)), oP 24 (.len false (.t 23)), oP 25 (.bin .lss (.t 18) (.t 24))]) (.cond (.t 25) .skip (.exit 2))) (.seq (.block 3 (.seq (.region [oM 28 1, oM 29 8, oP 30 (.iaddr 1 (.t 28) (.t 29)), oP 31 (.faddr 0 (.t 30)), oP 32 (.load false 1 (.t 31)), oM 33 9, oP 34 (.iaddr 2 (.t 32) (.t 33)), oP 35 (.load true 2 (.t 34)), oP 10 (.alloc [.int .i64 0, .nils]), ⟨none, .op (.store 2 (.t 10) (.t 35)), none⟩]) (.seq (.seq (.draw [[oM 36 0, oM 37 8, oP 38 (.iaddr 6 (.t 36) (.t 37)), oP 39 (.load true 6 (.t 38)), oP 40 (.faddr 1 (.t 10)), oP 41 (.load false 1 (.t 40))], [oC 42 293 [(.t 39), (.t 41)]], [oP 43 (.un .not (.t 42))]]) (.cond (.t 43) (.region [oM 44 7, oM 45 8, oP 46 (.faddr 0 (.t 10)), oP 47 (.load false 1 (.t 46)), oP 48 (.build [.int .i64 0, .int .i64 0, .int .i64 0] [(0, 1, (kI 1)), (1, 1, (.t 45)), (2, 1, (.t 47))]), oP 49 (.mksl true 3 1 [.int .i64 0, .int .i64 0, .int .i64 0] [(0, (.t 48))]), oP 50 (.app 3 24 (.t 44) (.t 49)), oM 7 50]) .skip)) (.seq (.seq (.draw [[oM 51 0, oM 52 8, oP 53 (.iaddr 6 (.t 51) (.t 52)), oP 54 (.load true 6 (.t 53)), oP 55 (.faddr 1 (.t 10)), oP 56 (.load false 1 (.t 55))], [oC 57 294 [(.t 54), (.t 56)]], [oP 58 (.un .not (.t 57))]]) (.cond (.t 58) (.region [oM 59 7, oM 60 8, oP 61 (.faddr 0 (.t 10)), oP 62 (.load false 1 (.t 61)), oP 63 (.build [.int .i64 0, .int .i64 0, .int .i64 0] [(0, 1, (kI 2)), (1, 1, (.t 60)), (2, 1, (.t 62))]), oP 64 (.mksl true 3 1 [.int .i64 0, .int .i64 0, .int .i64 0] [(0, (.t 63))]), oP 65 (.app 3 24 (.t 59) (.t 64)), oM 7 65]) .skip)) (.seq (.seq (.draw [[oM 66 0, oM 67 8, oP 68 (.iaddr 6 (.t 66) (.t 67)), oP 69 (.load true 6 (.t 68)), oM 70 1, oM 71 8, oP 72 (.iaddr 1 (.t 70) (.t 71)), oP 73 (.load true 1 (.t 72)), oP 74 (.load true 2 (.t 10))], [oC 75 295 [(.t 69), (.t 73), (.t 74)]], [oP 76 (.un .not (.t 75))]]) (.cond (.t 76) (.region [oM 77 7, oM 78 8, oP 79 (.faddr 0 (.t 10)), oP 80 (.load false 1 (.t 79)), oP 81 (.build [.int .i64 0, .int .i64 0, .int .i64 0] [(0, 1, (kI 3)), (1, 1, (.t 78)), (2, 1, (.t 80))]), oP 82 (.mksl true 3 1 [.int .i64 0, .int .i64 0, .int .i64 0] [(0, (.t 81))]), oP 83 (.app 3 24 (.t 77) (.t 82)), oM 7 83]) .skip)) (.seq (.region [oM 84 0, oM 85 1, oM 86 8, oP 87 (.faddr 1 (.t 10)), oP 88 (.load false 1 (.t 87)), oM 89 2, oC 90 296 [(.t 84), (.t 85), (.t 86), (.t 88), (.t 89)], oP 91 (.un .not (.t 90))]) (.cond (.t 91) (.region [oM 92 7, oM 93 8, oP 94 (.faddr 0 (.t 10)), oP 95 (.load false 1 (.t 94)), oP 96 (.build [.int .i64 0, .int .i64 0, .int .i64 0] [(0, 1, (kI 4)), (1, 1, (.t 93)), (2, 1, (.t 95))]), oP 97 (.mksl true 3 1 [.int .i64 0, .int .i64 0, .int .i64 0] [(0, (.t 96))]), oP 98 (.app 3 24 (.t 92) (.t 97)), oM 7 98]) .skip))))))) (.region [oM 26 9, oP 27 (.bin .add (.t 26) (kI 1)), oM 9 27]))))))) (.region [oM 16 8, oP 17 (.bin .add (.t 16) (kI 1)), oM 8 17])))))) (.seq (.region [oM 99 7, oM 6 99]) .ret))))⟩
theorem c_spec_l5Flaws_ok : compFn Tryz.prog [49, 64, 82, 97] 227 = some c_spec_l5Flaws := by kernel_rfl
def c_laws_toSave : AFn := ⟨12, [.m 2 true 2], (.seq (.region [oP 1 (.box true (.t 0)), oP 2 (.alloc [.str [], .nils])]) (.seq (.region [oP 3 (.alloc [.str [], .nils])]) (.seq (.region [oP 4 (.faddr 0 (.t 1)), oP 5 (.load false 1 (.t 4)), oP 6 (.faddr 0 (.t 3)), ⟨none, .op (.store 1 (.t 6) (.t 5)), none⟩]) (.seq (.region [oP 7 (.faddr 1 (.t 1)), oP 8 (.load false 1 (.t 7)), oC 9 24 [(.t 8)], oP 10 (.faddr 1 (.t 3)), ⟨none, .op (.store 1 (.t 10) (.t 9)), none⟩]) (.seq (.region [oP 11 (.load true 2 (.t 3)), ⟨none, .op (.store 2 (.t 2) (.t 11)), none⟩]) .ret)))))⟩
theorem c_laws_toSave_ok : compFn Tryz.prog [1] 228 = some c_laws_toSave := by kernel_rfl
def c_impl_flaws : AFn := ⟨79, [.t 6], (.seq (.region [oP 6 (.mv (.k (.nils)))]) (.seq (.region [oP 15 (.mksl false 3 0 [.int .i64 0, .int .i64 0, .int .i64 0] []), oM 7 15]) (.seq (.seq (.region [oM 16 1, oP 17 (.len false (.t 16)), oP 18 (.mv (kI 0))]) (.block 0 (.loop (.seq (.region [oP 19 (.bin .lss (.t 18) (.t 17))]) (.seq (.cond (.t 19) .skip (.exit 0)) (.seq (.block 1 (.seq (.region [oM 20 18, oP 21 (.iaddr 1 (.t 16) (.t 18)), oP 22 (.load true 1 (.t 21)), oP 9 (.alloc [.nils]), oM 8 20, ⟨none, .op (.store 1 (.t 9) (.t 22)), none⟩]) (.seq (.region [oM 23 0, oM 24 8, oP 25 (.iaddr 6 (.t 23) (.t 24)), oP 26 (.load true 6 (.t 25)), oP 10 (.alloc [.str [], .nils, .nils, .nils, .nils, .nils]), ⟨none, .op (.store 6 (.t 10) (.t 26)), none⟩]) (.seq (.region [oP 27 (.faddr 0 (.t 9)), oP 28 (.load false 1 (.t 27)), oP 29 (.len false (.t 28)), oP 30 (.mv (kI 0))]) (.block 2 (.loop (.seq (.region [oP 31 (.bin .lss (.t 30) (.t 29))]) (.seq (.cond (.t 31) .skip (.exit 2)) (.seq (.block 3 (.seq (.region [oP 32 (.iaddr 2 (.t 28) (.t 30)), oP 33 (.load true 2 (.t 32)), oP 12 (.alloc [.int .i64 0, .nils]), ⟨none, .op (.store 2 (.t 12) (.t 33)), none⟩]) (.seq (.draw [[oP 34 (.load true 6 (.t 10)), oP 35 (.faddr 1 (.t 12)), oP 36 (.load false 1 (.t 35)), oC 37 297 [(.t 34), (.t 36)], oP 38 (.load true 6 (.t 10)), oP 39 (.faddr 1 (.t 12)), oP 40 (.load false 1 (.t 39)), oC 41 298 [(.t 38), (.t 40)], oP 42 (.un .not (.t 41)), oP 43 (.load true 6 (.t 10)), oP 44 (.faddr 0 (.t 9)), oP 45 (.load false 1 (.t 44)), oP 46 (.faddr 0 (.t 12)), oP 47 (.load false 1 (.t 46)), oP 48 (.faddr 1 (.t 12)), oP 49 (.load false 1 (.t 48)), oC 50 299 [(.t 43), (.t 45), (.t 47), (.t 49)], oP 51 (.len false (.t 50)), oP 52 (.bin .gtr (.t 51) (kI 0)), oM 53 0, oM 54 1, oP 55 (.load true 6 (.t 10)), oP 56 (.faddr 1 (.t 12)), oP 57 (.load false 1 (.t 56)), oM 58 2, oC 59 300 [(.t 53), (.t 54), (.t 55), (.t 57), (.t 58)], oP 60 (.build [.bool false, .bool false, .bool false, .bool false] [(0, 1, (.t 37)), (1, 1, (.t 42)), (2, 1, (.t 52)), (3, 1, (.t 59))]), oP 61 (.mv (kI 0))]]) (.block 4 (.loop (.seq (.region [oP 62 (.bin .lss (.t 61) (kI 4))]) (.seq (.cond (.t 62) .skip (.exit 4)) (.seq (.block 5 (.seq (.region [oM 63 61, oP 64 (.idxa false 4 1 (.t 60) (.t 61)), oM 13 63, oM 14 64]) (.seq (.region [oM 65 14]) (.cond (.t 65) (.region [oM 66 7, oM 67 13, oP 68 (.bin .add (.t 67) (kI 1)), oM 69 8, oP 70 (.faddr 0 (.t 12)), oP 71 (.load false 1 (.t 70)), oP 72 (.build [.int .i64 0, .int .i64 0, .int .i64 0] [(0, 1, (.t 68)), (1, 1, (.t 69)), (2, 1, (.t 71))]), oP 73 (.mksl true 3 1 [.int .i64 0, .int .i64 0, .int .i64 0] [(0, (.t 72))]), oP 74 (.app 3 24 (.t 66) (.t 73)), oM 7 74]) .skip)))) (.region [oP 75 (.bin .add (.t 61) (kI 1)), oM 61 75]))))))))) (.region [oP 76 (.bin .add (.t 30) (kI 1)), oM 30 76])))))))))) (.region [oP 77 (.bin .add (.t 18) (kI 1)), oM 18 77]))))))) (.seq (.region [oM 78 7, oM 6 78]) .ret))))⟩
theorem c_impl_flaws_ok : compFn Tryz.prog [73] 229 = some c_impl_flaws := by kernel_rfl
def c_slices_IndexFunc_Save : AFn := ⟨19, [.t 4], (.seq (.region [oP 4 (.mv (kI 0))]) (.seq (.seq (.region [oM 6 0, oP 7 (.len false (.t 6)), oP 8 (.mv (kI 0))]) (.block 0 (.loop (.seq (.region [oP 9 (.bin .lss (.t 8) (.t 7))]) (.seq (.cond (.t 9) .skip (.exit 0)) (.seq (.block 1 (.seq (.region [oM 10 8, oM 5 10]) (.seq (.region [oM 11 1, oM 12 0, oM 13 5, oP 14 (.iaddr 2 (.t 12) (.t 13)), oP 15 (.load true 2 (.t 14)), ⟨some 16, .call (.t 11) [(.t 15)], none⟩]) (.cond (.t 16) (.seq (.region [oM 17 5, oM 4 17]) .ret) .skip)))) (.region [oP 18 (.bin .add (.t 8) (kI 1)), oM 8 18]))))))) (.seq (.region [oP 4 (.mv (kI (-1)))]) .ret)))⟩
theorem c_slices_IndexFunc_Save_ok : compFn Tryz.prog [] 230 = some c_slices_IndexFunc_Save := by kernel_rfl
def c_spec_l2Sum : AFn := ⟨38, [.m 6 true 3, .t 7], (.seq (.region [oP 3 (.box true (.t 0)), oP 4 (.box true (.t 1)), oP 6 (.alloc [.int .i64 0, .int .i64 0, .str []]), oP 7 (.mv (.k (.bool false)))]) (.seq (.seq (.region [oP 9 (.faddr 0 (.t 3)), oP 10 (.load false 1 (.t 9)), oP 11 (.bin .eql (.t 10) (kI 2)), oM 12 11, oF 13 (.faddr 0 (.t 4)) 12, oF 14 (.load false 1 (.t 13)) 12, oF 15 (.bin .eql (.t 14) (kI 2)) 12, oP 16 (.pick (.t 12) (.k (.bool true)) (.t 15))]) (.cond (.t 16) (.seq (.region [oP 17 (.build [.int .i64 0, .int .i64 0, .str []] []), ⟨none, .op (.store 3 (.t 6) (.t 17)), none⟩, oP 7 (.mv (.k (.bool false)))]) .ret) .skip)) (.seq (.seq (.region [oP 18 (.faddr 0 (.t 3)), oP 19 (.load false 1 (.t 18)), oP 20 (.bin .eql (.t 19) (kI 0)), oM 21 20, oF 22 (.faddr 0 (.t 4)) 21, oF 23 (.load false 1 (.t 22)) 21, oF 24 (.bin .eql (.t 23) (kI 0)) 21, oP 25 (.pick (.t 21) (.k (.bool true)) (.t 24))]) (.cond (.t 25) (.seq (.region [oP 26 (.build [.int .i64 0, .int .i64 0, .str []] []), ⟨none, .op (.store 3 (.t 6) (.t 26)), none⟩, oP 7 (.mv (.k (.bool true)))]) .ret) .skip)) (.seq (.region [oP 27 (.faddr 1 (.t 3)), oP 28 (.load false 1 (.t 27)), oM 29 2, oP 30 (.faddr 1 (.t 4)), oP 31 (.load false 1 (.t 30)), oP 32 (.bin .mul (.t 29) (.t 31)), oP 33 (.bin .add (.t 28) (.t 32)), oC 34 146 [(.t 33)], oP 8 (.alloc [.int .i64 0, .int .i64 0, .str []]), ⟨none, .op (.store 3 (.t 8) (.t 34)), none⟩]) (.seq (.draw [[oP 35 (.load true 3 (.t 8)), oP 36 (.load true 3 (.t 8)), oC 37 276 [(.t 36)]], [⟨none, .op (.store 3 (.t 6) (.t 35)), none⟩], [oM 7 37]]) .ret)))))⟩
theorem c_spec_l2Sum_ok : compFn Tryz.prog [3, 4] 231 = some c_spec_l2Sum := by kernel_rfl
def c_cmp_Compare_string : AFn := ⟨20, [.t 4], (.seq (.region [oP 4 (.mv (kI 0))]) (.seq (.region [oM 7 0, oC 8 309 [(.t 7)], oM 5 8]) (.seq (.region [oM 9 1, oC 10 309 [(.t 9)], oM 6 10]) (.seq (.seq (.region [oM 11 5]) (.cond (.t 11) (.seq (.seq (.region [oM 12 6]) (.cond (.t 12) (.seq (.region [oP 4 (.mv (kI 0))]) .ret) .skip)) (.seq (.region [oP 4 (.mv (kI (-1)))]) .ret)) .skip)) (.seq (.seq (.region [oM 13 6]) (.cond (.t 13) (.seq (.region [oP 4 (.mv (kI 1))]) .ret) .skip)) (.seq (.seq (.region [oM 14 0, oM 15 1, oP 16 (.bin .lss (.t 14) (.t 15))]) (.cond (.t 16) (.seq (.region [oP 4 (.mv (kI (-1)))]) .ret) .skip)) (.seq (.seq (.region [oM 17 0, oM 18 1, oP 19 (.bin .gtr (.t 17) (.t 18))]) (.cond (.t 19) (.seq (.region [oP 4 (.mv (kI 1))]) .ret) .skip)) (.seq (.region [oP 4 (.mv (kI 0))]) .ret))))))))⟩
theorem c_cmp_Compare_string_ok : compFn Tryz.prog [] 234 = some c_cmp_Compare_string := by kernel_rfl
def c_impl_sumOf : AFn := ⟨40, [.m 6 true 3, .t 7], (.seq (.region [oP 3 (.box true (.t 0)), oP 4 (.box true (.t 1)), oP 6 (.alloc [.int .i64 0, .int .i64 0, .str []]), oP 7 (.mv (.k (.bool false)))]) (.seq (.block 0 (.seq (.region [oP 10 (.faddr 0 (.t 3)), oP 11 (.load false 1 (.t 10)), oP 12 (.bin .eql (.t 11) (kI 2)), oM 13 12, oF 14 (.faddr 0 (.t 4)) 13, oF 15 (.load false 1 (.t 14)) 13, oF 16 (.bin .eql (.t 15) (kI 2)) 13, oP 17 (.pick (.t 13) (.k (.bool true)) (.t 16)), oM 9 17]) (.cond (.t 9) (.seq (.region [oP 18 (.build [.int .i64 0, .int .i64 0, .str []] []), ⟨none, .op (.store 3 (.t 6) (.t 18)), none⟩, oP 7 (.mv (.k (.bool false)))]) .ret) (.seq (.region [oP 20 (.faddr 0 (.t 3)), oP 21 (.load false 1 (.t 20)), oP 22 (.bin .eql (.t 21) (kI 0)), oM 23 22, oF 24 (.faddr 0 (.t 4)) 23, oF 25 (.load false 1 (.t 24)) 23, oF 26 (.bin .eql (.t 25) (kI 0)) 23, oP 27 (.pick (.t 23) (.k (.bool true)) (.t 26)), oM 19 27]) (.cond (.t 19) (.seq (.region [oP 28 (.build [.int .i64 0, .int .i64 0, .str []] []), ⟨none, .op (.store 3 (.t 6) (.t 28)), none⟩, oP 7 (.mv (.k (.bool true)))]) .ret) .skip))))) (.seq (.region [oP 29 (.faddr 1 (.t 3)), oP 30 (.load false 1 (.t 29)), oM 31 2, oP 32 (.faddr 1 (.t 4)), oP 33 (.load false 1 (.t 32)), oP 34 (.bin .mul (.t 31) (.t 33)), oP 35 (.bin .add (.t 30) (.t 34)), oP 36 (.build [.int .i64 0, .int .i64 0, .str []] [(0, 1, (kI 1)), (1, 1, (.t 35))]), oP 8 (.alloc [.int .i64 0, .int .i64 0, .str []]), ⟨none, .op (.store 3 (.t 8) (.t 36)), none⟩]) (.seq (.draw [[oP 37 (.load true 3 (.t 8)), oP 38 (.load true 3 (.t 8)), oC 39 280 [(.t 38)]], [⟨none, .op (.store 3 (.t 6) (.t 37)), none⟩], [oM 7 39]]) .ret))))⟩
theorem c_impl_sumOf_ok : compFn Tryz.prog [3, 4] 237 = some c_impl_sumOf := by kernel_rfl
def c_spec_l4Db : AFn := ⟨71, [.t 4], (.seq (.region [oP 4 (.mv (.k (.bool false)))]) (.seq (.seq (.region [oM 8 1, oP 9 (.len false (.t 8)), oM 10 0, oP 11 (.len false (.t 10)), oP 12 (.bin .neq (.t 9) (.t 11))]) (.cond (.t 12) (.seq (.region [oP 4 (.mv (.k (.bool false)))]) .ret) .skip)) (.seq (.seq (.region [oP 5 (.mv (kI 0))]) (.block 0 (.loop (.seq (.seq (.region [oM 13 5, oM 14 1, oP 15 (.len false (.t 14)), oP 16 (.bin .lss (.t 13) (.t 15))]) (.cond (.t 16) .skip (.exit 0))) (.seq (.block 1 (.seq (.region [oM 19 1, oM 20 5, oP 21 (.iaddr 1 (.t 19) (.t 20)), oP 22 (.faddr 0 (.t 21)), oP 23 (.load false 1 (.t 22)), oM 6 23]) (.seq (.seq (.region [oP 7 (.mv (kI 0))]) (.block 2 (.loop (.seq (.seq (.region [oM 24 7, oM 25 6, oP 26 (.len false (.t 25)), oP 27 (.bin .lss (.t 24) (.t 26))]) (.cond (.t 27) .skip (.exit 2))) (.seq (.block 3 (.seq (.draw [[oM 30 6, oM 31 7], [oP 32 (.iaddr 2 (.t 30) (.t 31))], [oP 33 (.faddr 0 (.t 32))], [oP 34 (.load false 1 (.t 33))], [oC 35 105 [(.t 34), (kI 1), (kI 1000000000)]], [oP 36 (.un .not (.t 35))], [oM 37 36], [oF 38 (.mv (.t 7)) 37], [oF 39 (.bin .gtr (.t 38) (kI 0)) 37], [oF 40 (.mv (.t 39)) 37], [oT 41 (.mv (.t 6)) 40, oT 42 (.mv (.t 7)) 40, oT 43 (.bin .sub (.t 42) (kI 1)) 40, oT 44 (.iaddr 2 (.t 41) (.t 43)) 40, oT 45 (.faddr 0 (.t 44)) 40, oT 46 (.load false 1 (.t 45)) 40, oT 47 (.mv (.t 6)) 40, oT 48 (.mv (.t 7)) 40, oT 49 (.iaddr 2 (.t 47) (.t 48)) 40, oT 50 (.faddr 0 (.t 49)) 40, oT 51 (.load false 1 (.t 50)) 40], [oT 52 (.bin .geq (.t 46) (.t 51)) 40], [oF 53 (.pick (.t 40) (.t 52) (.k (.bool false))) 37], [oP 54 (.pick (.t 37) (.k (.bool true)) (.t 53))], [oM 55 54], [oF 56 (.mv (.t 0)) 55, oF 57 (.mv (.t 5)) 55, oF 58 (.iaddr 6 (.t 56) (.t 57)) 55, oF 59 (.load true 6 (.t 58)) 55, oF 60 (.mv (.t 6)) 55, oF 61 (.mv (.t 7)) 55, oF 62 (.iaddr 2 (.t 60) (.t 61)) 55, oF 63 (.faddr 1 (.t 62)) 55, oF 64 (.load false 1 (.t 63)) 55], [⟨some 65, .call (.f 206) [(.t 59), (.t 64)], (some (55, false))⟩], [oF 66 (.un .not (.t 65)) 55], [oP 67 (.pick (.t 55) (.k (.bool true)) (.t 66))]]) (.cond (.t 67) (.seq (.region [oP 4 (.mv (.k (.bool false)))]) .ret) .skip))) (.region [oM 28 7, oP 29 (.bin .add (.t 28) (kI 1)), oM 7 29])))))) (.seq (.region [oM 68 6, oP 69 (.len false (.t 68)), oP 70 (.bin .gtr (.t 69) (kI 60))]) (.cond (.t 70) (.seq (.region [oP 4 (.mv (.k (.bool false)))]) .ret) .skip))))) (.region [oM 17 5, oP 18 (.bin .add (.t 17) (kI 1)), oM 5 18])))))) (.seq (.region [oP 4 (.mv (.k (.bool true)))]) .ret))))⟩
theorem c_spec_l4Db_ok : compFn Tryz.prog [] 239 = some c_spec_l4Db := by kernel_rfl
def c_spec_l1Yes : AFn := ⟨4, [.t 2], (.seq (.region [oP 2 (.mv (kI 0))]) (.seq (.seq (.region [oM 3 0]) (.cond (.t 3) (.seq (.region [oP 2 (.mv (kI 1))]) .ret) .skip)) (.seq (.region [oP 2 (.mv (kI 0))]) .ret)))⟩
theorem c_spec_l1Yes_ok : compFn Tryz.prog [] 240 = some c_spec_l1Yes := by kernel_rfl
def c_spec_l2As : AFn := ⟨8, [.m 2 true 3], (.seq (.region [oP 2 (.alloc [.int .i64 0, .int .i64 0, .str []])]) (.seq (.seq (.region [oM 3 0, oP 4 (.bin .eql (.t 3) (kI 2))]) (.cond (.t 4) (.seq (.region [oP 5 (.build [.int .i64 0, .int .i64 0, .str []] []), ⟨none, .op (.store 3 (.t 2) (.t 5)), none⟩]) .ret) .skip)) (.seq (.region [oM 6 0, oC 7 146 [(.t 6)], ⟨none, .op (.store 3 (.t 2) (.t 7)), none⟩]) .ret)))⟩
theorem c_spec_l2As_ok : compFn Tryz.prog [] 241 = some c_spec_l2As := by kernel_rfl
def c_spec_Not3 : AFn := ⟨10, [.t 2], (.seq (.region [oP 2 (.mv (kI 0))]) (.seq (.seq (.region [oM 3 0]) (.block 0 (.seq (.region [oP 5 (.bin .eql (.t 3) (kI 0)), oM 4 5]) (.cond (.t 4) (.seq (.region [oP 2 (.mv (kI 1))]) .ret) (.seq (.region [oP 7 (.bin .eql (.t 3) (kI 1)), oM 6 7]) (.cond (.t 6) (.seq (.region [oP 2 (.mv (kI 0))]) .ret) (.seq (.region [oP 9 (.bin .eql (.t 3) (kI 2)), oM 8 9]) (.cond (.t 8) (.seq (.region [oP 2 (.mv (kI 2))]) .ret) .skip)))))))) (.seq (.region [oP 2 (.mv (kI (-1)))]) .ret)))⟩
theorem c_spec_Not3_ok : compFn Tryz.prog [] 242 = some c_spec_Not3 := by kernel_rfl
def c_spec_l2Two : AFn := ⟨66, [.m 6 true 3, .t 7], (.seq (.region [oP 4 (.box true (.t 1)), oP 5 (.box true (.t 2)), oP 6 (.alloc [.int .i64 0, .int .i64 0, .str []]), oP 7 (.mv (.k (.bool false)))]) (.seq (.seq (.region [oM 12 0]) (.block 0 (.seq (.region [oP 14 (.bin .eql (.t 12) (kI 3)), oM 13 14]) (.cond (.t 13) (.seq (.region [oP 15 (.load true 3 (.t 4)), oP 16 (.load true 3 (.t 5)), oC 17 310 [(.t 15), (.t 16)], oC 18 241 [(.t 17)], ⟨none, .op (.store 3 (.t 6) (.t 18)), none⟩, oP 7 (.mv (.k (.bool true)))]) .ret) (.seq (.region [oP 20 (.bin .eql (.t 12) (kI 4)), oM 19 20]) (.cond (.t 19) (.seq (.region [oP 21 (.load true 3 (.t 4)), oP 22 (.load true 3 (.t 5)), oC 23 311 [(.t 21), (.t 22)], oC 24 241 [(.t 23)], ⟨none, .op (.store 3 (.t 6) (.t 24)), none⟩, oP 7 (.mv (.k (.bool true)))]) .ret) (.seq (.region [oP 26 (.bin .eql (.t 12) (kI 9)), oM 25 26]) (.cond (.t 25) (.seq (.region [oP 27 (.load true 3 (.t 4)), oP 28 (.load true 3 (.t 5)), oC 29 231 [(.t 27), (.t 28), (kI 1)], oP 30 (.ext (.t 29) 0), oP 31 (.ext (.t 29) 1), ⟨none, .op (.store 3 (.t 6) (.t 30)), none⟩, oM 7 31]) .ret) (.seq (.region [oP 33 (.bin .eql (.t 12) (kI 10)), oM 32 33]) (.cond (.t 32) (.seq (.region [oP 34 (.load true 3 (.t 4)), oP 35 (.load true 3 (.t 5)), oC 36 231 [(.t 34), (.t 35), (kI (-1))], oP 37 (.ext (.t 36) 0), oP 38 (.ext (.t 36) 1), ⟨none, .op (.store 3 (.t 6) (.t 37)), none⟩, oM 7 38]) .ret) .skip)))))))))) (.seq (.region [oP 40 (.load true 3 (.t 4)), oC 41 213 [(.t 40)], oM 39 41, oP 42 (.ext (.t 39) 0), oP 43 (.ext (.t 39) 1), oM 8 42, oM 9 43]) (.seq (.region [oP 45 (.load true 3 (.t 5)), oC 46 213 [(.t 45)], oM 44 46, oP 47 (.ext (.t 44) 0), oP 48 (.ext (.t 44) 1), oM 10 47, oM 11 48]) (.seq (.seq (.region [oM 49 9, oP 50 (.un .not (.t 49)), oM 51 50, oF 52 (.mv (.t 11)) 51, oF 53 (.un .not (.t 52)) 51, oP 54 (.pick (.t 51) (.k (.bool true)) (.t 53))]) (.cond (.t 54) (.seq (.region [oP 55 (.build [.int .i64 0, .int .i64 0, .str []] []), ⟨none, .op (.store 3 (.t 6) (.t 55)), none⟩, oP 7 (.mv (.k (.bool false)))]) .ret) .skip)) (.seq (.seq (.region [oM 56 0, oP 57 (.bin .eql (.t 56) (kI 5))]) (.cond (.t 57) (.seq (.region [oM 58 8, oM 59 10, oC 60 312 [(.t 58), (.t 59)], oC 61 241 [(.t 60)], ⟨none, .op (.store 3 (.t 6) (.t 61)), none⟩, oP 7 (.mv (.k (.bool true)))]) .ret) .skip)) (.seq (.region [oM 62 8, oM 63 10, oC 64 313 [(.t 62), (.t 63)], oC 65 241 [(.t 64)], ⟨none, .op (.store 3 (.t 6) (.t 65)), none⟩, oP 7 (.mv (.k (.bool true)))]) .ret)))))))⟩
theorem c_spec_l2Two_ok : compFn Tryz.prog [4, 5] 243 = some c_spec_l2Two := by kernel_rfl
def c_slices_IndexFunc_Table : AFn := ⟨19, [.t 4], (.seq (.region [oP 4 (.mv (kI 0))]) (.seq (.seq (.region [oM 6 0, oP 7 (.len false (.t 6)), oP 8 (.mv (kI 0))]) (.block 0 (.loop (.seq (.region [oP 9 (.bin .lss (.t 8) (.t 7))]) (.seq (.cond (.t 9) .skip (.exit 0)) (.seq (.block 1 (.seq (.region [oM 10 8, oM 5 10]) (.seq (.region [oM 11 1, oM 12 0, oM 13 5, oP 14 (.iaddr 6 (.t 12) (.t 13)), oP 15 (.load true 6 (.t 14)), ⟨some 16, .call (.t 11) [(.t 15)], none⟩]) (.cond (.t 16) (.seq (.region [oM 17 5, oM 4 17]) .ret) .skip)))) (.region [oP 18 (.bin .add (.t 8) (kI 1)), oM 8 18]))))))) (.seq (.region [oP 4 (.mv (kI (-1)))]) .ret)))⟩
theorem c_slices_IndexFunc_Table_ok : compFn Tryz.prog [] 246 = some c_slices_IndexFunc_Table := by kernel_rfl
def c_impl_TableAt_1 : AFn := ⟨8, [.t 3], (.seq (.region [oP 2 (.box true (.t 0)), oP 3 (.mv (.k (.bool false)))]) (.seq (.region [oP 4 (.faddr 0 (.t 2)), oP 5 (.load false 1 (.t 4)), oP 6 (.load false 1 (.t 1)), oP 7 (.bin .eql (.t 5) (.t 6)), oM 3 7]) .ret))⟩
theorem c_impl_TableAt_1_ok : compFn Tryz.prog [2] 247 = some c_impl_TableAt_1 := by kernel_rfl
def c_slices_Index_int64_int64 : AFn := ⟨19, [.t 4], (.seq (.region [oP 4 (.mv (kI 0))]) (.seq (.seq (.region [oM 6 0, oP 7 (.len false (.t 6)), oP 8 (.mv (kI 0))]) (.block 0 (.loop (.seq (.region [oP 9 (.bin .lss (.t 8) (.t 7))]) (.seq (.cond (.t 9) .skip (.exit 0)) (.seq (.block 1 (.seq (.region [oM 10 8, oM 5 10]) (.seq (.region [oM 11 1, oM 12 0, oM 13 5, oP 14 (.iaddr 1 (.t 12) (.t 13)), oP 15 (.load false 1 (.t 14)), oP 16 (.bin .eql (.t 11) (.t 15))]) (.cond (.t 16) (.seq (.region [oM 17 5, oM 4 17]) .ret) .skip)))) (.region [oP 18 (.bin .add (.t 8) (kI 1)), oM 8 18]))))))) (.seq (.region [oP 4 (.mv (kI (-1)))]) .ret)))⟩
theorem c_slices_Index_int64_int64_ok : compFn Tryz.prog [] 249 = some c_slices_Index_int64_int64 := by kernel_rfl
def c_cmp_isNaN_int64 : AFn := ⟨6, [.t 2], (.seq (.region [oP 2 (.mv (.k (.bool false)))]) (.seq (.region [oM 3 0, oM 4 0, oP 5 (.bin .neq (.t 3) (.t 4)), oM 2 5]) .ret))⟩
theorem c_cmp_isNaN_int64_ok : compFn Tryz.prog [] 251 = some c_cmp_isNaN_int64 := by kernel_rfl
def c_impl_areVals : AFn := ⟨23, [.t 4], (.seq (.region [oP 4 (.mv (.k (.bool false)))]) (.seq (.seq (.region [oM 7 0, oP 8 (.len false (.t 7)), oP 9 (.mv (kI 0))]) (.block 0 (.loop (.seq (.region [oP 10 (.bin .lss (.t 9) (.t 8))]) (.seq (.cond (.t 10) .skip (.exit 0)) (.seq (.block 1 (.seq (.region [oM 11 9, oP 12 (.iaddr 3 (.t 7) (.t 9)), oP 13 (.load true 3 (.t 12)), oP 6 (.alloc [.int .i64 0, .int .i64 0, .str []]), oM 5 11, ⟨none, .op (.store 3 (.t 6) (.t 13)), none⟩]) (.seq (.region [oM 14 5, oM 15 1, oP 16 (.bin .eql (.t 14) (.t 15)), oM 17 16, oF 18 (.load true 3 (.t 6)) 17, ⟨some 19, .call (.f 280) [(.t 18)], (some (17, false))⟩, oF 20 (.un .not (.t 19)) 17, oP 21 (.pick (.t 17) (.k (.bool true)) (.t 20))]) (.cond (.t 21) (.seq (.region [oP 4 (.mv (.k (.bool false)))]) .ret) .skip)))) (.region [oP 22 (.bin .add (.t 9) (kI 1)), oM 9 22]))))))) (.seq (.region [oP 4 (.mv (.k (.bool true)))]) .ret)))⟩
theorem c_impl_areVals_ok : compFn Tryz.prog [] 252 = some c_impl_areVals := by kernel_rfl
def c_impl_Tok_apply : AFn := ⟨114, [.m 6 true 3, .t 7], (.seq (.region [oP 3 (.box true (.t 0)), oP 6 (.alloc [.int .i64 0, .int .i64 0, .str []]), oP 7 (.mv (.k (.bool false)))]) (.seq (.seq (.region [oP 8 (.faddr 0 (.t 3)), oP 9 (.load false 1 (.t 8))]) (.block 0 (.seq (.region [oP 11 (.bin .eql (.t 9) (kI 1)), oM 10 11]) (.cond (.t 10) (.seq (.region [oM 12 2, oP 13 (.faddr 1 (.t 3)), oP 14 (.load false 1 (.t 13)), oP 15 (.iaddr 3 (.t 12) (.t 14)), oP 16 (.load true 3 (.t 15)), ⟨none, .op (.store 3 (.t 6) (.t 16)), none⟩, oP 7 (.mv (.k (.bool true)))]) .ret) (.seq (.region [oP 18 (.bin .eql (.t 9) (kI 2)), oM 17 18]) (.cond (.t 17) (.seq (.region [oP 19 (.faddr 2 (.t 3)), oP 20 (.load true 3 (.t 19)), ⟨none, .op (.store 3 (.t 6) (.t 20)), none⟩, oP 7 (.mv (.k (.bool true)))]) .ret) (.seq (.region [oP 22 (.bin .eql (.t 9) (kI 3)), oM 21 22]) (.cond (.t 21) (.seq (.draw [[oM 23 1, oP 24 (.iaddr 3 (.t 23) (kI 0)), oP 25 (.load true 3 (.t 24)), oM 26 1, oP 27 (.iaddr 3 (.t 26) (kI 1)), oP 28 (.load true 3 (.t 27))], [oC 29 319 [(.t 25), (.t 28)]], [oC 30 318 [(.t 29)]], [oP 31 (.ext (.t 30) 0), oP 32 (.ext (.t 30) 1)], [⟨none, .op (.store 3 (.t 6) (.t 31)), none⟩], [oM 7 32]]) .ret) (.seq (.region [oP 34 (.bin .eql (.t 9) (kI 4)), oM 33 34]) (.cond (.t 33) (.seq (.draw [[oM 35 1, oP 36 (.iaddr 3 (.t 35) (kI 0)), oP 37 (.load true 3 (.t 36)), oM 38 1, oP 39 (.iaddr 3 (.t 38) (kI 1)), oP 40 (.load true 3 (.t 39))], [oC 41 320 [(.t 37), (.t 40)]], [oC 42 318 [(.t 41)]], [oP 43 (.ext (.t 42) 0), oP 44 (.ext (.t 42) 1)], [⟨none, .op (.store 3 (.t 6) (.t 43)), none⟩], [oM 7 44]]) .ret) (.seq (.region [oP 46 (.bin .eql (.t 9) (kI 5)), oM 45 46]) (.cond (.t 45) (.seq (.draw [[oM 47 1, oP 48 (.iaddr 3 (.t 47) (kI 0)), oP 49 (.load true 3 (.t 48)), oC 50 217 [(.t 49)], oM 51 1, oP 52 (.iaddr 3 (.t 51) (kI 1)), oP 53 (.load true 3 (.t 52))], [oC 54 217 [(.t 53)]], [oC 55 321 [(.t 50), (.t 54)]], [oC 56 318 [(.t 55)]], [oP 57 (.ext (.t 56) 0), oP 58 (.ext (.t 56) 1)], [⟨none, .op (.store 3 (.t 6) (.t 57)), none⟩], [oM 7 58]]) .ret) (.seq (.region [oP 60 (.bin .eql (.t 9) (kI 6)), oM 59 60]) (.cond (.t 59) (.seq (.draw [[oM 61 1, oP 62 (.iaddr 3 (.t 61) (kI 0)), oP 63 (.load true 3 (.t 62)), oC 64 217 [(.t 63)], oM 65 1, oP 66 (.iaddr 3 (.t 65) (kI 1)), oP 67 (.load true 3 (.t 66))], [oC 68 217 [(.t 67)]], [oC 69 322 [(.t 64), (.t 68)]], [oC 70 318 [(.t 69)]], [oP 71 (.ext (.t 70) 0), oP 72 (.ext (.t 70) 1)], [⟨none, .op (.store 3 (.t 6) (.t 71)), none⟩], [oM 7 72]]) .ret) (.seq (.region [oP 74 (.bin .eql (.t 9) (kI 7)), oM 73 74]) (.cond (.t 73) (.seq (.region [oM 75 1, oP 76 (.iaddr 3 (.t 75) (kI 0)), oP 77 (.load true 3 (.t 76)), oC 78 217 [(.t 77)], oC 79 323 [(.t 78)], oC 80 318 [(.t 79)], oP 81 (.ext (.t 80) 0), oP 82 (.ext (.t 80) 1), ⟨none, .op (.store 3 (.t 6) (.t 81)), none⟩, oM 7 82]) .ret) (.seq (.region [oP 84 (.bin .eql (.t 9) (kI 8)), oM 83 84]) (.cond (.t 83) (.seq (.region [oM 85 1, oP 86 (.iaddr 3 (.t 85) (kI 0)), oP 87 (.faddr 0 (.t 86)), oP 88 (.load false 1 (.t 87)), oP 89 (.bin .eql (.t 88) (kI 0)), oC 90 281 [(.t 89)], oC 91 318 [(.t 90)], oP 92 (.ext (.t 91) 0), oP 93 (.ext (.t 91) 1), ⟨none, .op (.store 3 (.t 6) (.t 92)), none⟩, oM 7 93]) .ret) (.seq (.region [oP 95 (.bin .eql (.t 9) (kI 9)), oM 94 95]) (.cond (.t 94) (.seq (.draw [[oM 96 1, oP 97 (.iaddr 3 (.t 96) (kI 0)), oP 98 (.load true 3 (.t 97)), oM 99 1, oP 100 (.iaddr 3 (.t 99) (kI 1)), oP 101 (.load true 3 (.t 100))], [oC 102 237 [(.t 98), (.t 101), (kI 1)]], [oP 103 (.ext (.t 102) 0), oP 104 (.ext (.t 102) 1)], [⟨none, .op (.store 3 (.t 6) (.t 103)), none⟩], [oM 7 104]]) .ret) .skip)))))))))))))))))))) (.seq (.draw [[oM 105 1, oP 106 (.iaddr 3 (.t 105) (kI 0)), oP 107 (.load true 3 (.t 106)), oM 108 1, oP 109 (.iaddr 3 (.t 108) (kI 1)), oP 110 (.load true 3 (.t 109))], [oC 111 237 [(.t 107), (.t 110), (kI (-1))]], [oP 112 (.ext (.t 111) 0), oP 113 (.ext (.t 111) 1)], [⟨none, .op (.store 3 (.t 6) (.t 112)), none⟩], [oM 7 113]]) .ret)))⟩
theorem c_impl_Tok_apply_ok : compFn Tryz.prog [3] 253 = some c_impl_Tok_apply := by kernel_rfl
def c_laws_szCol : AFn := ⟨19, [.t 4], (.seq (.region [oP 2 (.box true (.t 0)), oP 4 (.mv (kI 0))]) (.seq (.region [oM 5 1, oP 6 (.faddr 0 (.t 2)), oP 7 (.load false 1 (.t 6)), oP 8 (.len true (.t 7)), oP 9 (.bin .sub (.t 5) (.t 8)), oM 1 9]) (.seq (.seq (.region [oM 10 1, oP 11 (.bin .lss (.t 10) (kI 0))]) (.cond (.t 11) (.seq (.region [oP 4 (.mv (kI (-1)))]) .ret) .skip)) (.seq (.region [oP 12 (.faddr 3 (.t 2)), oP 13 (.load true 3 (.t 12)), oM 14 1, oC 15 103 [(.t 13), (.t 14)], oM 1 15]) (.seq (.seq (.region [oM 16 1, oP 17 (.bin .lss (.t 16) (kI 0))]) (.cond (.t 17) (.seq (.region [oP 4 (.mv (kI (-1)))]) .ret) .skip)) (.seq (.region [oM 18 1, oM 4 18]) .ret))))))⟩
theorem c_laws_szCol_ok : compFn Tryz.prog [2] 255 = some c_laws_szCol := by kernel_rfl
def c_laws_szUnique : AFn := ⟨12, [.t 4], (.seq (.region [oP 2 (.box true (.t 0)), oP 4 (.mv (kI 0))]) (.seq (.region [oP 5 (.faddr 0 (.t 2)), oP 6 (.load false 1 (.t 5)), oM 7 1, oC 8 154 [(.t 6), (.t 7)], oM 1 8]) (.seq (.seq (.region [oM 9 1, oP 10 (.bin .lss (.t 9) (kI 0))]) (.cond (.t 10) (.seq (.region [oP 4 (.mv (kI (-1)))]) .ret) .skip)) (.seq (.region [oM 11 1, oM 4 11]) .ret))))⟩
theorem c_laws_szUnique_ok : compFn Tryz.prog [2] 256 = some c_laws_szUnique := by kernel_rfl
def c_laws_szCheck : AFn := ⟨12, [.t 4], (.seq (.region [oP 2 (.box true (.t 0)), oP 4 (.mv (kI 0))]) (.seq (.region [oP 5 (.faddr 0 (.t 2)), oP 6 (.load false 1 (.t 5)), oM 7 1, oC 8 22 [(.t 6), (.t 7)], oM 1 8]) (.seq (.seq (.region [oM 9 1, oP 10 (.bin .lss (.t 9) (kI 0))]) (.cond (.t 10) (.seq (.region [oP 4 (.mv (kI (-1)))]) .ret) .skip)) (.seq (.region [oM 11 1, oM 4 11]) .ret))))⟩
theorem c_laws_szCheck_ok : compFn Tryz.prog [2] 257 = some c_laws_szCheck := by kernel_rfl
def c_laws_szFk : AFn := ⟨19, [.t 4], (.seq (.region [oP 2 (.box true (.t 0)), oP 4 (.mv (kI 0))]) (.seq (.region [oP 5 (.faddr 0 (.t 2)), oP 6 (.load false 1 (.t 5)), oM 7 1, oC 8 154 [(.t 6), (.t 7)], oM 1 8]) (.seq (.seq (.region [oM 9 1, oP 10 (.bin .lss (.t 9) (kI 0))]) (.cond (.t 10) (.seq (.region [oP 4 (.mv (kI (-1)))]) .ret) .skip)) (.seq (.region [oM 11 1, oP 12 (.faddr 1 (.t 2)), oP 13 (.load false 1 (.t 12)), oP 14 (.len true (.t 13)), oP 15 (.bin .sub (.t 11) (.t 14)), oM 1 15]) (.seq (.seq (.region [oM 16 1, oP 17 (.bin .lss (.t 16) (kI 0))]) (.cond (.t 17) (.seq (.region [oP 4 (.mv (kI (-1)))]) .ret) .skip)) (.seq (.region [oM 18 1, oM 4 18]) .ret))))))⟩
theorem c_laws_szFk_ok : compFn Tryz.prog [2] 258 = some c_laws_szFk := by kernel_rfl
def c_spec_TableOk : AFn := ⟨184, [.t 2], (.seq (.region [oP 1 (.box true (.t 0)), oP 2 (.mv (.k (.bool false)))]) (.seq (.region [oP 11 (.faddr 1 (.t 1)), oP 12 (.load false 1 (.t 11)), oP 13 (.len false (.t 12)), oM 3 13]) (.seq (.seq (.region [oP 14 (.faddr 0 (.t 1)), oP 15 (.load false 1 (.t 14)), oC 16 138 [(.t 15)], oP 17 (.un .not (.t 16)), oM 18 17, oF 19 (.mv (.t 3)) 18, ⟨some 20, .call (.f 105) [(.t 19), (kI 1), (kI 8)], (some (18, false))⟩, oF 21 (.un .not (.t 20)) 18, oP 22 (.pick (.t 18) (.k (.bool true)) (.t 21)), oM 23 22, oF 24 (.faddr 2 (.t 1)) 23, oF 25 (.load false 1 (.t 24)) 23, oF 26 (.mv (.t 3)) 23, ⟨some 27, .call (.f 129) [(.t 25), (.t 26)], (some (23, false))⟩, oF 28 (.un .not (.t 27)) 23, oP 29 (.pick (.t 23) (.k (.bool true)) (.t 28)), oM 30 29, oF 31 (.faddr 3 (.t 1)) 30, oF 32 (.load false 1 (.t 31)) 30, oF 33 (.len false (.t 32)) 30, oF 34 (.bin .gtr (.t 33) (kI 3)) 30, oP 35 (.pick (.t 30) (.k (.bool true)) (.t 34)), oM 36 35, oF 37 (.faddr 4 (.t 1)) 36, oF 38 (.load false 1 (.t 37)) 36, oF 39 (.len false (.t 38)) 36, oF 40 (.bin .gtr (.t 39) (kI 3)) 36, oP 41 (.pick (.t 36) (.k (.bool true)) (.t 40)), oM 42 41, oF 43 (.faddr 5 (.t 1)) 42, oF 44 (.load false 1 (.t 43)) 42, oF 45 (.len false (.t 44)) 42, oF 46 (.bin .gtr (.t 45) (kI 3)) 42, oP 47 (.pick (.t 42) (.k (.bool true)) (.t 46))]) (.cond (.t 47) (.seq (.region [oP 2 (.mv (.k (.bool false)))]) .ret) .skip)) (.seq (.seq (.region [oP 4 (.mv (kI 0))]) (.block 0 (.loop (.seq (.seq (.region [oM 48 4, oM 49 3, oP 50 (.bin .lss (.t 48) (.t 49))]) (.cond (.t 50) .skip (.exit 0))) (.seq (.block 1 (.seq (.region [oP 53 (.faddr 1 (.t 1)), oP 54 (.load false 1 (.t 53)), oM 55 4, oP 56 (.iaddr 6 (.t 54) (.t 55)), oP 57 (.load true 6 (.t 56)), oP 5 (.alloc [.str [], .int .i64 0, .bool false, .int .i64 0, .int .i64 0, .str []]), ⟨none, .op (.store 6 (.t 5) (.t 57)), none⟩]) (.seq (.draw [[oP 58 (.faddr 0 (.t 5))], [oP 59 (.load false 1 (.t 58))], [oC 60 138 [(.t 59)]], [oP 61 (.un .not (.t 60))], [oM 62 61], [oF 63 (.faddr 1 (.t 1)) 62, oF 64 (.load false 1 (.t 63)) 62, oF 65 (.mv (.t 4)) 62, oF 66 (.slice 6 (.t 64) none (some (.t 65)) none) 62, oF 67 (.build [.str [], .nils, .nils, .nils, .nils, .nils] [(1, 1, (.t 66))]) 62, oF 68 (.faddr 0 (.t 5)) 62, oF 69 (.load false 1 (.t 68)) 62], [⟨some 70, .call (.f 324) [(.t 67), (.t 69)], (some (62, false))⟩], [oF 71 (.bin .geq (.t 70) (kI 0)) 62], [oP 72 (.pick (.t 62) (.k (.bool true)) (.t 71))], [oM 73 72], [oF 74 (.faddr 1 (.t 5)) 73], [oF 75 (.load false 1 (.t 74)) 73], [⟨some 76, .call (.f 105) [(.t 75), (kI 1), (kI 2)], (some (73, false))⟩], [oF 77 (.un .not (.t 76)) 73], [oP 78 (.pick (.t 73) (.k (.bool true)) (.t 77))], [oM 79 78], [oF 80 (.faddr 3 (.t 5)) 79], [oF 81 (.load true 3 (.t 80)) 79], [⟨some 82, .call (.f 276) [(.t 81)], (some (79, false))⟩], [oF 83 (.un .not (.t 82)) 79], [oP 84 (.pick (.t 79) (.k (.bool true)) (.t 83))], [oM 85 84], [oF 86 (.faddr 3 (.t 5)) 85], [oF 87 (.faddr 0 (.t 86)) 85], [oF 88 (.load false 1 (.t 87)) 85], [oF 89 (.bin .neq (.t 88) (kI 0)) 85], [oF 90 (.mv (.t 89)) 85], [oT 91 (.faddr 3 (.t 5)) 90, oT 92 (.faddr 0 (.t 91)) 90, oT 93 (.load false 1 (.t 92)) 90, oT 94 (.faddr 1 (.t 5)) 90, oT 95 (.load false 1 (.t 94)) 90], [oT 96 (.bin .neq (.t 93) (.t 95)) 90], [oF 97 (.pick (.t 90) (.t 96) (.k (.bool false))) 85], [oP 98 (.pick (.t 85) (.k (.bool true)) (.t 97))]]) (.cond (.t 98) (.seq (.region [oP 2 (.mv (.k (.bool false)))]) .ret) .skip)))) (.region [oM 51 4, oP 52 (.bin .add (.t 51) (kI 1)), oM 4 52])))))) (.seq (.seq (.region [oP 6 (.mv (kI 0))]) (.block 2 (.loop (.seq (.seq (.region [oM 99 6, oP 100 (.faddr 2 (.t 1)), oP 101 (.load false 1 (.t 100)), oP 102 (.len false (.t 101)), oP 103 (.bin .lss (.t 99) (.t 102))]) (.cond (.t 103) .skip (.exit 2))) (.seq (.block 3 (.seq (.draw [[oP 106 (.faddr 1 (.t 1)), oP 107 (.load false 1 (.t 106)), oP 108 (.faddr 2 (.t 1)), oP 109 (.load false 1 (.t 108)), oM 110 6, oP 111 (.iaddr 1 (.t 109) (.t 110)), oP 112 (.load false 1 (.t 111))], [oP 113 (.iaddr 6 (.t 107) (.t 112))], [oP 114 (.faddr 2 (.t 113))], [oP 115 (.load false 1 (.t 114))], [oP 116 (.un .not (.t 115))]]) (.cond (.t 116) (.seq (.region [oP 2 (.mv (.k (.bool false)))]) .ret) .skip))) (.region [oM 104 6, oP 105 (.bin .add (.t 104) (kI 1)), oM 6 105])))))) (.seq (.seq (.region [oP 7 (.mv (kI 0))]) (.block 4 (.loop (.seq (.seq (.region [oM 117 7, oP 118 (.faddr 3 (.t 1)), oP 119 (.load false 1 (.t 118)), oP 120 (.len false (.t 119)), oP 121 (.bin .lss (.t 117) (.t 120))]) (.cond (.t 121) .skip (.exit 4))) (.seq (.block 5 (.seq (.region [oP 124 (.faddr 3 (.t 1)), oP 125 (.load false 1 (.t 124)), oM 126 7, oP 127 (.iaddr 1 (.t 125) (.t 126)), oP 128 (.faddr 0 (.t 127)), oP 129 (.load false 1 (.t 128)), oM 130 3, oC 131 129 [(.t 129), (.t 130)], oP 132 (.un .not (.t 131))]) (.cond (.t 132) (.seq (.region [oP 2 (.mv (.k (.bool false)))]) .ret) .skip))) (.region [oM 122 7, oP 123 (.bin .add (.t 122) (kI 1)), oM 7 123])))))) (.seq (.seq (.region [oP 8 (.mv (kI 0))]) (.block 6 (.loop (.seq (.seq (.region [oM 133 8, oP 134 (.faddr 4 (.t 1)), oP 135 (.load false 1 (.t 134)), oP 136 (.len false (.t 135)), oP 137 (.bin .lss (.t 133) (.t 136))]) (.cond (.t 137) .skip (.exit 6))) (.seq (.block 7 (.seq (.region [oP 140 (.faddr 4 (.t 1)), oP 141 (.load false 1 (.t 140)), oM 142 8, oP 143 (.iaddr 1 (.t 141) (.t 142)), oP 144 (.faddr 0 (.t 143)), oP 145 (.load false 1 (.t 144)), oM 146 3, oC 147 91 [(.t 145), (.t 146)], oP 148 (.un .not (.t 147))]) (.cond (.t 148) (.seq (.region [oP 2 (.mv (.k (.bool false)))]) .ret) .skip))) (.region [oM 138 8, oP 139 (.bin .add (.t 138) (kI 1)), oM 8 139])))))) (.seq (.seq (.region [oP 9 (.mv (kI 0))]) (.block 8 (.loop (.seq (.seq (.region [oM 149 9, oP 150 (.faddr 5 (.t 1)), oP 151 (.load false 1 (.t 150)), oP 152 (.len false (.t 151)), oP 153 (.bin .lss (.t 149) (.t 152))]) (.cond (.t 153) .skip (.exit 8))) (.seq (.block 9 (.seq (.region [oP 156 (.faddr 5 (.t 1)), oP 157 (.load false 1 (.t 156)), oM 158 9, oP 159 (.iaddr 5 (.t 157) (.t 158)), oP 160 (.load true 5 (.t 159)), oP 10 (.alloc [.nils, .str [], .int .i64 0, .int .i64 0, .bool false]), ⟨none, .op (.store 5 (.t 10) (.t 160)), none⟩]) (.seq (.region [oP 161 (.faddr 0 (.t 10)), oP 162 (.load false 1 (.t 161)), oM 163 3, oC 164 129 [(.t 162), (.t 163)], oP 165 (.un .not (.t 164)), oM 166 165, oF 167 (.faddr 1 (.t 10)) 166, oF 168 (.load false 1 (.t 167)) 166, ⟨some 169, .call (.f 138) [(.t 168)], (some (166, false))⟩, oF 170 (.un .not (.t 169)) 166, oP 171 (.pick (.t 166) (.k (.bool true)) (.t 170)), oM 172 171, oF 173 (.faddr 2 (.t 10)) 172, oF 174 (.load false 1 (.t 173)) 172, ⟨some 175, .call (.f 105) [(.t 174), (kI 0), (kI 2)], (some (172, false))⟩, oF 176 (.un .not (.t 175)) 172, oP 177 (.pick (.t 172) (.k (.bool true)) (.t 176)), oM 178 177, oF 179 (.faddr 3 (.t 10)) 178, oF 180 (.load false 1 (.t 179)) 178, ⟨some 181, .call (.f 105) [(.t 180), (kI 0), (kI 2)], (some (178, false))⟩, oF 182 (.un .not (.t 181)) 178, oP 183 (.pick (.t 178) (.k (.bool true)) (.t 182))]) (.cond (.t 183) (.seq (.region [oP 2 (.mv (.k (.bool false)))]) .ret) .skip)))) (.region [oM 154 9, oP 155 (.bin .add (.t 154) (kI 1)), oM 9 155])))))) (.seq (.region [oP 2 (.mv (.k (.bool true)))]) .ret)))))))))⟩
theorem c_spec_TableOk_ok : compFn Tryz.prog [1] 259 = some c_spec_TableOk := by kernel_rfl
def c_laws_toCol : AFn := ⟨18, [.m 2 true 6], (.seq (.region [oP 1 (.box true (.t 0)), oP 2 (.alloc [.str [], .int .i64 0, .bool false, .int .i64 0, .int .i64 0, .str []])]) (.seq (.region [oP 3 (.alloc [.str [], .int .i64 0, .bool false, .int .i64 0, .int .i64 0, .str []])]) (.seq (.region [oP 4 (.faddr 0 (.t 1)), oP 5 (.load false 1 (.t 4)), oP 6 (.faddr 0 (.t 3)), ⟨none, .op (.store 1 (.t 6) (.t 5)), none⟩]) (.seq (.region [oP 7 (.faddr 1 (.t 1)), oP 8 (.load false 1 (.t 7)), oP 9 (.faddr 1 (.t 3)), ⟨none, .op (.store 1 (.t 9) (.t 8)), none⟩]) (.seq (.region [oP 10 (.faddr 2 (.t 1)), oP 11 (.load false 1 (.t 10)), oP 12 (.faddr 2 (.t 3)), ⟨none, .op (.store 1 (.t 12) (.t 11)), none⟩]) (.seq (.region [oP 13 (.faddr 3 (.t 1)), oP 14 (.load true 3 (.t 13)), oC 15 109 [(.t 14)], oP 16 (.faddr 3 (.t 3)), ⟨none, .op (.store 3 (.t 16) (.t 15)), none⟩]) (.seq (.region [oP 17 (.load true 6 (.t 3)), ⟨none, .op (.store 6 (.t 2) (.t 17)), none⟩]) .ret)))))))⟩
theorem c_laws_toCol_ok : compFn Tryz.prog [1] 260 = some c_laws_toCol := by kernel_rfl
def c_laws_toUnique : AFn := ⟨9, [.m 2 true 1], (.seq (.region [oP 1 (.box true (.t 0)), oP 2 (.alloc [.nils])]) (.seq (.region [oP 3 (.alloc [.nils])]) (.seq (.region [oP 4 (.faddr 0 (.t 1)), oP 5 (.load false 1 (.t 4)), oC 6 51 [(.t 5)], oP 7 (.faddr 0 (.t 3)), ⟨none, .op (.store 1 (.t 7) (.t 6)), none⟩]) (.seq (.region [oP 8 (.load true 1 (.t 3)), ⟨none, .op (.store 1 (.t 2) (.t 8)), none⟩]) .ret))))⟩
theorem c_laws_toUnique_ok : compFn Tryz.prog [1] 261 = some c_laws_toUnique := by kernel_rfl
def c_laws_toCheck : AFn := ⟨9, [.m 2 true 1], (.seq (.region [oP 1 (.box true (.t 0)), oP 2 (.alloc [.nils])]) (.seq (.region [oP 3 (.alloc [.nils])]) (.seq (.region [oP 4 (.faddr 0 (.t 1)), oP 5 (.load false 1 (.t 4)), oC 6 25 [(.t 5)], oP 7 (.faddr 0 (.t 3)), ⟨none, .op (.store 1 (.t 7) (.t 6)), none⟩]) (.seq (.region [oP 8 (.load true 1 (.t 3)), ⟨none, .op (.store 1 (.t 2) (.t 8)), none⟩]) .ret))))⟩
theorem c_laws_toCheck_ok : compFn Tryz.prog [1] 262 = some c_laws_toCheck := by kernel_rfl
def c_laws_toFk : AFn := ⟨21, [.m 2 true 5], (.seq (.region [oP 1 (.box true (.t 0)), oP 2 (.alloc [.nils, .str [], .int .i64 0, .int .i64 0, .bool false])]) (.seq (.region [oP 3 (.alloc [.nils, .str [], .int .i64 0, .int .i64 0, .bool false])]) (.seq (.region [oP 4 (.faddr 0 (.t 1)), oP 5 (.load false 1 (.t 4)), oC 6 51 [(.t 5)], oP 7 (.faddr 0 (.t 3)), ⟨none, .op (.store 1 (.t 7) (.t 6)), none⟩]) (.seq (.region [oP 8 (.faddr 1 (.t 1)), oP 9 (.load false 1 (.t 8)), oP 10 (.faddr 1 (.t 3)), ⟨none, .op (.store 1 (.t 10) (.t 9)), none⟩]) (.seq (.region [oP 11 (.faddr 2 (.t 1)), oP 12 (.load false 1 (.t 11)), oP 13 (.faddr 2 (.t 3)), ⟨none, .op (.store 1 (.t 13) (.t 12)), none⟩]) (.seq (.region [oP 14 (.faddr 3 (.t 1)), oP 15 (.load false 1 (.t 14)), oP 16 (.faddr 3 (.t 3)), ⟨none, .op (.store 1 (.t 16) (.t 15)), none⟩]) (.seq (.region [oP 17 (.faddr 4 (.t 1)), oP 18 (.load false 1 (.t 17)), oP 19 (.faddr 4 (.t 3)), ⟨none, .op (.store 1 (.t 19) (.t 18)), none⟩]) (.seq (.region [oP 20 (.load true 5 (.t 3)), ⟨none, .op (.store 5 (.t 2) (.t 20)), none⟩]) .ret))))))))⟩
theorem c_laws_toFk_ok : compFn Tryz.prog [1] 263 = some c_laws_toFk := by kernel_rfl
def c_impl_TableOk : AFn := ⟨68, [.t 2], (.seq (.region [oP 1 (.box true (.t 0)), oP 2 (.mv (.k (.bool false)))]) (.seq (.region [oP 4 (.faddr 1 (.t 1)), oP 5 (.load false 1 (.t 4)), oP 6 (.len false (.t 5)), oP 3 (.alloc [.int .i64 0]), ⟨none, .op (.store 1 (.t 3) (.t 6)), none⟩]) (.seq (.seq (.region [oP 7 (.faddr 0 (.t 1)), oP 8 (.load false 1 (.t 7)), oC 9 144 [(.t 8)], oP 10 (.un .not (.t 9)), oM 11 10, oF 12 (.faddr 1 (.t 1)) 11, oF 13 (.load false 1 (.t 12)) 11, ⟨some 14, .call (.f 325) [(.t 13)], (some (11, false))⟩, oF 15 (.un .not (.t 14)) 11, oP 16 (.pick (.t 11) (.k (.bool true)) (.t 15)), oM 17 16, oF 18 (.faddr 2 (.t 1)) 17, oF 19 (.load false 1 (.t 18)) 17, oF 20 (.load false 1 (.t 3)) 17, ⟨some 21, .call (.f 223) [(.t 19), (.t 20)], (some (17, false))⟩, oF 22 (.un .not (.t 21)) 17, oP 23 (.pick (.t 17) (.k (.bool true)) (.t 22)), oM 24 23, oF 25 (.faddr 3 (.t 1)) 24, oF 26 (.load false 1 (.t 25)) 24, oF 27 (.len false (.t 26)) 24, oF 28 (.bin .gtr (.t 27) (kI 3)) 24, oP 29 (.pick (.t 24) (.k (.bool true)) (.t 28)), oM 30 29, oF 31 (.faddr 4 (.t 1)) 30, oF 32 (.load false 1 (.t 31)) 30, oF 33 (.len false (.t 32)) 30, oF 34 (.bin .gtr (.t 33) (kI 3)) 30, oP 35 (.pick (.t 30) (.k (.bool true)) (.t 34)), oM 36 35, oF 37 (.faddr 5 (.t 1)) 36, oF 38 (.load false 1 (.t 37)) 36, oF 39 (.len false (.t 38)) 36, oF 40 (.bin .gtr (.t 39) (kI 3)) 36, oP 41 (.pick (.t 36) (.k (.bool true)) (.t 40))]) (.cond (.t 41) (.seq (.region [oP 2 (.mv (.k (.bool false)))]) .ret) .skip)) (.seq (.region [oP 42 (.faddr 2 (.t 1)), oP 43 (.load false 1 (.t 42)), oP 44 (.mkfn 327 [] [(.t 1)]), oC 45 326 [(.t 43), (.t 44)], oP 46 (.un .not (.t 45)), oM 47 46, oT 48 (.faddr 3 (.t 1)) 47, oT 49 (.load false 1 (.t 48)) 47, oT 50 (.mkfn 329 [] [(.t 3)]) 47, ⟨some 51, .call (.f 328) [(.t 49), (.t 50)], (some (47, true))⟩, oT 52 (.un .not (.t 51)) 47, oP 53 (.pick (.t 47) (.t 52) (.k (.bool false))), oM 54 53, oT 55 (.faddr 4 (.t 1)) 54, oT 56 (.load false 1 (.t 55)) 54, oT 57 (.mkfn 331 [] [(.t 3)]) 54, ⟨some 58, .call (.f 330) [(.t 56), (.t 57)], (some (54, true))⟩, oT 59 (.un .not (.t 58)) 54, oP 60 (.pick (.t 54) (.t 59) (.k (.bool false))), oM 61 60, oT 62 (.faddr 5 (.t 1)) 61, oT 63 (.load false 1 (.t 62)) 61, oT 64 (.mkfn 332 [] [(.t 3)]) 61, ⟨some 65, .call (.f 267) [(.t 63), (.t 64)], (some (61, true))⟩, oT 66 (.un .not (.t 65)) 61, oP 67 (.pick (.t 61) (.t 66) (.k (.bool false))), oM 2 67]) .ret))))⟩
theorem c_impl_TableOk_ok : compFn Tryz.prog [1] 264 = some c_impl_TableOk := by kernel_rfl
def c_slices_ContainsFunc_Table : AFn := ⟨9, [.t 4], (.seq (.region [oP 4 (.mv (.k (.bool false)))]) (.seq (.region [oM 5 0, oM 6 1, oC 7 246 [(.t 5), (.t 6)], oP 8 (.bin .geq (.t 7) (kI 0)), oM 4 8]) .ret))⟩
theorem c_slices_ContainsFunc_Table_ok : compFn Tryz.prog [] 265 = some c_slices_ContainsFunc_Table := by kernel_rfl
def c_impl_SchemaOk_1 : AFn := ⟨8, [.t 3], (.seq (.region [oP 2 (.box true (.t 0)), oP 3 (.mv (.k (.bool false)))]) (.seq (.region [oP 4 (.faddr 5 (.t 2)), oP 5 (.load false 1 (.t 4)), oP 6 (.mkfn 268 [] [(.t 1), (.t 2)]), oC 7 267 [(.t 5), (.t 6)], oM 3 7]) .ret))⟩
theorem c_impl_SchemaOk_1_ok : compFn Tryz.prog [2] 266 = some c_impl_SchemaOk_1 := by kernel_rfl
def c_slices_ContainsFunc_Fk : AFn := ⟨9, [.t 4], (.seq (.region [oP 4 (.mv (.k (.bool false)))]) (.seq (.region [oM 5 0, oM 6 1, oC 7 334 [(.t 5), (.t 6)], oP 8 (.bin .geq (.t 7) (kI 0)), oM 4 8]) .ret))⟩
theorem c_slices_ContainsFunc_Fk_ok : compFn Tryz.prog [] 267 = some c_slices_ContainsFunc_Fk := by kernel_rfl
def c_impl_SchemaOk_1_1 : AFn := ⟨10, [.t 4], (.seq (.region [oP 3 (.box true (.t 0)), oP 4 (.mv (.k (.bool false)))]) (.seq (.region [oP 5 (.load false 1 (.t 1)), oP 6 (.load true 6 (.t 2)), oP 7 (.load true 5 (.t 3)), oC 8 269 [(.t 5), (.t 6), (.t 7)], oP 9 (.un .not (.t 8)), oM 4 9]) .ret))⟩
theorem c_impl_SchemaOk_1_1_ok : compFn Tryz.prog [3] 268 = some c_impl_SchemaOk_1_1 := by kernel_rfl
def c_impl_isMet : AFn := ⟨60, [.t 6], (.seq (.region [oP 4 (.box true (.t 1)), oP 5 (.box true (.t 2)), oP 6 (.mv (.k (.bool false)))]) (.seq (.region [oM 10 0, oP 11 (.faddr 1 (.t 5)), oP 12 (.load false 1 (.t 11)), oC 13 163 [(.t 10), (.t 12)], oM 7 13]) (.seq (.seq (.draw [[oM 14 7], [oP 15 (.bin .lss (.t 14) (kI 0))], [oM 16 15], [oF 17 (.mv (.t 0)) 16, oF 18 (.mv (.t 7)) 16, oF 19 (.iaddr 6 (.t 17) (.t 18)) 16, oF 20 (.faddr 2 (.t 19)) 16, oF 21 (.load false 1 (.t 20)) 16, oF 22 (.len false (.t 21)) 16, oF 23 (.faddr 0 (.t 5)) 16, oF 24 (.load false 1 (.t 23)) 16, oF 25 (.len false (.t 24)) 16], [oF 26 (.bin .neq (.t 22) (.t 25)) 16], [oP 27 (.pick (.t 16) (.k (.bool true)) (.t 26))]]) (.cond (.t 27) (.seq (.region [oP 6 (.mv (.k (.bool false)))]) .ret) .skip)) (.seq (.seq (.region [oP 28 (.faddr 0 (.t 5)), oP 29 (.load false 1 (.t 28)), oP 30 (.len false (.t 29)), oP 31 (.mv (kI 0))]) (.block 0 (.loop (.seq (.region [oP 32 (.bin .lss (.t 31) (.t 30))]) (.seq (.cond (.t 32) .skip (.exit 0)) (.seq (.block 1 (.seq (.region [oM 33 31, oP 34 (.iaddr 1 (.t 29) (.t 31)), oP 35 (.load false 1 (.t 34)), oM 8 33, oM 9 35]) (.seq (.draw [[oM 36 0, oM 37 7, oP 38 (.iaddr 6 (.t 36) (.t 37)), oP 39 (.faddr 1 (.t 38)), oP 40 (.load false 1 (.t 39)), oM 41 0, oM 42 7, oP 43 (.iaddr 6 (.t 41) (.t 42)), oP 44 (.faddr 2 (.t 43)), oP 45 (.load false 1 (.t 44)), oM 46 8, oP 47 (.iaddr 1 (.t 45) (.t 46)), oP 48 (.load false 1 (.t 47)), oP 49 (.iaddr 6 (.t 40) (.t 48)), oP 50 (.faddr 1 (.t 49)), oP 51 (.load false 1 (.t 50)), oP 52 (.faddr 1 (.t 4)), oP 53 (.load false 1 (.t 52)), oM 54 9, oP 55 (.iaddr 6 (.t 53) (.t 54)), oP 56 (.faddr 1 (.t 55)), oP 57 (.load false 1 (.t 56))], [oP 58 (.bin .neq (.t 51) (.t 57))]]) (.cond (.t 58) (.seq (.region [oP 6 (.mv (.k (.bool false)))]) .ret) .skip)))) (.region [oP 59 (.bin .add (.t 31) (kI 1)), oM 31 59]))))))) (.seq (.region [oP 6 (.mv (.k (.bool true)))]) .ret)))))⟩
theorem c_impl_isMet_ok : compFn Tryz.prog [4, 5] 269 = some c_impl_isMet := by kernel_rfl
def c_laws_eqCol : AFn := ⟨26, [.t 4], (.seq (.region [oP 2 (.box true (.t 0)), oP 3 (.box true (.t 1)), oP 4 (.mv (.k (.bool false)))]) (.seq (.seq (.region [oP 5 (.faddr 0 (.t 2)), oP 6 (.load false 1 (.t 5)), oP 7 (.faddr 0 (.t 3)), oP 8 (.load false 1 (.t 7)), oP 9 (.bin .neq (.t 6) (.t 8))]) (.cond (.t 9) (.seq (.region [oP 4 (.mv (.k (.bool false)))]) .ret) .skip)) (.seq (.seq (.region [oP 10 (.faddr 1 (.t 2)), oP 11 (.load false 1 (.t 10)), oP 12 (.faddr 1 (.t 3)), oP 13 (.load false 1 (.t 12)), oP 14 (.bin .neq (.t 11) (.t 13))]) (.cond (.t 14) (.seq (.region [oP 4 (.mv (.k (.bool false)))]) .ret) .skip)) (.seq (.seq (.region [oP 15 (.faddr 2 (.t 2)), oP 16 (.load false 1 (.t 15)), oP 17 (.faddr 2 (.t 3)), oP 18 (.load false 1 (.t 17)), oP 19 (.eq true false [.b] (.t 16) (.t 18))]) (.cond (.t 19) (.seq (.region [oP 4 (.mv (.k (.bool false)))]) .ret) .skip)) (.seq (.seq (.region [oP 20 (.faddr 3 (.t 2)), oP 21 (.load true 3 (.t 20)), oP 22 (.faddr 3 (.t 3)), oP 23 (.load true 3 (.t 22)), oC 24 114 [(.t 21), (.t 23)], oP 25 (.un .not (.t 24))]) (.cond (.t 25) (.seq (.region [oP 4 (.mv (.k (.bool false)))]) .ret) .skip)) (.seq (.region [oP 4 (.mv (.k (.bool true)))]) .ret))))))⟩
theorem c_laws_eqCol_ok : compFn Tryz.prog [2, 3] 270 = some c_laws_eqCol := by kernel_rfl
def c_laws_eqUnique : AFn := ⟨11, [.t 4], (.seq (.region [oP 2 (.box true (.t 0)), oP 3 (.box true (.t 1)), oP 4 (.mv (.k (.bool false)))]) (.seq (.seq (.region [oP 5 (.faddr 0 (.t 2)), oP 6 (.load false 1 (.t 5)), oP 7 (.faddr 0 (.t 3)), oP 8 (.load false 1 (.t 7)), oC 9 27 [(.t 6), (.t 8)], oP 10 (.un .not (.t 9))]) (.cond (.t 10) (.seq (.region [oP 4 (.mv (.k (.bool false)))]) .ret) .skip)) (.seq (.region [oP 4 (.mv (.k (.bool true)))]) .ret)))⟩
theorem c_laws_eqUnique_ok : compFn Tryz.prog [2, 3] 271 = some c_laws_eqUnique := by kernel_rfl
def c_laws_eqCheck : AFn := ⟨11, [.t 4], (.seq (.region [oP 2 (.box true (.t 0)), oP 3 (.box true (.t 1)), oP 4 (.mv (.k (.bool false)))]) (.seq (.seq (.region [oP 5 (.faddr 0 (.t 2)), oP 6 (.load false 1 (.t 5)), oP 7 (.faddr 0 (.t 3)), oP 8 (.load false 1 (.t 7)), oC 9 29 [(.t 6), (.t 8)], oP 10 (.un .not (.t 9))]) (.cond (.t 10) (.seq (.region [oP 4 (.mv (.k (.bool false)))]) .ret) .skip)) (.seq (.region [oP 4 (.mv (.k (.bool true)))]) .ret)))⟩
theorem c_laws_eqCheck_ok : compFn Tryz.prog [2, 3] 272 = some c_laws_eqCheck := by kernel_rfl
def c_laws_eqFk : AFn := ⟨31, [.t 4], (.seq (.region [oP 2 (.box true (.t 0)), oP 3 (.box true (.t 1)), oP 4 (.mv (.k (.bool false)))]) (.seq (.seq (.region [oP 5 (.faddr 0 (.t 2)), oP 6 (.load false 1 (.t 5)), oP 7 (.faddr 0 (.t 3)), oP 8 (.load false 1 (.t 7)), oC 9 27 [(.t 6), (.t 8)], oP 10 (.un .not (.t 9))]) (.cond (.t 10) (.seq (.region [oP 4 (.mv (.k (.bool false)))]) .ret) .skip)) (.seq (.seq (.region [oP 11 (.faddr 1 (.t 2)), oP 12 (.load false 1 (.t 11)), oP 13 (.faddr 1 (.t 3)), oP 14 (.load false 1 (.t 13)), oP 15 (.bin .neq (.t 12) (.t 14))]) (.cond (.t 15) (.seq (.region [oP 4 (.mv (.k (.bool false)))]) .ret) .skip)) (.seq (.seq (.region [oP 16 (.faddr 2 (.t 2)), oP 17 (.load false 1 (.t 16)), oP 18 (.faddr 2 (.t 3)), oP 19 (.load false 1 (.t 18)), oP 20 (.bin .neq (.t 17) (.t 19))]) (.cond (.t 20) (.seq (.region [oP 4 (.mv (.k (.bool false)))]) .ret) .skip)) (.seq (.seq (.region [oP 21 (.faddr 3 (.t 2)), oP 22 (.load false 1 (.t 21)), oP 23 (.faddr 3 (.t 3)), oP 24 (.load false 1 (.t 23)), oP 25 (.bin .neq (.t 22) (.t 24))]) (.cond (.t 25) (.seq (.region [oP 4 (.mv (.k (.bool false)))]) .ret) .skip)) (.seq (.seq (.region [oP 26 (.faddr 4 (.t 2)), oP 27 (.load false 1 (.t 26)), oP 28 (.faddr 4 (.t 3)), oP 29 (.load false 1 (.t 28)), oP 30 (.eq true false [.b] (.t 27) (.t 29))]) (.cond (.t 30) (.seq (.region [oP 4 (.mv (.k (.bool false)))]) .ret) .skip)) (.seq (.region [oP 4 (.mv (.k (.bool true)))]) .ret)))))))⟩
theorem c_laws_eqFk_ok : compFn Tryz.prog [2, 3] 273 = some c_laws_eqFk := by kernel_rfl
def c_laws_szRow : AFn := ⟨12, [.t 4], (.seq (.region [oP 2 (.box true (.t 0)), oP 4 (.mv (kI 0))]) (.seq (.region [oP 5 (.faddr 1 (.t 2)), oP 6 (.load false 1 (.t 5)), oM 7 1, oC 8 35 [(.t 6), (.t 7)], oM 1 8]) (.seq (.seq (.region [oM 9 1, oP 10 (.bin .lss (.t 9) (kI 0))]) (.cond (.t 10) (.seq (.region [oP 4 (.mv (kI (-1)))]) .ret) .skip)) (.seq (.region [oM 11 1, oM 4 11]) .ret))))⟩
theorem c_laws_szRow_ok : compFn Tryz.prog [2] 275 = some c_laws_szRow := by kernel_rfl
def c_spec_ValOk : AFn := ⟨31, [.t 2], (.seq (.region [oP 1 (.box true (.t 0)), oP 2 (.mv (.k (.bool false)))]) (.seq (.seq (.region [oP 3 (.faddr 0 (.t 1)), oP 4 (.load false 1 (.t 3))]) (.block 0 (.seq (.region [oP 6 (.bin .eql (.t 4) (kI 0)), oM 5 6]) (.cond (.t 5) (.seq (.region [oP 7 (.load true 3 (.t 1)), oP 8 (.build [.int .i64 0, .int .i64 0, .str []] []), oP 9 (.eq false true [.i, .i, .s] (.t 7) (.t 8)), oM 2 9]) .ret) (.seq (.region [oP 11 (.bin .eql (.t 4) (kI 1)), oM 10 11]) (.cond (.t 10) (.seq (.region [oP 12 (.faddr 1 (.t 1)), oP 13 (.load false 1 (.t 12)), oC 14 105 [(.t 13), (kI (-1000000000)), (kI 1000000000)], oM 15 14, oT 16 (.faddr 2 (.t 1)) 15, oT 17 (.load false 1 (.t 16)) 15, oT 18 (.bin .eql (.t 17) (.k (.str []))) 15, oP 19 (.pick (.t 15) (.t 18) (.k (.bool false))), oM 2 19]) .ret) (.seq (.region [oP 21 (.bin .eql (.t 4) (kI 2)), oM 20 21]) (.cond (.t 20) (.seq (.region [oP 22 (.faddr 1 (.t 1)), oP 23 (.load false 1 (.t 22)), oP 24 (.bin .eql (.t 23) (kI 0)), oM 25 24, oT 26 (.faddr 2 (.t 1)) 25, oT 27 (.load false 1 (.t 26)) 25, oT 28 (.len true (.t 27)) 25, oT 29 (.bin .leq (.t 28) (kI 12)) 25, oP 30 (.pick (.t 25) (.t 29) (.k (.bool false))), oM 2 30]) .ret) .skip)))))))) (.seq (.region [oP 2 (.mv (.k (.bool false)))]) .ret)))⟩
theorem c_spec_ValOk_ok : compFn Tryz.prog [1] 276 = some c_spec_ValOk := by kernel_rfl
def c_laws_toRow : AFn := ⟨12, [.m 2 true 2], (.seq (.region [oP 1 (.box true (.t 0)), oP 2 (.alloc [.int .i64 0, .nils])]) (.seq (.region [oP 3 (.alloc [.int .i64 0, .nils])]) (.seq (.region [oP 4 (.faddr 0 (.t 1)), oP 5 (.load false 1 (.t 4)), oP 6 (.faddr 0 (.t 3)), ⟨none, .op (.store 1 (.t 6) (.t 5)), none⟩]) (.seq (.region [oP 7 (.faddr 1 (.t 1)), oP 8 (.load false 1 (.t 7)), oC 9 38 [(.t 8)], oP 10 (.faddr 1 (.t 3)), ⟨none, .op (.store 1 (.t 10) (.t 9)), none⟩]) (.seq (.region [oP 11 (.load true 2 (.t 3)), ⟨none, .op (.store 2 (.t 2) (.t 11)), none⟩]) .ret)))))⟩
theorem c_laws_toRow_ok : compFn Tryz.prog [1] 277 = some c_laws_toRow := by kernel_rfl
def c_laws_eqRow : AFn := ⟨16, [.t 4], (.seq (.region [oP 2 (.box true (.t 0)), oP 3 (.box true (.t 1)), oP 4 (.mv (.k (.bool false)))]) (.seq (.seq (.region [oP 5 (.faddr 0 (.t 2)), oP 6 (.load false 1 (.t 5)), oP 7 (.faddr 0 (.t 3)), oP 8 (.load false 1 (.t 7)), oP 9 (.bin .neq (.t 6) (.t 8))]) (.cond (.t 9) (.seq (.region [oP 4 (.mv (.k (.bool false)))]) .ret) .skip)) (.seq (.seq (.region [oP 10 (.faddr 1 (.t 2)), oP 11 (.load false 1 (.t 10)), oP 12 (.faddr 1 (.t 3)), oP 13 (.load false 1 (.t 12)), oC 14 41 [(.t 11), (.t 13)], oP 15 (.un .not (.t 14))]) (.cond (.t 15) (.seq (.region [oP 4 (.mv (.k (.bool false)))]) .ret) .skip)) (.seq (.region [oP 4 (.mv (.k (.bool true)))]) .ret))))⟩
theorem c_laws_eqRow_ok : compFn Tryz.prog [2, 3] 278 = some c_laws_eqRow := by kernel_rfl
def c_impl_ValOk : AFn := ⟨31, [.t 2], (.seq (.region [oP 1 (.box true (.t 0)), oP 2 (.mv (.k (.bool false)))]) (.seq (.seq (.region [oP 3 (.faddr 0 (.t 1)), oP 4 (.load false 1 (.t 3))]) (.block 0 (.seq (.region [oP 6 (.bin .eql (.t 4) (kI 0)), oM 5 6]) (.cond (.t 5) (.seq (.region [oP 7 (.load true 3 (.t 1)), oP 8 (.build [.int .i64 0, .int .i64 0, .str []] []), oP 9 (.eq false true [.i, .i, .s] (.t 7) (.t 8)), oM 2 9]) .ret) (.seq (.region [oP 11 (.bin .eql (.t 4) (kI 1)), oM 10 11]) (.cond (.t 10) (.seq (.region [oP 12 (.faddr 1 (.t 1)), oP 13 (.load false 1 (.t 12)), oC 14 148 [(.t 13), (kI (-1000000000)), (kI 1000000000)], oM 15 14, oT 16 (.faddr 2 (.t 1)) 15, oT 17 (.load false 1 (.t 16)) 15, oT 18 (.bin .eql (.t 17) (.k (.str []))) 15, oP 19 (.pick (.t 15) (.t 18) (.k (.bool false))), oM 2 19]) .ret) (.seq (.region [oP 21 (.bin .eql (.t 4) (kI 2)), oM 20 21]) (.cond (.t 20) (.seq (.region [oP 22 (.faddr 1 (.t 1)), oP 23 (.load false 1 (.t 22)), oP 24 (.bin .eql (.t 23) (kI 0)), oM 25 24, oT 26 (.faddr 2 (.t 1)) 25, oT 27 (.load false 1 (.t 26)) 25, oT 28 (.len true (.t 27)) 25, oT 29 (.bin .leq (.t 28) (kI 12)) 25, oP 30 (.pick (.t 25) (.t 29) (.k (.bool false))), oM 2 30]) .ret) .skip)))))))) (.seq (.region [oP 2 (.mv (.k (.bool false)))]) .ret)))⟩
theorem c_impl_ValOk_ok : compFn Tryz.prog [1] 280 = some c_impl_ValOk := by kernel_rfl
def c_impl_truthOf : AFn := ⟨4, [.t 2], (.seq (.region [oP 2 (.mv (kI 0))]) (.seq (.seq (.region [oM 3 0]) (.cond (.t 3) (.seq (.region [oP 2 (.mv (kI 1))]) .ret) .skip)) (.seq (.region [oP 2 (.mv (kI 0))]) .ret)))⟩
theorem c_impl_truthOf_ok : compFn Tryz.prog [] 281 = some c_impl_truthOf := by kernel_rfl
def c_spec_l4Nulls : AFn := ⟨26, [.t 4], (.seq (.region [oP 2 (.box true (.t 0)), oP 4 (.mv (.k (.bool false)))]) (.seq (.seq (.region [oP 5 (.mv (kI 0))]) (.block 0 (.loop (.seq (.seq (.region [oM 6 5, oM 7 1, oP 8 (.len false (.t 7)), oP 9 (.bin .lss (.t 6) (.t 8))]) (.cond (.t 9) .skip (.exit 0))) (.seq (.block 1 (.seq (.region [oP 12 (.faddr 1 (.t 2)), oP 13 (.load false 1 (.t 12)), oM 14 5, oP 15 (.iaddr 6 (.t 13) (.t 14)), oP 16 (.faddr 2 (.t 15)), oP 17 (.load false 1 (.t 16)), oM 18 17, oT 19 (.mv (.t 1)) 18, oT 20 (.mv (.t 5)) 18, oT 21 (.iaddr 3 (.t 19) (.t 20)) 18, oT 22 (.faddr 0 (.t 21)) 18, oT 23 (.load false 1 (.t 22)) 18, oT 24 (.bin .eql (.t 23) (kI 0)) 18, oP 25 (.pick (.t 18) (.t 24) (.k (.bool false)))]) (.cond (.t 25) (.seq (.region [oP 4 (.mv (.k (.bool false)))]) .ret) .skip))) (.region [oM 10 5, oP 11 (.bin .add (.t 10) (kI 1)), oM 5 11])))))) (.seq (.region [oP 4 (.mv (.k (.bool true)))]) .ret)))⟩
theorem c_spec_l4Nulls_ok : compFn Tryz.prog [2] 293 = some c_spec_l4Nulls := by kernel_rfl
def c_spec_l4Checks : AFn := ⟨28, [.t 4], (.seq (.region [oP 2 (.box true (.t 0)), oP 4 (.mv (.k (.bool false)))]) (.seq (.seq (.region [oP 5 (.mv (kI 0))]) (.block 0 (.loop (.seq (.seq (.region [oM 7 5, oP 8 (.faddr 4 (.t 2)), oP 9 (.load false 1 (.t 8)), oP 10 (.len false (.t 9)), oP 11 (.bin .lss (.t 7) (.t 10))]) (.cond (.t 11) .skip (.exit 0))) (.seq (.block 1 (.seq (.region [oP 14 (.faddr 4 (.t 2)), oP 15 (.load false 1 (.t 14)), oM 16 5, oP 17 (.iaddr 1 (.t 15) (.t 16)), oP 18 (.faddr 0 (.t 17)), oP 19 (.load false 1 (.t 18)), oM 20 1, oC 21 117 [(.t 19), (.t 20)], oM 6 21]) (.seq (.region [oM 22 6, oP 23 (.bin .eql (.t 22) (kI 0)), oM 24 23, oF 25 (.mv (.t 6)) 24, oF 26 (.bin .lss (.t 25) (kI 0)) 24, oP 27 (.pick (.t 24) (.k (.bool true)) (.t 26))]) (.cond (.t 27) (.seq (.region [oP 4 (.mv (.k (.bool false)))]) .ret) .skip)))) (.region [oM 12 5, oP 13 (.bin .add (.t 12) (kI 1)), oM 5 13])))))) (.seq (.region [oP 4 (.mv (.k (.bool true)))]) .ret)))⟩
theorem c_spec_l4Checks_ok : compFn Tryz.prog [2] 294 = some c_spec_l4Checks := by kernel_rfl
def c_spec_l5Unique : AFn := ⟨29, [.t 6], (.seq (.region [oP 3 (.box true (.t 0)), oP 4 (.box true (.t 1)), oP 5 (.box true (.t 2)), oP 6 (.mv (.k (.bool false)))]) (.seq (.seq (.region [oP 8 (.load true 1 (.t 4)), oP 9 (.faddr 2 (.t 3)), oP 10 (.load false 1 (.t 9)), oP 11 (.load true 2 (.t 5)), oC 12 340 [(.t 8), (.t 10), (.t 11)]]) (.cond (.t 12) (.seq (.region [oP 6 (.mv (.k (.bool false)))]) .ret) .skip)) (.seq (.seq (.region [oP 7 (.mv (kI 0))]) (.block 0 (.loop (.seq (.seq (.region [oM 13 7, oP 14 (.faddr 3 (.t 3)), oP 15 (.load false 1 (.t 14)), oP 16 (.len false (.t 15)), oP 17 (.bin .lss (.t 13) (.t 16))]) (.cond (.t 17) .skip (.exit 0))) (.seq (.block 1 (.seq (.draw [[oP 20 (.load true 1 (.t 4)), oP 21 (.faddr 3 (.t 3)), oP 22 (.load false 1 (.t 21)), oM 23 7, oP 24 (.iaddr 1 (.t 22) (.t 23)), oP 25 (.faddr 0 (.t 24)), oP 26 (.load false 1 (.t 25)), oP 27 (.load true 2 (.t 5))], [oC 28 340 [(.t 20), (.t 26), (.t 27)]]]) (.cond (.t 28) (.seq (.region [oP 6 (.mv (.k (.bool false)))]) .ret) .skip))) (.region [oM 18 7, oP 19 (.bin .add (.t 18) (kI 1)), oM 7 19])))))) (.seq (.region [oP 6 (.mv (.k (.bool true)))]) .ret))))⟩
theorem c_spec_l5Unique_ok : compFn Tryz.prog [3, 4, 5] 295 = some c_spec_l5Unique := by kernel_rfl
def c_spec_l5Refers : AFn := ⟨45, [.t 10], (.seq (.region [oP 10 (.mv (.k (.bool false)))]) (.seq (.seq (.region [oP 11 (.mv (kI 0))]) (.block 0 (.loop (.seq (.seq (.region [oM 13 11, oM 14 0, oM 15 2, oP 16 (.iaddr 6 (.t 14) (.t 15)), oP 17 (.faddr 5 (.t 16)), oP 18 (.load false 1 (.t 17)), oP 19 (.len false (.t 18)), oP 20 (.bin .lss (.t 13) (.t 19))]) (.cond (.t 20) .skip (.exit 0))) (.seq (.block 1 (.seq (.region [oM 23 0, oM 24 2, oP 25 (.iaddr 6 (.t 23) (.t 24)), oP 26 (.faddr 5 (.t 25)), oP 27 (.load false 1 (.t 26)), oM 28 11, oP 29 (.iaddr 5 (.t 27) (.t 28)), oP 30 (.load true 5 (.t 29)), oP 12 (.alloc [.nils, .str [], .int .i64 0, .int .i64 0, .bool false]), ⟨none, .op (.store 5 (.t 12) (.t 30)), none⟩]) (.seq (.region [oM 31 4, oM 32 31, oT 33 (.faddr 4 (.t 12)) 32, oT 34 (.load false 1 (.t 33)) 32, oP 35 (.pick (.t 32) (.t 34) (.k (.bool false))), oP 36 (.un .not (.t 35)), oM 37 36, oT 38 (.mv (.t 0)) 37, oT 39 (.mv (.t 1)) 37, oT 40 (.load true 5 (.t 12)) 37, oT 41 (.mv (.t 3)) 37, ⟨some 42, .call (.f 341) [(.t 38), (.t 39), (.t 40), (.t 41)], (some (37, true))⟩, oT 43 (.un .not (.t 42)) 37, oP 44 (.pick (.t 37) (.t 43) (.k (.bool false)))]) (.cond (.t 44) (.seq (.region [oP 10 (.mv (.k (.bool false)))]) .ret) .skip)))) (.region [oM 21 11, oP 22 (.bin .add (.t 21) (kI 1)), oM 11 22])))))) (.seq (.region [oP 10 (.mv (.k (.bool true)))]) .ret)))⟩
theorem c_spec_l5Refers_ok : compFn Tryz.prog [] 296 = some c_spec_l5Refers := by kernel_rfl
def c_impl_hasNull : AFn := ⟨26, [.t 4], (.seq (.region [oP 2 (.box true (.t 0)), oP 4 (.mv (.k (.bool false)))]) (.seq (.seq (.region [oM 7 1, oP 8 (.len false (.t 7)), oP 9 (.mv (kI 0))]) (.block 0 (.loop (.seq (.region [oP 10 (.bin .lss (.t 9) (.t 8))]) (.seq (.cond (.t 10) .skip (.exit 0)) (.seq (.block 1 (.seq (.region [oM 11 9, oP 12 (.iaddr 3 (.t 7) (.t 9)), oP 13 (.load true 3 (.t 12)), oP 6 (.alloc [.int .i64 0, .int .i64 0, .str []]), oM 5 11, ⟨none, .op (.store 3 (.t 6) (.t 13)), none⟩]) (.seq (.region [oP 14 (.faddr 1 (.t 2)), oP 15 (.load false 1 (.t 14)), oM 16 5, oP 17 (.iaddr 6 (.t 15) (.t 16)), oP 18 (.faddr 2 (.t 17)), oP 19 (.load false 1 (.t 18)), oM 20 19, oT 21 (.faddr 0 (.t 6)) 20, oT 22 (.load false 1 (.t 21)) 20, oT 23 (.bin .eql (.t 22) (kI 0)) 20, oP 24 (.pick (.t 20) (.t 23) (.k (.bool false)))]) (.cond (.t 24) (.seq (.region [oP 4 (.mv (.k (.bool true)))]) .ret) .skip)))) (.region [oP 25 (.bin .add (.t 9) (kI 1)), oM 9 25]))))))) (.seq (.region [oP 4 (.mv (.k (.bool false)))]) .ret)))⟩
theorem c_impl_hasNull_ok : compFn Tryz.prog [2] 297 = some c_impl_hasNull := by kernel_rfl
def c_impl_isChecked : AFn := ⟨10, [.t 4], (.seq (.region [oP 2 (.box true (.t 0)), oP 3 (.box true (.t 1)), oP 4 (.mv (.k (.bool false)))]) (.seq (.region [oP 5 (.faddr 4 (.t 2)), oP 6 (.load false 1 (.t 5)), oP 7 (.mkfn 342 [] [(.t 3)]), oC 8 330 [(.t 6), (.t 7)], oP 9 (.un .not (.t 8)), oM 4 9]) .ret))⟩
theorem c_impl_isChecked_ok : compFn Tryz.prog [2, 3] 298 = some c_impl_isChecked := by kernel_rfl
def c_impl_rivals : AFn := ⟨54, [.t 8], (.seq (.region [oP 4 (.box true (.t 0)), oP 7 (.box true (.t 3)), oP 8 (.mv (.k (.nils)))]) (.seq (.region [oP 15 (.mksl false 1 0 [.int .i64 0] []), oM 9 15]) (.seq (.region [oP 16 (.faddr 2 (.t 4)), oP 17 (.load false 1 (.t 16)), oP 18 (.mksl false 1 1 [.nils] [(0, (.t 17))]), oM 10 18]) (.seq (.seq (.region [oP 19 (.faddr 3 (.t 4)), oP 20 (.load false 1 (.t 19)), oP 21 (.len false (.t 20)), oP 22 (.mv (kI 0))]) (.block 0 (.loop (.seq (.region [oP 23 (.bin .lss (.t 22) (.t 21))]) (.seq (.cond (.t 23) .skip (.exit 0)) (.seq (.block 1 (.seq (.region [oP 24 (.iaddr 1 (.t 20) (.t 22)), oP 25 (.load true 1 (.t 24)), oP 12 (.alloc [.nils]), ⟨none, .op (.store 1 (.t 12) (.t 25)), none⟩]) (.region [oM 26 10, oP 27 (.faddr 0 (.t 12)), oP 28 (.load false 1 (.t 27)), oP 29 (.mksl true 1 1 [.nils] [(0, (.t 28))]), oP 30 (.app 1 24 (.t 26) (.t 29)), oM 10 30]))) (.region [oP 31 (.bin .add (.t 22) (kI 1)), oM 22 31]))))))) (.seq (.seq (.region [oM 32 1, oP 33 (.len false (.t 32)), oP 34 (.mv (kI 0))]) (.block 2 (.loop (.seq (.region [oP 35 (.bin .lss (.t 34) (.t 33))]) (.seq (.cond (.t 35) .skip (.exit 2)) (.seq (.block 3 (.seq (.region [oP 36 (.iaddr 2 (.t 32) (.t 34)), oP 37 (.load true 2 (.t 36)), oP 14 (.alloc [.int .i64 0, .nils]), ⟨none, .op (.store 2 (.t 14) (.t 37)), none⟩]) (.seq (.region [oP 38 (.faddr 0 (.t 14)), oP 39 (.load false 1 (.t 38)), oM 40 2, oP 41 (.bin .neq (.t 39) (.t 40)), oM 42 41, oT 43 (.mv (.t 10)) 42, oT 44 (.mkfn 344 [] [(.t 7), (.t 14)]) 42, ⟨some 45, .call (.f 343) [(.t 43), (.t 44)], (some (42, true))⟩, oP 46 (.pick (.t 42) (.t 45) (.k (.bool false)))]) (.cond (.t 46) (.region [oM 47 9, oP 48 (.faddr 0 (.t 14)), oP 49 (.load false 1 (.t 48)), oP 50 (.mksl true 1 1 [.int .i64 0] [(0, (.t 49))]), oP 51 (.app 1 8 (.t 47) (.t 50)), oM 9 51]) .skip)))) (.region [oP 52 (.bin .add (.t 34) (kI 1)), oM 34 52]))))))) (.seq (.region [oM 53 9, oM 8 53]) .ret))))))⟩
theorem c_impl_rivals_ok : compFn Tryz.prog [4, 7, 29, 50] 299 = some c_impl_rivals := by kernel_rfl
def c_impl_isLostRow : AFn := ⟨15, [.t 10], (.seq (.region [oP 5 (.box true (.t 0)), oP 6 (.box true (.t 1)), oP 7 (.box true (.t 2)), oP 8 (.box true (.t 3)), oP 9 (.box true (.t 4)), oP 10 (.mv (.k (.bool false)))]) (.seq (.region [oP 11 (.faddr 5 (.t 7)), oP 12 (.load false 1 (.t 11)), oP 13 (.mkfn 346 [] [(.t 9), (.t 5), (.t 6), (.t 8)]), oC 14 267 [(.t 12), (.t 13)], oM 10 14]) .ret))⟩
theorem c_impl_isLostRow_ok : compFn Tryz.prog [5, 6, 7, 8, 9] 300 = some c_impl_isLostRow := by kernel_rfl
def c_cmp_isNaN_string : AFn := ⟨6, [.t 2], (.seq (.region [oP 2 (.mv (.k (.bool false)))]) (.seq (.region [oM 3 0, oM 4 0, oP 5 (.bin .neq (.t 3) (.t 4)), oM 2 5]) .ret))⟩
theorem c_cmp_isNaN_string_ok : compFn Tryz.prog [] 309 = some c_cmp_isNaN_string := by kernel_rfl
def c_spec_Equal3 : AFn := ⟨27, [.t 4], (.seq (.region [oP 2 (.box true (.t 0)), oP 3 (.box true (.t 1)), oP 4 (.mv (kI 0))]) (.seq (.seq (.region [oP 5 (.load true 3 (.t 2)), oC 6 276 [(.t 5)], oP 7 (.un .not (.t 6)), oM 8 7, oF 9 (.load true 3 (.t 3)) 8, ⟨some 10, .call (.f 276) [(.t 9)], (some (8, false))⟩, oF 11 (.un .not (.t 10)) 8, oP 12 (.pick (.t 8) (.k (.bool true)) (.t 11)), oM 13 12, oF 14 (.faddr 0 (.t 2)) 13, oF 15 (.load false 1 (.t 14)) 13, oF 16 (.bin .eql (.t 15) (kI 0)) 13, oP 17 (.pick (.t 13) (.k (.bool true)) (.t 16)), oM 18 17, oF 19 (.faddr 0 (.t 3)) 18, oF 20 (.load false 1 (.t 19)) 18, oF 21 (.bin .eql (.t 20) (kI 0)) 18, oP 22 (.pick (.t 18) (.k (.bool true)) (.t 21))]) (.cond (.t 22) (.seq (.region [oP 4 (.mv (kI 2))]) .ret) .skip)) (.seq (.region [oP 23 (.load true 3 (.t 2)), oP 24 (.load true 3 (.t 3)), oP 25 (.eq false true [.i, .i, .s] (.t 23) (.t 24)), oC 26 240 [(.t 25)], oM 4 26]) .ret)))⟩
theorem c_spec_Equal3_ok : compFn Tryz.prog [2, 3] 310 = some c_spec_Equal3 := by kernel_rfl
def c_spec_Less3 : AFn := ⟨28, [.t 4], (.seq (.region [oP 2 (.box true (.t 0)), oP 3 (.box true (.t 1)), oP 4 (.mv (kI 0))]) (.seq (.seq (.region [oP 5 (.load true 3 (.t 2)), oC 6 276 [(.t 5)], oP 7 (.un .not (.t 6)), oM 8 7, oF 9 (.load true 3 (.t 3)) 8, ⟨some 10, .call (.f 276) [(.t 9)], (some (8, false))⟩, oF 11 (.un .not (.t 10)) 8, oP 12 (.pick (.t 8) (.k (.bool true)) (.t 11)), oM 13 12, oF 14 (.faddr 0 (.t 2)) 13, oF 15 (.load false 1 (.t 14)) 13, oF 16 (.bin .eql (.t 15) (kI 0)) 13, oP 17 (.pick (.t 13) (.k (.bool true)) (.t 16)), oM 18 17, oF 19 (.faddr 0 (.t 3)) 18, oF 20 (.load false 1 (.t 19)) 18, oF 21 (.bin .eql (.t 20) (kI 0)) 18, oP 22 (.pick (.t 18) (.k (.bool true)) (.t 21))]) (.cond (.t 22) (.seq (.region [oP 4 (.mv (kI 2))]) .ret) .skip)) (.seq (.region [oP 23 (.load true 3 (.t 2)), oP 24 (.load true 3 (.t 3)), oC 25 145 [(.t 23), (.t 24)], oP 26 (.bin .lss (.t 25) (kI 0)), oC 27 240 [(.t 26)], oM 4 27]) .ret)))⟩
theorem c_spec_Less3_ok : compFn Tryz.prog [2, 3] 311 = some c_spec_Less3 := by kernel_rfl
def c_spec_And3 : AFn := ⟨28, [.t 4], (.seq (.region [oP 4 (.mv (kI 0))]) (.seq (.block 0 (.seq (.region [oM 6 0, oC 7 351 [(.t 6)], oP 8 (.un .not (.t 7)), oM 9 8, oF 10 (.mv (.t 1)) 9, ⟨some 11, .call (.f 351) [(.t 10)], (some (9, false))⟩, oF 12 (.un .not (.t 11)) 9, oP 13 (.pick (.t 9) (.k (.bool true)) (.t 12)), oM 5 13]) (.cond (.t 5) (.seq (.region [oP 4 (.mv (kI (-1)))]) .ret) (.seq (.region [oM 15 0, oP 16 (.bin .eql (.t 15) (kI 0)), oM 17 16, oF 18 (.mv (.t 1)) 17, oF 19 (.bin .eql (.t 18) (kI 0)) 17, oP 20 (.pick (.t 17) (.k (.bool true)) (.t 19)), oM 14 20]) (.cond (.t 14) (.seq (.region [oP 4 (.mv (kI 0))]) .ret) (.seq (.region [oM 22 0, oP 23 (.bin .eql (.t 22) (kI 1)), oM 24 23, oT 25 (.mv (.t 1)) 24, oT 26 (.bin .eql (.t 25) (kI 1)) 24, oP 27 (.pick (.t 24) (.t 26) (.k (.bool false))), oM 21 27]) (.cond (.t 21) (.seq (.region [oP 4 (.mv (kI 1))]) .ret) .skip))))))) (.seq (.region [oP 4 (.mv (kI 2))]) .ret)))⟩
theorem c_spec_And3_ok : compFn Tryz.prog [] 312 = some c_spec_And3 := by kernel_rfl
def c_spec_Or3 : AFn := ⟨28, [.t 4], (.seq (.region [oP 4 (.mv (kI 0))]) (.seq (.block 0 (.seq (.region [oM 6 0, oC 7 351 [(.t 6)], oP 8 (.un .not (.t 7)), oM 9 8, oF 10 (.mv (.t 1)) 9, ⟨some 11, .call (.f 351) [(.t 10)], (some (9, false))⟩, oF 12 (.un .not (.t 11)) 9, oP 13 (.pick (.t 9) (.k (.bool true)) (.t 12)), oM 5 13]) (.cond (.t 5) (.seq (.region [oP 4 (.mv (kI (-1)))]) .ret) (.seq (.region [oM 15 0, oP 16 (.bin .eql (.t 15) (kI 1)), oM 17 16, oF 18 (.mv (.t 1)) 17, oF 19 (.bin .eql (.t 18) (kI 1)) 17, oP 20 (.pick (.t 17) (.k (.bool true)) (.t 19)), oM 14 20]) (.cond (.t 14) (.seq (.region [oP 4 (.mv (kI 1))]) .ret) (.seq (.region [oM 22 0, oP 23 (.bin .eql (.t 22) (kI 0)), oM 24 23, oT 25 (.mv (.t 1)) 24, oT 26 (.bin .eql (.t 25) (kI 0)) 24, oP 27 (.pick (.t 24) (.t 26) (.k (.bool false))), oM 21 27]) (.cond (.t 21) (.seq (.region [oP 4 (.mv (kI 0))]) .ret) .skip))))))) (.seq (.region [oP 4 (.mv (kI 2))]) .ret)))⟩
theorem c_spec_Or3_ok : compFn Tryz.prog [] 313 = some c_spec_Or3 := by kernel_rfl
def c_impl_valOf : AFn := ⟨11, [.m 2 true 3, .t 3], (.seq (.region [oP 2 (.alloc [.int .i64 0, .int .i64 0, .str []]), oP 3 (.mv (.k (.bool false)))]) (.seq (.seq (.region [oM 4 0, oP 5 (.bin .eql (.t 4) (kI 2))]) (.cond (.t 5) (.seq (.region [oP 6 (.build [.int .i64 0, .int .i64 0, .str []] []), ⟨none, .op (.store 3 (.t 2) (.t 6)), none⟩, oP 3 (.mv (.k (.bool true)))]) .ret) .skip)) (.seq (.region [oM 7 0, oP 8 (.build [.int .i64 0, .int .i64 0, .str []] [(0, 1, (kI 1)), (1, 1, (.t 7))]), oM 9 0, oP 10 (.bin .geq (.t 9) (kI 0)), ⟨none, .op (.store 3 (.t 2) (.t 8)), none⟩, oM 3 10]) .ret)))⟩
theorem c_impl_valOf_ok : compFn Tryz.prog [] 318 = some c_impl_valOf := by kernel_rfl
def c_impl_Equal3 : AFn := ⟨13, [.t 4], (.seq (.region [oP 2 (.box true (.t 0)), oP 3 (.box true (.t 1)), oP 4 (.mv (kI 0))]) (.seq (.seq (.region [oP 5 (.load true 3 (.t 2)), oP 6 (.load true 3 (.t 3)), oC 7 354 [(.t 5), (.t 6)], oP 8 (.un .not (.t 7))]) (.cond (.t 8) (.seq (.region [oP 4 (.mv (kI 2))]) .ret) .skip)) (.seq (.region [oP 9 (.load true 3 (.t 2)), oP 10 (.load true 3 (.t 3)), oP 11 (.eq false true [.i, .i, .s] (.t 9) (.t 10)), oC 12 281 [(.t 11)], oM 4 12]) .ret)))⟩
theorem c_impl_Equal3_ok : compFn Tryz.prog [2, 3] 319 = some c_impl_Equal3 := by kernel_rfl
def c_impl_Less3 : AFn := ⟨14, [.t 4], (.seq (.region [oP 2 (.box true (.t 0)), oP 3 (.box true (.t 1)), oP 4 (.mv (kI 0))]) (.seq (.seq (.region [oP 5 (.load true 3 (.t 2)), oP 6 (.load true 3 (.t 3)), oC 7 354 [(.t 5), (.t 6)], oP 8 (.un .not (.t 7))]) (.cond (.t 8) (.seq (.region [oP 4 (.mv (kI 2))]) .ret) .skip)) (.seq (.region [oP 9 (.load true 3 (.t 2)), oP 10 (.load true 3 (.t 3)), oC 11 151 [(.t 9), (.t 10)], oP 12 (.bin .lss (.t 11) (kI 0)), oC 13 281 [(.t 12)], oM 4 13]) .ret)))⟩
theorem c_impl_Less3_ok : compFn Tryz.prog [2, 3] 320 = some c_impl_Less3 := by kernel_rfl
def c_impl_And3 : AFn := ⟨25, [.t 4], (.seq (.region [oP 4 (.mv (kI 0))]) (.seq (.block 0 (.seq (.region [oM 6 0, oM 7 1, oP 8 (.mksl true 1 2 [.int .i64 0] [(0, (.t 6)), (1, (.t 7))]), oC 9 355 [(.t 8)], oP 10 (.un .not (.t 9)), oM 5 10]) (.cond (.t 5) (.seq (.region [oP 4 (.mv (kI (-1)))]) .ret) (.seq (.region [oM 12 0, oP 13 (.bin .eql (.t 12) (kI 0)), oM 14 13, oF 15 (.mv (.t 1)) 14, oF 16 (.bin .eql (.t 15) (kI 0)) 14, oP 17 (.pick (.t 14) (.k (.bool true)) (.t 16)), oM 11 17]) (.cond (.t 11) (.seq (.region [oP 4 (.mv (kI 0))]) .ret) (.seq (.region [oM 19 0, oP 20 (.bin .eql (.t 19) (kI 1)), oM 21 20, oT 22 (.mv (.t 1)) 21, oT 23 (.bin .eql (.t 22) (kI 1)) 21, oP 24 (.pick (.t 21) (.t 23) (.k (.bool false))), oM 18 24]) (.cond (.t 18) (.seq (.region [oP 4 (.mv (kI 1))]) .ret) .skip))))))) (.seq (.region [oP 4 (.mv (kI 2))]) .ret)))⟩
theorem c_impl_And3_ok : compFn Tryz.prog [8] 321 = some c_impl_And3 := by kernel_rfl
def c_impl_Or3 : AFn := ⟨25, [.t 4], (.seq (.region [oP 4 (.mv (kI 0))]) (.seq (.block 0 (.seq (.region [oM 6 0, oM 7 1, oP 8 (.mksl true 1 2 [.int .i64 0] [(0, (.t 6)), (1, (.t 7))]), oC 9 355 [(.t 8)], oP 10 (.un .not (.t 9)), oM 5 10]) (.cond (.t 5) (.seq (.region [oP 4 (.mv (kI (-1)))]) .ret) (.seq (.region [oM 12 0, oP 13 (.bin .eql (.t 12) (kI 1)), oM 14 13, oF 15 (.mv (.t 1)) 14, oF 16 (.bin .eql (.t 15) (kI 1)) 14, oP 17 (.pick (.t 14) (.k (.bool true)) (.t 16)), oM 11 17]) (.cond (.t 11) (.seq (.region [oP 4 (.mv (kI 1))]) .ret) (.seq (.region [oM 19 0, oP 20 (.bin .eql (.t 19) (kI 0)), oM 21 20, oT 22 (.mv (.t 1)) 21, oT 23 (.bin .eql (.t 22) (kI 0)) 21, oP 24 (.pick (.t 21) (.t 23) (.k (.bool false))), oM 18 24]) (.cond (.t 18) (.seq (.region [oP 4 (.mv (kI 0))]) .ret) .skip))))))) (.seq (.region [oP 4 (.mv (kI 2))]) .ret)))⟩
theorem c_impl_Or3_ok : compFn Tryz.prog [8] 322 = some c_impl_Or3 := by kernel_rfl
def c_impl_Not3 : AFn := ⟨13, [.t 2], (.seq (.region [oP 2 (.mv (kI 0))]) (.seq (.block 0 (.seq (.region [oM 4 0, oP 5 (.mksl true 1 1 [.int .i64 0] [(0, (.t 4))]), oC 6 355 [(.t 5)], oP 7 (.un .not (.t 6)), oM 3 7]) (.cond (.t 3) (.seq (.region [oP 2 (.mv (kI (-1)))]) .ret) (.seq (.region [oM 9 0, oP 10 (.bin .eql (.t 9) (kI 2)), oM 8 10]) (.cond (.t 8) (.seq (.region [oP 2 (.mv (kI 2))]) .ret) .skip))))) (.seq (.region [oM 11 0, oP 12 (.bin .sub (kI 1) (.t 11)), oM 2 12]) .ret)))⟩
theorem c_impl_Not3_ok : compFn Tryz.prog [5] 323 = some c_impl_Not3 := by kernel_rfl
def c_spec_ColAt : AFn := ⟨22, [.t 4], (.seq (.region [oP 2 (.box true (.t 0)), oP 4 (.mv (kI 0))]) (.seq (.seq (.region [oP 5 (.mv (kI 0))]) (.block 0 (.loop (.seq (.seq (.region [oM 6 5, oP 7 (.faddr 1 (.t 2)), oP 8 (.load false 1 (.t 7)), oP 9 (.len false (.t 8)), oP 10 (.bin .lss (.t 6) (.t 9))]) (.cond (.t 10) .skip (.exit 0))) (.seq (.block 1 (.seq (.region [oP 13 (.faddr 1 (.t 2)), oP 14 (.load false 1 (.t 13)), oM 15 5, oP 16 (.iaddr 6 (.t 14) (.t 15)), oP 17 (.faddr 0 (.t 16)), oP 18 (.load false 1 (.t 17)), oM 19 1, oP 20 (.bin .eql (.t 18) (.t 19))]) (.cond (.t 20) (.seq (.region [oM 21 5, oM 4 21]) .ret) .skip))) (.region [oM 11 5, oP 12 (.bin .add (.t 11) (kI 1)), oM 5 12])))))) (.seq (.region [oP 4 (.mv (kI (-1)))]) .ret)))⟩
theorem c_spec_ColAt_ok : compFn Tryz.prog [2] 324 = some c_spec_ColAt := by kernel_rfl
def c_impl_areCols : AFn := ⟨47, [.t 2], (.seq (.region [oP 2 (.mv (.k (.bool false)))]) (.seq (.seq (.region [oM 5 0, oP 6 (.len false (.t 5)), oP 7 (.mv (kI 0))]) (.block 0 (.loop (.seq (.region [oP 8 (.bin .lss (.t 7) (.t 6))]) (.seq (.cond (.t 8) .skip (.exit 0)) (.seq (.block 1 (.seq (.region [oM 9 7, oP 10 (.iaddr 6 (.t 5) (.t 7)), oP 11 (.load true 6 (.t 10)), oP 4 (.alloc [.str [], .int .i64 0, .bool false, .int .i64 0, .int .i64 0, .str []]), oM 3 9, ⟨none, .op (.store 6 (.t 4) (.t 11)), none⟩]) (.seq (.seq (.region [oM 12 3, oP 13 (.bin .eql (.t 12) (kI 8)), oM 14 13, oF 15 (.faddr 0 (.t 4)) 14, oF 16 (.load false 1 (.t 15)) 14, ⟨some 17, .call (.f 144) [(.t 16)], (some (14, false))⟩, oF 18 (.un .not (.t 17)) 14, oP 19 (.pick (.t 14) (.k (.bool true)) (.t 18)), oM 20 19, oF 21 (.faddr 1 (.t 4)) 20, oF 22 (.load false 1 (.t 21)) 20, oF 23 (.bin .neq (.t 22) (kI 1)) 20, oF 24 (.mv (.t 23)) 20, oT 25 (.faddr 1 (.t 4)) 24, oT 26 (.load false 1 (.t 25)) 24, oT 27 (.bin .neq (.t 26) (kI 2)) 24, oF 28 (.pick (.t 24) (.t 27) (.k (.bool false))) 20, oP 29 (.pick (.t 20) (.k (.bool true)) (.t 28)), oM 30 29, oF 31 (.faddr 3 (.t 4)) 30, oF 32 (.load true 3 (.t 31)) 30, oF 33 (.faddr 1 (.t 4)) 30, oF 34 (.load false 1 (.t 33)) 30, ⟨some 35, .call (.f 211) [(.t 32), (.t 34)], (some (30, false))⟩, oF 36 (.un .not (.t 35)) 30, oP 37 (.pick (.t 30) (.k (.bool true)) (.t 36))]) (.cond (.t 37) (.seq (.region [oP 2 (.mv (.k (.bool false)))]) .ret) .skip)) (.seq (.region [oM 38 0, oM 39 3, oP 40 (.slice 6 (.t 38) none (some (.t 39)) none), oP 41 (.mkfn 357 [] [(.t 4)]), oC 42 356 [(.t 40), (.t 41)]]) (.cond (.t 42) (.seq (.region [oP 2 (.mv (.k (.bool false)))]) .ret) .skip))))) (.region [oP 43 (.bin .add (.t 7) (kI 1)), oM 7 43]))))))) (.seq (.region [oM 44 0, oP 45 (.len false (.t 44)), oP 46 (.bin .gtr (.t 45) (kI 0)), oM 2 46]) .ret)))⟩
theorem c_impl_areCols_ok : compFn Tryz.prog [] 325 = some c_impl_areCols := by kernel_rfl
def c_slices_ContainsFunc_int64_int64 : AFn := ⟨9, [.t 4], (.seq (.region [oP 4 (.mv (.k (.bool false)))]) (.seq (.region [oM 5 0, oM 6 1, oC 7 358 [(.t 5), (.t 6)], oP 8 (.bin .geq (.t 7) (kI 0)), oM 4 8]) .ret))⟩
theorem c_slices_ContainsFunc_int64_int64_ok : compFn Tryz.prog [] 326 = some c_slices_ContainsFunc_int64_int64 := by kernel_rfl
def c_impl_TableOk_1 : AFn := ⟨11, [.t 3], (.seq (.region [oP 3 (.mv (.k (.bool false)))]) (.seq (.region [oP 4 (.faddr 1 (.t 1)), oP 5 (.load false 1 (.t 4)), oM 6 0, oP 7 (.iaddr 6 (.t 5) (.t 6)), oP 8 (.faddr 2 (.t 7)), oP 9 (.load false 1 (.t 8)), oP 10 (.un .not (.t 9)), oM 3 10]) .ret))⟩
theorem c_impl_TableOk_1_ok : compFn Tryz.prog [] 327 = some c_impl_TableOk_1 := by kernel_rfl
def c_slices_ContainsFunc_Unique : AFn := ⟨9, [.t 4], (.seq (.region [oP 4 (.mv (.k (.bool false)))]) (.seq (.region [oM 5 0, oM 6 1, oC 7 359 [(.t 5), (.t 6)], oP 8 (.bin .geq (.t 7) (kI 0)), oM 4 8]) .ret))⟩
theorem c_slices_ContainsFunc_Unique_ok : compFn Tryz.prog [] 328 = some c_slices_ContainsFunc_Unique := by kernel_rfl
def c_impl_TableOk_2 : AFn := ⟨9, [.t 3], (.seq (.region [oP 2 (.box true (.t 0)), oP 3 (.mv (.k (.bool false)))]) (.seq (.region [oP 4 (.faddr 0 (.t 2)), oP 5 (.load false 1 (.t 4)), oP 6 (.load false 1 (.t 1)), oC 7 223 [(.t 5), (.t 6)], oP 8 (.un .not (.t 7)), oM 3 8]) .ret))⟩
theorem c_impl_TableOk_2_ok : compFn Tryz.prog [2] 329 = some c_impl_TableOk_2 := by kernel_rfl
def c_slices_ContainsFunc_Check : AFn := ⟨9, [.t 4], (.seq (.region [oP 4 (.mv (.k (.bool false)))]) (.seq (.region [oM 5 0, oM 6 1, oC 7 360 [(.t 5), (.t 6)], oP 8 (.bin .geq (.t 7) (kI 0)), oM 4 8]) .ret))⟩
theorem c_slices_ContainsFunc_Check_ok : compFn Tryz.prog [] 330 = some c_slices_ContainsFunc_Check := by kernel_rfl
def c_impl_TableOk_3 : AFn := ⟨9, [.t 3], (.seq (.region [oP 2 (.box true (.t 0)), oP 3 (.mv (.k (.bool false)))]) (.seq (.region [oP 4 (.faddr 0 (.t 2)), oP 5 (.load false 1 (.t 4)), oP 6 (.load false 1 (.t 1)), oC 7 118 [(.t 5), (.t 6)], oP 8 (.un .not (.t 7)), oM 3 8]) .ret))⟩
theorem c_impl_TableOk_3_ok : compFn Tryz.prog [2] 331 = some c_impl_TableOk_3 := by kernel_rfl
def c_impl_TableOk_4 : AFn := ⟨8, [.t 3], (.seq (.region [oP 2 (.box true (.t 0)), oP 3 (.mv (.k (.bool false)))]) (.seq (.region [oP 4 (.load true 5 (.t 2)), oP 5 (.load false 1 (.t 1)), oC 6 333 [(.t 4), (.t 5)], oP 7 (.un .not (.t 6)), oM 3 7]) .ret))⟩
theorem c_impl_TableOk_4_ok : compFn Tryz.prog [2] 332 = some c_impl_TableOk_4 := by kernel_rfl
def c_impl_isFk : AFn := ⟨24, [.t 4], (.seq (.region [oP 2 (.box true (.t 0)), oP 4 (.mv (.k (.bool false)))]) (.seq (.region [oP 5 (.faddr 0 (.t 2)), oP 6 (.load false 1 (.t 5)), oM 7 1, oC 8 223 [(.t 6), (.t 7)], oM 9 8, oT 10 (.faddr 1 (.t 2)) 9, oT 11 (.load false 1 (.t 10)) 9, ⟨some 12, .call (.f 144) [(.t 11)], (some (9, true))⟩, oP 13 (.pick (.t 9) (.t 12) (.k (.bool false))), oM 14 13, oT 15 (.faddr 2 (.t 2)) 14, oT 16 (.load false 1 (.t 15)) 14, ⟨some 17, .call (.f 148) [(.t 16), (kI 0), (kI 2)], (some (14, true))⟩, oP 18 (.pick (.t 14) (.t 17) (.k (.bool false))), oM 19 18, oT 20 (.faddr 3 (.t 2)) 19, oT 21 (.load false 1 (.t 20)) 19, ⟨some 22, .call (.f 148) [(.t 21), (kI 0), (kI 2)], (some (19, true))⟩, oP 23 (.pick (.t 19) (.t 22) (.k (.bool false))), oM 4 23]) .ret))⟩
theorem c_impl_isFk_ok : compFn Tryz.prog [2] 333 = some c_impl_isFk := by kernel_rfl
def c_slices_IndexFunc_Fk : AFn := ⟨19, [.t 4], (.seq (.region [oP 4 (.mv (kI 0))]) (.seq (.seq (.region [oM 6 0, oP 7 (.len false (.t 6)), oP 8 (.mv (kI 0))]) (.block 0 (.loop (.seq (.region [oP 9 (.bin .lss (.t 8) (.t 7))]) (.seq (.cond (.t 9) .skip (.exit 0)) (.seq (.block 1 (.seq (.region [oM 10 8, oM 5 10]) (.seq (.region [oM 11 1, oM 12 0, oM 13 5, oP 14 (.iaddr 5 (.t 12) (.t 13)), oP 15 (.load true 5 (.t 14)), ⟨some 16, .call (.t 11) [(.t 15)], none⟩]) (.cond (.t 16) (.seq (.region [oM 17 5, oM 4 17]) .ret) .skip)))) (.region [oP 18 (.bin .add (.t 8) (kI 1)), oM 8 18]))))))) (.seq (.region [oP 4 (.mv (kI (-1)))]) .ret)))⟩
theorem c_slices_IndexFunc_Fk_ok : compFn Tryz.prog [] 334 = some c_slices_IndexFunc_Fk := by kernel_rfl
def c_spec_l5Twice : AFn := ⟨37, [.t 6], (.seq (.region [oP 3 (.box true (.t 0)), oP 5 (.box true (.t 2)), oP 6 (.mv (.k (.bool false)))]) (.seq (.region [oM 12 1, oP 13 (.faddr 1 (.t 5)), oP 14 (.load false 1 (.t 13)), oC 15 221 [(.t 12), (.t 14)], oM 11 15, oP 16 (.ext (.t 11) 0), oP 17 (.ext (.t 11) 1), oM 7 16, oM 8 17]) (.seq (.seq (.region [oM 18 8, oP 19 (.un .not (.t 18))]) (.cond (.t 19) (.seq (.region [oP 6 (.mv (.k (.bool false)))]) .ret) .skip)) (.seq (.region [oP 20 (.load true 1 (.t 3)), oM 21 1, oM 22 7, oC 23 362 [(.t 20), (.t 21), (.t 22)], oM 9 23]) (.seq (.seq (.region [oP 10 (.mv (kI 0))]) (.block 0 (.loop (.seq (.seq (.region [oM 24 10, oM 25 9, oP 26 (.len false (.t 25)), oP 27 (.bin .lss (.t 24) (.t 26))]) (.cond (.t 27) .skip (.exit 0))) (.seq (.block 1 (.seq (.draw [[oM 30 9, oM 31 10, oP 32 (.iaddr 1 (.t 30) (.t 31)), oP 33 (.load false 1 (.t 32)), oP 34 (.faddr 0 (.t 5)), oP 35 (.load false 1 (.t 34))], [oP 36 (.bin .neq (.t 33) (.t 35))]]) (.cond (.t 36) (.seq (.region [oP 6 (.mv (.k (.bool true)))]) .ret) .skip))) (.region [oM 28 10, oP 29 (.bin .add (.t 28) (kI 1)), oM 10 29])))))) (.seq (.region [oP 6 (.mv (.k (.bool false)))]) .ret))))))⟩
theorem c_spec_l5Twice_ok : compFn Tryz.prog [3, 5] 340 = some c_spec_l5Twice := by kernel_rfl
def c_spec_l5Parent : AFn := ⟨40, [.t 8], (.seq (.region [oP 6 (.box true (.t 2)), oP 8 (.mv (.k (.bool false)))]) (.seq (.region [oP 13 (.faddr 0 (.t 6)), oP 14 (.load false 1 (.t 13)), oM 15 3, oC 16 221 [(.t 14), (.t 15)], oM 12 16, oP 17 (.ext (.t 12) 0), oP 18 (.ext (.t 12) 1), oM 9 17, oM 10 18]) (.seq (.region [oM 19 0, oP 20 (.faddr 1 (.t 6)), oP 21 (.load false 1 (.t 20)), oC 22 157 [(.t 19), (.t 21)], oM 11 22]) (.seq (.draw [[oM 23 10], [oP 24 (.un .not (.t 23))], [oM 25 24], [oF 26 (.mv (.t 1)) 25, oF 27 (.mv (.t 11)) 25, oF 28 (.iaddr 1 (.t 26) (.t 27)) 25, oF 29 (.load true 1 (.t 28)) 25, oF 30 (.mv (.t 0)) 25, oF 31 (.mv (.t 11)) 25, oF 32 (.iaddr 6 (.t 30) (.t 31)) 25, oF 33 (.faddr 2 (.t 32)) 25, oF 34 (.load false 1 (.t 33)) 25, oF 35 (.mv (.t 9)) 25], [⟨some 36, .call (.f 362) [(.t 29), (.t 34), (.t 35)], (some (25, false))⟩], [oF 37 (.len false (.t 36)) 25], [oF 38 (.bin .gtr (.t 37) (kI 0)) 25], [oP 39 (.pick (.t 25) (.k (.bool true)) (.t 38))], [oM 8 39]]) .ret))))⟩
theorem c_spec_l5Parent_ok : compFn Tryz.prog [6] 341 = some c_spec_l5Parent := by kernel_rfl
def c_impl_isChecked_1 : AFn := ⟨9, [.t 3], (.seq (.region [oP 2 (.box true (.t 0)), oP 3 (.mv (.k (.bool false)))]) (.seq (.region [oP 4 (.faddr 0 (.t 2)), oP 5 (.load false 1 (.t 4)), oP 6 (.load false 1 (.t 1)), oC 7 120 [(.t 5), (.t 6)], oP 8 (.bin .lss (.t 7) (kI 1)), oM 3 8]) .ret))⟩
theorem c_impl_isChecked_1_ok : compFn Tryz.prog [2] 342 = some c_impl_isChecked_1 := by kernel_rfl
def c_slices_ContainsFunc_int64_int64' : AFn := ⟨9, [.t 4], (.seq (.region [oP 4 (.mv (.k (.bool false)))]) (.seq (.region [oM 5 0, oM 6 1, oC 7 363 [(.t 5), (.t 6)], oP 8 (.bin .geq (.t 7) (kI 0)), oM 4 8]) .ret))⟩
theorem c_slices_ContainsFunc_int64_int64'_ok : compFn Tryz.prog [] 343 = some c_slices_ContainsFunc_int64_int64' := by kernel_rfl
def c_impl_rivals_1 : AFn := ⟨21, [.t 4], (.seq (.region [oP 4 (.mv (.k (.bool false)))]) (.seq (.region [oM 8 0, oP 9 (.load false 1 (.t 1)), oC 10 132 [(.t 8), (.t 9)], oM 7 10, oP 11 (.ext (.t 7) 0), oP 12 (.ext (.t 7) 1), oM 5 11, oM 6 12]) (.seq (.region [oM 13 6, oM 14 13, oT 15 (.mv (.t 0)) 14, oT 16 (.faddr 1 (.t 2)) 14, oT 17 (.load false 1 (.t 16)) 14, oT 18 (.mv (.t 5)) 14, ⟨some 19, .call (.f 345) [(.t 15), (.t 17), (.t 18)], (some (14, true))⟩, oP 20 (.pick (.t 14) (.t 19) (.k (.bool false))), oM 4 20]) .ret)))⟩
theorem c_impl_rivals_1_ok : compFn Tryz.prog [] 344 = some c_impl_rivals_1 := by kernel_rfl
def c_impl_has : AFn := ⟨21, [.t 6], (.seq (.region [oP 6 (.mv (.k (.bool false)))]) (.seq (.region [oM 10 0, oM 11 1, oC 12 132 [(.t 10), (.t 11)], oM 9 12, oP 13 (.ext (.t 9) 0), oP 14 (.ext (.t 9) 1), oM 7 13, oM 8 14]) (.seq (.region [oM 15 8, oM 16 15, oT 17 (.mv (.t 7)) 16, oT 18 (.mv (.t 2)) 16, ⟨some 19, .call (.f 219) [(.t 17), (.t 18)], (some (16, true))⟩, oP 20 (.pick (.t 16) (.t 19) (.k (.bool false))), oM 6 20]) .ret)))⟩
theorem c_impl_has_ok : compFn Tryz.prog [] 345 = some c_impl_has := by kernel_rfl
def c_impl_isLostRow_1 : AFn := ⟨20, [.t 6], (.seq (.region [oP 5 (.box true (.t 0)), oP 6 (.mv (.k (.bool false)))]) (.seq (.region [oP 7 (.load false 1 (.t 1)), oM 8 7, oF 9 (.faddr 4 (.t 5)) 8, oF 10 (.load false 1 (.t 9)) 8, oF 11 (.un .not (.t 10)) 8, oP 12 (.pick (.t 8) (.k (.bool true)) (.t 11)), oM 13 12, oT 14 (.load false 1 (.t 2)) 13, oT 15 (.load false 1 (.t 3)) 13, oT 16 (.load true 5 (.t 5)) 13, oT 17 (.load false 1 (.t 4)) 13, ⟨some 18, .call (.f 347) [(.t 14), (.t 15), (.t 16), (.t 17)], (some (13, true))⟩, oP 19 (.pick (.t 13) (.t 18) (.k (.bool false))), oM 6 19]) .ret))⟩
theorem c_impl_isLostRow_1_ok : compFn Tryz.prog [5] 346 = some c_impl_isLostRow_1 := by kernel_rfl
def c_impl_isLost : AFn := ⟨40, [.t 8], (.seq (.region [oP 6 (.box true (.t 2)), oP 8 (.mv (.k (.bool false)))]) (.seq (.region [oM 12 0, oP 13 (.faddr 1 (.t 6)), oP 14 (.load false 1 (.t 13)), oC 15 163 [(.t 12), (.t 14)], oM 9 15]) (.seq (.region [oP 17 (.faddr 0 (.t 6)), oP 18 (.load false 1 (.t 17)), oM 19 3, oC 20 132 [(.t 18), (.t 19)], oM 16 20, oP 21 (.ext (.t 16) 0), oP 22 (.ext (.t 16) 1), oM 10 21, oM 11 22]) (.seq (.draw [[oM 23 11], [oM 24 23], [oT 25 (.mv (.t 1)) 24, oT 26 (.mv (.t 9)) 24, oT 27 (.iaddr 1 (.t 25) (.t 26)) 24, oT 28 (.faddr 0 (.t 27)) 24, oT 29 (.load false 1 (.t 28)) 24, oT 30 (.mv (.t 0)) 24, oT 31 (.mv (.t 9)) 24, oT 32 (.iaddr 6 (.t 30) (.t 31)) 24, oT 33 (.faddr 2 (.t 32)) 24, oT 34 (.load false 1 (.t 33)) 24, oT 35 (.mv (.t 10)) 24], [⟨some 36, .call (.f 364) [(.t 29), (.t 34), (.t 35)], (some (24, true))⟩], [oT 37 (.len false (.t 36)) 24], [oT 38 (.bin .eql (.t 37) (kI 0)) 24], [oP 39 (.pick (.t 24) (.t 38) (.k (.bool false)))], [oM 8 39]]) .ret))))⟩
theorem c_impl_isLost_ok : compFn Tryz.prog [6] 347 = some c_impl_isLost := by kernel_rfl
def c_spec_l2Tru : AFn := ⟨5, [.t 2], (.seq (.region [oP 2 (.mv (.k (.bool false)))]) (.seq (.region [oM 3 0, oC 4 105 [(.t 3), (kI 0), (kI 2)], oM 2 4]) .ret))⟩
theorem c_spec_l2Tru_ok : compFn Tryz.prog [] 351 = some c_spec_l2Tru := by kernel_rfl
def c_impl_areKnown : AFn := ⟨21, [.t 4], (.seq (.region [oP 2 (.box true (.t 0)), oP 3 (.box true (.t 1)), oP 4 (.mv (.k (.bool false)))]) (.seq (.region [oP 5 (.load true 3 (.t 2)), oC 6 280 [(.t 5)], oM 7 6, oT 8 (.load true 3 (.t 3)) 7, ⟨some 9, .call (.f 280) [(.t 8)], (some (7, true))⟩, oP 10 (.pick (.t 7) (.t 9) (.k (.bool false))), oM 11 10, oT 12 (.faddr 0 (.t 2)) 11, oT 13 (.load false 1 (.t 12)) 11, oT 14 (.bin .neq (.t 13) (kI 0)) 11, oP 15 (.pick (.t 11) (.t 14) (.k (.bool false))), oM 16 15, oT 17 (.faddr 0 (.t 3)) 16, oT 18 (.load false 1 (.t 17)) 16, oT 19 (.bin .neq (.t 18) (kI 0)) 16, oP 20 (.pick (.t 16) (.t 19) (.k (.bool false))), oM 4 20]) .ret))⟩
theorem c_impl_areKnown_ok : compFn Tryz.prog [2, 3] 354 = some c_impl_areKnown := by kernel_rfl
def c_impl_areTruths : AFn := ⟨6, [.t 2], (.seq (.region [oP 2 (.mv (.k (.bool false)))]) (.seq (.region [oM 3 0, oC 4 326 [(.t 3), (.f 367)], oP 5 (.un .not (.t 4)), oM 2 5]) .ret))⟩
theorem c_impl_areTruths_ok : compFn Tryz.prog [] 355 = some c_impl_areTruths := by kernel_rfl
def c_slices_ContainsFunc_Col : AFn := ⟨9, [.t 4], (.seq (.region [oP 4 (.mv (.k (.bool false)))]) (.seq (.region [oM 5 0, oM 6 1, oC 7 368 [(.t 5), (.t 6)], oP 8 (.bin .geq (.t 7) (kI 0)), oM 4 8]) .ret))⟩
theorem c_slices_ContainsFunc_Col_ok : compFn Tryz.prog [] 356 = some c_slices_ContainsFunc_Col := by kernel_rfl
def c_impl_areCols_1 : AFn := ⟨9, [.t 3], (.seq (.region [oP 2 (.box true (.t 0)), oP 3 (.mv (.k (.bool false)))]) (.seq (.region [oP 4 (.faddr 0 (.t 2)), oP 5 (.load false 1 (.t 4)), oP 6 (.faddr 0 (.t 1)), oP 7 (.load false 1 (.t 6)), oP 8 (.bin .eql (.t 5) (.t 7)), oM 3 8]) .ret))⟩
theorem c_impl_areCols_1_ok : compFn Tryz.prog [2] 357 = some c_impl_areCols_1 := by kernel_rfl
def c_slices_IndexFunc_int64_int64 : AFn := ⟨19, [.t 4], (.seq (.region [oP 4 (.mv (kI 0))]) (.seq (.seq (.region [oM 6 0, oP 7 (.len false (.t 6)), oP 8 (.mv (kI 0))]) (.block 0 (.loop (.seq (.region [oP 9 (.bin .lss (.t 8) (.t 7))]) (.seq (.cond (.t 9) .skip (.exit 0)) (.seq (.block 1 (.seq (.region [oM 10 8, oM 5 10]) (.seq (.region [oM 11 1, oM 12 0, oM 13 5, oP 14 (.iaddr 1 (.t 12) (.t 13)), oP 15 (.load false 1 (.t 14)), ⟨some 16, .call (.t 11) [(.t 15)], none⟩]) (.cond (.t 16) (.seq (.region [oM 17 5, oM 4 17]) .ret) .skip)))) (.region [oP 18 (.bin .add (.t 8) (kI 1)), oM 8 18]))))))) (.seq (.region [oP 4 (.mv (kI (-1)))]) .ret)))⟩
theorem c_slices_IndexFunc_int64_int64_ok : compFn Tryz.prog [] 358 = some c_slices_IndexFunc_int64_int64 := by kernel_rfl
def c_slices_IndexFunc_Unique : AFn := ⟨19, [.t 4], (.seq (.region [oP 4 (.mv (kI 0))]) (.seq (.seq (.region [oM 6 0, oP 7 (.len false (.t 6)), oP 8 (.mv (kI 0))]) (.block 0 (.loop (.seq (.region [oP 9 (.bin .lss (.t 8) (.t 7))]) (.seq (.cond (.t 9) .skip (.exit 0)) (.seq (.block 1 (.seq (.region [oM 10 8, oM 5 10]) (.seq (.region [oM 11 1, oM 12 0, oM 13 5, oP 14 (.iaddr 1 (.t 12) (.t 13)), oP 15 (.load true 1 (.t 14)), ⟨some 16, .call (.t 11) [(.t 15)], none⟩]) (.cond (.t 16) (.seq (.region [oM 17 5, oM 4 17]) .ret) .skip)))) (.region [oP 18 (.bin .add (.t 8) (kI 1)), oM 8 18]))))))) (.seq (.region [oP 4 (.mv (kI (-1)))]) .ret)))⟩
theorem c_slices_IndexFunc_Unique_ok : compFn Tryz.prog [] 359 = some c_slices_IndexFunc_Unique := by kernel_rfl
def c_slices_IndexFunc_Check : AFn := ⟨19, [.t 4], (.seq (.region [oP 4 (.mv (kI 0))]) (.seq (.seq (.region [oM 6 0, oP 7 (.len false (.t 6)), oP 8 (.mv (kI 0))]) (.block 0 (.loop (.seq (.region [oP 9 (.bin .lss (.t 8) (.t 7))]) (.seq (.cond (.t 9) .skip (.exit 0)) (.seq (.block 1 (.seq (.region [oM 10 8, oM 5 10]) (.seq (.region [oM 11 1, oM 12 0, oM 13 5, oP 14 (.iaddr 1 (.t 12) (.t 13)), oP 15 (.load true 1 (.t 14)), ⟨some 16, .call (.t 11) [(.t 15)], none⟩]) (.cond (.t 16) (.seq (.region [oM 17 5, oM 4 17]) .ret) .skip)))) (.region [oP 18 (.bin .add (.t 8) (kI 1)), oM 8 18]))))))) (.seq (.region [oP 4 (.mv (kI (-1)))]) .ret)))⟩
theorem c_slices_IndexFunc_Check_ok : compFn Tryz.prog [] 360 = some c_slices_IndexFunc_Check := by kernel_rfl
def c_spec_l4Find : AFn := ⟨46, [.t 6], (.seq (.region [oP 3 (.box true (.t 0)), oP 6 (.mv (.k (.nils)))]) (.seq (.region [oP 11 (.mksl false 1 0 [.int .i64 0] []), oM 7 11]) (.seq (.seq (.region [oP 8 (.mv (kI 0))]) (.block 0 (.loop (.seq (.seq (.region [oM 12 8, oP 13 (.faddr 0 (.t 3)), oP 14 (.load false 1 (.t 13)), oP 15 (.len false (.t 14)), oP 16 (.bin .lss (.t 12) (.t 15))]) (.cond (.t 16) .skip (.exit 0))) (.seq (.block 1 (.seq (.region [oM 20 1, oP 21 (.faddr 0 (.t 3)), oP 22 (.load false 1 (.t 21)), oM 23 8, oP 24 (.iaddr 2 (.t 22) (.t 23)), oP 25 (.faddr 1 (.t 24)), oP 26 (.load false 1 (.t 25)), oC 27 221 [(.t 20), (.t 26)], oM 19 27, oP 28 (.ext (.t 19) 0), oP 29 (.ext (.t 19) 1), oM 9 28, oM 10 29]) (.seq (.region [oM 30 10, oM 31 30, oT 32 (.mv (.t 9)) 31, oT 33 (.mv (.t 2)) 31, ⟨some 34, .call (.f 218) [(.t 32), (.t 33)], (some (31, true))⟩, oP 35 (.pick (.t 31) (.t 34) (.k (.bool false)))]) (.cond (.t 35) (.region [oM 36 7, oP 37 (.faddr 0 (.t 3)), oP 38 (.load false 1 (.t 37)), oM 39 8, oP 40 (.iaddr 2 (.t 38) (.t 39)), oP 41 (.faddr 0 (.t 40)), oP 42 (.load false 1 (.t 41)), oP 43 (.mksl true 1 1 [.int .i64 0] [(0, (.t 42))]), oP 44 (.app 1 8 (.t 36) (.t 43)), oM 7 44]) .skip)))) (.region [oM 17 8, oP 18 (.bin .add (.t 17) (kI 1)), oM 8 18])))))) (.seq (.region [oM 45 7, oM 6 45]) .ret))))⟩
theorem c_spec_l4Find_ok : compFn Tryz.prog [3, 43] 362 = some c_spec_l4Find := by kernel_rfl
def c_slices_IndexFunc_int64_int64' : AFn := ⟨19, [.t 4], (.seq (.region [oP 4 (.mv (kI 0))]) (.seq (.seq (.region [oM 6 0, oP 7 (.len false (.t 6)), oP 8 (.mv (kI 0))]) (.block 0 (.loop (.seq (.region [oP 9 (.bin .lss (.t 8) (.t 7))]) (.seq (.cond (.t 9) .skip (.exit 0)) (.seq (.block 1 (.seq (.region [oM 10 8, oM 5 10]) (.seq (.region [oM 11 1, oM 12 0, oM 13 5, oP 14 (.iaddr 1 (.t 12) (.t 13)), oP 15 (.load false 1 (.t 14)), ⟨some 16, .call (.t 11) [(.t 15)], none⟩]) (.cond (.t 16) (.seq (.region [oM 17 5, oM 4 17]) .ret) .skip)))) (.region [oP 18 (.bin .add (.t 8) (kI 1)), oM 8 18]))))))) (.seq (.region [oP 4 (.mv (kI (-1)))]) .ret)))⟩
theorem c_slices_IndexFunc_int64_int64'_ok : compFn Tryz.prog [] 363 = some c_slices_IndexFunc_int64_int64' := by kernel_rfl
def c_impl_found : AFn := ⟨29, [.t 6], (.seq (.region [oP 6 (.mv (.k (.nils)))]) (.seq (.region [oP 10 (.mksl false 1 0 [.int .i64 0] []), oM 7 10]) (.seq (.seq (.region [oM 11 0, oP 12 (.len false (.t 11)), oP 13 (.mv (kI 0))]) (.block 0 (.loop (.seq (.region [oP 14 (.bin .lss (.t 13) (.t 12))]) (.seq (.cond (.t 14) .skip (.exit 0)) (.seq (.block 1 (.seq (.region [oP 15 (.iaddr 2 (.t 11) (.t 13)), oP 16 (.load true 2 (.t 15)), oP 9 (.alloc [.int .i64 0, .nils]), ⟨none, .op (.store 2 (.t 9) (.t 16)), none⟩]) (.seq (.region [oM 17 1, oP 18 (.faddr 1 (.t 9)), oP 19 (.load false 1 (.t 18)), oM 20 2, oC 21 345 [(.t 17), (.t 19), (.t 20)]]) (.cond (.t 21) (.region [oM 22 7, oP 23 (.faddr 0 (.t 9)), oP 24 (.load false 1 (.t 23)), oP 25 (.mksl true 1 1 [.int .i64 0] [(0, (.t 24))]), oP 26 (.app 1 8 (.t 22) (.t 25)), oM 7 26]) .skip)))) (.region [oP 27 (.bin .add (.t 13) (kI 1)), oM 13 27]))))))) (.seq (.region [oM 28 7, oM 6 28]) .ret))))⟩
theorem c_impl_found_ok : compFn Tryz.prog [25] 364 = some c_impl_found := by kernel_rfl
def c_impl_areTruths_1 : AFn := ⟨6, [.t 2], (.seq (.region [oP 2 (.mv (.k (.bool false)))]) (.seq (.region [oM 3 0, oC 4 148 [(.t 3), (kI 0), (kI 2)], oP 5 (.un .not (.t 4)), oM 2 5]) .ret))⟩
theorem c_impl_areTruths_1_ok : compFn Tryz.prog [] 367 = some c_impl_areTruths_1 := by kernel_rfl
def c_slices_IndexFunc_Col : AFn := ⟨19, [.t 4], (.seq (.region [oP 4 (.mv (kI 0))]) (.seq (.seq (.region [oM 6 0, oP 7 (.len false (.t 6)), oP 8 (.mv (kI 0))]) (.block 0 (.loop (.seq (.region [oP 9 (.bin .lss (.t 8) (.t 7))]) (.seq (.cond (.t 9) .skip (.exit 0)) (.seq (.block 1 (.seq (.region [oM 10 8, oM 5 10]) (.seq (.region [oM 11 1, oM 12 0, oM 13 5, oP 14 (.iaddr 6 (.t 12) (.t 13)), oP 15 (.load true 6 (.t 14)), ⟨some 16, .call (.t 11) [(.t 15)], none⟩]) (.cond (.t 16) (.seq (.region [oM 17 5, oM 4 17]) .ret) .skip)))) (.region [oP 18 (.bin .add (.t 8) (kI 1)), oM 8 18]))))))) (.seq (.region [oP 4 (.mv (kI (-1)))]) .ret)))⟩
theorem c_slices_IndexFunc_Col_ok : compFn Tryz.prog [] 368 = some c_slices_IndexFunc_Col := by kernel_rfl

end Go.Proofs.YtcfpdongfdhgjaaGreat.Am

/- The abstract machine, part 21: a store and what a call has made since; steps in these words. -/
set_option linter.unusedVariables false
set_option linter.unusedSimpArgs false
namespace Go.Proofs.YtcfpdongfdhgjaaGreat.Am
open Go.RowKit

/-- A store, and blocks made since. -/
def E (σ : Store) (l : List (Nat × List (List Ce))) : Store := ⟨σ.next + l.length, fun id => if id < σ.next then σ.get id else l[id - σ.next]?⟩
theorem E_next {σ : Store} {l : List (Nat × List (List Ce))} : (E σ l).next = σ.next + l.length := rfl
theorem E_lt {σ : Store} {l : List (Nat × List (List Ce))} {id : Nat} (h : id < σ.next) : (E σ l).get id = σ.get id := if_pos h
theorem E_ge {σ : Store} {l : List (Nat × List (List Ce))} {id : Nat} (h : ¬ id < σ.next) : (E σ l).get id = l[id - σ.next]? := if_neg h
theorem E_at {σ : Store} {l : List (Nat × List (List Ce))} {k : Nat} : (E σ l).get (σ.next + k) = l[k]? := by
  rw [E_ge (by omega)]
  congr 1
  omega
theorem Store.ext {σ τ : Store} (h : σ.next = τ.next) (h2 : ∀ id, σ.get id = τ.get id) : σ = τ := by
  cases σ; cases τ
  simp only at h h2
  subst h
  congr
  exact funext h2
theorem new_self {σ : Store} {x : Nat × List (List Ce)} {id : Nat} (h : id = σ.next) : (σ.new x).get id = some x := if_pos h
theorem new_ne {σ : Store} {x : Nat × List (List Ce)} {id : Nat} (h : id ≠ σ.next) : (σ.new x).get id = σ.get id := if_neg h
theorem put_self {σ : Store} {x : Nat × List (List Ce)} {id j : Nat} (h : j = id) : (σ.put id x).get j = some x := if_pos h
theorem put_ne {σ : Store} {x : Nat × List (List Ce)} {id j : Nat} (h : j ≠ id) : (σ.put id x).get j = σ.get j := if_neg h
theorem E_nil {σ : Store} (h : OldS σ) : E σ [] = σ := by
  refine Store.ext rfl fun id => ?_
  by_cases hn : id < σ.next
  · rw [E_lt hn]
  · rw [E_ge hn]
    cases hg : σ.get id with
    | none => simp
    | some y => exact absurd (h id y hg).1 hn
theorem E_new {σ : Store} {l : List (Nat × List (List Ce))} {x : Nat × List (List Ce)} : (E σ l).new x = E σ (l ++ [x]) := by
  refine Store.ext (by simp [E, Store.new]; omega) fun id => ?_
  by_cases e : id = σ.next + l.length
  · rw [new_self (by rw [E_next]; exact e)]
    subst e
    rw [E_at]
    simp
  · rw [new_ne (by rw [E_next]; exact e)]
    by_cases hn : id < σ.next
    · rw [E_lt hn, E_lt hn]
    · rw [E_ge hn, E_ge hn, List.getElem?_append]
      split
      · rfl
      · rename_i h2
        have : id - σ.next - l.length ≠ 0 := by omega
        rw [List.getElem?_eq_none (by omega)]
        rw [List.getElem?_eq_none (by simp; omega)]
theorem E_put {σ : Store} {l : List (Nat × List (List Ce))} {k : Nat} (hk : k < l.length) {x : Nat × List (List Ce)} : (E σ l).put (σ.next + k) x = E σ (l.set k x) := by
  refine Store.ext (by simp [E, Store.put]) fun id => ?_
  by_cases e : id = σ.next + k
  · subst e
    rw [put_self rfl, E_at]
    simp [hk]
  · rw [put_ne e]
    by_cases hn : id < σ.next
    · rw [E_lt hn, E_lt hn]
    · rw [E_ge hn, E_ge hn, List.getElem?_set_ne (by omega)]
theorem E_E {σ : Store} {l m : List (Nat × List (List Ce))} : E (E σ l) m = E σ (l ++ m) := by
  refine Store.ext (by simp [E]; omega) fun id => ?_
  by_cases hn : id < σ.next
  · rw [E_lt (by rw [E_next]; omega), E_lt hn, E_lt hn]
  · rw [E_ge hn, List.getElem?_append]
    by_cases h2 : id < σ.next + l.length
    · rw [E_lt (by rw [E_next]; omega), E_ge hn, if_pos (by omega)]
    · rw [E_ge (by rw [E_next]; omega), if_neg (by omega)]
      rw [E_next]
      congr 1
      omega

/-! ### What may be said otherwise: freezing, forgetting -/
theorem Shift.frz {n0 nt n : Nat} {fr fr' : Fr} {σ σ2 : Store} (h1 : ∀ t x, look fr' t = some x → ∃ y, look fr t = some y ∧ FrzV σ n y x) (hnext : σ2.next = n)
    (hsub : ∀ id y, σ2.get id = some y → σ.get id = some y ∧ id < n ∧ ∀ i j (hi : i < y.2.length) (hj : j < y.2[i].length), Old n y.2[i][j]) (hn : n0 ≤ n) : Shift n0 nt fr σ fr' σ2 := by
  intro C a hF hR
  let D : Cx := ⟨C.μ, fun id v => C.F id v ∧ id < n, Mof C.μ σ2, C.w⟩
  have hMsub : ∀ b, D.M b → C.M b := by
    rintro b ⟨id, v', es, hg, hne, rfl⟩
    exact (hR.M _).2 ⟨id, v', es, (hsub id _ hg).1, hne, rfl⟩
  have hcut : ∀ {x : Ce} {u : Value}, Rp C x u → Old n x → Rp D x u := fun hx ho => Rp.cut (C := C) (D := D) rfl rfl (fun id v hf hlt => ⟨hf, hlt⟩) hMsub hx ho
  refine ⟨D, ⟨rfl, fun id v hlt hf => ⟨⟨hf, by omega⟩, rfl⟩, fun b _ hm => hMsub b hm⟩, ⟨hF.defers, hF.size, fun t x hx => ?_⟩, ⟨fun id v hf => by rw [hnext]; exact hf.2, fun id v' es hg => ?_, fun b => Iff.rfl, fun id v es id' v' es' h1 n1 h2 n2 hb => ?_, fun id v' es hg hne => ?_⟩⟩
  · obtain ⟨y, hy, hz⟩ := h1 t x hx
    obtain ⟨q1, q2⟩ := hF.slot t y hy
    refine ⟨q1, hz.sound (D := D) hR rfl rfl (fun id v hf hlt => ⟨hf, hlt⟩) hMsub (fun id v' es hn hg hne hm => ?_) q2⟩
    obtain ⟨id2, v2, es2, hg2, hne2, hb⟩ := hm
    have g := hsub id2 _ hg2
    have := hR.inj id v' es id2 v2 es2 hg hne g.1 hne2 hb.symm
    omega
  · obtain ⟨g1, g2, _⟩ := hsub id _ hg
    obtain ⟨a1, a2, a3⟩ := hR.live id v' es g1
    exact ⟨⟨a1, g2⟩, fun v1 hv1 => a2 v1 hv1.1, a3⟩
  · exact hR.inj id v es id' v' es' (hsub id _ h1).1 n1 (hsub id' _ h2).1 n2 hb
  · obtain ⟨g1, g2, g3⟩ := hsub id _ hg
    obtain ⟨cs, t, hb, hz, hl, hc⟩ := hR.blk id v' es g1 hne
    refine ⟨cs, t, hb, hz, hl, fun i j hi hj => ?_⟩
    obtain ⟨u, h1, h2⟩ := hc i j hi hj
    exact ⟨u, h1, hcut h2 (g3 i j hi hj)⟩

theorem Old.mono {n m : Nat} (h : n ≤ m) {x : Ce} (ho : Old n x) : Old m x := by
  induction ho with
  | int k i => exact .int k i
  | bool b => exact .bool b
  | str s => exact .str s
  | nilp => exact .nilp
  | nils => exact .nils
  | nilf => exact .nilf
  | emp => exact .emp
  | any => exact .any
  | fz es _ ih => exact .fz es ih
  | fp cs _ ih => exact .fp cs ih
  | sl id v i m c hlt => exact .sl _ _ _ _ _ (by omega)
  | ptr id v i j hlt => exact .ptr _ _ _ _ (by omega)
  | fn f pre cap _ _ ih1 ih2 => exact .fn f pre cap ih1 ih2
/-- A value all of whose cells are known reads as itself. -/
theorem FrzV.refl {σ : Store} {n : Nat} : ∀ {x : AV}, (∀ y ∈ x.all, Old n y) → FrzV σ n x x
  | .c x, h => .c (.same x (h x (by simp [AV.all])))
  | .agg xs, h => .agg rfl fun i hi => .same _ (h _ (by simp [AV.all]))
  | .tup vs, h => .tup rfl fun i hi => FrzV.refl (x := vs[i]) fun y hy => h y (by
      simp only [AV.all]
      have : ∀ (vs : List AV) (i : Nat) (hi : i < vs.length), y ∈ vs[i].all → y ∈ AV.all.allL vs := by
        intro vs
        induction vs with
        | nil => intro i hi; simp at hi
        | cons v r ih =>
          intro i hi hy
          simp only [AV.all.allL, List.mem_append]
          cases i with
          | zero => exact .inl hy
          | succ i => exact .inr (ih i (by simpa using hi) hy)
      exact this vs i hi hy)
  | .un, h => .un _
termination_by x => SizeOf.sizeOf x
decreasing_by
  have := List.sizeOf_lt_of_mem (List.getElem_mem hi)
  simp
  omega

section
variable {P : Program} {n0 nt : Nat} {rets : List RV} {R : AV → Store → Prop} {K : List AK} {fr : Fr} {σ : Store}
/-- A variable that is made, filled and then only read. -/
theorem Go.var {d s i : Nat} {z cs : List Ce} {w : AV} {rest : List AOper} (h0 : n0 ≤ σ.next) (hi : i ≠ d) (hw : look fr i = some w) (hx : w.cells = some cs) (hl : cs.length = s) (hz : z.length = s)
    (h : Go P n0 nt rets R (.ops rest :: K) ((d, .c (.fp cs)) :: fr) σ) : Go P n0 nt rets R (.ops (⟨some d, .op (.alloc z), none⟩ :: ⟨none, .op (.store s (.t d) (.t i)), none⟩ :: rest) :: K) fr σ := by
  refine .old fun ho hS => .op (v := .c (.ptr σ.next 0 0 0)) (σ' := σ.new (0, [z])) rfl rfl (.op (v := .un) (σ' := (σ.new (0, [z])).put σ.next (0, [cs])) rfl ?_ (.shift (fr' := (d, .c (.fp cs)) :: fr) (σ' := σ) ?_ h))
  · have e1 : (Opd.t d).ev (putA fr (some d) (.c (.ptr σ.next 0 0 0))) = some (.c (.ptr σ.next 0 0 0)) := by simp [Opd.ev, putA, look]
    have e0 : (Opd.t i).ev (putA fr (some d) (.c (.ptr σ.next 0 0 0))) = some w := by simp [Opd.ev, putA, look, Ne.symm hi, hw]
    have e2 : (σ.new (0, [z])).get σ.next = some (0, [z]) := new_self rfl
    have e3 : splice z 0 cs = cs := by
      simp only [splice, List.take_zero, List.nil_append, Nat.zero_add]
      rw [List.drop_eq_nil_of_le (by omega)]
      simp
    simp [aop, e1, e0, hx, e2, hl, hz, e3]
  · refine Shift.frz (n := σ.next) (fun t y hy => ?_) rfl (fun id y hg => ?_) h0
    · simp only [look] at hy
      split at hy
      · rename_i e
        subst e
        injection hy with hy
        subst hy
        refine ⟨.c (.ptr σ.next 0 0 0), by simp [putA, look], .c (.ptr σ.next 0 0 0 [cs] cs cs (Nat.le_refl _) (put_self rfl) rfl (by simp) fun k hk => ?_)⟩
        simp only [Nat.zero_add]
        refine .same _ (ho i w hw _ ?_)
        cases w <;> simp [AV.cells] at hx <;> subst hx <;> simp [AV.all]
      · rename_i e
        exact ⟨y, by simp [putA, look, e, hy], .refl (ho t y hy)⟩
    · obtain ⟨q1, q2⟩ := hS id y hg
      refine ⟨?_, q1, q2⟩
      rw [put_ne (by omega), new_ne (by omega)]
      exact hg
/-- .. with a move between. -/
theorem Go.var2 {d s i e : Nat} {z cs : List Ce} {w u : AV} {k : Nat} {rest : List AOper} (h0 : n0 ≤ σ.next) (hi : i ≠ d) (hie : i ≠ e) (hde : d ≠ e) (hyd : k ≠ d) (hy : look fr k = some u) (hw : look fr i = some w) (hx : w.cells = some cs) (hl : cs.length = s) (hz : z.length = s)
    (h : Go P n0 nt rets R (.ops rest :: K) ((e, u) :: (d, .c (.fp cs)) :: fr) σ) : Go P n0 nt rets R (.ops (⟨some d, .op (.alloc z), none⟩ :: ⟨some e, .op (.mv (.t k)), none⟩ :: ⟨none, .op (.store s (.t d) (.t i)), none⟩ :: rest) :: K) fr σ := by
  refine .old fun ho hS => .op (v := .c (.ptr σ.next 0 0 0)) (σ' := σ.new (0, [z])) rfl rfl (.op (v := u) (σ' := σ.new (0, [z])) rfl (by simp [aop, Opd.ev, look, putA, Ne.symm hyd, hy]) (.op (v := .un) (σ' := (σ.new (0, [z])).put σ.next (0, [cs])) rfl ?_ (.shift (fr' := (e, u) :: (d, .c (.fp cs)) :: fr) (σ' := σ) ?_ h)))
  · have e1 : (Opd.t d).ev (putA (putA fr (some d) (.c (.ptr σ.next 0 0 0))) (some e) u) = some (.c (.ptr σ.next 0 0 0)) := by simp [Opd.ev, putA, look, Ne.symm hde]
    have e0 : (Opd.t i).ev (putA (putA fr (some d) (.c (.ptr σ.next 0 0 0))) (some e) u) = some w := by simp [Opd.ev, putA, look, Ne.symm hi, Ne.symm hie, hw]
    have e2 : (σ.new (0, [z])).get σ.next = some (0, [z]) := new_self rfl
    have e3 : splice z 0 cs = cs := by
      simp only [splice, List.take_zero, List.nil_append, Nat.zero_add]
      rw [List.drop_eq_nil_of_le (by omega)]
      simp
    simp [aop, e1, e0, hx, e2, hl, hz, e3]
  · have hu : ∀ c ∈ u.all, Old σ.next c := ho k u hy
    refine Shift.frz (n := σ.next) (fun t y hy => ?_) rfl (fun id y hg => ?_) h0
    · simp only [look] at hy
      split at hy
      · rename_i e1
        subst e1
        injection hy with hy
        subst hy
        exact ⟨u, by simp [putA, look], .refl hu⟩
      · rename_i e1
        split at hy
        · rename_i e
          subst e
          injection hy with hy
          subst hy
          refine ⟨.c (.ptr σ.next 0 0 0), by simp [putA, look, e1], .c (.ptr σ.next 0 0 0 [cs] cs cs (Nat.le_refl _) (put_self rfl) rfl (by simp) fun k hk => ?_)⟩
          simp only [Nat.zero_add]
          refine .same _ (ho i w hw _ ?_)
          cases w <;> simp [AV.cells] at hx <;> subst hx <;> simp [AV.all]
        · rename_i e
          exact ⟨y, by simp [putA, look, e, e1, hy], .refl (ho t y hy)⟩
    · obtain ⟨q1, q2⟩ := hS id y hg
      refine ⟨?_, q1, q2⟩
      rw [put_ne (by omega), new_ne (by omega)]
      exact hg
end

end Go.Proofs.YtcfpdongfdhgjaaGreat.Am

/- The abstract machine, part 22: steps, loops, contracts. -/
set_option linter.unusedVariables false
set_option linter.unusedSimpArgs false
namespace Go.Proofs.YtcfpdongfdhgjaaGreat.Am
open Go.RowKit

/-- A slice with what follows its elements in its block. -/
def vec (id v : Nat) (ys junk : List (List Ce)) : Ce := .sl id v 0 ys.length (ys.length + junk.length)

/-- A cell that leads nowhere. -/
inductive Flat : Ce → Prop where
  | int (k : IntKind) (m : Int) : Flat (.int k m)
  | bool (b : Bool) : Flat (.bool b)
  | str (s : List UInt8) : Flat (.str s)
  | nilp : Flat .nilp
  | nils : Flat .nils
  | nilf : Flat .nilf
  | emp : Flat .emp
  | any : Flat .any
/-- The spare room of a block: cells that lead nowhere. -/
def Jk (s : Nat) (junk : List (List Ce)) : Prop := ∀ e ∈ junk, e.length = s ∧ ∀ x ∈ e, Flat x
theorem Jk.nil {s : Nat} : Jk s [] := fun e he => by simp at he

/-! ### Contracts -/
/-- The call returns r (in words that nobody writes) and leaves the caller's store as it was. -/
structure Pure (P : Program) (f : Nat) (args : List AV) (r : AV) : Prop where
  at_ : ∀ σ, Ok P f args σ (fun r' σ' => r' = r ∧ σ' = σ)
/-- What is frozen at the end. -/
def Fin (σ : Store) (r2 : AV) (r : AV) (σ' : Store) : Prop := ∃ l, σ' = E σ l ∧ FrzV σ' σ.next r r2
theorem Ok.old {P : Program} {fz : List Nat} {f : Nat} {af : AFn} (h : compFn P fz f = some af) {args : List AV} {σ : Store} {Q : AV → Store → Prop} (hk : OldS σ → (∀ x ∈ args, ∀ y ∈ x.all, Old σ.next y) → Ok P f args σ Q) : Ok P f args σ Q := by
  refine ⟨?_, fun C cargs hR ha => ?_⟩
  · unfold compFn at h
    split at h
    · rename_i fn hf
      split at h
      · rename_i c hb
        split at h
        · cases h
        · rename_i hname
          exact ⟨fn, hf, by rw [hb]; rfl, by simpa using hname⟩
      · cases h
    · cases h
  · obtain ⟨hl, hv⟩ := ha
    refine (hk hR.old fun x hx y hy => ?_).2 C cargs hR ⟨hl, hv⟩
    obtain ⟨i, hi, rfl⟩ := List.mem_iff_getElem.1 hx
    exact (hv i hi).old hR.F y hy
/-- A contract out of a run, with what is known at its start. -/
theorem Ok.run {P : Program} (hm : P.follows .mixedOrders = true) {fz : List Nat} {f : Nat} {af : AFn} (h : compFn P fz f = some af) {args : List AV} {σ : Store} {R : AV → Store → Prop} (hn : args.length ≤ af.nt)
    (hg : OldS σ → (∀ x ∈ args, ∀ y ∈ x.all, Old σ.next y) → Go P σ.next af.nt af.rets R [.code af.body] (frOf 0 args) (E σ [])) : Ok P f args σ R :=
  .old h fun hS ha => .of_go hm h hn (by have := hg hS ha; rwa [E_nil hS] at this)
theorem Pure.run {P : Program} (hm : P.follows .mixedOrders = true) {fz : List Nat} {f : Nat} {af : AFn} (h : compFn P fz f = some af) {args : List AV} {r2 : AV} (hn : args.length ≤ af.nt)
    (hg : ∀ σ, OldS σ → (∀ x ∈ args, ∀ y ∈ x.all, Old σ.next y) → Go P σ.next af.nt af.rets (Fin σ r2) [.code af.body] (frOf 0 args) (E σ [])) : Pure P f args r2 := by
  constructor
  intro σ
  refine .old h fun hS ha => ?_
  refine Ok.pure (Ok.run hm h hn (hg σ)) r2 (fun id y hy => (hS id y hy).1) ?_
  rintro r σ1 ⟨l, rfl, hz⟩
  exact ⟨fun id y hy => by rw [E_lt (hS id y hy).1]; exact hy, hz⟩

/-- The call makes one slice anew: its elements ys, and nothing else that is kept. -/
def Made (σ : Store) (s : Nat) (ys : List (List Ce)) (r : AV) (σ' : Store) : Prop := ∃ v junk, Jk s junk ∧ r = .c (vec (σ.next + 0) v ys junk) ∧ σ' = E σ [(v, ys ++ junk)]
structure Makes (P : Program) (f : Nat) (args : List AV) (s : Nat) (ys : List (List Ce)) : Prop where
  at_ : ∀ σ, Ok P f args σ (Made σ s ys)
theorem Makes.run {P : Program} (hm : P.follows .mixedOrders = true) {fz : List Nat} {f : Nat} {af : AFn} (h : compFn P fz f = some af) {args : List AV} {s : Nat} {ys : List (List Ce)} (hn : args.length ≤ af.nt)
    (hg : ∀ σ, OldS σ → (∀ x ∈ args, ∀ y ∈ x.all, Old σ.next y) → Go P σ.next af.nt af.rets (Made σ s ys) [.code af.body] (frOf 0 args) (E σ [])) : Makes P f args s ys :=
  ⟨fun σ => Ok.run hm h hn (hg σ)⟩

theorem Fin.same {σ : Store} {l : List (Nat × List (List Ce))} {r r2 : AV} (e : r = r2) (h : ∀ y ∈ r2.all, Old σ.next y) : Fin σ r2 r (E σ l) := by
  subst e
  exact ⟨l, rfl, .refl h⟩
theorem Fin.bool {σ : Store} {l : List (Nat × List (List Ce))} {b b2 : Bool} (e : b = b2) : Fin σ (.c (.bool b2)) (.c (.bool b)) (E σ l) :=
  .same (by rw [e]) (by intro y hy; simp [AV.all] at hy; subst hy; exact .bool _)
theorem Fin.int {σ : Store} {l : List (Nat × List (List Ce))} {k : IntKind} {b b2 : Int} (e : b = b2) : Fin σ (.c (.int k b2)) (.c (.int k b)) (E σ l) :=
  .same (by rw [e]) (by intro y hy; simp [AV.all] at hy; subst hy; exact .int _ _)
theorem Fin.str {σ : Store} {l : List (Nat × List (List Ce))} {b b2 : List UInt8} (e : b = b2) : Fin σ (.c (.str b2)) (.c (.str b)) (E σ l) :=
  .same (by rw [e]) (by intro y hy; simp [AV.all] at hy; subst hy; exact .str _)

/-! ### Steps -/
section
variable {P : Program} {n0 nt : Nat} {rets : List RV} {R : AV → Store → Prop} {K : List AK} {fr : Fr} {σ : Store}
theorem Go.ite {c : Opd} {a b : AC} (t : Bool) (h : c.ev fr = some (.c (.bool t))) (h1 : t = true → Go P n0 nt rets R (.code a :: K) fr σ) (h2 : t = false → Go P n0 nt rets R (.code b :: K) fr σ) : Go P n0 nt rets R (.code (.cond c a b) :: K) fr σ := by
  refine .cond t h ?_
  cases t
  · exact h2 rfl
  · exact h1 rfl
theorem Go.pcall {d : Option Nat} {f : Opd} {args : List Opd} {g : Option (Nat × Bool)} {rest : List AOper} {n : Nat} {pre cap : List Ce} {vs : List AV} {r : AV} (hw : wants fr g = some true) (hf : f.ev fr = some (.c (.fn n pre cap))) (ha : evs fr args = some vs)
    (hp : Pure P n (pre.map .c ++ vs ++ cap.map .c) r) (h : Go P n0 nt rets R (.ops rest :: K) (putA fr d r) σ) : Go P n0 nt rets R (.ops (⟨d, .call f args, g⟩ :: rest) :: K) fr σ :=
  .call _ hw hf ha (hp.at_ σ) (by rintro r' σ' ⟨rfl, rfl⟩; exact h)
theorem Go.spcall {d : Option Nat} {f : Opd} {args : List Opd} {g : Option (Nat × Bool)} {rest : List (List AOper)} {n : Nat} {pre cap : List Ce} {vs : List AV} {r : AV} (hw : wants fr g = some true) (hf : f.ev fr = some (.c (.fn n pre cap))) (ha : evs fr args = some vs)
    (hp : Pure P n (pre.map .c ++ vs ++ cap.map .c) r) (h : Go P n0 nt rets R (.segs rest :: K) (putA fr d r) σ) : Go P n0 nt rets R (.segs ([⟨d, .call f args, g⟩] :: rest) :: K) fr σ :=
  .scall _ hw hf ha (hp.at_ σ) (by rintro r' σ' ⟨rfl, rfl⟩; exact h)
/-- A segment none of whose operations writes, in the text's order. -/
def Qg (P : Program) (σ : Store) (l : List AOper) (fr : Fr) (Post : Fr → Prop) : Prop := ∃ F, Qs P σ l fr F ∧ Post F
theorem Go.qs {s1 s2 : AOper} {seg : List AOper} {rest : List (List AOper)} (h : Qg P σ (s1 :: s2 :: seg) fr fun F => Go P n0 nt rets R (.segs rest :: K) F σ) : Go P n0 nt rets R (.segs ((s1 :: s2 :: seg) :: rest) :: K) fr σ :=
  let ⟨_, h1, h2⟩ := h
  .quiet h1 h2
theorem Qg.nil {Post : Fr → Prop} (h : Post fr) : Qg P σ [] fr Post := ⟨fr, .nil, h⟩
theorem Qg.op {d : Option Nat} {o : AOp} {g : Option (Nat × Bool)} {rest : List AOper} {v : AV} {Post : Fr → Prop} (hw : wants fr g = some true) (ha : aop o fr σ = some (v, σ)) (h : Qg P σ rest (putA fr d v) Post) : Qg P σ (⟨d, .op o, g⟩ :: rest) fr Post :=
  let ⟨F, h1, h2⟩ := h
  ⟨F, .op hw ha h1, h2⟩
theorem Qg.no {d : Option Nat} {o : AO} {g : Option (Nat × Bool)} {rest : List AOper} {Post : Fr → Prop} (hw : wants fr g = some false) (h : Qg P σ rest (putA fr d (.tup [])) Post) : Qg P σ (⟨d, o, g⟩ :: rest) fr Post :=
  let ⟨F, h1, h2⟩ := h
  ⟨F, .no hw h1, h2⟩
theorem Qg.pcall {d : Option Nat} {f : Opd} {args : List Opd} {g : Option (Nat × Bool)} {rest : List AOper} {n : Nat} {pre cap : List Ce} {vs : List AV} {r : AV} {Post : Fr → Prop} (hw : wants fr g = some true) (hf : f.ev fr = some (.c (.fn n pre cap))) (ha : evs fr args = some vs)
    (hp : Pure P n (pre.map .c ++ vs ++ cap.map .c) r) (h : Qg P σ rest (putA fr d r) Post) : Qg P σ (⟨d, .call f args, g⟩ :: rest) fr Post :=
  let ⟨F, h1, h2⟩ := h
  ⟨F, .call hw hf ha (hp.at_ σ) h1, h2⟩

theorem Go.pcallB {d : Option Nat} {f : Opd} {args : List Opd} {g : Option (Nat × Bool)} {rest : List AOper} {n : Nat} {pre cap : List Ce} {vs : List AV} {B : Bool} (hw : wants fr g = some true) (hf : f.ev fr = some (.c (.fn n pre cap))) (ha : evs fr args = some vs)
    (hp : Pure P n (pre.map .c ++ vs ++ cap.map .c) (.c (.bool B))) (h : ∀ b, B = b → Go P n0 nt rets R (.ops rest :: K) (putA fr d (.c (.bool b))) σ) : Go P n0 nt rets R (.ops (⟨d, .call f args, g⟩ :: rest) :: K) fr σ :=
  Go.pcall hw hf ha hp (h B rfl)
theorem Go.spcallB {d : Option Nat} {f : Opd} {args : List Opd} {g : Option (Nat × Bool)} {rest : List (List AOper)} {n : Nat} {pre cap : List Ce} {vs : List AV} {B : Bool} (hw : wants fr g = some true) (hf : f.ev fr = some (.c (.fn n pre cap))) (ha : evs fr args = some vs)
    (hp : Pure P n (pre.map .c ++ vs ++ cap.map .c) (.c (.bool B))) (h : ∀ b, B = b → Go P n0 nt rets R (.segs rest :: K) (putA fr d (.c (.bool b))) σ) : Go P n0 nt rets R (.segs ([⟨d, .call f args, g⟩] :: rest) :: K) fr σ :=
  Go.spcall hw hf ha hp (h B rfl)
theorem Qg.pcallB {d : Option Nat} {f : Opd} {args : List Opd} {g : Option (Nat × Bool)} {rest : List AOper} {n : Nat} {pre cap : List Ce} {vs : List AV} {B : Bool} {Post : Fr → Prop} (hw : wants fr g = some true) (hf : f.ev fr = some (.c (.fn n pre cap))) (ha : evs fr args = some vs)
    (hp : Pure P n (pre.map .c ++ vs ++ cap.map .c) (.c (.bool B))) (h : ∀ b, B = b → Qg P σ rest (putA fr d (.c (.bool b))) Post) : Qg P σ (⟨d, .call f args, g⟩ :: rest) fr Post :=
  Qg.pcall hw hf ha hp (h B rfl)
theorem Go.pcallI {d : Option Nat} {f : Opd} {args : List Opd} {g : Option (Nat × Bool)} {rest : List AOper} {n : Nat} {pre cap : List Ce} {vs : List AV} {k : IntKind} {B : Int} (hw : wants fr g = some true) (hf : f.ev fr = some (.c (.fn n pre cap))) (ha : evs fr args = some vs)
    (hp : Pure P n (pre.map .c ++ vs ++ cap.map .c) (.c (.int k B))) (h : ∀ b, B = b → Go P n0 nt rets R (.ops rest :: K) (putA fr d (.c (.int k b))) σ) : Go P n0 nt rets R (.ops (⟨d, .call f args, g⟩ :: rest) :: K) fr σ :=
  Go.pcall hw hf ha hp (h B rfl)
theorem Go.spcallI {d : Option Nat} {f : Opd} {args : List Opd} {g : Option (Nat × Bool)} {rest : List (List AOper)} {n : Nat} {pre cap : List Ce} {vs : List AV} {k : IntKind} {B : Int} (hw : wants fr g = some true) (hf : f.ev fr = some (.c (.fn n pre cap))) (ha : evs fr args = some vs)
    (hp : Pure P n (pre.map .c ++ vs ++ cap.map .c) (.c (.int k B))) (h : ∀ b, B = b → Go P n0 nt rets R (.segs rest :: K) (putA fr d (.c (.int k b))) σ) : Go P n0 nt rets R (.segs ([⟨d, .call f args, g⟩] :: rest) :: K) fr σ :=
  Go.spcall hw hf ha hp (h B rfl)
theorem Qg.pcallI {d : Option Nat} {f : Opd} {args : List Opd} {g : Option (Nat × Bool)} {rest : List AOper} {n : Nat} {pre cap : List Ce} {vs : List AV} {k : IntKind} {B : Int} {Post : Fr → Prop} (hw : wants fr g = some true) (hf : f.ev fr = some (.c (.fn n pre cap))) (ha : evs fr args = some vs)
    (hp : Pure P n (pre.map .c ++ vs ++ cap.map .c) (.c (.int k B))) (h : ∀ b, B = b → Qg P σ rest (putA fr d (.c (.int k b))) Post) : Qg P σ (⟨d, .call f args, g⟩ :: rest) fr Post :=
  Qg.pcall hw hf ha hp (h B rfl)
theorem look_again {t : Nat} {x : AV} (h : look fr t = some x) (u : Nat) : look ((t, x) :: fr) u = look fr u := by
  simp only [look]
  split
  · rename_i e; subst e; exact h.symm
  · rfl
theorem Go.same {fr' : Fr} (h : ∀ t, look fr' t = look fr t) (hg : Go P n0 nt rets R K fr' σ) : Go P n0 nt rets R K fr σ :=
  .shift (fun C a hF hR => ⟨C, ⟨rfl, fun _ _ _ h => ⟨h, rfl⟩, fun _ _ h => h⟩, ⟨hF.defers, hF.size, fun t x hx => hF.slot t x (by rw [← h t]; exact hx)⟩, hR⟩) hg
/-- Is a guard's condition true? -/
theorem Go.guard {d : Option Nat} {o : AO} {t : Nat} {b : Bool} {rest : List AOper} (B : Bool) (h : look fr t = some (.c (.bool B))) (h1 : B = true → Go P n0 nt rets R (.ops (⟨d, o, some (t, b)⟩ :: rest) :: K) ((t, .c (.bool true)) :: fr) σ) (h2 : B = false → Go P n0 nt rets R (.ops (⟨d, o, some (t, b)⟩ :: rest) :: K) ((t, .c (.bool false)) :: fr) σ) :
    Go P n0 nt rets R (.ops (⟨d, o, some (t, b)⟩ :: rest) :: K) fr σ := by
  cases B
  · exact .same (look_again h) (h2 rfl)
  · exact .same (look_again h) (h1 rfl)
theorem Go.sguard {d : Option Nat} {o : AO} {t : Nat} {b : Bool} {rest : List (List AOper)} (B : Bool) (h : look fr t = some (.c (.bool B))) (h1 : B = true → Go P n0 nt rets R (.segs ([⟨d, o, some (t, b)⟩] :: rest) :: K) ((t, .c (.bool true)) :: fr) σ) (h2 : B = false → Go P n0 nt rets R (.segs ([⟨d, o, some (t, b)⟩] :: rest) :: K) ((t, .c (.bool false)) :: fr) σ) :
    Go P n0 nt rets R (.segs ([⟨d, o, some (t, b)⟩] :: rest) :: K) fr σ := by
  cases B
  · exact .same (look_again h) (h2 rfl)
  · exact .same (look_again h) (h1 rfl)
theorem Qg.guard {d : Option Nat} {o : AO} {t : Nat} {b : Bool} {rest : List AOper} {Post : Fr → Prop} (B : Bool) (h : look fr t = some (.c (.bool B))) (h1 : B = true → Qg P σ (⟨d, o, some (t, b)⟩ :: rest) ((t, .c (.bool true)) :: fr) Post) (h2 : B = false → Qg P σ (⟨d, o, some (t, b)⟩ :: rest) ((t, .c (.bool false)) :: fr) Post) :
    Qg P σ (⟨d, o, some (t, b)⟩ :: rest) fr Post := by
  have key : ∀ {fr'}, (∀ t, look fr' t = look fr t) → Qg P σ (⟨d, o, some (t, b)⟩ :: rest) fr' Post → Qg P σ (⟨d, o, some (t, b)⟩ :: rest) fr Post := fun he ⟨F, q1, q2⟩ => ⟨F, .same he q1, q2⟩
  cases B
  · exact key (look_again h) (h2 rfl)
  · exact key (look_again h) (h1 rfl)
/-- A loop, by a number that falls. -/
theorem Go.loops {body : AC} {I : Nat → Fr → Store → Prop} (h : ∀ m fr σ, I m fr σ → (∀ m' fr' σ', m' < m → I m' fr' σ' → Go P n0 nt rets R (.lp body :: K) fr' σ') → Go P n0 nt rets R (.code body :: .lp body :: K) fr σ)
    (m : Nat) (fr : Fr) (σ : Store) (hI : I m fr σ) : Go P n0 nt rets R (.code (.loop body) :: K) fr σ := by
  have key : ∀ m fr σ, I m fr σ → Go P n0 nt rets R (.code body :: .lp body :: K) fr σ := by
    intro m
    induction m using Nat.strongRecOn with
    | _ m ih => exact fun fr σ hI => h m fr σ hI fun m' fr' σ' hlt hI' => .lp (ih m' hlt fr' σ' hI')
  exact .loop (key m fr σ hI)

/-! ### Operations, in these words -/
theorem aop_new {l : List (Nat × List (List Ce))} {x : Opd} {v : AV} {cs : List Ce} (hx : x.ev fr = some v) (hc : v.cells = some cs) : aop (.box false x) fr (E σ l) = some (.c (.ptr (σ.next + l.length) 0 0 0), E σ (l ++ [(0, [cs])])) := by
  simp [aop, hx, hc, E_new, E_next]
theorem aop_alloc {l : List (Nat × List (List Ce))} {z : List Ce} : aop (.alloc z) fr (E σ l) = some (.c (.ptr (σ.next + l.length) 0 0 0), E σ (l ++ [(0, [z])])) := by
  simp [aop, E_new, E_next]
theorem aop_mksl {l : List (Nat × List (List Ce))} {s n : Nat} {z : List Ce} {ps : List (Nat × Opd)} {es : List (List Ce)} (h : fillS fr s (List.replicate n z) ps = some es) : aop (.mksl false s n z ps) fr (E σ l) = some (.c (.sl (σ.next + l.length) 0 0 n n), E σ (l ++ [(0, es)])) := by
  simp [aop, h, E_new, E_next]
theorem aop_load {l : List (Nat × List (List Ce))} {g : Bool} {s k v i j : Nat} {a : Opd} {es : List (List Ce)} {e : List Ce} {x : AV} (ha : a.ev fr = some (.c (.ptr (σ.next + k) v i j))) (hl : l[k]? = some (v, es)) (he : es[i]? = some e) (hj : j ≤ e.length) (hx : takeA g s (e.drop j) = some x) :
    aop (.load g s a) fr (E σ l) = some (x, E σ l) := by
  simp [aop, ha, Store.at_, E_at, hl, he, hj, hx]
theorem aop_store {l : List (Nat × List (List Ce))} {s k v i j : Nat} {a y : Opd} {es : List (List Ce)} {e cs : List Ce} {x : AV} (ha : a.ev fr = some (.c (.ptr (σ.next + k) v i j))) (hy : y.ev fr = some x) (hc : x.cells = some cs) (hl : l[k]? = some (v, es)) (he : es[i]? = some e) (hs : cs.length = s) (hj : j + s ≤ e.length) :
    aop (.store s a y) fr (E σ l) = some (.un, E σ (l.set k (v, es.set i (splice e j cs)))) := by
  have hk : k < l.length := (List.getElem?_eq_some_iff.1 hl).1
  simp [aop, ha, hy, hc, E_at, hl, he, hs, hj, E_put hk]
theorem aop_iaddr {l : List (Nat × List (List Ce))} {s k v i m c n : Nat} {x y : Opd} {kd : IntKind} {es : List (List Ce)} {z : Int} (hx : x.ev fr = some (.c (.sl (σ.next + k) v i m c))) (hy : y.ev fr = some (.c (.int kd z))) (hz : z = (n : Int)) (hn : n < m) (hl : l[k]? = some (v, es)) {e : List Ce} (he : es[i + n]? = some e) (hs : e.length = s) :
    aop (.iaddr s x y) fr (E σ l) = some (.c (.ptr (σ.next + k) v (i + n) 0), E σ l) := by
  subst hz
  simp [aop, hx, hy, iaddrA, hn, E_at, hl, he, hs]
theorem aop_iaddrF {τ : Store} {s n : Nat} {x y : Opd} {kd : IntKind} {es : List (List Ce)} {z : Int} {e : List Ce} (hx : x.ev fr = some (.c (.fz es))) (hy : y.ev fr = some (.c (.int kd z))) (hz : z = (n : Int)) (he : es[n]? = some e) (hs : e.length = s) :
    aop (.iaddr s x y) fr τ = some (.c (.fp e), τ) := by
  subst hz
  simp [aop, hx, hy, iaddrA, he, hs]

theorem aop_iaddrM {τ : Store} {α : Type} {enc : α → List Ce} {xs : List α} {s n : Nat} {x y : Opd} {kd : IntKind} {z : Int} (hx : x.ev fr = some (.c (.fz (xs.map enc)))) (hy : y.ev fr = some (.c (.int kd z))) (hz : z = (n : Int)) (hn : n < xs.length) (hs : (enc xs[n]).length = s) :
    aop (.iaddr s x y) fr τ = some (.c (.fp (enc xs[n])), τ) :=
  aop_iaddrF hx hy hz (by simp [hn]) hs

theorem aop_lenM {τ : Store} {α : Type} {enc : α → List Ce} {xs : List α} {x : Opd} (hx : x.ev fr = some (.c (.fz (xs.map enc)))) : aop (.len false x) fr τ = some (.c (.int .i64 (xs.length : Int)), τ) := by
  simp [aop, hx]

theorem aop_app {l : List (Nat × List (List Ce))} {s bytes k v : Nat} {x y : Opd} {u : Ce} {ys junk zs : List (List Ce)} (hx : x.ev fr = some (.c (vec (σ.next + k) v ys junk))) (hy : y.ev fr = some (.c u)) (hu : (E σ l).els u = some zs) (hl : l[k]? = some (v, ys ++ junk))
    (hys : ∀ e ∈ ys, e.length = s) (hj : Jk s junk) (hzs : ∀ e ∈ zs, e.length = s) (hb : (ys.length + zs.length) * bytes ≤ 140737488355328) :
    ∃ v' junk', Jk s junk' ∧ aop (.app s bytes x y) fr (E σ l) = some (.c (vec (σ.next + k) v' (ys ++ zs) junk'), E σ (l.set k (v', ys ++ zs ++ junk'))) := by
  have hk : k < l.length := (List.getElem?_eq_some_iff.1 hl).1
  have hall : ∀ e ∈ ys ++ junk, e.length = s := by
    intro e he
    rcases List.mem_append.1 he with h | h
    · exact hys e h
    · exact (hj e h).1
  have hns : ∀ b, u ≠ .str b := by
    rintro b rfl
    simp [Store.els] at hu
  have h0 : aop (.app s bytes x y) fr (E σ l) = (((E σ l).els u).bind (appA (E σ l) s bytes (vec (σ.next + k) v ys junk))).map fun r => (.c r.1, r.2) := by
    simp only [aop, hx, hy]
  rw [h0, hu]
  simp only [Option.bind_some]
  by_cases c : zs.length ≤ junk.length
  · refine ⟨v, junk.drop zs.length, fun e he => hj e (List.mem_of_mem_drop he), ?_⟩
    have e2 : splice (ys ++ junk) (0 + ys.length) zs = ys ++ zs ++ junk.drop zs.length := by
      simp only [splice, Nat.zero_add, List.take_left', List.drop_append, Nat.add_sub_cancel_left]
      rw [List.drop_eq_nil_of_le (by omega)]
      simp
    have c2 : ys.length + zs.length ≤ ys.length + junk.length := by omega
    have e1 : appA (E σ l) s bytes (vec (σ.next + k) v ys junk) zs = some (.sl (σ.next + k) v 0 (ys.length + zs.length) (ys.length + junk.length), (E σ l).put (σ.next + k) (v, splice (ys ++ junk) (0 + ys.length) zs)) := by
      unfold appA vec
      rw [if_pos hzs]
      simp only [E_at, hl]
      rw [if_pos ⟨trivial, by simp, by omega, hall⟩, if_pos c2]
    rw [e1, e2, E_put hk]
    simp only [Option.map_some, vec, List.length_append, List.length_drop]
    rw [show ys.length + zs.length + (junk.length - zs.length) = ys.length + junk.length by omega]
  · refine ⟨v + 1, [], Jk.nil, ?_⟩
    have c2 : ¬ ys.length + zs.length ≤ ys.length + junk.length := by omega
    have e1 : appA (E σ l) s bytes (vec (σ.next + k) v ys junk) zs = some (.sl (σ.next + k) (v + 1) 0 (ys.length + zs.length) (ys.length + zs.length), (E σ l).put (σ.next + k) (v + 1, ((ys ++ junk).drop 0).take ys.length ++ zs)) := by
      unfold appA vec
      rw [if_pos hzs]
      simp only [E_at, hl]
      rw [if_pos ⟨trivial, by simp, by omega, hall⟩, if_neg c2, if_pos hb]
    rw [e1, E_put hk]
    simp [vec]
theorem Go.app {d : Option Nat} {g : Option (Nat × Bool)} {rest : List AOper} {l : List (Nat × List (List Ce))} {s bytes k v : Nat} {x y : Opd} {u : Ce} {ys junk zs : List (List Ce)} (hw : wants fr g = some true) (hx : x.ev fr = some (.c (vec (σ.next + k) v ys junk))) (hy : y.ev fr = some (.c u)) (hu : (E σ l).els u = some zs) (hl : l[k]? = some (v, ys ++ junk))
    (hys : ∀ e ∈ ys, e.length = s) (hj : Jk s junk) (hzs : ∀ e ∈ zs, e.length = s) (hb : (ys.length + zs.length) * bytes ≤ 140737488355328)
    (h : ∀ v' junk', Jk s junk' → Go P n0 nt rets R (.ops rest :: K) (putA fr d (.c (vec (σ.next + k) v' (ys ++ zs) junk'))) (E σ (l.set k (v', ys ++ zs ++ junk')))) :
    Go P n0 nt rets R (.ops (⟨d, .op (.app s bytes x y), g⟩ :: rest) :: K) fr (E σ l) := by
  obtain ⟨v', junk', h1, h2⟩ := aop_app hx hy hu hl hys hj hzs hb
  exact .op hw h2 (h v' junk' h1)
theorem Go.sapp {d : Option Nat} {g : Option (Nat × Bool)} {rest : List (List AOper)} {l : List (Nat × List (List Ce))} {s bytes k v : Nat} {x y : Opd} {u : Ce} {ys junk zs : List (List Ce)} (hw : wants fr g = some true) (hx : x.ev fr = some (.c (vec (σ.next + k) v ys junk))) (hy : y.ev fr = some (.c u)) (hu : (E σ l).els u = some zs) (hl : l[k]? = some (v, ys ++ junk))
    (hys : ∀ e ∈ ys, e.length = s) (hj : Jk s junk) (hzs : ∀ e ∈ zs, e.length = s) (hb : (ys.length + zs.length) * bytes ≤ 140737488355328)
    (h : ∀ v' junk', Jk s junk' → Go P n0 nt rets R (.segs rest :: K) (putA fr d (.c (vec (σ.next + k) v' (ys ++ zs) junk'))) (E σ (l.set k (v', ys ++ zs ++ junk')))) :
    Go P n0 nt rets R (.segs ([⟨d, .op (.app s bytes x y), g⟩] :: rest) :: K) fr (E σ l) := by
  obtain ⟨v', junk', h1, h2⟩ := aop_app hx hy hu hl hys hj hzs hb
  exact .sop hw h2 (h v' junk' h1)
theorem Go.app1 {d : Option Nat} {g : Option (Nat × Bool)} {rest : List AOper} {l : List (Nat × List (List Ce))} {s bytes k v : Nat} {x y : Opd} {u : Ce} {ys junk : List (List Ce)} {z : List Ce} (hw : wants fr g = some true) (hx : x.ev fr = some (.c (vec (σ.next + k) v ys junk))) (hy : y.ev fr = some (.c u)) (hu : (E σ l).els u = some [z]) (hl : l[k]? = some (v, ys ++ junk))
    (hys : ∀ e ∈ ys, e.length = s) (hj : Jk s junk) (hzs : z.length = s) (hb : (ys.length + 1) * bytes ≤ 140737488355328)
    (h : ∀ v' junk', Jk s junk' → Go P n0 nt rets R (.ops rest :: K) (putA fr d (.c (vec (σ.next + k) v' (ys ++ [z]) junk'))) (E σ (l.set k (v', ys ++ [z] ++ junk')))) :
    Go P n0 nt rets R (.ops (⟨d, .op (.app s bytes x y), g⟩ :: rest) :: K) fr (E σ l) :=
  Go.app hw hx hy hu hl hys hj (by intro e he; simp at he; subst he; exact hzs) (by simpa using hb) h
theorem Go.sapp1 {d : Option Nat} {g : Option (Nat × Bool)} {rest : List (List AOper)} {l : List (Nat × List (List Ce))} {s bytes k v : Nat} {x y : Opd} {u : Ce} {ys junk : List (List Ce)} {z : List Ce} (hw : wants fr g = some true) (hx : x.ev fr = some (.c (vec (σ.next + k) v ys junk))) (hy : y.ev fr = some (.c u)) (hu : (E σ l).els u = some [z]) (hl : l[k]? = some (v, ys ++ junk))
    (hys : ∀ e ∈ ys, e.length = s) (hj : Jk s junk) (hzs : z.length = s) (hb : (ys.length + 1) * bytes ≤ 140737488355328)
    (h : ∀ v' junk', Jk s junk' → Go P n0 nt rets R (.segs rest :: K) (putA fr d (.c (vec (σ.next + k) v' (ys ++ [z]) junk'))) (E σ (l.set k (v', ys ++ [z] ++ junk')))) :
    Go P n0 nt rets R (.segs ([⟨d, .op (.app s bytes x y), g⟩] :: rest) :: K) fr (E σ l) :=
  Go.sapp hw hx hy hu hl hys hj (by intro e he; simp at he; subst he; exact hzs) (by simpa using hb) h
end

theorem wrap64 {n : Int} (h1 : -9223372036854775808 ≤ n) (h2 : n ≤ 9223372036854775807) : IntKind.i64.wrap n = n := by
  rw [IntKind.wrap_i64]
  omega

theorem wrap_succ {n : Int} {i : Nat} (h : n = i) (hb : i + 1 ≤ 34359738368) : IntKind.i64.wrap (n + 1) = ((i + 1 : Nat) : Int) := by
  rw [wrap64 (by omega) (by omega)]
  omega

theorem wrap_pred {n : Int} {i : Nat} (h : n = ((i + 1 : Nat) : Int)) (hb : i + 1 ≤ 34359738368) : IntKind.i64.wrap (n - 1) = (i : Int) := by
  rw [wrap64 (by omega) (by omega)]
  omega

/-! ### Short words for what is printed at every place -/
section
variable {P : Program} {n0 nt : Nat} {rets : List RV} {R : AV → Store → Prop} {K : List AK} {fr : Fr} {σ : Store}
/-- Steps that only turn the text. -/
def adm (fr : Fr) : List AK → Option (List AK)
  | .code .skip :: K => some K
  | .code (.seq a b) :: K => some (.code a :: .code b :: K)
  | .code (.region l) :: K => some (.ops l :: K)
  | .code (.draw s) :: K => some (.segs s :: K)
  | .code (.block id c) :: K => some (.code c :: .blk id :: K)
  | .code (.exit id) :: K => exitA id K
  | .code (.cond c a b) :: K => match c.ev fr with
    | some (.c (.bool true)) => some (.code a :: K)
    | some (.c (.bool false)) => some (.code b :: K)
    | _ => none
  | .blk _ :: K => some K
  | .ops [] :: K => some K
  | .segs [] :: K => some K
  | _ => none
theorem Go.adm {K' : List AK} (h : adm fr K = some K') (g : Go P n0 nt rets R K' fr σ) : Go P n0 nt rets R K fr σ := by
  unfold Am.adm at h
  split at h
  · injection h with h; subst h; exact .skip g
  · injection h with h; subst h; exact .seq g
  · injection h with h; subst h; exact .region g
  · injection h with h; subst h; exact .draw g
  · injection h with h; subst h; exact .block g
  · exact .exit h g
  · split at h
    · rename_i hc; injection h with h; subst h; exact .cond true hc g
    · rename_i hc; injection h with h; subst h; exact .cond false hc g
    · cases h
  · injection h with h; subst h; exact .blk g
  · injection h with h; subst h; exact .nil g
  · injection h with h; subst h; exact .segs g
  · cases h
/-- What a condition says. -/
inductive Bq : Bool → Prop → Prop → Prop where
  | d {p : Prop} {i : Decidable p} : Bq (@decide p i) p (¬ p)
  | e {x y : Int} : Bq (x == y) (x = y) (¬ x = y)
  | n {x y : Int} : Bq (x != y) (¬ x = y) (x = y)
  | b {B : Bool} : Bq B (B = true) (B = false)
theorem Bq.yes {B : Bool} {p r : Prop} (q : Bq B p r) (h : B = true) : p := by
  cases q
  · exact of_decide_eq_true h
  · exact eq_of_beq h
  · simpa using h
  · exact h
theorem Bq.no {B : Bool} {p r : Prop} (q : Bq B p r) (h : B = false) : r := by
  cases q
  · exact of_decide_eq_false h
  · simpa using h
  · simpa using h
  · exact h
theorem bqt : Bq true (true = true) (true = false) := .b
theorem bqf : Bq false (false = true) (false = false) := .b
theorem Go.iQ {c : Opd} {a b : AC} {B : Bool} {p r : Prop} (h : c.ev fr = some (.c (.bool B))) (q : Bq B p r) (h1 : p → Go P n0 nt rets R (.code a :: K) fr σ) (h2 : r → Go P n0 nt rets R (.code b :: K) fr σ) : Go P n0 nt rets R (.code (.cond c a b) :: K) fr σ :=
  .ite B h (fun e => h1 (q.yes e)) (fun e => h2 (q.no e))
theorem Go.gQ {d : Option Nat} {o : AO} {t : Nat} {b : Bool} {rest : List AOper} {B : Bool} {p r : Prop} (h : look fr t = some (.c (.bool B))) (q : Bq B p r) (h1 : p → Go P n0 nt rets R (.ops (⟨d, o, some (t, b)⟩ :: rest) :: K) ((t, .c (.bool true)) :: fr) σ) (h2 : r → Go P n0 nt rets R (.ops (⟨d, o, some (t, b)⟩ :: rest) :: K) ((t, .c (.bool false)) :: fr) σ) :
    Go P n0 nt rets R (.ops (⟨d, o, some (t, b)⟩ :: rest) :: K) fr σ := .guard B h (fun e => h1 (q.yes e)) (fun e => h2 (q.no e))
theorem Go.sQ {d : Option Nat} {o : AO} {t : Nat} {b : Bool} {rest : List (List AOper)} {B : Bool} {p r : Prop} (h : look fr t = some (.c (.bool B))) (q : Bq B p r) (h1 : p → Go P n0 nt rets R (.segs ([⟨d, o, some (t, b)⟩] :: rest) :: K) ((t, .c (.bool true)) :: fr) σ) (h2 : r → Go P n0 nt rets R (.segs ([⟨d, o, some (t, b)⟩] :: rest) :: K) ((t, .c (.bool false)) :: fr) σ) :
    Go P n0 nt rets R (.segs ([⟨d, o, some (t, b)⟩] :: rest) :: K) fr σ := .sguard B h (fun e => h1 (q.yes e)) (fun e => h2 (q.no e))
theorem Qg.gQ {d : Option Nat} {o : AO} {t : Nat} {b : Bool} {rest : List AOper} {Post : Fr → Prop} {B : Bool} {p r : Prop} (h : look fr t = some (.c (.bool B))) (q : Bq B p r) (h1 : p → Qg P σ (⟨d, o, some (t, b)⟩ :: rest) ((t, .c (.bool true)) :: fr) Post) (h2 : r → Qg P σ (⟨d, o, some (t, b)⟩ :: rest) ((t, .c (.bool false)) :: fr) Post) :
    Qg P σ (⟨d, o, some (t, b)⟩ :: rest) fr Post := .guard B h (fun e => h1 (q.yes e)) (fun e => h2 (q.no e))
theorem Go.v2 {d s i : Nat} {e : Nat} {z cs : List Ce} {w u : AV} {k : Nat} {rest : List AOper} (h0 : n0 ≤ σ.next) (hh : (i != d && i != e && d != e && k != d) = true) (hy : look fr k = some u) (hw : look fr i = some w) (hx : w.cells = some cs) (hl : cs.length = s) (hz : z.length = s)
    (h : Go P n0 nt rets R (.ops rest :: K) ((e, u) :: (d, .c (.fp cs)) :: fr) σ) : Go P n0 nt rets R (.ops (⟨some d, .op (.alloc z), none⟩ :: ⟨some e, .op (.mv (.t k)), none⟩ :: ⟨none, .op (.store s (.t d) (.t i)), none⟩ :: rest) :: K) fr σ := by
  simp only [Bool.and_eq_true, bne_iff_ne] at hh
  exact .var2 h0 hh.1.1.1 hh.1.1.2 hh.1.2 hh.2 hy hw hx hl hz h
theorem Go.v1 {d s i : Nat} {z cs : List Ce} {w : AV} {rest : List AOper} (h0 : n0 ≤ σ.next) (hi : (i != d) = true) (hi : true = true) (hw : look fr i = some w) (hx : w.cells = some cs) (hl : cs.length = s) (hz : z.length = s)
    (h : Go P n0 nt rets R (.ops rest :: K) ((d, .c (.fp cs)) :: fr) σ) : Go P n0 nt rets R (.ops (⟨some d, .op (.alloc z), none⟩ :: ⟨none, .op (.store s (.t d) (.t i)), none⟩ :: rest) :: K) fr σ := by
  rename_i hh
  simp only [bne_iff_ne] at hh
  exact .var h0 hh hw hx hl hz h
theorem aL {l : List (Nat × List (List Ce))} {g : Bool} {s k v i j : Nat} {a : Opd} {es : List (List Ce)} {e : List Ce} {x : AV} (ha : a.ev fr = some (.c (.ptr (σ.next + k) v i j))) (hl : l[k]? = some (v, es)) (he : es[i]? = some e) (hj : Nat.ble j e.length = true) (hx : takeA g s (e.drop j) = some x) :
    aop (.load g s a) fr (E σ l) = some (x, E σ l) := aop_load ha hl he (Nat.le_of_ble_eq_true hj) hx
theorem aS {l : List (Nat × List (List Ce))} {s k v i j : Nat} {a y : Opd} {es : List (List Ce)} {e cs : List Ce} {x : AV} (ha : a.ev fr = some (.c (.ptr (σ.next + k) v i j))) (hy : y.ev fr = some x) (hc : x.cells = some cs) (hl : l[k]? = some (v, es)) (he : es[i]? = some e) (hs : cs.length = s) (hj : Nat.ble (j + s) e.length = true) :
    aop (.store s a y) fr (E σ l) = some (.un, E σ (l.set k (v, es.set i (splice e j cs)))) := aop_store ha hy hc hl he hs (Nat.le_of_ble_eq_true hj)
theorem leAdd {a b : Nat} : a ≤ a + b := Nat.le_add_right a b
end
end Go.Proofs.YtcfpdongfdhgjaaGreat.Am

/- Values: contracts of the functions that know them. -/
set_option linter.unusedVariables false
set_option linter.unusedSimpArgs false
namespace Go.Proofs.YtcfpdongfdhgjaaGreat.Am
theorem mixed : Tryz.prog.follows .mixedOrders = true := Tryz.checked.mixed

structure Val where
  k : Int
  n : Int
  s : List UInt8
  deriving DecidableEq
def encV (v : Val) : List Ce := [.int .i64 v.k, .int .i64 v.n, .str v.s]
def isIn (n lo hi : Int) : Bool := decide (lo ≤ n) && decide (n ≤ hi)
def okVal (v : Val) : Bool := (v.k == 0 && v.n == 0 && v.s == []) || (v.k == 1 && isIn v.n (-1000000000) 1000000000 && v.s == []) || (v.k == 2 && v.n == 0 && decide ((v.s.length : Int) ≤ 12))
def cmpI (a b : Int) : Int := if a < b then -1 else if b < a then 1 else 0
def cmpS (a b : List UInt8) : Int := if bytesLt a b then -1 else if a == b then 0 else 1
def orI : List Int → Int
  | [] => 0
  | n :: r => if n = 0 then orI r else n
def encI (n : Int) : List Ce := [.int .i64 n]
def order (v w : Val) : Int := orI [cmpI v.k w.k, cmpI v.n w.n, cmpS v.s w.s]

theorem in_ok (n lo hi : Int) : Pure Tryz.prog 148 [.c (.int .i64 n), .c (.int .i64 lo), .c (.int .i64 hi)] (.c (.bool (isIn n lo hi))) := by
  refine Pure.run mixed c_impl_in_ok (Nat.le_of_ble_eq_true rfl) fun σ hS hA => ?_
  clear hS hA
  repeat' first | (apply Go.adm; exact rfl) | apply Go.qs | apply Qg.nil | ((first | apply Go.v2 | apply Go.v1); (first | exact leAdd | assumption); iterate 6 exact rfl) | ((first | apply Go.op | apply Go.sop | apply Qg.op); exact rfl; (first | exact aop_alloc | exact aop_new rfl rfl | exact aop_mksl rfl | exact aop_lenM rfl | exact rfl | exact aL rfl rfl rfl rfl rfl | exact aS rfl rfl rfl rfl rfl rfl rfl)) | ((first | apply Go.no | apply Go.sno | apply Qg.no); exact rfl) | (exfalso; omega) | (((first | apply Go.iQ | apply Go.gQ | apply Go.sQ | apply Qg.gQ); exact rfl; (first | exact .d | exact .e | exact .n | ((fail_if_success exact bqt); (fail_if_success exact bqf); exact .b))) <;> intro _)
  all_goals refine .ret rfl (.bool ?_)
  all_goals (simp_all [isIn] <;> omega)
theorem l1In_ok (n lo hi : Int) : Pure Tryz.prog 105 [.c (.int .i64 n), .c (.int .i64 lo), .c (.int .i64 hi)] (.c (.bool (isIn n lo hi))) := by
  refine Pure.run mixed c_spec_l1In_ok (Nat.le_of_ble_eq_true rfl) fun σ hS hA => ?_
  clear hS hA
  repeat' first | (apply Go.adm; exact rfl) | apply Go.qs | apply Qg.nil | ((first | apply Go.v2 | apply Go.v1); (first | exact leAdd | assumption); iterate 6 exact rfl) | ((first | apply Go.op | apply Go.sop | apply Qg.op); exact rfl; (first | exact aop_alloc | exact aop_new rfl rfl | exact aop_mksl rfl | exact aop_lenM rfl | exact rfl | exact aL rfl rfl rfl rfl rfl | exact aS rfl rfl rfl rfl rfl rfl rfl)) | ((first | apply Go.no | apply Go.sno | apply Qg.no); exact rfl) | (exfalso; omega) | (((first | apply Go.iQ | apply Go.gQ | apply Go.sQ | apply Qg.gQ); exact rfl; (first | exact .d | exact .e | exact .n | ((fail_if_success exact bqt); (fail_if_success exact bqf); exact .b))) <;> intro _)
  all_goals refine .ret rfl (.bool ?_)
  all_goals (simp_all [isIn] <;> omega)
theorem ValOk_ok (v : Val) : Pure Tryz.prog 280 [.agg (encV v)] (.c (.bool (okVal v))) := by
  refine Pure.run mixed c_impl_ValOk_ok (Nat.le_of_ble_eq_true rfl) fun σ hS hA => ?_
  clear hS hA
  repeat' first | (apply Go.adm; exact rfl) | apply Go.qs | apply Qg.nil | ((first | apply Go.v2 | apply Go.v1); (first | exact leAdd | assumption); iterate 6 exact rfl) | ((first | apply Go.op | apply Go.sop | apply Qg.op); exact rfl; (first | exact aop_alloc | exact aop_new rfl rfl | exact aop_mksl rfl | exact aop_lenM rfl | exact rfl | exact aL rfl rfl rfl rfl rfl | exact aS rfl rfl rfl rfl rfl rfl rfl)) | ((first | apply Go.no | apply Go.sno | apply Qg.no); exact rfl) | ((first | apply Go.pcallB | apply Go.spcallB | apply Qg.pcallB); (iterate 3 exact rfl); exact in_ok _ _ _; intro _ _) | (exfalso; omega) | (((first | apply Go.iQ | apply Go.gQ | apply Go.sQ | apply Qg.gQ); exact rfl; (first | exact .d | exact .e | exact .n | ((fail_if_success exact bqt); (fail_if_success exact bqf); exact .b))) <;> intro _)
  all_goals refine .ret rfl (.bool ?_)
  all_goals simp_all [okVal]
theorem sValOk_ok (v : Val) : Pure Tryz.prog 276 [.agg (encV v)] (.c (.bool (okVal v))) := by
  refine Pure.run mixed c_spec_ValOk_ok (Nat.le_of_ble_eq_true rfl) fun σ hS hA => ?_
  clear hS hA
  repeat' first | (apply Go.adm; exact rfl) | apply Go.qs | apply Qg.nil | ((first | apply Go.v2 | apply Go.v1); (first | exact leAdd | assumption); iterate 6 exact rfl) | ((first | apply Go.op | apply Go.sop | apply Qg.op); exact rfl; (first | exact aop_alloc | exact aop_new rfl rfl | exact aop_mksl rfl | exact aop_lenM rfl | exact rfl | exact aL rfl rfl rfl rfl rfl | exact aS rfl rfl rfl rfl rfl rfl rfl)) | ((first | apply Go.no | apply Go.sno | apply Qg.no); exact rfl) | ((first | apply Go.pcallB | apply Go.spcallB | apply Qg.pcallB); (iterate 3 exact rfl); exact l1In_ok _ _ _; intro _ _) | (exfalso; omega) | (((first | apply Go.iQ | apply Go.gQ | apply Go.sQ | apply Qg.gQ); exact rfl; (first | exact .d | exact .e | exact .n | ((fail_if_success exact bqt); (fail_if_success exact bqf); exact .b))) <;> intro _)
  all_goals refine .ret rfl (.bool ?_)
  all_goals simp_all [okVal]
theorem isNaN_ok (n : Int) : Pure Tryz.prog 251 [.c (.int .i64 n)] (.c (.bool false)) := by
  refine Pure.run mixed c_cmp_isNaN_int64_ok (Nat.le_of_ble_eq_true rfl) fun σ hS hA => ?_
  repeat' first | (apply Go.adm; exact rfl) | apply Go.qs | apply Qg.nil | ((first | apply Go.v2 | apply Go.v1); (first | exact leAdd | assumption); iterate 6 exact rfl) | ((first | apply Go.op | apply Go.sop | apply Qg.op); exact rfl; (first | exact aop_alloc | exact aop_new rfl rfl | exact aop_mksl rfl | exact aop_lenM rfl | exact rfl | exact aL rfl rfl rfl rfl rfl | exact aS rfl rfl rfl rfl rfl rfl rfl)) | ((first | apply Go.no | apply Go.sno | apply Qg.no); exact rfl) | (exfalso; omega) | (((first | apply Go.iQ | apply Go.gQ | apply Go.sQ | apply Qg.gQ); exact rfl; (first | exact .d | exact .e | exact .n | ((fail_if_success exact bqt); (fail_if_success exact bqf); exact .b))) <;> intro _)
  all_goals refine .ret rfl (.bool (by simp))
theorem isNaNS_ok (n : List UInt8) : Pure Tryz.prog 309 [.c (.str n)] (.c (.bool false)) := by
  refine Pure.run mixed c_cmp_isNaN_string_ok (Nat.le_of_ble_eq_true rfl) fun σ hS hA => ?_
  repeat' first | (apply Go.adm; exact rfl) | apply Go.qs | apply Qg.nil | ((first | apply Go.v2 | apply Go.v1); (first | exact leAdd | assumption); iterate 6 exact rfl) | ((first | apply Go.op | apply Go.sop | apply Qg.op); exact rfl; (first | exact aop_alloc | exact aop_new rfl rfl | exact aop_mksl rfl | exact aop_lenM rfl | exact rfl | exact aL rfl rfl rfl rfl rfl | exact aS rfl rfl rfl rfl rfl rfl rfl)) | ((first | apply Go.no | apply Go.sno | apply Qg.no); exact rfl) | (exfalso; omega) | (((first | apply Go.iQ | apply Go.gQ | apply Go.sQ | apply Qg.gQ); exact rfl; (first | exact .d | exact .e | exact .n | ((fail_if_success exact bqt); (fail_if_success exact bqf); exact .b))) <;> intro _)
  all_goals refine .ret rfl (.bool (by simp))
theorem Compare_ok (a b : Int) : Pure Tryz.prog 172 [.c (.int .i64 a), .c (.int .i64 b)] (.c (.int .i64 (cmpI a b))) := by
  refine Pure.run mixed c_cmp_Compare_int64_ok (Nat.le_of_ble_eq_true rfl) fun σ hS hA => ?_
  clear hS hA
  repeat' first | (apply Go.adm; exact rfl) | apply Go.qs | apply Qg.nil | ((first | apply Go.v2 | apply Go.v1); (first | exact leAdd | assumption); iterate 6 exact rfl) | ((first | apply Go.op | apply Go.sop | apply Qg.op); exact rfl; (first | exact aop_alloc | exact aop_new rfl rfl | exact aop_mksl rfl | exact aop_lenM rfl | exact rfl | exact aL rfl rfl rfl rfl rfl | exact aS rfl rfl rfl rfl rfl rfl rfl)) | ((first | apply Go.no | apply Go.sno | apply Qg.no); exact rfl) | ((first | apply Go.pcall | apply Go.spcall | apply Qg.pcall); (iterate 3 exact rfl); exact isNaN_ok _) | (exfalso; omega) | (((first | apply Go.iQ | apply Go.gQ | apply Go.sQ | apply Qg.gQ); exact rfl; (first | exact .d | exact .e | exact .n | ((fail_if_success exact bqt); (fail_if_success exact bqf); exact .b))) <;> intro _)
  all_goals refine .ret rfl (.int ?_)
  all_goals unfold cmpI
  all_goals repeat' split
  all_goals omega
theorem CompareS_ok (a b : List UInt8) : Pure Tryz.prog 234 [.c (.str a), .c (.str b)] (.c (.int .i64 (cmpS a b))) := by
  refine Pure.run mixed c_cmp_Compare_string_ok (Nat.le_of_ble_eq_true rfl) fun σ hS hA => ?_
  clear hS hA
  repeat' first | (apply Go.adm; exact rfl) | apply Go.qs | apply Qg.nil | ((first | apply Go.v2 | apply Go.v1); (first | exact leAdd | assumption); iterate 6 exact rfl) | ((first | apply Go.op | apply Go.sop | apply Qg.op); exact rfl; (first | exact aop_alloc | exact aop_new rfl rfl | exact aop_mksl rfl | exact aop_lenM rfl | exact rfl | exact aL rfl rfl rfl rfl rfl | exact aS rfl rfl rfl rfl rfl rfl rfl)) | ((first | apply Go.no | apply Go.sno | apply Qg.no); exact rfl) | ((first | apply Go.pcall | apply Go.spcall | apply Qg.pcall); (iterate 3 exact rfl); exact isNaNS_ok _) | (exfalso; omega) | (((first | apply Go.iQ | apply Go.gQ | apply Go.sQ | apply Qg.gQ); exact rfl; (first | exact .d | exact .e | exact .n | ((fail_if_success exact bqt); (fail_if_success exact bqf); exact .b))) <;> intro _)
  all_goals refine .ret rfl (.int ?_)
  all_goals unfold cmpS
  all_goals repeat' split
  all_goals simp_all
theorem Or_ok (xs : List Int) (hx : xs.length ≤ 34359738368) : Pure Tryz.prog 170 [.c (.fz (xs.map encI))] (.c (.int .i64 (orI xs))) := by
  refine Pure.run mixed c_cmp_Or_int_ok (Nat.le_of_ble_eq_true rfl) fun σ hS hA => ?_
  clear hS hA
  repeat' first | (apply Go.adm; exact rfl) | apply Go.qs | apply Qg.nil | ((first | apply Go.v2 | apply Go.v1); (first | exact leAdd | assumption); iterate 6 exact rfl) | ((first | apply Go.op | apply Go.sop | apply Qg.op); exact rfl; (first | exact aop_alloc | exact aop_new rfl rfl | exact aop_mksl rfl | exact aop_lenM rfl | exact rfl | exact aL rfl rfl rfl rfl rfl | exact aS rfl rfl rfl rfl rfl rfl rfl)) | ((first | apply Go.no | apply Go.sno | apply Qg.no); exact rfl) | (exfalso; omega) | (((first | apply Go.iQ | apply Go.gQ | apply Go.sQ | apply Qg.gQ); exact rfl; (first | exact .d | exact .e | exact .n | ((fail_if_success exact bqt); (fail_if_success exact bqf); exact .b))) <;> intro _)
  refine Go.keep [3, 6, 7, 8] (Go.loops (I := fun m fr τ => ∃ i : Nat, ∃ n L : Int, m = xs.length - i ∧ i ≤ xs.length ∧ n = i ∧ L = xs.length ∧ orI xs = orI (xs.drop i) ∧
    fr = [(3, .c (.int .i64 0)), (6, .c (.fz (xs.map encI))), (7, .c (.int .i64 L)), (8, .c (.int .i64 n))] ∧ τ = E σ []) ?_ _ _ _ ⟨0, _, _, rfl, Nat.zero_le _, rfl, by simp, rfl, rfl, rfl⟩)
  rintro m fr τ ⟨i, n, L, rfl, hi, hn, hL, hs, rfl, rfl⟩ hrec
  repeat' first | (apply Go.adm; exact rfl) | apply Go.qs | apply Qg.nil | ((first | apply Go.v2 | apply Go.v1); (first | exact leAdd | assumption); iterate 6 exact rfl) | ((first | apply Go.op | apply Go.sop | apply Qg.op); exact rfl; (first | exact aop_alloc | exact aop_new rfl rfl | exact aop_mksl rfl | exact aop_lenM rfl | exact rfl | exact aL rfl rfl rfl rfl rfl | exact aS rfl rfl rfl rfl rfl rfl rfl | exact aop_iaddrM (enc := encI) rfl rfl hn (by omega) rfl)) | ((first | apply Go.no | apply Go.sno | apply Qg.no); exact rfl) | (exfalso; omega) | (((first | apply Go.iQ | apply Go.gQ | apply Go.sQ | apply Qg.gQ); exact rfl; (first | exact .d | exact .e | exact .n | ((fail_if_success exact bqt); (fail_if_success exact bqf); exact .b))) <;> intro _)
  · refine .ret rfl (.int ?_)
    rw [hs, List.drop_eq_getElem_cons (by omega)]
    simp [orI, *]
  · refine Go.keep [3, 6, 7, 8] (hrec _ _ _ ?_ ⟨i + 1, _, _, rfl, ?_, ?_, hL, ?_, rfl, rfl⟩)
    · omega
    · omega
    · exact (wrap_succ hn (by omega))
    · rw [hs, List.drop_eq_getElem_cons (by omega)]
      simp [orI, *]
  · refine .ret rfl (.int ?_)
    rw [hs, List.drop_eq_nil_of_le (by omega)]
    rfl
theorem order_ok (v w : Val) : Pure Tryz.prog 151 [.agg (encV v), .agg (encV w)] (.c (.int .i64 (order v w))) := by
  refine Pure.run mixed c_impl_order_ok (Nat.le_of_ble_eq_true rfl) fun σ hS hA => ?_
  clear hS hA
  repeat' first | (apply Go.adm; exact rfl) | apply Go.qs | apply Qg.nil | ((first | apply Go.v2 | apply Go.v1); (first | exact leAdd | assumption); iterate 6 exact rfl) | ((first | apply Go.op | apply Go.sop | apply Qg.op); exact rfl; (first | exact aop_alloc | exact aop_new rfl rfl | exact aop_mksl rfl | exact aop_lenM rfl | exact rfl | exact aL rfl rfl rfl rfl rfl | exact aS rfl rfl rfl rfl rfl rfl rfl)) | ((first | apply Go.no | apply Go.sno | apply Qg.no); exact rfl) | ((first | apply Go.pcall | apply Go.spcall | apply Qg.pcall); (iterate 3 exact rfl); (first | exact Compare_ok _ _ | exact CompareS_ok _ _ | exact Or_ok [cmpI v.k w.k, cmpI v.n w.n, cmpS v.s w.s] (by simp))) | (exfalso; omega) | (((first | apply Go.iQ | apply Go.gQ | apply Go.sQ | apply Qg.gQ); exact rfl; (first | exact .d | exact .e | exact .n | ((fail_if_success exact bqt); (fail_if_success exact bqf); exact .b))) <;> intro _)
  exact .ret rfl (.int rfl)
def l1Ord (v w : Val) : Int := if v.k < w.k ∨ (v.k = w.k ∧ (v.n < w.n ∨ bytesLt v.s w.s = true)) then -1 else if v = w then 0 else 1
theorem l1Order_ok (v w : Val) : Pure Tryz.prog 145 [.agg (encV v), .agg (encV w)] (.c (.int .i64 (l1Ord v w))) := by
  refine Pure.run mixed c_spec_l1Order_ok (Nat.le_of_ble_eq_true rfl) fun σ hS hA => ?_
  clear hS hA
  repeat' first | (apply Go.adm; exact rfl) | apply Go.qs | apply Qg.nil | ((first | apply Go.v2 | apply Go.v1); (first | exact leAdd | assumption); iterate 6 exact rfl) | ((first | apply Go.op | apply Go.sop | apply Qg.op); exact rfl; (first | exact aop_alloc | exact aop_new rfl rfl | exact aop_mksl rfl | exact aop_lenM rfl | exact rfl | exact aL rfl rfl rfl rfl rfl | exact aS rfl rfl rfl rfl rfl rfl rfl)) | ((first | apply Go.no | apply Go.sno | apply Qg.no); exact rfl) | (exfalso; omega) | (((first | apply Go.iQ | apply Go.gQ | apply Go.sQ | apply Qg.gQ); exact rfl; (first | exact .d | exact .e | exact .n | ((fail_if_success exact bqt); (fail_if_success exact bqf); exact .b))) <;> intro _)
  all_goals refine .ret rfl (.int ?_)
  all_goals obtain ⟨vk, vn, vs⟩ := v
  all_goals obtain ⟨wk, wn, ws⟩ := w
  all_goals (simp_all [l1Ord] <;> split <;> simp_all <;> omega)
/-- As long and no longer: the values are right. -/
def areVals (xs : List Val) (most : Int) : Bool := decide ((xs.length : Int) ≤ most) && xs.all okVal
theorem areVals_ok (xs : List Val) (most : Int) (hm : 0 ≤ most) (hx : xs.length ≤ 34359738368) : Pure Tryz.prog 252 [.c (.fz (xs.map encV)), .c (.int .i64 most)] (.c (.bool (areVals xs most))) := by
  refine Pure.run mixed c_impl_areVals_ok (Nat.le_of_ble_eq_true rfl) fun σ hS hA => ?_
  clear hS hA
  repeat' first | (apply Go.adm; exact rfl) | apply Go.qs | apply Qg.nil | ((first | apply Go.v2 | apply Go.v1); (first | exact leAdd | assumption); iterate 6 exact rfl) | ((first | apply Go.op | apply Go.sop | apply Qg.op); exact rfl; (first | exact aop_alloc | exact aop_new rfl rfl | exact aop_mksl rfl | exact aop_lenM rfl | exact rfl | exact aL rfl rfl rfl rfl rfl | exact aS rfl rfl rfl rfl rfl rfl rfl)) | ((first | apply Go.no | apply Go.sno | apply Qg.no); exact rfl) | (exfalso; omega) | (((first | apply Go.iQ | apply Go.gQ | apply Go.sQ | apply Qg.gQ); exact rfl; (first | exact .d | exact .e | exact .n | ((fail_if_success exact bqt); (fail_if_success exact bqf); exact .b))) <;> intro _)
  refine Go.keep [1, 7, 8, 9] (Go.loops (I := fun m fr τ => ∃ i : Nat, ∃ n L : Int, m = xs.length - i ∧ i ≤ xs.length ∧ n = i ∧ L = xs.length ∧ ((i : Int) ≤ most ∧ areVals xs most = (decide ((xs.length : Int) ≤ most) && (xs.drop i).all okVal)) ∧
    fr = [(1, .c (.int .i64 most)), (7, .c (.fz (xs.map encV))), (8, .c (.int .i64 L)), (9, .c (.int .i64 n))] ∧ τ = E σ []) ?_ _ _ _ ⟨0, _, _, rfl, Nat.zero_le _, rfl, by simp, ⟨hm, rfl⟩, rfl, rfl⟩)
  rintro m fr τ ⟨i, n, L, rfl, hi, hn, hL, ⟨hs1, hs⟩, rfl, rfl⟩ hrec
  repeat' first | (apply Go.adm; exact rfl) | apply Go.qs | apply Qg.nil | ((first | apply Go.v2 | apply Go.v1); (first | exact leAdd | assumption); iterate 6 exact rfl) | ((first | apply Go.op | apply Go.sop | apply Qg.op); exact rfl; (first | exact aop_alloc | exact aop_new rfl rfl | exact aop_mksl rfl | exact aop_lenM rfl | exact rfl | exact aL rfl rfl rfl rfl rfl | exact aS rfl rfl rfl rfl rfl rfl rfl | exact aop_iaddrM (enc := encV) rfl rfl hn (by omega) rfl)) | ((first | apply Go.no | apply Go.sno | apply Qg.no); exact rfl) | ((first | apply Go.pcallB | apply Go.spcallB | apply Qg.pcallB); (iterate 3 exact rfl); exact ValOk_ok xs[i]; intro _ _) | (exfalso; omega) | (((first | apply Go.iQ | apply Go.gQ | apply Go.sQ | apply Qg.gQ); exact rfl; (first | exact .d | exact .e | exact .n | ((fail_if_success exact bqt); (fail_if_success exact bqf); exact .b))) <;> intro _)
  · refine .ret rfl (.bool ?_)
    clear hrec
    rw [hs]
    simp at *
    omega
  · refine .ret rfl (.bool ?_)
    clear hrec
    rw [hs, List.drop_eq_getElem_cons (by omega), List.all_cons]
    simp_all
  · refine Go.keep [1, 7, 8, 9] (hrec _ _ _ (by omega) ⟨i + 1, _, _, rfl, by omega, (wrap_succ hn (by omega)), hL, ⟨?_, ?_⟩, rfl, rfl⟩)
    · clear hrec
      simp at *
      omega
    · rw [hs, List.drop_eq_getElem_cons (by omega), List.all_cons]
      clear hrec
      simp_all
  · refine .ret rfl (.bool ?_)
    rw [hs, List.drop_eq_nil_of_le (by omega)]
    simp
    omega
theorem eqVal_ok (v w : Val) : Pure Tryz.prog 114 [.agg (encV v), .agg (encV w)] (.c (.bool (v == w))) := by
  refine Pure.run mixed c_laws_eqVal_ok (Nat.le_of_ble_eq_true rfl) fun σ hS hA => ?_
  clear hS hA
  repeat' first | (apply Go.adm; exact rfl) | apply Go.qs | apply Qg.nil | ((first | apply Go.v2 | apply Go.v1); (first | exact leAdd | assumption); iterate 6 exact rfl) | ((first | apply Go.op | apply Go.sop | apply Qg.op); exact rfl; (first | exact aop_alloc | exact aop_new rfl rfl | exact aop_mksl rfl | exact aop_lenM rfl | exact rfl | exact aL rfl rfl rfl rfl rfl | exact aS rfl rfl rfl rfl rfl rfl rfl)) | ((first | apply Go.no | apply Go.sno | apply Qg.no); exact rfl) | (exfalso; omega) | (((first | apply Go.iQ | apply Go.gQ | apply Go.sQ | apply Qg.gQ); exact rfl; (first | exact .d | exact .e | exact .n | ((fail_if_success exact bqt); (fail_if_success exact bqf); exact .b))) <;> intro _)
  all_goals refine .ret rfl (.bool ?_)
  all_goals obtain ⟨vk, vn, vs⟩ := v
  all_goals obtain ⟨wk, wn, ws⟩ := w
  all_goals simp_all
theorem eqValS_ok (xs ys : List Val) (hx : xs.length ≤ 34359738368) : Pure Tryz.prog 41 [.c (.fz (xs.map encV)), .c (.fz (ys.map encV))] (.c (.bool (xs == ys))) := by
  refine Pure.run mixed c_laws_eqValS_ok (Nat.le_of_ble_eq_true rfl) fun σ hS hA => ?_
  clear hS hA
  repeat' first | (apply Go.adm; exact rfl) | apply Go.qs | apply Qg.nil | ((first | apply Go.v2 | apply Go.v1); (first | exact leAdd | assumption); iterate 6 exact rfl) | ((first | apply Go.op | apply Go.sop | apply Qg.op); exact rfl; (first | exact aop_alloc | exact aop_new rfl rfl | exact aop_mksl rfl | exact aop_lenM rfl | exact rfl | exact aL rfl rfl rfl rfl rfl | exact aS rfl rfl rfl rfl rfl rfl rfl)) | ((first | apply Go.no | apply Go.sno | apply Qg.no); exact rfl) | (exfalso; omega) | (((first | apply Go.iQ | apply Go.gQ | apply Go.sQ | apply Qg.gQ); exact rfl; (first | exact .d | exact .e | exact .n | ((fail_if_success exact bqt); (fail_if_success exact bqf); exact .b))) <;> intro _)
  · refine .ret rfl (.bool ?_)
    rw [eq_comm, beq_eq_false_iff_ne]
    rintro rfl
    simp at *
  refine Go.keep [0, 1, 5] (Go.loops (I := fun m fr τ => ∃ i : Nat, ∃ n : Int, m = xs.length - i ∧ i ≤ xs.length ∧ n = i ∧ (xs.length = ys.length ∧ (xs == ys) = (xs.drop i == ys.drop i)) ∧
    fr = [(0, .c (.fz (xs.map encV))), (1, .c (.fz (ys.map encV))), (5, .c (.int .i64 n))] ∧ τ = E σ []) ?_ _ _ _ ⟨0, _, rfl, Nat.zero_le _, rfl, ⟨by omega, rfl⟩, rfl, rfl⟩)
  rintro m fr τ ⟨i, n, rfl, hi, hn, ⟨hl, hs⟩, rfl, rfl⟩ hrec
  repeat' first | (apply Go.adm; exact rfl) | apply Go.qs | apply Qg.nil | ((first | apply Go.v2 | apply Go.v1); (first | exact leAdd | assumption); iterate 6 exact rfl) | ((first | apply Go.op | apply Go.sop | apply Qg.op); exact rfl; (first | exact aop_alloc | exact aop_new rfl rfl | exact aop_mksl rfl | exact aop_lenM rfl | exact rfl | exact aL rfl rfl rfl rfl rfl | exact aS rfl rfl rfl rfl rfl rfl rfl | exact aop_iaddrM (enc := encV) rfl rfl hn (by first | omega | (clear hrec; simp only [List.length_map] at *; omega)) rfl)) | ((first | apply Go.no | apply Go.sno | apply Qg.no); exact rfl) | ((first | apply Go.pcallB | apply Go.spcallB | apply Qg.pcallB); (iterate 3 exact rfl); exact eqVal_ok xs[i] ys[i]; intro _ _) | (exfalso; omega) | (((first | apply Go.iQ | apply Go.gQ | apply Go.sQ | apply Qg.gQ); exact rfl; (first | exact .d | exact .e | exact .n | ((fail_if_success exact bqt); (fail_if_success exact bqf); exact .b))) <;> intro _)
  · refine .ret rfl (.bool ?_)
    rw [hs, List.drop_eq_getElem_cons (i := i) (by first | omega | (clear hrec; simp only [List.length_map] at *; omega)), List.drop_eq_getElem_cons (i := i) (by first | omega | (clear hrec; simp only [List.length_map] at *; omega)), List.cons_beq_cons]
    clear hrec
    simp_all
  · refine Go.keep [0, 1, 5] (hrec _ _ _ (by first | omega | (clear hrec; simp only [List.length_map] at *; omega)) ⟨i + 1, _, rfl, (by first | omega | (clear hrec; simp only [List.length_map] at *; omega)), (wrap_succ hn (by omega)), ⟨hl, ?_⟩, rfl, rfl⟩)
    rw [hs, List.drop_eq_getElem_cons (i := i) (by first | omega | (clear hrec; simp only [List.length_map] at *; omega)), List.drop_eq_getElem_cons (i := i) (by first | omega | (clear hrec; simp only [List.length_map] at *; omega)), List.cons_beq_cons]
    clear hrec
    simp_all
  · refine .ret rfl (.bool ?_)
    rw [hs, List.drop_eq_nil_of_le (by first | omega | (clear hrec; simp only [List.length_map] at *; omega)), List.drop_eq_nil_of_le (by first | omega | (clear hrec; simp only [List.length_map] at *; omega))]
    rfl
end Go.Proofs.YtcfpdongfdhgjaaGreat.Am

/- Entries: contracts of the functions that read them. -/
set_option linter.unusedVariables false
set_option linter.unusedSimpArgs false
namespace Go.Proofs.YtcfpdongfdhgjaaGreat.Am

structure Entry where
  key : List Val
  id : Int
  deriving DecidableEq
end Go.Proofs.YtcfpdongfdhgjaaGreat.Am

/- Entries: which lists of them are right. -/
set_option linter.unusedVariables false
set_option linter.unusedSimpArgs false
namespace Go.Proofs.YtcfpdongfdhgjaaGreat.Am

theorem bytesLt_irrefl (a : List UInt8) : bytesLt a a = false := by
  induction a with
  | nil => rfl
  | cons x r ih => simp_all [bytesLt, Op.bytesLess]
theorem l1Ord_order {v w : Val} (hv : okVal v = true) (hw : okVal w = true) : l1Ord v w = order v w := by
  obtain ⟨a, b, s⟩ := v
  obtain ⟨c, d, t⟩ := w
  simp only [okVal, isIn, Bool.or_eq_true, Bool.and_eq_true, beq_iff_eq, decide_eq_true_eq] at hv hw
  simp only [l1Ord, order, orI, cmpI, cmpS, Val.mk.injEq]
  rcases hv with (⟨⟨rfl, rfl⟩, rfl⟩ | ⟨⟨rfl, hb⟩, rfl⟩) | ⟨⟨rfl, rfl⟩, hs⟩ <;> rcases hw with (⟨⟨rfl, rfl⟩, rfl⟩ | ⟨⟨rfl, hd⟩, rfl⟩) | ⟨⟨rfl, rfl⟩, ht⟩ <;> simp [bytesLt_irrefl]
  · by_cases h1 : b < d
    · simp [h1]
    · by_cases h2 : d < b
      · have : ¬ b = d := by omega
        simp [h1, h2, this]
      · have : b = d := by omega
        subst this
        simp
end Go.Proofs.YtcfpdongfdhgjaaGreat.Am

/- Range: the program's and the reference's. -/
set_option linter.unusedVariables false
set_option linter.unusedSimpArgs false
namespace Go.Proofs.YtcfpdongfdhgjaaGreat.Am

end Go.Proofs.YtcfpdongfdhgjaaGreat.Am

/- The abstract machine, part 23: owned trees. -/
set_option linter.unusedVariables false
set_option linter.unusedSimpArgs false
namespace Go.Proofs.YtcfpdongfdhgjaaGreat.Am
open Go.RowKit

theorem Flat.old {x : Ce} (h : Flat x) (n : Nat) : Old n x := by
  cases h with
  | int k m => exact .int k m
  | bool b => exact .bool b
  | str s => exact .str s
  | nilp => exact .nilp
  | nils => exact .nils
  | nilf => exact .nilf
  | emp => exact .emp
  | any => exact .any
theorem Flat.move {C D : Cx} {x : Ce} (h : Flat x) {v : Value} (hx : Rp C x v) : Rp D x v := by
  cases h <;> cases hx <;> constructor <;> assumption
/-- A cell that leads nowhere, or to blocks from n on. -/
inductive Tidy (n : Nat) : Ce → Prop where
  | flat {x : Ce} (h : Flat x) : Tidy n x
  | sl (id v i m c : Nat) (h : n ≤ id) : Tidy n (.sl id v i m c)
  | ptr (id v i j : Nat) (h : n ≤ id) : Tidy n (.ptr id v i j)
def TidyL (n : Nat) (l : List (Nat × List (List Ce))) : Prop := ∀ b ∈ l, ∀ e ∈ b.2, ∀ x ∈ e, Tidy n x
/-- x is, in a store, a tree of owned slices that reads as y; S holds its blocks. -/
inductive Has (σ : Store) : (Nat → Prop) → Ce → Ce → Prop where
  | c {S : Nat → Prop} {x : Ce} (h : Flat x) : Has σ S x x
  | nil {S : Nat → Prop} : Has σ S (.fz []) .nils
  | o {S : Nat → Prop} (ys : List (List Ce)) (id v s : Nat) (cs junk : List (List Ce)) (T : Nat → Nat → Nat → Prop) (hg : σ.get id = some (v, cs ++ junk)) (hS : S id) (hl : cs.length = ys.length)
      (hs : ∀ i (hi : i < ys.length), (cs[i]'(by omega)).length = ys[i].length) (hall : ∀ e ∈ cs ++ junk, e.length = s) (hj : ∀ e ∈ junk, ∀ x ∈ e, Flat x)
      (hT : ∀ i j a, T i j a → S a ∧ a ≠ id) (hd : ∀ i j i' j' a, T i j a → T i' j' a → i = i' ∧ j = j')
      (h : ∀ i j (hi : i < ys.length) (hj : j < ys[i].length), Has σ (T i j) ys[i][j] ((cs[i]'(by omega))[j]'(by have := hs i hi; omega))) :
      Has σ S (.fz ys) (.sl id v 0 ys.length (ys.length + junk.length))
theorem Has.mono {σ : Store} {S S' : Nat → Prop} (hSS : ∀ a, S a → S' a) {y x : Ce} (h : Has σ S y x) : Has σ S' y x := by
  cases h with
  | c h => exact .c h
  | nil => exact .nil
  | o ys id v s cs junk T hg hS hl hs hall hj hT hd h => exact .o ys id v s cs junk T hg (hSS _ hS) hl hs hall hj (fun i j a ha => ⟨hSS _ (hT i j a ha).1, (hT i j a ha).2⟩) hd h
theorem Has.frame {σ σ' : Store} {S : Nat → Prop} {y x : Ce} (h : Has σ S y x) : (∀ a, S a → σ'.get a = σ.get a) → Has σ' S y x := by
  induction h with
  | c h => exact fun _ => .c h
  | nil => exact fun _ => .nil
  | o ys id v s cs junk T hg hS hl hs hall hj hT hd h ih =>
    intro hf
    exact .o ys id v s cs junk T (by rw [hf _ hS]; exact hg) hS hl hs hall hj hT hd fun i j hi hj => ih i j hi hj fun a ha => hf a (hT i j a ha).1
theorem Has.frz {σ : Store} {S : Nat → Prop} {y x : Ce} (h : Has σ S y x) {n : Nat} (hn : ∀ a, S a → n ≤ a) : Frz σ n x y := by
  induction h with
  | c h => exact .same _ (h.old n)
  | nil => exact .nil
  | o ys id v s cs junk T hg hS hl hs hall hj hT hd h ih =>
    refine .sl id v 0 _ _ (cs ++ junk) ys (hn _ hS) hg (by simp; omega) rfl (fun k hk => ?_) (fun k j hk hj => ?_)
    · have e : (cs ++ junk)[0 + k]'(by simp; omega) = cs[k]'(by omega) := by
        simp only [Nat.zero_add]
        rw [List.getElem_append_left (by omega)]
      rw [e]
      exact (hs k hk).symm
    · have e : (cs ++ junk)[0 + k]'(by simp; omega) = cs[k]'(by omega) := by
        simp only [Nat.zero_add]
        rw [List.getElem_append_left (by omega)]
      simp only [e]
      exact ih k j hk hj fun a ha => hn a (hT k j a ha).1
theorem Has.tidy {σ : Store} {S : Nat → Prop} {y x : Ce} (h : Has σ S y x) {n : Nat} (hn : ∀ a, S a → n ≤ a) : Tidy n x := by
  cases h with
  | c h => exact .flat h
  | nil => exact .flat .nils
  | o ys id v s cs junk T hg hS hl hs hall hj hT hd h => exact .sl _ _ _ _ _ (hn _ hS)
/-- .. of the cells of a struct. -/
def HasL (σ : Store) (S : Nat → Prop) (ys xs : List Ce) : Prop :=
  ∃ U : Nat → Nat → Prop, xs.length = ys.length ∧ (∀ j a, U j a → S a) ∧ (∀ j j' a, U j a → U j' a → j = j') ∧ ∀ j (hy : j < ys.length) (hx : j < xs.length), Has σ (U j) ys[j] xs[j]
theorem HasL.mono {σ : Store} {S S' : Nat → Prop} (hSS : ∀ a, S a → S' a) {ys xs : List Ce} (h : HasL σ S ys xs) : HasL σ S' ys xs :=
  let ⟨U, h1, h2, h3, h4⟩ := h
  ⟨U, h1, fun j a ha => hSS a (h2 j a ha), h3, h4⟩
theorem HasL.frame {σ σ' : Store} {S : Nat → Prop} {ys xs : List Ce} (h : HasL σ S ys xs) (hf : ∀ a, S a → σ'.get a = σ.get a) : HasL σ' S ys xs :=
  let ⟨U, h1, h2, h3, h4⟩ := h
  ⟨U, h1, h2, h3, fun j hy hx => (h4 j hy hx).frame fun a ha => hf a (h2 j a ha)⟩
theorem HasL.flat {σ : Store} {S : Nat → Prop} {xs : List Ce} (h : ∀ x ∈ xs, Flat x) : HasL σ S xs xs :=
  ⟨fun _ _ => False, rfl, fun _ _ h => h.elim, fun _ _ _ h => h.elim, fun j hy hx => .c (h _ (List.getElem_mem hy))⟩

/-- The call makes a tree that reads as y. -/
def New (σ : Store) (y : Ce) (r : AV) (σ' : Store) : Prop := ∃ x l, r = .c x ∧ σ' = E σ l ∧ TidyL σ.next l ∧ Has σ' (fun a => σ.next ≤ a ∧ a < σ'.next) y x
def NewL (σ : Store) (ys : List Ce) (r : AV) (σ' : Store) : Prop := ∃ xs l, r = .agg xs ∧ σ' = E σ l ∧ TidyL σ.next l ∧ HasL σ' (fun a => σ.next ≤ a ∧ a < σ'.next) ys xs

/-- The slices' copies of the laws. -/
def toSCode (s bytes f : Nat) (z : List Ce) : AFn := ⟨23, [.t 2], (.seq (.region [⟨some 2, .op (.mv (.k (.nils))), none⟩]) (.seq (.region [⟨some 5, .op (.mv (.t 0)), none⟩, ⟨some 6, .op (.len false (.t 5)), none⟩, ⟨some 7, .op (.mkslice s bytes z (.t 6) (.t 6)), none⟩, ⟨some 3, .op (.mv (.t 7)), none⟩]) (.seq (.seq (.region [⟨some 4, .op (.mv (.k (.int .i64 0))), none⟩]) (.block 0 (.loop (.seq (.seq (.region [⟨some 8, .op (.mv (.t 4)), none⟩, ⟨some 9, .op (.mv (.t 0)), none⟩, ⟨some 10, .op (.len false (.t 9)), none⟩, ⟨some 11, .op (.bin .lss (.t 8) (.t 10)), none⟩]) (.cond (.t 11) .skip (.exit 0))) (.seq (.block 1 (.region [⟨some 14, .op (.mv (.t 3)), none⟩, ⟨some 15, .op (.mv (.t 4)), none⟩, ⟨some 16, .op (.mv (.t 0)), none⟩, ⟨some 17, .op (.mv (.t 4)), none⟩, ⟨some 18, .op (.iaddr s (.t 16) (.t 17)), none⟩, ⟨some 19, .op (.load true s (.t 18)), none⟩, ⟨some 20, .call (.f f) [(.t 19)], none⟩, ⟨some 21, .op (.iaddr s (.t 14) (.t 15)), none⟩, ⟨none, .op (.store s (.t 21) (.t 20)), none⟩])) (.region [⟨some 12, .op (.mv (.t 4)), none⟩, ⟨some 13, .op (.bin .add (.t 12) (.k (.int .i64 1))), none⟩, ⟨some 4, .op (.mv (.t 13)), none⟩])))))) (.seq (.region [⟨some 22, .op (.mv (.t 3)), none⟩, ⟨some 2, .op (.mv (.t 22)), none⟩]) .ret))))⟩

theorem takeA_all {s : Nat} {cs : List Ce} (h : cs.length = s) : takeA true s cs = some (.agg cs) := by
  simp [takeA, h]
  rw [List.take_of_length_le (by omega)]
theorem aop_loadF {fr : Fr} {σ : Store} {s : Nat} {a : Opd} {cs : List Ce} (ha : a.ev fr = some (.c (.fp cs))) (hs : cs.length = s) : aop (.load true s a) fr σ = some (.agg cs, σ) := by
  simp [aop, ha, Store.at_, takeA_all hs]
theorem aop_mkslice {fr : Fr} {σ : Store} {l : List (Nat × List (List Ce))} {s bytes n : Nat} {z : List Ce} {x y : Opd} (hx : x.ev fr = some (.c (.int .i64 (n : Int)))) (hy : y.ev fr = some (.c (.int .i64 (n : Int)))) (hb : bytes * n ≤ 140737488355328) :
    aop (.mkslice s bytes z x y) fr (E σ l) = some (.c (.sl (σ.next + l.length) 0 0 n n), E σ (l ++ [(0, List.replicate n z)])) := by
  have : ((bytes : Int) * (n : Int) ≤ 140737488355328) := by rw [← Int.natCast_mul]; omega
  simp only [aop, hx, hy]
  rw [if_pos ⟨by omega, by omega, this⟩]
  simp [E_new, E_next]
theorem splice_all {s : Nat} {e cs : List Ce} (h1 : e.length = s) (h2 : cs.length = s) : splice e 0 cs = cs := by
  simp only [splice, List.take_zero, List.nil_append, Nat.zero_add]
  rw [List.drop_eq_nil_of_le (by omega)]
  simp

theorem toS_ok {P : Program} (hm : P.follows .mixedOrders = true) {fz : List Nat} {n s bytes f : Nat} {z : List Ce} (hc : compFn P fz n = some (toSCode s bytes f z)) {α : Type} (enc : α → List Ce) (xs : List α) (hx : xs.length ≤ 34359738368) (hb : bytes ≤ 4096) (hz : z.length = s) (hs : ∀ a, (enc a).length = s)
    (hzf : ∀ x ∈ z, Flat x) (hf : ∀ a ∈ xs, ∀ σ, Ok P f [.agg (enc a)] σ (NewL σ (enc a))) (σ : Store) : Ok P n [.c (.fz (xs.map enc))] σ (New σ (.fz (xs.map enc))) := by
  refine Ok.run hm hc (Nat.le_of_ble_eq_true rfl) fun hS hA => ?_
  clear hS hA
  have hbn : bytes * xs.length ≤ 140737488355328 := Nat.le_trans (Nat.mul_le_mul hb hx) (by decide)
  repeat' first | (apply Go.adm; exact rfl) | apply Go.qs | apply Qg.nil | ((first | apply Go.v2 | apply Go.v1); (first | exact leAdd | assumption); iterate 6 exact rfl) | ((first | apply Go.op | apply Go.sop | apply Qg.op); exact rfl; (first | exact aop_alloc | exact aop_new rfl rfl | exact aop_mksl rfl | exact aop_lenM rfl | exact rfl | exact aL rfl rfl rfl rfl rfl | exact aS rfl rfl rfl rfl rfl rfl rfl | exact aop_mkslice rfl rfl hbn)) | ((first | apply Go.no | apply Go.sno | apply Qg.no); exact rfl) | (exfalso; omega) | (((first | apply Go.iQ | apply Go.gQ | apply Go.sQ | apply Qg.gQ); exact rfl; (first | exact .d | exact .e | exact .n | ((fail_if_success exact bqt); (fail_if_success exact bqf); exact .b))) <;> intro _)
  refine Go.keep [0, 3, 4] (Go.loops (I := fun m fr τ => ∃ i : Nat, ∃ n : Int, ∃ cs l', m = xs.length - i ∧ i ≤ xs.length ∧ n = i ∧
    (cs.length = xs.length ∧ TidyL σ.next ((0, cs) :: l') ∧ (∀ e ∈ cs, e.length = s) ∧ ∃ b : Nat → Nat, b 0 = σ.next + 1 ∧ (∀ k, b k ≤ b (k + 1)) ∧ b i ≤ τ.next ∧
      ∀ k (h1 : k < xs.length) (h2 : k < cs.length), k < i → HasL τ (fun a => b k ≤ a ∧ a < b (k + 1)) (enc xs[k]) cs[k]) ∧
    fr = [(0, .c (.fz (xs.map enc))), (3, .c (.sl (σ.next + 0) 0 0 xs.length xs.length)), (4, .c (.int .i64 n))] ∧ τ = E σ ((0, cs) :: l')) ?_ _ _ _
    ⟨0, _, List.replicate xs.length z, [], rfl, Nat.zero_le _, rfl, ⟨by simp, fun b hb e he x hx => by simp at hb; subst hb; rw [List.eq_of_mem_replicate he] at hx; exact .flat (hzf x hx), fun e he => by rw [List.eq_of_mem_replicate he]; exact hz, fun _ => σ.next + 1, rfl, fun _ => Nat.le_refl _, by simp [E_next], fun k _ _ h => absurd h (by omega)⟩, rfl, rfl⟩)
  rintro m fr τ ⟨i, n, cs, l', rfl, hi, hn, ⟨hcl, htd, hcs, b, hb0, hbm, hbi, hh⟩, rfl, rfl⟩ hrec
  have hmono : ∀ k k', k ≤ k' → b k ≤ b k' := by
    intro k k' h
    induction h with
    | refl => exact Nat.le_refl _
    | step _ ih => exact Nat.le_trans ih (hbm _)
  by_cases hlt : i < xs.length
  · repeat' first | (apply Go.adm; exact rfl) | apply Go.qs | apply Qg.nil | ((first | apply Go.v2 | apply Go.v1); (first | exact leAdd | assumption); iterate 6 exact rfl) | ((first | apply Go.op | apply Go.sop | apply Qg.op); exact rfl; (first | exact aop_alloc | exact aop_new rfl rfl | exact aop_mksl rfl | exact aop_lenM rfl | exact rfl | exact aL rfl rfl rfl rfl rfl | exact aS rfl rfl rfl rfl rfl rfl rfl | exact aop_iaddrM rfl rfl hn hlt (hs _) | exact aop_loadF rfl (hs _))) | ((first | apply Go.no | apply Go.sno | apply Qg.no); exact rfl) | (exfalso; omega) | (((first | apply Go.iQ | apply Go.gQ | apply Go.sQ | apply Qg.gQ); exact rfl; (first | exact .d | exact .e | exact .n | ((fail_if_success exact bqt); (fail_if_success exact bqf); exact .b))) <;> intro _)
    refine Go.call (NewL (E σ ((0, cs) :: l')) (enc xs[i])) rfl rfl rfl (hf _ (List.getElem_mem hlt) _) ?_
    rintro r σ1 ⟨ys', l2, rfl, rfl, htd2, hnew⟩
    rw [E_E] at hnew ⊢
    have hlc : i < cs.length := by omega
    have hyl : ys'.length = s := by
      obtain ⟨U, h1, _⟩ := hnew
      rw [h1, hs]
    have hcl2 : cs[i].length = s := hcs _ (List.getElem_mem hlc)
    have he : cs[0 + i]? = some cs[i] := by simp [hlc]
    have hsp := splice_all hcl2 hyl
    refine .op rfl (aop_iaddr (k := 0) (n := i) rfl rfl hn hlt rfl he hcl2) ?_
    refine .op rfl (aop_store (k := 0) rfl rfl rfl rfl he hyl (by omega)) ?_
    rw [hsp]
    repeat' first | (apply Go.adm; exact rfl) | apply Go.qs | apply Qg.nil | ((first | apply Go.v2 | apply Go.v1); (first | exact leAdd | assumption); iterate 6 exact rfl) | ((first | apply Go.op | apply Go.sop | apply Qg.op); exact rfl; (first | exact aop_alloc | exact aop_new rfl rfl | exact aop_mksl rfl | exact aop_lenM rfl | exact rfl | exact aL rfl rfl rfl rfl rfl | exact aS rfl rfl rfl rfl rfl rfl rfl)) | ((first | apply Go.no | apply Go.sno | apply Qg.no); exact rfl) | (exfalso; omega) | (((first | apply Go.iQ | apply Go.gQ | apply Go.sQ | apply Qg.gQ); exact rfl; (first | exact .d | exact .e | exact .n | ((fail_if_success exact bqt); (fail_if_success exact bqf); exact .b))) <;> intro _)
    have hget : ∀ a, σ.next < a → (E σ ((0, cs.set (0 + i) ys') :: (l' ++ l2))).get a = (E σ ((0, cs) :: l' ++ l2)).get a := by
      intro a ha
      rw [E_ge (by omega), E_ge (by omega)]
      obtain ⟨q, hq⟩ : ∃ q, a - σ.next = q + 1 := ⟨a - σ.next - 1, by omega⟩
      rw [hq]
      rfl
    have hN : (E σ ((0, cs) :: l' ++ l2)).next = σ.next + (l'.length + l2.length + 1) := by simp [E_next]
    have hN1 : (E σ ((0, cs) :: l')).next = σ.next + (l'.length + 1) := by simp [E_next]
    refine Go.keep [0, 3, 4] (hrec _ _ _ (by omega) ⟨i + 1, _, cs.set (0 + i) ys', l' ++ l2, rfl, hlt, wrap_succ hn (by omega), ⟨by simp [hcl], fun b hb e he x hx => ?_, fun e he' => ?_, fun k => if k ≤ i then b k else σ.next + (l'.length + l2.length + 1), by simp [hb0], fun k => ?_, ?_, fun k h1 h2 hk => ?_⟩, rfl, rfl⟩)
    · rcases List.mem_cons.1 hb with rfl | hb
      · rcases List.mem_or_eq_of_mem_set he with h | h
        · exact htd (0, cs) (by simp) e h x hx
        · subst h
          obtain ⟨U, h1, h2, h3, h4⟩ := hnew
          obtain ⟨j, hj, rfl⟩ := List.mem_iff_getElem.1 hx
          refine (h4 j (by omega) hj).tidy fun a ha => ?_
          have := h2 j a ha
          omega
      · rcases List.mem_append.1 hb with h | h
        · exact htd b (by simp [h]) e he x hx
        · cases htd2 b h e he x hx with
          | flat h => exact .flat h
          | sl id v i m c h => exact .sl _ _ _ _ _ (by omega)
          | ptr id v i j h => exact .ptr _ _ _ _ (by omega)
    · rcases List.mem_or_eq_of_mem_set he' with h | h
      · exact hcs _ h
      · rw [h]; exact hyl
    · dsimp only
      by_cases h1 : k + 1 ≤ i
      · rw [if_pos (by omega), if_pos h1]; exact hbm k
      · rw [if_neg h1]
        split
        · have := hmono k i (by omega)
          omega
        · omega
    · dsimp only
      rw [if_neg (by omega)]
      show _ ≤ (E σ ((0, cs.set (0 + i) ys') :: (l' ++ l2))).next
      simp [E_next]
    · dsimp only
      by_cases e : k = i
      · subst e
        have e1 : (cs.set (0 + k) ys')[k] = ys' := by simp
        rw [e1, if_pos (Nat.le_refl _), if_neg (by omega)]
        refine (hnew.frame fun a ha => hget a (by omega)).mono fun a ha => ?_
        omega
      · have e1 : (cs.set (0 + i) ys')[k] = cs[k]'(by omega) := by
          simp only [Nat.zero_add]
          rw [List.getElem_set_ne (Ne.symm e)]
        rw [e1, if_pos (by omega), if_pos (by omega)]
        have hk0 := hmono 0 k (by omega)
        have hki := hmono (k + 1) i (by omega)
        refine (hh k h1 (by omega) (by omega)).frame fun a ha => ?_
        show (E σ ((0, cs.set (0 + i) ys') :: (l' ++ l2))).get a = _
        rw [hget a (by omega), E_ge (by omega), E_ge (by omega), List.getElem?_append_left (by simp; omega)]
  · repeat' first | (apply Go.adm; exact rfl) | apply Go.qs | apply Qg.nil | ((first | apply Go.v2 | apply Go.v1); (first | exact leAdd | assumption); iterate 6 exact rfl) | ((first | apply Go.op | apply Go.sop | apply Qg.op); exact rfl; (first | exact aop_alloc | exact aop_new rfl rfl | exact aop_mksl rfl | exact aop_lenM rfl | exact rfl | exact aL rfl rfl rfl rfl rfl | exact aS rfl rfl rfl rfl rfl rfl rfl)) | ((first | apply Go.no | apply Go.sno | apply Qg.no); exact rfl) | (exfalso; omega) | (((first | apply Go.iQ | apply Go.gQ | apply Go.sQ | apply Qg.gQ); exact rfl; (first | exact .d | exact .e | exact .n | ((fail_if_success exact bqt); (fail_if_success exact bqf); exact .b))) <;> intro _)
    have hii : i = xs.length := by omega
    subst hii
    have hch : ∀ k, ∃ U : Nat → Nat → Prop, ∀ (h1 : k < xs.length) (h2 : k < cs.length), (cs[k].length = (enc xs[k]).length ∧ (∀ j a, U j a → b k ≤ a ∧ a < b (k + 1)) ∧ (∀ j j' a, U j a → U j' a → j = j') ∧ ∀ j (hy : j < (enc xs[k]).length) (hx : j < cs[k].length), Has (E σ ((0, cs) :: l')) (U j) (enc xs[k])[j] cs[k][j]) := by
      intro k
      by_cases h1 : k < xs.length
      · obtain ⟨U, hU⟩ := hh k h1 (by omega) h1
        exact ⟨U, fun _ _ => hU⟩
      · exact ⟨fun _ _ => False, fun h => absurd h h1⟩
    obtain ⟨U, hU⟩ := Classical.axiomOfChoice hch
    refine .ret rfl ⟨.sl (σ.next + 0) 0 0 xs.length xs.length, (0, cs) :: l', rfl, rfl, htd, ?_⟩
    have hb1 : ∀ k, σ.next + 1 ≤ b k := fun k => by have := hmono 0 k (by omega); omega
    have := Has.o (σ := E σ ((0, cs) :: l')) (S := fun a => σ.next ≤ a ∧ a < (E σ ((0, cs) :: l')).next) (xs.map enc) (σ.next + 0) 0 s cs [] (fun k j a => k < xs.length ∧ U k j a) (by rw [E_at]; simp) (by simp [E_next]) (by simp [hcl])
      (fun k hk => by
        have h1 : k < xs.length := by simpa using hk
        rw [(hU k h1 (by omega)).1]
        simp) (fun e he => hcs e (by simpa using he)) (fun e he => by simp at he) (fun k j a ha => by
        have h3 := (hU k ha.1 (by omega)).2.1 j a ha.2
        have h4 := hb1 k
        have h5 := hmono (k + 1) xs.length (by omega)
        simp only [Nat.add_zero]
        omega)
      (fun k j k' j' a ha ha' => by
        have h3 := (hU k ha.1 (by omega)).2.1 j a ha.2
        have h4 := (hU k' ha'.1 (by omega)).2.1 j' a ha'.2
        have hkk : k = k' := by
          rcases Nat.lt_trichotomy k k' with h | h | h
          · have := hmono (k + 1) k' h
            omega
          · exact h
          · have := hmono (k' + 1) k h
            omega
        subst hkk
        exact ⟨rfl, (hU k ha.1 (by omega)).2.2.1 j j' a ha.2 ha'.2⟩)
      (fun k j hk hj => by
        have h1 : k < xs.length := by simpa using hk
        have h2 : j < (enc xs[k]).length := by simpa using hj
        have h3 := (hU k h1 (by omega)).1
        have h4 := (hU k h1 (by omega)).2.2.2 j h2 (by omega)
        have e : (xs.map enc)[k] = enc xs[k] := by simp
        simp only [e]
        exact h4.mono fun a ha => ⟨h1, ha⟩)
    simpa using this
end Go.Proofs.YtcfpdongfdhgjaaGreat.Am
