/- Joined texts: C1, F1, F2, F3, F4, F5, F6, F7, F8, K1, K2, S1, S2, S3. -/
import Derived.Test.YtmmgbgpglhbhcaaGreatProg
import Derived.KernelRfl
import Derived.Test.YtmmgbgpglhbhcaaGreatChecked
import Derived.Test.YtmmgbgpglhbhcaaGreatV1
import Derived.Test.YtmmgbgpglhbhcaaGreatV2
set_option linter.unusedVariables false
namespace Go.Proofs.YtmmgbgpglhbhcaaGreat.Am
abbrev oM (d k : Nat) : jd := ⟨some d, .op (.mv (.t k)), none⟩
abbrev oP (d : Nat) (a : AOp) : jd := ⟨some d, .op a, none⟩
abbrev oT (d : Nat) (a : AOp) (g : Nat) : jd := ⟨some d, .op a, some (g, true)⟩
abbrev oF (d : Nat) (a : AOp) (g : Nat) : jd := ⟨some d, .op a, some (g, false)⟩
abbrev oC (d n : Nat) (l : List Opd) : jd := ⟨some d, .call (.f n) l, none⟩
abbrev kI (z : Int) : Opd := .k (.int .i64 z)
abbrev oFa (d j t : Nat) : jd := oP d (.faddr j (.t t))
abbrev oLf (d t : Nat) : jd := oP d (.load false 1 (.t t))
abbrev oLt (d s t : Nat) : jd := oP d (.load true s (.t t))
abbrev oMi (d : Nat) (z : Int) : jd := oP d (.mv (kI z))
abbrev oMb (d : Nat) (b : Bool) : jd := oP d (.mv (.k (.bool b)))
abbrev oIa (d s a b : Nat) : jd := oP d (.iaddr s (.t a) (.t b))
abbrev oLn (d t : Nat) : jd := oP d (.len false (.t t))
abbrev oBt (d : Nat) (o : BinOp) (a b : Nat) : jd := oP d (.bin o (.t a) (.t b))
abbrev oBk (d : Nat) (o : BinOp) (a : Nat) (z : Int) : jd := oP d (.bin o (.t a) (kI z))
abbrev oPo (d a b : Nat) : jd := oP d (.pick (.t a) (.k (.bool true)) (.t b))
abbrev oPa (d a b : Nat) : jd := oP d (.pick (.t a) (.t b) (.k (.bool false)))
abbrev oEx (d t j : Nat) : jd := oP d (.ext (.t t) j)
abbrev oUn (d t : Nat) : jd := oP d (.un .not (.t t))
abbrev oNc (d t : Nat) : jd := oP d (.nilc (.t t))
abbrev oBx (d t : Nat) : jd := oP d (.box true (.t t))
abbrev oSt (s a b : Nat) : jd := ⟨none, .op (.store s (.t a) (.t b)), none⟩
abbrev ota (d j t g : Nat) : jd := oT d (.faddr j (.t t)) g
abbrev otl (d t g : Nat) : jd := oT d (.load false 1 (.t t)) g
abbrev otm (d t g : Nat) : jd := oT d (.mv (.t t)) g
abbrev oti (d s a b g : Nat) : jd := oT d (.iaddr s (.t a) (.t b)) g
abbrev otc (d n : Nat) (l : List Opd) (g : Nat) : jd := ⟨some d, .call (.f n) l, some (g, true)⟩
abbrev ofa (d j t g : Nat) : jd := oF d (.faddr j (.t t)) g
abbrev ofl (d t g : Nat) : jd := oF d (.load false 1 (.t t)) g
abbrev ofm (d t g : Nat) : jd := oF d (.mv (.t t)) g
abbrev ofi (d s a b g : Nat) : jd := oF d (.iaddr s (.t a) (.t b)) g
abbrev ofc (d n : Nat) (l : List Opd) (g : Nat) : jd := ⟨some d, .call (.f n) l, some (g, false)⟩
abbrev oG (l : List jd) : AC := .region l
abbrev oS (a b : AC) : AC := .seq a b
abbrev oD (l : List (List jd)) : AC := .draw l
abbrev oQ (t : Nat) (a b : AC) : AC := .cond (.t t) a b
abbrev oH (l : List jd) (b : AC) : AC := .seq (.region l) b
def zdh : AFn := ⟨163,[.t 6],(oH [oBx 5 2,oMb 6 false] (oH [oMi 7 1048576] (oH [oM 23 0,oM 24 7,oC 25 8 [.t 23,.t 24],oM 7 25] (oS (oH [oM 26 7,oBk 27 .lss 26 0] (oQ 27 (oH [oMb 6 true] .ret) .skip)) (oH [oM 28 1,oM 29 7,oC 30 9 [.t 28,.t 29],oM 7 30] (oS (oH [oM 31 7,oBk 32 .lss 31 0] (oQ 32 (oH [oMb 6 true] .ret) .skip)) (oH [oLt 33 6 5,oM 34 7,oC 35 27 [.t 33,.t 34],oM 7 35] (oS (oH [oM 36 7,oBk 37 .lss 36 0] (oQ 37 (oH [oMb 6 true] .ret) .skip)) (oS (oD [[oM 39 0,oC 40 11 [.t 39],oM 41 1,oC 42 12 [.t 41],oLt 43 6 5],[oC 44 29 [.t 43]],[oC 45 28 [.t 40,.t 42,.t 44]],[oM 38 45],[oEx 46 38 0,oEx 47 38 1,oEx 48 38 2,oM 8 46,oM 9 47],[oM 10 48]]) (oH [oM 49 0,oC 50 11 [.t 49],oM 11 50] (oH [oM 51 1,oC 52 12 [.t 51],oM 12 52] (oH [oLt 53 6 5,oC 54 29 [.t 53],oP 13 (.alloc [.int .i64 0,.str [],.nils,.nils,.nils,.int .i64 0]),oSt 6 13 54] (oH [oM 56 11,oM 57 12,oLt 58 6 13,oC 59 30 [.t 56,.t 57,.t 58],oM 55 59,oEx 60 55 0,oEx 61 55 1,oEx 62 55 2,oM 14 60,oM 15 61,oM 16 62] (oS (oH [oM 63 14,oM 64 8,oC 65 14 [.t 63,.t 64],oUn 66 65,oM 67 66,ofm 68 15 67,ofm 69 9 67,oF 70 (.bin .neq (.t 68) (.t 69)) 67,oPo 71 67 70,oM 72 71,ofm 73 16 72,ofm 74 10 72,oF 75 (.bin .neq (.t 73) (.t 74)) 72,oPo 76 72 75] (oQ 76 (oH [oMb 6 false] .ret) .skip)) (oS (oH [oM 77 11,oM 78 0,oC 79 11 [.t 78],oC 80 15 [.t 77,.t 79],oUn 81 80] (oQ 81 (oH [oMb 6 false] .ret) .skip)) (oS (oH [oM 82 12,oM 83 1,oC 84 12 [.t 83],oC 85 14 [.t 82,.t 84],oUn 86 85] (oQ 86 (oH [oMb 6 false] .ret) .skip)) (oS (oS (oD [[oLt 87 6 13,oLt 88 6 5,oC 89 29 [.t 88]],[oC 90 31 [.t 87,.t 89]],[oUn 91 90]]) (oQ 91 (oH [oMb 6 false] .ret) .skip)) (oH [oMi 17 1] (oH [oM 92 11,oM 93 17,oC 94 16 [.t 92,.t 93],oM 17 94] (oH [oM 95 12,oM 96 17,oC 97 17 [.t 95,.t 96],oM 17 97] (oH [oLt 98 6 13,oM 99 17,oC 100 32 [.t 98,.t 99],oM 17 100] (oS (oH [oM 101 17,oBk 102 .lss 101 0,oM 103 102,ofm 104 14 103,ofm 105 8 103,ofc 106 14 [.t 104,.t 105] 103,oF 107 (.un .not (.t 106)) 103,oPo 108 103 107,oM 109 108,ofm 110 15 109,ofm 111 9 109,oF 112 (.bin .neq (.t 110) (.t 111)) 109,oPo 113 109 112,oM 114 113,ofm 115 16 114,ofm 116 10 114,oF 117 (.bin .neq (.t 115) (.t 116)) 114,oPo 118 114 117] (oQ 118 (oH [oMb 6 false] .ret) .skip)) (oH [oMi 18 1] (oH [oM 119 14,oM 120 18,oC 121 17 [.t 119,.t 120],oM 18 121] (oH [oMi 19 1] (oH [oM 122 14,oM 123 19,oC 124 18 [.t 122,.t 123],oM 19 124] (oS (oH [oM 125 19,oBk 126 .lss 125 0] (oQ 126 (oH [oMb 6 false] .ret) .skip)) (oS (oH [oM 127 19,oM 128 18,oBt 129 .neq 127 128] (oQ 129 (oH [oMb 6 false] .ret) .skip)) (oS (oD [[oM 131 0,oC 132 11 [.t 131],oM 133 1,oC 134 12 [.t 133],oLt 135 6 5],[oC 136 29 [.t 135]],[oC 137 30 [.t 132,.t 134,.t 136]],[oM 130 137],[oEx 138 130 0,oEx 139 130 1,oEx 140 130 2,oM 20 138,oM 21 139],[oM 22 140]]) (oS (oH [oM 141 20,oM 142 8,oC 143 14 [.t 141,.t 142],oUn 144 143,oM 145 144,ofm 146 21 145,ofm 147 9 145,oF 148 (.bin .neq (.t 146) (.t 147)) 145,oPo 149 145 148,oM 150 149,ofm 151 22 150,ofm 152 10 150,oF 153 (.bin .neq (.t 151) (.t 152)) 150,oPo 154 150 153] (oQ 154 (oH [oMb 6 false] .ret) .skip)) (oH [oMi 19 1] (oH [oM 155 14,oM 156 19,oC 157 18 [.t 155,.t 156],oM 19 157] (oS (oH [oM 158 19,oBk 159 .lss 158 0] (oQ 159 (oH [oMb 6 false] .ret) .skip)) (oS (oH [oM 160 19,oM 161 18,oBt 162 .neq 160 161] (oQ 162 (oH [oMb 6 false] .ret) .skip)) (oH [oMb 6 true] .ret)))))))))))))))))))))))))))))))))))⟩
theorem wcb : wc Tryz.prog [5] 6 = some zdh := by kernel_rfl
def zfs : AFn := ⟨27,[.t 4],(oH [oMi 4 0] (oH [oM 6 1,oM 7 0,oLn 8 7,oBt 9 .sub 6 8,oM 1 9] (oS (oH [oM 10 1,oBk 11 .lss 10 0] (oQ 11 (oH [oMi 4 (-1)] .ret) .skip)) (oS (oH [oMi 5 0] (.block 0 (.loop (oS (oH [oM 12 5,oM 13 0,oLn 14 13,oBt 15 .lss 12 14] (oQ 15 .skip (.exit 0))) (oS (.block 1 (oH [oM 18 0,oM 19 5,oIa 20 6 18 19,oLt 21 6 20,oM 22 1,oC 23 39 [.t 21,.t 22],oM 1 23] (oH [oM 24 1,oBk 25 .lss 24 0] (oQ 25 (oH [oMi 4 (-1)] .ret) .skip)))) (oG [oM 16 5,oBk 17 .add 16 1,oM 5 17])))))) (oH [oM 26 1,oM 4 26] .ret)))))⟩
theorem jdh : wc Tryz.prog [] 8 = some zfs := by kernel_rfl
def wg3 : AFn := ⟨27,[.t 4],(oH [oMi 4 0] (oH [oM 6 1,oM 7 0,oLn 8 7,oBt 9 .sub 6 8,oM 1 9] (oS (oH [oM 10 1,oBk 11 .lss 10 0] (oQ 11 (oH [oMi 4 (-1)] .ret) .skip)) (oS (oH [oMi 5 0] (.block 0 (.loop (oS (oH [oM 12 5,oM 13 0,oLn 14 13,oBt 15 .lss 12 14] (oQ 15 .skip (.exit 0))) (oS (.block 1 (oH [oM 18 0,oM 19 5,oIa 20 1 18 19,oLt 21 1 20,oM 22 1,oC 23 40 [.t 21,.t 22],oM 1 23] (oH [oM 24 1,oBk 25 .lss 24 0] (oQ 25 (oH [oMi 4 (-1)] .ret) .skip)))) (oG [oM 16 5,oBk 17 .add 16 1,oM 5 17])))))) (oH [oM 26 1,oM 4 26] .ret)))))⟩
theorem jd6 : wc Tryz.prog [] 9 = some wg3 := by kernel_rfl
def jfs : AFn := ⟨23,[.t 2],(oH [oP 2 (.mv (.k (.nils)))] (oH [oM 5 0,oLn 6 5,oP 7 (.mkslice 6 136 [.str [],.nils,.nils,.nils,.nils,.nils] (.t 6) (.t 6)),oM 3 7] (oS (oH [oMi 4 0] (.block 0 (.loop (oS (oH [oM 8 4,oM 9 0,oLn 10 9,oBt 11 .lss 8 10] (oQ 11 .skip (.exit 0))) (oS (.block 1 (oG [oM 14 3,oM 15 4,oM 16 0,oM 17 4,oIa 18 6 16 17,oLt 19 6 18,oC 20 45 [.t 19],oIa 21 6 14 15,oSt 6 21 20])) (oG [oM 12 4,oBk 13 .add 12 1,oM 4 13])))))) (oH [oM 22 3,oM 2 22] .ret))))⟩
theorem wdh : wc Tryz.prog [] 11 = some jfs := by kernel_rfl
def zg4 : AFn := ⟨23,[.t 2],(oH [oP 2 (.mv (.k (.nils)))] (oH [oM 5 0,oLn 6 5,oP 7 (.mkslice 1 24 [.nils] (.t 6) (.t 6)),oM 3 7] (oS (oH [oMi 4 0] (.block 0 (.loop (oS (oH [oM 8 4,oM 9 0,oLn 10 9,oBt 11 .lss 8 10] (oQ 11 .skip (.exit 0))) (oS (.block 1 (oG [oM 14 3,oM 15 4,oM 16 0,oM 17 4,oIa 18 1 16 17,oLt 19 1 18,oC 20 46 [.t 19],oIa 21 1 14 15,oSt 1 21 20])) (oG [oM 12 4,oBk 13 .add 12 1,oM 4 13])))))) (oH [oM 22 3,oM 2 22] .ret))))⟩
theorem wd6 : wc Tryz.prog [] 12 = some zg4 := by kernel_rfl
def jg4 : AFn := ⟨27,[.t 4],(oH [oMb 4 false] (oS (oH [oM 6 0,oLn 7 6,oM 8 1,oLn 9 8,oBt 10 .neq 7 9] (oQ 10 (oH [oMb 4 false] .ret) .skip)) (oS (oH [oMi 5 0] (.block 0 (.loop (oS (oH [oM 11 5,oM 12 0,oLn 13 12,oBt 14 .lss 11 13] (oQ 14 .skip (.exit 0))) (oS (.block 1 (oS (oD [[oM 17 0,oM 18 5,oIa 19 1 17 18,oLt 20 1 19,oM 21 1,oM 22 5,oIa 23 1 21 22,oLt 24 1 23],[oC 25 52 [.t 20,.t 24]],[oUn 26 25]]) (oQ 26 (oH [oMb 4 false] .ret) .skip))) (oG [oM 15 5,oBk 16 .add 15 1,oM 5 16])))))) (oH [oMb 4 true] .ret))))⟩
theorem zd7 : wc Tryz.prog [] 14 = some jg4 := by kernel_rfl
def wfs : AFn := ⟨27,[.t 4],(oH [oMb 4 false] (oS (oH [oM 6 0,oLn 7 6,oM 8 1,oLn 9 8,oBt 10 .neq 7 9] (oQ 10 (oH [oMb 4 false] .ret) .skip)) (oS (oH [oMi 5 0] (.block 0 (.loop (oS (oH [oM 11 5,oM 12 0,oLn 13 12,oBt 14 .lss 11 13] (oQ 14 .skip (.exit 0))) (oS (.block 1 (oS (oD [[oM 17 0,oM 18 5,oIa 19 6 17 18,oLt 20 6 19,oM 21 1,oM 22 5,oIa 23 6 21 22,oLt 24 6 23],[oC 25 53 [.t 20,.t 24]],[oUn 26 25]]) (oQ 26 (oH [oMb 4 false] .ret) .skip))) (oG [oM 15 5,oBk 16 .add 15 1,oM 5 16])))))) (oH [oMb 4 true] .ret))))⟩
theorem zdi : wc Tryz.prog [] 15 = some wfs := by kernel_rfl
def jd7 : AFn := ⟨56,[.t 4],(oH [oMi 4 0] (oS (oH [oMi 5 0] (.block 0 (.loop (oS (oH [oM 6 5,oM 7 0,oLn 8 7,oBt 9 .lss 6 8] (oQ 9 .skip (.exit 0))) (oS (.block 1 (oH [oM 12 0,oM 13 5,oM 14 1,oC 15 54 [.t 14],oIa 16 6 12 13,oFa 17 0 16,oSt 1 17 15] (oH [oM 18 1,oBk 19 .add 18 1,oM 1 19] (oH [oM 20 0,oM 21 5,oIa 22 6 20 21,oFa 23 1 22,oLf 24 23,oM 25 1,oC 26 55 [.t 24,.t 25],oM 1 26] (oH [oM 27 0,oM 28 5,oIa 29 6 27 28,oFa 30 2 29,oLf 31 30,oM 32 1,oC 33 56 [.t 31,.t 32],oM 1 33] (oH [oM 34 0,oM 35 5,oIa 36 6 34 35,oFa 37 3 36,oLf 38 37,oM 39 1,oC 40 57 [.t 38,.t 39],oM 1 40] (oH [oM 41 0,oM 42 5,oIa 43 6 41 42,oFa 44 4 43,oLf 45 44,oM 46 1,oC 47 58 [.t 45,.t 46],oM 1 47] (oG [oM 48 0,oM 49 5,oIa 50 6 48 49,oFa 51 5 50,oLf 52 51,oM 53 1,oC 54 59 [.t 52,.t 53],oM 1 54])))))))) (oG [oM 10 5,oBk 11 .add 10 1,oM 5 11])))))) (oH [oM 55 1,oM 4 55] .ret)))⟩
theorem zcs : wc Tryz.prog [] 16 = some jd7 := by kernel_rfl
def wew : AFn := ⟨20,[.t 4],(oH [oMi 4 0] (oS (oH [oMi 5 0] (.block 0 (.loop (oS (oH [oM 6 5,oM 7 0,oLn 8 7,oBt 9 .lss 6 8] (oQ 9 .skip (.exit 0))) (oS (.block 1 (oG [oM 12 0,oM 13 5,oIa 14 1 12 13,oFa 15 0 14,oLf 16 15,oM 17 1,oC 18 60 [.t 16,.t 17],oM 1 18])) (oG [oM 10 5,oBk 11 .add 10 1,oM 5 11])))))) (oH [oM 19 1,oM 4 19] .ret)))⟩
theorem jc2 : wc Tryz.prog [] 17 = some wew := by kernel_rfl
def zex : AFn := ⟨22,[.t 4],(oH [oMi 4 0] (oS (oH [oMi 5 0] (.block 0 (.loop (oS (oH [oM 6 5,oM 7 0,oLn 8 7,oBt 9 .lss 6 8] (oQ 9 .skip (.exit 0))) (oS (.block 1 (oH [oM 12 0,oM 13 5,oIa 14 1 12 13,oFa 15 0 14,oLf 16 15,oM 17 1,oC 18 61 [.t 16,.t 17],oM 1 18] (oH [oM 19 1,oBk 20 .lss 19 0] (oQ 20 (oH [oMi 4 (-1)] .ret) .skip)))) (oG [oM 10 5,oBk 11 .add 10 1,oM 5 11])))))) (oH [oM 21 1,oM 4 21] .ret)))⟩
theorem wc2 : wc Tryz.prog [] 18 = some zex := by kernel_rfl
def jh3 : AFn := ⟨27,[.t 4],(oH [oMi 4 0] (oH [oM 6 1,oM 7 0,oLn 8 7,oBt 9 .sub 6 8,oM 1 9] (oS (oH [oM 10 1,oBk 11 .lss 10 0] (oQ 11 (oH [oMi 4 (-1)] .ret) .skip)) (oS (oH [oMi 5 0] (.block 0 (.loop (oS (oH [oM 12 5,oM 13 0,oLn 14 13,oBt 15 .lss 12 14] (oQ 15 .skip (.exit 0))) (oS (.block 1 (oH [oM 18 0,oM 19 5,oIa 20 3 18 19,oLt 21 3 20,oM 22 1,oC 23 62 [.t 21,.t 22],oM 1 23] (oH [oM 24 1,oBk 25 .lss 24 0] (oQ 25 (oH [oMi 4 (-1)] .ret) .skip)))) (oG [oM 16 5,oBk 17 .add 16 1,oM 5 17])))))) (oH [oM 26 1,oM 4 26] .ret)))))⟩
theorem jex : wc Tryz.prog [] 19 = some jh3 := by kernel_rfl
def wh3 : AFn := ⟨23,[.t 2],(oH [oP 2 (.mv (.k (.nils)))] (oH [oM 5 0,oLn 6 5,oP 7 (.mkslice 3 32 [.int .i64 0,.int .i64 0,.str []] (.t 6) (.t 6)),oM 3 7] (oS (oH [oMi 4 0] (.block 0 (.loop (oS (oH [oM 8 4,oM 9 0,oLn 10 9,oBt 11 .lss 8 10] (oQ 11 .skip (.exit 0))) (oS (.block 1 (oG [oM 14 3,oM 15 4,oM 16 0,oM 17 4,oIa 18 3 16 17,oLt 19 3 18,oC 20 66 [.t 19],oIa 21 3 14 15,oSt 3 21 20])) (oG [oM 12 4,oBk 13 .add 12 1,oM 4 13])))))) (oH [oM 22 3,oM 2 22] .ret))))⟩
theorem wex : wc Tryz.prog [] 21 = some wh3 := by kernel_rfl
def zh4 : AFn := ⟨27,[.t 4],(oH [oMb 4 false] (oS (oH [oM 6 0,oLn 7 6,oM 8 1,oLn 9 8,oBt 10 .neq 7 9] (oQ 10 (oH [oMb 4 false] .ret) .skip)) (oS (oH [oMi 5 0] (.block 0 (.loop (oS (oH [oM 11 5,oM 12 0,oLn 13 12,oBt 14 .lss 11 13] (oQ 14 .skip (.exit 0))) (oS (.block 1 (oS (oD [[oM 17 0,oM 18 5,oIa 19 3 17 18,oLt 20 3 19,oM 21 1,oM 22 5,oIa 23 3 21 22,oLt 24 3 23],[oC 25 71 [.t 20,.t 24]],[oUn 26 25]]) (oQ 26 (oH [oMb 4 false] .ret) .skip))) (oG [oM 15 5,oBk 16 .add 15 1,oM 5 16])))))) (oH [oMb 4 true] .ret))))⟩
theorem zey : wc Tryz.prog [] 23 = some zh4 := by kernel_rfl
def zft : AFn := ⟨35,[.t 4],(oH [oMi 4 0] (oS (oH [oMi 5 0] (.block 0 (.loop (oS (oH [oM 6 5,oM 7 0,oLn 8 7,oBt 9 .lss 6 8] (oQ 9 .skip (.exit 0))) (oS (.block 1 (oH [oM 12 0,oM 13 5,oM 14 1,oIa 15 3 12 13,oFa 16 0 15,oSt 1 16 14] (oH [oM 17 1,oBk 18 .add 17 1,oM 1 18] (oH [oM 19 0,oM 20 5,oM 21 1,oIa 22 3 19 20,oFa 23 1 22,oSt 1 23 21] (oH [oM 24 1,oBk 25 .add 24 1,oM 1 25] (oH [oM 26 0,oM 27 5,oM 28 1,oC 29 54 [.t 28],oIa 30 3 26 27,oFa 31 2 30,oSt 1 31 29] (oG [oM 32 1,oBk 33 .add 32 1,oM 1 33]))))))) (oG [oM 10 5,oBk 11 .add 10 1,oM 5 11])))))) (oH [oM 34 1,oM 4 34] .ret)))⟩
theorem jdi : wc Tryz.prog [] 24 = some zft := by kernel_rfl
def jh4 : AFn := ⟨31,[.t 4],(oH [oBx 2 0,oMi 4 0] (oH [oM 5 1,oFa 6 1 2,oLf 7 6,oP 8 (.len true (.t 7)),oBt 9 .sub 5 8,oM 1 9] (oS (oH [oM 10 1,oBk 11 .lss 10 0] (oQ 11 (oH [oMi 4 (-1)] .ret) .skip)) (oH [oFa 12 2 2,oLf 13 12,oM 14 1,oC 15 75 [.t 13,.t 14],oM 1 15] (oS (oH [oM 16 1,oBk 17 .lss 16 0] (oQ 17 (oH [oMi 4 (-1)] .ret) .skip)) (oH [oFa 18 3 2,oLf 19 18,oM 20 1,oC 21 76 [.t 19,.t 20],oM 1 21] (oS (oH [oM 22 1,oBk 23 .lss 22 0] (oQ 23 (oH [oMi 4 (-1)] .ret) .skip)) (oH [oFa 24 4 2,oLf 25 24,oM 26 1,oC 27 77 [.t 25,.t 26],oM 1 27] (oS (oH [oM 28 1,oBk 29 .lss 28 0] (oQ 29 (oH [oMi 4 (-1)] .ret) .skip)) (oH [oM 30 1,oM 4 30] .ret))))))))))⟩
theorem jey : wc Tryz.prog [2] 27 = some jh4 := by kernel_rfl
def jju : AFn := ⟨34,[.t 6,.t 7,.t 8],(oH [oBx 5 2,oP 6 (.mv (.k (.nils))),oMi 7 0,oMi 8 0] (oS (oH [oM 12 0,oM 13 1,oC 14 78 [.t 12,.t 13],oUn 15 14,oM 16 15,ofm 17 0 16,oF 18 (.load true 6 (.t 5)) 16,ofc 19 79 [.t 17,.t 18] 16,oF 20 (.un .not (.t 19)) 16,oPo 21 16 20] (oQ 21 (oH [oP 6 (.mv (.k (.nils))),oMi 7 1,oMi 8 0] .ret) .skip)) (oH [oM 23 0,oM 24 1,oLt 25 6 5,oC 26 80 [.t 23,.t 24,.t 25],oM 22 26,oEx 27 22 0,oEx 28 22 1,oEx 29 22 2,oM 9 27,oM 10 28,oM 11 29] (oH [oM 30 9,oC 31 43 [.t 30],oM 32 10,oM 33 11,oM 6 31,oM 7 32,oM 8 33] .ret))))⟩
theorem wg4 : wc Tryz.prog [5] 28 = some jju := by kernel_rfl
def wh4 : AFn := ⟨26,[.m 2 true 6],(oH [oBx 1 0,oP 2 (.alloc [.int .i64 0,.str [],.nils,.nils,.nils,.int .i64 0])] (oH [oP 3 (.alloc [.int .i64 0,.str [],.nils,.nils,.nils,.int .i64 0])] (oH [oFa 4 0 1,oLf 5 4,oFa 6 0 3,oSt 1 6 5] (oH [oFa 7 1 1,oLf 8 7,oFa 9 1 3,oSt 1 9 8] (oH [oFa 10 2 1,oLf 11 10,oC 12 81 [.t 11],oFa 13 2 3,oSt 1 13 12] (oH [oFa 14 3 1,oLf 15 14,oC 16 82 [.t 15],oFa 17 3 3,oSt 1 17 16] (oH [oFa 18 4 1,oLf 19 18,oC 20 83 [.t 19],oFa 21 4 3,oSt 1 21 20] (oH [oFa 22 5 1,oLf 23 22,oFa 24 5 3,oSt 1 24 23] (oH [oLt 25 6 3,oSt 6 2 25] .ret)))))))))⟩
theorem wey : wc Tryz.prog [1] 29 = some wh4 := by kernel_rfl
def wju : AFn := ⟨26,[.t 6,.t 7,.t 8],(oH [oBx 5 2,oP 6 (.mv (.k (.nils))),oMi 7 0,oMi 8 0] (oS (oH [oM 9 0,oM 10 1,oC 11 47 [.t 9,.t 10],oUn 12 11,oM 13 12,ofm 14 0 13,oF 15 (.load true 6 (.t 5)) 13,ofc 16 84 [.t 14,.t 15] 13,oF 17 (.un .not (.t 16)) 13,oPo 18 13 17] (oQ 18 (oH [oP 6 (.mv (.k (.nils))),oMi 7 1,oMi 8 0] .ret) .skip)) (oH [oM 19 0,oM 20 1,oLt 21 6 5,oC 22 85 [.t 19,.t 20,.t 21,(.f 86)],oEx 23 22 0,oEx 24 22 1,oEx 25 22 2,oM 6 23,oM 7 24,oM 8 25] .ret)))⟩
theorem zg5 : wc Tryz.prog [5] 30 = some wju := by kernel_rfl
def zh5 : AFn := ⟨38,[.t 4],(oH [oBx 2 0,oBx 3 1,oMb 4 false] (oS (oH [oFa 5 0 2,oLf 6 5,oFa 7 0 3,oLf 8 7,oBt 9 .neq 6 8] (oQ 9 (oH [oMb 4 false] .ret) .skip)) (oS (oH [oFa 10 1 2,oLf 11 10,oFa 12 1 3,oLf 13 12,oBt 14 .neq 11 13] (oQ 14 (oH [oMb 4 false] .ret) .skip)) (oS (oH [oFa 15 2 2,oLf 16 15,oFa 17 2 3,oLf 18 17,oC 19 87 [.t 16,.t 18],oUn 20 19] (oQ 20 (oH [oMb 4 false] .ret) .skip)) (oS (oH [oFa 21 3 2,oLf 22 21,oFa 23 3 3,oLf 24 23,oC 25 88 [.t 22,.t 24],oUn 26 25] (oQ 26 (oH [oMb 4 false] .ret) .skip)) (oS (oH [oFa 27 4 2,oLf 28 27,oFa 29 4 3,oLf 30 29,oC 31 89 [.t 28,.t 30],oUn 32 31] (oQ 32 (oH [oMb 4 false] .ret) .skip)) (oS (oH [oFa 33 5 2,oLf 34 33,oFa 35 5 3,oLf 36 35,oBt 37 .neq 34 36] (oQ 37 (oH [oMb 4 false] .ret) .skip)) (oH [oMb 4 true] .ret))))))))⟩
theorem zez : wc Tryz.prog [2, 3] 31 = some zh5 := by kernel_rfl
def jft : AFn := ⟨18,[.t 4],(oH [oBx 2 0,oMi 4 0] (oH [oFa 5 2 2,oLf 6 5,oM 7 1,oC 8 60 [.t 6,.t 7],oM 1 8] (oH [oFa 9 3 2,oLf 10 9,oM 11 1,oC 12 90 [.t 10,.t 11],oM 1 12] (oH [oFa 13 4 2,oLf 14 13,oM 15 1,oC 16 91 [.t 14,.t 15],oM 1 16] (oH [oM 17 1,oM 4 17] .ret)))))⟩
theorem wbm : wc Tryz.prog [2] 32 = some jft := by kernel_rfl
def jg5 : AFn := ⟨43,[.t 4],(oH [oBx 2 0,oMi 4 0] (oH [oM 5 1,oFa 6 0 2,oLf 7 6,oP 8 (.len true (.t 7)),oBt 9 .sub 5 8,oM 1 9] (oS (oH [oM 10 1,oBk 11 .lss 10 0] (oQ 11 (oH [oMi 4 (-1)] .ret) .skip)) (oH [oFa 12 1 2,oLf 13 12,oM 14 1,oC 15 105 [.t 13,.t 14],oM 1 15] (oS (oH [oM 16 1,oBk 17 .lss 16 0] (oQ 17 (oH [oMi 4 (-1)] .ret) .skip)) (oH [oFa 18 2 2,oLf 19 18,oM 20 1,oC 21 106 [.t 19,.t 20],oM 1 21] (oS (oH [oM 22 1,oBk 23 .lss 22 0] (oQ 23 (oH [oMi 4 (-1)] .ret) .skip)) (oH [oFa 24 3 2,oLf 25 24,oM 26 1,oC 27 107 [.t 25,.t 26],oM 1 27] (oS (oH [oM 28 1,oBk 29 .lss 28 0] (oQ 29 (oH [oMi 4 (-1)] .ret) .skip)) (oH [oFa 30 4 2,oLf 31 30,oM 32 1,oC 33 108 [.t 31,.t 32],oM 1 33] (oS (oH [oM 34 1,oBk 35 .lss 34 0] (oQ 35 (oH [oMi 4 (-1)] .ret) .skip)) (oH [oFa 36 5 2,oLf 37 36,oM 38 1,oC 39 109 [.t 37,.t 38],oM 1 39] (oS (oH [oM 40 1,oBk 41 .lss 40 0] (oQ 41 (oH [oMi 4 (-1)] .ret) .skip)) (oH [oM 42 1,oM 4 42] .ret))))))))))))))⟩
theorem wd7 : wc Tryz.prog [2] 39 = some jg5 := by kernel_rfl
def jh5 : AFn := ⟨12,[.t 4],(oH [oBx 2 0,oMi 4 0] (oH [oFa 5 0 2,oLf 6 5,oM 7 1,oC 8 75 [.t 6,.t 7],oM 1 8] (oS (oH [oM 9 1,oBk 10 .lss 9 0] (oQ 10 (oH [oMi 4 (-1)] .ret) .skip)) (oH [oM 11 1,oM 4 11] .ret))))⟩
theorem jez : wc Tryz.prog [2] 40 = some jh5 := by kernel_rfl
def zjv : AFn := ⟨22,[.t 4],(oH [oBx 2 0,oMi 4 0] (oS (oH [oMi 5 0] (.block 0 (.loop (oS (oH [oM 6 5,oFa 7 0 2,oLf 8 7,oLn 9 8,oBt 10 .lss 6 9] (oQ 10 .skip (.exit 0))) (oS (.block 1 (oH [oFa 13 0 2,oLf 14 13,oM 15 5,oIa 16 2 14 15,oFa 17 0 16,oLf 18 17,oM 19 1,oBt 20 .eql 18 19] (oQ 20 (oH [oM 21 5,oM 4 21] .ret) .skip))) (oG [oM 11 5,oBk 12 .add 11 1,oM 5 12])))))) (oH [oMi 4 (-1)] .ret)))⟩
theorem wg5 : wc Tryz.prog [2] 42 = some zjv := by kernel_rfl
def wh5 : AFn := ⟨56,[.t 2],(oH [oP 2 (.mv (.k (.nils)))] (oH [oM 7 0,oLn 8 7,oP 9 (.mkslice 1 24 [.nils] (.t 8) (.t 8)),oM 3 9] (oS (oH [oMi 4 0] (.block 0 (.loop (oS (oH [oM 10 4,oM 11 0,oLn 12 11,oBt 13 .lss 10 12] (oQ 13 .skip (.exit 0))) (oS (.block 1 (oH [oP 16 (.mksl false 2 0 [.int .i64 0,.nils] []),oM 5 16] (oS (oH [oMi 6 0] (.block 2 (.loop (oS (oH [oM 17 6,oM 18 0,oM 19 4,oIa 20 1 18 19,oFa 21 0 20,oLf 22 21,oLn 23 22,oBt 24 .lss 17 23] (oQ 24 .skip (.exit 2))) (oS (.block 3 (oD [[oM 27 5,oM 28 0,oM 29 4,oIa 30 1 28 29,oFa 31 0 30,oLf 32 31,oM 33 6,oIa 34 2 32 33,oFa 35 0 34,oLf 36 35,oM 37 0,oM 38 4,oIa 39 1 37 38,oFa 40 0 39,oLf 41 40,oM 42 6,oIa 43 2 41 42,oFa 44 1 43,oLf 45 44,oC 46 65 [.t 45],oP 47 (.build [.int .i64 0,.nils] [(0,1,(.t 36)),(1,1,(.t 46))]),oP 48 (.mksl true 2 1 [.int .i64 0,.nils] [(0,(.t 47))])],[oP 49 (.app 2 32 (.t 27) (.t 48))],[oM 5 49]])) (oG [oM 25 6,oBk 26 .add 25 1,oM 6 26])))))) (oG [oM 50 3,oM 51 4,oM 52 5,oP 53 (.build [.nils] [(0,1,(.t 52))]),oIa 54 1 50 51,oSt 1 54 53])))) (oG [oM 14 4,oBk 15 .add 14 1,oM 4 15])))))) (oH [oM 55 3,oM 2 55] .ret))))⟩
theorem wez : wc Tryz.prog [48] 43 = some wh5 := by kernel_rfl
def wft : AFn := ⟨57,[.t 10,.t 11],(oH [oP 10 (.mv (.k (.nils))),oMi 11 0] (oS (oH [oM 15 4,oBk 16 .gtr 15 12] (oQ 16 (oH [oP 10 (.mv (.k (.nils))),oMi 11 6] .ret) .skip)) (oS (oD [[oM 17 1,oM 18 2,oIa 19 1 17 18,oFa 20 0 19,oLf 21 20,oM 22 1,oM 23 2,oIa 24 1 22 23,oLt 25 1 24,oM 26 3,oC 27 42 [.t 25,.t 26],oIa 28 2 21 27,oLt 29 2 28,oP 12 (.alloc [.int .i64 0,.nils])],[oSt 2 12 29]]) (oS (oD [[oM 31 0,oM 32 2,oIa 33 6 31 32,oFa 34 2 33,oLf 35 34,oFa 36 1 12,oLf 37 36],[oC 38 110 [.t 35,.t 37]],[oM 30 38],[oEx 39 30 0,oEx 40 30 1,oM 13 39],[oM 14 40]]) (oH [oM 41 0,oM 42 1,oM 43 2,oM 44 1,oM 45 2,oIa 46 1 44 45,oLt 47 1 46,oM 48 3,oC 49 113 [.t 47,.t 48],oC 50 112 [.t 42,.t 43,.t 49],oM 51 2,oM 52 13,oM 53 4,oC 54 111 [.t 41,.t 50,.t 51,.t 52,(.k (.nils)),(.k (.bool true)),.t 53],oEx 55 54 0,oEx 56 54 1,oM 10 55,oM 11 56] .ret)))))⟩
theorem zbn : wc Tryz.prog [] 44 = some wft := by kernel_rfl
def zg6 : AFn := ⟨28,[.m 2 true 6],(oH [oBx 1 0,oP 2 (.alloc [.str [],.nils,.nils,.nils,.nils,.nils])] (oH [oP 3 (.alloc [.str [],.nils,.nils,.nils,.nils,.nils])] (oH [oFa 4 0 1,oLf 5 4,oFa 6 0 3,oSt 1 6 5] (oH [oFa 7 1 1,oLf 8 7,oC 9 114 [.t 8],oFa 10 1 3,oSt 1 10 9] (oH [oFa 11 2 1,oLf 12 11,oC 13 115 [.t 12],oFa 14 2 3,oSt 1 14 13] (oH [oFa 15 3 1,oLf 16 15,oC 17 116 [.t 16],oFa 18 3 3,oSt 1 18 17] (oH [oFa 19 4 1,oLf 20 19,oC 21 117 [.t 20],oFa 22 4 3,oSt 1 22 21] (oH [oFa 23 5 1,oLf 24 23,oC 25 118 [.t 24],oFa 26 5 3,oSt 1 26 25] (oH [oLt 27 6 3,oSt 6 2 27] .ret)))))))))⟩
theorem zd8 : wc Tryz.prog [1] 45 = some zg6 := by kernel_rfl
def zh6 : AFn := ⟨9,[.m 2 true 1],(oH [oBx 1 0,oP 2 (.alloc [.nils])] (oH [oP 3 (.alloc [.nils])] (oH [oFa 4 0 1,oLf 5 4,oC 6 81 [.t 5],oFa 7 0 3,oSt 1 7 6] (oH [oLt 8 1 3,oSt 1 2 8] .ret))))⟩
theorem ze0 : wc Tryz.prog [1] 46 = some zh6 := by kernel_rfl
def jjv : AFn := ⟨33,[.t 4],(oH [oMb 4 false] (oS (oH [oM 7 0,oC 8 119 [.t 7],oUn 9 8,oM 10 9,ofm 11 1 10,oF 12 (.len false (.t 11)) 10,ofm 13 0 10,oF 14 (.len false (.t 13)) 10,oF 15 (.bin .neq (.t 12) (.t 14)) 10,oPo 16 10 15] (oQ 16 (oH [oMb 4 false] .ret) .skip)) (oS (oH [oM 17 1,oLn 18 17,oMi 19 0] (.block 0 (.loop (oH [oBt 20 .lss 19 18] (oS (oQ 20 .skip (.exit 0)) (oS (.block 1 (oH [oM 21 19,oIa 22 1 17 19,oLt 23 1 22,oP 6 (.alloc [.nils]),oM 5 21,oSt 1 6 23] (oS (oD [[oM 24 0,oM 25 5,oIa 26 6 24 25,oLt 27 6 26,oFa 28 0 6,oLf 29 28],[oC 30 120 [.t 27,.t 29]],[oUn 31 30]]) (oQ 31 (oH [oMb 4 false] .ret) .skip)))) (oG [oBk 32 .add 19 1,oM 19 32]))))))) (oH [oMb 4 true] .ret))))⟩
theorem jg6 : wc Tryz.prog [] 47 = some jjv := by kernel_rfl
def wg6 : AFn := ⟨27,[.t 6,.t 7],(oH [oP 6 (.mv (.k (.nils))),oMi 7 0] (oH [oM 10 0,oM 11 1,oC 12 122 [.t 11],oP 13 (.build [.nils,.nils] [(0,1,(.t 10)),(1,1,(.t 12))]),oP 14 (.box false (.t 13)),oM 8 14] (oS (oH [oM 15 2,oM 16 8,⟨some 17,.call (.t 15) [.t 16],none⟩,oM 9 17] (oH [oM 18 9,oBk 19 .neq 18 0] (oQ 19 (oH [oM 20 1,oC 21 122 [.t 20],oM 22 9,oM 6 21,oM 7 22] .ret) .skip))) (oH [oM 23 8,oNc 24 23,oFa 25 1 24,oLf 26 25,oM 6 26,oMi 7 0] .ret))))⟩
theorem jd8 : wc Tryz.prog [] 49 = some wg6 := by kernel_rfl
def jb8 : AFn := ⟨58,[.t 8],(oH [oBx 6 2,oMi 8 0] (oS (oH [oM 12 3,oBk 13 .gtr 12 12] (oQ 13 (oH [oMi 8 6] .ret) .skip)) (oH [oM 14 0,oM 15 1,oLf 16 6,oC 17 69 [.t 14,.t 15,.t 16],oM 9 17] (oS (oH [oM 18 9,oP 19 (.eq false false [.pt] (.t 18) (.k (.nilp)))] (oQ 19 (oH [oMi 8 9] .ret) .skip)) (oS (oD [[oM 21 0,oNc 22 21,oFa 23 0 22,oLf 24 23,oM 25 1,oIa 26 6 24 25,oFa 27 2 26,oLf 28 27,oM 29 9,oNc 30 29,oFa 31 1 30,oLf 32 31],[oC 33 123 [.t 28,.t 32]],[oM 20 33],[oEx 34 20 0,oEx 35 20 1,oM 10 34],[oM 11 35]]) (oS (oD [[oM 36 0,oNc 37 36,oFa 38 1 37,oLf 39 38,oM 40 1,oM 41 0,oNc 42 41,oFa 43 1 42,oLf 44 43,oM 45 1,oIa 46 1 44 45,oFa 47 0 46,oLf 48 47,oP 49 (.mkfn 125 [] [.t 6]),oC 50 124 [.t 48,.t 49]],[oIa 51 1 39 40],[oFa 52 0 51],[oSt 1 52 50]]) (oH [oM 53 0,oM 54 1,oM 55 10,oM 56 3,oC 57 126 [.t 53,.t 54,.t 55,(.k (.nils)),.t 56],oM 8 57] .ret)))))))⟩
theorem zam : wc Tryz.prog [6] 51 = some jb8 := by kernel_rfl
def jh6 : AFn := ⟨11,[.t 4],(oH [oBx 2 0,oBx 3 1,oMb 4 false] (oS (oH [oFa 5 0 2,oLf 6 5,oFa 7 0 3,oLf 8 7,oC 9 87 [.t 6,.t 8],oUn 10 9] (oQ 10 (oH [oMb 4 false] .ret) .skip)) (oH [oMb 4 true] .ret)))⟩
theorem je0 : wc Tryz.prog [2, 3] 52 = some jh6 := by kernel_rfl
def zg7 : AFn := ⟨40,[.t 4],(oH [oBx 2 0,oBx 3 1,oMb 4 false] (oS (oH [oFa 5 0 2,oLf 6 5,oFa 7 0 3,oLf 8 7,oBt 9 .neq 6 8] (oQ 9 (oH [oMb 4 false] .ret) .skip)) (oS (oH [oFa 10 1 2,oLf 11 10,oFa 12 1 3,oLf 13 12,oC 14 127 [.t 11,.t 13],oUn 15 14] (oQ 15 (oH [oMb 4 false] .ret) .skip)) (oS (oH [oFa 16 2 2,oLf 17 16,oFa 18 2 3,oLf 19 18,oC 20 128 [.t 17,.t 19],oUn 21 20] (oQ 21 (oH [oMb 4 false] .ret) .skip)) (oS (oH [oFa 22 3 2,oLf 23 22,oFa 24 3 3,oLf 25 24,oC 26 129 [.t 23,.t 25],oUn 27 26] (oQ 27 (oH [oMb 4 false] .ret) .skip)) (oS (oH [oFa 28 4 2,oLf 29 28,oFa 30 4 3,oLf 31 30,oC 32 130 [.t 29,.t 31],oUn 33 32] (oQ 33 (oH [oMb 4 false] .ret) .skip)) (oS (oH [oFa 34 5 2,oLf 35 34,oFa 36 5 3,oLf 37 36,oC 38 131 [.t 35,.t 37],oUn 39 38] (oQ 39 (oH [oMb 4 false] .ret) .skip)) (oH [oMb 4 true] .ret))))))))⟩
theorem wd8 : wc Tryz.prog [2, 3] 53 = some zg7 := by kernel_rfl
def zfu : AFn := ⟨20,[.t 2],(oH [oP 2 (.mv (.k (.str [])))] (oS (oH [oM 4 0,oBk 5 .leq 4 0] (oQ 5 (oH [oP 2 (.mv (.k (.str [109,48])))] .ret) .skip)) (oH [oP 3 (.mv (.k (.str [])))] (oS (.block 0 (.loop (oS (oH [oM 6 0,oBk 7 .gtr 6 0] (oQ 7 .skip (.exit 0))) (.block 1 (oH [oM 8 0,oBk 9 .rem 8 10,oP 10 (.bin .add (kI 48) (.t 9)),oP 11 (.conv .u8 (.t 10)),oP 12 (.mksl true 1 1 [.int .u8 0] [(0,(.t 11))]),oP 13 (.b2s (.t 12)),oM 14 3,oBt 15 .add 13 14,oM 3 15] (oG [oM 16 0,oBk 17 .quo 16 10,oM 0 17])))))) (oH [oM 18 3,oP 19 (.bin .add (.k (.str [109])) (.t 18)),oM 2 19] .ret)))))⟩
theorem wdi : wc Tryz.prog [12] 54 = some zfu := by kernel_rfl
def jfu : AFn := ⟨62,[.t 4],(oH [oMi 4 0] (oS (oH [oMi 5 0] (.block 0 (.loop (oS (oH [oM 6 5,oM 7 0,oLn 8 7,oBt 9 .lss 6 8] (oQ 9 .skip (.exit 0))) (oS (.block 1 (oH [oM 12 0,oM 13 5,oM 14 1,oC 15 54 [.t 14],oIa 16 6 12 13,oFa 17 0 16,oSt 1 17 15] (oH [oM 18 1,oBk 19 .add 18 1,oM 1 19] (oH [oM 20 0,oM 21 5,oM 22 1,oIa 23 6 20 21,oFa 24 1 23,oSt 1 24 22] (oH [oM 25 1,oBk 26 .add 25 1,oM 1 26] (oH [oM 27 0,oM 28 5,oM 29 1,oBk 30 .rem 29 3,oBk 31 .eql 30 0,oIa 32 6 27 28,oFa 33 2 32,oSt 1 33 31] (oH [oM 34 1,oBk 35 .add 34 1,oM 1 35] (oH [oM 36 0,oM 37 5,oM 38 1,oIa 39 6 36 37,oFa 40 3 39,oFa 41 0 40,oSt 1 41 38] (oH [oM 42 1,oBk 43 .add 42 1,oM 1 43] (oH [oM 44 0,oM 45 5,oM 46 1,oIa 47 6 44 45,oFa 48 3 47,oFa 49 1 48,oSt 1 49 46] (oH [oM 50 1,oBk 51 .add 50 1,oM 1 51] (oH [oM 52 0,oM 53 5,oM 54 1,oC 55 54 [.t 54],oIa 56 6 52 53,oFa 57 3 56,oFa 58 2 57,oSt 1 58 55] (oG [oM 59 1,oBk 60 .add 59 1,oM 1 60]))))))))))))) (oG [oM 10 5,oBk 11 .add 10 1,oM 5 11])))))) (oH [oM 61 1,oM 4 61] .ret)))⟩
theorem zdj : wc Tryz.prog [] 55 = some jfu := by kernel_rfl
def zd9 : AFn := ⟨19,[.t 4],(oH [oMi 4 0] (oS (oH [oMi 5 0] (.block 0 (.loop (oS (oH [oM 6 5,oM 7 0,oLn 8 7,oBt 9 .lss 6 8] (oQ 9 .skip (.exit 0))) (oS (.block 1 (oH [oM 12 0,oM 13 5,oM 14 1,oIa 15 1 12 13,oSt 1 15 14] (oG [oM 16 1,oBk 17 .add 16 1,oM 1 17]))) (oG [oM 10 5,oBk 11 .add 10 1,oM 5 11])))))) (oH [oM 18 1,oM 4 18] .ret)))⟩
theorem jcs : wc Tryz.prog [] 56 = some zd9 := by kernel_rfl
def jdj : AFn := ⟨20,[.t 4],(oH [oMi 4 0] (oS (oH [oMi 5 0] (.block 0 (.loop (oS (oH [oM 6 5,oM 7 0,oLn 8 7,oBt 9 .lss 6 8] (oQ 9 .skip (.exit 0))) (oS (.block 1 (oG [oM 12 0,oM 13 5,oIa 14 1 12 13,oFa 15 0 14,oLf 16 15,oM 17 1,oC 18 56 [.t 16,.t 17],oM 1 18])) (oG [oM 10 5,oBk 11 .add 10 1,oM 5 11])))))) (oH [oM 19 1,oM 4 19] .ret)))⟩
theorem zcc : wc Tryz.prog [] 57 = some jdj := by kernel_rfl
def jd9 : AFn := ⟨20,[.t 4],(oH [oMi 4 0] (oS (oH [oMi 5 0] (.block 0 (.loop (oS (oH [oM 6 5,oM 7 0,oLn 8 7,oBt 9 .lss 6 8] (oQ 9 .skip (.exit 0))) (oS (.block 1 (oG [oM 12 0,oM 13 5,oIa 14 1 12 13,oFa 15 0 14,oLf 16 15,oM 17 1,oC 18 90 [.t 16,.t 17],oM 1 18])) (oG [oM 10 5,oBk 11 .add 10 1,oM 5 11])))))) (oH [oM 19 1,oM 4 19] .ret)))⟩
theorem wcs : wc Tryz.prog [] 58 = some jd9 := by kernel_rfl
def jg7 : AFn := ⟨51,[.t 4],(oH [oMi 4 0] (oS (oH [oMi 5 0] (.block 0 (.loop (oS (oH [oM 6 5,oM 7 0,oLn 8 7,oBt 9 .lss 6 8] (oQ 9 .skip (.exit 0))) (oS (.block 1 (oH [oM 12 0,oM 13 5,oIa 14 5 12 13,oFa 15 0 14,oLf 16 15,oM 17 1,oC 18 56 [.t 16,.t 17],oM 1 18] (oH [oM 19 0,oM 20 5,oM 21 1,oC 22 54 [.t 21],oIa 23 5 19 20,oFa 24 1 23,oSt 1 24 22] (oH [oM 25 1,oBk 26 .add 25 1,oM 1 26] (oH [oM 27 0,oM 28 5,oM 29 1,oIa 30 5 27 28,oFa 31 2 30,oSt 1 31 29] (oH [oM 32 1,oBk 33 .add 32 1,oM 1 33] (oH [oM 34 0,oM 35 5,oM 36 1,oIa 37 5 34 35,oFa 38 3 37,oSt 1 38 36] (oH [oM 39 1,oBk 40 .add 39 1,oM 1 40] (oH [oM 41 0,oM 42 5,oM 43 1,oBk 44 .rem 43 3,oBk 45 .eql 44 0,oIa 46 5 41 42,oFa 47 4 46,oSt 1 47 45] (oG [oM 48 1,oBk 49 .add 48 1,oM 1 49])))))))))) (oG [oM 10 5,oBk 11 .add 10 1,oM 5 11])))))) (oH [oM 50 1,oM 4 50] .ret)))⟩
theorem wd9 : wc Tryz.prog [] 59 = some jg7 := by kernel_rfl
def wfu : AFn := ⟨27,[.t 4],(oH [oMi 4 0] (oS (oH [oMi 5 0] (.block 0 (.loop (oS (oH [oM 6 5,oM 7 0,oLn 8 7,oBt 9 .lss 6 8] (oQ 9 .skip (.exit 0))) (oS (.block 1 (oH [oM 12 0,oM 13 5,oM 14 1,oIa 15 2 12 13,oFa 16 0 15,oSt 1 16 14] (oH [oM 17 1,oBk 18 .add 17 1,oM 1 18] (oG [oM 19 0,oM 20 5,oIa 21 2 19 20,oFa 22 1 21,oLf 23 22,oM 24 1,oC 25 24 [.t 23,.t 24],oM 1 25])))) (oG [oM 10 5,oBk 11 .add 10 1,oM 5 11])))))) (oH [oM 26 1,oM 4 26] .ret)))⟩
theorem wdj : wc Tryz.prog [] 60 = some wfu := by kernel_rfl
def zfv : AFn := ⟨31,[.t 4],(oH [oMi 4 0] (oS (oH [oMi 5 0] (.block 0 (.loop (oS (oH [oM 6 5,oM 7 0,oLn 8 7,oBt 9 .lss 6 8] (oQ 9 .skip (.exit 0))) (oS (.block 1 (oS (oH [oM 12 0,oM 13 5,oIa 14 2 12 13,oFa 15 0 14,oLf 16 15,oM 17 1,oBt 18 .neq 16 17] (oQ 18 (oH [oMi 4 (-1)] .ret) .skip)) (oH [oM 19 1,oBk 20 .add 19 1,oM 1 20] (oH [oM 21 0,oM 22 5,oIa 23 2 21 22,oFa 24 1 23,oLf 25 24,oM 26 1,oC 27 132 [.t 25,.t 26],oM 1 27] (oH [oM 28 1,oBk 29 .lss 28 0] (oQ 29 (oH [oMi 4 (-1)] .ret) .skip)))))) (oG [oM 10 5,oBk 11 .add 10 1,oM 5 11])))))) (oH [oM 30 1,oM 4 30] .ret)))⟩
theorem zdk : wc Tryz.prog [] 61 = some zfv := by kernel_rfl
def ji0 : AFn := ⟨13,[.t 4],(oH [oBx 2 0,oMi 4 0] (oH [oM 5 1,oFa 6 2 2,oLf 7 6,oP 8 (.len true (.t 7)),oBt 9 .sub 5 8,oM 1 9] (oS (oH [oM 10 1,oBk 11 .lss 10 0] (oQ 11 (oH [oMi 4 (-1)] .ret) .skip)) (oH [oM 12 1,oM 4 12] .ret))))⟩
theorem jfv : wc Tryz.prog [2] 62 = some ji0 := by kernel_rfl
def wg7 : AFn := ⟨46,[.t 4],(oH [oBx 2 0,oMb 4 false] (oS (oH [oM 6 1,oLn 7 6,oFa 8 1 2,oLf 9 8,oLn 10 9,oBt 11 .neq 7 10] (oQ 11 (oH [oMb 4 false] .ret) .skip)) (oS (oH [oMi 5 0] (.block 0 (.loop (oS (oH [oM 12 5,oM 13 1,oLn 14 13,oBt 15 .lss 12 14] (oQ 15 .skip (.exit 0))) (oS (.block 1 (oS (oD [[oM 18 1,oM 19 5],[oIa 20 3 18 19],[oLt 21 3 20],[oC 22 133 [.t 21]],[oUn 23 22],[oM 24 23],[ofm 25 1 24,ofm 26 5 24],[ofi 27 3 25 26 24],[ofa 28 0 27 24],[ofl 29 28 24],[oF 30 (.bin .neq (.t 29) (kI 0)) 24],[ofm 31 30 24],[otm 32 1 31,otm 33 5 31,oti 34 3 32 33 31,ota 35 0 34 31,otl 36 35 31,ota 37 1 2 31,otl 38 37 31,otm 39 5 31,oti 40 6 38 39 31,ota 41 1 40 31,otl 42 41 31],[oT 43 (.bin .neq (.t 36) (.t 42)) 31],[oF 44 (.pick (.t 31) (.t 43) (.k (.bool false))) 24],[oPo 45 24 44]]) (oQ 45 (oH [oMb 4 false] .ret) .skip))) (oG [oM 16 5,oBk 17 .add 16 1,oM 5 17])))))) (oH [oMb 4 true] .ret))))⟩
theorem zea : wc Tryz.prog [2] 63 = some wg7 := by kernel_rfl
def wfv : AFn := ⟨137,[.t 14,.t 15],(oH [oP 14 (.mv (.k (.nils))),oMi 15 0] (oS (oH [oM 24 6,oBk 25 .gtr 24 12] (oQ 25 (oH [oP 14 (.mv (.k (.nils))),oMi 15 6] .ret) .skip)) (oH [oM 26 0,oM 27 2,oIa 28 6 26 27,oLt 29 6 28,oP 16 (.alloc [.str [],.nils,.nils,.nils,.nils,.nils]),oSt 6 16 29] (oS (oH [oM 30 5] (oQ 30 (oG [oLt 31 6 16,oM 32 4,oC 33 134 [.t 31,.t 32],oM 4 33]) .skip)) (oH [oLt 34 6 16,oM 35 4,oC 36 135 [.t 34,.t 35],oM 17 36] (oS (oH [oM 37 17,oBk 38 .neq 37 0] (oQ 38 (oH [oM 39 17,oP 14 (.mv (.k (.nils))),oM 15 39] .ret) .skip)) (oH [oM 40 3,oM 41 4,oP 42 (.build [.int .i64 0,.nils] [(0,1,(.t 40)),(1,1,(.t 41))]),oP 18 (.alloc [.int .i64 0,.nils]),oSt 2 18 42] (oH [oM 44 0,oM 45 1,oM 46 2,oLt 47 2 18,oM 48 5,oM 49 6,oC 50 136 [.t 44,.t 45,.t 46,.t 47,.t 48,.t 49],oM 43 50,oEx 51 43 0,oEx 52 43 1,oM 1 51,oM 17 52] (oS (oH [oM 53 17,oBk 54 .neq 53 0] (oQ 54 (oH [oM 55 17,oP 14 (.mv (.k (.nils))),oM 15 55] .ret) .skip)) (oH [oM 56 1,oM 57 2,oIa 58 1 56 57,oLt 59 1 58,oM 60 3,oC 61 42 [.t 59,.t 60],oM 19 61] (oS (oH [oM 62 19,oBk 63 .lss 62 0] (oQ 63 (oH [oP 14 (.mv (.k (.nils))),oMi 15 9] .ret) .skip)) (oS (oD [[oFa 65 2 16,oLf 66 65,oM 67 1,oM 68 2,oIa 69 1 67 68,oFa 70 0 69,oLf 71 70,oM 72 19,oIa 73 2 71 72,oFa 74 1 73,oLf 75 74],[oC 76 110 [.t 66,.t 75]],[oM 64 76],[oEx 77 64 0,oEx 78 64 1,oM 20 77],[oM 21 78]]) (oH [oFa 80 2 16,oLf 81 80,oM 82 4,oC 83 110 [.t 81,.t 82],oM 79 83,oEx 84 79 0,oEx 85 79 1,oM 22 84,oM 23 85] (oS (oD [[oM 86 1,oM 87 2,oM 88 1,oM 89 2,oIa 90 1 88 89,oLt 91 1 90,oLt 92 2 18,oC 93 137 [.t 91,.t 92]],[oC 94 112 [.t 86,.t 87,.t 93]],[oM 1 94]]) (oS (oH [oM 95 20,oM 96 22,oC 97 138 [.t 95,.t 96],oUn 98 97] (oQ 98 (oH [oM 100 0,oM 101 1,oM 102 2,oM 103 20,oM 104 22,oM 105 6,oC 106 111 [.t 100,.t 101,.t 102,.t 103,.t 104,(.k (.bool false)),.t 105],oM 99 106,oEx 107 99 0,oEx 108 99 1,oM 1 107,oM 17 108] (oH [oM 109 17,oBk 110 .neq 109 0] (oQ 110 (oH [oM 111 17,oP 14 (.mv (.k (.nils))),oM 15 111] .ret) .skip))) .skip)) (oH [oM 112 1,oM 113 2,oIa 114 1 112 113,oLt 115 1 114,oM 116 3,oC 117 42 [.t 115,.t 116],oM 19 117] (oS (oH [oM 118 19,oBk 119 .geq 118 0,oM 120 119,otm 121 0 120,otm 122 1 120,otm 123 2 120,otm 124 1 120,otm 125 2 120,oti 126 1 124 125 120,ota 127 0 126 120,otl 128 127 120,otm 129 19 120,oti 130 2 128 129 120,ota 131 1 130 120,otl 132 131 120,otc 133 139 [.t 121,.t 122,.t 123,.t 132,(.k (.bool true))] 120,oT 134 (.un .not (.t 133)) 120,oPa 135 120 134] (oQ 135 (oH [oP 14 (.mv (.k (.nils))),oMi 15 5] .ret) .skip)) (oH [oM 136 1,oM 14 136,oMi 15 0] .ret))))))))))))))))))⟩
theorem jbn : wc Tryz.prog [] 64 = some wfv := by kernel_rfl
def jea : AFn := ⟨6,[.t 2],(oH [oP 2 (.mv (.k (.nils)))] (oH [oP 3 (.mksl false 3 0 [.int .i64 0,.int .i64 0,.str []] []),oM 4 0,oP 5 (.app 3 32 (.t 3) (.t 4)),oM 2 5] .ret))⟩
theorem zct : wc Tryz.prog [] 65 = some jea := by kernel_rfl
def wi0 : AFn := ⟨14,[.m 2 true 3],(oH [oBx 1 0,oP 2 (.alloc [.int .i64 0,.int .i64 0,.str []])] (oH [oP 3 (.alloc [.int .i64 0,.int .i64 0,.str []])] (oH [oFa 4 0 1,oLf 5 4,oFa 6 0 3,oSt 1 6 5] (oH [oFa 7 1 1,oLf 8 7,oFa 9 1 3,oSt 1 9 8] (oH [oFa 10 2 1,oLf 11 10,oFa 12 2 3,oSt 1 12 11] (oH [oLt 13 3 3,oSt 3 2 13] .ret))))))⟩
theorem zfw : wc Tryz.prog [1] 66 = some wi0 := by kernel_rfl
def wkt : AFn := ⟨30,[.t 4],(oH [oBx 2 0,oMb 4 false] (oS (oH [oM 7 1,oLn 8 7,oFa 9 1 2,oLf 10 9,oLn 11 10,oBt 12 .neq 8 11] (oQ 12 (oH [oMb 4 false] .ret) .skip)) (oS (oH [oM 13 1,oLn 14 13,oMi 15 0] (.block 0 (.loop (oH [oBt 16 .lss 15 14] (oS (oQ 16 .skip (.exit 0)) (oS (.block 1 (oH [oM 17 15,oIa 18 3 13 15,oLt 19 3 18,oP 6 (.alloc [.int .i64 0,.int .i64 0,.str []]),oM 5 17,oSt 3 6 19] (oS (oD [[oLt 20 3 6,oFa 21 1 2,oLf 22 21,oM 23 5,oIa 24 6 22 23,oFa 25 1 24,oLf 26 25],[oC 27 140 [.t 20,.t 26]],[oUn 28 27]]) (oQ 28 (oH [oMb 4 false] .ret) .skip)))) (oG [oBk 29 .add 15 1,oM 15 29]))))))) (oH [oMb 4 true] .ret))))⟩
theorem wh6 : wc Tryz.prog [2] 67 = some wkt := by kernel_rfl
def zc3 : AFn := ⟨25,[.t 6],(oH [oBx 5 2,oP 6 (.mv (.k (.nilp)))] (oH [oM 9 0,oNc 10 9,oFa 11 1 10,oLf 12 11,oM 13 1,oIa 14 1 12 13,oFa 15 0 14,oLf 16 15,oM 7 16] (oH [oM 17 7,oP 18 (.mkfn 142 [] [.t 5]),oC 19 141 [.t 17,.t 18],oM 8 19] (oS (oH [oM 20 8,oBk 21 .lss 20 0] (oQ 21 (oH [oP 6 (.mv (.k (.nilp)))] .ret) .skip)) (oH [oM 22 7,oM 23 8,oIa 24 2 22 23,oM 6 24] .ret)))))⟩
theorem waz : wc Tryz.prog [5] 69 = some zc3 := by kernel_rfl
def jcc : AFn := ⟨114,[.t 12],(oH [oMi 12 0] (oS (oH [oM 22 5,oBk 23 .gtr 22 12] (oQ 23 (oH [oMi 12 6] .ret) .skip)) (oH [oM 24 0,oNc 25 24,oFa 26 0 25,oLf 27 26,oM 28 1,oIa 29 6 27 28,oLt 30 6 29,oP 13 (.alloc [.str [],.nils,.nils,.nils,.nils,.nils]),oSt 6 13 30] (oS (oH [oM 31 4] (oQ 31 (oG [oLt 32 6 13,oM 33 3,oC 34 143 [.t 32,.t 33],oM 3 34]) .skip)) (oS (oH [oLt 35 6 13,oM 36 3,oC 37 144 [.t 35,.t 36],oM 14 37] (oH [oM 38 14,oBk 39 .neq 38 0] (oQ 39 (oH [oM 40 14,oM 12 40] .ret) .skip))) (oS (oH [oM 41 0,oM 42 1,oM 43 2,oM 44 3,oM 45 4,oM 46 5,oC 47 145 [.t 41,.t 42,.t 43,.t 44,.t 45,.t 46],oM 15 47] (oH [oM 48 15,oBk 49 .neq 48 0] (oQ 49 (oH [oM 50 15,oM 12 50] .ret) .skip))) (oH [oM 51 0,oM 52 1,oM 53 2,oC 54 69 [.t 51,.t 52,.t 53],oM 16 54] (oS (oH [oM 55 16,oP 56 (.eq false false [.pt] (.t 55) (.k (.nilp)))] (oQ 56 (oH [oMi 12 9] .ret) .skip)) (oS (oD [[oFa 58 2 13,oLf 59 58,oM 60 16,oNc 61 60,oFa 62 1 61,oLf 63 62],[oC 64 123 [.t 59,.t 63]],[oM 57 64],[oEx 65 57 0,oEx 66 57 1,oM 17 65],[oM 18 66]]) (oH [oFa 68 2 13,oLf 69 68,oM 70 3,oC 71 123 [.t 69,.t 70],oM 67 71,oEx 72 67 0,oEx 73 67 1,oM 19 72,oM 20 73] (oH [oM 74 16,oM 75 3,oC 76 101 [.t 75],oNc 77 74,oFa 78 1 77,oSt 1 78 76] (oS (oH [oM 79 17,oM 80 19,oC 81 146 [.t 79,.t 80],oUn 82 81] (oQ 82 (oH [oM 83 0,oM 84 1,oM 85 17,oM 86 19,oM 87 5,oC 88 126 [.t 83,.t 84,.t 85,.t 86,.t 87],oM 21 88] (oH [oM 89 21,oBk 90 .neq 89 0] (oQ 90 (oH [oM 91 21,oM 12 91] .ret) .skip))) .skip)) (oS (oH [oM 92 0,oM 93 1,oM 94 2,oC 95 69 [.t 92,.t 93,.t 94],oM 16 95] (oS (oD [[oM 96 16],[oP 97 (.eq true false [.pt] (.t 96) (.k (.nilp)))],[oM 98 97],[otm 99 0 98,oT 100 (.nilc (.t 99)) 98,ota 101 0 100 98,otl 102 101 98,otm 103 0 98,oT 104 (.nilc (.t 103)) 98,ota 105 1 104 98,otl 106 105 98,oT 107 (.load true 6 (.t 13)) 98,otm 108 16 98,oT 109 (.nilc (.t 108)) 98,ota 110 1 109 98,otl 111 110 98],[otc 112 147 [.t 102,.t 106,.t 107,.t 111,(.k (.bool false))] 98],[oPa 113 98 112]]) (oQ 113 (oH [oMi 12 5] .ret) .skip))) (oH [oMi 12 0] .ret))))))))))))))⟩
theorem jar : wc Tryz.prog [] 70 = some jcc := by kernel_rfl
def zi1 : AFn := ⟨20,[.t 4],(oH [oBx 2 0,oBx 3 1,oMb 4 false] (oS (oH [oFa 5 0 2,oLf 6 5,oFa 7 0 3,oLf 8 7,oBt 9 .neq 6 8] (oQ 9 (oH [oMb 4 false] .ret) .skip)) (oS (oH [oFa 10 1 2,oLf 11 10,oFa 12 1 3,oLf 13 12,oBt 14 .neq 11 13] (oQ 14 (oH [oMb 4 false] .ret) .skip)) (oS (oH [oFa 15 2 2,oLf 16 15,oFa 17 2 3,oLf 18 17,oBt 19 .neq 16 18] (oQ 19 (oH [oMb 4 false] .ret) .skip)) (oH [oMb 4 true] .ret)))))⟩
theorem jfw : wc Tryz.prog [2, 3] 71 = some zi1 := by kernel_rfl
def wfw : AFn := ⟨81,[.t 10,.t 11,.t 12],(oH [oP 10 (.mv (.k (.nils))),oMi 11 0,oMi 12 0] (oH [oM 16 0,oM 17 2,oIa 18 6 16 17,oLt 19 6 18,oP 13 (.alloc [.str [],.nils,.nils,.nils,.nils,.nils]),oSt 6 13 19] (oS (oH [oM 20 4] (oQ 20 (oG [oLt 21 6 13,oM 22 3,oC 23 134 [.t 21,.t 22],oM 3 23]) .skip)) (oH [oLt 24 6 13,oM 25 3,oC 26 135 [.t 24,.t 25],oM 14 26] (oS (oH [oM 27 14,oBk 28 .neq 27 0] (oQ 28 (oH [oM 29 14,oP 10 (.mv (.k (.nils))),oMi 11 0,oM 12 29] .ret) .skip)) (oH [oM 30 1,oM 31 2,oIa 32 1 30 31,oLt 33 1 32,oC 34 148 [.t 33],oM 35 3,oC 36 65 [.t 35],oP 37 (.build [.int .i64 0,.nils] [(0,1,(.t 34)),(1,1,(.t 36))]),oP 15 (.alloc [.int .i64 0,.nils]),oSt 2 15 37] (oH [oM 39 0,oM 40 1,oM 41 2,oLt 42 2 15,oM 43 4,oC 44 136 [.t 39,.t 40,.t 41,.t 42,.t 43,(kI 0)],oM 38 44,oEx 45 38 0,oEx 46 38 1,oM 1 45,oM 14 46] (oS (oH [oM 47 14,oBk 48 .neq 47 0] (oQ 48 (oH [oM 49 14,oP 10 (.mv (.k (.nils))),oMi 11 0,oM 12 49] .ret) .skip)) (oS (oH [oM 50 1,oM 51 2,oIa 52 1 50 51,oFa 53 0 52,oLf 54 53,oLn 55 54,oBk 56 .eql 55 60,oM 57 56,ofa 58 0 15 57,ofl 59 58 57,oF 60 (.bin .gtr (.t 59) (kI 1000000000)) 57,oPo 61 57 60] (oQ 61 (oH [oP 10 (.mv (.k (.nils))),oMi 11 0,oMi 12 7] .ret) .skip)) (oS (oD [[oM 62 1,oM 63 2,oM 64 1,oM 65 2,oIa 66 1 64 65,oLt 67 1 66,oLt 68 2 15,oC 69 137 [.t 67,.t 68]],[oC 70 112 [.t 62,.t 63,.t 69]],[oM 1 70]]) (oS (oH [oM 71 0,oM 72 1,oM 73 2,oFa 74 1 15,oLf 75 74,oC 76 139 [.t 71,.t 72,.t 73,.t 75,(.k (.bool true))],oUn 77 76] (oQ 77 (oH [oP 10 (.mv (.k (.nils))),oMi 11 0,oMi 12 5] .ret) .skip)) (oS (oD [[oM 78 1,oFa 79 0 15,oLf 80 79,oM 10 78],[oM 11 80],[oMi 12 0]]) .ret))))))))))))⟩
theorem jdk : wc Tryz.prog [] 72 = some wfw := by kernel_rfl
def wcc : AFn := ⟨89,[.t 8,.t 9],(oH [oMi 8 0,oMi 9 0] (oH [oM 14 0,oNc 15 14,oFa 16 0 15,oLf 17 16,oM 18 1,oIa 19 6 17 18,oLt 20 6 19,oP 10 (.alloc [.str [],.nils,.nils,.nils,.nils,.nils]),oSt 6 10 20] (oS (oH [oM 21 3] (oQ 21 (oG [oLt 22 6 10,oM 23 2,oC 24 143 [.t 22,.t 23],oM 2 24]) .skip)) (oS (oH [oLt 25 6 10,oM 26 2,oC 27 144 [.t 25,.t 26],oM 11 27] (oH [oM 28 11,oBk 29 .neq 28 0] (oQ 29 (oH [oM 30 11,oM 8 30,oMi 9 0] .ret) .skip))) (oH [oM 31 0,oM 32 1,oC 33 149 [.t 31,.t 32],oM 12 33] (oS (oH [oM 34 0,oM 35 1,oM 36 2,oM 37 3,oC 38 145 [.t 34,.t 35,(kI 0),.t 36,.t 37,(kI 0)],oM 13 38] (oH [oM 39 13,oBk 40 .neq 39 0] (oQ 40 (oH [oM 41 13,oM 8 41,oMi 9 0] .ret) .skip))) (oS (oH [oM 42 0,oNc 43 42,oFa 44 1 43,oLf 45 44,oM 46 1,oIa 47 1 45 46,oFa 48 0 47,oLf 49 48,oLn 50 49,oBk 51 .geq 50 60,oM 52 51,ofm 53 12 52,oF 54 (.bin .gtr (.t 53) (kI 1000000000)) 52,oPo 55 52 54] (oQ 55 (oH [oMi 8 7,oMi 9 0] .ret) .skip)) (oS (oD [[oM 56 0,oNc 57 56,oFa 58 1 57,oLf 59 58,oM 60 1,oM 61 0,oNc 62 61,oFa 63 1 62,oLf 64 63,oM 65 1,oIa 66 1 64 65,oFa 67 0 66,oLf 68 67,oM 69 12,oM 70 2,oC 71 101 [.t 70],oP 72 (.build [.int .i64 0,.nils] [(0,1,(.t 69)),(1,1,(.t 71))]),oP 73 (.mksl true 2 1 [.int .i64 0,.nils] [(0,(.t 72))]),oP 74 (.app 2 32 (.t 68) (.t 73))],[oIa 75 1 59 60],[oFa 76 0 75],[oSt 1 76 74]]) (oS (oS (oD [[oM 77 0,oNc 78 77,oFa 79 0 78,oLf 80 79,oM 81 0,oNc 82 81,oFa 83 1 82,oLf 84 83,oLt 85 6 10,oM 86 2],[oC 87 147 [.t 80,.t 84,.t 85,.t 86,(.k (.bool false))]]]) (oQ 87 (oH [oMi 8 5,oMi 9 0] .ret) .skip)) (oH [oM 88 12,oMi 8 0,oM 9 88] .ret))))))))))⟩
theorem zbt : wc Tryz.prog [73] 74 = some wcc := by kernel_rfl
def zh7 : AFn := ⟨27,[.t 4],(oH [oMi 4 0] (oH [oM 6 1,oM 7 0,oLn 8 7,oBt 9 .sub 6 8,oM 1 9] (oS (oH [oM 10 1,oBk 11 .lss 10 0] (oQ 11 (oH [oMi 4 (-1)] .ret) .skip)) (oS (oH [oMi 5 0] (.block 0 (.loop (oS (oH [oM 12 5,oM 13 0,oLn 14 13,oBt 15 .lss 12 14] (oQ 15 .skip (.exit 0))) (oS (.block 1 (oH [oM 18 0,oM 19 5,oIa 20 2 18 19,oLt 21 2 20,oM 22 1,oC 23 150 [.t 21,.t 22],oM 1 23] (oH [oM 24 1,oBk 25 .lss 24 0] (oQ 25 (oH [oMi 4 (-1)] .ret) .skip)))) (oG [oM 16 5,oBk 17 .add 16 1,oM 5 17])))))) (oH [oM 26 1,oM 4 26] .ret)))))⟩
theorem we0 : wc Tryz.prog [] 75 = some zh7 := by kernel_rfl
def jh7 : AFn := ⟨27,[.t 4],(oH [oMi 4 0] (oH [oM 6 1,oM 7 0,oLn 8 7,oBt 9 .sub 6 8,oM 1 9] (oS (oH [oM 10 1,oBk 11 .lss 10 0] (oQ 11 (oH [oMi 4 (-1)] .ret) .skip)) (oS (oH [oMi 5 0] (.block 0 (.loop (oS (oH [oM 12 5,oM 13 0,oLn 14 13,oBt 15 .lss 12 14] (oQ 15 .skip (.exit 0))) (oS (.block 1 (oH [oM 18 0,oM 19 5,oIa 20 5 18 19,oLt 21 5 20,oM 22 1,oC 23 151 [.t 21,.t 22],oM 1 23] (oH [oM 24 1,oBk 25 .lss 24 0] (oQ 25 (oH [oMi 4 (-1)] .ret) .skip)))) (oG [oM 16 5,oBk 17 .add 16 1,oM 5 17])))))) (oH [oM 26 1,oM 4 26] .ret)))))⟩
theorem ze1 : wc Tryz.prog [] 76 = some jh7 := by kernel_rfl
def wh7 : AFn := ⟨27,[.t 4],(oH [oMi 4 0] (oH [oM 6 1,oM 7 0,oLn 8 7,oBt 9 .sub 6 8,oM 1 9] (oS (oH [oM 10 1,oBk 11 .lss 10 0] (oQ 11 (oH [oMi 4 (-1)] .ret) .skip)) (oS (oH [oMi 5 0] (.block 0 (.loop (oS (oH [oM 12 5,oM 13 0,oLn 14 13,oBt 15 .lss 12 14] (oQ 15 .skip (.exit 0))) (oS (.block 1 (oH [oM 18 0,oM 19 5,oIa 20 2 18 19,oLt 21 2 20,oM 22 1,oC 23 152 [.t 21,.t 22],oM 1 23] (oH [oM 24 1,oBk 25 .lss 24 0] (oQ 25 (oH [oMi 4 (-1)] .ret) .skip)))) (oG [oM 16 5,oBk 17 .add 16 1,oM 5 17])))))) (oH [oM 26 1,oM 4 26] .ret)))))⟩
theorem je1 : wc Tryz.prog [] 77 = some wh7 := by kernel_rfl
def wjv : AFn := ⟨12,[.t 4],(oH [oMb 4 false] (oH [oM 5 0,oC 6 153 [.t 5],oM 7 6,otm 8 0 7,otm 9 1 7,otc 10 154 [.t 8,.t 9] 7,oPa 11 7 10,oM 4 11] .ret))⟩
theorem zg8 : wc Tryz.prog [] 78 = some wjv := by kernel_rfl
def zh8 : AFn := ⟨152,[.t 4],(oH [oBx 3 1,oMb 4 false] (oH [oM 12 0,oFa 13 1 3,oLf 14 13,oC 15 94 [.t 12,.t 14],oM 5 15] (oS (oH [oM 16 5,oBk 17 .lss 16 0,oM 18 17,ofa 19 5 3 18,ofl 20 19 18,ofc 21 97 [.t 20,(kI 0),(kI 4)] 18,oF 22 (.un .not (.t 21)) 18,oPo 23 18 22] (oQ 23 (oH [oMb 4 false] .ret) .skip)) (oH [oM 24 0,oM 25 5,oIa 26 6 24 25,oLt 27 6 26,oP 6 (.alloc [.str [],.nils,.nils,.nils,.nils,.nils]),oSt 6 6 27] (oH [oFa 28 1 6,oLf 29 28,oLn 30 29,oM 7 30] (oS (oH [oMi 8 0] (.block 0 (.loop (oS (oH [oM 31 8,oFa 32 2 3,oLf 33 32,oLn 34 33,oBt 35 .lss 31 34] (oQ 35 .skip (.exit 0))) (oS (.block 1 (oS (oD [[oLt 38 6 6,oFa 39 2 3,oLf 40 39,oM 41 8,oIa 42 2 40 41,oFa 43 1 42,oLf 44 43],[oC 45 63 [.t 38,.t 44]],[oUn 46 45],[oM 47 46],[ofa 48 2 3 47,ofl 49 48 47,ofm 50 8 47],[ofi 51 2 49 50 47],[ofa 52 0 51 47],[ofl 53 52 47],[oF 54 (.bin .neq (.t 53) (kI 0)) 47],[oPo 55 47 54]]) (oQ 55 (oH [oMb 4 false] .ret) .skip))) (oG [oM 36 8,oBk 37 .add 36 1,oM 8 37])))))) (oS (oH [oMi 9 0] (.block 2 (.loop (oS (oH [oM 56 9,oFa 57 4 3,oLf 58 57,oLn 59 58,oBt 60 .lss 56 59] (oQ 60 .skip (.exit 2))) (oS (.block 3 (oS (oH [oFa 63 4 3,oLf 64 63,oM 65 9,oIa 66 2 64 65,oFa 67 0 66,oLf 68 67,oM 69 7,oBk 70 .sub 69 1,oC 71 97 [.t 68,(kI 0),.t 70],oUn 72 71,oM 73 72,ofa 74 4 3 73,ofl 75 74 73,ofm 76 9 73,ofi 77 2 75 76 73,ofa 78 1 77 73,ofl 79 78 73,ofm 80 7 73,ofc 81 155 [.t 79,.t 80] 73,oF 82 (.un .not (.t 81)) 73,oPo 83 73 82] (oQ 83 (oH [oMb 4 false] .ret) .skip)) (oH [oMi 10 0] (.block 4 (.loop (oS (oH [oM 84 10,oM 85 9,oBt 86 .lss 84 85] (oQ 86 .skip (.exit 4))) (oS (.block 5 (oS (oD [[oFa 89 4 3,oLf 90 89,oM 91 10,oIa 92 2 90 91,oFa 93 0 92,oLf 94 93,oFa 95 4 3,oLf 96 95,oM 97 9,oIa 98 2 96 97,oFa 99 0 98,oLf 100 99],[oBt 101 .eql 94 100]]) (oQ 101 (oH [oMb 4 false] .ret) .skip))) (oG [oM 87 10,oBk 88 .add 87 1,oM 10 88])))))))) (oG [oM 61 9,oBk 62 .add 61 1,oM 9 62])))))) (oH [oFa 102 3 3,oLf 103 102,oLn 104 103,oBk 105 .eql 104 0,oM 106 105,ofa 107 3 3 106,ofl 108 107 106,ofm 109 7 106,ofc 110 155 [.t 108,.t 109] 106,oPo 111 106 110,oM 11 111] (oS (oH [oFa 112 0 3,oLf 113 112] (.block 6 (oH [oBk 115 .eql 113 1,oM 114 115] (oQ 114 (oH [oFa 116 2 3,oLf 117 116,oLn 118 117,oBk 119 .leq 118 8,oM 120 119,ota 121 3 3 120,otl 122 121 120,oT 123 (.len false (.t 122)) 120,ota 124 4 3 120,otl 125 124 120,oT 126 (.len false (.t 125)) 120,oT 127 (.bin .add (.t 123) (.t 126)) 120,oT 128 (.bin .eql (.t 127) (kI 0)) 120,oPa 129 120 128,oM 4 129] .ret) (oH [oBk 131 .eql 113 2,oM 130 131] (oQ 130 (oH [oM 132 11,oM 133 132,ota 134 2 3 133,otl 135 134 133,oT 136 (.len false (.t 135)) 133,oT 137 (.bin .eql (.t 136) (kI 0)) 133,oPa 138 133 137,oM 4 138] .ret) (oH [oBk 140 .eql 113 3,oM 139 140] (oQ 139 (oH [oM 141 11,oM 142 141,ota 143 2 3 142,otl 144 143 142,oT 145 (.len false (.t 144)) 142,ota 146 4 3 142,otl 147 146 142,oT 148 (.len false (.t 147)) 142,oT 149 (.bin .add (.t 145) (.t 148)) 142,oT 150 (.bin .eql (.t 149) (kI 0)) 142,oPa 151 142 150,oM 4 151] .ret) .skip)))))))) (oH [oMb 4 false] .ret))))))))))⟩
theorem we1 : wc Tryz.prog [3] 79 = some zh8 := by kernel_rfl
def jh8 : AFn := ⟨23,[.t 2],(oH [oP 2 (.mv (.k (.nils)))] (oH [oM 5 0,oLn 6 5,oP 7 (.mkslice 2 32 [.int .i64 0,.nils] (.t 6) (.t 6)),oM 3 7] (oS (oH [oMi 4 0] (.block 0 (.loop (oS (oH [oM 8 4,oM 9 0,oLn 10 9,oBt 11 .lss 8 10] (oQ 11 .skip (.exit 0))) (oS (.block 1 (oG [oM 14 3,oM 15 4,oM 16 0,oM 17 4,oIa 18 2 16 17,oLt 19 2 18,oC 20 157 [.t 19],oIa 21 2 14 15,oSt 2 21 20])) (oG [oM 12 4,oBk 13 .add 12 1,oM 4 13])))))) (oH [oM 22 3,oM 2 22] .ret))))⟩
theorem ze2 : wc Tryz.prog [] 81 = some jh8 := by kernel_rfl
def wh8 : AFn := ⟨23,[.t 2],(oH [oP 2 (.mv (.k (.nils)))] (oH [oM 5 0,oLn 6 5,oP 7 (.mkslice 5 48 [.int .i64 0,.int .i64 0,.int .i64 0,.int .i64 0,.str []] (.t 6) (.t 6)),oM 3 7] (oS (oH [oMi 4 0] (.block 0 (.loop (oS (oH [oM 8 4,oM 9 0,oLn 10 9,oBt 11 .lss 8 10] (oQ 11 .skip (.exit 0))) (oS (.block 1 (oG [oM 14 3,oM 15 4,oM 16 0,oM 17 4,oIa 18 5 16 17,oLt 19 5 18,oC 20 158 [.t 19],oIa 21 5 14 15,oSt 5 21 20])) (oG [oM 12 4,oBk 13 .add 12 1,oM 4 13])))))) (oH [oM 22 3,oM 2 22] .ret))))⟩
theorem je2 : wc Tryz.prog [] 82 = some wh8 := by kernel_rfl
def zh9 : AFn := ⟨23,[.t 2],(oH [oP 2 (.mv (.k (.nils)))] (oH [oM 5 0,oLn 6 5,oP 7 (.mkslice 2 32 [.int .i64 0,.nils] (.t 6) (.t 6)),oM 3 7] (oS (oH [oMi 4 0] (.block 0 (.loop (oS (oH [oM 8 4,oM 9 0,oLn 10 9,oBt 11 .lss 8 10] (oQ 11 .skip (.exit 0))) (oS (.block 1 (oG [oM 14 3,oM 15 4,oM 16 0,oM 17 4,oIa 18 2 16 17,oLt 19 2 18,oC 20 159 [.t 19],oIa 21 2 14 15,oSt 2 21 20])) (oG [oM 12 4,oBk 13 .add 12 1,oM 4 13])))))) (oH [oM 22 3,oM 2 22] .ret))))⟩
theorem we2 : wc Tryz.prog [] 83 = some zh9 := by kernel_rfl
def jh9 : AFn := ⟨60,[.t 4],(oH [oBx 3 1,oMb 4 false] (oH [oM 7 0,oFa 8 1 3,oLf 9 8,oC 10 160 [.t 7,.t 9],oM 5 10] (oS (oH [oM 11 0,oC 12 119 [.t 11],oUn 13 12,oM 14 13,ofm 15 5 14,oF 16 (.bin .lss (.t 15) (kI 0)) 14,oPo 17 14 16,oM 18 17,ofa 19 5 3 18,ofl 20 19 18,ofc 21 121 [.t 20,(kI 0),(kI 4)] 18,oF 22 (.un .not (.t 21)) 18,oPo 23 18 22,oM 24 23,oF 25 (.load true 6 (.t 3)) 24,ofc 26 161 [.t 25] 24,oF 27 (.un .not (.t 26)) 24,oPo 28 24 27,oM 29 28,ofa 30 2 3 29,ofl 31 30 29,oF 32 (.len false (.t 31)) 29,oF 33 (.bin .gtr (.t 32) (kI 8)) 29,oPo 34 29 33] (oQ 34 (oH [oMb 4 false] .ret) .skip)) (oH [oM 35 0,oM 36 5,oIa 37 6 35 36,oLt 38 6 37,oP 6 (.alloc [.str [],.nils,.nils,.nils,.nils,.nils]),oSt 6 6 38] (oH [oFa 39 2 3,oLf 40 39,oP 41 (.mkfn 163 [] [.t 6]),oC 42 162 [.t 40,.t 41],oUn 43 42,oM 44 43,ota 45 3 3 44,otl 46 45 44,ota 47 1 6 44,otl 48 47 44,oT 49 (.len false (.t 48)) 44,otc 50 164 [.t 46,.t 49] 44,oPa 51 44 50,oM 52 51,ota 53 4 3 52,otl 54 53 52,ota 55 1 6 52,otl 56 55 52,oT 57 (.len false (.t 56)) 52,otc 58 165 [.t 54,.t 57] 52,oPa 59 52 58,oM 4 59] .ret)))))⟩
theorem ze3 : wc Tryz.prog [3] 84 = some jh9 := by kernel_rfl
def zjw : AFn := ⟨77,[.t 8,.t 9,.t 10],(oH [oBx 6 2,oP 8 (.mv (.k (.nils))),oMi 9 0,oMi 10 0] (oH [oLt 20 6 6,oM 21 0,oM 22 1,oM 23 3,oC 24 166 [.t 20,.t 21,.t 22,.t 23],oM 19 24,oEx 25 19 0,oEx 26 19 1,oM 11 25,oM 12 26] (oS (oH [oM 27 12,oUn 28 27] (oQ 28 (oH [oM 29 1,oC 30 122 [.t 29],oM 8 30,oMi 9 8,oMi 10 0] .ret) .skip)) (oH [oM 31 1,oC 32 122 [.t 31],oM 13 32,oMi 14 0] (oS (oH [oM 33 11,oLn 34 33,oMi 35 0] (.block 0 (.loop (oH [oBt 36 .lss 35 34] (oS (oQ 36 .skip (.exit 0)) (oS (.block 1 (oH [oIa 37 1 33 35,oLf 38 37,oM 16 38] (oH [oM 40 0,oM 41 13,oM 42 16,oC 43 49 [.t 40,.t 41,.t 42],oM 39 43,oEx 44 39 0,oEx 45 39 1,oM 17 44,oM 18 45] (.block 2 (oH [oM 50 18,oBk 51 .eql 50 0,oM 49 51] (oQ 49 (oH [oM 52 17,oM 13 52] (oG [oM 53 14,oBk 54 .add 53 1,oM 14 54])) (oH [oM 56 18,oBk 57 .eql 56 (-1),oM 58 57,oF 59 (.load true 6 (.t 6)) 58,ofm 60 18 58,ofc 61 167 [.t 59,.t 60] 58,oPo 62 58 61,oM 55 62] (oQ 55 .skip (oH [oFa 64 5 6,oLf 65 64,oBk 66 .eql 65 1,oM 67 66,otm 68 18 67,oT 69 (.bin .neq (.t 68) (kI 5)) 67,oPa 70 67 69,oM 63 70] (oQ 63 (oH [oM 71 13,oM 72 18,oM 73 14,oM 8 71,oM 9 72,oM 10 73] .ret) (oH [oM 46 1,oC 47 122 [.t 46],oM 48 18,oM 8 47,oM 9 48,oMi 10 0] .ret))))))))))) (oG [oBk 74 .add 35 1,oM 35 74]))))))) (oH [oM 75 13,oM 76 14,oM 8 75,oMi 9 0,oM 10 76] .ret))))))⟩
theorem jg8 : wc Tryz.prog [6] 85 = some zjw := by kernel_rfl
def wg8 : AFn := ⟨9,[.t 8],(oH [oMi 8 0] (oH [oMi 8 0] .ret))⟩
theorem wea : wc Tryz.prog [] 86 = some wg8 := by kernel_rfl
def wh9 : AFn := ⟨27,[.t 4],(oH [oMb 4 false] (oS (oH [oM 6 0,oLn 7 6,oM 8 1,oLn 9 8,oBt 10 .neq 7 9] (oQ 10 (oH [oMb 4 false] .ret) .skip)) (oS (oH [oMi 5 0] (.block 0 (.loop (oS (oH [oM 11 5,oM 12 0,oLn 13 12,oBt 14 .lss 11 13] (oQ 14 .skip (.exit 0))) (oS (.block 1 (oS (oD [[oM 17 0,oM 18 5,oIa 19 2 17 18,oLt 20 2 19,oM 21 1,oM 22 5,oIa 23 2 21 22,oLt 24 2 23],[oC 25 168 [.t 20,.t 24]],[oUn 26 25]]) (oQ 26 (oH [oMb 4 false] .ret) .skip))) (oG [oM 15 5,oBk 16 .add 15 1,oM 5 16])))))) (oH [oMb 4 true] .ret))))⟩
theorem je3 : wc Tryz.prog [] 87 = some wh9 := by kernel_rfl
def zia : AFn := ⟨27,[.t 4],(oH [oMb 4 false] (oS (oH [oM 6 0,oLn 7 6,oM 8 1,oLn 9 8,oBt 10 .neq 7 9] (oQ 10 (oH [oMb 4 false] .ret) .skip)) (oS (oH [oMi 5 0] (.block 0 (.loop (oS (oH [oM 11 5,oM 12 0,oLn 13 12,oBt 14 .lss 11 13] (oQ 14 .skip (.exit 0))) (oS (.block 1 (oS (oD [[oM 17 0,oM 18 5,oIa 19 5 17 18,oLt 20 5 19,oM 21 1,oM 22 5,oIa 23 5 21 22,oLt 24 5 23],[oC 25 169 [.t 20,.t 24]],[oUn 26 25]]) (oQ 26 (oH [oMb 4 false] .ret) .skip))) (oG [oM 15 5,oBk 16 .add 15 1,oM 5 16])))))) (oH [oMb 4 true] .ret))))⟩
theorem we3 : wc Tryz.prog [] 88 = some zia := by kernel_rfl
def jia : AFn := ⟨27,[.t 4],(oH [oMb 4 false] (oS (oH [oM 6 0,oLn 7 6,oM 8 1,oLn 9 8,oBt 10 .neq 7 9] (oQ 10 (oH [oMb 4 false] .ret) .skip)) (oS (oH [oMi 5 0] (.block 0 (.loop (oS (oH [oM 11 5,oM 12 0,oLn 13 12,oBt 14 .lss 11 13] (oQ 14 .skip (.exit 0))) (oS (.block 1 (oS (oD [[oM 17 0,oM 18 5,oIa 19 2 17 18,oLt 20 2 19,oM 21 1,oM 22 5,oIa 23 2 21 22,oLt 24 2 23],[oC 25 170 [.t 20,.t 24]],[oUn 26 25]]) (oQ 26 (oH [oMb 4 false] .ret) .skip))) (oG [oM 15 5,oBk 16 .add 15 1,oM 5 16])))))) (oH [oMb 4 true] .ret))))⟩
theorem ze4 : wc Tryz.prog [] 89 = some jia := by kernel_rfl
def zfx : AFn := ⟨52,[.t 4],(oH [oMi 4 0] (oS (oH [oMi 5 0] (.block 0 (.loop (oS (oH [oM 6 5,oM 7 0,oLn 8 7,oBt 9 .lss 6 8] (oQ 9 .skip (.exit 0))) (oS (.block 1 (oH [oM 12 0,oM 13 5,oM 14 1,oIa 15 5 12 13,oFa 16 0 15,oSt 1 16 14] (oH [oM 17 1,oBk 18 .add 17 1,oM 1 18] (oH [oM 19 0,oM 20 5,oM 21 1,oIa 22 5 19 20,oFa 23 1 22,oSt 1 23 21] (oH [oM 24 1,oBk 25 .add 24 1,oM 1 25] (oH [oM 26 0,oM 27 5,oM 28 1,oIa 29 5 26 27,oFa 30 2 29,oFa 31 0 30,oSt 1 31 28] (oH [oM 32 1,oBk 33 .add 32 1,oM 1 33] (oH [oM 34 0,oM 35 5,oM 36 1,oIa 37 5 34 35,oFa 38 2 37,oFa 39 1 38,oSt 1 39 36] (oH [oM 40 1,oBk 41 .add 40 1,oM 1 41] (oH [oM 42 0,oM 43 5,oM 44 1,oC 45 54 [.t 44],oIa 46 5 42 43,oFa 47 2 46,oFa 48 2 47,oSt 1 48 45] (oG [oM 49 1,oBk 50 .add 49 1,oM 1 50]))))))))))) (oG [oM 10 5,oBk 11 .add 10 1,oM 5 11])))))) (oH [oM 51 1,oM 4 51] .ret)))⟩
theorem wdk : wc Tryz.prog [] 90 = some zfx := by kernel_rfl
def jfx : AFn := ⟨27,[.t 4],(oH [oMi 4 0] (oS (oH [oMi 5 0] (.block 0 (.loop (oS (oH [oM 6 5,oM 7 0,oLn 8 7,oBt 9 .lss 6 8] (oQ 9 .skip (.exit 0))) (oS (.block 1 (oH [oM 12 0,oM 13 5,oM 14 1,oIa 15 2 12 13,oFa 16 0 15,oSt 1 16 14] (oH [oM 17 1,oBk 18 .add 17 1,oM 1 18] (oG [oM 19 0,oM 20 5,oIa 21 2 19 20,oFa 22 1 21,oLf 23 22,oM 24 1,oC 25 90 [.t 23,.t 24],oM 1 25])))) (oG [oM 10 5,oBk 11 .add 10 1,oM 5 11])))))) (oH [oM 26 1,oM 4 26] .ret)))⟩
theorem zdl : wc Tryz.prog [] 91 = some jfx := by kernel_rfl
def jjw : AFn := ⟨20,[.t 4],(oH [oMi 4 0] (oS (oH [oMi 5 0] (.block 0 (.loop (oS (oH [oM 6 5,oM 7 0,oLn 8 7,oBt 9 .lss 6 8] (oQ 9 .skip (.exit 0))) (oS (.block 1 (oH [oM 12 0,oM 13 5,oIa 14 6 12 13,oFa 15 0 14,oLf 16 15,oM 17 1,oBt 18 .eql 16 17] (oQ 18 (oH [oM 19 5,oM 4 19] .ret) .skip))) (oG [oM 10 5,oBk 11 .add 10 1,oM 5 11])))))) (oH [oMi 4 (-1)] .ret)))⟩
theorem zg9 : wc Tryz.prog [] 94 = some jjw := by kernel_rfl
def zeb : AFn := ⟨42,[.t 4,.t 5],(oH [oBx 2 0,oP 4 (.mv (.k (.nils))),oMb 5 false] (oH [oP 9 (.mksl false 1 0 [.int .i64 0] []),oM 6 9] (oS (oH [oMi 7 0] (.block 0 (.loop (oS (oH [oM 10 7,oFa 11 0 2,oLf 12 11,oLn 13 12,oBt 14 .lss 10 13] (oQ 14 .skip (.exit 0))) (oS (.block 1 (oH [oMi 8 1] (oS (oH [oM 17 1,oLn 18 17,oBk 19 .gtr 18 0] (oQ 19 (oG [oM 20 1,oFa 21 0 2,oLf 22 21,oM 23 7,oIa 24 2 22 23,oFa 25 1 24,oLf 26 25,oC 27 173 [.t 20,.t 26],oM 8 27]) .skip)) (oS (oH [oM 28 8,oBk 29 .lss 28 0] (oQ 29 (oH [oP 4 (.mv (.k (.nils))),oMb 5 false] .ret) .skip)) (oH [oM 30 8,oBk 31 .eql 30 1] (oQ 31 (oG [oM 32 6,oFa 33 0 2,oLf 34 33,oM 35 7,oIa 36 2 34 35,oFa 37 0 36,oLf 38 37,oP 39 (.mksl true 1 1 [.int .i64 0] [(0,(.t 38))]),oP 40 (.app 1 8 (.t 32) (.t 39)),oM 6 40]) .skip)))))) (oG [oM 15 7,oBk 16 .add 15 1,oM 7 16])))))) (oH [oM 41 6,oM 4 41,oMb 5 true] .ret))))⟩
theorem jct : wc Tryz.prog [2, 39] 95 = some zeb := by kernel_rfl
def wjw : AFn := ⟨15,[.t 6],(oH [oMb 6 false] (oH [oM 7 0,oM 8 1,oBt 9 .geq 7 8,oM 10 9,otm 11 0 10,otm 12 2 10,oT 13 (.bin .leq (.t 11) (.t 12)) 10,oPa 14 10 13,oM 6 14] .ret))⟩
theorem jg9 : wc Tryz.prog [] 97 = some wjw := by kernel_rfl
def jdl : AFn := ⟨8,[.t 2],(oH [oP 2 (.mv (.k (.nils)))] (oS (oH [oM 3 0,oP 4 (.eq false false [.sl] (.t 3) (.k (.nils)))] (oQ 4 (oH [oP 2 (.mv (.k (.nils)))] .ret) .skip)) (oH [oP 5 (.mksl false 3 0 [.int .i64 0,.int .i64 0,.str []] []),oM 6 0,oP 7 (.app 3 32 (.t 5) (.t 6)),oM 2 7] .ret)))⟩
theorem zcd : wc Tryz.prog [] 101 = some jdl := by kernel_rfl
def wia : AFn := ⟨27,[.t 4],(oH [oMi 4 0] (oH [oM 6 1,oM 7 0,oLn 8 7,oBt 9 .sub 6 8,oM 1 9] (oS (oH [oM 10 1,oBk 11 .lss 10 0] (oQ 11 (oH [oMi 4 (-1)] .ret) .skip)) (oS (oH [oMi 5 0] (.block 0 (.loop (oS (oH [oM 12 5,oM 13 0,oLn 14 13,oBt 15 .lss 12 14] (oQ 15 .skip (.exit 0))) (oS (.block 1 (oH [oM 18 0,oM 19 5,oIa 20 6 18 19,oLt 21 6 20,oM 22 1,oC 23 183 [.t 21,.t 22],oM 1 23] (oH [oM 24 1,oBk 25 .lss 24 0] (oQ 25 (oH [oMi 4 (-1)] .ret) .skip)))) (oG [oM 16 5,oBk 17 .add 16 1,oM 5 17])))))) (oH [oM 26 1,oM 4 26] .ret)))))⟩
theorem je4 : wc Tryz.prog [] 105 = some wia := by kernel_rfl
def wfx : AFn := ⟨12,[.t 4],(oH [oMi 4 0] (oH [oM 5 1,oM 6 0,oLn 7 6,oBt 8 .sub 5 7,oM 1 8] (oS (oH [oM 9 1,oBk 10 .lss 9 0] (oQ 10 (oH [oMi 4 (-1)] .ret) .skip)) (oH [oM 11 1,oM 4 11] .ret))))⟩
theorem wdl : wc Tryz.prog [] 106 = some wfx := by kernel_rfl
def we4 : AFn := ⟨27,[.t 4],(oH [oMi 4 0] (oH [oM 6 1,oM 7 0,oLn 8 7,oBt 9 .sub 6 8,oM 1 9] (oS (oH [oM 10 1,oBk 11 .lss 10 0] (oQ 11 (oH [oMi 4 (-1)] .ret) .skip)) (oS (oH [oMi 5 0] (.block 0 (.loop (oS (oH [oM 12 5,oM 13 0,oLn 14 13,oBt 15 .lss 12 14] (oQ 15 .skip (.exit 0))) (oS (.block 1 (oH [oM 18 0,oM 19 5,oIa 20 1 18 19,oLt 21 1 20,oM 22 1,oC 23 184 [.t 21,.t 22],oM 1 23] (oH [oM 24 1,oBk 25 .lss 24 0] (oQ 25 (oH [oMi 4 (-1)] .ret) .skip)))) (oG [oM 16 5,oBk 17 .add 16 1,oM 5 17])))))) (oH [oM 26 1,oM 4 26] .ret)))))⟩
theorem jc3 : wc Tryz.prog [] 107 = some we4 := by kernel_rfl
def zfy : AFn := ⟨27,[.t 4],(oH [oMi 4 0] (oH [oM 6 1,oM 7 0,oLn 8 7,oBt 9 .sub 6 8,oM 1 9] (oS (oH [oM 10 1,oBk 11 .lss 10 0] (oQ 11 (oH [oMi 4 (-1)] .ret) .skip)) (oS (oH [oMi 5 0] (.block 0 (.loop (oS (oH [oM 12 5,oM 13 0,oLn 14 13,oBt 15 .lss 12 14] (oQ 15 .skip (.exit 0))) (oS (.block 1 (oH [oM 18 0,oM 19 5,oIa 20 1 18 19,oLt 21 1 20,oM 22 1,oC 23 185 [.t 21,.t 22],oM 1 23] (oH [oM 24 1,oBk 25 .lss 24 0] (oQ 25 (oH [oMi 4 (-1)] .ret) .skip)))) (oG [oM 16 5,oBk 17 .add 16 1,oM 5 17])))))) (oH [oM 26 1,oM 4 26] .ret)))))⟩
theorem zdm : wc Tryz.prog [] 108 = some zfy := by kernel_rfl
def ji1 : AFn := ⟨27,[.t 4],(oH [oMi 4 0] (oH [oM 6 1,oM 7 0,oLn 8 7,oBt 9 .sub 6 8,oM 1 9] (oS (oH [oM 10 1,oBk 11 .lss 10 0] (oQ 11 (oH [oMi 4 (-1)] .ret) .skip)) (oS (oH [oMi 5 0] (.block 0 (.loop (oS (oH [oM 12 5,oM 13 0,oLn 14 13,oBt 15 .lss 12 14] (oQ 15 .skip (.exit 0))) (oS (.block 1 (oH [oM 18 0,oM 19 5,oIa 20 5 18 19,oLt 21 5 20,oM 22 1,oC 23 186 [.t 21,.t 22],oM 1 23] (oH [oM 24 1,oBk 25 .lss 24 0] (oQ 25 (oH [oMi 4 (-1)] .ret) .skip)))) (oG [oM 16 5,oBk 17 .add 16 1,oM 5 17])))))) (oH [oM 26 1,oM 4 26] .ret)))))⟩
theorem jfy : wc Tryz.prog [] 109 = some ji1 := by kernel_rfl
def wi1 : AFn := ⟨36,[.t 4,.t 5],(oH [oP 4 (.mv (.k (.nils))),oMb 5 false] (oH [oP 10 (.mksl false 3 0 [.int .i64 0,.int .i64 0,.str []] []),oM 6 10] (oH [oMb 7 true] (oS (oH [oMi 8 0] (.block 0 (.loop (oS (oH [oM 11 8,oM 12 0,oLn 13 12,oBt 14 .lss 11 13] (oQ 14 .skip (.exit 0))) (oS (.block 1 (oH [oM 17 1,oM 18 0,oM 19 8,oIa 20 1 18 19,oLf 21 20,oIa 22 3 17 21,oLt 23 3 22,oP 9 (.alloc [.int .i64 0,.int .i64 0,.str []]),oSt 3 9 23] (oH [oM 24 6,oLt 25 3 9,oP 26 (.mksl true 3 1 [.int .i64 0,.int .i64 0,.str []] [(0,(.t 25))]),oP 27 (.app 3 32 (.t 24) (.t 26)),oM 6 27] (oG [oM 28 7,oM 29 28,ota 30 0 9 29,otl 31 30 29,oT 32 (.bin .neq (.t 31) (kI 0)) 29,oPa 33 29 32,oM 7 33])))) (oG [oM 15 8,oBk 16 .add 15 1,oM 8 16])))))) (oH [oM 34 6,oM 35 7,oM 4 34,oM 5 35] .ret)))))⟩
theorem wfy : wc Tryz.prog [26] 110 = some wi1 := by kernel_rfl
def jeb : AFn := ⟨82,[.t 14,.t 15],(oH [oP 14 (.mv (.k (.nils))),oMi 15 0] (oS (oH [oMi 16 0] (.block 0 (.loop (oS (oH [oM 22 16,oM 23 0,oLn 24 23,oBt 25 .lss 22 24] (oQ 25 .skip (.exit 0))) (oS (.block 1 (oH [oMi 17 0] (.block 2 (.loop (oS (oH [oM 28 17,oM 29 0,oM 30 16,oIa 31 6 29 30,oFa 32 5 31,oLf 33 32,oLn 34 33,oBt 35 .lss 28 34] (oQ 35 .skip (.exit 2))) (oS (.block 3 (oH [oM 38 0,oM 39 16,oIa 40 6 38 39,oFa 41 5 40,oLf 42 41,oM 43 17,oIa 44 5 42 43,oLt 45 5 44,oP 18 (.alloc [.nils,.str [],.int .i64 0,.int .i64 0,.bool false]),oSt 5 18 45] (oS (oS (oD [[oFa 46 1 18,oLf 47 46,oM 48 0,oM 49 2,oIa 50 6 48 49,oFa 51 0 50,oLf 52 51],[oBt 53 .neq 47 52]]) (oQ 53 (.exit 3) .skip)) (oH [oFa 54 3 18,oLf 55 54,oFa 56 4 18,oLf 57 56,oFa 58 0 18,oLf 59 58,oP 60 (.build [.int .i64 0,.bool false,.nils] [(0,1,(.t 55)),(1,1,(.t 57)),(2,1,(.t 59))]),oP 19 (.alloc [.int .i64 0,.bool false,.nils]),oSt 3 19 60] (oS (oH [oM 61 5] (oQ 61 (oG [oFa 62 2 18,oLf 63 62,oFa 64 0 19,oSt 1 64 63]) .skip)) (oH [oM 66 0,oM 67 1,oM 68 16,oLt 69 3 19,oM 70 3,oM 71 4,oM 72 5,oM 73 6,oC 74 187 [.t 66,.t 67,.t 68,.t 69,.t 70,.t 71,.t 72,.t 73],oM 65 74,oEx 75 65 0,oEx 76 65 1,oM 20 75,oM 21 76] (oS (oH [oM 77 21,oBk 78 .neq 77 0] (oQ 78 (oH [oM 79 21,oP 14 (.mv (.k (.nils))),oM 15 79] .ret) .skip)) (oG [oM 80 20,oM 1 80])))))))) (oG [oM 36 17,oBk 37 .add 36 1,oM 17 37]))))))) (oG [oM 26 16,oBk 27 .add 26 1,oM 16 27])))))) (oH [oM 81 1,oM 14 81,oMi 15 0] .ret)))⟩
theorem wct : wc Tryz.prog [] 111 = some jeb := by kernel_rfl
def zib : AFn := ⟨16,[.t 6],(oH [oBx 5 2,oP 6 (.mv (.k (.nils)))] (oH [oP 8 (.mksl false 1 0 [.nils] []),oM 9 0,oP 10 (.app 1 24 (.t 8) (.t 9)),oM 7 10] (oH [oM 11 7,oM 12 1,oLt 13 1 5,oIa 14 1 11 12,oSt 1 14 13] (oH [oM 15 7,oM 6 15] .ret))))⟩
theorem ze5 : wc Tryz.prog [5] 112 = some zib := by kernel_rfl
def jib : AFn := ⟨33,[.m 4 true 1],(oH [oBx 2 0,oP 4 (.alloc [.nils])] (oH [oP 7 (.mksl false 2 0 [.int .i64 0,.nils] []),oM 5 7] (oS (oH [oMi 6 0] (.block 0 (.loop (oS (oH [oM 8 6,oFa 9 0 2,oLf 10 9,oLn 11 10,oBt 12 .lss 8 11] (oQ 12 .skip (.exit 0))) (oS (.block 1 (oH [oFa 15 0 2,oLf 16 15,oM 17 6,oIa 18 2 16 17,oFa 19 0 18,oLf 20 19,oM 21 1,oBt 22 .neq 20 21] (oQ 22 (oG [oM 23 5,oFa 24 0 2,oLf 25 24,oM 26 6,oIa 27 2 25 26,oLt 28 2 27,oP 29 (.mksl true 2 1 [.int .i64 0,.nils] [(0,(.t 28))]),oP 30 (.app 2 32 (.t 23) (.t 29)),oM 5 30]) .skip))) (oG [oM 13 6,oBk 14 .add 13 1,oM 6 14])))))) (oH [oM 31 5,oP 32 (.build [.nils] [(0,1,(.t 31))]),oSt 1 4 32] .ret))))⟩
theorem je5 : wc Tryz.prog [2, 29] 113 = some jib := by kernel_rfl
def wib : AFn := ⟨23,[.t 2],(oH [oP 2 (.mv (.k (.nils)))] (oH [oM 5 0,oLn 6 5,oP 7 (.mkslice 6 64 [.str [],.int .i64 0,.bool false,.int .i64 0,.int .i64 0,.str []] (.t 6) (.t 6)),oM 3 7] (oS (oH [oMi 4 0] (.block 0 (.loop (oS (oH [oM 8 4,oM 9 0,oLn 10 9,oBt 11 .lss 8 10] (oQ 11 .skip (.exit 0))) (oS (.block 1 (oG [oM 14 3,oM 15 4,oM 16 0,oM 17 4,oIa 18 6 16 17,oLt 19 6 18,oC 20 188 [.t 19],oIa 21 6 14 15,oSt 6 21 20])) (oG [oM 12 4,oBk 13 .add 12 1,oM 4 13])))))) (oH [oM 22 3,oM 2 22] .ret))))⟩
theorem we5 : wc Tryz.prog [] 114 = some wib := by kernel_rfl
def zfz : AFn := ⟨22,[.t 2],(oH [oP 2 (.mv (.k (.nils)))] (oH [oM 5 0,oLn 6 5,oP 7 (.mkslice 1 8 [.int .i64 0] (.t 6) (.t 6)),oM 3 7] (oS (oH [oMi 4 0] (.block 0 (.loop (oS (oH [oM 8 4,oM 9 0,oLn 10 9,oBt 11 .lss 8 10] (oQ 11 .skip (.exit 0))) (oS (.block 1 (oG [oM 14 3,oM 15 4,oM 16 0,oM 17 4,oIa 18 1 16 17,oLf 19 18,oIa 20 1 14 15,oSt 1 20 19])) (oG [oM 12 4,oBk 13 .add 12 1,oM 4 13])))))) (oH [oM 21 3,oM 2 21] .ret))))⟩
theorem jdm : wc Tryz.prog [] 115 = some zfz := by kernel_rfl
def ze6 : AFn := ⟨23,[.t 2],(oH [oP 2 (.mv (.k (.nils)))] (oH [oM 5 0,oLn 6 5,oP 7 (.mkslice 1 24 [.nils] (.t 6) (.t 6)),oM 3 7] (oS (oH [oMi 4 0] (.block 0 (.loop (oS (oH [oM 8 4,oM 9 0,oLn 10 9,oBt 11 .lss 8 10] (oQ 11 .skip (.exit 0))) (oS (.block 1 (oG [oM 14 3,oM 15 4,oM 16 0,oM 17 4,oIa 18 1 16 17,oLt 19 1 18,oC 20 189 [.t 19],oIa 21 1 14 15,oSt 1 21 20])) (oG [oM 12 4,oBk 13 .add 12 1,oM 4 13])))))) (oH [oM 22 3,oM 2 22] .ret))))⟩
theorem wc3 : wc Tryz.prog [] 116 = some ze6 := by kernel_rfl
def jfz : AFn := ⟨23,[.t 2],(oH [oP 2 (.mv (.k (.nils)))] (oH [oM 5 0,oLn 6 5,oP 7 (.mkslice 1 24 [.nils] (.t 6) (.t 6)),oM 3 7] (oS (oH [oMi 4 0] (.block 0 (.loop (oS (oH [oM 8 4,oM 9 0,oLn 10 9,oBt 11 .lss 8 10] (oQ 11 .skip (.exit 0))) (oS (.block 1 (oG [oM 14 3,oM 15 4,oM 16 0,oM 17 4,oIa 18 1 16 17,oLt 19 1 18,oC 20 190 [.t 19],oIa 21 1 14 15,oSt 1 21 20])) (oG [oM 12 4,oBk 13 .add 12 1,oM 4 13])))))) (oH [oM 22 3,oM 2 22] .ret))))⟩
theorem wdm : wc Tryz.prog [] 117 = some jfz := by kernel_rfl
def zi2 : AFn := ⟨23,[.t 2],(oH [oP 2 (.mv (.k (.nils)))] (oH [oM 5 0,oLn 6 5,oP 7 (.mkslice 5 64 [.nils,.str [],.int .i64 0,.int .i64 0,.bool false] (.t 6) (.t 6)),oM 3 7] (oS (oH [oMi 4 0] (.block 0 (.loop (oS (oH [oM 8 4,oM 9 0,oLn 10 9,oBt 11 .lss 8 10] (oQ 11 .skip (.exit 0))) (oS (.block 1 (oG [oM 14 3,oM 15 4,oM 16 0,oM 17 4,oIa 18 5 16 17,oLt 19 5 18,oC 20 191 [.t 19],oIa 21 5 14 15,oSt 5 21 20])) (oG [oM 12 4,oBk 13 .add 12 1,oM 4 13])))))) (oH [oM 22 3,oM 2 22] .ret))))⟩
theorem wfz : wc Tryz.prog [] 118 = some zi2 := by kernel_rfl
def zf0 : AFn := ⟨32,[.t 2],(oH [oBx 1 0,oMb 2 false] (oS (oH [oLf 5 1,oLn 6 5,oBk 7 .gtr 6 5] (oQ 7 (oH [oMb 2 false] .ret) .skip)) (oS (oH [oLf 8 1,oLn 9 8,oMi 10 0] (.block 0 (.loop (oH [oBt 11 .lss 10 9] (oS (oQ 11 .skip (.exit 0)) (oS (.block 1 (oH [oM 12 10,oIa 13 6 8 10,oLt 14 6 13,oP 4 (.alloc [.str [],.nils,.nils,.nils,.nils,.nils]),oM 3 12,oSt 6 4 14] (oS (oD [[oLt 15 6 4],[oC 16 192 [.t 15]],[oUn 17 16],[oM 18 17],[ofl 19 1 18,ofm 20 3 18,oF 21 (.slice 6 (.t 19) none (some (.t 20)) none) 18,ofa 22 0 4 18,ofl 23 22 18],[ofc 24 160 [.t 21,.t 23] 18],[oF 25 (.bin .geq (.t 24) (kI 0)) 18],[oPo 26 18 25]]) (oQ 26 (oH [oMb 2 false] .ret) .skip)))) (oG [oBk 27 .add 10 1,oM 10 27]))))))) (oH [oLf 28 1,oP 29 (.mkfn 194 [] [.t 1]),oC 30 193 [.t 28,.t 29],oUn 31 30,oM 2 31] .ret))))⟩
theorem zdn : wc Tryz.prog [1] 119 = some zf0 := by kernel_rfl
def wg9 : AFn := ⟨44,[.t 4],(oH [oBx 2 0,oMb 4 false] (oS (oH [oM 7 1,oLn 8 7,oMi 9 0] (.block 0 (.loop (oH [oBt 10 .lss 9 8] (oS (oQ 10 .skip (.exit 0)) (oS (.block 1 (oH [oM 11 9,oIa 12 2 7 9,oLt 13 2 12,oP 6 (.alloc [.int .i64 0,.nils]),oM 5 11,oSt 2 6 13] (oS (oD [[oFa 14 0 6],[oLf 15 14],[oC 16 121 [.t 15,(kI 1),(kI 1000000000)]],[oUn 17 16],[oM 18 17],[ofm 19 5 18],[oF 20 (.bin .gtr (.t 19) (kI 0)) 18],[ofm 21 20 18],[otm 22 1 21,otm 23 5 21,oT 24 (.bin .sub (.t 23) (kI 1)) 21,oti 25 2 22 24 21,ota 26 0 25 21,otl 27 26 21,ota 28 0 6 21,otl 29 28 21],[oT 30 (.bin .geq (.t 27) (.t 29)) 21],[oF 31 (.pick (.t 21) (.t 30) (.k (.bool false))) 18],[oPo 32 18 31],[oM 33 32],[oF 34 (.load true 6 (.t 2)) 33,ofa 35 1 6 33,ofl 36 35 33],[ofc 37 67 [.t 34,.t 36] 33],[oF 38 (.un .not (.t 37)) 33],[oPo 39 33 38]]) (oQ 39 (oH [oMb 4 false] .ret) .skip)))) (oG [oBk 40 .add 9 1,oM 9 40]))))))) (oH [oM 41 1,oLn 42 41,oBk 43 .leq 42 60,oM 4 43] .ret)))⟩
theorem web : wc Tryz.prog [2] 120 = some wg9 := by kernel_rfl
def jlg : AFn := ⟨15,[.t 6],(oH [oMb 6 false] (oH [oM 7 1,oM 8 0,oBt 9 .leq 7 8,oM 10 9,otm 11 0 10,otm 12 2 10,oT 13 (.bin .leq (.t 11) (.t 12)) 10,oPa 14 10 13,oM 6 14] .ret))⟩
theorem ji2 : wc Tryz.prog [] 121 = some jlg := by kernel_rfl
def jf0 : AFn := ⟨41,[.t 2],(oH [oP 2 (.mv (.k (.nils)))] (oH [oP 9 (.mksl false 1 0 [.nils] []),oM 3 9] (oS (oH [oM 10 0,oLn 11 10,oMi 12 0] (.block 0 (.loop (oH [oBt 13 .lss 12 11] (oS (oQ 13 .skip (.exit 0)) (oS (.block 1 (oH [oIa 14 1 10 12,oLt 15 1 14,oP 5 (.alloc [.nils]),oSt 1 5 15] (oH [oP 16 (.mksl false 2 0 [.int .i64 0,.nils] []),oM 6 16] (oS (oH [oFa 17 0 5,oLf 18 17,oLn 19 18,oMi 20 0] (.block 2 (.loop (oH [oBt 21 .lss 20 19] (oS (oQ 21 .skip (.exit 2)) (oS (.block 3 (oH [oIa 22 2 18 20,oLt 23 2 22,oP 8 (.alloc [.int .i64 0,.nils]),oSt 2 8 23] (oD [[oM 24 6,oFa 25 0 8,oLf 26 25,oFa 27 1 8,oLf 28 27,oC 29 101 [.t 28],oP 30 (.build [.int .i64 0,.nils] [(0,1,(.t 26)),(1,1,(.t 29))]),oP 31 (.mksl true 2 1 [.int .i64 0,.nils] [(0,(.t 30))])],[oP 32 (.app 2 32 (.t 24) (.t 31))],[oM 6 32]]))) (oG [oBk 33 .add 20 1,oM 20 33]))))))) (oG [oM 34 3,oM 35 6,oP 36 (.build [.nils] [(0,1,(.t 35))]),oP 37 (.mksl true 1 1 [.nils] [(0,(.t 36))]),oP 38 (.app 1 24 (.t 34) (.t 37)),oM 3 38]))))) (oG [oBk 39 .add 12 1,oM 12 39]))))))) (oH [oM 40 3,oM 2 40] .ret))))⟩
theorem jdn : wc Tryz.prog [31, 37] 122 = some jf0 := by kernel_rfl
def wi2 : AFn := ⟨36,[.t 4,.t 5],(oH [oP 4 (.mv (.k (.nils))),oMb 5 false] (oH [oP 10 (.mksl false 3 0 [.int .i64 0,.int .i64 0,.str []] []),oM 6 10,oMb 7 true] (oS (oH [oM 11 0,oLn 12 11,oMi 13 0] (.block 0 (.loop (oH [oBt 14 .lss 13 12] (oS (oQ 14 .skip (.exit 0)) (oS (.block 1 (oH [oIa 15 1 11 13,oLf 16 15,oM 9 16] (oH [oM 17 6,oM 18 1,oM 19 9,oIa 20 3 18 19,oLt 21 3 20,oP 22 (.mksl true 3 1 [.int .i64 0,.int .i64 0,.str []] [(0,(.t 21))]),oP 23 (.app 3 32 (.t 17) (.t 22)),oM 6 23] (oG [oM 24 7,oM 25 24,otm 26 1 25,otm 27 9 25,oti 28 3 26 27 25,ota 29 0 28 25,otl 30 29 25,oT 31 (.bin .neq (.t 30) (kI 0)) 25,oPa 32 25 31,oM 7 32])))) (oG [oBk 33 .add 13 1,oM 13 33]))))))) (oH [oM 34 6,oM 35 7,oM 4 34,oM 5 35] .ret))))⟩
theorem wf0 : wc Tryz.prog [22] 123 = some wi2 := by kernel_rfl
def zb0 : AFn := ⟨42,[.t 4],(oH [oP 4 (.mv (.k (.nils)))] (oH [oM 8 0,oM 9 1,oC 10 141 [.t 8,.t 9],oM 5 10] (oS (oH [oM 11 5,oBk 12 .eql 11 (-1)] (oQ 12 (oH [oM 13 0,oM 4 13] .ret) .skip)) (oS (oH [oM 14 5,oBk 15 .add 14 1,oM 6 15] (.block 0 (.loop (oS (oH [oM 16 6,oM 17 0,oLn 18 17,oBt 19 .lss 16 18] (oQ 19 .skip (.exit 0))) (oS (.block 1 (oH [oM 22 0,oM 23 6,oIa 24 2 22 23,oLt 25 2 24,oP 7 (.alloc [.int .i64 0,.nils]),oSt 2 7 25] (oH [oM 26 1,oLt 27 2 7,⟨some 28,.call (.t 26) [.t 27],none⟩,oUn 29 28] (oQ 29 (oH [oM 30 0,oM 31 5,oLt 32 2 7,oIa 33 2 30 31,oSt 2 33 32] (oG [oM 34 5,oBk 35 .add 34 1,oM 5 35])) .skip)))) (oG [oM 20 6,oBk 21 .add 20 1,oM 6 21])))))) (oH [oM 36 0,oM 37 5,oP 38 (.slice 2 (.t 36) (some (.t 37)) none none),⟨none,.op (.clear [.int .i64 0,.nils] (.t 38)),none⟩] (oH [oM 39 0,oM 40 5,oP 41 (.slice 2 (.t 39) none (some (.t 40)) none),oM 4 41] .ret))))))⟩
theorem zbk : wc Tryz.prog [] 124 = some zb0 := by kernel_rfl
def jbt : AFn := ⟨8,[.t 3],(oH [oBx 2 0,oMb 3 false] (oH [oFa 4 0 2,oLf 5 4,oLf 6 1,oBt 7 .eql 5 6,oM 3 7] .ret))⟩
theorem zbi : wc Tryz.prog [2] 125 = some jbt := by kernel_rfl
def jcd : AFn := ⟨96,[.t 10],(oH [oMi 10 0] (oS (oH [oM 19 0,oNc 20 19,oFa 21 0 20,oLf 22 21,oLn 23 22,oMi 24 0] (.block 0 (.loop (oH [oBt 25 .lss 24 23] (oS (oQ 25 .skip (.exit 0)) (oS (.block 1 (oH [oM 26 24,oIa 27 6 22 24,oLt 28 6 27,oP 12 (.alloc [.str [],.nils,.nils,.nils,.nils,.nils]),oM 11 26,oSt 6 12 28] (oH [oFa 29 5 12,oLf 30 29,oLn 31 30,oMi 32 0] (.block 2 (.loop (oH [oBt 33 .lss 32 31] (oS (oQ 33 .skip (.exit 2)) (oS (.block 3 (oH [oIa 34 5 30 32,oLt 35 5 34,oP 14 (.alloc [.nils,.str [],.int .i64 0,.int .i64 0,.bool false]),oSt 5 14 35] (oS (oS (oD [[oFa 36 1 14,oLf 37 36,oM 38 0,oNc 39 38,oFa 40 0 39,oLf 41 40,oM 42 1,oIa 43 6 41 42,oFa 44 0 43,oLf 45 44],[oBt 46 .neq 37 45]]) (oQ 46 (.exit 3) .skip)) (oS (oD [[oM 47 0,oNc 48 47,oFa 49 1 48,oLf 50 49,oM 51 11,oIa 52 1 50 51,oFa 53 0 52,oLf 54 53,oFa 55 0 14,oLf 56 55,oM 57 2,oC 58 198 [.t 54,.t 56,.t 57],oLn 59 58,oMi 60 0]]) (.block 4 (.loop (oH [oBt 61 .lss 60 59] (oS (oQ 61 .skip (.exit 4)) (oS (.block 5 (oH [oIa 62 1 58 60,oLf 63 62,oM 16 63] (oH [oM 64 0,oM 65 11,oM 66 16,oC 67 69 [.t 64,.t 65,.t 66],oM 17 67] (oS (oS (oD [[oM 68 17],[oP 69 (.eq false false [.pt] (.t 68) (.k (.nilp)))],[oM 70 69],[ofa 71 0 14 70,ofl 72 71 70,ofm 73 17 70,oF 74 (.nilc (.t 73)) 70,ofa 75 1 74 70,ofl 76 75 70,ofm 77 2 70],[ofc 78 199 [.t 72,.t 76,.t 77] 70],[oF 79 (.un .not (.t 78)) 70],[oPo 80 70 79]]) (oQ 80 (.exit 5) .skip)) (oS (oD [[oM 81 0,oM 82 11,oM 83 17,oNc 84 83,oLt 85 2 84,oLt 86 5 14,oM 87 3,oM 88 4],[oC 89 200 [.t 81,.t 82,.t 85,.t 86,.t 87,.t 88]],[oM 18 89]]) (oH [oM 90 18,oBk 91 .neq 90 0] (oQ 91 (oH [oM 92 18,oM 10 92] .ret) .skip))))))) (oG [oBk 93 .add 60 1,oM 60 93])))))))))) (oG [oBk 94 .add 32 1,oM 32 94]))))))))) (oG [oBk 95 .add 24 1,oM 24 95]))))))) (oH [oMi 10 0] .ret)))⟩
theorem wbt : wc Tryz.prog [] 126 = some jcd := by kernel_rfl
def zic : AFn := ⟨27,[.t 4],(oH [oMb 4 false] (oS (oH [oM 6 0,oLn 7 6,oM 8 1,oLn 9 8,oBt 10 .neq 7 9] (oQ 10 (oH [oMb 4 false] .ret) .skip)) (oS (oH [oMi 5 0] (.block 0 (.loop (oS (oH [oM 11 5,oM 12 0,oLn 13 12,oBt 14 .lss 11 13] (oQ 14 .skip (.exit 0))) (oS (.block 1 (oS (oD [[oM 17 0,oM 18 5,oIa 19 6 17 18,oLt 20 6 19,oM 21 1,oM 22 5,oIa 23 6 21 22,oLt 24 6 23],[oC 25 201 [.t 20,.t 24]],[oUn 26 25]]) (oQ 26 (oH [oMb 4 false] .ret) .skip))) (oG [oM 15 5,oBk 16 .add 15 1,oM 5 16])))))) (oH [oMb 4 true] .ret))))⟩
theorem je6 : wc Tryz.prog [] 127 = some zic := by kernel_rfl
def zf1 : AFn := ⟨26,[.t 4],(oH [oMb 4 false] (oS (oH [oM 6 0,oLn 7 6,oM 8 1,oLn 9 8,oBt 10 .neq 7 9] (oQ 10 (oH [oMb 4 false] .ret) .skip)) (oS (oH [oMi 5 0] (.block 0 (.loop (oS (oH [oM 11 5,oM 12 0,oLn 13 12,oBt 14 .lss 11 13] (oQ 14 .skip (.exit 0))) (oS (.block 1 (oS (oD [[oM 17 0,oM 18 5,oIa 19 1 17 18,oLf 20 19,oM 21 1,oM 22 5,oIa 23 1 21 22,oLf 24 23],[oBt 25 .neq 20 24]]) (oQ 25 (oH [oMb 4 false] .ret) .skip))) (oG [oM 15 5,oBk 16 .add 15 1,oM 5 16])))))) (oH [oMb 4 true] .ret))))⟩
theorem wdn : wc Tryz.prog [] 128 = some zf1 := by kernel_rfl
def we6 : AFn := ⟨27,[.t 4],(oH [oMb 4 false] (oS (oH [oM 6 0,oLn 7 6,oM 8 1,oLn 9 8,oBt 10 .neq 7 9] (oQ 10 (oH [oMb 4 false] .ret) .skip)) (oS (oH [oMi 5 0] (.block 0 (.loop (oS (oH [oM 11 5,oM 12 0,oLn 13 12,oBt 14 .lss 11 13] (oQ 14 .skip (.exit 0))) (oS (.block 1 (oS (oD [[oM 17 0,oM 18 5,oIa 19 1 17 18,oLt 20 1 19,oM 21 1,oM 22 5,oIa 23 1 21 22,oLt 24 1 23],[oC 25 202 [.t 20,.t 24]],[oUn 26 25]]) (oQ 26 (oH [oMb 4 false] .ret) .skip))) (oG [oM 15 5,oBk 16 .add 15 1,oM 5 16])))))) (oH [oMb 4 true] .ret))))⟩
theorem zc4 : wc Tryz.prog [] 129 = some we6 := by kernel_rfl
def jf1 : AFn := ⟨27,[.t 4],(oH [oMb 4 false] (oS (oH [oM 6 0,oLn 7 6,oM 8 1,oLn 9 8,oBt 10 .neq 7 9] (oQ 10 (oH [oMb 4 false] .ret) .skip)) (oS (oH [oMi 5 0] (.block 0 (.loop (oS (oH [oM 11 5,oM 12 0,oLn 13 12,oBt 14 .lss 11 13] (oQ 14 .skip (.exit 0))) (oS (.block 1 (oS (oD [[oM 17 0,oM 18 5,oIa 19 1 17 18,oLt 20 1 19,oM 21 1,oM 22 5,oIa 23 1 21 22,oLt 24 1 23],[oC 25 203 [.t 20,.t 24]],[oUn 26 25]]) (oQ 26 (oH [oMb 4 false] .ret) .skip))) (oG [oM 15 5,oBk 16 .add 15 1,oM 5 16])))))) (oH [oMb 4 true] .ret))))⟩
theorem zdo : wc Tryz.prog [] 130 = some jf1 := by kernel_rfl
def zi3 : AFn := ⟨27,[.t 4],(oH [oMb 4 false] (oS (oH [oM 6 0,oLn 7 6,oM 8 1,oLn 9 8,oBt 10 .neq 7 9] (oQ 10 (oH [oMb 4 false] .ret) .skip)) (oS (oH [oMi 5 0] (.block 0 (.loop (oS (oH [oM 11 5,oM 12 0,oLn 13 12,oBt 14 .lss 11 13] (oQ 14 .skip (.exit 0))) (oS (.block 1 (oS (oD [[oM 17 0,oM 18 5,oIa 19 5 17 18,oLt 20 5 19,oM 21 1,oM 22 5,oIa 23 5 21 22,oLt 24 5 23],[oC 25 204 [.t 20,.t 24]],[oUn 26 25]]) (oQ 26 (oH [oMb 4 false] .ret) .skip))) (oG [oM 15 5,oBk 16 .add 15 1,oM 5 16])))))) (oH [oMb 4 true] .ret))))⟩
theorem wf1 : wc Tryz.prog [] 131 = some zi3 := by kernel_rfl
def zf2 : AFn := ⟨41,[.t 4],(oH [oMi 4 0] (oS (oH [oMi 5 0] (.block 0 (.loop (oS (oH [oM 6 5,oM 7 0,oLn 8 7,oBt 9 .lss 6 8] (oQ 9 .skip (.exit 0))) (oS (.block 1 (oS (oH [oM 12 0,oM 13 5,oIa 14 3 12 13,oFa 15 0 14,oLf 16 15,oM 17 1,oBt 18 .neq 16 17] (oQ 18 (oH [oMi 4 (-1)] .ret) .skip)) (oH [oM 19 1,oBk 20 .add 19 1,oM 1 20] (oS (oH [oM 21 0,oM 22 5,oIa 23 3 21 22,oFa 24 1 23,oLf 25 24,oM 26 1,oBt 27 .neq 25 26] (oQ 27 (oH [oMi 4 (-1)] .ret) .skip)) (oH [oM 28 1,oBk 29 .add 28 1,oM 1 29] (oS (oS (oD [[oM 30 0,oM 31 5,oIa 32 3 30 31,oFa 33 2 32,oLf 34 33,oM 35 1,oC 36 54 [.t 35]],[oBt 37 .neq 34 36]]) (oQ 37 (oH [oMi 4 (-1)] .ret) .skip)) (oG [oM 38 1,oBk 39 .add 38 1,oM 1 39]))))))) (oG [oM 10 5,oBk 11 .add 10 1,oM 5 11])))))) (oH [oM 40 1,oM 4 40] .ret)))⟩
theorem jdo : wc Tryz.prog [] 132 = some zf2 := by kernel_rfl
def ji3 : AFn := ⟨31,[.t 2],(oH [oBx 1 0,oMb 2 false] (oS (oH [oFa 3 0 1,oLf 4 3] (.block 0 (oH [oBk 6 .eql 4 0,oM 5 6] (oQ 5 (oH [oLt 7 3 1,oP 8 (.build [.int .i64 0,.int .i64 0,.str []] []),oP 9 (.eq false true [.i,.i,.s] (.t 7) (.t 8)),oM 2 9] .ret) (oH [oBk 11 .eql 4 1,oM 10 11] (oQ 10 (oH [oFa 12 1 1,oLf 13 12,oC 14 97 [.t 13,(kI (-1000000000)),(kI 1000000000)],oM 15 14,ota 16 2 1 15,otl 17 16 15,oT 18 (.bin .eql (.t 17) (.k (.str []))) 15,oPa 19 15 18,oM 2 19] .ret) (oH [oBk 21 .eql 4 2,oM 20 21] (oQ 20 (oH [oFa 22 1 1,oLf 23 22,oBk 24 .eql 23 0,oM 25 24,ota 26 2 1 25,otl 27 26 25,oT 28 (.len true (.t 27)) 25,oT 29 (.bin .leq (.t 28) (kI 12)) 25,oPa 30 25 29,oM 2 30] .ret) .skip)))))))) (oH [oMb 2 false] .ret)))⟩
theorem jf2 : wc Tryz.prog [1] 133 = some ji3 := by kernel_rfl
def wf2 : AFn := ⟨41,[.t 4],(oH [oBx 2 0,oP 4 (.mv (.k (.nils)))] (oH [oP 8 (.mksl false 3 0 [.int .i64 0,.int .i64 0,.str []] []),oM 5 8] (oS (oH [oMi 6 0] (.block 0 (.loop (oS (oH [oM 9 6,oM 10 1,oLn 11 10,oBt 12 .lss 9 11] (oQ 12 .skip (.exit 0))) (oS (.block 1 (oH [oM 15 1,oM 16 6,oIa 17 3 15 16,oLt 18 3 17,oP 7 (.alloc [.int .i64 0,.int .i64 0,.str []]),oSt 3 7 18] (oS (oH [oFa 19 0 7,oLf 20 19,oBk 21 .eql 20 0,oM 22 21,ota 23 1 2 22,otl 24 23 22,otm 25 6 22,oti 26 6 24 25 22,ota 27 2 26 22,otl 28 27 22,oPa 29 22 28] (oQ 29 (oG [oFa 30 1 2,oLf 31 30,oM 32 6,oIa 33 6 31 32,oFa 34 3 33,oLt 35 3 34,oSt 3 7 35]) .skip)) (oG [oM 36 5,oLt 37 3 7,oP 38 (.mksl true 3 1 [.int .i64 0,.int .i64 0,.str []] [(0,(.t 37))]),oP 39 (.app 3 32 (.t 36) (.t 38)),oM 5 39])))) (oG [oM 13 6,oBk 14 .add 13 1,oM 6 14])))))) (oH [oM 40 5,oM 4 40] .ret))))⟩
theorem wdo : wc Tryz.prog [2, 38] 134 = some wf2 := by kernel_rfl
def jic : AFn := ⟨15,[.t 4],(oH [oBx 2 0,oMi 4 0] (oS (.block 0 (oH [oLt 6 6 2,oM 7 1,oC 8 205 [.t 6,.t 7],oUn 9 8,oM 5 9] (oQ 5 (oH [oMi 4 2] .ret) (oH [oLt 11 6 2,oM 12 1,oC 13 206 [.t 11,.t 12],oUn 14 13,oM 10 14] (oQ 10 (oH [oMi 4 3] .ret) .skip))))) (oH [oMi 4 0] .ret)))⟩
theorem ze7 : wc Tryz.prog [2] 135 = some jic := by kernel_rfl
def zha : AFn := ⟨69,[.t 12,.t 13],(oH [oBx 9 3,oP 12 (.mv (.k (.nils))),oMi 13 0] (oS (oD [[oM 18 0,oM 19 2,oIa 20 6 18 19,oLt 21 6 20,oM 22 1,oM 23 2,oIa 24 1 22 23,oLt 25 1 24,oLt 26 2 9],[oC 27 207 [.t 21,.t 25,.t 26]],[oM 14 27]]) (oS (oH [oM 28 14,oLn 29 28,oBk 30 .gtr 29 0,oM 31 30,otm 32 4 31,oT 33 (.un .not (.t 32)) 31,oPa 34 31 33] (oQ 34 (oH [oP 12 (.mv (.k (.nils))),oMi 13 4] .ret) .skip)) (oS (oH [oMi 15 0] (.block 0 (.loop (oS (oH [oM 35 15,oM 36 14,oLn 37 36,oBt 38 .lss 35 37] (oQ 38 .skip (.exit 0))) (oS (.block 1 (oS (oS (oD [[oM 41 1,oM 42 2,oIa 43 1 41 42,oLt 44 1 43,oM 45 14,oM 46 15,oIa 47 1 45 46,oLf 48 47],[oC 49 42 [.t 44,.t 48]],[oBk 50 .lss 49 0]]) (oQ 50 (.exit 1) .skip)) (oH [oM 52 0,oM 53 1,oM 54 2,oM 55 14,oM 56 15,oIa 57 1 55 56,oLf 58 57,oM 59 5,oBk 60 .add 59 1,oC 61 44 [.t 52,.t 53,.t 54,.t 58,.t 60],oM 51 61,oEx 62 51 0,oEx 63 51 1,oM 16 62,oM 17 63] (oS (oH [oM 64 17,oBk 65 .neq 64 0] (oQ 65 (oH [oM 66 17,oP 12 (.mv (.k (.nils))),oM 13 66] .ret) .skip)) (oG [oM 67 16,oM 1 67]))))) (oG [oM 39 15,oBk 40 .add 39 1,oM 15 40])))))) (oH [oM 68 1,oM 12 68,oMi 13 0] .ret)))))⟩
theorem zec : wc Tryz.prog [9] 136 = some zha := by kernel_rfl
def wi3 : AFn := ⟨58,[.m 4 true 1],(oH [oBx 2 0,oBx 3 1,oP 4 (.alloc [.nils])] (oH [oP 8 (.mksl false 2 0 [.int .i64 0,.nils] []),oM 5 8] (oH [oMb 6 false] (oS (oH [oMi 7 0] (.block 0 (.loop (oS (oH [oM 9 7,oFa 10 0 2,oLf 11 10,oLn 12 11,oBt 13 .lss 9 12] (oQ 13 .skip (.exit 0))) (oS (.block 1 (oS (oS (oD [[oM 16 6],[oUn 17 16],[oM 18 17],[ota 19 0 2 18,otl 20 19 18,otm 21 7 18,oti 22 2 20 21 18,ota 23 0 22 18,otl 24 23 18,ota 25 0 3 18,otl 26 25 18],[oT 27 (.bin .geq (.t 24) (.t 26)) 18],[oPa 28 18 27]]) (oQ 28 (oH [oM 29 5,oLt 30 2 3,oP 31 (.mksl true 2 1 [.int .i64 0,.nils] [(0,(.t 30))]),oP 32 (.app 2 32 (.t 29) (.t 31)),oM 5 32] (oG [oMb 6 true])) .skip)) (oS (oD [[oFa 33 0 2,oLf 34 33,oM 35 7,oIa 36 2 34 35,oFa 37 0 36,oLf 38 37,oFa 39 0 3,oLf 40 39],[oBt 41 .neq 38 40]]) (oQ 41 (oG [oM 42 5,oFa 43 0 2,oLf 44 43,oM 45 7,oIa 46 2 44 45,oLt 47 2 46,oP 48 (.mksl true 2 1 [.int .i64 0,.nils] [(0,(.t 47))]),oP 49 (.app 2 32 (.t 42) (.t 48)),oM 5 49]) .skip)))) (oG [oM 14 7,oBk 15 .add 14 1,oM 7 15])))))) (oS (oH [oM 50 6,oUn 51 50] (oQ 51 (oG [oM 52 5,oLt 53 2 3,oP 54 (.mksl true 2 1 [.int .i64 0,.nils] [(0,(.t 53))]),oP 55 (.app 2 32 (.t 52) (.t 54)),oM 5 55]) .skip)) (oH [oM 56 5,oP 57 (.build [.nils] [(0,1,(.t 56))]),oSt 1 4 57] .ret))))))⟩
theorem zf3 : wc Tryz.prog [2, 3, 31, 48, 54] 137 = some wi3 := by kernel_rfl
def jec : AFn := ⟨26,[.t 4],(oH [oMb 4 false] (oS (oH [oM 6 0,oLn 7 6,oM 8 1,oLn 9 8,oBt 10 .neq 7 9] (oQ 10 (oH [oMb 4 false] .ret) .skip)) (oS (oH [oMi 5 0] (.block 0 (.loop (oS (oH [oM 11 5,oM 12 0,oLn 13 12,oBt 14 .lss 11 13] (oQ 14 .skip (.exit 0))) (oS (.block 1 (oS (oD [[oM 17 0,oM 18 5,oIa 19 3 17 18,oLt 20 3 19,oM 21 1,oM 22 5,oIa 23 3 21 22,oLt 24 3 23],[oP 25 (.eq true true [.i,.i,.s] (.t 20) (.t 24))]]) (oQ 25 (oH [oMb 4 false] .ret) .skip))) (oG [oM 15 5,oBk 16 .add 15 1,oM 5 16])))))) (oH [oMb 4 true] .ret))))⟩
theorem zcu : wc Tryz.prog [] 138 = some jec := by kernel_rfl
def jf3 : AFn := ⟨45,[.t 10],(oH [oMb 10 false] (oS (oH [oMi 11 0] (.block 0 (.loop (oS (oH [oM 13 11,oM 14 0,oM 15 2,oIa 16 6 14 15,oFa 17 5 16,oLf 18 17,oLn 19 18,oBt 20 .lss 13 19] (oQ 20 .skip (.exit 0))) (oS (.block 1 (oH [oM 23 0,oM 24 2,oIa 25 6 23 24,oFa 26 5 25,oLf 27 26,oM 28 11,oIa 29 5 27 28,oLt 30 5 29,oP 12 (.alloc [.nils,.str [],.int .i64 0,.int .i64 0,.bool false]),oSt 5 12 30] (oH [oM 31 4,oM 32 31,ota 33 4 12 32,otl 34 33 32,oPa 35 32 34,oUn 36 35,oM 37 36,otm 38 0 37,otm 39 1 37,oT 40 (.load true 5 (.t 12)) 37,otm 41 3 37,otc 42 208 [.t 38,.t 39,.t 40,.t 41] 37,oT 43 (.un .not (.t 42)) 37,oPa 44 37 43] (oQ 44 (oH [oMb 10 false] .ret) .skip)))) (oG [oM 21 11,oBk 22 .add 21 1,oM 11 22])))))) (oH [oMb 10 true] .ret)))⟩
theorem zdp : wc Tryz.prog [] 139 = some jf3 := by kernel_rfl
def zjx : AFn := ⟨18,[.t 4],(oH [oBx 2 0,oMb 4 false] (oH [oLt 5 3 2,oC 6 209 [.t 5],oM 7 6,ota 8 0 2 7,otl 9 8 7,oT 10 (.bin .eql (.t 9) (kI 0)) 7,otm 11 10 7,ofa 12 0 2 11,ofl 13 12 11,ofm 14 1 11,oF 15 (.bin .eql (.t 13) (.t 14)) 11,oT 16 (.pick (.t 11) (.k (.bool true)) (.t 15)) 7,oPa 17 7 16,oM 4 17] .ret))⟩
theorem jha : wc Tryz.prog [2] 140 = some zjx := by kernel_rfl
def wb8 : AFn := ⟨19,[.t 4],(oH [oMi 4 0] (oS (oH [oM 6 0,oLn 7 6,oMi 8 0] (.block 0 (.loop (oH [oBt 9 .lss 8 7] (oS (oQ 9 .skip (.exit 0)) (oS (.block 1 (oH [oM 10 8,oM 5 10] (oH [oM 11 1,oM 12 0,oM 13 5,oIa 14 2 12 13,oLt 15 2 14,⟨some 16,.call (.t 11) [.t 15],none⟩] (oQ 16 (oH [oM 17 5,oM 4 17] .ret) .skip)))) (oG [oBk 18 .add 8 1,oM 8 18]))))))) (oH [oMi 4 (-1)] .ret)))⟩
theorem j9 : wc Tryz.prog [] 141 = some wb8 := by kernel_rfl
def wcd : AFn := ⟨8,[.t 3],(oH [oBx 2 0,oMb 3 false] (oH [oFa 4 0 2,oLf 5 4,oLf 6 1,oBt 7 .eql 5 6,oM 3 7] .ret))⟩
theorem zbu : wc Tryz.prog [2] 142 = some wcd := by kernel_rfl
def wic : AFn := ⟨39,[.t 4],(oH [oBx 2 0,oP 4 (.mv (.k (.nils)))] (oH [oM 8 1,oC 9 101 [.t 8],oM 5 9] (oS (oH [oM 10 5,oLn 11 10,oMi 12 0] (.block 0 (.loop (oH [oBt 13 .lss 12 11] (oS (oQ 13 .skip (.exit 0)) (oS (.block 1 (oH [oM 14 12,oIa 15 3 10 12,oLt 16 3 15,oP 7 (.alloc [.int .i64 0,.int .i64 0,.str []]),oM 6 14,oSt 3 7 16] (oH [oFa 17 0 7,oLf 18 17,oBk 19 .eql 18 0,oM 20 19,ota 21 1 2 20,otl 22 21 20,otm 23 6 20,oti 24 6 22 23 20,ota 25 2 24 20,otl 26 25 20,oPa 27 20 26] (oQ 27 (oG [oM 28 5,oM 29 6,oFa 30 1 2,oLf 31 30,oM 32 6,oIa 33 6 31 32,oFa 34 3 33,oLt 35 3 34,oIa 36 3 28 29,oSt 3 36 35]) .skip)))) (oG [oBk 37 .add 12 1,oM 12 37]))))))) (oH [oM 38 5,oM 4 38] .ret))))⟩
theorem je7 : wc Tryz.prog [2] 143 = some wic := by kernel_rfl
def wha : AFn := ⟨14,[.t 4],(oH [oBx 2 0,oMi 4 0] (oS (.block 0 (oH [oLt 6 6 2,oM 7 1,oC 8 210 [.t 6,.t 7],oM 5 8] (oQ 5 (oH [oMi 4 2] .ret) (oH [oLt 10 6 2,oM 11 1,oC 12 211 [.t 10,.t 11],oUn 13 12,oM 9 13] (oQ 9 (oH [oMi 4 3] .ret) .skip))))) (oH [oMi 4 0] .ret)))⟩
theorem wec : wc Tryz.prog [2] 144 = some wha := by kernel_rfl
def jcu : AFn := ⟨63,[.t 12],(oH [oMi 12 0] (oS (oD [[oM 17 0,oNc 18 17,oFa 19 0 18,oLf 20 19,oM 21 1,oIa 22 6 20 21,oLt 23 6 22,oM 24 0,oNc 25 24,oFa 26 1 25,oLf 27 26,oM 28 1,oIa 29 1 27 28,oFa 30 0 29,oLf 31 30,oM 32 2,oM 33 3],[oC 34 212 [.t 23,.t 31,.t 32,.t 33]],[oM 13 34]]) (oS (oH [oM 35 13,oLn 36 35,oBk 37 .gtr 36 0,oM 38 37,otm 39 4 38,oT 40 (.un .not (.t 39)) 38,oPa 41 38 40] (oQ 41 (oH [oMi 12 4] .ret) .skip)) (oS (oH [oM 42 13,oLn 43 42,oMi 44 0] (.block 0 (.loop (oH [oBt 45 .lss 44 43] (oS (oQ 45 .skip (.exit 0)) (oS (.block 1 (oH [oIa 46 1 42 44,oLf 47 46,oM 15 47] (oS (oH [oM 48 0,oM 49 1,oM 50 15,oC 51 69 [.t 48,.t 49,.t 50],oP 52 (.eq false false [.pt] (.t 51) (.k (.nilp)))] (oQ 52 (.exit 1) .skip)) (oH [oM 53 0,oM 54 1,oM 55 15,oM 56 5,oBk 57 .add 56 1,oC 58 51 [.t 53,.t 54,.t 55,.t 57],oM 16 58] (oH [oM 59 16,oBk 60 .neq 59 0] (oQ 60 (oH [oM 61 16,oM 12 61] .ret) .skip)))))) (oG [oBk 62 .add 44 1,oM 44 62]))))))) (oH [oMi 12 0] .ret)))))⟩
theorem jb0 : wc Tryz.prog [] 145 = some jcu := by kernel_rfl
def jdp : AFn := ⟨26,[.t 4],(oH [oMb 4 false] (oS (oH [oM 6 0,oLn 7 6,oM 8 1,oLn 9 8,oBt 10 .neq 7 9] (oQ 10 (oH [oMb 4 false] .ret) .skip)) (oS (oH [oM 11 0,oLn 12 11,oMi 13 0] (.block 0 (.loop (oH [oBt 14 .lss 13 12] (oS (oQ 14 .skip (.exit 0)) (oS (.block 1 (oH [oM 15 13,oM 5 15] (oS (oD [[oM 16 0,oM 17 5,oIa 18 3 16 17,oLt 19 3 18,oM 20 1,oM 21 5,oIa 22 3 20 21,oLt 23 3 22],[oP 24 (.eq true true [.i,.i,.s] (.t 19) (.t 23))]]) (oQ 24 (oH [oMb 4 false] .ret) .skip)))) (oG [oBk 25 .add 13 1,oM 13 25]))))))) (oH [oMb 4 true] .ret))))⟩
theorem zce : wc Tryz.prog [] 146 = some jdp := by kernel_rfl
def we7 : AFn := ⟨15,[.t 10],(oH [oBx 5 0,oBx 6 1,oBx 7 2,oBx 8 3,oBx 9 4,oMb 10 false] (oH [oFa 11 5 7,oLf 12 11,oP 13 (.mkfn 213 [] [.t 9,.t 5,.t 6,.t 8]),oC 14 195 [.t 12,.t 13],oM 10 14] .ret))⟩
theorem jc4 : wc Tryz.prog [5, 6, 7, 8, 9] 147 = some we7 := by kernel_rfl
def zid : AFn := ⟨17,[.t 2],(oH [oBx 1 0,oMi 2 0] (oH [oFa 4 0 1,oLf 5 4,oLn 6 5,oM 3 6] (oS (oH [oM 7 3,oBk 8 .eql 7 0] (oQ 8 (oH [oMi 2 1] .ret) .skip)) (oH [oFa 9 0 1,oLf 10 9,oM 11 3,oBk 12 .sub 11 1,oIa 13 2 10 12,oFa 14 0 13,oLf 15 14,oBk 16 .add 15 1,oM 2 16] .ret))))⟩
theorem ze8 : wc Tryz.prog [1] 148 = some zid := by kernel_rfl
def wc4 : AFn := ⟨25,[.t 4],(oH [oMi 4 0] (oH [oM 6 0,oNc 7 6,oFa 8 1 7,oLf 9 8,oM 10 1,oIa 11 1 9 10,oFa 12 0 11,oLf 13 12,oM 5 13] (oS (oH [oM 14 5,oLn 15 14,oBk 16 .eql 15 0] (oQ 16 (oH [oMi 4 1] .ret) .skip)) (oH [oM 17 5,oM 18 5,oLn 19 18,oBk 20 .sub 19 1,oIa 21 2 17 20,oFa 22 0 21,oLf 23 22,oBk 24 .add 23 1,oM 4 24] .ret))))⟩
theorem zb9 : wc Tryz.prog [] 149 = some wc4 := by kernel_rfl
def zi4 : AFn := ⟨12,[.t 4],(oH [oBx 2 0,oMi 4 0] (oH [oFa 5 1 2,oLf 6 5,oM 7 1,oC 8 19 [.t 6,.t 7],oM 1 8] (oS (oH [oM 9 1,oBk 10 .lss 9 0] (oQ 10 (oH [oMi 4 (-1)] .ret) .skip)) (oH [oM 11 1,oM 4 11] .ret))))⟩
theorem wf3 : wc Tryz.prog [2] 150 = some zi4 := by kernel_rfl
def ji4 : AFn := ⟨12,[.t 4],(oH [oBx 2 0,oMi 4 0] (oH [oFa 5 2 2,oLt 6 3 5,oM 7 1,oC 8 62 [.t 6,.t 7],oM 1 8] (oS (oH [oM 9 1,oBk 10 .lss 9 0] (oQ 10 (oH [oMi 4 (-1)] .ret) .skip)) (oH [oM 11 1,oM 4 11] .ret))))⟩
theorem zf4 : wc Tryz.prog [2] 151 = some ji4 := by kernel_rfl
def wi4 : AFn := ⟨12,[.t 4],(oH [oBx 2 0,oMi 4 0] (oH [oFa 5 1 2,oLf 6 5,oM 7 1,oC 8 76 [.t 6,.t 7],oM 1 8] (oS (oH [oM 9 1,oBk 10 .lss 9 0] (oQ 10 (oH [oMi 4 (-1)] .ret) .skip)) (oH [oM 11 1,oM 4 11] .ret))))⟩
theorem jf4 : wc Tryz.prog [2] 152 = some wi4 := by kernel_rfl
def wf4 : AFn := ⟨115,[.t 2],(oH [oMb 2 false] (oS (oH [oMi 3 0] (.block 0 (.loop (oS (oH [oM 9 3,oM 10 0,oLn 11 10,oBt 12 .lss 9 11] (oQ 12 .skip (.exit 0))) (oS (.block 1 (oS (oD [[oM 15 0,oM 16 3],[oIa 17 6 15 16],[oLt 18 6 17],[oC 19 215 [.t 18]],[oUn 20 19],[oM 21 20],[ofm 22 0 21,ofm 23 3 21,oF 24 (.slice 6 (.t 22) none (some (.t 23)) none) 21,ofm 25 0 21,ofm 26 3 21,ofi 27 6 25 26 21,ofa 28 0 27 21,ofl 29 28 21],[ofc 30 94 [.t 24,.t 29] 21],[oF 31 (.bin .geq (.t 30) (kI 0)) 21],[oPo 32 21 31]]) (oQ 32 (oH [oMb 2 false] .ret) .skip))) (oG [oM 13 3,oBk 14 .add 13 1,oM 3 14])))))) (oS (oH [oMi 4 0] (.block 2 (.loop (oS (oH [oM 33 4,oM 34 0,oLn 35 34,oBt 36 .lss 33 35] (oQ 36 .skip (.exit 2))) (oS (.block 3 (oH [oMi 5 0] (.block 4 (.loop (oS (oH [oM 39 5,oM 40 0,oM 41 4,oIa 42 6 40 41,oFa 43 5 42,oLf 44 43,oLn 45 44,oBt 46 .lss 39 45] (oQ 46 .skip (.exit 4))) (oS (.block 5 (oH [oM 49 0,oM 50 4,oIa 51 6 49 50,oFa 52 5 51,oLf 53 52,oM 54 5,oIa 55 5 53 54,oLt 56 5 55,oP 6 (.alloc [.nils,.str [],.int .i64 0,.int .i64 0,.bool false]),oSt 5 6 56] (oH [oM 57 0,oFa 58 1 6,oLf 59 58,oC 60 94 [.t 57,.t 59],oM 7 60] (oS (oS (oD [[oM 61 7],[oBk 62 .lss 61 0],[oM 63 62],[ofm 64 0 63,ofm 65 7 63,ofi 66 6 64 65 63,ofa 67 2 66 63,ofl 68 67 63,oF 69 (.len false (.t 68)) 63,ofa 70 0 6 63,ofl 71 70 63,oF 72 (.len false (.t 71)) 63],[oF 73 (.bin .neq (.t 69) (.t 72)) 63],[oPo 74 63 73]]) (oQ 74 (oH [oMb 2 false] .ret) .skip)) (oH [oMi 8 0] (.block 6 (.loop (oS (oH [oM 75 8,oFa 76 0 6,oLf 77 76,oLn 78 77,oBt 79 .lss 75 78] (oQ 79 .skip (.exit 6))) (oS (.block 7 (oS (oD [[oM 82 0,oM 83 4,oIa 84 6 82 83,oFa 85 1 84,oLf 86 85,oFa 87 0 6,oLf 88 87,oM 89 8,oIa 90 1 88 89,oLf 91 90,oIa 92 6 86 91,oFa 93 1 92,oLf 94 93,oM 95 0,oM 96 7,oIa 97 6 95 96,oFa 98 1 97,oLf 99 98,oM 100 0,oM 101 7,oIa 102 6 100 101,oFa 103 2 102,oLf 104 103,oM 105 8,oIa 106 1 104 105,oLf 107 106,oIa 108 6 99 107,oFa 109 1 108,oLf 110 109],[oBt 111 .neq 94 110]]) (oQ 111 (oH [oMb 2 false] .ret) .skip))) (oG [oM 80 8,oBk 81 .add 80 1,oM 8 81])))))))))) (oG [oM 47 5,oBk 48 .add 47 1,oM 5 48]))))))) (oG [oM 37 4,oBk 38 .add 37 1,oM 4 38])))))) (oH [oM 112 0,oLn 113 112,oBk 114 .leq 113 5,oM 2 114] .ret))))⟩
theorem wdp : wc Tryz.prog [] 153 = some wf4 := by kernel_rfl
def jjx : AFn := ⟨71,[.t 4],(oH [oMb 4 false] (oS (oH [oM 8 1,oLn 9 8,oM 10 0,oLn 11 10,oBt 12 .neq 9 11] (oQ 12 (oH [oMb 4 false] .ret) .skip)) (oS (oH [oMi 5 0] (.block 0 (.loop (oS (oH [oM 13 5,oM 14 1,oLn 15 14,oBt 16 .lss 13 15] (oQ 16 .skip (.exit 0))) (oS (.block 1 (oH [oM 19 1,oM 20 5,oIa 21 1 19 20,oFa 22 0 21,oLf 23 22,oM 6 23] (oS (oH [oMi 7 0] (.block 2 (.loop (oS (oH [oM 24 7,oM 25 6,oLn 26 25,oBt 27 .lss 24 26] (oQ 27 .skip (.exit 2))) (oS (.block 3 (oS (oD [[oM 30 6,oM 31 7],[oIa 32 2 30 31],[oFa 33 0 32],[oLf 34 33],[oC 35 97 [.t 34,(kI 1),(kI 1000000000)]],[oUn 36 35],[oM 37 36],[ofm 38 7 37],[oF 39 (.bin .gtr (.t 38) (kI 0)) 37],[ofm 40 39 37],[otm 41 6 40,otm 42 7 40,oT 43 (.bin .sub (.t 42) (kI 1)) 40,oti 44 2 41 43 40,ota 45 0 44 40,otl 46 45 40,otm 47 6 40,otm 48 7 40,oti 49 2 47 48 40,ota 50 0 49 40,otl 51 50 40],[oT 52 (.bin .geq (.t 46) (.t 51)) 40],[oF 53 (.pick (.t 40) (.t 52) (.k (.bool false))) 37],[oPo 54 37 53],[oM 55 54],[ofm 56 0 55,ofm 57 5 55,ofi 58 6 56 57 55,oF 59 (.load true 6 (.t 58)) 55,ofm 60 6 55,ofm 61 7 55,ofi 62 2 60 61 55,ofa 63 1 62 55,ofl 64 63 55],[ofc 65 63 [.t 59,.t 64] 55],[oF 66 (.un .not (.t 65)) 55],[oPo 67 55 66]]) (oQ 67 (oH [oMb 4 false] .ret) .skip))) (oG [oM 28 7,oBk 29 .add 28 1,oM 7 29])))))) (oH [oM 68 6,oLn 69 68,oBk 70 .gtr 69 60] (oQ 70 (oH [oMb 4 false] .ret) .skip))))) (oG [oM 17 5,oBk 18 .add 17 1,oM 5 18])))))) (oH [oMb 4 true] .ret))))⟩
theorem zhb : wc Tryz.prog [] 154 = some jjx := by kernel_rfl
def jid : AFn := ⟨38,[.t 4],(oH [oMb 4 false] (oH [oMi 5 0] (oS (oH [oMi 6 0] (.block 0 (.loop (oS (oH [oM 8 6,oM 9 0,oLn 10 9,oBt 11 .lss 8 10] (oQ 11 .skip (.exit 0))) (oS (.block 1 (oH [oM 14 0,oM 15 6,oIa 16 5 14 15,oLt 17 5 16,oM 18 1,oC 19 216 [.t 17,.t 18],oM 7 19] (oS (oH [oM 20 7,oBk 21 .lss 20 0,oM 22 21,ofm 23 7 22,ofm 24 5 22,oF 25 (.bin .gtr (.t 23) (.t 24)) 22,oPo 26 22 25] (oQ 26 (oH [oMb 4 false] .ret) .skip)) (oG [oM 27 5,oM 28 7,oBt 29 .sub 27 28,oBk 30 .add 29 1,oM 5 30])))) (oG [oM 12 6,oBk 13 .add 12 1,oM 6 13])))))) (oH [oM 31 5,oBk 32 .eql 31 1,oM 33 32,otm 34 0 33,oT 35 (.len false (.t 34)) 33,oT 36 (.bin .leq (.t 35) (kI 24)) 33,oPa 37 33 36,oM 4 37] .ret))))⟩
theorem je8 : wc Tryz.prog [] 155 = some jid := by kernel_rfl
def zi5 : AFn := ⟨85,[.t 12,.t 13],(oH [oBx 9 3,oP 12 (.mv (.k (.nils))),oMi 13 0] (oH [oFa 21 5 9,oLf 22 21,oBk 23 .eql 22 3,oM 14 23] (oS (oH [oFa 24 0 9,oLf 25 24] (.block 0 (oH [oBk 27 .eql 25 1,oM 26 27] (oQ 26 (oH [oM 29 0,oM 30 1,oM 31 2,oM 32 5,oM 33 14,oC 34 72 [.t 29,.t 30,.t 31,.t 32,.t 33],oM 28 34,oEx 35 28 0,oEx 36 28 1,oEx 37 28 2,oM 15 35,oM 16 36,oM 17 37] (oH [oM 38 15,oM 39 17,oM 12 38,oM 13 39] .ret)) (oH [oBk 41 .eql 25 3,oM 40 41] (oQ 40 (oH [oM 42 0,oM 43 1,oM 44 2,oM 45 4,oC 46 44 [.t 42,.t 43,.t 44,.t 45,(kI 0)],oEx 47 46 0,oEx 48 46 1,oM 12 47,oM 13 48] .ret) .skip)))))) (oH [oM 49 1,oM 50 2,oIa 51 1 49 50,oLt 52 1 51,oM 53 4,oC 54 42 [.t 52,.t 53],oM 18 54] (oS (oD [[oM 56 0,oM 57 2,oIa 58 6 56 57,oLt 59 6 58,oM 60 1,oM 61 2,oIa 62 1 60 61,oFa 63 0 62,oLf 64 63,oM 65 18,oIa 66 2 64 65,oFa 67 1 66,oLf 68 67,oFa 69 4 9,oLf 70 69],[oC 71 217 [.t 59,.t 68,.t 70]],[oM 55 71],[oEx 72 55 0,oEx 73 55 1,oM 19 72],[oM 20 73]]) (oS (oH [oM 74 20,oUn 75 74] (oQ 75 (oH [oP 12 (.mv (.k (.nils))),oMi 13 8] .ret) .skip)) (oH [oM 76 0,oM 77 1,oM 78 2,oM 79 4,oM 80 19,oM 81 14,oC 82 64 [.t 76,.t 77,.t 78,.t 79,.t 80,.t 81,(kI 0)],oEx 83 82 0,oEx 84 82 1,oM 12 83,oM 13 84] .ret)))))))⟩
theorem jce : wc Tryz.prog [9] 156 = some zi5 := by kernel_rfl
def ji5 : AFn := ⟨12,[.m 2 true 2],(oH [oBx 1 0,oP 2 (.alloc [.int .i64 0,.nils])] (oH [oP 3 (.alloc [.int .i64 0,.nils])] (oH [oFa 4 0 1,oLf 5 4,oFa 6 0 3,oSt 1 6 5] (oH [oFa 7 1 1,oLf 8 7,oC 9 21 [.t 8],oFa 10 1 3,oSt 1 10 9] (oH [oLt 11 2 3,oSt 2 2 11] .ret)))))⟩
theorem zf5 : wc Tryz.prog [1] 157 = some ji5 := by kernel_rfl
def wi5 : AFn := ⟨15,[.m 2 true 5],(oH [oBx 1 0,oP 2 (.alloc [.int .i64 0,.int .i64 0,.int .i64 0,.int .i64 0,.str []])] (oH [oP 3 (.alloc [.int .i64 0,.int .i64 0,.int .i64 0,.int .i64 0,.str []])] (oH [oFa 4 0 1,oLf 5 4,oFa 6 0 3,oSt 1 6 5] (oH [oFa 7 1 1,oLf 8 7,oFa 9 1 3,oSt 1 9 8] (oH [oFa 10 2 1,oLt 11 3 10,oC 12 66 [.t 11],oFa 13 2 3,oSt 3 13 12] (oH [oLt 14 5 3,oSt 5 2 14] .ret))))))⟩
theorem jf5 : wc Tryz.prog [1] 158 = some wi5 := by kernel_rfl
def zi6 : AFn := ⟨12,[.m 2 true 2],(oH [oBx 1 0,oP 2 (.alloc [.int .i64 0,.nils])] (oH [oP 3 (.alloc [.int .i64 0,.nils])] (oH [oFa 4 0 1,oLf 5 4,oFa 6 0 3,oSt 1 6 5] (oH [oFa 7 1 1,oLf 8 7,oC 9 82 [.t 8],oFa 10 1 3,oSt 1 10 9] (oH [oLt 11 2 3,oSt 2 2 11] .ret)))))⟩
theorem wf5 : wc Tryz.prog [1] 159 = some zi6 := by kernel_rfl
def jhb : AFn := ⟨8,[.t 4],(oH [oBx 3 1,oMi 4 0] (oH [oM 5 0,oP 6 (.mkfn 219 [] [.t 3]),oC 7 218 [.t 5,.t 6],oM 4 7] .ret))⟩
theorem zed : wc Tryz.prog [3] 160 = some jhb := by kernel_rfl
def zdq : AFn := ⟨38,[.t 2],(oH [oBx 1 0,oMb 2 false] (oS (oH [oFa 3 0 1,oLf 4 3] (.block 0 (oH [oBk 6 .eql 4 1,oM 5 6] (oQ 5 (oH [oFa 7 3 1,oLf 8 7,oLn 9 8,oBk 10 .eql 9 0,oM 11 10,ota 12 4 1 11,otl 13 12 11,oT 14 (.len false (.t 13)) 11,oT 15 (.bin .eql (.t 14) (kI 0)) 11,oPa 16 11 15,oM 2 16] .ret) (oH [oBk 18 .eql 4 2,oM 17 18] (oQ 17 (oH [oFa 19 2 1,oLf 20 19,oLn 21 20,oBk 22 .eql 21 0,oM 2 22] .ret) .skip)))))) (oH [oFa 23 0 1,oLf 24 23,oBk 25 .eql 24 3,oM 26 25,ota 27 2 1 26,otl 28 27 26,oT 29 (.len false (.t 28)) 26,oT 30 (.bin .eql (.t 29) (kI 0)) 26,oPa 31 26 30,oM 32 31,ota 33 4 1 32,otl 34 33 32,oT 35 (.len false (.t 34)) 32,oT 36 (.bin .eql (.t 35) (kI 0)) 32,oPa 37 32 36,oM 2 37] .ret)))⟩
theorem wce : wc Tryz.prog [1] 161 = some zdq := by kernel_rfl
def wbo : AFn := ⟨9,[.t 4],(oH [oMb 4 false] (oH [oM 5 0,oM 6 1,oC 7 141 [.t 5,.t 6],oBk 8 .geq 7 0,oM 4 8] .ret))⟩
theorem zbc : wc Tryz.prog [] 162 = some wbo := by kernel_rfl
def zf6 : AFn := ⟨14,[.t 3],(oH [oBx 2 0,oMb 3 false] (oH [oFa 4 0 2,oLf 5 4,oBk 6 .neq 5 0,oM 7 6,oF 8 (.load true 6 (.t 1)) 7,ofa 9 1 2 7,ofl 10 9 7,ofc 11 67 [.t 8,.t 10] 7,oF 12 (.un .not (.t 11)) 7,oPo 13 7 12,oM 3 13] .ret))⟩
theorem jdq : wc Tryz.prog [2] 163 = some zf6 := by kernel_rfl
def whb : AFn := ⟨13,[.t 4],(oH [oMb 4 false] (oH [oM 5 0,oLn 6 5,oBk 7 .eql 6 0,oM 8 7,ofm 9 0 8,ofm 10 1 8,ofc 11 220 [.t 9,.t 10] 8,oPo 12 8 11,oM 4 12] .ret))⟩
theorem jed : wc Tryz.prog [] 164 = some whb := by kernel_rfl
def zhc : AFn := ⟨35,[.t 4],(oH [oMb 4 false] (oS (oH [oM 7 0,oLn 8 7,oMi 9 0] (.block 0 (.loop (oH [oBt 10 .lss 9 8] (oS (oQ 10 .skip (.exit 0)) (oS (.block 1 (oH [oM 11 9,oIa 12 2 7 9,oLt 13 2 12,oP 6 (.alloc [.int .i64 0,.nils]),oM 5 11,oSt 2 6 13] (oH [oFa 14 0 6,oLf 15 14,oM 16 1,oBk 17 .sub 16 1,oC 18 121 [.t 15,(kI 0),.t 17],oUn 19 18,oM 20 19,ofa 21 1 6 20,ofl 22 21 20,ofm 23 1 20,ofc 24 220 [.t 22,.t 23] 20,oF 25 (.un .not (.t 24)) 20,oPo 26 20 25,oM 27 26,ofm 28 0 27,ofm 29 5 27,oF 30 (.slice 2 (.t 28) none (some (.t 29)) none) 27,oF 31 (.mkfn 222 [] [.t 6]) 27,ofc 32 221 [.t 30,.t 31] 27,oPo 33 27 32] (oQ 33 (oH [oMb 4 false] .ret) .skip)))) (oG [oBk 34 .add 9 1,oM 9 34]))))))) (oH [oMb 4 true] .ret)))⟩
theorem wed : wc Tryz.prog [] 165 = some zhc := by kernel_rfl
def we8 : AFn := ⟨67,[.t 8,.t 9],(oH [oBx 4 0,oBx 5 1,oBx 7 3,oP 8 (.mv (.k (.nils))),oMb 9 false] (oH [oLf 19 5,oFa 20 1 4,oLf 21 20,oC 22 160 [.t 19,.t 21],oP 10 (.alloc [.int .i64 0]),oSt 1 10 22] (oH [oFa 23 5 4,oLf 24 23,oBk 25 .eql 24 3,oP 26 (.mksl false 1 0 [.nilf] []),oP 11 (.alloc [.bool false]),oSt 1 11 25,oM 12 26] (oS (oH [oFa 27 0 4,oLf 28 27,oBk 29 .eql 28 1] (oQ 29 (oS (oH [oFa 30 2 4,oLf 31 30,oLn 32 31,oMi 33 0] (.block 0 (.loop (oH [oBt 34 .lss 33 32] (oS (oQ 34 .skip (.exit 0)) (oS (.block 1 (oH [oIa 35 2 31 33,oLt 36 2 35,oP 14 (.alloc [.int .i64 0,.nils]),oSt 2 14 36] (oG [oM 37 12,oP 38 (.mkfn 223 [] [.t 10,.t 14,.t 11,.t 7]),oP 39 (.mksl true 1 1 [.nilf] [(0,(.t 38))]),oP 40 (.app 1 8 (.t 37) (.t 39)),oM 12 40]))) (oG [oBk 41 .add 33 1,oM 33 41]))))))) (oH [oM 42 12,oM 8 42,oMb 9 true] .ret)) .skip)) (oS (oD [[oM 44 2,oLf 45 10,oIa 46 1 44 45,oFa 47 0 46,oLf 48 47,oFa 49 3 4,oLf 50 49],[oC 51 224 [.t 48,.t 50]],[oM 43 51],[oEx 52 43 0,oEx 53 43 1,oM 15 52],[oM 16 53]]) (oS (oH [oM 54 15,oLn 55 54,oMi 56 0] (.block 2 (.loop (oH [oBt 57 .lss 56 55] (oS (oQ 57 .skip (.exit 2)) (oS (.block 3 (oH [oIa 58 1 54 56,oLf 59 58,oP 18 (.alloc [.int .i64 0]),oSt 1 18 59] (oG [oM 60 12,oP 61 (.mkfn 225 [] [.t 10,.t 18,.t 4,.t 5,.t 11,.t 7]),oP 62 (.mksl true 1 1 [.nilf] [(0,(.t 61))]),oP 63 (.app 1 8 (.t 60) (.t 62)),oM 12 63]))) (oG [oBk 64 .add 56 1,oM 56 64]))))))) (oH [oM 65 12,oM 66 16,oM 8 65,oM 9 66] .ret)))))))⟩
theorem jbi : wc Tryz.prog [4, 5, 7, 39, 62] 166 = some we8 := by kernel_rfl
def wdq : AFn := ⟨20,[.t 4],(oH [oBx 2 0,oMb 4 false] (oH [oFa 5 5 2,oLf 6 5,oBk 7 .eql 6 2,oM 8 7,otm 9 1 8,oT 10 (.bin .eql (.t 9) (kI 2)) 8,otm 11 10 8,ofm 12 1 11,oF 13 (.bin .eql (.t 12) (kI 3)) 11,oT 14 (.pick (.t 11) (.k (.bool true)) (.t 13)) 8,otm 15 14 8,ofm 16 1 15,oF 17 (.bin .eql (.t 16) (kI 4)) 15,oT 18 (.pick (.t 15) (.k (.bool true)) (.t 17)) 8,oPa 19 8 18,oM 4 19] .ret))⟩
theorem zcf : wc Tryz.prog [2] 167 = some wdq := by kernel_rfl
def ji6 : AFn := ⟨16,[.t 4],(oH [oBx 2 0,oBx 3 1,oMb 4 false] (oS (oH [oFa 5 0 2,oLf 6 5,oFa 7 0 3,oLf 8 7,oBt 9 .neq 6 8] (oQ 9 (oH [oMb 4 false] .ret) .skip)) (oS (oH [oFa 10 1 2,oLf 11 10,oFa 12 1 3,oLf 13 12,oC 14 23 [.t 11,.t 13],oUn 15 14] (oQ 15 (oH [oMb 4 false] .ret) .skip)) (oH [oMb 4 true] .ret))))⟩
theorem jf6 : wc Tryz.prog [2, 3] 168 = some ji6 := by kernel_rfl
def wi6 : AFn := ⟨21,[.t 4],(oH [oBx 2 0,oBx 3 1,oMb 4 false] (oS (oH [oFa 5 0 2,oLf 6 5,oFa 7 0 3,oLf 8 7,oBt 9 .neq 6 8] (oQ 9 (oH [oMb 4 false] .ret) .skip)) (oS (oH [oFa 10 1 2,oLf 11 10,oFa 12 1 3,oLf 13 12,oBt 14 .neq 11 13] (oQ 14 (oH [oMb 4 false] .ret) .skip)) (oS (oH [oFa 15 2 2,oLt 16 3 15,oFa 17 2 3,oLt 18 3 17,oC 19 71 [.t 16,.t 18],oUn 20 19] (oQ 20 (oH [oMb 4 false] .ret) .skip)) (oH [oMb 4 true] .ret)))))⟩
theorem wf6 : wc Tryz.prog [2, 3] 169 = some wi6 := by kernel_rfl
def zi7 : AFn := ⟨16,[.t 4],(oH [oBx 2 0,oBx 3 1,oMb 4 false] (oS (oH [oFa 5 0 2,oLf 6 5,oFa 7 0 3,oLf 8 7,oBt 9 .neq 6 8] (oQ 9 (oH [oMb 4 false] .ret) .skip)) (oS (oH [oFa 10 1 2,oLf 11 10,oFa 12 1 3,oLf 13 12,oC 14 88 [.t 11,.t 13],oUn 15 14] (oQ 15 (oH [oMb 4 false] .ret) .skip)) (oH [oMb 4 true] .ret))))⟩
theorem zf7 : wc Tryz.prog [2, 3] 170 = some zi7 := by kernel_rfl
def jhc : AFn := ⟨27,[.t 4],(oH [oMi 4 0] (oH [oM 10 0,oM 11 1,oC 12 228 [.t 10,.t 11],oM 9 12,oEx 13 9 0,oEx 14 9 1,oP 5 (.alloc [.int .i64 0,.int .i64 0,.str []]),oSt 3 5 13,oM 6 14] (oH [oLt 16 3 5,oC 17 229 [.t 16],oM 15 17,oEx 18 15 0,oEx 19 15 1,oM 7 18,oM 8 19] (oS (oH [oM 20 6,oUn 21 20,oM 22 21,ofm 23 8 22,oF 24 (.un .not (.t 23)) 22,oPo 25 22 24] (oQ 25 (oH [oMi 4 (-1)] .ret) .skip)) (oH [oM 26 7,oM 4 26] .ret)))))⟩
theorem zee : wc Tryz.prog [] 173 = some jhc := by kernel_rfl
def wjx : AFn := ⟨57,[.m 4 true 3,.t 5],(oH [oP 4 (.alloc [.int .i64 0,.int .i64 0,.str []]),oMb 5 false] (oS (oH [oM 12 1,oC 13 236 [.t 12,(kI 16)],oUn 14 13,oM 15 14,ofm 16 0 15,ofm 17 1 15,oF 18 (.len false (.t 17)) 15,ofc 19 220 [.t 16,.t 18] 15,oF 20 (.un .not (.t 19)) 15,oPo 21 15 20] (oQ 21 (oH [oP 22 (.build [.int .i64 0,.int .i64 0,.str []] []),oSt 3 4 22,oMb 5 false] .ret) .skip)) (oH [oP 23 (.mksl false 3 0 [.int .i64 0,.int .i64 0,.str []] []),oM 6 23] (oS (oH [oM 24 0,oLn 25 24,oMi 26 0] (.block 0 (.loop (oH [oBt 27 .lss 26 25] (oS (oQ 27 .skip (.exit 0)) (oS (.block 1 (oH [oIa 28 5 24 26,oLt 29 5 28,oP 8 (.alloc [.int .i64 0,.int .i64 0,.int .i64 0,.int .i64 0,.str []]),oSt 5 8 29] (oH [oM 30 6,oLn 31 30,oLt 32 5 8,oC 33 237 [.t 32],oBt 34 .sub 31 33,oM 9 34] (oS (oD [[oLt 36 5 8,oM 37 6,oM 38 9,oP 39 (.slice 3 (.t 37) (some (.t 38)) none none),oM 40 1,oC 41 238 [.t 36,.t 39,.t 40],oM 35 41,oEx 42 35 0,oEx 43 35 1,oP 10 (.alloc [.int .i64 0,.int .i64 0,.str []]),oSt 3 10 42],[oM 11 43]]) (oS (oH [oM 44 11,oUn 45 44] (oQ 45 (oH [oP 46 (.build [.int .i64 0,.int .i64 0,.str []] []),oSt 3 4 46,oMb 5 false] .ret) .skip)) (oD [[oM 47 6,oM 48 9,oP 49 (.slice 3 (.t 47) none (some (.t 48)) none),oLt 50 3 10,oP 51 (.mksl true 3 1 [.int .i64 0,.int .i64 0,.str []] [(0,(.t 50))])],[oP 52 (.app 3 32 (.t 49) (.t 51))],[oM 6 52]])))))) (oG [oBk 53 .add 26 1,oM 26 53]))))))) (oH [oM 54 6,oP 55 (.iaddr 3 (.t 54) (kI 0)),oLt 56 3 55,oSt 3 4 56,oMb 5 true] .ret)))))⟩
theorem whc : wc Tryz.prog [51] 181 = some wjx := by kernel_rfl
def ji7 : AFn := ⟨19,[.t 4],(oH [oBx 2 0,oMi 4 0] (oH [oM 5 1,oFa 6 0 2,oLf 7 6,oP 8 (.len true (.t 7)),oBt 9 .sub 5 8,oM 1 9] (oS (oH [oM 10 1,oBk 11 .lss 10 0] (oQ 11 (oH [oMi 4 (-1)] .ret) .skip)) (oH [oFa 12 3 2,oLt 13 3 12,oM 14 1,oC 15 62 [.t 13,.t 14],oM 1 15] (oS (oH [oM 16 1,oBk 17 .lss 16 0] (oQ 17 (oH [oMi 4 (-1)] .ret) .skip)) (oH [oM 18 1,oM 4 18] .ret))))))⟩
theorem jf7 : wc Tryz.prog [2] 183 = some ji7 := by kernel_rfl
def wf7 : AFn := ⟨12,[.t 4],(oH [oBx 2 0,oMi 4 0] (oH [oFa 5 0 2,oLf 6 5,oM 7 1,oC 8 106 [.t 6,.t 7],oM 1 8] (oS (oH [oM 9 1,oBk 10 .lss 9 0] (oQ 10 (oH [oMi 4 (-1)] .ret) .skip)) (oH [oM 11 1,oM 4 11] .ret))))⟩
theorem zdr : wc Tryz.prog [2] 184 = some wf7 := by kernel_rfl
def zhd : AFn := ⟨12,[.t 4],(oH [oBx 2 0,oMi 4 0] (oH [oFa 5 0 2,oLf 6 5,oM 7 1,oC 8 76 [.t 6,.t 7],oM 1 8] (oS (oH [oM 9 1,oBk 10 .lss 9 0] (oQ 10 (oH [oMi 4 (-1)] .ret) .skip)) (oH [oM 11 1,oM 4 11] .ret))))⟩
theorem jee : wc Tryz.prog [2] 185 = some zhd := by kernel_rfl
def zjy : AFn := ⟨19,[.t 4],(oH [oBx 2 0,oMi 4 0] (oH [oFa 5 0 2,oLf 6 5,oM 7 1,oC 8 106 [.t 6,.t 7],oM 1 8] (oS (oH [oM 9 1,oBk 10 .lss 9 0] (oQ 10 (oH [oMi 4 (-1)] .ret) .skip)) (oH [oM 11 1,oFa 12 1 2,oLf 13 12,oP 14 (.len true (.t 13)),oBt 15 .sub 11 14,oM 1 15] (oS (oH [oM 16 1,oBk 17 .lss 16 0] (oQ 17 (oH [oMi 4 (-1)] .ret) .skip)) (oH [oM 18 1,oM 4 18] .ret))))))⟩
theorem jhd : wc Tryz.prog [2] 186 = some zjy := by kernel_rfl
def wid : AFn := ⟨157,[.t 16,.t 17],(oH [oBx 11 3,oP 16 (.mv (.k (.nils))),oMi 17 0] (oS (oD [[oM 28 1,oM 29 2,oIa 30 1 28 29,oLt 31 1 30,oFa 32 2 11,oLf 33 32,oM 34 4],[oC 35 240 [.t 31,.t 33,.t 34]],[oM 18 35]]) (oS (oH [oMi 19 0] (.block 0 (.loop (oS (oH [oM 36 19,oM 37 18,oLn 38 37,oBt 39 .lss 36 38] (oQ 39 .skip (.exit 0))) (oS (.block 1 (oS (oD [[oM 42 1,oM 43 2,oIa 44 1 42 43,oLt 45 1 44,oM 46 18,oM 47 19,oIa 48 1 46 47,oLf 49 48],[oC 50 42 [.t 45,.t 49]],[oM 20 50]]) (oS (oH [oM 51 20,oBk 52 .lss 51 0] (oQ 52 (.exit 1) .skip)) (oH [oM 53 1,oM 54 2,oIa 55 1 53 54,oFa 56 0 55,oLf 57 56,oM 58 20,oIa 59 2 57 58,oLt 60 2 59,oP 21 (.alloc [.int .i64 0,.nils]),oSt 2 21 60] (oH [oFa 62 2 11,oLf 63 62,oFa 64 1 21,oLf 65 64,oC 66 110 [.t 63,.t 65],oM 61 66,oEx 67 61 0,oEx 68 61 1,oM 22 67,oM 23 68] (oS (oH [oM 69 23,oUn 70 69,oM 71 70,ofm 72 22 71,ofm 73 4 71,ofc 74 138 [.t 72,.t 73] 71,oF 75 (.un .not (.t 74)) 71,oPo 76 71 75] (oQ 76 (.exit 1) .skip)) (oH [oM 77 1,oM 24 77] (oH [oMi 25 0] (oS (.block 2 (oH [oFa 123 0 11,oLf 124 123,oBk 125 .eql 124 0,oM 126 125,ota 127 1 11 126,otl 128 127 126,oPa 129 126 128,oM 122 129] (oQ 122 .skip (oH [oFa 131 0 11,oLf 132 131,oBk 133 .eql 132 0,oM 130 133] (oQ 130 (oH [oP 16 (.mv (.k (.nils))),oMi 17 5] .ret) (oH [oFa 135 0 11,oLf 136 135,oBk 137 .eql 136 1,oM 138 137,otm 139 6 138,oPa 140 138 139,oM 134 140] (oQ 134 (oG [oM 142 0,oM 143 1,oM 144 2,oFa 145 0 21,oLf 146 145,oM 147 7,oBk 148 .add 147 1,oC 149 44 [.t 142,.t 143,.t 144,.t 146,.t 148],oM 141 149,oEx 150 141 0,oEx 151 141 1,oM 24 150,oM 25 151]) (oH [oFa 78 1 21,oLf 79 78,oC 80 65 [.t 79],oM 26 80] (oS (oH [oMi 27 0] (.block 3 (.loop (oS (oH [oM 81 27,oFa 82 2 11,oLf 83 82,oLn 84 83,oBt 85 .lss 81 84] (oQ 85 .skip (.exit 3))) (oS (.block 4 (oH [oM 88 26,oFa 89 2 11,oLf 90 89,oM 91 27,oIa 92 1 90 91,oLf 93 92,oP 94 (.build [.int .i64 0,.int .i64 0,.str []] []),oIa 95 3 88 93,oSt 3 95 94] (oH [oFa 96 0 11,oLf 97 96,oBk 98 .eql 97 1] (oQ 98 (oD [[oM 99 26,oFa 100 2 11,oLf 101 100,oM 102 27,oIa 103 1 101 102,oLf 104 103,oM 105 5,oM 106 27,oIa 107 3 105 106,oLt 108 3 107],[oIa 109 3 99 104],[oSt 3 109 108]]) .skip)))) (oG [oM 86 27,oBk 87 .add 86 1,oM 27 87])))))) (oG [oM 111 0,oM 112 1,oM 113 2,oFa 114 0 21,oLf 115 114,oM 116 26,oM 117 7,oBk 118 .add 117 1,oC 119 64 [.t 111,.t 112,.t 113,.t 115,.t 116,(.k (.bool false)),.t 118],oM 110 119,oEx 120 110 0,oEx 121 110 1,oM 24 120,oM 25 121])))))))))) (oS (oH [oM 152 25,oBk 153 .neq 152 0] (oQ 153 (oH [oM 154 25,oP 16 (.mv (.k (.nils))),oM 17 154] .ret) .skip)) (oG [oM 155 24,oM 1 155]))))))))))) (oG [oM 40 19,oBk 41 .add 40 1,oM 19 41])))))) (oH [oM 156 1,oM 16 156,oMi 17 0] .ret))))⟩
theorem ze9 : wc Tryz.prog [11] 187 = some wid := by kernel_rfl
def wi7 : AFn := ⟨18,[.m 2 true 6],(oH [oBx 1 0,oP 2 (.alloc [.str [],.int .i64 0,.bool false,.int .i64 0,.int .i64 0,.str []])] (oH [oP 3 (.alloc [.str [],.int .i64 0,.bool false,.int .i64 0,.int .i64 0,.str []])] (oH [oFa 4 0 1,oLf 5 4,oFa 6 0 3,oSt 1 6 5] (oH [oFa 7 1 1,oLf 8 7,oFa 9 1 3,oSt 1 9 8] (oH [oFa 10 2 1,oLf 11 10,oFa 12 2 3,oSt 1 12 11] (oH [oFa 13 3 1,oLt 14 3 13,oC 15 66 [.t 14],oFa 16 3 3,oSt 3 16 15] (oH [oLt 17 6 3,oSt 6 2 17] .ret)))))))⟩
theorem zf8 : wc Tryz.prog [1] 188 = some wi7 := by kernel_rfl
def jf8 : AFn := ⟨9,[.m 2 true 1],(oH [oBx 1 0,oP 2 (.alloc [.nils])] (oH [oP 3 (.alloc [.nils])] (oH [oFa 4 0 1,oLf 5 4,oC 6 115 [.t 5],oFa 7 0 3,oSt 1 7 6] (oH [oLt 8 1 3,oSt 1 2 8] .ret))))⟩
theorem jdr : wc Tryz.prog [1] 189 = some jf8 := by kernel_rfl
def whd : AFn := ⟨9,[.m 2 true 1],(oH [oBx 1 0,oP 2 (.alloc [.nils])] (oH [oP 3 (.alloc [.nils])] (oH [oFa 4 0 1,oLf 5 4,oC 6 82 [.t 5],oFa 7 0 3,oSt 1 7 6] (oH [oLt 8 1 3,oSt 1 2 8] .ret))))⟩
theorem wee : wc Tryz.prog [1] 190 = some whd := by kernel_rfl
def jjy : AFn := ⟨21,[.m 2 true 5],(oH [oBx 1 0,oP 2 (.alloc [.nils,.str [],.int .i64 0,.int .i64 0,.bool false])] (oH [oP 3 (.alloc [.nils,.str [],.int .i64 0,.int .i64 0,.bool false])] (oH [oFa 4 0 1,oLf 5 4,oC 6 115 [.t 5],oFa 7 0 3,oSt 1 7 6] (oH [oFa 8 1 1,oLf 9 8,oFa 10 1 3,oSt 1 10 9] (oH [oFa 11 2 1,oLf 12 11,oFa 13 2 3,oSt 1 13 12] (oH [oFa 14 3 1,oLf 15 14,oFa 16 3 3,oSt 1 16 15] (oH [oFa 17 4 1,oLf 18 17,oFa 19 4 3,oSt 1 19 18] (oH [oLt 20 5 3,oSt 5 2 20] .ret))))))))⟩
theorem zhe : wc Tryz.prog [1] 191 = some jjy := by kernel_rfl
def jhe : AFn := ⟨68,[.t 2],(oH [oBx 1 0,oMb 2 false] (oH [oFa 4 1 1,oLf 5 4,oLn 6 5,oP 3 (.alloc [.int .i64 0]),oSt 1 3 6] (oS (oH [oFa 7 0 1,oLf 8 7,oC 9 241 [.t 8],oUn 10 9,oM 11 10,ofa 12 1 1 11,ofl 13 12 11,ofc 14 242 [.t 13] 11,oF 15 (.un .not (.t 14)) 11,oPo 16 11 15,oM 17 16,ofa 18 2 1 17,ofl 19 18 17,ofl 20 3 17,ofc 21 243 [.t 19,.t 20] 17,oF 22 (.un .not (.t 21)) 17,oPo 23 17 22,oM 24 23,ofa 25 3 1 24,ofl 26 25 24,oF 27 (.len false (.t 26)) 24,oF 28 (.bin .gtr (.t 27) (kI 3)) 24,oPo 29 24 28,oM 30 29,ofa 31 4 1 30,ofl 32 31 30,oF 33 (.len false (.t 32)) 30,oF 34 (.bin .gtr (.t 33) (kI 3)) 30,oPo 35 30 34,oM 36 35,ofa 37 5 1 36,ofl 38 37 36,oF 39 (.len false (.t 38)) 36,oF 40 (.bin .gtr (.t 39) (kI 3)) 36,oPo 41 36 40] (oQ 41 (oH [oMb 2 false] .ret) .skip)) (oH [oFa 42 2 1,oLf 43 42,oP 44 (.mkfn 245 [] [.t 1]),oC 45 244 [.t 43,.t 44],oUn 46 45,oM 47 46,ota 48 3 1 47,otl 49 48 47,oT 50 (.mkfn 247 [] [.t 3]) 47,otc 51 246 [.t 49,.t 50] 47,oT 52 (.un .not (.t 51)) 47,oPa 53 47 52,oM 54 53,ota 55 4 1 54,otl 56 55 54,oT 57 (.mkfn 249 [] [.t 3]) 54,otc 58 248 [.t 56,.t 57] 54,oT 59 (.un .not (.t 58)) 54,oPa 60 54 59,oM 61 60,ota 62 5 1 61,otl 63 62 61,oT 64 (.mkfn 250 [] [.t 3]) 61,otc 65 195 [.t 63,.t 64] 61,oT 66 (.un .not (.t 65)) 61,oPa 67 61 66,oM 2 67] .ret))))⟩
theorem zef : wc Tryz.prog [1] 192 = some jhe := by kernel_rfl
def wbi : AFn := ⟨9,[.t 4],(oH [oMb 4 false] (oH [oM 5 0,oM 6 1,oC 7 218 [.t 5,.t 6],oBk 8 .geq 7 0,oM 4 8] .ret))⟩
theorem za8 : wc Tryz.prog [] 193 = some wbi := by kernel_rfl
def jef : AFn := ⟨8,[.t 3],(oH [oBx 2 0,oMb 3 false] (oH [oFa 4 5 2,oLf 5 4,oP 6 (.mkfn 196 [] [.t 1,.t 2]),oC 7 195 [.t 5,.t 6],oM 3 7] .ret))⟩
theorem wcu : wc Tryz.prog [2] 194 = some jef := by kernel_rfl
def jbu : AFn := ⟨9,[.t 4],(oH [oMb 4 false] (oH [oM 5 0,oM 6 1,oC 7 252 [.t 5,.t 6],oBk 8 .geq 7 0,oM 4 8] .ret))⟩
theorem w6 : wc Tryz.prog [] 195 = some jbu := by kernel_rfl
def zc5 : AFn := ⟨10,[.t 4],(oH [oBx 3 0,oMb 4 false] (oH [oLf 5 1,oLt 6 6 2,oLt 7 5 3,oC 8 197 [.t 5,.t 6,.t 7],oUn 9 8,oM 4 9] .ret))⟩
theorem jb9 : wc Tryz.prog [3] 196 = some zc5 := by kernel_rfl
def zi8 : AFn := ⟨60,[.t 6],(oH [oBx 4 1,oBx 5 2,oMb 6 false] (oH [oM 10 0,oFa 11 1 5,oLf 12 11,oC 13 160 [.t 10,.t 12],oM 7 13] (oS (oS (oD [[oM 14 7],[oBk 15 .lss 14 0],[oM 16 15],[ofm 17 0 16,ofm 18 7 16,ofi 19 6 17 18 16,ofa 20 2 19 16,ofl 21 20 16,oF 22 (.len false (.t 21)) 16,ofa 23 0 5 16,ofl 24 23 16,oF 25 (.len false (.t 24)) 16],[oF 26 (.bin .neq (.t 22) (.t 25)) 16],[oPo 27 16 26]]) (oQ 27 (oH [oMb 6 false] .ret) .skip)) (oS (oH [oFa 28 0 5,oLf 29 28,oLn 30 29,oMi 31 0] (.block 0 (.loop (oH [oBt 32 .lss 31 30] (oS (oQ 32 .skip (.exit 0)) (oS (.block 1 (oH [oM 33 31,oIa 34 1 29 31,oLf 35 34,oM 8 33,oM 9 35] (oS (oD [[oM 36 0,oM 37 7,oIa 38 6 36 37,oFa 39 1 38,oLf 40 39,oM 41 0,oM 42 7,oIa 43 6 41 42,oFa 44 2 43,oLf 45 44,oM 46 8,oIa 47 1 45 46,oLf 48 47,oIa 49 6 40 48,oFa 50 1 49,oLf 51 50,oFa 52 1 4,oLf 53 52,oM 54 9,oIa 55 6 53 54,oFa 56 1 55,oLf 57 56],[oBt 58 .neq 51 57]]) (oQ 58 (oH [oMb 6 false] .ret) .skip)))) (oG [oBk 59 .add 31 1,oM 31 59]))))))) (oH [oMb 6 true] .ret)))))⟩
theorem wf8 : wc Tryz.prog [4, 5] 197 = some zi8 := by kernel_rfl
def ji8 : AFn := ⟨29,[.t 6],(oH [oP 6 (.mv (.k (.nils)))] (oH [oP 10 (.mksl false 1 0 [.int .i64 0] []),oM 7 10] (oS (oH [oM 11 0,oLn 12 11,oMi 13 0] (.block 0 (.loop (oH [oBt 14 .lss 13 12] (oS (oQ 14 .skip (.exit 0)) (oS (.block 1 (oH [oIa 15 2 11 13,oLt 16 2 15,oP 9 (.alloc [.int .i64 0,.nils]),oSt 2 9 16] (oH [oM 17 1,oFa 18 1 9,oLf 19 18,oM 20 2,oC 21 199 [.t 17,.t 19,.t 20]] (oQ 21 (oG [oM 22 7,oFa 23 0 9,oLf 24 23,oP 25 (.mksl true 1 1 [.int .i64 0] [(0,(.t 24))]),oP 26 (.app 1 8 (.t 22) (.t 25)),oM 7 26]) .skip)))) (oG [oBk 27 .add 13 1,oM 13 27]))))))) (oH [oM 28 7,oM 6 28] .ret))))⟩
theorem jcf : wc Tryz.prog [25] 198 = some ji8 := by kernel_rfl
def zku : AFn := ⟨21,[.t 6],(oH [oMb 6 false] (oH [oM 10 0,oM 11 1,oC 12 123 [.t 10,.t 11],oM 9 12,oEx 13 9 0,oEx 14 9 1,oM 7 13,oM 8 14] (oH [oM 15 8,oM 16 15,otm 17 7 16,otm 18 2 16,otc 19 146 [.t 17,.t 18] 16,oPa 20 16 19,oM 6 20] .ret)))⟩
theorem zie : wc Tryz.prog [] 199 = some zku := by kernel_rfl
def zcv : AFn := ⟨91,[.t 12],(oH [oBx 8 2,oBx 9 3,oMi 12 0] (oH [oFa 19 3 9,oLf 20 19,oM 13 20] (oS (oH [oM 21 4,oP 22 (.eq false false [.sl] (.t 21) (.k (.nils)))] (oQ 22 (oG [oFa 23 2 9,oLf 24 23,oM 13 24]) .skip)) (oH [oFa 25 1 8,oLf 26 25,oC 27 101 [.t 26],oM 14 27] (oS (.block 0 (oH [oM 41 13,oBk 42 .eql 41 0,oM 43 42,ota 44 4 9 43,otl 45 44 43,oPa 46 43 45,oM 40 46] (oQ 40 (oH [oMi 12 0] .ret) (oH [oM 48 13,oBk 49 .eql 48 0,oM 47 49] (oQ 47 (oH [oMi 12 5] .ret) (oH [oM 51 13,oBk 52 .eql 51 1,oM 53 52,otm 54 4 53,oT 55 (.eq false false [.sl] (.t 54) (.k (.nils))) 53,oPa 56 53 55,oM 50 56] (oQ 50 (oH [oM 57 0,oM 58 1,oFa 59 0 8,oLf 60 59,oM 61 5,oBk 62 .add 61 1,oC 63 51 [.t 57,.t 58,.t 60,.t 62],oM 12 63] .ret) (oH [oM 65 13,oBk 66 .eql 65 1,oM 64 66] (oQ 64 (oH [oFa 67 0 9,oLf 68 67,oLn 69 68,oMi 70 0] (.block 3 (.loop (oH [oBt 71 .lss 70 69] (oS (oQ 71 .skip (.exit 3)) (oS (.block 4 (oH [oM 72 70,oIa 73 1 68 70,oLf 74 73,oM 15 72,oM 16 74] (oG [oM 75 14,oM 76 16,oM 77 4,oM 78 15,oIa 79 3 77 78,oLt 80 3 79,oIa 81 3 75 76,oSt 3 81 80]))) (oG [oBk 82 .add 70 1,oM 70 82]))))))) (oH [oFa 28 0 9,oLf 29 28,oLn 30 29,oMi 31 0] (.block 1 (.loop (oH [oBt 32 .lss 31 30] (oS (oQ 32 .skip (.exit 1)) (oS (.block 2 (oH [oIa 33 1 29 31,oLf 34 33,oM 18 34] (oG [oM 35 14,oM 36 18,oP 37 (.build [.int .i64 0,.int .i64 0,.str []] []),oIa 38 3 35 36,oSt 3 38 37]))) (oG [oBk 39 .add 31 1,oM 31 39])))))))))))))))) (oH [oM 83 0,oM 84 1,oFa 85 0 8,oLf 86 85,oM 87 14,oM 88 5,oBk 89 .add 88 1,oC 90 70 [.t 83,.t 84,.t 86,.t 87,(.k (.bool false)),.t 89],oM 12 90] .ret))))))⟩
theorem wb0 : wc Tryz.prog [8, 9] 200 = some zcv := by kernel_rfl
def wi8 : AFn := ⟨26,[.t 4],(oH [oBx 2 0,oBx 3 1,oMb 4 false] (oS (oH [oFa 5 0 2,oLf 6 5,oFa 7 0 3,oLf 8 7,oBt 9 .neq 6 8] (oQ 9 (oH [oMb 4 false] .ret) .skip)) (oS (oH [oFa 10 1 2,oLf 11 10,oFa 12 1 3,oLf 13 12,oBt 14 .neq 11 13] (oQ 14 (oH [oMb 4 false] .ret) .skip)) (oS (oH [oFa 15 2 2,oLf 16 15,oFa 17 2 3,oLf 18 17,oP 19 (.eq true false [.b] (.t 16) (.t 18))] (oQ 19 (oH [oMb 4 false] .ret) .skip)) (oS (oH [oFa 20 3 2,oLt 21 3 20,oFa 22 3 3,oLt 23 3 22,oC 24 71 [.t 21,.t 23],oUn 25 24] (oQ 25 (oH [oMb 4 false] .ret) .skip)) (oH [oMb 4 true] .ret))))))⟩
theorem zf9 : wc Tryz.prog [2, 3] 201 = some wi8 := by kernel_rfl
def jf9 : AFn := ⟨11,[.t 4],(oH [oBx 2 0,oBx 3 1,oMb 4 false] (oS (oH [oFa 5 0 2,oLf 6 5,oFa 7 0 3,oLf 8 7,oC 9 128 [.t 6,.t 8],oUn 10 9] (oQ 10 (oH [oMb 4 false] .ret) .skip)) (oH [oMb 4 true] .ret)))⟩
theorem wdr : wc Tryz.prog [2, 3] 202 = some jf9 := by kernel_rfl
def whe : AFn := ⟨11,[.t 4],(oH [oBx 2 0,oBx 3 1,oMb 4 false] (oS (oH [oFa 5 0 2,oLf 6 5,oFa 7 0 3,oLf 8 7,oC 9 88 [.t 6,.t 8],oUn 10 9] (oQ 10 (oH [oMb 4 false] .ret) .skip)) (oH [oMb 4 true] .ret)))⟩
theorem wef : wc Tryz.prog [2, 3] 203 = some whe := by kernel_rfl
def wjy : AFn := ⟨31,[.t 4],(oH [oBx 2 0,oBx 3 1,oMb 4 false] (oS (oH [oFa 5 0 2,oLf 6 5,oFa 7 0 3,oLf 8 7,oC 9 128 [.t 6,.t 8],oUn 10 9] (oQ 10 (oH [oMb 4 false] .ret) .skip)) (oS (oH [oFa 11 1 2,oLf 12 11,oFa 13 1 3,oLf 14 13,oBt 15 .neq 12 14] (oQ 15 (oH [oMb 4 false] .ret) .skip)) (oS (oH [oFa 16 2 2,oLf 17 16,oFa 18 2 3,oLf 19 18,oBt 20 .neq 17 19] (oQ 20 (oH [oMb 4 false] .ret) .skip)) (oS (oH [oFa 21 3 2,oLf 22 21,oFa 23 3 3,oLf 24 23,oBt 25 .neq 22 24] (oQ 25 (oH [oMb 4 false] .ret) .skip)) (oS (oH [oFa 26 4 2,oLf 27 26,oFa 28 4 3,oLf 29 28,oP 30 (.eq true false [.b] (.t 27) (.t 29))] (oQ 30 (oH [oMb 4 false] .ret) .skip)) (oH [oMb 4 true] .ret)))))))⟩
theorem zhf : wc Tryz.prog [2, 3] 204 = some wjy := by kernel_rfl
def jhf : AFn := ⟨26,[.t 4],(oH [oBx 2 0,oMb 4 false] (oS (oH [oMi 5 0] (.block 0 (.loop (oS (oH [oM 6 5,oM 7 1,oLn 8 7,oBt 9 .lss 6 8] (oQ 9 .skip (.exit 0))) (oS (.block 1 (oH [oFa 12 1 2,oLf 13 12,oM 14 5,oIa 15 6 13 14,oFa 16 2 15,oLf 17 16,oM 18 17,otm 19 1 18,otm 20 5 18,oti 21 3 19 20 18,ota 22 0 21 18,otl 23 22 18,oT 24 (.bin .eql (.t 23) (kI 0)) 18,oPa 25 18 24] (oQ 25 (oH [oMb 4 false] .ret) .skip))) (oG [oM 10 5,oBk 11 .add 10 1,oM 5 11])))))) (oH [oMb 4 true] .ret)))⟩
theorem zeg : wc Tryz.prog [2] 205 = some jhf := by kernel_rfl
def wf9 : AFn := ⟨28,[.t 4],(oH [oBx 2 0,oMb 4 false] (oS (oH [oMi 5 0] (.block 0 (.loop (oS (oH [oM 7 5,oFa 8 4 2,oLf 9 8,oLn 10 9,oBt 11 .lss 7 10] (oQ 11 .skip (.exit 0))) (oS (.block 1 (oH [oFa 14 4 2,oLf 15 14,oM 16 5,oIa 17 1 15 16,oFa 18 0 17,oLf 19 18,oM 20 1,oC 21 173 [.t 19,.t 20],oM 6 21] (oH [oM 22 6,oBk 23 .eql 22 0,oM 24 23,ofm 25 6 24,oF 26 (.bin .lss (.t 25) (kI 0)) 24,oPo 27 24 26] (oQ 27 (oH [oMb 4 false] .ret) .skip)))) (oG [oM 12 5,oBk 13 .add 12 1,oM 5 13])))))) (oH [oMb 4 true] .ret)))⟩
theorem zds : wc Tryz.prog [2] 206 = some wf9 := by kernel_rfl
def zga : AFn := ⟨49,[.t 6],(oH [oBx 3 0,oBx 4 1,oBx 5 2,oP 6 (.mv (.k (.nils)))] (oH [oP 9 (.mksl false 1 0 [.int .i64 0] []),oM 7 9] (oS (oH [oMi 8 0] (.block 0 (.loop (oS (oH [oM 10 8,oFa 11 0 4,oLf 12 11,oLn 13 12,oBt 14 .lss 10 13] (oQ 14 .skip (.exit 0))) (oS (.block 1 (oS (oD [[oFa 17 0 4,oLf 18 17,oM 19 8,oIa 20 2 18 19,oFa 21 0 20,oLf 22 21,oFa 23 0 5,oLf 24 23],[oBt 25 .neq 22 24],[oM 26 25],[oT 27 (.load true 6 (.t 3)) 26,ota 28 0 4 26,otl 29 28 26,otm 30 8 26,oti 31 2 29 30 26,oT 32 (.load true 2 (.t 31)) 26,oT 33 (.mksl true 2 1 [.int .i64 0,.nils] [(0,(.t 32))]) 26,oT 34 (.build [.nils] [(0,1,(.t 33))]) 26,oT 35 (.load true 2 (.t 5)) 26],[otc 36 253 [.t 27,.t 34,.t 35] 26],[oT 37 (.un .not (.t 36)) 26],[oPa 38 26 37]]) (oQ 38 (oG [oM 39 7,oFa 40 0 4,oLf 41 40,oM 42 8,oIa 43 2 41 42,oFa 44 0 43,oLf 45 44,oP 46 (.mksl true 1 1 [.int .i64 0] [(0,(.t 45))]),oP 47 (.app 1 8 (.t 39) (.t 46)),oM 7 47]) .skip))) (oG [oM 15 8,oBk 16 .add 15 1,oM 8 16])))))) (oH [oM 48 7,oM 6 48] .ret))))⟩
theorem jds : wc Tryz.prog [3, 4, 5, 33, 46] 207 = some zga := by kernel_rfl
def jga : AFn := ⟨40,[.t 8],(oH [oBx 6 2,oMb 8 false] (oH [oFa 13 0 6,oLf 14 13,oM 15 3,oC 16 110 [.t 14,.t 15],oM 12 16,oEx 17 12 0,oEx 18 12 1,oM 9 17,oM 10 18] (oH [oM 19 0,oFa 20 1 6,oLf 21 20,oC 22 94 [.t 19,.t 21],oM 11 22] (oS (oD [[oM 23 10],[oUn 24 23],[oM 25 24],[ofm 26 1 25,ofm 27 11 25,ofi 28 1 26 27 25,oF 29 (.load true 1 (.t 28)) 25,ofm 30 0 25,ofm 31 11 25,ofi 32 6 30 31 25,ofa 33 2 32 25,ofl 34 33 25,ofm 35 9 25],[ofc 36 240 [.t 29,.t 34,.t 35] 25],[oF 37 (.len false (.t 36)) 25],[oF 38 (.bin .gtr (.t 37) (kI 0)) 25],[oPo 39 25 38],[oM 8 39]]) .ret))))⟩
theorem wds : wc Tryz.prog [6] 208 = some jga := by kernel_rfl
def zi9 : AFn := ⟨31,[.t 2],(oH [oBx 1 0,oMb 2 false] (oS (oH [oFa 3 0 1,oLf 4 3] (.block 0 (oH [oBk 6 .eql 4 0,oM 5 6] (oQ 5 (oH [oLt 7 3 1,oP 8 (.build [.int .i64 0,.int .i64 0,.str []] []),oP 9 (.eq false true [.i,.i,.s] (.t 7) (.t 8)),oM 2 9] .ret) (oH [oBk 11 .eql 4 1,oM 10 11] (oQ 10 (oH [oFa 12 1 1,oLf 13 12,oC 14 121 [.t 13,(kI (-1000000000)),(kI 1000000000)],oM 15 14,ota 16 2 1 15,otl 17 16 15,oT 18 (.bin .eql (.t 17) (.k (.str []))) 15,oPa 19 15 18,oM 2 19] .ret) (oH [oBk 21 .eql 4 2,oM 20 21] (oQ 20 (oH [oFa 22 1 1,oLf 23 22,oBk 24 .eql 23 0,oM 25 24,ota 26 2 1 25,otl 27 26 25,oT 28 (.len true (.t 27)) 25,oT 29 (.bin .leq (.t 28) (kI 12)) 25,oPa 30 25 29,oM 2 30] .ret) .skip)))))))) (oH [oMb 2 false] .ret)))⟩
theorem wga : wc Tryz.prog [1] 209 = some zi9 := by kernel_rfl
def whf : AFn := ⟨26,[.t 4],(oH [oBx 2 0,oMb 4 false] (oS (oH [oM 7 1,oLn 8 7,oMi 9 0] (.block 0 (.loop (oH [oBt 10 .lss 9 8] (oS (oQ 10 .skip (.exit 0)) (oS (.block 1 (oH [oM 11 9,oIa 12 3 7 9,oLt 13 3 12,oP 6 (.alloc [.int .i64 0,.int .i64 0,.str []]),oM 5 11,oSt 3 6 13] (oH [oFa 14 1 2,oLf 15 14,oM 16 5,oIa 17 6 15 16,oFa 18 2 17,oLf 19 18,oM 20 19,ota 21 0 6 20,otl 22 21 20,oT 23 (.bin .eql (.t 22) (kI 0)) 20,oPa 24 20 23] (oQ 24 (oH [oMb 4 true] .ret) .skip)))) (oG [oBk 25 .add 9 1,oM 9 25]))))))) (oH [oMb 4 false] .ret)))⟩
theorem jeg : wc Tryz.prog [2] 210 = some whf := by kernel_rfl
def je9 : AFn := ⟨10,[.t 4],(oH [oBx 2 0,oBx 3 1,oMb 4 false] (oH [oFa 5 4 2,oLf 6 5,oP 7 (.mkfn 254 [] [.t 3]),oC 8 248 [.t 6,.t 7],oUn 9 8,oM 4 9] .ret))⟩
theorem jc5 : wc Tryz.prog [2, 3] 211 = some je9 := by kernel_rfl
def jie : AFn := ⟨54,[.t 8],(oH [oBx 4 0,oBx 7 3,oP 8 (.mv (.k (.nils)))] (oH [oP 15 (.mksl false 1 0 [.int .i64 0] []),oM 9 15] (oH [oFa 16 2 4,oLf 17 16,oP 18 (.mksl false 1 1 [.nils] [(0,(.t 17))]),oM 10 18] (oS (oH [oFa 19 3 4,oLf 20 19,oLn 21 20,oMi 22 0] (.block 0 (.loop (oH [oBt 23 .lss 22 21] (oS (oQ 23 .skip (.exit 0)) (oS (.block 1 (oH [oIa 24 1 20 22,oLt 25 1 24,oP 12 (.alloc [.nils]),oSt 1 12 25] (oG [oM 26 10,oFa 27 0 12,oLf 28 27,oP 29 (.mksl true 1 1 [.nils] [(0,(.t 28))]),oP 30 (.app 1 24 (.t 26) (.t 29)),oM 10 30]))) (oG [oBk 31 .add 22 1,oM 22 31]))))))) (oS (oH [oM 32 1,oLn 33 32,oMi 34 0] (.block 2 (.loop (oH [oBt 35 .lss 34 33] (oS (oQ 35 .skip (.exit 2)) (oS (.block 3 (oH [oIa 36 2 32 34,oLt 37 2 36,oP 14 (.alloc [.int .i64 0,.nils]),oSt 2 14 37] (oH [oFa 38 0 14,oLf 39 38,oM 40 2,oBt 41 .neq 39 40,oM 42 41,otm 43 10 42,oT 44 (.mkfn 256 [] [.t 7,.t 14]) 42,otc 45 255 [.t 43,.t 44] 42,oPa 46 42 45] (oQ 46 (oG [oM 47 9,oFa 48 0 14,oLf 49 48,oP 50 (.mksl true 1 1 [.int .i64 0] [(0,(.t 49))]),oP 51 (.app 1 8 (.t 47) (.t 50)),oM 9 51]) .skip)))) (oG [oBk 52 .add 34 1,oM 34 52]))))))) (oH [oM 53 9,oM 8 53] .ret))))))⟩
theorem we9 : wc Tryz.prog [4, 7, 29, 50] 212 = some jie := by kernel_rfl
def zdt : AFn := ⟨20,[.t 6],(oH [oBx 5 0,oMb 6 false] (oH [oLf 7 1,oM 8 7,ofa 9 4 5 8,ofl 10 9 8,oF 11 (.un .not (.t 10)) 8,oPo 12 8 11,oM 13 12,otl 14 2 13,otl 15 3 13,oT 16 (.load true 5 (.t 5)) 13,otl 17 4 13,otc 18 214 [.t 14,.t 15,.t 16,.t 17] 13,oPa 19 13 18,oM 6 19] .ret))⟩
theorem wcf : wc Tryz.prog [5] 213 = some zdt := by kernel_rfl
def wie : AFn := ⟨40,[.t 8],(oH [oBx 6 2,oMb 8 false] (oH [oM 12 0,oFa 13 1 6,oLf 14 13,oC 15 160 [.t 12,.t 14],oM 9 15] (oH [oFa 17 0 6,oLf 18 17,oM 19 3,oC 20 123 [.t 18,.t 19],oM 16 20,oEx 21 16 0,oEx 22 16 1,oM 10 21,oM 11 22] (oS (oD [[oM 23 11],[oM 24 23],[otm 25 1 24,otm 26 9 24,oti 27 1 25 26 24,ota 28 0 27 24,otl 29 28 24,otm 30 0 24,otm 31 9 24,oti 32 6 30 31 24,ota 33 2 32 24,otl 34 33 24,otm 35 10 24],[otc 36 198 [.t 29,.t 34,.t 35] 24],[oT 37 (.len false (.t 36)) 24],[oT 38 (.bin .eql (.t 37) (kI 0)) 24],[oPa 39 24 38],[oM 8 39]]) .ret))))⟩
theorem zfa : wc Tryz.prog [6] 214 = some wie := by kernel_rfl
def zhg : AFn := ⟨184,[.t 2],(oH [oBx 1 0,oMb 2 false] (oH [oFa 11 1 1,oLf 12 11,oLn 13 12,oM 3 13] (oS (oH [oFa 14 0 1,oLf 15 14,oC 16 257 [.t 15],oUn 17 16,oM 18 17,ofm 19 3 18,ofc 20 97 [.t 19,(kI 1),(kI 8)] 18,oF 21 (.un .not (.t 20)) 18,oPo 22 18 21,oM 23 22,ofa 24 2 1 23,ofl 25 24 23,ofm 26 3 23,ofc 27 258 [.t 25,.t 26] 23,oF 28 (.un .not (.t 27)) 23,oPo 29 23 28,oM 30 29,ofa 31 3 1 30,ofl 32 31 30,oF 33 (.len false (.t 32)) 30,oF 34 (.bin .gtr (.t 33) (kI 3)) 30,oPo 35 30 34,oM 36 35,ofa 37 4 1 36,ofl 38 37 36,oF 39 (.len false (.t 38)) 36,oF 40 (.bin .gtr (.t 39) (kI 3)) 36,oPo 41 36 40,oM 42 41,ofa 43 5 1 42,ofl 44 43 42,oF 45 (.len false (.t 44)) 42,oF 46 (.bin .gtr (.t 45) (kI 3)) 42,oPo 47 42 46] (oQ 47 (oH [oMb 2 false] .ret) .skip)) (oS (oH [oMi 4 0] (.block 0 (.loop (oS (oH [oM 48 4,oM 49 3,oBt 50 .lss 48 49] (oQ 50 .skip (.exit 0))) (oS (.block 1 (oH [oFa 53 1 1,oLf 54 53,oM 55 4,oIa 56 6 54 55,oLt 57 6 56,oP 5 (.alloc [.str [],.int .i64 0,.bool false,.int .i64 0,.int .i64 0,.str []]),oSt 6 5 57] (oS (oD [[oFa 58 0 5],[oLf 59 58],[oC 60 257 [.t 59]],[oUn 61 60],[oM 62 61],[ofa 63 1 1 62,ofl 64 63 62,ofm 65 4 62,oF 66 (.slice 6 (.t 64) none (some (.t 65)) none) 62,oF 67 (.build [.str [],.nils,.nils,.nils,.nils,.nils] [(1,1,(.t 66))]) 62,ofa 68 0 5 62,ofl 69 68 62],[ofc 70 259 [.t 67,.t 69] 62],[oF 71 (.bin .geq (.t 70) (kI 0)) 62],[oPo 72 62 71],[oM 73 72],[ofa 74 1 5 73],[ofl 75 74 73],[ofc 76 97 [.t 75,(kI 1),(kI 2)] 73],[oF 77 (.un .not (.t 76)) 73],[oPo 78 73 77],[oM 79 78],[ofa 80 3 5 79],[oF 81 (.load true 3 (.t 80)) 79],[ofc 82 133 [.t 81] 79],[oF 83 (.un .not (.t 82)) 79],[oPo 84 79 83],[oM 85 84],[ofa 86 3 5 85],[ofa 87 0 86 85],[ofl 88 87 85],[oF 89 (.bin .neq (.t 88) (kI 0)) 85],[ofm 90 89 85],[ota 91 3 5 90,ota 92 0 91 90,otl 93 92 90,ota 94 1 5 90,otl 95 94 90],[oT 96 (.bin .neq (.t 93) (.t 95)) 90],[oF 97 (.pick (.t 90) (.t 96) (.k (.bool false))) 85],[oPo 98 85 97]]) (oQ 98 (oH [oMb 2 false] .ret) .skip)))) (oG [oM 51 4,oBk 52 .add 51 1,oM 4 52])))))) (oS (oH [oMi 6 0] (.block 2 (.loop (oS (oH [oM 99 6,oFa 100 2 1,oLf 101 100,oLn 102 101,oBt 103 .lss 99 102] (oQ 103 .skip (.exit 2))) (oS (.block 3 (oS (oD [[oFa 106 1 1,oLf 107 106,oFa 108 2 1,oLf 109 108,oM 110 6,oIa 111 1 109 110,oLf 112 111],[oIa 113 6 107 112],[oFa 114 2 113],[oLf 115 114],[oUn 116 115]]) (oQ 116 (oH [oMb 2 false] .ret) .skip))) (oG [oM 104 6,oBk 105 .add 104 1,oM 6 105])))))) (oS (oH [oMi 7 0] (.block 4 (.loop (oS (oH [oM 117 7,oFa 118 3 1,oLf 119 118,oLn 120 119,oBt 121 .lss 117 120] (oQ 121 .skip (.exit 4))) (oS (.block 5 (oH [oFa 124 3 1,oLf 125 124,oM 126 7,oIa 127 1 125 126,oFa 128 0 127,oLf 129 128,oM 130 3,oC 131 258 [.t 129,.t 130],oUn 132 131] (oQ 132 (oH [oMb 2 false] .ret) .skip))) (oG [oM 122 7,oBk 123 .add 122 1,oM 7 123])))))) (oS (oH [oMi 8 0] (.block 6 (.loop (oS (oH [oM 133 8,oFa 134 4 1,oLf 135 134,oLn 136 135,oBt 137 .lss 133 136] (oQ 137 .skip (.exit 6))) (oS (.block 7 (oH [oFa 140 4 1,oLf 141 140,oM 142 8,oIa 143 1 141 142,oFa 144 0 143,oLf 145 144,oM 146 3,oC 147 155 [.t 145,.t 146],oUn 148 147] (oQ 148 (oH [oMb 2 false] .ret) .skip))) (oG [oM 138 8,oBk 139 .add 138 1,oM 8 139])))))) (oS (oH [oMi 9 0] (.block 8 (.loop (oS (oH [oM 149 9,oFa 150 5 1,oLf 151 150,oLn 152 151,oBt 153 .lss 149 152] (oQ 153 .skip (.exit 8))) (oS (.block 9 (oH [oFa 156 5 1,oLf 157 156,oM 158 9,oIa 159 5 157 158,oLt 160 5 159,oP 10 (.alloc [.nils,.str [],.int .i64 0,.int .i64 0,.bool false]),oSt 5 10 160] (oH [oFa 161 0 10,oLf 162 161,oM 163 3,oC 164 258 [.t 162,.t 163],oUn 165 164,oM 166 165,ofa 167 1 10 166,ofl 168 167 166,ofc 169 257 [.t 168] 166,oF 170 (.un .not (.t 169)) 166,oPo 171 166 170,oM 172 171,ofa 173 2 10 172,ofl 174 173 172,ofc 175 97 [.t 174,(kI 0),(kI 2)] 172,oF 176 (.un .not (.t 175)) 172,oPo 177 172 176,oM 178 177,ofa 179 3 10 178,ofl 180 179 178,ofc 181 97 [.t 180,(kI 0),(kI 2)] 178,oF 182 (.un .not (.t 181)) 178,oPo 183 178 182] (oQ 183 (oH [oMb 2 false] .ret) .skip)))) (oG [oM 154 9,oBk 155 .add 154 1,oM 9 155])))))) (oH [oMb 2 true] .ret)))))))))⟩
theorem weg : wc Tryz.prog [1] 215 = some zhg := by kernel_rfl
def jhg : AFn := ⟨48,[.t 4],(oH [oBx 2 0,oMi 4 0] (oS (oH [oFa 5 0 2,oLf 6 5,oBk 7 .neq 6 1,oM 8 7,ota 9 1 2 8,otl 10 9 8,oT 11 (.bin .neq (.t 10) (kI 0)) 8,oPa 12 8 11,oM 13 12,ofa 14 0 2 13,ofl 15 14 13,oF 16 (.bin .neq (.t 15) (kI 2)) 13,ofm 17 16 13,ota 18 2 2 17,oT 19 (.load true 3 (.t 18)) 17,oT 20 (.build [.int .i64 0,.int .i64 0,.str []] []) 17,oT 21 (.eq true true [.i,.i,.s] (.t 19) (.t 20)) 17,oF 22 (.pick (.t 17) (.t 21) (.k (.bool false))) 13,oPo 23 13 22] (oQ 23 (oH [oMi 4 (-1)] .ret) .skip)) (oS (oH [oFa 24 0 2,oLf 25 24] (.block 0 (oH [oBk 27 .eql 25 1,oM 26 27] (oQ 26 (oH [oFa 28 1 2,oLf 29 28,oM 30 1,oBk 31 .sub 30 1,oC 32 97 [.t 29,(kI 0),.t 31]] (oQ 32 (oH [oMi 4 0] .ret) .skip)) (oH [oBk 34 .eql 25 2,oM 33 34] (oQ 33 (oH [oFa 35 2 2,oLt 36 3 35,oC 37 133 [.t 36]] (oQ 37 (oH [oMi 4 0] .ret) .skip)) (oS (oH [oBk 39 .eql 25 7,oM 38 39] (oQ 38 .skip (oG [oBk 40 .eql 25 8,oM 38 40]))) (oQ 38 (oH [oMi 4 1] .ret) (oS (oH [oBk 42 .eql 25 3,oM 41 42] (oQ 41 .skip (oH [oBk 43 .eql 25 4,oM 41 43] (oQ 41 .skip (oH [oBk 44 .eql 25 5,oM 41 44] (oQ 41 .skip (oH [oBk 45 .eql 25 6,oM 41 45] (oQ 41 .skip (oH [oBk 46 .eql 25 9,oM 41 46] (oQ 41 .skip (oG [oBk 47 .eql 25 10,oM 41 47]))))))))))) (oQ 41 (oH [oMi 4 2] .ret) .skip)))))))))) (oH [oMi 4 (-1)] .ret))))⟩
theorem zeh : wc Tryz.prog [2] 216 = some jhg := by kernel_rfl
def zgb : AFn := ⟨61,[.t 6,.t 7],(oH [oBx 3 0,oP 6 (.mv (.k (.nils))),oMb 7 false] (oH [oM 12 1,oC 13 65 [.t 12],oM 8 13] (oS (oH [oMi 9 0] (.block 0 (.loop (oS (oH [oM 14 9,oM 15 2,oLn 16 15,oBt 17 .lss 14 16] (oQ 17 .skip (.exit 0))) (oS (.block 1 (oH [oM 21 2,oM 22 9,oIa 23 2 21 22,oFa 24 1 23,oLf 25 24,oM 26 1,oC 27 228 [.t 25,.t 26],oM 20 27,oEx 28 20 0,oEx 29 20 1,oP 10 (.alloc [.int .i64 0,.int .i64 0,.str []]),oSt 3 10 28,oM 11 29] (oS (oS (oD [[oM 30 11],[oUn 31 30],[oM 32 31],[ofa 33 0 10 32],[ofl 34 33 32],[oF 35 (.bin .neq (.t 34) (kI 0)) 32],[ofm 36 35 32],[ota 37 0 10 36,otl 38 37 36,ota 39 1 3 36,otl 40 39 36,otm 41 2 36,otm 42 9 36,oti 43 2 41 42 36,ota 44 0 43 36,otl 45 44 36,oti 46 6 40 45 36,ota 47 1 46 36,otl 48 47 36],[oT 49 (.bin .neq (.t 38) (.t 48)) 36],[oF 50 (.pick (.t 36) (.t 49) (.k (.bool false))) 32],[oPo 51 32 50]]) (oQ 51 (oH [oP 6 (.mv (.k (.nils))),oMb 7 false] .ret) .skip)) (oD [[oM 52 8,oM 53 2,oM 54 9,oIa 55 2 53 54,oFa 56 0 55,oLf 57 56,oLt 58 3 10],[oIa 59 3 52 57],[oSt 3 59 58]])))) (oG [oM 18 9,oBk 19 .add 18 1,oM 9 19])))))) (oH [oM 60 8,oM 6 60,oMb 7 true] .ret))))⟩
theorem jdt : wc Tryz.prog [3] 217 = some zgb := by kernel_rfl
def wbu : AFn := ⟨19,[.t 4],(oH [oMi 4 0] (oS (oH [oM 6 0,oLn 7 6,oMi 8 0] (.block 0 (.loop (oH [oBt 9 .lss 8 7] (oS (oQ 9 .skip (.exit 0)) (oS (.block 1 (oH [oM 10 8,oM 5 10] (oH [oM 11 1,oM 12 0,oM 13 5,oIa 14 6 12 13,oLt 15 6 14,⟨some 16,.call (.t 11) [.t 15],none⟩] (oQ 16 (oH [oM 17 5,oM 4 17] .ret) .skip)))) (oG [oBk 18 .add 8 1,oM 8 18]))))))) (oH [oMi 4 (-1)] .ret)))⟩
theorem zai : wc Tryz.prog [] 218 = some wbu := by kernel_rfl
def jfa : AFn := ⟨8,[.t 3],(oH [oBx 2 0,oMb 3 false] (oH [oFa 4 0 2,oLf 5 4,oLf 6 1,oBt 7 .eql 5 6,oM 3 7] .ret))⟩
theorem wc5 : wc Tryz.prog [2] 219 = some jfa := by kernel_rfl
def zif : AFn := ⟨40,[.t 4],(oH [oMb 4 false] (oS (oH [oM 8 0,oLn 9 8,oBk 10 .gtr 9 24,oM 11 10,ofm 12 1 11,ofc 13 121 [.t 12,(kI 0),(kI 16)] 11,oF 14 (.un .not (.t 13)) 11,oPo 15 11 14] (oQ 15 (oH [oMb 4 false] .ret) .skip)) (oH [oMi 5 0] (oS (oH [oM 16 0,oLn 17 16,oMi 18 0] (.block 0 (.loop (oH [oBt 19 .lss 18 17] (oS (oQ 19 .skip (.exit 0)) (oS (.block 1 (oH [oIa 20 5 16 18,oLt 21 5 20,oP 7 (.alloc [.int .i64 0,.int .i64 0,.int .i64 0,.int .i64 0,.str []]),oSt 5 7 21] (oS (oH [oLt 22 5 7,oM 23 1,oC 24 260 [.t 22,.t 23],oUn 25 24,oM 26 25,ofm 27 5 26,oF 28 (.load true 5 (.t 7)) 26,ofc 29 237 [.t 28] 26,oF 30 (.bin .lss (.t 27) (.t 29)) 26,oPo 31 26 30] (oQ 31 (oH [oMb 4 false] .ret) .skip)) (oG [oM 32 5,oLt 33 5 7,oC 34 237 [.t 33],oP 35 (.bin .sub (kI 1) (.t 34)),oBt 36 .add 32 35,oM 5 36])))) (oG [oBk 37 .add 18 1,oM 18 37]))))))) (oH [oM 38 5,oBk 39 .eql 38 1,oM 4 39] .ret)))))⟩
theorem wfa : wc Tryz.prog [] 220 = some zif := by kernel_rfl
def zbp : AFn := ⟨9,[.t 4],(oH [oMb 4 false] (oH [oM 5 0,oM 6 1,oC 7 261 [.t 5,.t 6],oBk 8 .geq 7 0,oM 4 8] .ret))⟩
theorem jbc : wc Tryz.prog [] 221 = some zbp := by kernel_rfl
def zfb : AFn := ⟨9,[.t 3],(oH [oBx 2 0,oMb 3 false] (oH [oFa 4 0 2,oLf 5 4,oFa 6 0 1,oLf 7 6,oBt 8 .eql 5 7,oM 3 8] .ret))⟩
theorem zc6 : wc Tryz.prog [2] 222 = some zfb := by kernel_rfl
def wdt : AFn := ⟨26,[.t 6],(oH [oMi 6 0] (oH [oM 10 0,oLf 11 1,oFa 12 1 2,oLf 13 12,oLf 14 3,oC 15 74 [.t 10,.t 11,.t 13,.t 14],oM 9 15,oEx 16 9 0,oEx 17 9 1,oM 7 16,oM 8 17] (oS (oH [oM 18 7,oBk 19 .neq 18 0] (oQ 19 (oH [oM 20 7,oM 6 20] .ret) .skip)) (oH [oLf 21 4,oM 22 0,oLf 23 1,oM 24 8,⟨some 25,.call (.t 21) [.t 22,.t 23,(.k (.nils)),.t 24],none⟩,oM 6 25] .ret))))⟩
theorem zcg : wc Tryz.prog [] 223 = some wdt := by kernel_rfl
def jgb : AFn := ⟨36,[.t 4,.t 5],(oH [oP 4 (.mv (.k (.nils))),oMb 5 false] (oH [oP 10 (.mksl false 1 0 [.int .i64 0] []),oM 6 10] (oS (oH [oM 11 0,oLn 12 11,oMi 13 0] (.block 0 (.loop (oH [oBt 14 .lss 13 12] (oS (oQ 14 .skip (.exit 0)) (oS (.block 1 (oH [oIa 15 2 11 13,oLt 16 2 15,oP 8 (.alloc [.int .i64 0,.nils]),oSt 2 8 16] (oH [oMi 9 1] (oS (oH [oM 17 1,oLn 18 17,oBk 19 .gtr 18 0] (oQ 19 (oG [oM 20 1,oFa 21 1 8,oLf 22 21,oC 23 235 [.t 20,.t 22],oM 9 23]) .skip)) (oH [oM 24 9] (.block 2 (oH [oBk 26 .eql 24 (-1),oM 25 26] (oQ 25 (oH [oP 4 (.mv (.k (.nils))),oMb 5 false] .ret) (oH [oBk 28 .eql 24 1,oM 27 28] (oQ 27 (oG [oM 29 6,oFa 30 0 8,oLf 31 30,oP 32 (.mksl true 1 1 [.int .i64 0] [(0,(.t 31))]),oP 33 (.app 1 8 (.t 29) (.t 32)),oM 6 33]) .skip)))))))))) (oG [oBk 34 .add 13 1,oM 13 34]))))))) (oH [oM 35 6,oM 4 35,oMb 5 true] .ret))))⟩
theorem zdu : wc Tryz.prog [32] 224 = some jgb := by kernel_rfl
def jdu : AFn := ⟨58,[.t 8],(oH [oMi 8 0] (oH [oM 14 0,oLf 15 1,oLf 16 2,oC 17 69 [.t 14,.t 15,.t 16],oM 9 17] (oS (oH [oM 18 9,oP 19 (.eq false false [.pt] (.t 18) (.k (.nilp)))] (oQ 19 (oH [oMi 8 (-1)] .ret) .skip)) (oH [oM 20 9,oNc 21 20,oFa 22 1 21,oLf 23 22,oC 24 101 [.t 23],oM 10 24,oMi 11 8] (oS (oH [oFa 25 0 3,oLf 26 25,oBk 27 .eql 26 3] (oQ 27 (oG [oM 28 0,oLf 29 1,oLf 30 2,oC 31 51 [.t 28,.t 29,.t 30,(kI 0)],oM 11 31]) (oS (oD [[oLt 33 6 3,oLf 34 4,oLf 35 1,oIa 36 6 34 35,oLt 37 6 36,oM 38 10],[oC 39 226 [.t 33,.t 37,.t 38]],[oM 32 39],[oEx 40 32 0,oEx 41 32 1,oM 12 40],[oM 13 41]]) (oH [oM 42 13] (oQ 42 (oG [oM 43 0,oLf 44 1,oLf 45 2,oM 46 12,oLf 47 5,oC 48 70 [.t 43,.t 44,.t 45,.t 46,.t 47,(kI 0)],oM 11 48]) .skip))))) (oS (oH [oM 49 11,oBk 50 .neq 49 0] (oQ 50 (oH [oM 51 11,oM 8 51] .ret) .skip)) (oH [oLf 52 6,oM 53 0,oLf 54 1,oM 55 10,oLf 56 2,⟨some 57,.call (.t 52) [.t 53,.t 54,.t 55,.t 56],none⟩,oM 8 57] .ret)))))))⟩
theorem jcg : wc Tryz.prog [] 225 = some jdu := by kernel_rfl
def wgb : AFn := ⟨50,[.t 6,.t 7],(oH [oBx 3 0,oBx 4 1,oP 6 (.mv (.k (.nils))),oMb 7 false] (oH [oM 13 2,oC 14 101 [.t 13],oM 8 14] (oS (oH [oFa 15 4 3,oLf 16 15,oLn 17 16,oMi 18 0] (.block 0 (.loop (oH [oBt 19 .lss 18 17] (oS (oQ 19 .skip (.exit 0)) (oS (.block 1 (oH [oIa 20 2 16 18,oLt 21 2 20,oP 10 (.alloc [.int .i64 0,.nils]),oSt 2 10 21] (oH [oFa 23 1 10,oLf 24 23,oM 25 2,oC 26 181 [.t 24,.t 25],oM 22 26,oEx 27 22 0,oEx 28 22 1,oP 11 (.alloc [.int .i64 0,.int .i64 0,.str []]),oSt 3 11 27,oM 12 28] (oS (oS (oD [[oM 29 12],[oUn 30 29],[oM 31 30],[oF 32 (.load true 3 (.t 11)) 31,ofa 33 1 4 31,ofl 34 33 31,ofa 35 0 10 31,ofl 36 35 31,ofi 37 6 34 36 31,ofa 38 1 37 31,ofl 39 38 31],[ofc 40 140 [.t 32,.t 39] 31],[oF 41 (.un .not (.t 40)) 31],[oPo 42 31 41]]) (oQ 42 (oH [oP 6 (.mv (.k (.nils))),oMb 7 false] .ret) .skip)) (oG [oM 43 8,oFa 44 0 10,oLf 45 44,oLt 46 3 11,oIa 47 3 43 45,oSt 3 47 46]))))) (oG [oBk 48 .add 18 1,oM 18 48]))))))) (oH [oM 49 8,oM 6 49,oMb 7 true] .ret))))⟩
theorem wdu : wc Tryz.prog [3, 4] 226 = some wgb := by kernel_rfl
def jif : AFn := ⟨107,[.m 4 true 3,.t 5],(oH [oP 4 (.alloc [.int .i64 0,.int .i64 0,.str []]),oMb 5 false] (oH [oP 14 (.mksl false 3 0 [.int .i64 0,.int .i64 0,.str []] []),oM 6 14] (oS (oH [oMi 7 0] (.block 0 (.loop (oS (oH [oM 15 7,oM 16 0,oLn 17 16,oBt 18 .lss 15 17] (oQ 18 .skip (.exit 0))) (oS (.block 1 (oH [oM 21 6,oLn 22 21,oM 8 22] (oH [oP 23 (.build [.int .i64 0,.int .i64 0,.str []] []),oP 9 (.alloc [.int .i64 0,.int .i64 0,.str []]),oSt 3 9 23] (oH [oMb 10 true] (oH [oMi 11 0] (oS (oH [oM 24 0,oM 25 7,oIa 26 5 24 25,oFa 27 0 26,oLf 28 27] (.block 2 (oH [oBk 49 .eql 28 1,oM 48 49] (oQ 48 (oG [oM 50 1,oM 51 0,oM 52 7,oIa 53 5 51 52,oFa 54 1 53,oLf 55 54,oIa 56 3 50 55,oLt 57 3 56,oSt 3 9 57]) (oH [oBk 59 .eql 28 2,oM 58 59] (oQ 58 (oG [oM 60 0,oM 61 7,oIa 62 5 60 61,oFa 63 2 62,oLt 64 3 63,oSt 3 9 64]) (oH [oBk 66 .eql 28 8,oM 65 66] (oQ 65 (oH [oM 67 6,oM 68 8,oBk 69 .sub 68 1,oIa 70 3 67 69,oFa 71 0 70,oLf 72 71,oBk 73 .eql 72 0,oC 74 263 [.t 73],oC 75 262 [.t 74],oSt 3 9 75] (oG [oMi 11 1])) (oH [oBk 77 .eql 28 7,oM 76 77] (oQ 76 (oH [oM 79 6,oM 80 8,oBk 81 .sub 80 1,oIa 82 3 79 81,oLt 83 3 82,oC 84 229 [.t 83],oM 78 84,oEx 85 78 0,oEx 86 78 1,oM 12 85,oM 13 86] (oH [oM 87 12,oC 88 265 [.t 87],oC 89 264 [.t 88],oSt 3 9 89] (oH [oM 90 13,oM 10 90] (oG [oMi 11 1])))) (oS (oD [[oM 30 0,oM 31 7,oIa 32 5 30 31,oFa 33 0 32,oLf 34 33,oM 35 6,oM 36 8,oBk 37 .sub 36 2,oIa 38 3 35 37,oLt 39 3 38,oM 40 6,oM 41 8,oBk 42 .sub 41 1,oIa 43 3 40 42,oLt 44 3 43],[oC 45 266 [.t 34,.t 39,.t 44]],[oM 29 45],[oEx 46 29 0,oEx 47 29 1,oSt 3 9 46],[oM 10 47]]) (oG [oMi 11 2])))))))))))) (oS (oH [oM 91 10,oUn 92 91] (oQ 92 (oH [oP 93 (.build [.int .i64 0,.int .i64 0,.str []] []),oSt 3 4 93,oMb 5 false] .ret) .skip)) (oD [[oP 94 (.mksl false 3 0 [.int .i64 0,.int .i64 0,.str []] []),oM 95 6,oM 96 8,oM 97 11,oBt 98 .sub 96 97,oP 99 (.slice 3 (.t 95) none (some (.t 98)) none),oP 100 (.app 3 32 (.t 94) (.t 99)),oLt 101 3 9,oP 102 (.mksl true 3 1 [.int .i64 0,.int .i64 0,.str []] [(0,(.t 101))])],[oP 103 (.app 3 32 (.t 100) (.t 102))],[oM 6 103]])))))))) (oG [oM 19 7,oBk 20 .add 19 1,oM 7 20])))))) (oH [oM 104 6,oP 105 (.iaddr 3 (.t 104) (kI 0)),oLt 106 3 105,oSt 3 4 106,oMb 5 true] .ret))))⟩
theorem jfb : wc Tryz.prog [102] 228 = some jif := by kernel_rfl
def zjz : AFn := ⟨14,[.t 2,.t 3],(oH [oBx 1 0,oMi 2 0,oMb 3 false] (oS (oH [oFa 4 0 1,oLf 5 4] (.block 0 (oH [oBk 7 .eql 5 0,oM 6 7] (oQ 6 (oH [oMi 2 2,oMb 3 true] .ret) (oH [oBk 9 .eql 5 1,oM 8 9] (oQ 8 (oH [oFa 10 1 1,oLf 11 10,oBk 12 .neq 11 0,oC 13 263 [.t 12],oM 2 13,oMb 3 true] .ret) .skip)))))) (oH [oMi 2 0,oMb 3 false] .ret)))⟩
theorem whg : wc Tryz.prog [1] 229 = some zjz := by kernel_rfl
def ji9 : AFn := ⟨17,[.t 4],(oH [oMi 4 0] (oH [oM 8 0,oM 9 1,oC 10 181 [.t 8,.t 9],oM 7 10,oEx 11 7 0,oEx 12 7 1,oP 5 (.alloc [.int .i64 0,.int .i64 0,.str []]),oSt 3 5 11,oM 6 12] (oS (oH [oM 13 6,oUn 14 13] (oQ 14 (oH [oMi 4 (-1)] .ret) .skip)) (oH [oLt 15 3 5,oC 16 269 [.t 15],oM 4 16] .ret))))⟩
theorem zgc : wc Tryz.prog [] 235 = some ji9 := by kernel_rfl
def zhh : AFn := ⟨23,[.t 4],(oH [oMb 4 false] (oS (oH [oM 7 0,oLn 8 7,oMi 9 0] (.block 0 (.loop (oH [oBt 10 .lss 9 8] (oS (oQ 10 .skip (.exit 0)) (oS (.block 1 (oH [oM 11 9,oIa 12 3 7 9,oLt 13 3 12,oP 6 (.alloc [.int .i64 0,.int .i64 0,.str []]),oM 5 11,oSt 3 6 13] (oH [oM 14 5,oM 15 1,oBt 16 .eql 14 15,oM 17 16,oF 18 (.load true 3 (.t 6)) 17,ofc 19 209 [.t 18] 17,oF 20 (.un .not (.t 19)) 17,oPo 21 17 20] (oQ 21 (oH [oMb 4 false] .ret) .skip)))) (oG [oBk 22 .add 9 1,oM 9 22]))))))) (oH [oMb 4 true] .ret)))⟩
theorem jeh : wc Tryz.prog [] 236 = some zhh := by kernel_rfl
def wfb : AFn := ⟨11,[.t 2],(oH [oBx 1 0,oMi 2 0] (oS (oH [oFa 3 0 1,oLf 4 3] (.block 0 (oS (oH [oBk 6 .eql 4 1,oM 5 6] (oQ 5 .skip (oG [oBk 7 .eql 4 2,oM 5 7]))) (oQ 5 (oH [oMi 2 0] .ret) (oS (oH [oBk 9 .eql 4 7,oM 8 9] (oQ 8 .skip (oG [oBk 10 .eql 4 8,oM 8 10]))) (oQ 8 (oH [oMi 2 1] .ret) .skip)))))) (oH [oMi 2 2] .ret)))⟩
theorem jc6 : wc Tryz.prog [1] 237 = some wfb := by kernel_rfl
def zfc : AFn := ⟨114,[.m 6 true 3,.t 7],(oH [oBx 3 0,oP 6 (.alloc [.int .i64 0,.int .i64 0,.str []]),oMb 7 false] (oS (oH [oFa 8 0 3,oLf 9 8] (.block 0 (oH [oBk 11 .eql 9 1,oM 10 11] (oQ 10 (oH [oM 12 2,oFa 13 1 3,oLf 14 13,oIa 15 3 12 14,oLt 16 3 15,oSt 3 6 16,oMb 7 true] .ret) (oH [oBk 18 .eql 9 2,oM 17 18] (oQ 17 (oH [oFa 19 2 3,oLt 20 3 19,oSt 3 6 20,oMb 7 true] .ret) (oH [oBk 22 .eql 9 3,oM 21 22] (oQ 21 (oS (oD [[oM 23 1,oP 24 (.iaddr 3 (.t 23) (kI 0)),oLt 25 3 24,oM 26 1,oP 27 (.iaddr 3 (.t 26) (kI 1)),oLt 28 3 27],[oC 29 271 [.t 25,.t 28]],[oC 30 270 [.t 29]],[oEx 31 30 0,oEx 32 30 1],[oSt 3 6 31],[oM 7 32]]) .ret) (oH [oBk 34 .eql 9 4,oM 33 34] (oQ 33 (oS (oD [[oM 35 1,oP 36 (.iaddr 3 (.t 35) (kI 0)),oLt 37 3 36,oM 38 1,oP 39 (.iaddr 3 (.t 38) (kI 1)),oLt 40 3 39],[oC 41 272 [.t 37,.t 40]],[oC 42 270 [.t 41]],[oEx 43 42 0,oEx 44 42 1],[oSt 3 6 43],[oM 7 44]]) .ret) (oH [oBk 46 .eql 9 5,oM 45 46] (oQ 45 (oS (oD [[oM 47 1,oP 48 (.iaddr 3 (.t 47) (kI 0)),oLt 49 3 48,oC 50 269 [.t 49],oM 51 1,oP 52 (.iaddr 3 (.t 51) (kI 1)),oLt 53 3 52],[oC 54 269 [.t 53]],[oC 55 273 [.t 50,.t 54]],[oC 56 270 [.t 55]],[oEx 57 56 0,oEx 58 56 1],[oSt 3 6 57],[oM 7 58]]) .ret) (oH [oBk 60 .eql 9 6,oM 59 60] (oQ 59 (oS (oD [[oM 61 1,oP 62 (.iaddr 3 (.t 61) (kI 0)),oLt 63 3 62,oC 64 269 [.t 63],oM 65 1,oP 66 (.iaddr 3 (.t 65) (kI 1)),oLt 67 3 66],[oC 68 269 [.t 67]],[oC 69 274 [.t 64,.t 68]],[oC 70 270 [.t 69]],[oEx 71 70 0,oEx 72 70 1],[oSt 3 6 71],[oM 7 72]]) .ret) (oH [oBk 74 .eql 9 7,oM 73 74] (oQ 73 (oH [oM 75 1,oP 76 (.iaddr 3 (.t 75) (kI 0)),oLt 77 3 76,oC 78 269 [.t 77],oC 79 275 [.t 78],oC 80 270 [.t 79],oEx 81 80 0,oEx 82 80 1,oSt 3 6 81,oM 7 82] .ret) (oH [oBk 84 .eql 9 8,oM 83 84] (oQ 83 (oH [oM 85 1,oP 86 (.iaddr 3 (.t 85) (kI 0)),oFa 87 0 86,oLf 88 87,oBk 89 .eql 88 0,oC 90 276 [.t 89],oC 91 270 [.t 90],oEx 92 91 0,oEx 93 91 1,oSt 3 6 92,oM 7 93] .ret) (oH [oBk 95 .eql 9 9,oM 94 95] (oQ 94 (oS (oD [[oM 96 1,oP 97 (.iaddr 3 (.t 96) (kI 0)),oLt 98 3 97,oM 99 1,oP 100 (.iaddr 3 (.t 99) (kI 1)),oLt 101 3 100],[oC 102 277 [.t 98,.t 101,(kI 1)]],[oEx 103 102 0,oEx 104 102 1],[oSt 3 6 103],[oM 7 104]]) .ret) .skip)))))))))))))))))))) (oS (oD [[oM 105 1,oP 106 (.iaddr 3 (.t 105) (kI 0)),oLt 107 3 106,oM 108 1,oP 109 (.iaddr 3 (.t 108) (kI 1)),oLt 110 3 109],[oC 111 277 [.t 107,.t 110,(kI (-1))]],[oEx 112 111 0,oEx 113 111 1],[oSt 3 6 112],[oM 7 113]]) .ret)))⟩
theorem jap : wc Tryz.prog [3] 238 = some zfc := by kernel_rfl
def wif : AFn := ⟨46,[.t 6],(oH [oBx 3 0,oP 6 (.mv (.k (.nils)))] (oH [oP 11 (.mksl false 1 0 [.int .i64 0] []),oM 7 11] (oS (oH [oMi 8 0] (.block 0 (.loop (oS (oH [oM 12 8,oFa 13 0 3,oLf 14 13,oLn 15 14,oBt 16 .lss 12 15] (oQ 16 .skip (.exit 0))) (oS (.block 1 (oH [oM 20 1,oFa 21 0 3,oLf 22 21,oM 23 8,oIa 24 2 22 23,oFa 25 1 24,oLf 26 25,oC 27 110 [.t 20,.t 26],oM 19 27,oEx 28 19 0,oEx 29 19 1,oM 9 28,oM 10 29] (oH [oM 30 10,oM 31 30,otm 32 9 31,otm 33 2 31,otc 34 138 [.t 32,.t 33] 31,oPa 35 31 34] (oQ 35 (oG [oM 36 7,oFa 37 0 3,oLf 38 37,oM 39 8,oIa 40 2 38 39,oFa 41 0 40,oLf 42 41,oP 43 (.mksl true 1 1 [.int .i64 0] [(0,(.t 42))]),oP 44 (.app 1 8 (.t 36) (.t 43)),oM 7 44]) .skip)))) (oG [oM 17 8,oBk 18 .add 17 1,oM 8 18])))))) (oH [oM 45 7,oM 6 45] .ret))))⟩
theorem jfc : wc Tryz.prog [3, 43] 240 = some wif := by kernel_rfl
def zig : AFn := ⟨23,[.t 2],(oH [oMb 2 false] (oS (oH [oM 4 0,oP 5 (.len true (.t 4)),oMi 6 0] (.block 0 (.loop (oH [oBt 7 .lss 6 5] (oS (oQ 7 .skip (.exit 0)) (oS (.block 1 (oH [oM 8 6,oM 3 8] (oH [oM 9 0,oM 10 3,oP 11 (.idx (.t 9) (.t 10)),oP 12 (.bin .lss (.t 11) (.k (.int .u8 97))),oM 13 12,ofm 14 0 13,ofm 15 3 13,oF 16 (.idx (.t 14) (.t 15)) 13,oF 17 (.bin .gtr (.t 16) (.k (.int .u8 122))) 13,oPo 18 13 17] (oQ 18 (oH [oMb 2 false] .ret) .skip)))) (oG [oBk 19 .add 6 1,oM 6 19]))))))) (oH [oM 20 0,oP 21 (.len true (.t 20)),oC 22 121 [.t 21,(kI 1),(kI 8)],oM 2 22] .ret)))⟩
theorem wfc : wc Tryz.prog [] 241 = some zig := by kernel_rfl
def jhh : AFn := ⟨47,[.t 2],(oH [oMb 2 false] (oS (oH [oM 5 0,oLn 6 5,oMi 7 0] (.block 0 (.loop (oH [oBt 8 .lss 7 6] (oS (oQ 8 .skip (.exit 0)) (oS (.block 1 (oH [oM 9 7,oIa 10 6 5 7,oLt 11 6 10,oP 4 (.alloc [.str [],.int .i64 0,.bool false,.int .i64 0,.int .i64 0,.str []]),oM 3 9,oSt 6 4 11] (oS (oH [oM 12 3,oBk 13 .eql 12 8,oM 14 13,ofa 15 0 4 14,ofl 16 15 14,ofc 17 241 [.t 16] 14,oF 18 (.un .not (.t 17)) 14,oPo 19 14 18,oM 20 19,ofa 21 1 4 20,ofl 22 21 20,oF 23 (.bin .neq (.t 22) (kI 1)) 20,ofm 24 23 20,ota 25 1 4 24,otl 26 25 24,oT 27 (.bin .neq (.t 26) (kI 2)) 24,oF 28 (.pick (.t 24) (.t 27) (.k (.bool false))) 20,oPo 29 20 28,oM 30 29,ofa 31 3 4 30,oF 32 (.load true 3 (.t 31)) 30,ofa 33 1 4 30,ofl 34 33 30,ofc 35 140 [.t 32,.t 34] 30,oF 36 (.un .not (.t 35)) 30,oPo 37 30 36] (oQ 37 (oH [oMb 2 false] .ret) .skip)) (oH [oM 38 0,oM 39 3,oP 40 (.slice 6 (.t 38) none (some (.t 39)) none),oP 41 (.mkfn 279 [] [.t 4]),oC 42 278 [.t 40,.t 41]] (oQ 42 (oH [oMb 2 false] .ret) .skip))))) (oG [oBk 43 .add 7 1,oM 7 43]))))))) (oH [oM 44 0,oLn 45 44,oBk 46 .gtr 45 0,oM 2 46] .ret)))⟩
theorem weh : wc Tryz.prog [] 242 = some jhh := by kernel_rfl
def zei : AFn := ⟨30,[.t 4],(oH [oMb 4 false] (oS (oH [oM 7 0,oLn 8 7,oMi 9 0] (.block 0 (.loop (oH [oBt 10 .lss 9 8] (oS (oQ 10 .skip (.exit 0)) (oS (.block 1 (oH [oM 11 9,oIa 12 1 7 9,oLf 13 12,oM 5 11,oM 6 13] (oH [oM 14 6,oM 15 1,oBk 16 .sub 15 1,oC 17 121 [.t 14,(kI 0),.t 16],oUn 18 17,oM 19 18,ofm 20 0 19,ofm 21 5 19,oF 22 (.slice 1 (.t 20) none (some (.t 21)) none) 19,ofm 23 6 19,ofc 24 280 [.t 22,.t 23] 19,oPo 25 19 24] (oQ 25 (oH [oMb 4 false] .ret) .skip)))) (oG [oBk 26 .add 9 1,oM 9 26]))))))) (oH [oM 27 0,oLn 28 27,oBk 29 .gtr 28 0,oM 4 29] .ret)))⟩
theorem jcv : wc Tryz.prog [] 243 = some zei := by kernel_rfl
def jau : AFn := ⟨9,[.t 4],(oH [oMb 4 false] (oH [oM 5 0,oM 6 1,oC 7 281 [.t 5,.t 6],oBk 8 .geq 7 0,oM 4 8] .ret))⟩
theorem z5 : wc Tryz.prog [] 244 = some jau := by kernel_rfl
def zfd : AFn := ⟨11,[.t 3],(oH [oMb 3 false] (oH [oFa 4 1 1,oLf 5 4,oM 6 0,oIa 7 6 5 6,oFa 8 2 7,oLf 9 8,oUn 10 9,oM 3 10] .ret))⟩
theorem wc6 : wc Tryz.prog [] 245 = some zfd := by kernel_rfl
def wbc : AFn := ⟨9,[.t 4],(oH [oMb 4 false] (oH [oM 5 0,oM 6 1,oC 7 282 [.t 5,.t 6],oBk 8 .geq 7 0,oM 4 8] .ret))⟩
theorem za2 : wc Tryz.prog [] 246 = some wbc := by kernel_rfl
def jfd : AFn := ⟨9,[.t 3],(oH [oBx 2 0,oMb 3 false] (oH [oFa 4 0 2,oLf 5 4,oLf 6 1,oC 7 243 [.t 5,.t 6],oUn 8 7,oM 3 8] .ret))⟩
theorem zc7 : wc Tryz.prog [2] 247 = some jfd := by kernel_rfl
def zbj : AFn := ⟨9,[.t 4],(oH [oMb 4 false] (oH [oM 5 0,oM 6 1,oC 7 283 [.t 5,.t 6],oBk 8 .geq 7 0,oM 4 8] .ret))⟩
theorem wab : wc Tryz.prog [] 248 = some zbj := by kernel_rfl
def wfd : AFn := ⟨9,[.t 3],(oH [oBx 2 0,oMb 3 false] (oH [oFa 4 0 2,oLf 5 4,oLf 6 1,oC 7 220 [.t 5,.t 6],oUn 8 7,oM 3 8] .ret))⟩
theorem jc7 : wc Tryz.prog [2] 249 = some wfd := by kernel_rfl
def zfe : AFn := ⟨8,[.t 3],(oH [oBx 2 0,oMb 3 false] (oH [oLt 4 5 2,oLf 5 1,oC 6 251 [.t 4,.t 5],oUn 7 6,oM 3 7] .ret))⟩
theorem wc7 : wc Tryz.prog [2] 250 = some zfe := by kernel_rfl
def jjz : AFn := ⟨24,[.t 4],(oH [oBx 2 0,oMb 4 false] (oH [oFa 5 0 2,oLf 6 5,oM 7 1,oC 8 243 [.t 6,.t 7],oM 9 8,ota 10 1 2 9,otl 11 10 9,otc 12 241 [.t 11] 9,oPa 13 9 12,oM 14 13,ota 15 2 2 14,otl 16 15 14,otc 17 121 [.t 16,(kI 0),(kI 2)] 14,oPa 18 14 17,oM 19 18,ota 20 3 2 19,otl 21 20 19,otc 22 121 [.t 21,(kI 0),(kI 2)] 19,oPa 23 19 22,oM 4 23] .ret))⟩
theorem whh : wc Tryz.prog [2] 251 = some jjz := by kernel_rfl
def wcg : AFn := ⟨19,[.t 4],(oH [oMi 4 0] (oS (oH [oM 6 0,oLn 7 6,oMi 8 0] (.block 0 (.loop (oH [oBt 9 .lss 8 7] (oS (oQ 9 .skip (.exit 0)) (oS (.block 1 (oH [oM 10 8,oM 5 10] (oH [oM 11 1,oM 12 0,oM 13 5,oIa 14 5 12 13,oLt 15 5 14,⟨some 16,.call (.t 11) [.t 15],none⟩] (oQ 16 (oH [oM 17 5,oM 4 17] .ret) .skip)))) (oG [oBk 18 .add 8 1,oM 8 18]))))))) (oH [oMi 4 (-1)] .ret)))⟩
theorem waa : wc Tryz.prog [] 252 = some wcg := by kernel_rfl
def jgc : AFn := ⟨29,[.t 6],(oH [oBx 3 0,oBx 4 1,oBx 5 2,oMb 6 false] (oS (oH [oLt 8 1 4,oFa 9 2 3,oLf 10 9,oLt 11 2 5,oC 12 284 [.t 8,.t 10,.t 11]] (oQ 12 (oH [oMb 6 false] .ret) .skip)) (oS (oH [oMi 7 0] (.block 0 (.loop (oS (oH [oM 13 7,oFa 14 3 3,oLf 15 14,oLn 16 15,oBt 17 .lss 13 16] (oQ 17 .skip (.exit 0))) (oS (.block 1 (oS (oD [[oLt 20 1 4,oFa 21 3 3,oLf 22 21,oM 23 7,oIa 24 1 22 23,oFa 25 0 24,oLf 26 25,oLt 27 2 5],[oC 28 284 [.t 20,.t 26,.t 27]]]) (oQ 28 (oH [oMb 6 false] .ret) .skip))) (oG [oM 18 7,oBk 19 .add 18 1,oM 7 19])))))) (oH [oMb 6 true] .ret))))⟩
theorem zdv : wc Tryz.prog [3, 4, 5] 253 = some jgc := by kernel_rfl
def jdv : AFn := ⟨9,[.t 3],(oH [oBx 2 0,oMb 3 false] (oH [oFa 4 0 2,oLf 5 4,oLf 6 1,oC 7 235 [.t 5,.t 6],oBk 8 .lss 7 1,oM 3 8] .ret))⟩
theorem zch : wc Tryz.prog [2] 254 = some jdv := by kernel_rfl
def zas : AFn := ⟨9,[.t 4],(oH [oMb 4 false] (oH [oM 5 0,oM 6 1,oC 7 285 [.t 5,.t 6],oBk 8 .geq 7 0,oM 4 8] .ret))⟩
theorem wak : wc Tryz.prog [] 255 = some zas := by kernel_rfl
def wgc : AFn := ⟨21,[.t 4],(oH [oMb 4 false] (oH [oM 8 0,oLf 9 1,oC 10 123 [.t 8,.t 9],oM 7 10,oEx 11 7 0,oEx 12 7 1,oM 5 11,oM 6 12] (oH [oM 13 6,oM 14 13,otm 15 0 14,ota 16 1 2 14,otl 17 16 14,otm 18 5 14,otc 19 199 [.t 15,.t 17,.t 18] 14,oPa 20 14 19,oM 4 20] .ret)))⟩
theorem wdv : wc Tryz.prog [] 256 = some wgc := by kernel_rfl
def jig : AFn := ⟨23,[.t 2],(oH [oMb 2 false] (oS (oH [oMi 3 0] (.block 0 (.loop (oS (oH [oM 4 3,oM 5 0,oP 6 (.len true (.t 5)),oBt 7 .lss 4 6] (oQ 7 .skip (.exit 0))) (oS (.block 1 (oH [oM 10 0,oM 11 3,oP 12 (.idx (.t 10) (.t 11)),oP 13 (.bin .lss (.t 12) (.k (.int .u8 97))),oM 14 13,ofm 15 0 14,ofm 16 3 14,oF 17 (.idx (.t 15) (.t 16)) 14,oF 18 (.bin .gtr (.t 17) (.k (.int .u8 122))) 14,oPo 19 14 18] (oQ 19 (oH [oMb 2 false] .ret) .skip))) (oG [oM 8 3,oBk 9 .add 8 1,oM 3 9])))))) (oH [oM 20 0,oP 21 (.len true (.t 20)),oC 22 97 [.t 21,(kI 1),(kI 8)],oM 2 22] .ret)))⟩
theorem jfe : wc Tryz.prog [] 257 = some jig := by kernel_rfl
def wig : AFn := ⟨33,[.t 4],(oH [oMb 4 false] (oS (oH [oMi 5 0] (.block 0 (.loop (oS (oH [oM 6 5,oM 7 0,oLn 8 7,oBt 9 .lss 6 8] (oQ 9 .skip (.exit 0))) (oS (.block 1 (oS (oD [[oM 12 0,oM 13 5,oIa 14 1 12 13,oLf 15 14,oM 16 1,oBk 17 .sub 16 1],[oC 18 97 [.t 15,(kI 0),.t 17]],[oUn 19 18],[oM 20 19],[ofm 21 0 20,ofm 22 5 20,oF 23 (.slice 1 (.t 21) none (some (.t 22)) none) 20,ofm 24 0 20,ofm 25 5 20,ofi 26 1 24 25 20,ofl 27 26 20],[ofc 28 286 [.t 23,.t 27] 20],[oPo 29 20 28]]) (oQ 29 (oH [oMb 4 false] .ret) .skip))) (oG [oM 10 5,oBk 11 .add 10 1,oM 5 11])))))) (oH [oM 30 0,oLn 31 30,oBk 32 .gtr 31 0,oM 4 32] .ret)))⟩
theorem wfe : wc Tryz.prog [] 258 = some wig := by kernel_rfl
def wi9 : AFn := ⟨22,[.t 4],(oH [oBx 2 0,oMi 4 0] (oS (oH [oMi 5 0] (.block 0 (.loop (oS (oH [oM 6 5,oFa 7 1 2,oLf 8 7,oLn 9 8,oBt 10 .lss 6 9] (oQ 10 .skip (.exit 0))) (oS (.block 1 (oH [oFa 13 1 2,oLf 14 13,oM 15 5,oIa 16 6 14 15,oFa 17 0 16,oLf 18 17,oM 19 1,oBt 20 .eql 18 19] (oQ 20 (oH [oM 21 5,oM 4 21] .ret) .skip))) (oG [oM 11 5,oBk 12 .add 11 1,oM 5 12])))))) (oH [oMi 4 (-1)] .ret)))⟩
theorem zgd : wc Tryz.prog [2] 259 = some wi9 := by kernel_rfl
def zja : AFn := ⟨44,[.t 4],(oH [oBx 2 0,oMb 4 false] (oS (oH [oFa 5 0 2,oLf 6 5] (.block 0 (oH [oBk 8 .eql 6 1,oM 7 8] (oQ 7 (oH [oFa 9 1 2,oLf 10 9,oM 11 1,oBk 12 .sub 11 1,oC 13 121 [.t 10,(kI 0),.t 12],oM 14 13,ota 15 2 2 14,oT 16 (.load true 3 (.t 15)) 14,oT 17 (.build [.int .i64 0,.int .i64 0,.str []] []) 14,oT 18 (.eq false true [.i,.i,.s] (.t 16) (.t 17)) 14,oPa 19 14 18,oM 4 19] .ret) (oH [oBk 21 .eql 6 2,oM 20 21] (oQ 20 (oH [oFa 22 1 2,oLf 23 22,oBk 24 .eql 23 0,oM 25 24,ota 26 2 2 25,oT 27 (.load true 3 (.t 26)) 25,otc 28 209 [.t 27] 25,oPa 29 25 28,oM 4 29] .ret) .skip)))))) (oH [oFa 30 0 2,oLf 31 30,oC 32 121 [.t 31,(kI 3),(kI 10)],oM 33 32,ota 34 1 2 33,otl 35 34 33,oT 36 (.bin .eql (.t 35) (kI 0)) 33,oPa 37 33 36,oM 38 37,ota 39 2 2 38,oT 40 (.load true 3 (.t 39)) 38,oT 41 (.build [.int .i64 0,.int .i64 0,.str []] []) 38,oT 42 (.eq false true [.i,.i,.s] (.t 40) (.t 41)) 38,oPa 43 38 42,oM 4 43] .ret)))⟩
theorem jgd : wc Tryz.prog [2] 260 = some zja := by kernel_rfl
def wb9 : AFn := ⟨19,[.t 4],(oH [oMi 4 0] (oS (oH [oM 6 0,oLn 7 6,oMi 8 0] (.block 0 (.loop (oH [oBt 9 .lss 8 7] (oS (oQ 9 .skip (.exit 0)) (oS (.block 1 (oH [oM 10 8,oM 5 10] (oH [oM 11 1,oM 12 0,oM 13 5,oIa 14 2 12 13,oLt 15 2 14,⟨some 16,.call (.t 11) [.t 15],none⟩] (oQ 16 (oH [oM 17 5,oM 4 17] .ret) .skip)))) (oG [oBk 18 .add 8 1,oM 8 18]))))))) (oH [oMi 4 (-1)] .ret)))⟩
theorem jbp : wc Tryz.prog [] 261 = some wb9 := by kernel_rfl
def jja : AFn := ⟨5,[.m 2 true 3],(oH [oP 2 (.alloc [.int .i64 0,.int .i64 0,.str []])] (oH [oM 3 0,oP 4 (.build [.int .i64 0,.int .i64 0,.str []] [(0,1,(kI 1)),(1,1,(.t 3))]),oSt 3 2 4] .ret))⟩
theorem wgd : wc Tryz.prog [] 262 = some jja := by kernel_rfl
def wja : AFn := ⟨4,[.t 2],(oH [oMi 2 0] (oS (oH [oM 3 0] (oQ 3 (oH [oMi 2 1] .ret) .skip)) (oH [oMi 2 0] .ret)))⟩
theorem zge : wc Tryz.prog [] 263 = some wja := by kernel_rfl
def wjz : AFn := ⟨8,[.m 2 true 3],(oH [oP 2 (.alloc [.int .i64 0,.int .i64 0,.str []])] (oS (oH [oM 3 0,oBk 4 .eql 3 2] (oQ 4 (oH [oP 5 (.build [.int .i64 0,.int .i64 0,.str []] []),oSt 3 2 5] .ret) .skip)) (oH [oM 6 0,oC 7 262 [.t 6],oSt 3 2 7] .ret)))⟩
theorem zhi : wc Tryz.prog [] 264 = some wjz := by kernel_rfl
def zj0 : AFn := ⟨10,[.t 2],(oH [oMi 2 0] (oS (oH [oM 3 0] (.block 0 (oH [oBk 5 .eql 3 0,oM 4 5] (oQ 4 (oH [oMi 2 1] .ret) (oH [oBk 7 .eql 3 1,oM 6 7] (oQ 6 (oH [oMi 2 0] .ret) (oH [oBk 9 .eql 3 2,oM 8 9] (oQ 8 (oH [oMi 2 2] .ret) .skip)))))))) (oH [oMi 2 (-1)] .ret)))⟩
theorem jhi : wc Tryz.prog [] 265 = some zj0 := by kernel_rfl
def zjb : AFn := ⟨66,[.m 6 true 3,.t 7],(oH [oBx 4 1,oBx 5 2,oP 6 (.alloc [.int .i64 0,.int .i64 0,.str []]),oMb 7 false] (oS (oH [oM 12 0] (.block 0 (oH [oBk 14 .eql 12 3,oM 13 14] (oQ 13 (oH [oLt 15 3 4,oLt 16 3 5,oC 17 287 [.t 15,.t 16],oC 18 264 [.t 17],oSt 3 6 18,oMb 7 true] .ret) (oH [oBk 20 .eql 12 4,oM 19 20] (oQ 19 (oH [oLt 21 3 4,oLt 22 3 5,oC 23 288 [.t 21,.t 22],oC 24 264 [.t 23],oSt 3 6 24,oMb 7 true] .ret) (oH [oBk 26 .eql 12 9,oM 25 26] (oQ 25 (oH [oLt 27 3 4,oLt 28 3 5,oC 29 289 [.t 27,.t 28,(kI 1)],oEx 30 29 0,oEx 31 29 1,oSt 3 6 30,oM 7 31] .ret) (oH [oBk 33 .eql 12 10,oM 32 33] (oQ 32 (oH [oLt 34 3 4,oLt 35 3 5,oC 36 289 [.t 34,.t 35,(kI (-1))],oEx 37 36 0,oEx 38 36 1,oSt 3 6 37,oM 7 38] .ret) .skip)))))))))) (oH [oLt 40 3 4,oC 41 229 [.t 40],oM 39 41,oEx 42 39 0,oEx 43 39 1,oM 8 42,oM 9 43] (oH [oLt 45 3 5,oC 46 229 [.t 45],oM 44 46,oEx 47 44 0,oEx 48 44 1,oM 10 47,oM 11 48] (oS (oH [oM 49 9,oUn 50 49,oM 51 50,ofm 52 11 51,oF 53 (.un .not (.t 52)) 51,oPo 54 51 53] (oQ 54 (oH [oP 55 (.build [.int .i64 0,.int .i64 0,.str []] []),oSt 3 6 55,oMb 7 false] .ret) .skip)) (oS (oH [oM 56 0,oBk 57 .eql 56 5] (oQ 57 (oH [oM 58 8,oM 59 10,oC 60 290 [.t 58,.t 59],oC 61 264 [.t 60],oSt 3 6 61,oMb 7 true] .ret) .skip)) (oH [oM 62 8,oM 63 10,oC 64 291 [.t 62,.t 63],oC 65 264 [.t 64],oSt 3 6 65,oMb 7 true] .ret)))))))⟩
theorem jge : wc Tryz.prog [4, 5] 266 = some zjb := by kernel_rfl
def jjb : AFn := ⟨13,[.t 2],(oH [oBx 1 0,oMi 2 0] (oS (oH [oFa 3 0 1,oLf 4 3] (.block 0 (oH [oBk 6 .eql 4 0,oM 5 6] (oQ 5 (oH [oMi 2 2] .ret) (oH [oBk 8 .eql 4 1,oM 7 8] (oQ 7 (oH [oFa 9 1 1,oLf 10 9,oBk 11 .neq 10 0,oC 12 276 [.t 11],oM 2 12] .ret) .skip)))))) (oH [oMi 2 (-1)] .ret)))⟩
theorem wge : wc Tryz.prog [1] 269 = some jjb := by kernel_rfl
def wjb : AFn := ⟨11,[.m 2 true 3,.t 3],(oH [oP 2 (.alloc [.int .i64 0,.int .i64 0,.str []]),oMb 3 false] (oS (oH [oM 4 0,oBk 5 .eql 4 2] (oQ 5 (oH [oP 6 (.build [.int .i64 0,.int .i64 0,.str []] []),oSt 3 2 6,oMb 3 true] .ret) .skip)) (oH [oM 7 0,oP 8 (.build [.int .i64 0,.int .i64 0,.str []] [(0,1,(kI 1)),(1,1,(.t 7))]),oM 9 0,oBk 10 .geq 9 0,oSt 3 2 8,oM 3 10] .ret)))⟩
theorem zgf : wc Tryz.prog [] 270 = some wjb := by kernel_rfl
def zih : AFn := ⟨13,[.t 4],(oH [oBx 2 0,oBx 3 1,oMi 4 0] (oS (oH [oLt 5 3 2,oLt 6 3 3,oC 7 293 [.t 5,.t 6],oUn 8 7] (oQ 8 (oH [oMi 4 2] .ret) .skip)) (oH [oLt 9 3 2,oLt 10 3 3,oP 11 (.eq false true [.i,.i,.s] (.t 9) (.t 10)),oC 12 276 [.t 11],oM 4 12] .ret)))⟩
theorem zff : wc Tryz.prog [2, 3] 271 = some zih := by kernel_rfl
def zjc : AFn := ⟨14,[.t 4],(oH [oBx 2 0,oBx 3 1,oMi 4 0] (oS (oH [oLt 5 3 2,oLt 6 3 3,oC 7 293 [.t 5,.t 6],oUn 8 7] (oQ 8 (oH [oMi 4 2] .ret) .skip)) (oH [oLt 9 3 2,oLt 10 3 3,oC 11 294 [.t 9,.t 10],oBk 12 .lss 11 0,oC 13 276 [.t 12],oM 4 13] .ret)))⟩
theorem jgf : wc Tryz.prog [2, 3] 272 = some zjc := by kernel_rfl
def jj0 : AFn := ⟨25,[.t 4],(oH [oMi 4 0] (oS (.block 0 (oH [oM 6 0,oM 7 1,oP 8 (.mksl true 1 2 [.int .i64 0] [(0,(.t 6)),(1,(.t 7))]),oC 9 295 [.t 8],oUn 10 9,oM 5 10] (oQ 5 (oH [oMi 4 (-1)] .ret) (oH [oM 12 0,oBk 13 .eql 12 0,oM 14 13,ofm 15 1 14,oF 16 (.bin .eql (.t 15) (kI 0)) 14,oPo 17 14 16,oM 11 17] (oQ 11 (oH [oMi 4 0] .ret) (oH [oM 19 0,oBk 20 .eql 19 1,oM 21 20,otm 22 1 21,oT 23 (.bin .eql (.t 22) (kI 1)) 21,oPa 24 21 23,oM 18 24] (oQ 18 (oH [oMi 4 1] .ret) .skip))))))) (oH [oMi 4 2] .ret)))⟩
theorem whi : wc Tryz.prog [8] 273 = some jj0 := by kernel_rfl
def jku : AFn := ⟨25,[.t 4],(oH [oMi 4 0] (oS (.block 0 (oH [oM 6 0,oM 7 1,oP 8 (.mksl true 1 2 [.int .i64 0] [(0,(.t 6)),(1,(.t 7))]),oC 9 295 [.t 8],oUn 10 9,oM 5 10] (oQ 5 (oH [oMi 4 (-1)] .ret) (oH [oM 12 0,oBk 13 .eql 12 1,oM 14 13,ofm 15 1 14,oF 16 (.bin .eql (.t 15) (kI 1)) 14,oPo 17 14 16,oM 11 17] (oQ 11 (oH [oMi 4 1] .ret) (oH [oM 19 0,oBk 20 .eql 19 0,oM 21 20,otm 22 1 21,oT 23 (.bin .eql (.t 22) (kI 0)) 21,oPa 24 21 23,oM 18 24] (oQ 18 (oH [oMi 4 0] .ret) .skip))))))) (oH [oMi 4 2] .ret)))⟩
theorem jih : wc Tryz.prog [8] 274 = some jku := by kernel_rfl
def wj0 : AFn := ⟨13,[.t 2],(oH [oMi 2 0] (oS (.block 0 (oH [oM 4 0,oP 5 (.mksl true 1 1 [.int .i64 0] [(0,(.t 4))]),oC 6 295 [.t 5],oUn 7 6,oM 3 7] (oQ 3 (oH [oMi 2 (-1)] .ret) (oH [oM 9 0,oBk 10 .eql 9 2,oM 8 10] (oQ 8 (oH [oMi 2 2] .ret) .skip))))) (oH [oM 11 0,oP 12 (.bin .sub (kI 1) (.t 11)),oM 2 12] .ret)))⟩
theorem zhj : wc Tryz.prog [5] 275 = some wj0 := by kernel_rfl
def jhj : AFn := ⟨4,[.t 2],(oH [oMi 2 0] (oS (oH [oM 3 0] (oQ 3 (oH [oMi 2 1] .ret) .skip)) (oH [oMi 2 0] .ret)))⟩
theorem jei : wc Tryz.prog [] 276 = some jhj := by kernel_rfl
def jjc : AFn := ⟨40,[.m 6 true 3,.t 7],(oH [oBx 3 0,oBx 4 1,oP 6 (.alloc [.int .i64 0,.int .i64 0,.str []]),oMb 7 false] (oS (.block 0 (oH [oFa 10 0 3,oLf 11 10,oBk 12 .eql 11 2,oM 13 12,ofa 14 0 4 13,ofl 15 14 13,oF 16 (.bin .eql (.t 15) (kI 2)) 13,oPo 17 13 16,oM 9 17] (oQ 9 (oH [oP 18 (.build [.int .i64 0,.int .i64 0,.str []] []),oSt 3 6 18,oMb 7 false] .ret) (oH [oFa 20 0 3,oLf 21 20,oBk 22 .eql 21 0,oM 23 22,ofa 24 0 4 23,ofl 25 24 23,oF 26 (.bin .eql (.t 25) (kI 0)) 23,oPo 27 23 26,oM 19 27] (oQ 19 (oH [oP 28 (.build [.int .i64 0,.int .i64 0,.str []] []),oSt 3 6 28,oMb 7 true] .ret) .skip))))) (oH [oFa 29 1 3,oLf 30 29,oM 31 2,oFa 32 1 4,oLf 33 32,oBt 34 .mul 31 33,oBt 35 .add 30 34,oP 36 (.build [.int .i64 0,.int .i64 0,.str []] [(0,1,(kI 1)),(1,1,(.t 35))]),oP 8 (.alloc [.int .i64 0,.int .i64 0,.str []]),oSt 3 8 36] (oS (oD [[oLt 37 3 8,oLt 38 3 8,oC 39 209 [.t 38]],[oSt 3 6 37],[oM 7 39]]) .ret))))⟩
theorem wgf : wc Tryz.prog [3, 4] 277 = some jjc := by kernel_rfl
def wbp : AFn := ⟨9,[.t 4],(oH [oMb 4 false] (oH [oM 5 0,oM 6 1,oC 7 296 [.t 5,.t 6],oBk 8 .geq 7 0,oM 4 8] .ret))⟩
theorem zbd : wc Tryz.prog [] 278 = some wbp := by kernel_rfl
def jff : AFn := ⟨9,[.t 3],(oH [oBx 2 0,oMb 3 false] (oH [oFa 4 0 2,oLf 5 4,oFa 6 0 1,oLf 7 6,oBt 8 .eql 5 7,oM 3 8] .ret))⟩
theorem zc8 : wc Tryz.prog [2] 279 = some jff := by kernel_rfl
def ja9 : AFn := ⟨9,[.t 4],(oH [oMb 4 false] (oH [oM 5 0,oM 6 1,oC 7 297 [.t 5,.t 6],oBk 8 .geq 7 0,oM 4 8] .ret))⟩
theorem way : wc Tryz.prog [] 280 = some ja9 := by kernel_rfl
def ja8 : AFn := ⟨19,[.t 4],(oH [oMi 4 0] (oS (oH [oM 6 0,oLn 7 6,oMi 8 0] (.block 0 (.loop (oH [oBt 9 .lss 8 7] (oS (oQ 9 .skip (.exit 0)) (oS (.block 1 (oH [oM 10 8,oM 5 10] (oH [oM 11 1,oM 12 0,oM 13 5,oIa 14 1 12 13,oLf 15 14,⟨some 16,.call (.t 11) [.t 15],none⟩] (oQ 16 (oH [oM 17 5,oM 4 17] .ret) .skip)))) (oG [oBk 18 .add 8 1,oM 8 18]))))))) (oH [oMi 4 (-1)] .ret)))⟩
theorem j8 : wc Tryz.prog [] 281 = some ja8 := by kernel_rfl
def zbq : AFn := ⟨19,[.t 4],(oH [oMi 4 0] (oS (oH [oM 6 0,oLn 7 6,oMi 8 0] (.block 0 (.loop (oH [oBt 9 .lss 8 7] (oS (oQ 9 .skip (.exit 0)) (oS (.block 1 (oH [oM 10 8,oM 5 10] (oH [oM 11 1,oM 12 0,oM 13 5,oIa 14 1 12 13,oLt 15 1 14,⟨some 16,.call (.t 11) [.t 15],none⟩] (oQ 16 (oH [oM 17 5,oM 4 17] .ret) .skip)))) (oG [oBk 18 .add 8 1,oM 8 18]))))))) (oH [oMi 4 (-1)] .ret)))⟩
theorem jbd : wc Tryz.prog [] 282 = some zbq := by kernel_rfl
def zbv : AFn := ⟨19,[.t 4],(oH [oMi 4 0] (oS (oH [oM 6 0,oLn 7 6,oMi 8 0] (.block 0 (.loop (oH [oBt 9 .lss 8 7] (oS (oQ 9 .skip (.exit 0)) (oS (.block 1 (oH [oM 10 8,oM 5 10] (oH [oM 11 1,oM 12 0,oM 13 5,oIa 14 1 12 13,oLt 15 1 14,⟨some 16,.call (.t 11) [.t 15],none⟩] (oQ 16 (oH [oM 17 5,oM 4 17] .ret) .skip)))) (oG [oBk 18 .add 8 1,oM 8 18]))))))) (oH [oMi 4 (-1)] .ret)))⟩
theorem jai : wc Tryz.prog [] 283 = some zbv := by kernel_rfl
def whj : AFn := ⟨37,[.t 6],(oH [oBx 3 0,oBx 5 2,oMb 6 false] (oH [oM 12 1,oFa 13 1 5,oLf 14 13,oC 15 110 [.t 12,.t 14],oM 11 15,oEx 16 11 0,oEx 17 11 1,oM 7 16,oM 8 17] (oS (oH [oM 18 8,oUn 19 18] (oQ 19 (oH [oMb 6 false] .ret) .skip)) (oH [oLt 20 1 3,oM 21 1,oM 22 7,oC 23 240 [.t 20,.t 21,.t 22],oM 9 23] (oS (oH [oMi 10 0] (.block 0 (.loop (oS (oH [oM 24 10,oM 25 9,oLn 26 25,oBt 27 .lss 24 26] (oQ 27 .skip (.exit 0))) (oS (.block 1 (oS (oD [[oM 30 9,oM 31 10,oIa 32 1 30 31,oLf 33 32,oFa 34 0 5,oLf 35 34],[oBt 36 .neq 33 35]]) (oQ 36 (oH [oMb 6 true] .ret) .skip))) (oG [oM 28 10,oBk 29 .add 28 1,oM 10 29])))))) (oH [oMb 6 false] .ret))))))⟩
theorem wei : wc Tryz.prog [3, 5] 284 = some whj := by kernel_rfl
def ja2 : AFn := ⟨19,[.t 4],(oH [oMi 4 0] (oS (oH [oM 6 0,oLn 7 6,oMi 8 0] (.block 0 (.loop (oH [oBt 9 .lss 8 7] (oS (oQ 9 .skip (.exit 0)) (oS (.block 1 (oH [oM 10 8,oM 5 10] (oH [oM 11 1,oM 12 0,oM 13 5,oIa 14 1 12 13,oLf 15 14,⟨some 16,.call (.t 11) [.t 15],none⟩] (oQ 16 (oH [oM 17 5,oM 4 17] .ret) .skip)))) (oG [oBk 18 .add 8 1,oM 8 18]))))))) (oH [oMi 4 (-1)] .ret)))⟩
theorem jas : wc Tryz.prog [] 285 = some ja2 := by kernel_rfl
def wjc : AFn := ⟨18,[.t 4],(oH [oMb 4 false] (oS (oH [oMi 5 0] (.block 0 (.loop (oS (oH [oM 6 5,oM 7 0,oLn 8 7,oBt 9 .lss 6 8] (oQ 9 .skip (.exit 0))) (oS (.block 1 (oH [oM 12 0,oM 13 5,oIa 14 1 12 13,oLf 15 14,oM 16 1,oBt 17 .eql 15 16] (oQ 17 (oH [oMb 4 true] .ret) .skip))) (oG [oM 10 5,oBk 11 .add 10 1,oM 5 11])))))) (oH [oMb 4 false] .ret)))⟩
theorem zgg : wc Tryz.prog [] 286 = some wjc := by kernel_rfl
def wih : AFn := ⟨27,[.t 4],(oH [oBx 2 0,oBx 3 1,oMi 4 0] (oS (oH [oLt 5 3 2,oC 6 133 [.t 5],oUn 7 6,oM 8 7,oF 9 (.load true 3 (.t 3)) 8,ofc 10 133 [.t 9] 8,oF 11 (.un .not (.t 10)) 8,oPo 12 8 11,oM 13 12,ofa 14 0 2 13,ofl 15 14 13,oF 16 (.bin .eql (.t 15) (kI 0)) 13,oPo 17 13 16,oM 18 17,ofa 19 0 3 18,ofl 20 19 18,oF 21 (.bin .eql (.t 20) (kI 0)) 18,oPo 22 18 21] (oQ 22 (oH [oMi 4 2] .ret) .skip)) (oH [oLt 23 3 2,oLt 24 3 3,oP 25 (.eq false true [.i,.i,.s] (.t 23) (.t 24)),oC 26 263 [.t 25],oM 4 26] .ret)))⟩
theorem wff : wc Tryz.prog [2, 3] 287 = some wih := by kernel_rfl
def zjd : AFn := ⟨28,[.t 4],(oH [oBx 2 0,oBx 3 1,oMi 4 0] (oS (oH [oLt 5 3 2,oC 6 133 [.t 5],oUn 7 6,oM 8 7,oF 9 (.load true 3 (.t 3)) 8,ofc 10 133 [.t 9] 8,oF 11 (.un .not (.t 10)) 8,oPo 12 8 11,oM 13 12,ofa 14 0 2 13,ofl 15 14 13,oF 16 (.bin .eql (.t 15) (kI 0)) 13,oPo 17 13 16,oM 18 17,ofa 19 0 3 18,ofl 20 19 18,oF 21 (.bin .eql (.t 20) (kI 0)) 18,oPo 22 18 21] (oQ 22 (oH [oMi 4 2] .ret) .skip)) (oH [oLt 23 3 2,oLt 24 3 3,oC 25 298 [.t 23,.t 24],oBk 26 .lss 25 0,oC 27 263 [.t 26],oM 4 27] .ret)))⟩
theorem jgg : wc Tryz.prog [2, 3] 288 = some zjd := by kernel_rfl
def jjd : AFn := ⟨38,[.m 6 true 3,.t 7],(oH [oBx 3 0,oBx 4 1,oP 6 (.alloc [.int .i64 0,.int .i64 0,.str []]),oMb 7 false] (oS (oH [oFa 9 0 3,oLf 10 9,oBk 11 .eql 10 2,oM 12 11,ofa 13 0 4 12,ofl 14 13 12,oF 15 (.bin .eql (.t 14) (kI 2)) 12,oPo 16 12 15] (oQ 16 (oH [oP 17 (.build [.int .i64 0,.int .i64 0,.str []] []),oSt 3 6 17,oMb 7 false] .ret) .skip)) (oS (oH [oFa 18 0 3,oLf 19 18,oBk 20 .eql 19 0,oM 21 20,ofa 22 0 4 21,ofl 23 22 21,oF 24 (.bin .eql (.t 23) (kI 0)) 21,oPo 25 21 24] (oQ 25 (oH [oP 26 (.build [.int .i64 0,.int .i64 0,.str []] []),oSt 3 6 26,oMb 7 true] .ret) .skip)) (oH [oFa 27 1 3,oLf 28 27,oM 29 2,oFa 30 1 4,oLf 31 30,oBt 32 .mul 29 31,oBt 33 .add 28 32,oC 34 262 [.t 33],oP 8 (.alloc [.int .i64 0,.int .i64 0,.str []]),oSt 3 8 34] (oS (oD [[oLt 35 3 8,oLt 36 3 8,oC 37 133 [.t 36]],[oSt 3 6 35],[oM 7 37]]) .ret)))))⟩
theorem wgg : wc Tryz.prog [3, 4] 289 = some jjd := by kernel_rfl
def zj1 : AFn := ⟨28,[.t 4],(oH [oMi 4 0] (oS (.block 0 (oH [oM 6 0,oC 7 299 [.t 6],oUn 8 7,oM 9 8,ofm 10 1 9,ofc 11 299 [.t 10] 9,oF 12 (.un .not (.t 11)) 9,oPo 13 9 12,oM 5 13] (oQ 5 (oH [oMi 4 (-1)] .ret) (oH [oM 15 0,oBk 16 .eql 15 0,oM 17 16,ofm 18 1 17,oF 19 (.bin .eql (.t 18) (kI 0)) 17,oPo 20 17 19,oM 14 20] (oQ 14 (oH [oMi 4 0] .ret) (oH [oM 22 0,oBk 23 .eql 22 1,oM 24 23,otm 25 1 24,oT 26 (.bin .eql (.t 25) (kI 1)) 24,oPa 27 24 26,oM 21 27] (oQ 21 (oH [oMi 4 1] .ret) .skip))))))) (oH [oMi 4 2] .ret)))⟩
theorem zhk : wc Tryz.prog [] 290 = some zj1 := by kernel_rfl
def wku : AFn := ⟨28,[.t 4],(oH [oMi 4 0] (oS (.block 0 (oH [oM 6 0,oC 7 299 [.t 6],oUn 8 7,oM 9 8,ofm 10 1 9,ofc 11 299 [.t 10] 9,oF 12 (.un .not (.t 11)) 9,oPo 13 9 12,oM 5 13] (oQ 5 (oH [oMi 4 (-1)] .ret) (oH [oM 15 0,oBk 16 .eql 15 1,oM 17 16,ofm 18 1 17,oF 19 (.bin .eql (.t 18) (kI 1)) 17,oPo 20 17 19,oM 14 20] (oQ 14 (oH [oMi 4 1] .ret) (oH [oM 22 0,oBk 23 .eql 22 0,oM 24 23,otm 25 1 24,oT 26 (.bin .eql (.t 25) (kI 0)) 24,oPa 27 24 26,oM 21 27] (oQ 21 (oH [oMi 4 0] .ret) .skip))))))) (oH [oMi 4 2] .ret)))⟩
theorem zii : wc Tryz.prog [] 291 = some wku := by kernel_rfl
def zgh : AFn := ⟨21,[.t 4],(oH [oBx 2 0,oBx 3 1,oMb 4 false] (oH [oLt 5 3 2,oC 6 209 [.t 5],oM 7 6,oT 8 (.load true 3 (.t 3)) 7,otc 9 209 [.t 8] 7,oPa 10 7 9,oM 11 10,ota 12 0 2 11,otl 13 12 11,oT 14 (.bin .neq (.t 13) (kI 0)) 11,oPa 15 11 14,oM 16 15,ota 17 0 3 16,otl 18 17 16,oT 19 (.bin .neq (.t 18) (kI 0)) 16,oPa 20 16 19,oM 4 20] .ret))⟩
theorem zdw : wc Tryz.prog [2, 3] 293 = some zgh := by kernel_rfl
def wjd : AFn := ⟨22,[.t 4],(oH [oBx 2 0,oBx 3 1,oMi 4 0] (oS (oD [[oFa 5 0 2,oLf 6 5,oFa 7 0 3,oLf 8 7,oC 9 301 [.t 6,.t 8],oFa 10 1 2,oLf 11 10,oFa 12 1 3,oLf 13 12,oC 14 301 [.t 11,.t 13],oFa 15 2 2,oLf 16 15,oFa 17 2 3,oLf 18 17],[oC 19 302 [.t 16,.t 18]],[oP 20 (.mksl true 1 3 [.int .i64 0] [(0,(.t 9)),(1,(.t 14)),(2,(.t 19))])],[oC 21 300 [.t 20]],[oM 4 21]]) .ret))⟩
theorem jgh : wc Tryz.prog [2, 3, 20] 294 = some wjd := by kernel_rfl
def zfg : AFn := ⟨6,[.t 2],(oH [oMb 2 false] (oH [oM 3 0,oC 4 244 [.t 3,(.f 303)],oUn 5 4,oM 2 5] .ret))⟩
theorem jc8 : wc Tryz.prog [] 295 = some zfg := by kernel_rfl
def zca : AFn := ⟨19,[.t 4],(oH [oMi 4 0] (oS (oH [oM 6 0,oLn 7 6,oMi 8 0] (.block 0 (.loop (oH [oBt 9 .lss 8 7] (oS (oQ 9 .skip (.exit 0)) (oS (.block 1 (oH [oM 10 8,oM 5 10] (oH [oM 11 1,oM 12 0,oM 13 5,oIa 14 6 12 13,oLt 15 6 14,⟨some 16,.call (.t 11) [.t 15],none⟩] (oQ 16 (oH [oM 17 5,oM 4 17] .ret) .skip)))) (oG [oBk 18 .add 8 1,oM 8 18]))))))) (oH [oMi 4 (-1)] .ret)))⟩
theorem jbq : wc Tryz.prog [] 296 = some zca := by kernel_rfl
def jbk : AFn := ⟨19,[.t 4],(oH [oMi 4 0] (oS (oH [oM 6 0,oLn 7 6,oMi 8 0] (.block 0 (.loop (oH [oBt 9 .lss 8 7] (oS (oQ 9 .skip (.exit 0)) (oS (.block 1 (oH [oM 10 8,oM 5 10] (oH [oM 11 1,oM 12 0,oM 13 5,oIa 14 1 12 13,oLf 15 14,oBt 16 .eql 11 15] (oQ 16 (oH [oM 17 5,oM 4 17] .ret) .skip)))) (oG [oBk 18 .add 8 1,oM 8 18]))))))) (oH [oMi 4 (-1)] .ret)))⟩
theorem wa9 : wc Tryz.prog [] 297 = some jbk := by kernel_rfl
def jhk : AFn := ⟨36,[.t 4],(oH [oBx 2 0,oBx 3 1,oMi 4 0] (oS (.block 0 (oH [oFa 6 0 2,oLf 7 6,oFa 8 0 3,oLf 9 8,oBt 10 .lss 7 9,oM 11 10,ofa 12 0 2 11,ofl 13 12 11,ofa 14 0 3 11,ofl 15 14 11,oF 16 (.bin .eql (.t 13) (.t 15)) 11,ofm 17 16 11,ota 18 1 2 17,otl 19 18 17,ota 20 1 3 17,otl 21 20 17,oT 22 (.bin .lss (.t 19) (.t 21)) 17,otm 23 22 17,ofa 24 2 2 23,ofl 25 24 23,ofa 26 2 3 23,ofl 27 26 23,oF 28 (.bin .lss (.t 25) (.t 27)) 23,oT 29 (.pick (.t 23) (.k (.bool true)) (.t 28)) 17,oF 30 (.pick (.t 17) (.t 29) (.k (.bool false))) 11,oPo 31 11 30,oM 5 31] (oQ 5 (oH [oMi 4 (-1)] .ret) (oH [oLt 33 3 2,oLt 34 3 3,oP 35 (.eq false true [.i,.i,.s] (.t 33) (.t 34)),oM 32 35] (oQ 32 (oH [oMi 4 0] .ret) .skip))))) (oH [oMi 4 1] .ret)))⟩
theorem zej : wc Tryz.prog [2, 3] 298 = some jhk := by kernel_rfl
def zje : AFn := ⟨5,[.t 2],(oH [oMb 2 false] (oH [oM 3 0,oC 4 97 [.t 3,(kI 0),(kI 2)],oM 2 4] .ret))⟩
theorem wgh : wc Tryz.prog [] 299 = some zje := by kernel_rfl
def jje : AFn := ⟨18,[.t 2],(oH [oMi 2 0] (oH [oMi 3 0] (oS (oH [oM 6 0,oLn 7 6,oMi 8 0] (.block 0 (.loop (oH [oBt 9 .lss 8 7] (oS (oQ 9 .skip (.exit 0)) (oS (.block 1 (oH [oIa 10 1 6 8,oLf 11 10,oM 5 11] (oH [oM 12 5,oM 13 3,oBt 14 .neq 12 13] (oQ 14 (oH [oM 15 5,oM 2 15] .ret) .skip)))) (oG [oBk 16 .add 8 1,oM 8 16]))))))) (oH [oM 17 3,oM 2 17] .ret))))⟩
theorem zgi : wc Tryz.prog [] 300 = some jje := by kernel_rfl
def wc8 : AFn := ⟨20,[.t 4],(oH [oMi 4 0] (oH [oM 7 0,oC 8 304 [.t 7],oM 5 8] (oH [oM 9 1,oC 10 304 [.t 9],oM 6 10] (oS (oH [oM 11 5] (oQ 11 (oS (oH [oM 12 6] (oQ 12 (oH [oMi 4 0] .ret) .skip)) (oH [oMi 4 (-1)] .ret)) .skip)) (oS (oH [oM 13 6] (oQ 13 (oH [oMi 4 1] .ret) .skip)) (oS (oH [oM 14 0,oM 15 1,oBt 16 .lss 14 15] (oQ 16 (oH [oMi 4 (-1)] .ret) .skip)) (oS (oH [oM 17 0,oM 18 1,oBt 19 .gtr 17 18] (oQ 19 (oH [oMi 4 1] .ret) .skip)) (oH [oMi 4 0] .ret))))))))⟩
theorem jca : wc Tryz.prog [] 301 = some wc8 := by kernel_rfl
def wcv : AFn := ⟨20,[.t 4],(oH [oMi 4 0] (oH [oM 7 0,oC 8 305 [.t 7],oM 5 8] (oH [oM 9 1,oC 10 305 [.t 9],oM 6 10] (oS (oH [oM 11 5] (oQ 11 (oS (oH [oM 12 6] (oQ 12 (oH [oMi 4 0] .ret) .skip)) (oH [oMi 4 (-1)] .ret)) .skip)) (oS (oH [oM 13 6] (oQ 13 (oH [oMi 4 1] .ret) .skip)) (oS (oH [oM 14 0,oM 15 1,oBt 16 .lss 14 15] (oQ 16 (oH [oMi 4 (-1)] .ret) .skip)) (oS (oH [oM 17 0,oM 18 1,oBt 19 .gtr 17 18] (oQ 19 (oH [oMi 4 1] .ret) .skip)) (oH [oMi 4 0] .ret))))))))⟩
theorem zb1 : wc Tryz.prog [] 302 = some wcv := by kernel_rfl
def jdw : AFn := ⟨6,[.t 2],(oH [oMb 2 false] (oH [oM 3 0,oC 4 121 [.t 3,(kI 0),(kI 2)],oUn 5 4,oM 2 5] .ret))⟩
theorem jch : wc Tryz.prog [] 303 = some jdw := by kernel_rfl
def jej : AFn := ⟨6,[.t 2],(oH [oMb 2 false] (oH [oM 3 0,oM 4 0,oBt 5 .neq 3 4,oM 2 5] .ret))⟩
theorem zcw : wc Tryz.prog [] 304 = some jej := by kernel_rfl
def wdw : AFn := ⟨6,[.t 2],(oH [oMb 2 false] (oH [oM 3 0,oM 4 0,oBt 5 .neq 3 4,oM 2 5] .ret))⟩
theorem wch : wc Tryz.prog [] 305 = some wdw := by kernel_rfl
set_option linter.unusedSimpArgs false
theorem mixed : Tryz.prog.follows .mixedOrders = true := Tryz.checked.mixed
structure Val where
 k : Int
 n : Int
 s : List UInt8
 deriving DecidableEq
def encV (v : Val) : List Ce := [.int .i64 v.k, .int .i64 v.n, .str v.s]
def isIn (n lo hi : Int) : Bool := decide (lo <= n) && decide (n <= hi)
def zr (v : Val) : Bool := (v.k == 0 && v.n == 0 && v.s == []) || (v.k == 1 && isIn v.n (-1000000000) 1000000000 && v.s == []) || (v.k == 2 && v.n == 0 && decide ((v.s.length : Int) <= 12))
def cmpI (a b : Int) : Int := if a < b then -1 else if b < a then 1 else 0
def cmpS (a b : List UInt8) : Int := if zby a b then -1 else if a == b then 0 else 1
def orI : List Int -> Int
 | [] => 0
 | n :: r => if n = 0 then orI r else n
def encI (n : Int) : List Ce := [.int .i64 n]
def wlg (v w : Val) : Int := orI [cmpI v.k w.k, cmpI v.n w.n, cmpS v.s w.s]
theorem jgi (n lo hi : Int) : Pure Tryz.prog 121 [.c (.int .i64 n), .c (.int .i64 lo), .c (.int .i64 hi)] (.c (.bool (isIn n lo hi))) := by
 refine Pure.run mixed ji2 (yaa rfl) fun σ hS hA => ?_
 clear hS hA
 repeat' first|refine yaG ?_|exact yaF|refine yaS ?_ ?_<;>intro _
 all_goals refine .ret rfl (.bool ?_)
 all_goals (simp_all [isIn] <;> omega)
theorem wau (n lo hi : Int) : Pure Tryz.prog 97 [.c (.int .i64 n), .c (.int .i64 lo), .c (.int .i64 hi)] (.c (.bool (isIn n lo hi))) := by
 refine Pure.run mixed jg9 (yaa rfl) fun σ hS hA => ?_
 clear hS hA
 repeat' first|refine yaG ?_|exact yaF|refine yaS ?_ ?_<;>intro _
 all_goals refine .ret rfl (.bool ?_)
 all_goals (simp_all [isIn] <;> omega)
theorem jcp (v : Val) : Pure Tryz.prog 209 [.agg (encV v)] (.c (.bool (zr v))) := by
 refine Pure.run mixed wga (yaa rfl) fun σ hS hA => ?_
 clear hS hA
 repeat' first|refine yaG ?_|((first|apply Go.pcallB|apply Go.spcallB|apply Qg.pcallB);(iterate 3 exact rfl);exact jgi _ _ _;intro _ _)|exact yaF|refine yaS ?_ ?_<;>intro _
 all_goals refine .ret rfl (.bool ?_)
 all_goals simp_all [zr]
theorem zaf (v : Val) : Pure Tryz.prog 133 [.agg (encV v)] (.c (.bool (zr v))) := by
 refine Pure.run mixed jf2 (yaa rfl) fun σ hS hA => ?_
 clear hS hA
 repeat' first|refine yaG ?_|((first|apply Go.pcallB|apply Go.spcallB|apply Qg.pcallB);(iterate 3 exact rfl);exact wau _ _ _;intro _ _)|exact yaF|refine yaS ?_ ?_<;>intro _
 all_goals refine .ret rfl (.bool ?_)
 all_goals simp_all [zr]
theorem wmf (n : Int) : Pure Tryz.prog 304 [.c (.int .i64 n)] (.c (.bool false)) := by
 refine Pure.run mixed zcw (yaa rfl) fun σ hS hA => ?_
 repeat' first|refine yaG ?_|exact yaF|refine yaS ?_ ?_<;>intro _
 all_goals refine .ret rfl (.bool (by simp))
theorem zlh (n : List UInt8) : Pure Tryz.prog 305 [.c (.str n)] (.c (.bool false)) := by
 refine Pure.run mixed wch (yaa rfl) fun σ hS hA => ?_
 repeat' first|refine yaG ?_|exact yaF|refine yaS ?_ ?_<;>intro _
 all_goals refine .ret rfl (.bool (by simp))
theorem zkv (a b : Int) : Pure Tryz.prog 301 [.c (.int .i64 a), .c (.int .i64 b)] (.c (.int .i64 (cmpI a b))) := by
 refine Pure.run mixed jca (yaa rfl) fun σ hS hA => ?_
 clear hS hA
 repeat' first|refine yaG ?_|((first|apply yQ|apply yR|apply yS);(iterate 3 exact rfl);exact wmf _)|exact yaF|refine yaS ?_ ?_<;>intro _
 all_goals refine .ret rfl (.int ?_)
 all_goals unfold cmpI
 all_goals repeat' split
 all_goals omega
theorem jj1 (a b : List UInt8) : Pure Tryz.prog 302 [.c (.str a), .c (.str b)] (.c (.int .i64 (cmpS a b))) := by
 refine Pure.run mixed zb1 (yaa rfl) fun σ hS hA => ?_
 clear hS hA
 repeat' first|refine yaG ?_|((first|apply yQ|apply yR|apply yS);(iterate 3 exact rfl);exact zlh _)|exact yaF|refine yaS ?_ ?_<;>intro _
 all_goals refine .ret rfl (.int ?_)
 all_goals unfold cmpS
 all_goals repeat' split
 all_goals simp_all
theorem zn1 (xs : List Int) (hx : xs.length <= 34359738368) : Pure Tryz.prog 300 [.c (.fz (xs.map encI))] (.c (.int .i64 (orI xs))) := by
 refine Pure.run mixed zgi (yaa rfl) fun σ hS hA => ?_
 clear hS hA
 repeat' first|refine yaG ?_|exact yaF|refine yaS ?_ ?_<;>intro _
 refine Go.keep [3, 6, 7, 8] (Go.loops (I := fun m fr τ => ∃ i : Nat, ∃ n L : Int, m = xs.length - i /\ i <= xs.length /\ n = i /\ L = xs.length /\ orI xs = orI (xs.drop i) /\
  fr = [(3, .c (.int .i64 0)), (6, .c (.fz (xs.map encI))), (7, .c (.int .i64 L)), (8, .c (.int .i64 n))] /\ τ = E σ []) ?_ _ _ _ ⟨0, _, _, rfl, Nat.zero_le _, rfl, by simp, rfl, rfl, rfl⟩)
 rintro m fr τ ⟨i, n, L, rfl, hi, hn, hL, hs, rfl, rfl⟩ hrec
 repeat' first|refine yaG ?_|((first|apply yG|apply yH|apply yI);exact rfl;(first|exact yX (enc := encI) rfl rfl hn (by omega) rfl))|exact yaF|refine yaS ?_ ?_<;>intro _
 ·refine .ret rfl (.int ?_)
  rw [hs, yac (by omega)]
  simp [orI, *]
 ·refine Go.keep [3, 6, 7, 8] (hrec _ _ _ ?_ ⟨i + 1, _, _, rfl, ?_, ?_, hL, ?_, rfl, rfl⟩)
  ·omega
  ·omega
  ·exact (wb hn (by omega))
  ·rw [hs, yac (by omega)]
   simp [orI, *]
 ·refine .ret rfl (.int ?_)
  rw [hs, yad (by omega)]
  rfl
theorem zmg (v w : Val) : Pure Tryz.prog 294 [.agg (encV v), .agg (encV w)] (.c (.int .i64 (wlg v w))) := by
 refine Pure.run mixed jgh (yaa rfl) fun σ hS hA => ?_
 clear hS hA
 repeat' first|refine yaG ?_|((first|apply yQ|apply yR|apply yS);(iterate 3 exact rfl);exact zkv _ _)|((first|apply yQ|apply yR|apply yS);(iterate 3 exact rfl);exact jj1 _ _)|((first|apply yQ|apply yR|apply yS);(iterate 3 exact rfl);exact zn1 [cmpI v.k w.k, cmpI v.n w.n, cmpS v.s w.s] (by simp))|exact yaF|refine yaS ?_ ?_<;>intro _
 exact .ret rfl (.int rfl)
def jmg (v w : Val) : Int := if v.k < w.k \/ (v.k = w.k /\ (v.n < w.n \/ zby v.s w.s = true)) then -1 else if v = w then 0 else 1
theorem whp (v w : Val) : Pure Tryz.prog 298 [.agg (encV v), .agg (encV w)] (.c (.int .i64 (jmg v w))) := by
 refine Pure.run mixed zej (yaa rfl) fun σ hS hA => ?_
 clear hS hA
 repeat' first|refine yaG ?_|exact yaF|refine yaS ?_ ?_<;>intro _
 all_goals refine .ret rfl (.int ?_)
 all_goals obtain ⟨vk, vn, vs⟩ := v
 all_goals obtain ⟨wk, wn, ws⟩ := w
 all_goals (simp_all [jmg] <;> split <;> simp_all <;> omega)
def jq (xs : List Val) (most : Int) : Bool := decide ((xs.length : Int) <= most) && xs.all zr
theorem jkv (xs : List Val) (most : Int) (hm : 0 <= most) (hx : xs.length <= 34359738368) : Pure Tryz.prog 236 [.c (.fz (xs.map encV)), .c (.int .i64 most)] (.c (.bool (jq xs most))) := by
 refine Pure.run mixed jeh (yaa rfl) fun σ hS hA => ?_
 clear hS hA
 repeat' first|refine yaG ?_|exact yaF|refine yaS ?_ ?_<;>intro _
 refine Go.keep [1, 7, 8, 9] (Go.loops (I := fun m fr τ => ∃ i : Nat, ∃ n L : Int, m = xs.length - i /\ i <= xs.length /\ n = i /\ L = xs.length /\ ((i : Int) <= most /\ jq xs most = (decide ((xs.length : Int) <= most) && (xs.drop i).all zr)) /\
  fr = [(1, .c (.int .i64 most)), (7, .c (.fz (xs.map encV))), (8, .c (.int .i64 L)), (9, .c (.int .i64 n))] /\ τ = E σ []) ?_ _ _ _ ⟨0, _, _, rfl, Nat.zero_le _, rfl, by simp, ⟨hm, rfl⟩, rfl, rfl⟩)
 rintro m fr τ ⟨i, n, L, rfl, hi, hn, hL, ⟨hs1, hs⟩, rfl, rfl⟩ hrec
 repeat' first|refine yaG ?_|((first|apply yG|apply yH|apply yI);exact rfl;(first|exact yX (enc := encV) rfl rfl hn (by omega) rfl))|((first|apply Go.pcallB|apply Go.spcallB|apply Qg.pcallB);(iterate 3 exact rfl);exact jcp xs[i];intro _ _)|exact yaF|refine yaS ?_ ?_<;>intro _
 ·refine .ret rfl (.bool ?_)
  clear hrec
  rw [hs]
  simp at *
  omega
 ·refine .ret rfl (.bool ?_)
  clear hrec
  rw [hs, yac (by omega), ybq]
  simp_all
 ·refine Go.keep [1, 7, 8, 9] (hrec _ _ _ (by omega) ⟨i + 1, _, _, rfl, by omega, (wb hn (by omega)), hL, ⟨?_, ?_⟩, rfl, rfl⟩)
  ·clear hrec
   simp at *
   omega
  ·rw [hs, yac (by omega), ybq]
   clear hrec
   simp_all
 ·refine .ret rfl (.bool ?_)
  rw [hs, yad (by omega)]
  simp
  omega
theorem jii (v w : Val) : Pure Tryz.prog 71 [.agg (encV v), .agg (encV w)] (.c (.bool (v == w))) := by
 refine Pure.run mixed jfw (yaa rfl) fun σ hS hA => ?_
 clear hS hA
 repeat' first|refine yaG ?_|exact yaF|refine yaS ?_ ?_<;>intro _
 all_goals refine .ret rfl (.bool ?_)
 all_goals obtain ⟨vk, vn, vs⟩ := v
 all_goals obtain ⟨wk, wn, ws⟩ := w
 all_goals simp_all
theorem jlh (xs ys : List Val) (hx : xs.length <= 34359738368) : Pure Tryz.prog 23 [.c (.fz (xs.map encV)), .c (.fz (ys.map encV))] (.c (.bool (xs == ys))) := by
 refine Pure.run mixed zey (yaa rfl) fun σ hS hA => ?_
 clear hS hA
 repeat' first|refine yaG ?_|exact yaF|refine yaS ?_ ?_<;>intro _
 ·refine .ret rfl (.bool ?_)
  rw [eq_comm, beq_eq_false_iff_ne]
  rintro rfl
  simp at *
 refine Go.keep [0, 1, 5] (Go.loops (I := fun m fr τ => ∃ i : Nat, ∃ n : Int, m = xs.length - i /\ i <= xs.length /\ n = i /\ (xs.length = ys.length /\ (xs == ys) = (xs.drop i == ys.drop i)) /\
  fr = [(0, .c (.fz (xs.map encV))), (1, .c (.fz (ys.map encV))), (5, .c (.int .i64 n))] /\ τ = E σ []) ?_ _ _ _ ⟨0, _, rfl, yae _, rfl, ⟨by omega, rfl⟩, rfl, rfl⟩)
 rintro m fr τ ⟨i, n, rfl, hi, hn, ⟨hl, hs⟩, rfl, rfl⟩ hrec
 repeat' first|refine yaG ?_|((first|apply yG|apply yH|apply yI);exact rfl;(first|exact yX (enc := encV) rfl rfl hn (by first|omega|(clear hrec;simp only [List.length_map] at *;omega)) rfl))|((first|apply Go.pcallB|apply Go.spcallB|apply Qg.pcallB);(iterate 3 exact rfl);exact jii xs[i] ys[i];intro _ _)|exact yaF|refine yaS ?_ ?_<;>intro _
 ·refine .ret rfl (.bool ?_)
  rw [hs, List.drop_eq_getElem_cons (i := i) (by first | omega | (clear hrec; simp only [List.length_map] at *; omega)), List.drop_eq_getElem_cons (i := i) (by first | omega | (clear hrec; simp only [List.length_map] at *; omega)), List.cons_beq_cons]
  clear hrec
  simp_all
 ·refine Go.keep [0, 1, 5] (hrec _ _ _ (by first | omega | (clear hrec; simp only [List.length_map] at *; omega)) ⟨i + 1, _, rfl, (by first | omega | (clear hrec; simp only [List.length_map] at *; omega)), (wb hn (by omega)), ⟨hl, ?_⟩, rfl, rfl⟩)
  rw [hs, List.drop_eq_getElem_cons (i := i) (by first | omega | (clear hrec; simp only [List.length_map] at *; omega)), List.drop_eq_getElem_cons (i := i) (by first | omega | (clear hrec; simp only [List.length_map] at *; omega)), List.cons_beq_cons]
  clear hrec
  simp_all
 ·refine .ret rfl (.bool ?_)
  rw [hs, List.drop_eq_nil_of_le (by first | omega | (clear hrec; simp only [List.length_map] at *; omega)), List.drop_eq_nil_of_le (by first | omega | (clear hrec; simp only [List.length_map] at *; omega))]
  rfl
structure jn1 where
 key : List Val
 id : Int
 deriving DecidableEq
theorem whk (a : List UInt8) : zby a a = false := by
 induction a with
 | nil => rfl
 | cons x r ih => simp_all [zby, Op.bytesLess]
theorem wj1 {v w : Val} (hv : zr v = true) (hw : zr w = true) : jmg v w = wlg v w := by
 obtain ⟨a, b, s⟩ := v
 obtain ⟨c, d, t⟩ := w
 simp only [zr, isIn, Bool.or_eq_true, Bool.and_eq_true, beq_iff_eq, decide_eq_true_eq] at hv hw
 simp only [jmg, wlg, orI, cmpI, cmpS, Val.mk.injEq]
 rcases hv with (⟨⟨rfl, rfl⟩, rfl⟩ | ⟨⟨rfl, hb⟩, rfl⟩) | ⟨⟨rfl, rfl⟩, hs⟩ <;> rcases hw with (⟨⟨rfl, rfl⟩, rfl⟩ | ⟨⟨rfl, hd⟩, rfl⟩) | ⟨⟨rfl, rfl⟩, ht⟩ <;> simp [whk]
 ·by_cases h1 : b < d
  ·simp [h1]
  ·by_cases h2 : d < b
   ·have : ¬ b = d := by omega
    simp [h1, h2, this]
   ·have : b = d := by omega
    subst this
    simp
def key0 (e : jn1) : Val := match e.key with | v :: _ => v | [] => ⟨0, 0, []⟩
def szV (v : Val) (left : Int) : Int := if left - v.s.length < 0 then -1 else left - v.s.length
theorem jb7 (v : Val) (l : Int) (h : 0 <= l) : szV v l <= l := by
 simp only [szV]
 split <;> omega
theorem wii (v : Val) (left : Int) (hx : v.s.length <= 1125899906842624) (h0 : 0 <= left) (h1 : left <= 34359738368) : Pure Tryz.prog 62 [.agg (encV v), .c (.int .i64 left)] (.c (.int .i64 (szV v left))) := by
 refine Pure.run mixed jfv (yaa rfl) fun σ hS hA => ?_
 clear hS hA
 have hw : IntKind.i64.wrap (left - v.s.length) = left - v.s.length := jf (by omega) (by omega)
 repeat' first|refine yaG ?_|exact yaF|refine yaS ?_ ?_<;>intro _
 ·refine .ret rfl (.int ?_)
  rename_i h
  rw [hw] at h
  rw [szV, if_pos h]
 ·refine .ret rfl (.int ?_)
  rename_i h
  rw [hw] at h ⊢
  rw [szV, if_neg h]
def LenV (v : Val) : Prop := v.s.length <= 1125899906842624
theorem wlh (xs : List Val) (left : Int) (hx : xs.length <= 1125899906842624) (hv : ∀ v ∈ xs, LenV v) (h0 : 0 <= left) (h1 : left <= 34359738368) : Pure Tryz.prog 19 [.c (.fz (xs.map encV)), .c (.int .i64 left)] (.c (.int .i64 (szL szV xs left))) :=
 wcx mixed jex encV szV xs left hx h0 h1 (fun _ => rfl) jb7 fun a ha l h2 h3 => wii a l (hv a ha) h2 (by omega)
theorem zli (v : Val) : ∀ x ∈ encV v, Flat x := by
 intro x hx
 simp only [encV, List.mem_cons, List.not_mem_nil, or_false] at hx
 rcases hx with rfl | rfl | rfl <;> constructor
theorem zij (v : Val) (σ : wa) : Ok Tryz.prog 66 [.agg (encV v)] σ (NewL σ (encV v)) := by
 refine Ok.run mixed zfw (yaa rfl) fun hS hA => ?_
 clear hS hA
 repeat' first|refine yaG ?_|exact yaF|refine yaS ?_ ?_<;>intro _
 refine .ret (jaz rfl rfl rfl (yaa rfl) rfl) ⟨encV v, _, rfl, rfl, ?_, .flat (zli v)⟩
 show wat σ.next [(0, [encV v]), (0, [encV v])]
 exact .one (fun x hx => .flat (zli v x hx)) (.one (fun x hx => .flat (zli v x hx)) .nil)
theorem jli (xs : List Val) (hx : xs.length <= 34359738368) (σ : wa) : Ok Tryz.prog 21 [.c (.fz (xs.map encV))] σ (New σ (.fz (xs.map encV))) :=
 jcx mixed wex encV xs hx (by decide) rfl (fun _ => rfl) (by intro x hx; simp only [List.mem_cons, List.not_mem_nil, or_false] at hx; rcases hx with rfl | rfl | rfl <;> constructor) (fun a _ σ => zij a σ) σ
def mDig : Nat -> Nat -> List UInt8 -> List UInt8
 | 0, _, acc => acc
 | f + 1, n, acc => if n = 0 then acc else mDig f (n / 10) (UInt8.ofNat (48 + n % 10) :: acc)
def wca (k : Int) : List UInt8 := if k <= 0 then [109, 48] else 109 :: mDig 13 k.toNat []
theorem wje : ∀ {f : Nat} {acc : List UInt8}, mDig f 0 acc = acc
 | 0, _ => rfl
 | f + 1, _ => rfl
theorem zj2 {fr : Fr} {σ : wa} {x y : Opd} {a b : List UInt8} (hx : x.ev fr = some (.c (.str a))) (hy : y.ev fr = some (.c (.str b))) (h : a.length + b.length <= 9223372036854775807) : aop (.bin .add x y) fr σ = some (.c (.str (a ++ b)), σ) := by
 simp [aop, hx, hy, binA, h]
theorem wgi {fr : Fr} {σ : wa} {x y : Opd} {k : IntKind} {a b : Int} (hx : x.ev fr = some (.c (.int k a))) (hy : y.ev fr = some (.c (.int k b))) (h : b ≠ 0) : aop (.bin .rem x y) fr σ = some (.c (.int k (a.tmod b)), σ) := by
 simp [aop, hx, hy, binA, h]
theorem jj2 {fr : Fr} {σ : wa} {x y : Opd} {k : IntKind} {a b : Int} (hx : x.ev fr = some (.c (.int k a))) (hy : y.ev fr = some (.c (.int k b))) (h : b ≠ 0) : aop (.bin .quo x y) fr σ = some (.c (.int k (k.wrap (a.tdiv b))), σ) := by
 simp [aop, hx, hy, binA, h]
theorem wnv {n : Int} (h1 : 0 <= n) (h2 : n <= 255) : IntKind.u8.wrap n = n := by
 rw [IntKind.wrap_u8]
 omega
theorem wap (k : Int) (hk : k <= 34359738368) : Pure Tryz.prog 54 [.c (.int .i64 k)] (.c (.str (wca k))) := by
 refine Pure.run mixed wdi (yaa rfl) fun σ hS hA => ?_
 clear hS hA
 repeat' first|refine yaG ?_|exact yaF|refine yaS ?_ ?_<;>intro _
 ·refine .ret rfl (.str ?_)
  rw [wca, if_pos (by assumption)]
 rename_i hpos
 refine Go.keep [0, 3] (Go.loops (I := fun m fr τ => ∃ n : Nat, ∃ ni : Int, ∃ acc : List UInt8, ni = n /\ n < 10 ^ m /\ m <= 13 /\ wca k = 109 :: mDig m n acc /\ acc.length + m <= 13 /\
  fr = [(0, .c (.int .i64 ni)), (3, .c (.str acc))] /\ τ = E σ []) ?_ 13 _ _ ⟨k.toNat, _, [], by omega, by omega, Nat.le_refl _, by rw [wca, if_neg hpos], by simp, rfl, rfl⟩)
 rintro m fr τ ⟨n, ni, acc, hn, hlt, hm, hs, hal, rfl, rfl⟩ hrec
 match m, hlt, hm, hs, hal, hrec with
 | 0, hlt, hm, hs, hal, hrec =>
  have : n = 0 := by simpa using hlt
  subst this
  repeat' first|refine yaG ?_|((first|apply yG|apply yH|apply yI);exact rfl;(first|exact zj2 rfl rfl (by simp;omega)|exact wgi rfl rfl (by decide)|exact jj2 rfl rfl (by decide)))|exact yaF|refine yaS ?_ ?_<;>intro _
  refine .ret rfl (.str ?_)
  rw [hs, wje]
  rfl
 | m + 1, hlt, hm, hs, hal, hrec =>
  have hb : n <= 10 ^ 13 := yah (Nat.le_of_lt hlt) (Nat.pow_le_pow_right (by decide) hm)
  by_cases h0 : n = 0
  ·subst h0
   repeat' first|refine yaG ?_|((first|apply yG|apply yH|apply yI);exact rfl;(first|exact zj2 rfl rfl (by simp;omega)|exact wgi rfl rfl (by decide)|exact jj2 rfl rfl (by decide)))|exact yaF|refine yaS ?_ ?_<;>intro _
   refine .ret rfl (.str ?_)
   rw [hs, wje]
   rfl
  ·repeat' first|refine yaG ?_|((first|apply yG|apply yH|apply yI);exact rfl;(first|exact zj2 rfl rfl (by simp;omega)|exact wgi rfl rfl (by decide)|exact jj2 rfl rfl (by decide)))|exact yaF|refine yaS ?_ ?_<;>intro _
   have q1 : (n : Int).tdiv 10 = ((n / 10 : Nat) : Int) := rfl
   have q2 : (n : Int).tmod 10 = ((n % 10 : Nat) : Int) := rfl
   have e1 : IntKind.i64.wrap (ni.tdiv 10) = ((n / 10 : Nat) : Int) := by
    rw [hn, q1, jf (by omega) (by omega)]
   have e2 : (IntKind.u8.wrap (IntKind.i64.wrap (48 + ni.tmod 10))) = ((48 + n % 10 : Nat) : Int) := by
    rw [hn, q2, jf (by omega) (by omega), wnv (by omega) (by omega)]
    omega
   refine Go.keep [0, 3] (hrec m _ _ (by omega) ⟨n / 10, _, _, e1, ?_, by omega, ?_, ?_, rfl, rfl⟩)
   ·rw [Nat.div_lt_iff_lt_mul (by decide), <- Nat.pow_succ]
    exact hlt
   ·rw [hs, mDig, if_neg h0, e2]
    rfl
   ·simp
    omega
def wli (a k : Int) : Int := k
def wkv (v : Val) (k : Int) : Val := ⟨k, k + 1, wca (k + 2)⟩
theorem zab {fr : Fr} {x0 x1 x5 : AV} (h0 : look fr 0 = some x0) (h1 : look fr 1 = some x1) (h5 : look fr 5 = some x5) (t : Nat) : look ((0, x0) :: (1, x1) :: (5, x5) :: fr) t = look fr t := by
 simp only [look]
 split
 ·rename_i e; subst e; exact h0.symm
 ·split
  ·rename_i e; subst e; exact h1.symm
  ·split
   ·rename_i e; subst e; exact h5.symm
   ·rfl
theorem zgj {σ : wa} {S : Nat -> Prop} {id : Nat} {x : Nat × List (List Ce)} (hS : S id) (a : Nat) (h : ¬ S a) : (σ.put id x).get a = σ.get a := ziy (fun e => h (by rw [e]; exact hS))
theorem jb1 (xs : List Int) (k : Int) (hx : xs.length <= 34359738368) (hk0 : 0 <= k) (hk : k + cntL (fun _ => 1) xs <= 34359738368) : zdg Tryz.prog 56 (.fz (xs.map encI)) (.fz ((jx wli (fun _ => 1) xs k).map encI)) k (k + cntL (fun _ => 1) xs) := by
 refine zau (nt := 19) (q := 18) mixed jcs (by decide) (by decide) encI wli (fun _ => 1) (fun _ => by decide) xs k hx hk0 hk ?_
 intro n0 rets R K σ τ S x i ni ki ys hi fr hn0 hyl hni hki0 hki1 h0 h1 h5 hmem hh hnext
 have hi' : i < (ys.map encI).length := by simpa using hi
 have hyi : (ys.map encI)[i] = encI ys[i] := by simp
 obtain ⟨id, v, c, es, e, rfl, hg, he, hel, hS, hw⟩ := hh.write (i := i) (j := 0) hi' (by simp [encI])
 have hel1 : e.length = 1 := by rw [hel, hyi]; rfl
 refine .same (zab h0 h1 h5) ?_
 repeat' first|refine yaG ?_|((first|apply yG|apply yH|apply yI);exact rfl;(first|exact wd rfl rfl hni hi' hg he hel1|exact wi rfl rfl hg he (by omega)))|exact yaF|refine yaS ?_ ?_<;>intro _
 have hw1 : IntKind.i64.wrap (ki + 1) = ki + 1 := jf (by omega) (by omega)
 refine hnext _ _ rfl (congrArg (fun z => some (AV.c (Ce.int .i64 z))) hw1) rfl rfl (fun a ha => zgj hS a ha) ?_
 have := hw (.int .i64 ki) (.int _ _)
 rw [hyi] at this
 rw [ybk]
 exact this
theorem zkj {id v i n c id' v' i' n' c' : Nat} (h : Ce.sl id v i n c = Ce.sl id' v' i' n' c') : id = id' /\ v = v' /\ n = n' := by
 injection h with a b c d
 exact ⟨a, b, d⟩
theorem wj2 (xs : List Val) (k : Int) (hx : xs.length <= 34359738368) (hk0 : 0 <= k) (hk : k + cntL (fun _ => 3) xs <= 34359738368) : zdg Tryz.prog 24 (.fz (xs.map encV)) (.fz ((jx wkv (fun _ => 3) xs k).map encV)) k (k + cntL (fun _ => 3) xs) := by
 refine zau (nt := 35) (q := 34) mixed jdi (by decide) (by decide) encV wkv (fun _ => 3) (fun _ => by decide) xs k hx hk0 hk ?_
 intro n0 rets R K σ τ S x i ni ki ys hi fr hn0 hyl hni hki0 hki1 h0 h1 h5 hmem hh hnext
 have hi' : i < (ys.map encV).length := by simpa using hi
 have hyi : (ys.map encV)[i] = encV ys[i] := by simp
 obtain ⟨id, v, c, es, e, rfl, hg, he, hel, hS, hw⟩ := hh.write (i := i) (j := 0) hi' (by simp [encV])
 have hel1 : e.length = 3 := by rw [hel, hyi]; rfl
 have hw1 : IntKind.i64.wrap (ki + 1) = ki + 1 := jf (by omega) (by omega)
 have hw2 : IntKind.i64.wrap (ki + 1 + 1) = ki + 2 := by rw [jf (by omega) (by omega)]; omega
 have hw3 : IntKind.i64.wrap (ki + 2 + 1) = ki + 3 := by rw [jf (by omega) (by omega)]; omega
 refine .same (zab h0 h1 h5) ?_
 have hh1 := hw (.int .i64 ki) (.int _ _)
 obtain ⟨id1, v1, c1, es1, e1, hx1, hg1, he1, hel1', hS1, hwb⟩ := hh1.write (i := i) (j := 1) (by simpa using hi') (by simp [encV])
 obtain ⟨rfl, rfl, -⟩ := zkj hx1
 have hh2 := hwb (.int .i64 (ki + 1)) (.int _ _)
 obtain ⟨id2, v2, c2, es2, e2, hx2, hg2, he2, hel2', hS2, hwc⟩ := hh2.write (i := i) (j := 2) (by simpa using hi') (by simp [encV])
 obtain ⟨rfl, rfl, -⟩ := zkj hx2
 have hh3 := hwc (.str (wca (ki + 2))) (.str _)
 have hel2 : e1.length = 3 := by rw [hel1']; simp [encV]
 have hel3 : e2.length = 3 := by rw [hel2']; simp [encV]
 repeat' first|refine yaG ?_|((first|apply yG|apply yH|apply yI);exact rfl;(first|exact wd rfl rfl hni hi' hg he hel1|exact wi rfl rfl hg he (by omega)))|exact yaF|refine yaS ?_ ?_<;>intro _
 rw [hw1]
 repeat' first|refine yaG ?_|((first|apply yG|apply yH|apply yI);exact rfl;(first|exact wd rfl rfl hni hi' hg1 he1 hel2|exact wi rfl rfl hg1 he1 (by omega)))|exact yaF|refine yaS ?_ ?_<;>intro _
 rw [hw2]
 repeat' first|refine yaG ?_|((first|apply yG|apply yH|apply yI);exact rfl;(first|exact wd rfl rfl hni hi' hg2 he2 hel3|exact wi rfl rfl hg2 he2 (by omega)))|((first|apply yQ|apply yR|apply yS);(iterate 3 exact rfl);exact wap _ (by omega))|exact yaF|refine yaS ?_ ?_<;>intro _
 refine hnext _ _ rfl (congrArg (fun z => some (AV.c (Ce.int .i64 z))) hw3) rfl rfl (fun a ha => ?_) ?_
 ·rw [zgj hS a ha, zgj hS a ha, zgj hS a ha]
 ·simp only [List.set_set, List.getElem_set_self, hyi] at hh3
  rw [ybk]
  exact hh3
theorem wmg (xs : List Int) : ∀ e ∈ xs.map encI, e.length = 1 /\ ∀ x ∈ e, Flat x := by
 intro e he
 obtain ⟨a, _, rfl⟩ := List.mem_map.1 he
 refine ⟨rfl, fun x hx => ?_⟩
 simp only [encI, List.mem_cons, List.not_mem_nil, or_false] at hx
 subst hx
 exact .int _ _
theorem zc9 (xs ys : List Int) (hx : xs.length <= 34359738368) : Pure Tryz.prog 128 [.c (.fz (xs.map encI)), .c (.fz (ys.map encI))] (.c (.bool (xs == ys))) := by
 refine Pure.run mixed wdn (yaa rfl) fun σ hS hA => ?_
 clear hS hA
 repeat' first|refine yaG ?_|exact yaF|refine yaS ?_ ?_<;>intro _
 ·refine .ret rfl (.bool ?_)
  rw [eq_comm, beq_eq_false_iff_ne]
  rintro rfl
  simp at *
 refine Go.keep [0, 1, 5] (Go.loops (I := fun m fr τ => ∃ i : Nat, ∃ n : Int, m = xs.length - i /\ i <= xs.length /\ n = i /\ (xs.length = ys.length /\ (xs == ys) = (xs.drop i == ys.drop i)) /\
  fr = [(0, .c (.fz (xs.map encI))), (1, .c (.fz (ys.map encI))), (5, .c (.int .i64 n))] /\ τ = E σ []) ?_ _ _ _ ⟨0, _, rfl, yae _, rfl, ⟨by omega, rfl⟩, rfl, rfl⟩)
 rintro m fr τ ⟨i, n, rfl, hi, hn, ⟨hl, hsl⟩, rfl, rfl⟩ hrec
 by_cases hlt : i < xs.length
 ·have hlt2 : i < ys.length := by omega
  repeat' first|refine yaG ?_|((first|apply yG|apply yH|apply yI);exact rfl;(first|exact yX (enc := encI) rfl rfl hn hlt rfl|exact yX (enc := encI) rfl rfl hn hlt2 rfl))|exact yaF|refine yaS ?_ ?_<;>intro _
  ·refine .ret rfl (.bool ?_)
   rw [hsl, yac hlt, yac hlt2, List.cons_beq_cons]
   clear hrec
   simp_all
  ·refine Go.keep [0, 1, 5] (hrec _ _ _ (by omega) ⟨i + 1, _, rfl, hlt, wb hn (by omega), ⟨hl, ?_⟩, rfl, rfl⟩)
   rw [hsl, yac hlt, yac hlt2, List.cons_beq_cons]
   clear hrec
   simp_all
 ·repeat' first|refine yaG ?_|exact yaF|refine yaS ?_ ?_<;>intro _
  refine .ret rfl (.bool ?_)
  rw [hsl, yad (by omega), yad (by omega)]
  rfl
theorem cnt3 (xs : List Val) : cntL (fun _ => 3) xs = 3 * xs.length := by
 induction xs with
 | nil => rfl
 | cons a r ih => simp only [cntL, ih, List.length_cons]; omega
theorem cnt1 (xs : List Int) : cntL (fun _ => 1) xs = xs.length := by
 induction xs with
 | nil => rfl
 | cons a r ih => simp only [cntL, ih, List.length_cons]; omega
def j3 : List (Int -> Int) -> Int -> Int
 | [], l => l
 | f :: r, l => if f l < 0 then -1 else j3 r (f l)
inductive jc9 : List (Int -> Int) -> Prop where
 | nil : jc9 []
 | cons {f : Int -> Int} {r : List (Int -> Int)} (h : ∀ l, 0 <= l -> f l <= l) (k : jc9 r) : jc9 (f :: r)
theorem wa5 {fs : List (Int -> Int)} (h : jc9 fs) : ∀ l, 0 <= l -> j3 fs l <= l := by
 induction h with
 | nil => intro l _; exact ybf _
 | @cons f0 r h _ ih =>
  intro l hl
  simp only [j3]
  split
  ·omega
  ·have := h l hl
   have := ih (f0 l) (by omega)
   omega
theorem jam {fs : List (Int -> Int)} (h : jc9 fs) : ∀ l, 0 <= l -> 0 <= j3 fs l -> ∀ f ∈ fs, ∃ q, 0 <= q /\ q <= l /\ 0 <= f q := by
 induction h with
 | nil => intro l _ _ f hf; simp at hf
 | @cons f0 r h _ ih =>
  intro l hl hc f hf
  simp only [j3] at hc
  split at hc
  ·omega
  ·rename_i h0
   rcases List.mem_cons.1 hf with rfl | hf
   ·exact ⟨l, hl, ybf _, by omega⟩
   ·obtain ⟨q, h1, h2, h3⟩ := ih _ (by omega) hc f hf
    have := h l hl
    exact ⟨q, h1, by omega, h3⟩
theorem jfi (s : List UInt8) : ∀ l : Int, 0 <= l -> l - s.length <= l := fun l _ => by omega
def zI (xs : List Int) (l : Int) : Int := if l - xs.length < 0 then -1 else l - xs.length
theorem jbv (xs : List Int) : ∀ l : Int, 0 <= l -> zI xs l <= l := fun l _ => by
 simp only [zI]
 split <;> omega
def bV (N : Nat) (v : Val) : Prop := v.s.length <= N
theorem wnd {v : Val} {l : Int} {N : Nat} (h : 0 <= szV v l) (hl : l <= N) : bV N v := by
 simp only [szV] at h
 simp only [bV]
 split at h <;> omega
theorem zj3 {xs : List Int} {l : Int} {N : Nat} (h : 0 <= zI xs l) (hl : l <= N) : xs.length <= N := by
 simp only [zI] at h
 split at h <;> omega
theorem wa2 {α : Type} {g : α -> Int -> Int} {b : Nat -> α -> Prop} (hg : ∀ a l, 0 <= l -> g a l <= l) (hb : ∀ a l (N : Nat), 0 <= l -> 0 <= g a l -> l <= N -> b N a) {xs : List α} {l : Int} {N : Nat} (h0 : 0 <= l) (h : 0 <= szL g xs l) (hl : l <= N) : xs.length <= N /\ ∀ x ∈ xs, b N x := by
 obtain ⟨h1, h2⟩ := wnc hg (xs := xs) (left := l) h0 h
 refine ⟨by omega, fun x hx => ?_⟩
 obtain ⟨q, a, b, c⟩ := h2 x hx
 exact hb x q N a c (by omega)
theorem wc9 (xs : List Int) (left : Int) (hx : xs.length <= 1125899906842624) (h0 : 0 <= left) (h1 : left <= 34359738368) : Pure Tryz.prog 106 [.c (.fz (xs.map encI)), .c (.int .i64 left)] (.c (.int .i64 (zI xs left))) := by
 refine Pure.run mixed wdl (yaa rfl) fun σ hS hA => ?_
 clear hS hA
 have hw : IntKind.i64.wrap (left - xs.length) = left - xs.length := jf (by omega) (by omega)
 repeat' first|refine yaG ?_|exact yaF|refine yaS ?_ ?_<;>intro _
 ·refine .ret rfl (.int ?_)
  rename_i h
  rw [hw] at h
  rw [zI, if_pos h]
 ·refine .ret rfl (.int ?_)
  rename_i h
  rw [hw] at h ⊢
  rw [zI, if_neg h]
theorem zda (xs : List Int) (hx : xs.length <= 34359738368) (σ : wa) : Ok Tryz.prog 115 [.c (.fz (xs.map encI))] σ (New σ (.fz (xs.map encI))) := by
 refine zg3.new (s := 1) (wmg xs) (zg3.run mixed jdm (yaa rfl) fun σ hS hA => ?_) σ
 clear hS hA
 repeat' first|refine yaG ?_|((first|apply yG|apply yH|apply yI);exact rfl;(first|exact wc1 rfl rfl (show 8 * xs.length <= 140737488355328 by omega)))|exact yaF|refine yaS ?_ ?_<;>intro _
 refine Go.keep [0, 3, 4] (Go.loops (I := fun m fr τ => ∃ i : Nat, ∃ n : Int, ∃ cs : List (List Ce), m = xs.length - i /\ i <= xs.length /\ n = i /\ (cs.length = xs.length /\ (∀ e ∈ cs, e.length = 1) /\ ∀ j (h1 : j < xs.length) (h2 : j < cs.length), j < i -> cs[j] = encI xs[j]) /\
  fr = [(0, .c (.fz (xs.map encI))), (3, .c (.sl (σ.next + 0) 0 0 xs.length xs.length)), (4, .c (.int .i64 n))] /\ τ = E σ [(0, cs)]) ?_ _ _ _ ⟨0, _, List.replicate xs.length [.int .i64 0], rfl, Nat.zero_le _, rfl, ⟨by simp, fun e he => by rw [List.eq_of_mem_replicate he]; rfl, fun j _ _ h => absurd h (by omega)⟩, rfl, rfl⟩)
 rintro m fr τ ⟨i, n, cs, rfl, hi, hn, ⟨hcl, hcs, hh⟩, rfl, rfl⟩ hrec
 by_cases hlt : i < xs.length
 ·have hlc : i < cs.length := by omega
  have he : cs[0 + i]? = some cs[i] := by simp [hlc]
  have hel : cs[i].length = 1 := hcs _ (yab hlc)
  repeat' first|refine yaG ?_|((first|apply yG|apply yH|apply yI);exact rfl;(first|exact yX (enc := encI) rfl rfl hn hlt rfl|exact z3 (k := 0) (n := i) rfl rfl hn hlt rfl he hel|exact jm (k := 0) rfl rfl rfl rfl he rfl (by omega)))|exact yaF|refine yaS ?_ ?_<;>intro _
  have hsp : jh cs[i] 0 [Ce.int IntKind.i64 xs[i]] = encI xs[i] := zd6 hel rfl
  rw [hsp]
  refine Go.keep [0, 3, 4] (hrec _ _ _ (by omega) ⟨i + 1, _, cs.set (0 + i) (encI xs[i]), rfl, hlt, wb hn (by omega), ⟨by simp [hcl], fun e he' => ?_, fun j h1 h2 hj => ?_⟩, rfl, rfl⟩)
  ·rcases ybb he' with h | h
   ·exact hcs _ h
   ·rw [h]; rfl
  ·by_cases e : j = i
   ·subst e; simp
   ·rw [ybd (by omega)]
    exact hh j h1 (by simpa using h2) (by omega)
 ·repeat' first|refine yaG ?_|exact yaF|refine yaS ?_ ?_<;>intro _
  have hcs2 : cs = xs.map encI := List.ext_getElem (by simp [hcl]) fun j h1 h2 => by
   rw [List.getElem_map]
   exact hh j (by simpa using h2) h1 (by simp at h2; omega)
  subst hcs2
  refine .ret rfl ⟨0, [], Jk.nil, ?_, by simp⟩
  simp [vec]
theorem Has.more {σ : wa} {S : Nat -> Prop} {y x : Ce} {l : List (Nat × List (List Ce))} (h : ∀ A B, Has (E σ (A :: B :: l)) S y x) (hS : ∀ a, S a -> σ.next + 2 <= a /\ a < σ.next + 2 + l.length) (m : List (Nat × List (List Ce))) : ∀ A B, Has (E σ (A :: B :: (l ++ m))) S y x := by
 intro A B
 refine (h A B).frame fun a ha => ?_
 have := hS a ha
 rw [E_ge (by omega), E_ge (by omega)]
 obtain ⟨q, hq⟩ : ∃ q, a - σ.next = q + 2 := ⟨a - σ.next - 2, by omega⟩
 rw [hq]
 simp only [List.getElem?_cons_succ]
 rw [yba (by omega)]
theorem Has.new2 {σ : wa} {y x : Ce} {A0 B0 : Nat × List (List Ce)} {l l2 : List (Nat × List (List Ce))} (h : Has (E σ ((A0 :: B0 :: l) ++ l2)) (fun a => (E σ (A0 :: B0 :: l)).next <= a /\ a < (E σ ((A0 :: B0 :: l) ++ l2)).next) y x) :
 ∀ A B, Has (E σ (A :: B :: (l ++ l2))) (fun a => σ.next + 2 + l.length <= a /\ a < σ.next + 2 + (l ++ l2).length) y x := by
 intro A B
 refine (h.frame fun a ha => ?_).mono fun a ha => ?_
 ·have := ha.1
  simp only [wx, List.length_cons] at this
  exact wn0 (by omega)
 ·have h1 := ha.1
  have h2 := ha.2
  simp only [wx, List.length_cons, List.length_append] at h1 h2 ⊢
  omega
theorem HasL.skip {τ : wa} {S : Nat -> Prop} {c : Ce} {ys xs : List Ce} (hc : Flat c) (k : HasL τ S ys xs) : HasL τ S (c :: ys) (c :: xs) :=
 (HasL.two (S := fun _ => False) (.c hc) k (fun _ h => h.elim)).mono fun a ha => ha.elim (fun h => h.elim) id
theorem waf {n : Nat} {l m : List (Nat × List (List Ce))} (h : wat n l) (k : wat n m) : wat n (l ++ m) := fun b hb => (List.mem_append.1 hb).elim (h b) (k b)
theorem zav {σ : wa} {l l2 : List (Nat × List (List Ce))} (h : wat (E σ l).next l2) : wat σ.next l2 := fun b hb e he x hx => (h b hb e he x hx).mono (by simp [wx])
structure Tok where
 kind : Int
 col : Int
 v : Val
 deriving DecidableEq
def zh (a : Tok) : List Ce := [.int .i64 a.kind, .int .i64 a.col, .int .i64 a.v.k, .int .i64 a.v.n, .str a.v.s]
theorem jgj (a : Tok) : ∀ x ∈ zh a, Flat x := by
 intro x hx
 simp only [zh, List.mem_cons, List.not_mem_nil, or_false] at hx
 rcases hx with rfl | rfl | rfl | rfl | rfl <;> constructor
def bTok (N : Nat) (a : Tok) : Prop := bV N a.v
def zTok (a : Tok) : Int -> Int := j3 [(szV a.v)]
theorem zhq (a : Tok) : jc9 [(szV a.v)] := (.cons (fun l h => jb7 _ l h) .nil)
theorem za3 (a : Tok) (l : Int) (h : 0 <= l) : zTok a l <= l := wa5 (zhq a) l h
theorem jj3 (a : Tok) (l : Int) (N : Nat) (h0 : 0 <= l) (h : 0 <= zTok a l) (hl : l <= N) : bTok N a := by
 have hh := jam (zhq a) l h0 h
 obtain ⟨q0, u0, v0, w0⟩ := hh (szV a.v) (by simp)
 exact (wnd w0 (by omega))
theorem zmh (a : Tok) (left : Int) (hb : bTok 1125899906842624 a) (h0 : 0 <= left) (h1 : left <= 34359738368) : Pure Tryz.prog 151 [.agg (zh a), .c (.int .i64 left)] (.c (.int .i64 (zTok a left))) := by
 refine Pure.run mixed zf4 (yaa rfl) fun σ hS hA => ?_
 clear hS hA
 repeat' first|refine yaG ?_|fail
 refine .pcall rfl rfl rfl (wii a.v left hb (by omega) (by omega)) ?_
 have y1 := jb7 a.v left (by omega)
 generalize e1 : szV a.v left = l1 at y1 ⊢
 repeat' first|refine yaG ?_|exact yaF|refine yaS ?_ ?_<;>intro _
 ·refine .ret rfl (.int ?_)
  rename_i h
  simp only [zTok, j3, e1, if_pos h]
 rename_i g1
 refine .ret rfl (.int ?_)
 simp only [zTok, j3, e1, if_neg g1]
theorem wgj (xs : List Tok) (left : Int) (hx : xs.length <= 1125899906842624) (hv : ∀ e ∈ xs, bTok 1125899906842624 e) (h0 : 0 <= left) (h1 : left <= 34359738368) : Pure Tryz.prog 76 [.c (.fz (xs.map zh)), .c (.int .i64 left)] (.c (.int .i64 (szL zTok xs left))) :=
 wcx mixed ze1 zh zTok xs left hx h0 h1 (fun _ => rfl) za3 fun a ha l h2 h3 => zmh a l (hv a ha) h2 (by omega)
theorem jmh (a : Tok) (hb : bTok 34359738368 a) (σ : wa) : Ok Tryz.prog 158 [.agg (zh a)] σ (NewL σ (zh a)) := by
 refine Ok.run mixed jf5 (yaa rfl) fun hS hA => ?_
 clear hS hA
 repeat' first|refine yaG ?_|refine yaC (NewL.pure (zij a.v)) ?_|exact yaF|refine yaS ?_ ?_<;>intro _
 refine .ret (jaz rfl rfl rfl (yaa rfl) rfl) ⟨zh a, _, rfl, rfl, ?_, .flat (jgj a)⟩
 show wat σ.next [(0, [zh a]), (0, [zh a])]
 exact .one (fun x hx => .flat (jgj a x hx)) (.one (fun x hx => .flat (jgj a x hx)) .nil)
theorem zgk (xs : List Tok) (hx : xs.length <= 34359738368) (hv : ∀ e ∈ xs, bTok 34359738368 e) (σ : wa) : Ok Tryz.prog 82 [.c (.fz (xs.map zh))] σ (New σ (.fz (xs.map zh))) :=
 jcx mixed je2 zh xs hx (by decide) rfl (fun _ => rfl) (by intro x hx; simp only [List.mem_cons, List.not_mem_nil, or_false] at hx; rcases hx with rfl | rfl | rfl | rfl | rfl <;> constructor) (fun a ha σ => jmh a (hv a ha) σ) σ
theorem zne (a b : Tok) : (a == b) = (a.kind == b.kind && a.col == b.col && a.v == b.v) := by
 obtain ⟨a0, a1, a2⟩ := a
 obtain ⟨b0, b1, b2⟩ := b
 rw [ybc]
 simp [and_assoc]
theorem wmh (a b : Tok) (hb : bTok 34359738368 a) : Pure Tryz.prog 169 [.agg (zh a), .agg (zh b)] (.c (.bool (a == b))) := by
 refine Pure.run mixed wf6 (yaa rfl) fun σ hS hA => ?_
 clear hS hA
 have hq := zne a b
 repeat' first|refine yaG ?_|((first|apply Go.pcallB|apply Go.spcallB|apply Qg.pcallB);(iterate 3 exact rfl);exact jii a.v b.v;intro _ _)|exact yaF|refine yaS ?_ ?_<;>intro _
 all_goals refine .ret rfl (.bool ?_)
 all_goals rw [hq]
 all_goals clear hq hb
 all_goals simp_all
theorem jgk (xs ys : List Tok) (hx : xs.length <= 34359738368) (hv : ∀ e ∈ xs, bTok 34359738368 e) : Pure Tryz.prog 88 [.c (.fz (xs.map zh)), .c (.fz (ys.map zh))] (.c (.bool (xs == ys))) :=
 wdf mixed we3 zh xs ys hx (fun _ => rfl) fun a ha b => wmh a b (hv a ha)
structure Chk where
 expr : List Tok
 deriving DecidableEq
def jr (a : Chk) : List Ce := [.fz (a.expr.map zh)]
def bChk (N : Nat) (a : Chk) : Prop := (a.expr.length <= N /\ ∀ x ∈ a.expr, bTok N x)
def zChk (a : Chk) : Int -> Int := j3 [(szL zTok a.expr)]
theorem jhq (a : Chk) : jc9 [(szL zTok a.expr)] := (.cons (fun l h => jaf za3 _ l h) .nil)
theorem wgk (a : Chk) (l : Int) (h : 0 <= l) : zChk a l <= l := wa5 (jhq a) l h
theorem jne (a : Chk) (l : Int) (N : Nat) (h0 : 0 <= l) (h : 0 <= zChk a l) (hl : l <= N) : bChk N a := by
 have hh := jam (jhq a) l h0 h
 obtain ⟨q0, u0, v0, w0⟩ := hh (szL zTok a.expr) (by simp)
 exact (wa2 za3 jj3 u0 w0 (by omega))
theorem zmi (a : Chk) (left : Int) (hb : bChk 1125899906842624 a) (h0 : 0 <= left) (h1 : left <= 34359738368) : Pure Tryz.prog 185 [.agg (jr a), .c (.int .i64 left)] (.c (.int .i64 (zChk a left))) := by
 refine Pure.run mixed jee (yaa rfl) fun σ hS hA => ?_
 clear hS hA
 repeat' first|refine yaG ?_|fail
 refine .pcall rfl rfl rfl (wgj a.expr left hb.1 hb.2 (by omega) (by omega)) ?_
 have y1 := jaf za3 a.expr left (by omega)
 generalize e1 : szL zTok a.expr left = l1 at y1 ⊢
 repeat' first|refine yaG ?_|exact yaF|refine yaS ?_ ?_<;>intro _
 ·refine .ret rfl (.int ?_)
  rename_i h
  simp only [zChk, j3, e1, if_pos h]
 rename_i g1
 refine .ret rfl (.int ?_)
 simp only [zChk, j3, e1, if_neg g1]
theorem zlj (xs : List Chk) (left : Int) (hx : xs.length <= 1125899906842624) (hv : ∀ e ∈ xs, bChk 1125899906842624 e) (h0 : 0 <= left) (h1 : left <= 34359738368) : Pure Tryz.prog 108 [.c (.fz (xs.map jr)), .c (.int .i64 left)] (.c (.int .i64 (szL zChk xs left))) :=
 wcx mixed zdm jr zChk xs left hx h0 h1 (fun _ => rfl) wgk fun a ha l h2 h3 => zmi a l (hv a ha) h2 (by omega)
theorem jmi (a : Chk) (hb : bChk 34359738368 a) (σ : wa) : Ok Tryz.prog 190 [.agg (jr a)] σ (NewL σ (jr a)) := by
 refine Ok.run mixed wee (yaa rfl) fun hS hA => ?_
 clear hS hA
 repeat' first|refine yaG ?_|exact yaF|refine yaS ?_ ?_<;>intro _
 refine Go.call _ rfl rfl rfl (zgk a.expr hb.1 hb.2 _) ?_
 rintro r σ0 ⟨x0, m0, rfl, rfl, t0, h0⟩
 rw [E_E] at h0 ⊢
 have t0 := zav t0
 have h0 := h0.new2
 repeat' first|refine yaG ?_|exact yaF|refine yaS ?_ ?_<;>intro _
 have hL : HasL (E σ ((0, [[x0]]) :: (0, [[x0]]) :: ([] ++ m0))) (fun a => σ.next + 2 <= a /\ a < σ.next + 2 + ([] ++ m0).length) (jr a) [x0] := by
  refine HasL.mono ?_ (HasL.two (h0 _ _) (HasL.nil (S := fun a => a < 0)) (fun a ha hb => by (try dsimp only at ha hb); (try simp only [List.append_eq, List.length_append, List.length_nil, List.nil_append] at ha hb); omega))
  intro a ha
  (try dsimp only at ha)
  (try simp only [List.append_eq, List.length_append, List.length_nil, List.nil_append] at ha ⊢)
  omega
 have hT := hL.tidy (n := σ.next) fun a ha => by have := ha.1; omega
 have hM : wat σ.next ([] ++ m0) := (waf (fun b hb => by simp at hb) t0)
 have hN : NewL σ (jr a) (.agg [x0]) (E σ ((0, [[x0]]) :: (0, [[x0]]) :: ([] ++ m0))) := by
  refine ⟨_, _, rfl, rfl, .one hT (.one hT hM), hL.mono ?_⟩
  intro a ha
  have h9 := ha.1
  have h8 := ha.2
  (try simp only [wx, List.length_cons, List.append_eq, List.length_append, List.length_nil, List.nil_append] at h8 ⊢)
  constructor <;> omega
 exact .ret (jaz rfl rfl rfl (yaa rfl) rfl) hN
theorem jlj (xs : List Chk) (hx : xs.length <= 34359738368) (hv : ∀ e ∈ xs, bChk 34359738368 e) (σ : wa) : Ok Tryz.prog 117 [.c (.fz (xs.map jr))] σ (New σ (.fz (xs.map jr))) :=
 jcx mixed wdm jr xs hx (by decide) rfl (fun _ => rfl) (by intro x hx; simp only [List.mem_cons, List.not_mem_nil, or_false] at hx; rcases hx with rfl <;> constructor) (fun a ha σ => jmi a (hv a ha) σ) σ
theorem wne (a b : Chk) : (a == b) = (a.expr == b.expr) := by
 obtain ⟨a0⟩ := a
 obtain ⟨b0⟩ := b
 rw [ybc]
 simp [and_assoc]
theorem wmi (a b : Chk) (hb : bChk 34359738368 a) : Pure Tryz.prog 203 [.agg (jr a), .agg (jr b)] (.c (.bool (a == b))) := by
 refine Pure.run mixed wef (yaa rfl) fun σ hS hA => ?_
 clear hS hA
 have hq := wne a b
 repeat' first|refine yaG ?_|((first|apply Go.pcallB|apply Go.spcallB|apply Qg.pcallB);(iterate 3 exact rfl);exact jgk a.expr b.expr hb.1 hb.2;intro _ _)|exact yaF|refine yaS ?_ ?_<;>intro _
 all_goals refine .ret rfl (.bool ?_)
 all_goals rw [hq]
 all_goals clear hq hb
 all_goals simp_all
theorem wlj (xs ys : List Chk) (hx : xs.length <= 34359738368) (hv : ∀ e ∈ xs, bChk 34359738368 e) : Pure Tryz.prog 130 [.c (.fz (xs.map jr)), .c (.fz (ys.map jr))] (.c (.bool (xs == ys))) :=
 wdf mixed zdo jr xs ys hx (fun _ => rfl) fun a ha b => wmi a b (hv a ha)
structure Uniq where
 cols : List Int
 deriving DecidableEq
def jl (a : Uniq) : List Ce := [.fz (a.cols.map encI)]
def jfg (N : Nat) (a : Uniq) : Prop := a.cols.length <= N
def jda (a : Uniq) : Int -> Int := j3 [(zI a.cols)]
theorem zgl (a : Uniq) : jc9 [(zI a.cols)] := (.cons (jbv _) .nil)
theorem zdx (a : Uniq) (l : Int) (h : 0 <= l) : jda a l <= l := wa5 (zgl a) l h
theorem zmj (a : Uniq) (l : Int) (N : Nat) (h0 : 0 <= l) (h : 0 <= jda a l) (hl : l <= N) : jfg N a := by
 have hh := jam (zgl a) l h0 h
 obtain ⟨q0, u0, v0, w0⟩ := hh (zI a.cols) (by simp)
 exact (zj3 w0 (by omega))
theorem zlk (a : Uniq) (left : Int) (hb : jfg 1125899906842624 a) (h0 : 0 <= left) (h1 : left <= 34359738368) : Pure Tryz.prog 184 [.agg (jl a), .c (.int .i64 left)] (.c (.int .i64 (jda a left))) := by
 refine Pure.run mixed zdr (yaa rfl) fun σ hS hA => ?_
 clear hS hA
 repeat' first|refine yaG ?_|fail
 refine .pcall rfl rfl rfl (wc9 a.cols left hb (by omega) (by omega)) ?_
 have y1 := jbv a.cols left (by omega)
 generalize e1 : zI a.cols left = l1 at y1 ⊢
 repeat' first|refine yaG ?_|exact yaF|refine yaS ?_ ?_<;>intro _
 ·refine .ret rfl (.int ?_)
  rename_i h
  simp only [jda, j3, e1, if_pos h]
 rename_i g1
 refine .ret rfl (.int ?_)
 simp only [jda, j3, e1, if_neg g1]
theorem zkw (xs : List Uniq) (left : Int) (hx : xs.length <= 1125899906842624) (hv : ∀ e ∈ xs, jfg 1125899906842624 e) (h0 : 0 <= left) (h1 : left <= 34359738368) : Pure Tryz.prog 107 [.c (.fz (xs.map jl)), .c (.int .i64 left)] (.c (.int .i64 (szL jda xs left))) :=
 wcx mixed jc3 jl jda xs left hx h0 h1 (fun _ => rfl) zdx fun a ha l h2 h3 => zlk a l (hv a ha) h2 (by omega)
theorem jlk (a : Uniq) (hb : jfg 34359738368 a) (σ : wa) : Ok Tryz.prog 189 [.agg (jl a)] σ (NewL σ (jl a)) := by
 refine Ok.run mixed jdr (yaa rfl) fun hS hA => ?_
 clear hS hA
 repeat' first|refine yaG ?_|exact yaF|refine yaS ?_ ?_<;>intro _
 refine Go.call _ rfl rfl rfl (zda a.cols hb _) ?_
 rintro r σ0 ⟨x0, m0, rfl, rfl, t0, h0⟩
 rw [E_E] at h0 ⊢
 have t0 := zav t0
 have h0 := h0.new2
 repeat' first|refine yaG ?_|exact yaF|refine yaS ?_ ?_<;>intro _
 have hL : HasL (E σ ((0, [[x0]]) :: (0, [[x0]]) :: ([] ++ m0))) (fun a => σ.next + 2 <= a /\ a < σ.next + 2 + ([] ++ m0).length) (jl a) [x0] := by
  refine HasL.mono ?_ (HasL.two (h0 _ _) (HasL.nil (S := fun a => a < 0)) (fun a ha hb => by (try dsimp only at ha hb); (try simp only [List.append_eq, List.length_append, List.length_nil, List.nil_append] at ha hb); omega))
  intro a ha
  (try dsimp only at ha)
  (try simp only [List.append_eq, List.length_append, List.length_nil, List.nil_append] at ha ⊢)
  omega
 have hT := hL.tidy (n := σ.next) fun a ha => by have := ha.1; omega
 have hM : wat σ.next ([] ++ m0) := (waf (fun b hb => by simp at hb) t0)
 have hN : NewL σ (jl a) (.agg [x0]) (E σ ((0, [[x0]]) :: (0, [[x0]]) :: ([] ++ m0))) := by
  refine ⟨_, _, rfl, rfl, .one hT (.one hT hM), hL.mono ?_⟩
  intro a ha
  have h9 := ha.1
  have h8 := ha.2
  (try simp only [wx, List.length_cons, List.append_eq, List.length_append, List.length_nil, List.nil_append] at h8 ⊢)
  constructor <;> omega
 exact .ret (jaz rfl rfl rfl (yaa rfl) rfl) hN
theorem jkw (xs : List Uniq) (hx : xs.length <= 34359738368) (hv : ∀ e ∈ xs, jfg 34359738368 e) (σ : wa) : Ok Tryz.prog 116 [.c (.fz (xs.map jl))] σ (New σ (.fz (xs.map jl))) :=
 jcx mixed wc3 jl xs hx (by decide) rfl (fun _ => rfl) (by intro x hx; simp only [List.mem_cons, List.not_mem_nil, or_false] at hx; rcases hx with rfl <;> constructor) (fun a ha σ => jlk a (hv a ha) σ) σ
theorem jmj (a b : Uniq) : (a == b) = (a.cols == b.cols) := by
 obtain ⟨a0⟩ := a
 obtain ⟨b0⟩ := b
 rw [ybc]
 simp [and_assoc]
theorem wlk (a b : Uniq) (hb : jfg 34359738368 a) : Pure Tryz.prog 202 [.agg (jl a), .agg (jl b)] (.c (.bool (a == b))) := by
 refine Pure.run mixed wdr (yaa rfl) fun σ hS hA => ?_
 clear hS hA
 have hq := jmj a b
 repeat' first|refine yaG ?_|((first|apply Go.pcallB|apply Go.spcallB|apply Qg.pcallB);(iterate 3 exact rfl);exact zc9 a.cols b.cols hb;intro _ _)|exact yaF|refine yaS ?_ ?_<;>intro _
 all_goals refine .ret rfl (.bool ?_)
 all_goals rw [hq]
 all_goals clear hq hb
 all_goals simp_all
theorem wkw (xs ys : List Uniq) (hx : xs.length <= 34359738368) (hv : ∀ e ∈ xs, jfg 34359738368 e) : Pure Tryz.prog 129 [.c (.fz (xs.map jl)), .c (.fz (ys.map jl))] (.c (.bool (xs == ys))) :=
 wdf mixed zc4 jl xs ys hx (fun _ => rfl) fun a ha b => wlk a b (hv a ha)
structure Fk where
 cols : List Int
 table : List UInt8
 onDelete : Int
 onUpdate : Int
 deferred : Bool
 deriving DecidableEq
def jv (a : Fk) : List Ce := [.fz (a.cols.map encI), .str a.table, .int .i64 a.onDelete, .int .i64 a.onUpdate, .bool a.deferred]
def bFk (N : Nat) (a : Fk) : Prop := a.cols.length <= N /\ a.table.length <= N
def zFk (a : Fk) : Int -> Int := j3 [(zI a.cols), (fun l => l - a.table.length)]
theorem zjf (a : Fk) : jc9 [(zI a.cols), (fun l => l - a.table.length)] := (.cons (jbv _) (.cons (jfi _) .nil))
theorem jjf (a : Fk) (l : Int) (h : 0 <= l) : zFk a l <= l := wa5 (zjf a) l h
theorem znw (a : Fk) (l : Int) (N : Nat) (h0 : 0 <= l) (h : 0 <= zFk a l) (hl : l <= N) : bFk N a := by
 have hh := jam (zjf a) l h0 h
 obtain ⟨q0, u0, v0, w0⟩ := hh (zI a.cols) (by simp)
 obtain ⟨q1, u1, v1, w1⟩ := hh (fun l => l - a.table.length) (by simp)
 exact ⟨(zj3 w0 (by omega)), (by (try simp only at w1); omega)⟩
theorem znf (a : Fk) (left : Int) (hb : bFk 1125899906842624 a) (h0 : 0 <= left) (h1 : left <= 34359738368) : Pure Tryz.prog 186 [.agg (jv a), .c (.int .i64 left)] (.c (.int .i64 (zFk a left))) := by
 refine Pure.run mixed jhd (yaa rfl) fun σ hS hA => ?_
 clear hS hA
 repeat' first|refine yaG ?_|fail
 refine .pcall rfl rfl rfl (wc9 a.cols left hb.1 (by omega) (by omega)) ?_
 have y1 := jbv a.cols left (by omega)
 generalize e1 : zI a.cols left = l1 at y1 ⊢
 have w2 : 0 <= l1 -> IntKind.i64.wrap (l1 - a.table.length) = l1 - a.table.length := fun h => jf (by have : a.table.length <= 1125899906842624 := hb.2; omega) (by omega)
 repeat' first|refine yaG ?_|exact yaF|refine yaS ?_ ?_<;>intro _
 ·refine .ret rfl (.int ?_)
  rename_i h
  simp only [zFk, j3, e1, if_pos h]
 ·refine .ret rfl (.int ?_)
  rename_i g1 h
  have v2 := w2 (by omega)
  simp only [v2] at h
  simp only [zFk, j3, e1, if_neg g1, if_pos h]
 rename_i g1 g2
 have v2 := w2 (by omega)
 simp only [v2] at g2 ⊢
 obtain ⟨l2, e2⟩ : ∃ q, l1 - (a.table.length : Int) = q := ⟨_, rfl⟩
 rw [e2] at g2 ⊢
 refine .ret rfl (.int ?_)
 simp only [zFk, j3, e1, e2, if_neg g1, if_neg g2]
theorem wmj (xs : List Fk) (left : Int) (hx : xs.length <= 1125899906842624) (hv : ∀ e ∈ xs, bFk 1125899906842624 e) (h0 : 0 <= left) (h1 : left <= 34359738368) : Pure Tryz.prog 109 [.c (.fz (xs.map jv)), .c (.int .i64 left)] (.c (.int .i64 (szL zFk xs left))) :=
 wcx mixed jfy jv zFk xs left hx h0 h1 (fun _ => rfl) jjf fun a ha l h2 h3 => znf a l (hv a ha) h2 (by omega)
theorem jnf (a : Fk) (hb : bFk 34359738368 a) (σ : wa) : Ok Tryz.prog 191 [.agg (jv a)] σ (NewL σ (jv a)) := by
 refine Ok.run mixed zhe (yaa rfl) fun hS hA => ?_
 clear hS hA
 repeat' first|refine yaG ?_|exact yaF|refine yaS ?_ ?_<;>intro _
 refine Go.call _ rfl rfl rfl (zda a.cols hb.1 _) ?_
 rintro r σ0 ⟨x0, m0, rfl, rfl, t0, h0⟩
 rw [E_E] at h0 ⊢
 have t0 := zav t0
 have h0 := h0.new2
 repeat' first|refine yaG ?_|exact yaF|refine yaS ?_ ?_<;>intro _
 have hL : HasL (E σ ((0, [[x0, .str a.table, .int .i64 a.onDelete, .int .i64 a.onUpdate, .bool a.deferred]]) :: (0, [[x0, .str a.table, .int .i64 a.onDelete, .int .i64 a.onUpdate, .bool a.deferred]]) :: ([] ++ m0))) (fun a => σ.next + 2 <= a /\ a < σ.next + 2 + ([] ++ m0).length) (jv a) [x0, .str a.table, .int .i64 a.onDelete, .int .i64 a.onUpdate, .bool a.deferred] := by
  refine HasL.mono ?_ (HasL.two (h0 _ _) (HasL.skip (.str _) (HasL.skip (.int _ _) (HasL.skip (.int _ _) (HasL.skip (.bool _) (HasL.nil (S := fun a => a < 0)))))) (fun a ha hb => by (try dsimp only at ha hb); (try simp only [List.append_eq, List.length_append, List.length_nil, List.nil_append] at ha hb); omega))
  intro a ha
  (try dsimp only at ha)
  (try simp only [List.append_eq, List.length_append, List.length_nil, List.nil_append] at ha ⊢)
  omega
 have hT := hL.tidy (n := σ.next) fun a ha => by have := ha.1; omega
 have hM : wat σ.next ([] ++ m0) := (waf (fun b hb => by simp at hb) t0)
 have hN : NewL σ (jv a) (.agg [x0, .str a.table, .int .i64 a.onDelete, .int .i64 a.onUpdate, .bool a.deferred]) (E σ ((0, [[x0, .str a.table, .int .i64 a.onDelete, .int .i64 a.onUpdate, .bool a.deferred]]) :: (0, [[x0, .str a.table, .int .i64 a.onDelete, .int .i64 a.onUpdate, .bool a.deferred]]) :: ([] ++ m0))) := by
  refine ⟨_, _, rfl, rfl, .one hT (.one hT hM), hL.mono ?_⟩
  intro a ha
  have h9 := ha.1
  have h8 := ha.2
  (try simp only [wx, List.length_cons, List.append_eq, List.length_append, List.length_nil, List.nil_append] at h8 ⊢)
  constructor <;> omega
 exact .ret (jaz rfl rfl rfl (yaa rfl) rfl) hN
theorem zmk (xs : List Fk) (hx : xs.length <= 34359738368) (hv : ∀ e ∈ xs, bFk 34359738368 e) (σ : wa) : Ok Tryz.prog 118 [.c (.fz (xs.map jv))] σ (New σ (.fz (xs.map jv))) :=
 jcx mixed wfz jv xs hx (by decide) rfl (fun _ => rfl) (by intro x hx; simp only [List.mem_cons, List.not_mem_nil, or_false] at hx; rcases hx with rfl | rfl | rfl | rfl | rfl <;> constructor) (fun a ha σ => jnf a (hv a ha) σ) σ
theorem jnw (a b : Fk) : (a == b) = (a.cols == b.cols && a.table == b.table && a.onDelete == b.onDelete && a.onUpdate == b.onUpdate && a.deferred == b.deferred) := by
 obtain ⟨a0, a1, a2, a3, a4⟩ := a
 obtain ⟨b0, b1, b2, b3, b4⟩ := b
 rw [ybc]
 simp [and_assoc]
theorem wnf (a b : Fk) (hb : bFk 34359738368 a) : Pure Tryz.prog 204 [.agg (jv a), .agg (jv b)] (.c (.bool (a == b))) := by
 refine Pure.run mixed zhf (yaa rfl) fun σ hS hA => ?_
 clear hS hA
 have hq := jnw a b
 repeat' first|refine yaG ?_|((first|apply Go.pcallB|apply Go.spcallB|apply Qg.pcallB);(iterate 3 exact rfl);exact zc9 a.cols b.cols hb.1;intro _ _)|exact yaF|refine yaS ?_ ?_<;>intro _
 all_goals refine .ret rfl (.bool ?_)
 all_goals rw [hq]
 all_goals clear hq hb
 all_goals simp_all
theorem jmk (xs ys : List Fk) (hx : xs.length <= 34359738368) (hv : ∀ e ∈ xs, bFk 34359738368 e) : Pure Tryz.prog 131 [.c (.fz (xs.map jv)), .c (.fz (ys.map jv))] (.c (.bool (xs == ys))) :=
 wdf mixed wf1 jv xs ys hx (fun _ => rfl) fun a ha b => wnf a b (hv a ha)
structure Col where
 name : List UInt8
 kind : Int
 notNull : Bool
 dflt : Val
 deriving DecidableEq
def zg (a : Col) : List Ce := [.str a.name, .int .i64 a.kind, .bool a.notNull, .int .i64 a.dflt.k, .int .i64 a.dflt.n, .str a.dflt.s]
theorem jij (a : Col) : ∀ x ∈ zg a, Flat x := by
 intro x hx
 simp only [zg, List.mem_cons, List.not_mem_nil, or_false] at hx
 rcases hx with rfl | rfl | rfl | rfl | rfl | rfl <;> constructor
def bCol (N : Nat) (a : Col) : Prop := a.name.length <= N /\ bV N a.dflt
def zCol (a : Col) : Int -> Int := j3 [(fun l => l - a.name.length), (szV a.dflt)]
theorem whq (a : Col) : jc9 [(fun l => l - a.name.length), (szV a.dflt)] := (.cons (jfi _) (.cons (fun l h => jb7 _ l h) .nil))
theorem jgl (a : Col) (l : Int) (h : 0 <= l) : zCol a l <= l := wa5 (whq a) l h
theorem zng (a : Col) (l : Int) (N : Nat) (h0 : 0 <= l) (h : 0 <= zCol a l) (hl : l <= N) : bCol N a := by
 have hh := jam (whq a) l h0 h
 obtain ⟨q0, u0, v0, w0⟩ := hh (fun l => l - a.name.length) (by simp)
 obtain ⟨q1, u1, v1, w1⟩ := hh (szV a.dflt) (by simp)
 exact ⟨(by (try simp only at w0); omega), (wnd w1 (by omega))⟩
theorem wmk (a : Col) (left : Int) (hb : bCol 1125899906842624 a) (h0 : 0 <= left) (h1 : left <= 34359738368) : Pure Tryz.prog 183 [.agg (zg a), .c (.int .i64 left)] (.c (.int .i64 (zCol a left))) := by
 refine Pure.run mixed jf7 (yaa rfl) fun σ hS hA => ?_
 clear hS hA
 have w1 : 0 <= left -> IntKind.i64.wrap (left - a.name.length) = left - a.name.length := fun h => jf (by have : a.name.length <= 1125899906842624 := hb.1; omega) (by omega)
 repeat' first|refine yaG ?_|exact yaF|refine yaS ?_ ?_<;>intro _
 ·refine .ret rfl (.int ?_)
  rename_i h
  have v1 := w1 (by omega)
  simp only [v1] at h
  simp only [zCol, j3, if_pos h]
 rename_i g1
 have v1 := w1 (by omega)
 simp only [v1] at g1 ⊢
 obtain ⟨l1, e1⟩ : ∃ q, left - (a.name.length : Int) = q := ⟨_, rfl⟩
 rw [e1] at g1 ⊢
 refine .pcall rfl rfl rfl (wii a.dflt l1 hb.2 (by omega) (by omega)) ?_
 have y2 := jb7 a.dflt l1 (by omega)
 generalize e2 : szV a.dflt l1 = l2 at y2 ⊢
 repeat' first|refine yaG ?_|exact yaF|refine yaS ?_ ?_<;>intro _
 ·refine .ret rfl (.int ?_)
  rename_i h
  simp only [zCol, j3, e1, if_neg g1, e2, if_pos h]
 rename_i g2
 refine .ret rfl (.int ?_)
 simp only [zCol, j3, e1, if_neg g1, e2, if_neg g2]
theorem zll (xs : List Col) (left : Int) (hx : xs.length <= 1125899906842624) (hv : ∀ e ∈ xs, bCol 1125899906842624 e) (h0 : 0 <= left) (h1 : left <= 34359738368) : Pure Tryz.prog 105 [.c (.fz (xs.map zg)), .c (.int .i64 left)] (.c (.int .i64 (szL zCol xs left))) :=
 wcx mixed je4 zg zCol xs left hx h0 h1 (fun _ => rfl) jgl fun a ha l h2 h3 => wmk a l (hv a ha) h2 (by omega)
theorem zml (a : Col) (hb : bCol 34359738368 a) (σ : wa) : Ok Tryz.prog 188 [.agg (zg a)] σ (NewL σ (zg a)) := by
 refine Ok.run mixed zf8 (yaa rfl) fun hS hA => ?_
 clear hS hA
 repeat' first|refine yaG ?_|refine yaC (NewL.pure (zij a.dflt)) ?_|exact yaF|refine yaS ?_ ?_<;>intro _
 refine .ret (jaz rfl rfl rfl (yaa rfl) rfl) ⟨zg a, _, rfl, rfl, ?_, .flat (jij a)⟩
 show wat σ.next [(0, [zg a]), (0, [zg a])]
 exact .one (fun x hx => .flat (jij a x hx)) (.one (fun x hx => .flat (jij a x hx)) .nil)
theorem jll (xs : List Col) (hx : xs.length <= 34359738368) (hv : ∀ e ∈ xs, bCol 34359738368 e) (σ : wa) : Ok Tryz.prog 114 [.c (.fz (xs.map zg))] σ (New σ (.fz (xs.map zg))) :=
 jcx mixed we5 zg xs hx (by decide) rfl (fun _ => rfl) (by intro x hx; simp only [List.mem_cons, List.not_mem_nil, or_false] at hx; rcases hx with rfl | rfl | rfl | rfl | rfl | rfl <;> constructor) (fun a ha σ => zml a (hv a ha) σ) σ
theorem jng (a b : Col) : (a == b) = (a.name == b.name && a.kind == b.kind && a.notNull == b.notNull && a.dflt == b.dflt) := by
 obtain ⟨a0, a1, a2, a3⟩ := a
 obtain ⟨b0, b1, b2, b3⟩ := b
 rw [ybc]
 simp [and_assoc]
theorem jml (a b : Col) (hb : bCol 34359738368 a) : Pure Tryz.prog 201 [.agg (zg a), .agg (zg b)] (.c (.bool (a == b))) := by
 refine Pure.run mixed zf9 (yaa rfl) fun σ hS hA => ?_
 clear hS hA
 have hq := jng a b
 repeat' first|refine yaG ?_|((first|apply Go.pcallB|apply Go.spcallB|apply Qg.pcallB);(iterate 3 exact rfl);exact jii a.dflt b.dflt;intro _ _)|exact yaF|refine yaS ?_ ?_<;>intro _
 all_goals refine .ret rfl (.bool ?_)
 all_goals rw [hq]
 all_goals clear hq hb
 all_goals simp_all
theorem wll (xs ys : List Col) (hx : xs.length <= 34359738368) (hv : ∀ e ∈ xs, bCol 34359738368 e) : Pure Tryz.prog 127 [.c (.fz (xs.map zg)), .c (.fz (ys.map zg))] (.c (.bool (xs == ys))) :=
 wdf mixed je6 zg xs ys hx (fun _ => rfl) fun a ha b => jml a b (hv a ha)
structure zd where
 name : List UInt8
 cols : List Col
 key : List Int
 uniques : List Uniq
 checks : List Chk
 fks : List Fk
 deriving DecidableEq
def ja (a : zd) : List Ce := [.str a.name, .fz (a.cols.map zg), .fz (a.key.map encI), .fz (a.uniques.map jl), .fz (a.checks.map jr), .fz (a.fks.map jv)]
def zac (N : Nat) (a : zd) : Prop := a.name.length <= N /\ (a.cols.length <= N /\ ∀ x ∈ a.cols, bCol N x) /\ a.key.length <= N /\ (a.uniques.length <= N /\ ∀ x ∈ a.uniques, jfg N x) /\ (a.checks.length <= N /\ ∀ x ∈ a.checks, bChk N x) /\ (a.fks.length <= N /\ ∀ x ∈ a.fks, bFk N x)
def za0 (a : zd) : Int -> Int := j3 [(fun l => l - a.name.length), (szL zCol a.cols), (zI a.key), (szL jda a.uniques), (szL zChk a.checks), (szL zFk a.fks)]
theorem zes (a : zd) : jc9 [(fun l => l - a.name.length), (szL zCol a.cols), (zI a.key), (szL jda a.uniques), (szL zChk a.checks), (szL zFk a.fks)] := (.cons (jfi _) (.cons (fun l h => jaf jgl _ l h) (.cons (jbv _) (.cons (fun l h => jaf zdx _ l h) (.cons (fun l h => jaf wgk _ l h) (.cons (fun l h => jaf jjf _ l h) .nil))))))
theorem jdx (a : zd) (l : Int) (h : 0 <= l) : za0 a l <= l := wa5 (zes a) l h
theorem zlm (a : zd) (l : Int) (N : Nat) (h0 : 0 <= l) (h : 0 <= za0 a l) (hl : l <= N) : zac N a := by
 have hh := jam (zes a) l h0 h
 obtain ⟨q0, u0, v0, w0⟩ := hh (fun l => l - a.name.length) (by simp)
 obtain ⟨q1, u1, v1, w1⟩ := hh (szL zCol a.cols) (by simp)
 obtain ⟨q2, u2, v2, w2⟩ := hh (zI a.key) (by simp)
 obtain ⟨q3, u3, v3, w3⟩ := hh (szL jda a.uniques) (by simp)
 obtain ⟨q4, u4, v4, w4⟩ := hh (szL zChk a.checks) (by simp)
 obtain ⟨q5, u5, v5, w5⟩ := hh (szL zFk a.fks) (by simp)
 exact ⟨(by (try simp only at w0); omega), (wa2 jgl zng u1 w1 (by omega)), (zj3 w2 (by omega)), (wa2 zdx zmj u3 w3 (by omega)), (wa2 wgk jne u4 w4 (by omega)), (wa2 jjf znw u5 w5 (by omega))⟩
theorem zkx (a : zd) (left : Int) (hb : zac 1125899906842624 a) (h0 : 0 <= left) (h1 : left <= 34359738368) : Pure Tryz.prog 39 [.agg (ja a), .c (.int .i64 left)] (.c (.int .i64 (za0 a left))) := by
 refine Pure.run mixed wd7 (yaa rfl) fun σ hS hA => ?_
 clear hS hA
 have w1 : 0 <= left -> IntKind.i64.wrap (left - a.name.length) = left - a.name.length := fun h => jf (by have : a.name.length <= 1125899906842624 := hb.1; omega) (by omega)
 repeat' first|refine yaG ?_|exact yaF|refine yaS ?_ ?_<;>intro _
 ·refine .ret rfl (.int ?_)
  rename_i h
  have v1 := w1 (by omega)
  simp only [v1] at h
  simp only [za0, j3, if_pos h]
 rename_i g1
 have v1 := w1 (by omega)
 simp only [v1] at g1 ⊢
 obtain ⟨l1, e1⟩ : ∃ q, left - (a.name.length : Int) = q := ⟨_, rfl⟩
 rw [e1] at g1 ⊢
 refine .pcall rfl rfl rfl (zll a.cols l1 hb.2.1.1 hb.2.1.2 (by omega) (by omega)) ?_
 have y2 := jaf jgl a.cols l1 (by omega)
 generalize e2 : szL zCol a.cols l1 = l2 at y2 ⊢
 repeat' first|refine yaG ?_|exact yaF|refine yaS ?_ ?_<;>intro _
 ·refine .ret rfl (.int ?_)
  rename_i h
  simp only [za0, j3, e1, if_neg g1, e2, if_pos h]
 rename_i g2
 refine .pcall rfl rfl rfl (wc9 a.key l2 hb.2.2.1 (by omega) (by omega)) ?_
 have y3 := jbv a.key l2 (by omega)
 generalize e3 : zI a.key l2 = l3 at y3 ⊢
 repeat' first|refine yaG ?_|exact yaF|refine yaS ?_ ?_<;>intro _
 ·refine .ret rfl (.int ?_)
  rename_i h
  simp only [za0, j3, e1, if_neg g1, e2, if_neg g2, e3, if_pos h]
 rename_i g3
 refine .pcall rfl rfl rfl (zkw a.uniques l3 hb.2.2.2.1.1 hb.2.2.2.1.2 (by omega) (by omega)) ?_
 have y4 := jaf zdx a.uniques l3 (by omega)
 generalize e4 : szL jda a.uniques l3 = l4 at y4 ⊢
 repeat' first|refine yaG ?_|exact yaF|refine yaS ?_ ?_<;>intro _
 ·refine .ret rfl (.int ?_)
  rename_i h
  simp only [za0, j3, e1, if_neg g1, e2, if_neg g2, e3, if_neg g3, e4, if_pos h]
 rename_i g4
 refine .pcall rfl rfl rfl (zlj a.checks l4 hb.2.2.2.2.1.1 hb.2.2.2.2.1.2 (by omega) (by omega)) ?_
 have y5 := jaf wgk a.checks l4 (by omega)
 generalize e5 : szL zChk a.checks l4 = l5 at y5 ⊢
 repeat' first|refine yaG ?_|exact yaF|refine yaS ?_ ?_<;>intro _
 ·refine .ret rfl (.int ?_)
  rename_i h
  simp only [za0, j3, e1, if_neg g1, e2, if_neg g2, e3, if_neg g3, e4, if_neg g4, e5, if_pos h]
 rename_i g5
 refine .pcall rfl rfl rfl (wmj a.fks l5 hb.2.2.2.2.2.1 hb.2.2.2.2.2.2 (by omega) (by omega)) ?_
 have y6 := jaf jjf a.fks l5 (by omega)
 generalize e6 : szL zFk a.fks l5 = l6 at y6 ⊢
 repeat' first|refine yaG ?_|exact yaF|refine yaS ?_ ?_<;>intro _
 ·refine .ret rfl (.int ?_)
  rename_i h
  simp only [za0, j3, e1, if_neg g1, e2, if_neg g2, e3, if_neg g3, e4, if_neg g4, e5, if_neg g5, e6, if_pos h]
 rename_i g6
 refine .ret rfl (.int ?_)
 simp only [za0, j3, e1, if_neg g1, e2, if_neg g2, e3, if_neg g3, e4, if_neg g4, e5, if_neg g5, e6, if_neg g6]
theorem wj3 (xs : List zd) (left : Int) (hx : xs.length <= 1125899906842624) (hv : ∀ e ∈ xs, zac 1125899906842624 e) (h0 : 0 <= left) (h1 : left <= 34359738368) : Pure Tryz.prog 8 [.c (.fz (xs.map ja)), .c (.int .i64 left)] (.c (.int .i64 (szL za0 xs left))) :=
 wcx mixed jdh ja za0 xs left hx h0 h1 (fun _ => rfl) jdx fun a ha l h2 h3 => zkx a l (hv a ha) h2 (by omega)
theorem jkx (a : zd) (hb : zac 34359738368 a) (σ : wa) : Ok Tryz.prog 45 [.agg (ja a)] σ (NewL σ (ja a)) := by
 refine Ok.run mixed zd8 (yaa rfl) fun hS hA => ?_
 clear hS hA
 repeat' first|refine yaG ?_|exact yaF|refine yaS ?_ ?_<;>intro _
 refine Go.call _ rfl rfl rfl (jll a.cols hb.2.1.1 hb.2.1.2 _) ?_
 rintro r σ0 ⟨x0, m0, rfl, rfl, t0, h0⟩
 rw [E_E] at h0 ⊢
 have t0 := zav t0
 have h0 := h0.new2
 repeat' first|refine yaG ?_|exact yaF|refine yaS ?_ ?_<;>intro _
 refine Go.call _ rfl rfl rfl (zda a.key hb.2.2.1 _) ?_
 rintro r σ1 ⟨x1, m1, rfl, rfl, t1, h1⟩
 rw [E_E] at h1 ⊢
 have t1 := zav t1
 have h1 := h1.new2
 have h0 := Has.more h0 (fun a ha => by have h9 := ha.1; have h8 := ha.2; simp only [List.append_eq, List.length_nil, List.length_append, List.nil_append] at h9 h8 ⊢; omega) m1
 repeat' first|refine yaG ?_|exact yaF|refine yaS ?_ ?_<;>intro _
 refine Go.call _ rfl rfl rfl (jkw a.uniques hb.2.2.2.1.1 hb.2.2.2.1.2 _) ?_
 rintro r σ2 ⟨x2, m2, rfl, rfl, t2, h2⟩
 rw [E_E] at h2 ⊢
 have t2 := zav t2
 have h2 := h2.new2
 have h0 := Has.more h0 (fun a ha => by have h9 := ha.1; have h8 := ha.2; simp only [List.append_eq, List.length_nil, List.length_append, List.nil_append] at h9 h8 ⊢; omega) m2
 have h1 := Has.more h1 (fun a ha => by have h9 := ha.1; have h8 := ha.2; simp only [List.append_eq, List.length_nil, List.length_append, List.nil_append] at h9 h8 ⊢; omega) m2
 repeat' first|refine yaG ?_|exact yaF|refine yaS ?_ ?_<;>intro _
 refine Go.call _ rfl rfl rfl (jlj a.checks hb.2.2.2.2.1.1 hb.2.2.2.2.1.2 _) ?_
 rintro r σ3 ⟨x3, m3, rfl, rfl, t3, h3⟩
 rw [E_E] at h3 ⊢
 have t3 := zav t3
 have h3 := h3.new2
 have h0 := Has.more h0 (fun a ha => by have h9 := ha.1; have h8 := ha.2; simp only [List.append_eq, List.length_nil, List.length_append, List.nil_append] at h9 h8 ⊢; omega) m3
 have h1 := Has.more h1 (fun a ha => by have h9 := ha.1; have h8 := ha.2; simp only [List.append_eq, List.length_nil, List.length_append, List.nil_append] at h9 h8 ⊢; omega) m3
 have h2 := Has.more h2 (fun a ha => by have h9 := ha.1; have h8 := ha.2; simp only [List.append_eq, List.length_nil, List.length_append, List.nil_append] at h9 h8 ⊢; omega) m3
 repeat' first|refine yaG ?_|exact yaF|refine yaS ?_ ?_<;>intro _
 refine Go.call _ rfl rfl rfl (zmk a.fks hb.2.2.2.2.2.1 hb.2.2.2.2.2.2 _) ?_
 rintro r σ4 ⟨x4, m4, rfl, rfl, t4, h4⟩
 rw [E_E] at h4 ⊢
 have t4 := zav t4
 have h4 := h4.new2
 have h0 := Has.more h0 (fun a ha => by have h9 := ha.1; have h8 := ha.2; simp only [List.append_eq, List.length_nil, List.length_append, List.nil_append] at h9 h8 ⊢; omega) m4
 have h1 := Has.more h1 (fun a ha => by have h9 := ha.1; have h8 := ha.2; simp only [List.append_eq, List.length_nil, List.length_append, List.nil_append] at h9 h8 ⊢; omega) m4
 have h2 := Has.more h2 (fun a ha => by have h9 := ha.1; have h8 := ha.2; simp only [List.append_eq, List.length_nil, List.length_append, List.nil_append] at h9 h8 ⊢; omega) m4
 have h3 := Has.more h3 (fun a ha => by have h9 := ha.1; have h8 := ha.2; simp only [List.append_eq, List.length_nil, List.length_append, List.nil_append] at h9 h8 ⊢; omega) m4
 repeat' first|refine yaG ?_|exact yaF|refine yaS ?_ ?_<;>intro _
 have hL : HasL (E σ ((0, [[.str a.name, x0, x1, x2, x3, x4]]) :: (0, [[.str a.name, x0, x1, x2, x3, x4]]) :: ([] ++ m0 ++ m1 ++ m2 ++ m3 ++ m4))) (fun a => σ.next + 2 <= a /\ a < σ.next + 2 + ([] ++ m0 ++ m1 ++ m2 ++ m3 ++ m4).length) (ja a) [.str a.name, x0, x1, x2, x3, x4] := by
  refine HasL.mono ?_ (HasL.skip (.str _) (HasL.two (h0 _ _) (HasL.two (h1 _ _) (HasL.two (h2 _ _) (HasL.two (h3 _ _) (HasL.two (h4 _ _) (HasL.nil (S := fun a => a < 0)) (fun a ha hb => by (try dsimp only at ha hb); (try simp only [List.append_eq, List.length_append, List.length_nil, List.nil_append] at ha hb); omega)) (fun a ha hb => by (try dsimp only at ha hb); (try simp only [List.append_eq, List.length_append, List.length_nil, List.nil_append] at ha hb); omega)) (fun a ha hb => by (try dsimp only at ha hb); (try simp only [List.append_eq, List.length_append, List.length_nil, List.nil_append] at ha hb); omega)) (fun a ha hb => by (try dsimp only at ha hb); (try simp only [List.append_eq, List.length_append, List.length_nil, List.nil_append] at ha hb); omega)) (fun a ha hb => by (try dsimp only at ha hb); (try simp only [List.append_eq, List.length_append, List.length_nil, List.nil_append] at ha hb); omega)))
  intro a ha
  (try dsimp only at ha)
  (try simp only [List.append_eq, List.length_append, List.length_nil, List.nil_append] at ha ⊢)
  omega
 have hT := hL.tidy (n := σ.next) fun a ha => by have := ha.1; omega
 have hM : wat σ.next ([] ++ m0 ++ m1 ++ m2 ++ m3 ++ m4) := (waf (waf (waf (waf (waf (fun b hb => by simp at hb) t0) t1) t2) t3) t4)
 have hN : NewL σ (ja a) (.agg [.str a.name, x0, x1, x2, x3, x4]) (E σ ((0, [[.str a.name, x0, x1, x2, x3, x4]]) :: (0, [[.str a.name, x0, x1, x2, x3, x4]]) :: ([] ++ m0 ++ m1 ++ m2 ++ m3 ++ m4))) := by
  refine ⟨_, _, rfl, rfl, .one hT (.one hT hM), hL.mono ?_⟩
  intro a ha
  have h9 := ha.1
  have h8 := ha.2
  (try simp only [wx, List.length_cons, List.append_eq, List.length_append, List.length_nil, List.nil_append] at h8 ⊢)
  constructor <;> omega
 exact .ret (jaz rfl rfl rfl (yaa rfl) rfl) hN
theorem wda (xs : List zd) (hx : xs.length <= 34359738368) (hv : ∀ e ∈ xs, zac 34359738368 e) (σ : wa) : Ok Tryz.prog 11 [.c (.fz (xs.map ja))] σ (New σ (.fz (xs.map ja))) :=
 jcx mixed wdh ja xs hx (by decide) rfl (fun _ => rfl) (by intro x hx; simp only [List.mem_cons, List.not_mem_nil, or_false] at hx; rcases hx with rfl | rfl | rfl | rfl | rfl | rfl <;> constructor) (fun a ha σ => jkx a (hv a ha) σ) σ
theorem jlm (a b : zd) : (a == b) = (a.name == b.name && a.cols == b.cols && a.key == b.key && a.uniques == b.uniques && a.checks == b.checks && a.fks == b.fks) := by
 obtain ⟨a0, a1, a2, a3, a4, a5⟩ := a
 obtain ⟨b0, b1, b2, b3, b4, b5⟩ := b
 rw [ybc]
 simp [and_assoc]
theorem wkx (a b : zd) (hb : zac 34359738368 a) : Pure Tryz.prog 53 [.agg (ja a), .agg (ja b)] (.c (.bool (a == b))) := by
 refine Pure.run mixed wd8 (yaa rfl) fun σ hS hA => ?_
 clear hS hA
 have hq := jlm a b
 repeat' first|refine yaG ?_|((first|apply Go.pcallB|apply Go.spcallB|apply Qg.pcallB);(iterate 3 exact rfl);(first|exact wll a.cols b.cols hb.2.1.1 hb.2.1.2|exact zc9 a.key b.key hb.2.2.1|exact wkw a.uniques b.uniques hb.2.2.2.1.1 hb.2.2.2.1.2|exact wlj a.checks b.checks hb.2.2.2.2.1.1 hb.2.2.2.2.1.2|exact jmk a.fks b.fks hb.2.2.2.2.2.1 hb.2.2.2.2.2.2);intro _ _)|exact yaF|refine yaS ?_ ?_<;>intro _
 all_goals refine .ret rfl (.bool ?_)
 all_goals rw [hq]
 all_goals clear hq hb
 all_goals simp_all
theorem wgl (xs ys : List zd) (hx : xs.length <= 34359738368) (hv : ∀ e ∈ xs, zac 34359738368 e) : Pure Tryz.prog 15 [.c (.fz (xs.map ja)), .c (.fz (ys.map ja))] (.c (.bool (xs == ys))) :=
 wdf mixed zdi ja xs ys hx (fun _ => rfl) fun a ha b => wkx a b (hv a ha)
theorem jkj {fr : Fr} {σ : wa} {x y : Opd} {kd : IntKind} {s : List UInt8} {z : Int} {n : Nat} (hx : x.ev fr = some (.c (.str s))) (hy : y.ev fr = some (.c (.int kd z))) (hz : z = (n : Int)) (hn : n < s.length) : aop (.idx x y) fr σ = some (.c (.int .u8 (s[n].toNat : Int)), σ) := by
 subst hz
 simp [aop, hx, hy, hn]
def zci (c : UInt8) : Bool := decide (97 <= c.toNat) && decide (c.toNat <= 122)
def zba (s : List UInt8) : Bool := s.all zci && isIn s.length 1 8
theorem zgm (s : List UInt8) (hx : s.length <= 34359738368) : Pure Tryz.prog 241 [.c (.str s)] (.c (.bool (zba s))) := by
 refine Pure.run mixed wfc (yaa rfl) fun σ hS hA => ?_
 clear hS hA
 repeat' first|refine yaG ?_|exact yaF|refine yaS ?_ ?_<;>intro _
 refine Go.keep [0, 5, 6] (Go.loops (I := fun m fr τ => ∃ i : Nat, ∃ n : Int, m = s.length - i /\ i <= s.length /\ n = i /\ s.all zci = (s.drop i).all zci /\
  fr = [(0, .c (.str s)), (5, .c (.int .i64 (s.length : Int))), (6, .c (.int .i64 n))] /\ τ = E σ []) ?_ _ _ _ ⟨0, _, rfl, yae _, rfl, rfl, rfl, rfl⟩)
 rintro m fr τ ⟨i, n, rfl, hi, hn, hs, rfl, rfl⟩ hrec
 by_cases hlt : i < s.length
 ·have hd := yac hlt
  repeat' first|refine yaG ?_|((first|apply yG|apply yH|apply yI);exact rfl;(first|exact jkj rfl rfl hn hlt))|exact yaF|refine yaS ?_ ?_<;>intro _
  ·refine .ret rfl (.bool ?_)
   rename_i h
   rw [zba, hs, hd, ybq, zci, decide_eq_false (by omega)]
   rfl
  ·refine .ret rfl (.bool ?_)
   rename_i h h2
   rw [zba, hs, hd, ybq, zci, decide_eq_false (p := s[i].toNat <= 122) (by omega)]
   simp
  ·rename_i h h2
   refine Go.keep [0, 5, 6] (hrec _ _ _ (by omega) ⟨i + 1, _, rfl, hlt, wb hn (by omega), ?_, rfl, rfl⟩)
   rw [hs, hd, ybq, zci, decide_eq_true (by omega), decide_eq_true (by omega)]
   rfl
 ·repeat' first|refine yaG ?_|((first|apply yQ|apply yR|apply yS);(iterate 3 exact rfl);exact jgi _ _ _)|exact yaF|refine yaS ?_ ?_<;>intro _
  refine .ret rfl (.bool ?_)
  rw [zba, hs, yad (by omega)]
  rfl
theorem jgm (s : List UInt8) (hx : s.length <= 34359738368) : Pure Tryz.prog 257 [.c (.str s)] (.c (.bool (zba s))) := by
 refine Pure.run mixed jfe (yaa rfl) fun σ hS hA => ?_
 clear hS hA
 repeat' first|refine yaG ?_|exact yaF|refine yaS ?_ ?_<;>intro _
 refine Go.keep [0, 3] (Go.loops (I := fun m fr τ => ∃ i : Nat, ∃ n : Int, m = s.length - i /\ i <= s.length /\ n = i /\ s.all zci = (s.drop i).all zci /\
  fr = [(0, .c (.str s)), (3, .c (.int .i64 n))] /\ τ = E σ []) ?_ _ _ _ ⟨0, _, rfl, yae _, rfl, rfl, rfl, rfl⟩)
 rintro m fr τ ⟨i, n, rfl, hi, hn, hs, rfl, rfl⟩ hrec
 by_cases hlt : i < s.length
 ·have hd := yac hlt
  repeat' first|refine yaG ?_|((first|apply yG|apply yH|apply yI);exact rfl;(first|exact jkj rfl rfl hn hlt))|exact yaF|refine yaS ?_ ?_<;>intro _
  ·refine .ret rfl (.bool ?_)
   rename_i h
   rw [zba, hs, hd, ybq, zci, decide_eq_false (by omega)]
   rfl
  ·refine .ret rfl (.bool ?_)
   rename_i h h2
   rw [zba, hs, hd, ybq, zci, decide_eq_false (p := s[i].toNat <= 122) (by omega)]
   simp
  ·rename_i h h2
   refine Go.keep [0, 3] (hrec _ _ _ (by omega) ⟨i + 1, _, rfl, hlt, wb hn (by omega), ?_, rfl, rfl⟩)
   rw [hs, hd, ybq, zci, decide_eq_true (by omega), decide_eq_true (by omega)]
   rfl
 ·repeat' first|refine yaG ?_|((first|apply yQ|apply yR|apply yS);(iterate 3 exact rfl);exact wau _ _ _)|exact yaF|refine yaS ?_ ?_<;>intro _
  refine .ret rfl (.bool ?_)
  rw [zba, hs, yad (by omega)]
  rfl
def we (t : Tok) : Int := if t.kind = 1 \/ t.kind = 2 then 0 else if t.kind = 7 \/ t.kind = 8 then 1 else 2
def vz (v : Val) : Bool := v.k == 0 && (v.n == 0 && v.s == [])
def ja0 (t : Tok) (n : Int) : Bool := if t.kind = 1 then isIn t.col 0 (n - 1) && vz t.v else if t.kind = 2 then t.col == 0 && zr t.v else isIn t.kind 3 10 && t.col == 0 && vz t.v
theorem wkj (t : Tok) : Pure Tryz.prog 237 [.agg (zh t)] (.c (.int .i64 (we t))) := by
 refine Pure.run mixed jc6 (yaa rfl) fun σ hS hA => ?_
 clear hS hA
 repeat' first|refine yaG ?_|exact yaF|refine yaS ?_ ?_<;>intro _
 all_goals refine .ret rfl (.int ?_)
 all_goals simp_all [we]
theorem wml (t : Tok) (n : Int) (h0 : -4611686018427387904 <= n) (h1 : n <= 4611686018427387904) : Pure Tryz.prog 260 [.agg (zh t), .c (.int .i64 n)] (.c (.bool (ja0 t n))) := by
 refine Pure.run mixed jgd (yaa rfl) fun σ hS hA => ?_
 clear hS hA
 have hw : IntKind.i64.wrap (n - 1) = n - 1 := jf (by omega) (by omega)
 repeat' first|refine yaG ?_|((first|apply Go.pcallB|apply Go.spcallB|apply Qg.pcallB);(iterate 3 exact rfl);(first|exact jgi _ _ _|exact jcp _);intro _ _)|exact yaF|refine yaS ?_ ?_<;>intro _
 all_goals refine .ret rfl (.bool ?_)
 all_goals simp_all [ja0, vz]
theorem nbT {x b : Bool} (h : x = b) (k : (!b) = true) : x = false := by cases b <;> simp_all
theorem nbF {x b : Bool} (h : x = b) (k : (!b) = false) : x = true := by cases b <;> simp_all
theorem bT {x b : Bool} (h : x = b) (k : b = true) : x = true := h.trans k
theorem bF {x b : Bool} (h : x = b) (k : b = false) : x = false := h.trans k
def wgm (t : Tok) (n : Int) : Int := if ja0 t n then we t else -1
theorem zkk {k : Int} : isIn k 3 10 = true ↔ (k = 3 \/ k = 4 \/ k = 5 \/ k = 6 \/ k = 7 \/ k = 8 \/ k = 9 \/ k = 10) := by
 simp only [isIn, Bool.and_eq_true, decide_eq_true_eq]
 omega
theorem zky (t : Tok) (n : Int) (h0 : -4611686018427387904 <= n) (h1 : n <= 4611686018427387904) : Pure Tryz.prog 216 [.agg (zh t), .c (.int .i64 n)] (.c (.int .i64 (wgm t n))) := by
 refine Pure.run mixed zeh (yaa rfl) fun σ hS hA => ?_
 clear hS hA
 have hw : IntKind.i64.wrap (n - 1) = n - 1 := jf (by omega) (by omega)
 have h310 := @zkk t.kind
 repeat' first|refine yaG ?_|((first|apply Go.pcallB|apply Go.spcallB|apply Qg.pcallB);(iterate 3 exact rfl);(first|exact wau _ _ _|exact zaf _);intro _ _)|exact yaF|refine yaS ?_ ?_<;>intro _
 all_goals refine .ret rfl (.int ?_)
 all_goals first
  |(simp_all [wgm, ja0, vz, we]; done)
  |(cases hk : isIn t.kind 3 10 <;> simp_all [wgm, ja0, vz, we]; done)
  |(rename_i hl; have hz : vz t.v = false := (by cases h : vz t.v; (· rfl); (· exfalso; simp [vz] at h; simp [h] at hl)); clear hl; simp_all [wgm, ja0]; done)
def jw (n : Int) : Int -> List Tok -> Bool
 | left, [] => left == 1
 | left, t :: r => ja0 t n && decide (we t <= left) && jw n (left + 1 - we t) r
theorem za6 (t : Tok) : 0 <= we t /\ we t <= 2 := by
 simp only [we]
 split
 ·omega
 ·split <;> omega
theorem wdx (e : List Tok) (n : Int) (hx : e.length <= 34359738368) : Pure Tryz.prog 220 [.c (.fz (e.map zh)), .c (.int .i64 n)] (.c (.bool (decide ((e.length : Int) <= 24) && isIn n 0 16 && jw n 0 e))) := by
 refine Pure.run mixed wfa (yaa rfl) fun σ hS hA => ?_
 clear hS hA
 repeat' first|refine yaG ?_|((first|apply Go.pcallB|apply Go.spcallB|apply Qg.pcallB);(iterate 3 exact rfl);exact jgi _ _ _;intro _ _)|exact yaF|refine yaS ?_ ?_<;>intro _
 ·refine .ret rfl (.bool ?_)
  rename_i h
  rw [decide_eq_false (by omega)]
  rfl
 ·refine .ret rfl (.bool ?_)
  simp_all
 rename_i hl b hb hn
 have hn16 : 0 <= n /\ n <= 16 := by
  have : isIn n 0 16 = true := by simp_all
  simpa [isIn] using this
 refine Go.keep [1, 5, 16, 17, 18] (Go.loops (I := fun m fr τ => ∃ i : Nat, ∃ k l : Int, m = e.length - i /\ i <= e.length /\ k = i /\ (0 <= l /\ l <= i /\ jw n 0 e = jw n l (e.drop i)) /\
  fr = [(1, .c (.int .i64 n)), (5, .c (.int .i64 l)), (16, .c (.fz (e.map zh))), (17, .c (.int .i64 (e.length : Int))), (18, .c (.int .i64 k))] /\ τ = E σ []) ?_ _ _ _ ⟨0, _, _, rfl, Nat.zero_le _, rfl, ⟨Int.le_refl _, by simp, rfl⟩, rfl, rfl⟩)
 rintro m fr τ ⟨i, k, l, rfl, hi, hk, ⟨hl0, hl1, hsl⟩, rfl, rfl⟩ hrec
 have hres : (decide ((e.length : Int) <= 24) && isIn n 0 16 && jw n 0 e) = jw n 0 e := by
  rw [decide_eq_true (p := (e.length : Int) <= 24) (by omega), hb]
  cases b
  ·simp at hn
  ·simp
 by_cases hlt : i < e.length
 ·have hd := yac hlt
  have ht := za6 e[i]
  repeat' first|refine yaG ?_|((first|apply yG|apply yH|apply yI);exact rfl;(first|exact yX (enc := zh) rfl rfl hk hlt rfl))|refine yaC (wkj e[i]) ?_|((first|apply Go.pcallB|apply Go.spcallB|apply Qg.pcallB);(iterate 3 exact rfl);exact wml e[i] n (by omega) (by omega);intro _ _)|exact yaF|refine yaS ?_ ?_<;>intro _
  ·refine .ret rfl (.bool ?_)
   rename_i b1 hb1 hb2
   rw [hres, hsl, hd, jw, nbT hb1 hb2]
   rfl
  ·refine .ret rfl (.bool ?_)
   rename_i h
   rw [hres, hsl, hd, jw, decide_eq_false (p := we e[i] <= l) (by omega)]
   simp
  ·rename_i b1 hb1 hb2 h
   have w1 : IntKind.i64.wrap (1 - we e[i]) = 1 - we e[i] := jf (by omega) (by omega)
   have w2 : IntKind.i64.wrap (l + (1 - we e[i])) = l + 1 - we e[i] := by rw [jf (by omega) (by omega)]; omega
   refine Go.keep [1, 5, 16, 17, 18] (hrec _ _ _ (by omega) ⟨i + 1, _, _, rfl, hlt, wb hk (by omega), ⟨?_, ?_, ?_⟩, rfl, rfl⟩)
   ·rw [w1, w2]; omega
   ·rw [w1, w2]; omega
   ·rw [w1, w2, hsl, hd, jw, decide_eq_true (p := we e[i] <= l) (by omega)]
    rw [nbF hb1 hb2]
    rfl
 ·repeat' first|refine yaG ?_|exact yaF|refine yaS ?_ ?_<;>intro _
  refine .ret rfl (.bool ?_)
  rw [hres, hsl, yad (by omega)]
  rfl
theorem wjf (e : List Tok) (n : Int) (hx : e.length <= 34359738368) (h0 : -4611686018427387904 <= n) (h1 : n <= 4611686018427387904) : Pure Tryz.prog 155 [.c (.fz (e.map zh)), .c (.int .i64 n)] (.c (.bool (decide ((e.length : Int) <= 24) && jw n 0 e))) := by
 refine Pure.run mixed je8 (yaa rfl) fun σ hS hA => ?_
 clear hS hA
 repeat' first|refine yaG ?_|exact yaF|refine yaS ?_ ?_<;>intro _
 refine Go.keep [0, 1, 5, 6] (Go.loops (I := fun m fr τ => ∃ i : Nat, ∃ k l : Int, m = e.length - i /\ i <= e.length /\ k = i /\ (0 <= l /\ l <= i /\ jw n 0 e = jw n l (e.drop i)) /\
  fr = [(0, .c (.fz (e.map zh))), (1, .c (.int .i64 n)), (5, .c (.int .i64 l)), (6, .c (.int .i64 k))] /\ τ = E σ []) ?_ _ _ _ ⟨0, _, _, rfl, Nat.zero_le _, rfl, ⟨Int.le_refl _, by simp, rfl⟩, rfl, rfl⟩)
 rintro m fr τ ⟨i, k, l, rfl, hi, hk, ⟨hl0, hl1, hsl⟩, rfl, rfl⟩ hrec
 by_cases hlt : i < e.length
 ·have hd := yac hlt
  have ht := za6 e[i]
  have neg : (ja0 e[i] n = false \/ ¬ we e[i] <= l) -> (decide ((e.length : Int) <= 24) && jw n 0 e) = false := by
   intro h
   rw [hsl, hd, jw]
   rcases h with h | h
   ·simp [h]
   ·rw [decide_eq_false (p := we e[i] <= l) h]; simp
  repeat' first|refine yaG ?_|((first|apply yG|apply yH|apply yI);exact rfl;(first|exact yX (enc := zh) rfl rfl hk hlt rfl))|((first|apply Go.pcallI|apply Go.spcallI|apply Qg.pcallI);(iterate 3 exact rfl);exact zky e[i] n h0 h1;intro _ _)|exact yaF|refine yaS ?_ ?_<;>intro _
  ·refine .ret rfl (.bool ?_)
   rename_i q hq h
   refine (neg (.inl ?_)).symm
   cases hc : ja0 e[i] n
   ·rfl
   ·simp only [wgm, hc, if_true] at hq; omega
  ·refine .ret rfl (.bool ?_)
   rename_i q hq h h2
   refine (neg (.inr ?_)).symm
   simp only [wgm] at hq
   split at hq <;> omega
  ·rename_i q hq h h2
   have hc : ja0 e[i] n = true /\ we e[i] = q := by
    simp only [wgm] at hq
    split at hq
    ·exact ⟨by assumption, hq⟩
    ·omega
   have w1 : IntKind.i64.wrap (l - q) = l - q := jf (by omega) (by omega)
   have w2 : IntKind.i64.wrap (l - q + 1) = l + 1 - we e[i] := by rw [jf (by omega) (by omega)]; omega
   refine Go.keep [0, 1, 5, 6] (hrec _ _ _ (by omega) ⟨i + 1, _, _, rfl, hlt, wb hk (by omega), ⟨?_, ?_, ?_⟩, rfl, rfl⟩)
   ·rw [w1, w2]; omega
   ·rw [w1, w2]; omega
   ·rw [w1, w2, hsl, hd, jw, decide_eq_true (p := we e[i] <= l) (by omega), hc.1]
    rfl
 ·have hfin : jw n 0 e = (l == 1) := by
   rw [hsl, yad (by omega)]
   rfl
  repeat' first|refine yaG ?_|exact yaF|refine yaS ?_ ?_<;>intro _
  all_goals refine .ret rfl (.bool ?_)
  all_goals rw [hfin]
  all_goals clear hrec hfin hsl
  all_goals simp_all
def zal (n : Int) : List Int -> List Int -> Bool
 | _, [] => true
 | pre, c :: r => isIn c 0 (n - 1) && !(pre.any fun a => c == a) && zal n (pre ++ [c]) r
def wbk (l : List Int) (n : Int) : Bool := zal n [] l && decide (0 < (l.length : Int))
theorem war {fr : Fr} {σ : wa} {s : Nat} {x hi : Opd} {kd : IntKind} {es : List (List Ce)} {z : Int} {n : Nat} (hx : x.ev fr = some (.c (.fz es))) (hy : hi.ev fr = some (.c (.int kd z))) (hz : z = (n : Int)) (hn : n <= es.length) (hs : ∀ e ∈ es, e.length = s) : aop (.slice s x none (some hi) none) fr σ = some (.c (.fz (es.take n)), σ) := by
 have : jhm σ s (.fz es) none (some (.c (.int kd z))) none = some (.fz (es.take n)) := by
  subst hz
  simp only [jhm, zah]
  rw [if_pos (by omega)]
  simp only [Int.toNat_natCast]
  rw [if_pos ⟨yae _, hn, hs⟩, List.drop_zero]
 simp only [aop, hx, evo, hy, Option.map_some, this]
theorem jkk {l : List Int} : ∀ e ∈ l.map encI, e.length = 1 := fun e he => (wmg l e he).1
theorem wb1 (l : List Int) (n : Int) (hx : l.length <= 34359738368) (h0 : -4611686018427387904 <= n) (h1 : n <= 4611686018427387904) : Pure Tryz.prog 243 [.c (.fz (l.map encI)), .c (.int .i64 n)] (.c (.bool (wbk l n))) := by
 refine Pure.run mixed jcv (yaa rfl) fun σ hS hA => ?_
 clear hS hA
 have hw : IntKind.i64.wrap (n - 1) = n - 1 := jf (by omega) (by omega)
 repeat' first|refine yaG ?_|exact yaF|refine yaS ?_ ?_<;>intro _
 refine Go.keep [0, 1, 7, 8, 9] (Go.loops (I := fun m fr τ => ∃ i : Nat, ∃ k : Int, m = l.length - i /\ i <= l.length /\ k = i /\ zal n [] l = zal n (l.take i) (l.drop i) /\
  fr = [(0, .c (.fz (l.map encI))), (1, .c (.int .i64 n)), (7, .c (.fz (l.map encI))), (8, .c (.int .i64 (l.length : Int))), (9, .c (.int .i64 k))] /\ τ = E σ []) ?_ _ _ _ ⟨0, _, rfl, yae _, rfl, rfl, rfl, rfl⟩)
 rintro m fr τ ⟨i, k, rfl, hi, hk, hsl, rfl, rfl⟩ hrec
 by_cases hlt : i < l.length
 ·have hd := yac hlt
  have htk : (l.map encI).take i = (l.take i).map encI := List.map_take.symm
  have hstep : zal n [] l = (isIn l[i] 0 (n - 1) && !((l.take i).any fun a => l[i] == a) && zal n (l.take (i + 1)) (l.drop (i + 1))) := by
   rw [hsl, hd, zal, yai hlt]
  repeat' first|refine yaG ?_|((first|apply yG|apply yH|apply yI);exact rfl;(first|exact yX (enc := encI) rfl rfl hk hlt rfl))|((first|apply Go.pcallB|apply Go.spcallB|apply Qg.pcallB);(iterate 3 exact rfl);exact jgi _ _ _;intro _ _)|exact yaF|refine yaS ?_ ?_<;>intro _
  ·refine .ret rfl (.bool ?_)
   rename_i b hb hb2
   rw [hw] at hb
   rw [wbk, hstep, nbT hb hb2]
   rfl
  rename_i b hb hb2
  refine .op rfl (war (n := i) rfl rfl hk (by simp; omega) jkk) ?_
  rw [htk]
  repeat' first|refine yaG ?_|((first|apply Go.pcallB|apply Go.spcallB|apply Qg.pcallB);(iterate 3 exact rfl);exact jg3 mixed way wa9 (l.take i) l[i] (by simp;omega);intro _ _)|exact yaF|refine yaS ?_ ?_<;>intro _
  ·refine .ret rfl (.bool ?_)
   rename_i b1 hb1 hb3
   rw [wbk, hstep, bT hb1 hb3]
   simp
  ·refine Go.keep [0, 1, 7, 8, 9] (hrec _ _ _ (by omega) ⟨i + 1, _, rfl, hlt, wb hk (by omega), ?_, rfl, rfl⟩)
   rename_i b1 hb1 hb3
   rw [hw] at hb
   rw [hstep, bF hb1 hb3, nbF hb hb2]
   simp
 ·have hfin : zal n [] l = true := by
   rw [hsl, yad (by omega)]
   rfl
  repeat' first|refine yaG ?_|exact yaF|refine yaS ?_ ?_<;>intro _
  refine .ret rfl (.bool ?_)
  rw [wbk, hfin]
  rfl
theorem zmm (l : List Int) (v : Int) (hx : l.length <= 34359738368) : Pure Tryz.prog 286 [.c (.fz (l.map encI)), .c (.int .i64 v)] (.c (.bool (l.any fun a => v == a))) := by
 refine Pure.run mixed zgg (yaa rfl) fun σ hS hA => ?_
 clear hS hA
 repeat' first|refine yaG ?_|exact yaF|refine yaS ?_ ?_<;>intro _
 refine Go.keep [0, 1, 5] (Go.loops (I := fun m fr τ => ∃ i : Nat, ∃ k : Int, m = l.length - i /\ i <= l.length /\ k = i /\ (l.any fun a => v == a) = ((l.drop i).any fun a => v == a) /\
  fr = [(0, .c (.fz (l.map encI))), (1, .c (.int .i64 v)), (5, .c (.int .i64 k))] /\ τ = E σ []) ?_ _ _ _ ⟨0, _, rfl, yae _, rfl, rfl, rfl, rfl⟩)
 rintro m fr τ ⟨i, k, rfl, hi, hn, hsl, rfl, rfl⟩ hrec
 by_cases hlt : i < l.length
 ·have hd := yac hlt
  repeat' first|refine yaG ?_|((first|apply yG|apply yH|apply yI);exact rfl;(first|exact yX (enc := encI) rfl rfl hn hlt rfl))|exact yaF|refine yaS ?_ ?_<;>intro _
  ·refine .ret rfl (.bool ?_)
   rename_i h
   rw [hsl, hd, List.any_cons, h]
   simp
  ·rename_i h
   refine Go.keep [0, 1, 5] (hrec _ _ _ (by omega) ⟨i + 1, _, rfl, hlt, wb hn (by omega), ?_, rfl, rfl⟩)
   rw [hsl, hd, List.any_cons, beq_eq_false_iff_ne.2 (fun e => h e.symm)]
   rfl
 ·repeat' first|refine yaG ?_|exact yaF|refine yaS ?_ ?_<;>intro _
  refine .ret rfl (.bool ?_)
  rw [hsl, yad (by omega)]
  rfl
theorem zgn (l : List Int) (n : Int) (hx : l.length <= 34359738368) (h0 : -4611686018427387904 <= n) (h1 : n <= 4611686018427387904) : Pure Tryz.prog 258 [.c (.fz (l.map encI)), .c (.int .i64 n)] (.c (.bool (wbk l n))) := by
 refine Pure.run mixed wfe (yaa rfl) fun σ hS hA => ?_
 clear hS hA
 have hw : IntKind.i64.wrap (n - 1) = n - 1 := jf (by omega) (by omega)
 repeat' first|refine yaG ?_|exact yaF|refine yaS ?_ ?_<;>intro _
 refine Go.keep [0, 1, 5] (Go.loops (I := fun m fr τ => ∃ i : Nat, ∃ k : Int, m = l.length - i /\ i <= l.length /\ k = i /\ zal n [] l = zal n (l.take i) (l.drop i) /\
  fr = [(0, .c (.fz (l.map encI))), (1, .c (.int .i64 n)), (5, .c (.int .i64 k))] /\ τ = E σ []) ?_ _ _ _ ⟨0, _, rfl, yae _, rfl, rfl, rfl, rfl⟩)
 rintro m fr τ ⟨i, k, rfl, hi, hk, hsl, rfl, rfl⟩ hrec
 by_cases hlt : i < l.length
 ·have hd := yac hlt
  have htk : (l.map encI).take i = (l.take i).map encI := List.map_take.symm
  have hstep : zal n [] l = (isIn l[i] 0 (n - 1) && !((l.take i).any fun a => l[i] == a) && zal n (l.take (i + 1)) (l.drop (i + 1))) := by
   rw [hsl, hd, zal, yai hlt]
  repeat' first|refine yaG ?_|((first|apply yG|apply yH|apply yI);exact rfl;(first|exact yX (enc := encI) rfl rfl hk hlt rfl))|((first|apply Go.pcallB|apply Go.spcallB|apply Qg.pcallB);(iterate 3 exact rfl);exact wau _ _ _;intro _ _)|exact yaF|refine yaS ?_ ?_<;>intro _
  ·refine .ret rfl (.bool ?_)
   rename_i b hb hb2
   rw [hw] at hb
   rw [wbk, hstep, nbT hb hb2]
   rfl
  rename_i b hb hb2
  repeat' first|refine yaG ?_|((first|apply yG|apply yH|apply yI);exact rfl;(first|exact war (n := i) rfl rfl hk (by simp;omega) jkk|exact yX (enc := encI) rfl rfl hk hlt rfl))|exact yaF|refine yaS ?_ ?_<;>intro _
  rw [htk]
  repeat' first|refine yaG ?_|((first|apply Go.pcallB|apply Go.spcallB|apply Qg.pcallB);(iterate 3 exact rfl);exact zmm (l.take i) l[i] (by simp;omega);intro _ _)|exact yaF|refine yaS ?_ ?_<;>intro _
  ·refine .ret rfl (.bool ?_)
   rename_i b1 hb1 hb3
   rw [wbk, hstep, bT hb1 hb3]
   simp
  ·refine Go.keep [0, 1, 5] (hrec _ _ _ (by omega) ⟨i + 1, _, rfl, hlt, wb hk (by omega), ?_, rfl, rfl⟩)
   rename_i b1 hb1 hb3
   rw [hw] at hb
   rw [hstep, bF hb1 hb3, nbF hb hb2]
   simp
 ·have hfin : zal n [] l = true := by
   rw [hsl, yad (by omega)]
   rfl
  repeat' first|refine yaG ?_|exact yaF|refine yaS ?_ ?_<;>intro _
  refine .ret rfl (.bool ?_)
  rw [wbk, hfin]
  rfl
def jgn (v : Val) (k : Int) : Bool := zr v && (v.k == 0 || v.k == k)
theorem zj4 (v : Val) (k : Int) : Pure Tryz.prog 140 [.agg (encV v), .c (.int .i64 k)] (.c (.bool (jgn v k))) := by
 refine Pure.run mixed jha (yaa rfl) fun σ hS hA => ?_
 clear hS hA
 repeat' first|refine yaG ?_|((first|apply Go.pcallB|apply Go.spcallB|apply Qg.pcallB);(iterate 3 exact rfl);exact jcp _;intro _ _)|exact yaF|refine yaS ?_ ?_<;>intro _
 all_goals refine .ret rfl (.bool ?_)
 all_goals simp_all [jgn]
def jci (f : Fk) (n : Int) : Bool := wbk f.cols n && (zba f.table && (isIn f.onDelete 0 2 && isIn f.onUpdate 0 2))
theorem wng (f : Fk) (n : Int) (hb : bFk 34359738368 f) (h0 : -4611686018427387904 <= n) (h1 : n <= 4611686018427387904) : Pure Tryz.prog 251 [.agg (jv f), .c (.int .i64 n)] (.c (.bool (jci f n))) := by
 refine Pure.run mixed whh (yaa rfl) fun σ hS hA => ?_
 clear hS hA
 repeat' first|refine yaG ?_|((first|apply Go.pcallB|apply Go.spcallB|apply Qg.pcallB);(iterate 3 exact rfl);(first|exact wb1 f.cols n hb.1 h0 h1|exact zgm f.table hb.2|exact jgi _ _ _);intro _ _)|exact yaF|refine yaS ?_ ?_<;>intro _
 all_goals refine .ret rfl (.bool ?_)
 all_goals simp_all [jci]
def wej (c : Col) : Bool := zba c.name && ((c.kind == 1 || c.kind == 2) && jgn c.dflt c.kind)
def wai : List Col -> List Col -> Bool
 | _, [] => true
 | pre, c :: r => wej c && !(pre.any fun d => d.name == c.name) && wai (pre ++ [c]) r
def ja6 (l : List Col) : Bool := decide ((l.length : Int) <= 8) && (wai [] l && decide (0 < (l.length : Int)))
theorem jj4 (d c : Col) : Pure Tryz.prog 279 [.agg (zg d), .c (.fp (zg c))] (.c (.bool (d.name == c.name))) := by
 refine Pure.run mixed zc8 (yaa rfl) fun σ hS hA => ?_
 clear hS hA
 repeat' first|refine yaG ?_|exact yaF|refine yaS ?_ ?_<;>intro _
 all_goals refine .ret rfl (.bool ?_)
 all_goals simp_all
theorem jky (l : List Col) (hx : l.length <= 34359738368) (hb : ∀ c ∈ l, bCol 34359738368 c) : Pure Tryz.prog 242 [.c (.fz (l.map zg))] (.c (.bool (ja6 l))) := by
 refine Pure.run mixed weh (yaa rfl) fun σ hS hA => ?_
 clear hS hA
 repeat' first|refine yaG ?_|exact yaF|refine yaS ?_ ?_<;>intro _
 refine Go.keep [0, 5, 6, 7] (Go.loops (I := fun m fr τ => ∃ i : Nat, ∃ k : Int, m = l.length - i /\ i <= l.length /\ k = i /\ (i <= 8 /\ wai [] l = wai (l.take i) (l.drop i)) /\
  fr = [(0, .c (.fz (l.map zg))), (5, .c (.fz (l.map zg))), (6, .c (.int .i64 (l.length : Int))), (7, .c (.int .i64 k))] /\ τ = E σ []) ?_ _ _ _ ⟨0, _, rfl, yae _, rfl, ⟨by omega, rfl⟩, rfl, rfl⟩)
 rintro m fr τ ⟨i, k, rfl, hi, hk, ⟨h8, hsl⟩, rfl, rfl⟩ hrec
 by_cases hlt : i < l.length
 ·have hd := yac hlt
  have hbc := hb _ (yab hlt)
  have htk : (l.map zg).take i = (l.take i).map zg := List.map_take.symm
  have hstep : wai [] l = (wej l[i] && !((l.take i).any fun d => d.name == l[i].name) && wai (l.take (i + 1)) (l.drop (i + 1))) := by
   rw [hsl, hd, wai, yai hlt]
  have neg : (k = 8 \/ wej l[i] = false \/ ((l.take i).any fun d => d.name == l[i].name) = true) -> ja6 l = false := by
   rintro (h | h | h)
   ·rw [ja6, decide_eq_false (by omega)]
    rfl
   ·rw [ja6, hstep, h]
    simp
   ·rw [ja6, hstep, h]
    simp
  repeat' first|refine yaG ?_|((first|apply yG|apply yH|apply yI);exact rfl;(first|exact yX (enc := zg) rfl rfl hk hlt rfl))|((first|apply Go.pcallB|apply Go.spcallB|apply Qg.pcallB);(iterate 3 exact rfl);(first|exact zgm l[i].name hbc.1|exact zj4 l[i].dflt l[i].kind);intro _ _)|exact yaF|refine yaS ?_ ?_<;>intro _
  all_goals try (refine .ret rfl (.bool (neg ?_).symm); clear hrec hsl hstep neg; simp_all [wej]; done)
  all_goals have hcol : wej l[i] = true := (by clear hrec hsl hstep neg; simp_all [wej])
  all_goals refine .op rfl (war (n := i) rfl rfl hk (by simp; omega) (fun e he => by obtain ⟨c, _, rfl⟩ := List.mem_map.1 he; rfl)) ?_
  all_goals rw [htk]
  all_goals (repeat' first|(apply yA;exact rfl)|apply yB|apply yC|((first|apply yD|apply yE);(first|exact yF|assumption);iterate 6 exact rfl)|((first|apply yG|apply yH|apply yI);exact rfl;(first|exact yJ|exact yK rfl rfl|exact yL rfl|exact yM rfl|exact rfl|exact aL rfl rfl rfl rfl rfl|exact aS rfl rfl rfl rfl rfl rfl rfl))|((first|apply yN|apply yO|apply yP);exact rfl)|((first|apply Go.pcallB|apply Go.spcallB|apply Qg.pcallB);(iterate 3 exact rfl);exact zj mixed zbd jbq zg (fun c => .agg (zg c)) (fun _ => rfl) (fun _ => rfl) (l.take i) (fun d => d.name == l[i].name) _ [] [.fp (zg l[i])] (by simp;omega) (fun j hj _ => jj4 _ _);intro _ _)|exact yaF|(((first|apply yT|apply yU|apply yV|apply yW);exact rfl;(first|exact .d|exact .e|exact .n|((fail_if_success exact bqt);(fail_if_success exact bqf);exact .b)))<;>intro _))
  all_goals rename_i b9 hb9 hb8
  all_goals first
   | exact .ret rfl (.bool (neg (.inr (.inr (bT hb9 hb8)))).symm)
   |(refine Go.keep [0, 5, 6, 7] (hrec _ _ _ (by omega) ⟨i + 1, _, rfl, hlt, wb hk (by omega), ⟨by omega, ?_⟩, rfl, rfl⟩); rw [hstep, hcol, bF hb9 hb8]; rfl)
 ·have hfin : wai [] l = true := by
   rw [hsl, yad (by omega)]
   rfl
  repeat' first|refine yaG ?_|exact yaF|refine yaS ?_ ?_<;>intro _
  refine .ret rfl (.bool ?_)
  rw [ja6, hfin, decide_eq_true (p := (l.length : Int) <= 8) (by omega)]
  rfl
def wt (t : zd) (c : Int) : Bool := match t.cols[c.toNat]? with | some x => x.notNull | none => false
def wbd (e : List Tok) (n : Int) : Bool := decide ((e.length : Int) <= 24) && jw n 0 e
def zag (t : zd) : Bool :=
 zba t.name && (ja6 t.cols && (wbk t.key t.cols.length && (decide ((t.uniques.length : Int) <= 3) && (decide ((t.checks.length : Int) <= 3) && (decide ((t.fks.length : Int) <= 3) &&
  (!(t.key.any fun c => !wt t c) && (!(t.uniques.any fun u => !wbk u.cols t.cols.length) && (!(t.checks.any fun c => !wbd c.expr t.cols.length) && !(t.fks.any fun f => !jci f t.cols.length)))))))))
theorem zhr {n : Int} : ∀ {l pre : List Int}, zal n pre l = true -> ∀ c ∈ l, isIn c 0 (n - 1) = true
 | [], _, _, c, h => by simp at h
 | a :: r, pre, h, c, hc => by
  simp only [zal, Bool.and_eq_true] at h
  rcases List.mem_cons.1 hc with rfl | hc
  ·exact h.1.1
  ·exact zhr h.2 c hc
theorem zb2 {l : List Int} {n : Int} (h : wbk l n = true) : ∀ c ∈ l, 0 <= c /\ c < n := by
 intro c hc
 simp only [wbk, Bool.and_eq_true] at h
 have := zhr h.1 c hc
 simp only [isIn, Bool.and_eq_true, decide_eq_true_eq] at this
 omega
theorem jes {l : List Col} (h : ja6 l = true) : 0 < l.length /\ l.length <= 8 := by
 simp only [ja6, Bool.and_eq_true, decide_eq_true_eq] at h
 omega
theorem wj4 (t : zd) (c : Int) (h0 : 0 <= c) (h1 : c < t.cols.length) : Pure Tryz.prog 245 [.c (.int .i64 c), .c (.fp (ja t))] (.c (.bool (!wt t c))) := by
 refine Pure.run mixed wc6 (yaa rfl) fun σ hS hA => ?_
 clear hS hA
 obtain ⟨n, rfl⟩ : ∃ n : Nat, c = n := ⟨c.toNat, by omega⟩
 have hn : n < t.cols.length := by omega
 repeat' first|refine yaG ?_|((first|apply yG|apply yH|apply yI);exact rfl;(first|exact yX (enc := zg) rfl rfl rfl hn rfl))|exact yaF|refine yaS ?_ ?_<;>intro _
 refine .ret rfl (.bool ?_)
 simp [wt, hn]
theorem zj5 (u : Uniq) (n : Int) (hb : jfg 34359738368 u) (h0 : -4611686018427387904 <= n) (h1 : n <= 4611686018427387904) : Pure Tryz.prog 247 [.agg (jl u), .c (.fp [.int .i64 n])] (.c (.bool (!wbk u.cols n))) := by
 refine Pure.run mixed zc7 (yaa rfl) fun σ hS hA => ?_
 clear hS hA
 repeat' first|refine yaG ?_|refine yaC (wb1 u.cols n hb h0 h1) ?_|exact yaF|refine yaS ?_ ?_<;>intro _
 exact .ret rfl (.bool rfl)
theorem wfi {e : List Tok} {n : Int} (h0 : 0 <= n) (h1 : n <= 16) : (decide ((e.length : Int) <= 24) && isIn n 0 16 && jw n 0 e) = wbd e n := by
 have : isIn n 0 16 = true := by simp [isIn, h0, h1]
 rw [this, Bool.and_true]
 rfl
theorem jj5 (c : Chk) (n : Int) (hb : bChk 34359738368 c) (h0 : 0 <= n) (h1 : n <= 16) : Pure Tryz.prog 249 [.agg (jr c), .c (.fp [.int .i64 n])] (.c (.bool (!wbd c.expr n))) := by
 refine Pure.run mixed jc7 (yaa rfl) fun σ hS hA => ?_
 clear hS hA
 have hc := wdx c.expr n hb.1
 rw [wfi h0 h1] at hc
 repeat' first|refine yaG ?_|refine yaC (hc) ?_|exact yaF|refine yaS ?_ ?_<;>intro _
 exact .ret rfl (.bool rfl)
theorem wj5 (f : Fk) (n : Int) (hb : bFk 34359738368 f) (h0 : -4611686018427387904 <= n) (h1 : n <= 4611686018427387904) : Pure Tryz.prog 250 [.agg (jv f), .c (.fp [.int .i64 n])] (.c (.bool (!jci f n))) := by
 refine Pure.run mixed wc7 (yaa rfl) fun σ hS hA => ?_
 clear hS hA
 repeat' first|refine yaG ?_|refine yaC (wng f n hb h0 h1) ?_|exact yaF|refine yaS ?_ ?_<;>intro _
 exact .ret rfl (.bool rfl)
theorem wky (t : zd) (hb : zac 34359738368 t) : Pure Tryz.prog 192 [.agg (ja t)] (.c (.bool (zag t))) := by
 refine Pure.run mixed zef (yaa rfl) fun σ hS hA => ?_
 clear hS hA
 obtain ⟨b1, b2, b3, b4, b5, b6⟩ := hb
 repeat' first|refine yaG ?_|((first|apply Go.pcallB|apply Go.spcallB|apply Qg.pcallB);(iterate 3 exact rfl);(first|exact zgm t.name b1|exact jky t.cols b2.1 b2.2|exact wb1 t.key t.cols.length b3 (by omega) (by omega));intro _ _)|exact yaF|refine yaS ?_ ?_<;>intro _
 all_goals try (refine .ret rfl (.bool ?_); simp_all [zag]; done)
 ·refine .ret rfl (.bool ?_)
  rw [zag, decide_eq_false (p := (t.uniques.length : Int) <= 3) (by omega)]
  simp
 ·refine .ret rfl (.bool ?_)
  rw [zag, decide_eq_false (p := (t.checks.length : Int) <= 3) (by omega)]
  simp
 ·refine .ret rfl (.bool ?_)
  rw [zag, decide_eq_false (p := (t.fks.length : Int) <= 3) (by omega)]
  simp
 rename_i c1 p1 q1 c2 p2 q2 c3 p3 q3 g1 g2 g3
 have k1 := nbF p1 q1
 have k2 := nbF p2 q2
 have k3 := nbF p3 q3
 have hcl := jes k2
 have hin := zb2 k3
 clear p1 q1 p2 q2 p3 q3
 repeat' first|refine yaG ?_|((first|apply Go.pcallB|apply Go.spcallB|apply Qg.pcallB);(iterate 3 exact rfl);(first|exact zj mixed z5 j8 encI (fun n => .c (.int .i64 n)) (fun _ => rfl) (fun _ => rfl) t.key (fun c => !wt t c) _ [] [.fp (ja t)] b3 (fun j hj _ => wj4 t _ (hin _ (yab hj)).1 (hin _ (yab hj)).2)|exact zj mixed za2 jbd jl (fun u => .agg (jl u)) (fun _ => rfl) (fun _ => rfl) t.uniques (fun u => !wbk u.cols t.cols.length) _ [] [.fp [.int .i64 t.cols.length]] b4.1 (fun j hj _ => zj5 _ _ (b4.2 _ (yab hj)) (by omega) (by omega))|exact zj mixed wab jai jr (fun u => .agg (jr u)) (fun _ => rfl) (fun _ => rfl) t.checks (fun c => !wbd c.expr t.cols.length) _ [] [.fp [.int .i64 t.cols.length]] b5.1 (fun j hj _ => jj5 _ _ (b5.2 _ (yab hj)) (by omega) (by omega))|exact zj mixed w6 waa jv (fun u => .agg (jv u)) (fun _ => rfl) (fun _ => rfl) t.fks (fun f => !jci f t.cols.length) _ [] [.fp [.int .i64 t.cols.length]] b6.1 (fun j hj _ => wj5 _ _ (b6.2 _ (yab hj)) (by omega) (by omega)));intro _ _)|exact yaF|refine yaS ?_ ?_<;>intro _
 all_goals refine .ret rfl (.bool ?_)
 all_goals rw [zag, k1, k2, k3, decide_eq_true (p := (t.uniques.length : Int) <= 3) (by omega), decide_eq_true (p := (t.checks.length : Int) <= 3) (by omega), decide_eq_true (p := (t.fks.length : Int) <= 3) (by omega)]
 all_goals simp_all
end Go.Proofs.YtmmgbgpglhbhcaaGreat.Am
