/- Joined texts: C1, F1, F2, F3, F4, F5, F6, F7, F8, K1, K2, S1, S2, S3. -/
import Derived.Test.YtedaadaaibofaaaGreatProg
import Derived.KernelRfl
import Derived.Test.YtedaadaaibofaaaGreatChecked
import Derived.Test.YtedaadaaibofaaaGreatU1
import Derived.Test.YtedaadaaibofaaaGreatU2
set_option linter.unusedVariables false
namespace Go.Proofs.YtedaadaaibofaaaGreat.Am
abbrev oM(d k:Nat):wd:=⟨some d,.op (.mv (.t k)),none⟩
abbrev oP(d:Nat)(a:AOp):wd:=⟨some d,.op a,none⟩
abbrev oT(d:Nat)(a:AOp)(g:Nat):wd:=⟨some d,.op a,some (g,true)⟩
abbrev oF(d:Nat)(a:AOp)(g:Nat):wd:=⟨some d,.op a,some (g,false)⟩
abbrev oC(d n:Nat)(l:List Opd):wd:=⟨some d,.call (.f n) l,none⟩
abbrev kI(z:Int):Opd:=.k (.int .i64 z)
abbrev oFa(d j t:Nat):wd:=oP d (.faddr j (.t t))
abbrev oLf(d t:Nat):wd:=oP d (.load false 1 (.t t))
abbrev oLt(d s t:Nat):wd:=oP d (.load true s (.t t))
abbrev oMi(d:Nat)(z:Int):wd:=oP d (.mv (kI z))
abbrev oMb(d:Nat)(b:Bool):wd:=oP d (.mv (.k (.bool b)))
abbrev oIa(d s a b:Nat):wd:=oP d (.iaddr s (.t a) (.t b))
abbrev oLn(d t:Nat):wd:=oP d (.len false (.t t))
abbrev oBt(d:Nat)(o:BinOp)(a b:Nat):wd:=oP d (.bin o (.t a) (.t b))
abbrev oBk(d:Nat)(o:BinOp)(a:Nat)(z:Int):wd:=oP d (.bin o (.t a) (kI z))
abbrev oPo(d a b:Nat):wd:=oP d (.pick (.t a) (.k (.bool true)) (.t b))
abbrev oPa(d a b:Nat):wd:=oP d (.pick (.t a) (.t b) (.k (.bool false)))
abbrev oEx(d t j:Nat):wd:=oP d (.ext (.t t) j)
abbrev oUn(d t:Nat):wd:=oP d (.un .not (.t t))
abbrev oNc(d t:Nat):wd:=oP d (.nilc (.t t))
abbrev oBx(d t:Nat):wd:=oP d (.box true (.t t))
abbrev oSt(s a b:Nat):wd:=⟨none,.op (.store s (.t a) (.t b)),none⟩
abbrev ota(d j t g:Nat):wd:=oT d (.faddr j (.t t)) g
abbrev otl(d t g:Nat):wd:=oT d (.load false 1 (.t t)) g
abbrev otm(d t g:Nat):wd:=oT d (.mv (.t t)) g
abbrev oti(d s a b g:Nat):wd:=oT d (.iaddr s (.t a) (.t b)) g
abbrev otc(d n:Nat)(l:List Opd)(g:Nat):wd:=⟨some d,.call (.f n) l,some (g,true)⟩
abbrev ofa(d j t g:Nat):wd:=oF d (.faddr j (.t t)) g
abbrev ofl(d t g:Nat):wd:=oF d (.load false 1 (.t t)) g
abbrev ofm(d t g:Nat):wd:=oF d (.mv (.t t)) g
abbrev ofi(d s a b g:Nat):wd:=oF d (.iaddr s (.t a) (.t b)) g
abbrev ofc(d n:Nat)(l:List Opd)(g:Nat):wd:=⟨some d,.call (.f n) l,some (g,false)⟩
abbrev oG(l:List wd):AC:=.region l
abbrev oS(a b:AC):AC:=.seq a b
abbrev oD(l:List (List wd)):AC:=.draw l
abbrev oQ(t:Nat)(a b:AC):AC:=.cond (.t t) a b
abbrev oH(l:List wd)(b:AC):AC:=.seq (.region l) b
theorem yak9{a b:Option AFn}(h:a=b:=by kernel_rfl):a=b:=h
def wcf:AFn:=⟨186,[.t 8],(oH [oBx 7 3,oMb 8 false] (oH [oMi 9 1048576] (oH [oM 26 0,oM 27 9,oC 28 11 [.t 26,.t 27],oM 9 28] (oS (oH [oM 29 9,oBk 30 .lss 29 0] (oQ 30 (oH [oMb 8 true] .ret) .skip)) (oH [oM 31 1,oM 32 9,oC 33 12 [.t 31,.t 32],oM 9 33] (oS (oH [oM 34 9,oBk 35 .lss 34 0] (oQ 35 (oH [oMb 8 true] .ret) .skip)) (oH [oM 36 2,oM 37 9,oC 38 13 [.t 36,.t 37],oM 9 38] (oS (oH [oM 39 9,oBk 40 .lss 39 0] (oQ 40 (oH [oMb 8 true] .ret) .skip)) (oH [oLt 41 6 7,oM 42 9,oC 43 14 [.t 41,.t 42],oM 9 43] (oS (oH [oM 44 9,oBk 45 .lss 44 0] (oQ 45 (oH [oMb 8 true] .ret) .skip)) (oS (oD [[oM 47 0,oC 48 16 [.t 47],oM 49 1,oC 50 17 [.t 49],oM 51 2,oC 52 18 [.t 51],oLt 53 6 7],[oC 54 19 [.t 53]],[oC 55 15 [.t 48,.t 50,.t 52,.t 54]],[oM 46 55],[oEx 56 46 0,oEx 57 46 1,oEx 58 46 2,oM 10 56,oM 11 57],[oM 12 58]]) (oH [oM 59 0,oC 60 16 [.t 59],oM 13 60] (oH [oM 61 1,oC 62 17 [.t 61],oM 14 62] (oH [oM 63 2,oC 64 18 [.t 63],oM 15 64] (oH [oLt 65 6 7,oC 66 19 [.t 65],oP 16 (.alloc [.int .i64 0,.str [],.nils,.nils,.nils,.int .i64 0]),oSt 6 16 66] (oH [oM 68 13,oM 69 14,oM 70 15,oLt 71 6 16,oC 72 20 [.t 68,.t 69,.t 70,.t 71],oM 67 72,oEx 73 67 0,oEx 74 67 1,oEx 75 67 2,oM 17 73,oM 18 74,oM 19 75] (oS (oH [oM 76 17,oM 77 10,oC 78 21 [.t 76,.t 77],oUn 79 78,oM 80 79,ofm 81 18 80,ofm 82 11 80,oF 83 (.bin .neq (.t 81) (.t 82)) 80,oPo 84 80 83,oM 85 84,ofm 86 19 85,ofm 87 12 85,oF 88 (.bin .neq (.t 86) (.t 87)) 85,oPo 89 85 88] (oQ 89 (oH [oMb 8 false] .ret) .skip)) (oS (oH [oM 90 13,oM 91 0,oC 92 16 [.t 91],oC 93 22 [.t 90,.t 92],oUn 94 93] (oQ 94 (oH [oMb 8 false] .ret) .skip)) (oS (oH [oM 95 14,oM 96 1,oC 97 17 [.t 96],oC 98 23 [.t 95,.t 97],oUn 99 98] (oQ 99 (oH [oMb 8 false] .ret) .skip)) (oS (oH [oM 100 15,oM 101 2,oC 102 18 [.t 101],oC 103 21 [.t 100,.t 102],oUn 104 103] (oQ 104 (oH [oMb 8 false] .ret) .skip)) (oS (oS (oD [[oLt 105 6 16,oLt 106 6 7,oC 107 19 [.t 106]],[oC 108 24 [.t 105,.t 107]],[oUn 109 108]]) (oQ 109 (oH [oMb 8 false] .ret) .skip)) (oH [oMi 20 1] (oH [oM 110 13,oM 111 20,oC 112 25 [.t 110,.t 111],oM 20 112] (oH [oM 113 14,oM 114 20,oC 115 26 [.t 113,.t 114],oM 20 115] (oH [oM 116 15,oM 117 20,oC 118 27 [.t 116,.t 117],oM 20 118] (oH [oLt 119 6 16,oM 120 20,oC 121 28 [.t 119,.t 120],oM 20 121] (oS (oH [oM 122 20,oBk 123 .lss 122 0,oM 124 123,ofm 125 17 124,ofm 126 10 124,ofc 127 21 [.t 125,.t 126] 124,oF 128 (.un .not (.t 127)) 124,oPo 129 124 128,oM 130 129,ofm 131 18 130,ofm 132 11 130,oF 133 (.bin .neq (.t 131) (.t 132)) 130,oPo 134 130 133,oM 135 134,ofm 136 19 135,ofm 137 12 135,oF 138 (.bin .neq (.t 136) (.t 137)) 135,oPo 139 135 138] (oQ 139 (oH [oMb 8 false] .ret) .skip)) (oH [oMi 21 1] (oH [oM 140 17,oM 141 21,oC 142 27 [.t 140,.t 141],oM 21 142] (oH [oMi 22 1] (oH [oM 143 17,oM 144 22,oC 145 29 [.t 143,.t 144],oM 22 145] (oS (oH [oM 146 22,oBk 147 .lss 146 0] (oQ 147 (oH [oMb 8 false] .ret) .skip)) (oS (oH [oM 148 22,oM 149 21,oBt 150 .neq 148 149] (oQ 150 (oH [oMb 8 false] .ret) .skip)) (oS (oD [[oM 152 0,oC 153 16 [.t 152],oM 154 1,oC 155 17 [.t 154],oM 156 2,oC 157 18 [.t 156],oLt 158 6 7],[oC 159 19 [.t 158]],[oC 160 20 [.t 153,.t 155,.t 157,.t 159]],[oM 151 160],[oEx 161 151 0,oEx 162 151 1,oEx 163 151 2,oM 23 161,oM 24 162],[oM 25 163]]) (oS (oH [oM 164 23,oM 165 10,oC 166 21 [.t 164,.t 165],oUn 167 166,oM 168 167,ofm 169 24 168,ofm 170 11 168,oF 171 (.bin .neq (.t 169) (.t 170)) 168,oPo 172 168 171,oM 173 172,ofm 174 25 173,ofm 175 12 173,oF 176 (.bin .neq (.t 174) (.t 175)) 173,oPo 177 173 176] (oQ 177 (oH [oMb 8 false] .ret) .skip)) (oH [oMi 22 1] (oH [oM 178 17,oM 179 22,oC 180 29 [.t 178,.t 179],oM 22 180] (oS (oH [oM 181 22,oBk 182 .lss 181 0] (oQ 182 (oH [oMb 8 false] .ret) .skip)) (oS (oH [oM 183 22,oM 184 21,oBt 185 .neq 183 184] (oQ 185 (oH [oMb 8 false] .ret) .skip)) (oH [oMb 8 true] .ret))))))))))))))))))))))))))))))))))))))))⟩
theorem wbw:jd Tryz.prog [7] 3=some wcf:=yak9
def zfv:AFn:=⟨27,[.t 4],(oH [oMi 4 0] (oH [oM 6 1,oM 7 0,oLn 8 7,oBt 9 .sub 6 8,oM 1 9] (oS (oH [oM 10 1,oBk 11 .lss 10 0] (oQ 11 (oH [oMi 4 (-1)] .ret) .skip)) (oS (oH [oMi 5 0] (.block 0 (.loop (oS (oH [oM 12 5,oM 13 0,oLn 14 13,oBt 15 .lss 12 14] (oQ 15 .skip (.exit 0))) (oS (.block 1 (oH [oM 18 0,oM 19 5,oIa 20 6 18 19,oLt 21 6 20,oM 22 1,oC 23 58 [.t 21,.t 22],oM 1 23] (oH [oM 24 1,oBk 25 .lss 24 0] (oQ 25 (oH [oMi 4 (-1)] .ret) .skip)))) (oG [oM 16 5,oBk 17 .add 16 1,oM 5 17])))))) (oH [oM 26 1,oM 4 26] .ret)))))⟩
theorem zdy:jd Tryz.prog [] 11=some zfv:=yak9
def zeh:AFn:=⟨27,[.t 4],(oH [oMi 4 0] (oH [oM 6 1,oM 7 0,oLn 8 7,oBt 9 .sub 6 8,oM 1 9] (oS (oH [oM 10 1,oBk 11 .lss 10 0] (oQ 11 (oH [oMi 4 (-1)] .ret) .skip)) (oS (oH [oMi 5 0] (.block 0 (.loop (oS (oH [oM 12 5,oM 13 0,oLn 14 13,oBt 15 .lss 12 14] (oQ 15 .skip (.exit 0))) (oS (.block 1 (oH [oM 18 0,oM 19 5,oIa 20 5 18 19,oLt 21 5 20,oM 22 1,oC 23 59 [.t 21,.t 22],oM 1 23] (oH [oM 24 1,oBk 25 .lss 24 0] (oQ 25 (oH [oMi 4 (-1)] .ret) .skip)))) (oG [oM 16 5,oBk 17 .add 16 1,oM 5 17])))))) (oH [oM 26 1,oM 4 26] .ret)))))⟩
theorem wdd:jd Tryz.prog [] 12=some zeh:=yak9
def zgx:AFn:=⟨27,[.t 4],(oH [oMi 4 0] (oH [oM 6 1,oM 7 0,oLn 8 7,oBt 9 .sub 6 8,oM 1 9] (oS (oH [oM 10 1,oBk 11 .lss 10 0] (oQ 11 (oH [oMi 4 (-1)] .ret) .skip)) (oS (oH [oMi 5 0] (.block 0 (.loop (oS (oH [oM 12 5,oM 13 0,oLn 14 13,oBt 15 .lss 12 14] (oQ 15 .skip (.exit 0))) (oS (.block 1 (oH [oM 18 0,oM 19 5,oIa 20 1 18 19,oLt 21 1 20,oM 22 1,oC 23 60 [.t 21,.t 22],oM 1 23] (oH [oM 24 1,oBk 25 .lss 24 0] (oQ 25 (oH [oMi 4 (-1)] .ret) .skip)))) (oG [oM 16 5,oBk 17 .add 16 1,oM 5 17])))))) (oH [oM 26 1,oM 4 26] .ret)))))⟩
theorem jeh:jd Tryz.prog [] 13=some zgx:=yak9
def wht:AFn:=⟨31,[.t 4],(oH [oBx 2 0,oMi 4 0] (oH [oM 5 1,oFa 6 1 2,oLf 7 6,oP 8 (.len true (.t 7)),oBt 9 .sub 5 8,oM 1 9] (oS (oH [oM 10 1,oBk 11 .lss 10 0] (oQ 11 (oH [oMi 4 (-1)] .ret) .skip)) (oH [oFa 12 2 2,oLf 13 12,oM 14 1,oC 15 61 [.t 13,.t 14],oM 1 15] (oS (oH [oM 16 1,oBk 17 .lss 16 0] (oQ 17 (oH [oMi 4 (-1)] .ret) .skip)) (oH [oFa 18 3 2,oLf 19 18,oM 20 1,oC 21 62 [.t 19,.t 20],oM 1 21] (oS (oH [oM 22 1,oBk 23 .lss 22 0] (oQ 23 (oH [oMi 4 (-1)] .ret) .skip)) (oH [oFa 24 4 2,oLf 25 24,oM 26 1,oC 27 63 [.t 25,.t 26],oM 1 27] (oS (oH [oM 28 1,oBk 29 .lss 28 0] (oQ 29 (oH [oMi 4 (-1)] .ret) .skip)) (oH [oM 30 1,oM 4 30] .ret))))))))))⟩
def jfv:AFn:=⟨23,[.t 2],(oH [oP 2 (.mv (.k (.nils)))] (oH [oM 5 0,oLn 6 5,oP 7 (.mkslice 6 136 [.str [],.nils,.nils,.nils,.nils,.nils] (.t 6) (.t 6)),oM 3 7] (oS (oH [oMi 4 0] (.block 0 (.loop (oS (oH [oM 8 4,oM 9 0,oLn 10 9,oBt 11 .lss 8 10] (oQ 11 .skip (.exit 0))) (oS (.block 1 (oG [oM 14 3,oM 15 4,oM 16 0,oM 17 4,oIa 18 6 16 17,oLt 19 6 18,oC 20 73 [.t 19],oIa 21 6 14 15,oSt 6 21 20])) (oG [oM 12 4,oBk 13 .add 12 1,oM 4 13])))))) (oH [oM 22 3,oM 2 22] .ret))))⟩
theorem jdy:jd Tryz.prog [] 16=some jfv:=yak9
def weh:AFn:=⟨23,[.t 2],(oH [oP 2 (.mv (.k (.nils)))] (oH [oM 5 0,oLn 6 5,oP 7 (.mkslice 5 88 [.str [],.int .i64 0,.nils,.str [],.nils] (.t 6) (.t 6)),oM 3 7] (oS (oH [oMi 4 0] (.block 0 (.loop (oS (oH [oM 8 4,oM 9 0,oLn 10 9,oBt 11 .lss 8 10] (oQ 11 .skip (.exit 0))) (oS (.block 1 (oG [oM 14 3,oM 15 4,oM 16 0,oM 17 4,oIa 18 5 16 17,oLt 19 5 18,oC 20 74 [.t 19],oIa 21 5 14 15,oSt 5 21 20])) (oG [oM 12 4,oBk 13 .add 12 1,oM 4 13])))))) (oH [oM 22 3,oM 2 22] .ret))))⟩
theorem zde:jd Tryz.prog [] 17=some weh:=yak9
def jgx:AFn:=⟨23,[.t 2],(oH [oP 2 (.mv (.k (.nils)))] (oH [oM 5 0,oLn 6 5,oP 7 (.mkslice 1 24 [.nils] (.t 6) (.t 6)),oM 3 7] (oS (oH [oMi 4 0] (.block 0 (.loop (oS (oH [oM 8 4,oM 9 0,oLn 10 9,oBt 11 .lss 8 10] (oQ 11 .skip (.exit 0))) (oS (.block 1 (oG [oM 14 3,oM 15 4,oM 16 0,oM 17 4,oIa 18 1 16 17,oLt 19 1 18,oC 20 75 [.t 19],oIa 21 1 14 15,oSt 1 21 20])) (oG [oM 12 4,oBk 13 .add 12 1,oM 4 13])))))) (oH [oM 22 3,oM 2 22] .ret))))⟩
theorem zei:jd Tryz.prog [] 18=some jgx:=yak9
def zhu:AFn:=⟨26,[.m 2 true 6],(oH [oBx 1 0,oP 2 (.alloc [.int .i64 0,.str [],.nils,.nils,.nils,.int .i64 0])] (oH [oP 3 (.alloc [.int .i64 0,.str [],.nils,.nils,.nils,.int .i64 0])] (oH [oFa 4 0 1,oLf 5 4,oFa 6 0 3,oSt 1 6 5] (oH [oFa 7 1 1,oLf 8 7,oFa 9 1 3,oSt 1 9 8] (oH [oFa 10 2 1,oLf 11 10,oC 12 76 [.t 11],oFa 13 2 3,oSt 1 13 12] (oH [oFa 14 3 1,oLf 15 14,oC 16 77 [.t 15],oFa 17 3 3,oSt 1 17 16] (oH [oFa 18 4 1,oLf 19 18,oC 20 78 [.t 19],oFa 21 4 3,oSt 1 21 20] (oH [oFa 22 5 1,oLf 23 22,oFa 24 5 3,oSt 1 24 23] (oH [oLt 25 6 3,oSt 6 2 25] .ret)))))))))⟩
theorem we4:jd Tryz.prog [1] 19=some zhu:=yak9
def ze5:AFn:=⟨35,[.t 8,.t 9,.t 10],(oH [oBx 5 1,oBx 7 3,oP 8 (.mv (.k (.nils))),oMi 9 0,oMi 10 0] (oS (oH [oM 11 0,oM 12 2,oC 13 79 [.t 11,.t 12],oUn 14 13,oM 15 14,ofm 16 0 15,oF 17 (.load true 6 (.t 7)) 15,ofc 18 80 [.t 16,.t 17] 15,oF 19 (.un .not (.t 18)) 15,oPo 20 15 19,oM 21 20,ofm 22 0 21,ofl 23 5 21,ofc 24 81 [.t 22,.t 23] 21,oF 25 (.un .not (.t 24)) 21,oPo 26 21 25] (oQ 26 (oH [oP 8 (.mv (.k (.nils))),oMi 9 1,oMi 10 0] .ret) .skip)) (oH [oM 27 0,oM 28 2,oLt 29 6 7,oP 30 (.mkfn 83 [] [.t 5,.t 7]),oC 31 82 [.t 27,.t 28,.t 29,.t 30],oEx 32 31 0,oEx 33 31 1,oEx 34 31 2,oM 8 32,oM 9 33,oM 10 34] .ret)))⟩
theorem zdn:jd Tryz.prog [5,7] 20=some ze5:=yak9
def wgx:AFn:=⟨27,[.t 4],(oH [oMb 4 false] (oS (oH [oM 6 0,oLn 7 6,oM 8 1,oLn 9 8,oBt 10 .neq 7 9] (oQ 10 (oH [oMb 4 false] .ret) .skip)) (oS (oH [oMi 5 0] (.block 0 (.loop (oS (oH [oM 11 5,oM 12 0,oLn 13 12,oBt 14 .lss 11 13] (oQ 14 .skip (.exit 0))) (oS (.block 1 (oS (oD [[oM 17 0,oM 18 5,oIa 19 1 17 18,oLt 20 1 19,oM 21 1,oM 22 5,oIa 23 1 21 22,oLt 24 1 23],[oC 25 87 [.t 20,.t 24]],[oUn 26 25]]) (oQ 26 (oH [oMb 4 false] .ret) .skip))) (oG [oM 15 5,oBk 16 .add 15 1,oM 5 16])))))) (oH [oMb 4 true] .ret))))⟩
theorem jei:jd Tryz.prog [] 21=some wgx:=yak9
def wfv:AFn:=⟨27,[.t 4],(oH [oMb 4 false] (oS (oH [oM 6 0,oLn 7 6,oM 8 1,oLn 9 8,oBt 10 .neq 7 9] (oQ 10 (oH [oMb 4 false] .ret) .skip)) (oS (oH [oMi 5 0] (.block 0 (.loop (oS (oH [oM 11 5,oM 12 0,oLn 13 12,oBt 14 .lss 11 13] (oQ 14 .skip (.exit 0))) (oS (.block 1 (oS (oD [[oM 17 0,oM 18 5,oIa 19 6 17 18,oLt 20 6 19,oM 21 1,oM 22 5,oIa 23 6 21 22,oLt 24 6 23],[oC 25 88 [.t 20,.t 24]],[oUn 26 25]]) (oQ 26 (oH [oMb 4 false] .ret) .skip))) (oG [oM 15 5,oBk 16 .add 15 1,oM 5 16])))))) (oH [oMb 4 true] .ret))))⟩
theorem wdy:jd Tryz.prog [] 22=some wfv:=yak9
def wei:AFn:=⟨27,[.t 4],(oH [oMb 4 false] (oS (oH [oM 6 0,oLn 7 6,oM 8 1,oLn 9 8,oBt 10 .neq 7 9] (oQ 10 (oH [oMb 4 false] .ret) .skip)) (oS (oH [oMi 5 0] (.block 0 (.loop (oS (oH [oM 11 5,oM 12 0,oLn 13 12,oBt 14 .lss 11 13] (oQ 14 .skip (.exit 0))) (oS (.block 1 (oS (oD [[oM 17 0,oM 18 5,oIa 19 5 17 18,oLt 20 5 19,oM 21 1,oM 22 5,oIa 23 5 21 22,oLt 24 5 23],[oC 25 89 [.t 20,.t 24]],[oUn 26 25]]) (oQ 26 (oH [oMb 4 false] .ret) .skip))) (oG [oM 15 5,oBk 16 .add 15 1,oM 5 16])))))) (oH [oMb 4 true] .ret))))⟩
theorem jde:jd Tryz.prog [] 23=some wei:=yak9
def jhu:AFn:=⟨38,[.t 4],(oH [oBx 2 0,oBx 3 1,oMb 4 false] (oS (oH [oFa 5 0 2,oLf 6 5,oFa 7 0 3,oLf 8 7,oBt 9 .neq 6 8] (oQ 9 (oH [oMb 4 false] .ret) .skip)) (oS (oH [oFa 10 1 2,oLf 11 10,oFa 12 1 3,oLf 13 12,oBt 14 .neq 11 13] (oQ 14 (oH [oMb 4 false] .ret) .skip)) (oS (oH [oFa 15 2 2,oLf 16 15,oFa 17 2 3,oLf 18 17,oC 19 90 [.t 16,.t 18],oUn 20 19] (oQ 20 (oH [oMb 4 false] .ret) .skip)) (oS (oH [oFa 21 3 2,oLf 22 21,oFa 23 3 3,oLf 24 23,oC 25 91 [.t 22,.t 24],oUn 26 25] (oQ 26 (oH [oMb 4 false] .ret) .skip)) (oS (oH [oFa 27 4 2,oLf 28 27,oFa 29 4 3,oLf 30 29,oC 31 92 [.t 28,.t 30],oUn 32 31] (oQ 32 (oH [oMb 4 false] .ret) .skip)) (oS (oH [oFa 33 5 2,oLf 34 33,oFa 35 5 3,oLf 36 35,oBt 37 .neq 34 36] (oQ 37 (oH [oMb 4 false] .ret) .skip)) (oH [oMb 4 true] .ret))))))))⟩
def zej:AFn:=⟨56,[.t 4],(oH [oMi 4 0] (oS (oH [oMi 5 0] (.block 0 (.loop (oS (oH [oM 6 5,oM 7 0,oLn 8 7,oBt 9 .lss 6 8] (oQ 9 .skip (.exit 0))) (oS (.block 1 (oH [oM 12 0,oM 13 5,oM 14 1,oC 15 93 [.t 14],oIa 16 6 12 13,oFa 17 0 16,oSt 1 17 15] (oH [oM 18 1,oBk 19 .add 18 1,oM 1 19] (oH [oM 20 0,oM 21 5,oIa 22 6 20 21,oFa 23 1 22,oLf 24 23,oM 25 1,oC 26 94 [.t 24,.t 25],oM 1 26] (oH [oM 27 0,oM 28 5,oIa 29 6 27 28,oFa 30 2 29,oLf 31 30,oM 32 1,oC 33 95 [.t 31,.t 32],oM 1 33] (oH [oM 34 0,oM 35 5,oIa 36 6 34 35,oFa 37 3 36,oLf 38 37,oM 39 1,oC 40 96 [.t 38,.t 39],oM 1 40] (oH [oM 41 0,oM 42 5,oIa 43 6 41 42,oFa 44 4 43,oLf 45 44,oM 46 1,oC 47 97 [.t 45,.t 46],oM 1 47] (oG [oM 48 0,oM 49 5,oIa 50 6 48 49,oFa 51 5 50,oLf 52 51,oM 53 1,oC 54 98 [.t 52,.t 53],oM 1 54])))))))) (oG [oM 10 5,oBk 11 .add 10 1,oM 5 11])))))) (oH [oM 55 1,oM 4 55] .ret)))⟩
theorem wde:jd Tryz.prog [] 25=some zej:=yak9
def jdn:AFn:=⟨50,[.t 4],(oH [oMi 4 0] (oS (oH [oMi 5 0] (.block 0 (.loop (oS (oH [oM 6 5,oM 7 0,oLn 8 7,oBt 9 .lss 6 8] (oQ 9 .skip (.exit 0))) (oS (.block 1 (oH [oM 12 0,oM 13 5,oM 14 1,oC 15 93 [.t 14],oIa 16 5 12 13,oFa 17 0 16,oSt 1 17 15] (oH [oM 18 1,oBk 19 .add 18 1,oM 1 19] (oH [oM 20 0,oM 21 5,oM 22 1,oIa 23 5 20 21,oFa 24 1 23,oSt 1 24 22] (oH [oM 25 1,oBk 26 .add 25 1,oM 1 26] (oH [oM 27 0,oM 28 5,oIa 29 5 27 28,oFa 30 2 29,oLf 31 30,oM 32 1,oC 33 99 [.t 31,.t 32],oM 1 33] (oH [oM 34 0,oM 35 5,oM 36 1,oC 37 93 [.t 36],oIa 38 5 34 35,oFa 39 3 38,oSt 1 39 37] (oH [oM 40 1,oBk 41 .add 40 1,oM 1 41] (oG [oM 42 0,oM 43 5,oIa 44 5 42 43,oFa 45 4 44,oLf 46 45,oM 47 1,oC 48 100 [.t 46,.t 47],oM 1 48]))))))))) (oG [oM 10 5,oBk 11 .add 10 1,oM 5 11])))))) (oH [oM 49 1,oM 4 49] .ret)))⟩
theorem jcr:jd Tryz.prog [] 26=some jdn:=yak9
def je5:AFn:=⟨20,[.t 4],(oH [oMi 4 0] (oS (oH [oMi 5 0] (.block 0 (.loop (oS (oH [oM 6 5,oM 7 0,oLn 8 7,oBt 9 .lss 6 8] (oQ 9 .skip (.exit 0))) (oS (.block 1 (oG [oM 12 0,oM 13 5,oIa 14 1 12 13,oFa 15 0 14,oLf 16 15,oM 17 1,oC 18 101 [.t 16,.t 17],oM 1 18])) (oG [oM 10 5,oBk 11 .add 10 1,oM 5 11])))))) (oH [oM 19 1,oM 4 19] .ret)))⟩
theorem wdn:jd Tryz.prog [] 27=some je5:=yak9
def zfw:AFn:=⟨18,[.t 4],(oH [oBx 2 0,oMi 4 0] (oH [oFa 5 2 2,oLf 6 5,oM 7 1,oC 8 101 [.t 6,.t 7],oM 1 8] (oH [oFa 9 3 2,oLf 10 9,oM 11 1,oC 12 99 [.t 10,.t 11],oM 1 12] (oH [oFa 13 4 2,oLf 14 13,oM 15 1,oC 16 102 [.t 14,.t 15],oM 1 16] (oH [oM 17 1,oM 4 17] .ret)))))⟩
theorem zb1:jd Tryz.prog [2] 28=some zfw:=yak9
def we5:AFn:=⟨22,[.t 4],(oH [oMi 4 0] (oS (oH [oMi 5 0] (.block 0 (.loop (oS (oH [oM 6 5,oM 7 0,oLn 8 7,oBt 9 .lss 6 8] (oQ 9 .skip (.exit 0))) (oS (.block 1 (oH [oM 12 0,oM 13 5,oIa 14 1 12 13,oFa 15 0 14,oLf 16 15,oM 17 1,oC 18 103 [.t 16,.t 17],oM 1 18] (oH [oM 19 1,oBk 20 .lss 19 0] (oQ 20 (oH [oMi 4 (-1)] .ret) .skip)))) (oG [oM 10 5,oBk 11 .add 10 1,oM 5 11])))))) (oH [oM 21 1,oM 4 21] .ret)))⟩
def zgy:AFn:=⟨8,[.t 4],(oH [oBx 3 1,oMi 4 0] (oH [oM 5 0,oP 6 (.mkfn 133 [] [.t 3]),oC 7 132 [.t 5,.t 6],oM 4 7] .ret))⟩
def ziu:AFn:=⟨17,[.t 4],(oH [oMi 4 0] (oH [oM 8 0,oM 9 1,oC 10 146 [.t 8,.t 9],oM 7 10,oEx 11 7 0,oEx 12 7 1,oP 5 (.alloc [.int .i64 0,.int .i64 0,.str []]),oSt 3 5 11,oM 6 12] (oS (oH [oM 13 6,oUn 14 13] (oQ 14 (oH [oMi 4 (-1)] .ret) .skip)) (oH [oLt 15 3 5,oC 16 147 [.t 15],oM 4 16] .ret))))⟩
def jgy:AFn:=⟨43,[.t 4],(oH [oBx 2 0,oMi 4 0] (oH [oM 5 1,oFa 6 0 2,oLf 7 6,oP 8 (.len true (.t 7)),oBt 9 .sub 5 8,oM 1 9] (oS (oH [oM 10 1,oBk 11 .lss 10 0] (oQ 11 (oH [oMi 4 (-1)] .ret) .skip)) (oH [oFa 12 1 2,oLf 13 12,oM 14 1,oC 15 148 [.t 13,.t 14],oM 1 15] (oS (oH [oM 16 1,oBk 17 .lss 16 0] (oQ 17 (oH [oMi 4 (-1)] .ret) .skip)) (oH [oFa 18 2 2,oLf 19 18,oM 20 1,oC 21 149 [.t 19,.t 20],oM 1 21] (oS (oH [oM 22 1,oBk 23 .lss 22 0] (oQ 23 (oH [oMi 4 (-1)] .ret) .skip)) (oH [oFa 24 3 2,oLf 25 24,oM 26 1,oC 27 150 [.t 25,.t 26],oM 1 27] (oS (oH [oM 28 1,oBk 29 .lss 28 0] (oQ 29 (oH [oMi 4 (-1)] .ret) .skip)) (oH [oFa 30 4 2,oLf 31 30,oM 32 1,oC 33 151 [.t 31,.t 32],oM 1 33] (oS (oH [oM 34 1,oBk 35 .lss 34 0] (oQ 35 (oH [oMi 4 (-1)] .ret) .skip)) (oH [oFa 36 5 2,oLf 37 36,oM 38 1,oC 39 152 [.t 37,.t 38],oM 1 39] (oS (oH [oM 40 1,oBk 41 .lss 40 0] (oQ 41 (oH [oMi 4 (-1)] .ret) .skip)) (oH [oM 42 1,oM 4 42] .ret))))))))))))))⟩
def ze6:AFn:=⟨32,[.t 4],(oH [oBx 2 0,oMi 4 0] (oH [oM 5 1,oFa 6 0 2,oLf 7 6,oP 8 (.len true (.t 7)),oBt 9 .sub 5 8,oM 1 9] (oS (oH [oM 10 1,oBk 11 .lss 10 0] (oQ 11 (oH [oMi 4 (-1)] .ret) .skip)) (oH [oFa 12 2 2,oLf 13 12,oM 14 1,oC 15 62 [.t 13,.t 14],oM 1 15] (oS (oH [oM 16 1,oBk 17 .lss 16 0] (oQ 17 (oH [oMi 4 (-1)] .ret) .skip)) (oH [oM 18 1,oFa 19 3 2,oLf 20 19,oP 21 (.len true (.t 20)),oBt 22 .sub 18 21,oM 1 22] (oS (oH [oM 23 1,oBk 24 .lss 23 0] (oQ 24 (oH [oMi 4 (-1)] .ret) .skip)) (oH [oFa 25 4 2,oLf 26 25,oM 27 1,oC 28 153 [.t 26,.t 27],oM 1 28] (oS (oH [oM 29 1,oBk 30 .lss 29 0] (oQ 30 (oH [oMi 4 (-1)] .ret) .skip)) (oH [oM 31 1,oM 4 31] .ret))))))))))⟩
def whu:AFn:=⟨12,[.t 4],(oH [oBx 2 0,oMi 4 0] (oH [oFa 5 0 2,oLf 6 5,oM 7 1,oC 8 61 [.t 6,.t 7],oM 1 8] (oS (oH [oM 9 1,oBk 10 .lss 9 0] (oQ 10 (oH [oMi 4 (-1)] .ret) .skip)) (oH [oM 11 1,oM 4 11] .ret))))⟩
def zhv:AFn:=⟨27,[.t 4],(oH [oMi 4 0] (oH [oM 6 1,oM 7 0,oLn 8 7,oBt 9 .sub 6 8,oM 1 9] (oS (oH [oM 10 1,oBk 11 .lss 10 0] (oQ 11 (oH [oMi 4 (-1)] .ret) .skip)) (oS (oH [oMi 5 0] (.block 0 (.loop (oS (oH [oM 12 5,oM 13 0,oLn 14 13,oBt 15 .lss 12 14] (oQ 15 .skip (.exit 0))) (oS (.block 1 (oH [oM 18 0,oM 19 5,oIa 20 2 18 19,oLt 21 2 20,oM 22 1,oC 23 154 [.t 21,.t 22],oM 1 23] (oH [oM 24 1,oBk 25 .lss 24 0] (oQ 25 (oH [oMi 4 (-1)] .ret) .skip)))) (oG [oM 16 5,oBk 17 .add 16 1,oM 5 17])))))) (oH [oM 26 1,oM 4 26] .ret)))))⟩
theorem je6:jd Tryz.prog [] 61=some zhv:=yak9
def jhv:AFn:=⟨27,[.t 4],(oH [oMi 4 0] (oH [oM 6 1,oM 7 0,oLn 8 7,oBt 9 .sub 6 8,oM 1 9] (oS (oH [oM 10 1,oBk 11 .lss 10 0] (oQ 11 (oH [oMi 4 (-1)] .ret) .skip)) (oS (oH [oMi 5 0] (.block 0 (.loop (oS (oH [oM 12 5,oM 13 0,oLn 14 13,oBt 15 .lss 12 14] (oQ 15 .skip (.exit 0))) (oS (.block 1 (oH [oM 18 0,oM 19 5,oIa 20 5 18 19,oLt 21 5 20,oM 22 1,oC 23 155 [.t 21,.t 22],oM 1 23] (oH [oM 24 1,oBk 25 .lss 24 0] (oQ 25 (oH [oMi 4 (-1)] .ret) .skip)))) (oG [oM 16 5,oBk 17 .add 16 1,oM 5 17])))))) (oH [oM 26 1,oM 4 26] .ret)))))⟩
theorem we6:jd Tryz.prog [] 62=some jhv:=yak9
def whv:AFn:=⟨27,[.t 4],(oH [oMi 4 0] (oH [oM 6 1,oM 7 0,oLn 8 7,oBt 9 .sub 6 8,oM 1 9] (oS (oH [oM 10 1,oBk 11 .lss 10 0] (oQ 11 (oH [oMi 4 (-1)] .ret) .skip)) (oS (oH [oMi 5 0] (.block 0 (.loop (oS (oH [oM 12 5,oM 13 0,oLn 14 13,oBt 15 .lss 12 14] (oQ 15 .skip (.exit 0))) (oS (.block 1 (oH [oM 18 0,oM 19 5,oIa 20 2 18 19,oLt 21 2 20,oM 22 1,oC 23 156 [.t 21,.t 22],oM 1 23] (oH [oM 24 1,oBk 25 .lss 24 0] (oQ 25 (oH [oMi 4 (-1)] .ret) .skip)))) (oG [oM 16 5,oBk 17 .add 16 1,oM 5 17])))))) (oH [oM 26 1,oM 4 26] .ret)))))⟩
theorem ze7:jd Tryz.prog [] 63=some whv:=yak9
def jej:AFn:=⟨30,[.t 4],(oH [oMb 4 false] (oS (oH [oMi 5 0] (.block 0 (.loop (oS (oH [oM 6 0,oC 7 157 [.t 6],oM 8 7,otm 9 5 8,otm 10 1 8,oT 11 (.len false (.t 10)) 8,oT 12 (.bin .lss (.t 9) (.t 11)) 8,oPa 13 8 12] (oQ 13 .skip (.exit 0))) (oS (.block 1 (oH [oM 16 0,oM 17 1,oM 18 5,oIa 19 5 17 18,oLt 20 5 19,oC 21 158 [.t 16,.t 20],oUn 22 21] (oQ 22 (oH [oMb 4 false] .ret) .skip))) (oG [oM 14 5,oBk 15 .add 14 1,oM 5 15])))))) (oH [oM 23 0,oC 24 157 [.t 23],oM 25 24,otm 26 1 25,oT 27 (.len false (.t 26)) 25,oT 28 (.bin .leq (.t 27) (kI 6)) 25,oPa 29 25 28,oM 4 29] .ret)))⟩
def zjt:AFn:=⟨12,[.t 4],(oH [oMb 4 false] (oH [oM 5 0,oC 6 157 [.t 5],oM 7 6,otm 8 0 7,otm 9 1 7,otc 10 159 [.t 8,.t 9] 7,oPa 11 7 10,oM 4 11] .ret))⟩
def zhw:AFn:=⟨152,[.t 4],(oH [oBx 3 1,oMb 4 false] (oH [oM 12 0,oFa 13 1 3,oLf 14 13,oC 15 67 [.t 12,.t 14],oM 5 15] (oS (oH [oM 16 5,oBk 17 .lss 16 0,oM 18 17,ofa 19 5 3 18,ofl 20 19 18,ofc 21 72 [.t 20,(kI 0),(kI 4)] 18,oF 22 (.un .not (.t 21)) 18,oPo 23 18 22] (oQ 23 (oH [oMb 4 false] .ret) .skip)) (oH [oM 24 0,oM 25 5,oIa 26 6 24 25,oLt 27 6 26,oP 6 (.alloc [.str [],.nils,.nils,.nils,.nils,.nils]),oSt 6 6 27] (oH [oFa 28 1 6,oLf 29 28,oLn 30 29,oM 7 30] (oS (oH [oMi 8 0] (.block 0 (.loop (oS (oH [oM 31 8,oFa 32 2 3,oLf 33 32,oLn 34 33,oBt 35 .lss 31 34] (oQ 35 .skip (.exit 0))) (oS (.block 1 (oS (oD [[oLt 38 6 6,oFa 39 2 3,oLf 40 39,oM 41 8,oIa 42 2 40 41,oFa 43 1 42,oLf 44 43],[oC 45 160 [.t 38,.t 44]],[oUn 46 45],[oM 47 46],[ofa 48 2 3 47,ofl 49 48 47,ofm 50 8 47],[ofi 51 2 49 50 47],[ofa 52 0 51 47],[ofl 53 52 47],[oF 54 (.bin .neq (.t 53) (kI 0)) 47],[oPo 55 47 54]]) (oQ 55 (oH [oMb 4 false] .ret) .skip))) (oG [oM 36 8,oBk 37 .add 36 1,oM 8 37])))))) (oS (oH [oMi 9 0] (.block 2 (.loop (oS (oH [oM 56 9,oFa 57 4 3,oLf 58 57,oLn 59 58,oBt 60 .lss 56 59] (oQ 60 .skip (.exit 2))) (oS (.block 3 (oS (oH [oFa 63 4 3,oLf 64 63,oM 65 9,oIa 66 2 64 65,oFa 67 0 66,oLf 68 67,oM 69 7,oBk 70 .sub 69 1,oC 71 72 [.t 68,(kI 0),.t 70],oUn 72 71,oM 73 72,ofa 74 4 3 73,ofl 75 74 73,ofm 76 9 73,ofi 77 2 75 76 73,ofa 78 1 77 73,ofl 79 78 73,ofm 80 7 73,ofc 81 145 [.t 79,.t 80] 73,oF 82 (.un .not (.t 81)) 73,oPo 83 73 82] (oQ 83 (oH [oMb 4 false] .ret) .skip)) (oH [oMi 10 0] (.block 4 (.loop (oS (oH [oM 84 10,oM 85 9,oBt 86 .lss 84 85] (oQ 86 .skip (.exit 4))) (oS (.block 5 (oS (oD [[oFa 89 4 3,oLf 90 89,oM 91 10,oIa 92 2 90 91,oFa 93 0 92,oLf 94 93,oFa 95 4 3,oLf 96 95,oM 97 9,oIa 98 2 96 97,oFa 99 0 98,oLf 100 99],[oBt 101 .eql 94 100]]) (oQ 101 (oH [oMb 4 false] .ret) .skip))) (oG [oM 87 10,oBk 88 .add 87 1,oM 10 88])))))))) (oG [oM 61 9,oBk 62 .add 61 1,oM 9 62])))))) (oH [oFa 102 3 3,oLf 103 102,oLn 104 103,oBk 105 .eql 104 0,oM 106 105,ofa 107 3 3 106,ofl 108 107 106,ofm 109 7 106,ofc 110 145 [.t 108,.t 109] 106,oPo 111 106 110,oM 11 111] (oS (oH [oFa 112 0 3,oLf 113 112] (.block 6 (oH [oBk 115 .eql 113 1,oM 114 115] (oQ 114 (oH [oFa 116 2 3,oLf 117 116,oLn 118 117,oBk 119 .leq 118 8,oM 120 119,ota 121 3 3 120,otl 122 121 120,oT 123 (.len false (.t 122)) 120,ota 124 4 3 120,otl 125 124 120,oT 126 (.len false (.t 125)) 120,oT 127 (.bin .add (.t 123) (.t 126)) 120,oT 128 (.bin .eql (.t 127) (kI 0)) 120,oPa 129 120 128,oM 4 129] .ret) (oH [oBk 131 .eql 113 2,oM 130 131] (oQ 130 (oH [oM 132 11,oM 133 132,ota 134 2 3 133,otl 135 134 133,oT 136 (.len false (.t 135)) 133,oT 137 (.bin .eql (.t 136) (kI 0)) 133,oPa 138 133 137,oM 4 138] .ret) (oH [oBk 140 .eql 113 3,oM 139 140] (oQ 139 (oH [oM 141 11,oM 142 141,ota 143 2 3 142,otl 144 143 142,oT 145 (.len false (.t 144)) 142,ota 146 4 3 142,otl 147 146 142,oT 148 (.len false (.t 147)) 142,oT 149 (.bin .add (.t 145) (.t 148)) 142,oT 150 (.bin .eql (.t 149) (kI 0)) 142,oPa 151 142 150,oM 4 151] .ret) .skip)))))))) (oH [oMb 4 false] .ret))))))))))⟩
def jjt:AFn:=⟨20,[.t 4],(oH [oMi 4 0] (oS (oH [oMi 5 0] (.block 0 (.loop (oS (oH [oM 6 5,oM 7 0,oLn 8 7,oBt 9 .lss 6 8] (oQ 9 .skip (.exit 0))) (oS (.block 1 (oH [oM 12 0,oM 13 5,oIa 14 6 12 13,oFa 15 0 14,oLf 16 15,oM 17 1,oBt 18 .eql 16 17] (oQ 18 (oH [oM 19 5,oM 4 19] .ret) .skip))) (oG [oM 10 5,oBk 11 .add 10 1,oM 5 11])))))) (oH [oMi 4 (-1)] .ret)))⟩
def wej:AFn:=⟨42,[.t 4,.t 5],(oH [oBx 2 0,oP 4 (.mv (.k (.nils))),oMb 5 false] (oH [oP 9 (.mksl false 1 0 [.int .i64 0] []),oM 6 9] (oS (oH [oMi 7 0] (.block 0 (.loop (oS (oH [oM 10 7,oFa 11 0 2,oLf 12 11,oLn 13 12,oBt 14 .lss 10 13] (oQ 14 .skip (.exit 0))) (oS (.block 1 (oH [oMi 8 1] (oS (oH [oM 17 1,oLn 18 17,oBk 19 .gtr 18 0] (oQ 19 (oG [oM 20 1,oFa 21 0 2,oLf 22 21,oM 23 7,oIa 24 2 22 23,oFa 25 1 24,oLf 26 25,oC 27 161 [.t 20,.t 26],oM 8 27]) .skip)) (oS (oH [oM 28 8,oBk 29 .lss 28 0] (oQ 29 (oH [oP 4 (.mv (.k (.nils))),oMb 5 false] .ret) .skip)) (oH [oM 30 8,oBk 31 .eql 30 1] (oQ 31 (oG [oM 32 6,oFa 33 0 2,oLf 34 33,oM 35 7,oIa 36 2 34 35,oFa 37 0 36,oLf 38 37,oP 39 (.mksl true 1 1 [.int .i64 0] [(0,(.t 38))]),oP 40 (.app 1 8 (.t 32) (.t 39)),oM 6 40]) .skip)))))) (oG [oM 15 7,oBk 16 .add 15 1,oM 7 16])))))) (oH [oM 41 6,oM 4 41,oMb 5 true] .ret))))⟩
theorem zdf:jd Tryz.prog [2,39] 68=some wej:=yak9
def jhw:AFn:=⟨56,[.t 2],(oH [oP 2 (.mv (.k (.nils)))] (oH [oM 7 0,oLn 8 7,oP 9 (.mkslice 1 24 [.nils] (.t 8) (.t 8)),oM 3 9] (oS (oH [oMi 4 0] (.block 0 (.loop (oS (oH [oM 10 4,oM 11 0,oLn 12 11,oBt 13 .lss 10 12] (oQ 13 .skip (.exit 0))) (oS (.block 1 (oH [oP 16 (.mksl false 2 0 [.int .i64 0,.nils] []),oM 5 16] (oS (oH [oMi 6 0] (.block 2 (.loop (oS (oH [oM 17 6,oM 18 0,oM 19 4,oIa 20 1 18 19,oFa 21 0 20,oLf 22 21,oLn 23 22,oBt 24 .lss 17 23] (oQ 24 .skip (.exit 2))) (oS (.block 3 (oD [[oM 27 5,oM 28 0,oM 29 4,oIa 30 1 28 29,oFa 31 0 30,oLf 32 31,oM 33 6,oIa 34 2 32 33,oFa 35 0 34,oLf 36 35,oM 37 0,oM 38 4,oIa 39 1 37 38,oFa 40 0 39,oLf 41 40,oM 42 6,oIa 43 2 41 42,oFa 44 1 43,oLf 45 44,oC 46 162 [.t 45],oP 47 (.build [.int .i64 0,.nils] [(0,1,(.t 36)),(1,1,(.t 46))]),oP 48 (.mksl true 2 1 [.int .i64 0,.nils] [(0,(.t 47))])],[oP 49 (.app 2 32 (.t 27) (.t 48))],[oM 5 49]])) (oG [oM 25 6,oBk 26 .add 25 1,oM 6 26])))))) (oG [oM 50 3,oM 51 4,oM 52 5,oP 53 (.build [.nils] [(0,1,(.t 52))]),oIa 54 1 50 51,oSt 1 54 53])))) (oG [oM 14 4,oBk 15 .add 14 1,oM 4 15])))))) (oH [oM 55 3,oM 2 55] .ret))))⟩
def wjt:AFn:=⟨22,[.t 4],(oH [oBx 2 0,oMi 4 0] (oS (oH [oMi 5 0] (.block 0 (.loop (oS (oH [oM 6 5,oFa 7 0 2,oLf 8 7,oLn 9 8,oBt 10 .lss 6 9] (oQ 10 .skip (.exit 0))) (oS (.block 1 (oH [oFa 13 0 2,oLf 14 13,oM 15 5,oIa 16 2 14 15,oFa 17 0 16,oLf 18 17,oM 19 1,oBt 20 .eql 18 19] (oQ 20 (oH [oM 21 5,oM 4 21] .ret) .skip))) (oG [oM 11 5,oBk 12 .add 11 1,oM 5 12])))))) (oH [oMi 4 (-1)] .ret)))⟩
def zju:AFn:=⟨15,[.t 6],(oH [oMb 6 false] (oH [oM 7 0,oM 8 1,oBt 9 .geq 7 8,oM 10 9,otm 11 0 10,otm 12 2 10,oT 13 (.bin .leq (.t 11) (.t 12)) 10,oPa 14 10 13,oM 6 14] .ret))⟩
def wgy:AFn:=⟨28,[.m 2 true 6],(oH [oBx 1 0,oP 2 (.alloc [.str [],.nils,.nils,.nils,.nils,.nils])] (oH [oP 3 (.alloc [.str [],.nils,.nils,.nils,.nils,.nils])] (oH [oFa 4 0 1,oLf 5 4,oFa 6 0 3,oSt 1 6 5] (oH [oFa 7 1 1,oLf 8 7,oC 9 166 [.t 8],oFa 10 1 3,oSt 1 10 9] (oH [oFa 11 2 1,oLf 12 11,oC 13 167 [.t 12],oFa 14 2 3,oSt 1 14 13] (oH [oFa 15 3 1,oLf 16 15,oC 17 168 [.t 16],oFa 18 3 3,oSt 1 18 17] (oH [oFa 19 4 1,oLf 20 19,oC 21 169 [.t 20],oFa 22 4 3,oSt 1 22 21] (oH [oFa 23 5 1,oLf 24 23,oC 25 170 [.t 24],oFa 26 5 3,oSt 1 26 25] (oH [oLt 27 6 3,oSt 6 2 27] .ret)))))))))⟩
theorem zek:jd Tryz.prog [1] 73=some wgy:=yak9
def je7:AFn:=⟨22,[.m 2 true 5],(oH [oBx 1 0,oP 2 (.alloc [.str [],.int .i64 0,.nils,.str [],.nils])] (oH [oP 3 (.alloc [.str [],.int .i64 0,.nils,.str [],.nils])] (oH [oFa 4 0 1,oLf 5 4,oFa 6 0 3,oSt 1 6 5] (oH [oFa 7 1 1,oLf 8 7,oFa 9 1 3,oSt 1 9 8] (oH [oFa 10 2 1,oLf 11 10,oC 12 77 [.t 11],oFa 13 2 3,oSt 1 13 12] (oH [oFa 14 3 1,oLf 15 14,oFa 16 3 3,oSt 1 16 15] (oH [oFa 17 4 1,oLf 18 17,oC 19 171 [.t 18],oFa 20 4 3,oSt 1 20 19] (oH [oLt 21 5 3,oSt 5 2 21] .ret))))))))⟩
theorem zdo:jd Tryz.prog [1] 74=some je7:=yak9
def whw:AFn:=⟨9,[.m 2 true 1],(oH [oBx 1 0,oP 2 (.alloc [.nils])] (oH [oP 3 (.alloc [.nils])] (oH [oFa 4 0 1,oLf 5 4,oC 6 76 [.t 5],oFa 7 0 3,oSt 1 7 6] (oH [oLt 8 1 3,oSt 1 2 8] .ret))))⟩
theorem we7:jd Tryz.prog [1] 75=some whw:=yak9
def zhx:AFn:=⟨23,[.t 2],(oH [oP 2 (.mv (.k (.nils)))] (oH [oM 5 0,oLn 6 5,oP 7 (.mkslice 2 32 [.int .i64 0,.nils] (.t 6) (.t 6)),oM 3 7] (oS (oH [oMi 4 0] (.block 0 (.loop (oS (oH [oM 8 4,oM 9 0,oLn 10 9,oBt 11 .lss 8 10] (oQ 11 .skip (.exit 0))) (oS (.block 1 (oG [oM 14 3,oM 15 4,oM 16 0,oM 17 4,oIa 18 2 16 17,oLt 19 2 18,oC 20 172 [.t 19],oIa 21 2 14 15,oSt 2 21 20])) (oG [oM 12 4,oBk 13 .add 12 1,oM 4 13])))))) (oH [oM 22 3,oM 2 22] .ret))))⟩
theorem ze8:jd Tryz.prog [] 76=some zhx:=yak9
def jhx:AFn:=⟨23,[.t 2],(oH [oP 2 (.mv (.k (.nils)))] (oH [oM 5 0,oLn 6 5,oP 7 (.mkslice 5 48 [.int .i64 0,.int .i64 0,.int .i64 0,.int .i64 0,.str []] (.t 6) (.t 6)),oM 3 7] (oS (oH [oMi 4 0] (.block 0 (.loop (oS (oH [oM 8 4,oM 9 0,oLn 10 9,oBt 11 .lss 8 10] (oQ 11 .skip (.exit 0))) (oS (.block 1 (oG [oM 14 3,oM 15 4,oM 16 0,oM 17 4,oIa 18 5 16 17,oLt 19 5 18,oC 20 173 [.t 19],oIa 21 5 14 15,oSt 5 21 20])) (oG [oM 12 4,oBk 13 .add 12 1,oM 4 13])))))) (oH [oM 22 3,oM 2 22] .ret))))⟩
theorem je8:jd Tryz.prog [] 77=some jhx:=yak9
def whx:AFn:=⟨23,[.t 2],(oH [oP 2 (.mv (.k (.nils)))] (oH [oM 5 0,oLn 6 5,oP 7 (.mkslice 2 32 [.int .i64 0,.nils] (.t 6) (.t 6)),oM 3 7] (oS (oH [oMi 4 0] (.block 0 (.loop (oS (oH [oM 8 4,oM 9 0,oLn 10 9,oBt 11 .lss 8 10] (oQ 11 .skip (.exit 0))) (oS (.block 1 (oG [oM 14 3,oM 15 4,oM 16 0,oM 17 4,oIa 18 2 16 17,oLt 19 2 18,oC 20 174 [.t 19],oIa 21 2 14 15,oSt 2 21 20])) (oG [oM 12 4,oBk 13 .add 12 1,oM 4 13])))))) (oH [oM 22 3,oM 2 22] .ret))))⟩
theorem we8:jd Tryz.prog [] 78=some whx:=yak9
def jju:AFn:=⟨33,[.t 4],(oH [oMb 4 false] (oS (oH [oM 7 0,oC 8 175 [.t 7],oUn 9 8,oM 10 9,ofm 11 1 10,oF 12 (.len false (.t 11)) 10,ofm 13 0 10,oF 14 (.len false (.t 13)) 10,oF 15 (.bin .neq (.t 12) (.t 14)) 10,oPo 16 10 15] (oQ 16 (oH [oMb 4 false] .ret) .skip)) (oS (oH [oM 17 1,oLn 18 17,oMi 19 0] (.block 0 (.loop (oH [oBt 20 .lss 19 18] (oS (oQ 20 .skip (.exit 0)) (oS (.block 1 (oH [oM 21 19,oIa 22 1 17 19,oLt 23 1 22,oP 6 (.alloc [.nils]),oM 5 21,oSt 1 6 23] (oS (oD [[oM 24 0,oM 25 5,oIa 26 6 24 25,oLt 27 6 26,oFa 28 0 6,oLf 29 28],[oC 30 176 [.t 27,.t 29]],[oUn 31 30]]) (oQ 31 (oH [oMb 4 false] .ret) .skip)))) (oG [oBk 32 .add 19 1,oM 19 32]))))))) (oH [oMb 4 true] .ret))))⟩
def zhy:AFn:=⟨60,[.t 4],(oH [oBx 3 1,oMb 4 false] (oH [oM 7 0,oFa 8 1 3,oLf 9 8,oC 10 48 [.t 7,.t 9],oM 5 10] (oS (oH [oM 11 0,oC 12 175 [.t 11],oUn 13 12,oM 14 13,ofm 15 5 14,oF 16 (.bin .lss (.t 15) (kI 0)) 14,oPo 17 14 16,oM 18 17,ofa 19 5 3 18,ofl 20 19 18,ofc 21 177 [.t 20,(kI 0),(kI 4)] 18,oF 22 (.un .not (.t 21)) 18,oPo 23 18 22,oM 24 23,oF 25 (.load true 6 (.t 3)) 24,ofc 26 178 [.t 25] 24,oF 27 (.un .not (.t 26)) 24,oPo 28 24 27,oM 29 28,ofa 30 2 3 29,ofl 31 30 29,oF 32 (.len false (.t 31)) 29,oF 33 (.bin .gtr (.t 32) (kI 8)) 29,oPo 34 29 33] (oQ 34 (oH [oMb 4 false] .ret) .skip)) (oH [oM 35 0,oM 36 5,oIa 37 6 35 36,oLt 38 6 37,oP 6 (.alloc [.str [],.nils,.nils,.nils,.nils,.nils]),oSt 6 6 38] (oH [oFa 39 2 3,oLf 40 39,oP 41 (.mkfn 180 [] [.t 6]),oC 42 179 [.t 40,.t 41],oUn 43 42,oM 44 43,ota 45 3 3 44,otl 46 45 44,ota 47 1 6 44,otl 48 47 44,oT 49 (.len false (.t 48)) 44,otc 50 142 [.t 46,.t 49] 44,oPa 51 44 50,oM 52 51,ota 53 4 3 52,otl 54 53 52,ota 55 1 6 52,otl 56 55 52,oT 57 (.len false (.t 56)) 52,otc 58 181 [.t 54,.t 57] 52,oPa 59 52 58,oM 4 59] .ret)))))⟩
def jek:AFn:=⟨18,[.t 4],(oH [oBx 2 0,oMb 4 false] (oH [oLf 5 2,oC 6 175 [.t 5],oM 7 6,otm 8 1 7,oT 9 (.len false (.t 8)) 7,oT 10 (.bin .leq (.t 9) (kI 6)) 7,oPa 11 7 10,oM 12 11,otm 13 1 12,oT 14 (.mkfn 183 [] [.t 2]) 12,otc 15 182 [.t 13,.t 14] 12,oT 16 (.un .not (.t 15)) 12,oPa 17 12 16,oM 4 17] .ret))⟩
def wju:AFn:=⟨77,[.t 8,.t 9,.t 10],(oH [oBx 6 2,oP 8 (.mv (.k (.nils))),oMi 9 0,oMi 10 0] (oH [oLt 20 6 6,oM 21 0,oM 22 1,oM 23 3,oC 24 185 [.t 20,.t 21,.t 22,.t 23],oM 19 24,oEx 25 19 0,oEx 26 19 1,oM 11 25,oM 12 26] (oS (oH [oM 27 12,oUn 28 27] (oQ 28 (oH [oM 29 1,oC 30 186 [.t 29],oM 8 30,oMi 9 8,oMi 10 0] .ret) .skip)) (oH [oM 31 1,oC 32 186 [.t 31],oM 13 32,oMi 14 0] (oS (oH [oM 33 11,oLn 34 33,oMi 35 0] (.block 0 (.loop (oH [oBt 36 .lss 35 34] (oS (oQ 36 .skip (.exit 0)) (oS (.block 1 (oH [oIa 37 1 33 35,oLf 38 37,oM 16 38] (oH [oM 40 0,oM 41 13,oM 42 16,oC 43 136 [.t 40,.t 41,.t 42],oM 39 43,oEx 44 39 0,oEx 45 39 1,oM 17 44,oM 18 45] (.block 2 (oH [oM 50 18,oBk 51 .eql 50 0,oM 49 51] (oQ 49 (oH [oM 52 17,oM 13 52] (oG [oM 53 14,oBk 54 .add 53 1,oM 14 54])) (oH [oM 56 18,oBk 57 .eql 56 (-1),oM 58 57,oF 59 (.load true 6 (.t 6)) 58,ofm 60 18 58,ofc 61 187 [.t 59,.t 60] 58,oPo 62 58 61,oM 55 62] (oQ 55 .skip (oH [oFa 64 5 6,oLf 65 64,oBk 66 .eql 65 1,oM 67 66,otm 68 18 67,oT 69 (.bin .neq (.t 68) (kI 5)) 67,oPa 70 67 69,oM 63 70] (oQ 63 (oH [oM 71 13,oM 72 18,oM 73 14,oM 8 71,oM 9 72,oM 10 73] .ret) (oH [oM 46 1,oC 47 186 [.t 46],oM 48 18,oM 8 47,oM 9 48,oMi 10 0] .ret))))))))))) (oG [oBk 74 .add 35 1,oM 35 74]))))))) (oH [oM 75 13,oM 76 14,oM 8 75,oMi 9 0,oM 10 76] .ret))))))⟩
theorem zgz:jd Tryz.prog [6] 82=some wju:=yak9
def wan:AFn:=⟨33,[.t 10],(oH [oMi 10 0] (oH [oP 13 (.mksl false 3 0 [.int .i64 0,.int .i64 0,.str []] []),oM 11 13] (oS (oH [oM 14 0,oM 15 1,oM 16 3,oC 17 84 [.t 14,.t 15,.t 16],oM 12 17] (oH [oM 18 12,oP 19 (.eq true false [.pt] (.t 18) (.k (.nilp)))] (oQ 19 (oG [oM 20 12,oNc 21 20,oFa 22 1 21,oLf 23 22,oC 24 85 [.t 23],oM 11 24]) .skip))) (oH [oM 25 0,oLf 26 4,oM 27 1,oFa 28 0 5,oLf 29 28,oM 30 2,oM 31 11,oC 32 86 [.t 25,.t 26,.t 27,.t 29,.t 30,.t 31,(kI 0)],oM 10 32] .ret))))⟩
theorem zcv:jd Tryz.prog [] 83=some wan:=yak9
def jdo:AFn:=⟨25,[.t 6],(oH [oBx 5 2,oP 6 (.mv (.k (.nilp)))] (oH [oM 9 0,oNc 10 9,oFa 11 1 10,oLf 12 11,oM 13 1,oIa 14 1 12 13,oFa 15 0 14,oLf 16 15,oM 7 16] (oH [oM 17 7,oP 18 (.mkfn 189 [] [.t 5]),oC 19 188 [.t 17,.t 18],oM 8 19] (oS (oH [oM 20 8,oBk 21 .lss 20 0] (oQ 21 (oH [oP 6 (.mv (.k (.nilp)))] .ret) .skip)) (oH [oM 22 7,oM 23 8,oIa 24 2 22 23,oM 6 24] .ret)))))⟩
theorem ja9:jd Tryz.prog [5] 84=some jdo:=yak9
def zdz:AFn:=⟨8,[.t 2],(oH [oP 2 (.mv (.k (.nils)))] (oS (oH [oM 3 0,oP 4 (.eq false false [.sl] (.t 3) (.k (.nils)))] (oQ 4 (oH [oP 2 (.mv (.k (.nils)))] .ret) .skip)) (oH [oP 5 (.mksl false 3 0 [.int .i64 0,.int .i64 0,.str []] []),oM 6 0,oP 7 (.app 3 32 (.t 5) (.t 6)),oM 2 7] .ret)))⟩
theorem jcv:jd Tryz.prog [] 85=some zdz:=yak9
def jj:AFn:=⟨128,[.t 14],(oH [oMi 14 0] (oH [oM 29 0,oNc 30 29,oFa 31 0 30,oLf 32 31,oM 33 1,oM 34 2,oM 35 3,oM 36 4,oM 37 5,oC 38 190 [.t 32,.t 33,.t 34,.t 35,.t 36,.t 37],oM 15 38] (oS (oH [oM 39 15,oLn 40 39,oBk 41 .gtr 40 0,oM 42 41,otm 43 6 42,oT 44 (.bin .geq (.t 43) (kI 6)) 42,oPa 45 42 44] (oQ 45 (oH [oMi 14 6] .ret) .skip)) (oH [oM 46 0,oNc 47 46,oFa 48 0 47,oLf 49 48,oM 50 2,oIa 51 6 49 50,oFa 52 1 51,oLf 53 52,oLn 54 53,oM 55 4,oM 56 5,oC 57 191 [.t 54,.t 55,.t 56],oM 16 57] (oS (oH [oM 58 15,oLn 59 58,oMi 60 0] (.block 0 (.loop (oH [oBt 61 .lss 60 59] (oS (oQ 61 .skip (.exit 0)) (oS (.block 1 (oH [oIa 62 1 58 60,oLf 63 62,oM 18 63] (oH [oM 64 1,oM 65 18,oIa 66 5 64 65,oLt 67 5 66,oP 19 (.alloc [.str [],.int .i64 0,.nils,.str [],.nils]),oSt 5 19 67] (oS (oD [[oM 68 0,oNc 69 68,oFa 70 0 69,oLf 71 70,oFa 72 3 19,oLf 73 72,oC 74 48 [.t 71,.t 73],oP 75 (.mksl false 3 0 [.int .i64 0,.int .i64 0,.str []] []),oM 20 74],[oM 21 75]]) (oS (oH [oFa 76 4 19,oLf 77 76,oLn 78 77,oMi 79 0] (.block 2 (.loop (oH [oBt 80 .lss 79 78] (oS (oQ 80 .skip (.exit 2)) (oS (.block 3 (oH [oIa 81 1 77 79,oLt 82 1 81,oP 23 (.alloc [.nils]),oSt 1 23 82] (oH [oFa 84 0 23,oLf 85 84,oM 86 16,oC 87 146 [.t 85,.t 86],oM 83 87,oEx 88 83 0,oEx 89 83 1,oP 24 (.alloc [.int .i64 0,.int .i64 0,.str []]),oSt 3 24 88,oM 25 89] (oS (oH [oM 90 25,oUn 91 90] (oQ 91 (oH [oMi 14 8] .ret) .skip)) (oG [oM 92 21,oLt 93 3 24,oP 94 (.mksl true 3 1 [.int .i64 0,.int .i64 0,.str []] [(0,(.t 93))]),oP 95 (.app 3 32 (.t 92) (.t 94)),oM 21 95]))))) (oG [oBk 96 .add 79 1,oM 79 96]))))))) (oS (oH [oM 97 0,oNc 98 97,oFa 99 0 98,oLf 100 99,oM 101 20,oIa 102 6 100 101,oLt 103 6 102,oM 104 21,oC 105 135 [.t 103,.t 104],oUn 106 105] (oQ 106 (oH [oMi 14 8] .ret) .skip)) (oS (oH [oM 108 0,oM 109 20,oM 110 21,oC 111 138 [.t 108,.t 109,.t 110,(.k (.bool false))],oM 107 111,oEx 112 107 0,oEx 113 107 1,oM 26 112,oM 27 113] (oH [oM 114 26,oBk 115 .neq 114 0] (oQ 115 (oH [oM 116 26,oM 14 116] .ret) .skip))) (oH [oM 117 0,oM 118 1,oM 119 20,oM 120 21,oM 121 6,oBk 122 .add 121 1,oC 123 86 [.t 117,.t 118,.t 119,(kI 1),(.k (.nils)),.t 120,.t 122],oM 28 123] (oH [oM 124 28,oBk 125 .neq 124 0] (oQ 125 (oH [oM 126 28,oM 14 126] .ret) .skip)))))))))) (oG [oBk 127 .add 60 1,oM 60 127]))))))) (oH [oMi 14 0] .ret))))))⟩
theorem wa9:jd Tryz.prog [94] 86=some jj:=yak9
def jhy:AFn:=⟨11,[.t 4],(oH [oBx 2 0,oBx 3 1,oMb 4 false] (oS (oH [oFa 5 0 2,oLf 6 5,oFa 7 0 3,oLf 8 7,oC 9 90 [.t 6,.t 8],oUn 10 9] (oQ 10 (oH [oMb 4 false] .ret) .skip)) (oH [oMb 4 true] .ret)))⟩
def jgz:AFn:=⟨40,[.t 4],(oH [oBx 2 0,oBx 3 1,oMb 4 false] (oS (oH [oFa 5 0 2,oLf 6 5,oFa 7 0 3,oLf 8 7,oBt 9 .neq 6 8] (oQ 9 (oH [oMb 4 false] .ret) .skip)) (oS (oH [oFa 10 1 2,oLf 11 10,oFa 12 1 3,oLf 13 12,oC 14 192 [.t 11,.t 13],oUn 15 14] (oQ 15 (oH [oMb 4 false] .ret) .skip)) (oS (oH [oFa 16 2 2,oLf 17 16,oFa 18 2 3,oLf 19 18,oC 20 193 [.t 17,.t 19],oUn 21 20] (oQ 21 (oH [oMb 4 false] .ret) .skip)) (oS (oH [oFa 22 3 2,oLf 23 22,oFa 24 3 3,oLf 25 24,oC 26 194 [.t 23,.t 25],oUn 27 26] (oQ 27 (oH [oMb 4 false] .ret) .skip)) (oS (oH [oFa 28 4 2,oLf 29 28,oFa 30 4 3,oLf 31 30,oC 32 195 [.t 29,.t 31],oUn 33 32] (oQ 33 (oH [oMb 4 false] .ret) .skip)) (oS (oH [oFa 34 5 2,oLf 35 34,oFa 36 5 3,oLf 37 36,oC 38 196 [.t 35,.t 37],oUn 39 38] (oQ 39 (oH [oMb 4 false] .ret) .skip)) (oH [oMb 4 true] .ret))))))))⟩
def ze9:AFn:=⟨32,[.t 4],(oH [oBx 2 0,oBx 3 1,oMb 4 false] (oS (oH [oFa 5 0 2,oLf 6 5,oFa 7 0 3,oLf 8 7,oBt 9 .neq 6 8] (oQ 9 (oH [oMb 4 false] .ret) .skip)) (oS (oH [oFa 10 1 2,oLf 11 10,oFa 12 1 3,oLf 13 12,oBt 14 .neq 11 13] (oQ 14 (oH [oMb 4 false] .ret) .skip)) (oS (oH [oFa 15 2 2,oLf 16 15,oFa 17 2 3,oLf 18 17,oC 19 91 [.t 16,.t 18],oUn 20 19] (oQ 20 (oH [oMb 4 false] .ret) .skip)) (oS (oH [oFa 21 3 2,oLf 22 21,oFa 23 3 3,oLf 24 23,oBt 25 .neq 22 24] (oQ 25 (oH [oMb 4 false] .ret) .skip)) (oS (oH [oFa 26 4 2,oLf 27 26,oFa 28 4 3,oLf 29 28,oC 30 197 [.t 27,.t 29],oUn 31 30] (oQ 31 (oH [oMb 4 false] .ret) .skip)) (oH [oMb 4 true] .ret)))))))⟩
def why:AFn:=⟨27,[.t 4],(oH [oMb 4 false] (oS (oH [oM 6 0,oLn 7 6,oM 8 1,oLn 9 8,oBt 10 .neq 7 9] (oQ 10 (oH [oMb 4 false] .ret) .skip)) (oS (oH [oMi 5 0] (.block 0 (.loop (oS (oH [oM 11 5,oM 12 0,oLn 13 12,oBt 14 .lss 11 13] (oQ 14 .skip (.exit 0))) (oS (.block 1 (oS (oD [[oM 17 0,oM 18 5,oIa 19 2 17 18,oLt 20 2 19,oM 21 1,oM 22 5,oIa 23 2 21 22,oLt 24 2 23],[oC 25 198 [.t 20,.t 24]],[oUn 26 25]]) (oQ 26 (oH [oMb 4 false] .ret) .skip))) (oG [oM 15 5,oBk 16 .add 15 1,oM 5 16])))))) (oH [oMb 4 true] .ret))))⟩
theorem je9:jd Tryz.prog [] 90=some why:=yak9
def zhz:AFn:=⟨27,[.t 4],(oH [oMb 4 false] (oS (oH [oM 6 0,oLn 7 6,oM 8 1,oLn 9 8,oBt 10 .neq 7 9] (oQ 10 (oH [oMb 4 false] .ret) .skip)) (oS (oH [oMi 5 0] (.block 0 (.loop (oS (oH [oM 11 5,oM 12 0,oLn 13 12,oBt 14 .lss 11 13] (oQ 14 .skip (.exit 0))) (oS (.block 1 (oS (oD [[oM 17 0,oM 18 5,oIa 19 5 17 18,oLt 20 5 19,oM 21 1,oM 22 5,oIa 23 5 21 22,oLt 24 5 23],[oC 25 199 [.t 20,.t 24]],[oUn 26 25]]) (oQ 26 (oH [oMb 4 false] .ret) .skip))) (oG [oM 15 5,oBk 16 .add 15 1,oM 5 16])))))) (oH [oMb 4 true] .ret))))⟩
theorem we9:jd Tryz.prog [] 91=some zhz:=yak9
def jhz:AFn:=⟨27,[.t 4],(oH [oMb 4 false] (oS (oH [oM 6 0,oLn 7 6,oM 8 1,oLn 9 8,oBt 10 .neq 7 9] (oQ 10 (oH [oMb 4 false] .ret) .skip)) (oS (oH [oMi 5 0] (.block 0 (.loop (oS (oH [oM 11 5,oM 12 0,oLn 13 12,oBt 14 .lss 11 13] (oQ 14 .skip (.exit 0))) (oS (.block 1 (oS (oD [[oM 17 0,oM 18 5,oIa 19 2 17 18,oLt 20 2 19,oM 21 1,oM 22 5,oIa 23 2 21 22,oLt 24 2 23],[oC 25 200 [.t 20,.t 24]],[oUn 26 25]]) (oQ 26 (oH [oMb 4 false] .ret) .skip))) (oG [oM 15 5,oBk 16 .add 15 1,oM 5 16])))))) (oH [oMb 4 true] .ret))))⟩
theorem zfa:jd Tryz.prog [] 92=some jhz:=yak9
def jfw:AFn:=⟨20,[.t 2],(oH [oP 2 (.mv (.k (.str [])))] (oS (oH [oM 4 0,oBk 5 .leq 4 0] (oQ 5 (oH [oP 2 (.mv (.k (.str [109,48])))] .ret) .skip)) (oH [oP 3 (.mv (.k (.str [])))] (oS (.block 0 (.loop (oS (oH [oM 6 0,oBk 7 .gtr 6 0] (oQ 7 .skip (.exit 0))) (.block 1 (oH [oM 8 0,oBk 9 .rem 8 10,oP 10 (.bin .add (kI 48) (.t 9)),oP 11 (.conv .u8 (.t 10)),oP 12 (.mksl true 1 1 [.int .u8 0] [(0,(.t 11))]),oP 13 (.b2s (.t 12)),oM 14 3,oBt 15 .add 13 14,oM 3 15] (oG [oM 16 0,oBk 17 .quo 16 10,oM 0 17])))))) (oH [oM 18 3,oP 19 (.bin .add (.k (.str [109])) (.t 18)),oM 2 19] .ret)))))⟩
def wfw:AFn:=⟨62,[.t 4],(oH [oMi 4 0] (oS (oH [oMi 5 0] (.block 0 (.loop (oS (oH [oM 6 5,oM 7 0,oLn 8 7,oBt 9 .lss 6 8] (oQ 9 .skip (.exit 0))) (oS (.block 1 (oH [oM 12 0,oM 13 5,oM 14 1,oC 15 93 [.t 14],oIa 16 6 12 13,oFa 17 0 16,oSt 1 17 15] (oH [oM 18 1,oBk 19 .add 18 1,oM 1 19] (oH [oM 20 0,oM 21 5,oM 22 1,oIa 23 6 20 21,oFa 24 1 23,oSt 1 24 22] (oH [oM 25 1,oBk 26 .add 25 1,oM 1 26] (oH [oM 27 0,oM 28 5,oM 29 1,oBk 30 .rem 29 3,oBk 31 .eql 30 0,oIa 32 6 27 28,oFa 33 2 32,oSt 1 33 31] (oH [oM 34 1,oBk 35 .add 34 1,oM 1 35] (oH [oM 36 0,oM 37 5,oM 38 1,oIa 39 6 36 37,oFa 40 3 39,oFa 41 0 40,oSt 1 41 38] (oH [oM 42 1,oBk 43 .add 42 1,oM 1 43] (oH [oM 44 0,oM 45 5,oM 46 1,oIa 47 6 44 45,oFa 48 3 47,oFa 49 1 48,oSt 1 49 46] (oH [oM 50 1,oBk 51 .add 50 1,oM 1 51] (oH [oM 52 0,oM 53 5,oM 54 1,oC 55 93 [.t 54],oIa 56 6 52 53,oFa 57 3 56,oFa 58 2 57,oSt 1 58 55] (oG [oM 59 1,oBk 60 .add 59 1,oM 1 60]))))))))))))) (oG [oM 10 5,oBk 11 .add 10 1,oM 5 11])))))) (oH [oM 61 1,oM 4 61] .ret)))⟩
theorem jdz:jd Tryz.prog [] 94=some wfw:=yak9
def wek:AFn:=⟨19,[.t 4],(oH [oMi 4 0] (oS (oH [oMi 5 0] (.block 0 (.loop (oS (oH [oM 6 5,oM 7 0,oLn 8 7,oBt 9 .lss 6 8] (oQ 9 .skip (.exit 0))) (oS (.block 1 (oH [oM 12 0,oM 13 5,oM 14 1,oIa 15 1 12 13,oSt 1 15 14] (oG [oM 16 1,oBk 17 .add 16 1,oM 1 17]))) (oG [oM 10 5,oBk 11 .add 10 1,oM 5 11])))))) (oH [oM 18 1,oM 4 18] .ret)))⟩
theorem jdf:jd Tryz.prog [] 95=some wek:=yak9
def wdz:AFn:=⟨20,[.t 4],(oH [oMi 4 0] (oS (oH [oMi 5 0] (.block 0 (.loop (oS (oH [oM 6 5,oM 7 0,oLn 8 7,oBt 9 .lss 6 8] (oQ 9 .skip (.exit 0))) (oS (.block 1 (oG [oM 12 0,oM 13 5,oIa 14 1 12 13,oFa 15 0 14,oLf 16 15,oM 17 1,oC 18 95 [.t 16,.t 17],oM 1 18])) (oG [oM 10 5,oBk 11 .add 10 1,oM 5 11])))))) (oH [oM 19 1,oM 4 19] .ret)))⟩
theorem wcv:jd Tryz.prog [] 96=some wdz:=yak9
def zel:AFn:=⟨20,[.t 4],(oH [oMi 4 0] (oS (oH [oMi 5 0] (.block 0 (.loop (oS (oH [oM 6 5,oM 7 0,oLn 8 7,oBt 9 .lss 6 8] (oQ 9 .skip (.exit 0))) (oS (.block 1 (oG [oM 12 0,oM 13 5,oIa 14 1 12 13,oFa 15 0 14,oLf 16 15,oM 17 1,oC 18 99 [.t 16,.t 17],oM 1 18])) (oG [oM 10 5,oBk 11 .add 10 1,oM 5 11])))))) (oH [oM 19 1,oM 4 19] .ret)))⟩
theorem wdf:jd Tryz.prog [] 97=some zel:=yak9
def wgz:AFn:=⟨51,[.t 4],(oH [oMi 4 0] (oS (oH [oMi 5 0] (.block 0 (.loop (oS (oH [oM 6 5,oM 7 0,oLn 8 7,oBt 9 .lss 6 8] (oQ 9 .skip (.exit 0))) (oS (.block 1 (oH [oM 12 0,oM 13 5,oIa 14 5 12 13,oFa 15 0 14,oLf 16 15,oM 17 1,oC 18 95 [.t 16,.t 17],oM 1 18] (oH [oM 19 0,oM 20 5,oM 21 1,oC 22 93 [.t 21],oIa 23 5 19 20,oFa 24 1 23,oSt 1 24 22] (oH [oM 25 1,oBk 26 .add 25 1,oM 1 26] (oH [oM 27 0,oM 28 5,oM 29 1,oIa 30 5 27 28,oFa 31 2 30,oSt 1 31 29] (oH [oM 32 1,oBk 33 .add 32 1,oM 1 33] (oH [oM 34 0,oM 35 5,oM 36 1,oIa 37 5 34 35,oFa 38 3 37,oSt 1 38 36] (oH [oM 39 1,oBk 40 .add 39 1,oM 1 40] (oH [oM 41 0,oM 42 5,oM 43 1,oBk 44 .rem 43 3,oBk 45 .eql 44 0,oIa 46 5 41 42,oFa 47 4 46,oSt 1 47 45] (oG [oM 48 1,oBk 49 .add 48 1,oM 1 49])))))))))) (oG [oM 10 5,oBk 11 .add 10 1,oM 5 11])))))) (oH [oM 50 1,oM 4 50] .ret)))⟩
theorem jel:jd Tryz.prog [] 98=some wgz:=yak9
def zfx:AFn:=⟨52,[.t 4],(oH [oMi 4 0] (oS (oH [oMi 5 0] (.block 0 (.loop (oS (oH [oM 6 5,oM 7 0,oLn 8 7,oBt 9 .lss 6 8] (oQ 9 .skip (.exit 0))) (oS (.block 1 (oH [oM 12 0,oM 13 5,oM 14 1,oIa 15 5 12 13,oFa 16 0 15,oSt 1 16 14] (oH [oM 17 1,oBk 18 .add 17 1,oM 1 18] (oH [oM 19 0,oM 20 5,oM 21 1,oIa 22 5 19 20,oFa 23 1 22,oSt 1 23 21] (oH [oM 24 1,oBk 25 .add 24 1,oM 1 25] (oH [oM 26 0,oM 27 5,oM 28 1,oIa 29 5 26 27,oFa 30 2 29,oFa 31 0 30,oSt 1 31 28] (oH [oM 32 1,oBk 33 .add 32 1,oM 1 33] (oH [oM 34 0,oM 35 5,oM 36 1,oIa 37 5 34 35,oFa 38 2 37,oFa 39 1 38,oSt 1 39 36] (oH [oM 40 1,oBk 41 .add 40 1,oM 1 41] (oH [oM 42 0,oM 43 5,oM 44 1,oC 45 93 [.t 44],oIa 46 5 42 43,oFa 47 2 46,oFa 48 2 47,oSt 1 48 45] (oG [oM 49 1,oBk 50 .add 49 1,oM 1 50]))))))))))) (oG [oM 10 5,oBk 11 .add 10 1,oM 5 11])))))) (oH [oM 51 1,oM 4 51] .ret)))⟩
theorem zd0:jd Tryz.prog [] 99=some zfx:=yak9
def jfa:AFn:=⟨20,[.t 4],(oH [oMi 4 0] (oS (oH [oMi 5 0] (.block 0 (.loop (oS (oH [oM 6 5,oM 7 0,oLn 8 7,oBt 9 .lss 6 8] (oQ 9 .skip (.exit 0))) (oS (.block 1 (oG [oM 12 0,oM 13 5,oIa 14 1 12 13,oFa 15 0 14,oLf 16 15,oM 17 1,oC 18 99 [.t 16,.t 17],oM 1 18])) (oG [oM 10 5,oBk 11 .add 10 1,oM 5 11])))))) (oH [oM 19 1,oM 4 19] .ret)))⟩
theorem wdo:jd Tryz.prog [] 100=some jfa:=yak9
def jfx:AFn:=⟨27,[.t 4],(oH [oMi 4 0] (oS (oH [oMi 5 0] (.block 0 (.loop (oS (oH [oM 6 5,oM 7 0,oLn 8 7,oBt 9 .lss 6 8] (oQ 9 .skip (.exit 0))) (oS (.block 1 (oH [oM 12 0,oM 13 5,oM 14 1,oIa 15 2 12 13,oFa 16 0 15,oSt 1 16 14] (oH [oM 17 1,oBk 18 .add 17 1,oM 1 18] (oG [oM 19 0,oM 20 5,oIa 21 2 19 20,oFa 22 1 21,oLf 23 22,oM 24 1,oC 25 201 [.t 23,.t 24],oM 1 25])))) (oG [oM 10 5,oBk 11 .add 10 1,oM 5 11])))))) (oH [oM 26 1,oM 4 26] .ret)))⟩
theorem jd0:jd Tryz.prog [] 101=some jfx:=yak9
def wfx:AFn:=⟨27,[.t 4],(oH [oMi 4 0] (oS (oH [oMi 5 0] (.block 0 (.loop (oS (oH [oM 6 5,oM 7 0,oLn 8 7,oBt 9 .lss 6 8] (oQ 9 .skip (.exit 0))) (oS (.block 1 (oH [oM 12 0,oM 13 5,oM 14 1,oIa 15 2 12 13,oFa 16 0 15,oSt 1 16 14] (oH [oM 17 1,oBk 18 .add 17 1,oM 1 18] (oG [oM 19 0,oM 20 5,oIa 21 2 19 20,oFa 22 1 21,oLf 23 22,oM 24 1,oC 25 99 [.t 23,.t 24],oM 1 25])))) (oG [oM 10 5,oBk 11 .add 10 1,oM 5 11])))))) (oH [oM 26 1,oM 4 26] .ret)))⟩
theorem wd0:jd Tryz.prog [] 102=some wfx:=yak9
def zfy:AFn:=⟨31,[.t 4],(oH [oMi 4 0] (oS (oH [oMi 5 0] (.block 0 (.loop (oS (oH [oM 6 5,oM 7 0,oLn 8 7,oBt 9 .lss 6 8] (oQ 9 .skip (.exit 0))) (oS (.block 1 (oS (oH [oM 12 0,oM 13 5,oIa 14 2 12 13,oFa 15 0 14,oLf 16 15,oM 17 1,oBt 18 .neq 16 17] (oQ 18 (oH [oMi 4 (-1)] .ret) .skip)) (oH [oM 19 1,oBk 20 .add 19 1,oM 1 20] (oH [oM 21 0,oM 22 5,oIa 23 2 21 22,oFa 24 1 23,oLf 25 24,oM 26 1,oC 27 202 [.t 25,.t 26],oM 1 27] (oH [oM 28 1,oBk 29 .lss 28 0] (oQ 29 (oH [oMi 4 (-1)] .ret) .skip)))))) (oG [oM 10 5,oBk 11 .add 10 1,oM 5 11])))))) (oH [oM 30 1,oM 4 30] .ret)))⟩
def whz:AFn:=⟨23,[.t 2],(oH [oMb 2 false] (oS (oH [oM 4 0,oP 5 (.len true (.t 4)),oMi 6 0] (.block 0 (.loop (oH [oBt 7 .lss 6 5] (oS (oQ 7 .skip (.exit 0)) (oS (.block 1 (oH [oM 8 6,oM 3 8] (oH [oM 9 0,oM 10 3,oP 11 (.idx (.t 9) (.t 10)),oP 12 (.bin .lss (.t 11) (.k (.int .u8 97))),oM 13 12,ofm 14 0 13,ofm 15 3 13,oF 16 (.idx (.t 14) (.t 15)) 13,oF 17 (.bin .gtr (.t 16) (.k (.int .u8 122))) 13,oPo 18 13 17] (oQ 18 (oH [oMb 2 false] .ret) .skip)))) (oG [oBk 19 .add 6 1,oM 6 19]))))))) (oH [oM 20 0,oP 21 (.len true (.t 20)),oC 22 177 [.t 21,(kI 1),(kI 8)],oM 2 22] .ret)))⟩
def zb9:AFn:=⟨19,[.t 4],(oH [oMi 4 0] (oS (oH [oM 6 0,oLn 7 6,oMi 8 0] (.block 0 (.loop (oH [oBt 9 .lss 8 7] (oS (oQ 9 .skip (.exit 0)) (oS (.block 1 (oH [oM 10 8,oM 5 10] (oH [oM 11 1,oM 12 0,oM 13 5,oIa 14 6 12 13,oLt 15 6 14,⟨some 16,.call (.t 11) [.t 15],none⟩] (oQ 16 (oH [oM 17 5,oM 4 17] .ret) .skip)))) (oG [oBk 18 .add 8 1,oM 8 18]))))))) (oH [oMi 4 (-1)] .ret)))⟩
theorem zaq:jd Tryz.prog [] 132=some zb9:=yak9
def wfa:AFn:=⟨8,[.t 3],(oH [oBx 2 0,oMb 3 false] (oH [oFa 4 0 2,oLf 5 4,oLf 6 1,oBt 7 .eql 5 6,oM 3 7] .ret))⟩
def zkw:AFn:=⟨30,[.t 4],(oH [oBx 2 0,oMb 4 false] (oS (oH [oM 7 1,oLn 8 7,oFa 9 1 2,oLf 10 9,oLn 11 10,oBt 12 .neq 8 11] (oQ 12 (oH [oMb 4 false] .ret) .skip)) (oS (oH [oM 13 1,oLn 14 13,oMi 15 0] (.block 0 (.loop (oH [oBt 16 .lss 15 14] (oS (oQ 16 .skip (.exit 0)) (oS (.block 1 (oH [oM 17 15,oIa 18 3 13 15,oLt 19 3 18,oP 6 (.alloc [.int .i64 0,.int .i64 0,.str []]),oM 5 17,oSt 3 6 19] (oS (oD [[oLt 20 3 6,oFa 21 1 2,oLf 22 21,oM 23 5,oIa 24 6 22 23,oFa 25 1 24,oLf 26 25],[oC 27 233 [.t 20,.t 26]],[oUn 28 27]]) (oQ 28 (oH [oMb 4 false] .ret) .skip)))) (oG [oBk 29 .add 15 1,oM 15 29]))))))) (oH [oMb 4 true] .ret))))⟩
def zg0:AFn:=⟨27,[.t 6,.t 7],(oH [oP 6 (.mv (.k (.nils))),oMi 7 0] (oH [oM 10 0,oM 11 1,oC 12 186 [.t 11],oP 13 (.build [.nils,.nils] [(0,1,(.t 10)),(1,1,(.t 12))]),oP 14 (.box false (.t 13)),oM 8 14] (oS (oH [oM 15 2,oM 16 8,⟨some 17,.call (.t 15) [.t 16],none⟩,oM 9 17] (oH [oM 18 9,oBk 19 .neq 18 0] (oQ 19 (oH [oM 20 1,oC 21 186 [.t 20],oM 22 9,oM 6 21,oM 7 22] .ret) .skip))) (oH [oM 23 8,oNc 24 23,oFa 25 1 24,oLf 26 25,oM 6 26,oMi 7 0] .ret))))⟩
theorem wel:jd Tryz.prog [] 136=some zg0:=yak9
def zcw:AFn:=⟨89,[.t 8,.t 9],(oH [oMi 8 0,oMi 9 0] (oH [oM 14 0,oNc 15 14,oFa 16 0 15,oLf 17 16,oM 18 1,oIa 19 6 17 18,oLt 20 6 19,oP 10 (.alloc [.str [],.nils,.nils,.nils,.nils,.nils]),oSt 6 10 20] (oS (oH [oM 21 3] (oQ 21 (oG [oLt 22 6 10,oM 23 2,oC 24 234 [.t 22,.t 23],oM 2 24]) .skip)) (oS (oH [oLt 25 6 10,oM 26 2,oC 27 235 [.t 25,.t 26],oM 11 27] (oH [oM 28 11,oBk 29 .neq 28 0] (oQ 29 (oH [oM 30 11,oM 8 30,oMi 9 0] .ret) .skip))) (oH [oM 31 0,oM 32 1,oC 33 236 [.t 31,.t 32],oM 12 33] (oS (oH [oM 34 0,oM 35 1,oM 36 2,oM 37 3,oC 38 237 [.t 34,.t 35,(kI 0),.t 36,.t 37,(kI 0)],oM 13 38] (oH [oM 39 13,oBk 40 .neq 39 0] (oQ 40 (oH [oM 41 13,oM 8 41,oMi 9 0] .ret) .skip))) (oS (oH [oM 42 0,oNc 43 42,oFa 44 1 43,oLf 45 44,oM 46 1,oIa 47 1 45 46,oFa 48 0 47,oLf 49 48,oLn 50 49,oBk 51 .geq 50 60,oM 52 51,ofm 53 12 52,oF 54 (.bin .gtr (.t 53) (kI 1000000000)) 52,oPo 55 52 54] (oQ 55 (oH [oMi 8 7,oMi 9 0] .ret) .skip)) (oS (oD [[oM 56 0,oNc 57 56,oFa 58 1 57,oLf 59 58,oM 60 1,oM 61 0,oNc 62 61,oFa 63 1 62,oLf 64 63,oM 65 1,oIa 66 1 64 65,oFa 67 0 66,oLf 68 67,oM 69 12,oM 70 2,oC 71 85 [.t 70],oP 72 (.build [.int .i64 0,.nils] [(0,1,(.t 69)),(1,1,(.t 71))]),oP 73 (.mksl true 2 1 [.int .i64 0,.nils] [(0,(.t 72))]),oP 74 (.app 2 32 (.t 68) (.t 73))],[oIa 75 1 59 60],[oFa 76 0 75],[oSt 1 76 74]]) (oS (oS (oD [[oM 77 0,oNc 78 77,oFa 79 0 78,oLf 80 79,oM 81 0,oNc 82 81,oFa 83 1 82,oLf 84 83,oLt 85 6 10,oM 86 2],[oC 87 223 [.t 80,.t 84,.t 85,.t 86,(.k (.bool false))]]]) (oQ 87 (oH [oMi 8 5,oMi 9 0] .ret) .skip)) (oH [oM 88 12,oMi 8 0,oM 9 88] .ret))))))))))⟩
theorem jb9:jd Tryz.prog [73] 138=some zcw:=yak9
def jg0:AFn:=⟨13,[.t 4],(oH [oMb 4 false] (oH [oM 5 0,oLn 6 5,oBk 7 .eql 6 0,oM 8 7,ofm 9 0 8,ofm 10 1 8,ofc 11 239 [.t 9,.t 10] 8,oPo 12 8 11,oM 4 12] .ret))⟩
def jfy:AFn:=⟨36,[.t 4,.t 5],(oH [oP 4 (.mv (.k (.nils))),oMb 5 false] (oH [oP 10 (.mksl false 1 0 [.int .i64 0] []),oM 6 10] (oS (oH [oM 11 0,oLn 12 11,oMi 13 0] (.block 0 (.loop (oH [oBt 14 .lss 13 12] (oS (oQ 14 .skip (.exit 0)) (oS (.block 1 (oH [oIa 15 2 11 13,oLt 16 2 15,oP 8 (.alloc [.int .i64 0,.nils]),oSt 2 8 16] (oH [oMi 9 1] (oS (oH [oM 17 1,oLn 18 17,oBk 19 .gtr 18 0] (oQ 19 (oG [oM 20 1,oFa 21 1 8,oLf 22 21,oC 23 56 [.t 20,.t 22],oM 9 23]) .skip)) (oH [oM 24 9] (.block 2 (oH [oBk 26 .eql 24 (-1),oM 25 26] (oQ 25 (oH [oP 4 (.mv (.k (.nils))),oMb 5 false] .ret) (oH [oBk 28 .eql 24 1,oM 27 28] (oQ 27 (oG [oM 29 6,oFa 30 0 8,oLf 31 30,oP 32 (.mksl true 1 1 [.int .i64 0] [(0,(.t 31))]),oP 33 (.app 1 8 (.t 29) (.t 32)),oM 6 33]) .skip)))))))))) (oG [oBk 34 .add 13 1,oM 13 34]))))))) (oH [oM 35 6,oM 4 35,oMb 5 true] .ret))))⟩
theorem zd1:jd Tryz.prog [32] 143=some jfy:=yak9
def zh0:AFn:=⟨38,[.t 4],(oH [oMb 4 false] (oH [oMi 5 0] (oS (oH [oMi 6 0] (.block 0 (.loop (oS (oH [oM 8 6,oM 9 0,oLn 10 9,oBt 11 .lss 8 10] (oQ 11 .skip (.exit 0))) (oS (.block 1 (oH [oM 14 0,oM 15 6,oIa 16 5 14 15,oLt 17 5 16,oM 18 1,oC 19 240 [.t 17,.t 18],oM 7 19] (oS (oH [oM 20 7,oBk 21 .lss 20 0,oM 22 21,ofm 23 7 22,ofm 24 5 22,oF 25 (.bin .gtr (.t 23) (.t 24)) 22,oPo 26 22 25] (oQ 26 (oH [oMb 4 false] .ret) .skip)) (oG [oM 27 5,oM 28 7,oBt 29 .sub 27 28,oBk 30 .add 29 1,oM 5 30])))) (oG [oM 12 6,oBk 13 .add 12 1,oM 6 13])))))) (oH [oM 31 5,oBk 32 .eql 31 1,oM 33 32,otm 34 0 33,oT 35 (.len false (.t 34)) 33,oT 36 (.bin .leq (.t 35) (kI 24)) 33,oPa 37 33 36,oM 4 37] .ret))))⟩
def zjv:AFn:=⟨57,[.m 4 true 3,.t 5],(oH [oP 4 (.alloc [.int .i64 0,.int .i64 0,.str []]),oMb 5 false] (oS (oH [oM 12 1,oC 13 241 [.t 12,(kI 16)],oUn 14 13,oM 15 14,ofm 16 0 15,ofm 17 1 15,oF 18 (.len false (.t 17)) 15,ofc 19 239 [.t 16,.t 18] 15,oF 20 (.un .not (.t 19)) 15,oPo 21 15 20] (oQ 21 (oH [oP 22 (.build [.int .i64 0,.int .i64 0,.str []] []),oSt 3 4 22,oMb 5 false] .ret) .skip)) (oH [oP 23 (.mksl false 3 0 [.int .i64 0,.int .i64 0,.str []] []),oM 6 23] (oS (oH [oM 24 0,oLn 25 24,oMi 26 0] (.block 0 (.loop (oH [oBt 27 .lss 26 25] (oS (oQ 27 .skip (.exit 0)) (oS (.block 1 (oH [oIa 28 5 24 26,oLt 29 5 28,oP 8 (.alloc [.int .i64 0,.int .i64 0,.int .i64 0,.int .i64 0,.str []]),oSt 5 8 29] (oH [oM 30 6,oLn 31 30,oLt 32 5 8,oC 33 242 [.t 32],oBt 34 .sub 31 33,oM 9 34] (oS (oD [[oLt 36 5 8,oM 37 6,oM 38 9,oP 39 (.slice 3 (.t 37) (some (.t 38)) none none),oM 40 1,oC 41 243 [.t 36,.t 39,.t 40],oM 35 41,oEx 42 35 0,oEx 43 35 1,oP 10 (.alloc [.int .i64 0,.int .i64 0,.str []]),oSt 3 10 42],[oM 11 43]]) (oS (oH [oM 44 11,oUn 45 44] (oQ 45 (oH [oP 46 (.build [.int .i64 0,.int .i64 0,.str []] []),oSt 3 4 46,oMb 5 false] .ret) .skip)) (oD [[oM 47 6,oM 48 9,oP 49 (.slice 3 (.t 47) none (some (.t 48)) none),oLt 50 3 10,oP 51 (.mksl true 3 1 [.int .i64 0,.int .i64 0,.str []] [(0,(.t 50))])],[oP 52 (.app 3 32 (.t 49) (.t 51))],[oM 6 52]])))))) (oG [oBk 53 .add 26 1,oM 26 53]))))))) (oH [oM 54 6,oP 55 (.iaddr 3 (.t 54) (kI 0)),oLt 56 3 55,oSt 3 4 56,oMb 5 true] .ret)))))⟩
def jiu:AFn:=⟨13,[.t 2],(oH [oBx 1 0,oMi 2 0] (oS (oH [oFa 3 0 1,oLf 4 3] (.block 0 (oH [oBk 6 .eql 4 0,oM 5 6] (oQ 5 (oH [oMi 2 2] .ret) (oH [oBk 8 .eql 4 1,oM 7 8] (oQ 7 (oH [oFa 9 1 1,oLf 10 9,oBk 11 .neq 10 0,oC 12 244 [.t 11],oM 2 12] .ret) .skip)))))) (oH [oMi 2 (-1)] .ret)))⟩
def jh0:AFn:=⟨27,[.t 4],(oH [oMi 4 0] (oH [oM 6 1,oM 7 0,oLn 8 7,oBt 9 .sub 6 8,oM 1 9] (oS (oH [oM 10 1,oBk 11 .lss 10 0] (oQ 11 (oH [oMi 4 (-1)] .ret) .skip)) (oS (oH [oMi 5 0] (.block 0 (.loop (oS (oH [oM 12 5,oM 13 0,oLn 14 13,oBt 15 .lss 12 14] (oQ 15 .skip (.exit 0))) (oS (.block 1 (oH [oM 18 0,oM 19 5,oIa 20 6 18 19,oLt 21 6 20,oM 22 1,oC 23 245 [.t 21,.t 22],oM 1 23] (oH [oM 24 1,oBk 25 .lss 24 0] (oQ 25 (oH [oMi 4 (-1)] .ret) .skip)))) (oG [oM 16 5,oBk 17 .add 16 1,oM 5 17])))))) (oH [oM 26 1,oM 4 26] .ret)))))⟩
theorem zfb:jd Tryz.prog [] 148=some jh0:=yak9
def wfy:AFn:=⟨12,[.t 4],(oH [oMi 4 0] (oH [oM 5 1,oM 6 0,oLn 7 6,oBt 8 .sub 5 7,oM 1 8] (oS (oH [oM 9 1,oBk 10 .lss 9 0] (oQ 10 (oH [oMi 4 (-1)] .ret) .skip)) (oH [oM 11 1,oM 4 11] .ret))))⟩
def jfb:AFn:=⟨27,[.t 4],(oH [oMi 4 0] (oH [oM 6 1,oM 7 0,oLn 8 7,oBt 9 .sub 6 8,oM 1 9] (oS (oH [oM 10 1,oBk 11 .lss 10 0] (oQ 11 (oH [oMi 4 (-1)] .ret) .skip)) (oS (oH [oMi 5 0] (.block 0 (.loop (oS (oH [oM 12 5,oM 13 0,oLn 14 13,oBt 15 .lss 12 14] (oQ 15 .skip (.exit 0))) (oS (.block 1 (oH [oM 18 0,oM 19 5,oIa 20 1 18 19,oLt 21 1 20,oM 22 1,oC 23 246 [.t 21,.t 22],oM 1 23] (oH [oM 24 1,oBk 25 .lss 24 0] (oQ 25 (oH [oMi 4 (-1)] .ret) .skip)))) (oG [oM 16 5,oBk 17 .add 16 1,oM 5 17])))))) (oH [oM 26 1,oM 4 26] .ret)))))⟩
theorem zdp:jd Tryz.prog [] 150=some jfb:=yak9
def zfz:AFn:=⟨27,[.t 4],(oH [oMi 4 0] (oH [oM 6 1,oM 7 0,oLn 8 7,oBt 9 .sub 6 8,oM 1 9] (oS (oH [oM 10 1,oBk 11 .lss 10 0] (oQ 11 (oH [oMi 4 (-1)] .ret) .skip)) (oS (oH [oMi 5 0] (.block 0 (.loop (oS (oH [oM 12 5,oM 13 0,oLn 14 13,oBt 15 .lss 12 14] (oQ 15 .skip (.exit 0))) (oS (.block 1 (oH [oM 18 0,oM 19 5,oIa 20 1 18 19,oLt 21 1 20,oM 22 1,oC 23 247 [.t 21,.t 22],oM 1 23] (oH [oM 24 1,oBk 25 .lss 24 0] (oQ 25 (oH [oMi 4 (-1)] .ret) .skip)))) (oG [oM 16 5,oBk 17 .add 16 1,oM 5 17])))))) (oH [oM 26 1,oM 4 26] .ret)))))⟩
theorem jd1:jd Tryz.prog [] 151=some zfz:=yak9
def wiu:AFn:=⟨27,[.t 4],(oH [oMi 4 0] (oH [oM 6 1,oM 7 0,oLn 8 7,oBt 9 .sub 6 8,oM 1 9] (oS (oH [oM 10 1,oBk 11 .lss 10 0] (oQ 11 (oH [oMi 4 (-1)] .ret) .skip)) (oS (oH [oMi 5 0] (.block 0 (.loop (oS (oH [oM 12 5,oM 13 0,oLn 14 13,oBt 15 .lss 12 14] (oQ 15 .skip (.exit 0))) (oS (.block 1 (oH [oM 18 0,oM 19 5,oIa 20 5 18 19,oLt 21 5 20,oM 22 1,oC 23 248 [.t 21,.t 22],oM 1 23] (oH [oM 24 1,oBk 25 .lss 24 0] (oQ 25 (oH [oMi 4 (-1)] .ret) .skip)))) (oG [oM 16 5,oBk 17 .add 16 1,oM 5 17])))))) (oH [oM 26 1,oM 4 26] .ret)))))⟩
theorem jfz:jd Tryz.prog [] 152=some wiu:=yak9
def wg0:AFn:=⟨27,[.t 4],(oH [oMi 4 0] (oH [oM 6 1,oM 7 0,oLn 8 7,oBt 9 .sub 6 8,oM 1 9] (oS (oH [oM 10 1,oBk 11 .lss 10 0] (oQ 11 (oH [oMi 4 (-1)] .ret) .skip)) (oS (oH [oMi 5 0] (.block 0 (.loop (oS (oH [oM 12 5,oM 13 0,oLn 14 13,oBt 15 .lss 12 14] (oQ 15 .skip (.exit 0))) (oS (.block 1 (oH [oM 18 0,oM 19 5,oIa 20 1 18 19,oLt 21 1 20,oM 22 1,oC 23 249 [.t 21,.t 22],oM 1 23] (oH [oM 24 1,oBk 25 .lss 24 0] (oQ 25 (oH [oMi 4 (-1)] .ret) .skip)))) (oG [oM 16 5,oBk 17 .add 16 1,oM 5 17])))))) (oH [oM 26 1,oM 4 26] .ret)))))⟩
theorem zem:jd Tryz.prog [] 153=some wg0:=yak9
def ziv:AFn:=⟨12,[.t 4],(oH [oBx 2 0,oMi 4 0] (oH [oFa 5 1 2,oLf 6 5,oM 7 1,oC 8 250 [.t 6,.t 7],oM 1 8] (oS (oH [oM 9 1,oBk 10 .lss 9 0] (oQ 10 (oH [oMi 4 (-1)] .ret) .skip)) (oH [oM 11 1,oM 4 11] .ret))))⟩
def jiv:AFn:=⟨12,[.t 4],(oH [oBx 2 0,oMi 4 0] (oH [oFa 5 2 2,oLt 6 3 5,oM 7 1,oC 8 251 [.t 6,.t 7],oM 1 8] (oS (oH [oM 9 1,oBk 10 .lss 9 0] (oQ 10 (oH [oMi 4 (-1)] .ret) .skip)) (oH [oM 11 1,oM 4 11] .ret))))⟩
def wiv:AFn:=⟨12,[.t 4],(oH [oBx 2 0,oMi 4 0] (oH [oFa 5 1 2,oLf 6 5,oM 7 1,oC 8 62 [.t 6,.t 7],oM 1 8] (oS (oH [oM 9 1,oBk 10 .lss 9 0] (oQ 10 (oH [oMi 4 (-1)] .ret) .skip)) (oH [oM 11 1,oM 4 11] .ret))))⟩
def wfz:AFn:=⟨115,[.t 2],(oH [oMb 2 false] (oS (oH [oMi 3 0] (.block 0 (.loop (oS (oH [oM 9 3,oM 10 0,oLn 11 10,oBt 12 .lss 9 11] (oQ 12 .skip (.exit 0))) (oS (.block 1 (oS (oD [[oM 15 0,oM 16 3],[oIa 17 6 15 16],[oLt 18 6 17],[oC 19 252 [.t 18]],[oUn 20 19],[oM 21 20],[ofm 22 0 21,ofm 23 3 21,oF 24 (.slice 6 (.t 22) none (some (.t 23)) none) 21,ofm 25 0 21,ofm 26 3 21,ofi 27 6 25 26 21,ofa 28 0 27 21,ofl 29 28 21],[ofc 30 67 [.t 24,.t 29] 21],[oF 31 (.bin .geq (.t 30) (kI 0)) 21],[oPo 32 21 31]]) (oQ 32 (oH [oMb 2 false] .ret) .skip))) (oG [oM 13 3,oBk 14 .add 13 1,oM 3 14])))))) (oS (oH [oMi 4 0] (.block 2 (.loop (oS (oH [oM 33 4,oM 34 0,oLn 35 34,oBt 36 .lss 33 35] (oQ 36 .skip (.exit 2))) (oS (.block 3 (oH [oMi 5 0] (.block 4 (.loop (oS (oH [oM 39 5,oM 40 0,oM 41 4,oIa 42 6 40 41,oFa 43 5 42,oLf 44 43,oLn 45 44,oBt 46 .lss 39 45] (oQ 46 .skip (.exit 4))) (oS (.block 5 (oH [oM 49 0,oM 50 4,oIa 51 6 49 50,oFa 52 5 51,oLf 53 52,oM 54 5,oIa 55 5 53 54,oLt 56 5 55,oP 6 (.alloc [.nils,.str [],.int .i64 0,.int .i64 0,.bool false]),oSt 5 6 56] (oH [oM 57 0,oFa 58 1 6,oLf 59 58,oC 60 67 [.t 57,.t 59],oM 7 60] (oS (oS (oD [[oM 61 7],[oBk 62 .lss 61 0],[oM 63 62],[ofm 64 0 63,ofm 65 7 63,ofi 66 6 64 65 63,ofa 67 2 66 63,ofl 68 67 63,oF 69 (.len false (.t 68)) 63,ofa 70 0 6 63,ofl 71 70 63,oF 72 (.len false (.t 71)) 63],[oF 73 (.bin .neq (.t 69) (.t 72)) 63],[oPo 74 63 73]]) (oQ 74 (oH [oMb 2 false] .ret) .skip)) (oH [oMi 8 0] (.block 6 (.loop (oS (oH [oM 75 8,oFa 76 0 6,oLf 77 76,oLn 78 77,oBt 79 .lss 75 78] (oQ 79 .skip (.exit 6))) (oS (.block 7 (oS (oD [[oM 82 0,oM 83 4,oIa 84 6 82 83,oFa 85 1 84,oLf 86 85,oFa 87 0 6,oLf 88 87,oM 89 8,oIa 90 1 88 89,oLf 91 90,oIa 92 6 86 91,oFa 93 1 92,oLf 94 93,oM 95 0,oM 96 7,oIa 97 6 95 96,oFa 98 1 97,oLf 99 98,oM 100 0,oM 101 7,oIa 102 6 100 101,oFa 103 2 102,oLf 104 103,oM 105 8,oIa 106 1 104 105,oLf 107 106,oIa 108 6 99 107,oFa 109 1 108,oLf 110 109],[oBt 111 .neq 94 110]]) (oQ 111 (oH [oMb 2 false] .ret) .skip))) (oG [oM 80 8,oBk 81 .add 80 1,oM 8 81])))))))))) (oG [oM 47 5,oBk 48 .add 47 1,oM 5 48]))))))) (oG [oM 37 4,oBk 38 .add 37 1,oM 4 38])))))) (oH [oM 112 0,oLn 113 112,oBk 114 .leq 113 5,oM 2 114] .ret))))⟩
def ziw:AFn:=⟨74,[.t 4],(oH [oBx 3 1,oMb 4 false] (oH [oM 9 0,oFa 10 0 3,oLf 11 10,oC 12 67 [.t 9,.t 11],oM 5 12] (oH [oM 13 0,oFa 14 3 3,oLf 15 14,oC 16 67 [.t 13,.t 15],oM 6 16] (oS (oS (oD [[oM 17 5],[oBk 18 .lss 17 0],[oM 19 18],[ofm 20 6 19],[oF 21 (.bin .lss (.t 20) (kI 0)) 19],[oPo 22 19 21],[oM 23 22],[ofa 24 1 3 23],[ofl 25 24 23],[ofc 26 72 [.t 25,(kI 1),(kI 3)] 23],[oF 27 (.un .not (.t 26)) 23],[oPo 28 23 27],[oM 29 28],[ofa 30 4 3 29,ofl 31 30 29,oF 32 (.len false (.t 31)) 29,ofm 33 0 29,ofm 34 6 29,ofi 35 6 33 34 29,ofa 36 1 35 29,ofl 37 36 29,oF 38 (.len false (.t 37)) 29],[oF 39 (.bin .neq (.t 32) (.t 38)) 29],[oPo 40 29 39]]) (oQ 40 (oH [oMb 4 false] .ret) .skip)) (oH [oM 41 0,oM 42 5,oIa 43 6 41 42,oFa 44 1 43,oLf 45 44,oLn 46 45,oP 47 (.bin .mul (kI 2) (.t 46)),oM 7 47] (oS (oH [oMi 8 0] (.block 0 (.loop (oS (oH [oM 48 8,oFa 49 4 3,oLf 50 49,oLn 51 50,oBt 52 .lss 48 51] (oQ 52 .skip (.exit 0))) (oS (.block 1 (oH [oFa 55 4 3,oLf 56 55,oM 57 8,oIa 58 1 56 57,oFa 59 0 58,oLf 60 59,oM 61 7,oC 62 145 [.t 60,.t 61],oUn 63 62] (oQ 63 (oH [oMb 4 false] .ret) .skip))) (oG [oM 53 8,oBk 54 .add 53 1,oM 8 54])))))) (oH [oFa 64 2 3,oLf 65 64,oLn 66 65,oBk 67 .eql 66 0,oM 68 67,ofa 69 2 3 68,ofl 70 69 68,ofm 71 7 68,ofc 72 145 [.t 70,.t 71] 68,oPo 73 68 72,oM 4 73] .ret)))))))⟩
def jjv:AFn:=⟨71,[.t 4],(oH [oMb 4 false] (oS (oH [oM 8 1,oLn 9 8,oM 10 0,oLn 11 10,oBt 12 .neq 9 11] (oQ 12 (oH [oMb 4 false] .ret) .skip)) (oS (oH [oMi 5 0] (.block 0 (.loop (oS (oH [oM 13 5,oM 14 1,oLn 15 14,oBt 16 .lss 13 15] (oQ 16 .skip (.exit 0))) (oS (.block 1 (oH [oM 19 1,oM 20 5,oIa 21 1 19 20,oFa 22 0 21,oLf 23 22,oM 6 23] (oS (oH [oMi 7 0] (.block 2 (.loop (oS (oH [oM 24 7,oM 25 6,oLn 26 25,oBt 27 .lss 24 26] (oQ 27 .skip (.exit 2))) (oS (.block 3 (oS (oD [[oM 30 6,oM 31 7],[oIa 32 2 30 31],[oFa 33 0 32],[oLf 34 33],[oC 35 72 [.t 34,(kI 1),(kI 1000000000)]],[oUn 36 35],[oM 37 36],[ofm 38 7 37],[oF 39 (.bin .gtr (.t 38) (kI 0)) 37],[ofm 40 39 37],[otm 41 6 40,otm 42 7 40,oT 43 (.bin .sub (.t 42) (kI 1)) 40,oti 44 2 41 43 40,ota 45 0 44 40,otl 46 45 40,otm 47 6 40,otm 48 7 40,oti 49 2 47 48 40,ota 50 0 49 40,otl 51 50 40],[oT 52 (.bin .geq (.t 46) (.t 51)) 40],[oF 53 (.pick (.t 40) (.t 52) (.k (.bool false))) 37],[oPo 54 37 53],[oM 55 54],[ofm 56 0 55,ofm 57 5 55,ofi 58 6 56 57 55,oF 59 (.load true 6 (.t 58)) 55,ofm 60 6 55,ofm 61 7 55,ofi 62 2 60 61 55,ofa 63 1 62 55,ofl 64 63 55],[ofc 65 160 [.t 59,.t 64] 55],[oF 66 (.un .not (.t 65)) 55],[oPo 67 55 66]]) (oQ 67 (oH [oMb 4 false] .ret) .skip))) (oG [oM 28 7,oBk 29 .add 28 1,oM 7 29])))))) (oH [oM 68 6,oLn 69 68,oBk 70 .gtr 69 60] (oQ 70 (oH [oMb 4 false] .ret) .skip))))) (oG [oM 17 5,oBk 18 .add 17 1,oM 5 18])))))) (oH [oMb 4 true] .ret))))⟩
def zg1:AFn:=⟨46,[.t 4],(oH [oBx 2 0,oMb 4 false] (oS (oH [oM 6 1,oLn 7 6,oFa 8 1 2,oLf 9 8,oLn 10 9,oBt 11 .neq 7 10] (oQ 11 (oH [oMb 4 false] .ret) .skip)) (oS (oH [oMi 5 0] (.block 0 (.loop (oS (oH [oM 12 5,oM 13 1,oLn 14 13,oBt 15 .lss 12 14] (oQ 15 .skip (.exit 0))) (oS (.block 1 (oS (oD [[oM 18 1,oM 19 5],[oIa 20 3 18 19],[oLt 21 3 20],[oC 22 253 [.t 21]],[oUn 23 22],[oM 24 23],[ofm 25 1 24,ofm 26 5 24],[ofi 27 3 25 26 24],[ofa 28 0 27 24],[ofl 29 28 24],[oF 30 (.bin .neq (.t 29) (kI 0)) 24],[ofm 31 30 24],[otm 32 1 31,otm 33 5 31,oti 34 3 32 33 31,ota 35 0 34 31,otl 36 35 31,ota 37 1 2 31,otl 38 37 31,otm 39 5 31,oti 40 6 38 39 31,ota 41 1 40 31,otl 42 41 31],[oT 43 (.bin .neq (.t 36) (.t 42)) 31],[oF 44 (.pick (.t 31) (.t 43) (.k (.bool false))) 24],[oPo 45 24 44]]) (oQ 45 (oH [oMb 4 false] .ret) .skip))) (oG [oM 16 5,oBk 17 .add 16 1,oM 5 17])))))) (oH [oMb 4 true] .ret))))⟩
def jg1:AFn:=⟨27,[.t 4],(oH [oMi 4 0] (oH [oM 10 0,oM 11 1,oC 12 254 [.t 10,.t 11],oM 9 12,oEx 13 9 0,oEx 14 9 1,oP 5 (.alloc [.int .i64 0,.int .i64 0,.str []]),oSt 3 5 13,oM 6 14] (oH [oLt 16 3 5,oC 17 255 [.t 16],oM 15 17,oEx 18 15 0,oEx 19 15 1,oM 7 18,oM 8 19] (oS (oH [oM 20 6,oUn 21 20,oM 22 21,ofm 23 8 22,oF 24 (.un .not (.t 23)) 22,oPo 25 22 24] (oQ 25 (oH [oMi 4 (-1)] .ret) .skip)) (oH [oM 26 7,oM 4 26] .ret)))))⟩
def jem:AFn:=⟨6,[.t 2],(oH [oP 2 (.mv (.k (.nils)))] (oH [oP 3 (.mksl false 3 0 [.int .i64 0,.int .i64 0,.str []] []),oM 4 0,oP 5 (.app 3 32 (.t 3) (.t 4)),oM 2 5] .ret))⟩
theorem zdg:jd Tryz.prog [] 162=some jem:=yak9
def jiw:AFn:=⟨85,[.t 12,.t 13],(oH [oBx 9 3,oP 12 (.mv (.k (.nils))),oMi 13 0] (oH [oFa 21 5 9,oLf 22 21,oBk 23 .eql 22 3,oM 14 23] (oS (oH [oFa 24 0 9,oLf 25 24] (.block 0 (oH [oBk 27 .eql 25 1,oM 26 27] (oQ 26 (oH [oM 29 0,oM 30 1,oM 31 2,oM 32 5,oM 33 14,oC 34 256 [.t 29,.t 30,.t 31,.t 32,.t 33],oM 28 34,oEx 35 28 0,oEx 36 28 1,oEx 37 28 2,oM 15 35,oM 16 36,oM 17 37] (oH [oM 38 15,oM 39 17,oM 12 38,oM 13 39] .ret)) (oH [oBk 41 .eql 25 3,oM 40 41] (oQ 40 (oH [oM 42 0,oM 43 1,oM 44 2,oM 45 4,oC 46 257 [.t 42,.t 43,.t 44,.t 45,(kI 0)],oEx 47 46 0,oEx 48 46 1,oM 12 47,oM 13 48] .ret) .skip)))))) (oH [oM 49 1,oM 50 2,oIa 51 1 49 50,oLt 52 1 51,oM 53 4,oC 54 70 [.t 52,.t 53],oM 18 54] (oS (oD [[oM 56 0,oM 57 2,oIa 58 6 56 57,oLt 59 6 58,oM 60 1,oM 61 2,oIa 62 1 60 61,oFa 63 0 62,oLf 64 63,oM 65 18,oIa 66 2 64 65,oFa 67 1 66,oLf 68 67,oFa 69 4 9,oLf 70 69],[oC 71 258 [.t 59,.t 68,.t 70]],[oM 55 71],[oEx 72 55 0,oEx 73 55 1,oM 19 72],[oM 20 73]]) (oS (oH [oM 74 20,oUn 75 74] (oQ 75 (oH [oP 12 (.mv (.k (.nils))),oMi 13 8] .ret) .skip)) (oH [oM 76 0,oM 77 1,oM 78 2,oM 79 4,oM 80 19,oM 81 14,oC 82 259 [.t 76,.t 77,.t 78,.t 79,.t 80,.t 81,(kI 0)],oEx 83 82 0,oEx 84 82 1,oM 12 83,oM 13 84] .ret)))))))⟩
theorem jcw:jd Tryz.prog [9] 163=some jiw:=yak9
def wh0:AFn:=⟨17,[.t 2],(oH [oBx 1 0,oMi 2 0] (oH [oFa 4 0 1,oLf 5 4,oLn 6 5,oM 3 6] (oS (oH [oM 7 3,oBk 8 .eql 7 0] (oQ 8 (oH [oMi 2 1] .ret) .skip)) (oH [oFa 9 0 1,oLf 10 9,oM 11 3,oBk 12 .sub 11 1,oIa 13 2 10 12,oFa 14 0 13,oLf 15 14,oBk 16 .add 15 1,oM 2 16] .ret))))⟩
def zu:AFn:=⟨126,[.t 16,.t 17],(oH [oP 16 (.mv (.k (.nils))),oMi 17 0] (oH [oM 29 0,oM 30 1,oM 31 3,oM 32 4,oM 33 5,oM 34 6,oC 35 260 [.t 29,.t 30,.t 31,.t 32,.t 33,.t 34],oM 18 35] (oS (oH [oM 36 18,oLn 37 36,oBk 38 .gtr 37 0,oM 39 38,otm 40 7 39,oT 41 (.bin .eql (.t 40) (kI 6)) 39,oPa 42 39 41] (oQ 42 (oH [oP 16 (.mv (.k (.nils))),oMi 17 6] .ret) .skip)) (oS (oH [oMi 19 0] (.block 0 (.loop (oS (oH [oM 43 19,oM 44 18,oLn 45 44,oBt 46 .lss 43 45] (oQ 46 .skip (.exit 0))) (oS (.block 1 (oH [oM 49 1,oM 50 18,oM 51 19,oIa 52 1 50 51,oLf 53 52,oIa 54 5 49 53,oLt 55 5 54,oP 20 (.alloc [.str [],.int .i64 0,.nils,.str [],.nils]),oSt 5 20 55] (oH [oM 56 0,oFa 57 3 20,oLf 58 57,oC 59 67 [.t 56,.t 58],oM 21 59] (oH [oP 60 (.mksl false 3 0 [.int .i64 0,.int .i64 0,.str []] []),oM 22 60] (oS (oH [oMi 23 0] (.block 2 (.loop (oS (oH [oM 61 23,oFa 62 4 20,oLf 63 62,oLn 64 63,oBt 65 .lss 61 64] (oQ 65 .skip (.exit 2))) (oS (.block 3 (oS (oD [[oFa 69 4 20,oLf 70 69,oM 71 23,oIa 72 1 70 71,oFa 73 0 72,oLf 74 73,oM 75 0,oM 76 3,oIa 77 6 75 76,oLt 78 6 77,oM 79 5,oM 80 6,oC 81 261 [.t 78,.t 79,.t 80],oC 82 254 [.t 74,.t 81],oM 68 82,oEx 83 68 0,oEx 84 68 1,oP 24 (.alloc [.int .i64 0,.int .i64 0,.str []]),oSt 3 24 83],[oM 25 84]]) (oS (oH [oM 85 25,oUn 86 85] (oQ 86 (oH [oP 16 (.mv (.k (.nils))),oMi 17 8] .ret) .skip)) (oG [oM 87 22,oLt 88 3 24,oP 89 (.mksl true 3 1 [.int .i64 0,.int .i64 0,.str []] [(0,(.t 88))]),oP 90 (.app 3 32 (.t 87) (.t 89)),oM 22 90])))) (oG [oM 66 23,oBk 67 .add 66 1,oM 23 67])))))) (oS (oH [oM 91 0,oM 92 21,oIa 93 6 91 92,oLt 94 6 93,oM 95 22,oC 96 160 [.t 94,.t 95],oUn 97 96] (oQ 97 (oH [oP 16 (.mv (.k (.nils))),oMi 17 8] .ret) .skip)) (oH [oM 99 0,oM 100 2,oM 101 21,oM 102 22,oC 103 256 [.t 99,.t 100,.t 101,.t 102,(.k (.bool false))],oM 98 103,oEx 104 98 0,oEx 105 98 1,oEx 106 98 2,oM 26 104,oM 27 105,oM 28 106] (oS (oH [oM 107 28,oBk 108 .neq 107 0] (oQ 108 (oH [oM 109 28,oP 16 (.mv (.k (.nils))),oM 17 109] .ret) .skip)) (oH [oM 111 0,oM 112 1,oM 113 26,oM 114 21,oM 115 22,oM 116 7,oBk 117 .add 116 1,oC 118 165 [.t 111,.t 112,.t 113,.t 114,(kI 1),(.k (.nils)),.t 115,.t 117],oM 110 118,oEx 119 110 0,oEx 120 110 1,oM 26 119,oM 28 120] (oS (oH [oM 121 28,oBk 122 .neq 121 0] (oQ 122 (oH [oM 123 28,oP 16 (.mv (.k (.nils))),oM 17 123] .ret) .skip)) (oG [oM 124 26,oM 2 124]))))))))))) (oG [oM 47 19,oBk 48 .add 47 1,oM 19 48])))))) (oH [oM 125 2,oM 16 125,oMi 17 0] .ret)))))⟩
theorem jcp:jd Tryz.prog [89] 165=some zu:=yak9
def zh1:AFn:=⟨23,[.t 2],(oH [oP 2 (.mv (.k (.nils)))] (oH [oM 5 0,oLn 6 5,oP 7 (.mkslice 6 64 [.str [],.int .i64 0,.bool false,.int .i64 0,.int .i64 0,.str []] (.t 6) (.t 6)),oM 3 7] (oS (oH [oMi 4 0] (.block 0 (.loop (oS (oH [oM 8 4,oM 9 0,oLn 10 9,oBt 11 .lss 8 10] (oQ 11 .skip (.exit 0))) (oS (.block 1 (oG [oM 14 3,oM 15 4,oM 16 0,oM 17 4,oIa 18 6 16 17,oLt 19 6 18,oC 20 262 [.t 19],oIa 21 6 14 15,oSt 6 21 20])) (oG [oM 12 4,oBk 13 .add 12 1,oM 4 13])))))) (oH [oM 22 3,oM 2 22] .ret))))⟩
theorem wfb:jd Tryz.prog [] 166=some zh1:=yak9
def zf0:AFn:=⟨22,[.t 2],(oH [oP 2 (.mv (.k (.nils)))] (oH [oM 5 0,oLn 6 5,oP 7 (.mkslice 1 8 [.int .i64 0] (.t 6) (.t 6)),oM 3 7] (oS (oH [oMi 4 0] (.block 0 (.loop (oS (oH [oM 8 4,oM 9 0,oLn 10 9,oBt 11 .lss 8 10] (oQ 11 .skip (.exit 0))) (oS (.block 1 (oG [oM 14 3,oM 15 4,oM 16 0,oM 17 4,oIa 18 1 16 17,oLf 19 18,oIa 20 1 14 15,oSt 1 20 19])) (oG [oM 12 4,oBk 13 .add 12 1,oM 4 13])))))) (oH [oM 21 3,oM 2 21] .ret))))⟩
theorem wd1:jd Tryz.prog [] 167=some zf0:=yak9
def zfc:AFn:=⟨23,[.t 2],(oH [oP 2 (.mv (.k (.nils)))] (oH [oM 5 0,oLn 6 5,oP 7 (.mkslice 1 24 [.nils] (.t 6) (.t 6)),oM 3 7] (oS (oH [oMi 4 0] (.block 0 (.loop (oS (oH [oM 8 4,oM 9 0,oLn 10 9,oBt 11 .lss 8 10] (oQ 11 .skip (.exit 0))) (oS (.block 1 (oG [oM 14 3,oM 15 4,oM 16 0,oM 17 4,oIa 18 1 16 17,oLt 19 1 18,oC 20 263 [.t 19],oIa 21 1 14 15,oSt 1 21 20])) (oG [oM 12 4,oBk 13 .add 12 1,oM 4 13])))))) (oH [oM 22 3,oM 2 22] .ret))))⟩
theorem jdp:jd Tryz.prog [] 168=some zfc:=yak9
def jf0:AFn:=⟨23,[.t 2],(oH [oP 2 (.mv (.k (.nils)))] (oH [oM 5 0,oLn 6 5,oP 7 (.mkslice 1 24 [.nils] (.t 6) (.t 6)),oM 3 7] (oS (oH [oMi 4 0] (.block 0 (.loop (oS (oH [oM 8 4,oM 9 0,oLn 10 9,oBt 11 .lss 8 10] (oQ 11 .skip (.exit 0))) (oS (.block 1 (oG [oM 14 3,oM 15 4,oM 16 0,oM 17 4,oIa 18 1 16 17,oLt 19 1 18,oC 20 264 [.t 19],oIa 21 1 14 15,oSt 1 21 20])) (oG [oM 12 4,oBk 13 .add 12 1,oM 4 13])))))) (oH [oM 22 3,oM 2 22] .ret))))⟩
theorem zd2:jd Tryz.prog [] 169=some jf0:=yak9
def wiw:AFn:=⟨23,[.t 2],(oH [oP 2 (.mv (.k (.nils)))] (oH [oM 5 0,oLn 6 5,oP 7 (.mkslice 5 64 [.nils,.str [],.int .i64 0,.int .i64 0,.bool false] (.t 6) (.t 6)),oM 3 7] (oS (oH [oMi 4 0] (.block 0 (.loop (oS (oH [oM 8 4,oM 9 0,oLn 10 9,oBt 11 .lss 8 10] (oQ 11 .skip (.exit 0))) (oS (.block 1 (oG [oM 14 3,oM 15 4,oM 16 0,oM 17 4,oIa 18 5 16 17,oLt 19 5 18,oC 20 265 [.t 19],oIa 21 5 14 15,oSt 5 21 20])) (oG [oM 12 4,oBk 13 .add 12 1,oM 4 13])))))) (oH [oM 22 3,oM 2 22] .ret))))⟩
theorem wf0:jd Tryz.prog [] 170=some wiw:=yak9
def wg1:AFn:=⟨23,[.t 2],(oH [oP 2 (.mv (.k (.nils)))] (oH [oM 5 0,oLn 6 5,oP 7 (.mkslice 1 24 [.nils] (.t 6) (.t 6)),oM 3 7] (oS (oH [oMi 4 0] (.block 0 (.loop (oS (oH [oM 8 4,oM 9 0,oLn 10 9,oBt 11 .lss 8 10] (oQ 11 .skip (.exit 0))) (oS (.block 1 (oG [oM 14 3,oM 15 4,oM 16 0,oM 17 4,oIa 18 1 16 17,oLt 19 1 18,oC 20 266 [.t 19],oIa 21 1 14 15,oSt 1 21 20])) (oG [oM 12 4,oBk 13 .add 12 1,oM 4 13])))))) (oH [oM 22 3,oM 2 22] .ret))))⟩
theorem wem:jd Tryz.prog [] 171=some wg1:=yak9
def zix:AFn:=⟨12,[.m 2 true 2],(oH [oBx 1 0,oP 2 (.alloc [.int .i64 0,.nils])] (oH [oP 3 (.alloc [.int .i64 0,.nils])] (oH [oFa 4 0 1,oLf 5 4,oFa 6 0 3,oSt 1 6 5] (oH [oFa 7 1 1,oLf 8 7,oC 9 267 [.t 8],oFa 10 1 3,oSt 1 10 9] (oH [oLt 11 2 3,oSt 2 2 11] .ret)))))⟩
theorem zf1:jd Tryz.prog [1] 172=some zix:=yak9
def jix:AFn:=⟨15,[.m 2 true 5],(oH [oBx 1 0,oP 2 (.alloc [.int .i64 0,.int .i64 0,.int .i64 0,.int .i64 0,.str []])] (oH [oP 3 (.alloc [.int .i64 0,.int .i64 0,.int .i64 0,.int .i64 0,.str []])] (oH [oFa 4 0 1,oLf 5 4,oFa 6 0 3,oSt 1 6 5] (oH [oFa 7 1 1,oLf 8 7,oFa 9 1 3,oSt 1 9 8] (oH [oFa 10 2 1,oLt 11 3 10,oC 12 268 [.t 11],oFa 13 2 3,oSt 3 13 12] (oH [oLt 14 5 3,oSt 5 2 14] .ret))))))⟩
theorem jf1:jd Tryz.prog [1] 173=some jix:=yak9
def wix:AFn:=⟨12,[.m 2 true 2],(oH [oBx 1 0,oP 2 (.alloc [.int .i64 0,.nils])] (oH [oP 3 (.alloc [.int .i64 0,.nils])] (oH [oFa 4 0 1,oLf 5 4,oFa 6 0 3,oSt 1 6 5] (oH [oFa 7 1 1,oLf 8 7,oC 9 77 [.t 8],oFa 10 1 3,oSt 1 10 9] (oH [oLt 11 2 3,oSt 2 2 11] .ret)))))⟩
theorem wf1:jd Tryz.prog [1] 174=some wix:=yak9
def zf2:AFn:=⟨32,[.t 2],(oH [oBx 1 0,oMb 2 false] (oS (oH [oLf 5 1,oLn 6 5,oBk 7 .gtr 6 5] (oQ 7 (oH [oMb 2 false] .ret) .skip)) (oS (oH [oLf 8 1,oLn 9 8,oMi 10 0] (.block 0 (.loop (oH [oBt 11 .lss 10 9] (oS (oQ 11 .skip (.exit 0)) (oS (.block 1 (oH [oM 12 10,oIa 13 6 8 10,oLt 14 6 13,oP 4 (.alloc [.str [],.nils,.nils,.nils,.nils,.nils]),oM 3 12,oSt 6 4 14] (oS (oD [[oLt 15 6 4],[oC 16 269 [.t 15]],[oUn 17 16],[oM 18 17],[ofl 19 1 18,ofm 20 3 18,oF 21 (.slice 6 (.t 19) none (some (.t 20)) none) 18,ofa 22 0 4 18,ofl 23 22 18],[ofc 24 48 [.t 21,.t 23] 18],[oF 25 (.bin .geq (.t 24) (kI 0)) 18],[oPo 26 18 25]]) (oQ 26 (oH [oMb 2 false] .ret) .skip)))) (oG [oBk 27 .add 10 1,oM 10 27]))))))) (oH [oLf 28 1,oP 29 (.mkfn 271 [] [.t 1]),oC 30 270 [.t 28,.t 29],oUn 31 30,oM 2 31] .ret))))⟩
def zg2:AFn:=⟨44,[.t 4],(oH [oBx 2 0,oMb 4 false] (oS (oH [oM 7 1,oLn 8 7,oMi 9 0] (.block 0 (.loop (oH [oBt 10 .lss 9 8] (oS (oQ 10 .skip (.exit 0)) (oS (.block 1 (oH [oM 11 9,oIa 12 2 7 9,oLt 13 2 12,oP 6 (.alloc [.int .i64 0,.nils]),oM 5 11,oSt 2 6 13] (oS (oD [[oFa 14 0 6],[oLf 15 14],[oC 16 177 [.t 15,(kI 1),(kI 1000000000)]],[oUn 17 16],[oM 18 17],[ofm 19 5 18],[oF 20 (.bin .gtr (.t 19) (kI 0)) 18],[ofm 21 20 18],[otm 22 1 21,otm 23 5 21,oT 24 (.bin .sub (.t 23) (kI 1)) 21,oti 25 2 22 24 21,ota 26 0 25 21,otl 27 26 21,ota 28 0 6 21,otl 29 28 21],[oT 30 (.bin .geq (.t 27) (.t 29)) 21],[oF 31 (.pick (.t 21) (.t 30) (.k (.bool false))) 18],[oPo 32 18 31],[oM 33 32],[oF 34 (.load true 6 (.t 2)) 33,ofa 35 1 6 33,ofl 36 35 33],[ofc 37 135 [.t 34,.t 36] 33],[oF 38 (.un .not (.t 37)) 33],[oPo 39 33 38]]) (oQ 39 (oH [oMb 4 false] .ret) .skip)))) (oG [oBk 40 .add 9 1,oM 9 40]))))))) (oH [oM 41 1,oLn 42 41,oBk 43 .leq 42 60,oM 4 43] .ret)))⟩
def zlk:AFn:=⟨15,[.t 6],(oH [oMb 6 false] (oH [oM 7 1,oM 8 0,oBt 9 .leq 7 8,oM 10 9,otm 11 0 10,otm 12 2 10,oT 13 (.bin .leq (.t 11) (.t 12)) 10,oPa 14 10 13,oM 6 14] .ret))⟩
def jd2:AFn:=⟨38,[.t 2],(oH [oBx 1 0,oMb 2 false] (oS (oH [oFa 3 0 1,oLf 4 3] (.block 0 (oH [oBk 6 .eql 4 1,oM 5 6] (oQ 5 (oH [oFa 7 3 1,oLf 8 7,oLn 9 8,oBk 10 .eql 9 0,oM 11 10,ota 12 4 1 11,otl 13 12 11,oT 14 (.len false (.t 13)) 11,oT 15 (.bin .eql (.t 14) (kI 0)) 11,oPa 16 11 15,oM 2 16] .ret) (oH [oBk 18 .eql 4 2,oM 17 18] (oQ 17 (oH [oFa 19 2 1,oLf 20 19,oLn 21 20,oBk 22 .eql 21 0,oM 2 22] .ret) .skip)))))) (oH [oFa 23 0 1,oLf 24 23,oBk 25 .eql 24 3,oM 26 25,ota 27 2 1 26,otl 28 27 26,oT 29 (.len false (.t 28)) 26,oT 30 (.bin .eql (.t 29) (kI 0)) 26,oPa 31 26 30,oM 32 31,ota 33 4 1 32,otl 34 33 32,oT 35 (.len false (.t 34)) 32,oT 36 (.bin .eql (.t 35) (kI 0)) 32,oPa 37 32 36,oM 2 37] .ret)))⟩
def zb4:AFn:=⟨9,[.t 4],(oH [oMb 4 false] (oH [oM 5 0,oM 6 1,oC 7 188 [.t 5,.t 6],oBk 8 .geq 7 0,oM 4 8] .ret))⟩
theorem zbn:jd Tryz.prog [] 179=some zb4:=yak9
def jf2:AFn:=⟨14,[.t 3],(oH [oBx 2 0,oMb 3 false] (oH [oFa 4 0 2,oLf 5 4,oBk 6 .neq 5 0,oM 7 6,oF 8 (.load true 6 (.t 1)) 7,ofa 9 1 2 7,ofl 10 9 7,ofc 11 135 [.t 8,.t 10] 7,oF 12 (.un .not (.t 11)) 7,oPo 13 7 12,oM 3 13] .ret))⟩
def jg2:AFn:=⟨35,[.t 4],(oH [oMb 4 false] (oS (oH [oM 7 0,oLn 8 7,oMi 9 0] (.block 0 (.loop (oH [oBt 10 .lss 9 8] (oS (oQ 10 .skip (.exit 0)) (oS (.block 1 (oH [oM 11 9,oIa 12 2 7 9,oLt 13 2 12,oP 6 (.alloc [.int .i64 0,.nils]),oM 5 11,oSt 2 6 13] (oH [oFa 14 0 6,oLf 15 14,oM 16 1,oBk 17 .sub 16 1,oC 18 177 [.t 15,(kI 0),.t 17],oUn 19 18,oM 20 19,ofa 21 1 6 20,ofl 22 21 20,ofm 23 1 20,ofc 24 239 [.t 22,.t 23] 20,oF 25 (.un .not (.t 24)) 20,oPo 26 20 25,oM 27 26,ofm 28 0 27,ofm 29 5 27,oF 30 (.slice 2 (.t 28) none (some (.t 29)) none) 27,oF 31 (.mkfn 276 [] [.t 6]) 27,ofc 32 275 [.t 30,.t 31] 27,oPo 33 27 32] (oQ 33 (oH [oMb 4 false] .ret) .skip)))) (oG [oBk 34 .add 9 1,oM 9 34]))))))) (oH [oMb 4 true] .ret)))⟩
def wbj:AFn:=⟨9,[.t 4],(oH [oMb 4 false] (oH [oM 5 0,oM 6 1,oC 7 277 [.t 5,.t 6],oBk 8 .geq 7 0,oM 4 8] .ret))⟩
theorem ja8:jd Tryz.prog [] 182=some wbj:=yak9
def wdp:AFn:=⟨8,[.t 3],(oH [oBx 2 0,oMb 3 false] (oH [oLf 4 1,oLt 5 5 2,oC 6 184 [.t 4,.t 5],oUn 7 6,oM 3 7] .ret))⟩
def jfc:AFn:=⟨57,[.t 4],(oH [oBx 3 1,oMb 4 false] (oS (oD [[oM 8 0,oFa 9 0 3,oLf 10 9,oC 11 48 [.t 8,.t 10],oM 12 0,oFa 13 3 3,oLf 14 13],[oC 15 48 [.t 12,.t 14]],[oM 5 11],[oM 6 15]]) (oS (oH [oM 16 5,oBk 17 .lss 16 0,oM 18 17,ofm 19 6 18,oF 20 (.bin .lss (.t 19) (kI 0)) 18,oPo 21 18 20,oM 22 21,ofa 23 1 3 22,ofl 24 23 22,ofc 25 177 [.t 24,(kI 1),(kI 3)] 22,oF 26 (.un .not (.t 25)) 22,oPo 27 22 26] (oQ 27 (oH [oMb 4 false] .ret) .skip)) (oH [oM 28 0,oM 29 5,oIa 30 6 28 29,oFa 31 1 30,oLf 32 31,oLn 33 32,oP 34 (.bin .mul (kI 2) (.t 33)),oM 7 34] (oS (oD [[oFa 35 2 3,oLf 36 35,oM 37 7],[oC 38 142 [.t 36,.t 37]],[oM 39 38],[ota 40 4 3 39,otl 41 40 39,oT 42 (.len false (.t 41)) 39,otm 43 0 39,otm 44 6 39,oti 45 6 43 44 39,ota 46 1 45 39,otl 47 46 39,oT 48 (.len false (.t 47)) 39],[oT 49 (.bin .eql (.t 42) (.t 48)) 39],[oPa 50 39 49],[oM 51 50],[ota 52 4 3 51,otl 53 52 51,otm 54 7 51],[otc 55 278 [.t 53,.t 54] 51],[oPa 56 51 55],[oM 4 56]]) .ret)))))⟩
def wfc:AFn:=⟨67,[.t 8,.t 9],(oH [oBx 4 0,oBx 5 1,oBx 7 3,oP 8 (.mv (.k (.nils))),oMb 9 false] (oH [oLf 19 5,oFa 20 1 4,oLf 21 20,oC 22 48 [.t 19,.t 21],oP 10 (.alloc [.int .i64 0]),oSt 1 10 22] (oH [oFa 23 5 4,oLf 24 23,oBk 25 .eql 24 3,oP 26 (.mksl false 1 0 [.nilf] []),oP 11 (.alloc [.bool false]),oSt 1 11 25,oM 12 26] (oS (oH [oFa 27 0 4,oLf 28 27,oBk 29 .eql 28 1] (oQ 29 (oS (oH [oFa 30 2 4,oLf 31 30,oLn 32 31,oMi 33 0] (.block 0 (.loop (oH [oBt 34 .lss 33 32] (oS (oQ 34 .skip (.exit 0)) (oS (.block 1 (oH [oIa 35 2 31 33,oLt 36 2 35,oP 14 (.alloc [.int .i64 0,.nils]),oSt 2 14 36] (oG [oM 37 12,oP 38 (.mkfn 279 [] [.t 10,.t 14,.t 11,.t 7]),oP 39 (.mksl true 1 1 [.nilf] [(0,(.t 38))]),oP 40 (.app 1 8 (.t 37) (.t 39)),oM 12 40]))) (oG [oBk 41 .add 33 1,oM 33 41]))))))) (oH [oM 42 12,oM 8 42,oMb 9 true] .ret)) .skip)) (oS (oD [[oM 44 2,oLf 45 10,oIa 46 1 44 45,oFa 47 0 46,oLf 48 47,oFa 49 3 4,oLf 50 49],[oC 51 143 [.t 48,.t 50]],[oM 43 51],[oEx 52 43 0,oEx 53 43 1,oM 15 52],[oM 16 53]]) (oS (oH [oM 54 15,oLn 55 54,oMi 56 0] (.block 2 (.loop (oH [oBt 57 .lss 56 55] (oS (oQ 57 .skip (.exit 2)) (oS (.block 3 (oH [oIa 58 1 54 56,oLf 59 58,oP 18 (.alloc [.int .i64 0]),oSt 1 18 59] (oG [oM 60 12,oP 61 (.mkfn 280 [] [.t 10,.t 18,.t 4,.t 5,.t 11,.t 7]),oP 62 (.mksl true 1 1 [.nilf] [(0,(.t 61))]),oP 63 (.app 1 8 (.t 60) (.t 62)),oM 12 63]))) (oG [oBk 64 .add 56 1,oM 56 64]))))))) (oH [oM 65 12,oM 66 16,oM 8 65,oM 9 66] .ret)))))))⟩
theorem wbs:jd Tryz.prog [4,5,7,39,62] 185=some wfc:=yak9
def wf2:AFn:=⟨41,[.t 2],(oH [oP 2 (.mv (.k (.nils)))] (oH [oP 9 (.mksl false 1 0 [.nils] []),oM 3 9] (oS (oH [oM 10 0,oLn 11 10,oMi 12 0] (.block 0 (.loop (oH [oBt 13 .lss 12 11] (oS (oQ 13 .skip (.exit 0)) (oS (.block 1 (oH [oIa 14 1 10 12,oLt 15 1 14,oP 5 (.alloc [.nils]),oSt 1 5 15] (oH [oP 16 (.mksl false 2 0 [.int .i64 0,.nils] []),oM 6 16] (oS (oH [oFa 17 0 5,oLf 18 17,oLn 19 18,oMi 20 0] (.block 2 (.loop (oH [oBt 21 .lss 20 19] (oS (oQ 21 .skip (.exit 2)) (oS (.block 3 (oH [oIa 22 2 18 20,oLt 23 2 22,oP 8 (.alloc [.int .i64 0,.nils]),oSt 2 8 23] (oD [[oM 24 6,oFa 25 0 8,oLf 26 25,oFa 27 1 8,oLf 28 27,oC 29 85 [.t 28],oP 30 (.build [.int .i64 0,.nils] [(0,1,(.t 26)),(1,1,(.t 29))]),oP 31 (.mksl true 2 1 [.int .i64 0,.nils] [(0,(.t 30))])],[oP 32 (.app 2 32 (.t 24) (.t 31))],[oM 6 32]]))) (oG [oBk 33 .add 20 1,oM 20 33]))))))) (oG [oM 34 3,oM 35 6,oP 36 (.build [.nils] [(0,1,(.t 35))]),oP 37 (.mksl true 1 1 [.nils] [(0,(.t 36))]),oP 38 (.app 1 24 (.t 34) (.t 37)),oM 3 38]))))) (oG [oBk 39 .add 12 1,oM 12 39]))))))) (oH [oM 40 3,oM 2 40] .ret))))⟩
theorem wd2:jd Tryz.prog [31,37] 186=some wf2:=yak9
def zd3:AFn:=⟨20,[.t 4],(oH [oBx 2 0,oMb 4 false] (oH [oFa 5 5 2,oLf 6 5,oBk 7 .eql 6 2,oM 8 7,otm 9 1 8,oT 10 (.bin .eql (.t 9) (kI 2)) 8,otm 11 10 8,ofm 12 1 11,oF 13 (.bin .eql (.t 12) (kI 3)) 11,oT 14 (.pick (.t 11) (.k (.bool true)) (.t 13)) 8,otm 15 14 8,ofm 16 1 15,oF 17 (.bin .eql (.t 16) (kI 4)) 15,oT 18 (.pick (.t 15) (.k (.bool true)) (.t 17)) 8,oPa 19 8 18,oM 4 19] .ret))⟩
def wcr:AFn:=⟨19,[.t 4],(oH [oMi 4 0] (oS (oH [oM 6 0,oLn 7 6,oMi 8 0] (.block 0 (.loop (oH [oBt 9 .lss 8 7] (oS (oQ 9 .skip (.exit 0)) (oS (.block 1 (oH [oM 10 8,oM 5 10] (oH [oM 11 1,oM 12 0,oM 13 5,oIa 14 2 12 13,oLt 15 2 14,⟨some 16,.call (.t 11) [.t 15],none⟩] (oQ 16 (oH [oM 17 5,oM 4 17] .ret) .skip)))) (oG [oBk 18 .add 8 1,oM 8 18]))))))) (oH [oMi 4 (-1)] .ret)))⟩
theorem zag:jd Tryz.prog [] 188=some wcr:=yak9
def wcw:AFn:=⟨8,[.t 3],(oH [oBx 2 0,oMb 3 false] (oH [oFa 4 0 2,oLf 5 4,oLf 6 1,oBt 7 .eql 5 6,oM 3 7] .ret))⟩
def ziy:AFn:=⟨67,[.t 12],(oH [oP 12 (.mv (.k (.nils)))] (oH [oP 17 (.mksl false 1 0 [.int .i64 0] []),oM 18 0,oM 19 2,oIa 20 6 18 19,oFa 21 1 20,oLf 22 21,oLn 23 22,oM 24 4,oM 25 5,oC 26 191 [.t 23,.t 24,.t 25],oM 13 17,oM 14 26] (oS (oH [oM 27 1,oLn 28 27,oMi 29 0] (.block 0 (.loop (oH [oBt 30 .lss 29 28] (oS (oQ 30 .skip (.exit 0)) (oS (.block 1 (oH [oM 31 29,oIa 32 5 27 29,oLt 33 5 32,oP 16 (.alloc [.str [],.int .i64 0,.nils,.str [],.nils]),oM 15 31,oSt 5 16 33] (oS (oD [[oFa 34 0 16,oLf 35 34,oM 36 0,oM 37 2,oIa 38 6 36 37,oFa 39 0 38,oLf 40 39],[oBt 41 .eql 35 40],[oM 42 41],[ota 43 1 16 42,otl 44 43 42,otm 45 3 42],[oT 46 (.bin .eql (.t 44) (.t 45)) 42],[oPa 47 42 46],[oM 48 47],[ota 49 2 16 48],[otl 50 49 48],[oT 51 (.len false (.t 50)) 48],[oT 52 (.bin .eql (.t 51) (kI 0)) 48],[otm 53 52 48],[ofa 54 2 16 53,ofl 55 54 53,ofm 56 14 53],[ofc 57 56 [.t 55,.t 56] 53],[oF 58 (.bin .eql (.t 57) (kI 1)) 53],[oT 59 (.pick (.t 53) (.k (.bool true)) (.t 58)) 48],[oPa 60 48 59]]) (oQ 60 (oG [oM 61 13,oM 62 15,oP 63 (.mksl true 1 1 [.int .i64 0] [(0,(.t 62))]),oP 64 (.app 1 8 (.t 61) (.t 63)),oM 13 64]) .skip)))) (oG [oBk 65 .add 29 1,oM 29 65]))))))) (oH [oM 66 13,oM 12 66] .ret))))⟩
theorem zf3:jd Tryz.prog [63] 190=some ziy:=yak9
def wjv:AFn:=⟨27,[.t 6],(oH [oP 6 (.mv (.k (.nils)))] (oH [oP 10 (.mksl false 3 0 [.int .i64 0,.int .i64 0,.str []] []),oM 7 10] (oS (oH [oM 11 1,oM 12 2,oP 13 (.build [.nils,.nils] [(0,1,(.t 11)),(1,1,(.t 12))]),oMi 14 0] (.block 0 (.loop (oH [oBk 15 .lss 14 2] (oS (oQ 15 .skip (.exit 0)) (oS (.block 1 (oH [oP 16 (.idxa false 2 1 (.t 13) (.t 14)),oM 9 16] (oS (oH [oM 17 9,oLn 18 17,oBk 19 .eql 18 0] (oQ 19 (oG [oM 20 0,oP 21 (.mkslice 3 32 [.int .i64 0,.int .i64 0,.str []] (.t 20) (.t 20)),oM 9 21]) .skip)) (oG [oM 22 7,oM 23 9,oP 24 (.app 3 32 (.t 22) (.t 23)),oM 7 24])))) (oG [oBk 25 .add 14 1,oM 14 25]))))))) (oH [oM 26 7,oM 6 26] .ret))))⟩
def jh1:AFn:=⟨27,[.t 4],(oH [oMb 4 false] (oS (oH [oM 6 0,oLn 7 6,oM 8 1,oLn 9 8,oBt 10 .neq 7 9] (oQ 10 (oH [oMb 4 false] .ret) .skip)) (oS (oH [oMi 5 0] (.block 0 (.loop (oS (oH [oM 11 5,oM 12 0,oLn 13 12,oBt 14 .lss 11 13] (oQ 14 .skip (.exit 0))) (oS (.block 1 (oS (oD [[oM 17 0,oM 18 5,oIa 19 6 17 18,oLt 20 6 19,oM 21 1,oM 22 5,oIa 23 6 21 22,oLt 24 6 23],[oC 25 284 [.t 20,.t 24]],[oUn 26 25]]) (oQ 26 (oH [oMb 4 false] .ret) .skip))) (oG [oM 15 5,oBk 16 .add 15 1,oM 5 16])))))) (oH [oMb 4 true] .ret))))⟩
theorem zfd:jd Tryz.prog [] 192=some jh1:=yak9
def jf3:AFn:=⟨26,[.t 4],(oH [oMb 4 false] (oS (oH [oM 6 0,oLn 7 6,oM 8 1,oLn 9 8,oBt 10 .neq 7 9] (oQ 10 (oH [oMb 4 false] .ret) .skip)) (oS (oH [oMi 5 0] (.block 0 (.loop (oS (oH [oM 11 5,oM 12 0,oLn 13 12,oBt 14 .lss 11 13] (oQ 14 .skip (.exit 0))) (oS (.block 1 (oS (oD [[oM 17 0,oM 18 5,oIa 19 1 17 18,oLf 20 19,oM 21 1,oM 22 5,oIa 23 1 21 22,oLf 24 23],[oBt 25 .neq 20 24]]) (oQ 25 (oH [oMb 4 false] .ret) .skip))) (oG [oM 15 5,oBk 16 .add 15 1,oM 5 16])))))) (oH [oMb 4 true] .ret))))⟩
def jfd:AFn:=⟨27,[.t 4],(oH [oMb 4 false] (oS (oH [oM 6 0,oLn 7 6,oM 8 1,oLn 9 8,oBt 10 .neq 7 9] (oQ 10 (oH [oMb 4 false] .ret) .skip)) (oS (oH [oMi 5 0] (.block 0 (.loop (oS (oH [oM 11 5,oM 12 0,oLn 13 12,oBt 14 .lss 11 13] (oQ 14 .skip (.exit 0))) (oS (.block 1 (oS (oD [[oM 17 0,oM 18 5,oIa 19 1 17 18,oLt 20 1 19,oM 21 1,oM 22 5,oIa 23 1 21 22,oLt 24 1 23],[oC 25 285 [.t 20,.t 24]],[oUn 26 25]]) (oQ 26 (oH [oMb 4 false] .ret) .skip))) (oG [oM 15 5,oBk 16 .add 15 1,oM 5 16])))))) (oH [oMb 4 true] .ret))))⟩
theorem zdq:jd Tryz.prog [] 194=some jfd:=yak9
def wf3:AFn:=⟨27,[.t 4],(oH [oMb 4 false] (oS (oH [oM 6 0,oLn 7 6,oM 8 1,oLn 9 8,oBt 10 .neq 7 9] (oQ 10 (oH [oMb 4 false] .ret) .skip)) (oS (oH [oMi 5 0] (.block 0 (.loop (oS (oH [oM 11 5,oM 12 0,oLn 13 12,oBt 14 .lss 11 13] (oQ 14 .skip (.exit 0))) (oS (.block 1 (oS (oD [[oM 17 0,oM 18 5,oIa 19 1 17 18,oLt 20 1 19,oM 21 1,oM 22 5,oIa 23 1 21 22,oLt 24 1 23],[oC 25 286 [.t 20,.t 24]],[oUn 26 25]]) (oQ 26 (oH [oMb 4 false] .ret) .skip))) (oG [oM 15 5,oBk 16 .add 15 1,oM 5 16])))))) (oH [oMb 4 true] .ret))))⟩
theorem jd3:jd Tryz.prog [] 195=some wf3:=yak9
def jiy:AFn:=⟨27,[.t 4],(oH [oMb 4 false] (oS (oH [oM 6 0,oLn 7 6,oM 8 1,oLn 9 8,oBt 10 .neq 7 9] (oQ 10 (oH [oMb 4 false] .ret) .skip)) (oS (oH [oMi 5 0] (.block 0 (.loop (oS (oH [oM 11 5,oM 12 0,oLn 13 12,oBt 14 .lss 11 13] (oQ 14 .skip (.exit 0))) (oS (.block 1 (oS (oD [[oM 17 0,oM 18 5,oIa 19 5 17 18,oLt 20 5 19,oM 21 1,oM 22 5,oIa 23 5 21 22,oLt 24 5 23],[oC 25 287 [.t 20,.t 24]],[oUn 26 25]]) (oQ 26 (oH [oMb 4 false] .ret) .skip))) (oG [oM 15 5,oBk 16 .add 15 1,oM 5 16])))))) (oH [oMb 4 true] .ret))))⟩
theorem zf4:jd Tryz.prog [] 196=some jiy:=yak9
def wg2:AFn:=⟨27,[.t 4],(oH [oMb 4 false] (oS (oH [oM 6 0,oLn 7 6,oM 8 1,oLn 9 8,oBt 10 .neq 7 9] (oQ 10 (oH [oMb 4 false] .ret) .skip)) (oS (oH [oMi 5 0] (.block 0 (.loop (oS (oH [oM 11 5,oM 12 0,oLn 13 12,oBt 14 .lss 11 13] (oQ 14 .skip (.exit 0))) (oS (.block 1 (oS (oD [[oM 17 0,oM 18 5,oIa 19 1 17 18,oLt 20 1 19,oM 21 1,oM 22 5,oIa 23 1 21 22,oLt 24 1 23],[oC 25 288 [.t 20,.t 24]],[oUn 26 25]]) (oQ 26 (oH [oMb 4 false] .ret) .skip))) (oG [oM 15 5,oBk 16 .add 15 1,oM 5 16])))))) (oH [oMb 4 true] .ret))))⟩
theorem zen:jd Tryz.prog [] 197=some wg2:=yak9
def wiy:AFn:=⟨16,[.t 4],(oH [oBx 2 0,oBx 3 1,oMb 4 false] (oS (oH [oFa 5 0 2,oLf 6 5,oFa 7 0 3,oLf 8 7,oBt 9 .neq 6 8] (oQ 9 (oH [oMb 4 false] .ret) .skip)) (oS (oH [oFa 10 1 2,oLf 11 10,oFa 12 1 3,oLf 13 12,oC 14 289 [.t 11,.t 13],oUn 15 14] (oQ 15 (oH [oMb 4 false] .ret) .skip)) (oH [oMb 4 true] .ret))))⟩
def ziz:AFn:=⟨21,[.t 4],(oH [oBx 2 0,oBx 3 1,oMb 4 false] (oS (oH [oFa 5 0 2,oLf 6 5,oFa 7 0 3,oLf 8 7,oBt 9 .neq 6 8] (oQ 9 (oH [oMb 4 false] .ret) .skip)) (oS (oH [oFa 10 1 2,oLf 11 10,oFa 12 1 3,oLf 13 12,oBt 14 .neq 11 13] (oQ 14 (oH [oMb 4 false] .ret) .skip)) (oS (oH [oFa 15 2 2,oLt 16 3 15,oFa 17 2 3,oLt 18 3 17,oC 19 290 [.t 16,.t 18],oUn 20 19] (oQ 20 (oH [oMb 4 false] .ret) .skip)) (oH [oMb 4 true] .ret)))))⟩
def jiz:AFn:=⟨16,[.t 4],(oH [oBx 2 0,oBx 3 1,oMb 4 false] (oS (oH [oFa 5 0 2,oLf 6 5,oFa 7 0 3,oLf 8 7,oBt 9 .neq 6 8] (oQ 9 (oH [oMb 4 false] .ret) .skip)) (oS (oH [oFa 10 1 2,oLf 11 10,oFa 12 1 3,oLf 13 12,oC 14 91 [.t 11,.t 13],oUn 15 14] (oQ 15 (oH [oMb 4 false] .ret) .skip)) (oH [oMb 4 true] .ret))))⟩
def jf4:AFn:=⟨35,[.t 4],(oH [oMi 4 0] (oS (oH [oMi 5 0] (.block 0 (.loop (oS (oH [oM 6 5,oM 7 0,oLn 8 7,oBt 9 .lss 6 8] (oQ 9 .skip (.exit 0))) (oS (.block 1 (oH [oM 12 0,oM 13 5,oM 14 1,oIa 15 3 12 13,oFa 16 0 15,oSt 1 16 14] (oH [oM 17 1,oBk 18 .add 17 1,oM 1 18] (oH [oM 19 0,oM 20 5,oM 21 1,oIa 22 3 19 20,oFa 23 1 22,oSt 1 23 21] (oH [oM 24 1,oBk 25 .add 24 1,oM 1 25] (oH [oM 26 0,oM 27 5,oM 28 1,oC 29 93 [.t 28],oIa 30 3 26 27,oFa 31 2 30,oSt 1 31 29] (oG [oM 32 1,oBk 33 .add 32 1,oM 1 33]))))))) (oG [oM 10 5,oBk 11 .add 10 1,oM 5 11])))))) (oH [oM 34 1,oM 4 34] .ret)))⟩
theorem wd3:jd Tryz.prog [] 201=some jf4:=yak9
def wf4:AFn:=⟨41,[.t 4],(oH [oMi 4 0] (oS (oH [oMi 5 0] (.block 0 (.loop (oS (oH [oM 6 5,oM 7 0,oLn 8 7,oBt 9 .lss 6 8] (oQ 9 .skip (.exit 0))) (oS (.block 1 (oS (oH [oM 12 0,oM 13 5,oIa 14 3 12 13,oFa 15 0 14,oLf 16 15,oM 17 1,oBt 18 .neq 16 17] (oQ 18 (oH [oMi 4 (-1)] .ret) .skip)) (oH [oM 19 1,oBk 20 .add 19 1,oM 1 20] (oS (oH [oM 21 0,oM 22 5,oIa 23 3 21 22,oFa 24 1 23,oLf 25 24,oM 26 1,oBt 27 .neq 25 26] (oQ 27 (oH [oMi 4 (-1)] .ret) .skip)) (oH [oM 28 1,oBk 29 .add 28 1,oM 1 29] (oS (oS (oD [[oM 30 0,oM 31 5,oIa 32 3 30 31,oFa 33 2 32,oLf 34 33,oM 35 1,oC 36 93 [.t 35]],[oBt 37 .neq 34 36]]) (oQ 37 (oH [oMi 4 (-1)] .ret) .skip)) (oG [oM 38 1,oBk 39 .add 38 1,oM 1 39]))))))) (oG [oM 10 5,oBk 11 .add 10 1,oM 5 11])))))) (oH [oM 40 1,oM 4 40] .ret)))⟩
def zh2:AFn:=⟨23,[.t 2],(oH [oMb 2 false] (oS (oH [oMi 3 0] (.block 0 (.loop (oS (oH [oM 4 3,oM 5 0,oP 6 (.len true (.t 5)),oBt 7 .lss 4 6] (oQ 7 .skip (.exit 0))) (oS (.block 1 (oH [oM 10 0,oM 11 3,oP 12 (.idx (.t 10) (.t 11)),oP 13 (.bin .lss (.t 12) (.k (.int .u8 97))),oM 14 13,ofm 15 0 14,ofm 16 3 14,oF 17 (.idx (.t 15) (.t 16)) 14,oF 18 (.bin .gtr (.t 17) (.k (.int .u8 122))) 14,oPo 19 14 18] (oQ 19 (oH [oMb 2 false] .ret) .skip))) (oG [oM 8 3,oBk 9 .add 8 1,oM 3 9])))))) (oH [oM 20 0,oP 21 (.len true (.t 20)),oC 22 72 [.t 21,(kI 1),(kI 8)],oM 2 22] .ret)))⟩
def zg3:AFn:=⟨26,[.t 4],(oH [oBx 2 0,oMb 4 false] (oS (oH [oM 7 1,oLn 8 7,oMi 9 0] (.block 0 (.loop (oH [oBt 10 .lss 9 8] (oS (oQ 10 .skip (.exit 0)) (oS (.block 1 (oH [oM 11 9,oIa 12 3 7 9,oLt 13 3 12,oP 6 (.alloc [.int .i64 0,.int .i64 0,.str []]),oM 5 11,oSt 3 6 13] (oH [oFa 14 1 2,oLf 15 14,oM 16 5,oIa 17 6 15 16,oFa 18 2 17,oLf 19 18,oM 20 19,ota 21 0 6 20,otl 22 21 20,oT 23 (.bin .eql (.t 22) (kI 0)) 20,oPa 24 20 23] (oQ 24 (oH [oMb 4 true] .ret) .skip)))) (oG [oBk 25 .add 9 1,oM 9 25]))))))) (oH [oMb 4 false] .ret)))⟩
def wfd:AFn:=⟨10,[.t 4],(oH [oBx 2 0,oBx 3 1,oMb 4 false] (oH [oFa 5 4 2,oLf 6 5,oP 7 (.mkfn 294 [] [.t 3]),oC 8 293 [.t 6,.t 7],oUn 9 8,oM 4 9] .ret))⟩
def jh2:AFn:=⟨54,[.t 8],(oH [oBx 4 0,oBx 7 3,oP 8 (.mv (.k (.nils)))] (oH [oP 15 (.mksl false 1 0 [.int .i64 0] []),oM 9 15] (oH [oFa 16 2 4,oLf 17 16,oP 18 (.mksl false 1 1 [.nils] [(0,(.t 17))]),oM 10 18] (oS (oH [oFa 19 3 4,oLf 20 19,oLn 21 20,oMi 22 0] (.block 0 (.loop (oH [oBt 23 .lss 22 21] (oS (oQ 23 .skip (.exit 0)) (oS (.block 1 (oH [oIa 24 1 20 22,oLt 25 1 24,oP 12 (.alloc [.nils]),oSt 1 12 25] (oG [oM 26 10,oFa 27 0 12,oLf 28 27,oP 29 (.mksl true 1 1 [.nils] [(0,(.t 28))]),oP 30 (.app 1 24 (.t 26) (.t 29)),oM 10 30]))) (oG [oBk 31 .add 22 1,oM 22 31]))))))) (oS (oH [oM 32 1,oLn 33 32,oMi 34 0] (.block 2 (.loop (oH [oBt 35 .lss 34 33] (oS (oQ 35 .skip (.exit 2)) (oS (.block 3 (oH [oIa 36 2 32 34,oLt 37 2 36,oP 14 (.alloc [.int .i64 0,.nils]),oSt 2 14 37] (oH [oFa 38 0 14,oLf 39 38,oM 40 2,oBt 41 .neq 39 40,oM 42 41,otm 43 10 42,oT 44 (.mkfn 296 [] [.t 7,.t 14]) 42,otc 45 295 [.t 43,.t 44] 42,oPa 46 42 45] (oQ 46 (oG [oM 47 9,oFa 48 0 14,oLf 49 48,oP 50 (.mksl true 1 1 [.int .i64 0] [(0,(.t 49))]),oP 51 (.app 1 8 (.t 47) (.t 50)),oM 9 51]) .skip)))) (oG [oBk 52 .add 34 1,oM 34 52]))))))) (oH [oM 53 9,oM 8 53] .ret))))))⟩
theorem zfe:jd Tryz.prog [4,7,29,50] 222=some jh2:=yak9
def jfe:AFn:=⟨15,[.t 10],(oH [oBx 5 0,oBx 6 1,oBx 7 2,oBx 8 3,oBx 9 4,oMb 10 false] (oH [oFa 11 5 7,oLf 12 11,oP 13 (.mkfn 299 [] [.t 9,.t 5,.t 6,.t 8]),oC 14 272 [.t 12,.t 13],oM 10 14] .ret))⟩
def wiz:AFn:=⟨5,[.m 2 true 3],(oH [oP 2 (.alloc [.int .i64 0,.int .i64 0,.str []])] (oH [oM 3 0,oP 4 (.build [.int .i64 0,.int .i64 0,.str []] [(0,1,(kI 1)),(1,1,(.t 3))]),oSt 3 2 4] .ret))⟩
def zjw:AFn:=⟨18,[.t 4],(oH [oBx 2 0,oMb 4 false] (oH [oLt 5 3 2,oC 6 305 [.t 5],oM 7 6,ota 8 0 2 7,otl 9 8 7,oT 10 (.bin .eql (.t 9) (kI 0)) 7,otm 11 10 7,ofa 12 0 2 11,ofl 13 12 11,ofm 14 1 11,oF 15 (.bin .eql (.t 13) (.t 14)) 11,oT 16 (.pick (.t 11) (.k (.bool true)) (.t 15)) 7,oPa 17 7 16,oM 4 17] .ret))⟩
def zh3:AFn:=⟨39,[.t 4],(oH [oBx 2 0,oP 4 (.mv (.k (.nils)))] (oH [oM 8 1,oC 9 85 [.t 8],oM 5 9] (oS (oH [oM 10 5,oLn 11 10,oMi 12 0] (.block 0 (.loop (oH [oBt 13 .lss 12 11] (oS (oQ 13 .skip (.exit 0)) (oS (.block 1 (oH [oM 14 12,oIa 15 3 10 12,oLt 16 3 15,oP 7 (.alloc [.int .i64 0,.int .i64 0,.str []]),oM 6 14,oSt 3 7 16] (oH [oFa 17 0 7,oLf 18 17,oBk 19 .eql 18 0,oM 20 19,ota 21 1 2 20,otl 22 21 20,otm 23 6 20,oti 24 6 22 23 20,ota 25 2 24 20,otl 26 25 20,oPa 27 20 26] (oQ 27 (oG [oM 28 5,oM 29 6,oFa 30 1 2,oLf 31 30,oM 32 6,oIa 33 6 31 32,oFa 34 3 33,oLt 35 3 34,oIa 36 3 28 29,oSt 3 36 35]) .skip)))) (oG [oBk 37 .add 12 1,oM 12 37]))))))) (oH [oM 38 5,oM 4 38] .ret))))⟩
theorem wfe:jd Tryz.prog [2] 234=some zh3:=yak9
def jg3:AFn:=⟨14,[.t 4],(oH [oBx 2 0,oMi 4 0] (oS (.block 0 (oH [oLt 6 6 2,oM 7 1,oC 8 220 [.t 6,.t 7],oM 5 8] (oQ 5 (oH [oMi 4 2] .ret) (oH [oLt 10 6 2,oM 11 1,oC 12 221 [.t 10,.t 11],oUn 13 12,oM 9 13] (oQ 9 (oH [oMi 4 3] .ret) .skip))))) (oH [oMi 4 0] .ret)))⟩
def jdq:AFn:=⟨25,[.t 4],(oH [oMi 4 0] (oH [oM 6 0,oNc 7 6,oFa 8 1 7,oLf 9 8,oM 10 1,oIa 11 1 9 10,oFa 12 0 11,oLf 13 12,oM 5 13] (oS (oH [oM 14 5,oLn 15 14,oBk 16 .eql 15 0] (oQ 16 (oH [oMi 4 1] .ret) .skip)) (oH [oM 17 5,oM 18 5,oLn 19 18,oBk 20 .sub 19 1,oIa 21 2 17 20,oFa 22 0 21,oLf 23 22,oBk 24 .add 23 1,oM 4 24] .ret))))⟩
theorem zcs:jd Tryz.prog [] 236=some jdq:=yak9
def jdg:AFn:=⟨63,[.t 12],(oH [oMi 12 0] (oS (oD [[oM 17 0,oNc 18 17,oFa 19 0 18,oLf 20 19,oM 21 1,oIa 22 6 20 21,oLt 23 6 22,oM 24 0,oNc 25 24,oFa 26 1 25,oLf 27 26,oM 28 1,oIa 29 1 27 28,oFa 30 0 29,oLf 31 30,oM 32 2,oM 33 3],[oC 34 222 [.t 23,.t 31,.t 32,.t 33]],[oM 13 34]]) (oS (oH [oM 35 13,oLn 36 35,oBk 37 .gtr 36 0,oM 38 37,otm 39 4 38,oT 40 (.un .not (.t 39)) 38,oPa 41 38 40] (oQ 41 (oH [oMi 12 4] .ret) .skip)) (oS (oH [oM 42 13,oLn 43 42,oMi 44 0] (.block 0 (.loop (oH [oBt 45 .lss 44 43] (oS (oQ 45 .skip (.exit 0)) (oS (.block 1 (oH [oIa 46 1 42 44,oLf 47 46,oM 15 47] (oS (oH [oM 48 0,oM 49 1,oM 50 15,oC 51 84 [.t 48,.t 49,.t 50],oP 52 (.eq false false [.pt] (.t 51) (.k (.nilp)))] (oQ 52 (.exit 1) .skip)) (oH [oM 53 0,oM 54 1,oM 55 15,oM 56 5,oBk 57 .add 56 1,oC 58 281 [.t 53,.t 54,.t 55,.t 57],oM 16 58] (oH [oM 59 16,oBk 60 .neq 59 0] (oQ 60 (oH [oM 61 16,oM 12 61] .ret) .skip)))))) (oG [oBk 62 .add 44 1,oM 44 62]))))))) (oH [oMi 12 0] .ret)))))⟩
theorem zcg:jd Tryz.prog [] 237=some jdg:=yak9
def jh3:AFn:=⟨40,[.t 4],(oH [oMb 4 false] (oS (oH [oM 8 0,oLn 9 8,oBk 10 .gtr 9 24,oM 11 10,ofm 12 1 11,ofc 13 177 [.t 12,(kI 0),(kI 16)] 11,oF 14 (.un .not (.t 13)) 11,oPo 15 11 14] (oQ 15 (oH [oMb 4 false] .ret) .skip)) (oH [oMi 5 0] (oS (oH [oM 16 0,oLn 17 16,oMi 18 0] (.block 0 (.loop (oH [oBt 19 .lss 18 17] (oS (oQ 19 .skip (.exit 0)) (oS (.block 1 (oH [oIa 20 5 16 18,oLt 21 5 20,oP 7 (.alloc [.int .i64 0,.int .i64 0,.int .i64 0,.int .i64 0,.str []]),oSt 5 7 21] (oS (oH [oLt 22 5 7,oM 23 1,oC 24 306 [.t 22,.t 23],oUn 25 24,oM 26 25,ofm 27 5 26,oF 28 (.load true 5 (.t 7)) 26,ofc 29 242 [.t 28] 26,oF 30 (.bin .lss (.t 27) (.t 29)) 26,oPo 31 26 30] (oQ 31 (oH [oMb 4 false] .ret) .skip)) (oG [oM 32 5,oLt 33 5 7,oC 34 242 [.t 33],oP 35 (.bin .sub (kI 1) (.t 34)),oBt 36 .add 32 35,oM 5 36])))) (oG [oBk 37 .add 18 1,oM 18 37]))))))) (oH [oM 38 5,oBk 39 .eql 38 1,oM 4 39] .ret)))))⟩
def wg3:AFn:=⟨48,[.t 4],(oH [oBx 2 0,oMi 4 0] (oS (oH [oFa 5 0 2,oLf 6 5,oBk 7 .neq 6 1,oM 8 7,ota 9 1 2 8,otl 10 9 8,oT 11 (.bin .neq (.t 10) (kI 0)) 8,oPa 12 8 11,oM 13 12,ofa 14 0 2 13,ofl 15 14 13,oF 16 (.bin .neq (.t 15) (kI 2)) 13,ofm 17 16 13,ota 18 2 2 17,oT 19 (.load true 3 (.t 18)) 17,oT 20 (.build [.int .i64 0,.int .i64 0,.str []] []) 17,oT 21 (.eq true true [.i,.i,.s] (.t 19) (.t 20)) 17,oF 22 (.pick (.t 17) (.t 21) (.k (.bool false))) 13,oPo 23 13 22] (oQ 23 (oH [oMi 4 (-1)] .ret) .skip)) (oS (oH [oFa 24 0 2,oLf 25 24] (.block 0 (oH [oBk 27 .eql 25 1,oM 26 27] (oQ 26 (oH [oFa 28 1 2,oLf 29 28,oM 30 1,oBk 31 .sub 30 1,oC 32 72 [.t 29,(kI 0),.t 31]] (oQ 32 (oH [oMi 4 0] .ret) .skip)) (oH [oBk 34 .eql 25 2,oM 33 34] (oQ 33 (oH [oFa 35 2 2,oLt 36 3 35,oC 37 253 [.t 36]] (oQ 37 (oH [oMi 4 0] .ret) .skip)) (oS (oH [oBk 39 .eql 25 7,oM 38 39] (oQ 38 .skip (oG [oBk 40 .eql 25 8,oM 38 40]))) (oQ 38 (oH [oMi 4 1] .ret) (oS (oH [oBk 42 .eql 25 3,oM 41 42] (oQ 41 .skip (oH [oBk 43 .eql 25 4,oM 41 43] (oQ 41 .skip (oH [oBk 44 .eql 25 5,oM 41 44] (oQ 41 .skip (oH [oBk 45 .eql 25 6,oM 41 45] (oQ 41 .skip (oH [oBk 46 .eql 25 9,oM 41 46] (oQ 41 .skip (oG [oBk 47 .eql 25 10,oM 41 47]))))))))))) (oQ 41 (oH [oMi 4 2] .ret) .skip)))))))))) (oH [oMi 4 (-1)] .ret))))⟩
def zg4:AFn:=⟨23,[.t 4],(oH [oMb 4 false] (oS (oH [oM 7 0,oLn 8 7,oMi 9 0] (.block 0 (.loop (oH [oBt 10 .lss 9 8] (oS (oQ 10 .skip (.exit 0)) (oS (.block 1 (oH [oM 11 9,oIa 12 3 7 9,oLt 13 3 12,oP 6 (.alloc [.int .i64 0,.int .i64 0,.str []]),oM 5 11,oSt 3 6 13] (oH [oM 14 5,oM 15 1,oBt 16 .eql 14 15,oM 17 16,oF 18 (.load true 3 (.t 6)) 17,ofc 19 305 [.t 18] 17,oF 20 (.un .not (.t 19)) 17,oPo 21 17 20] (oQ 21 (oH [oMb 4 false] .ret) .skip)))) (oG [oBk 22 .add 9 1,oM 9 22]))))))) (oH [oMb 4 true] .ret)))⟩
def zff:AFn:=⟨11,[.t 2],(oH [oBx 1 0,oMi 2 0] (oS (oH [oFa 3 0 1,oLf 4 3] (.block 0 (oS (oH [oBk 6 .eql 4 1,oM 5 6] (oQ 5 .skip (oG [oBk 7 .eql 4 2,oM 5 7]))) (oQ 5 (oH [oMi 2 0] .ret) (oS (oH [oBk 9 .eql 4 7,oM 8 9] (oQ 8 .skip (oG [oBk 10 .eql 4 8,oM 8 10]))) (oQ 8 (oH [oMi 2 1] .ret) .skip)))))) (oH [oMi 2 2] .ret)))⟩
def jff:AFn:=⟨114,[.m 6 true 3,.t 7],(oH [oBx 3 0,oP 6 (.alloc [.int .i64 0,.int .i64 0,.str []]),oMb 7 false] (oS (oH [oFa 8 0 3,oLf 9 8] (.block 0 (oH [oBk 11 .eql 9 1,oM 10 11] (oQ 10 (oH [oM 12 2,oFa 13 1 3,oLf 14 13,oIa 15 3 12 14,oLt 16 3 15,oSt 3 6 16,oMb 7 true] .ret) (oH [oBk 18 .eql 9 2,oM 17 18] (oQ 17 (oH [oFa 19 2 3,oLt 20 3 19,oSt 3 6 20,oMb 7 true] .ret) (oH [oBk 22 .eql 9 3,oM 21 22] (oQ 21 (oS (oD [[oM 23 1,oP 24 (.iaddr 3 (.t 23) (kI 0)),oLt 25 3 24,oM 26 1,oP 27 (.iaddr 3 (.t 26) (kI 1)),oLt 28 3 27],[oC 29 308 [.t 25,.t 28]],[oC 30 307 [.t 29]],[oEx 31 30 0,oEx 32 30 1],[oSt 3 6 31],[oM 7 32]]) .ret) (oH [oBk 34 .eql 9 4,oM 33 34] (oQ 33 (oS (oD [[oM 35 1,oP 36 (.iaddr 3 (.t 35) (kI 0)),oLt 37 3 36,oM 38 1,oP 39 (.iaddr 3 (.t 38) (kI 1)),oLt 40 3 39],[oC 41 309 [.t 37,.t 40]],[oC 42 307 [.t 41]],[oEx 43 42 0,oEx 44 42 1],[oSt 3 6 43],[oM 7 44]]) .ret) (oH [oBk 46 .eql 9 5,oM 45 46] (oQ 45 (oS (oD [[oM 47 1,oP 48 (.iaddr 3 (.t 47) (kI 0)),oLt 49 3 48,oC 50 147 [.t 49],oM 51 1,oP 52 (.iaddr 3 (.t 51) (kI 1)),oLt 53 3 52],[oC 54 147 [.t 53]],[oC 55 310 [.t 50,.t 54]],[oC 56 307 [.t 55]],[oEx 57 56 0,oEx 58 56 1],[oSt 3 6 57],[oM 7 58]]) .ret) (oH [oBk 60 .eql 9 6,oM 59 60] (oQ 59 (oS (oD [[oM 61 1,oP 62 (.iaddr 3 (.t 61) (kI 0)),oLt 63 3 62,oC 64 147 [.t 63],oM 65 1,oP 66 (.iaddr 3 (.t 65) (kI 1)),oLt 67 3 66],[oC 68 147 [.t 67]],[oC 69 311 [.t 64,.t 68]],[oC 70 307 [.t 69]],[oEx 71 70 0,oEx 72 70 1],[oSt 3 6 71],[oM 7 72]]) .ret) (oH [oBk 74 .eql 9 7,oM 73 74] (oQ 73 (oH [oM 75 1,oP 76 (.iaddr 3 (.t 75) (kI 0)),oLt 77 3 76,oC 78 147 [.t 77],oC 79 312 [.t 78],oC 80 307 [.t 79],oEx 81 80 0,oEx 82 80 1,oSt 3 6 81,oM 7 82] .ret) (oH [oBk 84 .eql 9 8,oM 83 84] (oQ 83 (oH [oM 85 1,oP 86 (.iaddr 3 (.t 85) (kI 0)),oFa 87 0 86,oLf 88 87,oBk 89 .eql 88 0,oC 90 244 [.t 89],oC 91 307 [.t 90],oEx 92 91 0,oEx 93 91 1,oSt 3 6 92,oM 7 93] .ret) (oH [oBk 95 .eql 9 9,oM 94 95] (oQ 94 (oS (oD [[oM 96 1,oP 97 (.iaddr 3 (.t 96) (kI 0)),oLt 98 3 97,oM 99 1,oP 100 (.iaddr 3 (.t 99) (kI 1)),oLt 101 3 100],[oC 102 313 [.t 98,.t 101,(kI 1)]],[oEx 103 102 0,oEx 104 102 1],[oSt 3 6 103],[oM 7 104]]) .ret) .skip)))))))))))))))))))) (oS (oD [[oM 105 1,oP 106 (.iaddr 3 (.t 105) (kI 0)),oLt 107 3 106,oM 108 1,oP 109 (.iaddr 3 (.t 108) (kI 1)),oLt 110 3 109],[oC 111 313 [.t 107,.t 110,(kI (-1))]],[oEx 112 111 0,oEx 113 111 1],[oSt 3 6 112],[oM 7 113]]) .ret)))⟩
theorem za1:jd Tryz.prog [3] 243=some jff:=yak9
def jg4:AFn:=⟨4,[.t 2],(oH [oMi 2 0] (oS (oH [oM 3 0] (oQ 3 (oH [oMi 2 1] .ret) .skip)) (oH [oMi 2 0] .ret)))⟩
def zi0:AFn:=⟨19,[.t 4],(oH [oBx 2 0,oMi 4 0] (oH [oM 5 1,oFa 6 0 2,oLf 7 6,oP 8 (.len true (.t 7)),oBt 9 .sub 5 8,oM 1 9] (oS (oH [oM 10 1,oBk 11 .lss 10 0] (oQ 11 (oH [oMi 4 (-1)] .ret) .skip)) (oH [oFa 12 3 2,oLt 13 3 12,oM 14 1,oC 15 251 [.t 13,.t 14],oM 1 15] (oS (oH [oM 16 1,oBk 17 .lss 16 0] (oQ 17 (oH [oMi 4 (-1)] .ret) .skip)) (oH [oM 18 1,oM 4 18] .ret))))))⟩
def zf5:AFn:=⟨12,[.t 4],(oH [oBx 2 0,oMi 4 0] (oH [oFa 5 0 2,oLf 6 5,oM 7 1,oC 8 149 [.t 6,.t 7],oM 1 8] (oS (oH [oM 9 1,oBk 10 .lss 9 0] (oQ 10 (oH [oMi 4 (-1)] .ret) .skip)) (oH [oM 11 1,oM 4 11] .ret))))⟩
def wg4:AFn:=⟨12,[.t 4],(oH [oBx 2 0,oMi 4 0] (oH [oFa 5 0 2,oLf 6 5,oM 7 1,oC 8 62 [.t 6,.t 7],oM 1 8] (oS (oH [oM 9 1,oBk 10 .lss 9 0] (oQ 10 (oH [oMi 4 (-1)] .ret) .skip)) (oH [oM 11 1,oM 4 11] .ret))))⟩
def jjw:AFn:=⟨19,[.t 4],(oH [oBx 2 0,oMi 4 0] (oH [oFa 5 0 2,oLf 6 5,oM 7 1,oC 8 149 [.t 6,.t 7],oM 1 8] (oS (oH [oM 9 1,oBk 10 .lss 9 0] (oQ 10 (oH [oMi 4 (-1)] .ret) .skip)) (oH [oM 11 1,oFa 12 1 2,oLf 13 12,oP 14 (.len true (.t 13)),oBt 15 .sub 11 14,oM 1 15] (oS (oH [oM 16 1,oBk 17 .lss 16 0] (oQ 17 (oH [oMi 4 (-1)] .ret) .skip)) (oH [oM 18 1,oM 4 18] .ret))))))⟩
def wh3:AFn:=⟨12,[.t 4],(oH [oBx 2 0,oMi 4 0] (oH [oFa 5 0 2,oLf 6 5,oM 7 1,oC 8 62 [.t 6,.t 7],oM 1 8] (oS (oH [oM 9 1,oBk 10 .lss 9 0] (oQ 10 (oH [oMi 4 (-1)] .ret) .skip)) (oH [oM 11 1,oM 4 11] .ret))))⟩
def zh4:AFn:=⟨27,[.t 4],(oH [oMi 4 0] (oH [oM 6 1,oM 7 0,oLn 8 7,oBt 9 .sub 6 8,oM 1 9] (oS (oH [oM 10 1,oBk 11 .lss 10 0] (oQ 11 (oH [oMi 4 (-1)] .ret) .skip)) (oS (oH [oMi 5 0] (.block 0 (.loop (oS (oH [oM 12 5,oM 13 0,oLn 14 13,oBt 15 .lss 12 14] (oQ 15 .skip (.exit 0))) (oS (.block 1 (oH [oM 18 0,oM 19 5,oIa 20 3 18 19,oLt 21 3 20,oM 22 1,oC 23 251 [.t 21,.t 22],oM 1 23] (oH [oM 24 1,oBk 25 .lss 24 0] (oQ 25 (oH [oMi 4 (-1)] .ret) .skip)))) (oG [oM 16 5,oBk 17 .add 16 1,oM 5 17])))))) (oH [oM 26 1,oM 4 26] .ret)))))⟩
theorem wff:jd Tryz.prog [] 250=some zh4:=yak9
def ji0:AFn:=⟨13,[.t 4],(oH [oBx 2 0,oMi 4 0] (oH [oM 5 1,oFa 6 2 2,oLf 7 6,oP 8 (.len true (.t 7)),oBt 9 .sub 5 8,oM 1 9] (oS (oH [oM 10 1,oBk 11 .lss 10 0] (oQ 11 (oH [oMi 4 (-1)] .ret) .skip)) (oH [oM 12 1,oM 4 12] .ret))))⟩
def zg5:AFn:=⟨184,[.t 2],(oH [oBx 1 0,oMb 2 false] (oH [oFa 11 1 1,oLf 12 11,oLn 13 12,oM 3 13] (oS (oH [oFa 14 0 1,oLf 15 14,oC 16 206 [.t 15],oUn 17 16,oM 18 17,ofm 19 3 18,ofc 20 72 [.t 19,(kI 1),(kI 8)] 18,oF 21 (.un .not (.t 20)) 18,oPo 22 18 21,oM 23 22,ofa 24 2 1 23,ofl 25 24 23,ofm 26 3 23,ofc 27 314 [.t 25,.t 26] 23,oF 28 (.un .not (.t 27)) 23,oPo 29 23 28,oM 30 29,ofa 31 3 1 30,ofl 32 31 30,oF 33 (.len false (.t 32)) 30,oF 34 (.bin .gtr (.t 33) (kI 3)) 30,oPo 35 30 34,oM 36 35,ofa 37 4 1 36,ofl 38 37 36,oF 39 (.len false (.t 38)) 36,oF 40 (.bin .gtr (.t 39) (kI 3)) 36,oPo 41 36 40,oM 42 41,ofa 43 5 1 42,ofl 44 43 42,oF 45 (.len false (.t 44)) 42,oF 46 (.bin .gtr (.t 45) (kI 3)) 42,oPo 47 42 46] (oQ 47 (oH [oMb 2 false] .ret) .skip)) (oS (oH [oMi 4 0] (.block 0 (.loop (oS (oH [oM 48 4,oM 49 3,oBt 50 .lss 48 49] (oQ 50 .skip (.exit 0))) (oS (.block 1 (oH [oFa 53 1 1,oLf 54 53,oM 55 4,oIa 56 6 54 55,oLt 57 6 56,oP 5 (.alloc [.str [],.int .i64 0,.bool false,.int .i64 0,.int .i64 0,.str []]),oSt 6 5 57] (oS (oD [[oFa 58 0 5],[oLf 59 58],[oC 60 206 [.t 59]],[oUn 61 60],[oM 62 61],[ofa 63 1 1 62,ofl 64 63 62,ofm 65 4 62,oF 66 (.slice 6 (.t 64) none (some (.t 65)) none) 62,oF 67 (.build [.str [],.nils,.nils,.nils,.nils,.nils] [(1,1,(.t 66))]) 62,ofa 68 0 5 62,ofl 69 68 62],[ofc 70 315 [.t 67,.t 69] 62],[oF 71 (.bin .geq (.t 70) (kI 0)) 62],[oPo 72 62 71],[oM 73 72],[ofa 74 1 5 73],[ofl 75 74 73],[ofc 76 72 [.t 75,(kI 1),(kI 2)] 73],[oF 77 (.un .not (.t 76)) 73],[oPo 78 73 77],[oM 79 78],[ofa 80 3 5 79],[oF 81 (.load true 3 (.t 80)) 79],[ofc 82 253 [.t 81] 79],[oF 83 (.un .not (.t 82)) 79],[oPo 84 79 83],[oM 85 84],[ofa 86 3 5 85],[ofa 87 0 86 85],[ofl 88 87 85],[oF 89 (.bin .neq (.t 88) (kI 0)) 85],[ofm 90 89 85],[ota 91 3 5 90,ota 92 0 91 90,otl 93 92 90,ota 94 1 5 90,otl 95 94 90],[oT 96 (.bin .neq (.t 93) (.t 95)) 90],[oF 97 (.pick (.t 90) (.t 96) (.k (.bool false))) 85],[oPo 98 85 97]]) (oQ 98 (oH [oMb 2 false] .ret) .skip)))) (oG [oM 51 4,oBk 52 .add 51 1,oM 4 52])))))) (oS (oH [oMi 6 0] (.block 2 (.loop (oS (oH [oM 99 6,oFa 100 2 1,oLf 101 100,oLn 102 101,oBt 103 .lss 99 102] (oQ 103 .skip (.exit 2))) (oS (.block 3 (oS (oD [[oFa 106 1 1,oLf 107 106,oFa 108 2 1,oLf 109 108,oM 110 6,oIa 111 1 109 110,oLf 112 111],[oIa 113 6 107 112],[oFa 114 2 113],[oLf 115 114],[oUn 116 115]]) (oQ 116 (oH [oMb 2 false] .ret) .skip))) (oG [oM 104 6,oBk 105 .add 104 1,oM 6 105])))))) (oS (oH [oMi 7 0] (.block 4 (.loop (oS (oH [oM 117 7,oFa 118 3 1,oLf 119 118,oLn 120 119,oBt 121 .lss 117 120] (oQ 121 .skip (.exit 4))) (oS (.block 5 (oH [oFa 124 3 1,oLf 125 124,oM 126 7,oIa 127 1 125 126,oFa 128 0 127,oLf 129 128,oM 130 3,oC 131 314 [.t 129,.t 130],oUn 132 131] (oQ 132 (oH [oMb 2 false] .ret) .skip))) (oG [oM 122 7,oBk 123 .add 122 1,oM 7 123])))))) (oS (oH [oMi 8 0] (.block 6 (.loop (oS (oH [oM 133 8,oFa 134 4 1,oLf 135 134,oLn 136 135,oBt 137 .lss 133 136] (oQ 137 .skip (.exit 6))) (oS (.block 7 (oH [oFa 140 4 1,oLf 141 140,oM 142 8,oIa 143 1 141 142,oFa 144 0 143,oLf 145 144,oM 146 3,oC 147 145 [.t 145,.t 146],oUn 148 147] (oQ 148 (oH [oMb 2 false] .ret) .skip))) (oG [oM 138 8,oBk 139 .add 138 1,oM 8 139])))))) (oS (oH [oMi 9 0] (.block 8 (.loop (oS (oH [oM 149 9,oFa 150 5 1,oLf 151 150,oLn 152 151,oBt 153 .lss 149 152] (oQ 153 .skip (.exit 8))) (oS (.block 9 (oH [oFa 156 5 1,oLf 157 156,oM 158 9,oIa 159 5 157 158,oLt 160 5 159,oP 10 (.alloc [.nils,.str [],.int .i64 0,.int .i64 0,.bool false]),oSt 5 10 160] (oH [oFa 161 0 10,oLf 162 161,oM 163 3,oC 164 314 [.t 162,.t 163],oUn 165 164,oM 166 165,ofa 167 1 10 166,ofl 168 167 166,ofc 169 206 [.t 168] 166,oF 170 (.un .not (.t 169)) 166,oPo 171 166 170,oM 172 171,ofa 173 2 10 172,ofl 174 173 172,ofc 175 72 [.t 174,(kI 0),(kI 2)] 172,oF 176 (.un .not (.t 175)) 172,oPo 177 172 176,oM 178 177,ofa 179 3 10 178,ofl 180 179 178,ofc 181 72 [.t 180,(kI 0),(kI 2)] 178,oF 182 (.un .not (.t 181)) 178,oPo 183 178 182] (oQ 183 (oH [oMb 2 false] .ret) .skip)))) (oG [oM 154 9,oBk 155 .add 154 1,oM 9 155])))))) (oH [oMb 2 true] .ret)))))))))⟩
def wi0:AFn:=⟨31,[.t 2],(oH [oBx 1 0,oMb 2 false] (oS (oH [oFa 3 0 1,oLf 4 3] (.block 0 (oH [oBk 6 .eql 4 0,oM 5 6] (oQ 5 (oH [oLt 7 3 1,oP 8 (.build [.int .i64 0,.int .i64 0,.str []] []),oP 9 (.eq false true [.i,.i,.s] (.t 7) (.t 8)),oM 2 9] .ret) (oH [oBk 11 .eql 4 1,oM 10 11] (oQ 10 (oH [oFa 12 1 1,oLf 13 12,oC 14 72 [.t 13,(kI (-1000000000)),(kI 1000000000)],oM 15 14,ota 16 2 1 15,otl 17 16 15,oT 18 (.bin .eql (.t 17) (.k (.str []))) 15,oPa 19 15 18,oM 2 19] .ret) (oH [oBk 21 .eql 4 2,oM 20 21] (oQ 20 (oH [oFa 22 1 1,oLf 23 22,oBk 24 .eql 23 0,oM 25 24,ota 26 2 1 25,otl 27 26 25,oT 28 (.len true (.t 27)) 25,oT 29 (.bin .leq (.t 28) (kI 12)) 25,oPa 30 25 29,oM 2 30] .ret) .skip)))))))) (oH [oMb 2 false] .ret)))⟩
def jh4:AFn:=⟨107,[.m 4 true 3,.t 5],(oH [oP 4 (.alloc [.int .i64 0,.int .i64 0,.str []]),oMb 5 false] (oH [oP 14 (.mksl false 3 0 [.int .i64 0,.int .i64 0,.str []] []),oM 6 14] (oS (oH [oMi 7 0] (.block 0 (.loop (oS (oH [oM 15 7,oM 16 0,oLn 17 16,oBt 18 .lss 15 17] (oQ 18 .skip (.exit 0))) (oS (.block 1 (oH [oM 21 6,oLn 22 21,oM 8 22] (oH [oP 23 (.build [.int .i64 0,.int .i64 0,.str []] []),oP 9 (.alloc [.int .i64 0,.int .i64 0,.str []]),oSt 3 9 23] (oH [oMb 10 true] (oH [oMi 11 0] (oS (oH [oM 24 0,oM 25 7,oIa 26 5 24 25,oFa 27 0 26,oLf 28 27] (.block 2 (oH [oBk 49 .eql 28 1,oM 48 49] (oQ 48 (oG [oM 50 1,oM 51 0,oM 52 7,oIa 53 5 51 52,oFa 54 1 53,oLf 55 54,oIa 56 3 50 55,oLt 57 3 56,oSt 3 9 57]) (oH [oBk 59 .eql 28 2,oM 58 59] (oQ 58 (oG [oM 60 0,oM 61 7,oIa 62 5 60 61,oFa 63 2 62,oLt 64 3 63,oSt 3 9 64]) (oH [oBk 66 .eql 28 8,oM 65 66] (oQ 65 (oH [oM 67 6,oM 68 8,oBk 69 .sub 68 1,oIa 70 3 67 69,oFa 71 0 70,oLf 72 71,oBk 73 .eql 72 0,oC 74 316 [.t 73],oC 75 224 [.t 74],oSt 3 9 75] (oG [oMi 11 1])) (oH [oBk 77 .eql 28 7,oM 76 77] (oQ 76 (oH [oM 79 6,oM 80 8,oBk 81 .sub 80 1,oIa 82 3 79 81,oLt 83 3 82,oC 84 255 [.t 83],oM 78 84,oEx 85 78 0,oEx 86 78 1,oM 12 85,oM 13 86] (oH [oM 87 12,oC 88 318 [.t 87],oC 89 317 [.t 88],oSt 3 9 89] (oH [oM 90 13,oM 10 90] (oG [oMi 11 1])))) (oS (oD [[oM 30 0,oM 31 7,oIa 32 5 30 31,oFa 33 0 32,oLf 34 33,oM 35 6,oM 36 8,oBk 37 .sub 36 2,oIa 38 3 35 37,oLt 39 3 38,oM 40 6,oM 41 8,oBk 42 .sub 41 1,oIa 43 3 40 42,oLt 44 3 43],[oC 45 319 [.t 34,.t 39,.t 44]],[oM 29 45],[oEx 46 29 0,oEx 47 29 1,oSt 3 9 46],[oM 10 47]]) (oG [oMi 11 2])))))))))))) (oS (oH [oM 91 10,oUn 92 91] (oQ 92 (oH [oP 93 (.build [.int .i64 0,.int .i64 0,.str []] []),oSt 3 4 93,oMb 5 false] .ret) .skip)) (oD [[oP 94 (.mksl false 3 0 [.int .i64 0,.int .i64 0,.str []] []),oM 95 6,oM 96 8,oM 97 11,oBt 98 .sub 96 97,oP 99 (.slice 3 (.t 95) none (some (.t 98)) none),oP 100 (.app 3 32 (.t 94) (.t 99)),oLt 101 3 9,oP 102 (.mksl true 3 1 [.int .i64 0,.int .i64 0,.str []] [(0,(.t 101))])],[oP 103 (.app 3 32 (.t 100) (.t 102))],[oM 6 103]])))))))) (oG [oM 19 7,oBk 20 .add 19 1,oM 7 20])))))) (oH [oM 104 6,oP 105 (.iaddr 3 (.t 104) (kI 0)),oLt 106 3 105,oSt 3 4 106,oMb 5 true] .ret))))⟩
def wjw:AFn:=⟨14,[.t 2,.t 3],(oH [oBx 1 0,oMi 2 0,oMb 3 false] (oS (oH [oFa 4 0 1,oLf 5 4] (.block 0 (oH [oBk 7 .eql 5 0,oM 6 7] (oQ 6 (oH [oMi 2 2,oMb 3 true] .ret) (oH [oBk 9 .eql 5 1,oM 8 9] (oQ 8 (oH [oFa 10 1 1,oLf 11 10,oBk 12 .neq 11 0,oC 13 316 [.t 12],oM 2 13,oMb 3 true] .ret) .skip)))))) (oH [oMi 2 0,oMb 3 false] .ret)))⟩
def jf5:AFn:=⟨81,[.t 10,.t 11,.t 12],(oH [oP 10 (.mv (.k (.nils))),oMi 11 0,oMi 12 0] (oH [oM 16 0,oM 17 2,oIa 18 6 16 17,oLt 19 6 18,oP 13 (.alloc [.str [],.nils,.nils,.nils,.nils,.nils]),oSt 6 13 19] (oS (oH [oM 20 4] (oQ 20 (oG [oLt 21 6 13,oM 22 3,oC 23 320 [.t 21,.t 22],oM 3 23]) .skip)) (oH [oLt 24 6 13,oM 25 3,oC 26 321 [.t 24,.t 25],oM 14 26] (oS (oH [oM 27 14,oBk 28 .neq 27 0] (oQ 28 (oH [oM 29 14,oP 10 (.mv (.k (.nils))),oMi 11 0,oM 12 29] .ret) .skip)) (oH [oM 30 1,oM 31 2,oIa 32 1 30 31,oLt 33 1 32,oC 34 164 [.t 33],oM 35 3,oC 36 162 [.t 35],oP 37 (.build [.int .i64 0,.nils] [(0,1,(.t 34)),(1,1,(.t 36))]),oP 15 (.alloc [.int .i64 0,.nils]),oSt 2 15 37] (oH [oM 39 0,oM 40 1,oM 41 2,oLt 42 2 15,oM 43 4,oC 44 322 [.t 39,.t 40,.t 41,.t 42,.t 43,(kI 0)],oM 38 44,oEx 45 38 0,oEx 46 38 1,oM 1 45,oM 14 46] (oS (oH [oM 47 14,oBk 48 .neq 47 0] (oQ 48 (oH [oM 49 14,oP 10 (.mv (.k (.nils))),oMi 11 0,oM 12 49] .ret) .skip)) (oS (oH [oM 50 1,oM 51 2,oIa 52 1 50 51,oFa 53 0 52,oLf 54 53,oLn 55 54,oBk 56 .eql 55 60,oM 57 56,ofa 58 0 15 57,ofl 59 58 57,oF 60 (.bin .gtr (.t 59) (kI 1000000000)) 57,oPo 61 57 60] (oQ 61 (oH [oP 10 (.mv (.k (.nils))),oMi 11 0,oMi 12 7] .ret) .skip)) (oS (oD [[oM 62 1,oM 63 2,oM 64 1,oM 65 2,oIa 66 1 64 65,oLt 67 1 66,oLt 68 2 15,oC 69 324 [.t 67,.t 68]],[oC 70 323 [.t 62,.t 63,.t 69]],[oM 1 70]]) (oS (oH [oM 71 0,oM 72 1,oM 73 2,oFa 74 1 15,oLf 75 74,oC 76 325 [.t 71,.t 72,.t 73,.t 75,(.k (.bool true))],oUn 77 76] (oQ 77 (oH [oP 10 (.mv (.k (.nils))),oMi 11 0,oMi 12 5] .ret) .skip)) (oS (oD [[oM 78 1,oFa 79 0 15,oLf 80 79,oM 10 78],[oM 11 80],[oMi 12 0]]) .ret))))))))))))⟩
def wf5:AFn:=⟨57,[.t 10,.t 11],(oH [oP 10 (.mv (.k (.nils))),oMi 11 0] (oS (oH [oM 15 4,oBk 16 .gtr 15 12] (oQ 16 (oH [oP 10 (.mv (.k (.nils))),oMi 11 6] .ret) .skip)) (oS (oD [[oM 17 1,oM 18 2,oIa 19 1 17 18,oFa 20 0 19,oLf 21 20,oM 22 1,oM 23 2,oIa 24 1 22 23,oLt 25 1 24,oM 26 3,oC 27 70 [.t 25,.t 26],oIa 28 2 21 27,oLt 29 2 28,oP 12 (.alloc [.int .i64 0,.nils])],[oSt 2 12 29]]) (oS (oD [[oM 31 0,oM 32 2,oIa 33 6 31 32,oFa 34 2 33,oLf 35 34,oFa 36 1 12,oLf 37 36],[oC 38 326 [.t 35,.t 37]],[oM 30 38],[oEx 39 30 0,oEx 40 30 1,oM 13 39],[oM 14 40]]) (oH [oM 41 0,oM 42 1,oM 43 2,oM 44 1,oM 45 2,oIa 46 1 44 45,oLt 47 1 46,oM 48 3,oC 49 328 [.t 47,.t 48],oC 50 323 [.t 42,.t 43,.t 49],oM 51 2,oM 52 13,oM 53 4,oC 54 327 [.t 41,.t 50,.t 51,.t 52,(.k (.nils)),(.k (.bool true)),.t 53],oEx 55 54 0,oEx 56 54 1,oM 10 55,oM 11 56] .ret)))))⟩
theorem jb1:jd Tryz.prog [] 257=some wf5:=yak9
def zf6:AFn:=⟨61,[.t 6,.t 7],(oH [oBx 3 0,oP 6 (.mv (.k (.nils))),oMb 7 false] (oH [oM 12 1,oC 13 162 [.t 12],oM 8 13] (oS (oH [oMi 9 0] (.block 0 (.loop (oS (oH [oM 14 9,oM 15 2,oLn 16 15,oBt 17 .lss 14 16] (oQ 17 .skip (.exit 0))) (oS (.block 1 (oH [oM 21 2,oM 22 9,oIa 23 2 21 22,oFa 24 1 23,oLf 25 24,oM 26 1,oC 27 254 [.t 25,.t 26],oM 20 27,oEx 28 20 0,oEx 29 20 1,oP 10 (.alloc [.int .i64 0,.int .i64 0,.str []]),oSt 3 10 28,oM 11 29] (oS (oS (oD [[oM 30 11],[oUn 31 30],[oM 32 31],[ofa 33 0 10 32],[ofl 34 33 32],[oF 35 (.bin .neq (.t 34) (kI 0)) 32],[ofm 36 35 32],[ota 37 0 10 36,otl 38 37 36,ota 39 1 3 36,otl 40 39 36,otm 41 2 36,otm 42 9 36,oti 43 2 41 42 36,ota 44 0 43 36,otl 45 44 36,oti 46 6 40 45 36,ota 47 1 46 36,otl 48 47 36],[oT 49 (.bin .neq (.t 38) (.t 48)) 36],[oF 50 (.pick (.t 36) (.t 49) (.k (.bool false))) 32],[oPo 51 32 50]]) (oQ 51 (oH [oP 6 (.mv (.k (.nils))),oMb 7 false] .ret) .skip)) (oD [[oM 52 8,oM 53 2,oM 54 9,oIa 55 2 53 54,oFa 56 0 55,oLf 57 56,oLt 58 3 10],[oIa 59 3 52 57],[oSt 3 59 58]])))) (oG [oM 18 9,oBk 19 .add 18 1,oM 9 19])))))) (oH [oM 60 8,oM 6 60,oMb 7 true] .ret))))⟩
def jf6:AFn:=⟨137,[.t 14,.t 15],(oH [oP 14 (.mv (.k (.nils))),oMi 15 0] (oS (oH [oM 24 6,oBk 25 .gtr 24 12] (oQ 25 (oH [oP 14 (.mv (.k (.nils))),oMi 15 6] .ret) .skip)) (oH [oM 26 0,oM 27 2,oIa 28 6 26 27,oLt 29 6 28,oP 16 (.alloc [.str [],.nils,.nils,.nils,.nils,.nils]),oSt 6 16 29] (oS (oH [oM 30 5] (oQ 30 (oG [oLt 31 6 16,oM 32 4,oC 33 320 [.t 31,.t 32],oM 4 33]) .skip)) (oH [oLt 34 6 16,oM 35 4,oC 36 321 [.t 34,.t 35],oM 17 36] (oS (oH [oM 37 17,oBk 38 .neq 37 0] (oQ 38 (oH [oM 39 17,oP 14 (.mv (.k (.nils))),oM 15 39] .ret) .skip)) (oH [oM 40 3,oM 41 4,oP 42 (.build [.int .i64 0,.nils] [(0,1,(.t 40)),(1,1,(.t 41))]),oP 18 (.alloc [.int .i64 0,.nils]),oSt 2 18 42] (oH [oM 44 0,oM 45 1,oM 46 2,oLt 47 2 18,oM 48 5,oM 49 6,oC 50 322 [.t 44,.t 45,.t 46,.t 47,.t 48,.t 49],oM 43 50,oEx 51 43 0,oEx 52 43 1,oM 1 51,oM 17 52] (oS (oH [oM 53 17,oBk 54 .neq 53 0] (oQ 54 (oH [oM 55 17,oP 14 (.mv (.k (.nils))),oM 15 55] .ret) .skip)) (oH [oM 56 1,oM 57 2,oIa 58 1 56 57,oLt 59 1 58,oM 60 3,oC 61 70 [.t 59,.t 60],oM 19 61] (oS (oH [oM 62 19,oBk 63 .lss 62 0] (oQ 63 (oH [oP 14 (.mv (.k (.nils))),oMi 15 9] .ret) .skip)) (oS (oD [[oFa 65 2 16,oLf 66 65,oM 67 1,oM 68 2,oIa 69 1 67 68,oFa 70 0 69,oLf 71 70,oM 72 19,oIa 73 2 71 72,oFa 74 1 73,oLf 75 74],[oC 76 326 [.t 66,.t 75]],[oM 64 76],[oEx 77 64 0,oEx 78 64 1,oM 20 77],[oM 21 78]]) (oH [oFa 80 2 16,oLf 81 80,oM 82 4,oC 83 326 [.t 81,.t 82],oM 79 83,oEx 84 79 0,oEx 85 79 1,oM 22 84,oM 23 85] (oS (oD [[oM 86 1,oM 87 2,oM 88 1,oM 89 2,oIa 90 1 88 89,oLt 91 1 90,oLt 92 2 18,oC 93 324 [.t 91,.t 92]],[oC 94 323 [.t 86,.t 87,.t 93]],[oM 1 94]]) (oS (oH [oM 95 20,oM 96 22,oC 97 329 [.t 95,.t 96],oUn 98 97] (oQ 98 (oH [oM 100 0,oM 101 1,oM 102 2,oM 103 20,oM 104 22,oM 105 6,oC 106 327 [.t 100,.t 101,.t 102,.t 103,.t 104,(.k (.bool false)),.t 105],oM 99 106,oEx 107 99 0,oEx 108 99 1,oM 1 107,oM 17 108] (oH [oM 109 17,oBk 110 .neq 109 0] (oQ 110 (oH [oM 111 17,oP 14 (.mv (.k (.nils))),oM 15 111] .ret) .skip))) .skip)) (oH [oM 112 1,oM 113 2,oIa 114 1 112 113,oLt 115 1 114,oM 116 3,oC 117 70 [.t 115,.t 116],oM 19 117] (oS (oH [oM 118 19,oBk 119 .geq 118 0,oM 120 119,otm 121 0 120,otm 122 1 120,otm 123 2 120,otm 124 1 120,otm 125 2 120,oti 126 1 124 125 120,ota 127 0 126 120,otl 128 127 120,otm 129 19 120,oti 130 2 128 129 120,ota 131 1 130 120,otl 132 131 120,otc 133 325 [.t 121,.t 122,.t 123,.t 132,(.k (.bool true))] 120,oT 134 (.un .not (.t 133)) 120,oPa 135 120 134] (oQ 135 (oH [oP 14 (.mv (.k (.nils))),oMi 15 5] .ret) .skip)) (oH [oM 136 1,oM 14 136,oMi 15 0] .ret))))))))))))))))))⟩
theorem wb1:jd Tryz.prog [] 259=some jf6:=yak9
def jg5:AFn:=⟨72,[.t 12],(oH [oP 12 (.mv (.k (.nils)))] (oH [oP 15 (.mksl false 1 0 [.int .i64 0] []),oM 13 15] (oS (oH [oMi 14 0] (.block 0 (.loop (oS (oH [oM 16 14,oM 17 1,oLn 18 17,oBt 19 .lss 16 18] (oQ 19 .skip (.exit 0))) (oS (.block 1 (oS (oD [[oM 22 1,oM 23 14,oIa 24 5 22 23,oFa 25 0 24,oLf 26 25,oM 27 0,oM 28 2,oIa 29 6 27 28,oFa 30 0 29,oLf 31 30],[oBt 32 .eql 26 31],[oM 33 32],[otm 34 1 33,otm 35 14 33,oti 36 5 34 35 33,ota 37 1 36 33,otl 38 37 33,otm 39 3 33],[oT 40 (.bin .eql (.t 38) (.t 39)) 33],[oPa 41 33 40],[oM 42 41],[otm 43 1 42,otm 44 14 42],[oti 45 5 43 44 42],[ota 46 2 45 42],[otl 47 46 42],[oT 48 (.len false (.t 47)) 42],[oT 49 (.bin .eql (.t 48) (kI 0)) 42],[otm 50 49 42],[ofm 51 1 50,ofm 52 14 50,ofi 53 5 51 52 50,ofa 54 2 53 50,ofl 55 54 50,ofm 56 0 50,ofm 57 2 50,ofi 58 6 56 57 50,oF 59 (.load true 6 (.t 58)) 50,ofm 60 4 50,ofm 61 5 50,ofc 62 261 [.t 59,.t 60,.t 61] 50],[ofc 63 161 [.t 55,.t 62] 50],[oF 64 (.bin .eql (.t 63) (kI 1)) 50],[oT 65 (.pick (.t 50) (.k (.bool true)) (.t 64)) 42],[oPa 66 42 65]]) (oQ 66 (oG [oM 67 13,oM 68 14,oP 69 (.mksl true 1 1 [.int .i64 0] [(0,(.t 68))]),oP 70 (.app 1 8 (.t 67) (.t 69)),oM 13 70]) .skip))) (oG [oM 20 14,oBk 21 .add 20 1,oM 14 21])))))) (oH [oM 71 13,oM 12 71] .ret))))⟩
theorem jen:jd Tryz.prog [69] 260=some jg5:=yak9
def wh4:AFn:=⟨24,[.t 6],(oH [oBx 3 0,oP 6 (.mv (.k (.nils)))] (oH [oFa 8 1 3,oLf 9 8,oLn 10 9,oP 11 (.bin .mul (kI 2) (.t 10)),oP 12 (.mkslice 3 32 [.int .i64 0,.int .i64 0,.str []] (.t 11) (.t 11)),oM 7 12] (oH [oM 13 7,oM 14 1,oP 15 (.copy 3 (.t 13) (.t 14))] (oH [oM 16 7,oFa 17 1 3,oLf 18 17,oLn 19 18,oP 20 (.slice 3 (.t 16) (some (.t 19)) none none),oM 21 2,oP 22 (.copy 3 (.t 20) (.t 21))] (oH [oM 23 7,oM 6 23] .ret)))))⟩
def zi1:AFn:=⟨18,[.m 2 true 6],(oH [oBx 1 0,oP 2 (.alloc [.str [],.int .i64 0,.bool false,.int .i64 0,.int .i64 0,.str []])] (oH [oP 3 (.alloc [.str [],.int .i64 0,.bool false,.int .i64 0,.int .i64 0,.str []])] (oH [oFa 4 0 1,oLf 5 4,oFa 6 0 3,oSt 1 6 5] (oH [oFa 7 1 1,oLf 8 7,oFa 9 1 3,oSt 1 9 8] (oH [oFa 10 2 1,oLf 11 10,oFa 12 2 3,oSt 1 12 11] (oH [oFa 13 3 1,oLt 14 3 13,oC 15 268 [.t 14],oFa 16 3 3,oSt 3 16 15] (oH [oLt 17 6 3,oSt 6 2 17] .ret)))))))⟩
theorem wf6:jd Tryz.prog [1] 262=some zi1:=yak9
def zf7:AFn:=⟨9,[.m 2 true 1],(oH [oBx 1 0,oP 2 (.alloc [.nils])] (oH [oP 3 (.alloc [.nils])] (oH [oFa 4 0 1,oLf 5 4,oC 6 167 [.t 5],oFa 7 0 3,oSt 1 7 6] (oH [oLt 8 1 3,oSt 1 2 8] .ret))))⟩
theorem zd4:jd Tryz.prog [1] 263=some zf7:=yak9
def wg5:AFn:=⟨9,[.m 2 true 1],(oH [oBx 1 0,oP 2 (.alloc [.nils])] (oH [oP 3 (.alloc [.nils])] (oH [oFa 4 0 1,oLf 5 4,oC 6 77 [.t 5],oFa 7 0 3,oSt 1 7 6] (oH [oLt 8 1 3,oSt 1 2 8] .ret))))⟩
theorem wen:jd Tryz.prog [1] 264=some wg5:=yak9
def zjx:AFn:=⟨21,[.m 2 true 5],(oH [oBx 1 0,oP 2 (.alloc [.nils,.str [],.int .i64 0,.int .i64 0,.bool false])] (oH [oP 3 (.alloc [.nils,.str [],.int .i64 0,.int .i64 0,.bool false])] (oH [oFa 4 0 1,oLf 5 4,oC 6 167 [.t 5],oFa 7 0 3,oSt 1 7 6] (oH [oFa 8 1 1,oLf 9 8,oFa 10 1 3,oSt 1 10 9] (oH [oFa 11 2 1,oLf 12 11,oFa 13 2 3,oSt 1 13 12] (oH [oFa 14 3 1,oLf 15 14,oFa 16 3 3,oSt 1 16 15] (oH [oFa 17 4 1,oLf 18 17,oFa 19 4 3,oSt 1 19 18] (oH [oLt 20 5 3,oSt 5 2 20] .ret))))))))⟩
theorem zg6:jd Tryz.prog [1] 265=some zjx:=yak9
def zh5:AFn:=⟨9,[.m 2 true 1],(oH [oBx 1 0,oP 2 (.alloc [.nils])] (oH [oP 3 (.alloc [.nils])] (oH [oFa 4 0 1,oLf 5 4,oC 6 77 [.t 5],oFa 7 0 3,oSt 1 7 6] (oH [oLt 8 1 3,oSt 1 2 8] .ret))))⟩
theorem zfg:jd Tryz.prog [1] 266=some zh5:=yak9
def jh5:AFn:=⟨23,[.t 2],(oH [oP 2 (.mv (.k (.nils)))] (oH [oM 5 0,oLn 6 5,oP 7 (.mkslice 3 32 [.int .i64 0,.int .i64 0,.str []] (.t 6) (.t 6)),oM 3 7] (oS (oH [oMi 4 0] (.block 0 (.loop (oS (oH [oM 8 4,oM 9 0,oLn 10 9,oBt 11 .lss 8 10] (oQ 11 .skip (.exit 0))) (oS (.block 1 (oG [oM 14 3,oM 15 4,oM 16 0,oM 17 4,oIa 18 3 16 17,oLt 19 3 18,oC 20 268 [.t 19],oIa 21 3 14 15,oSt 3 21 20])) (oG [oM 12 4,oBk 13 .add 12 1,oM 4 13])))))) (oH [oM 22 3,oM 2 22] .ret))))⟩
theorem jfg:jd Tryz.prog [] 267=some jh5:=yak9
def ji1:AFn:=⟨14,[.m 2 true 3],(oH [oBx 1 0,oP 2 (.alloc [.int .i64 0,.int .i64 0,.str []])] (oH [oP 3 (.alloc [.int .i64 0,.int .i64 0,.str []])] (oH [oFa 4 0 1,oLf 5 4,oFa 6 0 3,oSt 1 6 5] (oH [oFa 7 1 1,oLf 8 7,oFa 9 1 3,oSt 1 9 8] (oH [oFa 10 2 1,oLf 11 10,oFa 12 2 3,oSt 1 12 11] (oH [oLt 13 3 3,oSt 3 2 13] .ret))))))⟩
theorem jf7:jd Tryz.prog [1] 268=some ji1:=yak9
def jg6:AFn:=⟨68,[.t 2],(oH [oBx 1 0,oMb 2 false] (oH [oFa 4 1 1,oLf 5 4,oLn 6 5,oP 3 (.alloc [.int .i64 0]),oSt 1 3 6] (oS (oH [oFa 7 0 1,oLf 8 7,oC 9 123 [.t 8],oUn 10 9,oM 11 10,ofa 12 1 1 11,ofl 13 12 11,ofc 14 330 [.t 13] 11,oF 15 (.un .not (.t 14)) 11,oPo 16 11 15,oM 17 16,ofa 18 2 1 17,ofl 19 18 17,ofl 20 3 17,ofc 21 331 [.t 19,.t 20] 17,oF 22 (.un .not (.t 21)) 17,oPo 23 17 22,oM 24 23,ofa 25 3 1 24,ofl 26 25 24,oF 27 (.len false (.t 26)) 24,oF 28 (.bin .gtr (.t 27) (kI 3)) 24,oPo 29 24 28,oM 30 29,ofa 31 4 1 30,ofl 32 31 30,oF 33 (.len false (.t 32)) 30,oF 34 (.bin .gtr (.t 33) (kI 3)) 30,oPo 35 30 34,oM 36 35,ofa 37 5 1 36,ofl 38 37 36,oF 39 (.len false (.t 38)) 36,oF 40 (.bin .gtr (.t 39) (kI 3)) 36,oPo 41 36 40] (oQ 41 (oH [oMb 2 false] .ret) .skip)) (oH [oFa 42 2 1,oLf 43 42,oP 44 (.mkfn 333 [] [.t 1]),oC 45 332 [.t 43,.t 44],oUn 46 45,oM 47 46,ota 48 3 1 47,otl 49 48 47,oT 50 (.mkfn 335 [] [.t 3]) 47,otc 51 334 [.t 49,.t 50] 47,oT 52 (.un .not (.t 51)) 47,oPa 53 47 52,oM 54 53,ota 55 4 1 54,otl 56 55 54,oT 57 (.mkfn 336 [] [.t 3]) 54,otc 58 293 [.t 56,.t 57] 54,oT 59 (.un .not (.t 58)) 54,oPa 60 54 59,oM 61 60,ota 62 5 1 61,otl 63 62 61,oT 64 (.mkfn 337 [] [.t 3]) 61,otc 65 272 [.t 63,.t 64] 61,oT 66 (.un .not (.t 65)) 61,oPa 67 61 66,oM 2 67] .ret))))⟩
def zbt:AFn:=⟨9,[.t 4],(oH [oMb 4 false] (oH [oM 5 0,oM 6 1,oC 7 132 [.t 5,.t 6],oBk 8 .geq 7 0,oM 4 8] .ret))⟩
theorem jbh:jd Tryz.prog [] 270=some zbt:=yak9
def zeo:AFn:=⟨8,[.t 3],(oH [oBx 2 0,oMb 3 false] (oH [oFa 4 5 2,oLf 5 4,oP 6 (.mkfn 273 [] [.t 1,.t 2]),oC 7 272 [.t 5,.t 6],oM 3 7] .ret))⟩
def wb9:AFn:=⟨9,[.t 4],(oH [oMb 4 false] (oH [oM 5 0,oM 6 1,oC 7 339 [.t 5,.t 6],oBk 8 .geq 7 0,oM 4 8] .ret))⟩
theorem jac:jd Tryz.prog [] 272=some wb9:=yak9
def wdq:AFn:=⟨10,[.t 4],(oH [oBx 3 0,oMb 4 false] (oH [oLf 5 1,oLt 6 6 2,oLt 7 5 3,oC 8 274 [.t 5,.t 6,.t 7],oUn 9 8,oM 4 9] .ret))⟩
def wi1:AFn:=⟨60,[.t 6],(oH [oBx 4 1,oBx 5 2,oMb 6 false] (oH [oM 10 0,oFa 11 1 5,oLf 12 11,oC 13 48 [.t 10,.t 12],oM 7 13] (oS (oS (oD [[oM 14 7],[oBk 15 .lss 14 0],[oM 16 15],[ofm 17 0 16,ofm 18 7 16,ofi 19 6 17 18 16,ofa 20 2 19 16,ofl 21 20 16,oF 22 (.len false (.t 21)) 16,ofa 23 0 5 16,ofl 24 23 16,oF 25 (.len false (.t 24)) 16],[oF 26 (.bin .neq (.t 22) (.t 25)) 16],[oPo 27 16 26]]) (oQ 27 (oH [oMb 6 false] .ret) .skip)) (oS (oH [oFa 28 0 5,oLf 29 28,oLn 30 29,oMi 31 0] (.block 0 (.loop (oH [oBt 32 .lss 31 30] (oS (oQ 32 .skip (.exit 0)) (oS (.block 1 (oH [oM 33 31,oIa 34 1 29 31,oLf 35 34,oM 8 33,oM 9 35] (oS (oD [[oM 36 0,oM 37 7,oIa 38 6 36 37,oFa 39 1 38,oLf 40 39,oM 41 0,oM 42 7,oIa 43 6 41 42,oFa 44 2 43,oLf 45 44,oM 46 8,oIa 47 1 45 46,oLf 48 47,oIa 49 6 40 48,oFa 50 1 49,oLf 51 50,oFa 52 1 4,oLf 53 52,oM 54 9,oIa 55 6 53 54,oFa 56 1 55,oLf 57 56],[oBt 58 .neq 51 57]]) (oQ 58 (oH [oMb 6 false] .ret) .skip)))) (oG [oBk 59 .add 31 1,oM 31 59]))))))) (oH [oMb 6 true] .ret)))))⟩
def jb4:AFn:=⟨9,[.t 4],(oH [oMb 4 false] (oH [oM 5 0,oM 6 1,oC 7 340 [.t 5,.t 6],oBk 8 .geq 7 0,oM 4 8] .ret))⟩
theorem jbn:jd Tryz.prog [] 275=some jb4:=yak9
def wfg:AFn:=⟨9,[.t 3],(oH [oBx 2 0,oMb 3 false] (oH [oFa 4 0 2,oLf 5 4,oFa 6 0 1,oLf 7 6,oBt 8 .eql 5 7,oM 3 8] .ret))⟩
def zbx:AFn:=⟨19,[.t 4],(oH [oMi 4 0] (oS (oH [oM 6 0,oLn 7 6,oMi 8 0] (.block 0 (.loop (oH [oBt 9 .lss 8 7] (oS (oQ 9 .skip (.exit 0)) (oS (.block 1 (oH [oM 10 8,oM 5 10] (oH [oM 11 1,oM 12 0,oM 13 5,oIa 14 5 12 13,oLt 15 5 14,⟨some 16,.call (.t 11) [.t 15],none⟩] (oQ 16 (oH [oM 17 5,oM 4 17] .ret) .skip)))) (oG [oBk 18 .add 8 1,oM 8 18]))))))) (oH [oMi 4 (-1)] .ret)))⟩
theorem zbk:jd Tryz.prog [] 277=some zbx:=yak9
def wf7:AFn:=⟨9,[.t 4],(oH [oBx 3 1,oMb 4 false] (oH [oM 5 0,oP 6 (.mkfn 342 [] [.t 3]),oC 7 341 [.t 5,.t 6],oUn 8 7,oM 4 8] .ret))⟩
def jd4:AFn:=⟨26,[.t 6],(oH [oMi 6 0] (oH [oM 10 0,oLf 11 1,oFa 12 1 2,oLf 13 12,oLf 14 3,oC 15 138 [.t 10,.t 11,.t 13,.t 14],oM 9 15,oEx 16 9 0,oEx 17 9 1,oM 7 16,oM 8 17] (oS (oH [oM 18 7,oBk 19 .neq 18 0] (oQ 19 (oH [oM 20 7,oM 6 20] .ret) .skip)) (oH [oLf 21 4,oM 22 0,oLf 23 1,oM 24 8,⟨some 25,.call (.t 21) [.t 22,.t 23,(.k (.nils)),.t 24],none⟩,oM 6 25] .ret))))⟩
theorem zcx:jd Tryz.prog [] 279=some jd4:=yak9
def wd4:AFn:=⟨58,[.t 8],(oH [oMi 8 0] (oH [oM 14 0,oLf 15 1,oLf 16 2,oC 17 84 [.t 14,.t 15,.t 16],oM 9 17] (oS (oH [oM 18 9,oP 19 (.eq false false [.pt] (.t 18) (.k (.nilp)))] (oQ 19 (oH [oMi 8 (-1)] .ret) .skip)) (oH [oM 20 9,oNc 21 20,oFa 22 1 21,oLf 23 22,oC 24 85 [.t 23],oM 10 24,oMi 11 8] (oS (oH [oFa 25 0 3,oLf 26 25,oBk 27 .eql 26 3] (oQ 27 (oG [oM 28 0,oLf 29 1,oLf 30 2,oC 31 281 [.t 28,.t 29,.t 30,(kI 0)],oM 11 31]) (oS (oD [[oLt 33 6 3,oLf 34 4,oLf 35 1,oIa 36 6 34 35,oLt 37 6 36,oM 38 10],[oC 39 282 [.t 33,.t 37,.t 38]],[oM 32 39],[oEx 40 32 0,oEx 41 32 1,oM 12 40],[oM 13 41]]) (oH [oM 42 13] (oQ 42 (oG [oM 43 0,oLf 44 1,oLf 45 2,oM 46 12,oLf 47 5,oC 48 283 [.t 43,.t 44,.t 45,.t 46,.t 47,(kI 0)],oM 11 48]) .skip))))) (oS (oH [oM 49 11,oBk 50 .neq 49 0] (oQ 50 (oH [oM 51 11,oM 8 51] .ret) .skip)) (oH [oLf 52 6,oM 53 0,oLf 54 1,oM 55 10,oLf 56 2,⟨some 57,.call (.t 52) [.t 53,.t 54,.t 55,.t 56],none⟩,oM 8 57] .ret)))))))⟩
theorem jcx:jd Tryz.prog [] 280=some wd4:=yak9
def jcs:AFn:=⟨58,[.t 8],(oH [oBx 6 2,oMi 8 0] (oS (oH [oM 12 3,oBk 13 .gtr 12 12] (oQ 13 (oH [oMi 8 6] .ret) .skip)) (oH [oM 14 0,oM 15 1,oLf 16 6,oC 17 84 [.t 14,.t 15,.t 16],oM 9 17] (oS (oH [oM 18 9,oP 19 (.eq false false [.pt] (.t 18) (.k (.nilp)))] (oQ 19 (oH [oMi 8 9] .ret) .skip)) (oS (oD [[oM 21 0,oNc 22 21,oFa 23 0 22,oLf 24 23,oM 25 1,oIa 26 6 24 25,oFa 27 2 26,oLf 28 27,oM 29 9,oNc 30 29,oFa 31 1 30,oLf 32 31],[oC 33 297 [.t 28,.t 32]],[oM 20 33],[oEx 34 20 0,oEx 35 20 1,oM 10 34],[oM 11 35]]) (oS (oD [[oM 36 0,oNc 37 36,oFa 38 1 37,oLf 39 38,oM 40 1,oM 41 0,oNc 42 41,oFa 43 1 42,oLf 44 43,oM 45 1,oIa 46 1 44 45,oFa 47 0 46,oLf 48 47,oP 49 (.mkfn 344 [] [.t 6]),oC 50 343 [.t 48,.t 49]],[oIa 51 1 39 40],[oFa 52 0 51],[oSt 1 52 50]]) (oH [oM 53 0,oM 54 1,oM 55 10,oM 56 3,oC 57 345 [.t 53,.t 54,.t 55,(.k (.nils)),.t 56],oM 8 57] .ret)))))))⟩
theorem zax:jd Tryz.prog [6] 281=some jcs:=yak9
def zf8:AFn:=⟨50,[.t 6,.t 7],(oH [oBx 3 0,oBx 4 1,oP 6 (.mv (.k (.nils))),oMb 7 false] (oH [oM 13 2,oC 14 85 [.t 13],oM 8 14] (oS (oH [oFa 15 4 3,oLf 16 15,oLn 17 16,oMi 18 0] (.block 0 (.loop (oH [oBt 19 .lss 18 17] (oS (oQ 19 .skip (.exit 0)) (oS (.block 1 (oH [oIa 20 2 16 18,oLt 21 2 20,oP 10 (.alloc [.int .i64 0,.nils]),oSt 2 10 21] (oH [oFa 23 1 10,oLf 24 23,oM 25 2,oC 26 146 [.t 24,.t 25],oM 22 26,oEx 27 22 0,oEx 28 22 1,oP 11 (.alloc [.int .i64 0,.int .i64 0,.str []]),oSt 3 11 27,oM 12 28] (oS (oS (oD [[oM 29 12],[oUn 30 29],[oM 31 30],[oF 32 (.load true 3 (.t 11)) 31,ofa 33 1 4 31,ofl 34 33 31,ofa 35 0 10 31,ofl 36 35 31,ofi 37 6 34 36 31,ofa 38 1 37 31,ofl 39 38 31],[ofc 40 233 [.t 32,.t 39] 31],[oF 41 (.un .not (.t 40)) 31],[oPo 42 31 41]]) (oQ 42 (oH [oP 6 (.mv (.k (.nils))),oMb 7 false] .ret) .skip)) (oG [oM 43 8,oFa 44 0 10,oLf 45 44,oLt 46 3 11,oIa 47 3 43 45,oSt 3 47 46]))))) (oG [oBk 48 .add 18 1,oM 18 48]))))))) (oH [oM 49 8,oM 6 49,oMb 7 true] .ret))))⟩
def wcx:AFn:=⟨114,[.t 12],(oH [oMi 12 0] (oS (oH [oM 22 5,oBk 23 .gtr 22 12] (oQ 23 (oH [oMi 12 6] .ret) .skip)) (oH [oM 24 0,oNc 25 24,oFa 26 0 25,oLf 27 26,oM 28 1,oIa 29 6 27 28,oLt 30 6 29,oP 13 (.alloc [.str [],.nils,.nils,.nils,.nils,.nils]),oSt 6 13 30] (oS (oH [oM 31 4] (oQ 31 (oG [oLt 32 6 13,oM 33 3,oC 34 234 [.t 32,.t 33],oM 3 34]) .skip)) (oS (oH [oLt 35 6 13,oM 36 3,oC 37 235 [.t 35,.t 36],oM 14 37] (oH [oM 38 14,oBk 39 .neq 38 0] (oQ 39 (oH [oM 40 14,oM 12 40] .ret) .skip))) (oS (oH [oM 41 0,oM 42 1,oM 43 2,oM 44 3,oM 45 4,oM 46 5,oC 47 237 [.t 41,.t 42,.t 43,.t 44,.t 45,.t 46],oM 15 47] (oH [oM 48 15,oBk 49 .neq 48 0] (oQ 49 (oH [oM 50 15,oM 12 50] .ret) .skip))) (oH [oM 51 0,oM 52 1,oM 53 2,oC 54 84 [.t 51,.t 52,.t 53],oM 16 54] (oS (oH [oM 55 16,oP 56 (.eq false false [.pt] (.t 55) (.k (.nilp)))] (oQ 56 (oH [oMi 12 9] .ret) .skip)) (oS (oD [[oFa 58 2 13,oLf 59 58,oM 60 16,oNc 61 60,oFa 62 1 61,oLf 63 62],[oC 64 297 [.t 59,.t 63]],[oM 57 64],[oEx 65 57 0,oEx 66 57 1,oM 17 65],[oM 18 66]]) (oH [oFa 68 2 13,oLf 69 68,oM 70 3,oC 71 297 [.t 69,.t 70],oM 67 71,oEx 72 67 0,oEx 73 67 1,oM 19 72,oM 20 73] (oH [oM 74 16,oM 75 3,oC 76 85 [.t 75],oNc 77 74,oFa 78 1 77,oSt 1 78 76] (oS (oH [oM 79 17,oM 80 19,oC 81 346 [.t 79,.t 80],oUn 82 81] (oQ 82 (oH [oM 83 0,oM 84 1,oM 85 17,oM 86 19,oM 87 5,oC 88 345 [.t 83,.t 84,.t 85,.t 86,.t 87],oM 21 88] (oH [oM 89 21,oBk 90 .neq 89 0] (oQ 90 (oH [oM 91 21,oM 12 91] .ret) .skip))) .skip)) (oS (oH [oM 92 0,oM 93 1,oM 94 2,oC 95 84 [.t 92,.t 93,.t 94],oM 16 95] (oS (oD [[oM 96 16],[oP 97 (.eq true false [.pt] (.t 96) (.k (.nilp)))],[oM 98 97],[otm 99 0 98,oT 100 (.nilc (.t 99)) 98,ota 101 0 100 98,otl 102 101 98,otm 103 0 98,oT 104 (.nilc (.t 103)) 98,ota 105 1 104 98,otl 106 105 98,oT 107 (.load true 6 (.t 13)) 98,otm 108 16 98,oT 109 (.nilc (.t 108)) 98,ota 110 1 109 98,otl 111 110 98],[otc 112 223 [.t 102,.t 106,.t 107,.t 111,(.k (.bool false))] 98],[oPa 113 98 112]]) (oQ 113 (oH [oMi 12 5] .ret) .skip))) (oH [oMi 12 0] .ret))))))))))))))⟩
theorem wa2:jd Tryz.prog [] 283=some wcx:=yak9
def zi2:AFn:=⟨26,[.t 4],(oH [oBx 2 0,oBx 3 1,oMb 4 false] (oS (oH [oFa 5 0 2,oLf 6 5,oFa 7 0 3,oLf 8 7,oBt 9 .neq 6 8] (oQ 9 (oH [oMb 4 false] .ret) .skip)) (oS (oH [oFa 10 1 2,oLf 11 10,oFa 12 1 3,oLf 13 12,oBt 14 .neq 11 13] (oQ 14 (oH [oMb 4 false] .ret) .skip)) (oS (oH [oFa 15 2 2,oLf 16 15,oFa 17 2 3,oLf 18 17,oP 19 (.eq true false [.b] (.t 16) (.t 18))] (oQ 19 (oH [oMb 4 false] .ret) .skip)) (oS (oH [oFa 20 3 2,oLt 21 3 20,oFa 22 3 3,oLt 23 3 22,oC 24 290 [.t 21,.t 23],oUn 25 24] (oQ 25 (oH [oMb 4 false] .ret) .skip)) (oH [oMb 4 true] .ret))))))⟩
def jf8:AFn:=⟨11,[.t 4],(oH [oBx 2 0,oBx 3 1,oMb 4 false] (oS (oH [oFa 5 0 2,oLf 6 5,oFa 7 0 3,oLf 8 7,oC 9 193 [.t 6,.t 8],oUn 10 9] (oQ 10 (oH [oMb 4 false] .ret) .skip)) (oH [oMb 4 true] .ret)))⟩
def wg6:AFn:=⟨11,[.t 4],(oH [oBx 2 0,oBx 3 1,oMb 4 false] (oS (oH [oFa 5 0 2,oLf 6 5,oFa 7 0 3,oLf 8 7,oC 9 91 [.t 6,.t 8],oUn 10 9] (oQ 10 (oH [oMb 4 false] .ret) .skip)) (oH [oMb 4 true] .ret)))⟩
def jjx:AFn:=⟨31,[.t 4],(oH [oBx 2 0,oBx 3 1,oMb 4 false] (oS (oH [oFa 5 0 2,oLf 6 5,oFa 7 0 3,oLf 8 7,oC 9 193 [.t 6,.t 8],oUn 10 9] (oQ 10 (oH [oMb 4 false] .ret) .skip)) (oS (oH [oFa 11 1 2,oLf 12 11,oFa 13 1 3,oLf 14 13,oBt 15 .neq 12 14] (oQ 15 (oH [oMb 4 false] .ret) .skip)) (oS (oH [oFa 16 2 2,oLf 17 16,oFa 18 2 3,oLf 19 18,oBt 20 .neq 17 19] (oQ 20 (oH [oMb 4 false] .ret) .skip)) (oS (oH [oFa 21 3 2,oLf 22 21,oFa 23 3 3,oLf 24 23,oBt 25 .neq 22 24] (oQ 25 (oH [oMb 4 false] .ret) .skip)) (oS (oH [oFa 26 4 2,oLf 27 26,oFa 28 4 3,oLf 29 28,oP 30 (.eq true false [.b] (.t 27) (.t 29))] (oQ 30 (oH [oMb 4 false] .ret) .skip)) (oH [oMb 4 true] .ret)))))))⟩
def wh5:AFn:=⟨11,[.t 4],(oH [oBx 2 0,oBx 3 1,oMb 4 false] (oS (oH [oFa 5 0 2,oLf 6 5,oFa 7 0 3,oLf 8 7,oC 9 91 [.t 6,.t 8],oUn 10 9] (oQ 10 (oH [oMb 4 false] .ret) .skip)) (oH [oMb 4 true] .ret)))⟩
def zh6:AFn:=⟨27,[.t 4],(oH [oMb 4 false] (oS (oH [oM 6 0,oLn 7 6,oM 8 1,oLn 9 8,oBt 10 .neq 7 9] (oQ 10 (oH [oMb 4 false] .ret) .skip)) (oS (oH [oMi 5 0] (.block 0 (.loop (oS (oH [oM 11 5,oM 12 0,oLn 13 12,oBt 14 .lss 11 13] (oQ 14 .skip (.exit 0))) (oS (.block 1 (oS (oD [[oM 17 0,oM 18 5,oIa 19 3 17 18,oLt 20 3 19,oM 21 1,oM 22 5,oIa 23 3 21 22,oLt 24 3 23],[oC 25 290 [.t 20,.t 24]],[oUn 26 25]]) (oQ 26 (oH [oMb 4 false] .ret) .skip))) (oG [oM 15 5,oBk 16 .add 15 1,oM 5 16])))))) (oH [oMb 4 true] .ret))))⟩
def ji2:AFn:=⟨20,[.t 4],(oH [oBx 2 0,oBx 3 1,oMb 4 false] (oS (oH [oFa 5 0 2,oLf 6 5,oFa 7 0 3,oLf 8 7,oBt 9 .neq 6 8] (oQ 9 (oH [oMb 4 false] .ret) .skip)) (oS (oH [oFa 10 1 2,oLf 11 10,oFa 12 1 3,oLf 13 12,oBt 14 .neq 11 13] (oQ 14 (oH [oMb 4 false] .ret) .skip)) (oS (oH [oFa 15 2 2,oLf 16 15,oFa 17 2 3,oLf 18 17,oBt 19 .neq 16 18] (oQ 19 (oH [oMb 4 false] .ret) .skip)) (oH [oMb 4 true] .ret)))))⟩
def jbt:AFn:=⟨9,[.t 4],(oH [oMb 4 false] (oH [oM 5 0,oM 6 1,oC 7 350 [.t 5,.t 6],oBk 8 .geq 7 0,oM 4 8] .ret))⟩
theorem waj:jd Tryz.prog [] 293=some jbt:=yak9
def zd5:AFn:=⟨9,[.t 3],(oH [oBx 2 0,oMb 3 false] (oH [oFa 4 0 2,oLf 5 4,oLf 6 1,oC 7 56 [.t 5,.t 6],oBk 8 .lss 7 1,oM 3 8] .ret))⟩
def za4:AFn:=⟨9,[.t 4],(oH [oMb 4 false] (oH [oM 5 0,oM 6 1,oC 7 351 [.t 5,.t 6],oBk 8 .geq 7 0,oM 4 8] .ret))⟩
theorem jax:jd Tryz.prog [] 295=some za4:=yak9
def wf8:AFn:=⟨21,[.t 4],(oH [oMb 4 false] (oH [oM 8 0,oLf 9 1,oC 10 297 [.t 8,.t 9],oM 7 10,oEx 11 7 0,oEx 12 7 1,oM 5 11,oM 6 12] (oH [oM 13 6,oM 14 13,otm 15 0 14,ota 16 1 2 14,otl 17 16 14,otm 18 5 14,otc 19 298 [.t 15,.t 17,.t 18] 14,oPa 20 14 19,oM 4 20] .ret)))⟩
def wi2:AFn:=⟨36,[.t 4,.t 5],(oH [oP 4 (.mv (.k (.nils))),oMb 5 false] (oH [oP 10 (.mksl false 3 0 [.int .i64 0,.int .i64 0,.str []] []),oM 6 10,oMb 7 true] (oS (oH [oM 11 0,oLn 12 11,oMi 13 0] (.block 0 (.loop (oH [oBt 14 .lss 13 12] (oS (oQ 14 .skip (.exit 0)) (oS (.block 1 (oH [oIa 15 1 11 13,oLf 16 15,oM 9 16] (oH [oM 17 6,oM 18 1,oM 19 9,oIa 20 3 18 19,oLt 21 3 20,oP 22 (.mksl true 3 1 [.int .i64 0,.int .i64 0,.str []] [(0,(.t 21))]),oP 23 (.app 3 32 (.t 17) (.t 22)),oM 6 23] (oG [oM 24 7,oM 25 24,otm 26 1 25,otm 27 9 25,oti 28 3 26 27 25,ota 29 0 28 25,otl 30 29 25,oT 31 (.bin .neq (.t 30) (kI 0)) 25,oPa 32 25 31,oM 7 32])))) (oG [oBk 33 .add 13 1,oM 13 33]))))))) (oH [oM 34 6,oM 35 7,oM 4 34,oM 5 35] .ret))))⟩
theorem zf9:jd Tryz.prog [22] 297=some wi2:=yak9
def jkw:AFn:=⟨21,[.t 6],(oH [oMb 6 false] (oH [oM 10 0,oM 11 1,oC 12 297 [.t 10,.t 11],oM 9 12,oEx 13 9 0,oEx 14 9 1,oM 7 13,oM 8 14] (oH [oM 15 8,oM 16 15,otm 17 7 16,otm 18 2 16,otc 19 346 [.t 17,.t 18] 16,oPa 20 16 19,oM 6 20] .ret)))⟩
def jd5:AFn:=⟨20,[.t 6],(oH [oBx 5 0,oMb 6 false] (oH [oLf 7 1,oM 8 7,ofa 9 4 5 8,ofl 10 9 8,oF 11 (.un .not (.t 10)) 8,oPo 12 8 11,oM 13 12,otl 14 2 13,otl 15 3 13,oT 16 (.load true 5 (.t 5)) 13,otl 17 4 13,otc 18 300 [.t 14,.t 15,.t 16,.t 17] 13,oPa 19 13 18,oM 6 19] .ret))⟩
def jh6:AFn:=⟨40,[.t 8],(oH [oBx 6 2,oMb 8 false] (oH [oM 12 0,oFa 13 1 6,oLf 14 13,oC 15 48 [.t 12,.t 14],oM 9 15] (oH [oFa 17 0 6,oLf 18 17,oM 19 3,oC 20 297 [.t 18,.t 19],oM 16 20,oEx 21 16 0,oEx 22 16 1,oM 10 21,oM 11 22] (oS (oD [[oM 23 11],[oM 24 23],[otm 25 1 24,otm 26 9 24,oti 27 1 25 26 24,ota 28 0 27 24,otl 29 28 24,otm 30 0 24,otm 31 9 24,oti 32 6 30 31 24,ota 33 2 32 24,otl 34 33 24,otm 35 10 24],[otc 36 352 [.t 29,.t 34,.t 35] 24],[oT 37 (.len false (.t 36)) 24],[oT 38 (.bin .eql (.t 37) (kI 0)) 24],[oPa 39 24 38],[oM 8 39]]) .ret))))⟩
def zi3:AFn:=⟨31,[.t 2],(oH [oBx 1 0,oMb 2 false] (oS (oH [oFa 3 0 1,oLf 4 3] (.block 0 (oH [oBk 6 .eql 4 0,oM 5 6] (oQ 5 (oH [oLt 7 3 1,oP 8 (.build [.int .i64 0,.int .i64 0,.str []] []),oP 9 (.eq false true [.i,.i,.s] (.t 7) (.t 8)),oM 2 9] .ret) (oH [oBk 11 .eql 4 1,oM 10 11] (oQ 10 (oH [oFa 12 1 1,oLf 13 12,oC 14 177 [.t 13,(kI (-1000000000)),(kI 1000000000)],oM 15 14,ota 16 2 1 15,otl 17 16 15,oT 18 (.bin .eql (.t 17) (.k (.str []))) 15,oPa 19 15 18,oM 2 19] .ret) (oH [oBk 21 .eql 4 2,oM 20 21] (oQ 20 (oH [oFa 22 1 1,oLf 23 22,oBk 24 .eql 23 0,oM 25 24,ota 26 2 1 25,otl 27 26 25,oT 28 (.len true (.t 27)) 25,oT 29 (.bin .leq (.t 28) (kI 12)) 25,oPa 30 25 29,oM 2 30] .ret) .skip)))))))) (oH [oMb 2 false] .ret)))⟩
def ji3:AFn:=⟨44,[.t 4],(oH [oBx 2 0,oMb 4 false] (oS (oH [oFa 5 0 2,oLf 6 5] (.block 0 (oH [oBk 8 .eql 6 1,oM 7 8] (oQ 7 (oH [oFa 9 1 2,oLf 10 9,oM 11 1,oBk 12 .sub 11 1,oC 13 177 [.t 10,(kI 0),.t 12],oM 14 13,ota 15 2 2 14,oT 16 (.load true 3 (.t 15)) 14,oT 17 (.build [.int .i64 0,.int .i64 0,.str []] []) 14,oT 18 (.eq false true [.i,.i,.s] (.t 16) (.t 17)) 14,oPa 19 14 18,oM 4 19] .ret) (oH [oBk 21 .eql 6 2,oM 20 21] (oQ 20 (oH [oFa 22 1 2,oLf 23 22,oBk 24 .eql 23 0,oM 25 24,ota 26 2 2 25,oT 27 (.load true 3 (.t 26)) 25,otc 28 305 [.t 27] 25,oPa 29 25 28,oM 4 29] .ret) .skip)))))) (oH [oFa 30 0 2,oLf 31 30,oC 32 177 [.t 31,(kI 3),(kI 10)],oM 33 32,ota 34 1 2 33,otl 35 34 33,oT 36 (.bin .eql (.t 35) (kI 0)) 33,oPa 37 33 36,oM 38 37,ota 39 2 2 38,oT 40 (.load true 3 (.t 39)) 38,oT 41 (.build [.int .i64 0,.int .i64 0,.str []] []) 38,oT 42 (.eq false true [.i,.i,.s] (.t 40) (.t 41)) 38,oPa 43 38 42,oM 4 43] .ret)))⟩
def wi3:AFn:=⟨11,[.m 2 true 3,.t 3],(oH [oP 2 (.alloc [.int .i64 0,.int .i64 0,.str []]),oMb 3 false] (oS (oH [oM 4 0,oBk 5 .eql 4 2] (oQ 5 (oH [oP 6 (.build [.int .i64 0,.int .i64 0,.str []] []),oSt 3 2 6,oMb 3 true] .ret) .skip)) (oH [oM 7 0,oP 8 (.build [.int .i64 0,.int .i64 0,.str []] [(0,1,(kI 1)),(1,1,(.t 7))]),oM 9 0,oBk 10 .geq 9 0,oSt 3 2 8,oM 3 10] .ret)))⟩
def wh6:AFn:=⟨13,[.t 4],(oH [oBx 2 0,oBx 3 1,oMi 4 0] (oS (oH [oLt 5 3 2,oLt 6 3 3,oC 7 354 [.t 5,.t 6],oUn 8 7] (oQ 8 (oH [oMi 4 2] .ret) .skip)) (oH [oLt 9 3 2,oLt 10 3 3,oP 11 (.eq false true [.i,.i,.s] (.t 9) (.t 10)),oC 12 244 [.t 11],oM 4 12] .ret)))⟩
def zi4:AFn:=⟨14,[.t 4],(oH [oBx 2 0,oBx 3 1,oMi 4 0] (oS (oH [oLt 5 3 2,oLt 6 3 3,oC 7 354 [.t 5,.t 6],oUn 8 7] (oQ 8 (oH [oMi 4 2] .ret) .skip)) (oH [oLt 9 3 2,oLt 10 3 3,oC 11 355 [.t 9,.t 10],oBk 12 .lss 11 0,oC 13 244 [.t 12],oM 4 13] .ret)))⟩
def wjx:AFn:=⟨25,[.t 4],(oH [oMi 4 0] (oS (.block 0 (oH [oM 6 0,oM 7 1,oP 8 (.mksl true 1 2 [.int .i64 0] [(0,(.t 6)),(1,(.t 7))]),oC 9 356 [.t 8],oUn 10 9,oM 5 10] (oQ 5 (oH [oMi 4 (-1)] .ret) (oH [oM 12 0,oBk 13 .eql 12 0,oM 14 13,ofm 15 1 14,oF 16 (.bin .eql (.t 15) (kI 0)) 14,oPo 17 14 16,oM 11 17] (oQ 11 (oH [oMi 4 0] .ret) (oH [oM 19 0,oBk 20 .eql 19 1,oM 21 20,otm 22 1 21,oT 23 (.bin .eql (.t 22) (kI 1)) 21,oPa 24 21 23,oM 18 24] (oQ 18 (oH [oMi 4 1] .ret) .skip))))))) (oH [oMi 4 2] .ret)))⟩
def wkw:AFn:=⟨25,[.t 4],(oH [oMi 4 0] (oS (.block 0 (oH [oM 6 0,oM 7 1,oP 8 (.mksl true 1 2 [.int .i64 0] [(0,(.t 6)),(1,(.t 7))]),oC 9 356 [.t 8],oUn 10 9,oM 5 10] (oQ 5 (oH [oMi 4 (-1)] .ret) (oH [oM 12 0,oBk 13 .eql 12 1,oM 14 13,ofm 15 1 14,oF 16 (.bin .eql (.t 15) (kI 1)) 14,oPo 17 14 16,oM 11 17] (oQ 11 (oH [oMi 4 1] .ret) (oH [oM 19 0,oBk 20 .eql 19 0,oM 21 20,otm 22 1 21,oT 23 (.bin .eql (.t 22) (kI 0)) 21,oPa 24 21 23,oM 18 24] (oQ 18 (oH [oMi 4 0] .ret) .skip))))))) (oH [oMi 4 2] .ret)))⟩
def zjy:AFn:=⟨13,[.t 2],(oH [oMi 2 0] (oS (.block 0 (oH [oM 4 0,oP 5 (.mksl true 1 1 [.int .i64 0] [(0,(.t 4))]),oC 6 356 [.t 5],oUn 7 6,oM 3 7] (oQ 3 (oH [oMi 2 (-1)] .ret) (oH [oM 9 0,oBk 10 .eql 9 2,oM 8 10] (oQ 8 (oH [oMi 2 2] .ret) .skip))))) (oH [oM 11 0,oP 12 (.bin .sub (kI 1) (.t 11)),oM 2 12] .ret)))⟩
def ji4:AFn:=⟨40,[.m 6 true 3,.t 7],(oH [oBx 3 0,oBx 4 1,oP 6 (.alloc [.int .i64 0,.int .i64 0,.str []]),oMb 7 false] (oS (.block 0 (oH [oFa 10 0 3,oLf 11 10,oBk 12 .eql 11 2,oM 13 12,ofa 14 0 4 13,ofl 15 14 13,oF 16 (.bin .eql (.t 15) (kI 2)) 13,oPo 17 13 16,oM 9 17] (oQ 9 (oH [oP 18 (.build [.int .i64 0,.int .i64 0,.str []] []),oSt 3 6 18,oMb 7 false] .ret) (oH [oFa 20 0 3,oLf 21 20,oBk 22 .eql 21 0,oM 23 22,ofa 24 0 4 23,ofl 25 24 23,oF 26 (.bin .eql (.t 25) (kI 0)) 23,oPo 27 23 26,oM 19 27] (oQ 19 (oH [oP 28 (.build [.int .i64 0,.int .i64 0,.str []] []),oSt 3 6 28,oMb 7 true] .ret) .skip))))) (oH [oFa 29 1 3,oLf 30 29,oM 31 2,oFa 32 1 4,oLf 33 32,oBt 34 .mul 31 33,oBt 35 .add 30 34,oP 36 (.build [.int .i64 0,.int .i64 0,.str []] [(0,1,(kI 1)),(1,1,(.t 35))]),oP 8 (.alloc [.int .i64 0,.int .i64 0,.str []]),oSt 3 8 36] (oS (oD [[oLt 37 3 8,oLt 38 3 8,oC 39 305 [.t 38]],[oSt 3 6 37],[oM 7 39]]) .ret))))⟩
def zh7:AFn:=⟨33,[.t 4],(oH [oMb 4 false] (oS (oH [oMi 5 0] (.block 0 (.loop (oS (oH [oM 6 5,oM 7 0,oLn 8 7,oBt 9 .lss 6 8] (oQ 9 .skip (.exit 0))) (oS (.block 1 (oS (oD [[oM 12 0,oM 13 5,oIa 14 1 12 13,oLf 15 14,oM 16 1,oBk 17 .sub 16 1],[oC 18 72 [.t 15,(kI 0),.t 17]],[oUn 19 18],[oM 20 19],[ofm 21 0 20,ofm 22 5 20,oF 23 (.slice 1 (.t 21) none (some (.t 22)) none) 20,ofm 24 0 20,ofm 25 5 20,ofi 26 1 24 25 20,ofl 27 26 20],[ofc 28 357 [.t 23,.t 27] 20],[oPo 29 20 28]]) (oQ 29 (oH [oMb 4 false] .ret) .skip))) (oG [oM 10 5,oBk 11 .add 10 1,oM 5 11])))))) (oH [oM 30 0,oLn 31 30,oBk 32 .gtr 31 0,oM 4 32] .ret)))⟩
def wi4:AFn:=⟨22,[.t 4],(oH [oBx 2 0,oMi 4 0] (oS (oH [oMi 5 0] (.block 0 (.loop (oS (oH [oM 6 5,oFa 7 1 2,oLf 8 7,oLn 9 8,oBt 10 .lss 6 9] (oQ 10 .skip (.exit 0))) (oS (.block 1 (oH [oFa 13 1 2,oLf 14 13,oM 15 5,oIa 16 6 14 15,oFa 17 0 16,oLf 18 17,oM 19 1,oBt 20 .eql 18 19] (oQ 20 (oH [oM 21 5,oM 4 21] .ret) .skip))) (oG [oM 11 5,oBk 12 .add 11 1,oM 5 12])))))) (oH [oMi 4 (-1)] .ret)))⟩
def zi5:AFn:=⟨4,[.t 2],(oH [oMi 2 0] (oS (oH [oM 3 0] (oQ 3 (oH [oMi 2 1] .ret) .skip)) (oH [oMi 2 0] .ret)))⟩
def jjy:AFn:=⟨8,[.m 2 true 3],(oH [oP 2 (.alloc [.int .i64 0,.int .i64 0,.str []])] (oS (oH [oM 3 0,oBk 4 .eql 3 2] (oQ 4 (oH [oP 5 (.build [.int .i64 0,.int .i64 0,.str []] []),oSt 3 2 5] .ret) .skip)) (oH [oM 6 0,oC 7 224 [.t 6],oSt 3 2 7] .ret)))⟩
def wjy:AFn:=⟨10,[.t 2],(oH [oMi 2 0] (oS (oH [oM 3 0] (.block 0 (oH [oBk 5 .eql 3 0,oM 4 5] (oQ 4 (oH [oMi 2 1] .ret) (oH [oBk 7 .eql 3 1,oM 6 7] (oQ 6 (oH [oMi 2 0] .ret) (oH [oBk 9 .eql 3 2,oM 8 9] (oQ 8 (oH [oMi 2 2] .ret) .skip)))))))) (oH [oMi 2 (-1)] .ret)))⟩
def ji5:AFn:=⟨66,[.m 6 true 3,.t 7],(oH [oBx 4 1,oBx 5 2,oP 6 (.alloc [.int .i64 0,.int .i64 0,.str []]),oMb 7 false] (oS (oH [oM 12 0] (.block 0 (oH [oBk 14 .eql 12 3,oM 13 14] (oQ 13 (oH [oLt 15 3 4,oLt 16 3 5,oC 17 358 [.t 15,.t 16],oC 18 317 [.t 17],oSt 3 6 18,oMb 7 true] .ret) (oH [oBk 20 .eql 12 4,oM 19 20] (oQ 19 (oH [oLt 21 3 4,oLt 22 3 5,oC 23 359 [.t 21,.t 22],oC 24 317 [.t 23],oSt 3 6 24,oMb 7 true] .ret) (oH [oBk 26 .eql 12 9,oM 25 26] (oQ 25 (oH [oLt 27 3 4,oLt 28 3 5,oC 29 360 [.t 27,.t 28,(kI 1)],oEx 30 29 0,oEx 31 29 1,oSt 3 6 30,oM 7 31] .ret) (oH [oBk 33 .eql 12 10,oM 32 33] (oQ 32 (oH [oLt 34 3 4,oLt 35 3 5,oC 36 360 [.t 34,.t 35,(kI (-1))],oEx 37 36 0,oEx 38 36 1,oSt 3 6 37,oM 7 38] .ret) .skip)))))))))) (oH [oLt 40 3 4,oC 41 255 [.t 40],oM 39 41,oEx 42 39 0,oEx 43 39 1,oM 8 42,oM 9 43] (oH [oLt 45 3 5,oC 46 255 [.t 45],oM 44 46,oEx 47 44 0,oEx 48 44 1,oM 10 47,oM 11 48] (oS (oH [oM 49 9,oUn 50 49,oM 51 50,ofm 52 11 51,oF 53 (.un .not (.t 52)) 51,oPo 54 51 53] (oQ 54 (oH [oP 55 (.build [.int .i64 0,.int .i64 0,.str []] []),oSt 3 6 55,oMb 7 false] .ret) .skip)) (oS (oH [oM 56 0,oBk 57 .eql 56 5] (oQ 57 (oH [oM 58 8,oM 59 10,oC 60 361 [.t 58,.t 59],oC 61 317 [.t 60],oSt 3 6 61,oMb 7 true] .ret) .skip)) (oH [oM 62 8,oM 63 10,oC 64 362 [.t 62,.t 63],oC 65 317 [.t 64],oSt 3 6 65,oMb 7 true] .ret)))))))⟩
def jf9:AFn:=⟨41,[.t 4],(oH [oBx 2 0,oP 4 (.mv (.k (.nils)))] (oH [oP 8 (.mksl false 3 0 [.int .i64 0,.int .i64 0,.str []] []),oM 5 8] (oS (oH [oMi 6 0] (.block 0 (.loop (oS (oH [oM 9 6,oM 10 1,oLn 11 10,oBt 12 .lss 9 11] (oQ 12 .skip (.exit 0))) (oS (.block 1 (oH [oM 15 1,oM 16 6,oIa 17 3 15 16,oLt 18 3 17,oP 7 (.alloc [.int .i64 0,.int .i64 0,.str []]),oSt 3 7 18] (oS (oH [oFa 19 0 7,oLf 20 19,oBk 21 .eql 20 0,oM 22 21,ota 23 1 2 22,otl 24 23 22,otm 25 6 22,oti 26 6 24 25 22,ota 27 2 26 22,otl 28 27 22,oPa 29 22 28] (oQ 29 (oG [oFa 30 1 2,oLf 31 30,oM 32 6,oIa 33 6 31 32,oFa 34 3 33,oLt 35 3 34,oSt 3 7 35]) .skip)) (oG [oM 36 5,oLt 37 3 7,oP 38 (.mksl true 3 1 [.int .i64 0,.int .i64 0,.str []] [(0,(.t 37))]),oP 39 (.app 3 32 (.t 36) (.t 38)),oM 5 39])))) (oG [oM 13 6,oBk 14 .add 13 1,oM 6 14])))))) (oH [oM 40 5,oM 4 40] .ret))))⟩
def jh7:AFn:=⟨15,[.t 4],(oH [oBx 2 0,oMi 4 0] (oS (.block 0 (oH [oLt 6 6 2,oM 7 1,oC 8 347 [.t 6,.t 7],oUn 9 8,oM 5 9] (oQ 5 (oH [oMi 4 2] .ret) (oH [oLt 11 6 2,oM 12 1,oC 13 348 [.t 11,.t 12],oUn 14 13,oM 10 14] (oQ 10 (oH [oMi 4 3] .ret) .skip))))) (oH [oMi 4 0] .ret)))⟩
def zg7:AFn:=⟨69,[.t 12,.t 13],(oH [oBx 9 3,oP 12 (.mv (.k (.nils))),oMi 13 0] (oS (oD [[oM 18 0,oM 19 2,oIa 20 6 18 19,oLt 21 6 20,oM 22 1,oM 23 2,oIa 24 1 22 23,oLt 25 1 24,oLt 26 2 9],[oC 27 363 [.t 21,.t 25,.t 26]],[oM 14 27]]) (oS (oH [oM 28 14,oLn 29 28,oBk 30 .gtr 29 0,oM 31 30,otm 32 4 31,oT 33 (.un .not (.t 32)) 31,oPa 34 31 33] (oQ 34 (oH [oP 12 (.mv (.k (.nils))),oMi 13 4] .ret) .skip)) (oS (oH [oMi 15 0] (.block 0 (.loop (oS (oH [oM 35 15,oM 36 14,oLn 37 36,oBt 38 .lss 35 37] (oQ 38 .skip (.exit 0))) (oS (.block 1 (oS (oS (oD [[oM 41 1,oM 42 2,oIa 43 1 41 42,oLt 44 1 43,oM 45 14,oM 46 15,oIa 47 1 45 46,oLf 48 47],[oC 49 70 [.t 44,.t 48]],[oBk 50 .lss 49 0]]) (oQ 50 (.exit 1) .skip)) (oH [oM 52 0,oM 53 1,oM 54 2,oM 55 14,oM 56 15,oIa 57 1 55 56,oLf 58 57,oM 59 5,oBk 60 .add 59 1,oC 61 257 [.t 52,.t 53,.t 54,.t 58,.t 60],oM 51 61,oEx 62 51 0,oEx 63 51 1,oM 16 62,oM 17 63] (oS (oH [oM 64 17,oBk 65 .neq 64 0] (oQ 65 (oH [oM 66 17,oP 12 (.mv (.k (.nils))),oM 13 66] .ret) .skip)) (oG [oM 67 16,oM 1 67]))))) (oG [oM 39 15,oBk 40 .add 39 1,oM 15 40])))))) (oH [oM 68 1,oM 12 68,oMi 13 0] .ret)))))⟩
def wh7:AFn:=⟨16,[.t 6],(oH [oBx 5 2,oP 6 (.mv (.k (.nils)))] (oH [oP 8 (.mksl false 1 0 [.nils] []),oM 9 0,oP 10 (.app 1 24 (.t 8) (.t 9)),oM 7 10] (oH [oM 11 7,oM 12 1,oLt 13 1 5,oIa 14 1 11 12,oSt 1 14 13] (oH [oM 15 7,oM 6 15] .ret))))⟩
def wi5:AFn:=⟨58,[.m 4 true 1],(oH [oBx 2 0,oBx 3 1,oP 4 (.alloc [.nils])] (oH [oP 8 (.mksl false 2 0 [.int .i64 0,.nils] []),oM 5 8] (oH [oMb 6 false] (oS (oH [oMi 7 0] (.block 0 (.loop (oS (oH [oM 9 7,oFa 10 0 2,oLf 11 10,oLn 12 11,oBt 13 .lss 9 12] (oQ 13 .skip (.exit 0))) (oS (.block 1 (oS (oS (oD [[oM 16 6],[oUn 17 16],[oM 18 17],[ota 19 0 2 18,otl 20 19 18,otm 21 7 18,oti 22 2 20 21 18,ota 23 0 22 18,otl 24 23 18,ota 25 0 3 18,otl 26 25 18],[oT 27 (.bin .geq (.t 24) (.t 26)) 18],[oPa 28 18 27]]) (oQ 28 (oH [oM 29 5,oLt 30 2 3,oP 31 (.mksl true 2 1 [.int .i64 0,.nils] [(0,(.t 30))]),oP 32 (.app 2 32 (.t 29) (.t 31)),oM 5 32] (oG [oMb 6 true])) .skip)) (oS (oD [[oFa 33 0 2,oLf 34 33,oM 35 7,oIa 36 2 34 35,oFa 37 0 36,oLf 38 37,oFa 39 0 3,oLf 40 39],[oBt 41 .neq 38 40]]) (oQ 41 (oG [oM 42 5,oFa 43 0 2,oLf 44 43,oM 45 7,oIa 46 2 44 45,oLt 47 2 46,oP 48 (.mksl true 2 1 [.int .i64 0,.nils] [(0,(.t 47))]),oP 49 (.app 2 32 (.t 42) (.t 48)),oM 5 49]) .skip)))) (oG [oM 14 7,oBk 15 .add 14 1,oM 7 15])))))) (oS (oH [oM 50 6,oUn 51 50] (oQ 51 (oG [oM 52 5,oLt 53 2 3,oP 54 (.mksl true 2 1 [.int .i64 0,.nils] [(0,(.t 53))]),oP 55 (.app 2 32 (.t 52) (.t 54)),oM 5 55]) .skip)) (oH [oM 56 5,oP 57 (.build [.nils] [(0,1,(.t 56))]),oSt 1 4 57] .ret))))))⟩
def wf9:AFn:=⟨45,[.t 10],(oH [oMb 10 false] (oS (oH [oMi 11 0] (.block 0 (.loop (oS (oH [oM 13 11,oM 14 0,oM 15 2,oIa 16 6 14 15,oFa 17 5 16,oLf 18 17,oLn 19 18,oBt 20 .lss 13 19] (oQ 20 .skip (.exit 0))) (oS (.block 1 (oH [oM 23 0,oM 24 2,oIa 25 6 23 24,oFa 26 5 25,oLf 27 26,oM 28 11,oIa 29 5 27 28,oLt 30 5 29,oP 12 (.alloc [.nils,.str [],.int .i64 0,.int .i64 0,.bool false]),oSt 5 12 30] (oH [oM 31 4,oM 32 31,ota 33 4 12 32,otl 34 33 32,oPa 35 32 34,oUn 36 35,oM 37 36,otm 38 0 37,otm 39 1 37,oT 40 (.load true 5 (.t 12)) 37,otm 41 3 37,otc 42 364 [.t 38,.t 39,.t 40,.t 41] 37,oT 43 (.un .not (.t 42)) 37,oPa 44 37 43] (oQ 44 (oH [oMb 10 false] .ret) .skip)))) (oG [oM 21 11,oBk 22 .add 21 1,oM 11 22])))))) (oH [oMb 10 true] .ret)))⟩
def zi6:AFn:=⟨36,[.t 4,.t 5],(oH [oP 4 (.mv (.k (.nils))),oMb 5 false] (oH [oP 10 (.mksl false 3 0 [.int .i64 0,.int .i64 0,.str []] []),oM 6 10] (oH [oMb 7 true] (oS (oH [oMi 8 0] (.block 0 (.loop (oS (oH [oM 11 8,oM 12 0,oLn 13 12,oBt 14 .lss 11 13] (oQ 14 .skip (.exit 0))) (oS (.block 1 (oH [oM 17 1,oM 18 0,oM 19 8,oIa 20 1 18 19,oLf 21 20,oIa 22 3 17 21,oLt 23 3 22,oP 9 (.alloc [.int .i64 0,.int .i64 0,.str []]),oSt 3 9 23] (oH [oM 24 6,oLt 25 3 9,oP 26 (.mksl true 3 1 [.int .i64 0,.int .i64 0,.str []] [(0,(.t 25))]),oP 27 (.app 3 32 (.t 24) (.t 26)),oM 6 27] (oG [oM 28 7,oM 29 28,ota 30 0 9 29,otl 31 30 29,oT 32 (.bin .neq (.t 31) (kI 0)) 29,oPa 33 29 32,oM 7 33])))) (oG [oM 15 8,oBk 16 .add 15 1,oM 8 16])))))) (oH [oM 34 6,oM 35 7,oM 4 34,oM 5 35] .ret)))))⟩
theorem zga:jd Tryz.prog [26] 326=some zi6:=yak9
def jeo:AFn:=⟨82,[.t 14,.t 15],(oH [oP 14 (.mv (.k (.nils))),oMi 15 0] (oS (oH [oMi 16 0] (.block 0 (.loop (oS (oH [oM 22 16,oM 23 0,oLn 24 23,oBt 25 .lss 22 24] (oQ 25 .skip (.exit 0))) (oS (.block 1 (oH [oMi 17 0] (.block 2 (.loop (oS (oH [oM 28 17,oM 29 0,oM 30 16,oIa 31 6 29 30,oFa 32 5 31,oLf 33 32,oLn 34 33,oBt 35 .lss 28 34] (oQ 35 .skip (.exit 2))) (oS (.block 3 (oH [oM 38 0,oM 39 16,oIa 40 6 38 39,oFa 41 5 40,oLf 42 41,oM 43 17,oIa 44 5 42 43,oLt 45 5 44,oP 18 (.alloc [.nils,.str [],.int .i64 0,.int .i64 0,.bool false]),oSt 5 18 45] (oS (oS (oD [[oFa 46 1 18,oLf 47 46,oM 48 0,oM 49 2,oIa 50 6 48 49,oFa 51 0 50,oLf 52 51],[oBt 53 .neq 47 52]]) (oQ 53 (.exit 3) .skip)) (oH [oFa 54 3 18,oLf 55 54,oFa 56 4 18,oLf 57 56,oFa 58 0 18,oLf 59 58,oP 60 (.build [.int .i64 0,.bool false,.nils] [(0,1,(.t 55)),(1,1,(.t 57)),(2,1,(.t 59))]),oP 19 (.alloc [.int .i64 0,.bool false,.nils]),oSt 3 19 60] (oS (oH [oM 61 5] (oQ 61 (oG [oFa 62 2 18,oLf 63 62,oFa 64 0 19,oSt 1 64 63]) .skip)) (oH [oM 66 0,oM 67 1,oM 68 16,oLt 69 3 19,oM 70 3,oM 71 4,oM 72 5,oM 73 6,oC 74 365 [.t 66,.t 67,.t 68,.t 69,.t 70,.t 71,.t 72,.t 73],oM 65 74,oEx 75 65 0,oEx 76 65 1,oM 20 75,oM 21 76] (oS (oH [oM 77 21,oBk 78 .neq 77 0] (oQ 78 (oH [oM 79 21,oP 14 (.mv (.k (.nils))),oM 15 79] .ret) .skip)) (oG [oM 80 20,oM 1 80])))))))) (oG [oM 36 17,oBk 37 .add 36 1,oM 17 37]))))))) (oG [oM 26 16,oBk 27 .add 26 1,oM 16 27])))))) (oH [oM 81 1,oM 14 81,oMi 15 0] .ret)))⟩
def zh8:AFn:=⟨33,[.m 4 true 1],(oH [oBx 2 0,oP 4 (.alloc [.nils])] (oH [oP 7 (.mksl false 2 0 [.int .i64 0,.nils] []),oM 5 7] (oS (oH [oMi 6 0] (.block 0 (.loop (oS (oH [oM 8 6,oFa 9 0 2,oLf 10 9,oLn 11 10,oBt 12 .lss 8 11] (oQ 12 .skip (.exit 0))) (oS (.block 1 (oH [oFa 15 0 2,oLf 16 15,oM 17 6,oIa 18 2 16 17,oFa 19 0 18,oLf 20 19,oM 21 1,oBt 22 .neq 20 21] (oQ 22 (oG [oM 23 5,oFa 24 0 2,oLf 25 24,oM 26 6,oIa 27 2 25 26,oLt 28 2 27,oP 29 (.mksl true 2 1 [.int .i64 0,.nils] [(0,(.t 28))]),oP 30 (.app 2 32 (.t 23) (.t 29)),oM 5 30]) .skip))) (oG [oM 13 6,oBk 14 .add 13 1,oM 6 14])))))) (oH [oM 31 5,oP 32 (.build [.nils] [(0,1,(.t 31))]),oSt 1 4 32] .ret))))⟩
def weo:AFn:=⟨26,[.t 4],(oH [oMb 4 false] (oS (oH [oM 6 0,oLn 7 6,oM 8 1,oLn 9 8,oBt 10 .neq 7 9] (oQ 10 (oH [oMb 4 false] .ret) .skip)) (oS (oH [oMi 5 0] (.block 0 (.loop (oS (oH [oM 11 5,oM 12 0,oLn 13 12,oBt 14 .lss 11 13] (oQ 14 .skip (.exit 0))) (oS (.block 1 (oS (oD [[oM 17 0,oM 18 5,oIa 19 3 17 18,oLt 20 3 19,oM 21 1,oM 22 5,oIa 23 3 21 22,oLt 24 3 23],[oP 25 (.eq true true [.i,.i,.s] (.t 20) (.t 24))]]) (oQ 25 (oH [oMb 4 false] .ret) .skip))) (oG [oM 15 5,oBk 16 .add 15 1,oM 5 16])))))) (oH [oMb 4 true] .ret))))⟩
def jg7:AFn:=⟨47,[.t 2],(oH [oMb 2 false] (oS (oH [oM 5 0,oLn 6 5,oMi 7 0] (.block 0 (.loop (oH [oBt 8 .lss 7 6] (oS (oQ 8 .skip (.exit 0)) (oS (.block 1 (oH [oM 9 7,oIa 10 6 5 7,oLt 11 6 10,oP 4 (.alloc [.str [],.int .i64 0,.bool false,.int .i64 0,.int .i64 0,.str []]),oM 3 9,oSt 6 4 11] (oS (oH [oM 12 3,oBk 13 .eql 12 8,oM 14 13,ofa 15 0 4 14,ofl 16 15 14,ofc 17 123 [.t 16] 14,oF 18 (.un .not (.t 17)) 14,oPo 19 14 18,oM 20 19,ofa 21 1 4 20,ofl 22 21 20,oF 23 (.bin .neq (.t 22) (kI 1)) 20,ofm 24 23 20,ota 25 1 4 24,otl 26 25 24,oT 27 (.bin .neq (.t 26) (kI 2)) 24,oF 28 (.pick (.t 24) (.t 27) (.k (.bool false))) 20,oPo 29 20 28,oM 30 29,ofa 31 3 4 30,oF 32 (.load true 3 (.t 31)) 30,ofa 33 1 4 30,ofl 34 33 30,ofc 35 233 [.t 32,.t 34] 30,oF 36 (.un .not (.t 35)) 30,oPo 37 30 36] (oQ 37 (oH [oMb 2 false] .ret) .skip)) (oH [oM 38 0,oM 39 3,oP 40 (.slice 6 (.t 38) none (some (.t 39)) none),oP 41 (.mkfn 367 [] [.t 4]),oC 42 366 [.t 40,.t 41]] (oQ 42 (oH [oMb 2 false] .ret) .skip))))) (oG [oBk 43 .add 7 1,oM 7 43]))))))) (oH [oM 44 0,oLn 45 44,oBk 46 .gtr 45 0,oM 2 46] .ret)))⟩
def zep:AFn:=⟨30,[.t 4],(oH [oMb 4 false] (oS (oH [oM 7 0,oLn 8 7,oMi 9 0] (.block 0 (.loop (oH [oBt 10 .lss 9 8] (oS (oQ 10 .skip (.exit 0)) (oS (.block 1 (oH [oM 11 9,oIa 12 1 7 9,oLf 13 12,oM 5 11,oM 6 13] (oH [oM 14 6,oM 15 1,oBk 16 .sub 15 1,oC 17 177 [.t 14,(kI 0),.t 16],oUn 18 17,oM 19 18,ofm 20 0 19,ofm 21 5 19,oF 22 (.slice 1 (.t 20) none (some (.t 21)) none) 19,ofm 23 6 19,ofc 24 368 [.t 22,.t 23] 19,oPo 25 19 24] (oQ 25 (oH [oMb 4 false] .ret) .skip)))) (oG [oBk 26 .add 9 1,oM 9 26]))))))) (oH [oM 27 0,oLn 28 27,oBk 29 .gtr 28 0,oM 4 29] .ret)))⟩
def ja3:AFn:=⟨9,[.t 4],(oH [oMb 4 false] (oH [oM 5 0,oM 6 1,oC 7 369 [.t 5,.t 6],oBk 8 .geq 7 0,oM 4 8] .ret))⟩
theorem j9:jd Tryz.prog [] 332=some ja3:=yak9
def zfh:AFn:=⟨11,[.t 3],(oH [oMb 3 false] (oH [oFa 4 1 1,oLf 5 4,oM 6 0,oIa 7 6 5 6,oFa 8 2 7,oLf 9 8,oUn 10 9,oM 3 10] .ret))⟩
def wbn:AFn:=⟨9,[.t 4],(oH [oMb 4 false] (oH [oM 5 0,oM 6 1,oC 7 370 [.t 5,.t 6],oBk 8 .geq 7 0,oM 4 8] .ret))⟩
theorem zbc:jd Tryz.prog [] 334=some wbn:=yak9
def jfh:AFn:=⟨9,[.t 3],(oH [oBx 2 0,oMb 3 false] (oH [oFa 4 0 2,oLf 5 4,oLf 6 1,oC 7 331 [.t 5,.t 6],oUn 8 7,oM 3 8] .ret))⟩
def wfh:AFn:=⟨9,[.t 3],(oH [oBx 2 0,oMb 3 false] (oH [oFa 4 0 2,oLf 5 4,oLf 6 1,oC 7 239 [.t 5,.t 6],oUn 8 7,oM 3 8] .ret))⟩
def zfi:AFn:=⟨8,[.t 3],(oH [oBx 2 0,oMb 3 false] (oH [oLt 4 5 2,oLf 5 1,oC 6 338 [.t 4,.t 5],oUn 7 6,oM 3 7] .ret))⟩
def zjz:AFn:=⟨24,[.t 4],(oH [oBx 2 0,oMb 4 false] (oH [oFa 5 0 2,oLf 6 5,oM 7 1,oC 8 331 [.t 6,.t 7],oM 9 8,ota 10 1 2 9,otl 11 10 9,otc 12 123 [.t 11] 9,oPa 13 9 12,oM 14 13,ota 15 2 2 14,otl 16 15 14,otc 17 177 [.t 16,(kI 0),(kI 2)] 14,oPa 18 14 17,oM 19 18,ota 20 3 2 19,otl 21 20 19,otc 22 177 [.t 21,(kI 0),(kI 2)] 19,oPa 23 19 22,oM 4 23] .ret))⟩
def zcy:AFn:=⟨19,[.t 4],(oH [oMi 4 0] (oS (oH [oM 6 0,oLn 7 6,oMi 8 0] (.block 0 (.loop (oH [oBt 9 .lss 8 7] (oS (oQ 9 .skip (.exit 0)) (oS (.block 1 (oH [oM 10 8,oM 5 10] (oH [oM 11 1,oM 12 0,oM 13 5,oIa 14 5 12 13,oLt 15 5 14,⟨some 16,.call (.t 11) [.t 15],none⟩] (oQ 16 (oH [oM 17 5,oM 4 17] .ret) .skip)))) (oG [oBk 18 .add 8 1,oM 8 18]))))))) (oH [oMi 4 (-1)] .ret)))⟩
theorem wai:jd Tryz.prog [] 339=some zcy:=yak9
def wcs:AFn:=⟨19,[.t 4],(oH [oMi 4 0] (oS (oH [oM 6 0,oLn 7 6,oMi 8 0] (.block 0 (.loop (oH [oBt 9 .lss 8 7] (oS (oQ 9 .skip (.exit 0)) (oS (.block 1 (oH [oM 10 8,oM 5 10] (oH [oM 11 1,oM 12 0,oM 13 5,oIa 14 2 12 13,oLt 15 2 14,⟨some 16,.call (.t 11) [.t 15],none⟩] (oQ 16 (oH [oM 17 5,oM 4 17] .ret) .skip)))) (oG [oBk 18 .add 8 1,oM 8 18]))))))) (oH [oMi 4 (-1)] .ret)))⟩
theorem wb4:jd Tryz.prog [] 340=some wcs:=yak9
def jbx:AFn:=⟨9,[.t 4],(oH [oMb 4 false] (oH [oM 5 0,oM 6 1,oC 7 371 [.t 5,.t 6],oBk 8 .geq 7 0,oM 4 8] .ret))⟩
theorem jbk:jd Tryz.prog [] 341=some jbx:=yak9
def jep:AFn:=⟨9,[.t 3],(oH [oBx 2 0,oMb 3 false] (oH [oFa 4 0 2,oLf 5 4,oLf 6 1,oC 7 239 [.t 5,.t 6],oUn 8 7,oM 3 8] .ret))⟩
def jcg:AFn:=⟨42,[.t 4],(oH [oP 4 (.mv (.k (.nils)))] (oH [oM 8 0,oM 9 1,oC 10 188 [.t 8,.t 9],oM 5 10] (oS (oH [oM 11 5,oBk 12 .eql 11 (-1)] (oQ 12 (oH [oM 13 0,oM 4 13] .ret) .skip)) (oS (oH [oM 14 5,oBk 15 .add 14 1,oM 6 15] (.block 0 (.loop (oS (oH [oM 16 6,oM 17 0,oLn 18 17,oBt 19 .lss 16 18] (oQ 19 .skip (.exit 0))) (oS (.block 1 (oH [oM 22 0,oM 23 6,oIa 24 2 22 23,oLt 25 2 24,oP 7 (.alloc [.int .i64 0,.nils]),oSt 2 7 25] (oH [oM 26 1,oLt 27 2 7,⟨some 28,.call (.t 26) [.t 27],none⟩,oUn 29 28] (oQ 29 (oH [oM 30 0,oM 31 5,oLt 32 2 7,oIa 33 2 30 31,oSt 2 33 32] (oG [oM 34 5,oBk 35 .add 34 1,oM 5 35])) .skip)))) (oG [oM 20 6,oBk 21 .add 20 1,oM 6 21])))))) (oH [oM 36 0,oM 37 5,oP 38 (.slice 2 (.t 36) (some (.t 37)) none none),⟨none,.op (.clear [.int .i64 0,.nils] (.t 38)),none⟩] (oH [oM 39 0,oM 40 5,oP 41 (.slice 2 (.t 39) none (some (.t 40)) none),oM 4 41] .ret))))))⟩
theorem wbx:jd Tryz.prog [] 343=some jcg:=yak9
def zca:AFn:=⟨8,[.t 3],(oH [oBx 2 0,oMb 3 false] (oH [oFa 4 0 2,oLf 5 4,oLf 6 1,oBt 7 .eql 5 6,oM 3 7] .ret))⟩
def jcy:AFn:=⟨96,[.t 10],(oH [oMi 10 0] (oS (oH [oM 19 0,oNc 20 19,oFa 21 0 20,oLf 22 21,oLn 23 22,oMi 24 0] (.block 0 (.loop (oH [oBt 25 .lss 24 23] (oS (oQ 25 .skip (.exit 0)) (oS (.block 1 (oH [oM 26 24,oIa 27 6 22 24,oLt 28 6 27,oP 12 (.alloc [.str [],.nils,.nils,.nils,.nils,.nils]),oM 11 26,oSt 6 12 28] (oH [oFa 29 5 12,oLf 30 29,oLn 31 30,oMi 32 0] (.block 2 (.loop (oH [oBt 33 .lss 32 31] (oS (oQ 33 .skip (.exit 2)) (oS (.block 3 (oH [oIa 34 5 30 32,oLt 35 5 34,oP 14 (.alloc [.nils,.str [],.int .i64 0,.int .i64 0,.bool false]),oSt 5 14 35] (oS (oS (oD [[oFa 36 1 14,oLf 37 36,oM 38 0,oNc 39 38,oFa 40 0 39,oLf 41 40,oM 42 1,oIa 43 6 41 42,oFa 44 0 43,oLf 45 44],[oBt 46 .neq 37 45]]) (oQ 46 (.exit 3) .skip)) (oS (oD [[oM 47 0,oNc 48 47,oFa 49 1 48,oLf 50 49,oM 51 11,oIa 52 1 50 51,oFa 53 0 52,oLf 54 53,oFa 55 0 14,oLf 56 55,oM 57 2,oC 58 352 [.t 54,.t 56,.t 57],oLn 59 58,oMi 60 0]]) (.block 4 (.loop (oH [oBt 61 .lss 60 59] (oS (oQ 61 .skip (.exit 4)) (oS (.block 5 (oH [oIa 62 1 58 60,oLf 63 62,oM 16 63] (oH [oM 64 0,oM 65 11,oM 66 16,oC 67 84 [.t 64,.t 65,.t 66],oM 17 67] (oS (oS (oD [[oM 68 17],[oP 69 (.eq false false [.pt] (.t 68) (.k (.nilp)))],[oM 70 69],[ofa 71 0 14 70,ofl 72 71 70,ofm 73 17 70,oF 74 (.nilc (.t 73)) 70,ofa 75 1 74 70,ofl 76 75 70,ofm 77 2 70],[ofc 78 298 [.t 72,.t 76,.t 77] 70],[oF 79 (.un .not (.t 78)) 70],[oPo 80 70 79]]) (oQ 80 (.exit 5) .skip)) (oS (oD [[oM 81 0,oM 82 11,oM 83 17,oNc 84 83,oLt 85 2 84,oLt 86 5 14,oM 87 3,oM 88 4],[oC 89 372 [.t 81,.t 82,.t 85,.t 86,.t 87,.t 88]],[oM 18 89]]) (oH [oM 90 18,oBk 91 .neq 90 0] (oQ 91 (oH [oM 92 18,oM 10 92] .ret) .skip))))))) (oG [oBk 93 .add 60 1,oM 60 93])))))))))) (oG [oBk 94 .add 32 1,oM 32 94]))))))))) (oG [oBk 95 .add 24 1,oM 24 95]))))))) (oH [oMi 10 0] .ret)))⟩
theorem jca:jd Tryz.prog [] 345=some jcy:=yak9
def wd5:AFn:=⟨26,[.t 4],(oH [oMb 4 false] (oS (oH [oM 6 0,oLn 7 6,oM 8 1,oLn 9 8,oBt 10 .neq 7 9] (oQ 10 (oH [oMb 4 false] .ret) .skip)) (oS (oH [oM 11 0,oLn 12 11,oMi 13 0] (.block 0 (.loop (oH [oBt 14 .lss 13 12] (oS (oQ 14 .skip (.exit 0)) (oS (.block 1 (oH [oM 15 13,oM 5 15] (oS (oD [[oM 16 0,oM 17 5,oIa 18 3 16 17,oLt 19 3 18,oM 20 1,oM 21 5,oIa 22 3 20 21,oLt 23 3 22],[oP 24 (.eq true true [.i,.i,.s] (.t 19) (.t 23))]]) (oQ 24 (oH [oMb 4 false] .ret) .skip)))) (oG [oBk 25 .add 13 1,oM 13 25]))))))) (oH [oMb 4 true] .ret))))⟩
def wg7:AFn:=⟨26,[.t 4],(oH [oBx 2 0,oMb 4 false] (oS (oH [oMi 5 0] (.block 0 (.loop (oS (oH [oM 6 5,oM 7 1,oLn 8 7,oBt 9 .lss 6 8] (oQ 9 .skip (.exit 0))) (oS (.block 1 (oH [oFa 12 1 2,oLf 13 12,oM 14 5,oIa 15 6 13 14,oFa 16 2 15,oLf 17 16,oM 18 17,otm 19 1 18,otm 20 5 18,oti 21 3 19 20 18,ota 22 0 21 18,otl 23 22 18,oT 24 (.bin .eql (.t 23) (kI 0)) 18,oPa 25 18 24] (oQ 25 (oH [oMb 4 false] .ret) .skip))) (oG [oM 10 5,oBk 11 .add 10 1,oM 5 11])))))) (oH [oMb 4 true] .ret)))⟩
def jga:AFn:=⟨28,[.t 4],(oH [oBx 2 0,oMb 4 false] (oS (oH [oMi 5 0] (.block 0 (.loop (oS (oH [oM 7 5,oFa 8 4 2,oLf 9 8,oLn 10 9,oBt 11 .lss 7 10] (oQ 11 .skip (.exit 0))) (oS (.block 1 (oH [oFa 14 4 2,oLf 15 14,oM 16 5,oIa 17 1 15 16,oFa 18 0 17,oLf 19 18,oM 20 1,oC 21 161 [.t 19,.t 20],oM 6 21] (oH [oM 22 6,oBk 23 .eql 22 0,oM 24 23,ofm 25 6 24,oF 26 (.bin .lss (.t 25) (kI 0)) 24,oPo 27 24 26] (oQ 27 (oH [oMb 4 false] .ret) .skip)))) (oG [oM 12 5,oBk 13 .add 12 1,oM 5 13])))))) (oH [oMb 4 true] .ret)))⟩
def wga:AFn:=⟨29,[.t 6],(oH [oBx 3 0,oBx 4 1,oBx 5 2,oMb 6 false] (oS (oH [oLt 8 1 4,oFa 9 2 3,oLf 10 9,oLt 11 2 5,oC 12 373 [.t 8,.t 10,.t 11]] (oQ 12 (oH [oMb 6 false] .ret) .skip)) (oS (oH [oMi 7 0] (.block 0 (.loop (oS (oH [oM 13 7,oFa 14 3 3,oLf 15 14,oLn 16 15,oBt 17 .lss 13 16] (oQ 17 .skip (.exit 0))) (oS (.block 1 (oS (oD [[oLt 20 1 4,oFa 21 3 3,oLf 22 21,oM 23 7,oIa 24 1 22 23,oFa 25 0 24,oLf 26 25,oLt 27 2 5],[oC 28 373 [.t 20,.t 26,.t 27]]]) (oQ 28 (oH [oMb 6 false] .ret) .skip))) (oG [oM 18 7,oBk 19 .add 18 1,oM 7 19])))))) (oH [oMb 6 true] .ret))))⟩
def wca:AFn:=⟨19,[.t 4],(oH [oMi 4 0] (oS (oH [oM 6 0,oLn 7 6,oMi 8 0] (.block 0 (.loop (oH [oBt 9 .lss 8 7] (oS (oQ 9 .skip (.exit 0)) (oS (.block 1 (oH [oM 10 8,oM 5 10] (oH [oM 11 1,oM 12 0,oM 13 5,oIa 14 1 12 13,oLt 15 1 14,⟨some 16,.call (.t 11) [.t 15],none⟩] (oQ 16 (oH [oM 17 5,oM 4 17] .ret) .skip)))) (oG [oBk 18 .add 8 1,oM 8 18]))))))) (oH [oMi 4 (-1)] .ret)))⟩
theorem jaq:jd Tryz.prog [] 350=some wca:=yak9
def wbh:AFn:=⟨19,[.t 4],(oH [oMi 4 0] (oS (oH [oM 6 0,oLn 7 6,oMi 8 0] (.block 0 (.loop (oH [oBt 9 .lss 8 7] (oS (oQ 9 .skip (.exit 0)) (oS (.block 1 (oH [oM 10 8,oM 5 10] (oH [oM 11 1,oM 12 0,oM 13 5,oIa 14 1 12 13,oLf 15 14,⟨some 16,.call (.t 11) [.t 15],none⟩] (oQ 16 (oH [oM 17 5,oM 4 17] .ret) .skip)))) (oG [oBk 18 .add 8 1,oM 8 18]))))))) (oH [oMi 4 (-1)] .ret)))⟩
theorem ja4:jd Tryz.prog [] 351=some wbh:=yak9
def ji6:AFn:=⟨29,[.t 6],(oH [oP 6 (.mv (.k (.nils)))] (oH [oP 10 (.mksl false 1 0 [.int .i64 0] []),oM 7 10] (oS (oH [oM 11 0,oLn 12 11,oMi 13 0] (.block 0 (.loop (oH [oBt 14 .lss 13 12] (oS (oQ 14 .skip (.exit 0)) (oS (.block 1 (oH [oIa 15 2 11 13,oLt 16 2 15,oP 9 (.alloc [.int .i64 0,.nils]),oSt 2 9 16] (oH [oM 17 1,oFa 18 1 9,oLf 19 18,oM 20 2,oC 21 298 [.t 17,.t 19,.t 20]] (oQ 21 (oG [oM 22 7,oFa 23 0 9,oLf 24 23,oP 25 (.mksl true 1 1 [.int .i64 0] [(0,(.t 24))]),oP 26 (.app 1 8 (.t 22) (.t 25)),oM 7 26]) .skip)))) (oG [oBk 27 .add 13 1,oM 13 27]))))))) (oH [oM 28 7,oM 6 28] .ret))))⟩
theorem wcy:jd Tryz.prog [25] 352=some ji6:=yak9
def zgb:AFn:=⟨21,[.t 4],(oH [oBx 2 0,oBx 3 1,oMb 4 false] (oH [oLt 5 3 2,oC 6 305 [.t 5],oM 7 6,oT 8 (.load true 3 (.t 3)) 7,otc 9 305 [.t 8] 7,oPa 10 7 9,oM 11 10,ota 12 0 2 11,otl 13 12 11,oT 14 (.bin .neq (.t 13) (kI 0)) 11,oPa 15 11 14,oM 16 15,ota 17 0 3 16,otl 18 17 16,oT 19 (.bin .neq (.t 18) (kI 0)) 16,oPa 20 16 19,oM 4 20] .ret))⟩
def wi6:AFn:=⟨22,[.t 4],(oH [oBx 2 0,oBx 3 1,oMi 4 0] (oS (oD [[oFa 5 0 2,oLf 6 5,oFa 7 0 3,oLf 8 7,oC 9 375 [.t 6,.t 8],oFa 10 1 2,oLf 11 10,oFa 12 1 3,oLf 13 12,oC 14 375 [.t 11,.t 13],oFa 15 2 2,oLf 16 15,oFa 17 2 3,oLf 18 17],[oC 19 376 [.t 16,.t 18]],[oP 20 (.mksl true 1 3 [.int .i64 0] [(0,(.t 9)),(1,(.t 14)),(2,(.t 19))])],[oC 21 374 [.t 20]],[oM 4 21]]) .ret))⟩
def jfi:AFn:=⟨6,[.t 2],(oH [oMb 2 false] (oH [oM 3 0,oC 4 332 [.t 3,(.f 377)],oUn 5 4,oM 2 5] .ret))⟩
def zi7:AFn:=⟨18,[.t 4],(oH [oMb 4 false] (oS (oH [oMi 5 0] (.block 0 (.loop (oS (oH [oM 6 5,oM 7 0,oLn 8 7,oBt 9 .lss 6 8] (oQ 9 .skip (.exit 0))) (oS (.block 1 (oH [oM 12 0,oM 13 5,oIa 14 1 12 13,oLf 15 14,oM 16 1,oBt 17 .eql 15 16] (oQ 17 (oH [oMb 4 true] .ret) .skip))) (oG [oM 10 5,oBk 11 .add 10 1,oM 5 11])))))) (oH [oMb 4 false] .ret)))⟩
def jh8:AFn:=⟨27,[.t 4],(oH [oBx 2 0,oBx 3 1,oMi 4 0] (oS (oH [oLt 5 3 2,oC 6 253 [.t 5],oUn 7 6,oM 8 7,oF 9 (.load true 3 (.t 3)) 8,ofc 10 253 [.t 9] 8,oF 11 (.un .not (.t 10)) 8,oPo 12 8 11,oM 13 12,ofa 14 0 2 13,ofl 15 14 13,oF 16 (.bin .eql (.t 15) (kI 0)) 13,oPo 17 13 16,oM 18 17,ofa 19 0 3 18,ofl 20 19 18,oF 21 (.bin .eql (.t 20) (kI 0)) 18,oPo 22 18 21] (oQ 22 (oH [oMi 4 2] .ret) .skip)) (oH [oLt 23 3 2,oLt 24 3 3,oP 25 (.eq false true [.i,.i,.s] (.t 23) (.t 24)),oC 26 316 [.t 25],oM 4 26] .ret)))⟩
def ji7:AFn:=⟨28,[.t 4],(oH [oBx 2 0,oBx 3 1,oMi 4 0] (oS (oH [oLt 5 3 2,oC 6 253 [.t 5],oUn 7 6,oM 8 7,oF 9 (.load true 3 (.t 3)) 8,ofc 10 253 [.t 9] 8,oF 11 (.un .not (.t 10)) 8,oPo 12 8 11,oM 13 12,ofa 14 0 2 13,ofl 15 14 13,oF 16 (.bin .eql (.t 15) (kI 0)) 13,oPo 17 13 16,oM 18 17,ofa 19 0 3 18,ofl 20 19 18,oF 21 (.bin .eql (.t 20) (kI 0)) 18,oPo 22 18 21] (oQ 22 (oH [oMi 4 2] .ret) .skip)) (oH [oLt 23 3 2,oLt 24 3 3,oC 25 378 [.t 23,.t 24],oBk 26 .lss 25 0,oC 27 316 [.t 26],oM 4 27] .ret)))⟩
def wi7:AFn:=⟨38,[.m 6 true 3,.t 7],(oH [oBx 3 0,oBx 4 1,oP 6 (.alloc [.int .i64 0,.int .i64 0,.str []]),oMb 7 false] (oS (oH [oFa 9 0 3,oLf 10 9,oBk 11 .eql 10 2,oM 12 11,ofa 13 0 4 12,ofl 14 13 12,oF 15 (.bin .eql (.t 14) (kI 2)) 12,oPo 16 12 15] (oQ 16 (oH [oP 17 (.build [.int .i64 0,.int .i64 0,.str []] []),oSt 3 6 17,oMb 7 false] .ret) .skip)) (oS (oH [oFa 18 0 3,oLf 19 18,oBk 20 .eql 19 0,oM 21 20,ofa 22 0 4 21,ofl 23 22 21,oF 24 (.bin .eql (.t 23) (kI 0)) 21,oPo 25 21 24] (oQ 25 (oH [oP 26 (.build [.int .i64 0,.int .i64 0,.str []] []),oSt 3 6 26,oMb 7 true] .ret) .skip)) (oH [oFa 27 1 3,oLf 28 27,oM 29 2,oFa 30 1 4,oLf 31 30,oBt 32 .mul 29 31,oBt 33 .add 28 32,oC 34 224 [.t 33],oP 8 (.alloc [.int .i64 0,.int .i64 0,.str []]),oSt 3 8 34] (oS (oD [[oLt 35 3 8,oLt 36 3 8,oC 37 253 [.t 36]],[oSt 3 6 35],[oM 7 37]]) .ret)))))⟩
def jjz:AFn:=⟨28,[.t 4],(oH [oMi 4 0] (oS (.block 0 (oH [oM 6 0,oC 7 379 [.t 6],oUn 8 7,oM 9 8,ofm 10 1 9,ofc 11 379 [.t 10] 9,oF 12 (.un .not (.t 11)) 9,oPo 13 9 12,oM 5 13] (oQ 5 (oH [oMi 4 (-1)] .ret) (oH [oM 15 0,oBk 16 .eql 15 0,oM 17 16,ofm 18 1 17,oF 19 (.bin .eql (.t 18) (kI 0)) 17,oPo 20 17 19,oM 14 20] (oQ 14 (oH [oMi 4 0] .ret) (oH [oM 22 0,oBk 23 .eql 22 1,oM 24 23,otm 25 1 24,oT 26 (.bin .eql (.t 25) (kI 1)) 24,oPa 27 24 26,oM 21 27] (oQ 21 (oH [oMi 4 1] .ret) .skip))))))) (oH [oMi 4 2] .ret)))⟩
def zkx:AFn:=⟨28,[.t 4],(oH [oMi 4 0] (oS (.block 0 (oH [oM 6 0,oC 7 379 [.t 6],oUn 8 7,oM 9 8,ofm 10 1 9,ofc 11 379 [.t 10] 9,oF 12 (.un .not (.t 11)) 9,oPo 13 9 12,oM 5 13] (oQ 5 (oH [oMi 4 (-1)] .ret) (oH [oM 15 0,oBk 16 .eql 15 1,oM 17 16,ofm 18 1 17,oF 19 (.bin .eql (.t 18) (kI 1)) 17,oPo 20 17 19,oM 14 20] (oQ 14 (oH [oMi 4 1] .ret) (oH [oM 22 0,oBk 23 .eql 22 0,oM 24 23,otm 25 1 24,oT 26 (.bin .eql (.t 25) (kI 0)) 24,oPa 27 24 26,oM 21 27] (oQ 21 (oH [oMi 4 0] .ret) .skip))))))) (oH [oMi 4 2] .ret)))⟩
def jgb:AFn:=⟨49,[.t 6],(oH [oBx 3 0,oBx 4 1,oBx 5 2,oP 6 (.mv (.k (.nils)))] (oH [oP 9 (.mksl false 1 0 [.int .i64 0] []),oM 7 9] (oS (oH [oMi 8 0] (.block 0 (.loop (oS (oH [oM 10 8,oFa 11 0 4,oLf 12 11,oLn 13 12,oBt 14 .lss 10 13] (oQ 14 .skip (.exit 0))) (oS (.block 1 (oS (oD [[oFa 17 0 4,oLf 18 17,oM 19 8,oIa 20 2 18 19,oFa 21 0 20,oLf 22 21,oFa 23 0 5,oLf 24 23],[oBt 25 .neq 22 24],[oM 26 25],[oT 27 (.load true 6 (.t 3)) 26,ota 28 0 4 26,otl 29 28 26,otm 30 8 26,oti 31 2 29 30 26,oT 32 (.load true 2 (.t 31)) 26,oT 33 (.mksl true 2 1 [.int .i64 0,.nils] [(0,(.t 32))]) 26,oT 34 (.build [.nils] [(0,1,(.t 33))]) 26,oT 35 (.load true 2 (.t 5)) 26],[otc 36 349 [.t 27,.t 34,.t 35] 26],[oT 37 (.un .not (.t 36)) 26],[oPa 38 26 37]]) (oQ 38 (oG [oM 39 7,oFa 40 0 4,oLf 41 40,oM 42 8,oIa 43 2 41 42,oFa 44 0 43,oLf 45 44,oP 46 (.mksl true 1 1 [.int .i64 0] [(0,(.t 45))]),oP 47 (.app 1 8 (.t 39) (.t 46)),oM 7 47]) .skip))) (oG [oM 15 8,oBk 16 .add 15 1,oM 8 16])))))) (oH [oM 48 7,oM 6 48] .ret))))⟩
def wgb:AFn:=⟨40,[.t 8],(oH [oBx 6 2,oMb 8 false] (oH [oFa 13 0 6,oLf 14 13,oM 15 3,oC 16 326 [.t 14,.t 15],oM 12 16,oEx 17 12 0,oEx 18 12 1,oM 9 17,oM 10 18] (oH [oM 19 0,oFa 20 1 6,oLf 21 20,oC 22 67 [.t 19,.t 21],oM 11 22] (oS (oD [[oM 23 10],[oUn 24 23],[oM 25 24],[ofm 26 1 25,ofm 27 11 25,ofi 28 1 26 27 25,oF 29 (.load true 1 (.t 28)) 25,ofm 30 0 25,ofm 31 11 25,ofi 32 6 30 31 25,ofa 33 2 32 25,ofl 34 33 25,ofm 35 9 25],[ofc 36 380 [.t 29,.t 34,.t 35] 25],[oF 37 (.len false (.t 36)) 25],[oF 38 (.bin .gtr (.t 37) (kI 0)) 25],[oPo 39 25 38],[oM 8 39]]) .ret))))⟩
def wh8:AFn:=⟨157,[.t 16,.t 17],(oH [oBx 11 3,oP 16 (.mv (.k (.nils))),oMi 17 0] (oS (oD [[oM 28 1,oM 29 2,oIa 30 1 28 29,oLt 31 1 30,oFa 32 2 11,oLf 33 32,oM 34 4],[oC 35 380 [.t 31,.t 33,.t 34]],[oM 18 35]]) (oS (oH [oMi 19 0] (.block 0 (.loop (oS (oH [oM 36 19,oM 37 18,oLn 38 37,oBt 39 .lss 36 38] (oQ 39 .skip (.exit 0))) (oS (.block 1 (oS (oD [[oM 42 1,oM 43 2,oIa 44 1 42 43,oLt 45 1 44,oM 46 18,oM 47 19,oIa 48 1 46 47,oLf 49 48],[oC 50 70 [.t 45,.t 49]],[oM 20 50]]) (oS (oH [oM 51 20,oBk 52 .lss 51 0] (oQ 52 (.exit 1) .skip)) (oH [oM 53 1,oM 54 2,oIa 55 1 53 54,oFa 56 0 55,oLf 57 56,oM 58 20,oIa 59 2 57 58,oLt 60 2 59,oP 21 (.alloc [.int .i64 0,.nils]),oSt 2 21 60] (oH [oFa 62 2 11,oLf 63 62,oFa 64 1 21,oLf 65 64,oC 66 326 [.t 63,.t 65],oM 61 66,oEx 67 61 0,oEx 68 61 1,oM 22 67,oM 23 68] (oS (oH [oM 69 23,oUn 70 69,oM 71 70,ofm 72 22 71,ofm 73 4 71,ofc 74 329 [.t 72,.t 73] 71,oF 75 (.un .not (.t 74)) 71,oPo 76 71 75] (oQ 76 (.exit 1) .skip)) (oH [oM 77 1,oM 24 77] (oH [oMi 25 0] (oS (.block 2 (oH [oFa 123 0 11,oLf 124 123,oBk 125 .eql 124 0,oM 126 125,ota 127 1 11 126,otl 128 127 126,oPa 129 126 128,oM 122 129] (oQ 122 .skip (oH [oFa 131 0 11,oLf 132 131,oBk 133 .eql 132 0,oM 130 133] (oQ 130 (oH [oP 16 (.mv (.k (.nils))),oMi 17 5] .ret) (oH [oFa 135 0 11,oLf 136 135,oBk 137 .eql 136 1,oM 138 137,otm 139 6 138,oPa 140 138 139,oM 134 140] (oQ 134 (oG [oM 142 0,oM 143 1,oM 144 2,oFa 145 0 21,oLf 146 145,oM 147 7,oBk 148 .add 147 1,oC 149 257 [.t 142,.t 143,.t 144,.t 146,.t 148],oM 141 149,oEx 150 141 0,oEx 151 141 1,oM 24 150,oM 25 151]) (oH [oFa 78 1 21,oLf 79 78,oC 80 162 [.t 79],oM 26 80] (oS (oH [oMi 27 0] (.block 3 (.loop (oS (oH [oM 81 27,oFa 82 2 11,oLf 83 82,oLn 84 83,oBt 85 .lss 81 84] (oQ 85 .skip (.exit 3))) (oS (.block 4 (oH [oM 88 26,oFa 89 2 11,oLf 90 89,oM 91 27,oIa 92 1 90 91,oLf 93 92,oP 94 (.build [.int .i64 0,.int .i64 0,.str []] []),oIa 95 3 88 93,oSt 3 95 94] (oH [oFa 96 0 11,oLf 97 96,oBk 98 .eql 97 1] (oQ 98 (oD [[oM 99 26,oFa 100 2 11,oLf 101 100,oM 102 27,oIa 103 1 101 102,oLf 104 103,oM 105 5,oM 106 27,oIa 107 3 105 106,oLt 108 3 107],[oIa 109 3 99 104],[oSt 3 109 108]]) .skip)))) (oG [oM 86 27,oBk 87 .add 86 1,oM 27 87])))))) (oG [oM 111 0,oM 112 1,oM 113 2,oFa 114 0 21,oLf 115 114,oM 116 26,oM 117 7,oBk 118 .add 117 1,oC 119 259 [.t 111,.t 112,.t 113,.t 115,.t 116,(.k (.bool false)),.t 118],oM 110 119,oEx 120 110 0,oEx 121 110 1,oM 24 120,oM 25 121])))))))))) (oS (oH [oM 152 25,oBk 153 .neq 152 0] (oQ 153 (oH [oM 154 25,oP 16 (.mv (.k (.nils))),oM 17 154] .ret) .skip)) (oG [oM 155 24,oM 1 155]))))))))))) (oG [oM 40 19,oBk 41 .add 40 1,oM 19 41])))))) (oH [oM 156 1,oM 16 156,oMi 17 0] .ret))))⟩
def zb5:AFn:=⟨9,[.t 4],(oH [oMb 4 false] (oH [oM 5 0,oM 6 1,oC 7 381 [.t 5,.t 6],oBk 8 .geq 7 0,oM 4 8] .ret))⟩
theorem zbo:jd Tryz.prog [] 366=some zb5:=yak9
def wfi:AFn:=⟨9,[.t 3],(oH [oBx 2 0,oMb 3 false] (oH [oFa 4 0 2,oLf 5 4,oFa 6 0 1,oLf 7 6,oBt 8 .eql 5 7,oM 3 8] .ret))⟩
def wbk:AFn:=⟨9,[.t 4],(oH [oMb 4 false] (oH [oM 5 0,oM 6 1,oC 7 382 [.t 5,.t 6],oBk 8 .geq 7 0,oM 4 8] .ret))⟩
theorem wa8:jd Tryz.prog [] 368=some wbk:=yak9
def jbc:AFn:=⟨19,[.t 4],(oH [oMi 4 0] (oS (oH [oM 6 0,oLn 7 6,oMi 8 0] (.block 0 (.loop (oH [oBt 9 .lss 8 7] (oS (oQ 9 .skip (.exit 0)) (oS (.block 1 (oH [oM 10 8,oM 5 10] (oH [oM 11 1,oM 12 0,oM 13 5,oIa 14 1 12 13,oLf 15 14,⟨some 16,.call (.t 11) [.t 15],none⟩] (oQ 16 (oH [oM 17 5,oM 4 17] .ret) .skip)))) (oG [oBk 18 .add 8 1,oM 8 18]))))))) (oH [oMi 4 (-1)] .ret)))⟩
theorem jad:jd Tryz.prog [] 369=some jbc:=yak9
def jb5:AFn:=⟨19,[.t 4],(oH [oMi 4 0] (oS (oH [oM 6 0,oLn 7 6,oMi 8 0] (.block 0 (.loop (oH [oBt 9 .lss 8 7] (oS (oQ 9 .skip (.exit 0)) (oS (.block 1 (oH [oM 10 8,oM 5 10] (oH [oM 11 1,oM 12 0,oM 13 5,oIa 14 1 12 13,oLt 15 1 14,⟨some 16,.call (.t 11) [.t 15],none⟩] (oQ 16 (oH [oM 17 5,oM 4 17] .ret) .skip)))) (oG [oBk 18 .add 8 1,oM 8 18]))))))) (oH [oMi 4 (-1)] .ret)))⟩
theorem jbo:jd Tryz.prog [] 370=some jb5:=yak9
def wcg:AFn:=⟨19,[.t 4],(oH [oMi 4 0] (oS (oH [oM 6 0,oLn 7 6,oMi 8 0] (.block 0 (.loop (oH [oBt 9 .lss 8 7] (oS (oQ 9 .skip (.exit 0)) (oS (.block 1 (oH [oM 10 8,oM 5 10] (oH [oM 11 1,oM 12 0,oM 13 5,oIa 14 1 12 13,oLt 15 1 14,⟨some 16,.call (.t 11) [.t 15],none⟩] (oQ 16 (oH [oM 17 5,oM 4 17] .ret) .skip)))) (oG [oBk 18 .add 8 1,oM 8 18]))))))) (oH [oMi 4 (-1)] .ret)))⟩
theorem zby:jd Tryz.prog [] 371=some wcg:=yak9
def wdg:AFn:=⟨91,[.t 12],(oH [oBx 8 2,oBx 9 3,oMi 12 0] (oH [oFa 19 3 9,oLf 20 19,oM 13 20] (oS (oH [oM 21 4,oP 22 (.eq false false [.sl] (.t 21) (.k (.nils)))] (oQ 22 (oG [oFa 23 2 9,oLf 24 23,oM 13 24]) .skip)) (oH [oFa 25 1 8,oLf 26 25,oC 27 85 [.t 26],oM 14 27] (oS (.block 0 (oH [oM 41 13,oBk 42 .eql 41 0,oM 43 42,ota 44 4 9 43,otl 45 44 43,oPa 46 43 45,oM 40 46] (oQ 40 (oH [oMi 12 0] .ret) (oH [oM 48 13,oBk 49 .eql 48 0,oM 47 49] (oQ 47 (oH [oMi 12 5] .ret) (oH [oM 51 13,oBk 52 .eql 51 1,oM 53 52,otm 54 4 53,oT 55 (.eq false false [.sl] (.t 54) (.k (.nils))) 53,oPa 56 53 55,oM 50 56] (oQ 50 (oH [oM 57 0,oM 58 1,oFa 59 0 8,oLf 60 59,oM 61 5,oBk 62 .add 61 1,oC 63 281 [.t 57,.t 58,.t 60,.t 62],oM 12 63] .ret) (oH [oM 65 13,oBk 66 .eql 65 1,oM 64 66] (oQ 64 (oH [oFa 67 0 9,oLf 68 67,oLn 69 68,oMi 70 0] (.block 3 (.loop (oH [oBt 71 .lss 70 69] (oS (oQ 71 .skip (.exit 3)) (oS (.block 4 (oH [oM 72 70,oIa 73 1 68 70,oLf 74 73,oM 15 72,oM 16 74] (oG [oM 75 14,oM 76 16,oM 77 4,oM 78 15,oIa 79 3 77 78,oLt 80 3 79,oIa 81 3 75 76,oSt 3 81 80]))) (oG [oBk 82 .add 70 1,oM 70 82]))))))) (oH [oFa 28 0 9,oLf 29 28,oLn 30 29,oMi 31 0] (.block 1 (.loop (oH [oBt 32 .lss 31 30] (oS (oQ 32 .skip (.exit 1)) (oS (.block 2 (oH [oIa 33 1 29 31,oLf 34 33,oM 18 34] (oG [oM 35 14,oM 36 18,oP 37 (.build [.int .i64 0,.int .i64 0,.str []] []),oIa 38 3 35 36,oSt 3 38 37]))) (oG [oBk 39 .add 31 1,oM 31 39])))))))))))))))) (oH [oM 83 0,oM 84 1,oFa 85 0 8,oLf 86 85,oM 87 14,oM 88 5,oBk 89 .add 88 1,oC 90 283 [.t 83,.t 84,.t 86,.t 87,(.k (.bool false)),.t 89],oM 12 90] .ret))))))⟩
theorem zch:jd Tryz.prog [8,9] 372=some wdg:=yak9
def zg8:AFn:=⟨37,[.t 6],(oH [oBx 3 0,oBx 5 2,oMb 6 false] (oH [oM 12 1,oFa 13 1 5,oLf 14 13,oC 15 326 [.t 12,.t 14],oM 11 15,oEx 16 11 0,oEx 17 11 1,oM 7 16,oM 8 17] (oS (oH [oM 18 8,oUn 19 18] (oQ 19 (oH [oMb 6 false] .ret) .skip)) (oH [oLt 20 1 3,oM 21 1,oM 22 7,oC 23 380 [.t 20,.t 21,.t 22],oM 9 23] (oS (oH [oMi 10 0] (.block 0 (.loop (oS (oH [oM 24 10,oM 25 9,oLn 26 25,oBt 27 .lss 24 26] (oQ 27 .skip (.exit 0))) (oS (.block 1 (oS (oD [[oM 30 9,oM 31 10,oIa 32 1 30 31,oLf 33 32,oFa 34 0 5,oLf 35 34],[oBt 36 .neq 33 35]]) (oQ 36 (oH [oMb 6 true] .ret) .skip))) (oG [oM 28 10,oBk 29 .add 28 1,oM 10 29])))))) (oH [oMb 6 false] .ret))))))⟩
def zi8:AFn:=⟨18,[.t 2],(oH [oMi 2 0] (oH [oMi 3 0] (oS (oH [oM 6 0,oLn 7 6,oMi 8 0] (.block 0 (.loop (oH [oBt 9 .lss 8 7] (oS (oQ 9 .skip (.exit 0)) (oS (.block 1 (oH [oIa 10 1 6 8,oLf 11 10,oM 5 11] (oH [oM 12 5,oM 13 3,oBt 14 .neq 12 13] (oQ 14 (oH [oM 15 5,oM 2 15] .ret) .skip)))) (oG [oBk 16 .add 8 1,oM 8 16]))))))) (oH [oM 17 3,oM 2 17] .ret))))⟩
def zdr:AFn:=⟨20,[.t 4],(oH [oMi 4 0] (oH [oM 7 0,oC 8 383 [.t 7],oM 5 8] (oH [oM 9 1,oC 10 383 [.t 9],oM 6 10] (oS (oH [oM 11 5] (oQ 11 (oS (oH [oM 12 6] (oQ 12 (oH [oMi 4 0] .ret) .skip)) (oH [oMi 4 (-1)] .ret)) .skip)) (oS (oH [oM 13 6] (oQ 13 (oH [oMi 4 1] .ret) .skip)) (oS (oH [oM 14 0,oM 15 1,oBt 16 .lss 14 15] (oQ 16 (oH [oMi 4 (-1)] .ret) .skip)) (oS (oH [oM 17 0,oM 18 1,oBt 19 .gtr 17 18] (oQ 19 (oH [oMi 4 1] .ret) .skip)) (oH [oMi 4 0] .ret))))))))⟩
def zdh:AFn:=⟨20,[.t 4],(oH [oMi 4 0] (oH [oM 7 0,oC 8 384 [.t 7],oM 5 8] (oH [oM 9 1,oC 10 384 [.t 9],oM 6 10] (oS (oH [oM 11 5] (oQ 11 (oS (oH [oM 12 6] (oQ 12 (oH [oMi 4 0] .ret) .skip)) (oH [oMi 4 (-1)] .ret)) .skip)) (oS (oH [oM 13 6] (oQ 13 (oH [oMi 4 1] .ret) .skip)) (oS (oH [oM 14 0,oM 15 1,oBt 16 .lss 14 15] (oQ 16 (oH [oMi 4 (-1)] .ret) .skip)) (oS (oH [oM 17 0,oM 18 1,oBt 19 .gtr 17 18] (oQ 19 (oH [oMi 4 1] .ret) .skip)) (oH [oMi 4 0] .ret))))))))⟩
def zd6:AFn:=⟨6,[.t 2],(oH [oMb 2 false] (oH [oM 3 0,oC 4 177 [.t 3,(kI 0),(kI 2)],oUn 5 4,oM 2 5] .ret))⟩
def jg8:AFn:=⟨36,[.t 4],(oH [oBx 2 0,oBx 3 1,oMi 4 0] (oS (.block 0 (oH [oFa 6 0 2,oLf 7 6,oFa 8 0 3,oLf 9 8,oBt 10 .lss 7 9,oM 11 10,ofa 12 0 2 11,ofl 13 12 11,ofa 14 0 3 11,ofl 15 14 11,oF 16 (.bin .eql (.t 13) (.t 15)) 11,ofm 17 16 11,ota 18 1 2 17,otl 19 18 17,ota 20 1 3 17,otl 21 20 17,oT 22 (.bin .lss (.t 19) (.t 21)) 17,otm 23 22 17,ofa 24 2 2 23,ofl 25 24 23,ofa 26 2 3 23,ofl 27 26 23,oF 28 (.bin .lss (.t 25) (.t 27)) 23,oT 29 (.pick (.t 23) (.k (.bool true)) (.t 28)) 17,oF 30 (.pick (.t 17) (.t 29) (.k (.bool false))) 11,oPo 31 11 30,oM 5 31] (oQ 5 (oH [oMi 4 (-1)] .ret) (oH [oLt 33 3 2,oLt 34 3 3,oP 35 (.eq false true [.i,.i,.s] (.t 33) (.t 34)),oM 32 35] (oQ 32 (oH [oMi 4 0] .ret) .skip))))) (oH [oMi 4 1] .ret)))⟩
def ji8:AFn:=⟨5,[.t 2],(oH [oMb 2 false] (oH [oM 3 0,oC 4 72 [.t 3,(kI 0),(kI 2)],oM 2 4] .ret))⟩
def zh9:AFn:=⟨46,[.t 6],(oH [oBx 3 0,oP 6 (.mv (.k (.nils)))] (oH [oP 11 (.mksl false 1 0 [.int .i64 0] []),oM 7 11] (oS (oH [oMi 8 0] (.block 0 (.loop (oS (oH [oM 12 8,oFa 13 0 3,oLf 14 13,oLn 15 14,oBt 16 .lss 12 15] (oQ 16 .skip (.exit 0))) (oS (.block 1 (oH [oM 20 1,oFa 21 0 3,oLf 22 21,oM 23 8,oIa 24 2 22 23,oFa 25 1 24,oLf 26 25,oC 27 326 [.t 20,.t 26],oM 19 27,oEx 28 19 0,oEx 29 19 1,oM 9 28,oM 10 29] (oH [oM 30 10,oM 31 30,otm 32 9 31,otm 33 2 31,otc 34 329 [.t 32,.t 33] 31,oPa 35 31 34] (oQ 35 (oG [oM 36 7,oFa 37 0 3,oLf 38 37,oM 39 8,oIa 40 2 38 39,oFa 41 0 40,oLf 42 41,oP 43 (.mksl true 1 1 [.int .i64 0] [(0,(.t 42))]),oP 44 (.app 1 8 (.t 36) (.t 43)),oM 7 44]) .skip)))) (oG [oM 17 8,oBk 18 .add 17 1,oM 8 18])))))) (oH [oM 45 7,oM 6 45] .ret))))⟩
theorem zfj:jd Tryz.prog [3,43] 380=some zh9:=yak9
def zct:AFn:=⟨19,[.t 4],(oH [oMi 4 0] (oS (oH [oM 6 0,oLn 7 6,oMi 8 0] (.block 0 (.loop (oH [oBt 9 .lss 8 7] (oS (oQ 9 .skip (.exit 0)) (oS (.block 1 (oH [oM 10 8,oM 5 10] (oH [oM 11 1,oM 12 0,oM 13 5,oIa 14 6 12 13,oLt 15 6 14,⟨some 16,.call (.t 11) [.t 15],none⟩] (oQ 16 (oH [oM 17 5,oM 4 17] .ret) .skip)))) (oG [oBk 18 .add 8 1,oM 8 18]))))))) (oH [oMi 4 (-1)] .ret)))⟩
theorem wb5:jd Tryz.prog [] 381=some zct:=yak9
def jby:AFn:=⟨19,[.t 4],(oH [oMi 4 0] (oS (oH [oM 6 0,oLn 7 6,oMi 8 0] (.block 0 (.loop (oH [oBt 9 .lss 8 7] (oS (oQ 9 .skip (.exit 0)) (oS (.block 1 (oH [oM 10 8,oM 5 10] (oH [oM 11 1,oM 12 0,oM 13 5,oIa 14 1 12 13,oLf 15 14,oBt 16 .eql 11 15] (oQ 16 (oH [oM 17 5,oM 4 17] .ret) .skip)))) (oG [oBk 18 .add 8 1,oM 8 18]))))))) (oH [oMi 4 (-1)] .ret)))⟩
theorem zbl:jd Tryz.prog [] 382=some jby:=yak9
def wep:AFn:=⟨6,[.t 2],(oH [oMb 2 false] (oH [oM 3 0,oM 4 0,oBt 5 .neq 3 4,oM 2 5] .ret))⟩
def jd6:AFn:=⟨6,[.t 2],(oH [oMb 2 false] (oH [oM 3 0,oM 4 0,oBt 5 .neq 3 4,oM 2 5] .ret))⟩
set_option linter.unusedSimpArgs false
theorem mixed:Tryz.prog.follows .mixedOrders=true:=Tryz.checked.mixed
variable {f:Nat}
theorem yap(fz:List Nat)(af:AFn){args:List AV}{r2:AV}(hg:∀G,OldS G->(∀x∈args,∀y∈x.all,Old G.next y)->Go Tryz.prog G.next af.nt af.rets (Fin G r2) [.code af.body] (frOf 0 args) (E G []))(h:jd Tryz.prog fz f=some af:=by kernel_rfl)(hn:args.length<=af.nt:=by exact yak rfl):Pure Tryz.prog f args r2:=Pure.run mixed h hn hg
theorem yaq(fz:List Nat)(af:AFn){args:List AV}{r2:AV}(hg:∀G,Go Tryz.prog G.next af.nt af.rets (Fin G r2) [.code af.body] (frOf 0 args) (E G []))(h:jd Tryz.prog fz f=some af:=by kernel_rfl)(hn:args.length<=af.nt:=by exact yak rfl):Pure Tryz.prog f args r2:=Pure.run mixed h hn λG _ _=>hg G
variable {fz:List Nat}{af:AFn}{args:List AV}{r2:AV}
theorem yar(h:jd Tryz.prog fz f=some af)(hg:∀G,OldS G->(∀x∈args,∀y∈x.all,Old G.next y)->Go Tryz.prog G.next af.nt af.rets (Fin G r2) [.code af.body] (frOf 0 args) (E G []))(hn:args.length<=af.nt:=by exact yak rfl):Pure Tryz.prog f args r2:=Pure.run mixed h hn hg
theorem yas(h:jd Tryz.prog fz f=some af)(hg:∀G,Go Tryz.prog G.next af.nt af.rets (Fin G r2) [.code af.body] (frOf 0 args) (E G []))(hn:args.length<=af.nt:=by exact yak rfl):Pure Tryz.prog f args r2:=Pure.run mixed h hn λG _ _=>hg G
structure Val where
 k:Int
 n:Int
 s:List UInt8
 deriving DecidableEq
def encV(v:Val):List Ce:=[.int .i64 v.k,.int .i64 v.n,.str v.s]
def isIn(n lo hi:Int):Bool:=decide (lo<=n)&&decide (n<=hi)
def ju(v:Val):Bool:=(v.k==0&&v.n==0&&v.s==[])||(v.k==1&&isIn v.n (-1000000000) 1000000000&&v.s==[])||(v.k==2&&v.n==0&&decide ((v.s.length:Int)<=12))
def cmpI(a b:Int):Int:=if a<b then -1 else if b<a then 1 else 0
def cmpS(a b:List UInt8):Int:=if zce a b then -1 else if a==b then 0 else 1
def orI:List Int->Int
 |[]=>0
 |n::r=>if n=0 then orI r else n
def encI(n:Int):List Ce:=[.int .i64 n]
def jlk(v w:Val):Int:=orI [cmpI v.k w.k,cmpI v.n w.n,cmpS v.s w.s]
theorem jfj(n lo hi:Int):Pure Tryz.prog 177 [.c (.int .i64 n),.c (.int .i64 lo),.c (.int .i64 hi)] (.c (.bool (isIn n lo hi))):=by
 refine yaq [] zlk λG=>?_;repeat' first|refine X ?_|exact yaF|refine Y ?_ ?_<;>intro _
 all_goals refine .ret rfl (.bool ?_)
 all_goals(simp_all[isIn]<;>omega)
theorem wa4(n lo hi:Int):Pure Tryz.prog 72 [.c (.int .i64 n),.c (.int .i64 lo),.c (.int .i64 hi)] (.c (.bool (isIn n lo hi))):=by
 refine yaq [] zju λG=>?_;repeat' first|refine X ?_|exact yaF|refine Y ?_ ?_<;>intro _
 all_goals refine .ret rfl (.bool ?_)
 all_goals(simp_all[isIn]<;>omega)
theorem wc8(v:Val):Pure Tryz.prog 305 [.agg (encV v)] (.c (.bool (ju v))):=by
 refine yaq [1] zi3 λG=>?_;repeat' first|refine X ?_|((first|apply Go.pcallB|apply Go.spcallB|apply Qg.pcallB);(iterate 3 exact rfl);exact jfj _ _ _;intro _ _)|exact yaF|refine Y ?_ ?_<;>intro _
 all_goals refine .ret rfl (.bool ?_)
 all_goals simp_all[ju]
theorem jam(v:Val):Pure Tryz.prog 253 [.agg (encV v)] (.c (.bool (ju v))):=by
 refine yaq [1] wi0 λG=>?_;repeat' first|refine X ?_|((first|apply Go.pcallB|apply Go.spcallB|apply Qg.pcallB);(iterate 3 exact rfl);exact wa4 _ _ _;intro _ _)|exact yaF|refine Y ?_ ?_<;>intro _
 all_goals refine .ret rfl (.bool ?_)
 all_goals simp_all[ju]
theorem wmo(n:Int):Pure Tryz.prog 383 [.c (.int .i64 n)] (.c (.bool false)):=by
 refine yap [] wep λG hS hA=>?_;repeat' first|refine X ?_|exact yaF|refine Y ?_ ?_<;>intro _
 all_goals refine .ret rfl (.bool gx)
theorem wlk(n:List UInt8):Pure Tryz.prog 384 [.c (.str n)] (.c (.bool false)):=by
 refine yap [] jd6 λG hS hA=>?_;repeat' first|refine X ?_|exact yaF|refine Y ?_ ?_<;>intro _
 all_goals refine .ret rfl (.bool gx)
theorem jkx(a b:Int):Pure Tryz.prog 375 [.c (.int .i64 a),.c (.int .i64 b)] (.c (.int .i64 (cmpI a b))):=by
 refine yaq [] zdr λG=>?_;repeat' first|refine X ?_|((first|apply yQ|apply yR|apply yS);(iterate 3 exact rfl);exact wmo _)|exact yaF|refine Y ?_ ?_<;>intro _
 all_goals refine .ret rfl (.int ?_)
 all_goals unfold cmpI
 all_goals repeat' split
 all_goals omega
theorem wjz(a b:List UInt8):Pure Tryz.prog 376 [.c (.str a),.c (.str b)] (.c (.int .i64 (cmpS a b))):=by
 refine yaq [] zdh λG=>?_;repeat' first|refine X ?_|((first|apply yQ|apply yR|apply yS);(iterate 3 exact rfl);exact wlk _)|exact yaF|refine Y ?_ ?_<;>intro _
 all_goals refine .ret rfl (.int ?_)
 all_goals unfold cmpS
 all_goals repeat' split
 all_goals simp_all
theorem joa(xs:List Int)(hx:xs.length<=34359738368):Pure Tryz.prog 374 [.c (.fz (xs.map encI))] (.c (.int .i64 (orI xs))):=by
 refine yaq [] zi8 λG=>?_;repeat' first|refine X ?_|exact yaF|refine Y ?_ ?_<;>intro _
 refine Go.keep [3,6,7,8] (Go.loops (I:=λm fr V=>∃i:Nat,∃n L:Int,m=xs.length-i/\i<=xs.length/\n=i/\L=xs.length/\orI xs=orI (xs.drop i)/\
  fr=[(3,.c (.int .i64 0)),(6,.c (.fz (xs.map encI))),(7,.c (.int .i64 L)),(8,.c (.int .i64 n))]/\V=E G []) ?_ _ _ _ ⟨0,_,_,rfl,yad _,rfl,gx,rfl,rfl,rfl⟩)
 rintro m fr V ⟨i,n,L,rfl,hi,hn,hL,hs,rfl,rfl⟩ hrec;repeat' first|refine X ?_|((first|apply yG|apply yH|apply yI);exact rfl;(first|exact yX (enc:=encI) rfl rfl hn O rfl))|exact yaF|refine Y ?_ ?_<;>intro _
 ·refine .ret rfl (.int ?_);rw[hs,yab O];simp[orI, *]
 ·refine Go.keep [3,6,7,8] (hrec _ _ _ ?_ ⟨i+1,_,_,rfl, ?_, ?_,hL, ?_,rfl,rfl⟩)
  ·omega
  ·omega
  ·exact(wb hn O)
  ·rw[hs,yab O];simp[orI, *]
 ·refine .ret rfl (.int ?_);rw[hs,yac O]
  rfl
theorem zmp(v w:Val):Pure Tryz.prog 355 [.agg (encV v),.agg (encV w)] (.c (.int .i64 (jlk v w))):=by
 refine yaq [2,3,20] wi6 λG=>?_;repeat' first|refine X ?_|((first|apply yQ|apply yR|apply yS);(iterate 3 exact rfl);exact jkx _ _)|((first|apply yQ|apply yR|apply yS);(iterate 3 exact rfl);exact wjz _ _)|((first|apply yQ|apply yR|apply yS);(iterate 3 exact rfl);exact joa [cmpI v.k w.k,cmpI v.n w.n,cmpS v.s w.s] gx)|exact yaF|refine Y ?_ ?_<;>intro _
 exact .ret rfl (.int rfl)
def jmp(v w:Val):Int:=if v.k<w.k\/(v.k=w.k/\(v.n<w.n\/zce v.s w.s=true))then -1 else if v=w then 0 else 1
theorem zhf(v w:Val):Pure Tryz.prog 378 [.agg (encV v),.agg (encV w)] (.c (.int .i64 (jmp v w))):=by
 refine yaq [2,3] jg8 λG=>?_;repeat' first|refine X ?_|exact yaF|refine Y ?_ ?_<;>intro _
 all_goals refine .ret rfl (.int ?_)
 all_goals obtain⟨vk,vn,vs⟩:=v
 all_goals obtain⟨wk,wn,ws⟩:=w
 all_goals(simp_all[jmp]<;>split<;>simp_all<;>omega)
def jt(xs:List Val)(most:Int):Bool:=decide ((xs.length:Int)<=most)&&xs.all ju
theorem wkx(xs:List Val)(most:Int)(hm:0<=most)(hx:xs.length<=34359738368):Pure Tryz.prog 241 [.c (.fz (xs.map encV)),.c (.int .i64 most)] (.c (.bool (jt xs most))):=by
 refine yaq [] zg4 λG=>?_;repeat' first|refine X ?_|exact yaF|refine Y ?_ ?_<;>intro _
 refine Go.keep [1,7,8,9] (Go.loops (I:=λm fr V=>∃i:Nat,∃n L:Int,m=xs.length-i/\i<=xs.length/\n=i/\L=xs.length/\((i:Int)<=most/\jt xs most=(decide ((xs.length:Int)<=most)&&(xs.drop i).all ju))/\
  fr=[(1,.c (.int .i64 most)),(7,.c (.fz (xs.map encV))),(8,.c (.int .i64 L)),(9,.c (.int .i64 n))]/\V=E G []) ?_ _ _ _ ⟨0,_,_,rfl,yad _,rfl,gx,⟨hm,rfl⟩,rfl,rfl⟩)
 rintro m fr V ⟨i,n,L,rfl,hi,hn,hL,⟨hs1,hs⟩,rfl,rfl⟩ hrec;repeat' first|refine X ?_|((first|apply yG|apply yH|apply yI);exact rfl;(first|exact yX (enc:=encV) rfl rfl hn O rfl))|((first|apply Go.pcallB|apply Go.spcallB|apply Qg.pcallB);(iterate 3 exact rfl);exact wc8 xs[i];intro _ _)|exact yaF|refine Y ?_ ?_<;>intro _
 ·refine .ret rfl (.bool ?_);clear hrec;rw[hs];simp at*;omega
 ·refine .ret rfl (.bool ?_);clear hrec;rw[hs,yab O,ybv];simp_all
 ·refine Go.keep [1,7,8,9] (hrec _ _ _ O ⟨i+1,_,_,rfl,O,(wb hn O),hL,⟨?_, ?_⟩,rfl,rfl⟩)
  ·clear hrec;simp at*;omega
  ·rw[hs,yab O,ybv];clear hrec;simp_all
 ·refine .ret rfl (.bool ?_);rw[hs,yac O];simp;omega
theorem jh9(v w:Val):Pure Tryz.prog 290 [.agg (encV v),.agg (encV w)] (.c (.bool (v==w))):=by
 refine yaq [2,3] ji2 λG=>?_;repeat' first|refine X ?_|exact yaF|refine Y ?_ ?_<;>intro _
 all_goals refine .ret rfl (.bool ?_)
 all_goals obtain⟨vk,vn,vs⟩:=v
 all_goals obtain⟨wk,wn,ws⟩:=w
 all_goals simp_all
theorem zll(xs ys:List Val)(hx:xs.length<=34359738368):Pure Tryz.prog 289 [.c (.fz (xs.map encV)),.c (.fz (ys.map encV))] (.c (.bool (xs==ys))):=by
 refine yaq [] zh6 λG=>?_;repeat' first|refine X ?_|exact yaF|refine Y ?_ ?_<;>intro _
 ·refine .ret rfl (.bool ?_);rw[eq_comm,beq_eq_false_iff_ne];rintro rfl;simp at*
 refine Go.keep [0,1,5] (Go.loops (I:=λm fr V=>∃i:Nat,∃n:Int,m=xs.length-i/\i<=xs.length/\n=i/\(xs.length=ys.length/\(xs==ys)=(xs.drop i==ys.drop i))/\
  fr=[(0,.c (.fz (xs.map encV))),(1,.c (.fz (ys.map encV))),(5,.c (.int .i64 n))]/\V=E G []) ?_ _ _ _ ⟨0,_,rfl,yad _,rfl,⟨O,rfl⟩,rfl,rfl⟩)
 rintro m fr V ⟨i,n,rfl,hi,hn,⟨hl,hs⟩,rfl,rfl⟩ hrec;repeat' first|refine X ?_|((first|apply yG|apply yH|apply yI);exact rfl;(first|exact yX (enc:=encV) rfl rfl hn (by first|omega|(clear hrec;simp only[List.length_map]at*;omega)) rfl))|((first|apply Go.pcallB|apply Go.spcallB|apply Qg.pcallB);(iterate 3 exact rfl);exact jh9 xs[i] ys[i];intro _ _)|exact yaF|refine Y ?_ ?_<;>intro _
 ·refine .ret rfl (.bool ?_);rw[hs,List.drop_eq_getElem_cons (i:=i) (by first|omega|(clear hrec;simp only[List.length_map]at*;omega)),List.drop_eq_getElem_cons (i:=i) (by first|omega|(clear hrec;simp only[List.length_map]at*;omega)),List.cons_beq_cons];clear hrec;simp_all
 ·refine Go.keep [0,1,5] (hrec _ _ _ (by first|omega|(clear hrec;simp only[List.length_map]at*;omega)) ⟨i+1,_,rfl,(by first|omega|(clear hrec;simp only[List.length_map]at*;omega)),(wb hn O),⟨hl, ?_⟩,rfl,rfl⟩);rw[hs,List.drop_eq_getElem_cons (i:=i) (by first|omega|(clear hrec;simp only[List.length_map]at*;omega)),List.drop_eq_getElem_cons (i:=i) (by first|omega|(clear hrec;simp only[List.length_map]at*;omega)),List.cons_beq_cons];clear hrec;simp_all
 ·refine .ret rfl (.bool ?_);rw[hs,List.drop_eq_nil_of_le (by first|omega|(clear hrec;simp only[List.length_map]at*;omega)),List.drop_eq_nil_of_le (by first|omega|(clear hrec;simp only[List.length_map]at*;omega))]
  rfl
structure woa where
 key:List Val
 id:Int
 deriving DecidableEq
theorem wg8(a:List UInt8):zce a a=false:=by
 induction a with
 |nil=>rfl
 |cons x r ih=>simp_all[zce,Op.bytesLess]
theorem zj0{v w:Val}(hv:ju v=true)(hw:ju w=true):jmp v w=jlk v w:=by
 obtain⟨a,b,s⟩:=v;obtain⟨c,d,t⟩:=w;simp only[ju,isIn,Bool.or_eq_true,Bool.and_eq_true,beq_iff_eq,decide_eq_true_eq]at hv hw;simp only[jmp,jlk,orI,cmpI,cmpS,Val.mk.injEq];rcases hv with(⟨⟨rfl,rfl⟩,rfl⟩|⟨⟨rfl,hb⟩,rfl⟩)|⟨⟨rfl,rfl⟩,hs⟩<;>rcases hw with(⟨⟨rfl,rfl⟩,rfl⟩|⟨⟨rfl,hd⟩,rfl⟩)|⟨⟨rfl,rfl⟩,ht⟩<;>simp[wg8]
 ·by_cases h1:b<d
  ·simp[h1]
  ·by_cases h2:d<b
   ·have:¬b=d:=O;simp[h1,h2,this]
   ·have:b=d:=O;subst this;simp
def key0(e:woa):Val:=match e.key with|v::_=>v|[]=>⟨0,0,[]⟩
def szV(v:Val)(left:Int):Int:=if left-v.s.length<0 then -1 else left-v.s.length
theorem wcp(v:Val)(l:Int)(h:0<=l):szV v l<=l:=by
 simp only[szV];split<;>omega
theorem wh9(v:Val)(left:Int)(hx:v.s.length<=1125899906842624)(h0:0<=left)(h1:left<=34359738368):Pure Tryz.prog 251 [.agg (encV v),.c (.int .i64 left)] (.c (.int .i64 (szV v left))):=by
 refine yaq [2] ji0 λG=>?_;have hw:IntKind.i64.wrap (left-v.s.length)=left-v.s.length:=jg O O;repeat' first|refine X ?_|exact yaF|refine Y ?_ ?_<;>intro _
 ·refine .ret rfl (.int ?_);rename_i h;rw[hw]at h;rw[szV,if_pos h]
 ·refine .ret rfl (.int ?_);rename_i h;rw[hw]at h⊢;rw[szV,if_neg h]
def LenV(v:Val):Prop:=v.s.length<=1125899906842624
theorem jll(xs:List Val)(left:Int)(hx:xs.length<=1125899906842624)(hv:∀v∈xs,LenV v)(h0:0<=left)(h1:left<=34359738368):Pure Tryz.prog 250 [.c (.fz (xs.map encV)),.c (.int .i64 left)] (.c (.int .i64 (szL szV xs left))):=
 wco mixed wff encV szV xs left hx h0 h1 (λ_=>rfl) wcp λa ha l h2 h3=>wh9 a l (hv a ha) h2 O
theorem wll(v:Val):∀x∈encV v,Flat x:=by
 intro x hx;simp only[encV,List.mem_cons,List.not_mem_nil,or_false]at hx;rcases hx with rfl|rfl|rfl<;>constructor
theorem zia(v:Val)(G:wa):Ok Tryz.prog 268 [.agg (encV v)] G (NewL G (encV v)):=by
 refine Ok.run mixed jf7 gz λhS hA=>?_;clear hS hA;repeat' first|refine X ?_|exact yaF|refine Y ?_ ?_<;>intro _
 refine .ret (ja2 rfl rfl rfl gz rfl) ⟨encV v,_,rfl,rfl, ?_,.flat (wll v)⟩;show wa0 G.next [(0,[encV v]),(0,[encV v])];exact .one (λx hx=>.flat (wll v x hx)) (.one (λx hx=>.flat (wll v x hx)) .nil)
theorem zlm(xs:List Val)(hx:xs.length<=34359738368)(G:wa):Ok Tryz.prog 267 [.c (.fz (xs.map encV))] G (New G (.fz (xs.map encV))):=
 jco mixed jfg encV xs hx gb rfl (λ_=>rfl) (by intro x hx;simp only[List.mem_cons,List.not_mem_nil,or_false]at hx;rcases hx with rfl|rfl|rfl<;>constructor) (λa _ G=>zia a G) G
def mDig:Nat->Nat->List UInt8->List UInt8
 |0,_,acc=>acc
 |f+1,n,acc=>if n=0 then acc else mDig f (n/10) (UInt8.ofNat (48+n%10)::acc)
def wby(k:Int):List UInt8:=if k<=0 then[109,48]else 109::mDig 13 k.toNat []
theorem wi8:∀{f:Nat} {acc:List UInt8},mDig f 0 acc=acc
 |0,_=>rfl
 |f+1,_=>rfl
variable {fr:Fr}{G:wa}{y:Opd}
theorem jj0{x:Opd}{a b:List UInt8}(hx:x.ev fr=some (.c (.str a)))(hy:y.ev fr=some (.c (.str b)))(h:a.length+b.length<=9223372036854775807):aop (.bin .add x y) fr G=some (.c (.str (a++b)),G):=by
 simp[aop,hx,hy,binA,h]
theorem zgc{x:Opd}{k:IntKind}{a b:Int}(hx:x.ev fr=some (.c (.int k a)))(hy:y.ev fr=some (.c (.int k b)))(h:b≠0):aop (.bin .rem x y) fr G=some (.c (.int k (a.tmod b)),G):=by
 simp[aop,hx,hy,binA,h]
theorem wj0{x:Opd}{k:IntKind}{a b:Int}(hx:x.ev fr=some (.c (.int k a)))(hy:y.ev fr=some (.c (.int k b)))(h:b≠0):aop (.bin .quo x y) fr G=some (.c (.int k (k.wrap (a.tdiv b))),G):=by
 simp[aop,hx,hy,binA,h]
theorem zn5{n:Int}(h1:0<=n)(h2:n<=255):IntKind.u8.wrap n=n:=by
 rw[IntKind.wrap_u8];omega
theorem zal(k:Int)(hk:k<=34359738368):Pure Tryz.prog 93 [.c (.int .i64 k)] (.c (.str (wby k))):=by
 refine yaq [12] jfw λG=>?_;repeat' first|refine X ?_|exact yaF|refine Y ?_ ?_<;>intro _
 ·refine .ret rfl (.str ?_);rw[wby,if_pos (by assumption)]
 rename_i hpos
 refine Go.keep [0,3] (Go.loops (I:=λm fr V=>∃n:Nat,∃ni:Int,∃acc:List UInt8,ni=n/\n<10^m/\m<=13/\wby k=109::mDig m n acc/\acc.length+m<=13/\
  fr=[(0,.c (.int .i64 ni)),(3,.c (.str acc))]/\V=E G []) ?_ 13 _ _ ⟨k.toNat,_,[],O,O,yai _,by rw[wby,if_neg hpos],gx,rfl,rfl⟩)
 rintro m fr V ⟨n,ni,acc,hn,hlt,hm,hs,hal,rfl,rfl⟩ hrec
 match m,hlt,hm,hs,hal,hrec with
 |0,hlt,hm,hs,hal,hrec=>
  have:n=0:=by simpa using hlt
  subst this;repeat' first|refine X ?_|((first|apply yG|apply yH|apply yI);exact rfl;(first|exact jj0 rfl rfl gq|exact zgc rfl rfl gb|exact wj0 rfl rfl gb))|exact yaF|refine Y ?_ ?_<;>intro _
  refine .ret rfl (.str ?_);rw[hs,wi8]
  rfl
 |m+1,hlt,hm,hs,hal,hrec=>
  have hb:n<=10^13:=yaf (Nat.le_of_lt hlt) (Nat.pow_le_pow_right gb hm);by_cases h0:n=0
  ·subst h0;repeat' first|refine X ?_|((first|apply yG|apply yH|apply yI);exact rfl;(first|exact jj0 rfl rfl gq|exact zgc rfl rfl gb|exact wj0 rfl rfl gb))|exact yaF|refine Y ?_ ?_<;>intro _
   refine .ret rfl (.str ?_);rw[hs,wi8]
   rfl
  ·repeat' first|refine X ?_|((first|apply yG|apply yH|apply yI);exact rfl;(first|exact jj0 rfl rfl gq|exact zgc rfl rfl gb|exact wj0 rfl rfl gb))|exact yaF|refine Y ?_ ?_<;>intro _
   have q1:(n:Int).tdiv 10=((n/10:Nat):Int):=rfl;have q2:(n:Int).tmod 10=((n%10:Nat):Int):=rfl;have e1:IntKind.i64.wrap (ni.tdiv 10)=((n/10:Nat):Int):=by
    rw[hn,q1,jg O O]
   have e2:(IntKind.u8.wrap (IntKind.i64.wrap (48+ni.tmod 10)))=((48+n%10:Nat):Int):=by
    rw[hn,q2,jg O O,zn5 O O];omega
   refine Go.keep [0,3] (hrec m _ _ O ⟨n/10,_,_,e1, ?_,O, ?_, ?_,rfl,rfl⟩)
   ·rw[Nat.div_lt_iff_lt_mul gb,<-Nat.pow_succ];exact hlt
   ·rw[hs,mDig,if_neg h0,e2]
    rfl
   ·simp;omega
def jlm(a k:Int):Int:=k
def zky(v:Val)(k:Int):Val:=⟨k,k+1,wby (k+2)⟩
theorem waa{x0 x1 x5:AV}(h0:look fr 0=some x0)(h1:look fr 1=some x1)(h5:look fr 5=some x5)(t:Nat):look ((0,x0)::(1,x1)::(5,x5)::fr) t=look fr t:=by
 simp only[look];split
 ·rename_i e;subst e;exact h0.symm
 ·split
  ·rename_i e;subst e;exact h1.symm
  ·split
   ·rename_i e;subst e;exact h5.symm
   ·rfl
variable {S:Nat->Prop}{id:Nat}
theorem jgc{x:Nat×List (List Ce)}(hS:S id)(a:Nat)(h:¬S a):(G.put id x).get a=G.get a:=zis (λe=>h (by rw[e];exact hS))
theorem jch(xs:List Int)(k:Int)(hx:xs.length<=34359738368)(hk0:0<=k)(hk:k+cntL (λ_=>1) xs<=34359738368):jdd Tryz.prog 95 (.fz (xs.map encI)) (.fz ((wz jlm (λ_=>1) xs k).map encI)) k (k+cntL (λ_=>1) xs):=by
 refine wau (nt:=19) (q:=18) mixed jdf gb gb encI jlm (λ_=>1) (λ_=>by decide) xs k hx hk0 hk ?_;intro n0 rets R K G V S x i ni ki ys hi fr hn0 hyl hni hki0 hki1 h0 h1 h5 hmem hh hnext;have hi':i<(ys.map encI).length:=by simpa using hi
 have hyi:(ys.map encI)[i]=encI ys[i]:=gx;obtain⟨id,v,c,es,e,rfl,hg,he,hel,hS,hw⟩:=hh.write (i:=i) (j:=0) hi' (by simp[encI]);have hel1:e.length=1:=by rw[hel,hyi];rfl
 refine .same (waa h0 h1 h5) ?_;repeat' first|refine X ?_|((first|apply yG|apply yH|apply yI);exact rfl;(first|exact je rfl rfl hni hi' hg he hel1|exact zk rfl rfl hg he O))|exact yaF|refine Y ?_ ?_<;>intro _
 have hw1:IntKind.i64.wrap (ki+1)=ki+1:=jg O O;refine hnext _ _ rfl (congrArg (λz=>some (AV.c (Ce.int .i64 z))) hw1) rfl rfl (λa ha=>jgc hS a ha) ?_;have:=hw (.int .i64 ki) (.int _ _);rw[hyi]at this;rw[ybm];exact this
variable {n:Nat}
theorem zkm{v i c id' v' i' n' c':Nat}(h:Ce.sl id v i n c=Ce.sl id' v' i' n' c'):id=id'/\v=v'/\n=n':=by
 injection h with a b c d;exact⟨a,b,d⟩
theorem zj1(xs:List Val)(k:Int)(hx:xs.length<=34359738368)(hk0:0<=k)(hk:k+cntL (λ_=>3) xs<=34359738368):jdd Tryz.prog 201 (.fz (xs.map encV)) (.fz ((wz zky (λ_=>3) xs k).map encV)) k (k+cntL (λ_=>3) xs):=by
 refine wau (nt:=35) (q:=34) mixed wd3 gb gb encV zky (λ_=>3) (λ_=>by decide) xs k hx hk0 hk ?_;intro n0 rets R K G V S x i ni ki ys hi fr hn0 hyl hni hki0 hki1 h0 h1 h5 hmem hh hnext;have hi':i<(ys.map encV).length:=by simpa using hi
 have hyi:(ys.map encV)[i]=encV ys[i]:=gx;obtain⟨id,v,c,es,e,rfl,hg,he,hel,hS,hw⟩:=hh.write (i:=i) (j:=0) hi' (by simp[encV]);have hel1:e.length=3:=by rw[hel,hyi];rfl
 have hw1:IntKind.i64.wrap (ki+1)=ki+1:=jg O O;have hw2:IntKind.i64.wrap (ki+1+1)=ki+2:=by rw[jg O O];omega
 have hw3:IntKind.i64.wrap (ki+2+1)=ki+3:=by rw[jg O O];omega
 refine .same (waa h0 h1 h5) ?_;have hh1:=hw (.int .i64 ki) (.int _ _);obtain⟨id1,v1,c1,es1,e1,hx1,hg1,he1,hel1',hS1,hwb⟩:=hh1.write (i:=i) (j:=1) (by simpa using hi') (by simp[encV]);obtain⟨rfl,rfl,-⟩:=zkm hx1;have hh2:=hwb (.int .i64 (ki+1)) (.int _ _);obtain⟨id2,v2,c2,es2,e2,hx2,hg2,he2,hel2',hS2,hwc⟩:=hh2.write (i:=i) (j:=2) (by simpa using hi') (by simp[encV]);obtain⟨rfl,rfl,-⟩:=zkm hx2;have hh3:=hwc (.str (wby (ki+2))) (.str _);have hel2:e1.length=3:=by rw[hel1'];simp[encV]
 have hel3:e2.length=3:=by rw[hel2'];simp[encV]
 repeat' first|refine X ?_|((first|apply yG|apply yH|apply yI);exact rfl;(first|exact je rfl rfl hni hi' hg he hel1|exact zk rfl rfl hg he O))|exact yaF|refine Y ?_ ?_<;>intro _
 rw[hw1];repeat' first|refine X ?_|((first|apply yG|apply yH|apply yI);exact rfl;(first|exact je rfl rfl hni hi' hg1 he1 hel2|exact zk rfl rfl hg1 he1 O))|exact yaF|refine Y ?_ ?_<;>intro _
 rw[hw2];repeat' first|refine X ?_|((first|apply yG|apply yH|apply yI);exact rfl;(first|exact je rfl rfl hni hi' hg2 he2 hel3|exact zk rfl rfl hg2 he2 O))|((first|apply yQ|apply yR|apply yS);(iterate 3 exact rfl);exact zal _ O)|exact yaF|refine Y ?_ ?_<;>intro _
 refine hnext _ _ rfl (congrArg (λz=>some (AV.c (Ce.int .i64 z))) hw3) rfl rfl (λa ha=>?_) ?_
 ·rw[jgc hS a ha,jgc hS a ha,jgc hS a ha]
 ·simp only[List.set_set,List.getElem_set_self,hyi]at hh3;rw[ybm];exact hh3
theorem wmp(xs:List Int):∀e∈xs.map encI,e.length=1/\∀x∈e,Flat x:=by
 intro e he;obtain⟨a,_,rfl⟩:=List.mem_map.1 he;refine⟨rfl,λx hx=>?_⟩;simp only[encI,List.mem_cons,List.not_mem_nil,or_false]at hx;subst hx;exact .int _ _
theorem jdr(xs ys:List Int)(hx:xs.length<=34359738368):Pure Tryz.prog 193 [.c (.fz (xs.map encI)),.c (.fz (ys.map encI))] (.c (.bool (xs==ys))):=by
 refine yaq [] jf3 λG=>?_;repeat' first|refine X ?_|exact yaF|refine Y ?_ ?_<;>intro _
 ·refine .ret rfl (.bool ?_);rw[eq_comm,beq_eq_false_iff_ne];rintro rfl;simp at*
 refine Go.keep [0,1,5] (Go.loops (I:=λm fr V=>∃i:Nat,∃n:Int,m=xs.length-i/\i<=xs.length/\n=i/\(xs.length=ys.length/\(xs==ys)=(xs.drop i==ys.drop i))/\
  fr=[(0,.c (.fz (xs.map encI))),(1,.c (.fz (ys.map encI))),(5,.c (.int .i64 n))]/\V=E G []) ?_ _ _ _ ⟨0,_,rfl,yad _,rfl,⟨O,rfl⟩,rfl,rfl⟩)
 rintro m fr V ⟨i,n,rfl,hi,hn,⟨hl,hsl⟩,rfl,rfl⟩ hrec;by_cases hlt:i<xs.length
 ·have hlt2:i<ys.length:=O;repeat' first|refine X ?_|((first|apply yG|apply yH|apply yI);exact rfl;(first|exact yax encI hn hlt|exact yax encI hn hlt2))|exact yaF|refine Y ?_ ?_<;>intro _
  ·refine .ret rfl (.bool ?_);rw[hsl,yab hlt,yab hlt2,List.cons_beq_cons];clear hrec;simp_all
  ·refine Go.keep [0,1,5] (hrec _ _ _ O ⟨i+1,_,rfl,hlt,wb hn O,⟨hl, ?_⟩,rfl,rfl⟩);rw[hsl,yab hlt,yab hlt2,List.cons_beq_cons];clear hrec;simp_all
 ·repeat' first|refine X ?_|exact yaF|refine Y ?_ ?_<;>intro _
  refine .ret rfl (.bool ?_);rw[hsl,yac O,yac O]
  rfl
theorem cnt3(xs:List Val):cntL (λ_=>3) xs=3*xs.length:=by
 induction xs with
 |nil=>rfl
 |cons a r ih=>simp only[cntL,ih,List.length_cons];omega
theorem cnt1(xs:List Int):cntL (λ_=>1) xs=xs.length:=by
 induction xs with
 |nil=>rfl
 |cons a r ih=>simp only[cntL,ih,List.length_cons];omega
def j4:List (Int->Int)->Int->Int
 |[],l=>l
 |f::r,l=>if f l<0 then -1 else j4 r (f l)
inductive zcz:List (Int->Int)->Prop where
 |nil:zcz []
 |cons {f:Int->Int} {r:List (Int->Int)} (h:∀l,0<=l->f l<=l) (k:zcz r):zcz (f::r)
variable {fs:List (Int->Int)}
theorem waz(h:zcz fs):∀l,0<=l->j4 fs l<=l:=by
 induction h with
 |nil=>intro l _;exact yaxq _
 |@cons f0 r h _ ih=>
  intro l hl;simp only[j4];split
  ·omega
  ·have:=h l hl;have:=ih (f0 l) O;omega
theorem wam(h:zcz fs):∀l,0<=l->0<=j4 fs l->∀f∈fs,∃q,0<=q/\q<=l/\0<=f q:=by
 induction h with
 |nil=>intro l _ _ f hf;simp at hf
 |@cons f0 r h _ ih=>
  intro l hl hc f hf;simp only[j4]at hc;split at hc
  ·omega
  ·rename_i h0;rcases List.mem_cons.1 hf with rfl|hf
   ·exact⟨l,hl,yaxq _,O⟩
   ·obtain⟨q,h1,h2,h3⟩:=ih _ O hc f hf;have:=h l hl;exact⟨q,h1,O,h3⟩
theorem zc9(s:List UInt8):∀l:Int,0<=l->l-s.length<=l:=λl _=>O
def zI(xs:List Int)(l:Int):Int:=if l-xs.length<0 then -1 else l-xs.length
theorem zcb(xs:List Int):∀l:Int,0<=l->zI xs l<=l:=λl _=>by
 simp only[zI];split<;>omega
def bV(N:Nat)(v:Val):Prop:=v.s.length<=N
theorem znm{v:Val}{l:Int}{N:Nat}(h:0<=szV v l)(hl:l<=N):bV N v:=by
 simp only[szV]at h;simp only[bV];split at h<;>omega
theorem jj1{xs:List Int}{l:Int}{N:Nat}(h:0<=zI xs l)(hl:l<=N):xs.length<=N:=by
 simp only[zI]at h;split at h<;>omega
theorem waq{α:Type}{g:α->Int->Int}{b:Nat->α->Prop}(hg:∀a l,0<=l->g a l<=l)(hb:∀a l (N:Nat),0<=l->0<=g a l->l<=N->b N a){xs:List α}{l:Int}{N:Nat}(h0:0<=l)(h:0<=szL g xs l)(hl:l<=N):xs.length<=N/\∀x∈xs,b N x:=by
 obtain⟨h1,h2⟩:=znl hg (xs:=xs) (left:=l) h0 h;refine⟨O,λx hx=>?_⟩;obtain⟨q,a,b,c⟩:=h2 x hx;exact hb x q N a c O
theorem wdr(xs:List Int)(left:Int)(hx:xs.length<=1125899906842624)(h0:0<=left)(h1:left<=34359738368):Pure Tryz.prog 149 [.c (.fz (xs.map encI)),.c (.int .i64 left)] (.c (.int .i64 (zI xs left))):=by
 refine yaq [] wfy λG=>?_;have hw:IntKind.i64.wrap (left-xs.length)=left-xs.length:=jg O O;repeat' first|refine X ?_|exact yaF|refine Y ?_ ?_<;>intro _
 ·refine .ret rfl (.int ?_);rename_i h;rw[hw]at h;rw[zI,if_pos h]
 ·refine .ret rfl (.int ?_);rename_i h;rw[hw]at h⊢;rw[zI,if_neg h]
theorem zds(xs:List Int)(hx:xs.length<=34359738368)(G:wa):Ok Tryz.prog 167 [.c (.fz (xs.map encI))] G (New G (.fz (xs.map encI))):=by
 refine jgw.new (s:=1) (wmp xs) (jgw.run mixed wd1 gz λG hS hA=>?_) G;clear hS hA;repeat' first|refine X ?_|((first|apply yG|apply yH|apply yI);exact rfl;(first|exact zw rfl rfl (show 8*xs.length<=140737488355328 by omega)))|exact yaF|refine Y ?_ ?_<;>intro _
 refine Go.keep [0,3,4] (Go.loops (I:=λm fr V=>∃i:Nat,∃n:Int,∃cs:List (List Ce),m=xs.length-i/\i<=xs.length/\n=i/\(cs.length=xs.length/\(∀e∈cs,e.length=1)/\∀j (h1:j<xs.length) (h2:j<cs.length),j<i->cs[j]=encI xs[j])/\
  fr=[(0,.c (.fz (xs.map encI))),(3,.c (.sl (G.next+0) 0 0 xs.length xs.length)),(4,.c (.int .i64 n))]/\V=E G [(0,cs)]) ?_ _ _ _ ⟨0,_,List.replicate xs.length [.int .i64 0],rfl,yad _,rfl,⟨gx,λe he=>by rw[ybj he];rfl,λj _ _ h=>absurd h O⟩,rfl,rfl⟩)
 rintro m fr V ⟨i,n,cs,rfl,hi,hn,⟨hcl,hcs,hh⟩,rfl,rfl⟩ hrec;by_cases hlt:i<xs.length
 ·have hlc:i<cs.length:=O;have he:cs[0+i]?=some cs[i]:=by simp[hlc]
  have hel:cs[i].length=1:=hcs _ (yaa hlc);repeat' first|refine X ?_|((first|apply yG|apply yH|apply yI);exact rfl;(first|exact yax encI hn hlt|exact z9 (k:=0) (n:=i) rfl rfl hn hlt rfl he hel|exact jm (k:=0) rfl rfl rfl rfl he rfl O))|exact yaF|refine Y ?_ ?_<;>intro _
  have hsp:zj cs[i] 0 [Ce.int IntKind.i64 xs[i]]=encI xs[i]:=weg hel rfl;rw[hsp];refine Go.keep [0,3,4] (hrec _ _ _ O ⟨i+1,_,cs.set (0+i) (encI xs[i]),rfl,hlt,wb hn O,⟨by simp[hcl],λe he'=>?_,λj h1 h2 hj=>?_⟩,rfl,rfl⟩)
  ·rcases ybe he' with h|h
   ·exact hcs _ h
   ·rw[h];rfl
  ·by_cases e:j=i
   ·subst e;simp
   ·rw[ybf O];exact hh j h1 (by simpa using h2) O
 ·repeat' first|refine X ?_|exact yaF|refine Y ?_ ?_<;>intro _
  have hcs2:cs=xs.map encI:=List.ext_getElem (by simp[hcl]) λj h1 h2=>by
   rw[List.getElem_map];exact hh j (by simpa using h2) h1 (by simp at h2;omega)
  subst hcs2;refine .ret rfl ⟨0,[],Jk.nil, ?_,gx⟩;simp[vec]
variable {l:List (Nat×List (List Ce))}
theorem Has.more{y x:Ce}(h:∀A B,Has (E G (A::B::l)) S y x)(hS:∀a,S a->G.next+2<=a/\a<G.next+2+l.length)(m:List (Nat×List (List Ce))):∀A B,Has (E G (A::B::(l++m))) S y x:=by
 intro A B;refine(h A B).frame λa ha=>?_;have:=hS a ha;rw[E_ge O,E_ge O];obtain⟨q,hq⟩:∃q,a-G.next=q+2:=⟨a-G.next-2,O⟩;rw[hq];simp only[List.getElem?_cons_succ];rw[ybb O]
theorem Has.new2{y x:Ce}{A0 B0:Nat×List (List Ce)}{l2:List (Nat×List (List Ce))}(h:Has (E G ((A0::B0::l)++l2)) (λa=>(E G (A0::B0::l)).next<=a/\a<(E G ((A0::B0::l)++l2)).next) y x):
 ∀A B,Has (E G (A::B::(l++l2))) (λa=>G.next+2+l.length<=a/\a<G.next+2+(l++l2).length) y x:=by
 intro A B;refine(h.frame λa ha=>?_).mono λa ha=>?_
 ·have:=ha.1;simp only[z4,List.length_cons]at this;exact zoa O
 ·have h1:=ha.1;have h2:=ha.2;simp only[z4,List.length_cons,List.length_append]at h1 h2⊢;omega
theorem HasL.skip{V:wa}{c:Ce}{ys xs:List Ce}(hc:Flat c)(k:HasL V S ys xs):HasL V S (c::ys) (c::xs):=
 (HasL.two (S:=λ_=>False) (.c hc) k (λ_ h=>h.elim)).mono λa ha=>ha.elim (λh=>h.elim) id
theorem wae{m:List (Nat×List (List Ce))}(h:wa0 n l)(k:wa0 n m):wa0 n (l++m):=λb hb=>(List.mem_append.1 hb).elim (h b) (k b)
theorem zar{l2:List (Nat×List (List Ce))}(h:wa0 (E G l).next l2):wa0 G.next l2:=λb hb e he x hx=>(h b hb e he x hx).mono (by simp[z4])
structure Tok where
 kind:Int
 col:Int
 v:Val
 deriving DecidableEq
def zh(a:Tok):List Ce:=[.int .i64 a.kind,.int .i64 a.col,.int .i64 a.v.k,.int .i64 a.v.n,.str a.v.s]
theorem wgc(a:Tok):∀x∈zh a,Flat x:=by
 intro x hx;simp only[zh,List.mem_cons,List.not_mem_nil,or_false]at hx;rcases hx with rfl|rfl|rfl|rfl|rfl<;>constructor
def bTok(N:Nat)(a:Tok):Prop:=bV N a.v
def zTok(a:Tok):Int->Int:=j4 [(szV a.v)]
theorem jhf(a:Tok):zcz [(szV a.v)]:=(.cons (λl h=>wcp _ l h) .nil)
theorem jag(a:Tok)(l:Int)(h:0<=l):zTok a l<=l:=waz (jhf a) l h
theorem zgd(a:Tok)(l:Int)(N:Nat)(h0:0<=l)(h:0<=zTok a l)(hl:l<=N):bTok N a:=by
 have hh:=wam (jhf a) l h0 h;obtain⟨q0,u0,v0,w0⟩:=hh (szV a.v) gx;exact(znm w0 O)
theorem zmq(a:Tok)(left:Int)(hb:bTok 1125899906842624 a)(h0:0<=left)(h1:left<=34359738368):Pure Tryz.prog 155 [.agg (zh a),.c (.int .i64 left)] (.c (.int .i64 (zTok a left))):=by
 refine yaq [2] jiv λG=>?_;repeat' first|refine X ?_|fail
 refine .pcall rfl rfl rfl (wh9 a.v left hb O O) ?_;have y1:=wcp a.v left O;generalize e1:szV a.v left=l1 at y1⊢;repeat' first|refine X ?_|exact yaF|refine Y ?_ ?_<;>intro _
 ·refine .ret rfl (.int ?_);rename_i h;simp only[zTok,j4,e1,if_pos h]
 rename_i g1;refine .ret rfl (.int ?_);simp only[zTok,j4,e1,if_neg g1]
theorem jcz(xs:List Tok)(left:Int)(hx:xs.length<=1125899906842624)(hv:∀e∈xs,bTok 1125899906842624 e)(h0:0<=left)(h1:left<=34359738368):Pure Tryz.prog 62 [.c (.fz (xs.map zh)),.c (.int .i64 left)] (.c (.int .i64 (szL zTok xs left))):=
 wco mixed we6 zh zTok xs left hx h0 h1 (λ_=>rfl) jag λa ha l h2 h3=>zmq a l (hv a ha) h2 O
theorem jmq(a:Tok)(hb:bTok 34359738368 a)(G:wa):Ok Tryz.prog 173 [.agg (zh a)] G (NewL G (zh a)):=by
 refine Ok.run mixed jf1 gz λhS hA=>?_;clear hS hA;repeat' first|refine X ?_|refine yaC (NewL.pure (zia a.v)) ?_|exact yaF|refine Y ?_ ?_<;>intro _
 refine .ret (ja2 rfl rfl rfl gz rfl) ⟨zh a,_,rfl,rfl, ?_,.flat (wgc a)⟩;show wa0 G.next [(0,[zh a]),(0,[zh a])];exact .one (λx hx=>.flat (wgc a x hx)) (.one (λx hx=>.flat (wgc a x hx)) .nil)
theorem wcz(xs:List Tok)(hx:xs.length<=34359738368)(hv:∀e∈xs,bTok 34359738368 e)(G:wa):Ok Tryz.prog 77 [.c (.fz (xs.map zh))] G (New G (.fz (xs.map zh))):=
 jco mixed je8 zh xs hx gb rfl (λ_=>rfl) (by intro x hx;simp only[List.mem_cons,List.not_mem_nil,or_false]at hx;rcases hx with rfl|rfl|rfl|rfl|rfl<;>constructor) (λa ha G=>jmq a (hv a ha) G) G
theorem jnm(a b:Tok):(a==b)=(a.kind==b.kind&&a.col==b.col&&a.v==b.v):=by
 obtain⟨a0,a1,a2⟩:=a;obtain⟨b0,b1,b2⟩:=b;rw[ybc];simp[and_assoc]
theorem wmq(a b:Tok)(hb:bTok 34359738368 a):Pure Tryz.prog 199 [.agg (zh a),.agg (zh b)] (.c (.bool (a==b))):=by
 refine yaq [2,3] ziz λG=>?_;have hq:=jnm a b;repeat' first|refine X ?_|((first|apply Go.pcallB|apply Go.spcallB|apply Qg.pcallB);(iterate 3 exact rfl);exact jh9 a.v b.v;intro _ _)|exact yaF|refine Y ?_ ?_<;>intro _
 all_goals refine .ret rfl (.bool ?_)
 all_goals rw[hq]
 all_goals clear hq hb
 all_goals simp_all
theorem zc0(xs ys:List Tok)(hx:xs.length<=34359738368)(hv:∀e∈xs,bTok 34359738368 e):Pure Tryz.prog 91 [.c (.fz (xs.map zh)),.c (.fz (ys.map zh))] (.c (.bool (xs==ys))):=
 jcu mixed we9 zh xs ys hx (λ_=>rfl) λa ha b=>wmq a b (hv a ha)
structure Chk where
 expr:List Tok
 deriving DecidableEq
def zx(a:Chk):List Ce:=[.fz (a.expr.map zh)]
def bChk(N:Nat)(a:Chk):Prop:=(a.expr.length<=N/\∀x∈a.expr,bTok N x)
def zChk(a:Chk):Int->Int:=j4 [(szL zTok a.expr)]
theorem whf(a:Chk):zcz [(szL zTok a.expr)]:=(.cons (λl h=>zac jag _ l h) .nil)
theorem jgd(a:Chk)(l:Int)(h:0<=l):zChk a l<=l:=waz (whf a) l h
theorem wnm(a:Chk)(l:Int)(N:Nat)(h0:0<=l)(h:0<=zChk a l)(hl:l<=N):bChk N a:=by
 have hh:=wam (whf a) l h0 h;obtain⟨q0,u0,v0,w0⟩:=hh (szL zTok a.expr) gx;exact(waq jag zgd u0 w0 O)
theorem zmr(a:Chk)(left:Int)(hb:bChk 1125899906842624 a)(h0:0<=left)(h1:left<=34359738368):Pure Tryz.prog 247 [.agg (zx a),.c (.int .i64 left)] (.c (.int .i64 (zChk a left))):=by
 refine yaq [2] wg4 λG=>?_;repeat' first|refine X ?_|fail
 refine .pcall rfl rfl rfl (jcz a.expr left hb.1 hb.2 O O) ?_;have y1:=zac jag a.expr left O;generalize e1:szL zTok a.expr left=l1 at y1⊢;repeat' first|refine X ?_|exact yaF|refine Y ?_ ?_<;>intro _
 ·refine .ret rfl (.int ?_);rename_i h;simp only[zChk,j4,e1,if_pos h]
 rename_i g1;refine .ret rfl (.int ?_);simp only[zChk,j4,e1,if_neg g1]
theorem wlm(xs:List Chk)(left:Int)(hx:xs.length<=1125899906842624)(hv:∀e∈xs,bChk 1125899906842624 e)(h0:0<=left)(h1:left<=34359738368):Pure Tryz.prog 151 [.c (.fz (xs.map zx)),.c (.int .i64 left)] (.c (.int .i64 (szL zChk xs left))):=
 wco mixed jd1 zx zChk xs left hx h0 h1 (λ_=>rfl) jgd λa ha l h2 h3=>zmr a l (hv a ha) h2 O
theorem jmr(a:Chk)(hb:bChk 34359738368 a)(G:wa):Ok Tryz.prog 264 [.agg (zx a)] G (NewL G (zx a)):=by
 refine Ok.run mixed wen gz λhS hA=>?_;clear hS hA;repeat' first|refine X ?_|exact yaF|refine Y ?_ ?_<;>intro _
 refine Go.call _ rfl rfl rfl (wcz a.expr hb.1 hb.2 _) ?_;rintro r G0 ⟨x0,m0,rfl,rfl,t0,h0⟩;rw[E_E]at h0⊢;have t0:=zar t0;have h0:=h0.new2;repeat' first|refine X ?_|exact yaF|refine Y ?_ ?_<;>intro _
 have hL:HasL (E G ((0,[[x0]])::(0,[[x0]])::([]++m0))) (λa=>G.next+2<=a/\a<G.next+2+([]++m0).length) (zx a) [x0]:=by
  refine HasL.mono ?_ (HasL.two (h0 _ _) (HasL.nil (S:=λa=>a<0)) (λa ha hb=>by(try dsimp only at ha hb);(try simp only[List.append_eq,List.length_append,List.length_nil,List.nil_append]at ha hb);omega));intro a ha
  (try dsimp only at ha)
  (try simp only[List.append_eq,List.length_append,List.length_nil,List.nil_append]at ha⊢)
  omega
 have hT:=hL.tidy (n:=G.next) λa ha=>by have:=ha.1;omega
 have hM:wa0 G.next ([]++m0):=(wae (λb hb=>by simp at hb) t0);have hN:NewL G (zx a) (.agg [x0]) (E G ((0,[[x0]])::(0,[[x0]])::([]++m0))):=by
  refine⟨_,_,rfl,rfl,.one hT (.one hT hM),hL.mono ?_⟩;intro a ha;have h9:=ha.1;have h8:=ha.2
  (try simp only[z4,List.length_cons,List.append_eq,List.length_append,List.length_nil,List.nil_append]at h8⊢)
  constructor<;>omega
 exact .ret (ja2 rfl rfl rfl gz rfl) hN
theorem zln(xs:List Chk)(hx:xs.length<=34359738368)(hv:∀e∈xs,bChk 34359738368 e)(G:wa):Ok Tryz.prog 169 [.c (.fz (xs.map zx))] G (New G (.fz (xs.map zx))):=
 jco mixed zd2 zx xs hx gb rfl (λ_=>rfl) (by intro x hx;simp only[List.mem_cons,List.not_mem_nil,or_false]at hx;rcases hx with rfl<;>constructor) (λa ha G=>jmr a (hv a ha) G) G
theorem znn(a b:Chk):(a==b)=(a.expr==b.expr):=by
 obtain⟨a0⟩:=a;obtain⟨b0⟩:=b;rw[ybc];simp[and_assoc]
theorem wmr(a b:Chk)(hb:bChk 34359738368 a):Pure Tryz.prog 286 [.agg (zx a),.agg (zx b)] (.c (.bool (a==b))):=by
 refine yaq [2,3] wg6 λG=>?_;have hq:=znn a b;repeat' first|refine X ?_|((first|apply Go.pcallB|apply Go.spcallB|apply Qg.pcallB);(iterate 3 exact rfl);exact zc0 a.expr b.expr hb.1 hb.2;intro _ _)|exact yaF|refine Y ?_ ?_<;>intro _
 all_goals refine .ret rfl (.bool ?_)
 all_goals rw[hq]
 all_goals clear hq hb
 all_goals simp_all
theorem jln(xs ys:List Chk)(hx:xs.length<=34359738368)(hv:∀e∈xs,bChk 34359738368 e):Pure Tryz.prog 195 [.c (.fz (xs.map zx)),.c (.fz (ys.map zx))] (.c (.bool (xs==ys))):=
 jcu mixed jd3 zx xs ys hx (λ_=>rfl) λa ha b=>wmr a b (hv a ha)
structure Uniq where
 cols:List Int
 deriving DecidableEq
def jo(a:Uniq):List Ce:=[.fz (a.cols.map encI)]
def wfj(N:Nat)(a:Uniq):Prop:=a.cols.length<=N
def jds(a:Uniq):Int->Int:=j4 [(zI a.cols)]
theorem wgd(a:Uniq):zcz [(zI a.cols)]:=(.cons (zcb _) .nil)
theorem wd6(a:Uniq)(l:Int)(h:0<=l):jds a l<=l:=waz (wgd a) l h
theorem zms(a:Uniq)(l:Int)(N:Nat)(h0:0<=l)(h:0<=jds a l)(hl:l<=N):wfj N a:=by
 have hh:=wam (wgd a) l h0 h;obtain⟨q0,u0,v0,w0⟩:=hh (zI a.cols) gx;exact(jj1 w0 O)
theorem wln(a:Uniq)(left:Int)(hb:wfj 1125899906842624 a)(h0:0<=left)(h1:left<=34359738368):Pure Tryz.prog 246 [.agg (jo a),.c (.int .i64 left)] (.c (.int .i64 (jds a left))):=by
 refine yaq [2] zf5 λG=>?_;repeat' first|refine X ?_|fail
 refine .pcall rfl rfl rfl (wdr a.cols left hb O O) ?_;have y1:=zcb a.cols left O;generalize e1:zI a.cols left=l1 at y1⊢;repeat' first|refine X ?_|exact yaF|refine Y ?_ ?_<;>intro _
 ·refine .ret rfl (.int ?_);rename_i h;simp only[jds,j4,e1,if_pos h]
 rename_i g1;refine .ret rfl (.int ?_);simp only[jds,j4,e1,if_neg g1]
theorem jky(xs:List Uniq)(left:Int)(hx:xs.length<=1125899906842624)(hv:∀e∈xs,wfj 1125899906842624 e)(h0:0<=left)(h1:left<=34359738368):Pure Tryz.prog 150 [.c (.fz (xs.map jo)),.c (.int .i64 left)] (.c (.int .i64 (szL jds xs left))):=
 wco mixed zdp jo jds xs left hx h0 h1 (λ_=>rfl) wd6 λa ha l h2 h3=>wln a l (hv a ha) h2 O
theorem zlo(a:Uniq)(hb:wfj 34359738368 a)(G:wa):Ok Tryz.prog 263 [.agg (jo a)] G (NewL G (jo a)):=by
 refine Ok.run mixed zd4 gz λhS hA=>?_;clear hS hA;repeat' first|refine X ?_|exact yaF|refine Y ?_ ?_<;>intro _
 refine Go.call _ rfl rfl rfl (zds a.cols hb _) ?_;rintro r G0 ⟨x0,m0,rfl,rfl,t0,h0⟩;rw[E_E]at h0⊢;have t0:=zar t0;have h0:=h0.new2;repeat' first|refine X ?_|exact yaF|refine Y ?_ ?_<;>intro _
 have hL:HasL (E G ((0,[[x0]])::(0,[[x0]])::([]++m0))) (λa=>G.next+2<=a/\a<G.next+2+([]++m0).length) (jo a) [x0]:=by
  refine HasL.mono ?_ (HasL.two (h0 _ _) (HasL.nil (S:=λa=>a<0)) (λa ha hb=>by(try dsimp only at ha hb);(try simp only[List.append_eq,List.length_append,List.length_nil,List.nil_append]at ha hb);omega));intro a ha
  (try dsimp only at ha)
  (try simp only[List.append_eq,List.length_append,List.length_nil,List.nil_append]at ha⊢)
  omega
 have hT:=hL.tidy (n:=G.next) λa ha=>by have:=ha.1;omega
 have hM:wa0 G.next ([]++m0):=(wae (λb hb=>by simp at hb) t0);have hN:NewL G (jo a) (.agg [x0]) (E G ((0,[[x0]])::(0,[[x0]])::([]++m0))):=by
  refine⟨_,_,rfl,rfl,.one hT (.one hT hM),hL.mono ?_⟩;intro a ha;have h9:=ha.1;have h8:=ha.2
  (try simp only[z4,List.length_cons,List.append_eq,List.length_append,List.length_nil,List.nil_append]at h8⊢)
  constructor<;>omega
 exact .ret (ja2 rfl rfl rfl gz rfl) hN
theorem wky(xs:List Uniq)(hx:xs.length<=34359738368)(hv:∀e∈xs,wfj 34359738368 e)(G:wa):Ok Tryz.prog 168 [.c (.fz (xs.map jo))] G (New G (.fz (xs.map jo))):=
 jco mixed jdp jo xs hx gb rfl (λ_=>rfl) (by intro x hx;simp only[List.mem_cons,List.not_mem_nil,or_false]at hx;rcases hx with rfl<;>constructor) (λa ha G=>zlo a (hv a ha) G) G
theorem jms(a b:Uniq):(a==b)=(a.cols==b.cols):=by
 obtain⟨a0⟩:=a;obtain⟨b0⟩:=b;rw[ybc];simp[and_assoc]
theorem jlo(a b:Uniq)(hb:wfj 34359738368 a):Pure Tryz.prog 285 [.agg (jo a),.agg (jo b)] (.c (.bool (a==b))):=by
 refine yaq [2,3] jf8 λG=>?_;have hq:=jms a b;repeat' first|refine X ?_|((first|apply Go.pcallB|apply Go.spcallB|apply Qg.pcallB);(iterate 3 exact rfl);exact jdr a.cols b.cols hb;intro _ _)|exact yaF|refine Y ?_ ?_<;>intro _
 all_goals refine .ret rfl (.bool ?_)
 all_goals rw[hq]
 all_goals clear hq hb
 all_goals simp_all
theorem zkz(xs ys:List Uniq)(hx:xs.length<=34359738368)(hv:∀e∈xs,wfj 34359738368 e):Pure Tryz.prog 194 [.c (.fz (xs.map jo)),.c (.fz (ys.map jo))] (.c (.bool (xs==ys))):=
 jcu mixed zdq jo xs ys hx (λ_=>rfl) λa ha b=>jlo a b (hv a ha)
structure Fk where
 cols:List Int
 table:List UInt8
 onDelete:Int
 onUpdate:Int
 deferred:Bool
 deriving DecidableEq
def j3(a:Fk):List Ce:=[.fz (a.cols.map encI),.str a.table,.int .i64 a.onDelete,.int .i64 a.onUpdate,.bool a.deferred]
def bFk(N:Nat)(a:Fk):Prop:=a.cols.length<=N/\a.table.length<=N
def zFk(a:Fk):Int->Int:=j4 [(zI a.cols),(λl=>l-a.table.length)]
theorem zi9(a:Fk):zcz [(zI a.cols),(λl=>l-a.table.length)]:=(.cons (zcb _) (.cons (zc9 _) .nil))
theorem ji9(a:Fk)(l:Int)(h:0<=l):zFk a l<=l:=waz (zi9 a) l h
theorem jn5(a:Fk)(l:Int)(N:Nat)(h0:0<=l)(h:0<=zFk a l)(hl:l<=N):bFk N a:=by
 have hh:=wam (zi9 a) l h0 h;obtain⟨q0,u0,v0,w0⟩:=hh (zI a.cols) gx;obtain⟨q1,u1,v1,w1⟩:=hh (λl=>l-a.table.length) gx;exact⟨(jj1 w0 O),(by(try simp only at w1);omega)⟩
theorem jnn(a:Fk)(left:Int)(hb:bFk 1125899906842624 a)(h0:0<=left)(h1:left<=34359738368):Pure Tryz.prog 248 [.agg (j3 a),.c (.int .i64 left)] (.c (.int .i64 (zFk a left))):=by
 refine yaq [2] jjw λG=>?_;repeat' first|refine X ?_|fail
 refine .pcall rfl rfl rfl (wdr a.cols left hb.1 O O) ?_;have y1:=zcb a.cols left O;generalize e1:zI a.cols left=l1 at y1⊢;have w2:0<=l1->IntKind.i64.wrap (l1-a.table.length)=l1-a.table.length:=λh=>jg (by have:a.table.length<=1125899906842624:=hb.2;omega) O;repeat' first|refine X ?_|exact yaF|refine Y ?_ ?_<;>intro _
 ·refine .ret rfl (.int ?_);rename_i h;simp only[zFk,j4,e1,if_pos h]
 ·refine .ret rfl (.int ?_);rename_i g1 h;have v2:=w2 O;simp only[v2]at h;simp only[zFk,j4,e1,if_neg g1,if_pos h]
 rename_i g1 g2;have v2:=w2 O;simp only[v2]at g2⊢;obtain⟨l2,e2⟩:∃q,l1-(a.table.length:Int)=q:=⟨_,rfl⟩;rw[e2]at g2⊢;refine .ret rfl (.int ?_);simp only[zFk,j4,e1,e2,if_neg g1,if_neg g2]
theorem wms(xs:List Fk)(left:Int)(hx:xs.length<=1125899906842624)(hv:∀e∈xs,bFk 1125899906842624 e)(h0:0<=left)(h1:left<=34359738368):Pure Tryz.prog 152 [.c (.fz (xs.map j3)),.c (.int .i64 left)] (.c (.int .i64 (szL zFk xs left))):=
 wco mixed jfz j3 zFk xs left hx h0 h1 (λ_=>rfl) ji9 λa ha l h2 h3=>jnn a l (hv a ha) h2 O
theorem wnn(a:Fk)(hb:bFk 34359738368 a)(G:wa):Ok Tryz.prog 265 [.agg (j3 a)] G (NewL G (j3 a)):=by
 refine Ok.run mixed zg6 gz λhS hA=>?_;clear hS hA;repeat' first|refine X ?_|exact yaF|refine Y ?_ ?_<;>intro _
 refine Go.call _ rfl rfl rfl (zds a.cols hb.1 _) ?_;rintro r G0 ⟨x0,m0,rfl,rfl,t0,h0⟩;rw[E_E]at h0⊢;have t0:=zar t0;have h0:=h0.new2;repeat' first|refine X ?_|exact yaF|refine Y ?_ ?_<;>intro _
 have hL:HasL (E G ((0,[[x0,.str a.table,.int .i64 a.onDelete,.int .i64 a.onUpdate,.bool a.deferred]])::(0,[[x0,.str a.table,.int .i64 a.onDelete,.int .i64 a.onUpdate,.bool a.deferred]])::([]++m0))) (λa=>G.next+2<=a/\a<G.next+2+([]++m0).length) (j3 a) [x0,.str a.table,.int .i64 a.onDelete,.int .i64 a.onUpdate,.bool a.deferred]:=by
  refine HasL.mono ?_ (HasL.two (h0 _ _) (HasL.skip (.str _) (HasL.skip (.int _ _) (HasL.skip (.int _ _) (HasL.skip (.bool _) (HasL.nil (S:=λa=>a<0)))))) (λa ha hb=>by(try dsimp only at ha hb);(try simp only[List.append_eq,List.length_append,List.length_nil,List.nil_append]at ha hb);omega));intro a ha
  (try dsimp only at ha)
  (try simp only[List.append_eq,List.length_append,List.length_nil,List.nil_append]at ha⊢)
  omega
 have hT:=hL.tidy (n:=G.next) λa ha=>by have:=ha.1;omega
 have hM:wa0 G.next ([]++m0):=(wae (λb hb=>by simp at hb) t0);have hN:NewL G (j3 a) (.agg [x0,.str a.table,.int .i64 a.onDelete,.int .i64 a.onUpdate,.bool a.deferred]) (E G ((0,[[x0,.str a.table,.int .i64 a.onDelete,.int .i64 a.onUpdate,.bool a.deferred]])::(0,[[x0,.str a.table,.int .i64 a.onDelete,.int .i64 a.onUpdate,.bool a.deferred]])::([]++m0))):=by
  refine⟨_,_,rfl,rfl,.one hT (.one hT hM),hL.mono ?_⟩;intro a ha;have h9:=ha.1;have h8:=ha.2
  (try simp only[z4,List.length_cons,List.append_eq,List.length_append,List.length_nil,List.nil_append]at h8⊢)
  constructor<;>omega
 exact .ret (ja2 rfl rfl rfl gz rfl) hN
theorem zmt(xs:List Fk)(hx:xs.length<=34359738368)(hv:∀e∈xs,bFk 34359738368 e)(G:wa):Ok Tryz.prog 170 [.c (.fz (xs.map j3))] G (New G (.fz (xs.map j3))):=
 jco mixed wf0 j3 xs hx gb rfl (λ_=>rfl) (by intro x hx;simp only[List.mem_cons,List.not_mem_nil,or_false]at hx;rcases hx with rfl|rfl|rfl|rfl|rfl<;>constructor) (λa ha G=>wnn a (hv a ha) G) G
theorem wn5(a b:Fk):(a==b)=(a.cols==b.cols&&a.table==b.table&&a.onDelete==b.onDelete&&a.onUpdate==b.onUpdate&&a.deferred==b.deferred):=by
 obtain⟨a0,a1,a2,a3,a4⟩:=a;obtain⟨b0,b1,b2,b3,b4⟩:=b;rw[ybc];simp[and_assoc]
theorem zno(a b:Fk)(hb:bFk 34359738368 a):Pure Tryz.prog 287 [.agg (j3 a),.agg (j3 b)] (.c (.bool (a==b))):=by
 refine yaq [2,3] jjx λG=>?_;have hq:=wn5 a b;repeat' first|refine X ?_|((first|apply Go.pcallB|apply Go.spcallB|apply Qg.pcallB);(iterate 3 exact rfl);exact jdr a.cols b.cols hb.1;intro _ _)|exact yaF|refine Y ?_ ?_<;>intro _
 all_goals refine .ret rfl (.bool ?_)
 all_goals rw[hq]
 all_goals clear hq hb
 all_goals simp_all
theorem jmt(xs ys:List Fk)(hx:xs.length<=34359738368)(hv:∀e∈xs,bFk 34359738368 e):Pure Tryz.prog 196 [.c (.fz (xs.map j3)),.c (.fz (ys.map j3))] (.c (.bool (xs==ys))):=
 jcu mixed zf4 j3 xs ys hx (λ_=>rfl) λa ha b=>zno a b (hv a ha)
structure Col where
 name:List UInt8
 kind:Int
 notNull:Bool
 dflt:Val
 deriving DecidableEq
def ji(a:Col):List Ce:=[.str a.name,.int .i64 a.kind,.bool a.notNull,.int .i64 a.dflt.k,.int .i64 a.dflt.n,.str a.dflt.s]
theorem jia(a:Col):∀x∈ji a,Flat x:=by
 intro x hx;simp only[ji,List.mem_cons,List.not_mem_nil,or_false]at hx;rcases hx with rfl|rfl|rfl|rfl|rfl|rfl<;>constructor
def bCol(N:Nat)(a:Col):Prop:=a.name.length<=N/\bV N a.dflt
def zCol(a:Col):Int->Int:=j4 [(λl=>l-a.name.length),(szV a.dflt)]
theorem zhg(a:Col):zcz [(λl=>l-a.name.length),(szV a.dflt)]:=(.cons (zc9 _) (.cons (λl h=>wcp _ l h) .nil))
theorem zge(a:Col)(l:Int)(h:0<=l):zCol a l<=l:=waz (zhg a) l h
theorem jno(a:Col)(l:Int)(N:Nat)(h0:0<=l)(h:0<=zCol a l)(hl:l<=N):bCol N a:=by
 have hh:=wam (zhg a) l h0 h;obtain⟨q0,u0,v0,w0⟩:=hh (λl=>l-a.name.length) gx;obtain⟨q1,u1,v1,w1⟩:=hh (szV a.dflt) gx;exact⟨(by(try simp only at w0);omega),(znm w1 O)⟩
theorem wmt(a:Col)(left:Int)(hb:bCol 1125899906842624 a)(h0:0<=left)(h1:left<=34359738368):Pure Tryz.prog 245 [.agg (ji a),.c (.int .i64 left)] (.c (.int .i64 (zCol a left))):=by
 refine yaq [2] zi0 λG=>?_;have w1:0<=left->IntKind.i64.wrap (left-a.name.length)=left-a.name.length:=λh=>jg (by have:a.name.length<=1125899906842624:=hb.1;omega) O;repeat' first|refine X ?_|exact yaF|refine Y ?_ ?_<;>intro _
 ·refine .ret rfl (.int ?_);rename_i h;have v1:=w1 O;simp only[v1]at h;simp only[zCol,j4,if_pos h]
 rename_i g1;have v1:=w1 O;simp only[v1]at g1⊢;obtain⟨l1,e1⟩:∃q,left-(a.name.length:Int)=q:=⟨_,rfl⟩;rw[e1]at g1⊢;refine .pcall rfl rfl rfl (wh9 a.dflt l1 hb.2 O O) ?_;have y2:=wcp a.dflt l1 O;generalize e2:szV a.dflt l1=l2 at y2⊢;repeat' first|refine X ?_|exact yaF|refine Y ?_ ?_<;>intro _
 ·refine .ret rfl (.int ?_);rename_i h;simp only[zCol,j4,e1,if_neg g1,e2,if_pos h]
 rename_i g2;refine .ret rfl (.int ?_);simp only[zCol,j4,e1,if_neg g1,e2,if_neg g2]
theorem wlo(xs:List Col)(left:Int)(hx:xs.length<=1125899906842624)(hv:∀e∈xs,bCol 1125899906842624 e)(h0:0<=left)(h1:left<=34359738368):Pure Tryz.prog 148 [.c (.fz (xs.map ji)),.c (.int .i64 left)] (.c (.int .i64 (szL zCol xs left))):=
 wco mixed zfb ji zCol xs left hx h0 h1 (λ_=>rfl) zge λa ha l h2 h3=>wmt a l (hv a ha) h2 O
theorem zmu(a:Col)(hb:bCol 34359738368 a)(G:wa):Ok Tryz.prog 262 [.agg (ji a)] G (NewL G (ji a)):=by
 refine Ok.run mixed wf6 gz λhS hA=>?_;clear hS hA;repeat' first|refine X ?_|refine yaC (NewL.pure (zia a.dflt)) ?_|exact yaF|refine Y ?_ ?_<;>intro _
 refine .ret (ja2 rfl rfl rfl gz rfl) ⟨ji a,_,rfl,rfl, ?_,.flat (jia a)⟩;show wa0 G.next [(0,[ji a]),(0,[ji a])];exact .one (λx hx=>.flat (jia a x hx)) (.one (λx hx=>.flat (jia a x hx)) .nil)
theorem zlp(xs:List Col)(hx:xs.length<=34359738368)(hv:∀e∈xs,bCol 34359738368 e)(G:wa):Ok Tryz.prog 166 [.c (.fz (xs.map ji))] G (New G (.fz (xs.map ji))):=
 jco mixed wfb ji xs hx gb rfl (λ_=>rfl) (by intro x hx;simp only[List.mem_cons,List.not_mem_nil,or_false]at hx;rcases hx with rfl|rfl|rfl|rfl|rfl|rfl<;>constructor) (λa ha G=>zmu a (hv a ha) G) G
theorem wno(a b:Col):(a==b)=(a.name==b.name&&a.kind==b.kind&&a.notNull==b.notNull&&a.dflt==b.dflt):=by
 obtain⟨a0,a1,a2,a3⟩:=a;obtain⟨b0,b1,b2,b3⟩:=b;rw[ybc];simp[and_assoc]
theorem jmu(a b:Col)(hb:bCol 34359738368 a):Pure Tryz.prog 284 [.agg (ji a),.agg (ji b)] (.c (.bool (a==b))):=by
 refine yaq [2,3] zi2 λG=>?_;have hq:=wno a b;repeat' first|refine X ?_|((first|apply Go.pcallB|apply Go.spcallB|apply Qg.pcallB);(iterate 3 exact rfl);exact jh9 a.dflt b.dflt;intro _ _)|exact yaF|refine Y ?_ ?_<;>intro _
 all_goals refine .ret rfl (.bool ?_)
 all_goals rw[hq]
 all_goals clear hq hb
 all_goals simp_all
theorem jlp(xs ys:List Col)(hx:xs.length<=34359738368)(hv:∀e∈xs,bCol 34359738368 e):Pure Tryz.prog 192 [.c (.fz (xs.map ji)),.c (.fz (ys.map ji))] (.c (.bool (xs==ys))):=
 jcu mixed zfd ji xs ys hx (λ_=>rfl) λa ha b=>jmu a b (hv a ha)
structure zd where
 name:List UInt8
 cols:List Col
 key:List Int
 uniques:List Uniq
 checks:List Chk
 fks:List Fk
 deriving DecidableEq
def ja(a:zd):List Ce:=[.str a.name,.fz (a.cols.map ji),.fz (a.key.map encI),.fz (a.uniques.map jo),.fz (a.checks.map zx),.fz (a.fks.map j3)]
def zah(N:Nat)(a:zd):Prop:=a.name.length<=N/\(a.cols.length<=N/\∀x∈a.cols,bCol N x)/\a.key.length<=N/\(a.uniques.length<=N/\∀x∈a.uniques,wfj N x)/\(a.checks.length<=N/\∀x∈a.checks,bChk N x)/\(a.fks.length<=N/\∀x∈a.fks,bFk N x)
def zba(a:zd):Int->Int:=j4 [(λl=>l-a.name.length),(szL zCol a.cols),(zI a.key),(szL jds a.uniques),(szL zChk a.checks),(szL zFk a.fks)]
theorem jez(a:zd):zcz [(λl=>l-a.name.length),(szL zCol a.cols),(zI a.key),(szL jds a.uniques),(szL zChk a.checks),(szL zFk a.fks)]:=(.cons (zc9 _) (.cons (λl h=>zac zge _ l h) (.cons (zcb _) (.cons (λl h=>zac wd6 _ l h) (.cons (λl h=>zac jgd _ l h) (.cons (λl h=>zac ji9 _ l h) .nil))))))
theorem zd7(a:zd)(l:Int)(h:0<=l):zba a l<=l:=waz (jez a) l h
theorem wlp(a:zd)(l:Int)(N:Nat)(h0:0<=l)(h:0<=zba a l)(hl:l<=N):zah N a:=by
 have hh:=wam (jez a) l h0 h;obtain⟨q0,u0,v0,w0⟩:=hh (λl=>l-a.name.length) gx;obtain⟨q1,u1,v1,w1⟩:=hh (szL zCol a.cols) gx;obtain⟨q2,u2,v2,w2⟩:=hh (zI a.key) gx;obtain⟨q3,u3,v3,w3⟩:=hh (szL jds a.uniques) gx;obtain⟨q4,u4,v4,w4⟩:=hh (szL zChk a.checks) gx;obtain⟨q5,u5,v5,w5⟩:=hh (szL zFk a.fks) gx;exact⟨(by(try simp only at w0);omega),(waq zge jno u1 w1 O),(jj1 w2 O),(waq wd6 zms u3 w3 O),(waq jgd wnm u4 w4 O),(waq ji9 jn5 u5 w5 O)⟩
theorem jkz(a:zd)(left:Int)(hb:zah 1125899906842624 a)(h0:0<=left)(h1:left<=34359738368):Pure Tryz.prog 58 [.agg (ja a),.c (.int .i64 left)] (.c (.int .i64 (zba a left))):=by
 refine yaq [2] jgy λG=>?_;have w1:0<=left->IntKind.i64.wrap (left-a.name.length)=left-a.name.length:=λh=>jg (by have:a.name.length<=1125899906842624:=hb.1;omega) O;repeat' first|refine X ?_|exact yaF|refine Y ?_ ?_<;>intro _
 ·refine .ret rfl (.int ?_);rename_i h;have v1:=w1 O;simp only[v1]at h;simp only[zba,j4,if_pos h]
 rename_i g1;have v1:=w1 O;simp only[v1]at g1⊢;obtain⟨l1,e1⟩:∃q,left-(a.name.length:Int)=q:=⟨_,rfl⟩;rw[e1]at g1⊢;refine .pcall rfl rfl rfl (wlo a.cols l1 hb.2.1.1 hb.2.1.2 O O) ?_;have y2:=zac zge a.cols l1 O;generalize e2:szL zCol a.cols l1=l2 at y2⊢;repeat' first|refine X ?_|exact yaF|refine Y ?_ ?_<;>intro _
 ·refine .ret rfl (.int ?_);rename_i h;simp only[zba,j4,e1,if_neg g1,e2,if_pos h]
 rename_i g2;refine .pcall rfl rfl rfl (wdr a.key l2 hb.2.2.1 O O) ?_;have y3:=zcb a.key l2 O;generalize e3:zI a.key l2=l3 at y3⊢;repeat' first|refine X ?_|exact yaF|refine Y ?_ ?_<;>intro _
 ·refine .ret rfl (.int ?_);rename_i h;simp only[zba,j4,e1,if_neg g1,e2,if_neg g2,e3,if_pos h]
 rename_i g3;refine .pcall rfl rfl rfl (jky a.uniques l3 hb.2.2.2.1.1 hb.2.2.2.1.2 O O) ?_;have y4:=zac wd6 a.uniques l3 O;generalize e4:szL jds a.uniques l3=l4 at y4⊢;repeat' first|refine X ?_|exact yaF|refine Y ?_ ?_<;>intro _
 ·refine .ret rfl (.int ?_);rename_i h;simp only[zba,j4,e1,if_neg g1,e2,if_neg g2,e3,if_neg g3,e4,if_pos h]
 rename_i g4;refine .pcall rfl rfl rfl (wlm a.checks l4 hb.2.2.2.2.1.1 hb.2.2.2.2.1.2 O O) ?_;have y5:=zac jgd a.checks l4 O;generalize e5:szL zChk a.checks l4=l5 at y5⊢;repeat' first|refine X ?_|exact yaF|refine Y ?_ ?_<;>intro _
 ·refine .ret rfl (.int ?_);rename_i h;simp only[zba,j4,e1,if_neg g1,e2,if_neg g2,e3,if_neg g3,e4,if_neg g4,e5,if_pos h]
 rename_i g5;refine .pcall rfl rfl rfl (wms a.fks l5 hb.2.2.2.2.2.1 hb.2.2.2.2.2.2 O O) ?_;have y6:=zac ji9 a.fks l5 O;generalize e6:szL zFk a.fks l5=l6 at y6⊢;repeat' first|refine X ?_|exact yaF|refine Y ?_ ?_<;>intro _
 ·refine .ret rfl (.int ?_);rename_i h;simp only[zba,j4,e1,if_neg g1,e2,if_neg g2,e3,if_neg g3,e4,if_neg g4,e5,if_neg g5,e6,if_pos h]
 rename_i g6;refine .ret rfl (.int ?_);simp only[zba,j4,e1,if_neg g1,e2,if_neg g2,e3,if_neg g3,e4,if_neg g4,e5,if_neg g5,e6,if_neg g6]
theorem wj1(xs:List zd)(left:Int)(hx:xs.length<=1125899906842624)(hv:∀e∈xs,zah 1125899906842624 e)(h0:0<=left)(h1:left<=34359738368):Pure Tryz.prog 11 [.c (.fz (xs.map ja)),.c (.int .i64 left)] (.c (.int .i64 (szL zba xs left))):=
 wco mixed zdy ja zba xs left hx h0 h1 (λ_=>rfl) zd7 λa ha l h2 h3=>jkz a l (hv a ha) h2 O
theorem wkz(a:zd)(hb:zah 34359738368 a)(G:wa):Ok Tryz.prog 73 [.agg (ja a)] G (NewL G (ja a)):=by
 refine Ok.run mixed zek gz λhS hA=>?_;clear hS hA;repeat' first|refine X ?_|exact yaF|refine Y ?_ ?_<;>intro _
 refine Go.call _ rfl rfl rfl (zlp a.cols hb.2.1.1 hb.2.1.2 _) ?_;rintro r G0 ⟨x0,m0,rfl,rfl,t0,h0⟩;rw[E_E]at h0⊢;have t0:=zar t0;have h0:=h0.new2;repeat' first|refine X ?_|exact yaF|refine Y ?_ ?_<;>intro _
 refine Go.call _ rfl rfl rfl (zds a.key hb.2.2.1 _) ?_;rintro r G1 ⟨x1,m1,rfl,rfl,t1,h1⟩;rw[E_E]at h1⊢;have t1:=zar t1;have h1:=h1.new2;have h0:=Has.more h0 (λa ha=>by have h9:=ha.1;have h8:=ha.2;simp only[List.append_eq,List.length_nil,List.length_append,List.nil_append]at h9 h8⊢;omega) m1;repeat' first|refine X ?_|exact yaF|refine Y ?_ ?_<;>intro _
 refine Go.call _ rfl rfl rfl (wky a.uniques hb.2.2.2.1.1 hb.2.2.2.1.2 _) ?_;rintro r G2 ⟨x2,m2,rfl,rfl,t2,h2⟩;rw[E_E]at h2⊢;have t2:=zar t2;have h2:=h2.new2;have h0:=Has.more h0 (λa ha=>by have h9:=ha.1;have h8:=ha.2;simp only[List.append_eq,List.length_nil,List.length_append,List.nil_append]at h9 h8⊢;omega) m2;have h1:=Has.more h1 (λa ha=>by have h9:=ha.1;have h8:=ha.2;simp only[List.append_eq,List.length_nil,List.length_append,List.nil_append]at h9 h8⊢;omega) m2;repeat' first|refine X ?_|exact yaF|refine Y ?_ ?_<;>intro _
 refine Go.call _ rfl rfl rfl (zln a.checks hb.2.2.2.2.1.1 hb.2.2.2.2.1.2 _) ?_;rintro r G3 ⟨x3,m3,rfl,rfl,t3,h3⟩;rw[E_E]at h3⊢;have t3:=zar t3;have h3:=h3.new2;have h0:=Has.more h0 (λa ha=>by have h9:=ha.1;have h8:=ha.2;simp only[List.append_eq,List.length_nil,List.length_append,List.nil_append]at h9 h8⊢;omega) m3;have h1:=Has.more h1 (λa ha=>by have h9:=ha.1;have h8:=ha.2;simp only[List.append_eq,List.length_nil,List.length_append,List.nil_append]at h9 h8⊢;omega) m3;have h2:=Has.more h2 (λa ha=>by have h9:=ha.1;have h8:=ha.2;simp only[List.append_eq,List.length_nil,List.length_append,List.nil_append]at h9 h8⊢;omega) m3;repeat' first|refine X ?_|exact yaF|refine Y ?_ ?_<;>intro _
 refine Go.call _ rfl rfl rfl (zmt a.fks hb.2.2.2.2.2.1 hb.2.2.2.2.2.2 _) ?_;rintro r G4 ⟨x4,m4,rfl,rfl,t4,h4⟩;rw[E_E]at h4⊢;have t4:=zar t4;have h4:=h4.new2;have h0:=Has.more h0 (λa ha=>by have h9:=ha.1;have h8:=ha.2;simp only[List.append_eq,List.length_nil,List.length_append,List.nil_append]at h9 h8⊢;omega) m4;have h1:=Has.more h1 (λa ha=>by have h9:=ha.1;have h8:=ha.2;simp only[List.append_eq,List.length_nil,List.length_append,List.nil_append]at h9 h8⊢;omega) m4;have h2:=Has.more h2 (λa ha=>by have h9:=ha.1;have h8:=ha.2;simp only[List.append_eq,List.length_nil,List.length_append,List.nil_append]at h9 h8⊢;omega) m4;have h3:=Has.more h3 (λa ha=>by have h9:=ha.1;have h8:=ha.2;simp only[List.append_eq,List.length_nil,List.length_append,List.nil_append]at h9 h8⊢;omega) m4;repeat' first|refine X ?_|exact yaF|refine Y ?_ ?_<;>intro _
 have hL:HasL (E G ((0,[[.str a.name,x0,x1,x2,x3,x4]])::(0,[[.str a.name,x0,x1,x2,x3,x4]])::([]++m0++m1++m2++m3++m4))) (λa=>G.next+2<=a/\a<G.next+2+([]++m0++m1++m2++m3++m4).length) (ja a) [.str a.name,x0,x1,x2,x3,x4]:=by
  refine HasL.mono ?_ (HasL.skip (.str _) (HasL.two (h0 _ _) (HasL.two (h1 _ _) (HasL.two (h2 _ _) (HasL.two (h3 _ _) (HasL.two (h4 _ _) (HasL.nil (S:=λa=>a<0)) (λa ha hb=>by(try dsimp only at ha hb);(try simp only[List.append_eq,List.length_append,List.length_nil,List.nil_append]at ha hb);omega)) (λa ha hb=>by(try dsimp only at ha hb);(try simp only[List.append_eq,List.length_append,List.length_nil,List.nil_append]at ha hb);omega)) (λa ha hb=>by(try dsimp only at ha hb);(try simp only[List.append_eq,List.length_append,List.length_nil,List.nil_append]at ha hb);omega)) (λa ha hb=>by(try dsimp only at ha hb);(try simp only[List.append_eq,List.length_append,List.length_nil,List.nil_append]at ha hb);omega)) (λa ha hb=>by(try dsimp only at ha hb);(try simp only[List.append_eq,List.length_append,List.length_nil,List.nil_append]at ha hb);omega)));intro a ha
  (try dsimp only at ha)
  (try simp only[List.append_eq,List.length_append,List.length_nil,List.nil_append]at ha⊢)
  omega
 have hT:=hL.tidy (n:=G.next) λa ha=>by have:=ha.1;omega
 have hM:wa0 G.next ([]++m0++m1++m2++m3++m4):=(wae (wae (wae (wae (wae (λb hb=>by simp at hb) t0) t1) t2) t3) t4);have hN:NewL G (ja a) (.agg [.str a.name,x0,x1,x2,x3,x4]) (E G ((0,[[.str a.name,x0,x1,x2,x3,x4]])::(0,[[.str a.name,x0,x1,x2,x3,x4]])::([]++m0++m1++m2++m3++m4))):=by
  refine⟨_,_,rfl,rfl,.one hT (.one hT hM),hL.mono ?_⟩;intro a ha;have h9:=ha.1;have h8:=ha.2
  (try simp only[z4,List.length_cons,List.append_eq,List.length_append,List.length_nil,List.nil_append]at h8⊢)
  constructor<;>omega
 exact .ret (ja2 rfl rfl rfl gz rfl) hN
theorem wds(xs:List zd)(hx:xs.length<=34359738368)(hv:∀e∈xs,zah 34359738368 e)(G:wa):Ok Tryz.prog 16 [.c (.fz (xs.map ja))] G (New G (.fz (xs.map ja))):=
 jco mixed jdy ja xs hx gb rfl (λ_=>rfl) (by intro x hx;simp only[List.mem_cons,List.not_mem_nil,or_false]at hx;rcases hx with rfl|rfl|rfl|rfl|rfl|rfl<;>constructor) (λa ha G=>wkz a (hv a ha) G) G
theorem zlq(a b:zd):(a==b)=(a.name==b.name&&a.cols==b.cols&&a.key==b.key&&a.uniques==b.uniques&&a.checks==b.checks&&a.fks==b.fks):=by
 obtain⟨a0,a1,a2,a3,a4,a5⟩:=a;obtain⟨b0,b1,b2,b3,b4,b5⟩:=b;rw[ybc];simp[and_assoc]
theorem zk0(a b:zd)(hb:zah 34359738368 a):Pure Tryz.prog 88 [.agg (ja a),.agg (ja b)] (.c (.bool (a==b))):=by
 refine yaq [2,3] jgz λG=>?_;have hq:=zlq a b;repeat' first|refine X ?_|((first|apply Go.pcallB|apply Go.spcallB|apply Qg.pcallB);(iterate 3 exact rfl);(first|exact jlp a.cols b.cols hb.2.1.1 hb.2.1.2|exact jdr a.key b.key hb.2.2.1|exact zkz a.uniques b.uniques hb.2.2.2.1.1 hb.2.2.2.1.2|exact jln a.checks b.checks hb.2.2.2.2.1.1 hb.2.2.2.2.1.2|exact jmt a.fks b.fks hb.2.2.2.2.2.1 hb.2.2.2.2.2.2);intro _ _)|exact yaF|refine Y ?_ ?_<;>intro _
 all_goals refine .ret rfl (.bool ?_)
 all_goals rw[hq]
 all_goals clear hq hb
 all_goals simp_all
theorem jge(xs ys:List zd)(hx:xs.length<=34359738368)(hv:∀e∈xs,zah 34359738368 e):Pure Tryz.prog 22 [.c (.fz (xs.map ja)),.c (.fz (ys.map ja))] (.c (.bool (xs==ys))):=
 jcu mixed wdy ja xs ys hx (λ_=>rfl) λa ha b=>zk0 a b (hv a ha)
structure Term where
 expr:List Tok
 deriving DecidableEq
def zn(a:Term):List Ce:=[.fz (a.expr.map zh)]
def zeq(N:Nat)(a:Term):Prop:=(a.expr.length<=N/\∀x∈a.expr,bTok N x)
def zdt(a:Term):Int->Int:=j4 [(szL zTok a.expr)]
theorem wge(a:Term):zcz [(szL zTok a.expr)]:=(.cons (λl h=>zac jag _ l h) .nil)
theorem jd7(a:Term)(l:Int)(h:0<=l):zdt a l<=l:=waz (wge a) l h
theorem wmu(a:Term)(l:Int)(N:Nat)(h0:0<=l)(h:0<=zdt a l)(hl:l<=N):zeq N a:=by
 have hh:=wam (wge a) l h0 h;obtain⟨q0,u0,v0,w0⟩:=hh (szL zTok a.expr) gx;exact(waq jag zgd u0 w0 O)
theorem jlq(a:Term)(left:Int)(hb:zeq 1125899906842624 a)(h0:0<=left)(h1:left<=34359738368):Pure Tryz.prog 249 [.agg (zn a),.c (.int .i64 left)] (.c (.int .i64 (zdt a left))):=by
 refine yaq [2] wh3 λG=>?_;repeat' first|refine X ?_|fail
 refine .pcall rfl rfl rfl (jcz a.expr left hb.1 hb.2 O O) ?_;have y1:=zac jag a.expr left O;generalize e1:szL zTok a.expr left=l1 at y1⊢;repeat' first|refine X ?_|exact yaF|refine Y ?_ ?_<;>intro _
 ·refine .ret rfl (.int ?_);rename_i h;simp only[zdt,j4,e1,if_pos h]
 rename_i g1;refine .ret rfl (.int ?_);simp only[zdt,j4,e1,if_neg g1]
theorem jk0(xs:List Term)(left:Int)(hx:xs.length<=1125899906842624)(hv:∀e∈xs,zeq 1125899906842624 e)(h0:0<=left)(h1:left<=34359738368):Pure Tryz.prog 153 [.c (.fz (xs.map zn)),.c (.int .i64 left)] (.c (.int .i64 (szL zdt xs left))):=
 wco mixed zem zn zdt xs left hx h0 h1 (λ_=>rfl) jd7 λa ha l h2 h3=>jlq a l (hv a ha) h2 O
theorem wlq(a:Term)(hb:zeq 34359738368 a)(G:wa):Ok Tryz.prog 266 [.agg (zn a)] G (NewL G (zn a)):=by
 refine Ok.run mixed zfg gz λhS hA=>?_;clear hS hA;repeat' first|refine X ?_|exact yaF|refine Y ?_ ?_<;>intro _
 refine Go.call _ rfl rfl rfl (wcz a.expr hb.1 hb.2 _) ?_;rintro r G0 ⟨x0,m0,rfl,rfl,t0,h0⟩;rw[E_E]at h0⊢;have t0:=zar t0;have h0:=h0.new2;repeat' first|refine X ?_|exact yaF|refine Y ?_ ?_<;>intro _
 have hL:HasL (E G ((0,[[x0]])::(0,[[x0]])::([]++m0))) (λa=>G.next+2<=a/\a<G.next+2+([]++m0).length) (zn a) [x0]:=by
  refine HasL.mono ?_ (HasL.two (h0 _ _) (HasL.nil (S:=λa=>a<0)) (λa ha hb=>by(try dsimp only at ha hb);(try simp only[List.append_eq,List.length_append,List.length_nil,List.nil_append]at ha hb);omega));intro a ha
  (try dsimp only at ha)
  (try simp only[List.append_eq,List.length_append,List.length_nil,List.nil_append]at ha⊢)
  omega
 have hT:=hL.tidy (n:=G.next) λa ha=>by have:=ha.1;omega
 have hM:wa0 G.next ([]++m0):=(wae (λb hb=>by simp at hb) t0);have hN:NewL G (zn a) (.agg [x0]) (E G ((0,[[x0]])::(0,[[x0]])::([]++m0))):=by
  refine⟨_,_,rfl,rfl,.one hT (.one hT hM),hL.mono ?_⟩;intro a ha;have h9:=ha.1;have h8:=ha.2
  (try simp only[z4,List.length_cons,List.append_eq,List.length_append,List.length_nil,List.nil_append]at h8⊢)
  constructor<;>omega
 exact .ret (ja2 rfl rfl rfl gz rfl) hN
theorem wk0(xs:List Term)(hx:xs.length<=34359738368)(hv:∀e∈xs,zeq 34359738368 e)(G:wa):Ok Tryz.prog 171 [.c (.fz (xs.map zn))] G (New G (.fz (xs.map zn))):=
 jco mixed wem zn xs hx gb rfl (λ_=>rfl) (by intro x hx;simp only[List.mem_cons,List.not_mem_nil,or_false]at hx;rcases hx with rfl<;>constructor) (λa ha G=>wlq a (hv a ha) G) G
theorem zmv(a b:Term):(a==b)=(a.expr==b.expr):=by
 obtain⟨a0⟩:=a;obtain⟨b0⟩:=b;rw[ybc];simp[and_assoc]
theorem zlr(a b:Term)(hb:zeq 34359738368 a):Pure Tryz.prog 288 [.agg (zn a),.agg (zn b)] (.c (.bool (a==b))):=by
 refine yaq [2,3] wh5 λG=>?_;have hq:=zmv a b;repeat' first|refine X ?_|((first|apply Go.pcallB|apply Go.spcallB|apply Qg.pcallB);(iterate 3 exact rfl);exact zc0 a.expr b.expr hb.1 hb.2;intro _ _)|exact yaF|refine Y ?_ ?_<;>intro _
 all_goals refine .ret rfl (.bool ?_)
 all_goals rw[hq]
 all_goals clear hq hb
 all_goals simp_all
theorem zk1(xs ys:List Term)(hx:xs.length<=34359738368)(hv:∀e∈xs,zeq 34359738368 e):Pure Tryz.prog 197 [.c (.fz (xs.map zn)),.c (.fz (ys.map zn))] (.c (.bool (xs==ys))):=
 jcu mixed zen zn xs ys hx (λ_=>rfl) λa ha b=>zlr a b (hv a ha)
structure we where
 table:List UInt8
 event:Int
 when_:List Tok
 into:List UInt8
 terms:List Term
 deriving DecidableEq
def wc(a:we):List Ce:=[.str a.table,.int .i64 a.event,.fz (a.when_.map zh),.str a.into,.fz (a.terms.map zn)]
def w9(N:Nat)(a:we):Prop:=a.table.length<=N/\(a.when_.length<=N/\∀x∈a.when_,bTok N x)/\a.into.length<=N/\(a.terms.length<=N/\∀x∈a.terms,zeq N x)
def wah(a:we):Int->Int:=j4 [(λl=>l-a.table.length),(szL zTok a.when_),(λl=>l-a.into.length),(szL zdt a.terms)]
theorem zdj(a:we):zcz [(λl=>l-a.table.length),(szL zTok a.when_),(λl=>l-a.into.length),(szL zdt a.terms)]:=(.cons (zc9 _) (.cons (λl h=>zac jag _ l h) (.cons (zc9 _) (.cons (λl h=>zac jd7 _ l h) .nil))))
theorem wch(a:we)(l:Int)(h:0<=l):wah a l<=l:=waz (zdj a) l h
theorem zj2(a:we)(l:Int)(N:Nat)(h0:0<=l)(h:0<=wah a l)(hl:l<=N):w9 N a:=by
 have hh:=wam (zdj a) l h0 h;obtain⟨q0,u0,v0,w0⟩:=hh (λl=>l-a.table.length) gx;obtain⟨q1,u1,v1,w1⟩:=hh (szL zTok a.when_) gx;obtain⟨q2,u2,v2,w2⟩:=hh (λl=>l-a.into.length) gx;obtain⟨q3,u3,v3,w3⟩:=hh (szL zdt a.terms) gx;exact⟨(by(try simp only at w0);omega),(waq jag zgd u1 w1 O),(by(try simp only at w2);omega),(waq jd7 wmu u3 w3 O)⟩
theorem wi9(a:we)(left:Int)(hb:w9 1125899906842624 a)(h0:0<=left)(h1:left<=34359738368):Pure Tryz.prog 59 [.agg (wc a),.c (.int .i64 left)] (.c (.int .i64 (wah a left))):=by
 refine yaq [2] ze6 λG=>?_;have w1:0<=left->IntKind.i64.wrap (left-a.table.length)=left-a.table.length:=λh=>jg (by have:a.table.length<=1125899906842624:=hb.1;omega) O;repeat' first|refine X ?_|exact yaF|refine Y ?_ ?_<;>intro _
 ·refine .ret rfl (.int ?_);rename_i h;have v1:=w1 O;simp only[v1]at h;simp only[wah,j4,if_pos h]
 rename_i g1;have v1:=w1 O;simp only[v1]at g1⊢;obtain⟨l1,e1⟩:∃q,left-(a.table.length:Int)=q:=⟨_,rfl⟩;rw[e1]at g1⊢;refine .pcall rfl rfl rfl (jcz a.when_ l1 hb.2.1.1 hb.2.1.2 O O) ?_;have y2:=zac jag a.when_ l1 O;generalize e2:szL zTok a.when_ l1=l2 at y2⊢;have w3:0<=l2->IntKind.i64.wrap (l2-a.into.length)=l2-a.into.length:=λh=>jg (by have:a.into.length<=1125899906842624:=hb.2.2.1;omega) O;repeat' first|refine X ?_|exact yaF|refine Y ?_ ?_<;>intro _
 ·refine .ret rfl (.int ?_);rename_i h;simp only[wah,j4,e1,if_neg g1,e2,if_pos h]
 ·refine .ret rfl (.int ?_);rename_i g2 h;have v3:=w3 O;simp only[v3]at h;simp only[wah,j4,e1,if_neg g1,e2,if_neg g2,if_pos h]
 rename_i g2 g3;have v3:=w3 O;simp only[v3]at g3⊢;obtain⟨l3,e3⟩:∃q,l2-(a.into.length:Int)=q:=⟨_,rfl⟩;rw[e3]at g3⊢;refine .pcall rfl rfl rfl (jk0 a.terms l3 hb.2.2.2.1 hb.2.2.2.2 O O) ?_;have y4:=zac jd7 a.terms l3 O;generalize e4:szL zdt a.terms l3=l4 at y4⊢;repeat' first|refine X ?_|exact yaF|refine Y ?_ ?_<;>intro _
 ·refine .ret rfl (.int ?_);rename_i h;simp only[wah,j4,e1,if_neg g1,e2,e3,if_neg g2,if_neg g3,e4,if_pos h]
 rename_i g4;refine .ret rfl (.int ?_);simp only[wah,j4,e1,if_neg g1,e2,e3,if_neg g2,if_neg g3,e4,if_neg g4]
theorem wia(xs:List we)(left:Int)(hx:xs.length<=1125899906842624)(hv:∀e∈xs,w9 1125899906842624 e)(h0:0<=left)(h1:left<=34359738368):Pure Tryz.prog 12 [.c (.fz (xs.map wc)),.c (.int .i64 left)] (.c (.int .i64 (szL wah xs left))):=
 wco mixed wdd wc wah xs left hx h0 h1 (λ_=>rfl) wch λa ha l h2 h3=>wi9 a l (hv a ha) h2 O
theorem zja(a:we)(hb:w9 34359738368 a)(G:wa):Ok Tryz.prog 74 [.agg (wc a)] G (NewL G (wc a)):=by
 refine Ok.run mixed zdo gz λhS hA=>?_;clear hS hA;repeat' first|refine X ?_|exact yaF|refine Y ?_ ?_<;>intro _
 refine Go.call _ rfl rfl rfl (wcz a.when_ hb.2.1.1 hb.2.1.2 _) ?_;rintro r G0 ⟨x0,m0,rfl,rfl,t0,h0⟩;rw[E_E]at h0⊢;have t0:=zar t0;have h0:=h0.new2;repeat' first|refine X ?_|exact yaF|refine Y ?_ ?_<;>intro _
 refine Go.call _ rfl rfl rfl (wk0 a.terms hb.2.2.2.1 hb.2.2.2.2 _) ?_;rintro r G1 ⟨x1,m1,rfl,rfl,t1,h1⟩;rw[E_E]at h1⊢;have t1:=zar t1;have h1:=h1.new2;have h0:=Has.more h0 (λa ha=>by have h9:=ha.1;have h8:=ha.2;simp only[List.append_eq,List.length_nil,List.length_append,List.nil_append]at h9 h8⊢;omega) m1;repeat' first|refine X ?_|exact yaF|refine Y ?_ ?_<;>intro _
 have hL:HasL (E G ((0,[[.str a.table,.int .i64 a.event,x0,.str a.into,x1]])::(0,[[.str a.table,.int .i64 a.event,x0,.str a.into,x1]])::([]++m0++m1))) (λa=>G.next+2<=a/\a<G.next+2+([]++m0++m1).length) (wc a) [.str a.table,.int .i64 a.event,x0,.str a.into,x1]:=by
  refine HasL.mono ?_ (HasL.skip (.str _) (HasL.skip (.int _ _) (HasL.two (h0 _ _) (HasL.skip (.str _) (HasL.two (h1 _ _) (HasL.nil (S:=λa=>a<0)) (λa ha hb=>by(try dsimp only at ha hb);(try simp only[List.append_eq,List.length_append,List.length_nil,List.nil_append]at ha hb);omega))) (λa ha hb=>by(try dsimp only at ha hb);(try simp only[List.append_eq,List.length_append,List.length_nil,List.nil_append]at ha hb);omega))));intro a ha
  (try dsimp only at ha)
  (try simp only[List.append_eq,List.length_append,List.length_nil,List.nil_append]at ha⊢)
  omega
 have hT:=hL.tidy (n:=G.next) λa ha=>by have:=ha.1;omega
 have hM:wa0 G.next ([]++m0++m1):=(wae (wae (λb hb=>by simp at hb) t0) t1);have hN:NewL G (wc a) (.agg [.str a.table,.int .i64 a.event,x0,.str a.into,x1]) (E G ((0,[[.str a.table,.int .i64 a.event,x0,.str a.into,x1]])::(0,[[.str a.table,.int .i64 a.event,x0,.str a.into,x1]])::([]++m0++m1))):=by
  refine⟨_,_,rfl,rfl,.one hT (.one hT hM),hL.mono ?_⟩;intro a ha;have h9:=ha.1;have h8:=ha.2
  (try simp only[z4,List.length_cons,List.append_eq,List.length_append,List.length_nil,List.nil_append]at h8⊢)
  constructor<;>omega
 exact .ret (ja2 rfl rfl rfl gz rfl) hN
theorem zci(xs:List we)(hx:xs.length<=34359738368)(hv:∀e∈xs,w9 34359738368 e)(G:wa):Ok Tryz.prog 17 [.c (.fz (xs.map wc))] G (New G (.fz (xs.map wc))):=
 jco mixed zde wc xs hx gb rfl (λ_=>rfl) (by intro x hx;simp only[List.mem_cons,List.not_mem_nil,or_false]at hx;rcases hx with rfl|rfl|rfl|rfl|rfl<;>constructor) (λa ha G=>zja a (hv a ha) G) G
theorem jj2(a b:we):(a==b)=(a.table==b.table&&a.event==b.event&&a.when_==b.when_&&a.into==b.into&&a.terms==b.terms):=by
 obtain⟨a0,a1,a2,a3,a4⟩:=a;obtain⟨b0,b1,b2,b3,b4⟩:=b;rw[ybc];simp[and_assoc]
theorem jja(a b:we)(hb:w9 34359738368 a):Pure Tryz.prog 89 [.agg (wc a),.agg (wc b)] (.c (.bool (a==b))):=by
 refine yaq [2,3] ze9 λG=>?_;have hq:=jj2 a b;repeat' first|refine X ?_|((first|apply Go.pcallB|apply Go.spcallB|apply Qg.pcallB);(iterate 3 exact rfl);(first|exact zc0 a.when_ b.when_ hb.2.1.1 hb.2.1.2|exact zk1 a.terms b.terms hb.2.2.2.1 hb.2.2.2.2);intro _ _)|exact yaF|refine Y ?_ ?_<;>intro _
 all_goals refine .ret rfl (.bool ?_)
 all_goals rw[hq]
 all_goals clear hq hb
 all_goals simp_all
theorem wd7(xs ys:List we)(hx:xs.length<=34359738368)(hv:∀e∈xs,w9 34359738368 e):Pure Tryz.prog 23 [.c (.fz (xs.map wc)),.c (.fz (ys.map wc))] (.c (.bool (xs==ys))):=
 jcu mixed jde wc xs ys hx (λ_=>rfl) λa ha b=>jja a b (hv a ha)
variable {kd:IntKind}{z:Int}
theorem jkm{x:Opd}{s:List UInt8}(hx:x.ev fr=some (.c (.str s)))(hy:y.ev fr=some (.c (.int kd z)))(hz:z=(n:Int))(hn:n<s.length):aop (.idx x y) fr G=some (.c (.int .u8 (s[n].toNat:Int)),G):=by
 subst hz;simp[aop,hx,hy,hn]
def jc0(c:UInt8):Bool:=decide (97<=c.toNat)&&decide (c.toNat<=122)
def jbl(s:List UInt8):Bool:=s.all jc0&&isIn s.length 1 8
theorem zgf(s:List UInt8)(hx:s.length<=34359738368):Pure Tryz.prog 123 [.c (.str s)] (.c (.bool (jbl s))):=by
 refine yaq [] whz λG=>?_;repeat' first|refine X ?_|exact yaF|refine Y ?_ ?_<;>intro _
 refine Go.keep [0,5,6] (Go.loops (I:=λm fr V=>∃i:Nat,∃n:Int,m=s.length-i/\i<=s.length/\n=i/\s.all jc0=(s.drop i).all jc0/\
  fr=[(0,.c (.str s)),(5,.c (.int .i64 (s.length:Int))),(6,.c (.int .i64 n))]/\V=E G []) ?_ _ _ _ ⟨0,_,rfl,yad _,rfl,rfl,rfl,rfl⟩)
 rintro m fr V ⟨i,n,rfl,hi,hn,hs,rfl,rfl⟩ hrec;by_cases hlt:i<s.length
 ·have hd:=yab hlt;repeat' first|refine X ?_|((first|apply yG|apply yH|apply yI);exact rfl;(first|exact jkm rfl rfl hn hlt))|exact yaF|refine Y ?_ ?_<;>intro _
  ·refine .ret rfl (.bool ?_);rename_i h;rw[jbl,hs,hd,ybv,jc0,decide_eq_false O]
   rfl
  ·refine .ret rfl (.bool ?_);rename_i h h2;rw[jbl,hs,hd,ybv,jc0,decide_eq_false (p:=s[i].toNat<=122) O];simp
  ·rename_i h h2;refine Go.keep [0,5,6] (hrec _ _ _ O ⟨i+1,_,rfl,hlt,wb hn O, ?_,rfl,rfl⟩);rw[hs,hd,ybv,jc0,decide_eq_true O,decide_eq_true O]
   rfl
 ·repeat' first|refine X ?_|((first|apply yQ|apply yR|apply yS);(iterate 3 exact rfl);exact jfj _ _ _)|exact yaF|refine Y ?_ ?_<;>intro _
  refine .ret rfl (.bool ?_);rw[jbl,hs,yac O]
  rfl
theorem jgf(s:List UInt8)(hx:s.length<=34359738368):Pure Tryz.prog 206 [.c (.str s)] (.c (.bool (jbl s))):=by
 refine yaq [] zh2 λG=>?_;repeat' first|refine X ?_|exact yaF|refine Y ?_ ?_<;>intro _
 refine Go.keep [0,3] (Go.loops (I:=λm fr V=>∃i:Nat,∃n:Int,m=s.length-i/\i<=s.length/\n=i/\s.all jc0=(s.drop i).all jc0/\
  fr=[(0,.c (.str s)),(3,.c (.int .i64 n))]/\V=E G []) ?_ _ _ _ ⟨0,_,rfl,yad _,rfl,rfl,rfl,rfl⟩)
 rintro m fr V ⟨i,n,rfl,hi,hn,hs,rfl,rfl⟩ hrec;by_cases hlt:i<s.length
 ·have hd:=yab hlt;repeat' first|refine X ?_|((first|apply yG|apply yH|apply yI);exact rfl;(first|exact jkm rfl rfl hn hlt))|exact yaF|refine Y ?_ ?_<;>intro _
  ·refine .ret rfl (.bool ?_);rename_i h;rw[jbl,hs,hd,ybv,jc0,decide_eq_false O]
   rfl
  ·refine .ret rfl (.bool ?_);rename_i h h2;rw[jbl,hs,hd,ybv,jc0,decide_eq_false (p:=s[i].toNat<=122) O];simp
  ·rename_i h h2;refine Go.keep [0,3] (hrec _ _ _ O ⟨i+1,_,rfl,hlt,wb hn O, ?_,rfl,rfl⟩);rw[hs,hd,ybv,jc0,decide_eq_true O,decide_eq_true O]
   rfl
 ·repeat' first|refine X ?_|((first|apply yQ|apply yR|apply yS);(iterate 3 exact rfl);exact wa4 _ _ _)|exact yaF|refine Y ?_ ?_<;>intro _
  refine .ret rfl (.bool ?_);rw[jbl,hs,yac O]
  rfl
def wg(t:Tok):Int:=if t.kind=1\/t.kind=2 then 0 else if t.kind=7\/t.kind=8 then 1 else 2
def vz(v:Val):Bool:=v.k==0&&(v.n==0&&v.s==[])
def jba(t:Tok)(n:Int):Bool:=if t.kind=1 then isIn t.col 0 (n-1)&&vz t.v else if t.kind=2 then t.col==0&&ju t.v else isIn t.kind 3 10&&t.col==0&&vz t.v
theorem wkm(t:Tok):Pure Tryz.prog 242 [.agg (zh t)] (.c (.int .i64 (wg t))):=by
 refine yaq [1] zff λG=>?_;repeat' first|refine X ?_|exact yaF|refine Y ?_ ?_<;>intro _
 all_goals refine .ret rfl (.int ?_)
 all_goals simp_all[wg]
theorem jmv(t:Tok)(n:Int)(h0:-4611686018427387904<=n)(h1:n<=4611686018427387904):Pure Tryz.prog 306 [.agg (zh t),.c (.int .i64 n)] (.c (.bool (jba t n))):=by
 refine yaq [2] ji3 λG=>?_;have hw:IntKind.i64.wrap (n-1)=n-1:=jg O O;repeat' first|refine X ?_|((first|apply Go.pcallB|apply Go.spcallB|apply Qg.pcallB);(iterate 3 exact rfl);(first|exact jfj _ _ _|exact wc8 _);intro _ _)|exact yaF|refine Y ?_ ?_<;>intro _
 all_goals refine .ret rfl (.bool ?_)
 all_goals simp_all[jba,vz]
variable {b:Bool}
theorem nbT{x:Bool}(h:x=b)(k:(!b)=true):x=false:=by cases b<;>simp_all
theorem nbF{x:Bool}(h:x=b)(k:(!b)=false):x=true:=by cases b<;>simp_all
theorem bT{x:Bool}(h:x=b)(k:b=true):x=true:=h.trans k
theorem bF{x:Bool}(h:x=b)(k:b=false):x=false:=h.trans k
def wgf(t:Tok)(n:Int):Int:=if jba t n then wg t else -1
theorem zkn{k:Int}:isIn k 3 10=true↔(k=3\/k=4\/k=5\/k=6\/k=7\/k=8\/k=9\/k=10):=by
 simp only[isIn,Bool.and_eq_true,decide_eq_true_eq];omega
theorem jk1(t:Tok)(n:Int)(h0:-4611686018427387904<=n)(h1:n<=4611686018427387904):Pure Tryz.prog 240 [.agg (zh t),.c (.int .i64 n)] (.c (.int .i64 (wgf t n))):=by
 refine yaq [2] wg3 λG=>?_;have hw:IntKind.i64.wrap (n-1)=n-1:=jg O O;have h310:= @zkn t.kind;repeat' first|refine X ?_|((first|apply Go.pcallB|apply Go.spcallB|apply Qg.pcallB);(iterate 3 exact rfl);(first|exact wa4 _ _ _|exact jam _);intro _ _)|exact yaF|refine Y ?_ ?_<;>intro _
 all_goals refine .ret rfl (.int ?_)
 all_goals first
  |(simp_all[wgf,jba,vz,wg];done)
  |(cases hk:isIn t.kind 3 10<;>simp_all[wgf,jba,vz,wg];done)
  |(rename_i hl;have hz:vz t.v=false:=(by cases h:vz t.v;(· rfl);(· exfalso;simp[vz]at h;simp[h]at hl));clear hl;simp_all[wgf,jba];done)
def z5(n:Int):Int->List Tok->Bool
 |left,[]=>left==1
 |left,t::r=>jba t n&&decide (wg t<=left)&&z5 n (left+1-wg t) r
theorem zbf(t:Tok):0<=wg t/\wg t<=2:=by
 simp only[wg];split
 ·omega
 ·split<;>omega
theorem wc0(e:List Tok)(n:Int)(hx:e.length<=34359738368):Pure Tryz.prog 239 [.c (.fz (e.map zh)),.c (.int .i64 n)] (.c (.bool (decide ((e.length:Int)<=24)&&isIn n 0 16&&z5 n 0 e))):=by
 refine yaq [] jh3 λG=>?_;repeat' first|refine X ?_|((first|apply Go.pcallB|apply Go.spcallB|apply Qg.pcallB);(iterate 3 exact rfl);exact jfj _ _ _;intro _ _)|exact yaF|refine Y ?_ ?_<;>intro _
 ·refine .ret rfl (.bool ?_);rename_i h;rw[decide_eq_false O]
  rfl
 ·refine .ret rfl (.bool ?_);simp_all
 rename_i hl b hb hn;have hn16:0<=n/\n<=16:=by
  have:isIn n 0 16=true:=by simp_all
  simpa [isIn]using this
 refine Go.keep [1,5,16,17,18] (Go.loops (I:=λm fr V=>∃i:Nat,∃k l:Int,m=e.length-i/\i<=e.length/\k=i/\(0<=l/\l<=i/\z5 n 0 e=z5 n l (e.drop i))/\
  fr=[(1,.c (.int .i64 n)),(5,.c (.int .i64 l)),(16,.c (.fz (e.map zh))),(17,.c (.int .i64 (e.length:Int))),(18,.c (.int .i64 k))]/\V=E G []) ?_ _ _ _ ⟨0,_,_,rfl,yad _,rfl,⟨yaxq _,gx,rfl⟩,rfl,rfl⟩)
 rintro m fr V ⟨i,k,l,rfl,hi,hk,⟨hl0,hl1,hsl⟩,rfl,rfl⟩ hrec;have hres:(decide ((e.length:Int)<=24)&&isIn n 0 16&&z5 n 0 e)=z5 n 0 e:=by
  rw[decide_eq_true (p:=(e.length:Int)<=24) O,hb]
  cases b
  ·simp at hn
  ·simp
 by_cases hlt:i<e.length
 ·have hd:=yab hlt;have ht:=zbf e[i];repeat' first|refine X ?_|((first|apply yG|apply yH|apply yI);exact rfl;(first|exact yax zh hk hlt))|refine yaC (wkm e[i]) ?_|((first|apply Go.pcallB|apply Go.spcallB|apply Qg.pcallB);(iterate 3 exact rfl);exact jmv e[i] n O O;intro _ _)|exact yaF|refine Y ?_ ?_<;>intro _
  ·refine .ret rfl (.bool ?_);rename_i b1 hb1 hb2;rw[hres,hsl,hd,z5,nbT hb1 hb2]
   rfl
  ·refine .ret rfl (.bool ?_);rename_i h;rw[hres,hsl,hd,z5,decide_eq_false (p:=wg e[i]<=l) O];simp
  ·rename_i b1 hb1 hb2 h;have w1:IntKind.i64.wrap (1-wg e[i])=1-wg e[i]:=jg O O;have w2:IntKind.i64.wrap (l+(1-wg e[i]))=l+1-wg e[i]:=by rw[jg O O];omega
   refine Go.keep [1,5,16,17,18] (hrec _ _ _ O ⟨i+1,_,_,rfl,hlt,wb hk O,⟨?_, ?_, ?_⟩,rfl,rfl⟩)
   ·rw[w1,w2];omega
   ·rw[w1,w2];omega
   ·rw[w1,w2,hsl,hd,z5,decide_eq_true (p:=wg e[i]<=l) O];rw[nbF hb1 hb2]
    rfl
 ·repeat' first|refine X ?_|exact yaF|refine Y ?_ ?_<;>intro _
  refine .ret rfl (.bool ?_);rw[hres,hsl,yac O]
  rfl
theorem zgg(e:List Tok)(n:Int)(hx:e.length<=34359738368)(h0:-4611686018427387904<=n)(h1:n<=4611686018427387904):Pure Tryz.prog 145 [.c (.fz (e.map zh)),.c (.int .i64 n)] (.c (.bool (decide ((e.length:Int)<=24)&&z5 n 0 e))):=by
 refine yaq [] zh0 λG=>?_;repeat' first|refine X ?_|exact yaF|refine Y ?_ ?_<;>intro _
 refine Go.keep [0,1,5,6] (Go.loops (I:=λm fr V=>∃i:Nat,∃k l:Int,m=e.length-i/\i<=e.length/\k=i/\(0<=l/\l<=i/\z5 n 0 e=z5 n l (e.drop i))/\
  fr=[(0,.c (.fz (e.map zh))),(1,.c (.int .i64 n)),(5,.c (.int .i64 l)),(6,.c (.int .i64 k))]/\V=E G []) ?_ _ _ _ ⟨0,_,_,rfl,yad _,rfl,⟨yaxq _,gx,rfl⟩,rfl,rfl⟩)
 rintro m fr V ⟨i,k,l,rfl,hi,hk,⟨hl0,hl1,hsl⟩,rfl,rfl⟩ hrec;by_cases hlt:i<e.length
 ·have hd:=yab hlt;have ht:=zbf e[i];have neg:(jba e[i] n=false\/¬wg e[i]<=l)->(decide ((e.length:Int)<=24)&&z5 n 0 e)=false:=by
   intro h;rw[hsl,hd,z5];rcases h with h|h
   ·simp[h]
   ·rw[decide_eq_false (p:=wg e[i]<=l) h];simp
  repeat' first|refine X ?_|((first|apply yG|apply yH|apply yI);exact rfl;(first|exact yax zh hk hlt))|((first|apply Go.pcallI|apply Go.spcallI|apply Qg.pcallI);(iterate 3 exact rfl);exact jk1 e[i] n h0 h1;intro _ _)|exact yaF|refine Y ?_ ?_<;>intro _
  ·refine .ret rfl (.bool ?_);rename_i q hq h;refine(neg (.inl ?_)).symm
   cases hc:jba e[i] n
   ·rfl
   ·simp only[wgf,hc,if_true]at hq;omega
  ·refine .ret rfl (.bool ?_);rename_i q hq h h2;refine(neg (.inr ?_)).symm;simp only[wgf]at hq;split at hq<;>omega
  ·rename_i q hq h h2;have hc:jba e[i] n=true/\wg e[i]=q:=by
    simp only[wgf]at hq;split at hq
    ·exact⟨by assumption,hq⟩
    ·omega
   have w1:IntKind.i64.wrap (l-q)=l-q:=jg O O;have w2:IntKind.i64.wrap (l-q+1)=l+1-wg e[i]:=by rw[jg O O];omega
   refine Go.keep [0,1,5,6] (hrec _ _ _ O ⟨i+1,_,_,rfl,hlt,wb hk O,⟨?_, ?_, ?_⟩,rfl,rfl⟩)
   ·rw[w1,w2];omega
   ·rw[w1,w2];omega
   ·rw[w1,w2,hsl,hd,z5,decide_eq_true (p:=wg e[i]<=l) O,hc.1]
    rfl
 ·have hfin:z5 n 0 e=(l==1):=by
   rw[hsl,yac O]
   rfl
  repeat' first|refine X ?_|exact yaF|refine Y ?_ ?_<;>intro _
  all_goals refine .ret rfl (.bool ?_)
  all_goals rw[hfin]
  all_goals clear hrec hfin hsl
  all_goals simp_all
def jaw(n:Int):List Int->List Int->Bool
 |_,[]=>true
 |pre,c::r=>isIn c 0 (n-1)&& !(pre.any λa=>c==a)&&jaw n (pre++[c]) r
def zbz(l:List Int)(n:Int):Bool:=jaw n [] l&&decide (0<(l.length:Int))
theorem za3{s:Nat}{x hi:Opd}{es:List (List Ce)}(hx:x.ev fr=some (.c (.fz es)))(hy:hi.ev fr=some (.c (.int kd z)))(hz:z=(n:Int))(hn:n<=es.length)(hs:∀e∈es,e.length=s):aop (.slice s x none (some hi) none) fr G=some (.c (.fz (es.take n)),G):=by
 have:jhb G s (.fz es) none (some (.c (.int kd z))) none=some (.fz (es.take n)):=by
  subst hz;simp only[jhb,zap];rw[if_pos O];simp only[Int.toNat_natCast];rw[if_pos ⟨yad _,hn,hs⟩,List.drop_zero]
 simp only[aop,hx,evo,hy,Option.map_some,this]
theorem jkn{l:List Int}:∀e∈l.map encI,e.length=1:=λe he=>(wmp l e he).1
theorem jci(l:List Int)(n:Int)(hx:l.length<=34359738368)(h0:-4611686018427387904<=n)(h1:n<=4611686018427387904):Pure Tryz.prog 331 [.c (.fz (l.map encI)),.c (.int .i64 n)] (.c (.bool (zbz l n))):=by
 refine yaq [] zep λG=>?_;have hw:IntKind.i64.wrap (n-1)=n-1:=jg O O;repeat' first|refine X ?_|exact yaF|refine Y ?_ ?_<;>intro _
 refine Go.keep [0,1,7,8,9] (Go.loops (I:=λm fr V=>∃i:Nat,∃k:Int,m=l.length-i/\i<=l.length/\k=i/\jaw n [] l=jaw n (l.take i) (l.drop i)/\
  fr=[(0,.c (.fz (l.map encI))),(1,.c (.int .i64 n)),(7,.c (.fz (l.map encI))),(8,.c (.int .i64 (l.length:Int))),(9,.c (.int .i64 k))]/\V=E G []) ?_ _ _ _ ⟨0,_,rfl,yad _,rfl,rfl,rfl,rfl⟩)
 rintro m fr V ⟨i,k,rfl,hi,hk,hsl,rfl,rfl⟩ hrec;by_cases hlt:i<l.length
 ·have hd:=yab hlt;have htk:(l.map encI).take i=(l.take i).map encI:=List.map_take.symm;have hstep:jaw n [] l=(isIn l[i] 0 (n-1)&& !((l.take i).any λa=>l[i]==a)&&jaw n (l.take (i+1)) (l.drop (i+1))):=by
   rw[hsl,hd,jaw,yaj hlt]
  repeat' first|refine X ?_|((first|apply yG|apply yH|apply yI);exact rfl;(first|exact yax encI hk hlt))|((first|apply Go.pcallB|apply Go.spcallB|apply Qg.pcallB);(iterate 3 exact rfl);exact jfj _ _ _;intro _ _)|exact yaF|refine Y ?_ ?_<;>intro _
  ·refine .ret rfl (.bool ?_);rename_i b hb hb2;rw[hw]at hb;rw[zbz,hstep,nbT hb hb2]
   rfl
  rename_i b hb hb2;refine .op rfl (za3 (n:=i) rfl rfl hk gq jkn) ?_;rw[htk];repeat' first|refine X ?_|((first|apply Go.pcallB|apply Go.spcallB|apply Qg.pcallB);(iterate 3 exact rfl);exact wgw mixed wa8 zbl (l.take i) l[i] gq;intro _ _)|exact yaF|refine Y ?_ ?_<;>intro _
  ·refine .ret rfl (.bool ?_);rename_i b1 hb1 hb3;rw[zbz,hstep,bT hb1 hb3];simp
  ·refine Go.keep [0,1,7,8,9] (hrec _ _ _ O ⟨i+1,_,rfl,hlt,wb hk O, ?_,rfl,rfl⟩);rename_i b1 hb1 hb3;rw[hw]at hb;rw[hstep,bF hb1 hb3,nbF hb hb2];simp
 ·have hfin:jaw n [] l=true:=by
   rw[hsl,yac O]
   rfl
  repeat' first|refine X ?_|exact yaF|refine Y ?_ ?_<;>intro _
  refine .ret rfl (.bool ?_);rw[zbz,hfin]
  rfl
theorem wmv(l:List Int)(v:Int)(hx:l.length<=34359738368):Pure Tryz.prog 357 [.c (.fz (l.map encI)),.c (.int .i64 v)] (.c (.bool (l.any λa=>v==a))):=by
 refine yaq [] zi7 λG=>?_;repeat' first|refine X ?_|exact yaF|refine Y ?_ ?_<;>intro _
 refine Go.keep [0,1,5] (Go.loops (I:=λm fr V=>∃i:Nat,∃k:Int,m=l.length-i/\i<=l.length/\k=i/\(l.any λa=>v==a)=((l.drop i).any λa=>v==a)/\
  fr=[(0,.c (.fz (l.map encI))),(1,.c (.int .i64 v)),(5,.c (.int .i64 k))]/\V=E G []) ?_ _ _ _ ⟨0,_,rfl,yad _,rfl,rfl,rfl,rfl⟩)
 rintro m fr V ⟨i,k,rfl,hi,hn,hsl,rfl,rfl⟩ hrec;by_cases hlt:i<l.length
 ·have hd:=yab hlt;repeat' first|refine X ?_|((first|apply yG|apply yH|apply yI);exact rfl;(first|exact yax encI hn hlt))|exact yaF|refine Y ?_ ?_<;>intro _
  ·refine .ret rfl (.bool ?_);rename_i h;rw[hsl,hd,List.any_cons,h];simp
  ·rename_i h;refine Go.keep [0,1,5] (hrec _ _ _ O ⟨i+1,_,rfl,hlt,wb hn O, ?_,rfl,rfl⟩);rw[hsl,hd,List.any_cons,beq_eq_false_iff_ne.2 (λe=>h e.symm)]
   rfl
 ·repeat' first|refine X ?_|exact yaF|refine Y ?_ ?_<;>intro _
  refine .ret rfl (.bool ?_);rw[hsl,yac O]
  rfl
theorem jgg(l:List Int)(n:Int)(hx:l.length<=34359738368)(h0:-4611686018427387904<=n)(h1:n<=4611686018427387904):Pure Tryz.prog 314 [.c (.fz (l.map encI)),.c (.int .i64 n)] (.c (.bool (zbz l n))):=by
 refine yaq [] zh7 λG=>?_;have hw:IntKind.i64.wrap (n-1)=n-1:=jg O O;repeat' first|refine X ?_|exact yaF|refine Y ?_ ?_<;>intro _
 refine Go.keep [0,1,5] (Go.loops (I:=λm fr V=>∃i:Nat,∃k:Int,m=l.length-i/\i<=l.length/\k=i/\jaw n [] l=jaw n (l.take i) (l.drop i)/\
  fr=[(0,.c (.fz (l.map encI))),(1,.c (.int .i64 n)),(5,.c (.int .i64 k))]/\V=E G []) ?_ _ _ _ ⟨0,_,rfl,yad _,rfl,rfl,rfl,rfl⟩)
 rintro m fr V ⟨i,k,rfl,hi,hk,hsl,rfl,rfl⟩ hrec;by_cases hlt:i<l.length
 ·have hd:=yab hlt;have htk:(l.map encI).take i=(l.take i).map encI:=List.map_take.symm;have hstep:jaw n [] l=(isIn l[i] 0 (n-1)&& !((l.take i).any λa=>l[i]==a)&&jaw n (l.take (i+1)) (l.drop (i+1))):=by
   rw[hsl,hd,jaw,yaj hlt]
  repeat' first|refine X ?_|((first|apply yG|apply yH|apply yI);exact rfl;(first|exact yax encI hk hlt))|((first|apply Go.pcallB|apply Go.spcallB|apply Qg.pcallB);(iterate 3 exact rfl);exact wa4 _ _ _;intro _ _)|exact yaF|refine Y ?_ ?_<;>intro _
  ·refine .ret rfl (.bool ?_);rename_i b hb hb2;rw[hw]at hb;rw[zbz,hstep,nbT hb hb2]
   rfl
  rename_i b hb hb2;repeat' first|refine X ?_|((first|apply yG|apply yH|apply yI);exact rfl;(first|exact za3 (n:=i) rfl rfl hk gq jkn|exact yax encI hk hlt))|exact yaF|refine Y ?_ ?_<;>intro _
  rw[htk];repeat' first|refine X ?_|((first|apply Go.pcallB|apply Go.spcallB|apply Qg.pcallB);(iterate 3 exact rfl);exact wmv (l.take i) l[i] gq;intro _ _)|exact yaF|refine Y ?_ ?_<;>intro _
  ·refine .ret rfl (.bool ?_);rename_i b1 hb1 hb3;rw[zbz,hstep,bT hb1 hb3];simp
  ·refine Go.keep [0,1,5] (hrec _ _ _ O ⟨i+1,_,rfl,hlt,wb hk O, ?_,rfl,rfl⟩);rename_i b1 hb1 hb3;rw[hw]at hb;rw[hstep,bF hb1 hb3,nbF hb hb2];simp
 ·have hfin:jaw n [] l=true:=by
   rw[hsl,yac O]
   rfl
  repeat' first|refine X ?_|exact yaF|refine Y ?_ ?_<;>intro _
  refine .ret rfl (.bool ?_);rw[zbz,hfin]
  rfl
def wgg(v:Val)(k:Int):Bool:=ju v&&(v.k==0||v.k==k)
theorem wj2(v:Val)(k:Int):Pure Tryz.prog 233 [.agg (encV v),.c (.int .i64 k)] (.c (.bool (wgg v k))):=by
 refine yaq [2] zjw λG=>?_;repeat' first|refine X ?_|((first|apply Go.pcallB|apply Go.spcallB|apply Qg.pcallB);(iterate 3 exact rfl);exact wc8 _;intro _ _)|exact yaF|refine Y ?_ ?_<;>intro _
 all_goals refine .ret rfl (.bool ?_)
 all_goals simp_all[wgg]
def zc1(f:Fk)(n:Int):Bool:=zbz f.cols n&&(jbl f.table&&(isIn f.onDelete 0 2&&isIn f.onUpdate 0 2))
theorem znp(f:Fk)(n:Int)(hb:bFk 34359738368 f)(h0:-4611686018427387904<=n)(h1:n<=4611686018427387904):Pure Tryz.prog 338 [.agg (j3 f),.c (.int .i64 n)] (.c (.bool (zc1 f n))):=by
 refine yaq [2] zjz λG=>?_;repeat' first|refine X ?_|((first|apply Go.pcallB|apply Go.spcallB|apply Qg.pcallB);(iterate 3 exact rfl);(first|exact jci f.cols n hb.1 h0 h1|exact zgf f.table hb.2|exact jfj _ _ _);intro _ _)|exact yaF|refine Y ?_ ?_<;>intro _
 all_goals refine .ret rfl (.bool ?_)
 all_goals simp_all[zc1]
def jeq(c:Col):Bool:=jbl c.name&&((c.kind==1||c.kind==2)&&wgg c.dflt c.kind)
def jar:List Col->List Col->Bool
 |_,[]=>true
 |pre,c::r=>jeq c&& !(pre.any λd=>d.name==c.name)&&jar (pre++[c]) r
def jbf(l:List Col):Bool:=decide ((l.length:Int)<=8)&&(jar [] l&&decide (0<(l.length:Int)))
theorem zj3(d c:Col):Pure Tryz.prog 367 [.agg (ji d),.c (.fp (ji c))] (.c (.bool (d.name==c.name))):=by
 refine yaq [2] wfi λG=>?_;repeat' first|refine X ?_|exact yaF|refine Y ?_ ?_<;>intro _
 all_goals refine .ret rfl (.bool ?_)
 all_goals simp_all
theorem wk1(l:List Col)(hx:l.length<=34359738368)(hb:∀c∈l,bCol 34359738368 c):Pure Tryz.prog 330 [.c (.fz (l.map ji))] (.c (.bool (jbf l))):=by
 refine yaq [] jg7 λG=>?_;repeat' first|refine X ?_|exact yaF|refine Y ?_ ?_<;>intro _
 refine Go.keep [0,5,6,7] (Go.loops (I:=λm fr V=>∃i:Nat,∃k:Int,m=l.length-i/\i<=l.length/\k=i/\(i<=8/\jar [] l=jar (l.take i) (l.drop i))/\
  fr=[(0,.c (.fz (l.map ji))),(5,.c (.fz (l.map ji))),(6,.c (.int .i64 (l.length:Int))),(7,.c (.int .i64 k))]/\V=E G []) ?_ _ _ _ ⟨0,_,rfl,yad _,rfl,⟨O,rfl⟩,rfl,rfl⟩)
 rintro m fr V ⟨i,k,rfl,hi,hk,⟨h8,hsl⟩,rfl,rfl⟩ hrec;by_cases hlt:i<l.length
 ·have hd:=yab hlt;have hbc:=hb _ (yaa hlt);have htk:(l.map ji).take i=(l.take i).map ji:=List.map_take.symm;have hstep:jar [] l=(jeq l[i]&& !((l.take i).any λd=>d.name==l[i].name)&&jar (l.take (i+1)) (l.drop (i+1))):=by
   rw[hsl,hd,jar,yaj hlt]
  have neg:(k=8\/jeq l[i]=false\/((l.take i).any λd=>d.name==l[i].name)=true)->jbf l=false:=by
   rintro(h|h|h)
   ·rw[jbf,decide_eq_false O]
    rfl
   ·rw[jbf,hstep,h];simp
   ·rw[jbf,hstep,h];simp
  repeat' first|refine X ?_|((first|apply yG|apply yH|apply yI);exact rfl;(first|exact yax ji hk hlt))|((first|apply Go.pcallB|apply Go.spcallB|apply Qg.pcallB);(iterate 3 exact rfl);(first|exact zgf l[i].name hbc.1|exact wj2 l[i].dflt l[i].kind);intro _ _)|exact yaF|refine Y ?_ ?_<;>intro _
  all_goals try(refine .ret rfl (.bool (neg ?_).symm);clear hrec hsl hstep neg;simp_all[jeq];done)
  all_goals have hcol:jeq l[i]=true:=(by clear hrec hsl hstep neg;simp_all[jeq])
  all_goals refine .op rfl (za3 (n:=i) rfl rfl hk gq (λe he=>by obtain⟨c,_,rfl⟩:=List.mem_map.1 he;rfl)) ?_
  all_goals rw[htk]
  all_goals(repeat' first|(apply yA;exact rfl)|apply yB|apply yC|((first|apply yD|apply yE);(first|exact yF|assumption);iterate 6 exact rfl)|((first|apply yG|apply yH|apply yI);exact rfl;(first|exact yJ|exact yK rfl rfl|exact yL rfl|exact yM rfl|exact rfl|exact aL rfl rfl rfl rfl rfl|exact aS rfl rfl rfl rfl rfl rfl rfl))|((first|apply yN|apply yO|apply yP);exact rfl)|((first|apply Go.pcallB|apply Go.spcallB|apply Qg.pcallB);(iterate 3 exact rfl);exact wj mixed zbo wb5 ji (λc=>.agg (ji c)) (λ_=>rfl) (λ_=>rfl) (l.take i) (λd=>d.name==l[i].name) _ [] [.fp (ji l[i])] (by simp;omega) (λj hj _=>zj3 _ _);intro _ _)|exact yaF|(((first|apply yT|apply yU|apply yV|apply yW);exact rfl;(first|exact .d|exact .e|exact .n|((fail_if_success exact bqt);(fail_if_success exact bqf);exact .b)))<;>intro _))
  all_goals rename_i b9 hb9 hb8
  all_goals first
   |exact .ret rfl (.bool (neg (.inr (.inr (bT hb9 hb8)))).symm)
   |(refine Go.keep [0,5,6,7] (hrec _ _ _ O ⟨i+1,_,rfl,hlt,wb hk O,⟨O, ?_⟩,rfl,rfl⟩);rw[hstep,hcol,bF hb9 hb8];rfl)
 ·have hfin:jar [] l=true:=by
   rw[hsl,yac O]
   rfl
  repeat' first|refine X ?_|exact yaF|refine Y ?_ ?_<;>intro _
  refine .ret rfl (.bool ?_);rw[jbf,hfin,decide_eq_true (p:=(l.length:Int)<=8) O]
  rfl
def jy(t:zd)(c:Int):Bool:=match t.cols[c.toNat]? with|some x=>x.notNull|none=>false
def war(e:List Tok)(n:Int):Bool:=decide ((e.length:Int)<=24)&&z5 n 0 e
def zao(t:zd):Bool:=
 jbl t.name&&(jbf t.cols&&(zbz t.key t.cols.length&&(decide ((t.uniques.length:Int)<=3)&&(decide ((t.checks.length:Int)<=3)&&(decide ((t.fks.length:Int)<=3)&&
  (!(t.key.any λc=> !jy t c)&&(!(t.uniques.any λu=> !zbz u.cols t.cols.length)&&(!(t.checks.any λc=> !war c.expr t.cols.length)&& !(t.fks.any λf=> !zc1 f t.cols.length)))))))))
theorem jhg{n:Int}:∀{l pre:List Int},jaw n pre l=true->∀c∈l,isIn c 0 (n-1)=true
 |[],_,_,c,h=>by simp at h
 |a::r,pre,h,c,hc=>by
  simp only[jaw,Bool.and_eq_true]at h;rcases List.mem_cons.1 hc with rfl|hc
  ·exact h.1.1
  ·exact jhg h.2 c hc
theorem wci{l:List Int}{n:Int}(h:zbz l n=true):∀c∈l,0<=c/\c<n:=by
 intro c hc;simp only[zbz,Bool.and_eq_true]at h;have:=jhg h.1 c hc;simp only[isIn,Bool.and_eq_true,decide_eq_true_eq]at this;omega
theorem wez{l:List Col}(h:jbf l=true):0<l.length/\l.length<=8:=by
 simp only[jbf,Bool.and_eq_true,decide_eq_true_eq]at h;omega
theorem jj3(t:zd)(c:Int)(h0:0<=c)(h1:c<t.cols.length):Pure Tryz.prog 333 [.c (.int .i64 c),.c (.fp (ja t))] (.c (.bool (!jy t c))):=by
 refine yaq [] zfh λG=>?_;obtain⟨n,rfl⟩:∃n:Nat,c=n:=⟨c.toNat,O⟩;have hn:n<t.cols.length:=O;repeat' first|refine X ?_|((first|apply yG|apply yH|apply yI);exact rfl;(first|exact yax ji rfl hn))|exact yaF|refine Y ?_ ?_<;>intro _
 refine .ret rfl (.bool ?_);simp[jy,hn]
theorem wj3(u:Uniq)(n:Int)(hb:wfj 34359738368 u)(h0:-4611686018427387904<=n)(h1:n<=4611686018427387904):Pure Tryz.prog 335 [.agg (jo u),.c (.fp [.int .i64 n])] (.c (.bool (!zbz u.cols n))):=by
 refine yaq [2] jfh λG=>?_;repeat' first|refine X ?_|refine yaC (jci u.cols n hb h0 h1) ?_|exact yaF|refine Y ?_ ?_<;>intro _
 exact .ret rfl (.bool rfl)
theorem zd8{e:List Tok}{n:Int}(h0:0<=n)(h1:n<=16):(decide ((e.length:Int)<=24)&&isIn n 0 16&&z5 n 0 e)=war e n:=by
 have:isIn n 0 16=true:=by simp[isIn,h0,h1]
 rw[this,Bool.and_true]
 rfl
theorem zj4(c:Chk)(n:Int)(hb:bChk 34359738368 c)(h0:0<=n)(h1:n<=16):Pure Tryz.prog 336 [.agg (zx c),.c (.fp [.int .i64 n])] (.c (.bool (!war c.expr n))):=by
 refine yaq [2] wfh λG=>?_;have hc:=wc0 c.expr n hb.1;rw[zd8 h0 h1]at hc;repeat' first|refine X ?_|refine yaC (hc) ?_|exact yaF|refine Y ?_ ?_<;>intro _
 exact .ret rfl (.bool rfl)
theorem jj4(f:Fk)(n:Int)(hb:bFk 34359738368 f)(h0:-4611686018427387904<=n)(h1:n<=4611686018427387904):Pure Tryz.prog 337 [.agg (j3 f),.c (.fp [.int .i64 n])] (.c (.bool (!zc1 f n))):=by
 refine yaq [2] zfi λG=>?_;repeat' first|refine X ?_|refine yaC (znp f n hb h0 h1) ?_|exact yaF|refine Y ?_ ?_<;>intro _
 exact .ret rfl (.bool rfl)
theorem zk2(t:zd)(hb:zah 34359738368 t):Pure Tryz.prog 269 [.agg (ja t)] (.c (.bool (zao t))):=by
 refine yaq [1] jg6 λG=>?_;obtain⟨b1,b2,b3,b4,b5,b6⟩:=hb;repeat' first|refine X ?_|((first|apply Go.pcallB|apply Go.spcallB|apply Qg.pcallB);(iterate 3 exact rfl);(first|exact zgf t.name b1|exact wk1 t.cols b2.1 b2.2|exact jci t.key t.cols.length b3 O O);intro _ _)|exact yaF|refine Y ?_ ?_<;>intro _
 all_goals try(refine .ret rfl (.bool ?_);simp_all[zao];done)
 ·refine .ret rfl (.bool ?_);rw[zao,decide_eq_false (p:=(t.uniques.length:Int)<=3) O];simp
 ·refine .ret rfl (.bool ?_);rw[zao,decide_eq_false (p:=(t.checks.length:Int)<=3) O];simp
 ·refine .ret rfl (.bool ?_);rw[zao,decide_eq_false (p:=(t.fks.length:Int)<=3) O];simp
 rename_i c1 p1 q1 c2 p2 q2 c3 p3 q3 g1 g2 g3;have k1:=nbF p1 q1;have k2:=nbF p2 q2;have k3:=nbF p3 q3;have hcl:=wez k2;have hin:=wci k3;clear p1 q1 p2 q2 p3 q3;repeat' first|refine X ?_|((first|apply Go.pcallB|apply Go.spcallB|apply Qg.pcallB);(iterate 3 exact rfl);(first|exact wj mixed j9 jad encI (λn=>.c (.int .i64 n)) (λ_=>rfl) (λ_=>rfl) t.key (λc=> !jy t c) _ [] [.fp (ja t)] b3 (λj hj _=>jj3 t _ (hin _ (yaa hj)).1 (hin _ (yaa hj)).2)|exact wj mixed zbc jbo jo (λu=>.agg (jo u)) (λ_=>rfl) (λ_=>rfl) t.uniques (λu=> !zbz u.cols t.cols.length) _ [] [.fp [.int .i64 t.cols.length]] b4.1 (λj hj _=>wj3 _ _ (b4.2 _ (yaa hj)) O O)|exact wj mixed waj jaq zx (λu=>.agg (zx u)) (λ_=>rfl) (λ_=>rfl) t.checks (λc=> !war c.expr t.cols.length) _ [] [.fp [.int .i64 t.cols.length]] b5.1 (λj hj _=>zj4 _ _ (b5.2 _ (yaa hj)) O O)|exact wj mixed jac wai j3 (λu=>.agg (j3 u)) (λ_=>rfl) (λ_=>rfl) t.fks (λf=> !zc1 f t.cols.length) _ [] [.fp [.int .i64 t.cols.length]] b6.1 (λj hj _=>jj4 _ _ (b6.2 _ (yaa hj)) O O));intro _ _)|exact yaF|refine Y ?_ ?_<;>intro _
 all_goals refine .ret rfl (.bool ?_)
 all_goals rw[zao,k1,k2,k3,decide_eq_true (p:=(t.uniques.length:Int)<=3) O,decide_eq_true (p:=(t.checks.length:Int)<=3) O,decide_eq_true (p:=(t.fks.length:Int)<=3) O]
 all_goals simp_all
end Go.Proofs.YtedaadaaibofaaaGreat.Am
