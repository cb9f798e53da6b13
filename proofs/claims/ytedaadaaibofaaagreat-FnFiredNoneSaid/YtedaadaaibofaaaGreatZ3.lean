/- Joined texts: C1, F1, F2, F3, F4, F5, F6, F7, F8, K1, K2, S1, S2, S3, S4, P1, F9, E1, E3, E2, Y1, E4. -/
import Derived.Test.YtedaadaaibofaaaGreatProg
import Derived.KernelRfl
import Derived.Test.YtedaadaaibofaaaGreatChecked
import Derived.Test.YtedaadaaibofaaaGreatZ1
import Derived.Test.YtedaadaaibofaaaGreatZ2
set_option linter.unusedVariables false
namespace Go.Proofs.YtedaadaaibofaaaGreat.Am
abbrev oM(d k:Nat):jd:=⟨some d,.op (.mv (.t k)),none⟩
abbrev oP(d:Nat)(a:AOp):jd:=⟨some d,.op a,none⟩
abbrev oT(d:Nat)(a:AOp)(g:Nat):jd:=⟨some d,.op a,some (g,true)⟩
abbrev oF(d:Nat)(a:AOp)(g:Nat):jd:=⟨some d,.op a,some (g,false)⟩
abbrev oC(d n:Nat)(l:List Opd):jd:=⟨some d,.call (.f n) l,none⟩
abbrev kI(z:Int):Opd:=.k (.int .i64 z)
abbrev oFa(d j t:Nat):jd:=oP d (.faddr j (.t t))
abbrev oLf(d t:Nat):jd:=oP d (.load false 1 (.t t))
abbrev oLt(d s t:Nat):jd:=oP d (.load true s (.t t))
abbrev oMi(d:Nat)(z:Int):jd:=oP d (.mv (kI z))
abbrev oMb(d:Nat)(b:Bool):jd:=oP d (.mv (.k (.bool b)))
abbrev oIa(d s a b:Nat):jd:=oP d (.iaddr s (.t a) (.t b))
abbrev oLn(d t:Nat):jd:=oP d (.len false (.t t))
abbrev oBt(d:Nat)(o:BinOp)(a b:Nat):jd:=oP d (.bin o (.t a) (.t b))
abbrev oBk(d:Nat)(o:BinOp)(a:Nat)(z:Int):jd:=oP d (.bin o (.t a) (kI z))
abbrev oPo(d a b:Nat):jd:=oP d (.pick (.t a) (.k (.bool true)) (.t b))
abbrev oPa(d a b:Nat):jd:=oP d (.pick (.t a) (.t b) (.k (.bool false)))
abbrev oEx(d t j:Nat):jd:=oP d (.ext (.t t) j)
abbrev oUn(d t:Nat):jd:=oP d (.un .not (.t t))
abbrev oNc(d t:Nat):jd:=oP d (.nilc (.t t))
abbrev oBx(d t:Nat):jd:=oP d (.box true (.t t))
abbrev oSt(s a b:Nat):jd:=⟨none,.op (.store s (.t a) (.t b)),none⟩
abbrev ota(d j t g:Nat):jd:=oT d (.faddr j (.t t)) g
abbrev otl(d t g:Nat):jd:=oT d (.load false 1 (.t t)) g
abbrev otm(d t g:Nat):jd:=oT d (.mv (.t t)) g
abbrev oti(d s a b g:Nat):jd:=oT d (.iaddr s (.t a) (.t b)) g
abbrev otc(d n:Nat)(l:List Opd)(g:Nat):jd:=⟨some d,.call (.f n) l,some (g,true)⟩
abbrev ofa(d j t g:Nat):jd:=oF d (.faddr j (.t t)) g
abbrev ofl(d t g:Nat):jd:=oF d (.load false 1 (.t t)) g
abbrev ofm(d t g:Nat):jd:=oF d (.mv (.t t)) g
abbrev ofi(d s a b g:Nat):jd:=oF d (.iaddr s (.t a) (.t b)) g
abbrev ofc(d n:Nat)(l:List Opd)(g:Nat):jd:=⟨some d,.call (.f n) l,some (g,false)⟩
abbrev oG(l:List jd):AC:=.region l
abbrev oS(a b:AC):AC:=.seq a b
abbrev oD(l:List (List jd)):AC:=.draw l
abbrev oQ(t:Nat)(a b:AC):AC:=.cond (.t t) a b
abbrev oH(l:List jd)(b:AC):AC:=.seq (.region l) b
theorem yak9{a b:Option AFn}(h:a=b:=by kernel_rfl):a=b:=h
def wdj:AFn:=⟨89,[.t 2],(oH [oMb 2 false] (oS (oH [oM 19 0,oC 20 39 [.t 19]] (oQ 20 (oH [oMb 2 true] .ret) .skip)) (oH [oM 22 0,oC 23 50 [.t 22],oM 21 23,oEx 24 21 0,oEx 25 21 1,oEx 26 21 2,oEx 27 21 3,oP 6 (.alloc [.int .i64 0,.str [],.nils,.nils,.nils,.int .i64 0]),oM 3 24,oM 4 25,oM 5 26,oSt 6 6 27] (oH [oM 29 3,oM 30 4,oM 31 5,oLt 32 6 6,oC 33 20 [.t 29,.t 30,.t 31,.t 32],oM 28 33,oEx 34 28 0,oEx 35 28 1,oEx 36 28 2,oM 7 34,oM 8 35,oM 9 36] (oH [oM 38 3,oM 39 4,oM 40 5,oLt 41 6 6,oC 42 15 [.t 38,.t 39,.t 40,.t 41],oM 37 42,oEx 43 37 0,oEx 44 37 1,oEx 45 37 2,oM 10 43,oM 11 44,oM 12 45] (oS (oH [oM 46 8,oM 47 11,oBt 48 .neq 46 47,oM 49 48,ofm 50 9 49,ofm 51 12 49,oF 52 (.bin .neq (.t 50) (.t 51)) 49,oPo 53 49 52,oM 54 53,ofm 55 7 54,ofm 56 10 54,ofc 57 47 [.t 55,.t 56] 54,oF 58 (.un .not (.t 57)) 54,oPo 59 54 58] (oQ 59 (oH [oMb 2 false] .ret) .skip)) (oH [oM 61 3,oM 62 5,oLt 63 6 6,oC 64 20 [.t 61,(.k (.nils)),.t 62,.t 63],oM 60 64,oEx 65 60 0,oEx 66 60 1,oEx 67 60 2,oM 13 65,oM 14 66,oM 15 67] (oH [oM 69 3,oM 70 5,oLt 71 6 6,oC 72 45 [.t 69,.t 70,.t 71],oM 68 72,oEx 73 68 0,oEx 74 68 1,oEx 75 68 2,oM 16 73,oM 17 74,oM 18 75] (oH [oM 76 14,oM 77 17,oBt 78 .eql 76 77,oM 79 78,otm 80 15 79,otm 81 18 79,oT 82 (.bin .eql (.t 80) (.t 81)) 79,oPa 83 79 82,oM 84 83,otm 85 13 84,otm 86 16 84,otc 87 47 [.t 85,.t 86] 84,oPa 88 84 87,oM 2 88] .ret)))))))))⟩
def jed:AFn:=⟨35,[.t 8,.t 9,.t 10],(oH [oBx 5 1,oBx 7 3,oP 8 (.mv (.k (.nils))),oMi 9 0,oMi 10 0] (oS (oH [oM 11 0,oM 12 2,oC 13 79 [.t 11,.t 12],oUn 14 13,oM 15 14,ofm 16 0 15,oF 17 (.load true 6 (.t 7)) 15,ofc 18 80 [.t 16,.t 17] 15,oF 19 (.un .not (.t 18)) 15,oPo 20 15 19,oM 21 20,ofm 22 0 21,ofl 23 5 21,ofc 24 81 [.t 22,.t 23] 21,oF 25 (.un .not (.t 24)) 21,oPo 26 21 25] (oQ 26 (oH [oP 8 (.mv (.k (.nils))),oMi 9 1,oMi 10 0] .ret) .skip)) (oH [oM 27 0,oM 28 2,oLt 29 6 7,oP 30 (.mkfn 83 [] [.t 5,.t 7]),oC 31 82 [.t 27,.t 28,.t 29,.t 30],oEx 32 31 0,oEx 33 31 1,oEx 34 31 2,oM 8 32,oM 9 33,oM 10 34] .ret)))⟩
theorem wda:ze Tryz.prog [5,7] 20=some jed:=yak9
def jit:AFn:=⟨6,[.t 2],(oH [oMb 2 false] (oH [oM 3 0,oLn 4 3,oBk 5 .gtr 4 1048576,oM 2 5] .ret))⟩
def jht:AFn:=⟨26,[.t 6,.t 7,.t 8],(oH [oBx 5 2,oP 6 (.mv (.k (.nils))),oMi 7 0,oMi 8 0] (oS (oH [oM 9 0,oM 10 1,oC 11 79 [.t 9,.t 10],oUn 12 11,oM 13 12,ofm 14 0 13,oF 15 (.load true 6 (.t 5)) 13,ofc 16 80 [.t 14,.t 15] 13,oF 17 (.un .not (.t 16)) 13,oPo 18 13 17] (oQ 18 (oH [oP 6 (.mv (.k (.nils))),oMi 7 1,oMi 8 0] .ret) .skip)) (oH [oM 19 0,oM 20 1,oLt 21 6 5,oC 22 82 [.t 19,.t 20,.t 21,(.f 129)],oEx 23 22 0,oEx 24 22 1,oEx 25 22 2,oM 6 23,oM 7 24,oM 8 25] .ret)))⟩
theorem wfn:ze Tryz.prog [5] 45=some jht:=yak9
def jge:AFn:=⟨82,[.t 4],(oH [oMb 4 false] (oS (oH [oM 7 0,oLn 8 7,oM 9 1,oLn 10 9,oBt 11 .neq 8 10] (oQ 11 (oH [oMb 4 false] .ret) .skip)) (oS (oH [oMi 5 0] (.block 0 (.loop (oS (oH [oM 12 5,oM 13 0,oLn 14 13,oBt 15 .lss 12 14] (oQ 15 .skip (.exit 0))) (oS (.block 1 (oS (oS (oD [[oM 18 0,oM 19 5,oIa 20 1 18 19,oFa 21 0 20,oLf 22 21,oLn 23 22,oM 24 1,oM 25 5,oIa 26 1 24 25,oFa 27 0 26,oLf 28 27,oLn 29 28],[oBt 30 .neq 23 29]]) (oQ 30 (oH [oMb 4 false] .ret) .skip)) (oH [oMi 6 0] (.block 2 (.loop (oS (oH [oM 31 6,oM 32 0,oM 33 5,oIa 34 1 32 33,oFa 35 0 34,oLf 36 35,oLn 37 36,oBt 38 .lss 31 37] (oQ 38 .skip (.exit 2))) (oS (.block 3 (oS (oD [[oM 41 0,oM 42 5,oIa 43 1 41 42,oFa 44 0 43,oLf 45 44,oM 46 6,oIa 47 2 45 46,oFa 48 0 47,oLf 49 48,oM 50 1,oM 51 5,oIa 52 1 50 51,oFa 53 0 52,oLf 54 53,oM 55 6,oIa 56 2 54 55,oFa 57 0 56,oLf 58 57],[oBt 59 .neq 49 58],[oM 60 59],[ofm 61 0 60,ofm 62 5 60,ofi 63 1 61 62 60,ofa 64 0 63 60,ofl 65 64 60,ofm 66 6 60,ofi 67 2 65 66 60,ofa 68 1 67 60,ofl 69 68 60,ofm 70 1 60,ofm 71 5 60,ofi 72 1 70 71 60,ofa 73 0 72 60,ofl 74 73 60,ofm 75 6 60,ofi 76 2 74 75 60,ofa 77 1 76 60,ofl 78 77 60],[ofc 79 131 [.t 69,.t 78] 60],[oF 80 (.un .not (.t 79)) 60],[oPo 81 60 80]]) (oQ 81 (oH [oMb 4 false] .ret) .skip))) (oG [oM 39 6,oBk 40 .add 39 1,oM 6 40])))))))) (oG [oM 16 5,oBk 17 .add 16 1,oM 5 17])))))) (oH [oMb 4 true] .ret))))⟩
def zfo:AFn:=⟨8,[.t 4],(oH [oBx 3 1,oMi 4 0] (oH [oM 5 0,oP 6 (.mkfn 133 [] [.t 3]),oC 7 132 [.t 5,.t 6],oM 4 7] .ret))⟩
def wc2:AFn:=⟨26,[.t 2,.t 3,.t 4,.m 5 true 6],(oH [oP 2 (.mv (.k (.nils))),oP 3 (.mv (.k (.nils))),oP 4 (.mv (.k (.nils))),oP 5 (.alloc [.int .i64 0,.str [],.nils,.nils,.nils,.int .i64 0])] (oH [oM 10 0,oC 11 125 [.t 10],oM 6 11] (oH [oM 12 6,oC 13 126 [.t 12],oM 7 13] (oH [oM 14 6,oM 15 7,oC 16 127 [.t 14,.t 15,(kI 4)],oM 8 16] (oH [oM 17 6,oM 18 7,oC 19 128 [.t 17,.t 18],oP 9 (.alloc [.int .i64 0,.str [],.nils,.nils,.nils,.int .i64 0]),oSt 6 9 19] (oS (oD [[oM 20 7,oM 21 6,oM 22 7,oC 23 139 [.t 21,.t 22],oM 24 8,oLt 25 6 9,oM 2 20,oM 3 23,oM 4 24],[oSt 6 5 25]]) .ret))))))⟩
theorem zb8:ze Tryz.prog [] 50=some wc2:=yak9
def zg4:AFn:=⟨17,[.t 4],(oH [oMi 4 0] (oH [oM 8 0,oM 9 1,oC 10 146 [.t 8,.t 9],oM 7 10,oEx 11 7 0,oEx 12 7 1,oP 5 (.alloc [.int .i64 0,.int .i64 0,.str []]),oSt 3 5 11,oM 6 12] (oS (oH [oM 13 6,oUn 14 13] (oQ 14 (oH [oMi 4 (-1)] .ret) .skip)) (oH [oLt 15 3 5,oC 16 147 [.t 15],oM 4 16] .ret))))⟩
def zdx:AFn:=⟨30,[.t 4],(oH [oMb 4 false] (oS (oH [oMi 5 0] (.block 0 (.loop (oS (oH [oM 6 0,oC 7 157 [.t 6],oM 8 7,otm 9 5 8,otm 10 1 8,oT 11 (.len false (.t 10)) 8,oT 12 (.bin .lss (.t 9) (.t 11)) 8,oPa 13 8 12] (oQ 13 .skip (.exit 0))) (oS (.block 1 (oH [oM 16 0,oM 17 1,oM 18 5,oIa 19 5 17 18,oLt 20 5 19,oC 21 158 [.t 16,.t 20],oUn 22 21] (oQ 22 (oH [oMb 4 false] .ret) .skip))) (oG [oM 14 5,oBk 15 .add 14 1,oM 5 15])))))) (oH [oM 23 0,oC 24 157 [.t 23],oM 25 24,otm 26 1 25,oT 27 (.len false (.t 26)) 25,oT 28 (.bin .leq (.t 27) (kI 6)) 25,oPa 29 25 28,oM 4 29] .ret)))⟩
def wht:AFn:=⟨12,[.t 4],(oH [oMb 4 false] (oH [oM 5 0,oC 6 157 [.t 5],oM 7 6,otm 8 0 7,otm 9 1 7,otc 10 159 [.t 8,.t 9] 7,oPa 11 7 10,oM 4 11] .ret))⟩
def wge:AFn:=⟨152,[.t 4],(oH [oBx 3 1,oMb 4 false] (oH [oM 12 0,oFa 13 1 3,oLf 14 13,oC 15 67 [.t 12,.t 14],oM 5 15] (oS (oH [oM 16 5,oBk 17 .lss 16 0,oM 18 17,ofa 19 5 3 18,ofl 20 19 18,ofc 21 72 [.t 20,(kI 0),(kI 4)] 18,oF 22 (.un .not (.t 21)) 18,oPo 23 18 22] (oQ 23 (oH [oMb 4 false] .ret) .skip)) (oH [oM 24 0,oM 25 5,oIa 26 6 24 25,oLt 27 6 26,oP 6 (.alloc [.str [],.nils,.nils,.nils,.nils,.nils]),oSt 6 6 27] (oH [oFa 28 1 6,oLf 29 28,oLn 30 29,oM 7 30] (oS (oH [oMi 8 0] (.block 0 (.loop (oS (oH [oM 31 8,oFa 32 2 3,oLf 33 32,oLn 34 33,oBt 35 .lss 31 34] (oQ 35 .skip (.exit 0))) (oS (.block 1 (oS (oD [[oLt 38 6 6,oFa 39 2 3,oLf 40 39,oM 41 8,oIa 42 2 40 41,oFa 43 1 42,oLf 44 43],[oC 45 160 [.t 38,.t 44]],[oUn 46 45],[oM 47 46],[ofa 48 2 3 47,ofl 49 48 47,ofm 50 8 47],[ofi 51 2 49 50 47],[ofa 52 0 51 47],[ofl 53 52 47],[oF 54 (.bin .neq (.t 53) (kI 0)) 47],[oPo 55 47 54]]) (oQ 55 (oH [oMb 4 false] .ret) .skip))) (oG [oM 36 8,oBk 37 .add 36 1,oM 8 37])))))) (oS (oH [oMi 9 0] (.block 2 (.loop (oS (oH [oM 56 9,oFa 57 4 3,oLf 58 57,oLn 59 58,oBt 60 .lss 56 59] (oQ 60 .skip (.exit 2))) (oS (.block 3 (oS (oH [oFa 63 4 3,oLf 64 63,oM 65 9,oIa 66 2 64 65,oFa 67 0 66,oLf 68 67,oM 69 7,oBk 70 .sub 69 1,oC 71 72 [.t 68,(kI 0),.t 70],oUn 72 71,oM 73 72,ofa 74 4 3 73,ofl 75 74 73,ofm 76 9 73,ofi 77 2 75 76 73,ofa 78 1 77 73,ofl 79 78 73,ofm 80 7 73,ofc 81 145 [.t 79,.t 80] 73,oF 82 (.un .not (.t 81)) 73,oPo 83 73 82] (oQ 83 (oH [oMb 4 false] .ret) .skip)) (oH [oMi 10 0] (.block 4 (.loop (oS (oH [oM 84 10,oM 85 9,oBt 86 .lss 84 85] (oQ 86 .skip (.exit 4))) (oS (.block 5 (oS (oD [[oFa 89 4 3,oLf 90 89,oM 91 10,oIa 92 2 90 91,oFa 93 0 92,oLf 94 93,oFa 95 4 3,oLf 96 95,oM 97 9,oIa 98 2 96 97,oFa 99 0 98,oLf 100 99],[oBt 101 .eql 94 100]]) (oQ 101 (oH [oMb 4 false] .ret) .skip))) (oG [oM 87 10,oBk 88 .add 87 1,oM 10 88])))))))) (oG [oM 61 9,oBk 62 .add 61 1,oM 9 62])))))) (oH [oFa 102 3 3,oLf 103 102,oLn 104 103,oBk 105 .eql 104 0,oM 106 105,ofa 107 3 3 106,ofl 108 107 106,ofm 109 7 106,ofc 110 145 [.t 108,.t 109] 106,oPo 111 106 110,oM 11 111] (oS (oH [oFa 112 0 3,oLf 113 112] (.block 6 (oH [oBk 115 .eql 113 1,oM 114 115] (oQ 114 (oH [oFa 116 2 3,oLf 117 116,oLn 118 117,oBk 119 .leq 118 8,oM 120 119,ota 121 3 3 120,otl 122 121 120,oT 123 (.len false (.t 122)) 120,ota 124 4 3 120,otl 125 124 120,oT 126 (.len false (.t 125)) 120,oT 127 (.bin .add (.t 123) (.t 126)) 120,oT 128 (.bin .eql (.t 127) (kI 0)) 120,oPa 129 120 128,oM 4 129] .ret) (oH [oBk 131 .eql 113 2,oM 130 131] (oQ 130 (oH [oM 132 11,oM 133 132,ota 134 2 3 133,otl 135 134 133,oT 136 (.len false (.t 135)) 133,oT 137 (.bin .eql (.t 136) (kI 0)) 133,oPa 138 133 137,oM 4 138] .ret) (oH [oBk 140 .eql 113 3,oM 139 140] (oQ 139 (oH [oM 141 11,oM 142 141,ota 143 2 3 142,otl 144 143 142,oT 145 (.len false (.t 144)) 142,ota 146 4 3 142,otl 147 146 142,oT 148 (.len false (.t 147)) 142,oT 149 (.bin .add (.t 145) (.t 148)) 142,oT 150 (.bin .eql (.t 149) (kI 0)) 142,oPa 151 142 150,oM 4 151] .ret) .skip)))))))) (oH [oMb 4 false] .ret))))))))))⟩
def zhu:AFn:=⟨20,[.t 4],(oH [oMi 4 0] (oS (oH [oMi 5 0] (.block 0 (.loop (oS (oH [oM 6 5,oM 7 0,oLn 8 7,oBt 9 .lss 6 8] (oQ 9 .skip (.exit 0))) (oS (.block 1 (oH [oM 12 0,oM 13 5,oIa 14 6 12 13,oFa 15 0 14,oLf 16 15,oM 17 1,oBt 18 .eql 16 17] (oQ 18 (oH [oM 19 5,oM 4 19] .ret) .skip))) (oG [oM 10 5,oBk 11 .add 10 1,oM 5 11])))))) (oH [oMi 4 (-1)] .ret)))⟩
def jdx:AFn:=⟨42,[.t 4,.t 5],(oH [oBx 2 0,oP 4 (.mv (.k (.nils))),oMb 5 false] (oH [oP 9 (.mksl false 1 0 [.int .i64 0] []),oM 6 9] (oS (oH [oMi 7 0] (.block 0 (.loop (oS (oH [oM 10 7,oFa 11 0 2,oLf 12 11,oLn 13 12,oBt 14 .lss 10 13] (oQ 14 .skip (.exit 0))) (oS (.block 1 (oH [oMi 8 1] (oS (oH [oM 17 1,oLn 18 17,oBk 19 .gtr 18 0] (oQ 19 (oG [oM 20 1,oFa 21 0 2,oLf 22 21,oM 23 7,oIa 24 2 22 23,oFa 25 1 24,oLf 26 25,oC 27 161 [.t 20,.t 26],oM 8 27]) .skip)) (oS (oH [oM 28 8,oBk 29 .lss 28 0] (oQ 29 (oH [oP 4 (.mv (.k (.nils))),oMb 5 false] .ret) .skip)) (oH [oM 30 8,oBk 31 .eql 30 1] (oQ 31 (oG [oM 32 6,oFa 33 0 2,oLf 34 33,oM 35 7,oIa 36 2 34 35,oFa 37 0 36,oLf 38 37,oP 39 (.mksl true 1 1 [.int .i64 0] [(0,(.t 38))]),oP 40 (.app 1 8 (.t 32) (.t 39)),oM 6 40]) .skip)))))) (oG [oM 15 7,oBk 16 .add 15 1,oM 7 16])))))) (oH [oM 41 6,oM 4 41,oMb 5 true] .ret))))⟩
theorem zc3:ze Tryz.prog [2,39] 68=some jdx:=yak9
def zgf:AFn:=⟨56,[.t 2],(oH [oP 2 (.mv (.k (.nils)))] (oH [oM 7 0,oLn 8 7,oP 9 (.mkslice 1 24 [.nils] (.t 8) (.t 8)),oM 3 9] (oS (oH [oMi 4 0] (.block 0 (.loop (oS (oH [oM 10 4,oM 11 0,oLn 12 11,oBt 13 .lss 10 12] (oQ 13 .skip (.exit 0))) (oS (.block 1 (oH [oP 16 (.mksl false 2 0 [.int .i64 0,.nils] []),oM 5 16] (oS (oH [oMi 6 0] (.block 2 (.loop (oS (oH [oM 17 6,oM 18 0,oM 19 4,oIa 20 1 18 19,oFa 21 0 20,oLf 22 21,oLn 23 22,oBt 24 .lss 17 23] (oQ 24 .skip (.exit 2))) (oS (.block 3 (oD [[oM 27 5,oM 28 0,oM 29 4,oIa 30 1 28 29,oFa 31 0 30,oLf 32 31,oM 33 6,oIa 34 2 32 33,oFa 35 0 34,oLf 36 35,oM 37 0,oM 38 4,oIa 39 1 37 38,oFa 40 0 39,oLf 41 40,oM 42 6,oIa 43 2 41 42,oFa 44 1 43,oLf 45 44,oC 46 162 [.t 45],oP 47 (.build [.int .i64 0,.nils] [(0,1,(.t 36)),(1,1,(.t 46))]),oP 48 (.mksl true 2 1 [.int .i64 0,.nils] [(0,(.t 47))])],[oP 49 (.app 2 32 (.t 27) (.t 48))],[oM 5 49]])) (oG [oM 25 6,oBk 26 .add 25 1,oM 6 26])))))) (oG [oM 50 3,oM 51 4,oM 52 5,oP 53 (.build [.nils] [(0,1,(.t 52))]),oIa 54 1 50 51,oSt 1 54 53])))) (oG [oM 14 4,oBk 15 .add 14 1,oM 4 15])))))) (oH [oM 55 3,oM 2 55] .ret))))⟩
def jhu:AFn:=⟨22,[.t 4],(oH [oBx 2 0,oMi 4 0] (oS (oH [oMi 5 0] (.block 0 (.loop (oS (oH [oM 6 5,oFa 7 0 2,oLf 8 7,oLn 9 8,oBt 10 .lss 6 9] (oQ 10 .skip (.exit 0))) (oS (.block 1 (oH [oFa 13 0 2,oLf 14 13,oM 15 5,oIa 16 2 14 15,oFa 17 0 16,oLf 18 17,oM 19 1,oBt 20 .eql 18 19] (oQ 20 (oH [oM 21 5,oM 4 21] .ret) .skip))) (oG [oM 11 5,oBk 12 .add 11 1,oM 5 12])))))) (oH [oMi 4 (-1)] .ret)))⟩
def whu:AFn:=⟨15,[.t 6],(oH [oMb 6 false] (oH [oM 7 0,oM 8 1,oBt 9 .geq 7 8,oM 10 9,otm 11 0 10,otm 12 2 10,oT 13 (.bin .leq (.t 11) (.t 12)) 10,oPa 14 10 13,oM 6 14] .ret))⟩
def zhv:AFn:=⟨33,[.t 4],(oH [oMb 4 false] (oS (oH [oM 7 0,oC 8 175 [.t 7],oUn 9 8,oM 10 9,ofm 11 1 10,oF 12 (.len false (.t 11)) 10,ofm 13 0 10,oF 14 (.len false (.t 13)) 10,oF 15 (.bin .neq (.t 12) (.t 14)) 10,oPo 16 10 15] (oQ 16 (oH [oMb 4 false] .ret) .skip)) (oS (oH [oM 17 1,oLn 18 17,oMi 19 0] (.block 0 (.loop (oH [oBt 20 .lss 19 18] (oS (oQ 20 .skip (.exit 0)) (oS (.block 1 (oH [oM 21 19,oIa 22 1 17 19,oLt 23 1 22,oP 6 (.alloc [.nils]),oM 5 21,oSt 1 6 23] (oS (oD [[oM 24 0,oM 25 5,oIa 26 6 24 25,oLt 27 6 26,oFa 28 0 6,oLf 29 28],[oC 30 176 [.t 27,.t 29]],[oUn 31 30]]) (oQ 31 (oH [oMb 4 false] .ret) .skip)))) (oG [oBk 32 .add 19 1,oM 19 32]))))))) (oH [oMb 4 true] .ret))))⟩
def jgf:AFn:=⟨60,[.t 4],(oH [oBx 3 1,oMb 4 false] (oH [oM 7 0,oFa 8 1 3,oLf 9 8,oC 10 48 [.t 7,.t 9],oM 5 10] (oS (oH [oM 11 0,oC 12 175 [.t 11],oUn 13 12,oM 14 13,ofm 15 5 14,oF 16 (.bin .lss (.t 15) (kI 0)) 14,oPo 17 14 16,oM 18 17,ofa 19 5 3 18,ofl 20 19 18,ofc 21 177 [.t 20,(kI 0),(kI 4)] 18,oF 22 (.un .not (.t 21)) 18,oPo 23 18 22,oM 24 23,oF 25 (.load true 6 (.t 3)) 24,ofc 26 178 [.t 25] 24,oF 27 (.un .not (.t 26)) 24,oPo 28 24 27,oM 29 28,ofa 30 2 3 29,ofl 31 30 29,oF 32 (.len false (.t 31)) 29,oF 33 (.bin .gtr (.t 32) (kI 8)) 29,oPo 34 29 33] (oQ 34 (oH [oMb 4 false] .ret) .skip)) (oH [oM 35 0,oM 36 5,oIa 37 6 35 36,oLt 38 6 37,oP 6 (.alloc [.str [],.nils,.nils,.nils,.nils,.nils]),oSt 6 6 38] (oH [oFa 39 2 3,oLf 40 39,oP 41 (.mkfn 180 [] [.t 6]),oC 42 179 [.t 40,.t 41],oUn 43 42,oM 44 43,ota 45 3 3 44,otl 46 45 44,ota 47 1 6 44,otl 48 47 44,oT 49 (.len false (.t 48)) 44,otc 50 142 [.t 46,.t 49] 44,oPa 51 44 50,oM 52 51,ota 53 4 3 52,otl 54 53 52,ota 55 1 6 52,otl 56 55 52,oT 57 (.len false (.t 56)) 52,otc 58 181 [.t 54,.t 57] 52,oPa 59 52 58,oM 4 59] .ret)))))⟩
def wdx:AFn:=⟨18,[.t 4],(oH [oBx 2 0,oMb 4 false] (oH [oLf 5 2,oC 6 175 [.t 5],oM 7 6,otm 8 1 7,oT 9 (.len false (.t 8)) 7,oT 10 (.bin .leq (.t 9) (kI 6)) 7,oPa 11 7 10,oM 12 11,otm 13 1 12,oT 14 (.mkfn 183 [] [.t 2]) 12,otc 15 182 [.t 13,.t 14] 12,oT 16 (.un .not (.t 15)) 12,oPa 17 12 16,oM 4 17] .ret))⟩
def jhv:AFn:=⟨77,[.t 8,.t 9,.t 10],(oH [oBx 6 2,oP 8 (.mv (.k (.nils))),oMi 9 0,oMi 10 0] (oH [oLt 20 6 6,oM 21 0,oM 22 1,oM 23 3,oC 24 185 [.t 20,.t 21,.t 22,.t 23],oM 19 24,oEx 25 19 0,oEx 26 19 1,oM 11 25,oM 12 26] (oS (oH [oM 27 12,oUn 28 27] (oQ 28 (oH [oM 29 1,oC 30 186 [.t 29],oM 8 30,oMi 9 8,oMi 10 0] .ret) .skip)) (oH [oM 31 1,oC 32 186 [.t 31],oM 13 32,oMi 14 0] (oS (oH [oM 33 11,oLn 34 33,oMi 35 0] (.block 0 (.loop (oH [oBt 36 .lss 35 34] (oS (oQ 36 .skip (.exit 0)) (oS (.block 1 (oH [oIa 37 1 33 35,oLf 38 37,oM 16 38] (oH [oM 40 0,oM 41 13,oM 42 16,oC 43 136 [.t 40,.t 41,.t 42],oM 39 43,oEx 44 39 0,oEx 45 39 1,oM 17 44,oM 18 45] (.block 2 (oH [oM 50 18,oBk 51 .eql 50 0,oM 49 51] (oQ 49 (oH [oM 52 17,oM 13 52] (oG [oM 53 14,oBk 54 .add 53 1,oM 14 54])) (oH [oM 56 18,oBk 57 .eql 56 (-1),oM 58 57,oF 59 (.load true 6 (.t 6)) 58,ofm 60 18 58,ofc 61 187 [.t 59,.t 60] 58,oPo 62 58 61,oM 55 62] (oQ 55 .skip (oH [oFa 64 5 6,oLf 65 64,oBk 66 .eql 65 1,oM 67 66,otm 68 18 67,oT 69 (.bin .neq (.t 68) (kI 5)) 67,oPa 70 67 69,oM 63 70] (oQ 63 (oH [oM 71 13,oM 72 18,oM 73 14,oM 8 71,oM 9 72,oM 10 73] .ret) (oH [oM 46 1,oC 47 186 [.t 46],oM 48 18,oM 8 47,oM 9 48,oMi 10 0] .ret))))))))))) (oG [oBk 74 .add 35 1,oM 35 74]))))))) (oH [oM 75 13,oM 76 14,oM 8 75,oMi 9 0,oM 10 76] .ret))))))⟩
theorem wc7:ze Tryz.prog [6] 82=some jhv:=yak9
def jaj:AFn:=⟨33,[.t 10],(oH [oMi 10 0] (oH [oP 13 (.mksl false 3 0 [.int .i64 0,.int .i64 0,.str []] []),oM 11 13] (oS (oH [oM 14 0,oM 15 1,oM 16 3,oC 17 84 [.t 14,.t 15,.t 16],oM 12 17] (oH [oM 18 12,oP 19 (.eq true false [.pt] (.t 18) (.k (.nilp)))] (oQ 19 (oG [oM 20 12,oNc 21 20,oFa 22 1 21,oLf 23 22,oC 24 85 [.t 23],oM 11 24]) .skip))) (oH [oM 25 0,oLf 26 4,oM 27 1,oFa 28 0 5,oLf 29 28,oM 30 2,oM 31 11,oC 32 86 [.t 25,.t 26,.t 27,.t 29,.t 30,.t 31,(kI 0)],oM 10 32] .ret))))⟩
theorem zcl:ze Tryz.prog [] 83=some jaj:=yak9
def zdb:AFn:=⟨25,[.t 6],(oH [oBx 5 2,oP 6 (.mv (.k (.nilp)))] (oH [oM 9 0,oNc 10 9,oFa 11 1 10,oLf 12 11,oM 13 1,oIa 14 1 12 13,oFa 15 0 14,oLf 16 15,oM 7 16] (oH [oM 17 7,oP 18 (.mkfn 189 [] [.t 5]),oC 19 188 [.t 17,.t 18],oM 8 19] (oS (oH [oM 20 8,oBk 21 .lss 20 0] (oQ 21 (oH [oP 6 (.mv (.k (.nilp)))] .ret) .skip)) (oH [oM 22 7,oM 23 8,oIa 24 2 22 23,oM 6 24] .ret)))))⟩
theorem wa3:ze Tryz.prog [5] 84=some zdb:=yak9
def zdk:AFn:=⟨8,[.t 2],(oH [oP 2 (.mv (.k (.nils)))] (oS (oH [oM 3 0,oP 4 (.eq false false [.sl] (.t 3) (.k (.nils)))] (oQ 4 (oH [oP 2 (.mv (.k (.nils)))] .ret) .skip)) (oH [oP 5 (.mksl false 3 0 [.int .i64 0,.int .i64 0,.str []] []),oM 6 0,oP 7 (.app 3 32 (.t 5) (.t 6)),oM 2 7] .ret)))⟩
theorem jcl:ze Tryz.prog [] 85=some zdk:=yak9
def ji:AFn:=⟨128,[.t 14],(oH [oMi 14 0] (oH [oM 29 0,oNc 30 29,oFa 31 0 30,oLf 32 31,oM 33 1,oM 34 2,oM 35 3,oM 36 4,oM 37 5,oC 38 190 [.t 32,.t 33,.t 34,.t 35,.t 36,.t 37],oM 15 38] (oS (oH [oM 39 15,oLn 40 39,oBk 41 .gtr 40 0,oM 42 41,otm 43 6 42,oT 44 (.bin .geq (.t 43) (kI 6)) 42,oPa 45 42 44] (oQ 45 (oH [oMi 14 6] .ret) .skip)) (oH [oM 46 0,oNc 47 46,oFa 48 0 47,oLf 49 48,oM 50 2,oIa 51 6 49 50,oFa 52 1 51,oLf 53 52,oLn 54 53,oM 55 4,oM 56 5,oC 57 191 [.t 54,.t 55,.t 56],oM 16 57] (oS (oH [oM 58 15,oLn 59 58,oMi 60 0] (.block 0 (.loop (oH [oBt 61 .lss 60 59] (oS (oQ 61 .skip (.exit 0)) (oS (.block 1 (oH [oIa 62 1 58 60,oLf 63 62,oM 18 63] (oH [oM 64 1,oM 65 18,oIa 66 5 64 65,oLt 67 5 66,oP 19 (.alloc [.str [],.int .i64 0,.nils,.str [],.nils]),oSt 5 19 67] (oS (oD [[oM 68 0,oNc 69 68,oFa 70 0 69,oLf 71 70,oFa 72 3 19,oLf 73 72,oC 74 48 [.t 71,.t 73],oP 75 (.mksl false 3 0 [.int .i64 0,.int .i64 0,.str []] []),oM 20 74],[oM 21 75]]) (oS (oH [oFa 76 4 19,oLf 77 76,oLn 78 77,oMi 79 0] (.block 2 (.loop (oH [oBt 80 .lss 79 78] (oS (oQ 80 .skip (.exit 2)) (oS (.block 3 (oH [oIa 81 1 77 79,oLt 82 1 81,oP 23 (.alloc [.nils]),oSt 1 23 82] (oH [oFa 84 0 23,oLf 85 84,oM 86 16,oC 87 146 [.t 85,.t 86],oM 83 87,oEx 88 83 0,oEx 89 83 1,oP 24 (.alloc [.int .i64 0,.int .i64 0,.str []]),oSt 3 24 88,oM 25 89] (oS (oH [oM 90 25,oUn 91 90] (oQ 91 (oH [oMi 14 8] .ret) .skip)) (oG [oM 92 21,oLt 93 3 24,oP 94 (.mksl true 3 1 [.int .i64 0,.int .i64 0,.str []] [(0,(.t 93))]),oP 95 (.app 3 32 (.t 92) (.t 94)),oM 21 95]))))) (oG [oBk 96 .add 79 1,oM 79 96]))))))) (oS (oH [oM 97 0,oNc 98 97,oFa 99 0 98,oLf 100 99,oM 101 20,oIa 102 6 100 101,oLt 103 6 102,oM 104 21,oC 105 135 [.t 103,.t 104],oUn 106 105] (oQ 106 (oH [oMi 14 8] .ret) .skip)) (oS (oH [oM 108 0,oM 109 20,oM 110 21,oC 111 138 [.t 108,.t 109,.t 110,(.k (.bool false))],oM 107 111,oEx 112 107 0,oEx 113 107 1,oM 26 112,oM 27 113] (oH [oM 114 26,oBk 115 .neq 114 0] (oQ 115 (oH [oM 116 26,oM 14 116] .ret) .skip))) (oH [oM 117 0,oM 118 1,oM 119 20,oM 120 21,oM 121 6,oBk 122 .add 121 1,oC 123 86 [.t 117,.t 118,.t 119,(kI 1),(.k (.nils)),.t 120,.t 122],oM 28 123] (oH [oM 124 28,oBk 125 .neq 124 0] (oQ 125 (oH [oM 126 28,oM 14 126] .ret) .skip)))))))))) (oG [oBk 127 .add 60 1,oM 60 127]))))))) (oH [oMi 14 0] .ret))))))⟩
theorem za4:ze Tryz.prog [94] 86=some ji:=yak9
def jg4:AFn:=⟨10,[.t 2,.t 3],(oH [oP 2 (.mv (.k (.nils))),oMb 3 false] (oS (oH [oM 4 0,oC 5 157 [.t 4],oUn 6 5] (oQ 6 (oH [oP 2 (.mv (.k (.nils))),oMb 3 false] .ret) .skip)) (oH [oM 7 0,oLn 8 7,oP 9 (.mkslice 1 24 [.nils] (.t 8) (.t 8)),oM 2 9,oMb 3 true] .ret)))⟩
def wgf:AFn:=⟨23,[.t 2],(oH [oMb 2 false] (oS (oH [oM 4 0,oP 5 (.len true (.t 4)),oMi 6 0] (.block 0 (.loop (oH [oBt 7 .lss 6 5] (oS (oQ 7 .skip (.exit 0)) (oS (.block 1 (oH [oM 8 6,oM 3 8] (oH [oM 9 0,oM 10 3,oP 11 (.idx (.t 9) (.t 10)),oP 12 (.bin .lss (.t 11) (.k (.int .u8 97))),oM 13 12,ofm 14 0 13,ofm 15 3 13,oF 16 (.idx (.t 14) (.t 15)) 13,oF 17 (.bin .gtr (.t 16) (.k (.int .u8 122))) 13,oPo 18 13 17] (oQ 18 (oH [oMb 2 false] .ret) .skip)))) (oG [oBk 19 .add 6 1,oM 6 19]))))))) (oH [oM 20 0,oP 21 (.len true (.t 20)),oC 22 177 [.t 21,(kI 1),(kI 8)],oM 2 22] .ret)))⟩
def zgg:AFn:=⟨6,[.t 2],(oH [oP 2 (.mv (.k (.nilp)))] (oH [oM 3 0,oP 4 (.build [.nils,.int .i64 0] [(0,1,(.t 3))]),oP 5 (.box false (.t 4)),oM 2 5] .ret))⟩
theorem wed:ze Tryz.prog [] 125=some zgg:=yak9
def jdk:AFn:=⟨96,[.t 2],(oH [oP 2 (.mv (.k (.nils)))] (oH [oP 7 (.build [.str [],.int .i64 0,.bool false,.int .i64 0,.int .i64 0,.str []] [(0,1,(.k (.str [107]))),(1,1,(kI 1)),(2,1,(.k (.bool true)))]),oP 8 (.build [.str [],.int .i64 0,.bool false,.int .i64 0,.int .i64 0,.str []] [(0,1,(.k (.str [116]))),(1,1,(kI 2))]),oC 9 224 [(kI 1)],oP 10 (.build [.str [],.int .i64 0,.bool false,.int .i64 0,.int .i64 0,.str []] [(0,1,(.k (.str [110]))),(1,1,(kI 1)),(3,3,(.t 9))]),oP 11 (.mksl false 6 3 [.str [],.int .i64 0,.bool false,.int .i64 0,.int .i64 0,.str []] [(0,(.t 7)),(1,(.t 8)),(2,(.t 10))]),oP 12 (.mksl true 1 1 [.int .i64 0] [(0,(kI 0))]),oP 13 (.build [.str [],.nils,.nils,.nils,.nils,.nils] [(0,1,(.k (.str [112]))),(1,1,(.t 11)),(2,1,(.t 12))]),oP 3 (.alloc [.str [],.nils,.nils,.nils,.nils,.nils]),oSt 6 3 13] (oS (oH [oM 14 0,oC 15 225 [.t 14,(kI 2)]] (oQ 15 (oG [oP 16 (.mksl true 1 1 [.int .i64 0] [(0,(kI 2))]),oP 17 (.build [.nils] [(0,1,(.t 16))]),oP 18 (.mksl true 1 1 [.nils] [(0,(.t 17))]),oFa 19 3 3,oSt 1 19 18]) .skip)) (oS (oH [oM 20 0,oC 21 225 [.t 20,(kI 2)]] (oQ 21 (oG [oC 22 226 [(kI 0)],oC 23 224 [(kI 4)],oC 24 227 [.t 23],oP 25 (.build [.int .i64 0,.int .i64 0,.int .i64 0,.int .i64 0,.str []] [(0,1,(kI 4))]),oP 26 (.mksl true 5 3 [.int .i64 0,.int .i64 0,.int .i64 0,.int .i64 0,.str []] [(0,(.t 22)),(1,(.t 24)),(2,(.t 25))]),oP 27 (.build [.nils] [(0,1,(.t 26))]),oP 28 (.mksl true 1 1 [.nils] [(0,(.t 27))]),oFa 29 4 3,oSt 1 29 28]) .skip)) (oH [oLt 30 6 3,oP 31 (.mksl false 6 1 [.str [],.nils,.nils,.nils,.nils,.nils] [(0,(.t 30))]),oM 4 31] (oS (oH [oM 32 0,oC 33 225 [.t 32,(kI 4)],oUn 34 33] (oQ 34 (oH [oP 35 (.build [.str [],.int .i64 0,.bool false,.int .i64 0,.int .i64 0,.str []] [(0,1,(.k (.str [107]))),(1,1,(kI 1)),(2,1,(.k (.bool true)))]),oM 36 0,oC 37 225 [.t 36,(kI 4)],oP 38 (.build [.str [],.int .i64 0,.bool false,.int .i64 0,.int .i64 0,.str []] [(0,1,(.k (.str [112]))),(1,1,(kI 1)),(2,1,(.t 37))]),oP 39 (.mksl true 6 2 [.str [],.int .i64 0,.bool false,.int .i64 0,.int .i64 0,.str []] [(0,(.t 35)),(1,(.t 38))]),oP 40 (.mksl true 1 1 [.int .i64 0] [(0,(kI 0))]),oP 41 (.mksl true 1 1 [.int .i64 0] [(0,(kI 1))]),oM 42 0,oC 43 228 [.t 42],oM 44 0,oC 45 228 [.t 44],oM 46 0,oC 47 225 [.t 46,(kI 4)],oP 48 (.build [.nils,.str [],.int .i64 0,.int .i64 0,.bool false] [(0,1,(.t 41)),(1,1,(.k (.str [112]))),(2,1,(.t 43)),(3,1,(.t 45)),(4,1,(.t 47))]),oP 49 (.mksl true 5 1 [.nils,.str [],.int .i64 0,.int .i64 0,.bool false] [(0,(.t 48))]),oP 50 (.build [.str [],.nils,.nils,.nils,.nils,.nils] [(0,1,(.k (.str [99]))),(1,1,(.t 39)),(2,1,(.t 40)),(5,1,(.t 49))]),oP 5 (.alloc [.str [],.nils,.nils,.nils,.nils,.nils]),oSt 6 5 50] (oG [oM 51 4,oLt 52 6 5,oP 53 (.mksl true 6 1 [.str [],.nils,.nils,.nils,.nils,.nils] [(0,(.t 52))]),oP 54 (.app 6 136 (.t 51) (.t 53)),oM 4 54])) .skip)) (oS (oH [oM 55 0,oC 56 225 [.t 55,(kI 3)]] (oQ 56 (oH [oP 57 (.build [.str [],.int .i64 0,.bool false,.int .i64 0,.int .i64 0,.str []] [(0,1,(.k (.str [107]))),(1,1,(kI 1)),(2,1,(.k (.bool true)))]),oP 58 (.build [.str [],.int .i64 0,.bool false,.int .i64 0,.int .i64 0,.str []] [(0,1,(.k (.str [117,112]))),(1,1,(kI 1))]),oP 59 (.mksl true 6 2 [.str [],.int .i64 0,.bool false,.int .i64 0,.int .i64 0,.str []] [(0,(.t 57)),(1,(.t 58))]),oP 60 (.mksl true 1 1 [.int .i64 0] [(0,(kI 0))]),oP 61 (.mksl true 1 1 [.int .i64 0] [(0,(kI 1))]),oM 62 0,oC 63 228 [.t 62],oM 64 0,oC 65 228 [.t 64],oP 66 (.build [.nils,.str [],.int .i64 0,.int .i64 0,.bool false] [(0,1,(.t 61)),(1,1,(.k (.str [116,114,101,101]))),(2,1,(.t 63)),(3,1,(.t 65))]),oP 67 (.mksl true 5 1 [.nils,.str [],.int .i64 0,.int .i64 0,.bool false] [(0,(.t 66))]),oP 68 (.build [.str [],.nils,.nils,.nils,.nils,.nils] [(0,1,(.k (.str [116,114,101,101]))),(1,1,(.t 59)),(2,1,(.t 60)),(5,1,(.t 67))]),oP 6 (.alloc [.str [],.nils,.nils,.nils,.nils,.nils]),oSt 6 6 68] (oG [oM 69 4,oLt 70 6 6,oP 71 (.mksl true 6 1 [.str [],.nils,.nils,.nils,.nils,.nils] [(0,(.t 70))]),oP 72 (.app 6 136 (.t 69) (.t 71)),oM 4 72])) .skip)) (oS (oH [oM 73 0,oC 74 229 [.t 73,(kI 40)]] (.block 0 (oH [oBk 76 .eql 74 37,oM 75 76] (oQ 75 (oG [oM 77 4,oP 78 (.iaddr 6 (.t 77) (kI 0)),oFa 79 2 78,⟨none,.op (.store 1 (.t 79) (.k (.nils))),none⟩]) (oH [oBk 81 .eql 74 38,oM 80 81] (oQ 80 (oG [oM 82 4,oP 83 (.iaddr 6 (.t 82) (kI 0)),oFa 84 0 83,⟨none,.op (.store 1 (.t 84) (.k (.str [99]))),none⟩]) (oH [oBk 86 .eql 74 39,oM 85 86] (oQ 85 (oD [[oM 87 4,oP 88 (.iaddr 6 (.t 87) (kI 0)),oFa 89 1 88,oLf 90 89,oM 91 0,oC 92 230 [.t 91,(kI 1),(kI 2)]],[oP 93 (.iaddr 6 (.t 90) (kI 0))],[oFa 94 1 93],[oSt 1 94 92]]) .skip)))))))) (oH [oM 95 4,oM 2 95] .ret)))))))))⟩
theorem wcl:ze Tryz.prog [12,16,18,26,28,39,40,41,49,53,59,60,61,67,71] 126=some jdk:=yak9
def zee:AFn:=⟨124,[.t 6],(oH [oP 6 (.mv (.k (.nils)))] (oH [oM 17 1,oC 18 114 [.t 17],oM 16 18,oEx 19 16 0,oEx 20 16 1,oM 7 19,oM 8 20] (oS (oH [oMi 9 0] (.block 0 (.loop (oS (oH [oM 21 9,oM 22 1,oLn 23 22,oBt 24 .lss 21 23,oM 25 24,otm 26 8 25,oPa 27 25 26] (oQ 27 .skip (.exit 0))) (oS (.block 1 (oH [oM 30 0,oM 31 2,oC 32 229 [.t 30,.t 31],oP 33 (.bin .add (kI 1) (.t 32)),oM 10 33] (.block 2 (.loop (oS (oH [oM 34 10,oBk 35 .gtr 34 0] (oQ 35 .skip (.exit 2))) (oS (.block 3 (oH [oM 38 0,oM 39 1,oM 40 9,oIa 41 6 39 40,oLt 42 6 41,oC 43 231 [.t 38,.t 42],oM 11 43] (oS (oH [oM 44 1,oM 45 9,oIa 46 6 44 45,oFa 47 0 46,oLf 48 47,oP 49 (.bin .neq (.t 48) (.k (.str [112]))),oM 50 49,otm 51 7 50,oT 52 (.iaddr 1 (.t 51) (kI 0)) 50,ota 53 0 52 50,otl 54 53 50,oT 55 (.len false (.t 54)) 50,oT 56 (.bin .gtr (.t 55) (kI 0)) 50,oPa 57 50 56,oM 58 57,otm 59 0 58,otc 60 225 [.t 59,(kI 4)] 58,oT 61 (.un .not (.t 60)) 58,oPa 62 58 61] (oQ 62 (oH [oM 63 7,oP 64 (.iaddr 1 (.t 63) (kI 0)),oFa 65 0 64,oLf 66 65,oM 12 66] (oS (oH [oM 67 1,oM 68 9,oIa 69 6 67 68,oFa 70 0 69,oLf 71 70,oP 72 (.bin .eql (.t 71) (.k (.str [116,114,101,101])))] (oQ 72 (oG [oM 73 7,oM 74 9,oIa 75 1 73 74,oFa 76 0 75,oLf 77 76,oM 12 77]) .skip)) (oH [oM 78 12,oLn 79 78,oBk 80 .gtr 79 0] (oQ 80 (oG [oM 81 11,oM 82 12,oM 83 0,oM 84 12,oLn 85 84,oC 86 229 [.t 83,.t 85],oIa 87 2 82 86,oFa 88 1 87,oLf 89 88,oP 90 (.iaddr 3 (.t 89) (kI 0)),oLt 91 3 90,oP 92 (.iaddr 3 (.t 81) (kI 1)),oSt 3 92 91]) .skip)))) .skip)) (oS (oH [oM 93 1,oM 94 9,oIa 95 6 93 94,oFa 96 0 95,oLf 97 96,oP 98 (.bin .eql (.t 97) (.k (.str [116,114,101,101]))),oM 99 98,otm 100 7 99,otm 101 9 99,oti 102 1 100 101 99,ota 103 0 102 99,otl 104 103 99,oT 105 (.len false (.t 104)) 99,oT 106 (.bin .eql (.t 105) (kI 0)) 99,oPa 107 99 106] (oQ 107 (oG [oM 108 11,oP 109 (.build [.int .i64 0,.int .i64 0,.str []] []),oP 110 (.iaddr 3 (.t 108) (kI 1)),oSt 3 110 109]) .skip)) (oH [oM 112 1,oM 113 7,oM 114 9,oM 115 11,oC 116 232 [.t 112,.t 113,.t 114,.t 115,(.k (.bool false))],oM 111 116,oEx 117 111 0,oEx 118 111 1,oEx 119 111 2,oM 13 117,oM 14 118,oM 15 119] (oH [oM 120 15,oBk 121 .neq 120 1] (oQ 121 (oG [oM 122 13,oM 7 122]) .skip))))))) (oG [oM 36 10,oBk 37 .sub 36 1,oM 10 37]))))))) (oG [oM 28 9,oBk 29 .add 28 1,oM 9 29])))))) (oH [oM 123 7,oM 6 123] .ret))))⟩
theorem jdb:ze Tryz.prog [] 127=some zee:=yak9
def jfo:AFn:=⟨9,[.t 8],(oH [oMi 8 0] (oH [oMi 8 0] .ret))⟩
def wex:AFn:=⟨26,[.t 4],(oH [oMb 4 false] (oS (oH [oM 6 0,oLn 7 6,oM 8 1,oLn 9 8,oBt 10 .neq 7 9] (oQ 10 (oH [oMb 4 false] .ret) .skip)) (oS (oH [oMi 5 0] (.block 0 (.loop (oS (oH [oM 11 5,oM 12 0,oLn 13 12,oBt 14 .lss 11 13] (oQ 14 .skip (.exit 0))) (oS (.block 1 (oS (oD [[oM 17 0,oM 18 5,oIa 19 3 17 18,oLt 20 3 19,oM 21 1,oM 22 5,oIa 23 3 21 22,oLt 24 3 23],[oP 25 (.eq true true [.i,.i,.s] (.t 20) (.t 24))]]) (oQ 25 (oH [oMb 4 false] .ret) .skip))) (oG [oM 15 5,oBk 16 .add 15 1,oM 5 16])))))) (oH [oMb 4 true] .ret))))⟩
def jb0:AFn:=⟨19,[.t 4],(oH [oMi 4 0] (oS (oH [oM 6 0,oLn 7 6,oMi 8 0] (.block 0 (.loop (oH [oBt 9 .lss 8 7] (oS (oQ 9 .skip (.exit 0)) (oS (.block 1 (oH [oM 10 8,oM 5 10] (oH [oM 11 1,oM 12 0,oM 13 5,oIa 14 6 12 13,oLt 15 6 14,⟨some 16,.call (.t 11) [.t 15],none⟩] (oQ 16 (oH [oM 17 5,oM 4 17] .ret) .skip)))) (oG [oBk 18 .add 8 1,oM 8 18]))))))) (oH [oMi 4 (-1)] .ret)))⟩
theorem jan:ze Tryz.prog [] 132=some jb0:=yak9
def jee:AFn:=⟨8,[.t 3],(oH [oBx 2 0,oMb 3 false] (oH [oFa 4 0 2,oLf 5 4,oLf 6 1,oBt 7 .eql 5 6,oM 3 7] .ret))⟩
def wit:AFn:=⟨30,[.t 4],(oH [oBx 2 0,oMb 4 false] (oS (oH [oM 7 1,oLn 8 7,oFa 9 1 2,oLf 10 9,oLn 11 10,oBt 12 .neq 8 11] (oQ 12 (oH [oMb 4 false] .ret) .skip)) (oS (oH [oM 13 1,oLn 14 13,oMi 15 0] (.block 0 (.loop (oH [oBt 16 .lss 15 14] (oS (oQ 16 .skip (.exit 0)) (oS (.block 1 (oH [oM 17 15,oIa 18 3 13 15,oLt 19 3 18,oP 6 (.alloc [.int .i64 0,.int .i64 0,.str []]),oM 5 17,oSt 3 6 19] (oS (oD [[oLt 20 3 6,oFa 21 1 2,oLf 22 21,oM 23 5,oIa 24 6 22 23,oFa 25 1 24,oLf 26 25],[oC 27 233 [.t 20,.t 26]],[oUn 28 27]]) (oQ 28 (oH [oMb 4 false] .ret) .skip)))) (oG [oBk 29 .add 15 1,oM 15 29]))))))) (oH [oMb 4 true] .ret))))⟩
def wfo:AFn:=⟨27,[.t 6,.t 7],(oH [oP 6 (.mv (.k (.nils))),oMi 7 0] (oH [oM 10 0,oM 11 1,oC 12 186 [.t 11],oP 13 (.build [.nils,.nils] [(0,1,(.t 10)),(1,1,(.t 12))]),oP 14 (.box false (.t 13)),oM 8 14] (oS (oH [oM 15 2,oM 16 8,⟨some 17,.call (.t 15) [.t 16],none⟩,oM 9 17] (oH [oM 18 9,oBk 19 .neq 18 0] (oQ 19 (oH [oM 20 1,oC 21 186 [.t 20],oM 22 9,oM 6 21,oM 7 22] .ret) .skip))) (oH [oM 23 8,oNc 24 23,oFa 25 1 24,oLf 26 25,oM 6 26,oMi 7 0] .ret))))⟩
theorem zdy:ze Tryz.prog [] 136=some wfo:=yak9
def zcm:AFn:=⟨89,[.t 8,.t 9],(oH [oMi 8 0,oMi 9 0] (oH [oM 14 0,oNc 15 14,oFa 16 0 15,oLf 17 16,oM 18 1,oIa 19 6 17 18,oLt 20 6 19,oP 10 (.alloc [.str [],.nils,.nils,.nils,.nils,.nils]),oSt 6 10 20] (oS (oH [oM 21 3] (oQ 21 (oG [oLt 22 6 10,oM 23 2,oC 24 234 [.t 22,.t 23],oM 2 24]) .skip)) (oS (oH [oLt 25 6 10,oM 26 2,oC 27 235 [.t 25,.t 26],oM 11 27] (oH [oM 28 11,oBk 29 .neq 28 0] (oQ 29 (oH [oM 30 11,oM 8 30,oMi 9 0] .ret) .skip))) (oH [oM 31 0,oM 32 1,oC 33 236 [.t 31,.t 32],oM 12 33] (oS (oH [oM 34 0,oM 35 1,oM 36 2,oM 37 3,oC 38 237 [.t 34,.t 35,(kI 0),.t 36,.t 37,(kI 0)],oM 13 38] (oH [oM 39 13,oBk 40 .neq 39 0] (oQ 40 (oH [oM 41 13,oM 8 41,oMi 9 0] .ret) .skip))) (oS (oH [oM 42 0,oNc 43 42,oFa 44 1 43,oLf 45 44,oM 46 1,oIa 47 1 45 46,oFa 48 0 47,oLf 49 48,oLn 50 49,oBk 51 .geq 50 60,oM 52 51,ofm 53 12 52,oF 54 (.bin .gtr (.t 53) (kI 1000000000)) 52,oPo 55 52 54] (oQ 55 (oH [oMi 8 7,oMi 9 0] .ret) .skip)) (oS (oD [[oM 56 0,oNc 57 56,oFa 58 1 57,oLf 59 58,oM 60 1,oM 61 0,oNc 62 61,oFa 63 1 62,oLf 64 63,oM 65 1,oIa 66 1 64 65,oFa 67 0 66,oLf 68 67,oM 69 12,oM 70 2,oC 71 85 [.t 70],oP 72 (.build [.int .i64 0,.nils] [(0,1,(.t 69)),(1,1,(.t 71))]),oP 73 (.mksl true 2 1 [.int .i64 0,.nils] [(0,(.t 72))]),oP 74 (.app 2 32 (.t 68) (.t 73))],[oIa 75 1 59 60],[oFa 76 0 75],[oSt 1 76 74]]) (oS (oS (oD [[oM 77 0,oNc 78 77,oFa 79 0 78,oLf 80 79,oM 81 0,oNc 82 81,oFa 83 1 82,oLf 84 83,oLt 85 6 10,oM 86 2],[oC 87 223 [.t 80,.t 84,.t 85,.t 86,(.k (.bool false))]]]) (oQ 87 (oH [oMi 8 5,oMi 9 0] .ret) .skip)) (oH [oM 88 12,oMi 8 0,oM 9 88] .ret))))))))))⟩
theorem wb0:ze Tryz.prog [73] 138=some zcm:=yak9
def jc3:AFn:=⟨101,[.t 4],(oH [oP 4 (.mv (.k (.nils)))] (oH [oP 13 (.mksl false 5 0 [.str [],.int .i64 0,.nils,.str [],.nils] []),oM 5 13] (oS (oH [oM 14 0,oC 15 229 [.t 14,(kI 4)],oM 6 15] (.block 0 (.loop (oS (oH [oM 16 6,oBk 17 .gtr 16 0] (oQ 17 .skip (.exit 0))) (oS (.block 1 (oH [oM 20 1,oM 21 0,oM 22 1,oLn 23 22,oC 24 229 [.t 21,.t 23],oIa 25 6 20 24,oLt 26 6 25,oP 7 (.alloc [.str [],.nils,.nils,.nils,.nils,.nils]),oSt 6 7 26] (oH [oM 27 1,oM 28 0,oM 29 1,oLn 30 29,oC 31 229 [.t 28,.t 30],oIa 32 6 27 31,oLt 33 6 32,oP 8 (.alloc [.str [],.nils,.nils,.nils,.nils,.nils]),oSt 6 8 33] (oS (oD [[oFa 34 0 7,oLf 35 34,oM 36 0,oC 37 229 [.t 36,(kI 3)],oP 38 (.bin .add (kI 1) (.t 37)),oFa 39 0 8,oLf 40 39,oP 41 (.build [.str [],.int .i64 0,.nils,.str [],.nils] [(0,1,(.t 35)),(1,1,(.t 38)),(3,1,(.t 40))]),oP 9 (.alloc [.str [],.int .i64 0,.nils,.str [],.nils])],[oSt 5 9 41]]) (oH [oFa 42 1 7,oLf 43 42,oLn 44 43,oM 10 44] (oS (oH [oMi 11 0] (.block 2 (.loop (oS (oH [oM 45 11,oFa 46 1 8,oLf 47 46,oLn 48 47,oBt 49 .lss 45 48] (oQ 49 .skip (.exit 2))) (oS (.block 3 (oH [oP 52 (.build [.int .i64 0,.int .i64 0,.str []] []),oC 53 227 [.t 52],oP 54 (.mksl true 5 1 [.int .i64 0,.int .i64 0,.int .i64 0,.int .i64 0,.str []] [(0,(.t 53))]),oM 12 54] (oS (oH [oFa 55 1 8,oLf 56 55,oM 57 11,oIa 58 6 56 57,oFa 59 1 58,oLf 60 59,oBk 61 .eql 60 1] (oQ 61 (oG [oM 62 0,oC 63 229 [.t 62,(kI 2)],oM 64 10,oBt 65 .mul 63 64,oC 66 226 [.t 65],oM 67 0,oC 68 229 [.t 67,(kI 3)],oC 69 224 [.t 68],oC 70 227 [.t 69],oP 71 (.build [.int .i64 0,.int .i64 0,.int .i64 0,.int .i64 0,.str []] [(0,1,(kI 9))]),oP 72 (.mksl true 5 3 [.int .i64 0,.int .i64 0,.int .i64 0,.int .i64 0,.str []] [(0,(.t 66)),(1,(.t 70)),(2,(.t 71))]),oM 12 72]) .skip)) (oG [oFa 73 4 9,oLf 74 73,oM 75 12,oP 76 (.build [.nils] [(0,1,(.t 75))]),oP 77 (.mksl true 1 1 [.nils] [(0,(.t 76))]),oP 78 (.app 1 24 (.t 74) (.t 77)),oFa 79 4 9,oSt 1 79 78])))) (oG [oM 50 11,oBk 51 .add 50 1,oM 11 51])))))) (oS (oH [oM 80 0,oC 81 225 [.t 80,(kI 2)]] (oQ 81 (oG [oM 82 0,oM 83 10,oC 84 141 [.t 82,.t 83],oFa 85 2 9,oSt 1 85 84]) .skip)) (oG [oM 86 5,oLt 87 5 9,oP 88 (.mksl true 5 1 [.str [],.int .i64 0,.nils,.str [],.nils] [(0,(.t 87))]),oP 89 (.app 5 88 (.t 86) (.t 88)),oM 5 89])))))))) (oG [oM 18 6,oBk 19 .sub 18 1,oM 6 19])))))) (oS (oH [oM 90 0,oC 91 225 [.t 90,(kI 30)],oM 92 91,otm 93 5 92,oT 94 (.len false (.t 93)) 92,oT 95 (.bin .gtr (.t 94) (kI 0)) 92,oPa 96 92 95] (oQ 96 (oG [oM 97 5,oP 98 (.iaddr 5 (.t 97) (kI 0)),oFa 99 3 98,⟨none,.op (.store 1 (.t 99) (.k (.str [120]))),none⟩]) .skip)) (oH [oM 100 5,oM 4 100] .ret)))))⟩
theorem jb8:ze Tryz.prog [54,72,77,88] 139=some jc3:=yak9
def wee:AFn:=⟨45,[.t 4],(oH [oP 4 (.mv (.k (.nils)))] (oH [oM 7 0,oM 8 1,oC 9 229 [.t 7,.t 8],oM 5 9] (oH [oM 10 0,oC 11 229 [.t 10,(kI 4)],oC 12 224 [.t 11],oC 13 227 [.t 12],oP 6 (.alloc [.int .i64 0,.int .i64 0,.int .i64 0,.int .i64 0,.str []]),oSt 5 6 13] (oS (oH [oM 14 0,oC 15 229 [.t 14,(kI 5)]] (.block 0 (oH [oBk 17 .eql 15 0,oM 16 17] (oQ 16 (oH [oC 18 224 [(kI 1)],oC 19 227 [.t 18],oP 20 (.mksl true 5 1 [.int .i64 0,.int .i64 0,.int .i64 0,.int .i64 0,.str []] [(0,(.t 19))]),oM 4 20] .ret) (oH [oBk 22 .eql 15 1,oM 21 22] (oQ 21 (oS (oD [[oM 23 5,oC 24 226 [.t 23],oLt 25 5 6,oP 26 (.build [.int .i64 0,.int .i64 0,.int .i64 0,.int .i64 0,.str []] [(0,1,(kI 3))])],[oP 27 (.mksl true 5 3 [.int .i64 0,.int .i64 0,.int .i64 0,.int .i64 0,.str []] [(0,(.t 24)),(1,(.t 25)),(2,(.t 26))])],[oM 4 27]]) .ret) (oH [oBk 29 .eql 15 2,oM 28 29] (oQ 28 (oH [oM 30 5,oC 31 226 [.t 30],oP 32 (.build [.int .i64 0,.int .i64 0,.int .i64 0,.int .i64 0,.str []] [(0,1,(kI 8))]),oP 33 (.build [.int .i64 0,.int .i64 0,.int .i64 0,.int .i64 0,.str []] [(0,1,(kI 7))]),oP 34 (.mksl true 5 3 [.int .i64 0,.int .i64 0,.int .i64 0,.int .i64 0,.str []] [(0,(.t 31)),(1,(.t 32)),(2,(.t 33))]),oM 4 34] .ret) (oH [oBk 36 .eql 15 3,oM 35 36] (oQ 35 (oH [oM 37 0,oM 38 1,oC 39 238 [.t 37,.t 38,(kI 2)],oM 4 39] .ret) .skip)))))))))) (oS (oD [[oLt 40 5 6,oM 41 5,oC 42 226 [.t 41],oP 43 (.build [.int .i64 0,.int .i64 0,.int .i64 0,.int .i64 0,.str []] [(0,1,(kI 4))])],[oP 44 (.mksl true 5 3 [.int .i64 0,.int .i64 0,.int .i64 0,.int .i64 0,.str []] [(0,(.t 40)),(1,(.t 42)),(2,(.t 43))])],[oM 4 44]]) .ret)))))⟩
theorem wdb:ze Tryz.prog [20,27,34,44] 141=some wee:=yak9
def zfp:AFn:=⟨13,[.t 4],(oH [oMb 4 false] (oH [oM 5 0,oLn 6 5,oBk 7 .eql 6 0,oM 8 7,ofm 9 0 8,ofm 10 1 8,ofc 11 239 [.t 9,.t 10] 8,oPo 12 8 11,oM 4 12] .ret))⟩
def zey:AFn:=⟨36,[.t 4,.t 5],(oH [oP 4 (.mv (.k (.nils))),oMb 5 false] (oH [oP 10 (.mksl false 1 0 [.int .i64 0] []),oM 6 10] (oS (oH [oM 11 0,oLn 12 11,oMi 13 0] (.block 0 (.loop (oH [oBt 14 .lss 13 12] (oS (oQ 14 .skip (.exit 0)) (oS (.block 1 (oH [oIa 15 2 11 13,oLt 16 2 15,oP 8 (.alloc [.int .i64 0,.nils]),oSt 2 8 16] (oH [oMi 9 1] (oS (oH [oM 17 1,oLn 18 17,oBk 19 .gtr 18 0] (oQ 19 (oG [oM 20 1,oFa 21 1 8,oLf 22 21,oC 23 56 [.t 20,.t 22],oM 9 23]) .skip)) (oH [oM 24 9] (.block 2 (oH [oBk 26 .eql 24 (-1),oM 25 26] (oQ 25 (oH [oP 4 (.mv (.k (.nils))),oMb 5 false] .ret) (oH [oBk 28 .eql 24 1,oM 27 28] (oQ 27 (oG [oM 29 6,oFa 30 0 8,oLf 31 30,oP 32 (.mksl true 1 1 [.int .i64 0] [(0,(.t 31))]),oP 33 (.app 1 8 (.t 29) (.t 32)),oM 6 33]) .skip)))))))))) (oG [oBk 34 .add 13 1,oM 13 34]))))))) (oH [oM 35 6,oM 4 35,oMb 5 true] .ret))))⟩
theorem wdk:ze Tryz.prog [32] 143=some zey:=yak9
def whv:AFn:=⟨17,[.t 6],(oH [oMb 6 false] (oH [oM 7 0,oM 8 1,oC 9 65 [.t 7,.t 8],oM 10 9,otm 11 2 10,otm 12 0 10,oT 13 (.len false (.t 12)) 10,oT 14 (.bin .sub (.t 13) (kI 1)) 10,otc 15 72 [.t 11,(kI 0),.t 14] 10,oPa 16 10 15,oM 6 16] .ret))⟩
def jgg:AFn:=⟨38,[.t 4],(oH [oMb 4 false] (oH [oMi 5 0] (oS (oH [oMi 6 0] (.block 0 (.loop (oS (oH [oM 8 6,oM 9 0,oLn 10 9,oBt 11 .lss 8 10] (oQ 11 .skip (.exit 0))) (oS (.block 1 (oH [oM 14 0,oM 15 6,oIa 16 5 14 15,oLt 17 5 16,oM 18 1,oC 19 240 [.t 17,.t 18],oM 7 19] (oS (oH [oM 20 7,oBk 21 .lss 20 0,oM 22 21,ofm 23 7 22,ofm 24 5 22,oF 25 (.bin .gtr (.t 23) (.t 24)) 22,oPo 26 22 25] (oQ 26 (oH [oMb 4 false] .ret) .skip)) (oG [oM 27 5,oM 28 7,oBt 29 .sub 27 28,oBk 30 .add 29 1,oM 5 30])))) (oG [oM 12 6,oBk 13 .add 12 1,oM 6 13])))))) (oH [oM 31 5,oBk 32 .eql 31 1,oM 33 32,otm 34 0 33,oT 35 (.len false (.t 34)) 33,oT 36 (.bin .leq (.t 35) (kI 24)) 33,oPa 37 33 36,oM 4 37] .ret))))⟩
def zhw:AFn:=⟨57,[.m 4 true 3,.t 5],(oH [oP 4 (.alloc [.int .i64 0,.int .i64 0,.str []]),oMb 5 false] (oS (oH [oM 12 1,oC 13 241 [.t 12,(kI 16)],oUn 14 13,oM 15 14,ofm 16 0 15,ofm 17 1 15,oF 18 (.len false (.t 17)) 15,ofc 19 239 [.t 16,.t 18] 15,oF 20 (.un .not (.t 19)) 15,oPo 21 15 20] (oQ 21 (oH [oP 22 (.build [.int .i64 0,.int .i64 0,.str []] []),oSt 3 4 22,oMb 5 false] .ret) .skip)) (oH [oP 23 (.mksl false 3 0 [.int .i64 0,.int .i64 0,.str []] []),oM 6 23] (oS (oH [oM 24 0,oLn 25 24,oMi 26 0] (.block 0 (.loop (oH [oBt 27 .lss 26 25] (oS (oQ 27 .skip (.exit 0)) (oS (.block 1 (oH [oIa 28 5 24 26,oLt 29 5 28,oP 8 (.alloc [.int .i64 0,.int .i64 0,.int .i64 0,.int .i64 0,.str []]),oSt 5 8 29] (oH [oM 30 6,oLn 31 30,oLt 32 5 8,oC 33 242 [.t 32],oBt 34 .sub 31 33,oM 9 34] (oS (oD [[oLt 36 5 8,oM 37 6,oM 38 9,oP 39 (.slice 3 (.t 37) (some (.t 38)) none none),oM 40 1,oC 41 243 [.t 36,.t 39,.t 40],oM 35 41,oEx 42 35 0,oEx 43 35 1,oP 10 (.alloc [.int .i64 0,.int .i64 0,.str []]),oSt 3 10 42],[oM 11 43]]) (oS (oH [oM 44 11,oUn 45 44] (oQ 45 (oH [oP 46 (.build [.int .i64 0,.int .i64 0,.str []] []),oSt 3 4 46,oMb 5 false] .ret) .skip)) (oD [[oM 47 6,oM 48 9,oP 49 (.slice 3 (.t 47) none (some (.t 48)) none),oLt 50 3 10,oP 51 (.mksl true 3 1 [.int .i64 0,.int .i64 0,.str []] [(0,(.t 50))])],[oP 52 (.app 3 32 (.t 49) (.t 51))],[oM 6 52]])))))) (oG [oBk 53 .add 26 1,oM 26 53]))))))) (oH [oM 54 6,oP 55 (.iaddr 3 (.t 54) (kI 0)),oLt 56 3 55,oSt 3 4 56,oMb 5 true] .ret)))))⟩
def wg4:AFn:=⟨13,[.t 2],(oH [oBx 1 0,oMi 2 0] (oS (oH [oFa 3 0 1,oLf 4 3] (.block 0 (oH [oBk 6 .eql 4 0,oM 5 6] (oQ 5 (oH [oMi 2 2] .ret) (oH [oBk 8 .eql 4 1,oM 7 8] (oQ 7 (oH [oFa 9 1 1,oLf 10 9,oBk 11 .neq 10 0,oC 12 244 [.t 11],oM 2 12] .ret) .skip)))))) (oH [oMi 2 (-1)] .ret)))⟩
def jey:AFn:=⟨115,[.t 2],(oH [oMb 2 false] (oS (oH [oMi 3 0] (.block 0 (.loop (oS (oH [oM 9 3,oM 10 0,oLn 11 10,oBt 12 .lss 9 11] (oQ 12 .skip (.exit 0))) (oS (.block 1 (oS (oD [[oM 15 0,oM 16 3],[oIa 17 6 15 16],[oLt 18 6 17],[oC 19 252 [.t 18]],[oUn 20 19],[oM 21 20],[ofm 22 0 21,ofm 23 3 21,oF 24 (.slice 6 (.t 22) none (some (.t 23)) none) 21,ofm 25 0 21,ofm 26 3 21,ofi 27 6 25 26 21,ofa 28 0 27 21,ofl 29 28 21],[ofc 30 67 [.t 24,.t 29] 21],[oF 31 (.bin .geq (.t 30) (kI 0)) 21],[oPo 32 21 31]]) (oQ 32 (oH [oMb 2 false] .ret) .skip))) (oG [oM 13 3,oBk 14 .add 13 1,oM 3 14])))))) (oS (oH [oMi 4 0] (.block 2 (.loop (oS (oH [oM 33 4,oM 34 0,oLn 35 34,oBt 36 .lss 33 35] (oQ 36 .skip (.exit 2))) (oS (.block 3 (oH [oMi 5 0] (.block 4 (.loop (oS (oH [oM 39 5,oM 40 0,oM 41 4,oIa 42 6 40 41,oFa 43 5 42,oLf 44 43,oLn 45 44,oBt 46 .lss 39 45] (oQ 46 .skip (.exit 4))) (oS (.block 5 (oH [oM 49 0,oM 50 4,oIa 51 6 49 50,oFa 52 5 51,oLf 53 52,oM 54 5,oIa 55 5 53 54,oLt 56 5 55,oP 6 (.alloc [.nils,.str [],.int .i64 0,.int .i64 0,.bool false]),oSt 5 6 56] (oH [oM 57 0,oFa 58 1 6,oLf 59 58,oC 60 67 [.t 57,.t 59],oM 7 60] (oS (oS (oD [[oM 61 7],[oBk 62 .lss 61 0],[oM 63 62],[ofm 64 0 63,ofm 65 7 63,ofi 66 6 64 65 63,ofa 67 2 66 63,ofl 68 67 63,oF 69 (.len false (.t 68)) 63,ofa 70 0 6 63,ofl 71 70 63,oF 72 (.len false (.t 71)) 63],[oF 73 (.bin .neq (.t 69) (.t 72)) 63],[oPo 74 63 73]]) (oQ 74 (oH [oMb 2 false] .ret) .skip)) (oH [oMi 8 0] (.block 6 (.loop (oS (oH [oM 75 8,oFa 76 0 6,oLf 77 76,oLn 78 77,oBt 79 .lss 75 78] (oQ 79 .skip (.exit 6))) (oS (.block 7 (oS (oD [[oM 82 0,oM 83 4,oIa 84 6 82 83,oFa 85 1 84,oLf 86 85,oFa 87 0 6,oLf 88 87,oM 89 8,oIa 90 1 88 89,oLf 91 90,oIa 92 6 86 91,oFa 93 1 92,oLf 94 93,oM 95 0,oM 96 7,oIa 97 6 95 96,oFa 98 1 97,oLf 99 98,oM 100 0,oM 101 7,oIa 102 6 100 101,oFa 103 2 102,oLf 104 103,oM 105 8,oIa 106 1 104 105,oLf 107 106,oIa 108 6 99 107,oFa 109 1 108,oLf 110 109],[oBt 111 .neq 94 110]]) (oQ 111 (oH [oMb 2 false] .ret) .skip))) (oG [oM 80 8,oBk 81 .add 80 1,oM 8 81])))))))))) (oG [oM 47 5,oBk 48 .add 47 1,oM 5 48]))))))) (oG [oM 37 4,oBk 38 .add 37 1,oM 4 38])))))) (oH [oM 112 0,oLn 113 112,oBk 114 .leq 113 5,oM 2 114] .ret))))⟩
def zg5:AFn:=⟨74,[.t 4],(oH [oBx 3 1,oMb 4 false] (oH [oM 9 0,oFa 10 0 3,oLf 11 10,oC 12 67 [.t 9,.t 11],oM 5 12] (oH [oM 13 0,oFa 14 3 3,oLf 15 14,oC 16 67 [.t 13,.t 15],oM 6 16] (oS (oS (oD [[oM 17 5],[oBk 18 .lss 17 0],[oM 19 18],[ofm 20 6 19],[oF 21 (.bin .lss (.t 20) (kI 0)) 19],[oPo 22 19 21],[oM 23 22],[ofa 24 1 3 23],[ofl 25 24 23],[ofc 26 72 [.t 25,(kI 1),(kI 3)] 23],[oF 27 (.un .not (.t 26)) 23],[oPo 28 23 27],[oM 29 28],[ofa 30 4 3 29,ofl 31 30 29,oF 32 (.len false (.t 31)) 29,ofm 33 0 29,ofm 34 6 29,ofi 35 6 33 34 29,ofa 36 1 35 29,ofl 37 36 29,oF 38 (.len false (.t 37)) 29],[oF 39 (.bin .neq (.t 32) (.t 38)) 29],[oPo 40 29 39]]) (oQ 40 (oH [oMb 4 false] .ret) .skip)) (oH [oM 41 0,oM 42 5,oIa 43 6 41 42,oFa 44 1 43,oLf 45 44,oLn 46 45,oP 47 (.bin .mul (kI 2) (.t 46)),oM 7 47] (oS (oH [oMi 8 0] (.block 0 (.loop (oS (oH [oM 48 8,oFa 49 4 3,oLf 50 49,oLn 51 50,oBt 52 .lss 48 51] (oQ 52 .skip (.exit 0))) (oS (.block 1 (oH [oFa 55 4 3,oLf 56 55,oM 57 8,oIa 58 1 56 57,oFa 59 0 58,oLf 60 59,oM 61 7,oC 62 145 [.t 60,.t 61],oUn 63 62] (oQ 63 (oH [oMb 4 false] .ret) .skip))) (oG [oM 53 8,oBk 54 .add 53 1,oM 8 54])))))) (oH [oFa 64 2 3,oLf 65 64,oLn 66 65,oBk 67 .eql 66 0,oM 68 67,ofa 69 2 3 68,ofl 70 69 68,ofm 71 7 68,ofc 72 145 [.t 70,.t 71] 68,oPo 73 68 72,oM 4 73] .ret)))))))⟩
def jhw:AFn:=⟨71,[.t 4],(oH [oMb 4 false] (oS (oH [oM 8 1,oLn 9 8,oM 10 0,oLn 11 10,oBt 12 .neq 9 11] (oQ 12 (oH [oMb 4 false] .ret) .skip)) (oS (oH [oMi 5 0] (.block 0 (.loop (oS (oH [oM 13 5,oM 14 1,oLn 15 14,oBt 16 .lss 13 15] (oQ 16 .skip (.exit 0))) (oS (.block 1 (oH [oM 19 1,oM 20 5,oIa 21 1 19 20,oFa 22 0 21,oLf 23 22,oM 6 23] (oS (oH [oMi 7 0] (.block 2 (.loop (oS (oH [oM 24 7,oM 25 6,oLn 26 25,oBt 27 .lss 24 26] (oQ 27 .skip (.exit 2))) (oS (.block 3 (oS (oD [[oM 30 6,oM 31 7],[oIa 32 2 30 31],[oFa 33 0 32],[oLf 34 33],[oC 35 72 [.t 34,(kI 1),(kI 1000000000)]],[oUn 36 35],[oM 37 36],[ofm 38 7 37],[oF 39 (.bin .gtr (.t 38) (kI 0)) 37],[ofm 40 39 37],[otm 41 6 40,otm 42 7 40,oT 43 (.bin .sub (.t 42) (kI 1)) 40,oti 44 2 41 43 40,ota 45 0 44 40,otl 46 45 40,otm 47 6 40,otm 48 7 40,oti 49 2 47 48 40,ota 50 0 49 40,otl 51 50 40],[oT 52 (.bin .geq (.t 46) (.t 51)) 40],[oF 53 (.pick (.t 40) (.t 52) (.k (.bool false))) 37],[oPo 54 37 53],[oM 55 54],[ofm 56 0 55,ofm 57 5 55,ofi 58 6 56 57 55,oF 59 (.load true 6 (.t 58)) 55,ofm 60 6 55,ofm 61 7 55,ofi 62 2 60 61 55,ofa 63 1 62 55,ofl 64 63 55],[ofc 65 160 [.t 59,.t 64] 55],[oF 66 (.un .not (.t 65)) 55],[oPo 67 55 66]]) (oQ 67 (oH [oMb 4 false] .ret) .skip))) (oG [oM 28 7,oBk 29 .add 28 1,oM 7 29])))))) (oH [oM 68 6,oLn 69 68,oBk 70 .gtr 69 60] (oQ 70 (oH [oMb 4 false] .ret) .skip))))) (oG [oM 17 5,oBk 18 .add 17 1,oM 5 18])))))) (oH [oMb 4 true] .ret))))⟩
def jfp:AFn:=⟨46,[.t 4],(oH [oBx 2 0,oMb 4 false] (oS (oH [oM 6 1,oLn 7 6,oFa 8 1 2,oLf 9 8,oLn 10 9,oBt 11 .neq 7 10] (oQ 11 (oH [oMb 4 false] .ret) .skip)) (oS (oH [oMi 5 0] (.block 0 (.loop (oS (oH [oM 12 5,oM 13 1,oLn 14 13,oBt 15 .lss 12 14] (oQ 15 .skip (.exit 0))) (oS (.block 1 (oS (oD [[oM 18 1,oM 19 5],[oIa 20 3 18 19],[oLt 21 3 20],[oC 22 253 [.t 21]],[oUn 23 22],[oM 24 23],[ofm 25 1 24,ofm 26 5 24],[ofi 27 3 25 26 24],[ofa 28 0 27 24],[ofl 29 28 24],[oF 30 (.bin .neq (.t 29) (kI 0)) 24],[ofm 31 30 24],[otm 32 1 31,otm 33 5 31,oti 34 3 32 33 31,ota 35 0 34 31,otl 36 35 31,ota 37 1 2 31,otl 38 37 31,otm 39 5 31,oti 40 6 38 39 31,ota 41 1 40 31,otl 42 41 31],[oT 43 (.bin .neq (.t 36) (.t 42)) 31],[oF 44 (.pick (.t 31) (.t 43) (.k (.bool false))) 24],[oPo 45 24 44]]) (oQ 45 (oH [oMb 4 false] .ret) .skip))) (oG [oM 16 5,oBk 17 .add 16 1,oM 5 17])))))) (oH [oMb 4 true] .ret))))⟩
def wfp:AFn:=⟨27,[.t 4],(oH [oMi 4 0] (oH [oM 10 0,oM 11 1,oC 12 254 [.t 10,.t 11],oM 9 12,oEx 13 9 0,oEx 14 9 1,oP 5 (.alloc [.int .i64 0,.int .i64 0,.str []]),oSt 3 5 13,oM 6 14] (oH [oLt 16 3 5,oC 17 255 [.t 16],oM 15 17,oEx 18 15 0,oEx 19 15 1,oM 7 18,oM 8 19] (oS (oH [oM 20 6,oUn 21 20,oM 22 21,ofm 23 8 22,oF 24 (.un .not (.t 23)) 22,oPo 25 22 24] (oQ 25 (oH [oMi 4 (-1)] .ret) .skip)) (oH [oM 26 7,oM 4 26] .ret)))))⟩
def jdy:AFn:=⟨6,[.t 2],(oH [oP 2 (.mv (.k (.nils)))] (oH [oP 3 (.mksl false 3 0 [.int .i64 0,.int .i64 0,.str []] []),oM 4 0,oP 5 (.app 3 32 (.t 3) (.t 4)),oM 2 5] .ret))⟩
theorem wc3:ze Tryz.prog [] 162=some jdy:=yak9
def jg5:AFn:=⟨85,[.t 12,.t 13],(oH [oBx 9 3,oP 12 (.mv (.k (.nils))),oMi 13 0] (oH [oFa 21 5 9,oLf 22 21,oBk 23 .eql 22 3,oM 14 23] (oS (oH [oFa 24 0 9,oLf 25 24] (.block 0 (oH [oBk 27 .eql 25 1,oM 26 27] (oQ 26 (oH [oM 29 0,oM 30 1,oM 31 2,oM 32 5,oM 33 14,oC 34 256 [.t 29,.t 30,.t 31,.t 32,.t 33],oM 28 34,oEx 35 28 0,oEx 36 28 1,oEx 37 28 2,oM 15 35,oM 16 36,oM 17 37] (oH [oM 38 15,oM 39 17,oM 12 38,oM 13 39] .ret)) (oH [oBk 41 .eql 25 3,oM 40 41] (oQ 40 (oH [oM 42 0,oM 43 1,oM 44 2,oM 45 4,oC 46 257 [.t 42,.t 43,.t 44,.t 45,(kI 0)],oEx 47 46 0,oEx 48 46 1,oM 12 47,oM 13 48] .ret) .skip)))))) (oH [oM 49 1,oM 50 2,oIa 51 1 49 50,oLt 52 1 51,oM 53 4,oC 54 70 [.t 52,.t 53],oM 18 54] (oS (oD [[oM 56 0,oM 57 2,oIa 58 6 56 57,oLt 59 6 58,oM 60 1,oM 61 2,oIa 62 1 60 61,oFa 63 0 62,oLf 64 63,oM 65 18,oIa 66 2 64 65,oFa 67 1 66,oLf 68 67,oFa 69 4 9,oLf 70 69],[oC 71 258 [.t 59,.t 68,.t 70]],[oM 55 71],[oEx 72 55 0,oEx 73 55 1,oM 19 72],[oM 20 73]]) (oS (oH [oM 74 20,oUn 75 74] (oQ 75 (oH [oP 12 (.mv (.k (.nils))),oMi 13 8] .ret) .skip)) (oH [oM 76 0,oM 77 1,oM 78 2,oM 79 4,oM 80 19,oM 81 14,oC 82 259 [.t 76,.t 77,.t 78,.t 79,.t 80,.t 81,(kI 0)],oEx 83 82 0,oEx 84 82 1,oM 12 83,oM 13 84] .ret)))))))⟩
theorem jcm:ze Tryz.prog [9] 163=some jg5:=yak9
def wgg:AFn:=⟨17,[.t 2],(oH [oBx 1 0,oMi 2 0] (oH [oFa 4 0 1,oLf 5 4,oLn 6 5,oM 3 6] (oS (oH [oM 7 3,oBk 8 .eql 7 0] (oQ 8 (oH [oMi 2 1] .ret) .skip)) (oH [oFa 9 0 1,oLf 10 9,oM 11 3,oBk 12 .sub 11 1,oIa 13 2 10 12,oFa 14 0 13,oLf 15 14,oBk 16 .add 15 1,oM 2 16] .ret))))⟩
theorem jcf:ze Tryz.prog [1] 164=some wgg:=yak9
def js:AFn:=⟨126,[.t 16,.t 17],(oH [oP 16 (.mv (.k (.nils))),oMi 17 0] (oH [oM 29 0,oM 30 1,oM 31 3,oM 32 4,oM 33 5,oM 34 6,oC 35 260 [.t 29,.t 30,.t 31,.t 32,.t 33,.t 34],oM 18 35] (oS (oH [oM 36 18,oLn 37 36,oBk 38 .gtr 37 0,oM 39 38,otm 40 7 39,oT 41 (.bin .eql (.t 40) (kI 6)) 39,oPa 42 39 41] (oQ 42 (oH [oP 16 (.mv (.k (.nils))),oMi 17 6] .ret) .skip)) (oS (oH [oMi 19 0] (.block 0 (.loop (oS (oH [oM 43 19,oM 44 18,oLn 45 44,oBt 46 .lss 43 45] (oQ 46 .skip (.exit 0))) (oS (.block 1 (oH [oM 49 1,oM 50 18,oM 51 19,oIa 52 1 50 51,oLf 53 52,oIa 54 5 49 53,oLt 55 5 54,oP 20 (.alloc [.str [],.int .i64 0,.nils,.str [],.nils]),oSt 5 20 55] (oH [oM 56 0,oFa 57 3 20,oLf 58 57,oC 59 67 [.t 56,.t 58],oM 21 59] (oH [oP 60 (.mksl false 3 0 [.int .i64 0,.int .i64 0,.str []] []),oM 22 60] (oS (oH [oMi 23 0] (.block 2 (.loop (oS (oH [oM 61 23,oFa 62 4 20,oLf 63 62,oLn 64 63,oBt 65 .lss 61 64] (oQ 65 .skip (.exit 2))) (oS (.block 3 (oS (oD [[oFa 69 4 20,oLf 70 69,oM 71 23,oIa 72 1 70 71,oFa 73 0 72,oLf 74 73,oM 75 0,oM 76 3,oIa 77 6 75 76,oLt 78 6 77,oM 79 5,oM 80 6,oC 81 261 [.t 78,.t 79,.t 80],oC 82 254 [.t 74,.t 81],oM 68 82,oEx 83 68 0,oEx 84 68 1,oP 24 (.alloc [.int .i64 0,.int .i64 0,.str []]),oSt 3 24 83],[oM 25 84]]) (oS (oH [oM 85 25,oUn 86 85] (oQ 86 (oH [oP 16 (.mv (.k (.nils))),oMi 17 8] .ret) .skip)) (oG [oM 87 22,oLt 88 3 24,oP 89 (.mksl true 3 1 [.int .i64 0,.int .i64 0,.str []] [(0,(.t 88))]),oP 90 (.app 3 32 (.t 87) (.t 89)),oM 22 90])))) (oG [oM 66 23,oBk 67 .add 66 1,oM 23 67])))))) (oS (oH [oM 91 0,oM 92 21,oIa 93 6 91 92,oLt 94 6 93,oM 95 22,oC 96 160 [.t 94,.t 95],oUn 97 96] (oQ 97 (oH [oP 16 (.mv (.k (.nils))),oMi 17 8] .ret) .skip)) (oH [oM 99 0,oM 100 2,oM 101 21,oM 102 22,oC 103 256 [.t 99,.t 100,.t 101,.t 102,(.k (.bool false))],oM 98 103,oEx 104 98 0,oEx 105 98 1,oEx 106 98 2,oM 26 104,oM 27 105,oM 28 106] (oS (oH [oM 107 28,oBk 108 .neq 107 0] (oQ 108 (oH [oM 109 28,oP 16 (.mv (.k (.nils))),oM 17 109] .ret) .skip)) (oH [oM 111 0,oM 112 1,oM 113 26,oM 114 21,oM 115 22,oM 116 7,oBk 117 .add 116 1,oC 118 165 [.t 111,.t 112,.t 113,.t 114,(kI 1),(.k (.nils)),.t 115,.t 117],oM 110 118,oEx 119 110 0,oEx 120 110 1,oM 26 119,oM 28 120] (oS (oH [oM 121 28,oBk 122 .neq 121 0] (oQ 122 (oH [oM 123 28,oP 16 (.mv (.k (.nils))),oM 17 123] .ret) .skip)) (oG [oM 124 26,oM 2 124]))))))))))) (oG [oM 47 19,oBk 48 .add 47 1,oM 19 48])))))) (oH [oM 125 2,oM 16 125,oMi 17 0] .ret)))))⟩
theorem wcf:ze Tryz.prog [89] 165=some js:=yak9
def wey:AFn:=⟨32,[.t 2],(oH [oBx 1 0,oMb 2 false] (oS (oH [oLf 5 1,oLn 6 5,oBk 7 .gtr 6 5] (oQ 7 (oH [oMb 2 false] .ret) .skip)) (oS (oH [oLf 8 1,oLn 9 8,oMi 10 0] (.block 0 (.loop (oH [oBt 11 .lss 10 9] (oS (oQ 11 .skip (.exit 0)) (oS (.block 1 (oH [oM 12 10,oIa 13 6 8 10,oLt 14 6 13,oP 4 (.alloc [.str [],.nils,.nils,.nils,.nils,.nils]),oM 3 12,oSt 6 4 14] (oS (oD [[oLt 15 6 4],[oC 16 269 [.t 15]],[oUn 17 16],[oM 18 17],[ofl 19 1 18,ofm 20 3 18,oF 21 (.slice 6 (.t 19) none (some (.t 20)) none) 18,ofa 22 0 4 18,ofl 23 22 18],[ofc 24 48 [.t 21,.t 23] 18],[oF 25 (.bin .geq (.t 24) (kI 0)) 18],[oPo 26 18 25]]) (oQ 26 (oH [oMb 2 false] .ret) .skip)))) (oG [oBk 27 .add 10 1,oM 10 27]))))))) (oH [oLf 28 1,oP 29 (.mkfn 271 [] [.t 1]),oC 30 270 [.t 28,.t 29],oUn 31 30,oM 2 31] .ret))))⟩
def zfq:AFn:=⟨44,[.t 4],(oH [oBx 2 0,oMb 4 false] (oS (oH [oM 7 1,oLn 8 7,oMi 9 0] (.block 0 (.loop (oH [oBt 10 .lss 9 8] (oS (oQ 10 .skip (.exit 0)) (oS (.block 1 (oH [oM 11 9,oIa 12 2 7 9,oLt 13 2 12,oP 6 (.alloc [.int .i64 0,.nils]),oM 5 11,oSt 2 6 13] (oS (oD [[oFa 14 0 6],[oLf 15 14],[oC 16 177 [.t 15,(kI 1),(kI 1000000000)]],[oUn 17 16],[oM 18 17],[ofm 19 5 18],[oF 20 (.bin .gtr (.t 19) (kI 0)) 18],[ofm 21 20 18],[otm 22 1 21,otm 23 5 21,oT 24 (.bin .sub (.t 23) (kI 1)) 21,oti 25 2 22 24 21,ota 26 0 25 21,otl 27 26 21,ota 28 0 6 21,otl 29 28 21],[oT 30 (.bin .geq (.t 27) (.t 29)) 21],[oF 31 (.pick (.t 21) (.t 30) (.k (.bool false))) 18],[oPo 32 18 31],[oM 33 32],[oF 34 (.load true 6 (.t 2)) 33,ofa 35 1 6 33,ofl 36 35 33],[ofc 37 135 [.t 34,.t 36] 33],[oF 38 (.un .not (.t 37)) 33],[oPo 39 33 38]]) (oQ 39 (oH [oMb 4 false] .ret) .skip)))) (oG [oBk 40 .add 9 1,oM 9 40]))))))) (oH [oM 41 1,oLn 42 41,oBk 43 .leq 42 60,oM 4 43] .ret)))⟩
def wjb:AFn:=⟨15,[.t 6],(oH [oMb 6 false] (oH [oM 7 1,oM 8 0,oBt 9 .leq 7 8,oM 10 9,otm 11 0 10,otm 12 2 10,oT 13 (.bin .leq (.t 11) (.t 12)) 10,oPa 14 10 13,oM 6 14] .ret))⟩
def zdl:AFn:=⟨38,[.t 2],(oH [oBx 1 0,oMb 2 false] (oS (oH [oFa 3 0 1,oLf 4 3] (.block 0 (oH [oBk 6 .eql 4 1,oM 5 6] (oQ 5 (oH [oFa 7 3 1,oLf 8 7,oLn 9 8,oBk 10 .eql 9 0,oM 11 10,ota 12 4 1 11,otl 13 12 11,oT 14 (.len false (.t 13)) 11,oT 15 (.bin .eql (.t 14) (kI 0)) 11,oPa 16 11 15,oM 2 16] .ret) (oH [oBk 18 .eql 4 2,oM 17 18] (oQ 17 (oH [oFa 19 2 1,oLf 20 19,oLn 21 20,oBk 22 .eql 21 0,oM 2 22] .ret) .skip)))))) (oH [oFa 23 0 1,oLf 24 23,oBk 25 .eql 24 3,oM 26 25,ota 27 2 1 26,otl 28 27 26,oT 29 (.len false (.t 28)) 26,oT 30 (.bin .eql (.t 29) (kI 0)) 26,oPa 31 26 30,oM 32 31,ota 33 4 1 32,otl 34 33 32,oT 35 (.len false (.t 34)) 32,oT 36 (.bin .eql (.t 35) (kI 0)) 32,oPa 37 32 36,oM 2 37] .ret)))⟩
def jbx:AFn:=⟨9,[.t 4],(oH [oMb 4 false] (oH [oM 5 0,oM 6 1,oC 7 188 [.t 5,.t 6],oBk 8 .geq 7 0,oM 4 8] .ret))⟩
theorem zbg:ze Tryz.prog [] 179=some jbx:=yak9
def zez:AFn:=⟨14,[.t 3],(oH [oBx 2 0,oMb 3 false] (oH [oFa 4 0 2,oLf 5 4,oBk 6 .neq 5 0,oM 7 6,oF 8 (.load true 6 (.t 1)) 7,ofa 9 1 2 7,ofl 10 9 7,ofc 11 135 [.t 8,.t 10] 7,oF 12 (.un .not (.t 11)) 7,oPo 13 7 12,oM 3 13] .ret))⟩
def jfq:AFn:=⟨35,[.t 4],(oH [oMb 4 false] (oS (oH [oM 7 0,oLn 8 7,oMi 9 0] (.block 0 (.loop (oH [oBt 10 .lss 9 8] (oS (oQ 10 .skip (.exit 0)) (oS (.block 1 (oH [oM 11 9,oIa 12 2 7 9,oLt 13 2 12,oP 6 (.alloc [.int .i64 0,.nils]),oM 5 11,oSt 2 6 13] (oH [oFa 14 0 6,oLf 15 14,oM 16 1,oBk 17 .sub 16 1,oC 18 177 [.t 15,(kI 0),.t 17],oUn 19 18,oM 20 19,ofa 21 1 6 20,ofl 22 21 20,ofm 23 1 20,ofc 24 239 [.t 22,.t 23] 20,oF 25 (.un .not (.t 24)) 20,oPo 26 20 25,oM 27 26,ofm 28 0 27,ofm 29 5 27,oF 30 (.slice 2 (.t 28) none (some (.t 29)) none) 27,oF 31 (.mkfn 276 [] [.t 6]) 27,ofc 32 275 [.t 30,.t 31] 27,oPo 33 27 32] (oQ 33 (oH [oMb 4 false] .ret) .skip)))) (oG [oBk 34 .add 9 1,oM 9 34]))))))) (oH [oMb 4 true] .ret)))⟩
def zbd:AFn:=⟨9,[.t 4],(oH [oMb 4 false] (oH [oM 5 0,oM 6 1,oC 7 277 [.t 5,.t 6],oBk 8 .geq 7 0,oM 4 8] .ret))⟩
theorem ja2:ze Tryz.prog [] 182=some zbd:=yak9
def zdc:AFn:=⟨8,[.t 3],(oH [oBx 2 0,oMb 3 false] (oH [oLf 4 1,oLt 5 5 2,oC 6 184 [.t 4,.t 5],oUn 7 6,oM 3 7] .ret))⟩
def zef:AFn:=⟨57,[.t 4],(oH [oBx 3 1,oMb 4 false] (oS (oD [[oM 8 0,oFa 9 0 3,oLf 10 9,oC 11 48 [.t 8,.t 10],oM 12 0,oFa 13 3 3,oLf 14 13],[oC 15 48 [.t 12,.t 14]],[oM 5 11],[oM 6 15]]) (oS (oH [oM 16 5,oBk 17 .lss 16 0,oM 18 17,ofm 19 6 18,oF 20 (.bin .lss (.t 19) (kI 0)) 18,oPo 21 18 20,oM 22 21,ofa 23 1 3 22,ofl 24 23 22,ofc 25 177 [.t 24,(kI 1),(kI 3)] 22,oF 26 (.un .not (.t 25)) 22,oPo 27 22 26] (oQ 27 (oH [oMb 4 false] .ret) .skip)) (oH [oM 28 0,oM 29 5,oIa 30 6 28 29,oFa 31 1 30,oLf 32 31,oLn 33 32,oP 34 (.bin .mul (kI 2) (.t 33)),oM 7 34] (oS (oD [[oFa 35 2 3,oLf 36 35,oM 37 7],[oC 38 142 [.t 36,.t 37]],[oM 39 38],[ota 40 4 3 39,otl 41 40 39,oT 42 (.len false (.t 41)) 39,otm 43 0 39,otm 44 6 39,oti 45 6 43 44 39,ota 46 1 45 39,otl 47 46 39,oT 48 (.len false (.t 47)) 39],[oT 49 (.bin .eql (.t 42) (.t 48)) 39],[oPa 50 39 49],[oM 51 50],[ota 52 4 3 51,otl 53 52 51,otm 54 7 51],[otc 55 278 [.t 53,.t 54] 51],[oPa 56 51 55],[oM 4 56]]) .ret)))))⟩
def jef:AFn:=⟨67,[.t 8,.t 9],(oH [oBx 4 0,oBx 5 1,oBx 7 3,oP 8 (.mv (.k (.nils))),oMb 9 false] (oH [oLf 19 5,oFa 20 1 4,oLf 21 20,oC 22 48 [.t 19,.t 21],oP 10 (.alloc [.int .i64 0]),oSt 1 10 22] (oH [oFa 23 5 4,oLf 24 23,oBk 25 .eql 24 3,oP 26 (.mksl false 1 0 [.nilf] []),oP 11 (.alloc [.bool false]),oSt 1 11 25,oM 12 26] (oS (oH [oFa 27 0 4,oLf 28 27,oBk 29 .eql 28 1] (oQ 29 (oS (oH [oFa 30 2 4,oLf 31 30,oLn 32 31,oMi 33 0] (.block 0 (.loop (oH [oBt 34 .lss 33 32] (oS (oQ 34 .skip (.exit 0)) (oS (.block 1 (oH [oIa 35 2 31 33,oLt 36 2 35,oP 14 (.alloc [.int .i64 0,.nils]),oSt 2 14 36] (oG [oM 37 12,oP 38 (.mkfn 279 [] [.t 10,.t 14,.t 11,.t 7]),oP 39 (.mksl true 1 1 [.nilf] [(0,(.t 38))]),oP 40 (.app 1 8 (.t 37) (.t 39)),oM 12 40]))) (oG [oBk 41 .add 33 1,oM 33 41]))))))) (oH [oM 42 12,oM 8 42,oMb 9 true] .ret)) .skip)) (oS (oD [[oM 44 2,oLf 45 10,oIa 46 1 44 45,oFa 47 0 46,oLf 48 47,oFa 49 3 4,oLf 50 49],[oC 51 143 [.t 48,.t 50]],[oM 43 51],[oEx 52 43 0,oEx 53 43 1,oM 15 52],[oM 16 53]]) (oS (oH [oM 54 15,oLn 55 54,oMi 56 0] (.block 2 (.loop (oH [oBt 57 .lss 56 55] (oS (oQ 57 .skip (.exit 2)) (oS (.block 3 (oH [oIa 58 1 54 56,oLf 59 58,oP 18 (.alloc [.int .i64 0]),oSt 1 18 59] (oG [oM 60 12,oP 61 (.mkfn 280 [] [.t 10,.t 18,.t 4,.t 5,.t 11,.t 7]),oP 62 (.mksl true 1 1 [.nilf] [(0,(.t 61))]),oP 63 (.app 1 8 (.t 60) (.t 62)),oM 12 63]))) (oG [oBk 64 .add 56 1,oM 56 64]))))))) (oH [oM 65 12,oM 66 16,oM 8 65,oM 9 66] .ret)))))))⟩
theorem jag:ze Tryz.prog [4,5,7,39,62] 185=some jef:=yak9
def jez:AFn:=⟨41,[.t 2],(oH [oP 2 (.mv (.k (.nils)))] (oH [oP 9 (.mksl false 1 0 [.nils] []),oM 3 9] (oS (oH [oM 10 0,oLn 11 10,oMi 12 0] (.block 0 (.loop (oH [oBt 13 .lss 12 11] (oS (oQ 13 .skip (.exit 0)) (oS (.block 1 (oH [oIa 14 1 10 12,oLt 15 1 14,oP 5 (.alloc [.nils]),oSt 1 5 15] (oH [oP 16 (.mksl false 2 0 [.int .i64 0,.nils] []),oM 6 16] (oS (oH [oFa 17 0 5,oLf 18 17,oLn 19 18,oMi 20 0] (.block 2 (.loop (oH [oBt 21 .lss 20 19] (oS (oQ 21 .skip (.exit 2)) (oS (.block 3 (oH [oIa 22 2 18 20,oLt 23 2 22,oP 8 (.alloc [.int .i64 0,.nils]),oSt 2 8 23] (oD [[oM 24 6,oFa 25 0 8,oLf 26 25,oFa 27 1 8,oLf 28 27,oC 29 85 [.t 28],oP 30 (.build [.int .i64 0,.nils] [(0,1,(.t 26)),(1,1,(.t 29))]),oP 31 (.mksl true 2 1 [.int .i64 0,.nils] [(0,(.t 30))])],[oP 32 (.app 2 32 (.t 24) (.t 31))],[oM 6 32]]))) (oG [oBk 33 .add 20 1,oM 20 33]))))))) (oG [oM 34 3,oM 35 6,oP 36 (.build [.nils] [(0,1,(.t 35))]),oP 37 (.mksl true 1 1 [.nils] [(0,(.t 36))]),oP 38 (.app 1 24 (.t 34) (.t 37)),oM 3 38]))))) (oG [oBk 39 .add 12 1,oM 12 39]))))))) (oH [oM 40 3,oM 2 40] .ret))))⟩
theorem jdl:ze Tryz.prog [31,37] 186=some jez:=yak9
def wdl:AFn:=⟨20,[.t 4],(oH [oBx 2 0,oMb 4 false] (oH [oFa 5 5 2,oLf 6 5,oBk 7 .eql 6 2,oM 8 7,otm 9 1 8,oT 10 (.bin .eql (.t 9) (kI 2)) 8,otm 11 10 8,ofm 12 1 11,oF 13 (.bin .eql (.t 12) (kI 3)) 11,oT 14 (.pick (.t 11) (.k (.bool true)) (.t 13)) 8,otm 15 14 8,ofm 16 1 15,oF 17 (.bin .eql (.t 16) (kI 4)) 15,oT 18 (.pick (.t 15) (.k (.bool true)) (.t 17)) 8,oPa 19 8 18,oM 4 19] .ret))⟩
def jch:AFn:=⟨19,[.t 4],(oH [oMi 4 0] (oS (oH [oM 6 0,oLn 7 6,oMi 8 0] (.block 0 (.loop (oH [oBt 9 .lss 8 7] (oS (oQ 9 .skip (.exit 0)) (oS (.block 1 (oH [oM 10 8,oM 5 10] (oH [oM 11 1,oM 12 0,oM 13 5,oIa 14 2 12 13,oLt 15 2 14,⟨some 16,.call (.t 11) [.t 15],none⟩] (oQ 16 (oH [oM 17 5,oM 4 17] .ret) .skip)))) (oG [oBk 18 .add 8 1,oM 8 18]))))))) (oH [oMi 4 (-1)] .ret)))⟩
theorem wab:ze Tryz.prog [] 188=some jch:=yak9
def wcm:AFn:=⟨8,[.t 3],(oH [oBx 2 0,oMb 3 false] (oH [oFa 4 0 2,oLf 5 4,oLf 6 1,oBt 7 .eql 5 6,oM 3 7] .ret))⟩
def wg5:AFn:=⟨67,[.t 12],(oH [oP 12 (.mv (.k (.nils)))] (oH [oP 17 (.mksl false 1 0 [.int .i64 0] []),oM 18 0,oM 19 2,oIa 20 6 18 19,oFa 21 1 20,oLf 22 21,oLn 23 22,oM 24 4,oM 25 5,oC 26 191 [.t 23,.t 24,.t 25],oM 13 17,oM 14 26] (oS (oH [oM 27 1,oLn 28 27,oMi 29 0] (.block 0 (.loop (oH [oBt 30 .lss 29 28] (oS (oQ 30 .skip (.exit 0)) (oS (.block 1 (oH [oM 31 29,oIa 32 5 27 29,oLt 33 5 32,oP 16 (.alloc [.str [],.int .i64 0,.nils,.str [],.nils]),oM 15 31,oSt 5 16 33] (oS (oD [[oFa 34 0 16,oLf 35 34,oM 36 0,oM 37 2,oIa 38 6 36 37,oFa 39 0 38,oLf 40 39],[oBt 41 .eql 35 40],[oM 42 41],[ota 43 1 16 42,otl 44 43 42,otm 45 3 42],[oT 46 (.bin .eql (.t 44) (.t 45)) 42],[oPa 47 42 46],[oM 48 47],[ota 49 2 16 48],[otl 50 49 48],[oT 51 (.len false (.t 50)) 48],[oT 52 (.bin .eql (.t 51) (kI 0)) 48],[otm 53 52 48],[ofa 54 2 16 53,ofl 55 54 53,ofm 56 14 53],[ofc 57 56 [.t 55,.t 56] 53],[oF 58 (.bin .eql (.t 57) (kI 1)) 53],[oT 59 (.pick (.t 53) (.k (.bool true)) (.t 58)) 48],[oPa 60 48 59]]) (oQ 60 (oG [oM 61 13,oM 62 15,oP 63 (.mksl true 1 1 [.int .i64 0] [(0,(.t 62))]),oP 64 (.app 1 8 (.t 61) (.t 63)),oM 13 64]) .skip)))) (oG [oBk 65 .add 29 1,oM 29 65]))))))) (oH [oM 66 13,oM 12 66] .ret))))⟩
theorem wez:ze Tryz.prog [63] 190=some wg5:=yak9
def whw:AFn:=⟨27,[.t 6],(oH [oP 6 (.mv (.k (.nils)))] (oH [oP 10 (.mksl false 3 0 [.int .i64 0,.int .i64 0,.str []] []),oM 7 10] (oS (oH [oM 11 1,oM 12 2,oP 13 (.build [.nils,.nils] [(0,1,(.t 11)),(1,1,(.t 12))]),oMi 14 0] (.block 0 (.loop (oH [oBk 15 .lss 14 2] (oS (oQ 15 .skip (.exit 0)) (oS (.block 1 (oH [oP 16 (.idxa false 2 1 (.t 13) (.t 14)),oM 9 16] (oS (oH [oM 17 9,oLn 18 17,oBk 19 .eql 18 0] (oQ 19 (oG [oM 20 0,oP 21 (.mkslice 3 32 [.int .i64 0,.int .i64 0,.str []] (.t 20) (.t 20)),oM 9 21]) .skip)) (oG [oM 22 7,oM 23 9,oP 24 (.app 3 32 (.t 22) (.t 23)),oM 7 24])))) (oG [oBk 25 .add 14 1,oM 14 25]))))))) (oH [oM 26 7,oM 6 26] .ret))))⟩
def zgh:AFn:=⟨23,[.t 2],(oH [oMb 2 false] (oS (oH [oMi 3 0] (.block 0 (.loop (oS (oH [oM 4 3,oM 5 0,oP 6 (.len true (.t 5)),oBt 7 .lss 4 6] (oQ 7 .skip (.exit 0))) (oS (.block 1 (oH [oM 10 0,oM 11 3,oP 12 (.idx (.t 10) (.t 11)),oP 13 (.bin .lss (.t 12) (.k (.int .u8 97))),oM 14 13,ofm 15 0 14,ofm 16 3 14,oF 17 (.idx (.t 15) (.t 16)) 14,oF 18 (.bin .gtr (.t 17) (.k (.int .u8 122))) 14,oPo 19 14 18] (oQ 19 (oH [oMb 2 false] .ret) .skip))) (oG [oM 8 3,oBk 9 .add 8 1,oM 3 9])))))) (oH [oM 20 0,oP 21 (.len true (.t 20)),oC 22 72 [.t 21,(kI 1),(kI 8)],oM 2 22] .ret)))⟩
def wfq:AFn:=⟨26,[.t 4],(oH [oBx 2 0,oMb 4 false] (oS (oH [oM 7 1,oLn 8 7,oMi 9 0] (.block 0 (.loop (oH [oBt 10 .lss 9 8] (oS (oQ 10 .skip (.exit 0)) (oS (.block 1 (oH [oM 11 9,oIa 12 3 7 9,oLt 13 3 12,oP 6 (.alloc [.int .i64 0,.int .i64 0,.str []]),oM 5 11,oSt 3 6 13] (oH [oFa 14 1 2,oLf 15 14,oM 16 5,oIa 17 6 15 16,oFa 18 2 17,oLf 19 18,oM 20 19,ota 21 0 6 20,otl 22 21 20,oT 23 (.bin .eql (.t 22) (kI 0)) 20,oPa 24 20 23] (oQ 24 (oH [oMb 4 true] .ret) .skip)))) (oG [oBk 25 .add 9 1,oM 9 25]))))))) (oH [oMb 4 false] .ret)))⟩
def wef:AFn:=⟨10,[.t 4],(oH [oBx 2 0,oBx 3 1,oMb 4 false] (oH [oFa 5 4 2,oLf 6 5,oP 7 (.mkfn 294 [] [.t 3]),oC 8 293 [.t 6,.t 7],oUn 9 8,oM 4 9] .ret))⟩
def jgh:AFn:=⟨54,[.t 8],(oH [oBx 4 0,oBx 7 3,oP 8 (.mv (.k (.nils)))] (oH [oP 15 (.mksl false 1 0 [.int .i64 0] []),oM 9 15] (oH [oFa 16 2 4,oLf 17 16,oP 18 (.mksl false 1 1 [.nils] [(0,(.t 17))]),oM 10 18] (oS (oH [oFa 19 3 4,oLf 20 19,oLn 21 20,oMi 22 0] (.block 0 (.loop (oH [oBt 23 .lss 22 21] (oS (oQ 23 .skip (.exit 0)) (oS (.block 1 (oH [oIa 24 1 20 22,oLt 25 1 24,oP 12 (.alloc [.nils]),oSt 1 12 25] (oG [oM 26 10,oFa 27 0 12,oLf 28 27,oP 29 (.mksl true 1 1 [.nils] [(0,(.t 28))]),oP 30 (.app 1 24 (.t 26) (.t 29)),oM 10 30]))) (oG [oBk 31 .add 22 1,oM 22 31]))))))) (oS (oH [oM 32 1,oLn 33 32,oMi 34 0] (.block 2 (.loop (oH [oBt 35 .lss 34 33] (oS (oQ 35 .skip (.exit 2)) (oS (.block 3 (oH [oIa 36 2 32 34,oLt 37 2 36,oP 14 (.alloc [.int .i64 0,.nils]),oSt 2 14 37] (oH [oFa 38 0 14,oLf 39 38,oM 40 2,oBt 41 .neq 39 40,oM 42 41,otm 43 10 42,oT 44 (.mkfn 296 [] [.t 7,.t 14]) 42,otc 45 295 [.t 43,.t 44] 42,oPa 46 42 45] (oQ 46 (oG [oM 47 9,oFa 48 0 14,oLf 49 48,oP 50 (.mksl true 1 1 [.int .i64 0] [(0,(.t 49))]),oP 51 (.app 1 8 (.t 47) (.t 50)),oM 9 51]) .skip)))) (oG [oBk 52 .add 34 1,oM 34 52]))))))) (oH [oM 53 9,oM 8 53] .ret))))))⟩
theorem zeg:ze Tryz.prog [4,7,29,50] 222=some jgh:=yak9
def jeg:AFn:=⟨15,[.t 10],(oH [oBx 5 0,oBx 6 1,oBx 7 2,oBx 8 3,oBx 9 4,oMb 10 false] (oH [oFa 11 5 7,oLf 12 11,oP 13 (.mkfn 299 [] [.t 9,.t 5,.t 6,.t 8]),oC 14 272 [.t 12,.t 13],oM 10 14] .ret))⟩
def zg6:AFn:=⟨5,[.m 2 true 3],(oH [oP 2 (.alloc [.int .i64 0,.int .i64 0,.str []])] (oH [oM 3 0,oP 4 (.build [.int .i64 0,.int .i64 0,.str []] [(0,1,(kI 1)),(1,1,(.t 3))]),oSt 3 2 4] .ret))⟩
def weg:AFn:=⟨11,[.t 4],(oH [oMb 4 false] (oH [oM 5 0,oM 6 1,oC 7 229 [.t 5,.t 6],oM 8 1,oBk 9 .sub 8 1,oBt 10 .eql 7 9,oM 4 10] .ret))⟩
theorem jdc:ze Tryz.prog [] 225=some weg:=yak9
def jg6:AFn:=⟨5,[.m 2 true 5],(oH [oP 2 (.alloc [.int .i64 0,.int .i64 0,.int .i64 0,.int .i64 0,.str []])] (oH [oM 3 0,oP 4 (.build [.int .i64 0,.int .i64 0,.int .i64 0,.int .i64 0,.str []] [(0,1,(kI 1)),(1,1,(.t 3))]),oSt 5 2 4] .ret))⟩
def zfr:AFn:=⟨5,[.m 2 true 5],(oH [oBx 1 0,oP 2 (.alloc [.int .i64 0,.int .i64 0,.int .i64 0,.int .i64 0,.str []])] (oH [oLt 3 3 1,oP 4 (.build [.int .i64 0,.int .i64 0,.int .i64 0,.int .i64 0,.str []] [(0,1,(kI 2)),(2,3,(.t 3))]),oSt 5 2 4] .ret))⟩
def zdm:AFn:=⟨5,[.t 2],(oH [oMi 2 0] (oH [oM 3 0,oC 4 229 [.t 3,(kI 3)],oM 2 4] .ret))⟩
theorem zcn:ze Tryz.prog [] 228=some zdm:=yak9
def wdy:AFn:=⟨24,[.t 4],(oH [oMi 4 0] (oS (oH [oM 6 1,oBk 7 .leq 6 1] (oQ 7 (oH [oMi 4 0] .ret) .skip)) (oS (oH [oM 8 1,oBk 9 .leq 8 256] (oQ 9 (oH [oM 10 0,oC 11 301 [.t 10],oM 12 1,oBt 13 .rem 11 12,oM 4 13] .ret) .skip)) (oH [oM 14 0,oC 15 301 [.t 14],oBk 16 .mul 15 256,oM 5 16] (oH [oM 17 5,oM 18 0,oC 19 301 [.t 18],oBt 20 .add 17 19,oM 5 20] (oH [oM 21 5,oM 22 1,oBt 23 .rem 21 22,oM 4 23] .ret))))))⟩
theorem zc4:ze Tryz.prog [] 229=some wdy:=yak9
def ze0:AFn:=⟨22,[.t 6],(oH [oMi 6 0] (oS (oH [oM 7 0,oC 8 225 [.t 7,(kI 24)]] (oQ 8 (oH [oM 9 1,oBk 10 .sub 9 1,oM 11 2,oBk 12 .add 11 1,oP 13 (.mksl true 1 4 [.int .i64 0] [(0,(.t 10)),(1,(.t 12)),(2,(kI (-9223372036854775808))),(3,(kI 9223372036854775807))]),oM 14 0,oC 15 229 [.t 14,(kI 4)],oIa 16 1 13 15,oLf 17 16,oM 6 17] .ret) .skip)) (oH [oM 18 0,oM 19 1,oM 20 2,oC 21 302 [.t 18,.t 19,.t 20],oM 6 21] .ret)))⟩
theorem jdm:ze Tryz.prog [13] 230=some ze0:=yak9
def je0:AFn:=⟨44,[.t 4],(oH [oBx 3 1,oP 4 (.mv (.k (.nils)))] (oH [oP 8 (.mksl false 3 0 [.int .i64 0,.int .i64 0,.str []] []),oM 5 8] (oS (oH [oMi 6 0] (.block 0 (.loop (oS (oH [oM 9 6,oFa 10 1 3,oLf 11 10,oLn 12 11,oBt 13 .lss 9 12] (oQ 13 .skip (.exit 0))) (oS (.block 1 (oH [oM 16 0,oC 17 229 [.t 16,(kI 5)],oC 18 224 [.t 17],oP 7 (.alloc [.int .i64 0,.int .i64 0,.str []]),oSt 3 7 18] (oS (oH [oFa 19 1 3,oLf 20 19,oM 21 6,oIa 22 6 20 21,oFa 23 1 22,oLf 24 23,oBk 25 .eql 24 2] (oQ 25 (oG [oP 26 (.mksl true 1 3 [.str []] [(0,(.k (.str []))),(1,(.k (.str [97]))),(2,(.k (.str [98])))]),oM 27 0,oC 28 229 [.t 27,(kI 3)],oIa 29 1 26 28,oLf 30 29,oC 31 303 [.t 30],oSt 3 7 31]) .skip)) (oS (oH [oM 32 0,oC 33 225 [.t 32,(kI 8)]] (oQ 33 (oG [oP 34 (.build [.int .i64 0,.int .i64 0,.str []] []),oSt 3 7 34]) .skip)) (oS (oH [oM 35 0,oC 36 225 [.t 35,(kI 60)]] (oQ 36 (oG [oM 37 0,oC 38 304 [.t 37],oSt 3 7 38]) .skip)) (oG [oM 39 5,oLt 40 3 7,oP 41 (.mksl true 3 1 [.int .i64 0,.int .i64 0,.str []] [(0,(.t 40))]),oP 42 (.app 3 32 (.t 39) (.t 41)),oM 5 42])))))) (oG [oM 14 6,oBk 15 .add 14 1,oM 6 15])))))) (oH [oM 43 5,oM 4 43] .ret))))⟩
theorem wdm:ze Tryz.prog [3,26,41] 231=some je0:=yak9
def zeh:AFn:=⟨49,[.t 10,.t 11,.t 12],(oH [oP 10 (.mv (.k (.nils))),oMi 11 0,oMi 12 0] (oS (oH [oM 16 0,oM 17 1,oM 18 2,oC 19 144 [.t 16,.t 17,.t 18],oUn 20 19,oM 21 20,ofm 22 0 21,ofm 23 2 21,ofi 24 6 22 23 21,oF 25 (.load true 6 (.t 24)) 21,ofm 26 3 21,ofc 27 160 [.t 25,.t 26] 21,oF 28 (.un .not (.t 27)) 21,oPo 29 21 28] (oQ 29 (oH [oP 10 (.mv (.k (.nils))),oMi 11 0,oMi 12 1] .ret) .skip)) (oH [oM 31 0,oM 32 1,oM 33 2,oM 34 3,oM 35 4,oC 36 256 [.t 31,.t 32,.t 33,.t 34,.t 35],oM 30 36,oEx 37 30 0,oEx 38 30 1,oEx 39 30 2,oM 13 37,oM 14 38,oM 15 39] (oS (oH [oM 40 15,oBk 41 .neq 40 0] (oQ 41 (oH [oM 42 1,oC 43 69 [.t 42],oM 44 15,oM 10 43,oMi 11 0,oM 12 44] .ret) .skip)) (oH [oM 45 13,oC 46 69 [.t 45],oM 47 14,oM 48 15,oM 10 46,oM 11 47,oM 12 48] .ret)))))⟩
theorem wdc:ze Tryz.prog [] 232=some zeh:=yak9
def zhx:AFn:=⟨18,[.t 4],(oH [oBx 2 0,oMb 4 false] (oH [oLt 5 3 2,oC 6 305 [.t 5],oM 7 6,ota 8 0 2 7,otl 9 8 7,oT 10 (.bin .eql (.t 9) (kI 0)) 7,otm 11 10 7,ofa 12 0 2 11,ofl 13 12 11,ofm 14 1 11,oF 15 (.bin .eql (.t 13) (.t 14)) 11,oT 16 (.pick (.t 11) (.k (.bool true)) (.t 15)) 7,oPa 17 7 16,oM 4 17] .ret))⟩
def wgh:AFn:=⟨39,[.t 4],(oH [oBx 2 0,oP 4 (.mv (.k (.nils)))] (oH [oM 8 1,oC 9 85 [.t 8],oM 5 9] (oS (oH [oM 10 5,oLn 11 10,oMi 12 0] (.block 0 (.loop (oH [oBt 13 .lss 12 11] (oS (oQ 13 .skip (.exit 0)) (oS (.block 1 (oH [oM 14 12,oIa 15 3 10 12,oLt 16 3 15,oP 7 (.alloc [.int .i64 0,.int .i64 0,.str []]),oM 6 14,oSt 3 7 16] (oH [oFa 17 0 7,oLf 18 17,oBk 19 .eql 18 0,oM 20 19,ota 21 1 2 20,otl 22 21 20,otm 23 6 20,oti 24 6 22 23 20,ota 25 2 24 20,otl 26 25 20,oPa 27 20 26] (oQ 27 (oG [oM 28 5,oM 29 6,oFa 30 1 2,oLf 31 30,oM 32 6,oIa 33 6 31 32,oFa 34 3 33,oLt 35 3 34,oIa 36 3 28 29,oSt 3 36 35]) .skip)))) (oG [oBk 37 .add 12 1,oM 12 37]))))))) (oH [oM 38 5,oM 4 38] .ret))))⟩
theorem jeh:ze Tryz.prog [2] 234=some wgh:=yak9
def jfr:AFn:=⟨14,[.t 4],(oH [oBx 2 0,oMi 4 0] (oS (.block 0 (oH [oLt 6 6 2,oM 7 1,oC 8 220 [.t 6,.t 7],oM 5 8] (oQ 5 (oH [oMi 4 2] .ret) (oH [oLt 10 6 2,oM 11 1,oC 12 221 [.t 10,.t 11],oUn 13 12,oM 9 13] (oQ 9 (oH [oMi 4 3] .ret) .skip))))) (oH [oMi 4 0] .ret)))⟩
def zdd:AFn:=⟨25,[.t 4],(oH [oMi 4 0] (oH [oM 6 0,oNc 7 6,oFa 8 1 7,oLf 9 8,oM 10 1,oIa 11 1 9 10,oFa 12 0 11,oLf 13 12,oM 5 13] (oS (oH [oM 14 5,oLn 15 14,oBk 16 .eql 15 0] (oQ 16 (oH [oMi 4 1] .ret) .skip)) (oH [oM 17 5,oM 18 5,oLn 19 18,oBk 20 .sub 19 1,oIa 21 2 17 20,oFa 22 0 21,oLf 23 22,oBk 24 .add 23 1,oM 4 24] .ret))))⟩
theorem wch:ze Tryz.prog [] 236=some zdd:=yak9
def jc4:AFn:=⟨63,[.t 12],(oH [oMi 12 0] (oS (oD [[oM 17 0,oNc 18 17,oFa 19 0 18,oLf 20 19,oM 21 1,oIa 22 6 20 21,oLt 23 6 22,oM 24 0,oNc 25 24,oFa 26 1 25,oLf 27 26,oM 28 1,oIa 29 1 27 28,oFa 30 0 29,oLf 31 30,oM 32 2,oM 33 3],[oC 34 222 [.t 23,.t 31,.t 32,.t 33]],[oM 13 34]]) (oS (oH [oM 35 13,oLn 36 35,oBk 37 .gtr 36 0,oM 38 37,otm 39 4 38,oT 40 (.un .not (.t 39)) 38,oPa 41 38 40] (oQ 41 (oH [oMi 12 4] .ret) .skip)) (oS (oH [oM 42 13,oLn 43 42,oMi 44 0] (.block 0 (.loop (oH [oBt 45 .lss 44 43] (oS (oQ 45 .skip (.exit 0)) (oS (.block 1 (oH [oIa 46 1 42 44,oLf 47 46,oM 15 47] (oS (oH [oM 48 0,oM 49 1,oM 50 15,oC 51 84 [.t 48,.t 49,.t 50],oP 52 (.eq false false [.pt] (.t 51) (.k (.nilp)))] (oQ 52 (.exit 1) .skip)) (oH [oM 53 0,oM 54 1,oM 55 15,oM 56 5,oBk 57 .add 56 1,oC 58 281 [.t 53,.t 54,.t 55,.t 57],oM 16 58] (oH [oM 59 16,oBk 60 .neq 59 0] (oQ 60 (oH [oM 61 16,oM 12 61] .ret) .skip)))))) (oG [oBk 62 .add 44 1,oM 44 62]))))))) (oH [oMi 12 0] .ret)))))⟩
theorem wb8:ze Tryz.prog [] 237=some jc4:=yak9
def weh:AFn:=⟨57,[.t 6],(oH [oP 6 (.mv (.k (.nils)))] (oS (oH [oM 9 2,oBk 10 .eql 9 0,oM 11 10,ofm 12 0 11,ofc 13 225 [.t 12,(kI 4)] 11,oPo 14 11 13] (oQ 14 (oS (oH [oM 15 1,oBk 16 .gtr 15 0,oM 17 16,otm 18 0 17,otc 19 225 [.t 18,(kI 3)] 17,oT 20 (.un .not (.t 19)) 17,oPa 21 17 20] (oQ 21 (oH [oM 22 0,oM 23 1,oC 24 229 [.t 22,.t 23],oC 25 226 [.t 24],oP 26 (.mksl false 5 1 [.int .i64 0,.int .i64 0,.int .i64 0,.int .i64 0,.str []] [(0,(.t 25))]),oM 6 26] .ret) .skip)) (oH [oM 27 0,oC 28 304 [.t 27],oC 29 227 [.t 28],oP 30 (.mksl false 5 1 [.int .i64 0,.int .i64 0,.int .i64 0,.int .i64 0,.str []] [(0,(.t 29))]),oM 6 30] .ret)) .skip)) (oH [oM 31 0,oC 32 229 [.t 31,(kI 8)],oP 33 (.bin .add (kI 3) (.t 32)),oM 7 33] (oH [oM 34 0,oM 35 1,oM 36 2,oBk 37 .sub 36 1,oC 38 238 [.t 34,.t 35,.t 37],oM 8 38] (oS (oH [oM 39 7,oBk 40 .neq 39 7,oM 41 40,otm 42 7 41,oT 43 (.bin .neq (.t 42) (kI 8)) 41,oPa 44 41 43] (oQ 44 (oG [oM 45 8,oM 46 0,oM 47 1,oM 48 2,oBk 49 .sub 48 1,oC 50 238 [.t 46,.t 47,.t 49],oP 51 (.app 5 48 (.t 45) (.t 50)),oM 8 51]) .skip)) (oH [oM 52 8,oM 53 7,oP 54 (.build [.int .i64 0,.int .i64 0,.int .i64 0,.int .i64 0,.str []] [(0,1,(.t 53))]),oP 55 (.mksl true 5 1 [.int .i64 0,.int .i64 0,.int .i64 0,.int .i64 0,.str []] [(0,(.t 54))]),oP 56 (.app 5 48 (.t 52) (.t 55)),oM 6 56] .ret))))))⟩
theorem jdd:ze Tryz.prog [55] 238=some weh:=yak9
def zgi:AFn:=⟨40,[.t 4],(oH [oMb 4 false] (oS (oH [oM 8 0,oLn 9 8,oBk 10 .gtr 9 24,oM 11 10,ofm 12 1 11,ofc 13 177 [.t 12,(kI 0),(kI 16)] 11,oF 14 (.un .not (.t 13)) 11,oPo 15 11 14] (oQ 15 (oH [oMb 4 false] .ret) .skip)) (oH [oMi 5 0] (oS (oH [oM 16 0,oLn 17 16,oMi 18 0] (.block 0 (.loop (oH [oBt 19 .lss 18 17] (oS (oQ 19 .skip (.exit 0)) (oS (.block 1 (oH [oIa 20 5 16 18,oLt 21 5 20,oP 7 (.alloc [.int .i64 0,.int .i64 0,.int .i64 0,.int .i64 0,.str []]),oSt 5 7 21] (oS (oH [oLt 22 5 7,oM 23 1,oC 24 306 [.t 22,.t 23],oUn 25 24,oM 26 25,ofm 27 5 26,oF 28 (.load true 5 (.t 7)) 26,ofc 29 242 [.t 28] 26,oF 30 (.bin .lss (.t 27) (.t 29)) 26,oPo 31 26 30] (oQ 31 (oH [oMb 4 false] .ret) .skip)) (oG [oM 32 5,oLt 33 5 7,oC 34 242 [.t 33],oP 35 (.bin .sub (kI 1) (.t 34)),oBt 36 .add 32 35,oM 5 36])))) (oG [oBk 37 .add 18 1,oM 18 37]))))))) (oH [oM 38 5,oBk 39 .eql 38 1,oM 4 39] .ret)))))⟩
def wfr:AFn:=⟨48,[.t 4],(oH [oBx 2 0,oMi 4 0] (oS (oH [oFa 5 0 2,oLf 6 5,oBk 7 .neq 6 1,oM 8 7,ota 9 1 2 8,otl 10 9 8,oT 11 (.bin .neq (.t 10) (kI 0)) 8,oPa 12 8 11,oM 13 12,ofa 14 0 2 13,ofl 15 14 13,oF 16 (.bin .neq (.t 15) (kI 2)) 13,ofm 17 16 13,ota 18 2 2 17,oT 19 (.load true 3 (.t 18)) 17,oT 20 (.build [.int .i64 0,.int .i64 0,.str []] []) 17,oT 21 (.eq true true [.i,.i,.s] (.t 19) (.t 20)) 17,oF 22 (.pick (.t 17) (.t 21) (.k (.bool false))) 13,oPo 23 13 22] (oQ 23 (oH [oMi 4 (-1)] .ret) .skip)) (oS (oH [oFa 24 0 2,oLf 25 24] (.block 0 (oH [oBk 27 .eql 25 1,oM 26 27] (oQ 26 (oH [oFa 28 1 2,oLf 29 28,oM 30 1,oBk 31 .sub 30 1,oC 32 72 [.t 29,(kI 0),.t 31]] (oQ 32 (oH [oMi 4 0] .ret) .skip)) (oH [oBk 34 .eql 25 2,oM 33 34] (oQ 33 (oH [oFa 35 2 2,oLt 36 3 35,oC 37 253 [.t 36]] (oQ 37 (oH [oMi 4 0] .ret) .skip)) (oS (oH [oBk 39 .eql 25 7,oM 38 39] (oQ 38 .skip (oG [oBk 40 .eql 25 8,oM 38 40]))) (oQ 38 (oH [oMi 4 1] .ret) (oS (oH [oBk 42 .eql 25 3,oM 41 42] (oQ 41 .skip (oH [oBk 43 .eql 25 4,oM 41 43] (oQ 41 .skip (oH [oBk 44 .eql 25 5,oM 41 44] (oQ 41 .skip (oH [oBk 45 .eql 25 6,oM 41 45] (oQ 41 .skip (oH [oBk 46 .eql 25 9,oM 41 46] (oQ 41 .skip (oG [oBk 47 .eql 25 10,oM 41 47]))))))))))) (oQ 41 (oH [oMi 4 2] .ret) .skip)))))))))) (oH [oMi 4 (-1)] .ret))))⟩
def zfs:AFn:=⟨23,[.t 4],(oH [oMb 4 false] (oS (oH [oM 7 0,oLn 8 7,oMi 9 0] (.block 0 (.loop (oH [oBt 10 .lss 9 8] (oS (oQ 10 .skip (.exit 0)) (oS (.block 1 (oH [oM 11 9,oIa 12 3 7 9,oLt 13 3 12,oP 6 (.alloc [.int .i64 0,.int .i64 0,.str []]),oM 5 11,oSt 3 6 13] (oH [oM 14 5,oM 15 1,oBt 16 .eql 14 15,oM 17 16,oF 18 (.load true 3 (.t 6)) 17,ofc 19 305 [.t 18] 17,oF 20 (.un .not (.t 19)) 17,oPo 21 17 20] (oQ 21 (oH [oMb 4 false] .ret) .skip)))) (oG [oBk 22 .add 9 1,oM 9 22]))))))) (oH [oMb 4 true] .ret)))⟩
def zei:AFn:=⟨11,[.t 2],(oH [oBx 1 0,oMi 2 0] (oS (oH [oFa 3 0 1,oLf 4 3] (.block 0 (oS (oH [oBk 6 .eql 4 1,oM 5 6] (oQ 5 .skip (oG [oBk 7 .eql 4 2,oM 5 7]))) (oQ 5 (oH [oMi 2 0] .ret) (oS (oH [oBk 9 .eql 4 7,oM 8 9] (oQ 8 .skip (oG [oBk 10 .eql 4 8,oM 8 10]))) (oQ 8 (oH [oMi 2 1] .ret) .skip)))))) (oH [oMi 2 2] .ret)))⟩
def jei:AFn:=⟨114,[.m 6 true 3,.t 7],(oH [oBx 3 0,oP 6 (.alloc [.int .i64 0,.int .i64 0,.str []]),oMb 7 false] (oS (oH [oFa 8 0 3,oLf 9 8] (.block 0 (oH [oBk 11 .eql 9 1,oM 10 11] (oQ 10 (oH [oM 12 2,oFa 13 1 3,oLf 14 13,oIa 15 3 12 14,oLt 16 3 15,oSt 3 6 16,oMb 7 true] .ret) (oH [oBk 18 .eql 9 2,oM 17 18] (oQ 17 (oH [oFa 19 2 3,oLt 20 3 19,oSt 3 6 20,oMb 7 true] .ret) (oH [oBk 22 .eql 9 3,oM 21 22] (oQ 21 (oS (oD [[oM 23 1,oP 24 (.iaddr 3 (.t 23) (kI 0)),oLt 25 3 24,oM 26 1,oP 27 (.iaddr 3 (.t 26) (kI 1)),oLt 28 3 27],[oC 29 308 [.t 25,.t 28]],[oC 30 307 [.t 29]],[oEx 31 30 0,oEx 32 30 1],[oSt 3 6 31],[oM 7 32]]) .ret) (oH [oBk 34 .eql 9 4,oM 33 34] (oQ 33 (oS (oD [[oM 35 1,oP 36 (.iaddr 3 (.t 35) (kI 0)),oLt 37 3 36,oM 38 1,oP 39 (.iaddr 3 (.t 38) (kI 1)),oLt 40 3 39],[oC 41 309 [.t 37,.t 40]],[oC 42 307 [.t 41]],[oEx 43 42 0,oEx 44 42 1],[oSt 3 6 43],[oM 7 44]]) .ret) (oH [oBk 46 .eql 9 5,oM 45 46] (oQ 45 (oS (oD [[oM 47 1,oP 48 (.iaddr 3 (.t 47) (kI 0)),oLt 49 3 48,oC 50 147 [.t 49],oM 51 1,oP 52 (.iaddr 3 (.t 51) (kI 1)),oLt 53 3 52],[oC 54 147 [.t 53]],[oC 55 310 [.t 50,.t 54]],[oC 56 307 [.t 55]],[oEx 57 56 0,oEx 58 56 1],[oSt 3 6 57],[oM 7 58]]) .ret) (oH [oBk 60 .eql 9 6,oM 59 60] (oQ 59 (oS (oD [[oM 61 1,oP 62 (.iaddr 3 (.t 61) (kI 0)),oLt 63 3 62,oC 64 147 [.t 63],oM 65 1,oP 66 (.iaddr 3 (.t 65) (kI 1)),oLt 67 3 66],[oC 68 147 [.t 67]],[oC 69 311 [.t 64,.t 68]],[oC 70 307 [.t 69]],[oEx 71 70 0,oEx 72 70 1],[oSt 3 6 71],[oM 7 72]]) .ret) (oH [oBk 74 .eql 9 7,oM 73 74] (oQ 73 (oH [oM 75 1,oP 76 (.iaddr 3 (.t 75) (kI 0)),oLt 77 3 76,oC 78 147 [.t 77],oC 79 312 [.t 78],oC 80 307 [.t 79],oEx 81 80 0,oEx 82 80 1,oSt 3 6 81,oM 7 82] .ret) (oH [oBk 84 .eql 9 8,oM 83 84] (oQ 83 (oH [oM 85 1,oP 86 (.iaddr 3 (.t 85) (kI 0)),oFa 87 0 86,oLf 88 87,oBk 89 .eql 88 0,oC 90 244 [.t 89],oC 91 307 [.t 90],oEx 92 91 0,oEx 93 91 1,oSt 3 6 92,oM 7 93] .ret) (oH [oBk 95 .eql 9 9,oM 94 95] (oQ 94 (oS (oD [[oM 96 1,oP 97 (.iaddr 3 (.t 96) (kI 0)),oLt 98 3 97,oM 99 1,oP 100 (.iaddr 3 (.t 99) (kI 1)),oLt 101 3 100],[oC 102 313 [.t 98,.t 101,(kI 1)]],[oEx 103 102 0,oEx 104 102 1],[oSt 3 6 103],[oM 7 104]]) .ret) .skip)))))))))))))))))))) (oS (oD [[oM 105 1,oP 106 (.iaddr 3 (.t 105) (kI 0)),oLt 107 3 106,oM 108 1,oP 109 (.iaddr 3 (.t 108) (kI 1)),oLt 110 3 109],[oC 111 313 [.t 107,.t 110,(kI (-1))]],[oEx 112 111 0,oEx 113 111 1],[oSt 3 6 112],[oM 7 113]]) .ret)))⟩
theorem wau:ze Tryz.prog [3] 243=some jei:=yak9
def jfs:AFn:=⟨4,[.t 2],(oH [oMi 2 0] (oS (oH [oM 3 0] (oQ 3 (oH [oMi 2 1] .ret) .skip)) (oH [oMi 2 0] .ret)))⟩
def wfs:AFn:=⟨184,[.t 2],(oH [oBx 1 0,oMb 2 false] (oH [oFa 11 1 1,oLf 12 11,oLn 13 12,oM 3 13] (oS (oH [oFa 14 0 1,oLf 15 14,oC 16 206 [.t 15],oUn 17 16,oM 18 17,ofm 19 3 18,ofc 20 72 [.t 19,(kI 1),(kI 8)] 18,oF 21 (.un .not (.t 20)) 18,oPo 22 18 21,oM 23 22,ofa 24 2 1 23,ofl 25 24 23,ofm 26 3 23,ofc 27 314 [.t 25,.t 26] 23,oF 28 (.un .not (.t 27)) 23,oPo 29 23 28,oM 30 29,ofa 31 3 1 30,ofl 32 31 30,oF 33 (.len false (.t 32)) 30,oF 34 (.bin .gtr (.t 33) (kI 3)) 30,oPo 35 30 34,oM 36 35,ofa 37 4 1 36,ofl 38 37 36,oF 39 (.len false (.t 38)) 36,oF 40 (.bin .gtr (.t 39) (kI 3)) 36,oPo 41 36 40,oM 42 41,ofa 43 5 1 42,ofl 44 43 42,oF 45 (.len false (.t 44)) 42,oF 46 (.bin .gtr (.t 45) (kI 3)) 42,oPo 47 42 46] (oQ 47 (oH [oMb 2 false] .ret) .skip)) (oS (oH [oMi 4 0] (.block 0 (.loop (oS (oH [oM 48 4,oM 49 3,oBt 50 .lss 48 49] (oQ 50 .skip (.exit 0))) (oS (.block 1 (oH [oFa 53 1 1,oLf 54 53,oM 55 4,oIa 56 6 54 55,oLt 57 6 56,oP 5 (.alloc [.str [],.int .i64 0,.bool false,.int .i64 0,.int .i64 0,.str []]),oSt 6 5 57] (oS (oD [[oFa 58 0 5],[oLf 59 58],[oC 60 206 [.t 59]],[oUn 61 60],[oM 62 61],[ofa 63 1 1 62,ofl 64 63 62,ofm 65 4 62,oF 66 (.slice 6 (.t 64) none (some (.t 65)) none) 62,oF 67 (.build [.str [],.nils,.nils,.nils,.nils,.nils] [(1,1,(.t 66))]) 62,ofa 68 0 5 62,ofl 69 68 62],[ofc 70 315 [.t 67,.t 69] 62],[oF 71 (.bin .geq (.t 70) (kI 0)) 62],[oPo 72 62 71],[oM 73 72],[ofa 74 1 5 73],[ofl 75 74 73],[ofc 76 72 [.t 75,(kI 1),(kI 2)] 73],[oF 77 (.un .not (.t 76)) 73],[oPo 78 73 77],[oM 79 78],[ofa 80 3 5 79],[oF 81 (.load true 3 (.t 80)) 79],[ofc 82 253 [.t 81] 79],[oF 83 (.un .not (.t 82)) 79],[oPo 84 79 83],[oM 85 84],[ofa 86 3 5 85],[ofa 87 0 86 85],[ofl 88 87 85],[oF 89 (.bin .neq (.t 88) (kI 0)) 85],[ofm 90 89 85],[ota 91 3 5 90,ota 92 0 91 90,otl 93 92 90,ota 94 1 5 90,otl 95 94 90],[oT 96 (.bin .neq (.t 93) (.t 95)) 90],[oF 97 (.pick (.t 90) (.t 96) (.k (.bool false))) 85],[oPo 98 85 97]]) (oQ 98 (oH [oMb 2 false] .ret) .skip)))) (oG [oM 51 4,oBk 52 .add 51 1,oM 4 52])))))) (oS (oH [oMi 6 0] (.block 2 (.loop (oS (oH [oM 99 6,oFa 100 2 1,oLf 101 100,oLn 102 101,oBt 103 .lss 99 102] (oQ 103 .skip (.exit 2))) (oS (.block 3 (oS (oD [[oFa 106 1 1,oLf 107 106,oFa 108 2 1,oLf 109 108,oM 110 6,oIa 111 1 109 110,oLf 112 111],[oIa 113 6 107 112],[oFa 114 2 113],[oLf 115 114],[oUn 116 115]]) (oQ 116 (oH [oMb 2 false] .ret) .skip))) (oG [oM 104 6,oBk 105 .add 104 1,oM 6 105])))))) (oS (oH [oMi 7 0] (.block 4 (.loop (oS (oH [oM 117 7,oFa 118 3 1,oLf 119 118,oLn 120 119,oBt 121 .lss 117 120] (oQ 121 .skip (.exit 4))) (oS (.block 5 (oH [oFa 124 3 1,oLf 125 124,oM 126 7,oIa 127 1 125 126,oFa 128 0 127,oLf 129 128,oM 130 3,oC 131 314 [.t 129,.t 130],oUn 132 131] (oQ 132 (oH [oMb 2 false] .ret) .skip))) (oG [oM 122 7,oBk 123 .add 122 1,oM 7 123])))))) (oS (oH [oMi 8 0] (.block 6 (.loop (oS (oH [oM 133 8,oFa 134 4 1,oLf 135 134,oLn 136 135,oBt 137 .lss 133 136] (oQ 137 .skip (.exit 6))) (oS (.block 7 (oH [oFa 140 4 1,oLf 141 140,oM 142 8,oIa 143 1 141 142,oFa 144 0 143,oLf 145 144,oM 146 3,oC 147 145 [.t 145,.t 146],oUn 148 147] (oQ 148 (oH [oMb 2 false] .ret) .skip))) (oG [oM 138 8,oBk 139 .add 138 1,oM 8 139])))))) (oS (oH [oMi 9 0] (.block 8 (.loop (oS (oH [oM 149 9,oFa 150 5 1,oLf 151 150,oLn 152 151,oBt 153 .lss 149 152] (oQ 153 .skip (.exit 8))) (oS (.block 9 (oH [oFa 156 5 1,oLf 157 156,oM 158 9,oIa 159 5 157 158,oLt 160 5 159,oP 10 (.alloc [.nils,.str [],.int .i64 0,.int .i64 0,.bool false]),oSt 5 10 160] (oH [oFa 161 0 10,oLf 162 161,oM 163 3,oC 164 314 [.t 162,.t 163],oUn 165 164,oM 166 165,ofa 167 1 10 166,ofl 168 167 166,ofc 169 206 [.t 168] 166,oF 170 (.un .not (.t 169)) 166,oPo 171 166 170,oM 172 171,ofa 173 2 10 172,ofl 174 173 172,ofc 175 72 [.t 174,(kI 0),(kI 2)] 172,oF 176 (.un .not (.t 175)) 172,oPo 177 172 176,oM 178 177,ofa 179 3 10 178,ofl 180 179 178,ofc 181 72 [.t 180,(kI 0),(kI 2)] 178,oF 182 (.un .not (.t 181)) 178,oPo 183 178 182] (oQ 183 (oH [oMb 2 false] .ret) .skip)))) (oG [oM 154 9,oBk 155 .add 154 1,oM 9 155])))))) (oH [oMb 2 true] .ret)))))))))⟩
def wg6:AFn:=⟨31,[.t 2],(oH [oBx 1 0,oMb 2 false] (oS (oH [oFa 3 0 1,oLf 4 3] (.block 0 (oH [oBk 6 .eql 4 0,oM 5 6] (oQ 5 (oH [oLt 7 3 1,oP 8 (.build [.int .i64 0,.int .i64 0,.str []] []),oP 9 (.eq false true [.i,.i,.s] (.t 7) (.t 8)),oM 2 9] .ret) (oH [oBk 11 .eql 4 1,oM 10 11] (oQ 10 (oH [oFa 12 1 1,oLf 13 12,oC 14 72 [.t 13,(kI (-1000000000)),(kI 1000000000)],oM 15 14,ota 16 2 1 15,otl 17 16 15,oT 18 (.bin .eql (.t 17) (.k (.str []))) 15,oPa 19 15 18,oM 2 19] .ret) (oH [oBk 21 .eql 4 2,oM 20 21] (oQ 20 (oH [oFa 22 1 1,oLf 23 22,oBk 24 .eql 23 0,oM 25 24,ota 26 2 1 25,otl 27 26 25,oT 28 (.len true (.t 27)) 25,oT 29 (.bin .leq (.t 28) (kI 12)) 25,oPa 30 25 29,oM 2 30] .ret) .skip)))))))) (oH [oMb 2 false] .ret)))⟩
def jgi:AFn:=⟨107,[.m 4 true 3,.t 5],(oH [oP 4 (.alloc [.int .i64 0,.int .i64 0,.str []]),oMb 5 false] (oH [oP 14 (.mksl false 3 0 [.int .i64 0,.int .i64 0,.str []] []),oM 6 14] (oS (oH [oMi 7 0] (.block 0 (.loop (oS (oH [oM 15 7,oM 16 0,oLn 17 16,oBt 18 .lss 15 17] (oQ 18 .skip (.exit 0))) (oS (.block 1 (oH [oM 21 6,oLn 22 21,oM 8 22] (oH [oP 23 (.build [.int .i64 0,.int .i64 0,.str []] []),oP 9 (.alloc [.int .i64 0,.int .i64 0,.str []]),oSt 3 9 23] (oH [oMb 10 true] (oH [oMi 11 0] (oS (oH [oM 24 0,oM 25 7,oIa 26 5 24 25,oFa 27 0 26,oLf 28 27] (.block 2 (oH [oBk 49 .eql 28 1,oM 48 49] (oQ 48 (oG [oM 50 1,oM 51 0,oM 52 7,oIa 53 5 51 52,oFa 54 1 53,oLf 55 54,oIa 56 3 50 55,oLt 57 3 56,oSt 3 9 57]) (oH [oBk 59 .eql 28 2,oM 58 59] (oQ 58 (oG [oM 60 0,oM 61 7,oIa 62 5 60 61,oFa 63 2 62,oLt 64 3 63,oSt 3 9 64]) (oH [oBk 66 .eql 28 8,oM 65 66] (oQ 65 (oH [oM 67 6,oM 68 8,oBk 69 .sub 68 1,oIa 70 3 67 69,oFa 71 0 70,oLf 72 71,oBk 73 .eql 72 0,oC 74 316 [.t 73],oC 75 224 [.t 74],oSt 3 9 75] (oG [oMi 11 1])) (oH [oBk 77 .eql 28 7,oM 76 77] (oQ 76 (oH [oM 79 6,oM 80 8,oBk 81 .sub 80 1,oIa 82 3 79 81,oLt 83 3 82,oC 84 255 [.t 83],oM 78 84,oEx 85 78 0,oEx 86 78 1,oM 12 85,oM 13 86] (oH [oM 87 12,oC 88 318 [.t 87],oC 89 317 [.t 88],oSt 3 9 89] (oH [oM 90 13,oM 10 90] (oG [oMi 11 1])))) (oS (oD [[oM 30 0,oM 31 7,oIa 32 5 30 31,oFa 33 0 32,oLf 34 33,oM 35 6,oM 36 8,oBk 37 .sub 36 2,oIa 38 3 35 37,oLt 39 3 38,oM 40 6,oM 41 8,oBk 42 .sub 41 1,oIa 43 3 40 42,oLt 44 3 43],[oC 45 319 [.t 34,.t 39,.t 44]],[oM 29 45],[oEx 46 29 0,oEx 47 29 1,oSt 3 9 46],[oM 10 47]]) (oG [oMi 11 2])))))))))))) (oS (oH [oM 91 10,oUn 92 91] (oQ 92 (oH [oP 93 (.build [.int .i64 0,.int .i64 0,.str []] []),oSt 3 4 93,oMb 5 false] .ret) .skip)) (oD [[oP 94 (.mksl false 3 0 [.int .i64 0,.int .i64 0,.str []] []),oM 95 6,oM 96 8,oM 97 11,oBt 98 .sub 96 97,oP 99 (.slice 3 (.t 95) none (some (.t 98)) none),oP 100 (.app 3 32 (.t 94) (.t 99)),oLt 101 3 9,oP 102 (.mksl true 3 1 [.int .i64 0,.int .i64 0,.str []] [(0,(.t 101))])],[oP 103 (.app 3 32 (.t 100) (.t 102))],[oM 6 103]])))))))) (oG [oM 19 7,oBk 20 .add 19 1,oM 7 20])))))) (oH [oM 104 6,oP 105 (.iaddr 3 (.t 104) (kI 0)),oLt 106 3 105,oSt 3 4 106,oMb 5 true] .ret))))⟩
def jhx:AFn:=⟨14,[.t 2,.t 3],(oH [oBx 1 0,oMi 2 0,oMb 3 false] (oS (oH [oFa 4 0 1,oLf 5 4] (.block 0 (oH [oBk 7 .eql 5 0,oM 6 7] (oQ 6 (oH [oMi 2 2,oMb 3 true] .ret) (oH [oBk 9 .eql 5 1,oM 8 9] (oQ 8 (oH [oFa 10 1 1,oLf 11 10,oBk 12 .neq 11 0,oC 13 316 [.t 12],oM 2 13,oMb 3 true] .ret) .skip)))))) (oH [oMi 2 0,oMb 3 false] .ret)))⟩
def we0:AFn:=⟨81,[.t 10,.t 11,.t 12],(oH [oP 10 (.mv (.k (.nils))),oMi 11 0,oMi 12 0] (oH [oM 16 0,oM 17 2,oIa 18 6 16 17,oLt 19 6 18,oP 13 (.alloc [.str [],.nils,.nils,.nils,.nils,.nils]),oSt 6 13 19] (oS (oH [oM 20 4] (oQ 20 (oG [oLt 21 6 13,oM 22 3,oC 23 320 [.t 21,.t 22],oM 3 23]) .skip)) (oH [oLt 24 6 13,oM 25 3,oC 26 321 [.t 24,.t 25],oM 14 26] (oS (oH [oM 27 14,oBk 28 .neq 27 0] (oQ 28 (oH [oM 29 14,oP 10 (.mv (.k (.nils))),oMi 11 0,oM 12 29] .ret) .skip)) (oH [oM 30 1,oM 31 2,oIa 32 1 30 31,oLt 33 1 32,oC 34 164 [.t 33],oM 35 3,oC 36 162 [.t 35],oP 37 (.build [.int .i64 0,.nils] [(0,1,(.t 34)),(1,1,(.t 36))]),oP 15 (.alloc [.int .i64 0,.nils]),oSt 2 15 37] (oH [oM 39 0,oM 40 1,oM 41 2,oLt 42 2 15,oM 43 4,oC 44 322 [.t 39,.t 40,.t 41,.t 42,.t 43,(kI 0)],oM 38 44,oEx 45 38 0,oEx 46 38 1,oM 1 45,oM 14 46] (oS (oH [oM 47 14,oBk 48 .neq 47 0] (oQ 48 (oH [oM 49 14,oP 10 (.mv (.k (.nils))),oMi 11 0,oM 12 49] .ret) .skip)) (oS (oH [oM 50 1,oM 51 2,oIa 52 1 50 51,oFa 53 0 52,oLf 54 53,oLn 55 54,oBk 56 .eql 55 60,oM 57 56,ofa 58 0 15 57,ofl 59 58 57,oF 60 (.bin .gtr (.t 59) (kI 1000000000)) 57,oPo 61 57 60] (oQ 61 (oH [oP 10 (.mv (.k (.nils))),oMi 11 0,oMi 12 7] .ret) .skip)) (oS (oD [[oM 62 1,oM 63 2,oM 64 1,oM 65 2,oIa 66 1 64 65,oLt 67 1 66,oLt 68 2 15,oC 69 324 [.t 67,.t 68]],[oC 70 323 [.t 62,.t 63,.t 69]],[oM 1 70]]) (oS (oH [oM 71 0,oM 72 1,oM 73 2,oFa 74 1 15,oLf 75 74,oC 76 325 [.t 71,.t 72,.t 73,.t 75,(.k (.bool true))],oUn 77 76] (oQ 77 (oH [oP 10 (.mv (.k (.nils))),oMi 11 0,oMi 12 5] .ret) .skip)) (oS (oD [[oM 78 1,oFa 79 0 15,oLf 80 79,oM 10 78],[oM 11 80],[oMi 12 0]]) .ret))))))))))))⟩
theorem zbu:ze Tryz.prog [] 256=some we0:=yak9
def ze1:AFn:=⟨57,[.t 10,.t 11],(oH [oP 10 (.mv (.k (.nils))),oMi 11 0] (oS (oH [oM 15 4,oBk 16 .gtr 15 12] (oQ 16 (oH [oP 10 (.mv (.k (.nils))),oMi 11 6] .ret) .skip)) (oS (oD [[oM 17 1,oM 18 2,oIa 19 1 17 18,oFa 20 0 19,oLf 21 20,oM 22 1,oM 23 2,oIa 24 1 22 23,oLt 25 1 24,oM 26 3,oC 27 70 [.t 25,.t 26],oIa 28 2 21 27,oLt 29 2 28,oP 12 (.alloc [.int .i64 0,.nils])],[oSt 2 12 29]]) (oS (oD [[oM 31 0,oM 32 2,oIa 33 6 31 32,oFa 34 2 33,oLf 35 34,oFa 36 1 12,oLf 37 36],[oC 38 326 [.t 35,.t 37]],[oM 30 38],[oEx 39 30 0,oEx 40 30 1,oM 13 39],[oM 14 40]]) (oH [oM 41 0,oM 42 1,oM 43 2,oM 44 1,oM 45 2,oIa 46 1 44 45,oLt 47 1 46,oM 48 3,oC 49 328 [.t 47,.t 48],oC 50 323 [.t 42,.t 43,.t 49],oM 51 2,oM 52 13,oM 53 4,oC 54 327 [.t 41,.t 50,.t 51,.t 52,(.k (.nils)),(.k (.bool true)),.t 53],oEx 55 54 0,oEx 56 54 1,oM 10 55,oM 11 56] .ret)))))⟩
theorem jbu:ze Tryz.prog [] 257=some ze1:=yak9
def je1:AFn:=⟨61,[.t 6,.t 7],(oH [oBx 3 0,oP 6 (.mv (.k (.nils))),oMb 7 false] (oH [oM 12 1,oC 13 162 [.t 12],oM 8 13] (oS (oH [oMi 9 0] (.block 0 (.loop (oS (oH [oM 14 9,oM 15 2,oLn 16 15,oBt 17 .lss 14 16] (oQ 17 .skip (.exit 0))) (oS (.block 1 (oH [oM 21 2,oM 22 9,oIa 23 2 21 22,oFa 24 1 23,oLf 25 24,oM 26 1,oC 27 254 [.t 25,.t 26],oM 20 27,oEx 28 20 0,oEx 29 20 1,oP 10 (.alloc [.int .i64 0,.int .i64 0,.str []]),oSt 3 10 28,oM 11 29] (oS (oS (oD [[oM 30 11],[oUn 31 30],[oM 32 31],[ofa 33 0 10 32],[ofl 34 33 32],[oF 35 (.bin .neq (.t 34) (kI 0)) 32],[ofm 36 35 32],[ota 37 0 10 36,otl 38 37 36,ota 39 1 3 36,otl 40 39 36,otm 41 2 36,otm 42 9 36,oti 43 2 41 42 36,ota 44 0 43 36,otl 45 44 36,oti 46 6 40 45 36,ota 47 1 46 36,otl 48 47 36],[oT 49 (.bin .neq (.t 38) (.t 48)) 36],[oF 50 (.pick (.t 36) (.t 49) (.k (.bool false))) 32],[oPo 51 32 50]]) (oQ 51 (oH [oP 6 (.mv (.k (.nils))),oMb 7 false] .ret) .skip)) (oD [[oM 52 8,oM 53 2,oM 54 9,oIa 55 2 53 54,oFa 56 0 55,oLf 57 56,oLt 58 3 10],[oIa 59 3 52 57],[oSt 3 59 58]])))) (oG [oM 18 9,oBk 19 .add 18 1,oM 9 19])))))) (oH [oM 60 8,oM 6 60,oMb 7 true] .ret))))⟩
def we1:AFn:=⟨137,[.t 14,.t 15],(oH [oP 14 (.mv (.k (.nils))),oMi 15 0] (oS (oH [oM 24 6,oBk 25 .gtr 24 12] (oQ 25 (oH [oP 14 (.mv (.k (.nils))),oMi 15 6] .ret) .skip)) (oH [oM 26 0,oM 27 2,oIa 28 6 26 27,oLt 29 6 28,oP 16 (.alloc [.str [],.nils,.nils,.nils,.nils,.nils]),oSt 6 16 29] (oS (oH [oM 30 5] (oQ 30 (oG [oLt 31 6 16,oM 32 4,oC 33 320 [.t 31,.t 32],oM 4 33]) .skip)) (oH [oLt 34 6 16,oM 35 4,oC 36 321 [.t 34,.t 35],oM 17 36] (oS (oH [oM 37 17,oBk 38 .neq 37 0] (oQ 38 (oH [oM 39 17,oP 14 (.mv (.k (.nils))),oM 15 39] .ret) .skip)) (oH [oM 40 3,oM 41 4,oP 42 (.build [.int .i64 0,.nils] [(0,1,(.t 40)),(1,1,(.t 41))]),oP 18 (.alloc [.int .i64 0,.nils]),oSt 2 18 42] (oH [oM 44 0,oM 45 1,oM 46 2,oLt 47 2 18,oM 48 5,oM 49 6,oC 50 322 [.t 44,.t 45,.t 46,.t 47,.t 48,.t 49],oM 43 50,oEx 51 43 0,oEx 52 43 1,oM 1 51,oM 17 52] (oS (oH [oM 53 17,oBk 54 .neq 53 0] (oQ 54 (oH [oM 55 17,oP 14 (.mv (.k (.nils))),oM 15 55] .ret) .skip)) (oH [oM 56 1,oM 57 2,oIa 58 1 56 57,oLt 59 1 58,oM 60 3,oC 61 70 [.t 59,.t 60],oM 19 61] (oS (oH [oM 62 19,oBk 63 .lss 62 0] (oQ 63 (oH [oP 14 (.mv (.k (.nils))),oMi 15 9] .ret) .skip)) (oS (oD [[oFa 65 2 16,oLf 66 65,oM 67 1,oM 68 2,oIa 69 1 67 68,oFa 70 0 69,oLf 71 70,oM 72 19,oIa 73 2 71 72,oFa 74 1 73,oLf 75 74],[oC 76 326 [.t 66,.t 75]],[oM 64 76],[oEx 77 64 0,oEx 78 64 1,oM 20 77],[oM 21 78]]) (oH [oFa 80 2 16,oLf 81 80,oM 82 4,oC 83 326 [.t 81,.t 82],oM 79 83,oEx 84 79 0,oEx 85 79 1,oM 22 84,oM 23 85] (oS (oD [[oM 86 1,oM 87 2,oM 88 1,oM 89 2,oIa 90 1 88 89,oLt 91 1 90,oLt 92 2 18,oC 93 324 [.t 91,.t 92]],[oC 94 323 [.t 86,.t 87,.t 93]],[oM 1 94]]) (oS (oH [oM 95 20,oM 96 22,oC 97 329 [.t 95,.t 96],oUn 98 97] (oQ 98 (oH [oM 100 0,oM 101 1,oM 102 2,oM 103 20,oM 104 22,oM 105 6,oC 106 327 [.t 100,.t 101,.t 102,.t 103,.t 104,(.k (.bool false)),.t 105],oM 99 106,oEx 107 99 0,oEx 108 99 1,oM 1 107,oM 17 108] (oH [oM 109 17,oBk 110 .neq 109 0] (oQ 110 (oH [oM 111 17,oP 14 (.mv (.k (.nils))),oM 15 111] .ret) .skip))) .skip)) (oH [oM 112 1,oM 113 2,oIa 114 1 112 113,oLt 115 1 114,oM 116 3,oC 117 70 [.t 115,.t 116],oM 19 117] (oS (oH [oM 118 19,oBk 119 .geq 118 0,oM 120 119,otm 121 0 120,otm 122 1 120,otm 123 2 120,otm 124 1 120,otm 125 2 120,oti 126 1 124 125 120,ota 127 0 126 120,otl 128 127 120,otm 129 19 120,oti 130 2 128 129 120,ota 131 1 130 120,otl 132 131 120,otc 133 325 [.t 121,.t 122,.t 123,.t 132,(.k (.bool true))] 120,oT 134 (.un .not (.t 133)) 120,oPa 135 120 134] (oQ 135 (oH [oP 14 (.mv (.k (.nils))),oMi 15 5] .ret) .skip)) (oH [oM 136 1,oM 14 136,oMi 15 0] .ret))))))))))))))))))⟩
theorem wbu:ze Tryz.prog [] 259=some we1:=yak9
def zft:AFn:=⟨72,[.t 12],(oH [oP 12 (.mv (.k (.nils)))] (oH [oP 15 (.mksl false 1 0 [.int .i64 0] []),oM 13 15] (oS (oH [oMi 14 0] (.block 0 (.loop (oS (oH [oM 16 14,oM 17 1,oLn 18 17,oBt 19 .lss 16 18] (oQ 19 .skip (.exit 0))) (oS (.block 1 (oS (oD [[oM 22 1,oM 23 14,oIa 24 5 22 23,oFa 25 0 24,oLf 26 25,oM 27 0,oM 28 2,oIa 29 6 27 28,oFa 30 0 29,oLf 31 30],[oBt 32 .eql 26 31],[oM 33 32],[otm 34 1 33,otm 35 14 33,oti 36 5 34 35 33,ota 37 1 36 33,otl 38 37 33,otm 39 3 33],[oT 40 (.bin .eql (.t 38) (.t 39)) 33],[oPa 41 33 40],[oM 42 41],[otm 43 1 42,otm 44 14 42],[oti 45 5 43 44 42],[ota 46 2 45 42],[otl 47 46 42],[oT 48 (.len false (.t 47)) 42],[oT 49 (.bin .eql (.t 48) (kI 0)) 42],[otm 50 49 42],[ofm 51 1 50,ofm 52 14 50,ofi 53 5 51 52 50,ofa 54 2 53 50,ofl 55 54 50,ofm 56 0 50,ofm 57 2 50,ofi 58 6 56 57 50,oF 59 (.load true 6 (.t 58)) 50,ofm 60 4 50,ofm 61 5 50,ofc 62 261 [.t 59,.t 60,.t 61] 50],[ofc 63 161 [.t 55,.t 62] 50],[oF 64 (.bin .eql (.t 63) (kI 1)) 50],[oT 65 (.pick (.t 50) (.k (.bool true)) (.t 64)) 42],[oPa 66 42 65]]) (oQ 66 (oG [oM 67 13,oM 68 14,oP 69 (.mksl true 1 1 [.int .i64 0] [(0,(.t 68))]),oP 70 (.app 1 8 (.t 67) (.t 69)),oM 13 70]) .skip))) (oG [oM 20 14,oBk 21 .add 20 1,oM 14 21])))))) (oH [oM 71 13,oM 12 71] .ret))))⟩
theorem zdz:ze Tryz.prog [69] 260=some zft:=yak9
def wgi:AFn:=⟨24,[.t 6],(oH [oBx 3 0,oP 6 (.mv (.k (.nils)))] (oH [oFa 8 1 3,oLf 9 8,oLn 10 9,oP 11 (.bin .mul (kI 2) (.t 10)),oP 12 (.mkslice 3 32 [.int .i64 0,.int .i64 0,.str []] (.t 11) (.t 11)),oM 7 12] (oH [oM 13 7,oM 14 1,oP 15 (.copy 3 (.t 13) (.t 14))] (oH [oM 16 7,oFa 17 1 3,oLf 18 17,oLn 19 18,oP 20 (.slice 3 (.t 16) (some (.t 19)) none none),oM 21 2,oP 22 (.copy 3 (.t 20) (.t 21))] (oH [oM 23 7,oM 6 23] .ret)))))⟩
def jft:AFn:=⟨68,[.t 2],(oH [oBx 1 0,oMb 2 false] (oH [oFa 4 1 1,oLf 5 4,oLn 6 5,oP 3 (.alloc [.int .i64 0]),oSt 1 3 6] (oS (oH [oFa 7 0 1,oLf 8 7,oC 9 123 [.t 8],oUn 10 9,oM 11 10,ofa 12 1 1 11,ofl 13 12 11,ofc 14 330 [.t 13] 11,oF 15 (.un .not (.t 14)) 11,oPo 16 11 15,oM 17 16,ofa 18 2 1 17,ofl 19 18 17,ofl 20 3 17,ofc 21 331 [.t 19,.t 20] 17,oF 22 (.un .not (.t 21)) 17,oPo 23 17 22,oM 24 23,ofa 25 3 1 24,ofl 26 25 24,oF 27 (.len false (.t 26)) 24,oF 28 (.bin .gtr (.t 27) (kI 3)) 24,oPo 29 24 28,oM 30 29,ofa 31 4 1 30,ofl 32 31 30,oF 33 (.len false (.t 32)) 30,oF 34 (.bin .gtr (.t 33) (kI 3)) 30,oPo 35 30 34,oM 36 35,ofa 37 5 1 36,ofl 38 37 36,oF 39 (.len false (.t 38)) 36,oF 40 (.bin .gtr (.t 39) (kI 3)) 36,oPo 41 36 40] (oQ 41 (oH [oMb 2 false] .ret) .skip)) (oH [oFa 42 2 1,oLf 43 42,oP 44 (.mkfn 333 [] [.t 1]),oC 45 332 [.t 43,.t 44],oUn 46 45,oM 47 46,ota 48 3 1 47,otl 49 48 47,oT 50 (.mkfn 335 [] [.t 3]) 47,otc 51 334 [.t 49,.t 50] 47,oT 52 (.un .not (.t 51)) 47,oPa 53 47 52,oM 54 53,ota 55 4 1 54,otl 56 55 54,oT 57 (.mkfn 336 [] [.t 3]) 54,otc 58 293 [.t 56,.t 57] 54,oT 59 (.un .not (.t 58)) 54,oPa 60 54 59,oM 61 60,ota 62 5 1 61,otl 63 62 61,oT 64 (.mkfn 337 [] [.t 3]) 61,otc 65 272 [.t 63,.t 64] 61,oT 66 (.un .not (.t 65)) 61,oPa 67 61 66,oM 2 67] .ret))))⟩
def wbl:AFn:=⟨9,[.t 4],(oH [oMb 4 false] (oH [oM 5 0,oM 6 1,oC 7 132 [.t 5,.t 6],oBk 8 .geq 7 0,oM 4 8] .ret))⟩
theorem jba:ze Tryz.prog [] 270=some wbl:=yak9
def jdz:AFn:=⟨8,[.t 3],(oH [oBx 2 0,oMb 3 false] (oH [oFa 4 5 2,oLf 5 4,oP 6 (.mkfn 273 [] [.t 1,.t 2]),oC 7 272 [.t 5,.t 6],oM 3 7] .ret))⟩
def zb1:AFn:=⟨9,[.t 4],(oH [oMb 4 false] (oH [oM 5 0,oM 6 1,oC 7 339 [.t 5,.t 6],oBk 8 .geq 7 0,oM 4 8] .ret))⟩
theorem w7:ze Tryz.prog [] 272=some zb1:=yak9
def wdd:AFn:=⟨10,[.t 4],(oH [oBx 3 0,oMb 4 false] (oH [oLf 5 1,oLt 6 6 2,oLt 7 5 3,oC 8 274 [.t 5,.t 6,.t 7],oUn 9 8,oM 4 9] .ret))⟩
def zg7:AFn:=⟨60,[.t 6],(oH [oBx 4 1,oBx 5 2,oMb 6 false] (oH [oM 10 0,oFa 11 1 5,oLf 12 11,oC 13 48 [.t 10,.t 12],oM 7 13] (oS (oS (oD [[oM 14 7],[oBk 15 .lss 14 0],[oM 16 15],[ofm 17 0 16,ofm 18 7 16,ofi 19 6 17 18 16,ofa 20 2 19 16,ofl 21 20 16,oF 22 (.len false (.t 21)) 16,ofa 23 0 5 16,ofl 24 23 16,oF 25 (.len false (.t 24)) 16],[oF 26 (.bin .neq (.t 22) (.t 25)) 16],[oPo 27 16 26]]) (oQ 27 (oH [oMb 6 false] .ret) .skip)) (oS (oH [oFa 28 0 5,oLf 29 28,oLn 30 29,oMi 31 0] (.block 0 (.loop (oH [oBt 32 .lss 31 30] (oS (oQ 32 .skip (.exit 0)) (oS (.block 1 (oH [oM 33 31,oIa 34 1 29 31,oLf 35 34,oM 8 33,oM 9 35] (oS (oD [[oM 36 0,oM 37 7,oIa 38 6 36 37,oFa 39 1 38,oLf 40 39,oM 41 0,oM 42 7,oIa 43 6 41 42,oFa 44 2 43,oLf 45 44,oM 46 8,oIa 47 1 45 46,oLf 48 47,oIa 49 6 40 48,oFa 50 1 49,oLf 51 50,oFa 52 1 4,oLf 53 52,oM 54 9,oIa 55 6 53 54,oFa 56 1 55,oLf 57 56],[oBt 58 .neq 51 57]]) (oQ 58 (oH [oMb 6 false] .ret) .skip)))) (oG [oBk 59 .add 31 1,oM 31 59]))))))) (oH [oMb 6 true] .ret)))))⟩
def wbx:AFn:=⟨9,[.t 4],(oH [oMb 4 false] (oH [oM 5 0,oM 6 1,oC 7 340 [.t 5,.t 6],oBk 8 .geq 7 0,oM 4 8] .ret))⟩
theorem jbg:ze Tryz.prog [] 275=some wbx:=yak9
def wei:AFn:=⟨9,[.t 3],(oH [oBx 2 0,oMb 3 false] (oH [oFa 4 0 2,oLf 5 4,oFa 6 0 1,oLf 7 6,oBt 8 .eql 5 7,oM 3 8] .ret))⟩
def jbq:AFn:=⟨19,[.t 4],(oH [oMi 4 0] (oS (oH [oM 6 0,oLn 7 6,oMi 8 0] (.block 0 (.loop (oH [oBt 9 .lss 8 7] (oS (oQ 9 .skip (.exit 0)) (oS (.block 1 (oH [oM 10 8,oM 5 10] (oH [oM 11 1,oM 12 0,oM 13 5,oIa 14 5 12 13,oLt 15 5 14,⟨some 16,.call (.t 11) [.t 15],none⟩] (oQ 16 (oH [oM 17 5,oM 4 17] .ret) .skip)))) (oG [oBk 18 .add 8 1,oM 8 18]))))))) (oH [oMi 4 (-1)] .ret)))⟩
theorem jbd:ze Tryz.prog [] 277=some jbq:=yak9
def ze2:AFn:=⟨9,[.t 4],(oH [oBx 3 1,oMb 4 false] (oH [oM 5 0,oP 6 (.mkfn 342 [] [.t 3]),oC 7 341 [.t 5,.t 6],oUn 8 7,oM 4 8] .ret))⟩
def zdn:AFn:=⟨26,[.t 6],(oH [oMi 6 0] (oH [oM 10 0,oLf 11 1,oFa 12 1 2,oLf 13 12,oLf 14 3,oC 15 138 [.t 10,.t 11,.t 13,.t 14],oM 9 15,oEx 16 9 0,oEx 17 9 1,oM 7 16,oM 8 17] (oS (oH [oM 18 7,oBk 19 .neq 18 0] (oQ 19 (oH [oM 20 7,oM 6 20] .ret) .skip)) (oH [oLf 21 4,oM 22 0,oLf 23 1,oM 24 8,⟨some 25,.call (.t 21) [.t 22,.t 23,(.k (.nils)),.t 24],none⟩,oM 6 25] .ret))))⟩
theorem wba:ze Tryz.prog [] 279=some zdn:=yak9
def jdn:AFn:=⟨58,[.t 8],(oH [oMi 8 0] (oH [oM 14 0,oLf 15 1,oLf 16 2,oC 17 84 [.t 14,.t 15,.t 16],oM 9 17] (oS (oH [oM 18 9,oP 19 (.eq false false [.pt] (.t 18) (.k (.nilp)))] (oQ 19 (oH [oMi 8 (-1)] .ret) .skip)) (oH [oM 20 9,oNc 21 20,oFa 22 1 21,oLf 23 22,oC 24 85 [.t 23],oM 10 24,oMi 11 8] (oS (oH [oFa 25 0 3,oLf 26 25,oBk 27 .eql 26 3] (oQ 27 (oG [oM 28 0,oLf 29 1,oLf 30 2,oC 31 281 [.t 28,.t 29,.t 30,(kI 0)],oM 11 31]) (oS (oD [[oLt 33 6 3,oLf 34 4,oLf 35 1,oIa 36 6 34 35,oLt 37 6 36,oM 38 10],[oC 39 282 [.t 33,.t 37,.t 38]],[oM 32 39],[oEx 40 32 0,oEx 41 32 1,oM 12 40],[oM 13 41]]) (oH [oM 42 13] (oQ 42 (oG [oM 43 0,oLf 44 1,oLf 45 2,oM 46 12,oLf 47 5,oC 48 283 [.t 43,.t 44,.t 45,.t 46,.t 47,(kI 0)],oM 11 48]) .skip))))) (oS (oH [oM 49 11,oBk 50 .neq 49 0] (oQ 50 (oH [oM 51 11,oM 8 51] .ret) .skip)) (oH [oLf 52 6,oM 53 0,oLf 54 1,oM 55 10,oLf 56 2,⟨some 57,.call (.t 52) [.t 53,.t 54,.t 55,.t 56],none⟩,oM 8 57] .ret)))))))⟩
theorem zbb:ze Tryz.prog [] 280=some jdn:=yak9
def zci:AFn:=⟨58,[.t 8],(oH [oBx 6 2,oMi 8 0] (oS (oH [oM 12 3,oBk 13 .gtr 12 12] (oQ 13 (oH [oMi 8 6] .ret) .skip)) (oH [oM 14 0,oM 15 1,oLf 16 6,oC 17 84 [.t 14,.t 15,.t 16],oM 9 17] (oS (oH [oM 18 9,oP 19 (.eq false false [.pt] (.t 18) (.k (.nilp)))] (oQ 19 (oH [oMi 8 9] .ret) .skip)) (oS (oD [[oM 21 0,oNc 22 21,oFa 23 0 22,oLf 24 23,oM 25 1,oIa 26 6 24 25,oFa 27 2 26,oLf 28 27,oM 29 9,oNc 30 29,oFa 31 1 30,oLf 32 31],[oC 33 297 [.t 28,.t 32]],[oM 20 33],[oEx 34 20 0,oEx 35 20 1,oM 10 34],[oM 11 35]]) (oS (oD [[oM 36 0,oNc 37 36,oFa 38 1 37,oLf 39 38,oM 40 1,oM 41 0,oNc 42 41,oFa 43 1 42,oLf 44 43,oM 45 1,oIa 46 1 44 45,oFa 47 0 46,oLf 48 47,oP 49 (.mkfn 344 [] [.t 6]),oC 50 343 [.t 48,.t 49]],[oIa 51 1 39 40],[oFa 52 0 51],[oSt 1 52 50]]) (oH [oM 53 0,oM 54 1,oM 55 10,oM 56 3,oC 57 345 [.t 53,.t 54,.t 55,(.k (.nils)),.t 56],oM 8 57] .ret)))))))⟩
theorem zar:ze Tryz.prog [6] 281=some zci:=yak9
def je2:AFn:=⟨50,[.t 6,.t 7],(oH [oBx 3 0,oBx 4 1,oP 6 (.mv (.k (.nils))),oMb 7 false] (oH [oM 13 2,oC 14 85 [.t 13],oM 8 14] (oS (oH [oFa 15 4 3,oLf 16 15,oLn 17 16,oMi 18 0] (.block 0 (.loop (oH [oBt 19 .lss 18 17] (oS (oQ 19 .skip (.exit 0)) (oS (.block 1 (oH [oIa 20 2 16 18,oLt 21 2 20,oP 10 (.alloc [.int .i64 0,.nils]),oSt 2 10 21] (oH [oFa 23 1 10,oLf 24 23,oM 25 2,oC 26 146 [.t 24,.t 25],oM 22 26,oEx 27 22 0,oEx 28 22 1,oP 11 (.alloc [.int .i64 0,.int .i64 0,.str []]),oSt 3 11 27,oM 12 28] (oS (oS (oD [[oM 29 12],[oUn 30 29],[oM 31 30],[oF 32 (.load true 3 (.t 11)) 31,ofa 33 1 4 31,ofl 34 33 31,ofa 35 0 10 31,ofl 36 35 31,ofi 37 6 34 36 31,ofa 38 1 37 31,ofl 39 38 31],[ofc 40 233 [.t 32,.t 39] 31],[oF 41 (.un .not (.t 40)) 31],[oPo 42 31 41]]) (oQ 42 (oH [oP 6 (.mv (.k (.nils))),oMb 7 false] .ret) .skip)) (oG [oM 43 8,oFa 44 0 10,oLf 45 44,oLt 46 3 11,oIa 47 3 43 45,oSt 3 47 46]))))) (oG [oBk 48 .add 18 1,oM 18 48]))))))) (oH [oM 49 8,oM 6 49,oMb 7 true] .ret))))⟩
def jcn:AFn:=⟨114,[.t 12],(oH [oMi 12 0] (oS (oH [oM 22 5,oBk 23 .gtr 22 12] (oQ 23 (oH [oMi 12 6] .ret) .skip)) (oH [oM 24 0,oNc 25 24,oFa 26 0 25,oLf 27 26,oM 28 1,oIa 29 6 27 28,oLt 30 6 29,oP 13 (.alloc [.str [],.nils,.nils,.nils,.nils,.nils]),oSt 6 13 30] (oS (oH [oM 31 4] (oQ 31 (oG [oLt 32 6 13,oM 33 3,oC 34 234 [.t 32,.t 33],oM 3 34]) .skip)) (oS (oH [oLt 35 6 13,oM 36 3,oC 37 235 [.t 35,.t 36],oM 14 37] (oH [oM 38 14,oBk 39 .neq 38 0] (oQ 39 (oH [oM 40 14,oM 12 40] .ret) .skip))) (oS (oH [oM 41 0,oM 42 1,oM 43 2,oM 44 3,oM 45 4,oM 46 5,oC 47 237 [.t 41,.t 42,.t 43,.t 44,.t 45,.t 46],oM 15 47] (oH [oM 48 15,oBk 49 .neq 48 0] (oQ 49 (oH [oM 50 15,oM 12 50] .ret) .skip))) (oH [oM 51 0,oM 52 1,oM 53 2,oC 54 84 [.t 51,.t 52,.t 53],oM 16 54] (oS (oH [oM 55 16,oP 56 (.eq false false [.pt] (.t 55) (.k (.nilp)))] (oQ 56 (oH [oMi 12 9] .ret) .skip)) (oS (oD [[oFa 58 2 13,oLf 59 58,oM 60 16,oNc 61 60,oFa 62 1 61,oLf 63 62],[oC 64 297 [.t 59,.t 63]],[oM 57 64],[oEx 65 57 0,oEx 66 57 1,oM 17 65],[oM 18 66]]) (oH [oFa 68 2 13,oLf 69 68,oM 70 3,oC 71 297 [.t 69,.t 70],oM 67 71,oEx 72 67 0,oEx 73 67 1,oM 19 72,oM 20 73] (oH [oM 74 16,oM 75 3,oC 76 85 [.t 75],oNc 77 74,oFa 78 1 77,oSt 1 78 76] (oS (oH [oM 79 17,oM 80 19,oC 81 346 [.t 79,.t 80],oUn 82 81] (oQ 82 (oH [oM 83 0,oM 84 1,oM 85 17,oM 86 19,oM 87 5,oC 88 345 [.t 83,.t 84,.t 85,.t 86,.t 87],oM 21 88] (oH [oM 89 21,oBk 90 .neq 89 0] (oQ 90 (oH [oM 91 21,oM 12 91] .ret) .skip))) .skip)) (oS (oH [oM 92 0,oM 93 1,oM 94 2,oC 95 84 [.t 92,.t 93,.t 94],oM 16 95] (oS (oD [[oM 96 16],[oP 97 (.eq true false [.pt] (.t 96) (.k (.nilp)))],[oM 98 97],[otm 99 0 98,oT 100 (.nilc (.t 99)) 98,ota 101 0 100 98,otl 102 101 98,otm 103 0 98,oT 104 (.nilc (.t 103)) 98,ota 105 1 104 98,otl 106 105 98,oT 107 (.load true 6 (.t 13)) 98,otm 108 16 98,oT 109 (.nilc (.t 108)) 98,ota 110 1 109 98,otl 111 110 98],[otc 112 223 [.t 102,.t 106,.t 107,.t 111,(.k (.bool false))] 98],[oPa 113 98 112]]) (oQ 113 (oH [oMi 12 5] .ret) .skip))) (oH [oMi 12 0] .ret))))))))))))))⟩
theorem jaw:ze Tryz.prog [] 283=some jcn:=yak9
def zbm:AFn:=⟨9,[.t 4],(oH [oMb 4 false] (oH [oM 5 0,oM 6 1,oC 7 350 [.t 5,.t 6],oBk 8 .geq 7 0,oM 4 8] .ret))⟩
theorem jaf:ze Tryz.prog [] 293=some zbm:=yak9
def wdn:AFn:=⟨9,[.t 3],(oH [oBx 2 0,oMb 3 false] (oH [oFa 4 0 2,oLf 5 4,oLf 6 1,oC 7 56 [.t 5,.t 6],oBk 8 .lss 7 1,oM 3 8] .ret))⟩
def jay:AFn:=⟨9,[.t 4],(oH [oMb 4 false] (oH [oM 5 0,oM 6 1,oC 7 351 [.t 5,.t 6],oBk 8 .geq 7 0,oM 4 8] .ret))⟩
theorem jar:ze Tryz.prog [] 295=some jay:=yak9
def we2:AFn:=⟨21,[.t 4],(oH [oMb 4 false] (oH [oM 8 0,oLf 9 1,oC 10 297 [.t 8,.t 9],oM 7 10,oEx 11 7 0,oEx 12 7 1,oM 5 11,oM 6 12] (oH [oM 13 6,oM 14 13,otm 15 0 14,ota 16 1 2 14,otl 17 16 14,otm 18 5 14,otc 19 298 [.t 15,.t 17,.t 18] 14,oPa 20 14 19,oM 4 20] .ret)))⟩
def jg7:AFn:=⟨36,[.t 4,.t 5],(oH [oP 4 (.mv (.k (.nils))),oMb 5 false] (oH [oP 10 (.mksl false 3 0 [.int .i64 0,.int .i64 0,.str []] []),oM 6 10,oMb 7 true] (oS (oH [oM 11 0,oLn 12 11,oMi 13 0] (.block 0 (.loop (oH [oBt 14 .lss 13 12] (oS (oQ 14 .skip (.exit 0)) (oS (.block 1 (oH [oIa 15 1 11 13,oLf 16 15,oM 9 16] (oH [oM 17 6,oM 18 1,oM 19 9,oIa 20 3 18 19,oLt 21 3 20,oP 22 (.mksl true 3 1 [.int .i64 0,.int .i64 0,.str []] [(0,(.t 21))]),oP 23 (.app 3 32 (.t 17) (.t 22)),oM 6 23] (oG [oM 24 7,oM 25 24,otm 26 1 25,otm 27 9 25,oti 28 3 26 27 25,ota 29 0 28 25,otl 30 29 25,oT 31 (.bin .neq (.t 30) (kI 0)) 25,oPa 32 25 31,oM 7 32])))) (oG [oBk 33 .add 13 1,oM 13 33]))))))) (oH [oM 34 6,oM 35 7,oM 4 34,oM 5 35] .ret))))⟩
theorem ze3:ze Tryz.prog [22] 297=some jg7:=yak9
def ziu:AFn:=⟨21,[.t 6],(oH [oMb 6 false] (oH [oM 10 0,oM 11 1,oC 12 297 [.t 10,.t 11],oM 9 12,oEx 13 9 0,oEx 14 9 1,oM 7 13,oM 8 14] (oH [oM 15 8,oM 16 15,otm 17 7 16,otm 18 2 16,otc 19 346 [.t 17,.t 18] 16,oPa 20 16 19,oM 6 20] .ret)))⟩
def zdo:AFn:=⟨20,[.t 6],(oH [oBx 5 0,oMb 6 false] (oH [oLf 7 1,oM 8 7,ofa 9 4 5 8,ofl 10 9 8,oF 11 (.un .not (.t 10)) 8,oPo 12 8 11,oM 13 12,otl 14 2 13,otl 15 3 13,oT 16 (.load true 5 (.t 5)) 13,otl 17 4 13,otc 18 300 [.t 14,.t 15,.t 16,.t 17] 13,oPa 19 13 18,oM 6 19] .ret))⟩
def zgj:AFn:=⟨40,[.t 8],(oH [oBx 6 2,oMb 8 false] (oH [oM 12 0,oFa 13 1 6,oLf 14 13,oC 15 48 [.t 12,.t 14],oM 9 15] (oH [oFa 17 0 6,oLf 18 17,oM 19 3,oC 20 297 [.t 18,.t 19],oM 16 20,oEx 21 16 0,oEx 22 16 1,oM 10 21,oM 11 22] (oS (oD [[oM 23 11],[oM 24 23],[otm 25 1 24,otm 26 9 24,oti 27 1 25 26 24,ota 28 0 27 24,otl 29 28 24,otm 30 0 24,otm 31 9 24,oti 32 6 30 31 24,ota 33 2 32 24,otl 34 33 24,otm 35 10 24],[otc 36 352 [.t 29,.t 34,.t 35] 24],[oT 37 (.len false (.t 36)) 24],[oT 38 (.bin .eql (.t 37) (kI 0)) 24],[oPa 39 24 38],[oM 8 39]]) .ret))))⟩
def zej:AFn:=⟨32,[.t 2],(oH [oMi 2 0] (oS (oS (oD [[oM 3 0,oNc 4 3,oFa 5 1 4,oLf 6 5,oM 7 0,oNc 8 7,oFa 9 0 8,oLf 10 9,oLn 11 10],[oBt 12 .geq 6 11]]) (oQ 12 (oH [oMi 2 0] .ret) .skip)) (oH [oM 13 0,oNc 14 13,oFa 15 1 14,oLf 16 15,oBk 17 .add 16 1,oNc 18 13,oFa 19 1 18,oSt 1 19 17] (oS (oD [[oM 20 0,oNc 21 20,oFa 22 0 21,oLf 23 22,oM 24 0,oNc 25 24,oFa 26 1 25,oLf 27 26,oBk 28 .sub 27 1],[oIa 29 1 23 28],[oLf 30 29],[oP 31 (.conv .i64 (.t 30))],[oM 2 31]]) .ret))))⟩
theorem zde:ze Tryz.prog [] 301=some zej:=yak9
def jej:AFn:=⟨31,[.t 6],(oH [oMi 6 0] (oS (oH [oM 7 0,oC 8 229 [.t 7,(kI 8)]] (.block 0 (oH [oBk 10 .eql 8 0,oM 9 10] (oQ 9 (oH [oM 11 1,oM 6 11] .ret) (oH [oBk 13 .eql 8 1,oM 12 13] (oQ 12 (oH [oM 14 2,oM 6 14] .ret) .skip)))))) (oS (oH [oM 15 2,oM 16 1,oBt 17 .lss 15 16] (oQ 17 (oH [oM 18 1,oM 6 18] .ret) .skip)) (oH [oM 19 1,oM 20 0,oC 21 353 [.t 20],oP 22 (.bin .shr (.t 21) (.k (.int .u64 1))),oM 23 2,oM 24 1,oBt 25 .sub 23 24,oBk 26 .add 25 1,oP 27 (.conv .u64 (.t 26)),oBt 28 .rem 22 27,oP 29 (.conv .i64 (.t 28)),oBt 30 .add 19 29,oM 6 30] .ret))))⟩
theorem jde:ze Tryz.prog [] 302=some jej:=yak9
def wg7:AFn:=⟨5,[.m 2 true 3],(oH [oP 2 (.alloc [.int .i64 0,.int .i64 0,.str []])] (oH [oM 3 0,oP 4 (.build [.int .i64 0,.int .i64 0,.str []] [(0,1,(kI 2)),(2,1,(.t 3))]),oSt 3 2 4] .ret))⟩
def je3:AFn:=⟨29,[.m 2 true 3],(oH [oP 2 (.alloc [.int .i64 0,.int .i64 0,.str []])] (oS (oH [oM 3 0,oC 4 229 [.t 3,(kI 12)]] (.block 0 (oS (oH [oBk 6 .eql 4 0,oM 5 6] (oQ 5 .skip (oG [oBk 7 .eql 4 1,oM 5 7]))) (oQ 5 (oH [oP 8 (.build [.int .i64 0,.int .i64 0,.str []] []),oSt 3 2 8] .ret) (oS (oH [oBk 10 .eql 4 2,oM 9 10] (oQ 9 .skip (oG [oBk 11 .eql 4 3,oM 9 11]))) (oQ 9 (oH [oP 12 (.mksl true 1 6 [.str []] [(0,(.k (.str []))),(1,(.k (.str [97]))),(2,(.k (.str [98]))),(3,(.k (.str [97,32,98]))),(4,(.k (.str [105,116,39,115]))),(5,(.k (.str [120,44,37])))]),oM 13 0,oC 14 229 [.t 13,(kI 6)],oIa 15 1 12 14,oLf 16 15,oC 17 303 [.t 16],oSt 3 2 17] .ret) (oH [oBk 19 .eql 4 4,oM 18 19] (oQ 18 (oH [oP 20 (.mksl true 1 4 [.int .i64 0] [(0,(kI (-1000000000))),(1,(kI 1000000000)),(2,(kI (-5))),(3,(kI 70))]),oM 21 0,oC 22 229 [.t 21,(kI 4)],oIa 23 1 20 22,oLf 24 23,oC 25 224 [.t 24],oSt 3 2 25] .ret) .skip)))))))) (oH [oM 26 0,oC 27 229 [.t 26,(kI 5)],oC 28 224 [.t 27],oSt 3 2 28] .ret)))⟩
theorem jdo:ze Tryz.prog [12,20] 304=some je3:=yak9
def zg8:AFn:=⟨31,[.t 2],(oH [oBx 1 0,oMb 2 false] (oS (oH [oFa 3 0 1,oLf 4 3] (.block 0 (oH [oBk 6 .eql 4 0,oM 5 6] (oQ 5 (oH [oLt 7 3 1,oP 8 (.build [.int .i64 0,.int .i64 0,.str []] []),oP 9 (.eq false true [.i,.i,.s] (.t 7) (.t 8)),oM 2 9] .ret) (oH [oBk 11 .eql 4 1,oM 10 11] (oQ 10 (oH [oFa 12 1 1,oLf 13 12,oC 14 177 [.t 13,(kI (-1000000000)),(kI 1000000000)],oM 15 14,ota 16 2 1 15,otl 17 16 15,oT 18 (.bin .eql (.t 17) (.k (.str []))) 15,oPa 19 15 18,oM 2 19] .ret) (oH [oBk 21 .eql 4 2,oM 20 21] (oQ 20 (oH [oFa 22 1 1,oLf 23 22,oBk 24 .eql 23 0,oM 25 24,ota 26 2 1 25,otl 27 26 25,oT 28 (.len true (.t 27)) 25,oT 29 (.bin .leq (.t 28) (kI 12)) 25,oPa 30 25 29,oM 2 30] .ret) .skip)))))))) (oH [oMb 2 false] .ret)))⟩
def jg8:AFn:=⟨44,[.t 4],(oH [oBx 2 0,oMb 4 false] (oS (oH [oFa 5 0 2,oLf 6 5] (.block 0 (oH [oBk 8 .eql 6 1,oM 7 8] (oQ 7 (oH [oFa 9 1 2,oLf 10 9,oM 11 1,oBk 12 .sub 11 1,oC 13 177 [.t 10,(kI 0),.t 12],oM 14 13,ota 15 2 2 14,oT 16 (.load true 3 (.t 15)) 14,oT 17 (.build [.int .i64 0,.int .i64 0,.str []] []) 14,oT 18 (.eq false true [.i,.i,.s] (.t 16) (.t 17)) 14,oPa 19 14 18,oM 4 19] .ret) (oH [oBk 21 .eql 6 2,oM 20 21] (oQ 20 (oH [oFa 22 1 2,oLf 23 22,oBk 24 .eql 23 0,oM 25 24,ota 26 2 2 25,oT 27 (.load true 3 (.t 26)) 25,otc 28 305 [.t 27] 25,oPa 29 25 28,oM 4 29] .ret) .skip)))))) (oH [oFa 30 0 2,oLf 31 30,oC 32 177 [.t 31,(kI 3),(kI 10)],oM 33 32,ota 34 1 2 33,otl 35 34 33,oT 36 (.bin .eql (.t 35) (kI 0)) 33,oPa 37 33 36,oM 38 37,ota 39 2 2 38,oT 40 (.load true 3 (.t 39)) 38,oT 41 (.build [.int .i64 0,.int .i64 0,.str []] []) 38,oT 42 (.eq false true [.i,.i,.s] (.t 40) (.t 41)) 38,oPa 43 38 42,oM 4 43] .ret)))⟩
def wg8:AFn:=⟨11,[.m 2 true 3,.t 3],(oH [oP 2 (.alloc [.int .i64 0,.int .i64 0,.str []]),oMb 3 false] (oS (oH [oM 4 0,oBk 5 .eql 4 2] (oQ 5 (oH [oP 6 (.build [.int .i64 0,.int .i64 0,.str []] []),oSt 3 2 6,oMb 3 true] .ret) .skip)) (oH [oM 7 0,oP 8 (.build [.int .i64 0,.int .i64 0,.str []] [(0,1,(kI 1)),(1,1,(.t 7))]),oM 9 0,oBk 10 .geq 9 0,oSt 3 2 8,oM 3 10] .ret)))⟩
def jgj:AFn:=⟨13,[.t 4],(oH [oBx 2 0,oBx 3 1,oMi 4 0] (oS (oH [oLt 5 3 2,oLt 6 3 3,oC 7 354 [.t 5,.t 6],oUn 8 7] (oQ 8 (oH [oMi 4 2] .ret) .skip)) (oH [oLt 9 3 2,oLt 10 3 3,oP 11 (.eq false true [.i,.i,.s] (.t 9) (.t 10)),oC 12 244 [.t 11],oM 4 12] .ret)))⟩
def zg9:AFn:=⟨14,[.t 4],(oH [oBx 2 0,oBx 3 1,oMi 4 0] (oS (oH [oLt 5 3 2,oLt 6 3 3,oC 7 354 [.t 5,.t 6],oUn 8 7] (oQ 8 (oH [oMi 4 2] .ret) .skip)) (oH [oLt 9 3 2,oLt 10 3 3,oC 11 355 [.t 9,.t 10],oBk 12 .lss 11 0,oC 13 244 [.t 12],oM 4 13] .ret)))⟩
def whx:AFn:=⟨25,[.t 4],(oH [oMi 4 0] (oS (.block 0 (oH [oM 6 0,oM 7 1,oP 8 (.mksl true 1 2 [.int .i64 0] [(0,(.t 6)),(1,(.t 7))]),oC 9 356 [.t 8],oUn 10 9,oM 5 10] (oQ 5 (oH [oMi 4 (-1)] .ret) (oH [oM 12 0,oBk 13 .eql 12 0,oM 14 13,ofm 15 1 14,oF 16 (.bin .eql (.t 15) (kI 0)) 14,oPo 17 14 16,oM 11 17] (oQ 11 (oH [oMi 4 0] .ret) (oH [oM 19 0,oBk 20 .eql 19 1,oM 21 20,otm 22 1 21,oT 23 (.bin .eql (.t 22) (kI 1)) 21,oPa 24 21 23,oM 18 24] (oQ 18 (oH [oMi 4 1] .ret) .skip))))))) (oH [oMi 4 2] .ret)))⟩
def jiu:AFn:=⟨25,[.t 4],(oH [oMi 4 0] (oS (.block 0 (oH [oM 6 0,oM 7 1,oP 8 (.mksl true 1 2 [.int .i64 0] [(0,(.t 6)),(1,(.t 7))]),oC 9 356 [.t 8],oUn 10 9,oM 5 10] (oQ 5 (oH [oMi 4 (-1)] .ret) (oH [oM 12 0,oBk 13 .eql 12 1,oM 14 13,ofm 15 1 14,oF 16 (.bin .eql (.t 15) (kI 1)) 14,oPo 17 14 16,oM 11 17] (oQ 11 (oH [oMi 4 1] .ret) (oH [oM 19 0,oBk 20 .eql 19 0,oM 21 20,otm 22 1 21,oT 23 (.bin .eql (.t 22) (kI 0)) 21,oPa 24 21 23,oM 18 24] (oQ 18 (oH [oMi 4 0] .ret) .skip))))))) (oH [oMi 4 2] .ret)))⟩
def zhy:AFn:=⟨13,[.t 2],(oH [oMi 2 0] (oS (.block 0 (oH [oM 4 0,oP 5 (.mksl true 1 1 [.int .i64 0] [(0,(.t 4))]),oC 6 356 [.t 5],oUn 7 6,oM 3 7] (oQ 3 (oH [oMi 2 (-1)] .ret) (oH [oM 9 0,oBk 10 .eql 9 2,oM 8 10] (oQ 8 (oH [oMi 2 2] .ret) .skip))))) (oH [oM 11 0,oP 12 (.bin .sub (kI 1) (.t 11)),oM 2 12] .ret)))⟩
def jg9:AFn:=⟨40,[.m 6 true 3,.t 7],(oH [oBx 3 0,oBx 4 1,oP 6 (.alloc [.int .i64 0,.int .i64 0,.str []]),oMb 7 false] (oS (.block 0 (oH [oFa 10 0 3,oLf 11 10,oBk 12 .eql 11 2,oM 13 12,ofa 14 0 4 13,ofl 15 14 13,oF 16 (.bin .eql (.t 15) (kI 2)) 13,oPo 17 13 16,oM 9 17] (oQ 9 (oH [oP 18 (.build [.int .i64 0,.int .i64 0,.str []] []),oSt 3 6 18,oMb 7 false] .ret) (oH [oFa 20 0 3,oLf 21 20,oBk 22 .eql 21 0,oM 23 22,ofa 24 0 4 23,ofl 25 24 23,oF 26 (.bin .eql (.t 25) (kI 0)) 23,oPo 27 23 26,oM 19 27] (oQ 19 (oH [oP 28 (.build [.int .i64 0,.int .i64 0,.str []] []),oSt 3 6 28,oMb 7 true] .ret) .skip))))) (oH [oFa 29 1 3,oLf 30 29,oM 31 2,oFa 32 1 4,oLf 33 32,oBt 34 .mul 31 33,oBt 35 .add 30 34,oP 36 (.build [.int .i64 0,.int .i64 0,.str []] [(0,1,(kI 1)),(1,1,(.t 35))]),oP 8 (.alloc [.int .i64 0,.int .i64 0,.str []]),oSt 3 8 36] (oS (oD [[oLt 37 3 8,oLt 38 3 8,oC 39 305 [.t 38]],[oSt 3 6 37],[oM 7 39]]) .ret))))⟩
def wgj:AFn:=⟨33,[.t 4],(oH [oMb 4 false] (oS (oH [oMi 5 0] (.block 0 (.loop (oS (oH [oM 6 5,oM 7 0,oLn 8 7,oBt 9 .lss 6 8] (oQ 9 .skip (.exit 0))) (oS (.block 1 (oS (oD [[oM 12 0,oM 13 5,oIa 14 1 12 13,oLf 15 14,oM 16 1,oBk 17 .sub 16 1],[oC 18 72 [.t 15,(kI 0),.t 17]],[oUn 19 18],[oM 20 19],[ofm 21 0 20,ofm 22 5 20,oF 23 (.slice 1 (.t 21) none (some (.t 22)) none) 20,ofm 24 0 20,ofm 25 5 20,ofi 26 1 24 25 20,ofl 27 26 20],[ofc 28 357 [.t 23,.t 27] 20],[oPo 29 20 28]]) (oQ 29 (oH [oMb 4 false] .ret) .skip))) (oG [oM 10 5,oBk 11 .add 10 1,oM 5 11])))))) (oH [oM 30 0,oLn 31 30,oBk 32 .gtr 31 0,oM 4 32] .ret)))⟩
def wg9:AFn:=⟨22,[.t 4],(oH [oBx 2 0,oMi 4 0] (oS (oH [oMi 5 0] (.block 0 (.loop (oS (oH [oM 6 5,oFa 7 1 2,oLf 8 7,oLn 9 8,oBt 10 .lss 6 9] (oQ 10 .skip (.exit 0))) (oS (.block 1 (oH [oFa 13 1 2,oLf 14 13,oM 15 5,oIa 16 6 14 15,oFa 17 0 16,oLf 18 17,oM 19 1,oBt 20 .eql 18 19] (oQ 20 (oH [oM 21 5,oM 4 21] .ret) .skip))) (oG [oM 11 5,oBk 12 .add 11 1,oM 5 12])))))) (oH [oMi 4 (-1)] .ret)))⟩
def zha:AFn:=⟨4,[.t 2],(oH [oMi 2 0] (oS (oH [oM 3 0] (oQ 3 (oH [oMi 2 1] .ret) .skip)) (oH [oMi 2 0] .ret)))⟩
def jhy:AFn:=⟨8,[.m 2 true 3],(oH [oP 2 (.alloc [.int .i64 0,.int .i64 0,.str []])] (oS (oH [oM 3 0,oBk 4 .eql 3 2] (oQ 4 (oH [oP 5 (.build [.int .i64 0,.int .i64 0,.str []] []),oSt 3 2 5] .ret) .skip)) (oH [oM 6 0,oC 7 224 [.t 6],oSt 3 2 7] .ret)))⟩
def why:AFn:=⟨10,[.t 2],(oH [oMi 2 0] (oS (oH [oM 3 0] (.block 0 (oH [oBk 5 .eql 3 0,oM 4 5] (oQ 4 (oH [oMi 2 1] .ret) (oH [oBk 7 .eql 3 1,oM 6 7] (oQ 6 (oH [oMi 2 0] .ret) (oH [oBk 9 .eql 3 2,oM 8 9] (oQ 8 (oH [oMi 2 2] .ret) .skip)))))))) (oH [oMi 2 (-1)] .ret)))⟩
def jha:AFn:=⟨66,[.m 6 true 3,.t 7],(oH [oBx 4 1,oBx 5 2,oP 6 (.alloc [.int .i64 0,.int .i64 0,.str []]),oMb 7 false] (oS (oH [oM 12 0] (.block 0 (oH [oBk 14 .eql 12 3,oM 13 14] (oQ 13 (oH [oLt 15 3 4,oLt 16 3 5,oC 17 358 [.t 15,.t 16],oC 18 317 [.t 17],oSt 3 6 18,oMb 7 true] .ret) (oH [oBk 20 .eql 12 4,oM 19 20] (oQ 19 (oH [oLt 21 3 4,oLt 22 3 5,oC 23 359 [.t 21,.t 22],oC 24 317 [.t 23],oSt 3 6 24,oMb 7 true] .ret) (oH [oBk 26 .eql 12 9,oM 25 26] (oQ 25 (oH [oLt 27 3 4,oLt 28 3 5,oC 29 360 [.t 27,.t 28,(kI 1)],oEx 30 29 0,oEx 31 29 1,oSt 3 6 30,oM 7 31] .ret) (oH [oBk 33 .eql 12 10,oM 32 33] (oQ 32 (oH [oLt 34 3 4,oLt 35 3 5,oC 36 360 [.t 34,.t 35,(kI (-1))],oEx 37 36 0,oEx 38 36 1,oSt 3 6 37,oM 7 38] .ret) .skip)))))))))) (oH [oLt 40 3 4,oC 41 255 [.t 40],oM 39 41,oEx 42 39 0,oEx 43 39 1,oM 8 42,oM 9 43] (oH [oLt 45 3 5,oC 46 255 [.t 45],oM 44 46,oEx 47 44 0,oEx 48 44 1,oM 10 47,oM 11 48] (oS (oH [oM 49 9,oUn 50 49,oM 51 50,ofm 52 11 51,oF 53 (.un .not (.t 52)) 51,oPo 54 51 53] (oQ 54 (oH [oP 55 (.build [.int .i64 0,.int .i64 0,.str []] []),oSt 3 6 55,oMb 7 false] .ret) .skip)) (oS (oH [oM 56 0,oBk 57 .eql 56 5] (oQ 57 (oH [oM 58 8,oM 59 10,oC 60 361 [.t 58,.t 59],oC 61 317 [.t 60],oSt 3 6 61,oMb 7 true] .ret) .skip)) (oH [oM 62 8,oM 63 10,oC 64 362 [.t 62,.t 63],oC 65 317 [.t 64],oSt 3 6 65,oMb 7 true] .ret)))))))⟩
def we3:AFn:=⟨41,[.t 4],(oH [oBx 2 0,oP 4 (.mv (.k (.nils)))] (oH [oP 8 (.mksl false 3 0 [.int .i64 0,.int .i64 0,.str []] []),oM 5 8] (oS (oH [oMi 6 0] (.block 0 (.loop (oS (oH [oM 9 6,oM 10 1,oLn 11 10,oBt 12 .lss 9 11] (oQ 12 .skip (.exit 0))) (oS (.block 1 (oH [oM 15 1,oM 16 6,oIa 17 3 15 16,oLt 18 3 17,oP 7 (.alloc [.int .i64 0,.int .i64 0,.str []]),oSt 3 7 18] (oS (oH [oFa 19 0 7,oLf 20 19,oBk 21 .eql 20 0,oM 22 21,ota 23 1 2 22,otl 24 23 22,otm 25 6 22,oti 26 6 24 25 22,ota 27 2 26 22,otl 28 27 22,oPa 29 22 28] (oQ 29 (oG [oFa 30 1 2,oLf 31 30,oM 32 6,oIa 33 6 31 32,oFa 34 3 33,oLt 35 3 34,oSt 3 7 35]) .skip)) (oG [oM 36 5,oLt 37 3 7,oP 38 (.mksl true 3 1 [.int .i64 0,.int .i64 0,.str []] [(0,(.t 37))]),oP 39 (.app 3 32 (.t 36) (.t 38)),oM 5 39])))) (oG [oM 13 6,oBk 14 .add 13 1,oM 6 14])))))) (oH [oM 40 5,oM 4 40] .ret))))⟩
def zgk:AFn:=⟨15,[.t 4],(oH [oBx 2 0,oMi 4 0] (oS (.block 0 (oH [oLt 6 6 2,oM 7 1,oC 8 347 [.t 6,.t 7],oUn 9 8,oM 5 9] (oQ 5 (oH [oMi 4 2] .ret) (oH [oLt 11 6 2,oM 12 1,oC 13 348 [.t 11,.t 12],oUn 14 13,oM 10 14] (oQ 10 (oH [oMi 4 3] .ret) .skip))))) (oH [oMi 4 0] .ret)))⟩
theorem zcg:ze Tryz.prog [2] 321=some zgk:=yak9
def wft:AFn:=⟨69,[.t 12,.t 13],(oH [oBx 9 3,oP 12 (.mv (.k (.nils))),oMi 13 0] (oS (oD [[oM 18 0,oM 19 2,oIa 20 6 18 19,oLt 21 6 20,oM 22 1,oM 23 2,oIa 24 1 22 23,oLt 25 1 24,oLt 26 2 9],[oC 27 363 [.t 21,.t 25,.t 26]],[oM 14 27]]) (oS (oH [oM 28 14,oLn 29 28,oBk 30 .gtr 29 0,oM 31 30,otm 32 4 31,oT 33 (.un .not (.t 32)) 31,oPa 34 31 33] (oQ 34 (oH [oP 12 (.mv (.k (.nils))),oMi 13 4] .ret) .skip)) (oS (oH [oMi 15 0] (.block 0 (.loop (oS (oH [oM 35 15,oM 36 14,oLn 37 36,oBt 38 .lss 35 37] (oQ 38 .skip (.exit 0))) (oS (.block 1 (oS (oS (oD [[oM 41 1,oM 42 2,oIa 43 1 41 42,oLt 44 1 43,oM 45 14,oM 46 15,oIa 47 1 45 46,oLf 48 47],[oC 49 70 [.t 44,.t 48]],[oBk 50 .lss 49 0]]) (oQ 50 (.exit 1) .skip)) (oH [oM 52 0,oM 53 1,oM 54 2,oM 55 14,oM 56 15,oIa 57 1 55 56,oLf 58 57,oM 59 5,oBk 60 .add 59 1,oC 61 257 [.t 52,.t 53,.t 54,.t 58,.t 60],oM 51 61,oEx 62 51 0,oEx 63 51 1,oM 16 62,oM 17 63] (oS (oH [oM 64 17,oBk 65 .neq 64 0] (oQ 65 (oH [oM 66 17,oP 12 (.mv (.k (.nils))),oM 13 66] .ret) .skip)) (oG [oM 67 16,oM 1 67]))))) (oG [oM 39 15,oBk 40 .add 39 1,oM 15 40])))))) (oH [oM 68 1,oM 12 68,oMi 13 0] .ret)))))⟩
theorem jb1:ze Tryz.prog [9] 322=some wft:=yak9
def jgk:AFn:=⟨16,[.t 6],(oH [oBx 5 2,oP 6 (.mv (.k (.nils)))] (oH [oP 8 (.mksl false 1 0 [.nils] []),oM 9 0,oP 10 (.app 1 24 (.t 8) (.t 9)),oM 7 10] (oH [oM 11 7,oM 12 1,oLt 13 1 5,oIa 14 1 11 12,oSt 1 14 13] (oH [oM 15 7,oM 6 15] .ret))))⟩
def wha:AFn:=⟨58,[.m 4 true 1],(oH [oBx 2 0,oBx 3 1,oP 4 (.alloc [.nils])] (oH [oP 8 (.mksl false 2 0 [.int .i64 0,.nils] []),oM 5 8] (oH [oMb 6 false] (oS (oH [oMi 7 0] (.block 0 (.loop (oS (oH [oM 9 7,oFa 10 0 2,oLf 11 10,oLn 12 11,oBt 13 .lss 9 12] (oQ 13 .skip (.exit 0))) (oS (.block 1 (oS (oS (oD [[oM 16 6],[oUn 17 16],[oM 18 17],[ota 19 0 2 18,otl 20 19 18,otm 21 7 18,oti 22 2 20 21 18,ota 23 0 22 18,otl 24 23 18,ota 25 0 3 18,otl 26 25 18],[oT 27 (.bin .geq (.t 24) (.t 26)) 18],[oPa 28 18 27]]) (oQ 28 (oH [oM 29 5,oLt 30 2 3,oP 31 (.mksl true 2 1 [.int .i64 0,.nils] [(0,(.t 30))]),oP 32 (.app 2 32 (.t 29) (.t 31)),oM 5 32] (oG [oMb 6 true])) .skip)) (oS (oD [[oFa 33 0 2,oLf 34 33,oM 35 7,oIa 36 2 34 35,oFa 37 0 36,oLf 38 37,oFa 39 0 3,oLf 40 39],[oBt 41 .neq 38 40]]) (oQ 41 (oG [oM 42 5,oFa 43 0 2,oLf 44 43,oM 45 7,oIa 46 2 44 45,oLt 47 2 46,oP 48 (.mksl true 2 1 [.int .i64 0,.nils] [(0,(.t 47))]),oP 49 (.app 2 32 (.t 42) (.t 48)),oM 5 49]) .skip)))) (oG [oM 14 7,oBk 15 .add 14 1,oM 7 15])))))) (oS (oH [oM 50 6,oUn 51 50] (oQ 51 (oG [oM 52 5,oLt 53 2 3,oP 54 (.mksl true 2 1 [.int .i64 0,.nils] [(0,(.t 53))]),oP 55 (.app 2 32 (.t 52) (.t 54)),oM 5 55]) .skip)) (oH [oM 56 5,oP 57 (.build [.nils] [(0,1,(.t 56))]),oSt 1 4 57] .ret))))))⟩
theorem wcn:ze Tryz.prog [2,3,31,48,54] 324=some wha:=yak9
def ze4:AFn:=⟨45,[.t 10],(oH [oMb 10 false] (oS (oH [oMi 11 0] (.block 0 (.loop (oS (oH [oM 13 11,oM 14 0,oM 15 2,oIa 16 6 14 15,oFa 17 5 16,oLf 18 17,oLn 19 18,oBt 20 .lss 13 19] (oQ 20 .skip (.exit 0))) (oS (.block 1 (oH [oM 23 0,oM 24 2,oIa 25 6 23 24,oFa 26 5 25,oLf 27 26,oM 28 11,oIa 29 5 27 28,oLt 30 5 29,oP 12 (.alloc [.nils,.str [],.int .i64 0,.int .i64 0,.bool false]),oSt 5 12 30] (oH [oM 31 4,oM 32 31,ota 33 4 12 32,otl 34 33 32,oPa 35 32 34,oUn 36 35,oM 37 36,otm 38 0 37,otm 39 1 37,oT 40 (.load true 5 (.t 12)) 37,otm 41 3 37,otc 42 364 [.t 38,.t 39,.t 40,.t 41] 37,oT 43 (.un .not (.t 42)) 37,oPa 44 37 43] (oQ 44 (oH [oMb 10 false] .ret) .skip)))) (oG [oM 21 11,oBk 22 .add 21 1,oM 11 22])))))) (oH [oMb 10 true] .ret)))⟩
def zhb:AFn:=⟨36,[.t 4,.t 5],(oH [oP 4 (.mv (.k (.nils))),oMb 5 false] (oH [oP 10 (.mksl false 3 0 [.int .i64 0,.int .i64 0,.str []] []),oM 6 10] (oH [oMb 7 true] (oS (oH [oMi 8 0] (.block 0 (.loop (oS (oH [oM 11 8,oM 12 0,oLn 13 12,oBt 14 .lss 11 13] (oQ 14 .skip (.exit 0))) (oS (.block 1 (oH [oM 17 1,oM 18 0,oM 19 8,oIa 20 1 18 19,oLf 21 20,oIa 22 3 17 21,oLt 23 3 22,oP 9 (.alloc [.int .i64 0,.int .i64 0,.str []]),oSt 3 9 23] (oH [oM 24 6,oLt 25 3 9,oP 26 (.mksl true 3 1 [.int .i64 0,.int .i64 0,.str []] [(0,(.t 25))]),oP 27 (.app 3 32 (.t 24) (.t 26)),oM 6 27] (oG [oM 28 7,oM 29 28,ota 30 0 9 29,otl 31 30 29,oT 32 (.bin .neq (.t 31) (kI 0)) 29,oPa 33 29 32,oM 7 33])))) (oG [oM 15 8,oBk 16 .add 15 1,oM 8 16])))))) (oH [oM 34 6,oM 35 7,oM 4 34,oM 5 35] .ret)))))⟩
theorem je4:ze Tryz.prog [26] 326=some zhb:=yak9
def wdz:AFn:=⟨82,[.t 14,.t 15],(oH [oP 14 (.mv (.k (.nils))),oMi 15 0] (oS (oH [oMi 16 0] (.block 0 (.loop (oS (oH [oM 22 16,oM 23 0,oLn 24 23,oBt 25 .lss 22 24] (oQ 25 .skip (.exit 0))) (oS (.block 1 (oH [oMi 17 0] (.block 2 (.loop (oS (oH [oM 28 17,oM 29 0,oM 30 16,oIa 31 6 29 30,oFa 32 5 31,oLf 33 32,oLn 34 33,oBt 35 .lss 28 34] (oQ 35 .skip (.exit 2))) (oS (.block 3 (oH [oM 38 0,oM 39 16,oIa 40 6 38 39,oFa 41 5 40,oLf 42 41,oM 43 17,oIa 44 5 42 43,oLt 45 5 44,oP 18 (.alloc [.nils,.str [],.int .i64 0,.int .i64 0,.bool false]),oSt 5 18 45] (oS (oS (oD [[oFa 46 1 18,oLf 47 46,oM 48 0,oM 49 2,oIa 50 6 48 49,oFa 51 0 50,oLf 52 51],[oBt 53 .neq 47 52]]) (oQ 53 (.exit 3) .skip)) (oH [oFa 54 3 18,oLf 55 54,oFa 56 4 18,oLf 57 56,oFa 58 0 18,oLf 59 58,oP 60 (.build [.int .i64 0,.bool false,.nils] [(0,1,(.t 55)),(1,1,(.t 57)),(2,1,(.t 59))]),oP 19 (.alloc [.int .i64 0,.bool false,.nils]),oSt 3 19 60] (oS (oH [oM 61 5] (oQ 61 (oG [oFa 62 2 18,oLf 63 62,oFa 64 0 19,oSt 1 64 63]) .skip)) (oH [oM 66 0,oM 67 1,oM 68 16,oLt 69 3 19,oM 70 3,oM 71 4,oM 72 5,oM 73 6,oC 74 365 [.t 66,.t 67,.t 68,.t 69,.t 70,.t 71,.t 72,.t 73],oM 65 74,oEx 75 65 0,oEx 76 65 1,oM 20 75,oM 21 76] (oS (oH [oM 77 21,oBk 78 .neq 77 0] (oQ 78 (oH [oM 79 21,oP 14 (.mv (.k (.nils))),oM 15 79] .ret) .skip)) (oG [oM 80 20,oM 1 80])))))))) (oG [oM 36 17,oBk 37 .add 36 1,oM 17 37]))))))) (oG [oM 26 16,oBk 27 .add 26 1,oM 16 27])))))) (oH [oM 81 1,oM 14 81,oMi 15 0] .ret)))⟩
def wgk:AFn:=⟨33,[.m 4 true 1],(oH [oBx 2 0,oP 4 (.alloc [.nils])] (oH [oP 7 (.mksl false 2 0 [.int .i64 0,.nils] []),oM 5 7] (oS (oH [oMi 6 0] (.block 0 (.loop (oS (oH [oM 8 6,oFa 9 0 2,oLf 10 9,oLn 11 10,oBt 12 .lss 8 11] (oQ 12 .skip (.exit 0))) (oS (.block 1 (oH [oFa 15 0 2,oLf 16 15,oM 17 6,oIa 18 2 16 17,oFa 19 0 18,oLf 20 19,oM 21 1,oBt 22 .neq 20 21] (oQ 22 (oG [oM 23 5,oFa 24 0 2,oLf 25 24,oM 26 6,oIa 27 2 25 26,oLt 28 2 27,oP 29 (.mksl true 2 1 [.int .i64 0,.nils] [(0,(.t 28))]),oP 30 (.app 2 32 (.t 23) (.t 29)),oM 5 30]) .skip))) (oG [oM 13 6,oBk 14 .add 13 1,oM 6 14])))))) (oH [oM 31 5,oP 32 (.build [.nils] [(0,1,(.t 31))]),oSt 1 4 32] .ret))))⟩
def zd0:AFn:=⟨26,[.t 4],(oH [oMb 4 false] (oS (oH [oM 6 0,oLn 7 6,oM 8 1,oLn 9 8,oBt 10 .neq 7 9] (oQ 10 (oH [oMb 4 false] .ret) .skip)) (oS (oH [oMi 5 0] (.block 0 (.loop (oS (oH [oM 11 5,oM 12 0,oLn 13 12,oBt 14 .lss 11 13] (oQ 14 .skip (.exit 0))) (oS (.block 1 (oS (oD [[oM 17 0,oM 18 5,oIa 19 3 17 18,oLt 20 3 19,oM 21 1,oM 22 5,oIa 23 3 21 22,oLt 24 3 23],[oP 25 (.eq true true [.i,.i,.s] (.t 20) (.t 24))]]) (oQ 25 (oH [oMb 4 false] .ret) .skip))) (oG [oM 15 5,oBk 16 .add 15 1,oM 5 16])))))) (oH [oMb 4 true] .ret))))⟩
def zfu:AFn:=⟨47,[.t 2],(oH [oMb 2 false] (oS (oH [oM 5 0,oLn 6 5,oMi 7 0] (.block 0 (.loop (oH [oBt 8 .lss 7 6] (oS (oQ 8 .skip (.exit 0)) (oS (.block 1 (oH [oM 9 7,oIa 10 6 5 7,oLt 11 6 10,oP 4 (.alloc [.str [],.int .i64 0,.bool false,.int .i64 0,.int .i64 0,.str []]),oM 3 9,oSt 6 4 11] (oS (oH [oM 12 3,oBk 13 .eql 12 8,oM 14 13,ofa 15 0 4 14,ofl 16 15 14,ofc 17 123 [.t 16] 14,oF 18 (.un .not (.t 17)) 14,oPo 19 14 18,oM 20 19,ofa 21 1 4 20,ofl 22 21 20,oF 23 (.bin .neq (.t 22) (kI 1)) 20,ofm 24 23 20,ota 25 1 4 24,otl 26 25 24,oT 27 (.bin .neq (.t 26) (kI 2)) 24,oF 28 (.pick (.t 24) (.t 27) (.k (.bool false))) 20,oPo 29 20 28,oM 30 29,ofa 31 3 4 30,oF 32 (.load true 3 (.t 31)) 30,ofa 33 1 4 30,ofl 34 33 30,ofc 35 233 [.t 32,.t 34] 30,oF 36 (.un .not (.t 35)) 30,oPo 37 30 36] (oQ 37 (oH [oMb 2 false] .ret) .skip)) (oH [oM 38 0,oM 39 3,oP 40 (.slice 6 (.t 38) none (some (.t 39)) none),oP 41 (.mkfn 367 [] [.t 4]),oC 42 366 [.t 40,.t 41]] (oQ 42 (oH [oMb 2 false] .ret) .skip))))) (oG [oBk 43 .add 7 1,oM 7 43]))))))) (oH [oM 44 0,oLn 45 44,oBk 46 .gtr 45 0,oM 2 46] .ret)))⟩
def jd0:AFn:=⟨30,[.t 4],(oH [oMb 4 false] (oS (oH [oM 7 0,oLn 8 7,oMi 9 0] (.block 0 (.loop (oH [oBt 10 .lss 9 8] (oS (oQ 10 .skip (.exit 0)) (oS (.block 1 (oH [oM 11 9,oIa 12 1 7 9,oLf 13 12,oM 5 11,oM 6 13] (oH [oM 14 6,oM 15 1,oBk 16 .sub 15 1,oC 17 177 [.t 14,(kI 0),.t 16],oUn 18 17,oM 19 18,ofm 20 0 19,ofm 21 5 19,oF 22 (.slice 1 (.t 20) none (some (.t 21)) none) 19,ofm 23 6 19,ofc 24 368 [.t 22,.t 23] 19,oPo 25 19 24] (oQ 25 (oH [oMb 4 false] .ret) .skip)))) (oG [oBk 26 .add 9 1,oM 9 26]))))))) (oH [oM 27 0,oLn 28 27,oBk 29 .gtr 28 0,oM 4 29] .ret)))⟩
def jax:AFn:=⟨9,[.t 4],(oH [oMb 4 false] (oH [oM 5 0,oM 6 1,oC 7 369 [.t 5,.t 6],oBk 8 .geq 7 0,oM 4 8] .ret))⟩
theorem w5:ze Tryz.prog [] 332=some jax:=yak9
def wej:AFn:=⟨11,[.t 3],(oH [oMb 3 false] (oH [oFa 4 1 1,oLf 5 4,oM 6 0,oIa 7 6 5 6,oFa 8 2 7,oLf 9 8,oUn 10 9,oM 3 10] .ret))⟩
def wbg:AFn:=⟨9,[.t 4],(oH [oMb 4 false] (oH [oM 5 0,oM 6 1,oC 7 370 [.t 5,.t 6],oBk 8 .geq 7 0,oM 4 8] .ret))⟩
theorem wa5:ze Tryz.prog [] 334=some wbg:=yak9
def zek:AFn:=⟨9,[.t 3],(oH [oBx 2 0,oMb 3 false] (oH [oFa 4 0 2,oLf 5 4,oLf 6 1,oC 7 331 [.t 5,.t 6],oUn 8 7,oM 3 8] .ret))⟩
def jek:AFn:=⟨9,[.t 3],(oH [oBx 2 0,oMb 3 false] (oH [oFa 4 0 2,oLf 5 4,oLf 6 1,oC 7 239 [.t 5,.t 6],oUn 8 7,oM 3 8] .ret))⟩
def wek:AFn:=⟨8,[.t 3],(oH [oBx 2 0,oMb 3 false] (oH [oLt 4 5 2,oLf 5 1,oC 6 338 [.t 4,.t 5],oUn 7 6,oM 3 7] .ret))⟩
def zhz:AFn:=⟨24,[.t 4],(oH [oBx 2 0,oMb 4 false] (oH [oFa 5 0 2,oLf 6 5,oM 7 1,oC 8 331 [.t 6,.t 7],oM 9 8,ota 10 1 2 9,otl 11 10 9,otc 12 123 [.t 11] 9,oPa 13 9 12,oM 14 13,ota 15 2 2 14,otl 16 15 14,otc 17 177 [.t 16,(kI 0),(kI 2)] 14,oPa 18 14 17,oM 19 18,ota 20 3 2 19,otl 21 20 19,otc 22 177 [.t 21,(kI 0),(kI 2)] 19,oPa 23 19 22,oM 4 23] .ret))⟩
def zco:AFn:=⟨19,[.t 4],(oH [oMi 4 0] (oS (oH [oM 6 0,oLn 7 6,oMi 8 0] (.block 0 (.loop (oH [oBt 9 .lss 8 7] (oS (oQ 9 .skip (.exit 0)) (oS (.block 1 (oH [oM 10 8,oM 5 10] (oH [oM 11 1,oM 12 0,oM 13 5,oIa 14 5 12 13,oLt 15 5 14,⟨some 16,.call (.t 11) [.t 15],none⟩] (oQ 16 (oH [oM 17 5,oM 4 17] .ret) .skip)))) (oG [oBk 18 .add 8 1,oM 8 18]))))))) (oH [oMi 4 (-1)] .ret)))⟩
theorem jad:ze Tryz.prog [] 339=some zco:=yak9
def jci:AFn:=⟨19,[.t 4],(oH [oMi 4 0] (oS (oH [oM 6 0,oLn 7 6,oMi 8 0] (.block 0 (.loop (oH [oBt 9 .lss 8 7] (oS (oQ 9 .skip (.exit 0)) (oS (.block 1 (oH [oM 10 8,oM 5 10] (oH [oM 11 1,oM 12 0,oM 13 5,oIa 14 2 12 13,oLt 15 2 14,⟨some 16,.call (.t 11) [.t 15],none⟩] (oQ 16 (oH [oM 17 5,oM 4 17] .ret) .skip)))) (oG [oBk 18 .add 8 1,oM 8 18]))))))) (oH [oMi 4 (-1)] .ret)))⟩
theorem zby:ze Tryz.prog [] 340=some jci:=yak9
def wbq:AFn:=⟨9,[.t 4],(oH [oMb 4 false] (oH [oM 5 0,oM 6 1,oC 7 371 [.t 5,.t 6],oBk 8 .geq 7 0,oM 4 8] .ret))⟩
theorem wbd:ze Tryz.prog [] 341=some wbq:=yak9
def wd0:AFn:=⟨9,[.t 3],(oH [oBx 2 0,oMb 3 false] (oH [oFa 4 0 2,oLf 5 4,oLf 6 1,oC 7 239 [.t 5,.t 6],oUn 8 7,oM 3 8] .ret))⟩
def zb9:AFn:=⟨42,[.t 4],(oH [oP 4 (.mv (.k (.nils)))] (oH [oM 8 0,oM 9 1,oC 10 188 [.t 8,.t 9],oM 5 10] (oS (oH [oM 11 5,oBk 12 .eql 11 (-1)] (oQ 12 (oH [oM 13 0,oM 4 13] .ret) .skip)) (oS (oH [oM 14 5,oBk 15 .add 14 1,oM 6 15] (.block 0 (.loop (oS (oH [oM 16 6,oM 17 0,oLn 18 17,oBt 19 .lss 16 18] (oQ 19 .skip (.exit 0))) (oS (.block 1 (oH [oM 22 0,oM 23 6,oIa 24 2 22 23,oLt 25 2 24,oP 7 (.alloc [.int .i64 0,.nils]),oSt 2 7 25] (oH [oM 26 1,oLt 27 2 7,⟨some 28,.call (.t 26) [.t 27],none⟩,oUn 29 28] (oQ 29 (oH [oM 30 0,oM 31 5,oLt 32 2 7,oIa 33 2 30 31,oSt 2 33 32] (oG [oM 34 5,oBk 35 .add 34 1,oM 5 35])) .skip)))) (oG [oM 20 6,oBk 21 .add 20 1,oM 6 21])))))) (oH [oM 36 0,oM 37 5,oP 38 (.slice 2 (.t 36) (some (.t 37)) none none),⟨none,.op (.clear [.int .i64 0,.nils] (.t 38)),none⟩] (oH [oM 39 0,oM 40 5,oP 41 (.slice 2 (.t 39) none (some (.t 40)) none),oM 4 41] .ret))))))⟩
theorem zbr:ze Tryz.prog [] 343=some zb9:=yak9
def wb1:AFn:=⟨8,[.t 3],(oH [oBx 2 0,oMb 3 false] (oH [oFa 4 0 2,oLf 5 4,oLf 6 1,oBt 7 .eql 5 6,oM 3 7] .ret))⟩
def jco:AFn:=⟨96,[.t 10],(oH [oMi 10 0] (oS (oH [oM 19 0,oNc 20 19,oFa 21 0 20,oLf 22 21,oLn 23 22,oMi 24 0] (.block 0 (.loop (oH [oBt 25 .lss 24 23] (oS (oQ 25 .skip (.exit 0)) (oS (.block 1 (oH [oM 26 24,oIa 27 6 22 24,oLt 28 6 27,oP 12 (.alloc [.str [],.nils,.nils,.nils,.nils,.nils]),oM 11 26,oSt 6 12 28] (oH [oFa 29 5 12,oLf 30 29,oLn 31 30,oMi 32 0] (.block 2 (.loop (oH [oBt 33 .lss 32 31] (oS (oQ 33 .skip (.exit 2)) (oS (.block 3 (oH [oIa 34 5 30 32,oLt 35 5 34,oP 14 (.alloc [.nils,.str [],.int .i64 0,.int .i64 0,.bool false]),oSt 5 14 35] (oS (oS (oD [[oFa 36 1 14,oLf 37 36,oM 38 0,oNc 39 38,oFa 40 0 39,oLf 41 40,oM 42 1,oIa 43 6 41 42,oFa 44 0 43,oLf 45 44],[oBt 46 .neq 37 45]]) (oQ 46 (.exit 3) .skip)) (oS (oD [[oM 47 0,oNc 48 47,oFa 49 1 48,oLf 50 49,oM 51 11,oIa 52 1 50 51,oFa 53 0 52,oLf 54 53,oFa 55 0 14,oLf 56 55,oM 57 2,oC 58 352 [.t 54,.t 56,.t 57],oLn 59 58,oMi 60 0]]) (.block 4 (.loop (oH [oBt 61 .lss 60 59] (oS (oQ 61 .skip (.exit 4)) (oS (.block 5 (oH [oIa 62 1 58 60,oLf 63 62,oM 16 63] (oH [oM 64 0,oM 65 11,oM 66 16,oC 67 84 [.t 64,.t 65,.t 66],oM 17 67] (oS (oS (oD [[oM 68 17],[oP 69 (.eq false false [.pt] (.t 68) (.k (.nilp)))],[oM 70 69],[ofa 71 0 14 70,ofl 72 71 70,ofm 73 17 70,oF 74 (.nilc (.t 73)) 70,ofa 75 1 74 70,ofl 76 75 70,ofm 77 2 70],[ofc 78 298 [.t 72,.t 76,.t 77] 70],[oF 79 (.un .not (.t 78)) 70],[oPo 80 70 79]]) (oQ 80 (.exit 5) .skip)) (oS (oD [[oM 81 0,oM 82 11,oM 83 17,oNc 84 83,oLt 85 2 84,oLt 86 5 14,oM 87 3,oM 88 4],[oC 89 372 [.t 81,.t 82,.t 85,.t 86,.t 87,.t 88]],[oM 18 89]]) (oH [oM 90 18,oBk 91 .neq 90 0] (oQ 91 (oH [oM 92 18,oM 10 92] .ret) .skip))))))) (oG [oBk 93 .add 60 1,oM 60 93])))))))))) (oG [oBk 94 .add 32 1,oM 32 94]))))))))) (oG [oBk 95 .add 24 1,oM 24 95]))))))) (oH [oMi 10 0] .ret)))⟩
theorem zb2:ze Tryz.prog [] 345=some jco:=yak9
def wdo:AFn:=⟨26,[.t 4],(oH [oMb 4 false] (oS (oH [oM 6 0,oLn 7 6,oM 8 1,oLn 9 8,oBt 10 .neq 7 9] (oQ 10 (oH [oMb 4 false] .ret) .skip)) (oS (oH [oM 11 0,oLn 12 11,oMi 13 0] (.block 0 (.loop (oH [oBt 14 .lss 13 12] (oS (oQ 14 .skip (.exit 0)) (oS (.block 1 (oH [oM 15 13,oM 5 15] (oS (oD [[oM 16 0,oM 17 5,oIa 18 3 16 17,oLt 19 3 18,oM 20 1,oM 21 5,oIa 22 3 20 21,oLt 23 3 22],[oP 24 (.eq true true [.i,.i,.s] (.t 19) (.t 23))]]) (oQ 24 (oH [oMb 4 false] .ret) .skip)))) (oG [oBk 25 .add 13 1,oM 13 25]))))))) (oH [oMb 4 true] .ret))))⟩
def jfu:AFn:=⟨26,[.t 4],(oH [oBx 2 0,oMb 4 false] (oS (oH [oMi 5 0] (.block 0 (.loop (oS (oH [oM 6 5,oM 7 1,oLn 8 7,oBt 9 .lss 6 8] (oQ 9 .skip (.exit 0))) (oS (.block 1 (oH [oFa 12 1 2,oLf 13 12,oM 14 5,oIa 15 6 13 14,oFa 16 2 15,oLf 17 16,oM 18 17,otm 19 1 18,otm 20 5 18,oti 21 3 19 20 18,ota 22 0 21 18,otl 23 22 18,oT 24 (.bin .eql (.t 23) (kI 0)) 18,oPa 25 18 24] (oQ 25 (oH [oMb 4 false] .ret) .skip))) (oG [oM 10 5,oBk 11 .add 10 1,oM 5 11])))))) (oH [oMb 4 true] .ret)))⟩
def we4:AFn:=⟨28,[.t 4],(oH [oBx 2 0,oMb 4 false] (oS (oH [oMi 5 0] (.block 0 (.loop (oS (oH [oM 7 5,oFa 8 4 2,oLf 9 8,oLn 10 9,oBt 11 .lss 7 10] (oQ 11 .skip (.exit 0))) (oS (.block 1 (oH [oFa 14 4 2,oLf 15 14,oM 16 5,oIa 17 1 15 16,oFa 18 0 17,oLf 19 18,oM 20 1,oC 21 161 [.t 19,.t 20],oM 6 21] (oH [oM 22 6,oBk 23 .eql 22 0,oM 24 23,ofm 25 6 24,oF 26 (.bin .lss (.t 25) (kI 0)) 24,oPo 27 24 26] (oQ 27 (oH [oMb 4 false] .ret) .skip)))) (oG [oM 12 5,oBk 13 .add 12 1,oM 5 13])))))) (oH [oMb 4 true] .ret)))⟩
def ze5:AFn:=⟨29,[.t 6],(oH [oBx 3 0,oBx 4 1,oBx 5 2,oMb 6 false] (oS (oH [oLt 8 1 4,oFa 9 2 3,oLf 10 9,oLt 11 2 5,oC 12 373 [.t 8,.t 10,.t 11]] (oQ 12 (oH [oMb 6 false] .ret) .skip)) (oS (oH [oMi 7 0] (.block 0 (.loop (oS (oH [oM 13 7,oFa 14 3 3,oLf 15 14,oLn 16 15,oBt 17 .lss 13 16] (oQ 17 .skip (.exit 0))) (oS (.block 1 (oS (oD [[oLt 20 1 4,oFa 21 3 3,oLf 22 21,oM 23 7,oIa 24 1 22 23,oFa 25 0 24,oLf 26 25,oLt 27 2 5],[oC 28 373 [.t 20,.t 26,.t 27]]]) (oQ 28 (oH [oMb 6 false] .ret) .skip))) (oG [oM 18 7,oBk 19 .add 18 1,oM 7 19])))))) (oH [oMb 6 true] .ret))))⟩
def jb2:AFn:=⟨19,[.t 4],(oH [oMi 4 0] (oS (oH [oM 6 0,oLn 7 6,oMi 8 0] (.block 0 (.loop (oH [oBt 9 .lss 8 7] (oS (oQ 9 .skip (.exit 0)) (oS (.block 1 (oH [oM 10 8,oM 5 10] (oH [oM 11 1,oM 12 0,oM 13 5,oIa 14 1 12 13,oLt 15 1 14,⟨some 16,.call (.t 11) [.t 15],none⟩] (oQ 16 (oH [oM 17 5,oM 4 17] .ret) .skip)))) (oG [oBk 18 .add 8 1,oM 8 18]))))))) (oH [oMi 4 (-1)] .ret)))⟩
theorem wan:ze Tryz.prog [] 350=some jb2:=yak9
def jbb:AFn:=⟨19,[.t 4],(oH [oMi 4 0] (oS (oH [oM 6 0,oLn 7 6,oMi 8 0] (.block 0 (.loop (oH [oBt 9 .lss 8 7] (oS (oQ 9 .skip (.exit 0)) (oS (.block 1 (oH [oM 10 8,oM 5 10] (oH [oM 11 1,oM 12 0,oM 13 5,oIa 14 1 12 13,oLf 15 14,⟨some 16,.call (.t 11) [.t 15],none⟩] (oQ 16 (oH [oM 17 5,oM 4 17] .ret) .skip)))) (oG [oBk 18 .add 8 1,oM 8 18]))))))) (oH [oMi 4 (-1)] .ret)))⟩
theorem way:ze Tryz.prog [] 351=some jbb:=yak9
def jhb:AFn:=⟨29,[.t 6],(oH [oP 6 (.mv (.k (.nils)))] (oH [oP 10 (.mksl false 1 0 [.int .i64 0] []),oM 7 10] (oS (oH [oM 11 0,oLn 12 11,oMi 13 0] (.block 0 (.loop (oH [oBt 14 .lss 13 12] (oS (oQ 14 .skip (.exit 0)) (oS (.block 1 (oH [oIa 15 2 11 13,oLt 16 2 15,oP 9 (.alloc [.int .i64 0,.nils]),oSt 2 9 16] (oH [oM 17 1,oFa 18 1 9,oLf 19 18,oM 20 2,oC 21 298 [.t 17,.t 19,.t 20]] (oQ 21 (oG [oM 22 7,oFa 23 0 9,oLf 24 23,oP 25 (.mksl true 1 1 [.int .i64 0] [(0,(.t 24))]),oP 26 (.app 1 8 (.t 22) (.t 25)),oM 7 26]) .skip)))) (oG [oBk 27 .add 13 1,oM 13 27]))))))) (oH [oM 28 7,oM 6 28] .ret))))⟩
theorem wco:ze Tryz.prog [25] 352=some jhb:=yak9
def zel:AFn:=⟨16,[.t 2],(oH [oP 2 (.mv (.k (.int .u64 0)))] (oH [oP 3 (.mv (.k (.int .u64 0)))] (oS (oH [oMi 4 0] (.block 0 (.loop (oS (oH [oM 5 4,oBk 6 .lss 5 8] (oQ 6 .skip (.exit 0))) (oS (.block 1 (oG [oM 9 3,oP 10 (.bin .shl (.t 9) (.k (.int .u64 8))),oM 11 0,oC 12 301 [.t 11],oP 13 (.conv .u64 (.t 12)),oBt 14 .or 10 13,oM 3 14])) (oG [oM 7 4,oBk 8 .add 7 1,oM 4 8])))))) (oH [oM 15 3,oM 2 15] .ret))))⟩
theorem wde:ze Tryz.prog [] 353=some zel:=yak9
def je5:AFn:=⟨21,[.t 4],(oH [oBx 2 0,oBx 3 1,oMb 4 false] (oH [oLt 5 3 2,oC 6 305 [.t 5],oM 7 6,oT 8 (.load true 3 (.t 3)) 7,otc 9 305 [.t 8] 7,oPa 10 7 9,oM 11 10,ota 12 0 2 11,otl 13 12 11,oT 14 (.bin .neq (.t 13) (kI 0)) 11,oPa 15 11 14,oM 16 15,ota 17 0 3 16,otl 18 17 16,oT 19 (.bin .neq (.t 18) (kI 0)) 16,oPa 20 16 19,oM 4 20] .ret))⟩
def whb:AFn:=⟨22,[.t 4],(oH [oBx 2 0,oBx 3 1,oMi 4 0] (oS (oD [[oFa 5 0 2,oLf 6 5,oFa 7 0 3,oLf 8 7,oC 9 375 [.t 6,.t 8],oFa 10 1 2,oLf 11 10,oFa 12 1 3,oLf 13 12,oC 14 375 [.t 11,.t 13],oFa 15 2 2,oLf 16 15,oFa 17 2 3,oLf 18 17],[oC 19 376 [.t 16,.t 18]],[oP 20 (.mksl true 1 3 [.int .i64 0] [(0,(.t 9)),(1,(.t 14)),(2,(.t 19))])],[oC 21 374 [.t 20]],[oM 4 21]]) .ret))⟩
def jel:AFn:=⟨6,[.t 2],(oH [oMb 2 false] (oH [oM 3 0,oC 4 332 [.t 3,(.f 377)],oUn 5 4,oM 2 5] .ret))⟩
def zhc:AFn:=⟨18,[.t 4],(oH [oMb 4 false] (oS (oH [oMi 5 0] (.block 0 (.loop (oS (oH [oM 6 5,oM 7 0,oLn 8 7,oBt 9 .lss 6 8] (oQ 9 .skip (.exit 0))) (oS (.block 1 (oH [oM 12 0,oM 13 5,oIa 14 1 12 13,oLf 15 14,oM 16 1,oBt 17 .eql 15 16] (oQ 17 (oH [oMb 4 true] .ret) .skip))) (oG [oM 10 5,oBk 11 .add 10 1,oM 5 11])))))) (oH [oMb 4 false] .ret)))⟩
def zgl:AFn:=⟨27,[.t 4],(oH [oBx 2 0,oBx 3 1,oMi 4 0] (oS (oH [oLt 5 3 2,oC 6 253 [.t 5],oUn 7 6,oM 8 7,oF 9 (.load true 3 (.t 3)) 8,ofc 10 253 [.t 9] 8,oF 11 (.un .not (.t 10)) 8,oPo 12 8 11,oM 13 12,ofa 14 0 2 13,ofl 15 14 13,oF 16 (.bin .eql (.t 15) (kI 0)) 13,oPo 17 13 16,oM 18 17,ofa 19 0 3 18,ofl 20 19 18,oF 21 (.bin .eql (.t 20) (kI 0)) 18,oPo 22 18 21] (oQ 22 (oH [oMi 4 2] .ret) .skip)) (oH [oLt 23 3 2,oLt 24 3 3,oP 25 (.eq false true [.i,.i,.s] (.t 23) (.t 24)),oC 26 316 [.t 25],oM 4 26] .ret)))⟩
def jhc:AFn:=⟨28,[.t 4],(oH [oBx 2 0,oBx 3 1,oMi 4 0] (oS (oH [oLt 5 3 2,oC 6 253 [.t 5],oUn 7 6,oM 8 7,oF 9 (.load true 3 (.t 3)) 8,ofc 10 253 [.t 9] 8,oF 11 (.un .not (.t 10)) 8,oPo 12 8 11,oM 13 12,ofa 14 0 2 13,ofl 15 14 13,oF 16 (.bin .eql (.t 15) (kI 0)) 13,oPo 17 13 16,oM 18 17,ofa 19 0 3 18,ofl 20 19 18,oF 21 (.bin .eql (.t 20) (kI 0)) 18,oPo 22 18 21] (oQ 22 (oH [oMi 4 2] .ret) .skip)) (oH [oLt 23 3 2,oLt 24 3 3,oC 25 378 [.t 23,.t 24],oBk 26 .lss 25 0,oC 27 316 [.t 26],oM 4 27] .ret)))⟩
def whc:AFn:=⟨38,[.m 6 true 3,.t 7],(oH [oBx 3 0,oBx 4 1,oP 6 (.alloc [.int .i64 0,.int .i64 0,.str []]),oMb 7 false] (oS (oH [oFa 9 0 3,oLf 10 9,oBk 11 .eql 10 2,oM 12 11,ofa 13 0 4 12,ofl 14 13 12,oF 15 (.bin .eql (.t 14) (kI 2)) 12,oPo 16 12 15] (oQ 16 (oH [oP 17 (.build [.int .i64 0,.int .i64 0,.str []] []),oSt 3 6 17,oMb 7 false] .ret) .skip)) (oS (oH [oFa 18 0 3,oLf 19 18,oBk 20 .eql 19 0,oM 21 20,ofa 22 0 4 21,ofl 23 22 21,oF 24 (.bin .eql (.t 23) (kI 0)) 21,oPo 25 21 24] (oQ 25 (oH [oP 26 (.build [.int .i64 0,.int .i64 0,.str []] []),oSt 3 6 26,oMb 7 true] .ret) .skip)) (oH [oFa 27 1 3,oLf 28 27,oM 29 2,oFa 30 1 4,oLf 31 30,oBt 32 .mul 29 31,oBt 33 .add 28 32,oC 34 224 [.t 33],oP 8 (.alloc [.int .i64 0,.int .i64 0,.str []]),oSt 3 8 34] (oS (oD [[oLt 35 3 8,oLt 36 3 8,oC 37 253 [.t 36]],[oSt 3 6 35],[oM 7 37]]) .ret)))))⟩
def jhz:AFn:=⟨28,[.t 4],(oH [oMi 4 0] (oS (.block 0 (oH [oM 6 0,oC 7 379 [.t 6],oUn 8 7,oM 9 8,ofm 10 1 9,ofc 11 379 [.t 10] 9,oF 12 (.un .not (.t 11)) 9,oPo 13 9 12,oM 5 13] (oQ 5 (oH [oMi 4 (-1)] .ret) (oH [oM 15 0,oBk 16 .eql 15 0,oM 17 16,ofm 18 1 17,oF 19 (.bin .eql (.t 18) (kI 0)) 17,oPo 20 17 19,oM 14 20] (oQ 14 (oH [oMi 4 0] .ret) (oH [oM 22 0,oBk 23 .eql 22 1,oM 24 23,otm 25 1 24,oT 26 (.bin .eql (.t 25) (kI 1)) 24,oPa 27 24 26,oM 21 27] (oQ 21 (oH [oMi 4 1] .ret) .skip))))))) (oH [oMi 4 2] .ret)))⟩
def wiu:AFn:=⟨28,[.t 4],(oH [oMi 4 0] (oS (.block 0 (oH [oM 6 0,oC 7 379 [.t 6],oUn 8 7,oM 9 8,ofm 10 1 9,ofc 11 379 [.t 10] 9,oF 12 (.un .not (.t 11)) 9,oPo 13 9 12,oM 5 13] (oQ 5 (oH [oMi 4 (-1)] .ret) (oH [oM 15 0,oBk 16 .eql 15 1,oM 17 16,ofm 18 1 17,oF 19 (.bin .eql (.t 18) (kI 1)) 17,oPo 20 17 19,oM 14 20] (oQ 14 (oH [oMi 4 1] .ret) (oH [oM 22 0,oBk 23 .eql 22 0,oM 24 23,otm 25 1 24,oT 26 (.bin .eql (.t 25) (kI 0)) 24,oPa 27 24 26,oM 21 27] (oQ 21 (oH [oMi 4 0] .ret) .skip))))))) (oH [oMi 4 2] .ret)))⟩
def we5:AFn:=⟨49,[.t 6],(oH [oBx 3 0,oBx 4 1,oBx 5 2,oP 6 (.mv (.k (.nils)))] (oH [oP 9 (.mksl false 1 0 [.int .i64 0] []),oM 7 9] (oS (oH [oMi 8 0] (.block 0 (.loop (oS (oH [oM 10 8,oFa 11 0 4,oLf 12 11,oLn 13 12,oBt 14 .lss 10 13] (oQ 14 .skip (.exit 0))) (oS (.block 1 (oS (oD [[oFa 17 0 4,oLf 18 17,oM 19 8,oIa 20 2 18 19,oFa 21 0 20,oLf 22 21,oFa 23 0 5,oLf 24 23],[oBt 25 .neq 22 24],[oM 26 25],[oT 27 (.load true 6 (.t 3)) 26,ota 28 0 4 26,otl 29 28 26,otm 30 8 26,oti 31 2 29 30 26,oT 32 (.load true 2 (.t 31)) 26,oT 33 (.mksl true 2 1 [.int .i64 0,.nils] [(0,(.t 32))]) 26,oT 34 (.build [.nils] [(0,1,(.t 33))]) 26,oT 35 (.load true 2 (.t 5)) 26],[otc 36 349 [.t 27,.t 34,.t 35] 26],[oT 37 (.un .not (.t 36)) 26],[oPa 38 26 37]]) (oQ 38 (oG [oM 39 7,oFa 40 0 4,oLf 41 40,oM 42 8,oIa 43 2 41 42,oFa 44 0 43,oLf 45 44,oP 46 (.mksl true 1 1 [.int .i64 0] [(0,(.t 45))]),oP 47 (.app 1 8 (.t 39) (.t 46)),oM 7 47]) .skip))) (oG [oM 15 8,oBk 16 .add 15 1,oM 8 16])))))) (oH [oM 48 7,oM 6 48] .ret))))⟩
theorem zbv:ze Tryz.prog [3,4,5,33,46] 363=some we5:=yak9
def ze6:AFn:=⟨40,[.t 8],(oH [oBx 6 2,oMb 8 false] (oH [oFa 13 0 6,oLf 14 13,oM 15 3,oC 16 326 [.t 14,.t 15],oM 12 16,oEx 17 12 0,oEx 18 12 1,oM 9 17,oM 10 18] (oH [oM 19 0,oFa 20 1 6,oLf 21 20,oC 22 67 [.t 19,.t 21],oM 11 22] (oS (oD [[oM 23 10],[oUn 24 23],[oM 25 24],[ofm 26 1 25,ofm 27 11 25,ofi 28 1 26 27 25,oF 29 (.load true 1 (.t 28)) 25,ofm 30 0 25,ofm 31 11 25,ofi 32 6 30 31 25,ofa 33 2 32 25,ofl 34 33 25,ofm 35 9 25],[ofc 36 380 [.t 29,.t 34,.t 35] 25],[oF 37 (.len false (.t 36)) 25],[oF 38 (.bin .gtr (.t 37) (kI 0)) 25],[oPo 39 25 38],[oM 8 39]]) .ret))))⟩
def jgl:AFn:=⟨157,[.t 16,.t 17],(oH [oBx 11 3,oP 16 (.mv (.k (.nils))),oMi 17 0] (oS (oD [[oM 28 1,oM 29 2,oIa 30 1 28 29,oLt 31 1 30,oFa 32 2 11,oLf 33 32,oM 34 4],[oC 35 380 [.t 31,.t 33,.t 34]],[oM 18 35]]) (oS (oH [oMi 19 0] (.block 0 (.loop (oS (oH [oM 36 19,oM 37 18,oLn 38 37,oBt 39 .lss 36 38] (oQ 39 .skip (.exit 0))) (oS (.block 1 (oS (oD [[oM 42 1,oM 43 2,oIa 44 1 42 43,oLt 45 1 44,oM 46 18,oM 47 19,oIa 48 1 46 47,oLf 49 48],[oC 50 70 [.t 45,.t 49]],[oM 20 50]]) (oS (oH [oM 51 20,oBk 52 .lss 51 0] (oQ 52 (.exit 1) .skip)) (oH [oM 53 1,oM 54 2,oIa 55 1 53 54,oFa 56 0 55,oLf 57 56,oM 58 20,oIa 59 2 57 58,oLt 60 2 59,oP 21 (.alloc [.int .i64 0,.nils]),oSt 2 21 60] (oH [oFa 62 2 11,oLf 63 62,oFa 64 1 21,oLf 65 64,oC 66 326 [.t 63,.t 65],oM 61 66,oEx 67 61 0,oEx 68 61 1,oM 22 67,oM 23 68] (oS (oH [oM 69 23,oUn 70 69,oM 71 70,ofm 72 22 71,ofm 73 4 71,ofc 74 329 [.t 72,.t 73] 71,oF 75 (.un .not (.t 74)) 71,oPo 76 71 75] (oQ 76 (.exit 1) .skip)) (oH [oM 77 1,oM 24 77] (oH [oMi 25 0] (oS (.block 2 (oH [oFa 123 0 11,oLf 124 123,oBk 125 .eql 124 0,oM 126 125,ota 127 1 11 126,otl 128 127 126,oPa 129 126 128,oM 122 129] (oQ 122 .skip (oH [oFa 131 0 11,oLf 132 131,oBk 133 .eql 132 0,oM 130 133] (oQ 130 (oH [oP 16 (.mv (.k (.nils))),oMi 17 5] .ret) (oH [oFa 135 0 11,oLf 136 135,oBk 137 .eql 136 1,oM 138 137,otm 139 6 138,oPa 140 138 139,oM 134 140] (oQ 134 (oG [oM 142 0,oM 143 1,oM 144 2,oFa 145 0 21,oLf 146 145,oM 147 7,oBk 148 .add 147 1,oC 149 257 [.t 142,.t 143,.t 144,.t 146,.t 148],oM 141 149,oEx 150 141 0,oEx 151 141 1,oM 24 150,oM 25 151]) (oH [oFa 78 1 21,oLf 79 78,oC 80 162 [.t 79],oM 26 80] (oS (oH [oMi 27 0] (.block 3 (.loop (oS (oH [oM 81 27,oFa 82 2 11,oLf 83 82,oLn 84 83,oBt 85 .lss 81 84] (oQ 85 .skip (.exit 3))) (oS (.block 4 (oH [oM 88 26,oFa 89 2 11,oLf 90 89,oM 91 27,oIa 92 1 90 91,oLf 93 92,oP 94 (.build [.int .i64 0,.int .i64 0,.str []] []),oIa 95 3 88 93,oSt 3 95 94] (oH [oFa 96 0 11,oLf 97 96,oBk 98 .eql 97 1] (oQ 98 (oD [[oM 99 26,oFa 100 2 11,oLf 101 100,oM 102 27,oIa 103 1 101 102,oLf 104 103,oM 105 5,oM 106 27,oIa 107 3 105 106,oLt 108 3 107],[oIa 109 3 99 104],[oSt 3 109 108]]) .skip)))) (oG [oM 86 27,oBk 87 .add 86 1,oM 27 87])))))) (oG [oM 111 0,oM 112 1,oM 113 2,oFa 114 0 21,oLf 115 114,oM 116 26,oM 117 7,oBk 118 .add 117 1,oC 119 259 [.t 111,.t 112,.t 113,.t 115,.t 116,(.k (.bool false)),.t 118],oM 110 119,oEx 120 110 0,oEx 121 110 1,oM 24 120,oM 25 121])))))))))) (oS (oH [oM 152 25,oBk 153 .neq 152 0] (oQ 153 (oH [oM 154 25,oP 16 (.mv (.k (.nils))),oM 17 154] .ret) .skip)) (oG [oM 155 24,oM 1 155]))))))))))) (oG [oM 40 19,oBk 41 .add 40 1,oM 19 41])))))) (oH [oM 156 1,oM 16 156,oMi 17 0] .ret))))⟩
def jby:AFn:=⟨9,[.t 4],(oH [oMb 4 false] (oH [oM 5 0,oM 6 1,oC 7 381 [.t 5,.t 6],oBk 8 .geq 7 0,oM 4 8] .ret))⟩
theorem zbh:ze Tryz.prog [] 366=some jby:=yak9
def wel:AFn:=⟨9,[.t 3],(oH [oBx 2 0,oMb 3 false] (oH [oFa 4 0 2,oLf 5 4,oFa 6 0 1,oLf 7 6,oBt 8 .eql 5 7,oM 3 8] .ret))⟩
def zbe:AFn:=⟨9,[.t 4],(oH [oMb 4 false] (oH [oM 5 0,oM 6 1,oC 7 382 [.t 5,.t 6],oBk 8 .geq 7 0,oM 4 8] .ret))⟩
theorem wa2:ze Tryz.prog [] 368=some zbe:=yak9
def za6:AFn:=⟨19,[.t 4],(oH [oMi 4 0] (oS (oH [oM 6 0,oLn 7 6,oMi 8 0] (.block 0 (.loop (oH [oBt 9 .lss 8 7] (oS (oQ 9 .skip (.exit 0)) (oS (.block 1 (oH [oM 10 8,oM 5 10] (oH [oM 11 1,oM 12 0,oM 13 5,oIa 14 1 12 13,oLf 15 14,⟨some 16,.call (.t 11) [.t 15],none⟩] (oQ 16 (oH [oM 17 5,oM 4 17] .ret) .skip)))) (oG [oBk 18 .add 8 1,oM 8 18]))))))) (oH [oMi 4 (-1)] .ret)))⟩
theorem z9:ze Tryz.prog [] 369=some za6:=yak9
def wby:AFn:=⟨19,[.t 4],(oH [oMi 4 0] (oS (oH [oM 6 0,oLn 7 6,oMi 8 0] (.block 0 (.loop (oH [oBt 9 .lss 8 7] (oS (oQ 9 .skip (.exit 0)) (oS (.block 1 (oH [oM 10 8,oM 5 10] (oH [oM 11 1,oM 12 0,oM 13 5,oIa 14 1 12 13,oLt 15 1 14,⟨some 16,.call (.t 11) [.t 15],none⟩] (oQ 16 (oH [oM 17 5,oM 4 17] .ret) .skip)))) (oG [oBk 18 .add 8 1,oM 8 18]))))))) (oH [oMi 4 (-1)] .ret)))⟩
theorem jbh:ze Tryz.prog [] 370=some wby:=yak9
def jb9:AFn:=⟨19,[.t 4],(oH [oMi 4 0] (oS (oH [oM 6 0,oLn 7 6,oMi 8 0] (.block 0 (.loop (oH [oBt 9 .lss 8 7] (oS (oQ 9 .skip (.exit 0)) (oS (.block 1 (oH [oM 10 8,oM 5 10] (oH [oM 11 1,oM 12 0,oM 13 5,oIa 14 1 12 13,oLt 15 1 14,⟨some 16,.call (.t 11) [.t 15],none⟩] (oQ 16 (oH [oM 17 5,oM 4 17] .ret) .skip)))) (oG [oBk 18 .add 8 1,oM 8 18]))))))) (oH [oMi 4 (-1)] .ret)))⟩
theorem jbr:ze Tryz.prog [] 371=some jb9:=yak9
def wc4:AFn:=⟨91,[.t 12],(oH [oBx 8 2,oBx 9 3,oMi 12 0] (oH [oFa 19 3 9,oLf 20 19,oM 13 20] (oS (oH [oM 21 4,oP 22 (.eq false false [.sl] (.t 21) (.k (.nils)))] (oQ 22 (oG [oFa 23 2 9,oLf 24 23,oM 13 24]) .skip)) (oH [oFa 25 1 8,oLf 26 25,oC 27 85 [.t 26],oM 14 27] (oS (.block 0 (oH [oM 41 13,oBk 42 .eql 41 0,oM 43 42,ota 44 4 9 43,otl 45 44 43,oPa 46 43 45,oM 40 46] (oQ 40 (oH [oMi 12 0] .ret) (oH [oM 48 13,oBk 49 .eql 48 0,oM 47 49] (oQ 47 (oH [oMi 12 5] .ret) (oH [oM 51 13,oBk 52 .eql 51 1,oM 53 52,otm 54 4 53,oT 55 (.eq false false [.sl] (.t 54) (.k (.nils))) 53,oPa 56 53 55,oM 50 56] (oQ 50 (oH [oM 57 0,oM 58 1,oFa 59 0 8,oLf 60 59,oM 61 5,oBk 62 .add 61 1,oC 63 281 [.t 57,.t 58,.t 60,.t 62],oM 12 63] .ret) (oH [oM 65 13,oBk 66 .eql 65 1,oM 64 66] (oQ 64 (oH [oFa 67 0 9,oLf 68 67,oLn 69 68,oMi 70 0] (.block 3 (.loop (oH [oBt 71 .lss 70 69] (oS (oQ 71 .skip (.exit 3)) (oS (.block 4 (oH [oM 72 70,oIa 73 1 68 70,oLf 74 73,oM 15 72,oM 16 74] (oG [oM 75 14,oM 76 16,oM 77 4,oM 78 15,oIa 79 3 77 78,oLt 80 3 79,oIa 81 3 75 76,oSt 3 81 80]))) (oG [oBk 82 .add 70 1,oM 70 82]))))))) (oH [oFa 28 0 9,oLf 29 28,oLn 30 29,oMi 31 0] (.block 1 (.loop (oH [oBt 32 .lss 31 30] (oS (oQ 32 .skip (.exit 1)) (oS (.block 2 (oH [oIa 33 1 29 31,oLf 34 33,oM 18 34] (oG [oM 35 14,oM 36 18,oP 37 (.build [.int .i64 0,.int .i64 0,.str []] []),oIa 38 3 35 36,oSt 3 38 37]))) (oG [oBk 39 .add 31 1,oM 31 39])))))))))))))))) (oH [oM 83 0,oM 84 1,oFa 85 0 8,oLf 86 85,oM 87 14,oM 88 5,oBk 89 .add 88 1,oC 90 283 [.t 83,.t 84,.t 86,.t 87,(.k (.bool false)),.t 89],oM 12 90] .ret))))))⟩
theorem wb9:ze Tryz.prog [8,9] 372=some wc4:=yak9
def wfu:AFn:=⟨37,[.t 6],(oH [oBx 3 0,oBx 5 2,oMb 6 false] (oH [oM 12 1,oFa 13 1 5,oLf 14 13,oC 15 326 [.t 12,.t 14],oM 11 15,oEx 16 11 0,oEx 17 11 1,oM 7 16,oM 8 17] (oS (oH [oM 18 8,oUn 19 18] (oQ 19 (oH [oMb 6 false] .ret) .skip)) (oH [oLt 20 1 3,oM 21 1,oM 22 7,oC 23 380 [.t 20,.t 21,.t 22],oM 9 23] (oS (oH [oMi 10 0] (.block 0 (.loop (oS (oH [oM 24 10,oM 25 9,oLn 26 25,oBt 27 .lss 24 26] (oQ 27 .skip (.exit 0))) (oS (.block 1 (oS (oD [[oM 30 9,oM 31 10,oIa 32 1 30 31,oLf 33 32,oFa 34 0 5,oLf 35 34],[oBt 36 .neq 33 35]]) (oQ 36 (oH [oMb 6 true] .ret) .skip))) (oG [oM 28 10,oBk 29 .add 28 1,oM 10 29])))))) (oH [oMb 6 false] .ret))))))⟩
def zhd:AFn:=⟨18,[.t 2],(oH [oMi 2 0] (oH [oMi 3 0] (oS (oH [oM 6 0,oLn 7 6,oMi 8 0] (.block 0 (.loop (oH [oBt 9 .lss 8 7] (oS (oQ 9 .skip (.exit 0)) (oS (.block 1 (oH [oIa 10 1 6 8,oLf 11 10,oM 5 11] (oH [oM 12 5,oM 13 3,oBt 14 .neq 12 13] (oQ 14 (oH [oM 15 5,oM 2 15] .ret) .skip)))) (oG [oBk 16 .add 8 1,oM 8 16]))))))) (oH [oM 17 3,oM 2 17] .ret))))⟩
def zdf:AFn:=⟨20,[.t 4],(oH [oMi 4 0] (oH [oM 7 0,oC 8 383 [.t 7],oM 5 8] (oH [oM 9 1,oC 10 383 [.t 9],oM 6 10] (oS (oH [oM 11 5] (oQ 11 (oS (oH [oM 12 6] (oQ 12 (oH [oMi 4 0] .ret) .skip)) (oH [oMi 4 (-1)] .ret)) .skip)) (oS (oH [oM 13 6] (oQ 13 (oH [oMi 4 1] .ret) .skip)) (oS (oH [oM 14 0,oM 15 1,oBt 16 .lss 14 15] (oQ 16 (oH [oMi 4 (-1)] .ret) .skip)) (oS (oH [oM 17 0,oM 18 1,oBt 19 .gtr 17 18] (oQ 19 (oH [oMi 4 1] .ret) .skip)) (oH [oMi 4 0] .ret))))))))⟩
def zc5:AFn:=⟨20,[.t 4],(oH [oMi 4 0] (oH [oM 7 0,oC 8 384 [.t 7],oM 5 8] (oH [oM 9 1,oC 10 384 [.t 9],oM 6 10] (oS (oH [oM 11 5] (oQ 11 (oS (oH [oM 12 6] (oQ 12 (oH [oMi 4 0] .ret) .skip)) (oH [oMi 4 (-1)] .ret)) .skip)) (oS (oH [oM 13 6] (oQ 13 (oH [oMi 4 1] .ret) .skip)) (oS (oH [oM 14 0,oM 15 1,oBt 16 .lss 14 15] (oQ 16 (oH [oMi 4 (-1)] .ret) .skip)) (oS (oH [oM 17 0,oM 18 1,oBt 19 .gtr 17 18] (oQ 19 (oH [oMi 4 1] .ret) .skip)) (oH [oMi 4 0] .ret))))))))⟩
def zdp:AFn:=⟨6,[.t 2],(oH [oMb 2 false] (oH [oM 3 0,oC 4 177 [.t 3,(kI 0),(kI 2)],oUn 5 4,oM 2 5] .ret))⟩
def zfv:AFn:=⟨36,[.t 4],(oH [oBx 2 0,oBx 3 1,oMi 4 0] (oS (.block 0 (oH [oFa 6 0 2,oLf 7 6,oFa 8 0 3,oLf 9 8,oBt 10 .lss 7 9,oM 11 10,ofa 12 0 2 11,ofl 13 12 11,ofa 14 0 3 11,ofl 15 14 11,oF 16 (.bin .eql (.t 13) (.t 15)) 11,ofm 17 16 11,ota 18 1 2 17,otl 19 18 17,ota 20 1 3 17,otl 21 20 17,oT 22 (.bin .lss (.t 19) (.t 21)) 17,otm 23 22 17,ofa 24 2 2 23,ofl 25 24 23,ofa 26 2 3 23,ofl 27 26 23,oF 28 (.bin .lss (.t 25) (.t 27)) 23,oT 29 (.pick (.t 23) (.k (.bool true)) (.t 28)) 17,oF 30 (.pick (.t 17) (.t 29) (.k (.bool false))) 11,oPo 31 11 30,oM 5 31] (oQ 5 (oH [oMi 4 (-1)] .ret) (oH [oLt 33 3 2,oLt 34 3 3,oP 35 (.eq false true [.i,.i,.s] (.t 33) (.t 34)),oM 32 35] (oQ 32 (oH [oMi 4 0] .ret) .skip))))) (oH [oMi 4 1] .ret)))⟩
def jhd:AFn:=⟨5,[.t 2],(oH [oMb 2 false] (oH [oM 3 0,oC 4 72 [.t 3,(kI 0),(kI 2)],oM 2 4] .ret))⟩
def wgl:AFn:=⟨46,[.t 6],(oH [oBx 3 0,oP 6 (.mv (.k (.nils)))] (oH [oP 11 (.mksl false 1 0 [.int .i64 0] []),oM 7 11] (oS (oH [oMi 8 0] (.block 0 (.loop (oS (oH [oM 12 8,oFa 13 0 3,oLf 14 13,oLn 15 14,oBt 16 .lss 12 15] (oQ 16 .skip (.exit 0))) (oS (.block 1 (oH [oM 20 1,oFa 21 0 3,oLf 22 21,oM 23 8,oIa 24 2 22 23,oFa 25 1 24,oLf 26 25,oC 27 326 [.t 20,.t 26],oM 19 27,oEx 28 19 0,oEx 29 19 1,oM 9 28,oM 10 29] (oH [oM 30 10,oM 31 30,otm 32 9 31,otm 33 2 31,otc 34 329 [.t 32,.t 33] 31,oPa 35 31 34] (oQ 35 (oG [oM 36 7,oFa 37 0 3,oLf 38 37,oM 39 8,oIa 40 2 38 39,oFa 41 0 40,oLf 42 41,oP 43 (.mksl true 1 1 [.int .i64 0] [(0,(.t 42))]),oP 44 (.app 1 8 (.t 36) (.t 43)),oM 7 44]) .skip)))) (oG [oM 17 8,oBk 18 .add 17 1,oM 8 18])))))) (oH [oM 45 7,oM 6 45] .ret))))⟩
theorem zem:ze Tryz.prog [3,43] 380=some wgl:=yak9
def wci:AFn:=⟨19,[.t 4],(oH [oMi 4 0] (oS (oH [oM 6 0,oLn 7 6,oMi 8 0] (.block 0 (.loop (oH [oBt 9 .lss 8 7] (oS (oQ 9 .skip (.exit 0)) (oS (.block 1 (oH [oM 10 8,oM 5 10] (oH [oM 11 1,oM 12 0,oM 13 5,oIa 14 6 12 13,oLt 15 6 14,⟨some 16,.call (.t 11) [.t 15],none⟩] (oQ 16 (oH [oM 17 5,oM 4 17] .ret) .skip)))) (oG [oBk 18 .add 8 1,oM 8 18]))))))) (oH [oMi 4 (-1)] .ret)))⟩
theorem zbz:ze Tryz.prog [] 381=some wci:=yak9
def wbr:AFn:=⟨19,[.t 4],(oH [oMi 4 0] (oS (oH [oM 6 0,oLn 7 6,oMi 8 0] (.block 0 (.loop (oH [oBt 9 .lss 8 7] (oS (oQ 9 .skip (.exit 0)) (oS (.block 1 (oH [oM 10 8,oM 5 10] (oH [oM 11 1,oM 12 0,oM 13 5,oIa 14 1 12 13,oLf 15 14,oBt 16 .eql 11 15] (oQ 16 (oH [oM 17 5,oM 4 17] .ret) .skip)))) (oG [oBk 18 .add 8 1,oM 8 18]))))))) (oH [oMi 4 (-1)] .ret)))⟩
theorem jbe:ze Tryz.prog [] 382=some wbr:=yak9
def zd1:AFn:=⟨6,[.t 2],(oH [oMb 2 false] (oH [oM 3 0,oM 4 0,oBt 5 .neq 3 4,oM 2 5] .ret))⟩
def jdp:AFn:=⟨6,[.t 2],(oH [oMb 2 false] (oH [oM 3 0,oM 4 0,oBt 5 .neq 3 4,oM 2 5] .ret))⟩
set_option linter.unusedSimpArgs false
theorem mixed:Tryz.prog.follows .mixedOrders=true:=Tryz.checked.mixed
variable {f:Nat}
theorem yap(fz:List Nat)(af:AFn){args:List AV}{r2:AV}(hg:∀G,OldS G->(∀x∈args,∀y∈x.all,Old G.next y)->Go Tryz.prog G.next af.nt af.rets (Fin G r2) [.code af.body] (frOf 0 args) (E G []))(h:ze Tryz.prog fz f=some af:=by kernel_rfl)(hn:args.length<=af.nt:=by exact yam rfl):Pure Tryz.prog f args r2:=Pure.run mixed h hn hg
theorem yaq(fz:List Nat)(af:AFn){args:List AV}{r2:AV}(hg:∀G,Go Tryz.prog G.next af.nt af.rets (Fin G r2) [.code af.body] (frOf 0 args) (E G []))(h:ze Tryz.prog fz f=some af:=by kernel_rfl)(hn:args.length<=af.nt:=by exact yam rfl):Pure Tryz.prog f args r2:=Pure.run mixed h hn λG _ _=>hg G
variable {fz:List Nat}{af:AFn}{args:List AV}{r2:AV}
theorem yar(h:ze Tryz.prog fz f=some af)(hg:∀G,OldS G->(∀x∈args,∀y∈x.all,Old G.next y)->Go Tryz.prog G.next af.nt af.rets (Fin G r2) [.code af.body] (frOf 0 args) (E G []))(hn:args.length<=af.nt:=by exact yam rfl):Pure Tryz.prog f args r2:=Pure.run mixed h hn hg
theorem yas(h:ze Tryz.prog fz f=some af)(hg:∀G,Go Tryz.prog G.next af.nt af.rets (Fin G r2) [.code af.body] (frOf 0 args) (E G []))(hn:args.length<=af.nt:=by exact yam rfl):Pure Tryz.prog f args r2:=Pure.run mixed h hn λG _ _=>hg G
structure Val where
 k:Int
 n:Int
 s:List UInt8
 deriving DecidableEq
def encV(v:Val):List Ce:=[.int .i64 v.k,.int .i64 v.n,.str v.s]
def isIn(n lo hi:Int):Bool:=decide (lo<=n)&&decide (n<=hi)
def zr(v:Val):Bool:=(v.k==0&&v.n==0&&v.s==[])||(v.k==1&&isIn v.n (-1000000000) 1000000000&&v.s==[])||(v.k==2&&v.n==0&&decide ((v.s.length:Int)<=12))
def cmpI(a b:Int):Int:=if a<b then -1 else if b<a then 1 else 0
def cmpS(a b:List UInt8):Int:=if jb6 a b then -1 else if a==b then 0 else 1
def orI:List Int->Int
 |[]=>0
 |n::r=>if n=0 then orI r else n
def encI(n:Int):List Ce:=[.int .i64 n]
def zjc(v w:Val):Int:=orI [cmpI v.k w.k,cmpI v.n w.n,cmpS v.s w.s]
theorem jem(n lo hi:Int):Pure Tryz.prog 177 [.c (.int .i64 n),.c (.int .i64 lo),.c (.int .i64 hi)] (.c (.bool (isIn n lo hi))):=by
 refine yaq [] wjb λG=>?_;repeat' first|refine X ?_|exact yaF|refine yaS ?_ ?_<;>intro _
 all_goals refine .ret rfl (.bool ?_)
 all_goals(simp_all[isIn]<;>omega)
theorem zav(n lo hi:Int):Pure Tryz.prog 72 [.c (.int .i64 n),.c (.int .i64 lo),.c (.int .i64 hi)] (.c (.bool (isIn n lo hi))):=by
 refine yaq [] whu λG=>?_;repeat' first|refine X ?_|exact yaF|refine yaS ?_ ?_<;>intro _
 all_goals refine .ret rfl (.bool ?_)
 all_goals(simp_all[isIn]<;>omega)
theorem wcx(v:Val):Pure Tryz.prog 305 [.agg (encV v)] (.c (.bool (zr v))):=by
 refine yaq [1] zg8 λG=>?_;repeat' first|refine X ?_|((first|apply Go.pcallB|apply Go.spcallB|apply Qg.pcallB);(iterate 3 exact rfl);exact jem _ _ _;intro _ _)|exact yaF|refine yaS ?_ ?_<;>intro _
 all_goals refine .ret rfl (.bool ?_)
 all_goals simp_all[zr]
theorem wah(v:Val):Pure Tryz.prog 253 [.agg (encV v)] (.c (.bool (zr v))):=by
 refine yaq [1] wg6 λG=>?_;repeat' first|refine X ?_|((first|apply Go.pcallB|apply Go.spcallB|apply Qg.pcallB);(iterate 3 exact rfl);exact zav _ _ _;intro _ _)|exact yaF|refine yaS ?_ ?_<;>intro _
 all_goals refine .ret rfl (.bool ?_)
 all_goals simp_all[zr]
theorem wj7(n:Int):Pure Tryz.prog 383 [.c (.int .i64 n)] (.c (.bool false)):=by
 refine yap [] zd1 λG hS hA=>?_;repeat' first|refine X ?_|exact yaF|refine yaS ?_ ?_<;>intro _
 all_goals refine .ret rfl (.bool gx)
theorem jjc(n:List UInt8):Pure Tryz.prog 384 [.c (.str n)] (.c (.bool false)):=by
 refine yap [] jdp λG hS hA=>?_;repeat' first|refine X ?_|exact yaF|refine yaS ?_ ?_<;>intro _
 all_goals refine .ret rfl (.bool gx)
theorem ziv(a b:Int):Pure Tryz.prog 375 [.c (.int .i64 a),.c (.int .i64 b)] (.c (.int .i64 (cmpI a b))):=by
 refine yaq [] zdf λG=>?_;repeat' first|refine X ?_|((first|apply yQ|apply yR|apply yS);(iterate 3 exact rfl);exact wj7 _)|exact yaF|refine yaS ?_ ?_<;>intro _
 all_goals refine .ret rfl (.int ?_)
 all_goals unfold cmpI
 all_goals repeat' split
 all_goals omega
theorem whz(a b:List UInt8):Pure Tryz.prog 376 [.c (.str a),.c (.str b)] (.c (.int .i64 (cmpS a b))):=by
 refine yaq [] zc5 λG=>?_;repeat' first|refine X ?_|((first|apply yQ|apply yR|apply yS);(iterate 3 exact rfl);exact jjc _)|exact yaF|refine yaS ?_ ?_<;>intro _
 all_goals refine .ret rfl (.int ?_)
 all_goals unfold cmpS
 all_goals repeat' split
 all_goals simp_all
theorem zlk(xs:List Int)(hx:xs.length<=34359738368):Pure Tryz.prog 374 [.c (.fz (xs.map encI))] (.c (.int .i64 (orI xs))):=by
 refine yaq [] zhd λG=>?_;repeat' first|refine X ?_|exact yaF|refine yaS ?_ ?_<;>intro _
 refine Go.keep [3,6,7,8] (Go.loops (I:=λm fr V=>∃i:Nat,∃n L:Int,m=xs.length-i/\i<=xs.length/\n=i/\L=xs.length/\orI xs=orI (xs.drop i)/\
  fr=[(3,.c (.int .i64 0)),(6,.c (.fz (xs.map encI))),(7,.c (.int .i64 L)),(8,.c (.int .i64 n))]/\V=E G []) ?_ _ _ _ ⟨0,_,_,rfl,yac _,rfl,gx,rfl,rfl,rfl⟩)
 rintro m fr V ⟨i,n,L,rfl,hi,hn,hL,hs,rfl,rfl⟩ hrec;repeat' first|refine X ?_|((first|apply yG|apply yH|apply yI);exact rfl;(first|exact yX (enc:=encI) rfl rfl hn O rfl))|exact yaF|refine yaS ?_ ?_<;>intro _
 ·refine .ret rfl (.int ?_);rw[hs,yab O];simp[orI, *]
 ·refine Go.keep [3,6,7,8] (hrec _ _ _ ?_ ⟨i+1,_,_,rfl, ?_, ?_,hL, ?_,rfl,rfl⟩)
  ·omega
  ·omega
  ·exact(wb hn O)
  ·rw[hs,yab O];simp[orI, *]
 ·refine .ret rfl (.int ?_);rw[hs,yad O]
  rfl
theorem zj8(v w:Val):Pure Tryz.prog 355 [.agg (encV v),.agg (encV w)] (.c (.int .i64 (zjc v w))):=by
 refine yaq [2,3,20] whb λG=>?_;repeat' first|refine X ?_|((first|apply yQ|apply yR|apply yS);(iterate 3 exact rfl);exact ziv _ _)|((first|apply yQ|apply yR|apply yS);(iterate 3 exact rfl);exact whz _ _)|((first|apply yQ|apply yR|apply yS);(iterate 3 exact rfl);exact zlk [cmpI v.k w.k,cmpI v.n w.n,cmpS v.s w.s] gx)|exact yaF|refine yaS ?_ ?_<;>intro _
 exact .ret rfl (.int rfl)
def jj8(v w:Val):Int:=if v.k<w.k\/(v.k=w.k/\(v.n<w.n\/jb6 v.s w.s=true))then -1 else if v=w then 0 else 1
theorem wf0(v w:Val):Pure Tryz.prog 378 [.agg (encV v),.agg (encV w)] (.c (.int .i64 (jj8 v w))):=by
 refine yaq [2,3] zfv λG=>?_;repeat' first|refine X ?_|exact yaF|refine yaS ?_ ?_<;>intro _
 all_goals refine .ret rfl (.int ?_)
 all_goals obtain⟨vk,vn,vs⟩:=v
 all_goals obtain⟨wk,wn,ws⟩:=w
 all_goals(simp_all[jj8]<;>split<;>simp_all<;>omega)
def zq(xs:List Val)(most:Int):Bool:=decide ((xs.length:Int)<=most)&&xs.all zr
theorem jiv(xs:List Val)(most:Int)(hm:0<=most)(hx:xs.length<=34359738368):Pure Tryz.prog 241 [.c (.fz (xs.map encV)),.c (.int .i64 most)] (.c (.bool (zq xs most))):=by
 refine yaq [] zfs λG=>?_;repeat' first|refine X ?_|exact yaF|refine yaS ?_ ?_<;>intro _
 refine Go.keep [1,7,8,9] (Go.loops (I:=λm fr V=>∃i:Nat,∃n L:Int,m=xs.length-i/\i<=xs.length/\n=i/\L=xs.length/\((i:Int)<=most/\zq xs most=(decide ((xs.length:Int)<=most)&&(xs.drop i).all zr))/\
  fr=[(1,.c (.int .i64 most)),(7,.c (.fz (xs.map encV))),(8,.c (.int .i64 L)),(9,.c (.int .i64 n))]/\V=E G []) ?_ _ _ _ ⟨0,_,_,rfl,yac _,rfl,gx,⟨hm,rfl⟩,rfl,rfl⟩)
 rintro m fr V ⟨i,n,L,rfl,hi,hn,hL,⟨hs1,hs⟩,rfl,rfl⟩ hrec;repeat' first|refine X ?_|((first|apply yG|apply yH|apply yI);exact rfl;(first|exact yX (enc:=encV) rfl rfl hn O rfl))|((first|apply Go.pcallB|apply Go.spcallB|apply Qg.pcallB);(iterate 3 exact rfl);exact wcx xs[i];intro _ _)|exact yaF|refine yaS ?_ ?_<;>intro _
 ·refine .ret rfl (.bool ?_);clear hrec;rw[hs];simp at*;omega
 ·refine .ret rfl (.bool ?_);clear hrec;rw[hs,yab O,ybw];simp_all
 ·refine Go.keep [1,7,8,9] (hrec _ _ _ O ⟨i+1,_,_,rfl,O,(wb hn O),hL,⟨?_, ?_⟩,rfl,rfl⟩)
  ·clear hrec;simp at*;omega
  ·rw[hs,yab O,ybw];clear hrec;simp_all
 ·refine .ret rfl (.bool ?_);rw[hs,yad O];simp;omega
structure jlk where
 key:List Val
 id:Int
 deriving DecidableEq
theorem jfv(a:List UInt8):jb6 a a=false:=by
 induction a with
 |nil=>rfl
 |cons x r ih=>simp_all[jb6,Op.bytesLess]
theorem zh0{v w:Val}(hv:zr v=true)(hw:zr w=true):jj8 v w=zjc v w:=by
 obtain⟨a,b,s⟩:=v;obtain⟨c,d,t⟩:=w;simp only[zr,isIn,Bool.or_eq_true,Bool.and_eq_true,beq_iff_eq,decide_eq_true_eq]at hv hw;simp only[jj8,zjc,orI,cmpI,cmpS,Val.mk.injEq];rcases hv with(⟨⟨rfl,rfl⟩,rfl⟩|⟨⟨rfl,hb⟩,rfl⟩)|⟨⟨rfl,rfl⟩,hs⟩<;>rcases hw with(⟨⟨rfl,rfl⟩,rfl⟩|⟨⟨rfl,hd⟩,rfl⟩)|⟨⟨rfl,rfl⟩,ht⟩<;>simp[jfv]
 ·by_cases h1:b<d
  ·simp[h1]
  ·by_cases h2:d<b
   ·have:¬b=d:=O;simp[h1,h2,this]
   ·have:b=d:=O;subst this;simp
def key0(e:jlk):Val:=match e.key with|v::_=>v|[]=>⟨0,0,[]⟩
theorem wle(v:Val):∀x∈encV v,Flat x:=by
 intro x hx;simp only[encV,List.mem_cons,List.not_mem_nil,or_false]at hx;rcases hx with rfl|rfl|rfl<;>constructor
theorem zkz(xs:List Int):∀e∈xs.map encI,e.length=1/\∀x∈e,Flat x:=by
 intro e he;obtain⟨a,_,rfl⟩:=List.mem_map.1 he;refine⟨rfl,λx hx=>?_⟩;simp only[encI,List.mem_cons,List.not_mem_nil,or_false]at hx;subst hx;exact .int _ _
theorem cnt3(xs:List Val):cntL (λ_=>3) xs=3*xs.length:=by
 induction xs with
 |nil=>rfl
 |cons a r ih=>simp only[cntL,ih,List.length_cons];omega
inductive jkz:List (Int->Int)->Prop where
 |nil:jkz []
 |cons {f:Int->Int} {r:List (Int->Int)} (h:∀l,0<=l->f l<=l) (k:jkz r):jkz (f::r)
def bV(N:Nat)(v:Val):Prop:=v.s.length<=N
structure Tok where
 kind:Int
 col:Int
 v:Val
 deriving DecidableEq
def zi(a:Tok):List Ce:=[.int .i64 a.kind,.int .i64 a.col,.int .i64 a.v.k,.int .i64 a.v.n,.str a.v.s]
theorem jh0(a:Tok):∀x∈zi a,Flat x:=by
 intro x hx;simp only[zi,List.mem_cons,List.not_mem_nil,or_false]at hx;rcases hx with rfl|rfl|rfl|rfl|rfl<;>constructor
def bTok(N:Nat)(a:Tok):Prop:=bV N a.v
structure Chk where
 expr:List Tok
 deriving DecidableEq
def jbm(a:Chk):List Ce:=[.fz (a.expr.map zi)]
def bChk(N:Nat)(a:Chk):Prop:=(a.expr.length<=N/\∀x∈a.expr,bTok N x)
structure Uniq where
 cols:List Int
 deriving DecidableEq
def zaz(a:Uniq):List Ce:=[.fz (a.cols.map encI)]
def wjc(N:Nat)(a:Uniq):Prop:=a.cols.length<=N
structure Fk where
 cols:List Int
 table:List UInt8
 onDelete:Int
 onUpdate:Int
 deferred:Bool
 deriving DecidableEq
def wal(a:Fk):List Ce:=[.fz (a.cols.map encI),.str a.table,.int .i64 a.onDelete,.int .i64 a.onUpdate,.bool a.deferred]
def bFk(N:Nat)(a:Fk):Prop:=a.cols.length<=N/\a.table.length<=N
structure Col where
 name:List UInt8
 kind:Int
 notNull:Bool
 dflt:Val
 deriving DecidableEq
def jf(a:Col):List Ce:=[.str a.name,.int .i64 a.kind,.bool a.notNull,.int .i64 a.dflt.k,.int .i64 a.dflt.n,.str a.dflt.s]
theorem zjd(a:Col):∀x∈jf a,Flat x:=by
 intro x hx;simp only[jf,List.mem_cons,List.not_mem_nil,or_false]at hx;rcases hx with rfl|rfl|rfl|rfl|rfl|rfl<;>constructor
def bCol(N:Nat)(a:Col):Prop:=a.name.length<=N/\bV N a.dflt
structure wc where
 name:List UInt8
 cols:List Col
 key:List Int
 uniques:List Uniq
 checks:List Chk
 fks:List Fk
 deriving DecidableEq
def ja(a:wc):List Ce:=[.str a.name,.fz (a.cols.map jf),.fz (a.key.map encI),.fz (a.uniques.map zaz),.fz (a.checks.map jbm),.fz (a.fks.map wal)]
def wad(N:Nat)(a:wc):Prop:=a.name.length<=N/\(a.cols.length<=N/\∀x∈a.cols,bCol N x)/\a.key.length<=N/\(a.uniques.length<=N/\∀x∈a.uniques,wjc N x)/\(a.checks.length<=N/\∀x∈a.checks,bChk N x)/\(a.fks.length<=N/\∀x∈a.fks,bFk N x)
structure Term where
 expr:List Tok
 deriving DecidableEq
def zt(a:Term):List Ce:=[.fz (a.expr.map zi)]
def wkz(N:Nat)(a:Term):Prop:=(a.expr.length<=N/\∀x∈a.expr,bTok N x)
structure je where
 table:List UInt8
 event:Int
 when_:List Tok
 into:List UInt8
 terms:List Term
 deriving DecidableEq
def zd(a:je):List Ce:=[.str a.table,.int .i64 a.event,.fz (a.when_.map zi),.str a.into,.fz (a.terms.map zt)]
def jap(N:Nat)(a:je):Prop:=a.table.length<=N/\(a.when_.length<=N/\∀x∈a.when_,bTok N x)/\a.into.length<=N/\(a.terms.length<=N/\∀x∈a.terms,wkz N x)
variable {fr:Fr}{G:jb}{kd:IntKind}{z:Int}{n:Nat}
theorem zii{x y:Opd}{s:List UInt8}(hx:x.ev fr=some (.c (.str s)))(hy:y.ev fr=some (.c (.int kd z)))(hz:z=(n:Int))(hn:n<s.length):aop (.idx x y) fr G=some (.c (.int .u8 (s[n].toNat:Int)),G):=by
 subst hz;simp[aop,hx,hy,hn]
def zcp(c:UInt8):Bool:=decide (97<=c.toNat)&&decide (c.toNat<=122)
def wbe(s:List UInt8):Bool:=s.all zcp&&isIn s.length 1 8
theorem je6(s:List UInt8)(hx:s.length<=34359738368):Pure Tryz.prog 123 [.c (.str s)] (.c (.bool (wbe s))):=by
 refine yaq [] wgf λG=>?_;repeat' first|refine X ?_|exact yaF|refine yaS ?_ ?_<;>intro _
 refine Go.keep [0,5,6] (Go.loops (I:=λm fr V=>∃i:Nat,∃n:Int,m=s.length-i/\i<=s.length/\n=i/\s.all zcp=(s.drop i).all zcp/\
  fr=[(0,.c (.str s)),(5,.c (.int .i64 (s.length:Int))),(6,.c (.int .i64 n))]/\V=E G []) ?_ _ _ _ ⟨0,_,rfl,yac _,rfl,rfl,rfl,rfl⟩)
 rintro m fr V ⟨i,n,rfl,hi,hn,hs,rfl,rfl⟩ hrec;by_cases hlt:i<s.length
 ·have hd:=yab hlt;repeat' first|refine X ?_|((first|apply yG|apply yH|apply yI);exact rfl;(first|exact zii rfl rfl hn hlt))|exact yaF|refine yaS ?_ ?_<;>intro _
  ·refine .ret rfl (.bool ?_);rename_i h;rw[wbe,hs,hd,ybw,zcp,decide_eq_false O]
   rfl
  ·refine .ret rfl (.bool ?_);rename_i h h2;rw[wbe,hs,hd,ybw,zcp,decide_eq_false (p:=s[i].toNat<=122) O];simp
  ·rename_i h h2;refine Go.keep [0,5,6] (hrec _ _ _ O ⟨i+1,_,rfl,hlt,wb hn O, ?_,rfl,rfl⟩);rw[hs,hd,ybw,zcp,decide_eq_true O,decide_eq_true O]
   rfl
 ·repeat' first|refine X ?_|((first|apply yQ|apply yR|apply yS);(iterate 3 exact rfl);exact jem _ _ _)|exact yaF|refine yaS ?_ ?_<;>intro _
  refine .ret rfl (.bool ?_);rw[wbe,hs,yad O]
  rfl
theorem we6(s:List UInt8)(hx:s.length<=34359738368):Pure Tryz.prog 206 [.c (.str s)] (.c (.bool (wbe s))):=by
 refine yaq [] zgh λG=>?_;repeat' first|refine X ?_|exact yaF|refine yaS ?_ ?_<;>intro _
 refine Go.keep [0,3] (Go.loops (I:=λm fr V=>∃i:Nat,∃n:Int,m=s.length-i/\i<=s.length/\n=i/\s.all zcp=(s.drop i).all zcp/\
  fr=[(0,.c (.str s)),(3,.c (.int .i64 n))]/\V=E G []) ?_ _ _ _ ⟨0,_,rfl,yac _,rfl,rfl,rfl,rfl⟩)
 rintro m fr V ⟨i,n,rfl,hi,hn,hs,rfl,rfl⟩ hrec;by_cases hlt:i<s.length
 ·have hd:=yab hlt;repeat' first|refine X ?_|((first|apply yG|apply yH|apply yI);exact rfl;(first|exact zii rfl rfl hn hlt))|exact yaF|refine yaS ?_ ?_<;>intro _
  ·refine .ret rfl (.bool ?_);rename_i h;rw[wbe,hs,hd,ybw,zcp,decide_eq_false O]
   rfl
  ·refine .ret rfl (.bool ?_);rename_i h h2;rw[wbe,hs,hd,ybw,zcp,decide_eq_false (p:=s[i].toNat<=122) O];simp
  ·rename_i h h2;refine Go.keep [0,3] (hrec _ _ _ O ⟨i+1,_,rfl,hlt,wb hn O, ?_,rfl,rfl⟩);rw[hs,hd,ybw,zcp,decide_eq_true O,decide_eq_true O]
   rfl
 ·repeat' first|refine X ?_|((first|apply yQ|apply yR|apply yS);(iterate 3 exact rfl);exact zav _ _ _)|exact yaF|refine yaS ?_ ?_<;>intro _
  refine .ret rfl (.bool ?_);rw[wbe,hs,yad O]
  rfl
def wg(t:Tok):Int:=if t.kind=1\/t.kind=2 then 0 else if t.kind=7\/t.kind=8 then 1 else 2
def vz(v:Val):Bool:=v.k==0&&(v.n==0&&v.s==[])
def ja4(t:Tok)(n:Int):Bool:=if t.kind=1 then isIn t.col 0 (n-1)&&vz t.v else if t.kind=2 then t.col==0&&zr t.v else isIn t.kind 3 10&&t.col==0&&vz t.v
theorem jii(t:Tok):Pure Tryz.prog 242 [.agg (zi t)] (.c (.int .i64 (wg t))):=by
 refine yaq [1] zei λG=>?_;repeat' first|refine X ?_|exact yaF|refine yaS ?_ ?_<;>intro _
 all_goals refine .ret rfl (.int ?_)
 all_goals simp_all[wg]
theorem wj8(t:Tok)(n:Int)(h0:-4611686018427387904<=n)(h1:n<=4611686018427387904):Pure Tryz.prog 306 [.agg (zi t),.c (.int .i64 n)] (.c (.bool (ja4 t n))):=by
 refine yaq [2] jg8 λG=>?_;have hw:IntKind.i64.wrap (n-1)=n-1:=zk O O;repeat' first|refine X ?_|((first|apply Go.pcallB|apply Go.spcallB|apply Qg.pcallB);(iterate 3 exact rfl);(first|exact jem _ _ _|exact wcx _);intro _ _)|exact yaF|refine yaS ?_ ?_<;>intro _
 all_goals refine .ret rfl (.bool ?_)
 all_goals simp_all[ja4,vz]
variable {x b:Bool}
theorem nbT(h:x=b)(k:(!b)=true):x=false:=by cases b<;>simp_all
theorem nbF(h:x=b)(k:(!b)=false):x=true:=by cases b<;>simp_all
theorem bT(h:x=b)(k:b=true):x=true:=h.trans k
theorem bF(h:x=b)(k:b=false):x=false:=h.trans k
def ze7(t:Tok)(n:Int):Int:=if ja4 t n then wg t else -1
theorem wii{k:Int}:isIn k 3 10=true↔(k=3\/k=4\/k=5\/k=6\/k=7\/k=8\/k=9\/k=10):=by
 simp only[isIn,Bool.and_eq_true,decide_eq_true_eq];omega
theorem wiv(t:Tok)(n:Int)(h0:-4611686018427387904<=n)(h1:n<=4611686018427387904):Pure Tryz.prog 240 [.agg (zi t),.c (.int .i64 n)] (.c (.int .i64 (ze7 t n))):=by
 refine yaq [2] wfr λG=>?_;have hw:IntKind.i64.wrap (n-1)=n-1:=zk O O;have h310:= @wii t.kind;repeat' first|refine X ?_|((first|apply Go.pcallB|apply Go.spcallB|apply Qg.pcallB);(iterate 3 exact rfl);(first|exact zav _ _ _|exact wah _);intro _ _)|exact yaF|refine yaS ?_ ?_<;>intro _
 all_goals refine .ret rfl (.int ?_)
 all_goals first
  |(simp_all[ze7,ja4,vz,wg];done)
  |(cases hk:isIn t.kind 3 10<;>simp_all[ze7,ja4,vz,wg];done)
  |(rename_i hl;have hz:vz t.v=false:=(by cases h:vz t.v;(· rfl);(· exfalso;simp[vz]at h;simp[h]at hl));clear hl;simp_all[ze7,ja4];done)
def wy(n:Int):Int->List Tok->Bool
 |left,[]=>left==1
 |left,t::r=>ja4 t n&&decide (wg t<=left)&&wy n (left+1-wg t) r
theorem ja8(t:Tok):0<=wg t/\wg t<=2:=by
 simp only[wg];split
 ·omega
 ·split<;>omega
theorem jcp(e:List Tok)(n:Int)(hx:e.length<=34359738368):Pure Tryz.prog 239 [.c (.fz (e.map zi)),.c (.int .i64 n)] (.c (.bool (decide ((e.length:Int)<=24)&&isIn n 0 16&&wy n 0 e))):=by
 refine yaq [] zgi λG=>?_;repeat' first|refine X ?_|((first|apply Go.pcallB|apply Go.spcallB|apply Qg.pcallB);(iterate 3 exact rfl);exact jem _ _ _;intro _ _)|exact yaF|refine yaS ?_ ?_<;>intro _
 ·refine .ret rfl (.bool ?_);rename_i h;rw[decide_eq_false O]
  rfl
 ·refine .ret rfl (.bool ?_);simp_all
 rename_i hl b hb hn;have hn16:0<=n/\n<=16:=by
  have:isIn n 0 16=true:=by simp_all
  simpa [isIn]using this
 refine Go.keep [1,5,16,17,18] (Go.loops (I:=λm fr V=>∃i:Nat,∃k l:Int,m=e.length-i/\i<=e.length/\k=i/\(0<=l/\l<=i/\wy n 0 e=wy n l (e.drop i))/\
  fr=[(1,.c (.int .i64 n)),(5,.c (.int .i64 l)),(16,.c (.fz (e.map zi))),(17,.c (.int .i64 (e.length:Int))),(18,.c (.int .i64 k))]/\V=E G []) ?_ _ _ _ ⟨0,_,_,rfl,yac _,rfl,⟨yaz _,gx,rfl⟩,rfl,rfl⟩)
 rintro m fr V ⟨i,k,l,rfl,hi,hk,⟨hl0,hl1,hsl⟩,rfl,rfl⟩ hrec;have hres:(decide ((e.length:Int)<=24)&&isIn n 0 16&&wy n 0 e)=wy n 0 e:=by
  rw[decide_eq_true (p:=(e.length:Int)<=24) O,hb]
  cases b
  ·simp at hn
  ·simp
 by_cases hlt:i<e.length
 ·have hd:=yab hlt;have ht:=ja8 e[i];repeat' first|refine X ?_|((first|apply yG|apply yH|apply yI);exact rfl;(first|exact yax zi hk hlt))|refine yaC (jii e[i]) ?_|((first|apply Go.pcallB|apply Go.spcallB|apply Qg.pcallB);(iterate 3 exact rfl);exact wj8 e[i] n O O;intro _ _)|exact yaF|refine yaS ?_ ?_<;>intro _
  ·refine .ret rfl (.bool ?_);rename_i b1 hb1 hb2;rw[hres,hsl,hd,wy,nbT hb1 hb2]
   rfl
  ·refine .ret rfl (.bool ?_);rename_i h;rw[hres,hsl,hd,wy,decide_eq_false (p:=wg e[i]<=l) O];simp
  ·rename_i b1 hb1 hb2 h;have w1:IntKind.i64.wrap (1-wg e[i])=1-wg e[i]:=zk O O;have w2:IntKind.i64.wrap (l+(1-wg e[i]))=l+1-wg e[i]:=by rw[zk O O];omega
   refine Go.keep [1,5,16,17,18] (hrec _ _ _ O ⟨i+1,_,_,rfl,hlt,wb hk O,⟨?_, ?_, ?_⟩,rfl,rfl⟩)
   ·rw[w1,w2];omega
   ·rw[w1,w2];omega
   ·rw[w1,w2,hsl,hd,wy,decide_eq_true (p:=wg e[i]<=l) O];rw[nbF hb1 hb2]
    rfl
 ·repeat' first|refine X ?_|exact yaF|refine yaS ?_ ?_<;>intro _
  refine .ret rfl (.bool ?_);rw[hres,hsl,yad O]
  rfl
theorem je7(e:List Tok)(n:Int)(hx:e.length<=34359738368)(h0:-4611686018427387904<=n)(h1:n<=4611686018427387904):Pure Tryz.prog 145 [.c (.fz (e.map zi)),.c (.int .i64 n)] (.c (.bool (decide ((e.length:Int)<=24)&&wy n 0 e))):=by
 refine yaq [] jgg λG=>?_;repeat' first|refine X ?_|exact yaF|refine yaS ?_ ?_<;>intro _
 refine Go.keep [0,1,5,6] (Go.loops (I:=λm fr V=>∃i:Nat,∃k l:Int,m=e.length-i/\i<=e.length/\k=i/\(0<=l/\l<=i/\wy n 0 e=wy n l (e.drop i))/\
  fr=[(0,.c (.fz (e.map zi))),(1,.c (.int .i64 n)),(5,.c (.int .i64 l)),(6,.c (.int .i64 k))]/\V=E G []) ?_ _ _ _ ⟨0,_,_,rfl,yac _,rfl,⟨yaz _,gx,rfl⟩,rfl,rfl⟩)
 rintro m fr V ⟨i,k,l,rfl,hi,hk,⟨hl0,hl1,hsl⟩,rfl,rfl⟩ hrec;by_cases hlt:i<e.length
 ·have hd:=yab hlt;have ht:=ja8 e[i];have neg:(ja4 e[i] n=false\/¬wg e[i]<=l)->(decide ((e.length:Int)<=24)&&wy n 0 e)=false:=by
   intro h;rw[hsl,hd,wy];rcases h with h|h
   ·simp[h]
   ·rw[decide_eq_false (p:=wg e[i]<=l) h];simp
  repeat' first|refine X ?_|((first|apply yG|apply yH|apply yI);exact rfl;(first|exact yax zi hk hlt))|((first|apply Go.pcallI|apply Go.spcallI|apply Qg.pcallI);(iterate 3 exact rfl);exact wiv e[i] n h0 h1;intro _ _)|exact yaF|refine yaS ?_ ?_<;>intro _
  ·refine .ret rfl (.bool ?_);rename_i q hq h;refine(neg (.inl ?_)).symm
   cases hc:ja4 e[i] n
   ·rfl
   ·simp only[ze7,hc,if_true]at hq;omega
  ·refine .ret rfl (.bool ?_);rename_i q hq h h2;refine(neg (.inr ?_)).symm;simp only[ze7]at hq;split at hq<;>omega
  ·rename_i q hq h h2;have hc:ja4 e[i] n=true/\wg e[i]=q:=by
    simp only[ze7]at hq;split at hq
    ·exact⟨by assumption,hq⟩
    ·omega
   have w1:IntKind.i64.wrap (l-q)=l-q:=zk O O;have w2:IntKind.i64.wrap (l-q+1)=l+1-wg e[i]:=by rw[zk O O];omega
   refine Go.keep [0,1,5,6] (hrec _ _ _ O ⟨i+1,_,_,rfl,hlt,wb hk O,⟨?_, ?_, ?_⟩,rfl,rfl⟩)
   ·rw[w1,w2];omega
   ·rw[w1,w2];omega
   ·rw[w1,w2,hsl,hd,wy,decide_eq_true (p:=wg e[i]<=l) O,hc.1]
    rfl
 ·have hfin:wy n 0 e=(l==1):=by
   rw[hsl,yad O]
   rfl
  repeat' first|refine X ?_|exact yaF|refine yaS ?_ ?_<;>intro _
  all_goals refine .ret rfl (.bool ?_)
  all_goals rw[hfin]
  all_goals clear hrec hfin hsl
  all_goals simp_all
def jaq(n:Int):List Int->List Int->Bool
 |_,[]=>true
 |pre,c::r=>isIn c 0 (n-1)&& !(pre.any λa=>c==a)&&jaq n (pre++[c]) r
def zbs(l:List Int)(n:Int):Bool:=jaq n [] l&&decide (0<(l.length:Int))
variable {es:List (List Ce)}
theorem waw{s:Nat}{x hi:Opd}(hx:x.ev fr=some (.c (.fz es)))(hy:hi.ev fr=some (.c (.int kd z)))(hz:z=(n:Int))(hn:n<=es.length)(hs:∀e∈es,e.length=s):aop (.slice s x none (some hi) none) fr G=some (.c (.fz (es.take n)),G):=by
 have:wfx G s (.fz es) none (some (.c (.int kd z))) none=some (.fz (es.take n)):=by
  subst hz;simp only[wfx,zam];rw[if_pos O];simp only[Int.toNat_natCast];rw[if_pos ⟨yac _,hn,hs⟩,List.drop_zero]
 simp only[aop,hx,evo,hy,Option.map_some,this]
theorem zij{l:List Int}:∀e∈l.map encI,e.length=1:=λe he=>(zkz l e he).1
theorem zca(l:List Int)(n:Int)(hx:l.length<=34359738368)(h0:-4611686018427387904<=n)(h1:n<=4611686018427387904):Pure Tryz.prog 331 [.c (.fz (l.map encI)),.c (.int .i64 n)] (.c (.bool (zbs l n))):=by
 refine yaq [] jd0 λG=>?_;have hw:IntKind.i64.wrap (n-1)=n-1:=zk O O;repeat' first|refine X ?_|exact yaF|refine yaS ?_ ?_<;>intro _
 refine Go.keep [0,1,7,8,9] (Go.loops (I:=λm fr V=>∃i:Nat,∃k:Int,m=l.length-i/\i<=l.length/\k=i/\jaq n [] l=jaq n (l.take i) (l.drop i)/\
  fr=[(0,.c (.fz (l.map encI))),(1,.c (.int .i64 n)),(7,.c (.fz (l.map encI))),(8,.c (.int .i64 (l.length:Int))),(9,.c (.int .i64 k))]/\V=E G []) ?_ _ _ _ ⟨0,_,rfl,yac _,rfl,rfl,rfl,rfl⟩)
 rintro m fr V ⟨i,k,rfl,hi,hk,hsl,rfl,rfl⟩ hrec;by_cases hlt:i<l.length
 ·have hd:=yab hlt;have htk:(l.map encI).take i=(l.take i).map encI:=List.map_take.symm;have hstep:jaq n [] l=(isIn l[i] 0 (n-1)&& !((l.take i).any λa=>l[i]==a)&&jaq n (l.take (i+1)) (l.drop (i+1))):=by
   rw[hsl,hd,jaq,yaj hlt]
  repeat' first|refine X ?_|((first|apply yG|apply yH|apply yI);exact rfl;(first|exact yax encI hk hlt))|((first|apply Go.pcallB|apply Go.spcallB|apply Qg.pcallB);(iterate 3 exact rfl);exact jem _ _ _;intro _ _)|exact yaF|refine yaS ?_ ?_<;>intro _
  ·refine .ret rfl (.bool ?_);rename_i b hb hb2;rw[hw]at hb;rw[zbs,hstep,nbT hb hb2]
   rfl
  rename_i b hb hb2;refine .op rfl (waw (n:=i) rfl rfl hk gq zij) ?_;rw[htk];repeat' first|refine X ?_|((first|apply Go.pcallB|apply Go.spcallB|apply Qg.pcallB);(iterate 3 exact rfl);exact jfn mixed wa2 jbe (l.take i) l[i] gq;intro _ _)|exact yaF|refine yaS ?_ ?_<;>intro _
  ·refine .ret rfl (.bool ?_);rename_i b1 hb1 hb3;rw[zbs,hstep,bT hb1 hb3];simp
  ·refine Go.keep [0,1,7,8,9] (hrec _ _ _ O ⟨i+1,_,rfl,hlt,wb hk O, ?_,rfl,rfl⟩);rename_i b1 hb1 hb3;rw[hw]at hb;rw[hstep,bF hb1 hb3,nbF hb hb2];simp
 ·have hfin:jaq n [] l=true:=by
   rw[hsl,yad O]
   rfl
  repeat' first|refine X ?_|exact yaF|refine yaS ?_ ?_<;>intro _
  refine .ret rfl (.bool ?_);rw[zbs,hfin]
  rfl
theorem zj9(l:List Int)(v:Int)(hx:l.length<=34359738368):Pure Tryz.prog 357 [.c (.fz (l.map encI)),.c (.int .i64 v)] (.c (.bool (l.any λa=>v==a))):=by
 refine yaq [] zhc λG=>?_;repeat' first|refine X ?_|exact yaF|refine yaS ?_ ?_<;>intro _
 refine Go.keep [0,1,5] (Go.loops (I:=λm fr V=>∃i:Nat,∃k:Int,m=l.length-i/\i<=l.length/\k=i/\(l.any λa=>v==a)=((l.drop i).any λa=>v==a)/\
  fr=[(0,.c (.fz (l.map encI))),(1,.c (.int .i64 v)),(5,.c (.int .i64 k))]/\V=E G []) ?_ _ _ _ ⟨0,_,rfl,yac _,rfl,rfl,rfl,rfl⟩)
 rintro m fr V ⟨i,k,rfl,hi,hn,hsl,rfl,rfl⟩ hrec;by_cases hlt:i<l.length
 ·have hd:=yab hlt;repeat' first|refine X ?_|((first|apply yG|apply yH|apply yI);exact rfl;(first|exact yax encI hn hlt))|exact yaF|refine yaS ?_ ?_<;>intro _
  ·refine .ret rfl (.bool ?_);rename_i h;rw[hsl,hd,List.any_cons,h];simp
  ·rename_i h;refine Go.keep [0,1,5] (hrec _ _ _ O ⟨i+1,_,rfl,hlt,wb hn O, ?_,rfl,rfl⟩);rw[hsl,hd,List.any_cons,beq_eq_false_iff_ne.2 (λe=>h e.symm)]
   rfl
 ·repeat' first|refine X ?_|exact yaF|refine yaS ?_ ?_<;>intro _
  refine .ret rfl (.bool ?_);rw[hsl,yad O]
  rfl
theorem we7(l:List Int)(n:Int)(hx:l.length<=34359738368)(h0:-4611686018427387904<=n)(h1:n<=4611686018427387904):Pure Tryz.prog 314 [.c (.fz (l.map encI)),.c (.int .i64 n)] (.c (.bool (zbs l n))):=by
 refine yaq [] wgj λG=>?_;have hw:IntKind.i64.wrap (n-1)=n-1:=zk O O;repeat' first|refine X ?_|exact yaF|refine yaS ?_ ?_<;>intro _
 refine Go.keep [0,1,5] (Go.loops (I:=λm fr V=>∃i:Nat,∃k:Int,m=l.length-i/\i<=l.length/\k=i/\jaq n [] l=jaq n (l.take i) (l.drop i)/\
  fr=[(0,.c (.fz (l.map encI))),(1,.c (.int .i64 n)),(5,.c (.int .i64 k))]/\V=E G []) ?_ _ _ _ ⟨0,_,rfl,yac _,rfl,rfl,rfl,rfl⟩)
 rintro m fr V ⟨i,k,rfl,hi,hk,hsl,rfl,rfl⟩ hrec;by_cases hlt:i<l.length
 ·have hd:=yab hlt;have htk:(l.map encI).take i=(l.take i).map encI:=List.map_take.symm;have hstep:jaq n [] l=(isIn l[i] 0 (n-1)&& !((l.take i).any λa=>l[i]==a)&&jaq n (l.take (i+1)) (l.drop (i+1))):=by
   rw[hsl,hd,jaq,yaj hlt]
  repeat' first|refine X ?_|((first|apply yG|apply yH|apply yI);exact rfl;(first|exact yax encI hk hlt))|((first|apply Go.pcallB|apply Go.spcallB|apply Qg.pcallB);(iterate 3 exact rfl);exact zav _ _ _;intro _ _)|exact yaF|refine yaS ?_ ?_<;>intro _
  ·refine .ret rfl (.bool ?_);rename_i b hb hb2;rw[hw]at hb;rw[zbs,hstep,nbT hb hb2]
   rfl
  rename_i b hb hb2;repeat' first|refine X ?_|((first|apply yG|apply yH|apply yI);exact rfl;(first|exact waw (n:=i) rfl rfl hk gq zij|exact yax encI hk hlt))|exact yaF|refine yaS ?_ ?_<;>intro _
  rw[htk];repeat' first|refine X ?_|((first|apply Go.pcallB|apply Go.spcallB|apply Qg.pcallB);(iterate 3 exact rfl);exact zj9 (l.take i) l[i] gq;intro _ _)|exact yaF|refine yaS ?_ ?_<;>intro _
  ·refine .ret rfl (.bool ?_);rename_i b1 hb1 hb3;rw[zbs,hstep,bT hb1 hb3];simp
  ·refine Go.keep [0,1,5] (hrec _ _ _ O ⟨i+1,_,rfl,hlt,wb hk O, ?_,rfl,rfl⟩);rename_i b1 hb1 hb3;rw[hw]at hb;rw[hstep,bF hb1 hb3,nbF hb hb2];simp
 ·have hfin:jaq n [] l=true:=by
   rw[hsl,yad O]
   rfl
  repeat' first|refine X ?_|exact yaF|refine yaS ?_ ?_<;>intro _
  refine .ret rfl (.bool ?_);rw[zbs,hfin]
  rfl
def ze8(v:Val)(k:Int):Bool:=zr v&&(v.k==0||v.k==k)
theorem wh0(v:Val)(k:Int):Pure Tryz.prog 233 [.agg (encV v),.c (.int .i64 k)] (.c (.bool (ze8 v k))):=by
 refine yaq [2] zhx λG=>?_;repeat' first|refine X ?_|((first|apply Go.pcallB|apply Go.spcallB|apply Qg.pcallB);(iterate 3 exact rfl);exact wcx _;intro _ _)|exact yaF|refine yaS ?_ ?_<;>intro _
 all_goals refine .ret rfl (.bool ?_)
 all_goals simp_all[ze8]
def wcp(f:Fk)(n:Int):Bool:=zbs f.cols n&&(wbe f.table&&(isIn f.onDelete 0 2&&isIn f.onUpdate 0 2))
theorem zk0(f:Fk)(n:Int)(hb:bFk 34359738368 f)(h0:-4611686018427387904<=n)(h1:n<=4611686018427387904):Pure Tryz.prog 338 [.agg (wal f),.c (.int .i64 n)] (.c (.bool (wcp f n))):=by
 refine yaq [2] zhz λG=>?_;repeat' first|refine X ?_|((first|apply Go.pcallB|apply Go.spcallB|apply Qg.pcallB);(iterate 3 exact rfl);(first|exact zca f.cols n hb.1 h0 h1|exact je6 f.table hb.2|exact jem _ _ _);intro _ _)|exact yaF|refine yaS ?_ ?_<;>intro _
 all_goals refine .ret rfl (.bool ?_)
 all_goals simp_all[wcp]
def jd1(c:Col):Bool:=wbe c.name&&((c.kind==1||c.kind==2)&&ze8 c.dflt c.kind)
def zao:List Col->List Col->Bool
 |_,[]=>true
 |pre,c::r=>jd1 c&& !(pre.any λd=>d.name==c.name)&&zao (pre++[c]) r
def wa8(l:List Col):Bool:=decide ((l.length:Int)<=8)&&(zao [] l&&decide (0<(l.length:Int)))
theorem zh1(d c:Col):Pure Tryz.prog 367 [.agg (jf d),.c (.fp (jf c))] (.c (.bool (d.name==c.name))):=by
 refine yaq [2] wel λG=>?_;repeat' first|refine X ?_|exact yaF|refine yaS ?_ ?_<;>intro _
 all_goals refine .ret rfl (.bool ?_)
 all_goals simp_all
theorem ziw(l:List Col)(hx:l.length<=34359738368)(hb:∀c∈l,bCol 34359738368 c):Pure Tryz.prog 330 [.c (.fz (l.map jf))] (.c (.bool (wa8 l))):=by
 refine yaq [] zfu λG=>?_;repeat' first|refine X ?_|exact yaF|refine yaS ?_ ?_<;>intro _
 refine Go.keep [0,5,6,7] (Go.loops (I:=λm fr V=>∃i:Nat,∃k:Int,m=l.length-i/\i<=l.length/\k=i/\(i<=8/\zao [] l=zao (l.take i) (l.drop i))/\
  fr=[(0,.c (.fz (l.map jf))),(5,.c (.fz (l.map jf))),(6,.c (.int .i64 (l.length:Int))),(7,.c (.int .i64 k))]/\V=E G []) ?_ _ _ _ ⟨0,_,rfl,yac _,rfl,⟨O,rfl⟩,rfl,rfl⟩)
 rintro m fr V ⟨i,k,rfl,hi,hk,⟨h8,hsl⟩,rfl,rfl⟩ hrec;by_cases hlt:i<l.length
 ·have hd:=yab hlt;have hbc:=hb _ (yaa hlt);have htk:(l.map jf).take i=(l.take i).map jf:=List.map_take.symm;have hstep:zao [] l=(jd1 l[i]&& !((l.take i).any λd=>d.name==l[i].name)&&zao (l.take (i+1)) (l.drop (i+1))):=by
   rw[hsl,hd,zao,yaj hlt]
  have neg:(k=8\/jd1 l[i]=false\/((l.take i).any λd=>d.name==l[i].name)=true)->wa8 l=false:=by
   rintro(h|h|h)
   ·rw[wa8,decide_eq_false O]
    rfl
   ·rw[wa8,hstep,h];simp
   ·rw[wa8,hstep,h];simp
  repeat' first|refine X ?_|((first|apply yG|apply yH|apply yI);exact rfl;(first|exact yax jf hk hlt))|((first|apply Go.pcallB|apply Go.spcallB|apply Qg.pcallB);(iterate 3 exact rfl);(first|exact je6 l[i].name hbc.1|exact wh0 l[i].dflt l[i].kind);intro _ _)|exact yaF|refine yaS ?_ ?_<;>intro _
  all_goals try(refine .ret rfl (.bool (neg ?_).symm);clear hrec hsl hstep neg;simp_all[jd1];done)
  all_goals have hcol:jd1 l[i]=true:=(by clear hrec hsl hstep neg;simp_all[jd1])
  all_goals refine .op rfl (waw (n:=i) rfl rfl hk gq (λe he=>by obtain⟨c,_,rfl⟩:=List.mem_map.1 he;rfl)) ?_
  all_goals rw[htk]
  all_goals(repeat' first|(apply yA;exact rfl)|apply yB|apply yC|((first|apply yD|apply yE);(first|exact yF|assumption);iterate 6 exact rfl)|((first|apply yG|apply yH|apply yI);exact rfl;(first|exact yJ|exact yK rfl rfl|exact yL rfl|exact yM rfl|exact rfl|exact aL rfl rfl rfl rfl rfl|exact aS rfl rfl rfl rfl rfl rfl rfl))|((first|apply yN|apply yO|apply yP);exact rfl)|((first|apply Go.pcallB|apply Go.spcallB|apply Qg.pcallB);(iterate 3 exact rfl);exact wi mixed zbh zbz jf (λc=>.agg (jf c)) (λ_=>rfl) (λ_=>rfl) (l.take i) (λd=>d.name==l[i].name) _ [] [.fp (jf l[i])] (by simp;omega) (λj hj _=>zh1 _ _);intro _ _)|exact yaF|(((first|apply yT|apply yU|apply yV|apply yW);exact rfl;(first|exact .d|exact .e|exact .n|((fail_if_success exact bqt);(fail_if_success exact bqf);exact .b)))<;>intro _))
  all_goals rename_i b9 hb9 hb8
  all_goals first
   |exact .ret rfl (.bool (neg (.inr (.inr (bT hb9 hb8)))).symm)
   |(refine Go.keep [0,5,6,7] (hrec _ _ _ O ⟨i+1,_,rfl,hlt,wb hk O,⟨O, ?_⟩,rfl,rfl⟩);rw[hstep,hcol,bF hb9 hb8];rfl)
 ·have hfin:zao [] l=true:=by
   rw[hsl,yad O]
   rfl
  repeat' first|refine X ?_|exact yaF|refine yaS ?_ ?_<;>intro _
  refine .ret rfl (.bool ?_);rw[wa8,hfin,decide_eq_true (p:=(l.length:Int)<=8) O]
  rfl
def zx(t:wc)(c:Int):Bool:=match t.cols[c.toNat]? with|some x=>x.notNull|none=>false
def jao(e:List Tok)(n:Int):Bool:=decide ((e.length:Int)<=24)&&wy n 0 e
def waj(t:wc):Bool:=
 wbe t.name&&(wa8 t.cols&&(zbs t.key t.cols.length&&(decide ((t.uniques.length:Int)<=3)&&(decide ((t.checks.length:Int)<=3)&&(decide ((t.fks.length:Int)<=3)&&
  (!(t.key.any λc=> !zx t c)&&(!(t.uniques.any λu=> !zbs u.cols t.cols.length)&&(!(t.checks.any λc=> !jao c.expr t.cols.length)&& !(t.fks.any λf=> !wcp f t.cols.length)))))))))
theorem zf1{n:Int}:∀{l pre:List Int},jaq n pre l=true->∀c∈l,isIn c 0 (n-1)=true
 |[],_,_,c,h=>by simp at h
 |a::r,pre,h,c,hc=>by
  simp only[jaq,Bool.and_eq_true]at h;rcases List.mem_cons.1 hc with rfl|hc
  ·exact h.1.1
  ·exact zf1 h.2 c hc
theorem jca{l:List Int}{n:Int}(h:zbs l n=true):∀c∈l,0<=c/\c<n:=by
 intro c hc;simp only[zbs,Bool.and_eq_true]at h;have:=zf1 h.1 c hc;simp only[isIn,Bool.and_eq_true,decide_eq_true_eq]at this;omega
theorem jd9{l:List Col}(h:wa8 l=true):0<l.length/\l.length<=8:=by
 simp only[wa8,Bool.and_eq_true,decide_eq_true_eq]at h;omega
theorem jh1(t:wc)(c:Int)(h0:0<=c)(h1:c<t.cols.length):Pure Tryz.prog 333 [.c (.int .i64 c),.c (.fp (ja t))] (.c (.bool (!zx t c))):=by
 refine yaq [] wej λG=>?_;obtain⟨n,rfl⟩:∃n:Nat,c=n:=⟨c.toNat,O⟩;have hn:n<t.cols.length:=O;repeat' first|refine X ?_|((first|apply yG|apply yH|apply yI);exact rfl;(first|exact yax jf rfl hn))|exact yaF|refine yaS ?_ ?_<;>intro _
 refine .ret rfl (.bool ?_);simp[zx,hn]
theorem zh2(u:Uniq)(n:Int)(hb:wjc 34359738368 u)(h0:-4611686018427387904<=n)(h1:n<=4611686018427387904):Pure Tryz.prog 335 [.agg (zaz u),.c (.fp [.int .i64 n])] (.c (.bool (!zbs u.cols n))):=by
 refine yaq [2] zek λG=>?_;repeat' first|refine X ?_|refine yaC (zca u.cols n hb h0 h1) ?_|exact yaF|refine yaS ?_ ?_<;>intro _
 exact .ret rfl (.bool rfl)
variable {e:List Tok}
theorem wdp{n:Int}(h0:0<=n)(h1:n<=16):(decide ((e.length:Int)<=24)&&isIn n 0 16&&wy n 0 e)=jao e n:=by
 have:isIn n 0 16=true:=by simp[isIn,h0,h1]
 rw[this,Bool.and_true]
 rfl
theorem jh2(c:Chk)(n:Int)(hb:bChk 34359738368 c)(h0:0<=n)(h1:n<=16):Pure Tryz.prog 336 [.agg (jbm c),.c (.fp [.int .i64 n])] (.c (.bool (!jao c.expr n))):=by
 refine yaq [2] jek λG=>?_;have hc:=jcp c.expr n hb.1;rw[wdp h0 h1]at hc;repeat' first|refine X ?_|refine yaC (hc) ?_|exact yaF|refine yaS ?_ ?_<;>intro _
 exact .ret rfl (.bool rfl)
theorem zh3(f:Fk)(n:Int)(hb:bFk 34359738368 f)(h0:-4611686018427387904<=n)(h1:n<=4611686018427387904):Pure Tryz.prog 337 [.agg (wal f),.c (.fp [.int .i64 n])] (.c (.bool (!wcp f n))):=by
 refine yaq [2] wek λG=>?_;repeat' first|refine X ?_|refine yaC (zk0 f n hb h0 h1) ?_|exact yaF|refine yaS ?_ ?_<;>intro _
 exact .ret rfl (.bool rfl)
theorem jiw(t:wc)(hb:wad 34359738368 t):Pure Tryz.prog 269 [.agg (ja t)] (.c (.bool (waj t))):=by
 refine yaq [1] jft λG=>?_;obtain⟨b1,b2,b3,b4,b5,b6⟩:=hb;repeat' first|refine X ?_|((first|apply Go.pcallB|apply Go.spcallB|apply Qg.pcallB);(iterate 3 exact rfl);(first|exact je6 t.name b1|exact ziw t.cols b2.1 b2.2|exact zca t.key t.cols.length b3 O O);intro _ _)|exact yaF|refine yaS ?_ ?_<;>intro _
 all_goals try(refine .ret rfl (.bool ?_);simp_all[waj];done)
 ·refine .ret rfl (.bool ?_);rw[waj,decide_eq_false (p:=(t.uniques.length:Int)<=3) O];simp
 ·refine .ret rfl (.bool ?_);rw[waj,decide_eq_false (p:=(t.checks.length:Int)<=3) O];simp
 ·refine .ret rfl (.bool ?_);rw[waj,decide_eq_false (p:=(t.fks.length:Int)<=3) O];simp
 rename_i c1 p1 q1 c2 p2 q2 c3 p3 q3 g1 g2 g3;have k1:=nbF p1 q1;have k2:=nbF p2 q2;have k3:=nbF p3 q3;have hcl:=jd9 k2;have hin:=jca k3;clear p1 q1 p2 q2 p3 q3;repeat' first|refine X ?_|((first|apply Go.pcallB|apply Go.spcallB|apply Qg.pcallB);(iterate 3 exact rfl);(first|exact wi mixed w5 z9 encI (λn=>.c (.int .i64 n)) (λ_=>rfl) (λ_=>rfl) t.key (λc=> !zx t c) _ [] [.fp (ja t)] b3 (λj hj _=>jh1 t _ (hin _ (yaa hj)).1 (hin _ (yaa hj)).2)|exact wi mixed wa5 jbh zaz (λu=>.agg (zaz u)) (λ_=>rfl) (λ_=>rfl) t.uniques (λu=> !zbs u.cols t.cols.length) _ [] [.fp [.int .i64 t.cols.length]] b4.1 (λj hj _=>zh2 _ _ (b4.2 _ (yaa hj)) O O)|exact wi mixed jaf wan jbm (λu=>.agg (jbm u)) (λ_=>rfl) (λ_=>rfl) t.checks (λc=> !jao c.expr t.cols.length) _ [] [.fp [.int .i64 t.cols.length]] b5.1 (λj hj _=>jh2 _ _ (b5.2 _ (yaa hj)) O O)|exact wi mixed w7 jad wal (λu=>.agg (wal u)) (λ_=>rfl) (λ_=>rfl) t.fks (λf=> !wcp f t.cols.length) _ [] [.fp [.int .i64 t.cols.length]] b6.1 (λj hj _=>zh3 _ _ (b6.2 _ (yaa hj)) O O));intro _ _)|exact yaF|refine yaS ?_ ?_<;>intro _
 all_goals refine .ret rfl (.bool ?_)
 all_goals rw[waj,k1,k2,k3,decide_eq_true (p:=(t.uniques.length:Int)<=3) O,decide_eq_true (p:=(t.checks.length:Int)<=3) O,decide_eq_true (p:=(t.fks.length:Int)<=3) O]
 all_goals simp_all
theorem jj9(x0 x2 x3 x4 x5:Ce)(l:List Col)(s:List UInt8)(hx:l.length<=34359738368):Pure Tryz.prog 315 [.agg [x0,.fz (l.map jf),x2,x3,x4,x5],.c (.str s)] (.c (.int .i64 (idxA (λc=>c.name==s) l 0))):=by
 refine yaq [2] wg9 λG=>?_;repeat' first|refine X ?_|exact yaF|refine yaS ?_ ?_<;>intro _
 refine Go.keep [1,2,5] (Go.loops (I:=λm fr V=>∃i:Nat,∃k:Int,m=l.length-i/\i<=l.length/\k=i/\idxA (λc=>c.name==s) l 0=idxA (λc=>c.name==s) (l.drop i) k/\
  fr=[(1,.c (.str s)),(2,.c (.fp [x0,.fz (l.map jf),x2,x3,x4,x5])),(5,.c (.int .i64 k))]/\V=E G []) ?_ _ _ _ ⟨0,_,rfl,yac _,rfl,rfl,rfl,rfl⟩)
 rintro m fr V ⟨i,k,rfl,hi,hn,hsl,rfl,rfl⟩ hrec;by_cases hlt:i<l.length
 ·repeat' first|refine X ?_|((first|apply yG|apply yH|apply yI);exact rfl;(first|exact yax jf hn hlt))|exact yaF|refine yaS ?_ ?_<;>intro _
  ·refine .ret rfl (.int ?_);rw[hsl,yab hlt,idxA,if_pos (by assumption)]
  ·rename_i h;refine Go.keep [1,2,5] (hrec _ _ _ O ⟨i+1,_,rfl,hlt,wb hn O, ?_,rfl,rfl⟩);rw[hsl,List.drop_eq_getElem_cons hlt,idxA,if_neg (by rw[h];simp),zk O O]
 ·repeat' first|refine X ?_|exact yaF|refine yaS ?_ ?_<;>intro _
  refine .ret rfl (.int ?_);rw[hsl,yad O]
  rfl
theorem zcq(l:List wc)(s:List UInt8)(hx:l.length<=34359738368):Pure Tryz.prog 67 [.c (.fz (l.map ja)),.c (.str s)] (.c (.int .i64 (idxA (λt=>t.name==s) l 0))):=by
 refine yaq [] zhu λG=>?_;repeat' first|refine X ?_|exact yaF|refine yaS ?_ ?_<;>intro _
 refine Go.keep [0,1,5] (Go.loops (I:=λm fr V=>∃i:Nat,∃k:Int,m=l.length-i/\i<=l.length/\k=i/\idxA (λc=>c.name==s) l 0=idxA (λc=>c.name==s) (l.drop i) k/\
  fr=[(0,.c (.fz (l.map ja))),(1,.c (.str s)),(5,.c (.int .i64 k))]/\V=E G []) ?_ _ _ _ ⟨0,_,rfl,yac _,rfl,rfl,rfl,rfl⟩)
 rintro m fr V ⟨i,k,rfl,hi,hn,hsl,rfl,rfl⟩ hrec;by_cases hlt:i<l.length
 ·repeat' first|refine X ?_|((first|apply yG|apply yH|apply yI);exact rfl;(first|exact yax ja hn hlt))|exact yaF|refine yaS ?_ ?_<;>intro _
  ·refine .ret rfl (.int ?_);rw[hsl,yab hlt,idxA,if_pos (by assumption)]
  ·rename_i h;refine Go.keep [0,1,5] (hrec _ _ _ O ⟨i+1,_,rfl,hlt,wb hn O, ?_,rfl,rfl⟩);rw[hsl,List.drop_eq_getElem_cons hlt,idxA,if_neg (by rw[h];simp),zk O O]
 ·repeat' first|refine X ?_|exact yaF|refine yaS ?_ ?_<;>intro _
  refine .ret rfl (.int ?_);rw[hsl,yad O]
  rfl
variable {α:Type}{i:Nat}
theorem jf1{p:α->Bool}{l:List α}(hi:i<l.length)(h:p l[i]=false):(l.any λa=> !p a)=true:=List.any_eq_true.2 ⟨l[i],yaa hi,by rw[h];rfl⟩
theorem wbh{p:α->Bool}{l:List α}(h:∀j (hj:j<l.length),p l[j]=true):(l.any λa=> !p a)=false:=by
 rw[ybs];intro a ha;obtain⟨j,hj,rfl⟩:=List.mem_iff_getElem.1 ha;rw[h j hj];simp
theorem upto{p:α->Bool}{l:List α}(h:∀j (hj:j<l.length),j<i->p l[j]=true)(hi:i<l.length)(hp:p l[i]=true):∀j (hj:j<l.length),j<i+1->p l[j]=true:=λj hj hji=>by
 by_cases e:j=i
 ·subst e;exact hp
 ·exact h j hj O
theorem zkr{k:Int}:isIn k 1 2=(k==1||k==2):=by
 rw[Bool.eq_iff_iff];simp[isIn];omega
theorem jx{t:wc}:waj t=true↔wbe t.name=true/\isIn t.cols.length 1 8=true/\zbs t.key t.cols.length=true/\(t.uniques.length:Int)<=3/\(t.checks.length:Int)<=3/\(t.fks.length:Int)<=3/\zao [] t.cols=true/\
 (t.key.any λc=> !zx t c)=false/\(t.uniques.any λu=> !zbs u.cols t.cols.length)=false/\(t.checks.any λc=> !jao c.expr t.cols.length)=false/\(t.fks.any λf=> !wcp f t.cols.length)=false:=by
 simp only[waj,wa8,isIn,Bool.and_eq_true,decide_eq_true_eq,Bool.not_eq_true'];constructor
 ·rintro⟨h1,⟨h2,h3,h4⟩,h5,h6,h7,h8,h9,h10,h11,h12⟩;exact⟨h1,⟨O,h2⟩,h5,h6,h7,h8,h3,h9,h10,h11,h12⟩
 ·rintro⟨h1,⟨h2,h2'⟩,h3,h4,h5,h6,h7,h8,h9,h10,h11⟩;exact⟨h1,⟨h2',h7,O⟩,h3,h4,h5,h6,h8,h9,h10,h11⟩
theorem zae{t:wc}(h:waj t=true->False):waj t=false:=by
 cases c:waj t
 ·rfl
 ·exact(h c).elim
theorem jh3(t:wc)(hb:wad 34359738368 t):Pure Tryz.prog 252 [.agg (ja t)] (.c (.bool (waj t))):=by
 refine yaq [1] wfs λG=>?_;obtain⟨b1,b2,b3,b4,b5,b6⟩:=hb;repeat' first|refine X ?_|((first|apply Go.pcallB|apply Go.spcallB|apply Qg.pcallB);(iterate 3 exact rfl);(first|exact we6 t.name b1|exact zav _ _ _|exact we7 t.key t.cols.length b3 O O);intro _ _)|exact yaF|refine yaS ?_ ?_<;>intro _
 ·exact .ret rfl (.bool (zae λh=>by rename_i c p q;have h2:=(jx.1 h).1;rw[nbT p q]at h2;cases h2).symm)
 ·exact .ret rfl (.bool (zae λh=>by rename_i c1 p1 q1 c p q;have h2:=(jx.1 h).2.1;rw[nbT p q]at h2;cases h2).symm)
 ·exact .ret rfl (.bool (zae λh=>by rename_i c p q;have h2:=(jx.1 h).2.2.1;rw[nbT p q]at h2;cases h2).symm)
 ·exact .ret rfl (.bool (zae λh=>by have h2:=jx.1 h;omega).symm)
 ·exact .ret rfl (.bool (zae λh=>by have h2:=jx.1 h;omega).symm)
 ·exact .ret rfl (.bool (zae λh=>by have h2:=jx.1 h;omega).symm)
 rename_i c1 p1 q1 c2 p2 q2 c3 p3 q3 g1 g2 g3;have k1:=nbF p1 q1;have k2:=nbF p2 q2;have k3:=nbF p3 q3;have hin:=jca k3;have hln:1<=(t.cols.length:Int)/\(t.cols.length:Int)<=8:=by simpa [isIn]using k2
 clear p1 q1 p2 q2 p3 q3
 -- the columns
 refine Go.keep [1,3,4] (Go.loops (I:=λm fr V=>∃i:Nat,∃k:Int,m=t.cols.length-i/\i<=t.cols.length/\k=i/\zao [] t.cols=zao (t.cols.take i) (t.cols.drop i)/\
  fr=[(1,.c (.fp (ja t))),(3,.c (.int .i64 (t.cols.length:Int))),(4,.c (.int .i64 k))]/\V=E G []) ?_ _ _ _ ⟨0,_,rfl,yac _,rfl,rfl,rfl,rfl⟩)
 rintro m fr V ⟨i,k,rfl,hi,hk,hsl,rfl,rfl⟩ hrec;by_cases hlt:i<t.cols.length
 ·have hd:=yab hlt;have hbc:=b2.2 _ (yaa hlt);have htk:(t.cols.map jf).take i=(t.cols.take i).map jf:=List.map_take.symm;have hstep:zao [] t.cols=(jd1 t.cols[i]&& !((t.cols.take i).any λd=>d.name==t.cols[i].name)&&zao (t.cols.take (i+1)) (t.cols.drop (i+1))):=by
   rw[hsl,hd,zao,yaj hlt]
  have neg:(jd1 t.cols[i]=false\/((t.cols.take i).any λd=>d.name==t.cols[i].name)=true)->waj t=false:=λh=>zae λhh=>by
   have h2:=(jx.1 hh).2.2.2.2.2.2.1;rw[hstep]at h2;rcases h with h|h<;>simp[h]at h2
  have hany:=jbl (p:=λd:Col=>d.name==t.cols[i].name) (l:=t.cols.take i);repeat' first|refine X ?_|((first|apply yG|apply yH|apply yI);exact rfl;(first|exact yax jf hk hlt|exact waw (n:=i) rfl rfl hk gq (λe he=>by obtain⟨c,_,rfl⟩:=List.mem_map.1 he;rfl)))|((first|apply Go.pcallB|apply Go.spcallB|apply Qg.pcallB);(iterate 3 exact rfl);exact we6 t.cols[i].name hbc.1;intro _ _)|exact yaF|refine yaS ?_ ?_<;>intro _
  ·rename_i c p q;exact .ret rfl (.bool (neg (.inl (by rw[jd1,nbT p q];rfl))).symm)
  rename_i c p q;have hnm:=nbF p q;rw[htk];repeat' first|refine X ?_|((first|apply Go.pcallB|apply Go.spcallB|apply Qg.pcallB);(iterate 3 exact rfl);(first|exact zav _ _ _|exact wah _);intro _ _)|((first|apply Go.pcallI|apply Go.spcallI|apply Qg.pcallI);(iterate 3 exact rfl);exact jj9 (.str []) .nils .nils .nils .nils (t.cols.take i) t.cols[i].name gq;intro _ _)|exact yaF|refine yaS ?_ ?_<;>intro _
  all_goals clear p q
  all_goals try(refine .ret rfl (.bool (neg ?_).symm);clear hrec hsl hstep neg hin;simp_all[jd1,ze8,zkr];done)
  all_goals have hok:(jd1 t.cols[i]&& !((t.cols.take i).any λd=>d.name==t.cols[i].name))=true:=(by clear hrec hsl hstep neg hin;simp_all[jd1,ze8,zkr])
  all_goals refine Go.keep [1,3,4] (hrec _ _ _ O ⟨i+1,_,rfl,hlt,wb hk O, ?_,rfl,rfl⟩)
  all_goals rw[hstep,hok,yav]
 have hfin:zao [] t.cols=true:=by
  rw[hsl,yad O]
  rfl
 clear hrec hsl;repeat' first|refine X ?_|exact yaF|refine yaS ?_ ?_<;>intro _
 clear hlt hk hi
 -- the key
 refine Go.keep [1,3,6] (Go.loops (I:=λm fr V=>∃i:Nat,∃k:Int,m=t.key.length-i/\i<=t.key.length/\k=i/\(∀j (hj:j<t.key.length),j<i->zx t t.key[j]=true)/\
  fr=[(1,.c (.fp (ja t))),(3,.c (.int .i64 (t.cols.length:Int))),(6,.c (.int .i64 k))]/\V=E G []) ?_ _ _ _ ⟨0,_,rfl,yac _,rfl,λj _ h=>absurd h O,rfl,rfl⟩)
 rintro m fr V ⟨i,k,rfl,hi,hk,hall,rfl,rfl⟩ hrec;by_cases hlt:i<t.key.length
 ·have hc:=hin _ (yaa hlt);obtain⟨n,hn⟩:∃n:Nat,t.key[i]=n:=⟨t.key[i].toNat,O⟩;have hn2:n<t.cols.length:=O;have hnn:zx t t.key[i]=t.cols[n].notNull:=by simp[zx,hn,hn2]
  repeat' first|refine X ?_|((first|apply yG|apply yH|apply yI);exact rfl;(first|exact yax encI hk hlt|exact yax jf hn hn2))|exact yaF|refine yaS ?_ ?_<;>intro _
  ·rename_i h;exact .ret rfl (.bool (zae λhh=>by
    have h2:=(jx.1 hh).2.2.2.2.2.2.2.1;rw[jf1 hlt (by rw[hnn];simpa using h)]at h2
    cases h2).symm)
  ·rename_i h;exact Go.keep [1,3,6] (hrec _ _ _ O ⟨i+1,_,rfl,hlt,wb hk O,upto hall hlt (by rw[hnn];simpa using h),rfl,rfl⟩)
 have hkey:=wbh (p:=zx t) (l:=t.key) λj hj=>hall j hj O;clear hrec hall;repeat' first|refine X ?_|exact yaF|refine yaS ?_ ?_<;>intro _
 clear hlt hk hi
 -- the uniques
 refine Go.keep [1,3,7] (Go.loops (I:=λm fr V=>∃i:Nat,∃k:Int,m=t.uniques.length-i/\i<=t.uniques.length/\k=i/\(∀j (hj:j<t.uniques.length),j<i->zbs t.uniques[j].cols t.cols.length=true)/\
  fr=[(1,.c (.fp (ja t))),(3,.c (.int .i64 (t.cols.length:Int))),(7,.c (.int .i64 k))]/\V=E G []) ?_ _ _ _ ⟨0,_,rfl,yac _,rfl,λj _ h=>absurd h O,rfl,rfl⟩)
 rintro m fr V ⟨i,k,rfl,hi,hk,hall,rfl,rfl⟩ hrec;by_cases hlt:i<t.uniques.length
 ·repeat' first|refine X ?_|((first|apply yG|apply yH|apply yI);exact rfl;(first|exact yax zaz hk hlt))|((first|apply Go.pcallB|apply Go.spcallB|apply Qg.pcallB);(iterate 3 exact rfl);exact we7 t.uniques[i].cols t.cols.length (b4.2 _ (yaa hlt)) O O;intro _ _)|exact yaF|refine yaS ?_ ?_<;>intro _
  ·rename_i c p q;exact .ret rfl (.bool (zae λhh=>by
    have h2:=(jx.1 hh).2.2.2.2.2.2.2.2.1;rw[jf1 (p:=λu:Uniq=>zbs u.cols t.cols.length) hlt (nbT p q)]at h2
    cases h2).symm)
  ·rename_i c p q;exact Go.keep [1,3,7] (hrec _ _ _ O ⟨i+1,_,rfl,hlt,wb hk O,upto (p:=λu:Uniq=>zbs u.cols t.cols.length) hall hlt (nbF p q),rfl,rfl⟩)
 have huni:=wbh (p:=λu:Uniq=>zbs u.cols t.cols.length) (l:=t.uniques) λj hj=>hall j hj O;clear hrec hall;repeat' first|refine X ?_|exact yaF|refine yaS ?_ ?_<;>intro _
 clear hlt hk hi
 -- the checks
 refine Go.keep [1,3,8] (Go.loops (I:=λm fr V=>∃i:Nat,∃k:Int,m=t.checks.length-i/\i<=t.checks.length/\k=i/\(∀j (hj:j<t.checks.length),j<i->jao t.checks[j].expr t.cols.length=true)/\
  fr=[(1,.c (.fp (ja t))),(3,.c (.int .i64 (t.cols.length:Int))),(8,.c (.int .i64 k))]/\V=E G []) ?_ _ _ _ ⟨0,_,rfl,yac _,rfl,λj _ h=>absurd h O,rfl,rfl⟩)
 rintro m fr V ⟨i,k,rfl,hi,hk,hall,rfl,rfl⟩ hrec;by_cases hlt:i<t.checks.length
 ·have hx:=je7 t.checks[i].expr t.cols.length (b5.2 _ (yaa hlt)).1 O O;rw[show(decide ((t.checks[i].expr.length:Int)<=24)&&wy t.cols.length 0 t.checks[i].expr)=jao t.checks[i].expr t.cols.length from rfl]at hx;repeat' first|refine X ?_|((first|apply yG|apply yH|apply yI);exact rfl;(first|exact yax jbm hk hlt))|((first|apply Go.pcallB|apply Go.spcallB|apply Qg.pcallB);(iterate 3 exact rfl);exact hx;intro _ _)|exact yaF|refine yaS ?_ ?_<;>intro _
  ·rename_i c p q;exact .ret rfl (.bool (zae λhh=>by
    have h2:=(jx.1 hh).2.2.2.2.2.2.2.2.2.1;rw[jf1 (p:=λu:Chk=>jao u.expr t.cols.length) hlt (nbT p q)]at h2
    cases h2).symm)
  ·rename_i c p q;exact Go.keep [1,3,8] (hrec _ _ _ O ⟨i+1,_,rfl,hlt,wb hk O,upto (p:=λu:Chk=>jao u.expr t.cols.length) hall hlt (nbF p q),rfl,rfl⟩)
 have hchk:=wbh (p:=λu:Chk=>jao u.expr t.cols.length) (l:=t.checks) λj hj=>hall j hj O;clear hrec hall;repeat' first|refine X ?_|exact yaF|refine yaS ?_ ?_<;>intro _
 clear hlt hk hi
 -- the references
 refine Go.keep [1,3,9] (Go.loops (I:=λm fr V=>∃i:Nat,∃k:Int,m=t.fks.length-i/\i<=t.fks.length/\k=i/\(∀j (hj:j<t.fks.length),j<i->wcp t.fks[j] t.cols.length=true)/\
  fr=[(1,.c (.fp (ja t))),(3,.c (.int .i64 (t.cols.length:Int))),(9,.c (.int .i64 k))]/\V=E G []) ?_ _ _ _ ⟨0,_,rfl,yac _,rfl,λj _ h=>absurd h O,rfl,rfl⟩)
 rintro m fr V ⟨i,k,rfl,hi,hk,hall,rfl,rfl⟩ hrec;by_cases hlt:i<t.fks.length
 ·have hbf:=b6.2 _ (yaa hlt);have neg:wcp t.fks[i] t.cols.length=false->waj t=false:=λh=>zae λhh=>by
   have h2:=(jx.1 hh).2.2.2.2.2.2.2.2.2.2;rw[jf1 (p:=λu:Fk=>wcp u t.cols.length) hlt h]at h2
   cases h2
  repeat' first|refine X ?_|((first|apply yG|apply yH|apply yI);exact rfl;(first|exact yax wal hk hlt))|((first|apply Go.pcallB|apply Go.spcallB|apply Qg.pcallB);(iterate 3 exact rfl);(first|exact we7 t.fks[i].cols t.cols.length hbf.1 O O|exact we6 t.fks[i].table hbf.2|exact zav _ _ _);intro _ _)|exact yaF|refine yaS ?_ ?_<;>intro _
  all_goals try(refine .ret rfl (.bool (neg ?_).symm);clear hrec neg hin hall hkey huni hchk;simp_all[wcp];done)
  have hok:wcp t.fks[i] t.cols.length=true:=by
   clear hrec neg hin hall hkey huni hchk;simp_all[wcp]
  exact Go.keep [1,3,9] (hrec _ _ _ O ⟨i+1,_,rfl,hlt,wb hk O,upto (p:=λu:Fk=>wcp u t.cols.length) hall hlt hok,rfl,rfl⟩)
 have hfk:=wbh (p:=λu:Fk=>wcp u t.cols.length) (l:=t.fks) λj hj=>hall j hj O;clear hrec hall;repeat' first|refine X ?_|exact yaF|refine yaS ?_ ?_<;>intro _
 refine .ret rfl (.bool ?_);rw[eq_comm,jx];exact⟨k1,k2,k3,O,O,O,hfin,hkey,huni,hchk,hfk⟩
def zf:Val:=⟨0,0,[]⟩
def vInt(n:Int):Val:=⟨1,n,[]⟩
def yes(b:Bool):Int:=if b then 1 else 0
def waf(v:Val):Int:=if v.k=0 then 2 else if v.k=1 then(if v.n=0 then 0 else 1)else -1
def zc8(a b:Val):Bool:=zr a&&(zr b&&(!(a.k==0)&& !(b.k==0)))
def eq3(a b:Val):Int:=if zc8 a b then yes (a==b)else 2
def je8(a b:Val):Int:=if zc8 a b then yes (decide (zjc a b<0))else 2
def tru(a:Int):Bool:=isIn a 0 2
def and3(a b:Int):Int:=if tru a&&tru b then(if a=0\/b=0 then 0 else if a=1/\b=1 then 1 else 2)else -1
def or3(a b:Int):Int:=if tru a&&tru b then(if a=1\/b=1 then 1 else if a=0/\b=0 then 0 else 2)else -1
def not3(a:Int):Int:=if tru a then(if a=2 then 2 else 1-a)else -1
def asV(t:Int):Val×Bool:=if t=2 then(zf,true)else(vInt t,decide (0<=t))
def sumV(a b:Val)(s:Int):Val×Bool:=if a.k=2\/b.k=2 then(zf,false)else if a.k=0\/b.k=0 then(zf,true)else(vInt (a.n+s*b.n),zr (vInt (a.n+s*b.n)))
def vAt(l:List Val)(i:Nat):Val:=l[i]?.getD zf
def wx(t:Tok)(l row:List Val):Val×Bool:=
 if t.kind=1 then(vAt row t.col.toNat,true)else if t.kind=2 then(t.v,true)else if t.kind=3 then asV (eq3 (vAt l 0) (vAt l 1))else if t.kind=4 then asV (je8 (vAt l 0) (vAt l 1))
 else if t.kind=5 then asV (and3 (waf (vAt l 0)) (waf (vAt l 1)))else if t.kind=6 then asV (or3 (waf (vAt l 0)) (waf (vAt l 1)))else if t.kind=7 then asV (not3 (waf (vAt l 0)))
 else if t.kind=8 then asV (yes ((vAt l 0).k==0))else if t.kind=9 then sumV (vAt l 0) (vAt l 1) 1 else sumV (vAt l 0) (vAt l 1) (-1)
def zak(t:Tok)(st:List Val):Nat:=st.length-(wg t).toNat
def wfv(row:List Val):List Tok->List Val->Option (List Val)
 |[],st=>some st
 |t::r,st=>if(wx t (st.drop (zak t st)) row).2 then wfv row r (st.take (zak t st)++[(wx t (st.drop (zak t st)) row).1])else none
def jaz(e:List Tok)(row:List Val):Val×Bool:=match wfv row e []with
 |some (v::_)=>(v,true)
 |_=>(zf,false)
def jc8(e:List Tok)(row:List Val):Bool:=zq row 16&&jao e row.length
def wem(e:List Tok)(row:List Val):Val×Bool:=if jc8 e row then jaz e row else(zf,false)
def jcq(e:List Tok)(row:List Val):Int:=if(jaz e row).2 then waf (jaz e row).1 else -1
def wb2(e:List Tok)(row:List Val):Int:=if jc8 e row then jcq e row else -1
theorem jjd(e:List Tok)(row:List Val):(if(wem e row).2 then waf (wem e row).1 else -1)=wb2 e row:=by
 simp only[wem,wb2,jcq];split<;>simp
def Oks(l:List Val):Prop:=∀v∈l,zr v=true
theorem Oks.at_{l:List Val}(h:Oks l)(i:Nat):zr (vAt l i)=true:=by
 simp only[vAt]
 cases hi:l[i]? with
 |none=>rfl
 |some v=>exact h v (List.mem_of_getElem? hi)
theorem wjd{n:Int}(h0:-1000000000<=n)(h1:n<=1000000000):zr (vInt n)=true:=by
 simp[zr,vInt,isIn,h0,h1]
theorem wcq(b:Bool):0<=yes b/\yes b<=1:=by cases b<;>simp[yes]
theorem zb3{t:Int}(h:t<=2)(hk:(asV t).2=true):zr (asV t).1=true:=by
 simp only[asV]at hk⊢;split
 ·rfl
 ·rename_i h2;rw[if_neg h2]at hk;have h0:0<=t:=of_decide_eq_true hk;exact wjd O O
theorem wf1{a b:Val}{s:Int}(hk:(sumV a b s).2=true):zr (sumV a b s).1=true:=by
 simp only[sumV]at hk⊢;split
 ·rfl
 ·rename_i h;rw[if_neg h]at hk;split
  ·rfl
  ·rename_i h2;rw[if_neg h2]at hk;exact hk
theorem whd(a b:Val):0<=eq3 a b/\eq3 a b<=2:=by
 simp only[eq3];have:=wcq (a==b);split<;>omega
theorem we8(a b:Val):0<=je8 a b/\je8 a b<=2:=by
 simp only[je8];have:=wcq (decide (zjc a b<0));split<;>omega
theorem wiw(a b:Int):-1<=and3 a b/\and3 a b<=2:=by
 simp only[and3];split
 ·split
  ·omega
  ·split<;>omega
 ·omega
theorem zje(a b:Int):-1<=or3 a b/\or3 a b<=2:=by
 simp only[or3];split
 ·split
  ·omega
  ·split<;>omega
 ·omega
variable {a:Int}
theorem waz:tru a=true↔0<=a/\a<=2:=by simp[tru,isIn]
theorem zix(a:Int):-1<=not3 a/\not3 a<=2:=by
 simp only[not3];split
 ·rename_i h;have:=waz.1 h;split<;>omega
 ·omega
variable {t:Tok}
theorem ze9{l row:List Val}(ht:t.kind=2->zr t.v=true)(hl:Oks l)(hr:Oks row)(h:(wx t l row).2=true):zr (wx t l row).1=true:=by
 simp only[wx]at h⊢;split
 ·exact hr.at_ _
 ·rename_i n1;rw[if_neg n1]at h;split
  ·rename_i n2;exact ht n2
  ·rename_i n2;rw[if_neg n2]at h;split
   ·rename_i n3;rw[if_pos n3]at h;exact zb3 (whd _ _).2 h
   ·rename_i n3;rw[if_neg n3]at h;split
    ·rename_i n4;rw[if_pos n4]at h;exact zb3 (we8 _ _).2 h
    ·rename_i n4;rw[if_neg n4]at h;split
     ·rename_i n5;rw[if_pos n5]at h;exact zb3 (wiw _ _).2 h
     ·rename_i n5;rw[if_neg n5]at h;split
      ·rename_i n6;rw[if_pos n6]at h;exact zb3 (zje _ _).2 h
      ·rename_i n6;rw[if_neg n6]at h;split
       ·rename_i n7;rw[if_pos n7]at h;exact zb3 (zix _).2 h
       ·rename_i n7;rw[if_neg n7]at h;split
        ·rename_i n8;rw[if_pos n8]at h;exact zb3 (by have:=wcq ((vAt l 0).k==0);omega) h
        ·rename_i n8;rw[if_neg n8]at h;split
         ·rename_i n9;rw[if_pos n9]at h;exact wf1 h
         ·rename_i n9;rw[if_neg n9]at h;exact wf1 h
theorem jdf{n:Int}(h:ja4 t n=true)(h2:t.kind=2):zr t.v=true:=by
 simp only[ja4]at h;rw[if_neg O,if_pos h2]at h;simp at h;exact h.2
theorem wca{v:Val}(h:zr v=true)(h1:v.k=1):-1000000000<=v.n/\v.n<=1000000000:=by
 simp[zr,isIn,h1]at h;exact h.1
theorem zcy{v:Val}(h:zr v=true):v.k=0\/v.k=1\/v.k=2:=by
 simp[zr]at h;rcases h with(h|h)|h<;>simp[h]
theorem zdq{xs ys:List Val}(h1:i<xs.length)(h2:i<ys.length):(xs.drop i==ys.drop i)=((xs[i].k==ys[i].k&&(xs[i].n==ys[i].n&&xs[i].s==ys[i].s))&&(xs.drop (i+1)==ys.drop (i+1))):=by
 rw[yab h1,yab h2,List.cons_beq_cons]
 congr 1
 generalize xs[i]=a;generalize ys[i]=b;obtain⟨a1,a2,a3⟩:=a;obtain⟨b1,b2,b3⟩:=b;rw[Bool.eq_iff_iff];simp
theorem zbi(xs ys:List Val)(hx:xs.length<=34359738368):Pure Tryz.prog 329 [.c (.fz (xs.map encV)),.c (.fz (ys.map encV))] (.c (.bool (xs==ys))):=by
 refine yaq [] zd0 λG=>?_;repeat' first|refine X ?_|exact yaF|refine yaS ?_ ?_<;>intro _
 ·refine .ret rfl (.bool ?_);rw[eq_comm,beq_eq_false_iff_ne];rintro rfl;simp at*
 refine Go.keep [0,1,5] (Go.loops (I:=λm fr V=>∃i:Nat,∃n:Int,m=xs.length-i/\i<=xs.length/\n=i/\(xs.length=ys.length/\(xs==ys)=(xs.drop i==ys.drop i))/\
  fr=[(0,.c (.fz (xs.map encV))),(1,.c (.fz (ys.map encV))),(5,.c (.int .i64 n))]/\V=E G []) ?_ _ _ _ ⟨0,_,rfl,yac _,rfl,⟨O,rfl⟩,rfl,rfl⟩)
 rintro m fr V ⟨i,n,rfl,hi,hn,⟨hl,hsl⟩,rfl,rfl⟩ hrec;by_cases hlt:i<xs.length
 ·have hlt2:i<ys.length:=O;have hst:=zdq hlt hlt2;repeat' first|refine X ?_|((first|apply yG|apply yH|apply yI);exact rfl;(first|exact yax encV hn hlt|exact yax encV hn hlt2))|exact yaF|refine yaS ?_ ?_<;>intro _
  ·refine .ret rfl (.bool ?_);rw[hsl,hst];clear hrec;simp_all
   intros
   simp_all
  ·refine Go.keep [0,1,5] (hrec _ _ _ O ⟨i+1,_,rfl,hlt,wb hn O,⟨hl, ?_⟩,rfl,rfl⟩);rw[hsl,hst];clear hrec;simp_all
 ·repeat' first|refine X ?_|exact yaF|refine yaS ?_ ?_<;>intro _
  refine .ret rfl (.bool ?_);rw[hsl,yad O,yad O]
  rfl
theorem wd9(xs ys:List Val)(hx:xs.length<=34359738368):Pure Tryz.prog 346 [.c (.fz (xs.map encV)),.c (.fz (ys.map encV))] (.c (.bool (xs==ys))):=by
 refine yaq [] wdo λG=>?_;repeat' first|refine X ?_|exact yaF|refine yaS ?_ ?_<;>intro _
 ·refine .ret rfl (.bool ?_);rw[eq_comm,beq_eq_false_iff_ne];rintro rfl;simp at*
 refine Go.keep [0,1,12,13] (Go.loops (I:=λm fr V=>∃i:Nat,∃n:Int,m=xs.length-i/\i<=xs.length/\n=i/\(xs.length=ys.length/\(xs==ys)=(xs.drop i==ys.drop i))/\
  fr=[(0,.c (.fz (xs.map encV))),(1,.c (.fz (ys.map encV))),(12,.c (.int .i64 (xs.length:Int))),(13,.c (.int .i64 n))]/\V=E G []) ?_ _ _ _ ⟨0,_,rfl,yac _,rfl,⟨O,rfl⟩,rfl,rfl⟩)
 rintro m fr V ⟨i,n,rfl,hi,hn,⟨hl,hsl⟩,rfl,rfl⟩ hrec;by_cases hlt:i<xs.length
 ·have hlt2:i<ys.length:=O;have hst:=zdq hlt hlt2;repeat' first|refine X ?_|((first|apply yG|apply yH|apply yI);exact rfl;(first|exact yax encV hn hlt|exact yax encV hn hlt2))|exact yaF|refine yaS ?_ ?_<;>intro _
  ·refine .ret rfl (.bool ?_);rw[hsl,hst];clear hrec;simp_all
   intros
   simp_all
  ·refine Go.keep [0,1,12,13] (hrec _ _ _ O ⟨i+1,_,rfl,hlt,wb hn O,⟨hl, ?_⟩,rfl,rfl⟩);rw[hsl,hst];clear hrec;simp_all
 ·repeat' first|refine X ?_|exact yaF|refine yaS ?_ ?_<;>intro _
  refine .ret rfl (.bool ?_);rw[hsl,yad O,yad O]
  rfl
theorem zag{xs:List Val}:∀e∈xs.map encV,e.length=3/\∀x∈e,Flat x:=by
 intro e he;obtain⟨a,_,rfl⟩:=List.mem_map.1 he;exact⟨rfl,wle a⟩
theorem jkr(v w:Val):((v.k==w.k&&(v.n==w.n&&(v.s==w.s&&true))) !=false)=(v==w):=by
 obtain⟨a,b,c⟩:=v;obtain⟨d,e,f⟩:=w;rw[Bool.eq_iff_iff];simp
theorem je9(v:Val):∀x∈encV v,Flat x:=wle v
variable {l:List (Nat×List (List Ce))}
theorem wj9(v:Val):Fin G (.agg (encV v)) (.agg (encV v)) (E G l):=
 ⟨l,rfl,.refl λy hy=>(je9 v y hy).old _⟩
theorem z8(v:Val)(b:Bool):Fin G (.tup [.agg (encV v),.c (.bool b)]) (.tup [.agg (encV v),.c (.bool b)]) (E G l):=
 ⟨l,rfl,.refl λy hy=>by
  simp[AV.all,AV.all.allL,encV]at hy;rcases hy with rfl|rfl|rfl|rfl
  ·exact .int _ _
  ·exact .int _ _
  ·exact .str _
  ·exact .bool _⟩
theorem jw{k v t u j s:Nat}{g:Bool}{e:List Ce}{x y:AV}(hp:look fr t=some (.c (.ptr (G.next+k) v i j)))(hl:l[k]?=some (v,es))(he:es[i]?=some e)(hj:j<=e.length)(hx:wbw g s (e.drop j)=some x)(hu:look fr u=some y):
 retv fr (E G l) [.m t g s,.t u]=some (.tup [x,y]):=by
 have h1:=zay hp hl he hj hx;simp only[retv,revs]at h1⊢
 cases hq:RV.ev fr (E G l) (.m t g s)with
 |none=>rw[hq]at h1;simp at h1
 |some q=>
  rw[hq]at h1;simp only[Option.some.injEq]at h1;subst h1;have h2:RV.ev fr (E G l) (.t u)=some y:=hu;rw[h2]
theorem jcy(b:Bool):Pure Tryz.prog 244 [.c (.bool b)] (.c (.int .i64 (yes b))):=by
 refine yaq [] jfs λG=>?_;repeat' first|refine X ?_|exact yaF|refine yaS ?_ ?_<;>intro _
 all_goals refine .ret rfl (.int ?_)
 all_goals simp_all[yes]
theorem zeo(v:Val):Pure Tryz.prog 147 [.agg (encV v)] (.c (.int .i64 (waf v))):=by
 refine yaq [1] wg4 λG=>?_;repeat' first|refine X ?_|((first|apply yQ|apply yR|apply yS);(iterate 3 exact rfl);exact jcy _)|exact yaF|refine yaS ?_ ?_<;>intro _
 all_goals refine .ret rfl (.int ?_)
 all_goals simp_all[waf,yes]
 all_goals(cases h:decide (v.n=0)<;>simp_all)
theorem zgm(t:Int):Pure Tryz.prog 307 [.c (.int .i64 t)] (.tup [.agg (encV (asV t).1),.c (.bool (asV t).2)]):=by
 refine yaq [] wg8 λG=>?_;repeat' first|refine X ?_|exact yaF|refine yaS ?_ ?_<;>intro _
 ·rename_i h;rw[asV,if_pos h];exact .ret (jw rfl rfl rfl (yac _) rfl rfl) (z8 _ _)
 ·rename_i h;rw[asV,if_neg h];exact .ret (jw rfl rfl rfl (yac _) rfl rfl) (z8 (vInt t) _)
theorem we9(v w:Val):Pure Tryz.prog 354 [.agg (encV v),.agg (encV w)] (.c (.bool (zc8 v w))):=by
 refine yaq [2,3] je5 λG=>?_;repeat' first|refine X ?_|((first|apply Go.pcallB|apply Go.spcallB|apply Qg.pcallB);(iterate 3 exact rfl);(first|exact wcx v|exact wcx w);intro _ _)|exact yaF|refine yaS ?_ ?_<;>intro _
 all_goals refine .ret rfl (.bool ?_)
 all_goals simp_all[zc8]
 all_goals first
  |rfl
  |(rename_i h;rw[beq_eq_false_iff_ne.2 h];rfl)
theorem jje(v w:Val):Pure Tryz.prog 308 [.agg (encV v),.agg (encV w)] (.c (.int .i64 (eq3 v w))):=by
 refine yaq [2,3] jgj λG=>?_;repeat' first|refine X ?_|((first|apply yQ|apply yR|apply yS);(iterate 3 exact rfl);exact jcy _)|((first|apply Go.pcallB|apply Go.spcallB|apply Qg.pcallB);(iterate 3 exact rfl);exact we9 v w;intro _ _)|exact yaF|refine yaS ?_ ?_<;>intro _
 all_goals refine .ret rfl (.int ?_)
 all_goals rename_i b p k
 ·rw[eq3,nbT p k]
  rfl
 ·rw[eq3,nbF p k,jkr]
  rfl
theorem zka(v w:Val):Pure Tryz.prog 309 [.agg (encV v),.agg (encV w)] (.c (.int .i64 (je8 v w))):=by
 refine yaq [2,3] zg9 λG=>?_;repeat' first|refine X ?_|refine yaC (zj8 v w) ?_|((first|apply yQ|apply yR|apply yS);(iterate 3 exact rfl);exact jcy _)|((first|apply Go.pcallB|apply Go.spcallB|apply Qg.pcallB);(iterate 3 exact rfl);exact we9 v w;intro _ _)|exact yaF|refine yaS ?_ ?_<;>intro _
 all_goals refine .ret rfl (.int ?_)
 all_goals rename_i b p k
 ·rw[je8,nbT p k]
  rfl
 ·rw[je8,nbF p k]
  rfl
theorem jgm(t:Int):Pure Tryz.prog 377 [.c (.int .i64 t)] (.c (.bool (!tru t))):=by
 refine yaq [] zdp λG=>?_;repeat' first|refine X ?_|((first|apply yQ|apply yR|apply yS);(iterate 3 exact rfl);exact jem _ _ _)|exact yaF|refine yaS ?_ ?_<;>intro _
 exact .ret rfl (.bool rfl)
theorem zcr(l:List Int)(hx:l.length<=34359738368):Pure Tryz.prog 356 [.c (.fz (l.map encI))] (.c (.bool (!(l.any λt=> !tru t)))):=by
 refine yaq [] jel λG=>?_;repeat' first|refine X ?_|((first|apply yQ|apply yR|apply yS);(iterate 3 exact rfl);exact wi mixed w5 z9 encI (λn=>.c (.int .i64 n)) (λ_=>rfl) (λ_=>rfl) l (λt=> !tru t) _ [] [] hx (λj hj _=>jgm _))|exact yaF|refine yaS ?_ ?_<;>intro _
 exact .ret rfl (.bool rfl)
theorem zf2(a b:Int):(!([a,b].any λt=> !tru t))=(tru a&&tru b):=by
 simp only[List.any_cons,List.any_nil]
 cases tru a<;>cases tru b<;>rfl
theorem jk0(a b:Int):Pure Tryz.prog 310 [.c (.int .i64 a),.c (.int .i64 b)] (.c (.int .i64 (and3 a b))):=by
 refine yaq [8] whx λG=>?_;have c1:=zcr [a,b] gx;rw[zf2]at c1;repeat' first|refine X ?_|((first|apply Go.pcallB|apply Go.spcallB|apply Qg.pcallB);(iterate 3 exact rfl);exact c1;intro _ _)|exact yaF|refine yaS ?_ ?_<;>intro _
 all_goals refine .ret rfl (.int ?_)
 all_goals clear c1
 all_goals simp_all[and3]
theorem zlf(a b:Int):Pure Tryz.prog 311 [.c (.int .i64 a),.c (.int .i64 b)] (.c (.int .i64 (or3 a b))):=by
 refine yaq [8] jiu λG=>?_;have c1:=zcr [a,b] gx;rw[zf2]at c1;repeat' first|refine X ?_|((first|apply Go.pcallB|apply Go.spcallB|apply Qg.pcallB);(iterate 3 exact rfl);exact c1;intro _ _)|exact yaF|refine yaS ?_ ?_<;>intro _
 all_goals refine .ret rfl (.int ?_)
 all_goals clear c1
 all_goals simp_all[or3]
theorem wk0(a:Int):Pure Tryz.prog 312 [.c (.int .i64 a)] (.c (.int .i64 (not3 a))):=by
 refine yaq [5] zhy λG=>?_;have c1:=zcr [a] gx;have h1:(!([a].any λt=> !tru t))=tru a:=by simp only[List.any_cons,List.any_nil];cases tru a<;>rfl
 rw[h1]at c1;repeat' first|refine X ?_|((first|apply Go.pcallB|apply Go.spcallB|apply Qg.pcallB);(iterate 3 exact rfl);exact c1;intro _ _)|exact yaF|refine yaS ?_ ?_<;>intro _
 all_goals refine .ret rfl (.int ?_)
 all_goals clear c1
 ·rename_i b p k;rw[not3,nbT p k]
  rfl
 ·rename_i b p k h;rw[not3,nbF p k,if_pos rfl,if_pos h]
 ·rename_i b p k h;have hr:=waz.1 (nbF p k);rw[not3,nbF p k,if_pos rfl,if_neg h];exact zk O O
theorem jij(a b:Val)(s:Int)(hs:s=1\/s=-1)(ha:zr a=true)(hb:zr b=true):Pure Tryz.prog 313 [.agg (encV a),.agg (encV b),.c (.int .i64 s)] (.tup [.agg (encV (sumV a b s).1),.c (.bool (sumV a b s).2)]):=by
 refine yaq [3,4] jg9 λG=>?_;by_cases h1:a.k=2\/b.k=2
 ·have e:sumV a b s=(zf,false):=by simp only[sumV,if_pos h1]
  rw[e];rcases h1 with h1|h1
  ·repeat' first|refine X ?_|exact yaF|refine yaS ?_ ?_<;>intro _
   all_goals first
    |exact .ret (jw rfl rfl rfl (yac _) rfl rfl) (z8 zf _)
    |(exfalso;omega)
  ·repeat' first|refine X ?_|exact yaF|refine yaS ?_ ?_<;>intro _
   all_goals first
    |exact .ret (jw rfl rfl rfl (yac _) rfl rfl) (z8 zf _)
    |(exfalso;omega)
 by_cases h2:a.k=0\/b.k=0
 ·have e:sumV a b s=(zf,true):=by simp only[sumV,if_neg h1,if_pos h2]
  rw[e];rcases h2 with h2|h2
  ·repeat' first|refine X ?_|exact yaF|refine yaS ?_ ?_<;>intro _
   all_goals first
    |exact .ret (jw rfl rfl rfl (yac _) rfl rfl) (z8 zf _)
    |(exfalso;omega)
  ·repeat' first|refine X ?_|exact yaF|refine yaS ?_ ?_<;>intro _
   all_goals first
    |exact .ret (jw rfl rfl rfl (yac _) rfl rfl) (z8 zf _)
    |(exfalso;omega)
 have e:sumV a b s=(vInt (a.n+s*b.n),zr (vInt (a.n+s*b.n))):=by simp only[sumV,if_neg h1,if_neg h2]
 have ka:a.k=1:=by have:=zcy ha;omega
 have kb:b.k=1:=by have:=zcy hb;omega
 have ra:=wca ha ka;have rb:=wca hb kb;have hw:IntKind.i64.wrap (a.n+IntKind.i64.wrap (s*b.n))=a.n+s*b.n:=by
  rcases hs with rfl|rfl
  ·rw[zk (n:=1*b.n) O O,zk O O]
  ·rw[zk (n:=-1*b.n) O O,zk O O]
 rw[e];repeat' first|refine X ?_|((first|apply yG|apply yH|apply yI);exact rfl;(first|exact zl rfl rfl rfl rfl rfl rfl gz))|refine yaC (wcx (vInt (IntKind.i64.wrap (a.n+IntKind.i64.wrap (s*b.n))))) ?_|exact yaF|refine yaS ?_ ?_<;>intro _
 all_goals first
  |(exfalso;omega)
  |skip
 rw[hw];exact .ret (jw rfl rfl rfl (yac _) rfl rfl) (z8 (vInt _) _)
theorem wje(t:Tok)(row:List Val)(hk:t.kind=1\/t.kind=2)(hc:t.kind=1->0<=t.col/\t.col<row.length):Pure Tryz.prog 243 [.agg (zi t),.c (.fz []),.c (.fz (row.map encV))] (.tup [.agg (encV (wx t [] row).1),.c (.bool (wx t [] row).2)]):=by
 refine yas wau λG=>?_;rcases hk with h1|h1
 ·have h2:=hc h1;have hn:t.col.toNat<row.length:=O;have hz:t.col=(t.col.toNat:Int):=O;have e:wx t [] row=(row[t.col.toNat],true):=by simp[wx,h1,vAt,hn]
  rw[e];repeat' first|refine X ?_|((first|apply yG|apply yH|apply yI);exact rfl;(first|exact yax encV hz hn))|exact yaF|refine yaS ?_ ?_<;>intro _
  exact .ret (jw rfl rfl rfl (yac _) rfl rfl) (z8 row[t.col.toNat] _)
 ·have e:wx t [] row=(t.v,true):=by simp[wx,h1]
  rw[e];repeat' first|refine X ?_|exact yaF|refine yaS ?_ ?_<;>intro _
  exact .ret (jw rfl rfl rfl (yac _) rfl rfl) (z8 t.v _)
theorem zjf(t:Tok)(x:Val)(row:List Val)(hk:t.kind=7\/t.kind=8):Pure Tryz.prog 243 [.agg (zi t),.c (.fz [encV x]),.c (.fz (row.map encV))] (.tup [.agg (encV (wx t [x] row).1),.c (.bool (wx t [x] row).2)]):=by
 refine yas wau λG=>?_;rcases hk with h1|h1
 ·have e:wx t [x] row=asV (not3 (waf x)):=by simp[wx,h1,vAt]
  rw[e];repeat' first|refine X ?_|refine yaC (zeo x) ?_|((first|apply yQ|apply yR|apply yS);(iterate 3 exact rfl);exact wk0 _)|((first|apply yQ|apply yR|apply yS);(iterate 3 exact rfl);exact zgm _)|exact yaF|refine yaS ?_ ?_<;>intro _
  exact .ret (jw rfl rfl rfl (yac _) rfl rfl) (z8 _ _)
 ·have e:wx t [x] row=asV (yes (x.k==0)):=by simp[wx,h1,vAt]
  rw[e];repeat' first|refine X ?_|((first|apply yQ|apply yR|apply yS);(iterate 3 exact rfl);exact jcy _)|((first|apply yQ|apply yR|apply yS);(iterate 3 exact rfl);exact zgm _)|exact yaF|refine yaS ?_ ?_<;>intro _
  exact .ret (jw rfl rfl rfl (yac _) rfl rfl) (z8 _ _)
theorem jjf(t:Tok)(x y:Val)(row:List Val)(hk:t.kind=3\/t.kind=4\/t.kind=5\/t.kind=6\/t.kind=9\/t.kind=10)(hx:zr x=true)(hy:zr y=true):Pure Tryz.prog 243 [.agg (zi t),.c (.fz [encV x,encV y]),.c (.fz (row.map encV))] (.tup [.agg (encV (wx t [x,y] row).1),.c (.bool (wx t [x,y] row).2)]):=by
 refine yas wau λG=>?_;obtain⟨r,hr⟩:∃r,wx t [x,y] row=r:=⟨_,rfl⟩;rcases hk with h1|h1|h1|h1|h1|h1;all_goals simp only[wx,h1,vAt,List.getElem?_cons_zero,List.getElem?_cons_succ,Option.getD_some,Int.reduceEq,if_true,if_false,reduceIte]at hr
 all_goals rw[show wx t [x,y] row=r by simp[wx,h1,vAt,hr]]
 all_goals repeat' first|refine X ?_|((first|apply yG|apply yH|apply yI);exact rfl;(first|exact zl rfl rfl rfl rfl rfl rfl gz))|refine yaC (jje x y) ?_|refine yaC (zka x y) ?_|refine yaC (zeo x) ?_|refine yaC (zeo y) ?_|((first|apply yQ|apply yR|apply yS);(iterate 3 exact rfl);exact jk0 _ _)|((first|apply yQ|apply yR|apply yS);(iterate 3 exact rfl);exact zlf _ _)|refine yaC (jij x y 1 (.inl rfl) hx hy) ?_|refine yaC (jij x y (-1) (.inr rfl) hx hy) ?_|((first|apply yQ|apply yR|apply yS);(iterate 3 exact rfl);exact zgm _)|exact yaF|refine yaS ?_ ?_<;>intro _
 all_goals subst hr
 all_goals exact .ret (jw rfl rfl rfl (yac _) rfl rfl) (z8 _ _)
theorem wjf(v:Val):zc2 (.agg (encV v)):=.agg _ λi hi=>by
 have:i=0\/i=1\/i=2:=by simp only[encV,List.length_cons,List.length_nil]at hi;omega
 rcases this with rfl|rfl|rfl
 ·exact .int _ _
 ·exact .int _ _
 ·exact .str _
theorem jka(v:Val)(b:Bool):zc2 (.tup [.agg (encV v),.c (.bool b)]):=.tup _ λi hi=>by
 have:i=0\/i=1:=by simp only[List.length_cons,List.length_nil]at hi;omega
 rcases this with rfl|rfl
 ·exact wjf v
 ·exact .bool b
theorem zfa{n:Int}(h:ja4 t n=true):t.kind=1\/t.kind=2\/(t.kind=3\/t.kind=4\/t.kind=5\/t.kind=6\/t.kind=7\/t.kind=8\/t.kind=9\/t.kind=10):=by
 simp only[ja4]at h;split at h
 ·exact .inl ‹_›
 ·split at h
  ·exact .inr (.inl ‹_›)
  ·simp only[Bool.and_eq_true]at h;exact .inr (.inr (wii.1 h.1.1))
theorem zhe{n:Int}(h:ja4 t n=true)(h1:t.kind=1):0<=t.col/\t.col<n:=by
 simp only[ja4,if_pos h1,Bool.and_eq_true,isIn,decide_eq_true_eq]at h;omega
theorem wka(t:Tok)(l row:List Val)(ht:ja4 t row.length=true)(hl:(l.length:Int)=wg t)(ho:Oks l):Pure Tryz.prog 243 [.agg (zi t),.c (.fz (l.map encV)),.c (.fz (row.map encV))] (.tup [.agg (encV (wx t l row).1),.c (.bool (wx t l row).2)]):=by
 have hk:=zfa ht;have hc:=zhe ht;by_cases h0:t.kind=1\/t.kind=2
 ·have:wg t=0:=by rw[wg,if_pos h0]
  have hl0:l=[]:=yan O;subst hl0;exact wje t row h0 hc
 by_cases h1:t.kind=7\/t.kind=8
 ·have:wg t=1:=by rw[wg,if_neg h0,if_pos h1]
  match l,hl with
  |[x],_=>exact zjf t x row h1
  |[],hl=>simp at hl;omega
  |_::_::_,hl=>simp only[List.length_cons]at hl;omega
 ·have:wg t=2:=by rw[wg,if_neg h0,if_neg h1]
  match l,hl with
  |[x,y],_=>exact jjf t x y row O (ho x gx) (ho y gx)
  |[],hl=>simp at hl;omega
  |[_],hl=>simp at hl;omega
  |_::_::_::_,hl=>simp only[List.length_cons]at hl;omega
theorem jfa{l:List Val}{n:Int}(h:zq l n=true):Oks l/\(l.length:Int)<=n:=by
 simp only[zq,Bool.and_eq_true,decide_eq_true_eq,List.all_eq_true]at h;exact⟨h.2,h.1⟩
theorem wbb{n:Int}(h:jao e n=true):(e.length:Int)<=24/\wy n 0 e=true:=by
 simpa only[jao,Bool.and_eq_true,decide_eq_true_eq]using h
theorem jcr{n:Int}{r:List Tok}(h:wy n a (t::r)=true):ja4 t n=true/\wg t<=a/\wy n (a+1-wg t) r=true:=by
 simp only[wy,Bool.and_eq_true,decide_eq_true_eq]at h;exact⟨h.1.1,h.1.2,h.2⟩
theorem Oks.take{l:List Val}(h:Oks l)(n:Nat):Oks (l.take n):=λv hv=>h v (List.mem_of_mem_take hv)
theorem Oks.drop{l:List Val}(h:Oks l)(n:Nat):Oks (l.drop n):=λv hv=>h v (ybp hv)
theorem Oks.snoc{l:List Val}(h:Oks l){v:Val}(hv:zr v=true):Oks (l++[v]):=λw hw=>by
 rcases List.mem_append.1 hw with hw|hw
 ·exact h w hw
 ·rw[List.mem_singleton.1 hw];exact hv
theorem jc5{l:List Val}:∀e∈l.map encV,∀x∈e,Flat x:=λe he x hx=>(zag e he).2 x hx
theorem lens{l:List Val}:∀e∈l.map encV,e.length=3:=λe he=>(zag e he).1
theorem z4{id v j:Nat}(h:id<n):∀y∈(AV.c (.ptr id v i j)).all,Old n y:=λy hy=>by
 simp only[AV.all,List.mem_singleton]at hy;subst hy;exact .ptr _ _ _ _ h
theorem zai{id v j c:Nat}(h:id<n):∀y∈(AV.c (.sl id v i j c)).all,Old n y:=λy hy=>by
 simp only[AV.all,List.mem_singleton]at hy;subst hy;exact .sl _ _ _ _ _ h
theorem jt{k:IntKind}:∀y∈(AV.c (.int k z)).all,Old n y:=λy hy=>by
 simp only[AV.all,List.mem_singleton]at hy;subst hy;exact .int _ _
theorem wgm(h:∀e∈es,∀x∈e,Flat x):∀y∈(AV.c (.fz es)).all,Old n y:=λy hy=>by
 simp only[AV.all,List.mem_singleton]at hy;subst hy;exact .fz _ λi j hi hj=>(h _ (yaa hi) _ (yaa hj)).old _
theorem z0{l:List Val}:∀y∈(AV.c (.fz (l.map encV))).all,Old n y:=wgm jc5
theorem wd1{l:List Tok}:∀y∈(AV.c (.fz (l.map zi))).all,Old n y:=wgm λe he x hx=>by
 obtain⟨a,_,rfl⟩:=List.mem_map.1 he;exact jh0 a x hx
theorem wh3(e:List Tok)(row:List Val)(hx:e.length<=34359738368)(hr:row.length<=34359738368):Pure Tryz.prog 146 [.c (.fz (e.map zi)),.c (.fz (row.map encV))] (.tup [.agg (encV (wem e row).1),.c (.bool (wem e row).2)]):=by
 refine yap [51] zhw λG hS hA=>?_;clear hA;have c1:=jiv row 16 gb hr
 cases hv:zq row 16
 ·rw[hv]at c1;rw[wem,jc8,hv];repeat' first|refine X ?_|refine yaC (c1) ?_|exact yaF|refine yaS ?_ ?_<;>intro _
  exact .ret (jw rfl rfl rfl (yac _) rfl rfl) (z8 zf _)
 obtain⟨hok,hrl⟩:=jfa hv;have c2:=jcp e row.length hx;rw[wdp O hrl]at c2;rw[hv]at c1
 cases he:jao e row.length
 ·rw[he]at c2;rw[wem,jc8,hv,he];repeat' first|refine X ?_|refine yaC (c1) ?_|refine yaC (c2) ?_|exact yaF|refine yaS ?_ ?_<;>intro _
  exact .ret (jw rfl rfl rfl (yac _) rfl rfl) (z8 zf _)
 rw[he]at c2;obtain⟨hel,hea⟩:=wbb he;have hI:wem e row=jaz e row:=by rw[wem,jc8,hv,he];rfl
 rw[hI];repeat' first|refine X ?_|refine yaC (c1) ?_|refine yaC (c2) ?_|exact yaF|refine yaS ?_ ?_<;>intro _
 refine Go.keep [1,4,6,24,25,26] (Go.loops (I:=λm fr V=>∃(i:Nat) (k:Int) (st:List Val) (v:Nat) (junk:List (List Ce)),m=e.length-i/\i<=e.length/\k=i/\Jk 3 junk/\(st.length<=i/\Oks st/\wy row.length st.length (e.drop i)=true/\wfv row e []=wfv row (e.drop i) st)/\
  fr=[(1,.c (.fz (row.map encV))),(4,.c (.ptr (G.next+0) 0 0 0)),(6,.c (vec (G.next+1) v (st.map encV) junk)),(24,.c (.fz (e.map zi))),(25,.c (.int .i64 (e.length:Int))),(26,.c (.int .i64 k))]/\
   V=E G [(0,[[.int .i64 0,.int .i64 0,.str []]]),(v,st.map encV++junk)]) ?_ _ _ _ ⟨0,_,[],0,[],rfl,Nat.zero_le _,rfl,Jk.nil,⟨Nat.zero_le _,λv hv=>(by simp at hv),hea,rfl⟩,rfl,rfl⟩)
 rintro m fr V ⟨i,k,st,v,junk,rfl,hi,hk,hj,⟨hsl,hst,haux,hev⟩,rfl,rfl⟩ hrec;clear hea he hv c1 c2 hI;by_cases hlt:i<e.length
 ·rw[yab hlt]at haux hev;obtain⟨htk,hle,haux⟩:=jcr haux;have htr:=ja8 e[i];have hz:IntKind.i64.wrap (((st.map encV).length:Int)-wg e[i])=(zak e[i] st:Int):=by
   rw[yae,zk O O,zak];omega
  have hfn:zak e[i] st<=st.length:=by rw[zak];omega
  have hfn':zak e[i] st<=(st.map encV).length:=by rw[yae];exact hfn
  have hdl:((st.drop (zak e[i] st)).length:Int)=wg e[i]:=by rw[List.length_drop,zak];omega
  have hap:=wka e[i] (st.drop (zak e[i] st)) row htk hdl (hst.drop _);have hres:=ze9 (jdf htk) (hst.drop (zak e[i] st)) hok;rw[List.map_drop]at hap;rw[wfv]at hev;generalize wx e[i] (st.drop (zak e[i] st)) row=ap at hap hres hev;obtain⟨av,ab⟩:=ap;simp only at hap hres hev;repeat' first|apply Go.seq|apply Go.skip|apply Go.region|apply Go.nil|apply Go.block|apply Go.blk|apply Go.segs|(apply Go.exit;exact rfl)|(apply Go.cond true;exact rfl)|(apply Go.cond false;exact rfl)|apply yB|apply yC|((first|apply yD|apply yE);(first|exact yF|assumption);iterate 6 exact rfl)|((first|apply yG|apply yH|apply yI);exact rfl;(first|exact yJ|exact yK rfl rfl|exact yL rfl|exact yM rfl|exact rfl|exact aL rfl rfl rfl rfl rfl|exact aS rfl rfl rfl rfl rfl rfl rfl|exact yax zi hk hlt))|((first|apply yN|apply yO|apply yP);exact rfl)|((first|apply yQ|apply yR|apply yS);(iterate 3 exact rfl);exact jii e[i])|exact yaF|(((first|apply yT|apply yU|apply yV|apply yW);exact rfl;(first|exact .d|exact .e|exact .n|((fail_if_success exact bqt);(fail_if_success exact bqf);exact .b)))<;>intro _)
  rw[hz];generalize zak e[i] st=n at hz hfn hfn' hap hev hdl;apply Go.draw;refine Go.qkd [(0,[[.int .i64 0,.int .i64 0,.str []]]),(v,st.map encV++junk)] ?_;repeat' first|(apply Qk.nil;show Go _ _ _ _ _ _ _ _)|(apply Qk.op;exact rfl;(first|(rintro _ ⟨_,rfl⟩;exact rfl)|(rintro _ ⟨_,rfl⟩;exact zaj rfl rfl rfl (yam rfl) rfl)|(rintro _ ⟨_,rfl⟩;exact zj7 (k:=1) (s:=3) rfl rfl rfl hfn' rfl (λe he=>(List.mem_append.1 he).elim (lens e) λh=>(hj e h).1))))|(apply Qk.no;exact rfl)|(apply Qk.wop;exact rfl;exact rfl;(first|exact yJ|exact yL rfl|exact zl rfl rfl rfl rfl rfl rfl (yam rfl));exact⟨_,rfl⟩)
  refine Qk.lcall rfl rfl rfl hap (jka _ _) (λm=>.same (.own (wbt (k:=1) rfl jc5 hfn' (yac _)) (.same .nil))) ?_;repeat' first|(apply Qk.nil;show Go _ _ _ _ _ _ _ _)|(apply Qk.op;exact rfl;(first|(rintro _ ⟨_,rfl⟩;exact rfl)|(rintro _ ⟨_,rfl⟩;exact zaj rfl rfl rfl (yam rfl) rfl)))|(apply Qk.no;exact rfl)|(apply Qk.wop;exact rfl;exact rfl;(first|exact yJ|exact yL rfl|exact zl rfl rfl rfl rfl rfl rfl (yam rfl));exact⟨_,rfl⟩)
  cases ab
  ·rw[if_neg yah]at hev;have hR:jaz e row=(zf,false):=by rw[jaz,hev]
   rw[hR];repeat' first|refine X ?_|exact yaF|refine yaS ?_ ?_<;>intro _
   exact .ret (jw rfl rfl rfl (yac _) rfl rfl) (z8 zf _)
  ·rw[if_pos rfl]at hev;repeat' first|refine X ?_|((first|apply yG|apply yH|apply yI);exact rfl;(first|exact zaj rfl rfl rfl gz rfl|exact wj6 (k:=1) rfl rfl rfl hfn' rfl (λe he=>(List.mem_append.1 he).elim (lens e) λh=>(hj e h).1)))|exact yaF|refine yaS ?_ ?_<;>intro _
   have hsplit:st.map encV++junk=(st.map encV).take n++((st.map encV).drop n++junk):=by rw[<-ybn,List.take_append_drop]
   have hbd:(((st.map encV).take n).length+1)*32<=140737488355328:=by rw[yat,yae];omega
   refine Go.sapp1 (k:=1) (z:=encV av) rfl rfl rfl rfl (congrArg (λq=>some (v,q)) hsplit) (λe he=>lens e (List.mem_of_mem_take he)) (Jk.drop zag hj n) rfl hbd λv' junk' hj'=>?_;repeat' first|refine X ?_|exact yaF|refine yaS ?_ ?_<;>intro _
   refine Go.freezeN (l:=[(0,[[.int .i64 0,.int .i64 0,.str []]]),(v',(st.map encV).take n++[encV av]++junk')]) (m:=[(0,[encV av])])
    (fr':=[(1,.c (.fz (row.map encV))),(4,.c (.ptr (G.next+0) 0 0 0)),(6,.c (vec (G.next+1) v' ((st.map encV).take n++[encV av]) junk')),(24,.c (.fz (e.map zi))),(25,.c (.int .i64 (e.length:Int))),(26,.c (.int .i64 (IntKind.i64.wrap (k+1))))])
    hS ?_ (yaf _) (.frz rfl (.refl z0) (.frz rfl (.refl (z4 gx)) (.frz rfl (.refl (zai gx)) (.frz rfl (.refl wd1) (.frz rfl (.refl jt) (.frz rfl (.refl jt) .nil)))))) ?_
   ·intro b hb e he x hx;refine Flat.old ?_ _;rcases List.mem_cons.1 hb with rfl|hb
    ·exact jc5 (l:=[zf]) e he x hx
    ·rw[List.mem_singleton.1 hb]at he;rcases List.mem_append.1 he with he|he
     ·rcases List.mem_append.1 he with he|he
      ·exact jc5 e (List.mem_of_mem_take he) x hx
      ·exact jc5 (l:=[av]) e he x hx
     ·exact(hj' e he).2 x hx
   have e1:(st.map encV).take n++[encV av]=(st.take n++[av]).map encV:=gx;rw[e1];refine hrec _ _ _ O ⟨i+1,_,st.take n++[av],v',junk',rfl,hlt,wb hk O,hj',⟨?_,(hst.take n).snoc (hres rfl), ?_,hev⟩,rfl,rfl⟩
   ·simp only[List.length_append,List.length_take,List.length_singleton];omega
   ·have e2:((st.take n++[av]).length:Int)=st.length+1-wg e[i]:=by
     rw[List.length_drop]at hdl;simp only[List.length_append,List.length_take,List.length_singleton];omega
    rw[e2];exact haux
 ·have hd:e.drop i=[]:=yad O;rw[hd]at haux hev;simp only[wy,beq_iff_eq]at haux;obtain⟨w,rfl⟩:∃w,st=[w]:=List.length_eq_one_iff.1 O;have hR:jaz e row=(w,true):=by rw[jaz,hev];rfl
  rw[hR];repeat' first|refine X ?_|((first|apply yG|apply yH|apply yI);exact rfl;(first|exact jaa (k:=1) (n:=0) rfl rfl rfl (Nat.zero_lt_one) rfl rfl rfl))|exact yaF|refine yaS ?_ ?_<;>intro _
  exact .ret (jw rfl rfl rfl (yac _) rfl rfl) (z8 w _)
theorem zgn(e:List Tok)(row:List Val)(hx:e.length<=34359738368)(hr:row.length<=34359738368):Pure Tryz.prog 56 [.c (.fz (e.map zi)),.c (.fz (row.map encV))] (.c (.int .i64 (wb2 e row))):=by
 refine yaq [] zg4 λG=>?_;have c1:=wh3 e row hx hr;have h1:=jjd e row;generalize wem e row=q at c1 h1;obtain⟨v,b⟩:=q;simp only at c1 h1
 cases b
 ·repeat' first|refine X ?_|refine yaC (c1) ?_|exact yaF|refine yaS ?_ ?_<;>intro _
  refine .ret rfl (.int ?_);rw[<-h1]
  rfl
 ·repeat' first|refine X ?_|refine yaC (c1) ?_|refine yaC (zeo v) ?_|exact yaF|refine yaS ?_ ?_<;>intro _
  refine .ret rfl (.int ?_);rw[<-h1]
  rfl
theorem zjg(n:Int)(b:Bool):Fin G (.tup [.c (.int .i64 n),.c (.bool b)]) (.tup [.c (.int .i64 n),.c (.bool b)]) (E G l):=
 ⟨l,rfl,.refl λy hy=>by
  simp[AV.all,AV.all.allL]at hy;rcases hy with rfl|rfl
  ·exact .int _ _
  ·exact .bool _⟩
theorem wcy(b:Bool):Pure Tryz.prog 316 [.c (.bool b)] (.c (.int .i64 (yes b))):=by
 refine yaq [] zha λG=>?_;repeat' first|refine X ?_|exact yaF|refine yaS ?_ ?_<;>intro _
 all_goals refine .ret rfl (.int ?_)
 all_goals simp_all[yes]
theorem jak(n:Int):Pure Tryz.prog 224 [.c (.int .i64 n)] (.agg (encV (vInt n))):=by
 refine yaq [] zg6 λG=>?_;repeat' first|refine X ?_|exact yaF|refine yaS ?_ ?_<;>intro _
 exact .ret (zay rfl rfl rfl (yac _) rfl) (wj9 (vInt n))
def asR(t:Int):Val:=if t=2 then zf else vInt t
theorem jjg(t:Int):Pure Tryz.prog 317 [.c (.int .i64 t)] (.agg (encV (asR t))):=by
 refine yaq [] jhy λG=>?_;repeat' first|refine X ?_|refine yaC (jak t) ?_|exact yaF|refine yaS ?_ ?_<;>intro _
 ·rename_i h;rw[asR,if_pos h];exact .ret (zay rfl rfl rfl (yac _) rfl) (wj9 zf)
 ·rename_i h;rw[asR,if_neg h];exact .ret (zay rfl rfl rfl (yac _) rfl) (wj9 (vInt t))
def ofT(v:Val):Int:=if v.k=0 then 2 else if v.k=1 then yes (v.n !=0)else 0
def ofB(v:Val):Bool:=decide (v.k=0)||decide (v.k=1)
theorem jgn(v:Val):Pure Tryz.prog 255 [.agg (encV v)] (.tup [.c (.int .i64 (ofT v)),.c (.bool (ofB v))]):=by
 refine yaq [1] jhx λG=>?_;repeat' first|refine X ?_|((first|apply yQ|apply yR|apply yS);(iterate 3 exact rfl);exact wcy _)|exact yaF|refine yaS ?_ ?_<;>intro _
 ·rename_i h;rw[ofT,if_pos h,ofB,decide_eq_true h];exact .ret rfl (zjg _ _)
 ·rename_i h h1;rw[ofT,if_neg h,if_pos h1,ofB,decide_eq_true h1,Bool.or_true];exact .ret rfl (zjg _ _)
 ·rename_i h h1;rw[ofT,if_neg h,if_neg h1,ofB,decide_eq_false h,decide_eq_false h1];exact .ret rfl (zjg _ _)
theorem jix(v w:Val):Pure Tryz.prog 358 [.agg (encV v),.agg (encV w)] (.c (.int .i64 (eq3 v w))):=by
 refine yaq [2,3] zgl λG=>?_
 cases hk:zc8 v w
 ·rw[eq3,hk];have hk2:=hk;simp only[zc8]at hk2;repeat' first|refine X ?_|((first|apply yQ|apply yR|apply yS);(iterate 3 exact rfl);exact wcy _)|((first|apply Go.pcallB|apply Go.spcallB|apply Qg.pcallB);(iterate 3 exact rfl);(first|exact wah v|exact wah w);intro _ _)|exact yaF|refine yaS ?_ ?_<;>intro _
  all_goals first
   |exact .ret rfl (.int rfl)
   |(exfalso;simp_all;done)
 ·rw[eq3,hk];have hk2:=hk;simp only[zc8,Bool.and_eq_true,Bool.not_eq_true',beq_eq_false_iff_ne]at hk2;obtain⟨k1,k2,k3,k4⟩:=hk2;have c1:=wah v;have c2:=wah w;rw[k1]at c1;rw[k2]at c2;repeat' first|refine X ?_|refine yaC (c1) ?_|refine yaC (c2) ?_|((first|apply yQ|apply yR|apply yS);(iterate 3 exact rfl);exact wcy _)|exact yaF|refine yaS ?_ ?_<;>intro _
  all_goals first
   |(refine .ret rfl (.int ?_);rw[jkr];rfl)
   |(exfalso;simp_all;done)
theorem wjg(v w:Val):Pure Tryz.prog 359 [.agg (encV v),.agg (encV w)] (.c (.int .i64 (je8 v w))):=by
 refine yaq [2,3] jhc λG=>?_
 cases hk:zc8 v w
 ·rw[je8,hk];have hk2:=hk;simp only[zc8]at hk2;repeat' first|refine X ?_|refine yaC (wf0 v w) ?_|((first|apply yQ|apply yR|apply yS);(iterate 3 exact rfl);exact wcy _)|((first|apply Go.pcallB|apply Go.spcallB|apply Qg.pcallB);(iterate 3 exact rfl);(first|exact wah v|exact wah w);intro _ _)|exact yaF|refine yaS ?_ ?_<;>intro _
  all_goals first
   |exact .ret rfl (.int rfl)
   |(exfalso;simp_all;done)
 ·rw[je8,hk];have hk2:=hk;simp only[zc8,Bool.and_eq_true,Bool.not_eq_true',beq_eq_false_iff_ne]at hk2;obtain⟨k1,k2,k3,k4⟩:=hk2;have c1:=wah v;have c2:=wah w;have c3:=wf0 v w;rw[zh0 k1 k2]at c3;rw[k1]at c1;rw[k2]at c2;repeat' first|refine X ?_|refine yaC (c1) ?_|refine yaC (c2) ?_|refine yaC (c3) ?_|((first|apply yQ|apply yR|apply yS);(iterate 3 exact rfl);exact wcy _)|exact yaF|refine yaS ?_ ?_<;>intro _
  all_goals first
   |exact .ret rfl (.int rfl)
   |(exfalso;simp_all;done)
theorem jeo(t:Int):Pure Tryz.prog 379 [.c (.int .i64 t)] (.c (.bool (tru t))):=by
 refine yaq [] jhd λG=>?_;repeat' first|refine X ?_|((first|apply yQ|apply yR|apply yS);(iterate 3 exact rfl);exact zav _ _ _)|exact yaF|refine yaS ?_ ?_<;>intro _
 exact .ret rfl (.bool rfl)
theorem zkb(a b:Int):Pure Tryz.prog 361 [.c (.int .i64 a),.c (.int .i64 b)] (.c (.int .i64 (and3 a b))):=by
 refine yaq [] jhz λG=>?_;repeat' first|refine X ?_|((first|apply Go.pcallB|apply Go.spcallB|apply Qg.pcallB);(iterate 3 exact rfl);(first|exact jeo a|exact jeo b);intro _ _)|exact yaF|refine yaS ?_ ?_<;>intro _
 all_goals refine .ret rfl (.int ?_)
 all_goals simp_all[and3]
theorem zk1(a b:Int):Pure Tryz.prog 362 [.c (.int .i64 a),.c (.int .i64 b)] (.c (.int .i64 (or3 a b))):=by
 refine yaq [] wiu λG=>?_;repeat' first|refine X ?_|((first|apply Go.pcallB|apply Go.spcallB|apply Qg.pcallB);(iterate 3 exact rfl);(first|exact jeo a|exact jeo b);intro _ _)|exact yaF|refine yaS ?_ ?_<;>intro _
 all_goals refine .ret rfl (.int ?_)
 all_goals simp_all[or3]
theorem jkb(a:Int):Pure Tryz.prog 318 [.c (.int .i64 a)] (.c (.int .i64 (not3 a))):=by
 refine yaq [] why λG=>?_;repeat' first|refine X ?_|exact yaF|refine yaS ?_ ?_<;>intro _
 all_goals refine .ret rfl (.int ?_)
 ·rename_i h;subst h;rfl
 ·rename_i h1 h;subst h;rfl
 ·rename_i h1 h2 h;subst h;rfl
 ·rename_i h1 h2 h3;have:tru a=false:=by
   cases ht:tru a
   ·rfl
   ·have:=waz.1 ht;omega
  rw[not3,this]
  rfl
theorem wij(a b:Val)(s:Int)(hs:s=1\/s=-1)(ha:zr a=true)(hb:zr b=true):Pure Tryz.prog 360 [.agg (encV a),.agg (encV b),.c (.int .i64 s)] (.tup [.agg (encV (sumV a b s).1),.c (.bool (sumV a b s).2)]):=by
 refine yaq [3,4] whc λG=>?_;by_cases h1:a.k=2\/b.k=2
 ·have e:sumV a b s=(zf,false):=by simp only[sumV,if_pos h1]
  rw[e];rcases h1 with h1|h1
  ·repeat' first|refine X ?_|exact yaF|refine yaS ?_ ?_<;>intro _
   all_goals first
    |exact .ret (jw rfl rfl rfl (yac _) rfl rfl) (z8 zf _)
    |(exfalso;omega)
  ·repeat' first|refine X ?_|exact yaF|refine yaS ?_ ?_<;>intro _
   all_goals first
    |exact .ret (jw rfl rfl rfl (yac _) rfl rfl) (z8 zf _)
    |(exfalso;omega)
 by_cases h2:a.k=0\/b.k=0
 ·have e:sumV a b s=(zf,true):=by simp only[sumV,if_neg h1,if_pos h2]
  rw[e];rcases h2 with h2|h2
  ·repeat' first|refine X ?_|exact yaF|refine yaS ?_ ?_<;>intro _
   all_goals first
    |exact .ret (jw rfl rfl rfl (yac _) rfl rfl) (z8 zf _)
    |(exfalso;omega)
  ·repeat' first|refine X ?_|exact yaF|refine yaS ?_ ?_<;>intro _
   all_goals first
    |exact .ret (jw rfl rfl rfl (yac _) rfl rfl) (z8 zf _)
    |(exfalso;omega)
 have e:sumV a b s=(vInt (a.n+s*b.n),zr (vInt (a.n+s*b.n))):=by simp only[sumV,if_neg h1,if_neg h2]
 have ka:a.k=1:=by have:=zcy ha;omega
 have kb:b.k=1:=by have:=zcy hb;omega
 have ra:=wca ha ka;have rb:=wca hb kb;have hw:IntKind.i64.wrap (a.n+IntKind.i64.wrap (s*b.n))=a.n+s*b.n:=by
  rcases hs with rfl|rfl
  ·rw[zk (n:=1*b.n) O O,zk O O]
  ·rw[zk (n:=-1*b.n) O O,zk O O]
 rw[e];repeat' first|refine X ?_|((first|apply yG|apply yH|apply yI);exact rfl;(first|exact zl rfl rfl rfl rfl rfl rfl gz))|((first|apply yQ|apply yR|apply yS);(iterate 3 exact rfl);exact jak _)|refine yaC (wah (vInt (IntKind.i64.wrap (a.n+IntKind.i64.wrap (s*b.n))))) ?_|exact yaF|refine yaS ?_ ?_<;>intro _
 all_goals first
  |(exfalso;omega)
  |skip
 rw[hw];exact .ret (jw rfl rfl rfl (yac _) rfl rfl) (z8 (vInt _) _)
def twoR(k:Int)(a b:Val):Val×Bool:=if k=3 then(asR (eq3 a b),true)else if k=4 then(asR (je8 a b),true)else if k=9 then sumV a b 1 else if k=10 then sumV a b (-1)
 else if ofB a&&ofB b then(asR (if k=5 then and3 (ofT a) (ofT b)else or3 (ofT a) (ofT b)),true)else(zf,false)
theorem wkb(k:Int)(a b:Val)(ha:zr a=true)(hb:zr b=true):Pure Tryz.prog 319 [.c (.int .i64 k),.agg (encV a),.agg (encV b)] (.tup [.agg (encV (twoR k a b).1),.c (.bool (twoR k a b).2)]):=by
 refine yaq [4,5] jha λG=>?_;repeat' first|refine X ?_|refine yaC (jix a b) ?_|refine yaC (wjg a b) ?_|((first|apply yQ|apply yR|apply yS);(iterate 3 exact rfl);exact jjg _)|refine yaC (wij a b 1 (.inl rfl) ha hb) ?_|refine yaC (wij a b (-1) (.inr rfl) ha hb) ?_|refine yaC (jgn a) ?_|refine yaC (jgn b) ?_|((first|apply yQ|apply yR|apply yS);(iterate 3 exact rfl);exact zkb _ _)|((first|apply yQ|apply yR|apply yS);(iterate 3 exact rfl);exact zk1 _ _)|exact yaF|refine yaS ?_ ?_<;>intro _
 ·rename_i h;rw[twoR,if_pos h];exact .ret (jw rfl rfl rfl (yac _) rfl rfl) (z8 _ _)
 ·rename_i h0 h;rw[twoR,if_neg h0,if_pos h];exact .ret (jw rfl rfl rfl (yac _) rfl rfl) (z8 _ _)
 ·rename_i h0 h1 h;rw[twoR,if_neg h0,if_neg h1,if_pos h];exact .ret (jw rfl rfl rfl (yac _) rfl rfl) (z8 _ _)
 ·rename_i h0 h1 h2 h;rw[twoR,if_neg h0,if_neg h1,if_neg h2,if_pos h];exact .ret (jw rfl rfl rfl (yac _) rfl rfl) (z8 _ _)
 ·rename_i h0 h1 h2 h3 h;have h:ofB a=false:=by simpa using h
  rw[twoR,if_neg h0,if_neg h1,if_neg h2,if_neg h3,h];exact .ret (jw rfl rfl rfl (yac _) rfl rfl) (z8 zf _)
 ·rename_i h0 h1 h2 h3 h4 h;have h:ofB b=false:=by simpa using h
  rw[twoR,if_neg h0,if_neg h1,if_neg h2,if_neg h3,h,ybj];exact .ret (jw rfl rfl rfl (yac _) rfl rfl) (z8 zf _)
 ·rename_i h0 h1 h2 h3 h4 h h5;have h4:ofB a=true:=by simpa using h4
  have h:ofB b=true:=by simpa using h
  rw[twoR,if_neg h0,if_neg h1,if_neg h2,if_neg h3,h4,h,if_pos h5];exact .ret (jw rfl rfl rfl (yac _) rfl rfl) (z8 _ _)
 ·rename_i h0 h1 h2 h3 h4 h h5;have h4:ofB a=true:=by simpa using h4
  have h:ofB b=true:=by simpa using h
  rw[twoR,if_neg h0,if_neg h1,if_neg h2,if_neg h3,h4,h,if_neg h5];exact .ret (jw rfl rfl rfl (yac _) rfl rfl) (z8 _ _)
theorem zd2{t:Int}(h0:0<=t):asV t=(asR t,true):=by
 simp only[asV,asR];split
 ·rfl
 ·rw[decide_eq_true h0]
theorem wcr{a:Val}(h:ofB a=true):waf a=ofT a/\0<=ofT a/\ofT a<=2:=by
 simp only[ofB,Bool.or_eq_true,decide_eq_true_eq]at h;simp only[waf,ofT];have:=wcq (a.n !=0);rcases h with h|h
 ·simp[h]
 ·have hn:¬a.k=0:=O;simp only[if_neg hn,if_pos h];refine⟨?_,this.1,O⟩;by_cases h0:a.n=0<;>simp[h0,yes]
theorem wgn{a:Val}(h:ofB a=false):waf a=-1:=by
 simp only[ofB,Bool.or_eq_false_iff,decide_eq_false_iff_not]at h;rw[waf,if_neg h.1,if_neg h.2]
theorem zkc{b:Int}(ha:0<=a/\a<=2)(hb:0<=b/\b<=2):0<=and3 a b:=by
 rw[and3,waz.2 ha,waz.2 hb];simp only[Bool.and_self,if_true];split
 ·omega
 ·split<;>omega
theorem jk1{b:Int}(ha:0<=a/\a<=2)(hb:0<=b/\b<=2):0<=or3 a b:=by
 rw[or3,waz.2 ha,waz.2 hb];simp only[Bool.and_self,if_true];split
 ·omega
 ·split<;>omega
theorem wk1(t:Tok)(a b:Val)(row:List Val)(hk:t.kind=3\/t.kind=4\/t.kind=5\/t.kind=6\/t.kind=9\/t.kind=10):(twoR t.kind a b).2=(wx t [a,b] row).2/\((wx t [a,b] row).2=true->twoR t.kind a b=wx t [a,b] row):=by
 have h5:∀f:Int->Int->Int,(f=and3\/f=or3)->(if ofB a&&ofB b then(asR (f (ofT a) (ofT b)),true)else(zf,false)).2=(asV (f (waf a) (waf b))).2/\((asV (f (waf a) (waf b))).2=true->(if ofB a&&ofB b then(asR (f (ofT a) (ofT b)),true)else(zf,false))=asV (f (waf a) (waf b))):=by
  intro f hf
  cases h1:ofB a
  ·have h3:asV (f (waf a) (waf b))=(vInt (-1),false):=by
    rw[wgn h1];rcases hf with rfl|rfl
    ·rw[and3,show tru (-1)=false from rfl];rfl
    ·rw[or3,show tru (-1)=false from rfl];rfl
   rw[h3];simp
  cases h2:ofB b
  ·have h3:asV (f (waf a) (waf b))=(vInt (-1),false):=by
    rw[wgn h2];rcases hf with rfl|rfl
    ·rw[and3,show tru (-1)=false from rfl,ybj];rfl
    ·rw[or3,show tru (-1)=false from rfl,ybj];rfl
   rw[h3];simp
  obtain⟨e1,r1⟩:=wcr h1;obtain⟨e2,r2⟩:=wcr h2;rw[e1,e2,zd2 (by
   rcases hf with rfl|rfl
   ·exact zkc r1 r2
   ·exact jk1 r1 r2)]
  simp
 rcases hk with h|h|h|h|h|h
 ·simp only[twoR,wx,vAt,h,List.getElem?_cons_zero,List.getElem?_cons_succ,Option.getD_some,Int.reduceEq,if_true,if_false,reduceIte];rw[zd2 (whd a b).1];simp
 ·simp only[twoR,wx,vAt,h,List.getElem?_cons_zero,List.getElem?_cons_succ,Option.getD_some,Int.reduceEq,if_true,if_false,reduceIte];rw[zd2 (we8 a b).1];simp
 ·simp only[twoR,wx,vAt,h,List.getElem?_cons_zero,List.getElem?_cons_succ,Option.getD_some,Int.reduceEq,if_true,if_false,reduceIte];exact h5 and3 (.inl rfl)
 ·simp only[twoR,wx,vAt,h,List.getElem?_cons_zero,List.getElem?_cons_succ,Option.getD_some,Int.reduceEq,if_true,if_false,reduceIte];exact h5 or3 (.inr rfl)
 ·simp only[twoR,wx,vAt,h,List.getElem?_cons_zero,List.getElem?_cons_succ,Option.getD_some,Int.reduceEq,if_true,if_false,reduceIte];simp
 ·simp only[twoR,wx,vAt,h,List.getElem?_cons_zero,List.getElem?_cons_succ,Option.getD_some,Int.reduceEq,if_true,if_false,reduceIte];simp
def jlf(k:IntKind)(lo hi:Int)(r:AV):Prop:=∃n:Int,lo<=n/\n<hi/\r=.c (.int k n)
theorem zu{k:IntKind}:∀y∈(AV.c (.int k z)).all,Old n y:=λy hy=>by
 simp only[AV.all,List.mem_singleton]at hy;subst hy;exact .int _ _
theorem zh4:∀y∈(AV.c (.bool b)).all,Old n y:=λy hy=>by
 simp only[AV.all,List.mem_singleton]at hy;subst hy;exact .bool _
theorem jkc{x:Opd}{b:UInt8}(hx:x.ev fr=some (.c (.fp (encB b)))):aop (.load false 1 x) fr G=some (.c (.int .u8 (b.toNat:Int)),G):=by
 simp[aop,hx,jb.at_,encB,wbw]
theorem zjh(b:UInt8):IntKind.i64.wrap (b.toNat:Int)=b.toNat:=by
 have:=b.toNat_lt;exact zk O O
theorem zgo:jal Tryz.prog 301 [] (jlf .i64 0 256):=by
 refine jal.run mixed zde gz λG id v code p hr hp hc hS=>?_;clear hS;by_cases hlt:p<code.length
 ·have h1:IntKind.i64.wrap ((p:Int)+1)=((p+1:Nat):Int):=by rw[zk O O];omega
  have h2:IntKind.i64.wrap (((p+1:Nat):Int)-1)=(p:Int):=by rw[zk O O];omega
  have hb:=(code[p]'hlt).toNat_lt;repeat' first|refine X ?_|((first|apply yG|apply yH|apply yI);exact rfl;(first|exact zja hr rfl|exact jja hr rfl|exact wja hr rfl rfl h1|exact yax encB h2 hlt|exact jkc rfl))|exact yaF|refine yaS ?_ ?_<;>intro _
  rw[zjh];exact .ret rfl (.c hlt ⟨_,O,O,rfl⟩ zu)
 ·repeat' first|refine X ?_|((first|apply yG|apply yH|apply yI);exact rfl;(first|exact zja hr rfl|exact jja hr rfl))|exact yaF|refine yaS ?_ ?_<;>intro _
  exact .ret rfl (.c hp ⟨0,O,O,rfl⟩ zu)
theorem jjh{n:Int}(ha:0<=a)(hn:1<n):0<=a.tmod n/\a.tmod n<n:=
 ⟨Int.tmod_nonneg n ha,Int.tmod_lt_of_pos a O⟩
def wjh(n:Int)(r:AV):Prop:=∃k:Int,0<=k/\(k<n\/(n<=1/\k=0))/\r=.c (.int .i64 k)
theorem jm(n:Int)(hn:n<=34359738368)(h0:-34359738368<=n):jal Tryz.prog 229 [.c (.int .i64 n)] (wjh n):=by
 refine jal.run mixed zc4 gz λG id v code p hr hp hc hS=>?_;clear hS;repeat' first|refine X ?_|exact yaF|refine yaS ?_ ?_<;>intro _
 ·rename_i h;exact .ret rfl (.c hp ⟨0,O,.inr ⟨h,rfl⟩,rfl⟩ zu)
 ·rename_i h h2;refine Go.drawn hr hp rfl rfl rfl zgo ?_;rintro _ q hq ⟨a,ha0,ha1,rfl⟩;have ht:=jjh ha0 (show 1<n by omega);have hne:n≠0:=O;repeat' first|refine X ?_|((first|apply yG|apply yH|apply yI);exact rfl;(first|exact zge rfl rfl hne))|exact yaF|refine yaS ?_ ?_<;>intro _
  exact .ret rfl (.c hq ⟨_,ht.1,.inl ht.2,rfl⟩ zu)
 ·rename_i h h2;refine Go.drawn hr hp rfl rfl rfl zgo ?_;rintro _ q hq ⟨a,ha0,ha1,rfl⟩;repeat' first|refine X ?_|exact yaF|refine yaS ?_ ?_<;>intro _
  refine Go.drawn hr hq rfl rfl rfl zgo ?_;rintro _ q2 hq2 ⟨b,hb0,hb1,rfl⟩;have h3:IntKind.i64.wrap (a*256)=a*256:=zk O O;have h4:IntKind.i64.wrap (IntKind.i64.wrap (a*256)+b)=a*256+b:=by rw[h3,zk O O]
  have ht:=jjh (a:=IntKind.i64.wrap (IntKind.i64.wrap (a*256)+b)) O (show 1<n by omega);have hne:n≠0:=O;repeat' first|refine X ?_|((first|apply yG|apply yH|apply yI);exact rfl;(first|exact zge rfl rfl hne))|exact yaF|refine yaS ?_ ?_<;>intro _
  exact .ret rfl (.c hq2 ⟨_,ht.1,.inl ht.2,rfl⟩ zu)
def Bit(r:AV):Prop:=∃b:Bool,r=.c (.bool b)
theorem z3(n:Int)(hn:n<=34359738368)(h0:-34359738368<=n):jal Tryz.prog 225 [.c (.int .i64 n)] Bit:=by
 refine jal.run mixed jdc gz λG id v code p hr hp hc hS=>?_;clear hS;repeat' first|refine X ?_|exact yaF|refine yaS ?_ ?_<;>intro _
 refine Go.drawn hr hp rfl rfl rfl (jm n hn h0) ?_;rintro _ q hq ⟨a,ha0,ha1,rfl⟩;repeat' first|refine X ?_|exact yaF|refine yaS ?_ ?_<;>intro _
 exact .ret rfl (.c hq ⟨_,rfl⟩ zh4)
theorem jdq:jal Tryz.prog 228 [] (jlf .i64 0 3):=by
 refine jal.run mixed zcn gz λG id v code p hr hp hc hS=>?_;clear hS;repeat' first|refine X ?_|exact yaF|refine yaS ?_ ?_<;>intro _
 refine Go.drawn hr hp rfl rfl rfl (jm 3 gb gb) ?_;rintro _ q hq ⟨a,ha0,ha1,rfl⟩;repeat' first|refine X ?_|exact yaF|refine yaS ?_ ?_<;>intro _
 exact .ret rfl (.c hq ⟨a,ha0,O,rfl⟩ zu)
theorem zk2:jal Tryz.prog 353 [] (λr=>∃n:Int,r=.c (.int .u64 n)):=by
 refine jal.run mixed wde gz λG id v code p hr hp hc hS=>?_;clear hS;repeat' first|refine X ?_|exact yaF|refine yaS ?_ ?_<;>intro _
 refine Go.keep [0,3,4] (Go.loops (I:=λm fr V=>∃(i:Nat) (k x:Int) (q:Nat),m=8-i/\i<=8/\k=i/\q<=code.length/\
  fr=[(0,.c (.ptr id v 0 0)),(3,.c (.int .u64 x)),(4,.c (.int .i64 k))]/\V=E (Rd.go G id v code q) []) ?_ _ _ _ ⟨0,_,_,p,rfl,yac _,rfl,hp,rfl,rfl⟩)
 rintro m fr V ⟨i,k,x,q,rfl,hi,hk,hq,rfl,rfl⟩ hrec;by_cases hlt:i<8
 ·repeat' first|refine X ?_|exact yaF|refine yaS ?_ ?_<;>intro _
  refine Go.drawn hr hq rfl rfl rfl zgo ?_;rintro _ q2 hq2 ⟨a,ha0,ha1,rfl⟩;repeat' first|refine X ?_|exact yaF|refine yaS ?_ ?_<;>intro _
  exact Go.keep [0,3,4] (hrec _ _ _ O ⟨i+1,_,_,q2,rfl,hlt,wb hk O,hq2,rfl,rfl⟩)
 ·repeat' first|refine X ?_|exact yaF|refine yaS ?_ ?_<;>intro _
  exact .ret rfl (.c hq ⟨x,rfl⟩ zu)
def AnyI(r:AV):Prop:=∃n:Int,r=.c (.int .i64 n)
theorem jk2(h0:1<=z)(h1:z<=34359738368):IntKind.u64.wrap z≠0:=by
 have:IntKind.u64.wrap z=z%18446744073709551616:=by simp[IntKind.wrap,IntKind.bits,IntKind.signed]
 omega
theorem wk2(lo hi:Int)(h0:-1073741824<=lo)(h1:lo<=1073741824)(h2:-1073741824<=hi)(h3:hi<=1073741824):jal Tryz.prog 302 [.c (.int .i64 lo),.c (.int .i64 hi)] AnyI:=by
 refine jal.run mixed jde gz λG id v code p hr hp hc hS=>?_;clear hS;repeat' first|refine X ?_|exact yaF|refine yaS ?_ ?_<;>intro _
 refine Go.drawn hr hp rfl rfl rfl (jm 8 gb gb) ?_;rintro _ q hq ⟨a,ha0,ha1,rfl⟩;repeat' first|refine X ?_|exact yaF|refine yaS ?_ ?_<;>intro _
 ·exact .ret rfl (.c hq ⟨_,rfl⟩ zu)
 ·exact .ret rfl (.c hq ⟨_,rfl⟩ zu)
 ·exact .ret rfl (.c hq ⟨_,rfl⟩ zu)
 ·rename_i h5 h6 h7;refine Go.drawn hr hq rfl rfl rfl zk2 ?_;rintro _ q2 hq2 ⟨w,rfl⟩;have e1:IntKind.i64.wrap (hi-lo)=hi-lo:=zk O O;have e2:IntKind.i64.wrap (IntKind.i64.wrap (hi-lo)+1)=hi-lo+1:=by rw[e1,zk O O]
  have hne:IntKind.u64.wrap (IntKind.i64.wrap (IntKind.i64.wrap (hi-lo)+1))≠0:=by rw[e2];exact jk2 O O
  repeat' first|refine X ?_|((first|apply yG|apply yH|apply yI);exact rfl;(first|exact zge rfl rfl hne))|exact yaF|refine yaS ?_ ?_<;>intro _
  exact .ret rfl (.c hq2 ⟨_,rfl⟩ zu)
theorem wkr(lo hi:Int)(h0:-1073741824<=lo)(h1:lo<=1073741824)(h2:-1073741824<=hi)(h3:hi<=1073741824):jal Tryz.prog 230 [.c (.int .i64 lo),.c (.int .i64 hi)] AnyI:=by
 refine jal.run mixed jdm gz λG id v code p hr hp hc hS=>?_;clear hS;repeat' first|refine X ?_|exact yaF|refine yaS ?_ ?_<;>intro _
 refine Go.drawn hr hp rfl rfl rfl (z3 24 gb gb) ?_;rintro _ q hq ⟨b,rfl⟩
 cases b
 ·repeat' first|refine X ?_|exact yaF|refine yaS ?_ ?_<;>intro _
  refine Go.drawn hr hq rfl rfl rfl (wk2 lo hi h0 h1 h2 h3) ?_;rintro _ q2 hq2 ⟨w,rfl⟩;repeat' first|refine X ?_|exact yaF|refine yaS ?_ ?_<;>intro _
  exact .ret rfl (.c hq2 ⟨_,rfl⟩ zu)
 ·repeat' first|refine X ?_|exact yaF|refine yaS ?_ ?_<;>intro _
  refine Go.drawn hr hq rfl rfl rfl (jm 4 gb gb) ?_;rintro _ q2 hq2 ⟨k,hk0,hk1,rfl⟩;obtain⟨m,hm⟩:∃m:Nat,k=m:=⟨k.toNat,O⟩;have hm4:m<4:=O;subst hm;have hz:m=0\/m=1\/m=2\/m=3:=O;rcases hz with rfl|rfl|rfl|rfl;all_goals repeat' first|refine X ?_|exact yaF|refine yaS ?_ ?_<;>intro _
  all_goals exact .ret rfl (.c hq2 ⟨_,rfl⟩ zu)
theorem wdq(x:List UInt8):Pure Tryz.prog 303 [.c (.str x)] (.agg (encV ⟨2,0,x⟩)):=by
 refine yaq [] wg7 λG=>?_;repeat' first|refine X ?_|exact yaF|refine yaS ?_ ?_<;>intro _
 exact .ret (zay rfl rfl rfl (yac _) rfl) (wj9 ⟨2,0,x⟩)
def tCol(c:Int):Tok:=⟨1,c,zf⟩
def zaq(v:Val):Tok:=⟨2,0,v⟩
theorem zji(t:Tok):Fin G (.agg (zi t)) (.agg (zi t)) (E G l):=
 ⟨l,rfl,.refl λy hy=>(jh0 t y hy).old _⟩
theorem zcz(c:Int):Pure Tryz.prog 226 [.c (.int .i64 c)] (.agg (zi (tCol c))):=by
 refine yaq [] jg6 λG=>?_;repeat' first|refine X ?_|exact yaF|refine yaS ?_ ?_<;>intro _
 exact .ret (zay rfl rfl rfl (yac _) rfl) (zji (tCol c))
theorem zaa(w:Val):Pure Tryz.prog 227 [.agg (encV w)] (.agg (zi (zaq w))):=by
 refine yaq [1] zfr λG=>?_;repeat' first|refine X ?_|exact yaF|refine yaS ?_ ?_<;>intro _
 exact .ret (zay rfl rfl rfl (yac _) rfl) (zji (zaq w))
def AnyV(r:AV):Prop:=∃w:Val,w.s.length<=12/\r=.agg (encV w)
theorem wlk(w:Val):∀y∈(AV.agg (encV w)).all,Old n y:=λy hy=>(je9 w y hy).old _
variable {st:List Val}
theorem zk3(h:1<=st.length):st.drop (st.length-1)=[st[st.length-1]]:=by
 rw[yab O,yad O]
theorem zll(h:2<=st.length):st.drop (st.length-2)=[st[st.length-2],st[st.length-1]]:=by
 rw[yab O,show st.length-2+1=st.length-1 by omega,zk3 O]
theorem wbm{k v N:Nat}{ys:List Val}{junk:List (List Ce)}(hl:l[k]?=some (v,ys.map encV++junk))(hN:N<=G.next+k):FrzV (E G l) N (.c (vec (G.next+k) v (ys.map encV) junk)) (.c (.fz (ys.map encV))):=
 wbt (n:=0) hl jc5 (yac _) hN
theorem wfa(e:List Tok)(row:List Val)(hx:e.length<=24)(hrl:row.length<=16)(hok:Oks row)(hea:wy row.length 0 e=true):Pure Tryz.prog 254 [.c (.fz (e.map zi)),.c (.fz (row.map encV))] (.tup [.agg (encV (jaz e row).1),.c (.bool (jaz e row).2)]):=by
 refine yap [102] jgi λG hS hA=>?_;clear hA;repeat' first|refine X ?_|exact yaF|refine yaS ?_ ?_<;>intro _
 refine Go.freezeN (l:=[(0,[[.int .i64 0,.int .i64 0,.str []]])]) (m:=[(0,[])]) (fr':=[(0,.c (.fz (e.map zi))),(1,.c (.fz (row.map encV))),(4,.c (.ptr (G.next+0) 0 0 0)),(6,.c (.fz (([]:List Val).map encV))),(7,.c (.int .i64 0))])
  hS (λb hb e he x hx=>?_) (yaf _) (.frz rfl (.refl wd1) (.frz rfl (.refl z0) (.frz rfl (.refl (z4 gx)) (.frz rfl (wbm (G:=G) (l:=[(0,[[.int .i64 0,.int .i64 0,.str []]]),(0,[])]) (k:=1) (v:=0) (ys:=[]) (junk:=[]) rfl (yaf _)) (.frz rfl (.refl jt) .nil))))) ?_
 ·rw[List.mem_singleton.1 hb]at he;exact(jc5 (l:=[zf]) e he x hx).old _
 refine Go.loops (I:=λm fr V=>∃(i:Nat) (k:Int) (st:List Val),m=e.length-i/\i<=e.length/\k=i/\(st.length<=i/\Oks st/\wy row.length st.length (e.drop i)=true/\wfv row e []=wfv row (e.drop i) st)/\
  fr=[(0,.c (.fz (e.map zi))),(1,.c (.fz (row.map encV))),(4,.c (.ptr (G.next+0) 0 0 0)),(6,.c (.fz (st.map encV))),(7,.c (.int .i64 k))]/\
   V=E G [(0,[[.int .i64 0,.int .i64 0,.str []]])]) ?_ _ _ _ ⟨0,_,[],rfl,Nat.zero_le _,rfl,⟨Nat.zero_le _,λv hv=>(by simp at hv),hea,rfl⟩,rfl,rfl⟩
 rintro m fr V ⟨i,k,st,rfl,hi,hk,⟨hsl,hst,haux,hev⟩,rfl,rfl⟩ hrec;clear hea;by_cases hlt:i<e.length
 ·rw[yab hlt]at haux hev;obtain⟨htk,hle,haux⟩:=jcr haux;have htr:=ja8 e[i];have hkd:=zfa htk;have hcol:=zhe htk;have hft:zak e[i] st=st.length-(wg e[i]).toNat:=rfl;have hres:=ze9 (jdf htk) (hst.drop (zak e[i] st)) hok;rw[wfv]at hev;have hsl1:st.length<=24:=O;obtain⟨ap,hap⟩:∃ap,wx e[i] (st.drop (zak e[i] st)) row=ap:=⟨_,rfl⟩;rw[hap]at hres hev;repeat' first|apply Go.seq|apply Go.skip|apply Go.region|apply Go.nil|apply Go.blk|apply Go.draw|apply Go.segs|(apply Go.exit;exact rfl)|(apply Go.cond true;exact rfl)|(apply Go.cond false;exact rfl)|apply yB|apply yC|((first|apply yG|apply yH|apply yI);exact rfl;(first|exact yJ|exact yK rfl rfl|exact yL rfl|exact yM rfl|exact rfl|exact aL rfl rfl rfl rfl rfl|exact aS rfl rfl rfl rfl rfl rfl rfl))|((first|apply yN|apply yO|apply yP);exact rfl)|exact yaF|(((first|apply yT|apply yU|apply yV|apply yW);exact rfl;(first|exact .d|exact .e|exact .n|((fail_if_success exact bqt);(fail_if_success exact bqf);exact .b)))<;>intro _)
  apply Go.block;repeat' first|apply Go.seq|apply Go.skip|apply Go.region|apply Go.nil|apply Go.blk|apply Go.draw|apply Go.segs|(apply Go.exit;exact rfl)|(apply Go.cond true;exact rfl)|(apply Go.cond false;exact rfl)|apply yB|apply yC|((first|apply yG|apply yH|apply yI);exact rfl;(first|exact yJ|exact yK rfl rfl|exact yL rfl|exact yM rfl|exact rfl|exact aL rfl rfl rfl rfl rfl|exact aS rfl rfl rfl rfl rfl rfl rfl|exact yax zi hk hlt))|((first|apply yN|apply yO|apply yP);exact rfl)|exact yaF|(((first|apply yT|apply yU|apply yV|apply yW);exact rfl;(first|exact .d|exact .e|exact .n|((fail_if_success exact bqt);(fail_if_success exact bqf);exact .b)))<;>intro _)
  apply Go.block
  refine Go.join (K':=[_]) (λfr V=>∃(av:Val) (ab:Bool),ab=ap.2/\(ab=true->av=ap.1)/\
   fr=[(0,.c (.fz (e.map zi))),(1,.c (.fz (row.map encV))),(4,.c (.ptr (G.next+0) 0 0 0)),(6,.c (.fz (st.map encV))),(7,.c (.int .i64 k)),(8,.c (.int .i64 (st.length:Int))),(9,.c (.ptr (G.next+1) 0 0 0)),(10,.c (.bool ab)),(11,.c (.int .i64 (wg e[i])))]/\
   V=E G [(0,[[.int .i64 0,.int .i64 0,.str []]]),(0,[encV av])]) ?_ ?_
  ·rintro fr V ⟨av,ab,hab,hav,rfl,rfl⟩
   cases ab
   ·rw[<-hab,if_neg yah]at hev;have hR:jaz e row=(zf,false):=by rw[jaz,hev]
    rw[hR];repeat' first|refine X ?_|exact yaF|refine yaS ?_ ?_<;>intro _
    exact .ret (jw rfl rfl rfl (yac _) rfl rfl) (z8 zf _)
   obtain rfl:=hav rfl;rw[<-hab,if_pos rfl]at hev;have hn:zak e[i] st<=(st.map encV).length:=by rw[yae,hft];omega
   have hz:IntKind.i64.wrap ((st.length:Int)-wg e[i])=(zak e[i] st:Int):=by rw[zk O O,hft];omega
   have hres:=hres hab.symm;have hl1:((st.take (zak e[i] st)).length:Int)=st.length-wg e[i]:=by rw[yat,hft];omega
   generalize zak e[i] st=n at hn hz hl1 hev;repeat' first|apply Go.seq|apply Go.skip|apply Go.region|apply Go.nil|apply Go.block|apply Go.blk|apply Go.segs|(apply Go.exit;exact rfl)|(apply Go.cond true;exact rfl)|(apply Go.cond false;exact rfl)|apply yB|apply yC|((first|apply yD|apply yE);(first|exact yF|assumption);iterate 6 exact rfl)|((first|apply yG|apply yH|apply yI);exact rfl;(first|exact yJ|exact yK rfl rfl|exact yL rfl|exact yM rfl|exact rfl|exact aL rfl rfl rfl rfl rfl|exact aS rfl rfl rfl rfl rfl rfl rfl))|((first|apply yN|apply yO|apply yP);exact rfl)|exact yaF|(((first|apply yT|apply yU|apply yV|apply yW);exact rfl;(first|exact .d|exact .e|exact .n|((fail_if_success exact bqt);(fail_if_success exact bqf);exact .b)))<;>intro _)
   apply Go.draw;refine Go.qkm [(0,[[.int .i64 0,.int .i64 0,.str []]]),(0,[encV ap.1])] [] ?_;repeat' first|(apply Qk.nil;show Go _ _ _ _ _ _ _ _)|(apply Qk.op;exact rfl;(first|(rintro _ ⟨_,rfl⟩;exact rfl)|(rintro _ ⟨_,rfl⟩;exact zaj rfl rfl rfl (yam rfl) rfl)|(rintro _ ⟨_,rfl⟩;exact waw (s:=3) rfl rfl hz hn lens)))|(apply Qk.no;exact rfl)|(apply Qk.wop;exact rfl;exact rfl;(first|exact yJ|exact yL rfl|exact zl rfl rfl rfl rfl rfl rfl (yam rfl));exact⟨_,rfl⟩)
   have hb1:(([]:List (List Ce)).length+((st.map encV).take n).length)*32<=140737488355328:=by rw[yat,yae,List.length_nil];omega
   refine Qk.app (k:=2) (v:=0) (ys:=[]) (junk:=[]) (zs:=(st.map encV).take n) rfl rfl rfl rfl rfl (λe he=>(by simp at he)) Jk.nil (λe he=>lens e (List.mem_of_mem_take he)) hb1 (λz=>⟨[z],rfl⟩) λv1 j1 hj1=>?_;repeat' first|(apply Qk.nil;show Go _ _ _ _ _ _ _ _)|(apply Qk.op;exact rfl;(first|(rintro _ ⟨_,rfl⟩;exact rfl)|(rintro _ ⟨_,rfl⟩;exact zaj rfl rfl rfl (yam rfl) rfl)))|(apply Qk.no;exact rfl)|(apply Qk.wop;exact rfl;exact rfl;(first|exact yJ|exact yL rfl|exact zl rfl rfl rfl rfl rfl rfl (yam rfl));exact⟨_,rfl⟩)
   have hb2:((([]:List (List Ce))++(st.map encV).take n).length+1)*32<=140737488355328:=by rw[ybl,yat,yae];omega
   refine Go.sapp1 (k:=2) (z:=encV ap.1) rfl rfl rfl rfl rfl (λe he=>lens e (List.mem_of_mem_take he)) hj1 rfl hb2 λv' junk' hj'=>?_;repeat' first|refine X ?_|exact yaF|refine yaS ?_ ?_<;>intro _
   have e1:[]++(st.map encV).take n++[encV ap.1]=(st.take n++[ap.1]).map encV:=gx;rw[e1]
   refine Go.freezeN (l:=[(0,[[.int .i64 0,.int .i64 0,.str []]])]) (m:=[(0,[encV ap.1]),(v',(st.take n++[ap.1]).map encV++junk')])
    (fr':=[(0,.c (.fz (e.map zi))),(1,.c (.fz (row.map encV))),(4,.c (.ptr (G.next+0) 0 0 0)),(6,.c (.fz ((st.take n++[ap.1]).map encV))),(7,.c (.int .i64 (IntKind.i64.wrap (k+1))))])
    hS (λb hb e he x hx=>?_) (yaf _) (.frz rfl (.refl wd1) (.frz rfl (.refl z0) (.frz rfl (.refl (z4 gx)) (.frz rfl (wbm (G:=G) (l:=[(0,[[.int .i64 0,.int .i64 0,.str []]]),(0,[encV ap.1]),(v',(st.take n++[ap.1]).map encV++junk')]) (k:=2) (v:=v') (ys:=st.take n++[ap.1]) (junk:=junk') rfl (ybh _)) (.frz rfl (.refl jt) .nil))))) ?_
   ·rw[List.mem_singleton.1 hb]at he;exact(jc5 (l:=[zf]) e he x hx).old _
   refine hrec _ _ _ O ⟨i+1,_,st.take n++[ap.1],rfl,hlt,wb hk O,⟨?_,(hst.take n).snoc hres, ?_,hev⟩,rfl,rfl⟩
   ·simp only[List.length_append,List.length_take,List.length_singleton];omega
   ·have e2:((st.take n++[ap.1]).length:Int)=st.length+1-wg e[i]:=by
     simp only[List.length_append,List.length_singleton];omega
    rw[e2];exact haux
  intro hj;rw[List.singleton_append];by_cases h1:e[i].kind=1
  ·have htk0:wg e[i]=0:=by rw[wg,if_pos (.inl h1)]
   have hc2:=hcol h1;have hcz:e[i].col=(e[i].col.toNat:Int):=O;have hcl:e[i].col.toNat<row.length:=O;have hape:ap=(row[e[i].col.toNat],true):=by rw[<-hap,wx,if_pos h1,vAt,yag hcl];rfl
   rw[htk0]at hj;repeat' first|apply Go.seq|apply Go.skip|apply Go.region|apply Go.nil|apply Go.block|apply Go.draw|apply Go.segs|(apply Go.exit;exact rfl)|(apply Go.cond true;exact rfl)|(apply Go.cond false;exact rfl)|apply yB|apply yC|((first|apply yG|apply yH|apply yI);exact rfl;(first|exact yJ|exact yK rfl rfl|exact yL rfl|exact yM rfl|exact rfl|exact aL rfl rfl rfl rfl rfl|exact aS rfl rfl rfl rfl rfl rfl rfl|exact yax zi hk hlt|exact yax encV hcz hcl))|((first|apply yN|apply yO|apply yP);exact rfl)|exact yaF|(((first|apply yT|apply yU|apply yV|apply yW);exact rfl;(first|exact .d|exact .e|exact .n|((fail_if_success exact bqt);(fail_if_success exact bqf);exact .b)))<;>intro _)
   exact Go.keep [0,1,4,6,7,8,9,10,11] (hj _ _ ⟨row[e[i].col.toNat],true,by rw[hape],λ_=>by rw[hape],rfl,rfl⟩)
  by_cases h2:e[i].kind=2
  ·have htk0:wg e[i]=0:=by rw[wg,if_pos (.inr h2)]
   have hape:ap=(e[i].v,true):=by rw[<-hap,wx,if_neg h1,if_pos h2]
   rw[htk0]at hj;repeat' first|apply Go.seq|apply Go.skip|apply Go.region|apply Go.nil|apply Go.block|apply Go.draw|apply Go.segs|(apply Go.exit;exact rfl)|(apply Go.cond true;exact rfl)|(apply Go.cond false;exact rfl)|apply yB|apply yC|((first|apply yG|apply yH|apply yI);exact rfl;(first|exact yJ|exact yK rfl rfl|exact yL rfl|exact yM rfl|exact rfl|exact aL rfl rfl rfl rfl rfl|exact aS rfl rfl rfl rfl rfl rfl rfl|exact yax zi hk hlt))|((first|apply yN|apply yO|apply yP);exact rfl)|exact yaF|(((first|apply yT|apply yU|apply yV|apply yW);exact rfl;(first|exact .d|exact .e|exact .n|((fail_if_success exact bqt);(fail_if_success exact bqf);exact .b)))<;>intro _)
   exact Go.keep [0,1,4,6,7,8,9,10,11] (hj _ _ ⟨e[i].v,true,by rw[hape],λ_=>by rw[hape],rfl,rfl⟩)
  have hn12:¬(e[i].kind=1\/e[i].kind=2):=O;by_cases h8:e[i].kind=8
  ·have htk0:wg e[i]=1:=by rw[wg,if_neg hn12,if_pos (.inr h8)]
   have hz1:IntKind.i64.wrap ((st.length:Int)-1)=((st.length-1:Nat):Int):=by rw[zk O O];omega
   have hl1:st.length-1<st.length:=O;have hf:zak e[i] st=st.length-1:=by rw[hft,htk0];rfl
   have hyr:=wcq (st[st.length-1].k==0);have hape:ap=(asR (yes (st[st.length-1].k==0)),true):=by
    rw[<-hap,hf,zk3 O,<-zd2 hyr.1];simp[wx,h8,vAt]
   have hv:asR (yes (st[st.length-1].k==0))=vInt (yes (st[st.length-1].k==0)):=by rw[asR,if_neg O]
   rw[htk0]at hj;repeat' first|apply Go.seq|apply Go.skip|apply Go.region|apply Go.nil|apply Go.block|apply Go.draw|apply Go.segs|(apply Go.exit;exact rfl)|(apply Go.cond true;exact rfl)|(apply Go.cond false;exact rfl)|apply yB|apply yC|((first|apply yG|apply yH|apply yI);exact rfl;(first|exact yJ|exact yK rfl rfl|exact yL rfl|exact yM rfl|exact rfl|exact aL rfl rfl rfl rfl rfl|exact aS rfl rfl rfl rfl rfl rfl rfl|exact yax zi hk hlt|exact yax encV hz1 hl1))|((first|apply yN|apply yO|apply yP);exact rfl)|((first|apply yQ|apply yR|apply yS);(iterate 3 exact rfl);(first|exact wcy _|exact jak _))|exact yaF|(((first|apply yT|apply yU|apply yV|apply yW);exact rfl;(first|exact .d|exact .e|exact .n|((fail_if_success exact bqt);(fail_if_success exact bqf);exact .b)))<;>intro _)
   exact Go.keep [0,1,4,6,7,8,9,10,11] (hj _ _ ⟨vInt (yes (st[st.length-1].k==0)),true,by rw[hape],λ_=>by rw[hape,hv],rfl,rfl⟩)
  by_cases h7:e[i].kind=7
  ·have htk0:wg e[i]=1:=by rw[wg,if_neg hn12,if_pos (.inl h7)]
   have hz1:IntKind.i64.wrap ((st.length:Int)-1)=((st.length-1:Nat):Int):=by rw[zk O O];omega
   have hl1:st.length-1<st.length:=O;have hf:zak e[i] st=st.length-1:=by rw[hft,htk0];rfl
   have hape:ap=asV (not3 (waf st[st.length-1])):=by
    rw[<-hap,hf,zk3 O];simp[wx,h7,vAt]
   rw[htk0]at hj;repeat' first|apply Go.seq|apply Go.skip|apply Go.region|apply Go.nil|apply Go.block|apply Go.draw|apply Go.segs|(apply Go.exit;exact rfl)|(apply Go.cond true;exact rfl)|(apply Go.cond false;exact rfl)|apply yB|apply yC|((first|apply yG|apply yH|apply yI);exact rfl;(first|exact yJ|exact yK rfl rfl|exact yL rfl|exact yM rfl|exact rfl|exact aL rfl rfl rfl rfl rfl|exact aS rfl rfl rfl rfl rfl rfl rfl|exact yax zi hk hlt|exact yax encV hz1 hl1))|((first|apply yN|apply yO|apply yP);exact rfl)|((first|apply yQ|apply yR|apply yS);(iterate 3 exact rfl);(first|exact jgn st[st.length-1]|exact jkb _|exact jjg _))|exact yaF|(((first|apply yT|apply yU|apply yV|apply yW);exact rfl;(first|exact .d|exact .e|exact .n|((fail_if_success exact bqt);(fail_if_success exact bqf);exact .b)))<;>intro _)
   refine Go.keep [0,1,4,6,7,8,9,10,11] (hj _ _ ⟨asR (not3 (ofT st[st.length-1])),ofB st[st.length-1], ?_, ?_,rfl,rfl⟩)
   ·rw[hape]
    cases hb:ofB st[st.length-1]
    ·rw[wgn hb];rfl
    ·obtain⟨q1,q2⟩:=wcr hb;rw[q1,zd2];rw[not3,waz.2 q2,if_pos rfl];split<;>omega
   ·intro hb;obtain⟨q1,q2⟩:=wcr hb;rw[hape,q1,zd2];rw[not3,waz.2 q2,if_pos rfl];split<;>omega
  have htk0:wg e[i]=2:=by rw[wg,if_neg hn12,if_neg O]
  have hz1:IntKind.i64.wrap ((st.length:Int)-1)=((st.length-1:Nat):Int):=by rw[zk O O];omega
  have hz2:IntKind.i64.wrap ((st.length:Int)-2)=((st.length-2:Nat):Int):=by rw[zk O O];omega
  have hl1:st.length-1<st.length:=O;have hl2:st.length-2<st.length:=O;have hf:zak e[i] st=st.length-2:=by rw[hft,htk0];rfl
  obtain⟨hw1,hw2⟩:=wk1 e[i] st[st.length-2] st[st.length-1] row O;have hap2:wx e[i] [st[st.length-2],st[st.length-1]] row=ap:=by rw[<-hap,hf,zll O]
  rw[hap2]at hw1 hw2;have ctwo:=wkb e[i].kind st[st.length-2] st[st.length-1] (hst _ (yaa _)) (hst _ (yaa _));generalize twoR e[i].kind st[st.length-2] st[st.length-1]=tw at ctwo hw1 hw2;rw[htk0]at hj;repeat' first|apply Go.seq|apply Go.skip|apply Go.region|apply Go.nil|apply Go.block|apply Go.segs|(apply Go.exit;exact rfl)|(apply Go.cond true;exact rfl)|(apply Go.cond false;exact rfl)|apply yB|apply yC|((first|apply yG|apply yH|apply yI);exact rfl;(first|exact yJ|exact yK rfl rfl|exact yL rfl|exact yM rfl|exact rfl|exact aL rfl rfl rfl rfl rfl|exact aS rfl rfl rfl rfl rfl rfl rfl|exact yax zi hk hlt))|((first|apply yN|apply yO|apply yP);exact rfl)|exact yaF|(((first|apply yT|apply yU|apply yV|apply yW);exact rfl;(first|exact .d|exact .e|exact .n|((fail_if_success exact bqt);(fail_if_success exact bqf);exact .b)))<;>intro _)
  apply Go.draw;apply Go.qs;repeat' first|(apply yA;exact rfl)|apply yC|((first|apply yD|apply yE);(first|exact yF|assumption);iterate 6 exact rfl)|((first|apply yG|apply yH|apply yI);exact rfl;(first|exact yJ|exact yK rfl rfl|exact yL rfl|exact yM rfl|exact rfl|exact aL rfl rfl rfl rfl rfl|exact aS rfl rfl rfl rfl rfl rfl rfl|exact yax zi hk hlt|exact yax encV hz2 hl2|exact yax encV hz1 hl1|exact zaj rfl rfl rfl (yam rfl) rfl))|((first|apply yN|apply yO|apply yP);exact rfl)|((first|apply yQ|apply yR|apply yS);(iterate 3 exact rfl);exact ctwo)|exact yaF|(((first|apply yT|apply yU|apply yV|apply yW);exact rfl;(first|exact .d|exact .e|exact .n|((fail_if_success exact bqt);(fail_if_success exact bqf);exact .b)))<;>intro _)
  refine Go.qkm [(0,[[.int .i64 0,.int .i64 0,.str []]])] [(0,[encV zf])] ?_;repeat' first|(apply Qk.nil;show Go _ _ _ _ _ _ _ _)|(apply Qk.op;exact rfl;(first|(rintro _ ⟨_,rfl⟩;exact rfl)|(rintro _ ⟨_,rfl⟩;exact zaj rfl rfl rfl (yam rfl) rfl)))|(apply Qk.no;exact rfl)|(apply Qk.wop;exact rfl;exact rfl;(first|exact yJ|exact yL rfl|exact zl rfl rfl rfl rfl rfl rfl (yam rfl));exact⟨_,rfl⟩)
  repeat' first|apply Go.seq|apply Go.skip|apply Go.region|apply Go.nil|apply Go.block|apply Go.draw|apply Go.segs|(apply Go.exit;exact rfl)|(apply Go.cond true;exact rfl)|(apply Go.cond false;exact rfl)|apply yB|apply yC|((first|apply yG|apply yH|apply yI);exact rfl;(first|exact yJ|exact yK rfl rfl|exact yL rfl|exact yM rfl|exact rfl|exact aL rfl rfl rfl rfl rfl|exact aS rfl rfl rfl rfl rfl rfl rfl))|((first|apply yN|apply yO|apply yP);exact rfl)|exact yaF|(((first|apply yT|apply yU|apply yV|apply yW);exact rfl;(first|exact .d|exact .e|exact .n|((fail_if_success exact bqt);(fail_if_success exact bqf);exact .b)))<;>intro _)
  exact Go.keep [0,1,4,6,7,8,9,10,11] (hj _ _ ⟨tw.1,tw.2,hw1,λh=>by rw[hw2 (by rw[<-hw1];exact h)],rfl,rfl⟩)
 ·have hd:e.drop i=[]:=yad O;rw[hd]at haux hev;simp only[wy,beq_iff_eq]at haux;obtain⟨w,rfl⟩:∃w,st=[w]:=List.length_eq_one_iff.1 O;have hR:jaz e row=(w,true):=by rw[jaz,hev];rfl
  rw[hR];repeat' first|refine X ?_|exact yaF|refine yaS ?_ ?_<;>intro _
  exact .ret (jw rfl rfl rfl (yac _) rfl rfl) (z8 w _)
theorem jd2(e:List Tok)(row:List Val)(hv:zq row 16=true)(he:jao e row.length=true):Pure Tryz.prog 161 [.c (.fz (e.map zi)),.c (.fz (row.map encV))] (.c (.int .i64 (jcq e row))):=by
 refine yaq [] wfp λG=>?_;obtain⟨hok,hrl⟩:=jfa hv;obtain⟨hel,hea⟩:=wbb he;have c1:=wfa e row O O hok hea;have c2:=jgn (jaz e row).1;rw[jcq];generalize jaz e row=q at c1 c2⊢;obtain⟨v,b⟩:=q;simp only at c1 c2⊢
 cases hb:ofB v
 ·rw[hb]at c2;have h1:=wgn hb
  cases b
  ·repeat' first|refine X ?_|refine yaC (c1) ?_|refine yaC (c2) ?_|exact yaF|refine yaS ?_ ?_<;>intro _
   exact .ret rfl (.int rfl)
  ·repeat' first|refine X ?_|refine yaC (c1) ?_|refine yaC (c2) ?_|exact yaF|refine yaS ?_ ?_<;>intro _
   exact .ret rfl (.int (by rw[if_pos rfl,h1]))
 ·rw[hb]at c2;have h1:=(wcr hb).1
  cases b
  ·repeat' first|refine X ?_|refine yaC (c1) ?_|refine yaC (c2) ?_|exact yaF|refine yaS ?_ ?_<;>intro _
   exact .ret rfl (.int rfl)
  ·repeat' first|refine X ?_|refine yaC (c1) ?_|refine yaC (c2) ?_|exact yaF|refine yaS ?_ ?_<;>intro _
   exact .ret rfl (.int (by rw[if_pos rfl,h1]))
end Go.Proofs.YtedaadaaibofaaaGreat.Am
