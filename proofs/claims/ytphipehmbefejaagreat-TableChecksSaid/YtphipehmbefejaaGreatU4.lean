/- A part of a proof that a given statement (the one of this claim: the name of its theorem ends in _holds) is true of the program, with no condition ahead of it. Printed by wip/dev/pack2.py out of the texts in wip. -/
import Derived.Test.YtphipehmbefejaaGreatU3
set_option linter.unusedVariables false
set_option linter.unusedSimpArgs false
namespace Go.Proofs.YtphipehmbefejaaGreat.Rf
open Go
noncomputable section
def FN(v1:Nat)(v2:T27):T13:=bif decide (400<(v2.1.length:Int))then some ((6,()),())else aA (λ(v3:T9)=>λv4=>bif decide (v3.2.2.1<(v2.1.length:Int))then if 0<=v3.2.2.1 then(match v2.1[(v3.2.2.1).toNat]? with|some v5=>ah (vS v1 (v5.1,())) (λ(v6:T7)=>aq (λ(v7:T5)=>bif v7.2.1 then some ((5,()),())else v4 ((),IntKind.wrap .i64 (v3.2.1+(IntKind.wrap .i64 (1-v6.1.1))),IntKind.wrap .i64 (v3.2.2.1+1),())) (λv8=>bif decide (v6.1.1<0)then v8 ((),true,())else bif decide (v3.2.1<v6.1.1)then v8 ((),true,())else ah (pL v1 (v5.2,())) (λ(v9:T8)=>v8 ((),(decide (v5.1=1)) == v9.1.1,()))))|none=>none)else none else bif !(decide (v3.2.1=1))then some ((5,()),())else some ((0,()),())) v1 ((),0,0,())
def F111(n:Nat):Fb 111:=fb n [⟨_,F176 n⟩,⟨_,F177 n⟩] [] [] [] Tryz.func111 Tryz.results111 Tryz.ntmps111 (.seq .nop (.seq .nop (.seq .nop (.seq (.seq .nop (.block none (.loop ⟨[],[.val 3 y2,.val 12 y2],[10,11]⟩ (.seq .nop (.seq .nop (.seq (.block none (.seq (.reg none [5]) (.seq .nop (.seq (.seq (.reg (some ⟨[],[.val 34 y4],[3,6,10,11,12]⟩) []) .nop) .nop)))) .nop)))))) .nop)))) [(nw,.ro)] A17 [] [] (FN n)
def C1(v1:Nat)(v2:T67):Option ((Int×Unit)×(Int×(List (Int×Int×(List Int)×Bool))×Int×Int)×Unit):=some ((IntKind.wrap .i64 ((IntKind.wrap .i64 (v2.1.1+1))-1),()),(IntKind.wrap .i64 (v2.1.1+1),v2.1.2),())
def F221(n:Nat):Fb 221:=fb n [] [] [] [] Tryz.func221 Tryz.results221 Tryz.ntmps221 (.nop) A0 A17 [0] A0 (C1 n)
def FO(v1:Nat)(v2:T67):Option (((Int×Int)×Unit)×(Int×(List (Int×Int×(List Int)×Bool))×Int×Int)×Unit):=ah (C1 v1 (v2.1,())) (λ(v3:T76)=>ah (C1 v1 (v3.2.1,())) (λ(v4:T76)=>some (((v3.1.1,v4.1.1),()),v4.2.1,())))
def F178(n:Nat):Fb 178:=fb n [⟨_,F221 n⟩] [] [] [] Tryz.func178 Tryz.results178 Tryz.ntmps178 (.seq .nop (.seq .nop (.seq (.reg none [2]) .nop))) A0 [(y57,.ro)] [0] A0 (FO n)
def oT(v1:Nat)(v2:((Int×(List (Int×Int×(List Int)×Bool))×Int×Int)×Int×Int×Unit)):Option (Unit×(Int×(List (Int×Int×(List Int)×Bool))×Int×Int)×Unit):=if(List.length v2.1.2.1+List.length ([(v2.2.1,v2.2.2.1,([0,0,0,0]:List Int),true)]:List (Int×Int×(List Int)×Bool)))*56<=140737488355328 then if List.length v2.1.2.1+List.length ([(v2.2.1,v2.2.2.1,([0,0,0,0]:List Int),true)]:List (Int×Int×(List Int)×Bool))<=9223372036854775807 then some ((),(v2.1.1,v2.1.2.1++([(v2.2.1,v2.2.2.1,([0,0,0,0]:List Int),true)]:List (Int×Int×(List Int)×Bool)),v2.1.2.2),())else none else none
def F179(n:Nat):Fb 179:=fb n [] [] [] [] Tryz.func179 Tryz.results179 Tryz.ntmps179 (.nop) [(.box pK,.own (.pr .ro (.pr (.own .ro) (.pr .ro .ro)))),(y2,.ro),(y2,.ro)] [] [0] A0 (oT n)
def nx(v1:Nat)(v2:((Int×(List (Int×Int×(List Int)×Bool))×Int×Int)×(Int×(List Int))×(List (Int×Int))×Unit)):Option (((List (Int×Int))×Unit)×(Int×(List (Int×Int×(List Int)×Bool))×Int×Int)×Unit):=ah (FO v1 (v2.1,())) (λ(v3:(((Int×Int)×Unit)×(Int×(List (Int×Int×(List Int)×Bool))×Int×Int)×Unit))=>aq (λ(v4:T84)=>ah (vS v1 (v2.2.1.1,())) (λ(v5:T7)=>if(0:Int)<=(0:Int)/\(0:Int)<=(IntKind.wrap .i64 ((v2.2.2.1.length:Int)-v5.1.1))/\(IntKind.wrap .i64 ((v2.2.2.1.length:Int)-v5.1.1))<=(v4.1.2.1.length:Int)then if(List.length (bZ v4.1.2.1 (0:Int) (IntKind.wrap .i64 ((v2.2.2.1.length:Int)-v5.1.1)))+List.length ([v3.1.1]:List (Int×Int)))*16<=140737488355328 then if List.length (bZ v4.1.2.1 (0:Int) (IntKind.wrap .i64 ((v2.2.2.1.length:Int)-v5.1.1)))+List.length ([v3.1.1]:List (Int×Int))<=9223372036854775807 then some (((bZ v4.1.2.1 (0:Int) (IntKind.wrap .i64 ((v2.2.2.1.length:Int)-v5.1.1)))++([v3.1.1]:List (Int×Int)),()),v4.1.1,())else none else none else none)) (λv6=>bif decide (v2.2.1.1=0)then ah (oT v1 (v3.2.1,v3.1.1.1,v3.1.1.2,())) (λ(v7:T70)=>v6 ((v7.2.1,v2.2.2.1,()),()))else aq (λ(v8:T84)=>v6 ((v8.1.1,v8.1.2.1,()),())) (λv9=>bif decide (v2.2.1.1=1)then if(List.length v3.2.1.2.1+List.length ([(v3.1.1.1,v3.1.1.2,v2.2.1.2,false)]:List (Int×Int×(List Int)×Bool)))*56<=140737488355328 then if List.length v3.2.1.2.1+List.length ([(v3.1.1.1,v3.1.1.2,v2.2.1.2,false)]:List (Int×Int×(List Int)×Bool))<=9223372036854775807 then v9 (((v3.2.1.1,v3.2.1.2.1++([(v3.1.1.1,v3.1.1.2,v2.2.1.2,false)]:List (Int×Int×(List Int)×Bool)),v3.2.1.2.2),v2.2.2.1,()),())else none else none else aq (λ(v10:T84)=>v9 ((v10.1.1,v10.1.2.1,()),())) (λv11=>bif decide (v2.2.1.1=2)then if 0<=(IntKind.wrap .i64 ((v2.2.2.1.length:Int)-2))then(match v2.2.2.1[(IntKind.wrap .i64 ((v2.2.2.1.length:Int)-2)).toNat]? with|some v12=>if 0<=(IntKind.wrap .i64 ((v2.2.2.1.length:Int)-1))then(match v2.2.2.1[(IntKind.wrap .i64 ((v2.2.2.1.length:Int)-1)).toNat]? with|some v13=>ah (oT v1 (v3.2.1,v3.1.1.1,v12.1,())) (λ(v14:T70)=>ah (oT v1 (v14.2.1,v12.2,v13.1,())) (λ(v15:T70)=>ah (oT v1 (v15.2.1,v13.2,v3.1.1.2,())) (λ(v16:T70)=>v11 ((v16.2.1,v2.2.2.1,()),()))))|none=>none)else none|none=>none)else none else aq (λ(v17:T84)=>v11 ((v17.1.1,v17.1.2.1,()),())) (λv18=>bif decide (v2.2.1.1=3)then if 0<=(IntKind.wrap .i64 ((v2.2.2.1.length:Int)-2))/\(IntKind.wrap .i64 ((v2.2.2.1.length:Int)-2))<=(v2.2.2.1.length:Int)/\(v2.2.2.1.length:Int)<=(v2.2.2.1.length:Int)then aA (λ(v19:(((Int×(List (Int×Int×(List Int)×Bool))×Int×Int)×(List (Int×Int))×Unit)×Int×Unit))=>λv20=>bif decide (v19.2.1<(pp (IntKind.wrap .i64 ((v2.2.2.1.length:Int)-2)) (v2.2.2.1.length:Int)))then bif uP v19.2.1 (IntKind.wrap .i64 ((v2.2.2.1.length:Int)-2)) (v2.2.2.1.length:Int)then if 0<=(kH (IntKind.wrap .i64 ((v2.2.2.1.length:Int)-2)) v19.2.1)then(match v19.1.2.1[(kH (IntKind.wrap .i64 ((v2.2.2.1.length:Int)-2)) v19.2.1).toNat]? with|some v21=>ah (oT v1 (v19.1.1,v3.1.1.1,v21.1,())) (λ(v22:T70)=>ah (oT v1 (v22.2.1,v21.2,v3.1.1.2,())) (λ(v23:T70)=>v20 ((v23.2.1,v19.1.2.1,()),IntKind.wrap .i64 (v19.2.1+1),())))|none=>none)else none else none else v18 ((v19.1.1,v19.1.2.1,()),())) v1 ((v3.2.1,v2.2.2.1,()),0,())else none else if 0<=(IntKind.wrap .i64 ((v2.2.2.1.length:Int)-1))then(match v2.2.2.1[(IntKind.wrap .i64 ((v2.2.2.1.length:Int)-1)).toNat]? with|some v24=>ah (oT v1 (v3.2.1,v3.1.1.1,v24.1,())) (λ(v25:T70)=>ah (oT v1 (v25.2.1,v24.2,v3.1.1.2,())) (λ(v26:T70)=>aq (λ(v27:T84)=>aq (λ(v28:T84)=>v18 ((v28.1.1,v28.1.2.1,()),())) (λv29=>bif !(decide (v2.2.1.1=5))then ah (oT v1 (v27.1.1,v3.1.1.1,v3.1.1.2,())) (λ(v30:T70)=>v29 ((v30.2.1,v27.1.2.1,()),()))else v29 ((v27.1.1,v27.1.2.1,()),()))) (λv31=>bif !(decide (v2.2.1.1=6))then ah (oT v1 (v26.2.1,v24.2,v24.1,())) (λ(v32:T70)=>v31 ((v32.2.1,v2.2.2.1,()),()))else v31 ((v26.2.1,v2.2.2.1,()),()))))|none=>none)else none)))))
def F112(n:Nat):Fb 112:=fb n [⟨_,F178 n⟩,⟨_,F179 n⟩,⟨_,F176 n⟩] [] [118] [] Tryz.func112 Tryz.results112 Tryz.ntmps112 (.seq (.reg none [4]) (.seq .nop (.seq (.reg none [8]) (.seq (.seq .nop (.block none (.seq .nop (.cond (some ⟨[(6,.box pK,.own (.pr .ro (.pr (.own .ro) (.pr .ro .ro)))),(22,iN,.own .ro)],[],[0,2,4,7,8]⟩) .nop (.seq .nop (.cond (some ⟨[(6,.box pK,.own (.pr .ro (.pr (.own .ro) (.pr .ro .ro)))),(22,iN,.own .ro)],[],[0,2,4,7,8]⟩) .nop (.seq .nop (.cond (some ⟨[(6,.box pK,.own (.pr .ro (.pr (.own .ro) (.pr .ro .ro)))),(22,iN,.own .ro)],[],[0,2,4,7,8]⟩) (.seq (.reg none [9,10]) .nop) (.seq .nop (.cond (some ⟨[(6,.box pK,.own (.pr .ro (.pr (.own .ro) (.pr .ro .ro)))),(22,iN,.own .ro)],[],[0,2,4,7,8]⟩) (.seq .nop (.block none (.loop ⟨[(6,.box pK,.own (.pr .ro (.pr (.own .ro) (.pr .ro .ro)))),(22,iN,.own .ro)],[.val 120 y2],[0,2,4,7,8,118,119]⟩ (.seq .nop (.seq .nop (.seq (.block none (.seq (.reg none [12]) .nop)) .nop)))))) (.seq (.reg none [13]) (.seq .nop (.seq .nop (.seq (.seq .nop (.cond (some ⟨[(6,.box pK,.own (.pr .ro (.pr (.own .ro) (.pr .ro .ro)))),(22,iN,.own .ro)],[],[0,2,4,7,8]⟩) .nop .nop)) (.seq .nop (.cond (some ⟨[(6,.box pK,.own (.pr .ro (.pr (.own .ro) (.pr .ro .ro)))),(22,iN,.own .ro)],[],[0,2,4,7,8]⟩) .nop .nop)))))))))))))))) .nop)))) [(.box pK,.own (.pr .ro (.pr (.own .ro) (.pr .ro .ro)))),(Kf,.ro),(iN,.own .ro)] [(iN,.own .ro)] [0] A0 (nx n)
def p61(v1:Nat)(v2:T27):Option (((Int×(List (Int×Int×(List Int)×Bool))×Int×Int)×Int×Unit)×Unit):=ah (FN v1 (v2.1,())) (λ(v3:T7)=>bif !(decide (v3.1.1=0))then some (((0,([]:List (Int×Int×(List Int)×Bool)),0,0),v3.1.1,()),())else aA (λ(v4:(((Int×(List (Int×Int×(List Int)×Bool))×Int×Int)×(Int×(List (Int×Int×(List Int)×Bool))×Int×Int)×Unit)×(List (Int×Int))×Int×Unit))=>λv5=>bif decide (v4.2.2.1<(v2.1.length:Int))then if 0<=v4.2.2.1 then(match v2.1[(v4.2.2.1).toNat]? with|some v6=>ah (nx v1 (v4.1.2.1,v6,v4.2.1,())) (λ(v7:(((List (Int×Int))×Unit)×(Int×(List (Int×Int×(List Int)×Bool))×Int×Int)×Unit))=>v5 ((v4.1.1,v7.2.1,()),v7.1.1,IntKind.wrap .i64 (v4.2.2.1+1),()))|none=>none)else none else if(0:Int)<=(0:Int)then(match v4.2.1[(0:Int).toNat]? with|some v8=>if(0:Int)<=(0:Int)then(match v4.2.1[(0:Int).toNat]? with|some v9=>some (((v4.1.2.1.1,v4.1.2.1.2.1,v8.1,v9.2),0,()),())|none=>none)else none|none=>none)else none) v1 (((0,([]:List (Int×Int×(List Int)×Bool)),0,0),(0,([]:List (Int×Int×(List Int)×Bool)),0,0),()),([]:List (Int×Int)),0,()))
def F61(n:Nat):Fb 61:=fb n [⟨_,F111 n⟩,⟨_,F112 n⟩] [13,15] [] [] Tryz.func61 Tryz.results61 Tryz.ntmps61 (.seq .nop (.seq .nop (.seq .nop (.seq .nop (.seq (.seq .nop (.block none (.loop ⟨[(16,.box tK,.own (.pr .ro (.pr (.own .ro) (.pr .ro .ro)))),(128,.box pK,.own (.pr .ro (.pr (.own .ro) (.pr .ro .ro))))],[.hdr 6 55 iN (.own .ro),.val 19 y2],[2,5,17,18]⟩ (.seq .nop (.seq .nop (.seq (.block none (.seq (.reg none [8]) .nop)) .nop)))))) (.seq .nop (.seq (.rgf none [5] [2]) .nop))))))) [(nw,.ro)] [(tK,.ro),(y2,.ro)] [] [] (p61 n)
def AV(v1:Nat)(v2:T67):T15:=aq (λ(v3:T5)=>bif v3.2.1 then some ((false,()),())else aA (λ(v4:T4)=>λv5=>bif decide (v4.2.1<(v2.1.2.1.length:Int))then if 0<=v4.2.1 then(match v2.1.2.1[(v4.2.1).toNat]? with|some v6=>aq (λ(v7:T5)=>bif v7.2.1 then some ((false,()),())else v5 ((),IntKind.wrap .i64 (v4.2.1+1),())) (λv8=>bif decide (v6.1<0)then v8 ((),true,())else bif decide (v2.1.1<=v6.1)then v8 ((),true,())else bif decide (v6.2.1<0)then v8 ((),true,())else v8 ((),decide (v2.1.1<=v6.2.1),()))|none=>none)else none else some ((true,()),())) v1 ((),0,())) (λv9=>bif decide (v2.1.2.2.1<0)then v9 ((),true,())else bif decide (v2.1.1<=v2.1.2.2.1)then v9 ((),true,())else bif decide (v2.1.2.2.2<0)then v9 ((),true,())else v9 ((),decide (v2.1.1<=v2.1.2.2.2),()))
def F113(n:Nat):Fb 113:=fb n [] [] [] [] Tryz.func113 Tryz.results113 Tryz.ntmps113 (.seq (.reg none [1]) (.seq (.seq (.reg (some ⟨[],[.val 26 y4],[1]⟩) []) .nop) (.seq (.seq .nop (.block none (.loop ⟨[],[.val 30 y2],[1,28,29]⟩ (.seq .nop (.seq .nop (.seq (.block none (.seq (.reg none [4]) (.seq (.reg (some ⟨[],[.val 55 y4],[1,28,29,30]⟩) []) .nop))) .nop)))))) .nop))) [(tK,.ro)] A16 [] [] (AV n)
def FP(v1:Nat)(v2:T67):Option (((List (List Int))×Unit)×Unit):=aA (λ(v3:(Unit×(List (List Int))×Int×Unit))=>λv4=>bif decide (v3.2.2.1<(v2.1.2.1.length:Int))then if 0<=v3.2.2.1 then(match v2.1.2.1[(v3.2.2.1).toNat]? with|some v5=>aq (λ(v6:(Unit×(List (List Int))×Unit))=>v4 ((),v6.2.1,IntKind.wrap .i64 (v3.2.2.1+1),())) (λv7=>bif !v5.2.2.2 then if(List.length v3.2.1+List.length ([v5.2.2.1]:List (List Int)))*32<=140737488355328 then if List.length v3.2.1+List.length ([v5.2.2.1]:List (List Int))<=9223372036854775807 then v7 ((),v3.2.1++([v5.2.2.1]:List (List Int)),())else none else none else v7 ((),v3.2.1,()))|none=>none)else none else some ((v3.2.1,()),())) v1 ((),([]:List (List Int)),0,())
def F115(n:Nat):Fb 115:=fb n [] [] [] [] Tryz.func115 Tryz.results115 Tryz.ntmps115 (.seq (.reg none [1]) (.seq .nop (.seq (.seq .nop (.block none (.loop ⟨[],[.hdr 3 31 AO (.own .ro),.val 9 y2],[7,8]⟩ (.seq .nop (.seq .nop (.seq (.block none (.seq (.reg none [5]) (.seq .nop (.cond (some ⟨[],[.hdr 3 31 AO (.own .ro)],[7,8,9]⟩) .nop .nop)))) .nop)))))) .nop))) [(tK,.ro)] [(AO,.ro)] [] [] (FP n)
def AW(v1:Nat)(v2:T10):T15:=if(64:Int)=0 then none else if 0<=(IntKind.wrap .u8 (Int.tdiv v2.2.1 64))then(match v2.1[(IntKind.wrap .u8 (Int.tdiv v2.2.1 64)).toNat]? with|some v3=>if(64:Int)=0 then none else if(Int.tmod v2.2.1 64)<0 then none else some ((decide ((dL .and .u64 (Int.fdiv v3 (2 ^ (Nat.min (Int.toNat (Int.tmod v2.2.1 64)) (IntKind.bits .u64)))) (1:Int))=1),()),())|none=>none)else none
def F183(n:Nat):Fb 183:=fb n [] [] [] [] Tryz.func183 Tryz.results183 Tryz.ntmps183 (.seq (.reg none [2]) .nop) [(kp,.ro),(y5,.ro)] A16 [] [] (AW n)
def FQ(v1:Nat)(v2:((List (List Int))×Int×Unit)):T32:=if(8:Int)=0 then none else if 0<=(IntKind.wrap .i64 (Int.tdiv (IntKind.wrap .i64 ((v2.1.length:Int)+7)) 8))/\(IntKind.wrap .i64 (Int.tdiv (IntKind.wrap .i64 ((v2.1.length:Int)+7)) 8))<=(IntKind.wrap .i64 (Int.tdiv (IntKind.wrap .i64 ((v2.1.length:Int)+7)) 8))then if(IntKind.wrap .i64 (Int.tdiv (IntKind.wrap .i64 ((v2.1.length:Int)+7)) 8)).toNat*1<=140737488355328 then aA (λ(v3:T24)=>λv4=>bif decide (v3.2.1<(v2.1.length:Int))then if 0<=v3.2.1 then(match v2.1[(v3.2.1).toNat]? with|some v5=>ah (AW v1 (v5,v2.2.1,())) (λ(v6:T8)=>aq (λ(v7:T14)=>v4 ((v7.1.1,()),IntKind.wrap .i64 (v3.2.1+1),())) (λv8=>bif v6.1.1 then if(8:Int)=0 then none else if 0<=(IntKind.wrap .i64 (Int.tdiv v3.2.1 8))then(match v3.1.1[(IntKind.wrap .i64 (Int.tdiv v3.2.1 8)).toNat]? with|some v9=>if(8:Int)=0 then none else if(IntKind.wrap .u64 (Int.tmod v3.2.1 8))<0 then none else if 0<=(IntKind.wrap .i64 (Int.tdiv v3.2.1 8))then(match v3.1.1[(IntKind.wrap .i64 (Int.tdiv v3.2.1 8)).toNat]? with|some v10=>if 0<=(IntKind.wrap .i64 (Int.tdiv v3.2.1 8))then(match v3.1.1[(IntKind.wrap .i64 (Int.tdiv v3.2.1 8)).toNat]? with|some v11=>v8 ((List.set v3.1.1 (IntKind.wrap .i64 (Int.tdiv v3.2.1 8)).toNat (dL .or .u8 v9 (IntKind.wrap .u8 ((1:Int)*2 ^ (Nat.min (Int.toNat (IntKind.wrap .u64 (Int.tmod v3.2.1 8))) (IntKind.bits .u8))))),()),())|none=>none)else none|none=>none)else none|none=>none)else none else v8 ((v3.1.1,()),())))|none=>none)else none else some ((v3.1.1,()),())) v1 ((List.replicate (IntKind.wrap .i64 (Int.tdiv (IntKind.wrap .i64 ((v2.1.length:Int)+7)) 8)).toNat (0:Int),()),0,())else none else none
def F180(n:Nat):Fb 180:=fb n [⟨_,F183 n⟩] [] [] [] Tryz.func180 Tryz.results180 Tryz.ntmps180 (.seq .nop (.seq .nop (.seq (.seq .nop (.block none (.loop ⟨[(96,rK,.own .ro)],[.val 15 y2],[1,5,13,14]⟩ (.seq .nop (.seq .nop (.seq (.block none (.seq (.reg none [7]) (.seq .nop (.cond (some ⟨[(96,rK,.own .ro)],[],[1,5,13,14,15]⟩) .nop .nop)))) .nop)))))) .nop))) [(AO,.ro),(y5,.ro)] A18 [] [] (FQ n)
def FR(v1:Nat)(v2:((List (List Int))×Unit)):T32:=aA (λ(v3:T72)=>λv4=>bif decide (v3.2.1<256)then ah (FQ v1 (v2.1,IntKind.wrap .u8 v3.2.1,())) (λ(v5:T14)=>aq (λ(v6:T72)=>if 0<=v3.2.1 then(match v6.1.2.1[(v3.2.1).toNat]? with|some v7=>if 0<=v3.2.1 then(match v6.1.2.1[(v3.2.1).toNat]? with|some v8=>v4 ((v6.1.1,List.set v6.1.2.1 (v3.2.1).toNat (IntKind.wrap .u8 v6.2.1),v6.1.2.2.1,()),IntKind.wrap .i64 (v3.2.1+1),())|none=>none)else none|none=>none)else none) (λv9=>bif !(gy (λ(v10:T0)=>λ(v11:T0)=>decide (v10=v11)) v5.1.1 v3.1.2.2.1)then bif tm v3.1.2.2.1 then v9 ((v3.1.1,v3.1.2.1,fB (λ(v12:T0)=>λ(v13:T0)=>decide (v12=v13)) v5.1.1 (xk v3.1.2.2.1) v3.1.2.2.1,()),xk v3.1.2.2.1,())else none else v9 ((v3.1.1,v3.1.2.1,v3.1.2.2.1,()),cW (λ(v14:T0)=>λ(v15:T0)=>decide (v14=v15)) v5.1.1 v3.1.2.2.1,())))else some ((v3.1.2.1,()),())) v1 ((List.replicate 256 (0:Int),List.replicate 256 (0:Int),([]:List ((List Int)×Int)),()),0,())
def F114(n:Nat):Fb 114:=fb n [⟨_,F180 n⟩] [] [] [] Tryz.func114 Tryz.results114 Tryz.ntmps114 (.seq .nop (.seq .nop (.seq .nop (.seq (.seq .nop (.block none (.loop ⟨[(16,.box y88,.own .ro),(24,.box y88,.own .ro),(72,pJ,.own .ro)],[.val 10 y2],[0,2,3,4]⟩ (.seq .nop (.seq .nop (.seq (.block none (.seq .nop (.seq .nop (.seq .nop (.seq (.seq .nop (.cond (some ⟨[(16,.box y88,.own .ro),(24,.box y88,.own .ro),(72,pJ,.own .ro)],[.val 7 y2],[0,2,3,4,5,10]⟩) .nop .nop)) .nop))))) .nop)))))) (.seq (.rgf none [3] [2]) .nop))))) [(AO,.ro)] [(y88,.ro)] [] [] (FR n)
def C2(v1:Nat)(v2:((Int×(List (Int×Int×(List Int)×Bool))×Int×Int)×(List Bool)×Unit)):T35:=if 0<=v2.1.1/\v2.1.1<=v2.1.1 then if(v2.1.1).toNat*1<=140737488355328 then aA (λ(v3:T33)=>λv4=>bif v3.2.1 then aA (λ(v5:(((List Bool)×Unit)×Bool×Int×Unit))=>λv6=>bif decide (v5.2.2.1<(v2.1.2.1.length:Int))then if 0<=v5.2.2.1 then(match v2.1.2.1[(v5.2.2.1).toNat]? with|some v7=>aq (λ(v8:T33)=>aq (λ(v9:T33)=>v6 ((v9.1.1,()),v9.2.1,IntKind.wrap .i64 (v5.2.2.1+1),())) (λv10=>bif v8.2.1 then if 0<=v7.2.1 then(match v8.1.1[(v7.2.1).toNat]? with|some v11=>if 0<=v7.2.1 then(match v8.1.1[(v7.2.1).toNat]? with|some v12=>v10 ((List.set v8.1.1 (v7.2.1).toNat true,()),true,())|none=>none)else none|none=>none)else none else v10 ((v8.1.1,()),v5.2.1,()))) (λv13=>bif v7.2.2.2 then if 0<=v7.1 then(match v5.1.1[(v7.1).toNat]? with|some v14=>bif v14 then if 0<=v7.2.1 then(match v5.1.1[(v7.2.1).toNat]? with|some v15=>v13 ((v5.1.1,()),!v15,())|none=>none)else none else v13 ((v5.1.1,()),false,())|none=>none)else none else v13 ((v5.1.1,()),false,()))|none=>none)else none else v4 ((v5.1.1,()),v5.2.1,())) v1 ((v3.1.1,()),false,0,())else some ((v3.1.1,()),())) v1 ((cpL (List.replicate (v2.1.1).toNat false) v2.2.1,()),true,())else none else none
def F117(n:Nat):Fb 117:=fb n [] [] [] [] Tryz.func117 Tryz.results117 Tryz.ntmps117 (.seq (.reg none [2]) (.seq .nop (.seq .nop (.seq (.seq .nop (.block none (.loop ⟨[(88,kI,.own .ro)],[.val 6 y4],[2,5]⟩ (.seq .nop (.block none (.seq .nop (.seq .nop (.block none (.loop ⟨[(88,kI,.own .ro)],[.val 6 y4,.val 19 y2],[2,5,17,18]⟩ (.seq .nop (.seq .nop (.seq (.block none (.seq (.reg none [8]) (.seq (.reg (some ⟨[(88,kI,.own .ro)],[.val 39 y4],[2,5,6,8,17,18,19]⟩) []) (.cond (some ⟨[(88,kI,.own .ro)],[.val 6 y4],[2,5,17,18,19]⟩) .nop .nop)))) .nop)))))))))))) .nop)))) [(tK,.ro),(kI,.ro)] A13 [] [] (C2 n)
def FT(v1:Nat)(v2:((List Bool)×Unit)):T32:=if(8:Int)=0 then none else if 0<=(IntKind.wrap .i64 (Int.tdiv (IntKind.wrap .i64 ((v2.1.length:Int)+7)) 8))/\(IntKind.wrap .i64 (Int.tdiv (IntKind.wrap .i64 ((v2.1.length:Int)+7)) 8))<=(IntKind.wrap .i64 (Int.tdiv (IntKind.wrap .i64 ((v2.1.length:Int)+7)) 8))then if(IntKind.wrap .i64 (Int.tdiv (IntKind.wrap .i64 ((v2.1.length:Int)+7)) 8)).toNat*1<=140737488355328 then aA (λ(v3:T24)=>λv4=>bif decide (v3.2.1<(v2.1.length:Int))then if 0<=v3.2.1 then(match v2.1[(v3.2.1).toNat]? with|some v5=>aq (λ(v6:T14)=>v4 ((v6.1.1,()),IntKind.wrap .i64 (v3.2.1+1),())) (λv7=>bif v5 then if(8:Int)=0 then none else if 0<=(IntKind.wrap .i64 (Int.tdiv v3.2.1 8))then(match v3.1.1[(IntKind.wrap .i64 (Int.tdiv v3.2.1 8)).toNat]? with|some v8=>if(8:Int)=0 then none else if(IntKind.wrap .u64 (Int.tmod v3.2.1 8))<0 then none else if 0<=(IntKind.wrap .i64 (Int.tdiv v3.2.1 8))then(match v3.1.1[(IntKind.wrap .i64 (Int.tdiv v3.2.1 8)).toNat]? with|some v9=>if 0<=(IntKind.wrap .i64 (Int.tdiv v3.2.1 8))then(match v3.1.1[(IntKind.wrap .i64 (Int.tdiv v3.2.1 8)).toNat]? with|some v10=>v7 ((List.set v3.1.1 (IntKind.wrap .i64 (Int.tdiv v3.2.1 8)).toNat (dL .or .u8 v8 (IntKind.wrap .u8 ((1:Int)*2 ^ (Nat.min (Int.toNat (IntKind.wrap .u64 (Int.tmod v3.2.1 8))) (IntKind.bits .u8))))),()),())|none=>none)else none|none=>none)else none|none=>none)else none else v7 ((v3.1.1,()),()))|none=>none)else none else some ((v3.1.1,()),())) v1 ((List.replicate (IntKind.wrap .i64 (Int.tdiv (IntKind.wrap .i64 ((v2.1.length:Int)+7)) 8)).toNat (0:Int),()),0,())else none else none
def F181(n:Nat):Fb 181:=fb n [] [] [] [] Tryz.func181 Tryz.results181 Tryz.ntmps181 (.seq .nop (.seq .nop (.seq (.seq .nop (.block none (.loop ⟨[(80,rK,.own .ro)],[.val 13 y2],[3,11,12]⟩ (.seq .nop (.seq .nop (.seq (.block none (.seq .nop (.seq .nop (.cond (some ⟨[(80,rK,.own .ro)],[],[3,11,12,13]⟩) .nop .nop)))) .nop)))))) .nop))) A13 A18 [] [] (FT n)
def FU(v1:Nat)(v2:T10):T13:=bif decide ((v2.1.length:Int)<=v2.2.1)then some ((-1,()),())else if 0<=v2.2.1 then(match v2.1[(v2.2.1).toNat]? with|some v3=>some ((v3,()),())|none=>none)else none
def F222(n:Nat):Fb 222:=fb n [] [] [] [] Tryz.func222 Tryz.results222 Tryz.ntmps222 (.nop) [(y53,.ro),(y2,.ro)] A17 [] [] (FU n)
def FV(v1:Nat)(v2:((Option ((Int×(List (Int×Int×(List Int)×Bool))×Int×Int)×(List Int)×(List Int)×(List ((List Int)×Int))×(List (List Bool))×(List Int)×(List (List Int))×(List Int)))×(List Bool)×Unit)):T13:=aA (λ(v3:T9)=>λv4=>bif decide (v3.2.2.1<(v2.2.1.length:Int))then if 0<=v3.2.2.1 then(match v2.2.1[(v3.2.2.1).toNat]? with|some v5=>(match v2.1 with|some v6=>(match v2.1 with|some v7=>ah (FU v1 (v7.2.1,v3.2.2.1,())) (λ(v8:T7)=>aq (λ(v9:T5)=>aq (λ(v10:T4)=>v4 ((),v10.2.1,IntKind.wrap .i64 (v3.2.2.1+1),())) (λv11=>bif v9.2.1 then v11 ((),v8.1.1,())else v11 ((),v3.2.1,()))) (λv12=>bif v5 then bif decide (0<=v8.1.1)then bif decide (v3.2.1<0)then v12 ((),true,())else v12 ((),decide (v8.1.1<v3.2.1),())else v12 ((),false,())else v12 ((),false,())))|none=>none)|none=>none)|none=>none)else none else some ((v3.2.1,()),())) v1 ((),-1,0,())
def F182(n:Nat):Fb 182:=fb n [⟨_,F222 n⟩] [] [] [] Tryz.func182 Tryz.results182 Tryz.ntmps182 (.seq .nop (.seq .nop (.seq (.seq .nop (.block none (.loop ⟨[],[.val 5 y2,.val 11 y2],[0,9,10]⟩ (.seq .nop (.seq .nop (.seq (.block none (.seq .nop (.seq .nop (.seq (.reg (some ⟨[],[.val 35 y4],[0,5,8,9,10,11]⟩) []) (.cond (some ⟨[],[.val 5 y2],[0,9,10,11]⟩) .nop .nop))))) .nop)))))) .nop))) [(Kr,.ro),(kI,.ro)] A17 [] [] (FV n)
def C3(v1:Nat)(v2:(((Int×(List (Int×Int×(List Int)×Bool))×Int×Int)×(List Int)×(List Int)×(List ((List Int)×Int))×(List (List Bool))×(List Int)×(List (List Int))×(List Int))×(List Bool)×Unit)):Option ((Int×Unit)×((Int×(List (Int×Int×(List Int)×Bool))×Int×Int)×(List Int)×(List Int)×(List ((List Int)×Int))×(List (List Bool))×(List Int)×(List (List Int))×(List Int))×Unit):=aA (λ(v3:((((Int×(List (Int×Int×(List Int)×Bool))×Int×Int)×(List Int)×(List Int)×(List ((List Int)×Int))×(List (List Bool))×(List Int)×(List (List Int))×(List Int))×Unit)×Bool×Int×Unit))=>λv4=>bif decide (v3.2.2.1<(v2.2.1.length:Int))then if 0<=v3.2.2.1 then(match v2.2.1[(v3.2.2.1).toNat]? with|some v5=>aq (λ(v6:((((Int×(List (Int×Int×(List Int)×Bool))×Int×Int)×(List Int)×(List Int)×(List ((List Int)×Int))×(List (List Bool))×(List Int)×(List (List Int))×(List Int))×Unit)×Bool×Unit))=>v4 ((v6.1.1,()),v6.2.1,IntKind.wrap .i64 (v3.2.2.1+1),())) (λv7=>bif v3.2.1 then v7 ((v3.1.1,()),true,())else v7 ((v3.1.1,()),v5,()))|none=>none)else none else bif !v3.2.1 then some ((-1,()),v3.1.1,())else ah (FT v1 (v2.2.1,())) (λ(v8:T14)=>bif gy (λ(v9:T0)=>λ(v10:T0)=>decide (v9=v10)) v8.1.1 v3.1.1.2.2.2.1 then some ((cW (λ(v11:T0)=>λ(v12:T0)=>decide (v11=v12)) v8.1.1 v3.1.1.2.2.2.1,()),v3.1.1,())else if(List.length v3.1.1.2.2.2.2.1+List.length ([v2.2.1]:List (List Bool)))*24<=140737488355328 then if List.length v3.1.1.2.2.2.2.1+List.length ([v2.2.1]:List (List Bool))<=9223372036854775807 then ah (FV v1 (some (v3.1.1.1,v3.1.1.2.1,v3.1.1.2.2.1,fB (λ(v13:T0)=>λ(v14:T0)=>decide (v13=v14)) v8.1.1 (v3.1.1.2.2.2.2.1.length:Int) v3.1.1.2.2.2.1,v3.1.1.2.2.2.2.1++([v2.2.1]:List (List Bool)),v3.1.1.2.2.2.2.2),v2.2.1,())) (λ(v15:T7)=>if(List.length v3.1.1.2.2.2.2.2.2.2+List.length ([v15.1.1]:List Int))*8<=140737488355328 then if List.length v3.1.1.2.2.2.2.2.2.2+List.length ([v15.1.1]:List Int)<=9223372036854775807 then some ((IntKind.wrap .i64 (((List.length (v3.1.1.2.2.2.2.1++([v2.2.1]:List (List Bool))):Nat):Int)-1),()),(v3.1.1.1,v3.1.1.2.1,v3.1.1.2.2.1,fB (λ(v16:T0)=>λ(v17:T0)=>decide (v16=v17)) v8.1.1 (v3.1.1.2.2.2.2.1.length:Int) v3.1.1.2.2.2.1,v3.1.1.2.2.2.2.1++([v2.2.1]:List (List Bool)),v3.1.1.2.2.2.2.2.1,v3.1.1.2.2.2.2.2.2.1,v3.1.1.2.2.2.2.2.2.2++([v15.1.1]:List Int)),())else none else none)else none else none)) v1 ((v2.1,()),false,0,())
def F116(n:Nat):Fb 116:=fb n [⟨_,F181 n⟩,⟨_,F182 n⟩] [] [] [] Tryz.func116 Tryz.results116 Tryz.ntmps116 (.seq .nop (.seq .nop (.seq (.seq .nop (.block none (.loop ⟨[(6,.box tM,.own (.pr .ro (.pr .ro (.pr .ro (.pr (.own .ro) (.pr (.own .ro) (.pr .ro (.pr (.own .ro) (.own .ro)))))))))],[.val 5 y4,.val 13 y2],[0,1,11,12]⟩ (.seq .nop (.seq .nop (.seq (.block none (.seq .nop (.reg (some ⟨[(6,.box tM,.own (.pr .ro (.pr .ro (.pr .ro (.pr (.own .ro) (.pr (.own .ro) (.pr .ro (.pr (.own .ro) (.own .ro)))))))))],[.val 5 y4],[0,1,11,12,13]⟩) []))) .nop)))))) .nop))) [(.box tM,.own (.pr .ro (.pr .ro (.pr .ro (.pr (.own .ro) (.pr (.own .ro) (.pr .ro (.pr (.own .ro) (.own .ro))))))))),(kI,.ro)] A17 [0] [(.box tM,.own (.pr .ro (.pr .ro (.pr .ro (.pr (.own .ro) (.pr (.own .ro) (.pr .ro (.pr (.own .ro) (.own .ro)))))))))] (C3 n)
def FW(v1:Nat)(v2:((Int×(List (Int×Int×(List Int)×Bool))×Int×Int)×(List Bool)×Int×Unit)):T35:=if 0<=v2.1.1/\v2.1.1<=v2.1.1 then if(v2.1.1).toNat*1<=140737488355328 then aA (λ(v3:T28)=>λv4=>bif decide (v3.2.1<(v2.1.2.1.length:Int))then if 0<=v3.2.1 then(match v2.1.2.1[(v3.2.1).toNat]? with|some v5=>aq (λ(v6:T33)=>aq (λ(v7:T16)=>v4 ((v7.1.1,()),IntKind.wrap .i64 (v3.2.1+1),())) (λv8=>bif v6.2.1 then if 0<=v5.2.1 then(match v6.1.1[(v5.2.1).toNat]? with|some v9=>if 0<=v5.2.1 then(match v6.1.1[(v5.2.1).toNat]? with|some v10=>v8 ((List.set v6.1.1 (v5.2.1).toNat true,()),())|none=>none)else none|none=>none)else none else v8 ((v6.1.1,()),()))) (λv11=>bif !v5.2.2.2 then bif decide (v5.1<(v2.2.1.length:Int))then if 0<=v5.1 then(match v2.2.1[(v5.1).toNat]? with|some v12=>bif v12 then ah (AW v1 (v5.2.2.1,v2.2.2.1,())) (λ(v13:T8)=>v11 ((v3.1.1,()),v13.1.1,()))else v11 ((v3.1.1,()),false,())|none=>none)else none else v11 ((v3.1.1,()),false,())else v11 ((v3.1.1,()),false,()))|none=>none)else none else some ((v3.1.1,()),())) v1 ((List.replicate (v2.1.1).toNat false,()),0,())else none else none
def F118(n:Nat):Fb 118:=fb n [⟨_,F183 n⟩] [] [] [] Tryz.func118 Tryz.results118 Tryz.ntmps118 (.seq (.reg none [3]) (.seq .nop (.seq (.seq .nop (.block none (.loop ⟨[(96,kI,.own .ro)],[.val 16 y2],[1,2,7,14,15]⟩ (.seq .nop (.seq .nop (.seq (.block none (.seq (.reg none [9]) (.seq (.reg (some ⟨[(96,kI,.own .ro)],[.val 42 y4],[1,2,7,9,14,15,16]⟩) []) (.cond (some ⟨[(96,kI,.own .ro)],[],[1,2,7,14,15,16]⟩) .nop .nop)))) .nop)))))) .nop))) [(tK,.ro),(kI,.ro),(y5,.ro)] A13 [] [] (FW n)
def p63(v1:Nat)(v2:((Int×(List (Int×Int×(List Int)×Bool))×Int×Int)×(List Int)×Unit)):T75:=ah (AV v1 (v2.1,())) (λ(v3:T8)=>bif !v3.1.1 then some (((List.replicate 256 (0:Int),([]:List (List Int)),([]:List Int)),1,()),())else ah (FP v1 (v2.1,())) (λ(v4:(((List (List Int))×Unit)×Unit))=>ah (FR v1 (v4.1.1,())) (λ(v5:T14)=>aA (λ(v6:T96)=>λv7=>bif decide (v6.2.1<256)then if 0<=v6.2.1 then(match v6.1.2.1.2.2.2.2.2.1[(v6.2.1).toNat]? with|some v8=>aq (λ(v9:((((List Int)×(List (List Int))×(List Int))×((Int×(List (Int×Int×(List Int)×Bool))×Int×Int)×(List Int)×(List Int)×(List ((List Int)×Int))×(List (List Bool))×(List Int)×(List (List Int))×(List Int))×Unit)×Unit))=>v7 ((v9.1.1,v9.1.2.1,()),IntKind.wrap .i64 (v6.2.1+1),())) (λv10=>bif decide ((IntKind.wrap .i64 v8)=(v6.1.2.1.2.2.1.length:Int))then if(List.length v6.1.2.1.2.2.1+List.length ([(IntKind.wrap .u8 v6.2.1)]:List Int))*1<=140737488355328 then if List.length v6.1.2.1.2.2.1+List.length ([(IntKind.wrap .u8 v6.2.1)]:List Int)<=9223372036854775807 then v10 ((v6.1.1,(v6.1.2.1.1,v6.1.2.1.2.1,v6.1.2.1.2.2.1++([(IntKind.wrap .u8 v6.2.1)]:List Int),v6.1.2.1.2.2.2),()),())else none else none else v10 ((v6.1.1,v6.1.2.1,()),()))|none=>none)else none else if 0<=v2.1.1/\v2.1.1<=v2.1.1 then if(v2.1.1).toNat*1<=140737488355328 then if 0<=v2.1.2.2.1 then(match(List.replicate (v2.1.1).toNat false)[(v2.1.2.2.1).toNat]? with|some v11=>if 0<=v2.1.2.2.1 then(match(List.replicate (v2.1.1).toNat false)[(v2.1.2.2.1).toNat]? with|some v12=>ah (C2 v1 (v2.1,List.set (List.replicate (v2.1.1).toNat false) (v2.1.2.2.1).toNat true,())) (λ(v13:T16)=>ah (C3 v1 (v6.1.2.1,v13.1.1,())) (λ(v14:T95)=>aA (λ(v15:T96)=>λv16=>bif decide (v15.2.1<(v15.1.2.1.2.2.2.2.1.length:Int))then bif decide (2000<(v15.1.2.1.2.2.2.2.1.length:Int))then some (((List.replicate 256 (0:Int),([]:List (List Int)),([]:List Int)),6,()),())else aA (λ(v17:((((List Int)×(List (List Int))×(List Int))×((Int×(List (Int×Int×(List Int)×Bool))×Int×Int)×(List Int)×(List Int)×(List ((List Int)×Int))×(List (List Bool))×(List Int)×(List (List Int))×(List Int))×Unit)×(List Int)×Int×Unit))=>λv18=>bif decide (v17.2.2.1<(v15.1.2.1.2.2.1.length:Int))then if 0<=v17.2.2.1 then(match v15.1.2.1.2.2.1[(v17.2.2.1).toNat]? with|some v19=>if 0<=v15.2.1 then(match v17.1.2.1.2.2.2.2.1[(v15.2.1).toNat]? with|some v20=>ah (FW v1 (v2.1,v20,v19,())) (λ(v21:T16)=>ah (C2 v1 (v2.1,v21.1.1,())) (λ(v22:T16)=>ah (C3 v1 (v17.1.2.1,v22.1.1,())) (λ(v23:T95)=>if(List.length v17.2.1+List.length ([v23.1.1]:List Int))*8<=140737488355328 then if List.length v17.2.1+List.length ([v23.1.1]:List Int)<=9223372036854775807 then v18 ((v17.1.1,v23.2.1,()),v17.2.1++([v23.1.1]:List Int),IntKind.wrap .i64 (v17.2.2.1+1),())else none else none)))|none=>none)else none|none=>none)else none else if(List.length v17.1.2.1.2.2.2.2.2.2.1+List.length ([v17.2.1]:List (List Int)))*24<=140737488355328 then if List.length v17.1.2.1.2.2.2.2.2.2.1+List.length ([v17.2.1]:List (List Int))<=9223372036854775807 then v16 ((v17.1.1,(v17.1.2.1.1,v17.1.2.1.2.1,v17.1.2.1.2.2.1,v17.1.2.1.2.2.2.1,v17.1.2.1.2.2.2.2.1,v17.1.2.1.2.2.2.2.2.1,v17.1.2.1.2.2.2.2.2.2.1++([v17.2.1]:List (List Int)),v17.1.2.1.2.2.2.2.2.2.2),()),IntKind.wrap .i64 (v15.2.1+1),())else none else none) v1 ((v15.1.1,v15.1.2.1,()),([]:List Int),0,())else some ((v15.1.2.1.2.2.2.2.2,0,()),())) v1 ((v6.1.1,v14.2.1,()),0,())))|none=>none)else none|none=>none)else none else none else none) v1 (((List.replicate 256 (0:Int),([]:List (List Int)),([]:List Int)),(v2.1,v2.2.1,([]:List Int),([]:List ((List Int)×Int)),([]:List (List Bool)),v5.1.1,([]:List (List Int)),([]:List Int)),()),0,()))))
def F63(n:Nat):Fb 63:=fb n [⟨_,F113 n⟩,⟨_,F115 n⟩,⟨_,F114 n⟩,⟨_,F117 n⟩,⟨_,F116 n⟩,⟨_,F118 n⟩] [16,20,24,69,85,107,108,109] [] [] Tryz.func63 Tryz.results63 Tryz.ntmps63 (.seq (.reg none [2]) (.seq .nop (.seq .nop (.seq .nop (.seq (.seq .nop (.block none (.loop ⟨[(32,.box y89,.own (.pr .ro (.pr (.own .ro) (.own .ro)))),(168,.box tM,.own (.pr .ro (.pr .ro (.pr (.own .ro) (.pr (.own .ro) (.pr (.own .ro) (.pr .ro (.pr (.own .ro) (.own .ro)))))))))],[.val 29 y2],[2,4,6]⟩ (.seq .nop (.seq .nop (.seq (.block none (.seq .nop (.seq .nop (.cond (some ⟨[(32,.box y89,.own (.pr .ro (.pr (.own .ro) (.own .ro)))),(168,.box tM,.own (.pr .ro (.pr .ro (.pr (.own .ro) (.pr (.own .ro) (.pr (.own .ro) (.pr .ro (.pr (.own .ro) (.own .ro)))))))))],[],[2,4,6,29]⟩) .nop .nop)))) .nop)))))) (.seq (.rgp none [] [] [(6,[.deref,.st,.snd,.snd,.fst])]) (.seq .nop (.seq .nop (.seq (.seq .nop (.block none (.loop ⟨[(32,.box y89,.own (.pr .ro (.pr (.own .ro) (.own .ro)))),(168,.box tM,.own (.pr .ro (.pr .ro (.pr .ro (.pr (.own .ro) (.pr (.own .ro) (.pr .ro (.pr (.own .ro) (.own .ro)))))))))],[.val 9 y2],[2,4,6]⟩ (.seq .nop (.seq (.block none (.seq .nop (.seq .nop (.seq (.seq .nop (.block none (.loop ⟨[(32,.box y89,.own (.pr .ro (.pr (.own .ro) (.own .ro)))),(168,.box tM,.own (.pr .ro (.pr .ro (.pr .ro (.pr (.own .ro) (.pr (.own .ro) (.pr .ro (.pr (.own .ro) (.own .ro)))))))))],[.hdr 10 87 y53 (.own .ro),.val 91 y2],[2,4,6,9,89,90]⟩ .nop))) (.rgf none [10] []))))) .nop))))) (.seq (.rgf none [6] [4]) .nop)))))))))) [(tK,.ro),(y53,.ro)] A9 [] [] (p63 n)
def C4(v1:Nat)(v2:T67):T75:=ah (AV v1 (v2.1,())) (λ(v3:T8)=>bif !v3.1.1 then some (((List.replicate 256 (0:Int),([]:List (List Int)),([]:List Int)),1,()),())else if 0<=v2.1.1/\v2.1.1<=v2.1.1 then if(v2.1.1).toNat*8<=140737488355328 then aA (λ(v4:((((List Int)×(List (List Int))×(List Int))×(List Int)×Unit)×Int×Unit))=>λv5=>bif decide (v4.2.1<((List.length (List.replicate (v2.1.1).toNat (0:Int)):Nat):Int))then if 0<=v4.2.1 then(match v4.1.2.1[(v4.2.1).toNat]? with|some v6=>if 0<=v4.2.1 then(match v4.1.2.1[(v4.2.1).toNat]? with|some v7=>v5 ((v4.1.1,List.set v4.1.2.1 (v4.2.1).toNat (-1:Int),()),IntKind.wrap .i64 (v4.2.1+1),())|none=>none)else none|none=>none)else none else if 0<=v2.1.2.2.2 then(match v4.1.2.1[(v2.1.2.2.2).toNat]? with|some v8=>if 0<=v2.1.2.2.2 then(match v4.1.2.1[(v2.1.2.2.2).toNat]? with|some v9=>ah (p63 v1 (v2.1,List.set v4.1.2.1 (v2.1.2.2.2).toNat (0:Int),())) (λ(v10:T69)=>some ((v10.1.1,v10.1.2.1,()),()))|none=>none)else none|none=>none)else none) v1 (((List.replicate 256 (0:Int),([]:List (List Int)),([]:List Int)),List.replicate (v2.1.1).toNat (0:Int),()),0,())else none else none)
def F130(n:Nat):Fb 130:=fb n [⟨_,F113 n⟩,⟨_,F63 n⟩] [9] [] [] Tryz.func130 Tryz.results130 Tryz.ntmps130 (.seq (.reg none [1]) (.seq .nop (.seq .nop (.seq (.seq .nop (.block none (.loop ⟨[(16,.box y89,.own (.pr .ro (.pr (.own .ro) (.own .ro)))),(96,y53,.own .ro)],[.val 15 y2],[1,2,4,14]⟩ .nop))) (.seq .nop (.seq (.reg none [2]) .nop)))))) [(tK,.ro)] A9 [] [] (C4 n)
def p68(v1:Nat)(v2:T6):T75:=ah (p60 v1 (v2.1,())) (λ(v3:T57)=>bif !(decide (v3.1.2.1=0))then some (((List.replicate 256 (0:Int),([]:List (List Int)),([]:List Int)),v3.1.2.1,()),())else ah (p61 v1 (v3.1.1,())) (λ(v4:(((Int×(List (Int×Int×(List Int)×Bool))×Int×Int)×Int×Unit)×Unit))=>bif !(decide (v4.1.2.1=0))then some (((List.replicate 256 (0:Int),([]:List (List Int)),([]:List Int)),v4.1.2.1,()),())else ah (C4 v1 (v4.1.1,())) (λ(v5:T69)=>some ((v5.1.1,v5.1.2.1,()),()))))
def F68(n:Nat):Fb 68:=fb n [⟨_,F60 n⟩,⟨_,F61 n⟩,⟨_,F130 n⟩] [9,14,18,23,26] [] [] Tryz.func68 Tryz.results68 Tryz.ntmps68 (.seq .nop (.seq .nop (.seq .nop (.seq (.reg none [6]) (.seq .nop (.seq (.reg none [2]) .nop)))))) A18 A9 [] [] (p68 n)
def Kz(v1:Nat)(v2:(((List Int)×(List (List Int))×(List Int))×Int×Int×Unit)):T13:=aq (λ(v3:T5)=>bif v3.2.1 then some ((-1,()),())else if 0<=v2.2.1 then(match v2.1.2.1[(v2.2.1).toNat]? with|some v4=>if 0<=v2.2.2.1 then(match v2.1.1[(v2.2.2.1).toNat]? with|some v5=>if 0<=v5 then(match v4[(v5).toNat]? with|some v6=>some ((v6,()),())|none=>none)else none|none=>none)else none|none=>none)else none) (λv7=>bif decide (v2.2.1<0)then v7 ((),true,())else bif decide ((v2.1.2.1.length:Int)<=v2.2.1)then v7 ((),true,())else if 0<=v2.2.2.1 then(match v2.1.1[(v2.2.2.1).toNat]? with|some v8=>if 0<=v2.2.1 then(match v2.1.2.1[(v2.2.1).toNat]? with|some v9=>v7 ((),decide ((v9.length:Int)<=(IntKind.wrap .i64 v8)),())|none=>none)else none|none=>none)else none)
def F125(n:Nat):Fb 125:=fb n [] [] [] [] Tryz.func125 Tryz.results125 Tryz.ntmps125 (.seq (.reg none [3]) (.seq (.seq (.reg (some ⟨[],[.val 29 y4],[1,2,3]⟩) []) .nop) .nop)) [(y89,.ro),(y2,.ro),(y5,.ro)] A17 [] [] (Kz n)
def FX(v1:Nat)(v2:(((List Int)×(List (List Int))×(List Int))×Int×(List Int)×Unit)):T13:=aA (λ(v3:T9)=>λv4=>aq (λ(v5:T5)=>bif v5.2.1 then if 0<=v3.2.2.1 then(match v2.2.2.1[(v3.2.2.1).toNat]? with|some v6=>ah (Kz v1 (v2.1,v3.2.1,v6,())) (λ(v7:T7)=>v4 ((),v7.1.1,IntKind.wrap .i64 (v3.2.2.1+1),()))|none=>none)else none else some ((v3.2.1,()),())) (λv8=>bif decide (v3.2.2.1<(v2.2.2.1.length:Int))then v8 ((),!(decide (v3.2.1=(-1))),())else v8 ((),false,()))) v1 ((),v2.2.1,0,())
def F191(n:Nat):Fb 191:=fb n [⟨_,F125 n⟩] [] [] [] Tryz.func191 Tryz.results191 Tryz.ntmps191 (.seq (.reg none [3]) (.seq (.seq .nop (.block none (.loop ⟨[],[.val 1 y2,.val 7 y2],[2,3]⟩ (.seq (.seq (.reg (some ⟨[],[.val 15 y4],[1,2,3,7]⟩) []) .nop) .nop)))) .nop)) [(y89,.ro),(y2,.ro),(y9,.ro)] A17 [] [] (FX n)
def FY(v1:Nat)(v2:(((List Int)×(List (List Int))×(List Int))×Int×Unit)):T13:=aq (λ(v3:T5)=>bif v3.2.1 then some ((-1,()),())else if 0<=v2.2.1 then(match v2.1.2.2[(v2.2.1).toNat]? with|some v4=>some ((v4,()),())|none=>none)else none) (λv5=>bif decide (v2.2.1<0)then v5 ((),true,())else v5 ((),decide ((v2.1.2.2.length:Int)<=v2.2.1),()))
def F124(n:Nat):Fb 124:=fb n [] [] [] [] Tryz.func124 Tryz.results124 Tryz.ntmps124 (.seq (.reg none [2]) (.seq (.seq (.reg (some ⟨[],[.val 13 y4],[1,2]⟩) []) .nop) .nop)) A9 A17 [] [] (FY n)
def FZ(v1:Nat)(v2:(((List Int)×(List (List Int))×(List Int))×(List Int)×Unit)):T13:=ah (FX v1 (v2.1,0,v2.2.1,())) (λ(v3:T7)=>ah (FY v1 (v2.1,v3.1.1,())) (λ(v4:T7)=>some ((v4.1.1,()),())))
def F128(n:Nat):Fb 128:=fb n [⟨_,F191 n⟩,⟨_,F124 n⟩] [] [] [] Tryz.func128 Tryz.results128 Tryz.ntmps128 (.seq (.reg none [2]) .nop) [(y89,.ro),(y9,.ro)] A17 [] [] (FZ n)
end
noncomputable section
def xG(v1:Nat)(v2:T10):T15:=aA (λ(v3:T4)=>λv4=>bif decide (v3.2.1<(v2.1.length:Int))then if 0<=v3.2.1 then(match v2.1[(v3.2.1).toNat]? with|some v5=>bif decide (v5=v2.2.1)then some ((true,()),())else v4 ((),IntKind.wrap .i64 (v3.2.1+1),())|none=>none)else none else some ((false,()),())) v1 ((),0,())
def C5(v1:Nat)(v2:T10):T15:=if(64:Int)=0 then none else if 0<=(IntKind.wrap .i64 (Int.tdiv v2.2.1 64))then(match v2.1[(IntKind.wrap .i64 (Int.tdiv v2.2.1 64)).toNat]? with|some v3=>aA (λ(v4:T9)=>λv5=>if(64:Int)=0 then none else bif decide (v4.2.2.1<(Int.tmod v2.2.1 64))then if(2:Int)=0 then none else v5 ((),IntKind.wrap .u64 (Int.tdiv v4.2.1 2),IntKind.wrap .i64 (v4.2.2.1+1),())else if(2:Int)=0 then none else some ((decide ((Int.tmod v4.2.1 2)=1),()),())) v1 ((),v3,0,())|none=>none)else none
def AX(v1:Nat)(v2:((List Bool)×Unit)):T32:=aA (λ(v3:T52)=>λv4=>aq (λ(v5:(((List Int)×(List Int)×Unit)×Bool×Unit))=>bif v5.2.1 then if 0<=v3.2.1 then(match v2.1[(v3.2.1).toNat]? with|some v6=>aq (λ(v7:T42)=>v4 ((v7.1.1,v7.1.2.1,()),IntKind.wrap .i64 (v3.2.1+1),())) (λv8=>bif v6 then if(64:Int)=0 then none else if(64:Int)=0 then none else if 0<=(IntKind.wrap .i64 (Int.tdiv v3.2.1 64))then(match v5.1.2.1[(IntKind.wrap .i64 (Int.tdiv v3.2.1 64)).toNat]? with|some v9=>if(64:Int)=0 then none else if(IntKind.wrap .u64 (Int.tmod v3.2.1 64))<0 then none else if 0<=(IntKind.wrap .i64 (Int.tdiv v3.2.1 64))then(match v5.1.2.1[(IntKind.wrap .i64 (Int.tdiv v3.2.1 64)).toNat]? with|some v10=>if 0<=(IntKind.wrap .i64 (Int.tdiv v3.2.1 64))then(match v5.1.2.1[(IntKind.wrap .i64 (Int.tdiv v3.2.1 64)).toNat]? with|some v11=>v8 ((v5.1.1,List.set v5.1.2.1 (IntKind.wrap .i64 (Int.tdiv v3.2.1 64)).toNat (IntKind.wrap .u64 (v9+(IntKind.wrap .u64 ((1:Int)*2 ^ (Nat.min (Int.toNat (IntKind.wrap .u64 (Int.tmod v3.2.1 64))) (IntKind.bits .u64)))))),()),())|none=>none)else none|none=>none)else none|none=>none)else none else v8 ((v5.1.1,v5.1.2.1,()),()))|none=>none)else none else some ((v5.1.2.1,()),())) (λv12=>bif decide (v3.2.1<256)then v12 ((v3.1.1,v3.1.2.1,()),decide (v3.2.1<(v2.1.length:Int)),())else v12 ((v3.1.1,v3.1.2.1,()),false,()))) v1 ((([0,0,0,0]:List Int),([0,0,0,0]:List Int),()),0,())
def F3(v1:Nat)(v2:(Int×(List Int)×(List Int)×Unit)):T32:=aA (λ(v3:(((List Int)×Unit)×(List Bool)×Int×Unit))=>λv4=>bif decide (v3.2.2.1<256)then ah (C5 v1 (v2.2.1,v3.2.2.1,())) (λ(v5:T8)=>ah (C5 v1 (v2.2.2.1,v3.2.2.1,())) (λ(v6:T8)=>aq (λ(v7:T45)=>v4 ((v7.1.1,()),v7.2.1,IntKind.wrap .i64 (v3.2.2.1+1),())) (λv8=>bif decide (v2.1=0)then aq (λ(v9:T45)=>v8 ((v9.1.1,()),v9.2.1,())) (λv10=>bif v5.1.1 then if(List.length v3.2.1+List.length ([true]:List Bool))*1<=140737488355328 then if List.length v3.2.1+List.length ([true]:List Bool)<=9223372036854775807 then v10 ((v3.1.1,()),v3.2.1++([true]:List Bool),())else none else none else if(List.length v3.2.1+List.length ([v6.1.1]:List Bool))*1<=140737488355328 then if List.length v3.2.1+List.length ([v6.1.1]:List Bool)<=9223372036854775807 then v10 ((v3.1.1,()),v3.2.1++([v6.1.1]:List Bool),())else none else none)else aq (λ(v11:T45)=>v8 ((v11.1.1,()),v11.2.1,())) (λv12=>bif decide (v2.1=1)then aq (λ(v13:T45)=>v12 ((v13.1.1,()),v13.2.1,())) (λv14=>bif v5.1.1 then if(List.length v3.2.1+List.length ([v6.1.1]:List Bool))*1<=140737488355328 then if List.length v3.2.1+List.length ([v6.1.1]:List Bool)<=9223372036854775807 then v14 ((v3.1.1,()),v3.2.1++([v6.1.1]:List Bool),())else none else none else if(List.length v3.2.1+List.length ([false]:List Bool))*1<=140737488355328 then if List.length v3.2.1+List.length ([false]:List Bool)<=9223372036854775807 then v14 ((v3.1.1,()),v3.2.1++([false]:List Bool),())else none else none)else aq (λ(v15:T45)=>v12 ((v15.1.1,()),v15.2.1,())) (λv16=>bif decide (v2.1=2)then aq (λ(v17:T45)=>v16 ((v17.1.1,()),v17.2.1,())) (λv18=>bif v5.1.1 then if(List.length v3.2.1+List.length ([(!v6.1.1)]:List Bool))*1<=140737488355328 then if List.length v3.2.1+List.length ([(!v6.1.1)]:List Bool)<=9223372036854775807 then v18 ((v3.1.1,()),v3.2.1++([(!v6.1.1)]:List Bool),())else none else none else if(List.length v3.2.1+List.length ([false]:List Bool))*1<=140737488355328 then if List.length v3.2.1+List.length ([false]:List Bool)<=9223372036854775807 then v18 ((v3.1.1,()),v3.2.1++([false]:List Bool),())else none else none)else if(List.length v3.2.1+List.length ([(!v5.1.1)]:List Bool))*1<=140737488355328 then if List.length v3.2.1+List.length ([(!v5.1.1)]:List Bool)<=9223372036854775807 then v16 ((v3.1.1,()),v3.2.1++([(!v5.1.1)]:List Bool),())else none else none)))))else ah (AX v1 (v3.2.1,())) (λ(v19:T14)=>some ((v19.1.1,()),()))) v1 ((([0,0,0,0]:List Int),()),([]:List Bool),0,())
def xH(v1:Nat)(v2:T10):T15:=aA (λ(v3:T4)=>λv4=>bif decide (v3.2.1<(v2.1.length:Int))then if 0<=v3.2.1 then(match v2.1[(v3.2.1).toNat]? with|some v5=>bif decide (v5=v2.2.1)then some ((true,()),())else v4 ((),IntKind.wrap .i64 (v3.2.1+1),())|none=>none)else none else some ((false,()),())) v1 ((),0,())
def IH(v1:Nat)(v2:(Int×(List Int)×Unit)):T32:=bif decide (v2.1=10)then some ((([92,110]:List Int),()),())else bif decide (v2.1=9)then some ((([92,116]:List Int),()),())else bif decide (v2.1=13)then some ((([92,114]:List Int),()),())else aq (λ(v3:T5)=>bif v3.2.1 then if(16:Int)=0 then none else if(16:Int)=0 then none else if 0<=(IntKind.wrap .u8 (Int.tdiv v2.1 16))/\(IntKind.wrap .u8 (Int.tdiv v2.1 16))<=(IntKind.wrap .u8 ((IntKind.wrap .u8 (Int.tdiv v2.1 16))+1))/\(IntKind.wrap .u8 ((IntKind.wrap .u8 (Int.tdiv v2.1 16))+1))<=((List.length ([48,49,50,51,52,53,54,55,56,57,97,98,99,100,101,102]:List Int):Nat):Int)then if List.length ([92,120]:List Int)+List.length (bZ ([48,49,50,51,52,53,54,55,56,57,97,98,99,100,101,102]:List Int) (IntKind.wrap .u8 (Int.tdiv v2.1 16)) (IntKind.wrap .u8 ((IntKind.wrap .u8 (Int.tdiv v2.1 16))+1)))<=9223372036854775807 then if(16:Int)=0 then none else if(16:Int)=0 then none else if 0<=(Int.tmod v2.1 16)/\(Int.tmod v2.1 16)<=(IntKind.wrap .u8 ((Int.tmod v2.1 16)+1))/\(IntKind.wrap .u8 ((Int.tmod v2.1 16)+1))<=((List.length ([48,49,50,51,52,53,54,55,56,57,97,98,99,100,101,102]:List Int):Nat):Int)then if List.length (([92,120]:List Int)++(bZ ([48,49,50,51,52,53,54,55,56,57,97,98,99,100,101,102]:List Int) (IntKind.wrap .u8 (Int.tdiv v2.1 16)) (IntKind.wrap .u8 ((IntKind.wrap .u8 (Int.tdiv v2.1 16))+1))))+List.length (bZ ([48,49,50,51,52,53,54,55,56,57,97,98,99,100,101,102]:List Int) (Int.tmod v2.1 16) (IntKind.wrap .u8 ((Int.tmod v2.1 16)+1)))<=9223372036854775807 then some (((([92,120]:List Int)++(bZ ([48,49,50,51,52,53,54,55,56,57,97,98,99,100,101,102]:List Int) (IntKind.wrap .u8 (Int.tdiv v2.1 16)) (IntKind.wrap .u8 ((IntKind.wrap .u8 (Int.tdiv v2.1 16))+1))))++(bZ ([48,49,50,51,52,53,54,55,56,57,97,98,99,100,101,102]:List Int) (Int.tmod v2.1 16) (IntKind.wrap .u8 ((Int.tmod v2.1 16)+1))),()),())else none else none else none else none else aq (λ(v4:T5)=>bif v4.2.1 then if List.length ([92]:List Int)+List.length ([v2.1]:List Int)<=9223372036854775807 then some ((([92]:List Int)++([v2.1]:List Int),()),())else none else some ((([v2.1]:List Int),()),())) (λv5=>bif decide (v2.1=92)then v5 ((),true,())else ah (xH v1 (v2.2.1,v2.1,())) (λ(v6:T8)=>v5 ((),v6.1.1,())))) (λv7=>bif decide (v2.1<32)then v7 ((),true,())else v7 ((),decide (126<v2.1),()))
def F4(v1:Nat)(v2:T1):T15:=ah (xH v1 (([48,49,50,51,52,53,54,55,56,57,97,98,99,100,101,102,103,104,105,106,107,108,109,110,111,112,113,114,115,116,117,118,119,120,121,122,65,66,67,68,69,70,71,72,73,74,75,76,77,78,79,80,81,82,83,84,85,86,87,88,89,90]:List Int),v2.1,())) (λ(v3:T8)=>some ((v3.1.1,()),()))
def C6(v1:Nat)(v2:T6):T39:=bif decide (v2.1=([]:List Int))then some ((0,0,false,()),())else if(0:Int)<=(0:Int)then(match v2.1[(0:Int).toNat]? with|some v3=>bif !(decide (v3=92))then if(0:Int)<=(0:Int)then(match v2.1[(0:Int).toNat]? with|some v4=>some ((v4,1,true,()),())|none=>none)else none else aA (λ(v5:T4)=>λv6=>bif decide (v5.2.1<256)then ah (IH v1 (IntKind.wrap .u8 v5.2.1,([]:List Int),())) (λ(v7:T14)=>aq (λ(v8:T5)=>bif v8.2.1 then some ((IntKind.wrap .u8 v5.2.1,2,true,()),())else if(16:Int)=0 then none else if(16:Int)=0 then none else if 0<=(IntKind.wrap .i64 (Int.tdiv v5.2.1 16))/\(IntKind.wrap .i64 (Int.tdiv v5.2.1 16))<=(IntKind.wrap .i64 ((IntKind.wrap .i64 (Int.tdiv v5.2.1 16))+1))/\(IntKind.wrap .i64 ((IntKind.wrap .i64 (Int.tdiv v5.2.1 16))+1))<=((List.length ([48,49,50,51,52,53,54,55,56,57,97,98,99,100,101,102]:List Int):Nat):Int)then if List.length ([92,120]:List Int)+List.length (bZ ([48,49,50,51,52,53,54,55,56,57,97,98,99,100,101,102]:List Int) (IntKind.wrap .i64 (Int.tdiv v5.2.1 16)) (IntKind.wrap .i64 ((IntKind.wrap .i64 (Int.tdiv v5.2.1 16))+1)))<=9223372036854775807 then if(16:Int)=0 then none else if(16:Int)=0 then none else if 0<=(Int.tmod v5.2.1 16)/\(Int.tmod v5.2.1 16)<=(IntKind.wrap .i64 ((Int.tmod v5.2.1 16)+1))/\(IntKind.wrap .i64 ((Int.tmod v5.2.1 16)+1))<=((List.length ([48,49,50,51,52,53,54,55,56,57,97,98,99,100,101,102]:List Int):Nat):Int)then if List.length (([92,120]:List Int)++(bZ ([48,49,50,51,52,53,54,55,56,57,97,98,99,100,101,102]:List Int) (IntKind.wrap .i64 (Int.tdiv v5.2.1 16)) (IntKind.wrap .i64 ((IntKind.wrap .i64 (Int.tdiv v5.2.1 16))+1))))+List.length (bZ ([48,49,50,51,52,53,54,55,56,57,97,98,99,100,101,102]:List Int) (Int.tmod v5.2.1 16) (IntKind.wrap .i64 ((Int.tmod v5.2.1 16)+1)))<=9223372036854775807 then aq (λ(v9:T5)=>bif v9.2.1 then some ((IntKind.wrap .u8 v5.2.1,4,true,()),())else v6 ((),IntKind.wrap .i64 (v5.2.1+1),())) (λv10=>bif decide (3<(v2.1.length:Int))then if(0:Int)<=(0:Int)/\(0:Int)<=(4:Int)/\(4:Int)<=(v2.1.length:Int)then v10 ((),decide ((bZ v2.1 (0:Int) (4:Int))=((([92,120]:List Int)++(bZ ([48,49,50,51,52,53,54,55,56,57,97,98,99,100,101,102]:List Int) (IntKind.wrap .i64 (Int.tdiv v5.2.1 16)) (IntKind.wrap .i64 ((IntKind.wrap .i64 (Int.tdiv v5.2.1 16))+1))))++(bZ ([48,49,50,51,52,53,54,55,56,57,97,98,99,100,101,102]:List Int) (Int.tmod v5.2.1 16) (IntKind.wrap .i64 ((Int.tmod v5.2.1 16)+1))))),())else none else v10 ((),false,()))else none else none else none else none) (λv11=>bif decide ((v7.1.1.length:Int)=2)then if(0:Int)<=(1:Int)then(match v7.1.1[(1:Int).toNat]? with|some v12=>bif !(decide (v12=92))then bif decide (1<(v2.1.length:Int))then if(0:Int)<=(0:Int)/\(0:Int)<=(2:Int)/\(2:Int)<=(v2.1.length:Int)then v11 ((),decide ((bZ v2.1 (0:Int) (2:Int))=v7.1.1),())else none else v11 ((),false,())else v11 ((),false,())|none=>none)else none else v11 ((),false,())))else aq (λ(v13:T5)=>bif v13.2.1 then if(0:Int)<=(1:Int)then(match v2.1[(1:Int).toNat]? with|some v14=>some ((v14,2,true,()),())|none=>none)else none else some ((0,0,false,()),())) (λv15=>bif decide (1<(v2.1.length:Int))then if(0:Int)<=(1:Int)then(match v2.1[(1:Int).toNat]? with|some v16=>bif decide (32<=v16)then if(0:Int)<=(1:Int)then(match v2.1[(1:Int).toNat]? with|some v17=>bif decide (v17<=126)then if(0:Int)<=(1:Int)then(match v2.1[(1:Int).toNat]? with|some v18=>ah (F4 v1 (v18,())) (λ(v19:T8)=>v15 ((),!v19.1.1,()))|none=>none)else none else v15 ((),false,())|none=>none)else none else v15 ((),false,())|none=>none)else none else v15 ((),false,()))) v1 ((),0,())|none=>none)else none
def II(v1:Nat)(v2:T10):T63:=if(0:Int)<=(256:Int)/\(256:Int)<=(256:Int)then if(256:Int).toNat*1<=140737488355328 then aq (λ(v3:T33)=>aq (λ(v4:T28)=>aA (λ(v5:T28)=>λv6=>aq (λ(v7:T33)=>bif v7.2.1 then if 0<=v5.2.1/\v5.2.1<=(v2.1.length:Int)/\(v2.1.length:Int)<=(v2.1.length:Int)then ah (C6 v1 (bZ v2.1 v5.2.1 (v2.1.length:Int),())) (λ(v8:T19)=>aq (λ(v9:T33)=>bif v9.2.1 then some ((([]:List (Int×(List Int))),v5.2.1,()),())else aq (λ(v10:T33)=>aq (λ(v11:(((List Bool)×Unit)×Int×Int×Unit))=>aA (λ(v12:T28)=>λv13=>bif decide (v12.2.1<=(IntKind.wrap .i64 v11.2.2.1))then if 0<=v12.2.1 then(match v12.1.1[(v12.2.1).toNat]? with|some v14=>if 0<=v12.2.1 then(match v12.1.1[(v12.2.1).toNat]? with|some v15=>v13 ((List.set v12.1.1 (v12.2.1).toNat true,()),IntKind.wrap .i64 (v12.2.1+1),())|none=>none)else none|none=>none)else none else v6 ((v12.1.1,()),v11.2.1,())) v1 ((v11.1.1,()),IntKind.wrap .i64 v8.1.1,())) (λv16=>bif v10.2.1 then aq (λ(v17:T33)=>bif v17.2.1 then some ((([]:List (Int×(List Int))),IntKind.wrap .i64 ((IntKind.wrap .i64 (v5.2.1+v8.1.2.1))+1),()),())else if 0<=(IntKind.wrap .i64 ((IntKind.wrap .i64 (v5.2.1+v8.1.2.1))+1))/\(IntKind.wrap .i64 ((IntKind.wrap .i64 (v5.2.1+v8.1.2.1))+1))<=(v2.1.length:Int)/\(v2.1.length:Int)<=(v2.1.length:Int)then ah (C6 v1 (bZ v2.1 (IntKind.wrap .i64 ((IntKind.wrap .i64 (v5.2.1+v8.1.2.1))+1)) (v2.1.length:Int),())) (λ(v18:T19)=>aq (λ(v19:T33)=>bif v19.2.1 then some ((([]:List (Int×(List Int))),IntKind.wrap .i64 ((IntKind.wrap .i64 (v5.2.1+v8.1.2.1))+1),()),())else v16 ((v19.1.1,()),IntKind.wrap .i64 ((IntKind.wrap .i64 ((IntKind.wrap .i64 (v5.2.1+v8.1.2.1))+1))+v18.1.2.1),v18.1.1,())) (λv20=>bif !v18.1.2.2.1 then v20 ((v17.1.1,()),true,())else v20 ((v17.1.1,()),decide (v18.1.1<v8.1.1),())))else none) (λv21=>bif decide ((v2.1.length:Int)<=(IntKind.wrap .i64 ((IntKind.wrap .i64 (v5.2.1+v8.1.2.1))+1)))then v21 ((v10.1.1,()),true,())else if 0<=(IntKind.wrap .i64 ((IntKind.wrap .i64 (v5.2.1+v8.1.2.1))+1))then(match v2.1[(IntKind.wrap .i64 ((IntKind.wrap .i64 (v5.2.1+v8.1.2.1))+1)).toNat]? with|some v22=>ah (xG v1 (([93,94,45,47,34]:List Int),v22,())) (λ(v23:T8)=>v21 ((v10.1.1,()),v23.1.1,()))|none=>none)else none)else v16 ((v10.1.1,()),IntKind.wrap .i64 (v5.2.1+v8.1.2.1),v8.1.1,()))) (λv24=>bif decide ((IntKind.wrap .i64 (v5.2.1+v8.1.2.1))<(v2.1.length:Int))then if 0<=(IntKind.wrap .i64 (v5.2.1+v8.1.2.1))then(match v2.1[(IntKind.wrap .i64 (v5.2.1+v8.1.2.1)).toNat]? with|some v25=>v24 ((v9.1.1,()),decide (v25=45),())|none=>none)else none else v24 ((v9.1.1,()),false,()))) (λv26=>bif !v8.1.2.2.1 then v26 ((v7.1.1,()),true,())else if 0<=v5.2.1 then(match v2.1[(v5.2.1).toNat]? with|some v27=>ah (xG v1 (([94,45,47,34]:List Int),v27,())) (λ(v28:T8)=>v26 ((v7.1.1,()),v28.1.1,()))|none=>none)else none))else none else ah (AX v1 (v7.1.1,())) (λ(v29:T14)=>aq (λ(v30:T14)=>aq (λ(v31:T29)=>bif v31.2.1 then some ((([]:List (Int×(List Int))),v5.2.1,()),())else some ((([(1,v31.1.1)]:List (Int×(List Int))),IntKind.wrap .i64 (v5.2.1+1),()),())) (λv32=>bif decide ((v2.1.length:Int)<=v5.2.1)then v32 ((v30.1.1,()),true,())else v32 ((v30.1.1,()),decide (v30.1.1=([0,0,0,0]:List Int)),()))) (λv33=>bif v3.2.1 then ah (F3 v1 (3,v29.1.1,v29.1.1,())) (λ(v34:T14)=>v33 ((v34.1.1,()),()))else v33 ((v29.1.1,()),())))) (λv35=>bif decide (v5.2.1<(v2.1.length:Int))then if 0<=v5.2.1 then(match v2.1[(v5.2.1).toNat]? with|some v36=>v35 ((v5.1.1,()),!(decide (v36=93)),())|none=>none)else none else v35 ((v5.1.1,()),false,()))) v1 ((v4.1.1,()),v4.2.1,())) (λv37=>bif v3.2.1 then v37 ((v3.1.1,()),IntKind.wrap .i64 (v2.2.1+1),())else v37 ((v3.1.1,()),v2.2.1,()))) (λv38=>bif decide (v2.2.1<(v2.1.length:Int))then if 0<=v2.2.1 then(match v2.1[(v2.2.1).toNat]? with|some v39=>v38 ((List.replicate (256:Int).toNat false,()),decide (v39=94),())|none=>none)else none else v38 ((List.replicate (256:Int).toNat false,()),false,()))else none else none
def C7(v1:Nat)(v2 v3 v4 v5:T82)(v6:T17):T63:=ah (v3 (v6.1,v6.2.1,v6.2.2.1,())) (λ(v7:T57)=>aA (λ(v8:T53)=>λv9=>aq (λ(v10:T5)=>bif v10.2.1 then ah (v3 (v6.1,IntKind.wrap .i64 (v8.2.1+1),v6.2.2.1,())) (λ(v11:T57)=>bif List.isEmpty v11.1.1 then some ((([]:List (Int×(List Int))),v11.1.2.1,()),())else if(List.length ([]:List (Int×(List Int)))+List.length v8.2.2.1)*40<=140737488355328 then if List.length ([]:List (Int×(List Int)))+List.length v8.2.2.1<=9223372036854775807 then if(List.length (([]:List (Int×(List Int)))++v8.2.2.1)+List.length v11.1.1)*40<=140737488355328 then if List.length (([]:List (Int×(List Int)))++v8.2.2.1)+List.length v11.1.1<=9223372036854775807 then if(List.length ((([]:List (Int×(List Int)))++v8.2.2.1)++v11.1.1)+List.length ([(3,([0,0,0,0]:List Int))]:List (Int×(List Int))))*40<=140737488355328 then if List.length ((([]:List (Int×(List Int)))++v8.2.2.1)++v11.1.1)+List.length ([(3,([0,0,0,0]:List Int))]:List (Int×(List Int)))<=9223372036854775807 then bif List.isEmpty (((([]:List (Int×(List Int)))++v8.2.2.1)++v11.1.1)++([(3,([0,0,0,0]:List Int))]:List (Int×(List Int))))then none else v9 ((),v11.1.2.1,((([]:List (Int×(List Int)))++v8.2.2.1)++v11.1.1)++([(3,([0,0,0,0]:List Int))]:List (Int×(List Int))),())else none else none else none else none else none else none)else some ((v8.2.2.1,v8.2.1,()),())) (λv12=>bif !(List.isEmpty v8.2.2.1)then bif decide (v8.2.1<(v6.1.length:Int))then if 0<=v8.2.1 then(match v6.1[(v8.2.1).toNat]? with|some v13=>v12 ((),decide (v13=124),())|none=>none)else none else v12 ((),false,())else v12 ((),false,()))) v1 ((),v7.1.2.1,v7.1.1,()))
def C8(v1:Nat)(v2 v3 v4 v5:T82)(v6:T17):T63:=ah (v4 (v6.1,v6.2.1,v6.2.2.1,())) (λ(v7:T57)=>aA (λ(v8:T53)=>λv9=>aq (λ(v10:T5)=>bif v10.2.1 then ah (v4 (v6.1,v8.2.1,v6.2.2.1,())) (λ(v11:T57)=>bif List.isEmpty v11.1.1 then some ((([]:List (Int×(List Int))),v11.1.2.1,()),())else if(List.length ([]:List (Int×(List Int)))+List.length v8.2.2.1)*40<=140737488355328 then if List.length ([]:List (Int×(List Int)))+List.length v8.2.2.1<=9223372036854775807 then if(List.length (([]:List (Int×(List Int)))++v8.2.2.1)+List.length v11.1.1)*40<=140737488355328 then if List.length (([]:List (Int×(List Int)))++v8.2.2.1)+List.length v11.1.1<=9223372036854775807 then if(List.length ((([]:List (Int×(List Int)))++v8.2.2.1)++v11.1.1)+List.length ([(2,([0,0,0,0]:List Int))]:List (Int×(List Int))))*40<=140737488355328 then if List.length ((([]:List (Int×(List Int)))++v8.2.2.1)++v11.1.1)+List.length ([(2,([0,0,0,0]:List Int))]:List (Int×(List Int)))<=9223372036854775807 then bif List.isEmpty (((([]:List (Int×(List Int)))++v8.2.2.1)++v11.1.1)++([(2,([0,0,0,0]:List Int))]:List (Int×(List Int))))then none else v9 ((),v11.1.2.1,((([]:List (Int×(List Int)))++v8.2.2.1)++v11.1.1)++([(2,([0,0,0,0]:List Int))]:List (Int×(List Int))),())else none else none else none else none else none else none)else some ((v8.2.2.1,v8.2.1,()),())) (λv12=>bif !(List.isEmpty v8.2.2.1)then bif decide (v8.2.1<(v6.1.length:Int))then if 0<=v8.2.1 then(match v6.1[(v8.2.1).toNat]? with|some v13=>ah (xG v1 (([124,41]:List Int),v13,())) (λ(v14:T8)=>v12 ((),!v14.1.1,()))|none=>none)else none else v12 ((),false,())else v12 ((),false,()))) v1 ((),v7.1.2.1,v7.1.1,()))
def C9(v1:Nat)(v2 v3 v4 v5:T82)(v6:T17):T63:=ah (v5 (v6.1,v6.2.1,v6.2.2.1,())) (λ(v7:T57)=>aA (λ(v8:T53)=>λv9=>aq (λ(v10:T5)=>bif v10.2.1 then if 0<=v8.2.1 then(match v6.1[(v8.2.1).toNat]? with|some v11=>aq (λ(v12:T4)=>if 0<=v8.2.1 then(match v6.1[(v8.2.1).toNat]? with|some v13=>aq (λ(v14:T4)=>if(List.length ([]:List (Int×(List Int)))+List.length v8.2.2.1)*40<=140737488355328 then if List.length ([]:List (Int×(List Int)))+List.length v8.2.2.1<=9223372036854775807 then if(List.length (([]:List (Int×(List Int)))++v8.2.2.1)+List.length ([(v14.2.1,([0,0,0,0]:List Int))]:List (Int×(List Int))))*40<=140737488355328 then if List.length (([]:List (Int×(List Int)))++v8.2.2.1)+List.length ([(v14.2.1,([0,0,0,0]:List Int))]:List (Int×(List Int)))<=9223372036854775807 then bif List.isEmpty ((([]:List (Int×(List Int)))++v8.2.2.1)++([(v14.2.1,([0,0,0,0]:List Int))]:List (Int×(List Int))))then none else v9 ((),IntKind.wrap .i64 (v8.2.1+1),(([]:List (Int×(List Int)))++v8.2.2.1)++([(v14.2.1,([0,0,0,0]:List Int))]:List (Int×(List Int))),())else none else none else none else none) (λv15=>bif decide (v13=63)then v15 ((),6,())else v15 ((),v12.2.1,()))|none=>none)else none) (λv16=>bif decide (v11=43)then v16 ((),5,())else v16 ((),4,()))|none=>none)else none else some ((v8.2.2.1,v8.2.1,()),())) (λv17=>bif !(List.isEmpty v8.2.2.1)then bif decide (v8.2.1<(v6.1.length:Int))then if 0<=v8.2.1 then(match v6.1[(v8.2.1).toNat]? with|some v18=>ah (xG v1 (([42,43,63]:List Int),v18,())) (λ(v19:T8)=>v17 ((),v19.1.1,()))|none=>none)else none else v17 ((),false,())else v17 ((),false,()))) v1 ((),v7.1.2.1,v7.1.1,()))
def Da(v1:Nat)(v2 v3 v4 v5:T82)(v6:T17):T63:=aq (λ(v7:T5)=>bif v7.2.1 then some ((([]:List (Int×(List Int))),v6.2.1,()),())else if 0<=v6.2.1 then(match v6.1[(v6.2.1).toNat]? with|some v8=>bif decide (v8=46)then ah (F3 v1 (3,([0,0,0,0]:List Int),([0,0,0,0]:List Int),())) (λ(v9:T14)=>some ((([(1,v9.1.1)]:List (Int×(List Int))),IntKind.wrap .i64 (v6.2.1+1),()),()))else if 0<=v6.2.1 then(match v6.1[(v6.2.1).toNat]? with|some v10=>bif decide (v10=126)then some ((([(0,([0,0,0,0]:List Int))]:List (Int×(List Int))),IntKind.wrap .i64 (v6.2.1+1),()),())else if 0<=v6.2.1 then(match v6.1[(v6.2.1).toNat]? with|some v11=>bif decide (v11=91)then ah (II v1 (v6.1,IntKind.wrap .i64 (v6.2.1+1),())) (λ(v12:T57)=>some ((v12.1.1,v12.1.2.1,()),()))else if 0<=v6.2.1 then(match v6.1[(v6.2.1).toNat]? with|some v13=>bif decide (v13=40)then bif decide (99<=v6.2.2.1)then some ((([]:List (Int×(List Int))),v6.2.1,()),())else ah (v2 (v6.1,IntKind.wrap .i64 (v6.2.1+1),IntKind.wrap .i64 (v6.2.2.1+1),())) (λ(v14:T57)=>aq (λ(v15:T5)=>bif v15.2.1 then some ((([]:List (Int×(List Int))),v14.1.2.1,()),())else some ((v14.1.1,IntKind.wrap .i64 (v14.1.2.1+1),()),())) (λv16=>bif List.isEmpty v14.1.1 then v16 ((),true,())else bif decide ((v6.1.length:Int)<=v14.1.2.1)then v16 ((),true,())else if 0<=v14.1.2.1 then(match v6.1[(v14.1.2.1).toNat]? with|some v17=>v16 ((),!(decide (v17=41)),())|none=>none)else none))else if 0<=v6.2.1/\v6.2.1<=(v6.1.length:Int)/\(v6.1.length:Int)<=(v6.1.length:Int)then ah (C6 v1 (bZ v6.1 v6.2.1 (v6.1.length:Int),())) (λ(v18:T19)=>bif !v18.1.2.2.1 then some ((([]:List (Int×(List Int))),v6.2.1,()),())else if(0:Int)<=(256:Int)/\(256:Int)<=(256:Int)then if(256:Int).toNat*1<=140737488355328 then if 0<=v18.1.1 then(match(List.replicate (256:Int).toNat false)[(v18.1.1).toNat]? with|some v19=>if 0<=v18.1.1 then(match(List.replicate (256:Int).toNat false)[(v18.1.1).toNat]? with|some v20=>ah (AX v1 (List.set (List.replicate (256:Int).toNat false) (v18.1.1).toNat true,())) (λ(v21:T14)=>some ((([(1,v21.1.1)]:List (Int×(List Int))),IntKind.wrap .i64 (v6.2.1+v18.1.2.1),()),()))|none=>none)else none|none=>none)else none else none else none)else none|none=>none)else none|none=>none)else none|none=>none)else none|none=>none)else none) (λv22=>bif decide ((v6.1.length:Int)<=v6.2.1)then v22 ((),true,())else if 0<=v6.2.1 then(match v6.1[(v6.2.1).toNat]? with|some v23=>ah (xG v1 (([124,41,42,43,63,93,47,34]:List Int),v23,())) (λ(v24:T8)=>v22 ((),v24.1.1,()))|none=>none)else none)
def cK(n:Nat):Nat->(T17->T63)×(T17->T63)×(T17->T63)×(T17->T63)
 |0=>(λ_=>none,λ_=>none,λ_=>none,λ_=>none)
 |d+1=>(λx=>C7 n (cK n d).1 (cK n d).2.1 (cK n d).2.2.1 (cK n d).2.2.2 x,λx=>C8 n (cK n d).1 (cK n d).2.1 (cK n d).2.2.1 (cK n d).2.2.2 x,λx=>C9 n (cK n d).1 (cK n d).2.1 (cK n d).2.2.1 (cK n d).2.2.2 x,λx=>Da n (cK n d).1 (cK n d).2.1 (cK n d).2.2.1 (cK n d).2.2.2 x)
def KA(n:Nat)(x:T17):T63:=(cK n n).1 x
def IJ(v1:Nat)(v2:T6):T63:=bif decide (1600<(v2.1.length:Int))then some ((([]:List (Int×(List Int))),6,()),())else ah (KA v1 (v2.1,0,0,())) (λ(v3:T57)=>aq (λ(v4:T5)=>bif v4.2.1 then some ((([]:List (Int×(List Int))),5,()),())else bif decide (400<(v3.1.1.length:Int))then some ((([]:List (Int×(List Int))),6,()),())else some ((v3.1.1,0,()),())) (λv5=>bif List.isEmpty v3.1.1 then v5 ((),true,())else v5 ((),decide (v3.1.2.1<(v2.1.length:Int)),())))
def Db(v1:Nat)(v2:T1):T13:=aq (λ(v3:T29)=>bif v3.2.1 then some ((-1,()),())else if 0<=v2.1 then(match v3.1.1[(v2.1).toNat]? with|some v4=>some ((v4,()),())|none=>none)else none) (λv5=>bif decide (v2.1<0)then v5 ((([0,0,2,2,1,1,1]:List Int),()),true,())else v5 ((([0,0,2,2,1,1,1]:List Int),()),decide (6<v2.1),()))
def AY(v1:Nat)(v2:((List (Int×(List Int)))×Int×Unit)):T13:=aA (λ(v3:T9)=>λv4=>bif decide (0<=v3.2.2.1)then if 0<=v3.2.2.1 then(match v2.1[(v3.2.2.1).toNat]? with|some v5=>ah (Db v1 (v5.1,())) (λ(v6:T7)=>bif decide ((IntKind.wrap .i64 ((IntKind.wrap .i64 (v3.2.1-1))+v6.1.1))=0)then some ((v3.2.2.1,()),())else v4 ((),IntKind.wrap .i64 ((IntKind.wrap .i64 (v3.2.1-1))+v6.1.1),IntKind.wrap .i64 (v3.2.2.1-1),()))|none=>none)else none else some ((0,()),())) v1 ((),1,v2.2.1,())
def vX(v1:Nat)(v2:T27):Option (((List (List (Int×(List Int))))×Unit)×Unit):=if 0<=(IntKind.wrap .i64 ((v2.1.length:Int)-1))then(match v2.1[(IntKind.wrap .i64 ((v2.1.length:Int)-1)).toNat]? with|some v3=>ah (Db v1 (v3.1,())) (λ(v4:T7)=>aA (λ(v5:(Unit×(List (List (Int×(List Int))))×Int×Int×Unit))=>λv6=>bif decide (0<v5.2.2.2.1)then ah (AY v1 (v2.1,IntKind.wrap .i64 (v5.2.2.1-1),())) (λ(v7:T7)=>if 0<=v7.1.1/\v7.1.1<=v5.2.2.1/\v5.2.2.1<=(v2.1.length:Int)then if(List.length ([(bZ v2.1 v7.1.1 v5.2.2.1)]:List (List (Int×(List Int))))+List.length v5.2.1)*24<=140737488355328 then if List.length ([(bZ v2.1 v7.1.1 v5.2.2.1)]:List (List (Int×(List Int))))+List.length v5.2.1<=9223372036854775807 then v6 ((),([(bZ v2.1 v7.1.1 v5.2.2.1)]:List (List (Int×(List Int))))++v5.2.1,v7.1.1,IntKind.wrap .i64 (v5.2.2.2.1-1),())else none else none else none)else some ((v5.2.1,()),())) v1 ((),([]:List (List (Int×(List Int)))),IntKind.wrap .i64 ((v2.1.length:Int)-1),v4.1.1,()))|none=>none)else none
def F5(v1:Nat)(v2:((List Bool)×(List Bool)×Unit)):T35:=aA (λ(v3:T22)=>λv4=>bif decide (v3.2.2.1<(v2.1.length:Int))then aq (λ(v5:(Unit×(List Bool)×Unit))=>v4 ((),v5.2.1,IntKind.wrap .i64 (v3.2.2.1+1),())) (λv6=>if 0<=v3.2.2.1 then(match v2.1[(v3.2.2.1).toNat]? with|some v7=>bif v7 then if(List.length v3.2.1+List.length ([true]:List Bool))*1<=140737488355328 then if List.length v3.2.1+List.length ([true]:List Bool)<=9223372036854775807 then v6 ((),v3.2.1++([true]:List Bool),())else none else none else if 0<=v3.2.2.1 then(match v2.2.1[(v3.2.2.1).toNat]? with|some v8=>if(List.length v3.2.1+List.length ([v8]:List Bool))*1<=140737488355328 then if List.length v3.2.1+List.length ([v8]:List Bool)<=9223372036854775807 then v6 ((),v3.2.1++([v8]:List Bool),())else none else none|none=>none)else none|none=>none)else none)else some ((v3.2.1,()),())) v1 ((),([]:List Bool),0,())
def lr(v1:Nat)(v2 v3:T86)(v4:T66):T35:=if 0<=(v4.2.2.1.length:Int)/\(v4.2.2.1.length:Int)<=(v4.2.2.1.length:Int)then if(v4.2.2.1.length:Int).toNat*1<=140737488355328 then ah (vX v1 (v4.1,())) (λ(v5:(((List (List (Int×(List Int))))×Unit)×Unit))=>if 0<=(IntKind.wrap .i64 ((v4.1.length:Int)-1))then(match v4.1[(IntKind.wrap .i64 ((v4.1.length:Int)-1)).toNat]? with|some v6=>bif decide (v6.1=0)then some ((v4.2.2.1,()),())else bif decide (v6.1=1)then aA (λ(v7:T28)=>λv8=>bif decide (v7.2.1<(v4.2.1.length:Int))then aq (λ(v9:T16)=>v8 ((v9.1.1,()),IntKind.wrap .i64 (v7.2.1+1),())) (λv10=>if 0<=v7.2.1 then(match v4.2.2.1[(v7.2.1).toNat]? with|some v11=>bif v11 then if 0<=(IntKind.wrap .i64 ((v4.1.length:Int)-1))then(match v4.1[(IntKind.wrap .i64 ((v4.1.length:Int)-1)).toNat]? with|some v12=>if 0<=v7.2.1 then(match v4.2.1[(v7.2.1).toNat]? with|some v13=>ah (C5 v1 (v12.2,IntKind.wrap .i64 v13,())) (λ(v14:T8)=>if 0<=(IntKind.wrap .i64 (v7.2.1+1))then(match v7.1.1[(IntKind.wrap .i64 (v7.2.1+1)).toNat]? with|some v15=>if 0<=(IntKind.wrap .i64 (v7.2.1+1))then(match v7.1.1[(IntKind.wrap .i64 (v7.2.1+1)).toNat]? with|some v16=>v10 ((List.set v7.1.1 (IntKind.wrap .i64 (v7.2.1+1)).toNat v14.1.1,()),())|none=>none)else none|none=>none)else none)|none=>none)else none|none=>none)else none else if 0<=(IntKind.wrap .i64 (v7.2.1+1))then(match v7.1.1[(IntKind.wrap .i64 (v7.2.1+1)).toNat]? with|some v17=>if 0<=(IntKind.wrap .i64 (v7.2.1+1))then(match v7.1.1[(IntKind.wrap .i64 (v7.2.1+1)).toNat]? with|some v18=>v10 ((List.set v7.1.1 (IntKind.wrap .i64 (v7.2.1+1)).toNat false,()),())|none=>none)else none|none=>none)else none|none=>none)else none)else some ((v7.1.1,()),())) v1 ((List.replicate (v4.2.2.1.length:Int).toNat false,()),0,())else bif decide (v6.1=2)then if(0:Int)<=(1:Int)then(match v5.1.1[(1:Int).toNat]? with|some v19=>if(0:Int)<=(0:Int)then(match v5.1.1[(0:Int).toNat]? with|some v20=>ah (v2 (v20,v4.2.1,v4.2.2.1,())) (λ(v21:T16)=>ah (v2 (v19,v4.2.1,v21.1.1,())) (λ(v22:T16)=>some ((v22.1.1,()),())))|none=>none)else none|none=>none)else none else bif decide (v6.1=3)then if(0:Int)<=(0:Int)then(match v5.1.1[(0:Int).toNat]? with|some v23=>ah (v2 (v23,v4.2.1,v4.2.2.1,())) (λ(v24:T16)=>if(0:Int)<=(1:Int)then(match v5.1.1[(1:Int).toNat]? with|some v25=>ah (v2 (v25,v4.2.1,v4.2.2.1,())) (λ(v26:T16)=>ah (F5 v1 (v24.1.1,v26.1.1,())) (λ(v27:T16)=>some ((v27.1.1,()),())))|none=>none)else none)|none=>none)else none else bif decide (v6.1=6)then if(0:Int)<=(0:Int)then(match v5.1.1[(0:Int).toNat]? with|some v28=>ah (v2 (v28,v4.2.1,v4.2.2.1,())) (λ(v29:T16)=>ah (F5 v1 (v4.2.2.1,v29.1.1,())) (λ(v30:T16)=>some ((v30.1.1,()),())))|none=>none)else none else if 0<=(IntKind.wrap .i64 ((v4.1.length:Int)-1))then(match v4.1[(IntKind.wrap .i64 ((v4.1.length:Int)-1)).toNat]? with|some v31=>bif decide (v31.1=4)then if(0:Int)<=(0:Int)then(match v5.1.1[(0:Int).toNat]? with|some v32=>ah (v3 (v32,v4.2.1,v4.2.2.1,())) (λ(v33:T16)=>some ((v33.1.1,()),()))|none=>none)else none else if(0:Int)<=(0:Int)then(match v5.1.1[(0:Int).toNat]? with|some v34=>if(0:Int)<=(0:Int)then(match v5.1.1[(0:Int).toNat]? with|some v35=>ah (v2 (v35,v4.2.1,v4.2.2.1,())) (λ(v36:T16)=>ah (v3 (v34,v4.2.1,v36.1.1,())) (λ(v37:T16)=>some ((v37.1.1,()),())))|none=>none)else none|none=>none)else none|none=>none)else none|none=>none)else none)else none else none
def Dc(v1:Nat)(v2 v3:T86)(v4:T66):T35:=aA (λ(v5:T22)=>λv6=>bif decide (v5.2.2.1<=(v4.2.1.length:Int))then ah (v2 (v4.1,v4.2.1,v5.2.1,())) (λ(v7:T16)=>ah (F5 v1 (v5.2.1,v7.1.1,())) (λ(v8:T16)=>aA (λ(v9:(Unit×Bool×Int×Unit))=>λv10=>bif decide (v9.2.2.1<(v8.1.1.length:Int))then aq (λ(v11:T5)=>v10 ((),v11.2.1,IntKind.wrap .i64 (v9.2.2.1+1),())) (λv12=>bif v9.2.1 then if 0<=v9.2.2.1 then(match v8.1.1[(v9.2.2.1).toNat]? with|some v13=>if 0<=v9.2.2.1 then(match v5.2.1[(v9.2.2.1).toNat]? with|some v14=>v12 ((),v13 == v14,())|none=>none)else none|none=>none)else none else v12 ((),false,()))else bif v9.2.1 then some ((v8.1.1,()),())else v6 ((),v8.1.1,IntKind.wrap .i64 (v5.2.2.1+1),())) v1 ((),true,0,())))else some ((v5.2.1,()),())) v1 ((),v4.2.2.1,0,())
def fV(n:Nat):Nat->(T66->T35)×(T66->T35)
 |0=>(λ_=>none,λ_=>none)
 |d+1=>(λx=>lr n (fV n d).1 (fV n d).2 x,λx=>Dc n (fV n d).1 (fV n d).2 x)
def KB(n:Nat)(x:T66):T35:=(fV n n).1 x
def IK(v1:Nat)(v2:((List (Int×(List Int)))×(List Int)×Unit)):T15:=if 0<=(IntKind.wrap .i64 ((v2.2.1.length:Int)+1))/\(IntKind.wrap .i64 ((v2.2.1.length:Int)+1))<=(IntKind.wrap .i64 ((v2.2.1.length:Int)+1))then if(IntKind.wrap .i64 ((v2.2.1.length:Int)+1)).toNat*1<=140737488355328 then if(0:Int)<=(0:Int)then(match(List.replicate (IntKind.wrap .i64 ((v2.2.1.length:Int)+1)).toNat false)[(0:Int).toNat]? with|some v3=>if(0:Int)<=(0:Int)then(match(List.replicate (IntKind.wrap .i64 ((v2.2.1.length:Int)+1)).toNat false)[(0:Int).toNat]? with|some v4=>ah (KB v1 (v2.1,v2.2.1,List.set (List.replicate (IntKind.wrap .i64 ((v2.2.1.length:Int)+1)).toNat false) (0:Int).toNat true,())) (λ(v5:T16)=>if 0<=(v2.2.1.length:Int)then(match v5.1.1[(v2.2.1.length:Int).toNat]? with|some v6=>some ((v6,()),())|none=>none)else none)|none=>none)else none|none=>none)else none else none else none
end
noncomputable section
def AZ(v1:Nat)(v2:T1):T13:=aq (λ(v3:T2)=>some ((3,()),())) (λv4=>aq (λ(v5:T2)=>v4 ((),())) (λv6=>aq (λ(v7:T5)=>bif v7.2.1 then some ((1,()),())else aq (λ(v8:T5)=>bif v8.2.1 then some ((2,()),())else aq (λ(v9:T5)=>bif v9.2.1 then v6 ((),())else aq (λ(v10:T5)=>bif v10.2.1 then v6 ((),())else bif decide (v2.1=95)then v4 ((),())else aq (λ(v11:T5)=>bif v11.2.1 then some ((4,()),())else some ((0,()),())) (λv12=>bif decide (32<v2.1)then v12 ((),decide (v2.1<=126),())else v12 ((),false,()))) (λv13=>bif decide (65<=v2.1)then v13 ((),decide (v2.1<=90),())else v13 ((),false,()))) (λv14=>bif decide (97<=v2.1)then v14 ((),decide (v2.1<=122),())else v14 ((),false,()))) (λv15=>bif decide (48<=v2.1)then v15 ((),decide (v2.1<=57),())else v15 ((),false,()))) (λv16=>bif decide (v2.1=32)then v16 ((),decide (v2.1=32),())else aq (λ(v17:T5)=>v16 ((),v17.2.1,())) (λv18=>bif decide (v2.1=9)then v18 ((),decide (v2.1=9),())else aq (λ(v19:T5)=>v18 ((),v19.2.1,())) (λv20=>bif decide (v2.1=10)then v20 ((),decide (v2.1=10),())else v20 ((),decide (v2.1=13),()))))))
def F201(n:Nat):Fb 201:=fb n [] [] [] [] Tryz.func201 Tryz.results201 Tryz.ntmps201 (.seq .nop (.seq (.block none (.seq (.block none (.seq (.block (some ⟨[],[],[]⟩) (.block (some ⟨[],[],[]⟩) (.block none (.seq (.block none (.seq (.block none (.seq (.seq (.seq (.seq .nop (.cond (some ⟨[],[.val 3 y4],[0]⟩) .nop (.seq .nop (.cond (some ⟨[],[.val 3 y4],[0]⟩) .nop (.seq .nop (.cond (some ⟨[],[.val 3 y4],[0]⟩) .nop .nop)))))) .nop) (.seq (.seq (.reg (some ⟨[],[.val 12 y4],[0]⟩) []) .nop) (.seq (.seq (.reg (some ⟨[],[.val 19 y4],[0]⟩) []) .nop) (.seq (.seq (.reg (some ⟨[],[.val 26 y4],[0]⟩) []) .nop) (.seq .nop (.seq (.reg (some ⟨[],[.val 36 y4],[]⟩) []) .nop)))))) .nop)) .nop)) .nop)))) .nop)) .nop)) .nop)) [(y5,.ro)] A17 [] [] (AZ n)
def A1(v1:Nat)(v2:T6):T15:=aq (λ(v3:T5)=>bif v3.2.1 then some ((false,()),())else aA (λ(v4:T4)=>λv5=>bif decide (v4.2.1<(v2.1.length:Int))then if 0<=v4.2.1 then(match v2.1[(v4.2.1).toNat]? with|some v6=>ah (AZ v1 (v6,())) (λ(v7:T7)=>aq (λ(v8:T5)=>bif v8.2.1 then some ((false,()),())else v5 ((),IntKind.wrap .i64 (v4.2.1+1),())) (λv9=>bif !(decide (v7.1.1=2))then v9 ((),!(decide (v7.1.1=3)),())else v9 ((),false,())))|none=>none)else none else some ((true,()),())) v1 ((),0,())) (λv10=>bif decide (40<(v2.1.length:Int))then v10 ((),true,())else bif decide (v2.1=([]:List Int))then v10 ((),true,())else if(0:Int)<=(0:Int)then(match v2.1[(0:Int).toNat]? with|some v11=>ah (AZ v1 (v11,())) (λ(v12:T7)=>v10 ((),!(decide (v12.1.1=3)),()))|none=>none)else none)
def F158(n:Nat):Fb 158:=fb n [⟨_,F201 n⟩] [] [] [] Tryz.func158 Tryz.results158 Tryz.ntmps158 (.seq .nop (.seq (.seq (.reg (some ⟨[],[.val 17 y4],[0]⟩) []) .nop) (.seq (.seq .nop (.block none (.loop ⟨[],[.val 20 y2],[0,19]⟩ (.seq .nop (.seq .nop (.seq (.block none (.seq .nop (.seq .nop (.seq (.reg (some ⟨[],[.val 32 y4],[0,19,20]⟩) []) .nop)))) .nop)))))) .nop))) A18 A16 [] [] (A1 n)
def F7(v1:Nat)(v2:(((List Int)×Int×(List Int))×(List ((List Int)×Int))×Unit)):T13:=ah (A1 v1 (v2.1.1,())) (λ(v3:T8)=>bif !v3.1.1 then some ((8,()),())else bif decide (0<(cW (λ(v4:T0)=>λ(v5:T0)=>decide (v4=v5)) v2.1.1 v2.2.1))then some ((9,()),())else aq (λ(v6:T5)=>bif v6.2.1 then some ((1,()),())else ah (p68 v1 (v2.1.2.2,())) (λ(v7:T69)=>bif !(decide (v7.1.2.1=0))then some ((v7.1.2.1,()),())else ah (FZ v1 (v7.1.1,([]:List Int),())) (λ(v8:T7)=>bif decide (0<=v8.1.1)then some ((14,()),())else some ((0,()),())))) (λv9=>bif decide (v2.1.2.1<0)then v9 ((),true,())else v9 ((),decide (2<v2.1.2.1),())))
def F109(n:Nat):Fb 109:=fb n [⟨_,F158 n⟩,⟨_,F68 n⟩,⟨_,F128 n⟩] [30] [] [] Tryz.func109 Tryz.results109 Tryz.ntmps109 (.seq (.reg none [2]) (.seq (.block none (.seq .nop (.cond none .nop (.seq .nop (.cond none .nop (.seq (.reg (some ⟨[],[.val 18 y4],[2]⟩) []) .nop)))))) (.seq (.reg none [5]) .nop))) [(y95,.ro),(pJ,.ro)] A17 [] [] (F7 n)
def p59(v1:Nat)(v2:T56):T25:=bif decide (60<(v2.1.length:Int))then some (((v2.1.length:Int),6,()),())else aA (λ(v3:(((List ((List Int)×Int))×Unit)×Int×Unit))=>λv4=>bif decide (v3.2.1<(v2.1.length:Int))then if 0<=v3.2.1 then(match v2.1[(v3.2.1).toNat]? with|some v5=>ah (F7 v1 (v5,v3.1.1,())) (λ(v6:T7)=>bif !(decide (v6.1.1=0))then some ((v3.2.1,v6.1.1,()),())else v4 ((fB (λ(v7:T0)=>λ(v8:T0)=>decide (v7=v8)) v5.1 (IntKind.wrap .i64 ((cW (λ(v9:T0)=>λ(v10:T0)=>decide (v9=v10)) v5.1 v3.1.1)+1)) v3.1.1,()),IntKind.wrap .i64 (v3.2.1+1),()))|none=>none)else none else some (((v2.1.length:Int),0,()),())) v1 ((([]:List ((List Int)×Int)),()),0,())
def F59(n:Nat):Fb 59:=fb n [⟨_,F109 n⟩] [] [] [] Tryz.func59 Tryz.results59 Tryz.ntmps59 (.seq .nop (.seq .nop (.seq .nop (.seq (.seq .nop (.block none (.loop ⟨[(104,pJ,.own .ro)],[.val 16 y2],[0,4,14,15]⟩ (.seq .nop (.seq .nop (.seq (.block none (.seq (.reg none [6]) .nop)) .nop)))))) .nop)))) [(y28,.ro)] A11 [] [] (p59 n)
def F8(v1:Nat)(v2:T40):T13:=aA (λ(v3:T4)=>λv4=>bif decide (v3.2.1<(v2.1.length:Int))then if 0<=v3.2.1 then(match v2.1[(v3.2.1).toNat]? with|some v5=>bif decide (v2.2.1=v5)then some ((v3.2.1,()),())else v4 ((),IntKind.wrap .i64 (v3.2.1+1),())|none=>none)else none else some ((-1,()),())) v1 ((),0,())
def F202(n:Nat):Fb 202:=fb n [] [] [] [] Tryz.func202 Tryz.results202 Tryz.ntmps202 (.seq .nop (.seq (.seq .nop (.block none (.loop ⟨[],[.val 8 y2],[0,1,7]⟩ .nop))) .nop)) [(y29,.ro),(y9,.ro)] A17 [] [] (F8 n)
def F9(v1:Nat)(v2:T40):T15:=ah (F8 v1 (v2.1,v2.2.1,())) (λ(v3:T7)=>some ((decide (0<=v3.1.1),()),()))
def F159(n:Nat):Fb 159:=fb n [⟨_,F202 n⟩] [] [] [] Tryz.func159 Tryz.results159 Tryz.ntmps159 (.nop) [(y29,.ro),(y9,.ro)] A16 [] [] (F9 n)
def Ga(v1:Nat)(v2:((List ((List Int)×Int×(List Int)))×(List Int)×Unit)):T13:=aA (λ(v3:T4)=>λv4=>bif decide (v3.2.1<(v2.1.length:Int))then if 0<=v3.2.1 then(match v2.1[(v3.2.1).toNat]? with|some v5=>bif decide (v5.1=v2.2.1)then some ((v3.2.1,()),())else v4 ((),IntKind.wrap .i64 (v3.2.1+1),())|none=>none)else none else some ((-1,()),())) v1 ((),0,())
def F160(n:Nat):Fb 160:=fb n [] [] [] [] Tryz.func160 Tryz.results160 Tryz.ntmps160 (.seq .nop (.seq (.seq .nop (.block none (.loop ⟨[],[.val 9 y2],[1,7,8]⟩ (.seq .nop (.seq .nop (.seq (.block none (.seq (.reg none [6]) .nop)) .nop)))))) .nop)) [(y28,.ro),(y9,.ro)] A17 [] [] (Ga n)
def p90(v1:Nat)(v2:T90):T43:=bif decide (300<(v2.1.2.1.length:Int))then some (((6,2,(v2.1.2.1.length:Int)),()),())else aA (λ(v3:T37)=>λv4=>bif decide (v3.2.1<(v2.1.2.1.length:Int))then if 0<=v3.2.1 then(match v2.1.2.1[(v3.2.1).toNat]? with|some v5=>ah (A1 v1 (v5,())) (λ(v6:T8)=>bif !v6.1.1 then some (((8,2,v3.2.1),()),())else aq (λ(v7:T41)=>bif v7.2.1 then some (((9,2,v3.2.1),()),())else v4 ((v7.1.1,()),IntKind.wrap .i64 (v3.2.1+1),())) (λv8=>if(0:Int)<=(0:Int)/\(0:Int)<=v3.2.1/\v3.2.1<=(v2.1.2.1.length:Int)then ah (F9 v1 (bZ v2.1.2.1 (0:Int) v3.2.1,v5,())) (λ(v9:T8)=>bif v9.1.1 then v8 ((v3.1.1,()),true,())else ah (Ga v1 (v2.1.1,v5,())) (λ(v10:T7)=>v8 ((v3.1.1,()),decide (0<=v10.1.1),())))else none))|none=>none)else none else some (((0,0,0),()),())) v1 (((0,0,0),()),0,())
def F90(n:Nat):Fb 90:=fb n [⟨_,F158 n⟩,⟨_,F159 n⟩,⟨_,F160 n⟩] [] [] [] Tryz.func90 Tryz.results90 Tryz.ntmps90 (.seq (.reg none [1]) (.seq .nop (.seq (.seq .nop (.block none (.loop ⟨[(16,.box qR,.own (.pr .ro (.pr .ro .ro)))],[.val 16 y2],[1,2,14,15]⟩ (.seq .nop (.seq .nop (.seq (.block none (.seq .nop (.block none (.seq .nop (.cond none .nop (.seq (.reg (some ⟨[(16,.box qR,.own (.pr .ro (.pr .ro .ro)))],[.val 27 y4],[1,2,3,14,15,16]⟩) []) .nop)))))) .nop)))))) (.seq (.reg none [2]) .nop)))) A15 [(qR,.ro)] [] [] (p90 n)
def A3(v1:Nat)(v2:T93):T15:=bif v2.2.1.1 then aq (λ(v3:T5)=>some ((v3.2.1,()),())) (λv4=>bif decide (0<=v2.2.1.2)then v4 ((),decide (v2.2.1.2<(v2.1.2.1.length:Int)),())else v4 ((),false,()))else aq (λ(v5:T5)=>some ((v5.2.1,()),())) (λv6=>bif decide (0<=v2.2.1.2)then bif decide (v2.2.1.2<(v2.1.1.length:Int))then if 0<=v2.2.1.2 then(match v2.1.1[(v2.2.1.2).toNat]? with|some v7=>v6 ((),decide (v7.2.1=0),())|none=>none)else none else v6 ((),false,())else v6 ((),false,()))
def F161(n:Nat):Fb 161:=fb n [] [] [] [] Tryz.func161 Tryz.results161 Tryz.ntmps161 (.seq (.reg none [2,3]) (.seq (.seq .nop (.cond none (.seq (.reg (some ⟨[],[.val 4 y4],[]⟩) []) .nop) .nop)) (.seq (.reg (some ⟨[],[.val 4 y4],[]⟩) []) .nop))) [(y32,.ro),(y62,.ro)] A16 [] [] (A3 n)
theorem Gb:uJ Tryz.prog 63:=⟨by kernel_rfl,by kernel_rfl,by kernel_rfl⟩
def Gc(v1:Nat)(v2:T71):T15:=aq (λ(v3:T5)=>some ((v3.2.1,()),())) (λv4=>bif decide ((v2.1.2.2.1.length:Int)=3)then if(0:Int)<=(0:Int)then(match v2.1.2.2.1[(0:Int).toNat]? with|some v5=>bif !v5.1 then if(0:Int)<=(1:Int)then(match v2.1.2.2.1[(1:Int).toNat]? with|some v6=>bif bif v6.1 == true then decide (v6.2=v2.1.1)else false then if(0:Int)<=(2:Int)then(match v2.1.2.2.1[(2:Int).toNat]? with|some v7=>v4 ((),!v7.1,())|none=>none)else none else v4 ((),false,())|none=>none)else none else v4 ((),false,())|none=>none)else none else v4 ((),false,()))
def F162(n:Nat):Fb 162:=fb n [] [] [] [⟨_,Gb⟩] Tryz.func162 Tryz.results162 Tryz.ntmps162 (.seq (.reg none [1]) (.seq (.reg (some ⟨[],[.val 2 y4],[]⟩) []) .nop)) [(y78,.ro)] A16 [] [] (Gc n)
def p91(v1:Nat)(v2:T91):T13:=if 0<=v2.2.1 then(match v2.1.2.2.1[(v2.2.1).toNat]? with|some v3=>aq (λ(v4:T5)=>bif v4.2.1 then some ((11,()),())else ah (A1 v1 (v3.2.1,())) (λ(v5:T8)=>bif !v5.1.1 then some ((8,()),())else bif decide (12<(v3.2.2.1.length:Int))then some ((6,()),())else bif !(decide ((v3.2.2.2.2.2.length:Int)=(if(IntKind.wrap .i64 ((v3.2.2.1.length:Int)-1))<(0:Int)then(0:Int)else IntKind.wrap .i64 ((v3.2.2.1.length:Int)-1))))then some ((1,()),())else if(0:Int)<=(0:Int)/\(0:Int)<=v2.2.1/\v2.2.1<=(v2.1.2.2.1.length:Int)then aA (λ(v6:T4)=>λv7=>bif decide (v6.2.1<((List.length (bZ v2.1.2.2.1 (0:Int) v2.2.1):Nat):Int))then if 0<=v6.2.1 then(match(bZ v2.1.2.2.1 (0:Int) v2.2.1)[(v6.2.1).toNat]? with|some v8=>bif decide (v8.2.1=v3.2.1)then some ((9,()),())else v7 ((),IntKind.wrap .i64 (v6.2.1+1),())|none=>none)else none else aA (λ(v9:T4)=>λv10=>bif decide (v9.2.1<(v3.2.2.1.length:Int))then if 0<=v9.2.1 then(match v3.2.2.1[(v9.2.1).toNat]? with|some v11=>ah (A3 v1 (v2.1,v11,())) (λ(v12:T8)=>bif !v12.1.1 then some ((11,()),())else v10 ((),IntKind.wrap .i64 (v9.2.1+1),()))|none=>none)else none else aA (λ(v13:T4)=>λv14=>bif decide (v13.2.1<(v3.2.2.2.2.2.length:Int))then if 0<=v13.2.1 then(match v3.2.2.2.2.2[(v13.2.1).toNat]? with|some v15=>aq (λ(v16:T5)=>bif v16.2.1 then some ((1,()),())else v14 ((),IntKind.wrap .i64 (v13.2.1+1),())) (λv17=>bif decide (v15<0)then v17 ((),true,())else v17 ((),decide (3<v15),()))|none=>none)else none else aq (λ(v18:T5)=>bif v18.2.1 then some ((11,()),())else aq (λ(v19:T5)=>bif v19.2.1 then some ((15,()),())else some ((0,()),())) (λv20=>bif v3.2.2.2.1 then ah (Gc v1 (v3,())) (λ(v21:T8)=>v20 ((),!v21.1.1,()))else v20 ((),false,()))) (λv22=>bif !(decide (v3.2.2.2.2.1=(-1)))then bif decide (v3.2.2.2.2.1<0)then v22 ((),true,())else ah (A3 v1 (v2.1,(false,v3.2.2.2.2.1),())) (λ(v23:T8)=>v22 ((),!v23.1.1,()))else v22 ((),false,()))) v1 ((),0,())) v1 ((),0,())) v1 ((),0,())else none)) (λv24=>bif decide (v3.1<0)then v24 ((),true,())else v24 ((),decide ((v2.1.2.1.length:Int)<=v3.1),()))|none=>none)else none
def F91(n:Nat):Fb 91:=fb n [⟨_,F158 n⟩,⟨_,F161 n⟩,⟨_,F162 n⟩] [] [] [] Tryz.func91 Tryz.results91 Tryz.ntmps91 (.seq (.reg none [2]) (.seq (.reg none [5]) (.seq (.block none (.seq (.reg (some ⟨[],[.val 17 y4],[1,2,5]⟩) []) .nop)) (.seq (.seq .nop (.block none (.loop ⟨[],[.val 54 y2],[2,5,52,53]⟩ (.seq .nop (.seq .nop (.seq (.block none (.seq (.reg none [7]) .nop)) .nop)))))) (.seq (.seq .nop (.block none (.loop ⟨[],[.val 67 y2],[2,5,65,66]⟩ (.seq .nop (.seq .nop (.seq (.block none (.seq (.reg none [9]) .nop)) .nop)))))) (.seq (.seq .nop (.block none (.loop ⟨[],[.val 79 y2],[2,5,77,78]⟩ (.seq .nop (.seq .nop (.seq (.block none (.seq .nop (.seq (.reg (some ⟨[],[.val 88 y4],[2,5,77,78,79]⟩) []) .nop))) .nop)))))) (.seq (.seq (.reg (some ⟨[],[.val 105 y4],[5]⟩) []) .nop) (.seq (.seq (.reg (some ⟨[],[.val 112 y4],[]⟩) []) .nop) .nop)))))))) A10 A17 [] [] (p91 n)
def p92(v1:Nat)(v2:T90):T43:=aA (λ(v3:T65)=>λv4=>bif decide (v3.2.1<(v2.1.2.2.2.1.length:Int))then if 0<=v3.2.1 then(match v2.1.2.2.2.1[(v3.2.1).toNat]? with|some v5=>aq (λ(v6:(((Int×Int×Int)×(List (Int×Int))×Unit)×Bool×Unit))=>bif v6.2.1 then some (((1,4,v3.2.1),()),())else aA (λ(v7:T65)=>λv8=>bif decide (v7.2.1<(v5.2.length:Int))then if 0<=v7.2.1 then(match v5.2[(v7.2.1).toNat]? with|some v9=>ah (A3 v1 (v2.1,(false,v9),())) (λ(v10:T8)=>bif !v10.1.1 then some (((11,4,v3.2.1),()),())else bif decide (0<(cW (λ(v11:Int)=>λ(v12:Int)=>decide (v11=v12)) v9 v7.1.2.1))then some (((9,4,v3.2.1),()),())else v8 ((v7.1.1,fB (λ(v13:Int)=>λ(v14:Int)=>decide (v13=v14)) v9 (IntKind.wrap .i64 ((cW (λ(v15:Int)=>λ(v16:Int)=>decide (v15=v16)) v9 v7.1.2.1)+1)) v7.1.2.1,()),IntKind.wrap .i64 (v7.2.1+1),()))|none=>none)else none else v4 ((v7.1.1,v7.1.2.1,()),IntKind.wrap .i64 (v3.2.1+1),())) v1 ((v6.1.1,v6.1.2.1,()),0,())) (λv17=>bif decide (v5.1<1)then v17 ((v3.1.1,v3.1.2.1,()),true,())else bif decide (3<v5.1)then v17 ((v3.1.1,v3.1.2.1,()),true,())else bif decide ((v5.2.length:Int)=0)then v17 ((v3.1.1,v3.1.2.1,()),true,())else v17 ((v3.1.1,v3.1.2.1,()),decide (60<=v3.2.1),()))|none=>none)else none else some (((0,0,0),()),())) v1 (((0,0,0),([]:List (Int×Int)),()),0,())
def F92(n:Nat):Fb 92:=fb n [⟨_,F161 n⟩] [] [] [] Tryz.func92 Tryz.results92 Tryz.ntmps92 (.seq (.reg none [1]) (.seq .nop (.seq (.seq .nop (.block none (.loop ⟨[(16,.box qR,.own (.pr .ro (.pr .ro .ro))),(64,FD,.own .ro)],[.val 12 y2],[1,2,3,10,11]⟩ (.seq .nop (.seq .nop (.seq (.block none (.seq (.reg none [5]) (.seq (.seq (.reg (some ⟨[(16,.box qR,.own (.pr .ro (.pr .ro .ro))),(64,FD,.own .ro)],[.val 34 y4],[1,2,3,4,5,10,11,12]⟩) []) .nop) (.seq .nop (.block none (.loop ⟨[(16,.box qR,.own (.pr .ro (.pr .ro .ro))),(64,FD,.own .ro)],[.val 40 y2],[1,2,3,4,10,11,12,38,39]⟩ .nop)))))) .nop)))))) (.seq (.reg none [2]) .nop)))) A15 [(qR,.ro)] [] [] (p92 n)
def p43(v1:Nat)(v2:T90):T43:=ah (p59 v1 (v2.1.1,())) (λ(v3:T11)=>bif !(decide (v3.1.2.1=0))then some (((v3.1.2.1,1,v3.1.1),()),())else ah (p90 v1 (v2.1,())) (λ(v4:T26)=>bif !(decide (v4.1.1.1=0))then some ((v4.1.1,()),())else bif decide (200<(v2.1.2.2.1.length:Int))then some (((6,3,(v2.1.2.2.1.length:Int)),()),())else aA (λ(v5:T37)=>λv6=>bif decide (v5.2.1<(v2.1.2.2.1.length:Int))then ah (p91 v1 (v2.1,v5.2.1,())) (λ(v7:T7)=>bif !(decide (v7.1.1=0))then some (((v7.1.1,3,v5.2.1),()),())else v6 ((v5.1.1,()),IntKind.wrap .i64 (v5.2.1+1),()))else ah (p92 v1 (v2.1,())) (λ(v8:T26)=>bif !(decide (v8.1.1.1=0))then some ((v8.1.1,()),())else aq (λ(v9:T41)=>bif v9.2.1 then some (((11,5,0),()),())else some (((0,0,0),()),())) (λv10=>bif decide (v2.1.2.2.2.2<0)then v10 ((v5.1.1,()),true,())else v10 ((v5.1.1,()),decide ((v2.1.2.1.length:Int)<=v2.1.2.2.2.2),())))) v1 (((0,0,0),()),0,())))
def F43(n:Nat):Fb 43:=fb n [⟨_,F59 n⟩,⟨_,F90 n⟩,⟨_,F91 n⟩,⟨_,F92 n⟩] [] [] [] Tryz.func43 Tryz.results43 Tryz.ntmps43 (.seq (.reg none [1]) (.seq .nop (.seq (.seq (.reg none [5]) .nop) (.seq .nop (.seq (.seq .nop (.block none (.loop ⟨[(16,.box qR,.own (.pr .ro (.pr .ro .ro)))],[.val 37 y2],[1,2,36]⟩ .nop))) (.seq (.seq (.reg none [8]) .nop) (.seq (.seq (.reg (some ⟨[(16,.box qR,.own (.pr .ro (.pr .ro .ro)))],[.val 65 y4],[2]⟩) []) .nop) (.seq (.reg none [2]) .nop)))))))) A15 [(qR,.ro)] [] [] (p43 n)
def IL(v1:Nat)(v2:T1):T13:=ah (xH v1 (([32,9,10,13]:List Int),v2.1,())) (λ(v3:T8)=>bif v3.1.1 then some ((1,()),())else ah (xH v1 (([48,49,50,51,52,53,54,55,56,57]:List Int),v2.1,())) (λ(v4:T8)=>bif v4.1.1 then some ((2,()),())else aq (λ(v5:T5)=>bif v5.2.1 then some ((3,()),())else aq (λ(v6:T5)=>bif v6.2.1 then some ((4,()),())else some ((0,()),())) (λv7=>bif decide (32<v2.1)then v7 ((),decide (v2.1<127),())else v7 ((),false,()))) (λv8=>ah (F4 v1 (v2.1,())) (λ(v9:T8)=>bif v9.1.1 then v8 ((),true,())else v8 ((),decide (v2.1=95),())))))
def Dd(v1:Nat)(v2:T6):T15:=aA (λ(v3:T4)=>λv4=>bif decide (v3.2.1<(v2.1.length:Int))then if 0<=v3.2.1 then(match v2.1[(v3.2.1).toNat]? with|some v5=>ah (IL v1 (v5,())) (λ(v6:T7)=>aq (λ(v7:T5)=>bif v7.2.1 then some ((false,()),())else v4 ((),IntKind.wrap .i64 (v3.2.1+1),())) (λv8=>bif !(decide (v6.1.1=3))then bif !(decide (v6.1.1=2))then v8 ((),true,())else v8 ((),decide (v3.2.1=0),())else v8 ((),false,())))|none=>none)else none else aq (λ(v9:T5)=>some ((v9.2.1,()),())) (λv10=>bif decide (1<=(v2.1.length:Int))then v10 ((),decide ((v2.1.length:Int)<=40),())else v10 ((),false,()))) v1 ((),0,())
def IN(v1:Nat)(v2:((List ((List Int)×Int×(List Int)))×Int×Unit)):T13:=if 0<=v2.2.1 then(match v2.1[(v2.2.1).toNat]? with|some v3=>ah (Dd v1 (v3.1,())) (λ(v4:T8)=>bif !v4.1.1 then some ((8,()),())else aA (λ(v5:T4)=>λv6=>bif decide (v5.2.1<v2.2.1)then if 0<=v5.2.1 then(match v2.1[(v5.2.1).toNat]? with|some v7=>bif decide (v7.1=v3.1)then some ((9,()),())else v6 ((),IntKind.wrap .i64 (v5.2.1+1),())|none=>none)else none else aq (λ(v8:T5)=>bif v8.2.1 then some ((1,()),())else ah (IJ v1 (v3.2.2,())) (λ(v9:T57)=>bif !(decide (v9.1.2.1=0))then some ((v9.1.2.1,()),())else ah (IK v1 (v9.1.1,([]:List Int),())) (λ(v10:T8)=>bif v10.1.1 then some ((14,()),())else some ((0,()),())))) (λv11=>bif decide (v3.2.1<0)then v11 ((),true,())else v11 ((),decide (2<v3.2.1),()))) v1 ((),0,()))|none=>none)else none
def p58(v1:Nat)(v2:T56):T25:=bif decide (60<(v2.1.length:Int))then some (((v2.1.length:Int),6,()),())else aA (λ(v3:T4)=>λv4=>bif decide (v3.2.1<(v2.1.length:Int))then ah (IN v1 (v2.1,v3.2.1,())) (λ(v5:T7)=>bif !(decide (v5.1.1=0))then some ((v3.2.1,v5.1.1,()),())else v4 ((),IntKind.wrap .i64 (v3.2.1+1),()))else some (((v2.1.length:Int),0,()),())) v1 ((),0,())
def p78(v1:Nat)(v2:T91):T13:=if 0<=v2.2.1 then(match v2.1.2.1[(v2.2.1).toNat]? with|some v3=>ah (Dd v1 (v3,())) (λ(v4:T8)=>bif !v4.1.1 then some ((8,()),())else aA (λ(v5:T4)=>λv6=>bif decide (v5.2.1<v2.2.1)then if 0<=v5.2.1 then(match v2.1.2.1[(v5.2.1).toNat]? with|some v7=>if 0<=v2.2.1 then(match v2.1.2.1[(v2.2.1).toNat]? with|some v8=>bif decide (v7=v8)then some ((9,()),())else v6 ((),IntKind.wrap .i64 (v5.2.1+1),())|none=>none)else none|none=>none)else none else aA (λ(v9:T4)=>λv10=>bif decide (v9.2.1<(v2.1.1.length:Int))then if 0<=v9.2.1 then(match v2.1.1[(v9.2.1).toNat]? with|some v11=>if 0<=v2.2.1 then(match v2.1.2.1[(v2.2.1).toNat]? with|some v12=>bif decide (v11.1=v12)then some ((9,()),())else v10 ((),IntKind.wrap .i64 (v9.2.1+1),())|none=>none)else none|none=>none)else none else some ((0,()),())) v1 ((),0,())) v1 ((),0,()))|none=>none)else none
def De(v1:Nat)(v2:T93):T15:=bif v2.2.1.1 then aq (λ(v3:T5)=>some ((v3.2.1,()),())) (λv4=>bif decide (0<=v2.2.1.2)then v4 ((),decide (v2.2.1.2<(v2.1.2.1.length:Int)),())else v4 ((),false,()))else aq (λ(v5:T5)=>some ((v5.2.1,()),())) (λv6=>bif decide (0<=v2.2.1.2)then bif decide (v2.2.1.2<(v2.1.1.length:Int))then if 0<=v2.2.1.2 then(match v2.1.1[(v2.2.1.2).toNat]? with|some v7=>v6 ((),decide (v7.2.1=0),())|none=>none)else none else v6 ((),false,())else v6 ((),false,()))
def IP(v1:Nat)(v2:T71):T15:=aq (λ(v3:T5)=>some ((v3.2.1,()),())) (λv4=>bif decide ((v2.1.2.2.1.length:Int)=3)then if(0:Int)<=(0:Int)then(match v2.1.2.2.1[(0:Int).toNat]? with|some v5=>bif !v5.1 then if(0:Int)<=(1:Int)then(match v2.1.2.2.1[(1:Int).toNat]? with|some v6=>bif v6.1 then if(0:Int)<=(1:Int)then(match v2.1.2.2.1[(1:Int).toNat]? with|some v7=>bif decide (v7.2=v2.1.1)then if(0:Int)<=(2:Int)then(match v2.1.2.2.1[(2:Int).toNat]? with|some v8=>v4 ((),!v8.1,())|none=>none)else none else v4 ((),false,())|none=>none)else none else v4 ((),false,())|none=>none)else none else v4 ((),false,())|none=>none)else none else v4 ((),false,()))
def p79(v1:Nat)(v2:T91):T13:=if 0<=v2.2.1 then(match v2.1.2.2.1[(v2.2.1).toNat]? with|some v3=>aq (λ(v4:T5)=>bif v4.2.1 then some ((11,()),())else ah (Dd v1 (v3.2.1,())) (λ(v5:T8)=>bif !v5.1.1 then some ((8,()),())else bif decide (12<(v3.2.2.1.length:Int))then some ((6,()),())else bif !(decide ((v3.2.2.2.2.2.length:Int)=(if 0<(IntKind.wrap .i64 ((v3.2.2.1.length:Int)-1))then IntKind.wrap .i64 ((v3.2.2.1.length:Int)-1)else(0:Int))))then some ((1,()),())else aA (λ(v6:T4)=>λv7=>bif decide (v6.2.1<v2.2.1)then if 0<=v6.2.1 then(match v2.1.2.2.1[(v6.2.1).toNat]? with|some v8=>bif decide (v8.2.1=v3.2.1)then some ((9,()),())else v7 ((),IntKind.wrap .i64 (v6.2.1+1),())|none=>none)else none else aA (λ(v9:T4)=>λv10=>bif decide (v9.2.1<(v3.2.2.1.length:Int))then if 0<=v9.2.1 then(match v3.2.2.1[(v9.2.1).toNat]? with|some v11=>ah (De v1 (v2.1,v11,())) (λ(v12:T8)=>bif !v12.1.1 then some ((11,()),())else v10 ((),IntKind.wrap .i64 (v9.2.1+1),()))|none=>none)else none else aA (λ(v13:T4)=>λv14=>bif decide (v13.2.1<(v3.2.2.2.2.2.length:Int))then aq (λ(v15:T5)=>bif v15.2.1 then some ((1,()),())else v14 ((),IntKind.wrap .i64 (v13.2.1+1),())) (λv16=>if 0<=v13.2.1 then(match v3.2.2.2.2.2[(v13.2.1).toNat]? with|some v17=>bif decide (v17<0)then v16 ((),true,())else if 0<=v13.2.1 then(match v3.2.2.2.2.2[(v13.2.1).toNat]? with|some v18=>v16 ((),decide (3<v18),())|none=>none)else none|none=>none)else none)else aq (λ(v19:T5)=>bif v19.2.1 then some ((11,()),())else aq (λ(v20:T5)=>bif v20.2.1 then some ((15,()),())else some ((0,()),())) (λv21=>bif v3.2.2.2.1 then ah (IP v1 (v3,())) (λ(v22:T8)=>v21 ((),!v22.1.1,()))else v21 ((),false,()))) (λv23=>bif !(decide (v3.2.2.2.2.1=(-1)))then ah (De v1 (v2.1,(false,v3.2.2.2.2.1),())) (λ(v24:T8)=>v23 ((),!v24.1.1,()))else v23 ((),false,()))) v1 ((),0,())) v1 ((),0,())) v1 ((),0,()))) (λv25=>bif decide (v3.1<0)then v25 ((),true,())else v25 ((),decide ((v2.1.2.1.length:Int)<=v3.1),()))|none=>none)else none
def IQ(v1:Nat)(v2:T92):T15:=aA (λ(v3:T4)=>λv4=>bif decide (v3.2.1<=v2.2.1)then aA (λ(v5:T4)=>λv6=>if 0<=v3.2.1 then(match v2.1.2.2.2.1[(v3.2.1).toNat]? with|some v7=>bif decide (v5.2.1<(v7.2.length:Int))then aq (λ(v8:T5)=>bif v8.2.1 then some ((false,()),())else if 0<=v3.2.1 then(match v2.1.2.2.2.1[(v3.2.1).toNat]? with|some v9=>if 0<=v5.2.1 then(match v9.2[(v5.2.1).toNat]? with|some v10=>if 0<=v2.2.1 then(match v2.1.2.2.2.1[(v2.2.1).toNat]? with|some v11=>if 0<=v2.2.2.1 then(match v11.2[(v2.2.2.1).toNat]? with|some v12=>bif decide (v10=v12)then some ((true,()),())else v6 ((),IntKind.wrap .i64 (v5.2.1+1),())|none=>none)else none|none=>none)else none|none=>none)else none|none=>none)else none) (λv13=>bif decide (v3.2.1=v2.2.1)then v13 ((),decide (v2.2.2.1<=v5.2.1),())else v13 ((),false,()))else v4 ((),IntKind.wrap .i64 (v3.2.1+1),())|none=>none)else none) v1 ((),0,())else some ((false,()),())) v1 ((),0,())
def p80(v1:Nat)(v2:T91):T13:=if 0<=v2.2.1 then(match v2.1.2.2.2.1[(v2.2.1).toNat]? with|some v3=>aq (λ(v4:T5)=>bif v4.2.1 then some ((1,()),())else aA (λ(v5:T4)=>λv6=>bif decide (v5.2.1<(v3.2.length:Int))then if 0<=v5.2.1 then(match v3.2[(v5.2.1).toNat]? with|some v7=>ah (De v1 (v2.1,(false,v7),())) (λ(v8:T8)=>bif !v8.1.1 then some ((11,()),())else ah (IQ v1 (v2.1,v2.2.1,v5.2.1,())) (λ(v9:T8)=>bif v9.1.1 then some ((9,()),())else v6 ((),IntKind.wrap .i64 (v5.2.1+1),())))|none=>none)else none else some ((0,()),())) v1 ((),0,())) (λv10=>bif decide (v3.1<1)then v10 ((),true,())else bif decide (3<v3.1)then v10 ((),true,())else bif decide ((v3.2.length:Int)=0)then v10 ((),true,())else v10 ((),decide (60<=v2.2.1),()))|none=>none)else none
def p37(v1:Nat)(v2:T90):Option ((Int×Int×Int×Unit)×Unit):=ah (p58 v1 (v2.1.1,())) (λ(v3:T11)=>bif !(decide (v3.1.2.1=0))then some ((v3.1.2.1,1,v3.1.1,()),())else bif decide (300<(v2.1.2.1.length:Int))then some ((6,2,(v2.1.2.1.length:Int),()),())else aA (λ(v4:T4)=>λv5=>bif decide (v4.2.1<(v2.1.2.1.length:Int))then ah (p78 v1 (v2.1,v4.2.1,())) (λ(v6:T7)=>bif !(decide (v6.1.1=0))then some ((v6.1.1,2,v4.2.1,()),())else v5 ((),IntKind.wrap .i64 (v4.2.1+1),()))else bif decide (200<(v2.1.2.2.1.length:Int))then some ((6,3,(v2.1.2.2.1.length:Int),()),())else aA (λ(v7:T4)=>λv8=>bif decide (v7.2.1<(v2.1.2.2.1.length:Int))then ah (p79 v1 (v2.1,v7.2.1,())) (λ(v9:T7)=>bif !(decide (v9.1.1=0))then some ((v9.1.1,3,v7.2.1,()),())else v8 ((),IntKind.wrap .i64 (v7.2.1+1),()))else aA (λ(v10:T4)=>λv11=>bif decide (v10.2.1<(v2.1.2.2.2.1.length:Int))then ah (p80 v1 (v2.1,v10.2.1,())) (λ(v12:T7)=>bif !(decide (v12.1.1=0))then some ((v12.1.1,4,v10.2.1,()),())else v11 ((),IntKind.wrap .i64 (v10.2.1+1),()))else aq (λ(v13:T5)=>bif v13.2.1 then some ((11,5,0,()),())else some ((0,0,0,()),())) (λv14=>bif decide (v2.1.2.2.2.2<0)then v14 ((),true,())else v14 ((),decide ((v2.1.2.1.length:Int)<=v2.1.2.2.2.2),()))) v1 ((),0,())) v1 ((),0,())) v1 ((),0,()))
end
noncomputable section
def Gd(v1:Nat)(v2:T1):T13:=aq (λ(v3:T5)=>bif v3.2.1 then some ((0,()),())else if(IntKind.wrap .u64 v2.1)<0 then none else some ((IntKind.wrap .u64 ((1:Int)*2 ^ (Nat.min (Int.toNat (IntKind.wrap .u64 v2.1)) (IntKind.bits .u64))),()),())) (λv4=>bif decide (v2.1<0)then v4 ((),true,())else v4 ((),decide (63<v2.1),()))
def F100(n:Nat):Fb 100:=fb n [] [] [] [] Tryz.func100 Tryz.results100 Tryz.ntmps100 (.seq .nop (.seq (.seq (.reg (some ⟨[],[.val 8 y4],[0]⟩) []) .nop) .nop)) A17 [(y12,.ro)] [] [] (Gd n)
def p93(v1:Nat)(v2:(((List Bool)×(List Int))×(List (Bool×Int))×Unit)):T30:=aA (λ(v3:T9)=>λv4=>bif decide (v3.2.2.1<(v2.2.1.length:Int))then if 0<=v3.2.2.1 then(match v2.2.1[(v3.2.2.1).toNat]? with|some v5=>bif !v5.1 then ah (Gd v1 (v5.2,())) (λ(v6:T7)=>some ((dL .or .u64 v3.2.1 v6.1.1,false,()),()))else aq (λ(v7:T5)=>bif v7.2.1 then some ((v3.2.1,false,()),())else if 0<=v5.2 then(match v2.1.2[(v5.2).toNat]? with|some v8=>if 0<=v5.2 then(match v2.1.1[(v5.2).toNat]? with|some v9=>bif !v9 then some ((dL .or .u64 v3.2.1 v8,false,()),())else v4 ((),dL .or .u64 v3.2.1 v8,IntKind.wrap .i64 (v3.2.2.1+1),())|none=>none)else none|none=>none)else none) (λv10=>bif decide (v5.2<0)then v10 ((),true,())else bif decide ((v2.1.1.length:Int)<=v5.2)then v10 ((),true,())else v10 ((),decide ((v2.1.2.length:Int)<=v5.2),()))|none=>none)else none else some ((v3.2.1,true,()),())) v1 ((),0,0,())
def F93(n:Nat):Fb 93:=fb n [⟨_,F100 n⟩] [] [] [] Tryz.func93 Tryz.results93 Tryz.ntmps93 (.seq (.reg none [2]) (.seq .nop (.seq (.seq .nop (.block none (.loop ⟨[],[.val 6 y12,.val 11 y2],[2,9,10]⟩ (.seq .nop (.seq .nop (.seq (.block none (.seq (.reg none [8]) (.seq (.block none (.seq .nop (.cond none .nop (.seq (.reg (some ⟨[],[.val 24 y4],[2,6,8,9,10,11]⟩) []) .nop)))) .nop))) .nop)))))) .nop))) [(kq,.ro),(y77,.ro)] [(y12,.ro),(y4,.ro)] [] [] (p93 n)
def p44(v1:Nat)(v2:T90):Option ((((List Bool)×(List Int))×Unit)×Unit):=if 0<=(v2.1.2.1.length:Int)/\(v2.1.2.1.length:Int)<=(v2.1.2.1.length:Int)then if(v2.1.2.1.length:Int).toNat*1<=140737488355328 then if 0<=(v2.1.2.1.length:Int)/\(v2.1.2.1.length:Int)<=(v2.1.2.1.length:Int)then if(v2.1.2.1.length:Int).toNat*8<=140737488355328 then aA (λ(v3:T77)=>λv4=>bif v3.2.1 then aA (λ(v5:((((List Bool)×(List Int))×((List Bool)×(List Int))×Unit)×Bool×Int×Unit))=>λv6=>bif decide (v5.2.2.1<(v2.1.2.2.1.length:Int))then aq (λ(v7:T77)=>v6 ((v7.1.1,v7.1.2.1,()),v7.2.1,IntKind.wrap .i64 (v5.2.2.1+1),())) (λv8=>if 0<=v5.2.2.1 then(match v2.1.2.2.1[(v5.2.2.1).toNat]? with|some v9=>aq (λ(v10:T77)=>bif v10.2.1 then v8 ((v10.1.1,v10.1.2.1,()),v5.2.1,())else ah (p93 v1 (v10.1.2.1,v9.2.2.1,())) (λ(v11:T12)=>aq (λ(v12:T77)=>aq (λ(v13:T77)=>v8 ((v13.1.1,v13.1.2.1,()),v13.2.1,())) (λv14=>bif v12.2.1 then if 0<=v9.1 then(match v12.1.2.1.2[(v9.1).toNat]? with|some v15=>if 0<=v9.1 then(match v12.1.2.1.2[(v9.1).toNat]? with|some v16=>if 0<=v9.1 then(match v12.1.2.1.2[(v9.1).toNat]? with|some v17=>aq (λ(v18:((((List Bool)×(List Int))×((List Bool)×(List Int))×Unit)×Unit))=>v14 ((v18.1.1,v18.1.2.1,()),true,())) (λv19=>if 0<=v9.1 then(match v12.1.2.1.1[(v9.1).toNat]? with|some v20=>bif v20 then if 0<=v9.1 then(match v12.1.2.1.1[(v9.1).toNat]? with|some v21=>if 0<=v9.1 then(match v12.1.2.1.1[(v9.1).toNat]? with|some v22=>v19 ((v12.1.1,(List.set v12.1.2.1.1 (v9.1).toNat true,List.set v12.1.2.1.2 (v9.1).toNat (dL .or .u64 v15 v11.1.1)),()),())|none=>none)else none|none=>none)else none else if 0<=v9.1 then(match v12.1.2.1.1[(v9.1).toNat]? with|some v23=>if 0<=v9.1 then(match v12.1.2.1.1[(v9.1).toNat]? with|some v24=>v19 ((v12.1.1,(List.set v12.1.2.1.1 (v9.1).toNat v11.1.2.1,List.set v12.1.2.1.2 (v9.1).toNat (dL .or .u64 v15 v11.1.1)),()),())|none=>none)else none|none=>none)else none|none=>none)else none)|none=>none)else none|none=>none)else none|none=>none)else none else v14 ((v12.1.1,v12.1.2.1,()),v5.2.1,()))) (λv25=>if 0<=v9.1 then(match v10.1.2.1.2[(v9.1).toNat]? with|some v26=>if 0<=v9.1 then(match v10.1.2.1.2[(v9.1).toNat]? with|some v27=>bif !(decide ((dL .or .u64 v26 v11.1.1)=v27))then v25 ((v10.1.1,v10.1.2.1,()),true,())else bif v11.1.2.1 then if 0<=v9.1 then(match v10.1.2.1.1[(v9.1).toNat]? with|some v28=>v25 ((v10.1.1,v10.1.2.1,()),!v28,())|none=>none)else none else v25 ((v10.1.1,v10.1.2.1,()),false,())|none=>none)else none|none=>none)else none))) (λv29=>bif decide (v9.1<0)then v29 ((v5.1.1,v5.1.2.1,()),true,())else v29 ((v5.1.1,v5.1.2.1,()),decide ((v2.1.2.1.length:Int)<=v9.1),()))|none=>none)else none)else v4 ((v5.1.1,v5.1.2.1,()),v5.2.1,())) v1 ((v3.1.1,v3.1.2.1,()),false,0,())else some ((v3.1.2.1,()),())) v1 (((([]:List Bool),([]:List Int)),(List.replicate (v2.1.2.1.length:Int).toNat false,List.replicate (v2.1.2.1.length:Int).toNat (0:Int)),()),true,())else none else none else none else none
def F44(n:Nat):Fb 44:=fb n [⟨_,F93 n⟩] [17] [] [] Tryz.func44 Tryz.results44 Tryz.ntmps44 (.seq (.reg none [1]) (.seq .nop (.seq (.seq .nop (.block none (.loop ⟨[(16,.box kq,.own (.pr (.own .ro) (.own .ro))),(24,.box kq,.own (.pr (.own .ro) (.own .ro)))],[.val 4 y4],[1,2,3]⟩ (.seq .nop (.block none (.seq .nop (.seq .nop (.block none (.loop ⟨[(16,.box kq,.own (.pr (.own .ro) (.own .ro))),(24,.box kq,.own (.pr (.own .ro) (.own .ro)))],[.val 4 y4,.val 22 y2],[1,2,3,20,21]⟩ (.seq .nop (.seq .nop (.seq (.block (some ⟨[(16,.box kq,.own (.pr (.own .ro) (.own .ro))),(24,.box kq,.own (.pr (.own .ro) (.own .ro)))],[.val 4 y4],[1,2,3,20,21,22]⟩) (.seq (.reg none [6]) (.seq (.seq (.reg (some ⟨[(16,.box kq,.own (.pr (.own .ro) (.own .ro))),(24,.box kq,.own (.pr (.own .ro) (.own .ro)))],[.val 36 y4],[1,2,3,4,6,20,21,22]⟩) []) .nop) (.seq .nop (.seq (.reg (some ⟨[(16,.box kq,.own (.pr (.own .ro) (.own .ro))),(24,.box kq,.own (.pr (.own .ro) (.own .ro)))],[.val 70 y4],[1,2,3,4,6,7,8,20,21,22]⟩) []) (.cond (some ⟨[(16,.box kq,.own (.pr (.own .ro) (.own .ro))),(24,.box kq,.own (.pr (.own .ro) (.own .ro)))],[.val 4 y4],[1,2,3,20,21,22]⟩) (.seq .nop (.seq (.reg (some ⟨[(16,.box kq,.own (.pr (.own .ro) (.own .ro))),(24,.box kq,.own (.pr (.own .ro) (.own .ro)))],[],[1,2,3,20,21,22]⟩) []) .nop)) .nop)))))) .nop)))))))))))) (.seq (.rgf none [3] [2]) .nop)))) A15 [(kq,.ro)] [] [] (p44 n)
def p46(v1:Nat)(v2:T23):T32:=if(0:Int)<=(0:Int)/\(0:Int)<=(IntKind.wrap .i64 ((12:Int)*(v2.1.length:Int)))then if(IntKind.wrap .i64 ((12:Int)*(v2.1.length:Int))).toNat*1<=140737488355328 then aA (λ(v3:T18)=>λv4=>bif decide (v3.2.2.1<(v2.1.length:Int))then if 0<=v3.2.2.1 then(match v2.1[(v3.2.2.1).toNat]? with|some v5=>if(8:Int)<0 then none else if(8:Int)<0 then none else if(List.length v3.2.1+List.length ([(IntKind.wrap .u8 (Int.fdiv v5.1 (2 ^ (Nat.min (Int.toNat (8:Int)) (IntKind.bits .i64))))),(IntKind.wrap .u8 v5.1),(IntKind.wrap .u8 (Int.fdiv v5.2.1 (2 ^ (Nat.min (Int.toNat (8:Int)) (IntKind.bits .i64))))),(IntKind.wrap .u8 v5.2.1)]:List Int))*1<=140737488355328 then if List.length v3.2.1+List.length ([(IntKind.wrap .u8 (Int.fdiv v5.1 (2 ^ (Nat.min (Int.toNat (8:Int)) (IntKind.bits .i64))))),(IntKind.wrap .u8 v5.1),(IntKind.wrap .u8 (Int.fdiv v5.2.1 (2 ^ (Nat.min (Int.toNat (8:Int)) (IntKind.bits .i64))))),(IntKind.wrap .u8 v5.2.1)]:List Int)<=9223372036854775807 then aA (λ(v6:T18)=>λv7=>bif decide (v6.2.2.1<8)then if(IntKind.wrap .u64 (IntKind.wrap .i64 ((8:Int)*v6.2.2.1)))<0 then none else if(List.length v6.2.1+List.length ([(IntKind.wrap .u8 (Int.fdiv v5.2.2 (2 ^ (Nat.min (Int.toNat (IntKind.wrap .u64 (IntKind.wrap .i64 ((8:Int)*v6.2.2.1)))) (IntKind.bits .u64)))))]:List Int))*1<=140737488355328 then if List.length v6.2.1+List.length ([(IntKind.wrap .u8 (Int.fdiv v5.2.2 (2 ^ (Nat.min (Int.toNat (IntKind.wrap .u64 (IntKind.wrap .i64 ((8:Int)*v6.2.2.1)))) (IntKind.bits .u64)))))]:List Int)<=9223372036854775807 then v7 ((),v6.2.1++([(IntKind.wrap .u8 (Int.fdiv v5.2.2 (2 ^ (Nat.min (Int.toNat (IntKind.wrap .u64 (IntKind.wrap .i64 ((8:Int)*v6.2.2.1)))) (IntKind.bits .u64)))))]:List Int),IntKind.wrap .i64 (v6.2.2.1+1),())else none else none else v4 ((),v6.2.1,IntKind.wrap .i64 (v3.2.2.1+1),())) v1 ((),v3.2.1++([(IntKind.wrap .u8 (Int.fdiv v5.1 (2 ^ (Nat.min (Int.toNat (8:Int)) (IntKind.bits .i64))))),(IntKind.wrap .u8 v5.1),(IntKind.wrap .u8 (Int.fdiv v5.2.1 (2 ^ (Nat.min (Int.toNat (8:Int)) (IntKind.bits .i64))))),(IntKind.wrap .u8 v5.2.1)]:List Int),0,())else none else none|none=>none)else none else some ((v3.2.1,()),())) v1 ((),List.replicate (0:Int).toNat (0:Int),0,())else none else none
def F46(n:Nat):Fb 46:=fb n [] [] [] [] Tryz.func46 Tryz.results46 Tryz.ntmps46 (.seq .nop (.seq .nop (.seq (.seq .nop (.block none (.loop ⟨[],[.hdr 3 31 rK (.own .ro),.val 13 y2],[11,12]⟩ (.seq .nop (.seq .nop (.seq (.block none (.seq (.reg none [5]) (.seq .nop (.seq .nop (.block none (.loop ⟨[],[.hdr 3 31 rK (.own .ro),.val 34 y2],[5,11,12,13]⟩ .nop)))))) .nop)))))) .nop))) A14 A18 [] [] (p46 n)
def p45(v1:Nat)(v2:((List (Int×Int×Int))×(List ((List Int)×Int))×((List (List (Int×Int×Int)))×(List (List ((Bool×Int)×Int))))×Unit)):Option ((Int×Unit)×(List ((List Int)×Int))×((List (List (Int×Int×Int)))×(List (List ((Bool×Int)×Int))))×Unit):=ah (p46 v1 (v2.1,())) (λ(v3:T14)=>aq (λ(v4:(((List ((List Int)×Int))×((List (List (Int×Int×Int)))×(List (List ((Bool×Int)×Int))))×Unit)×Int×Unit))=>some ((v4.2.1,()),v4.1.1,v4.1.2.1,())) (λv5=>bif !(gy (λ(v6:T0)=>λ(v7:T0)=>decide (v6=v7)) v3.1.1 v2.2.1)then if(List.length v2.2.2.1.1+List.length ([v2.1]:List (List (Int×Int×Int))))*24<=140737488355328 then if List.length v2.2.2.1.1+List.length ([v2.1]:List (List (Int×Int×Int)))<=9223372036854775807 then v5 ((fB (λ(v8:T0)=>λ(v9:T0)=>decide (v8=v9)) v3.1.1 (v2.2.2.1.1.length:Int) v2.2.1,(v2.2.2.1.1++([v2.1]:List (List (Int×Int×Int))),v2.2.2.1.2),()),(v2.2.2.1.1.length:Int),())else none else none else v5 ((v2.2.1,v2.2.2.1,()),cW (λ(v10:T0)=>λ(v11:T0)=>decide (v10=v11)) v3.1.1 v2.2.1,())))
def F45(n:Nat):Fb 45:=fb n [⟨_,F46 n⟩] [] [] [] Tryz.func45 Tryz.results45 Tryz.ntmps45 (.seq .nop (.seq .nop (.seq .nop (.seq (.seq .nop (.cond (some ⟨[(14,.box pJ,.own (.own .ro)),(22,.box y43,.own (.pr (.own .ro) (.own .ro)))],[.val 6 y2],[1,2]⟩) .nop .nop)) .nop)))) [(kJ,.ro),(.box pJ,.own (.own .ro)),(.box y43,.own (.pr (.own .ro) (.own .ro)))] A17 [1,2] [(.box pJ,.own (.own .ro)),(.box y43,.own (.pr (.own .ro) (.own .ro)))] (p45 n)
def IR(v1:Nat)(v2:T1):T15:=some ((!(decide (v2.1=v2.1)),()),())
def F229(n:Nat):Fb 229:=fb n [] [] [] [] Tryz.func229 Tryz.results229 Tryz.ntmps229 (.nop) A17 A16 [] [] (IR n)
def IS(v1:Nat)(v2:T3):T13:=ah (IR v1 (v2.1,())) (λ(v3:T8)=>ah (IR v1 (v2.2.1,())) (λ(v4:T8)=>bif v3.1.1 then bif v4.1.1 then some ((0,()),())else some ((-1,()),())else bif v4.1.1 then some ((1,()),())else bif decide (v2.1<v2.2.1)then some ((-1,()),())else bif decide (v2.2.1<v2.1)then some ((1,()),())else some ((0,()),())))
def F203(n:Nat):Fb 203:=fb n [⟨_,F229 n⟩] [] [] [] Tryz.func203 Tryz.results203 Tryz.ntmps203 (.nop) A11 A17 [] [] (IS n)
def IT(v1:Nat)(v2:((Int×Int×Int)×(Int×Int×Int)×Unit)):T13:=bif !(decide (v2.1.1=v2.2.1.1))then ah (IS v1 (v2.1.1,v2.2.1.1,())) (λ(v3:T7)=>some ((v3.1.1,()),()))else ah (IS v1 (v2.1.2.1,v2.2.1.2.1,())) (λ(v4:T7)=>some ((v4.1.1,()),()))
def F164(n:Nat):Fb 164:=fb n [⟨_,F203 n⟩] [] [] [] Tryz.func164 Tryz.results164 Tryz.ntmps164 (.seq (.reg none [2,3]) .nop) [(AM,.ro),(AM,.ro)] A17 [] [] (IT n)
def KC(v1:Nat)(v2:((List (Int×Int×Int))×(Int×Int×Int)×Unit×Unit)):T30:=aA (λ(v3:T9)=>λv4=>bif decide (v3.2.1<v3.2.2.1)then if(1:Int)<0 then none else if 0<=(IntKind.wrap .i64 (Int.fdiv (IntKind.wrap .u64 (IntKind.wrap .i64 (v3.2.1+v3.2.2.1))) (2 ^ (Nat.min (Int.toNat (1:Int)) (IntKind.bits .u64)))))then(match v2.1[(IntKind.wrap .i64 (Int.fdiv (IntKind.wrap .u64 (IntKind.wrap .i64 (v3.2.1+v3.2.2.1))) (2 ^ (Nat.min (Int.toNat (1:Int)) (IntKind.bits .u64))))).toNat]? with|some v5=>ah (IT v1 (v5,v2.2.1,())) (λ(v6:T7)=>aq (λ(v7:T9)=>v4 ((),v7.2.1,v7.2.2.1,())) (λv8=>bif decide (v6.1.1<0)then v8 ((),IntKind.wrap .i64 ((IntKind.wrap .i64 (Int.fdiv (IntKind.wrap .u64 (IntKind.wrap .i64 (v3.2.1+v3.2.2.1))) (2 ^ (Nat.min (Int.toNat (1:Int)) (IntKind.bits .u64)))))+1),v3.2.2.1,())else v8 ((),v3.2.1,IntKind.wrap .i64 (Int.fdiv (IntKind.wrap .u64 (IntKind.wrap .i64 (v3.2.1+v3.2.2.1))) (2 ^ (Nat.min (Int.toNat (1:Int)) (IntKind.bits .u64)))),())))|none=>none)else none else aq (λ(v9:(Unit×Int×Bool×Unit))=>some ((v9.2.1,v9.2.2.1,()),())) (λv10=>bif decide (v3.2.1<(v2.1.length:Int))then if 0<=v3.2.1 then(match v2.1[(v3.2.1).toNat]? with|some v11=>ah (IT v1 (v11,v2.2.1,())) (λ(v12:T7)=>v10 ((),v3.2.1,decide (v12.1.1=0),()))|none=>none)else none else v10 ((),v3.2.1,false,()))) v1 ((),0,(v2.1.length:Int),())
def F163(n:Nat):Fb 163:=fb n [⟨_,F164 n⟩] [] [] [] Tryz.func163 Tryz.results163 Tryz.ntmps163 (.seq (.reg none [4]) (.seq .nop (.seq .nop (.seq (.block none (.loop ⟨[],[.val 9 y2,.val 10 y2],[0,2,4,8]⟩ (.seq .nop (.block none (.seq .nop (.seq .nop (.cond (some ⟨[],[.val 9 y2,.val 10 y2],[0,2,4,8]⟩) .nop .nop))))))) (.seq (.reg (some ⟨[],[.val 6 y2,.val 7 y4],[]⟩) []) .nop))))) [(kJ,.ro),(AM,.ro),(.fn 164,.ro)] [(y2,.ro),(y4,.ro)] [] [] (KC n)
def p96(v1:Nat)(v2:((((List ((List Int)×Int×(List Int)))×(List (List Int))×(List (Int×(List Int)×(List (Bool×Int))×Bool×Int×(List Int)))×(List (Int×(List Int)))×Int)×((List Bool)×(List Int))×(List Bool)×(List Int)×(List (Int×Int×Int)))×Int×Int×Unit)):Option (Unit×(((List ((List Int)×Int×(List Int)))×(List (List Int))×(List (Int×(List Int)×(List (Bool×Int))×Bool×Int×(List Int)))×(List (Int×(List Int)))×Int)×((List Bool)×(List Int))×(List Bool)×(List Int)×(List (Int×Int×Int)))×Unit):=aA (λ(v3:(((((List ((List Int)×Int×(List Int)))×(List (List Int))×(List (Int×(List Int)×(List (Bool×Int))×Bool×Int×(List Int)))×(List (Int×(List Int)))×Int)×((List Bool)×(List Int))×(List Bool)×(List Int)×(List (Int×Int×Int)))×Unit)×Int×Unit))=>λv4=>bif decide (v3.2.1<(v2.1.1.2.2.1.length:Int))then aq (λ(v5:T97)=>v4 ((v5.1.1,()),IntKind.wrap .i64 (v3.2.1+1),())) (λv6=>if 0<=v3.2.1 then(match v2.1.1.2.2.1[(v3.2.1).toNat]? with|some v7=>aq (λ(v8:T98)=>bif v8.2.1 then v6 ((v8.1.1,()),())else if 0<=v3.2.1 then(match v8.1.1.2.2.1[(v3.2.1).toNat]? with|some v9=>if 0<=v3.2.1 then(match v8.1.1.2.2.1[(v3.2.1).toNat]? with|some v10=>if 0<=v3.2.1 then(match v8.1.1.2.2.2.1[(v3.2.1).toNat]? with|some v11=>if 0<=v3.2.1 then(match v8.1.1.2.2.2.1[(v3.2.1).toNat]? with|some v12=>if 0<=v3.2.1 then(match v8.1.1.2.2.2.1[(v3.2.1).toNat]? with|some v13=>if 0<=v3.2.1 then(match(List.set v8.1.1.2.2.2.1 (v3.2.1).toNat (dL .or .u64 v11 v2.2.2.1))[(v3.2.1).toNat]? with|some v14=>if(List.length v8.1.1.2.2.2.2+List.length ([(v3.2.1,0,v14)]:List (Int×Int×Int)))*24<=140737488355328 then if List.length v8.1.1.2.2.2.2+List.length ([(v3.2.1,0,v14)]:List (Int×Int×Int))<=9223372036854775807 then v6 (((v8.1.1.1,v8.1.1.2.1,List.set v8.1.1.2.2.1 (v3.2.1).toNat true,List.set v8.1.1.2.2.2.1 (v3.2.1).toNat (dL .or .u64 v11 v2.2.2.1),v8.1.1.2.2.2.2++([(v3.2.1,0,v14)]:List (Int×Int×Int))),()),())else none else none|none=>none)else none|none=>none)else none|none=>none)else none|none=>none)else none|none=>none)else none|none=>none)else none) (λv15=>bif !(decide (v7.1=v2.2.1))then v15 ((v3.1.1,()),true,())else if 0<=v3.2.1 then(match v3.1.1.2.2.1[(v3.2.1).toNat]? with|some v16=>bif v16 then if 0<=v3.2.1 then(match v3.1.1.2.2.2.1[(v3.2.1).toNat]? with|some v17=>if 0<=v3.2.1 then(match v3.1.1.2.2.2.1[(v3.2.1).toNat]? with|some v18=>v15 ((v3.1.1,()),decide ((dL .or .u64 v17 v2.2.2.1)=v18),())|none=>none)else none|none=>none)else none else v15 ((v3.1.1,()),false,())|none=>none)else none)|none=>none)else none)else some ((),v3.1.1,())) v1 ((v2.1,()),0,())
def F96(n:Nat):Fb 96:=fb n [] [] [] [] Tryz.func96 Tryz.results96 Tryz.ntmps96 (.seq .nop (.block none (.loop ⟨[(6,.box tL,.own (.pr .ro (.pr .ro (.pr (.own .ro) (.pr (.own .ro) (.own .ro))))))],[.val 14 y2],[0,1,2,12,13]⟩ (.seq .nop (.seq .nop (.seq (.block (some ⟨[(6,.box tL,.own (.pr .ro (.pr .ro (.pr (.own .ro) (.pr (.own .ro) (.own .ro))))))],[],[0,1,2,12,13,14]⟩) (.seq (.reg none [7]) (.seq (.seq (.reg (some ⟨[(6,.box tL,.own (.pr .ro (.pr .ro (.pr (.own .ro) (.pr (.own .ro) (.own .ro))))))],[.val 50 y4],[0,1,2,6,12,13,14]⟩) []) .nop) .nop))) .nop)))))) [(.box tL,.own (.pr .ro (.pr .ro (.pr (.own .ro) (.pr (.own .ro) (.own .ro)))))),(y2,.ro),(y12,.ro)] [] [0] [(.box tL,.own (.pr .ro (.pr .ro (.pr (.own .ro) (.pr (.own .ro) (.own .ro))))))] (p96 n)
def p97(v1:Nat)(v2:(((List Bool)×(List Int))×(List (Bool×Int))×Int×Unit)):T13:=ah (p93 v1 (v2.1,v2.2.1,())) (λ(v3:T12)=>bif v3.1.2.1 then some ((dL .or .u64 v3.1.1 v2.2.2.1,()),())else some ((v3.1.1,()),()))
def F97(n:Nat):Fb 97:=fb n [⟨_,F93 n⟩] [] [] [] Tryz.func97 Tryz.results97 Tryz.ntmps97 (.seq (.reg none [3]) .nop) [(kq,.ro),(y77,.ro),(y12,.ro)] [(y12,.ro)] [] [] (p97 n)
def Ge(v1:Nat)(v2:T91):Option (((List (Bool×Int))×Bool×Unit)×Unit):=aq (λ(v3:T5)=>bif v3.2.1 then if 0<=v2.2.1 then(match v2.1.2.2.1[(v2.2.1).toNat]? with|some v4=>some ((v4.2.2.1,true,()),())|none=>none)else none else bif decide (v2.2.1=(v2.1.2.2.1.length:Int))then some ((([(true,v2.1.2.2.2.2)]:List (Bool×Int)),true,()),())else some ((([]:List (Bool×Int)),false,()),())) (λv5=>bif decide (0<=v2.2.1)then v5 ((),decide (v2.2.1<(v2.1.2.2.1.length:Int)),())else v5 ((),false,()))
def F106(n:Nat):Fb 106:=fb n [] [] [] [] Tryz.func106 Tryz.results106 Tryz.ntmps106 (.seq (.reg none [2]) (.seq (.block none (.seq (.reg (some ⟨[],[.val 6 y4],[1,2]⟩) []) .nop)) .nop)) A10 [(y77,.ro),(y4,.ro)] [] [] (Ge n)
def p98(v1:Nat)(v2:T94):T50:=ah (Ge v1 (v2.1,v2.2.1.1,())) (λ(v3:T49)=>aq (λ(v4:T5)=>bif v4.2.1 then some ((([]:List (Bool×Int)),()),())else if 0<=(IntKind.wrap .i64 (v2.2.1.2.1+1))/\(IntKind.wrap .i64 (v2.2.1.2.1+1))<=(v3.1.1.length:Int)/\(v3.1.1.length:Int)<=(v3.1.1.length:Int)then some ((bZ v3.1.1 (IntKind.wrap .i64 (v2.2.1.2.1+1)) (v3.1.1.length:Int),()),())else none) (λv5=>bif decide (v2.2.1.2.1<0)then v5 ((),true,())else v5 ((),decide ((IntKind.wrap .i64 ((v3.1.1.length:Int)-1))<=v2.2.1.2.1),())))
def F98(n:Nat):Fb 98:=fb n [⟨_,F106 n⟩] [11] [] [] Tryz.func98 Tryz.results98 Tryz.ntmps98 (.seq (.reg none [2,3]) (.seq .nop (.seq (.seq (.reg (some ⟨[],[.val 24 y4],[3,5]⟩) []) .nop) .nop))) A6 [(y77,.ro)] [] [] (p98 n)
def p48(v1:Nat)(v2:T90):T58:=ah (Gd v1 (63,())) (λ(v3:T7)=>some ((([((v2.1.2.2.1.length:Int),0,v3.1.1)]:List (Int×Int×Int)),()),()))
def F48(n:Nat):Fb 48:=fb n [⟨_,F100 n⟩] [] [] [] Tryz.func48 Tryz.results48 Tryz.ntmps48 (.seq (.reg none [1]) .nop) A15 A14 [] [] (p48 n)
def p94(v1:Nat)(v2:T23):T58:=Ib (List.isEmpty v2.1) (λ(v3:Bool)=>bif v3 then some ((([]:List (Int×Int×Int)),()),())else if(List.length ([]:List (Int×Int×Int))+List.length v2.1)*24<=140737488355328 then if List.length ([]:List (Int×Int×Int))+List.length v2.1<=9223372036854775807 then some ((([]:List (Int×Int×Int))++v2.1,()),())else none else none)
def F94(n:Nat):Fb 94:=fb n [] [] [] [] Tryz.func94 Tryz.results94 Tryz.ntmps94 (.nop) A14 [(kJ,.own .ro)] [] [] (p94 n)
def KD(v1:Nat)(v2:T46):T13:=aA (λ(v3:T4)=>λv4=>bif decide (v3.2.1<(v2.1.length:Int))then if 0<=v3.2.1 then(match v2.1[(v3.2.1).toNat]? with|some v5=>bif bif v2.2.1.1 == v5.1 then decide (v2.2.1.2=v5.2)else false then some ((v3.2.1,()),())else v4 ((),IntKind.wrap .i64 (v3.2.1+1),())|none=>none)else none else some ((-1,()),())) v1 ((),0,())
def F166(n:Nat):Fb 166:=fb n [] [] [] [⟨_,Gb⟩] Tryz.func166 Tryz.results166 Tryz.ntmps166 (.seq (.reg none [3]) (.seq (.seq .nop (.block none (.loop ⟨[],[.val 8 y2],[0,3,7]⟩ .nop))) .nop)) [(y77,.ro),(y62,.ro)] A17 [] [] (KD n)
def KE(v1:Nat)(v2:T46):T15:=ah (KD v1 (v2.1,v2.2.1,())) (λ(v3:T7)=>some ((decide (0<=v3.1.1),()),()))
def F101(n:Nat):Fb 101:=fb n [⟨_,F166 n⟩] [] [] [] Tryz.func101 Tryz.results101 Tryz.ntmps101 (.seq (.reg none [3]) .nop) [(y77,.ro),(y62,.ro)] A16 [] [] (KE n)
end
end Go.Proofs.YtphipehmbefejaaGreat.Rf
namespace Go.Proofs.YtphipehmbefejaaGreat.Rf
open Go Go.RowKit
noncomputable section
theorem kr{P:Program}(w:World)(dT sT ty elem:TypeId)(z b o IU Nc:Nat)(a:Addr)(IV Nd:Nat)(cs:List Value)
 (hu:P.underlying dT=some (.slice elem)) (hs:(P.info? elem).map (·.size)=some z) (hn:cs.length=Nat.min IV IU*z)
 (HN:∀ j v,cs[j]?=some v->w.cell? (a.add j)=some v) (hc:∀ j,j<cs.length->(w.cell? ⟨b,o+j,none⟩).isSome=true) (hf:∀ j,j<cs.length->w.frozen? ⟨b,o+j,none⟩=false) (h1:∀ v∈cs,v.oneCell'=true):
 (Builtin.copy_ #[dT,sT] ty #[.slice (some ⟨b,o,none⟩) IU Nc,.slice (some a) IV Nd]).run P w=.ok (goInt (Nat.min IV IU)) (w.setCells b o cs):=by
 have hl:=run_loadCells_list (P:=P) w a cs HN
 have hst:=run_storeCells_cells (P:=P) b o cs 0 w (by simpa using hc) (by simpa using hf) h1
 cases hq:P.info? elem with
 |none=>simp[hq]at hs
 |some i=>
  have hi:i.size=z:=by simpa [hq]using hs
  rw[hn]at hl
  simp[Builtin.copy_,run_underlying hu,Builtin.lenOf,Builtin.firstCells,sizeOf,typeInfo,hq,hi,hl,hst]
theorem fC{P:Program}(w:World){ops:Array Oper}{rest:List Oper}{o:Oper}{a:Act}{Q:Exit->Act->World->Prop}
 (hg:o.guard=none) (s x:Operand) (t tx:TypeId) (hop:o.op=Op.call {callee:=Callee.builtin Builtin.append,args:=#[s,x],argTypes:=#[t,tx]})
 (v1 v2:Value) (hs:a.eval s=v1) (hx:a.eval x=v2) (z:Value) (w':World) (bE:(Builtin.append_ #[t,tx] o.type #[v1,v2]).run P w=.ok z w')
 (hK:wpList P ops Q rest (a.put o.dst z) w'):wpList P ops Q (o::rest) a w:=by
 refine wpList_plain hg λK hK'=>?_
 unfold Oper.wp
 simp[execOp,hop,Go.resolve,invoke,builtin,hs,hx,bE,Result.andThen]
 exact hK' _ _ hK
set_option maxRecDepth 100000 in
theorem Gf(ao:Option Addr)(n cap:Nat)(ad:Addr)(vc:Nat)(w:World)(hnc:n<=cap)(hn:(cap:Int)<=9223372036854775807)(hvc:1<=vc)(v:Value)(w1:World)
 (KF:(Builtin.append_ #[117,117] 117 #[.slice ao n cap,.slice (some ad) 1 vc]).run Tryz.prog w=.ok v w1):
 Calls Tryz.prog 165 #[.slice ao n cap,.int .i64 n,.slice (some ad) 1 vc] w λe w'=>e=.returned v/\w'=w1:=by
 have H:=Lib.hid KF
 clear KF
 go_enter Tryz.func165,Tryz.ntmps165
 cases ao with
 |none=>
  go_wp2_with (at_builtin;refine fC _ rfl _ _ 117 117 rfl _ _ rfl rfl _ _ H.out ?_)
  go_ret
  exact⟨rfl,rfl⟩
 |some a=>
  obtain⟨ab,aof,asp⟩:=a
  go_wp2_with (at_builtin;refine fC _ rfl _ _ 117 117 rfl _ _ rfl rfl _ _ H.out ?_)
  all_goals (go_ret;exact⟨rfl,rfl⟩)
theorem lu{P:Program}{ops:Array Oper}{o:Oper}{a:Act}{w:World}{K:Act->World->Prop}{Q:Exit->Act->World->Prop}{E:Prop}
 (hg:o.guard=none) (d x:Operand) (dT sT:TypeId) (hop:o.op=Op.call {callee:=Callee.builtin Builtin.copy,args:=#[d,x],argTypes:=#[dT,sT]})
 (v u:Value) (hd:a.eval d=v) (hx:a.eval x=u) {v':Value} {w':World} (hr:(Builtin.copy_ #[dT,sT] o.type #[v,u]).run P w=.ok v' w') (hK:K (a.put o.dst v') w'):
 if Region.wanted o (yielded ops a.tmps)=true then Oper.wp P o a w K Q else E:=by
 have hw:Region.wanted o (yielded ops a.tmps)=true:=by simp[Region.wanted,hg]
 rw[if_pos hw]
 unfold Oper.wp
 simp[execOp,hop,Go.resolve,invoke,builtin,hd,hx,hr,Result.andThen]
 exact hK
theorem gB{P:Program}(w:World){ops:Array Oper}{rest:List Oper}{o:Oper}{a:Act}{Q:Exit->Act->World->Prop}(hgd:o.guard=none)(d s:Operand)(t t':TypeId)
 (ho:o.op=.call {callee:=.builtin .copy,args:=#[d,s],argTypes:=#[t,t']}) (v u:Value) (hd:a.eval d=v) (hs:a.eval s=u) {v':Value} {w':World}
 (hr:(Builtin.copy_ #[t,t'] o.type #[v,u]).run P w=.ok v' w') (h:wpList P ops Q rest (a.put o.dst v') w'):wpList P ops Q (o::rest) a w:=
 wpList_plain hgd λ_ hK=>by
  unfold Oper.wp
  simp[execOp,ho,Go.resolve,invoke,builtin,hd,hs,hr,Result.andThen]
  exact hK _ _ h
theorem px(b:Nat)(vs:List Value)(o:Nat)(w:World)(h:∀ j,j<vs.length->(w.cell? ⟨b,o+j,none⟩).isSome=true)(k:Nat)(hk:(w.cell? ⟨b,k,none⟩).isSome=true):((w.setCells b o vs).cell? ⟨b,k,none⟩).isSome=true:=by
 by_cases hin:o<=k/\k<o+vs.length
 ·have:=World.cell?_setCells_in b vs o w h (k-o) (by omega)
  rw[show o+(k-o)=k by omega]at this
  rw[this];rfl
 ·rw[nW b vs o w ⟨b,k,none⟩ (λ_ _=>by show k<o\/o+vs.length<=k;omega)]
  exact hk
set_option maxHeartbeats 4000000 in
set_option maxRecDepth 100000 in
theorem A4(b off n c i vb ji vc:Nat)(cs vs:List Value)(w:World)(hi:i<n)(mo:n+1<=c)(JI:(c:Int)<=9223372036854775807)(hvb:vb≠b)
 (hcl:cs.length=n*3) (hvl:vs.length=3)
 (hcs:∀ j v,cs[j]?=some v->w.cell? ⟨b,off+j,none⟩=some v) (hsp:∀ j,j<(n+1)*3->(w.cell? ⟨b,off+j,none⟩).isSome=true) (hfz:∀ j,j<(n+1)*3->w.frozen? ⟨b,off+j,none⟩=false)
 (hvs:∀ j v,vs[j]?=some v->w.cell? ⟨vb,ji+j,none⟩=some v) (h1c:∀ v∈cs,v.oneCell'=true) (h1v:∀ v∈vs,v.oneCell'=true)
 (tA tB:TypeId) (kA kB:Nat) (hsa:w.shape? vb=some (tA,kA)) (hsb:w.shape? b=some (tB,kB)) (hkB:kB≠0) (hfa:w.frozen? ⟨vb,ji,none⟩=false) (hfe:w.frozen? ⟨vb,kA,none⟩=false)
 (hsz:(Tryz.prog.info? 131).map (·.size)=some 3):
 Calls Tryz.prog 165 #[.slice (some ⟨b,off,none⟩) n c,.int .i64 i,.slice (some ⟨vb,ji,none⟩) 1 vc] w λe w'=>
  e=.returned (.slice (some ⟨b,off,none⟩) (n+1) c)/\w'=(w.drew.setCells b (off+(i+1)*3) (cs.drop (i*3))).setCells b (off+i*3) vs:=by
 have mixed:Tryz.prog.follows .mixedOrders=true:=by kernel_rfl
 have hz2:¬((i:Int)=(n:Int)):=by omega
 have Nf:∀ w,(Go.sizeOf 131).run Tryz.prog w=.ok 3 w:=λw=>by
  cases hq:Tryz.prog.info? 131 with
  |none=>simp[hq]at hsz
  |some q=>
   have:q.size=3:=by simpa [hq]using hsz
   simp[Go.sizeOf,typeInfo,hq,this]
 have hov:∀ lb cb,(callFunc 204 #[.slice (some ⟨vb,ji,none⟩) 1 vc,.slice (some ⟨b,off+(i+1)*3,none⟩) lb cb]).run Tryz.prog w=.ok (.value (.bool false)) w:=λlb cb=>by
  rw[run_callFunc_extern Tryz.func204 (by kernel_rfl) (by kernel_rfl) (by kernel_rfl) (e:=Extern.SlicesOverlaps.overlaps #[117,117] #[4]) (by kernel_rfl),
   Lib.run_overlaps_apart w 117 4 131 Tryz.underlying117 3 Nf ⟨vb,ji,none⟩ ⟨b,off+(i+1)*3,none⟩ 1 vc lb cb hvb tA tB kA kB hsa hsb hkB hfa hfe]
  rfl
 have hdl:(cs.drop (i*3)).length=(n-i)*3:=by rw[bm,hcl,lP]
 have hw1:IntKind.i64.wrap ((i:Int)+1)=(i:Int)+1:=by rw[IntKind.wrap_i64];omega
 have hb1:(0:Int)<=(i:Int)+1:=by omega
 have hin:i<=n:=by omega
 have htn:((i:Int)+1).toNat=i+1:=by omega
 have hb2:¬(c=i+1):=by omega
 have hb3:(i:Int)<=(n:Int)+1:=by omega
 have hb4:¬(c=i):=by omega
 have KG:∀ ty dc sc,(Builtin.copy_ #[117,117] ty #[.slice (some ⟨b,off+(i+1)*3,none⟩) (n-i) dc,.slice (some ⟨b,off+i*3,none⟩) (n+1-i) sc]).run Tryz.prog w.drew=.ok (goInt (Nat.min (n+1-i) (n-i))) (w.drew.setCells b (off+(i+1)*3) (cs.drop (i*3))):=λty dc sc=>
  kr w.drew _ _ ty 131 3 b (off+(i+1)*3) (n-i) dc ⟨b,off+i*3,none⟩ (n+1-i) sc (cs.drop (i*3)) Tryz.underlying117 hsz (by rw[hdl];congr 1;simp only[Nat.min_def];split <;> omega)
   (λj v hj=>by rw[cq,bV];exact hcs (i*3+j) v (by rwa [eU]at hj))
   (λj hj=>by rw[bV];exact hsp _ (by omega)) (λj hj=>by rw[bV];exact hfz _ (by omega)) (λv hv=>h1c v (lD hv))
 obtain⟨W1,hW1⟩:∃ W1,W1=w.drew.setCells b (off+(i+1)*3) (cs.drop (i*3)):=⟨_,rfl⟩
 have Ng:∀ k,k<(n+1)*3->(W1.cell? ⟨b,off+k,none⟩).isSome=true:=λk hk=>by
  rw[hW1]
  exact px b _ _ _ (λj hj=>by rw[bV];exact hsp _ (by omega)) _ (hsp k hk)
 have Nh:∀ (W:World),(∀ x,W.cell? x=W1.cell? x)->(∀ x,W.frozen? x=W1.frozen? x)->∀ ty dc,(Builtin.copy_ #[117,117] ty #[.slice (some ⟨b,off+i*3,none⟩) (n+1-i) dc,.slice (some ⟨vb,ji,none⟩) 1 vc]).run Tryz.prog W=.ok (goInt (Nat.min 1 (n+1-i))) (W.setCells b (off+i*3) vs):=λW hWc hWf ty dc=>
  kr W _ _ ty 131 3 b (off+i*3) (n+1-i) dc ⟨vb,ji,none⟩ 1 vc vs Tryz.underlying117 hsz (by rw[hvl];have:Nat.min 1 (n+1-i)=1:=c7 (by omega);rw[this])
   (λj v hj=>by
    rw[cq,hWc,hW1,nW b _ _ _ _ (λh _=>absurd h hvb)]
    exact hvs j v hj)
   (λj hj=>by rw[hWc,bV];exact Ng _ (by omega)) (λj hj=>by rw[hWf,hW1,World.frozen?_setCells,bV];exact hfz _ (by omega)) h1v
 rw[<-hW1]at KG
 go_enter Tryz.func165,Tryz.ntmps165
 go_wp2_with (simp only[hov])
 go_region_law_o (refine lu rfl _ _ 117 117 rfl _ _ (by simp[Act.eval,Act.put]) (by simp[Act.eval,Act.put]) (KG _ _ _) ?_)
 go_wp2_with (at_builtin;refine gB _ rfl _ _ 117 117 rfl _ _ rfl rfl (Nh _ (λ_=>rfl) (λ_=>rfl) _ _) ?_)
 go_ret
 first|exact⟨rfl,rfl⟩|exact⟨rfl,by rw[hW1]⟩
set_option maxHeartbeats 4000000 in
set_option maxRecDepth 100000 in
theorem Df(b off n c i vb ji vc:Nat)(cs vs:List Value)(w:World)(hi:i<n)(hnc:n<=c)(mo:c<n+1)(tN:(n+1)*24<=140737488355328)
 (hcl:cs.length=n*3) (hvl:vs.length=3)
 (hcs:∀ j v,cs[j]?=some v->w.cell? ⟨b,off+j,none⟩=some v)
 (hvs:∀ j v,vs[j]?=some v->w.cell? ⟨vb,ji+j,none⟩=some v) (h1c:∀ v∈cs,v.oneCell'=true) (h1v:∀ v∈vs,v.oneCell'=true)
 (hbw:b<w.heap.size) (hvw:vb<w.heap.size) (i0:TypeInfo) (z:Value) (hi0:Tryz.prog.info? 131=some i0) (hz0:i0.zero=some z) (hzs:i0.size=3) (hzb:i0.bytes=24) (hzc:z.cells.size=3):
 Calls Tryz.prog 165 #[.slice (some ⟨b,off,none⟩) n c,.int .i64 i,.slice (some ⟨vb,ji,none⟩) 1 vc] w λe w'=>
  e=.returned (.slice (some ⟨w.heap.size,0,none⟩) (n+1) (grownCap w (n+1) c 131))/\
  w'=(((w.alloc (.cells ((cs.take (i*3)).toArray++Builtin.zeroCells z.cells (n+1-i)++Builtin.zeroCells z.cells (grownCap w (n+1) c 131-(n+1))) 131)).drew.setCells w.heap.size (i*3) vs).drew).setCells w.heap.size ((i+1)*3) (cs.drop (i*3)):=by
 have mixed:Tryz.prog.follows .mixedOrders=true:=by kernel_rfl
 have hz2:¬((i:Int)=(n:Int)):=by omega
 have hz3:(c:Int)<(n:Int)+1:=by omega
 have hsz:(Tryz.prog.info? 131).map (·.size)=some 3:=by rw[hi0];simp[hzs]
 have hkk:(n:Int)+1-(i:Int)=((n+1-i:Nat):Int):=by omega
 have hik:i+(n+1-i)=n+1:=by omega
 have hold:(Builtin.firstCells i0.size i (.slice (some ⟨b,off,none⟩) i c)).run Tryz.prog w.drew=.ok (cs.take (i*3)).toArray w.drew:=by
  rw[hzs]
  exact run_firstCells_some w.drew 3 i ⟨b,off,none⟩ i c (cs.take (i*3)) (by rw[aK];omega) (λj v hj=>by
   rw[cq]
   rw[dD]at hj
   split at hj
   ·exact hcs j v hj
   ·cases hj)
 have hrz:∀ ty,(Builtin.append_ #[117,3] ty #[.slice (some ⟨b,off,none⟩) i c,.int .i64 ((n:Int)+1-(i:Int))]).run Tryz.prog w=
  .ok (.slice (some ⟨w.heap.size,0,none⟩) (n+1) (grownCap w (n+1) c 131)) (w.drew.alloc (.cells ((cs.take (i*3)).toArray++Builtin.zeroCells z.cells (n+1-i)++Builtin.zeroCells z.cells (grownCap w (n+1) c 131-(n+1))) 131)):=λty=>by
  have h:=Lib.run_append_grow_zeros (P:=Tryz.prog) w 117 3 ty 131 i0 z .i64 .i64 Tryz.underlying117 Tryz.underlying3 hi0 hz0 (some ⟨b,off,none⟩) i c (cs.take (i*3)) hold (n+1-i) (by omega) (by omega) (by omega) (by omega) (by rw[hzb];omega) (by rw[hzb,hik];exact growslice_fits mo tN)
  rw[hik]at h
  rw[hkk]
  exact h
 obtain⟨G,hG⟩:∃ G,G=grownCap w (n+1) c 131:=⟨_,rfl⟩
 obtain⟨ROW,vY⟩:∃ ROW:Array Value,ROW=(cs.take (i*3)).toArray++Builtin.zeroCells z.cells (n+1-i)++Builtin.zeroCells z.cells (G-(n+1)):=⟨_,rfl⟩
 rw[<-hG]at hrz |-
 rw[<-vY]at hrz |-
 have hRl:(n+1)*3<=ROW.size:=by
  rw[vY]
  simp only[lF,size_zeroCells,hzc,ol,aK,hcl]
  have:min (i*3) (n*3)=i*3:=c7 (by omega)
  omega
 obtain⟨W1,hW1⟩:∃ W1,W1=w.drew.alloc (.cells ROW 131):=⟨_,rfl⟩
 rw[<-hW1]at hrz
 have hN:∀ j,j<(n+1)*3->(W1.cell? ⟨w.heap.size,j,none⟩).isSome=true:=λj hj=>by
  rw[hW1,World.cell?_alloc_at (w:=w.drew) ROW _ w.heap.size j rfl,Array.getElem?_eq_getElem (by omega)];rfl
 have hNf:∀ j,W1.frozen? ⟨w.heap.size,j,none⟩=false:=λj=>by rw[hW1];exact World.frozen?_alloc_at (w:=w.drew) ROW _ w.heap.size j rfl
 have hOb:∀ j v,w.cell? ⟨b,j,none⟩=some v->W1.cell? ⟨b,j,none⟩=some v:=λj v h=>by rw[hW1,World.cell?_alloc_past (w:=w.drew) _ b j hbw];exact h
 have hOv:∀ j v,w.cell? ⟨vb,j,none⟩=some v->W1.cell? ⟨vb,j,none⟩=some v:=λj v h=>by rw[hW1,World.cell?_alloc_past (w:=w.drew) _ vb j hvw];exact h
 have Ni:∀ (W:World),(∀ x,W.cell? x=W1.cell? x)->(∀ x,W.frozen? x=W1.frozen? x)->∀ ty dc,(Builtin.copy_ #[117,117] ty #[.slice (some ⟨w.heap.size,i*3,none⟩) (n+1-i) dc,.slice (some ⟨vb,ji,none⟩) 1 vc]).run Tryz.prog W=.ok (goInt (Nat.min 1 (n+1-i))) (W.setCells w.heap.size (i*3) vs):=λW hWc hWf ty dc=>
  kr W _ _ ty 131 3 w.heap.size (i*3) (n+1-i) dc ⟨vb,ji,none⟩ 1 vc vs Tryz.underlying117 hsz (by rw[hvl];have:Nat.min 1 (n+1-i)=1:=c7 (by omega);rw[this])
   (λj v hj=>by rw[cq,hWc];exact hOv _ v (hvs j v hj))
   (λj hj=>by rw[hWc];exact hN _ (by omega)) (λj hj=>by rw[hWf];exact hNf _) h1v
 have hGn:n+1<=G:=by rw[hG];exact grownCap_ge w _ _ _
 have NK:G<=9223372036854775807:=by
  have:=grownCap_le_maxLen w (n+1) c 131 (by unfold maxLen;omega)
  rw[<-hG]at this
  unfold maxLen at this
  omega
 have hGi:¬(G=i):=by omega
 have NL:¬(G=i+1):=by omega
 have hci:¬(c=i):=by omega
 have hbN:b≠w.heap.size:=by omega
 have hdl:(cs.drop (i*3)).length=(n-i)*3:=by rw[bm,hcl,lP]
 have KH:∀ (W:World),(∀ x,W.cell? x=(W1.setCells w.heap.size (i*3) vs).cell? x)->(∀ x,W.frozen? x=(W1.setCells w.heap.size (i*3) vs).frozen? x)->∀ ty dc sc,(Builtin.copy_ #[117,117] ty #[.slice (some ⟨w.heap.size,(i+1)*3,none⟩) (n-i) dc,.slice (some ⟨b,off+i*3,none⟩) (n-i) sc]).run Tryz.prog W=.ok (goInt (Nat.min (n-i) (n-i))) (W.setCells w.heap.size ((i+1)*3) (cs.drop (i*3))):=λW hWc hWf ty dc sc=>
  kr W _ _ ty 131 3 w.heap.size ((i+1)*3) (n-i) dc ⟨b,off+i*3,none⟩ (n-i) sc (cs.drop (i*3)) Tryz.underlying117 hsz (by rw[hdl];congr 1;exact(Nat.min_self _).symm)
   (λj v hj=>by
    rw[cq,hWc,nW _ _ _ _ _ (λh _=>absurd h hbN),bV]
    exact hOb _ v (hcs (i*3+j) v (by rwa [eU]at hj)))
   (λj hj=>by rw[hWc];exact px _ _ _ _ (λt ht=>hN _ (by omega)) _ (hN _ (by omega)))
   (λj hj=>by rw[hWf,World.frozen?_setCells];exact hNf _) (λv hv=>h1c v (lD hv))
 subst hW1
 have hE1:∀ x,((w.alloc (.cells ROW 131)).drew).cell? x=(w.drew.alloc (.cells ROW 131)).cell? x:=λx=>rfl
 have hE2:∀ x,((w.alloc (.cells ROW 131)).drew).frozen? x=(w.drew.alloc (.cells ROW 131)).frozen? x:=λx=>rfl
 have hF1:∀ x,(((w.alloc (.cells ROW 131)).drew.setCells w.heap.size (i*3) vs).drew).cell? x=((w.drew.alloc (.cells ROW 131)).setCells w.heap.size (i*3) vs).cell? x:=λx=>rfl
 have hF2:∀ x,(((w.alloc (.cells ROW 131)).drew.setCells w.heap.size (i*3) vs).drew).frozen? x=((w.drew.alloc (.cells ROW 131)).setCells w.heap.size (i*3) vs).frozen? x:=λx=>rfl
 have hw1:IntKind.i64.wrap ((i:Int)+1)=(i:Int)+1:=by rw[IntKind.wrap_i64];omega
 have hb1:(0:Int)<=(i:Int)+1:=by omega
 have hin:i<=n:=by omega
 have htn:((i:Int)+1).toNat=i+1:=by omega
 have hb3:(i:Int)<=(n:Int):=by omega
 clear hkk hik hold vY hG hRl
 go_enter Tryz.func165,Tryz.ntmps165
 go_wp2_with (first
  |(at_builtin;refine fC _ rfl _ _ 117 3 rfl _ _ rfl rfl _ _ (hrz _) ?_)
  |(at_builtin;refine gB _ rfl _ _ 117 117 rfl _ _ rfl rfl (Ni _ hE1 hE2 _ _) ?_)
  |(at_builtin;refine gB _ rfl _ _ 117 117 rfl _ _ rfl rfl (KH _ (λ_=>rfl) (λ_=>rfl) _ _ _) ?_))
 go_region_law_o (refine lu rfl _ _ 117 117 rfl (.slice (some ⟨w.heap.size,(i+1)*3,none⟩) (n-i) (G-(i+1))) (.slice (some ⟨b,off+i*3,none⟩) (n-i) (c-i)) (by simp[Act.eval,Act.put]) (by simp[Act.eval,Act.put]) (KH _ hF1 hF2 3 (G-(i+1)) (c-i)) ?_)
 go_wp2
 go_ret
 exact⟨rfl,rfl⟩
end
noncomputable section
abbrev It:=Int×(Int×Int)
def itC(x:It):List Value:=[.int .i64 x.1,.int .i64 x.2.1,.int .u64 x.2.2]
def xI(x:It):Prop:=inK .i64 x.1/\inK .i64 x.2.1/\inK .u64 x.2.2
def itL(xs:List It):List Value:=xs.flatMap itC
theorem tO:∀ xs,(itL xs).length=xs.length*3
 |[]=>rfl
 |x::xs=>by
  show(itC x++itL xs).length=_
  rw[al,tO xs,bU]
  show 3+_=_
  omega
theorem qT(xs ys:List It):itL (xs++ys)=itL xs++itL ys:=List.flatMap_append
theorem vZ:∀ (i:Nat) (xs:List It),itL (xs.take i)=(itL xs).take (i*3)
 |0,xs=>by simp[itL]
 |i+1,[]=>by simp[itL]
 |i+1,x::xs=>by
  show itC x++itL (xs.take i)=(itC x++itL xs).take ((i+1)*3)
  rw[vZ i xs,show(i+1)*3=(itC x).length+i*3 by show _=3+_;omega,List.take_length_add_append]
theorem we:∀ (i:Nat) (xs:List It),itL (xs.drop i)=(itL xs).drop (i*3)
 |0,xs=>by simp
 |i+1,[]=>by simp[itL]
 |i+1,x::xs=>by
  show itL (xs.drop i)=(itC x++itL xs).drop ((i+1)*3)
  rw[we i xs,show(i+1)*3=(itC x).length+i*3 by show _=3+_;omega,List.drop_length_add_append]
theorem l6:∀ (xs:List It),∀ v∈itL xs,v.oneCell'=true
 |[],v,h=>by cases h
 |x::xs,v,h=>by
  rcases aC.1 (show v∈itC x++itL xs from h)with h|h
  ·simp only[itC,aH,bP,or_false]at h
   rcases h with rfl|rfl|rfl <;> rfl
  ·exact l6 xs v h
theorem IW{F:ae}{w:World}{m:Md}{x:It}{cs:List Value}{S:ae}(h:Rep F w iU m x cs S):cs=itC x/\xI x:=by
 obtain⟨c1,c2,S1,S2,rfl,⟨rfl,k1⟩,⟨c3,c4,S3,S4,rfl,⟨rfl,k2⟩,⟨rfl,k3⟩,_⟩,_⟩:=h
 exact⟨rfl,k1,k2,k3⟩
theorem IX{F:ae}{w:World}{m:Md}{x:It}(h:xI x):Rep F w iU m x (itC x) ae.none:=
 ⟨[_],_,ae.none,ae.none,rfl,⟨rfl,h.1⟩,⟨[_],[_],ae.none,ae.none,rfl,⟨rfl,h.2.1⟩,⟨rfl,h.2.2⟩,Sub.refl _,Sub.refl _,λ_ h=>h.elim⟩,Sub.refl _,Sub.refl _,λ_ h=>h.elim⟩
theorem yB{F:ae}{w:World}{m:Md}:∀ {xs:List It} {cs:List Value} {S:ae},aY (Rep F w iU m) xs cs S->cs=itL xs/\∀ x∈xs,xI x
 |[],cs,S,h=>⟨h,λx hx=>by cases hx⟩
 |x::xs,cs,S,h=>by
  obtain⟨c1,c2,S1,S2,rfl,h1,h2,_⟩:=h
  obtain⟨rfl,k1⟩:=IW h1
  obtain⟨rfl,k2⟩:=yB h2
  exact⟨rfl,λy hy=>by rcases aH.1 hy with rfl|hy;exact k1;exact k2 y hy⟩
theorem tP{F:ae}{w:World}{m:Md}:∀ {xs:List It},(∀ x∈xs,xI x)->aY (Rep F w iU m) xs (itL xs) ae.none
 |[],_=>rfl
 |x::xs,h=>⟨_,_,ae.none,ae.none,rfl,IX (h x List.mem_cons_self),tP (λy hy=>h y (oa _ hy)),Sub.refl _,Sub.refl _,λ_ h=>h.elim⟩
theorem xJ(L A Y vs:List Value)(o1 o2:Nat)(h1:L.take o1=A)(h2:o1<=L.length)(hv:vs.length=3)(ho:o2=o1+3)(h3:o2<=L.length):
 ∀ L1,L1=L.take o2++Y++L.drop (o2+Y.length)->L1.take o1++vs++L1.drop (o1+vs.length)=A++vs++Y++L.drop (o2+Y.length):=by
 rintro L1 rfl
 have e1:(L.take o2++Y++L.drop (o2+Y.length)).take o1=A:=by
  rw[aT,eQ (by rw[aK];omega),jz,show min o1 o2=o1 by omega,h1]
 have e2:(L.take o2++Y++L.drop (o2+Y.length)).drop (o1+vs.length)=Y++L.drop (o2+Y.length):=by
  rw[aT,hv,<-ho]
  exact List.drop_left' (by rw[aK];omega)
 rw[e1,e2]
 simp
end
noncomputable section
def Ba(n:Nat)(x:List It×(Int×(List It×Unit))):Option ((List It×Unit)×Unit):=
 if x.2.2.1.length=1/\0<=x.2.1/\x.2.1.toNat<=x.1.length/\(x.1.length+1)*24<=140737488355328 then some ((x.1.take x.2.1.toNat++x.2.2.1++x.1.drop x.2.1.toNat,()),())else none
theorem Dg:Plain Tryz.prog 165:=⟨_,Tryz.func165,by kernel_rfl,by kernel_rfl⟩
theorem sq{F:ae}{w:World}{xs:List It}{ao:Option Addr}{cap:Nat}{S:ae}(h:Rep F w (.sl iU) (.own .ro) xs [.slice ao xs.length cap] S)(hp:0<cap):
 xs.length<=cap/\cap<=maxLen/\(∀ x∈xs,xI x)/\∃ (b off:Nat) (c:Array Value) (e:Mark c.size 3),ao=some ⟨b,off,none⟩/\w.heap[b]?=some (.cells c e.t (e.a,e.b))/\off+cap*3<=c.size/\S b/\(c.toList.drop off).take (xs.length*3)=itL xs:=by
 obtain⟨a,cp,e0,h1,h2,h3⟩:=h
 injection e0 with e0 _
 injection e0 with q1 q2 q3
 subst q1 q3
 rcases h3 with rfl|⟨b,off,c,e,rfl,hb,hc,hS,S0,hr,_,_⟩
 ·omega
 ·obtain⟨k1,k2⟩:=yB hr
  exact⟨h1,h2,k2,b,off,c,e,rfl,hb,hc,hS,k1⟩
theorem Dh{F:ae}{w:World}{xs:List It}{b off cap:Nat}{c:Array Value}(e:Mark c.size 3){S:ae}(h1:xs.length<=cap)(h2:cap<=maxLen)(hb:w.heap[b]?=some (.cells c e.t (e.a,e.b)))(hc:off+cap*3<=c.size)(hS:S b)(hk:∀ x∈xs,xI x)
 (hr:(c.toList.drop off).take (xs.length*3)=itL xs):Rep F w (.sl iU) (.own .ro) xs [.slice (some ⟨b,off,none⟩) xs.length cap] S:=
 ⟨_,cap,rfl,h1,h2,.inr ⟨b,off,c,e,rfl,hb,hc,hS,ae.none,by
  show aY _ _ ((c.toList.drop off).take (xs.length*3)) _
  rw[hr];exact tP hk,λ_ h=>h.elim,λh=>h⟩⟩
theorem Di{F:ae}{w:World}{xs:List It}{ao:Option Addr}{cap:Nat}{S:ae}(h:Rep F w (.sl iU) (.own .ro) xs [.slice ao xs.length cap] S):xs.length<=cap/\cap<=maxLen:=by
 obtain⟨a,cp,e0,h1,h2,h3⟩:=h
 injection e0 with e0 _
 injection e0 with q1 q2 q3
 subst q1 q3
 exact⟨h1,h2⟩
set_option maxHeartbeats 1000000 in
theorem Dj(N:Nat)(xs ys:List It)(i:Nat){F:ae}{w:World}{S S1 S5:ae}{ao ao3:Option Addr}{cap qU:Nat}(hSF:Dis S F)(hF:∀ k,F k->k<w.heap.size)(hS:∀ k,S k->k<w.heap.size)
 (hy1:ys.length=1) (hin:i<=xs.length) (tN:(xs.length+1)*24<=140737488355328) (hx1:Rep F w (.sl iU) (.own .ro) xs [.slice ao xs.length cap] S1) (hx3:Rep F w (.sl iU) (.own .ro) ys [.slice ao3 ys.length qU] S5)
 (s1:Sub S1 S) (hS5:Sub S5 S) (Nj:Dis S1 S5):
 Calls Tryz.prog 165 #[.slice ao xs.length cap,.int .i64 i,.slice ao3 ys.length qU] w (qs ⟨[(.sl iU,.own .ro),(y3,.ro),(.sl iU,.own .ro)],[(.sl iU,.own .ro)],[],[],Ba N⟩ ((xs.take i++ys++xs.drop i,()),()) F w S [.slice ao xs.length cap,.int .i64 i,.slice ao3 ys.length qU]):=by
 obtain⟨hle,hcm⟩:=Di hx1
 obtain⟨NM,NN⟩:=Di hx3
 obtain⟨_,_,hyk,vb,ji,c3,e3,rfl,hb3,hc3,KI,Hu⟩:=sq hx3 (by omega)
 rw[hy1]at Hu |-
 have hl3:(itL ys).length=3:=by rw[tO,hy1]
 have IY:∀ j v,(itL ys)[j]?=some v->w.cell? ⟨vb,ji+j,none⟩=some v:=by
  intro j v hj
  rw[<-Hu,dD]at hj
  split at hj
  ·rw[eU]at hj
   simp only[World.cell?,hb3]
   simpa using hj
  ·cases hj
 -- the end
 have fin:∀ (v':Value) (w':World) (Sr:ae),w'.os=w.os->w'.tape=w.tape->w'.output=w.output->w.heap.size<=w'.heap.size->(∀ k,k<w.heap.size->¬S k->w'.heap[k]?=w.heap[k]?)->
  Rep F w' (.sl iU) (.own .ro) (xs.take i++ys++xs.drop i) [v'] Sr->(∀ k,Sr k->S k\/(w.heap.size<=k/\k<w'.heap.size))->
  qs ⟨[(.sl iU,.own .ro),(y3,.ro),(.sl iU,.own .ro)],[(.sl iU,.own .ro)],[],[],Ba N⟩ ((xs.take i++ys++xs.drop i,()),()) F w S [.slice ao xs.length cap,.int .i64 i,.slice (some ⟨vb,ji,none⟩) 1 qU] (.returned v') w':=by
  intro v' w' Sr q1 q2 q3 q4 q5 bh hsr
  have hvr:VR (.sl iU) [v'] v':=by
   obtain⟨a,cp,e0,_⟩:=bh
   injection e0 with e0 _
   subst e0
   simp[VR,Ty.agg,Value.oneCell']
  refine⟨[v'],F,Sr,ae.none,rfl,⟨_,[],[v'],Sr,ae.none,rfl,bh,hvr,rfl,Sub.refl _,λ_ h=>h.elim,λ_ _ h=>h.elim⟩,rfl,λ_ _ h=>h.elim,⟨q1,q2,q3,q4,q5⟩,Sub.refl _,λk hk=>bc (hF k hk) q4,λk hk _ _=>hk,?_⟩
  rintro k (hk|hk)
  ·rcases hsr k hk with h|⟨h,h'⟩
   ·exact⟨bc (hS k h) q4,λhf=>hSF k h hf,λ_=>h⟩
   ·exact⟨h',λhf=>by have:=hF k hf;omega,λhl=>by omega⟩
  ·exact hk.elim
 have hrl:(xs.take i++ys++xs.drop i).length=xs.length+1:=by
  rw[al,al,aK,bm,hy1];omega
 by_cases kt:i=xs.length
 ·subst kt
  obtain⟨v',w',bE,q1,q2,q3,q4,q5,q6⟩:=pk (P:=Tryz.prog) (F:=F) (w:=w) hF (t:=117) (tx:=117) (ty:=117) Iz Tryz.underlying117 (me:=.ro) (x1:=xs) (x2:=ys) (v1:=.slice ao xs.length cap) (v2:=.slice (some ⟨vb,ji,none⟩) 1 qU) (S1:=S1) (S2:=ae.none) hx1 (news:=itL ys)
   (by
    have:=Src.ofSlice (P:=Tryz.prog) (w:=w) (size:=3) Tryz.underlying117 ⟨vb,ji,none⟩ 1 qU (itL ys) (by rw[hl3]) (λj v hj=>by rw[cq];exact IY j v hj) (l6 ys)
    show Src Tryz.prog 3 117 _ ys.length _ w
    rw[hy1];exact this)
   (tP hyk) (λ_ _ h=>h.elim) (λk hk hf=>hSF k (s1 k hk) hf) (λk hk=>hS k (s1 k hk)) (λ_ h=>h.elim) (by show(xs.length+ys.length)*24<=_;rw[hy1];exact tN) (by show xs.length+ys.length<=_;rw[hy1];unfold maxLen;omega)
  refine(Gf ao xs.length cap ⟨vb,ji,none⟩ qU w hle (by unfold maxLen at hcm;omega) (by omega) v' w' bE).mono λe W he=>?_
  obtain⟨rfl,rfl⟩:=he
  refine fin _ _ (λk=>S1 k\/ae.none k\/(w.heap.size<=k/\k<W.heap.size)) q1 q2 q3 q4 (λk hk hs=>q5 k hk (λh=>hs (s1 k h))) ?_ ?_
  ·rw[cN,eE,cQ];exact q6
  ·rintro k (h|h|h)
   ·exact .inl (s1 k h)
   ·exact h.elim
   ·exact .inr h
 ·have hi:i<xs.length:=by omega
  obtain⟨_,_,hxk,b,off,c,e,rfl,hb,hcc,hSb,fi⟩:=sq hx1 (by omega)
  have hvb:vb≠b:=λh=>Nj b hSb (h ▸ KI)
  have hbw:b<w.heap.size:=hS b (s1 b hSb)
  have hvw:vb<w.heap.size:=hS vb (hS5 vb KI)
  have hlx:=tO xs
  have hcl:c.toList.length=c.size:=aO
  have hat:∀ j v,(itL xs)[j]?=some v->w.cell? ⟨b,off+j,none⟩=some v:=by
   intro j v hj
   rw[<-fi,dD]at hj
   split at hj
   ·rw[eU]at hj
    simp only[World.cell?,hb]
    simpa using hj
   ·cases hj
  have hP:∀ x∈xs.take i++ys++xs.drop i,xI x:=by
   intro x hx
   rcases aC.1 hx with hx|hx
   ·rcases aC.1 hx with hx|hx
    ·exact hxk x (List.mem_of_mem_take hx)
    ·exact hyk x hx
   ·exact hxk x (lD hx)
  have tv:itL (xs.take i++ys++xs.drop i)=(itL xs).take (i*3)++itL ys++(itL xs).drop (i*3):=by
   rw[qT,qT,vZ,we]
  obtain⟨ti,z,hti,ht1,ht2,ht3,ht4⟩:=Iz.ry
  have hz:z.cells.size=3:=by rw[<-aO,ht4];rfl
  have hsz:(Tryz.prog.info? 131).map (·.size)=some 3:=by rw[hti];exact congrArg some ht1
  have hdl:((itL xs).drop (i*3)).length=(xs.length-i)*3:=by rw[bm,hlx,lP]
  by_cases mo:xs.length+1<=cap
  ·have NG:(xs.length+1)*3<=cap*3:=eR _ mo
   refine(A4 b off xs.length cap i vb ji qU (itL xs) (itL ys) w hi mo (by unfold maxLen at hcm;omega) hvb hlx hl3 hat (λj hj=>by simp only[World.cell?,hb];simp;omega) (λj hj=>Mark.frz (e:=e) hb rfl (by show off+j<c.size;omega)) IY (l6 xs) (l6 ys)
    e3.t e.t c3.size c.size (by simp[World.shape?,hb3]) (by simp[World.shape?,hb]) (by omega) (Mark.frz (e:=e3) hb3 rfl (by show ji<c3.size;omega)) (by
     have h:=e3.en (by decide)
     simp only[World.frozen?,hb3]
     rcases av c3.size e3.a with h1|h1
     ·have:decide (e3.a<=c3.size)=false:=decide_eq_false (by omega)
      simp[this]
     ·have:decide (c3.size<e3.b)=false:=decide_eq_false (λh2=>h ⟨h1,h2⟩)
      simp[this]) hsz).mono λe' W he=>?_
   obtain⟨rfl,rfl⟩:=he
   obtain⟨a1,⟨cA,a2,a3⟩,a4,a5,a6,a7⟩:=dl b ((itL xs).drop (i*3)) (off+(i+1)*3) w.drew c e.t (e.a,e.b) hb (by rw[hdl];omega)
   have hcA:cA.size=c.size:=by
    rw[<-aO,<-aO,a3]
    simp only[al,aK,bm,hcl,hlx]
    omega
   obtain⟨b1,⟨cB,b2,b3⟩,b4,b5,b6,b7⟩:=dl b (itL ys) (off+i*3) _ cA e.t (e.a,e.b) a2 (by rw[hl3,hcA];omega)
   have hcB:cB.size=c.size:=by
    rw[<-hcA,<-aO,<-aO (xs:=cA),b3]
    simp only[al,aK,bm,aO,hl3]
    omega
   have KJ:cB.toList=c.toList.take off++(itL xs).take (i*3)++itL ys++(itL xs).drop (i*3)++c.toList.drop (off+(i+1)*3+((itL xs).drop (i*3)).length):=by
    rw[b3]
    exact xJ c.toList _ _ _ (off+i*3) (off+(i+1)*3) (by
     rw[<-fi,jz,show min (i*3) (xs.length*3)=i*3 by omega,List.take_add]) (by omega) hl3 (by omega) (by omega) cA.toList a3
   refine fin _ _ S1 (b5.trans a5) (b6.trans a6) (b7.trans a7) (by rw[b4,a4];exact ar _) (λk hk hs=>by
    have hkb:k≠b:=λh=>hs (h ▸ s1 b hSb)
    rw[b1 k hkb,a1 k hkb];rfl) ?_ (λk hk=>.inl (s1 k hk))
   have e':Mark cB.size 3:=e.to (gq hcB)
   have:=Dh (F:=F) (w:=((w.drew.setCells b (off+(i+1)*3) ((itL xs).drop (i*3))).setCells b (off+i*3) (itL ys))) (xs:=xs.take i++ys++xs.drop i) (b:=b) (off:=off) (cap:=cap) (c:=cB) (e.to (gq hcB)) (S:=S1) (by rw[hrl];exact mo) hcm b2 (by rw[hcB];exact hcc) hSb hP (by
    rw[hrl,tv,KJ]
    rw[show c.toList.take off++(itL xs).take (i*3)++itL ys++(itL xs).drop (i*3)++c.toList.drop (off+(i+1)*3+((itL xs).drop (i*3)).length)=c.toList.take off++(((itL xs).take (i*3)++itL ys++(itL xs).drop (i*3))++c.toList.drop (off+(i+1)*3+((itL xs).drop (i*3)).length)) by simp]
    rw[List.drop_left' (by rw[aK];omega)]
    exact lI (by
     simp only[al,aK,bm,hlx,hl3];omega))
   rw[hrl]at this
   exact this
  ·refine(Df b off xs.length cap i vb ji qU (itL xs) (itL ys) w hi hle (by omega) (by omega) hlx hl3 hat IY (l6 xs) (l6 ys) hbw hvw ti z hti ht3 ht1 ht2 hz).mono λe' W he=>?_
   obtain⟨rfl,rfl⟩:=he
   obtain⟨ROW,vY⟩:∃ ROW:Array Value,ROW=((itL xs).take (i*3)).toArray++Builtin.zeroCells z.cells (xs.length+1-i)++Builtin.zeroCells z.cells (grownCap w (xs.length+1) cap 131-(xs.length+1)):=⟨_,rfl⟩
   rw[<-vY]
   have hG:=grownCap_ge w (xs.length+1) cap 131
   have hG2:=grownCap_le_maxLen w (xs.length+1) cap 131 (by unfold maxLen;omega)
   obtain⟨G,hGG⟩:∃ G,G=grownCap w (xs.length+1) cap 131:=⟨_,rfl⟩
   rw[<-hGG]at hG hG2 vY |-
   have hRs:ROW.size=G*3:=by
    rw[vY]
    simp only[lF,size_zeroCells,hz,ol,aK,hlx]
    have:min (i*3) (xs.length*3)=i*3:=c7 (by omega)
    omega
   have hRt:ROW.toList.take (i*3)=(itL xs).take (i*3):=by
    rw[vY]
    simp only[oe,aT]
    exact lI (by rw[aK];omega)
   have zZ:(w.alloc (.cells ROW 131)).drew.heap[w.heap.size]?=some (.cells ROW 131 (0,0)):=jI w _
   obtain⟨a1,⟨cA,a2,a3⟩,a4,a5,a6,a7⟩:=dl w.heap.size (itL ys) (i*3) (w.alloc (.cells ROW 131)).drew ROW 131 (0,0) zZ (by rw[hl3,hRs];omega)
   have hRl:ROW.toList.length=G*3:=by rw[aO];exact hRs
   have hcA:cA.size=G*3:=by
    rw[<-aO,a3]
    simp only[al,aK,bm,hRl,hl3]
    omega
   have Nk:cA.toList.length=G*3:=by rw[aO];exact hcA
   obtain⟨b1,⟨cB,b2,b3⟩,b4,b5,b6,b7⟩:=dl w.heap.size ((itL xs).drop (i*3)) ((i+1)*3) ((w.alloc (.cells ROW 131)).drew.setCells w.heap.size (i*3) (itL ys)).drew cA 131 (0,0) a2 (by rw[hdl,hcA];omega)
   have hcB:cB.size=G*3:=by
    rw[<-aO,b3]
    simp only[al,aK,bm,Nk,hlx]
    omega
   have hAt:cA.toList.take ((i+1)*3)=(itL xs).take (i*3)++itL ys:=by
    rw[a3,hRt]
    exact lI (by rw[al,aK,hl3,hlx];omega)
   have x3:(cB.toList.drop 0).take ((xs.take i++ys++xs.drop i).length*3)=itL (xs.take i++ys++xs.drop i):=by
    rw[hrl,tv,da,b3,hAt]
    exact lI (by simp only[al,aK,bm,hlx,hl3];omega)
   have wg:=Dh (F:=F) (w:=(((w.alloc (.cells ROW 131)).drew.setCells w.heap.size (i*3) (itL ys)).drew).setCells w.heap.size ((i+1)*3) ((itL xs).drop (i*3))) (xs:=xs.take i++ys++xs.drop i) (b:=w.heap.size) (off:=0) (cap:=G) (c:=cB) (Mark.free _ 131) (S:=λk=>k=w.heap.size) (by rw[hrl];exact hG) hG2 b2 (by rw[hcB];omega) rfl hP x3
   rw[hrl]at wg
   have hws:((((w.alloc (.cells ROW 131)).drew.setCells w.heap.size (i*3) (itL ys)).drew).setCells w.heap.size ((i+1)*3) ((itL xs).drop (i*3))).heap.size=w.heap.size+1:=by
    rw[b4]
    exact a4.trans (dr w _)
   refine fin _ _ (λk=>k=w.heap.size) (b5.trans a5) (b6.trans a6) (b7.trans a7) (by rw[hws];omega) (λk hk hs=>?_) wg (λk hk=>.inr ⟨by omega,by omega⟩)
   rw[b1 k (by omega)]
   exact(a1 k (by omega)).trans (dX w _ hk)
theorem KK(N:Nat):jJ Tryz.prog 165 ⟨[(.sl iU,.own .ro),(y3,.ro),(.sl iU,.own .ro)],[(.sl iU,.own .ro)],[],[],Ba N⟩:=by
 rintro⟨xs,i0,ys,u⟩ r hd F w S args iJ hSF hF hS _
 have hd2:Ba N (xs,i0,ys,u)=some r:=hd
 clear hd
 unfold Ba at hd2
 split at hd2
 case isFalse=>cases hd2
 rename_i hc
 obtain⟨hy1,h0,hin,tN⟩:=hc
 have hd3:=cP hd2
 subst hd3
 clear hd2
 obtain⟨v1,vs1,cs1,S1,S2,rfl,hr1,hv1,⟨v2,vs2,cs2,S3,S4,rfl,hr2,hv2,⟨v3,vs3,cs3,S5,S6,rfl,hr3,hv3,h4,s5,s6,d5⟩,s3,s4,d3⟩,s1,s2,d⟩:=iJ
 cases h4
 have Nl:=(mD (k:=.i64) hr2 hv2).1
 have e0:i0=((Int.toNat i0:Nat):Int):=(cF h0).symm
 obtain⟨ao,cap,hc1,_⟩:=id hr1
 obtain⟨ao3,qU,hc3,_⟩:=id hr3
 subst hc1 hc3
 have IZ:v1=.slice ao (List.length (xs:List It)) cap:=by simp[VR,Ty.agg]at hv1;exact hv1.1.symm
 have Nn:v3=.slice ao3 (List.length (ys:List It)) qU:=by simp[VR,Ty.agg]at hv3;exact hv3.1.symm
 have:=Dj N xs ys (Int.toNat i0) hSF hF hS hy1 hin tN (S1:=S1) (S5:=S5) hr1 hr3 s1 (λk hk=>s2 k (s4 k (s5 k hk))) (λk h1 h5=>d k h1 (s4 k (s5 k h5)))
 rw[<-e0]at this
 rw[IZ,Nl,Nn]
 exact this
def F165(n:Nat):Fb 165:=⟨_,KK n,Dg⟩
end
end Go.Proofs.YtphipehmbefejaaGreat.Rf
namespace Go.Proofs
open Go.Shelf
noncomputable section
def Tryz.sort_ren:Go.Shelf.Ren:=⟨λ|6=>102|14=>167|15=>168|20=>206|21=>207|22=>208|23=>209|24=>210|25=>211|26=>212|27=>213|28=>214|29=>215|46=>231|47=>232|48=>233|49=>234|50=>235|57=>243|n=>n,λ|0=>0|3=>3|4=>4|5=>5|9=>9|22=>77|24=>63|25=>196|39=>60|45=>296|46=>297|50=>119|53=>303|55=>59|66=>314|70=>318|76=>324|77=>104|n=>n,λn=>n⟩
theorem Tryz.sort_lays:Go.Proofs.SlLaysF0.n6 Tryz.prog Tryz.sort_ren:={
 mixed:=by kernel_rfl
 f6 := ⟨ "slices.SortFunc[[]bosket/api.Sym,bosket/api.Sym]", by decide, Tryz.func102.trans (congrArg some (by kernel_rfl))⟩
 f14 := ⟨ "slices.pdqsortCmpFunc[bosket/api.Sym]", by decide, Tryz.func167.trans (congrArg some (by kernel_rfl))⟩
 f15:=Tryz.func168.trans (congrArg some (by kernel_rfl))
 f20 := ⟨ "slices.insertionSortCmpFunc[bosket/api.Sym]", by decide, Tryz.func206.trans (congrArg some (by kernel_rfl))⟩
 f21 := ⟨ "slices.heapSortCmpFunc[bosket/api.Sym]", by decide, Tryz.func207.trans (congrArg some (by kernel_rfl))⟩
 f22 := ⟨ "slices.breakPatternsCmpFunc[bosket/api.Sym]", by decide, Tryz.func208.trans (congrArg some (by kernel_rfl))⟩
 f23 := ⟨ "slices.choosePivotCmpFunc[bosket/api.Sym]", by decide, Tryz.func209.trans (congrArg some (by kernel_rfl))⟩
 f24 := ⟨ "slices.reverseRangeCmpFunc[bosket/api.Sym]", by decide, Tryz.func210.trans (congrArg some (by kernel_rfl))⟩
 f25 := ⟨ "slices.partialInsertionSortCmpFunc[bosket/api.Sym]", by decide, Tryz.func211.trans (congrArg some (by kernel_rfl))⟩
 f26 := ⟨ "slices.partitionEqualCmpFunc[bosket/api.Sym]", by decide, Tryz.func212.trans (congrArg some (by kernel_rfl))⟩
 f27 := ⟨ "slices.partitionCmpFunc[bosket/api.Sym]", by decide, Tryz.func213.trans (congrArg some (by kernel_rfl))⟩
 f28:=Tryz.func214.trans (congrArg some (by kernel_rfl))
 f29:=Tryz.func215.trans (congrArg some (by kernel_rfl))
 f46 := ⟨ "slices.siftDownCmpFunc[bosket/api.Sym]", by decide, Tryz.func231.trans (congrArg some (by kernel_rfl))⟩
 f47:=Tryz.func232.trans (congrArg some (by kernel_rfl))
 f48:=Tryz.func233.trans (congrArg some (by kernel_rfl))
 f49 := ⟨ "slices.medianAdjacentCmpFunc[bosket/api.Sym]", by decide, Tryz.func234.trans (congrArg some (by kernel_rfl))⟩
 f50 := ⟨ "slices.medianCmpFunc[bosket/api.Sym]", by decide, Tryz.func235.trans (congrArg some (by kernel_rfl))⟩
 f57 := ⟨ "slices.order2CmpFunc[bosket/api.Sym]", by decide, Tryz.func243.trans (congrArg some (by kernel_rfl))⟩
 t0:=Tryz.underlying0
 a0:=Tryz.isAgg0
 z0:=Tryz.sizeOf0
 v0:=Tryz.zeroValue0
 t3:=Tryz.underlying3
 a3:=Tryz.isAgg3
 z3:=Tryz.sizeOf3
 v3:=Tryz.zeroValue3
 t4:=Tryz.underlying4
 a4:=Tryz.isAgg4
 z4:=Tryz.sizeOf4
 v4:=Tryz.zeroValue4
 t5:=Tryz.underlying5
 a5:=Tryz.isAgg5
 z5:=Tryz.sizeOf5
 v5:=Tryz.zeroValue5
 t9:=Tryz.underlying9
 a9:=Tryz.isAgg9
 z9:=Tryz.sizeOf9
 v9:=Tryz.zeroValue9
 t22:=Tryz.underlying77
 a22:=Tryz.isAgg77
 z22:=Tryz.sizeOf77
 v22:=Tryz.zeroValue77
 t25:=Tryz.underlying196
 a25:=Tryz.isAgg196
 z25:=Tryz.sizeOf196
 v25:=Tryz.zeroValue196
 t39:=Tryz.underlying60
 a39:=Tryz.isAgg60
 z39:=Tryz.sizeOf60
 v39:=Tryz.zeroValue60
 t45:=Tryz.underlying296
 a45:=Tryz.isAgg296
 z45:=Tryz.sizeOf296
 v45:=Tryz.zeroValue296
 t46:=Tryz.underlying297
 a46:=Tryz.isAgg297
 z46:=Tryz.sizeOf297
 v46:=Tryz.zeroValue297
 t50:=Tryz.underlying119
 a50:=Tryz.isAgg119
 z50:=Tryz.sizeOf119
 v50:=Tryz.zeroValue119
 t53:=Tryz.underlying303
 a53:=Tryz.isAgg303
 z53:=Tryz.sizeOf303
 v53:=Tryz.zeroValue303
 t55:=Tryz.underlying59
 a55:=Tryz.isAgg59
 z55:=Tryz.sizeOf59
 v55:=Tryz.zeroValue59
 t66:=Tryz.underlying314
 a66:=Tryz.isAgg314
 z66:=Tryz.sizeOf314
 v66:=Tryz.zeroValue314
 t70:=Tryz.underlying318
 a70:=Tryz.isAgg318
 z70:=Tryz.sizeOf318
 v70:=Tryz.zeroValue318
 t76:=Tryz.underlying324
 a76:=Tryz.isAgg324
 z76:=Tryz.sizeOf324
 v76:=Tryz.zeroValue324
 t77:=Tryz.underlying104
 a77:=Tryz.isAgg104
 z77:=Tryz.sizeOf104
 v77:=Tryz.zeroValue104}
end
end Go.Proofs
namespace Go.Proofs.YtphipehmbefejaaGreat.Rf
open Go Go.RowKit Go.Lib Go.Sort
noncomputable section
abbrev Sy:=Bool×Int
def ny(x y:Sy):Int:=if x.1≠y.1/\y.1=true then -1 else if x.1≠y.1\/y.2<x.2 then 1 else if x.2<y.2 then -1 else 0
def jj(x:Sy):List Value:=[.bool x.1,.int .i64 x.2]
def ltS(x y:Sy):Bool:=decide (x.1=false/\y.1=true\/x.1=y.1/\x.2<y.2)
def xK(x:Sy):List Sy->List Sy
 |[]=>[x]
 |y::l=>bif ltS y x then y::xK x l else x::y::l
def gU:List Sy->List Sy
 |[]=>[]
 |x::l=>xK x (gU l)
theorem pS{x y:Sy}:ltS x y=true↔(x.1=false/\y.1=true\/x.1=y.1/\x.2<y.2):=by unfold ltS;simp
theorem tQ(x y:Sy):ltS x y=true\/x=y\/ltS y x=true:=by
 obtain⟨a,b⟩:=x
 obtain⟨c,d⟩:=y
 rw[pS,pS]
 cases a <;> cases c <;> simp <;> omega
theorem tR(x:Sy):ltS x x=false:=by
 cases h:ltS x x
 ·rfl
 ·rw[pS]at h
  rcases h with⟨h1,h2⟩|⟨_,h⟩
  ·rw[h1]at h2;cases h2
  ·omega
theorem xL{x y z:Sy}(h1:ltS x y=true)(h2:ltS y z=true):ltS x z=true:=by
 obtain⟨a,b⟩:=x
 obtain⟨c,d⟩:=y
 obtain⟨e,f⟩:=z
 rw[pS]at *
 cases a <;> cases c <;> cases e <;> simp at * <;> omega
theorem xM{x y:Sy}(h1:ltS x y=true)(h2:ltS y x=true):False:=by
 have:=xL h1 h2
 rw[tR]at this
 cases this
theorem ku(x y:Sy):ltOf ny x y=ltS x y:=by
 obtain⟨a,b⟩:=x
 obtain⟨c,d⟩:=y
 unfold ltOf ny ltS
 cases a <;> cases c <;> simp
 all_goals (by_cases h1:d<b <;> by_cases h2:b<d <;> simp[h1,h2] <;> omega)
theorem I0:SWO (ltOf ny) where
 irrefl x:=by rw[ku];exact tR x
 trans x y z h1 h2:=by rw[ku]at *;exact xL h1 h2
 ntrans x y z h1 h2:=by
  rw[ku]at *
  cases h:ltS x z
  ·rfl
  ·rcases tQ x y with h3|rfl|h3
   ·rw[h3]at h1;cases h1
   ·rw[h]at h2;cases h2
   ·have:=xL h3 h
    rw[this]at h2;cases h2
theorem No(x y:Sy)(h1:ltOf ny x y=false)(h2:ltOf ny y x=false):x=y:=by
 rw[ku]at *
 rcases tQ x y with h|h|h
 ·rw[h]at h1;cases h1
 ·exact h
 ·rw[h]at h2;cases h2
def leS(x y:Sy):Prop:=ltS y x=false
theorem I1{x y z:Sy}(h1:leS x y)(h2:leS y z):leS x z:=by
 have:=I0.ntrans z y x
 rw[ku,ku,ku]at this
 exact this h2 h1
theorem oU(x:Sy):∀ l,(xK x l).Perm (x::l)
 |[]=>.refl _
 |y::l=>by
  unfold xK
  cases ltS y x
  ·exact .refl _
  ·exact((oU x l).cons y).trans (.swap x y l)
theorem kv:∀ l,(gU l).Perm l
 |[]=>.refl _
 |x::l=>(oU x _).trans ((kv l).cons x)
theorem py(x:Sy):∀ l,l.Pairwise leS->(xK x l).Pairwise leS
 |[],_=>by simp[xK]
 |y::l,h=>by
  obtain⟨h1,h2⟩:=oi.1 h
  unfold xK
  cases hy:ltS y x
  ·refine oi.2 ⟨λz hz=>?_,h⟩
   rcases aH.1 hz with rfl|hz
   ·exact hy
   ·exact I1 hy (h1 z hz)
  ·refine oi.2 ⟨λz hz=>?_,py x l h2⟩
   rcases aH.1 ((oU x l).mem_iff.1 hz)with rfl|hz
   ·show ltS z y=false
    cases h':ltS z y
    ·rfl
    ·exact(xM hy h').elim
   ·exact h1 z hz
theorem nz:∀ l,(gU l).Pairwise leS
 |[]=>.nil
 |x::l=>py x _ (nz l)
theorem I2(l:List Sy):(l.mergeSort λx y=>!(ltOf ny) y x)=gU l:=by
 have hp:=List.pairwise_mergeSort (le:=λx y=>!(ltOf ny) y x) (λa b c h1 h2=>by
  simp only[bq]at *
  exact I0.ntrans _ _ _ h2 h1) (λa b=>by
  simp only[ku]
  rcases tQ a b with h|rfl|h
  ·have:ltS b a=false:=by
    cases h':ltS b a
    ·rfl
    ·exact(xM h h').elim
   simp[this]
  ·simp[tR]
  ·have:ltS a b=false:=by
    cases h':ltS a b
    ·rfl
    ·exact(xM h h').elim
   simp[this]) l
 refine List.Perm.eq_of_pairwise (le:=leS) (λa b _ _ h1 h2=>?_) (hp.imp λ{a b} h=>?_) (nz l) ((List.mergeSort_perm l _).trans (kv l).symm)
 ·unfold leS at h1 h2
  rcases tQ a b with h|h|h
  ·rw[h]at h2;cases h2
  ·exact h
  ·rw[h]at h1;cases h1
 ·simp only[ku,bq]at h
  exact h
set_option maxHeartbeats 1000000 in
theorem KL(x y:Sy)(W:World):Calls Tryz.prog 103 #[.agg #[.bool x.1,.int .i64 x.2],.agg #[.bool y.1,.int .i64 y.2]] W λe w'=>e=.returned (.int .i64 (ny x y))/\∃ q os',w'=grow (W.drewN q) os':=by
 have mixed:Tryz.prog.follows .mixedOrders=true:=by kernel_rfl
 obtain⟨a,b⟩:=x
 obtain⟨c,d⟩:=y
 have fin:∀ (v:Int),v=ny (a,b) (c,d)->∀ W',(∃ q os',W'=grow (W.drewN q) os')->(Ending.returned (Value.int .i64 v)=.returned (.int .i64 (ny (a,b) (c,d)))/\∃ q os',W'=grow (W.drewN q) os'):=λv hv W' hw=>⟨by rw[hv],hw⟩
 have two:∀ o1 o2:Obj,∃ q os',(W.alloc o1).alloc o2=grow (W.drewN q) os':=λo1 o2=>⟨0,_,by rw[alloc_eq_grow,alloc_eq_grow,grow_grow];rfl⟩
 rcases Int.lt_trichotomy b d with h1|rfl|h1
 ·have h2:¬d<b:=by omega
  cases a <;> cases c
  all_goals (go_enter Tryz.func103,Tryz.ntmps103)
  all_goals go_wp2
  all_goals go_ret
  all_goals (refine fin _ ?_ _ (two _ _))
  all_goals (simp[ny,h1,h2])
 ·cases a <;> cases c
  all_goals (go_enter Tryz.func103,Tryz.ntmps103)
  all_goals go_wp2
  all_goals go_ret
  all_goals (refine fin _ ?_ _ (two _ _))
  all_goals (simp[ny])
 ·have h2:¬b<d:=by omega
  cases a <;> cases c
  all_goals (go_enter Tryz.func103,Tryz.ntmps103)
  all_goals go_wp2
  all_goals go_ret
  all_goals (refine fin _ ?_ _ (two _ _))
  all_goals (simp[ny,h1,h2])
def syL(xs:List Sy):List Value:=xs.flatMap jj
theorem yC:∀ xs,(syL xs).length=xs.length*2
 |[]=>rfl
 |x::xs=>by
  show(jj x++syL xs).length=_
  rw[al,yC xs,bU]
  show 2+_=_
  omega
theorem Dk(x:Sy):∀ v∈jj x,v.oneCell'=true:=λv h=>by
 simp only[jj,aH,bP,or_false]at h
 rcases h with rfl|rfl <;> rfl
theorem yD:∀ (xs:List Sy) (t:Nat),t<xs.length*2->(syL xs)[t]?=some ((jj xs[t / 2]!)[t % 2]!)
 |[],t,h=>by simp at h
 |x::xs,0,h=>rfl
 |x::xs,1,h=>rfl
 |x::xs,t+2,h=>by
  show(jj x++syL xs)[t+2]?=_
  rw[jn (by show 2<=_;omega),show t+2-(jj x).length=t by show t+2-2=t;omega,yD xs t (by rw[bU]at h;omega),show(t+2) / 2=t / 2+1 by omega,show(t+2) % 2=t % 2 by omega]
  rfl
theorem wi(xs:List Sy)(t:Nat)(h:t<xs.length*2):(syL xs)[t]?=some ((flatK jj 2 xs.toArray)[t]!):=by
 rw[get_flatK jj 2 xs.toArray t (by simpa using h),yD xs t h]
 simp
theorem I3{F:ae}{w:World}{m:Md}{x:Sy}{cs:List Value}{S:ae}(h:Rep F w y62 m x cs S):cs=jj x/\inK .i64 x.2:=by
 obtain⟨c1,c2,S1,S2,rfl,rfl,⟨rfl,k⟩,_⟩:=h
 exact⟨rfl,k⟩
theorem I4{F:ae}{w:World}{m:Md}{x:Sy}(h:inK .i64 x.2):Rep F w y62 m x (jj x) ae.none:=
 ⟨[_],[_],ae.none,ae.none,rfl,rfl,⟨rfl,h⟩,Sub.refl _,Sub.refl _,λ_ h=>h.elim⟩
theorem yE{F:ae}{w:World}{m:Md}:∀ {xs:List Sy} {cs:List Value} {S:ae},aY (Rep F w y62 m) xs cs S->cs=syL xs/\∀ x∈xs,inK .i64 x.2
 |[],cs,S,h=>⟨h,λx hx=>by cases hx⟩
 |x::xs,cs,S,h=>by
  obtain⟨c1,c2,S1,S2,rfl,h1,h2,_⟩:=h
  obtain⟨rfl,k1⟩:=I3 h1
  obtain⟨rfl,k2⟩:=yE h2
  exact⟨rfl,λy hy=>by rcases aH.1 hy with rfl|hy;exact k1;exact k2 y hy⟩
theorem yF{F:ae}{w:World}{m:Md}:∀ {xs:List Sy},(∀ x∈xs,inK .i64 x.2)->aY (Rep F w y62 m) xs (syL xs) ae.none
 |[],_=>rfl
 |x::xs,h=>⟨_,_,ae.none,ae.none,rfl,I4 (h x List.mem_cons_self),yF (λy hy=>h y (oa _ hy)),Sub.refl _,Sub.refl _,λ_ h=>h.elim⟩
def Dl(n:Nat)(x:List Sy×(Unit×Unit)):Option (Unit×(List Sy×Unit)):=if x.1.length<4611686018427387904 then some ((),(gU x.1,()))else none
theorem Dm:Plain Tryz.prog 102:=⟨_,Tryz.func102,by kernel_rfl,by kernel_rfl⟩
theorem Np(x:Sy):(jj x).length=2:=rfl
theorem Gg(xs:List Sy)(off:Nat)(c:Array Value)(h:off+xs.length*2<=c.size):((putCells id off (flatK jj 2 xs.toArray) c).toList.drop off).take (xs.length*2)=syL xs:=by
 apply dO
 intro t
 rw[dD]
 split
 ·rename_i ht
  rw[eU,eD,wi xs t ht]
  unfold putCells
  rw[Array.getElem?_mapIdx,Array.getElem?_eq_getElem (by omega)]
  simp only[cZ,id]
  rw[if_pos ⟨by omega,by simp;omega⟩,show off+t-off=t by omega]
 ·rename_i ht
  exact(br (by rw[yC];omega)).symm
set_option maxRecDepth 100000 in
set_option maxHeartbeats 1000000 in
theorem KN(N:Nat):jJ Tryz.prog 102 ⟨[(y77,.own .ro),(.fn 103,.ro)],[],[0],[(y77,.own .ro)],Dl N⟩:=by
 rintro⟨xs,z,u⟩ r hd F w S args iJ hSF hF hS _
 have hd2:Dl N (xs,z,u)=some r:=hd
 unfold Dl at hd2
 split at hd2
 case isFalse=>cases hd2
 rename_i tN
 have tN:List.length (xs:List Sy)<4611686018427387904:=tN
 have hd3:((),(gU xs,()))=r:=cP hd2
 subst hd3
 obtain⟨v1,vs1,cs1,S1,S2,rfl,hr1,hv1,⟨v2,vs2,cs2,S3,S4,rfl,hr2,hv2,h4,s3,s4,d3⟩,s1,s2,d⟩:=iJ
 cases h4
 have Nq:cs2=[.func (.func 103) #[] #[]]:=hr2
 subst Nq
 have Nr:v2=.func (.func 103) #[] #[]:=by simp[VR,Ty.agg]at hv2;exact hv2.1.symm
 subst Nr
 obtain⟨a,cp,e0,h1,h2,h3⟩:=hr1
 subst e0
 have IZ:v1=.slice a (List.length (xs:List Sy)) cp:=by simp[VR,Ty.agg]at hv1;exact hv1.1.symm
 subst IZ
 have h1:List.length (xs:List Sy)<=cp:=h1
 have hlen:(gU xs).length=(xs:List Sy).length:=(kv xs).length_eq
 have fin:∀ (w':World),w'.os=w.os->w'.tape=w.tape->w'.output=w.output->w.heap.size<=w'.heap.size->(∀ k,k<w.heap.size->¬S k->w'.heap[k]?=w.heap[k]?)->
  Rep F w' (.sl y62) (.own .ro) (gU xs) [.slice a (List.length (xs:List Sy)) cp] S1->
  qs ⟨[(y77,.own .ro),(.fn 103,.ro)],[],[0],[(y77,.own .ro)],Dl N⟩ ((),(gU xs,())) F w S [.slice a (List.length (xs:List Sy)) cp,.func (.func 103) #[] #[]] (.returned (.tuple #[])) w':=by
  intro w' q1 q2 q3 q4 q5 bh
  refine⟨[],F,ae.none,S1,rfl,rfl,⟨_,[],_,S1,ae.none,rfl,bh,by simp[VR,Ty.agg,Value.oneCell'],rfl,Sub.refl _,λ_ h=>h.elim,λ_ _ h=>h.elim⟩,λ_ h=>h.elim,⟨q1,q2,q3,q4,q5⟩,Sub.refl _,λk hk=>bc (hF k hk) q4,λk hk _ _=>hk,?_⟩
  rintro k (hk|hk)
  ·exact hk.elim
  ·exact⟨bc (hS k (s1 k hk)) q4,λhf=>hSF k (s1 k hk) hf,λ_=>s1 k hk⟩
 rcases h3 with rfl|⟨b,off,c,e,rfl,hb,hc,hSb,S0,hr,hS0,hnb⟩
 ·have e0:(xs:List Sy)=[]:=List.length_eq_zero_iff.1 (by omega)
  subst e0
  refine(AnyF.slices_SortFunc_none Tryz.sort_lays a 0 (.func (.func 103) #[] #[]) w).mono λe W he=>?_
  obtain⟨rfl,rfl⟩:=he
  exact fin W rfl rfl rfl (ar _) (λ_ _ _=>rfl) ⟨a,0,rfl,ar _,h2,.inl rfl⟩
 ·obtain⟨fi,hxk⟩:=yE (F:=F) (w:=w) (m:=.ro) hr
  have fi:(c.toList.drop off).take ((xs:List Sy).length*2)=syL xs:=fi
  have hc:off+cp*2<=c.size:=hc
  have hxc:off+(xs:List Sy).length*2<=c.size:=by omega
  have hbw:b<w.heap.size:=hS b (s1 b hSb)
  have hH:HoldsK jj 2 w b off (xs:List Sy).toArray:=by
   intro j hj
   have hj:j<(xs:List Sy).length*2:=by simpa using hj
   refine⟨?_,Mark.frz (e:=e) hb rfl (by show off+j<c.size;omega)⟩
   have:=wi xs j hj
   rw[<-fi,dD,if_pos hj,eU,eD]at this
   simp only[World.cell?,hb,id]
   exact this
  have eg:∀ args w,(callFunc 103 args).run Tryz.prog w=.ok (.enter 103 args) w:=enters_of Tryz.func103 (by kernel_rfl) rfl
  have Ns:=AnyQ.slices_SortFunc_total Tryz.sort_lays 2 Tryz.isAgg63 Tryz.sizeOf63 jj Np Dk ny I0 103 #[] b off cp (xs:List Sy).toArray w eg (λ_ _ _ _ x y=>KL x y _) hH hbw (by simpa using tN) No
  refine Ns.mono λe' W he=>?_
  obtain⟨rfl,n,os,rfl⟩:=he
  rw[show(xs:List Sy).toArray.toList=xs by simp,I2]
  have hh:∀ k:Nat,(sortWorldK jj 2 w b off n (gU xs).toArray os).heap[k]?=((w.heap.modify b (onCells (putCells id off (flatK jj 2 (gU xs).toArray))))++os)[k]?:=λk=>rfl
  refine fin _ rfl rfl rfl ?_ (λk hk hs=>?_) ?_
  ·show w.heap.size<=((w.heap.modify b _)++os).size
   simp
  ·have hkb:b≠k:=λh=>hs (h ▸ s1 b hSb)
   rw[hh,nV (by simpa using hk),lC,if_neg hkb]
  ·have zZ:(sortWorldK jj 2 w b off n (gU xs).toArray os).heap[b]?=some (.cells (putCells id off (flatK jj 2 (gU xs).toArray) c) e.t (e.a,e.b)):=by
    rw[hh,nV (by simpa using hbw),lC,if_pos rfl,hb]
    rfl
   have hcs:(putCells id off (flatK jj 2 (gU xs).toArray) c).size=c.size:=by unfold putCells;simp
   refine⟨_,cp,by rw[hlen],by rw[hlen];exact h1,h2,.inr ⟨b,off,_,e.to (gq hcs),rfl,zZ,by rw[hcs];exact hc,hSb,ae.none,?_,λ_ h=>h.elim,λh=>h⟩⟩
   show aY _ _ (((putCells id off (flatK jj 2 (gU xs).toArray) c).toList.drop off).take ((gU xs).length*2)) _
   rw[Gg (gU xs) off c (by rw[hlen];exact hxc)]
   exact yF λx hx=>hxk x ((kv xs).mem_iff.1 hx)
def F102(n:Nat):Fb 102:=⟨_,KN n,Dm⟩
end
end Go.Proofs.YtphipehmbefejaaGreat.Rf
namespace Go.Proofs.YtphipehmbefejaaGreat.Rf
open Go
noncomputable section
def p95(v1:Nat)(v2:T94):Option (((Bool×Int)×Bool×Unit)×Unit):=ah (Ge v1 (v2.1,v2.2.1.1,())) (λ(v3:T49)=>aq (λ(v4:(((Bool×Int)×Unit)×Bool×Unit))=>bif v4.2.1 then some (((false,0),false,()),())else if 0<=v2.2.1.2.1 then(match v3.1.1[(v2.2.1.2.1).toNat]? with|some v5=>some ((v5,true,()),())|none=>none)else none) (λv6=>bif !v3.1.2.1 then v6 (((false,0),()),true,())else bif decide (v2.2.1.2.1<0)then v6 (((false,0),()),true,())else v6 (((false,0),()),decide ((v3.1.1.length:Int)<=v2.2.1.2.1),())))
def F95(n:Nat):Fb 95:=fb n [⟨_,F106 n⟩] [12] [] [] Tryz.func95 Tryz.results95 Tryz.ntmps95 (.seq (.reg none [2,3]) (.seq .nop (.seq (.seq (.reg (some ⟨[(32,.box y62,.own (.pr .ro .ro))],[.val 28 y4],[3,4,6]⟩) []) .nop) (.seq (.reg none [4]) .nop)))) A6 [(y62,.ro),(y4,.ro)] [] [] (p95 n)
def p99(v1:Nat)(v2:T23):T58:=aA (λ(v3:T51)=>λv4=>bif decide (v3.2.2.1<(v2.1.length:Int))then aq (λ(v5:T38)=>v4 ((),v5.2.1,IntKind.wrap .i64 (v3.2.2.1+1),())) (λv6=>if 0<=v3.2.2.1 then(match v2.1[(v3.2.2.1).toNat]? with|some v7=>ah (KC v1 (v3.2.1,v7,(),())) (λ(v8:T12)=>bif v8.1.2.1 then if 0<=v8.1.1 then(match v3.2.1[(v8.1.1).toNat]? with|some v9=>if 0<=v8.1.1 then(match v3.2.1[(v8.1.1).toNat]? with|some v10=>if 0<=v8.1.1 then(match v3.2.1[(v8.1.1).toNat]? with|some v11=>v6 ((),List.set v3.2.1 (v8.1.1).toNat (v11.1,v11.2.1,dL .or .u64 v9.2.2 v7.2.2),())|none=>none)else none|none=>none)else none|none=>none)else none else ah (Ba v1 (v3.2.1,v8.1.1,([v7]:List (Int×Int×Int)),())) (λ(v12:T44)=>v6 ((),v12.1.1,())))|none=>none)else none)else some ((v3.2.1,()),())) v1 ((),([]:List (Int×Int×Int)),0,())
def F99(n:Nat):Fb 99:=fb n [⟨_,F163 n⟩,⟨_,F164 n⟩,⟨_,F165 n⟩] [] [] [] Tryz.func99 Tryz.results99 Tryz.ntmps99 (.seq .nop (.seq .nop (.seq (.seq .nop (.block none (.loop ⟨[],[.hdr 3 31 kJ (.own .ro),.val 10 y2],[8,9]⟩ (.seq .nop (.seq .nop (.seq (.block (some ⟨[],[.hdr 3 31 kJ (.own .ro)],[8,9,10]⟩) (.seq (.reg none [5]) .nop)) .nop)))))) .nop))) A14 A14 [] [] (p99 n)
def p47(v1:Nat)(v2:(((List ((List Int)×Int×(List Int)))×(List (List Int))×(List (Int×(List Int)×(List (Bool×Int))×Bool×Int×(List Int)))×(List (Int×(List Int)))×Int)×((List Bool)×(List Int))×(List (Int×Int×Int))×Unit)):T58:=if 0<=(v2.1.2.2.1.length:Int)/\(v2.1.2.2.1.length:Int)<=(v2.1.2.2.1.length:Int)then if(v2.1.2.2.1.length:Int).toNat*1<=140737488355328 then if 0<=(v2.1.2.2.1.length:Int)/\(v2.1.2.2.1.length:Int)<=(v2.1.2.2.1.length:Int)then if(v2.1.2.2.1.length:Int).toNat*8<=140737488355328 then ah (p94 v1 (v2.2.2.1,())) (λ(v3:T44)=>aA (λ(v4:T97)=>λv5=>bif decide (0<(v4.1.1.2.2.2.2.length:Int))then if(0:Int)<=(0:Int)then(match v4.1.1.2.2.2.2[(0:Int).toNat]? with|some v6=>if(0:Int)<=(1:Int)/\(1:Int)<=(v4.1.1.2.2.2.2.length:Int)/\(v4.1.1.2.2.2.2.length:Int)<=(v4.1.1.2.2.2.2.length:Int)then ah (p95 v1 (v2.1,v6,())) (λ(v7:T34)=>aq (λ(v8:T98)=>aq (λ(v9:T97)=>v5 ((v9.1.1,()),())) (λv10=>bif v8.2.1 then ah (p98 v1 (v2.1,v6,())) (λ(v11:T36)=>ah (p97 v1 (v2.2.1,v11.1.1,v6.2.2,())) (λ(v12:T7)=>ah (p96 v1 (v8.1.1,v7.1.1.2,v12.1.1,())) (λ(v13:(Unit×(((List ((List Int)×Int×(List Int)))×(List (List Int))×(List (Int×(List Int)×(List (Bool×Int))×Bool×Int×(List Int)))×(List (Int×(List Int)))×Int)×((List Bool)×(List Int))×(List Bool)×(List Int)×(List (Int×Int×Int)))×Unit))=>v10 ((v13.2.1,()),()))))else v10 ((v8.1.1,()),()))) (λv14=>bif v7.1.2.1 then v14 (((v4.1.1.1,v4.1.1.2.1,v4.1.1.2.2.1,v4.1.1.2.2.2.1,bZ v4.1.1.2.2.2.2 (1:Int) (v4.1.1.2.2.2.2.length:Int)),()),v7.1.1.1,())else v14 (((v4.1.1.1,v4.1.1.2.1,v4.1.1.2.2.1,v4.1.1.2.2.2.1,bZ v4.1.1.2.2.2.2 (1:Int) (v4.1.1.2.2.2.2.length:Int)),()),false,())))else none|none=>none)else none else ah (p94 v1 (v2.2.2.1,())) (λ(v15:T44)=>aA (λ(v16:T51)=>λv17=>bif decide (v16.2.2.1<(v4.1.1.2.2.1.length:Int))then if 0<=v16.2.2.1 then(match v4.1.1.2.2.1[(v16.2.2.1).toNat]? with|some v18=>aq (λ(v19:T38)=>v17 ((),v19.2.1,IntKind.wrap .i64 (v16.2.2.1+1),())) (λv20=>bif v18 then if 0<=v16.2.2.1 then(match v4.1.1.2.2.2.1[(v16.2.2.1).toNat]? with|some v21=>if(List.length v16.2.1+List.length ([(v16.2.2.1,0,v21)]:List (Int×Int×Int)))*24<=140737488355328 then if List.length v16.2.1+List.length ([(v16.2.2.1,0,v21)]:List (Int×Int×Int))<=9223372036854775807 then v20 ((),v16.2.1++([(v16.2.2.1,0,v21)]:List (Int×Int×Int)),())else none else none|none=>none)else none else v20 ((),v16.2.1,()))|none=>none)else none else ah (p99 v1 (v16.2.1,())) (λ(v22:T44)=>some ((v22.1.1,()),()))) v1 ((),v15.1.1,0,()))) v1 (((v2.1,v2.2.1,List.replicate (v2.1.2.2.1.length:Int).toNat false,List.replicate (v2.1.2.2.1.length:Int).toNat (0:Int),v3.1.1),()),()))else none else none else none else none
def F47(n:Nat):Fb 47:=fb n [⟨_,F94 n⟩,⟨_,F95 n⟩,⟨_,F98 n⟩,⟨_,F97 n⟩,⟨_,F96 n⟩,⟨_,F99 n⟩] [26,65,69] [] [] Tryz.func47 Tryz.results47 Tryz.ntmps47 (.seq (.reg none [3,4]) (.seq .nop (.seq (.block none (.loop ⟨[(216,.box tL,.own (.pr .ro (.pr .ro (.pr (.own .ro) (.pr (.own .ro) (.own .ro))))))],[],[2,3,4,7]⟩ (.seq .nop (.block none (.seq (.reg none [8]) (.seq .nop (.seq (.reg none [9]) (.seq (.reg (some ⟨[(216,.box tL,.own (.pr .ro (.pr .ro (.pr (.own .ro) (.pr (.own .ro) (.own .ro))))))],[.val 58 y4],[2,3,4,7,8,9]⟩) []) (.cond (some ⟨[(216,.box tL,.own (.pr .ro (.pr .ro (.pr (.own .ro) (.pr (.own .ro) (.own .ro))))))],[],[2,3,4,7]⟩) .nop .nop))))))))) (.seq (.reg none [7]) (.seq (.seq .nop (.block none (.loop ⟨[],[.hdr 11 95 kJ (.own .ro),.val 77 y2],[7,75,76]⟩ (.seq .nop (.seq .nop (.seq (.block none (.seq .nop (.seq .nop (.cond (some ⟨[],[.hdr 11 95 kJ (.own .ro)],[7,75,76,77]⟩) .nop .nop)))) .nop)))))) .nop))))) [(y32,.ro),(kq,.ro),(kJ,.ro)] A14 [] [] (p47 n)
def Nt(v1:Nat)(v2:((Bool×Int)×(Bool×Int)×Unit)):T13:=aq (λ(v3:T5)=>bif v3.2.1 then some ((-1,()),())else aq (λ(v4:T5)=>bif v4.2.1 then some ((1,()),())else bif decide (v2.1.2<v2.2.1.2)then some ((-1,()),())else some ((0,()),())) (λv5=>bif !(v2.1.1 == v2.2.1.1)then v5 ((),true,())else v5 ((),decide (v2.2.1.2<v2.1.2),()))) (λv6=>bif !(v2.1.1 == v2.2.1.1)then v6 ((),v2.2.1.1,())else v6 ((),false,()))
def F103(n:Nat):Fb 103:=fb n [] [] [] [] Tryz.func103 Tryz.results103 Tryz.ntmps103 (.seq (.reg none [2,3]) (.seq (.block none (.seq (.reg (some ⟨[],[.val 5 y4],[2,3]⟩) []) (.cond none .nop (.seq (.reg (some ⟨[],[.val 15 y4],[2,3]⟩) []) .nop)))) .nop)) [(y62,.ro),(y62,.ro)] A17 [] [] (Nt n)
def p49(v1:Nat)(v2:(((List ((List Int)×Int×(List Int)))×(List (List Int))×(List (Int×(List Int)×(List (Bool×Int))×Bool×Int×(List Int)))×(List (Int×(List Int)))×Int)×(List (Int×Int×Int))×Unit)):T50:=aA (λ(v3:(Unit×(List (Bool×Int))×Int×Unit))=>λv4=>bif decide (v3.2.2.1<(v2.2.1.length:Int))then if 0<=v3.2.2.1 then(match v2.2.1[(v3.2.2.1).toNat]? with|some v5=>ah (p95 v1 (v2.1,v5,())) (λ(v6:T34)=>aq (λ(v7:(((List (Bool×Int))×Unit)×Bool×Unit))=>aq (λ(v8:T31)=>v4 ((),v8.2.1,IntKind.wrap .i64 (v3.2.2.1+1),())) (λv9=>bif v7.2.1 then if(List.length v7.1.1+List.length ([v6.1.1]:List (Bool×Int)))*16<=140737488355328 then if List.length v7.1.1+List.length ([v6.1.1]:List (Bool×Int))<=9223372036854775807 then v9 ((),v7.1.1++([v6.1.1]:List (Bool×Int)),())else none else none else v9 ((),v7.1.1,()))) (λv10=>bif v6.1.2.1 then ah (KE v1 (v3.2.1,v6.1.1,())) (λ(v11:T8)=>v10 ((v3.2.1,()),!v11.1.1,()))else v10 ((v3.2.1,()),false,())))|none=>none)else none else ah (Dl v1 (v3.2.1,(),())) (λ(v12:T31)=>some ((v12.2.1,()),()))) v1 ((),([]:List (Bool×Int)),0,())
def F49(n:Nat):Fb 49:=fb n [⟨_,F95 n⟩,⟨_,F101 n⟩,⟨_,F102 n⟩,⟨_,F103 n⟩] [] [] [] Tryz.func49 Tryz.results49 Tryz.ntmps49 (.seq (.reg none [2]) (.seq .nop (.seq (.seq .nop (.block none (.loop ⟨[],[.hdr 5 47 y77 (.own .ro),.val 12 y2],[2,10,11]⟩ (.seq .nop (.seq .nop (.seq (.block none (.seq (.reg none [7]) (.seq (.reg none [8]) (.seq (.reg (some ⟨[(47,y77,.own .ro)],[.val 28 y4],[2,5,8,10,11,12]⟩) []) (.cond (some ⟨[],[.hdr 5 47 y77 (.own .ro)],[2,10,11,12]⟩) .nop .nop))))) .nop)))))) .nop))) [(y32,.ro),(kJ,.ro)] [(y77,.ro)] [] [] (p49 n)
def p50(v1:Nat)(v2:(((List ((List Int)×Int×(List Int)))×(List (List Int))×(List (Int×(List Int)×(List (Bool×Int))×Bool×Int×(List Int)))×(List (Int×(List Int)))×Int)×(List (Int×Int×Int))×(Bool×Int)×Unit)):T58:=aA (λ(v3:T51)=>λv4=>bif decide (v3.2.2.1<(v2.2.1.length:Int))then if 0<=v3.2.2.1 then(match v2.2.1[(v3.2.2.1).toNat]? with|some v5=>ah (p95 v1 (v2.1,v5,())) (λ(v6:T34)=>aq (λ(v7:(((List (Int×Int×Int))×(Int×Int×Int)×Unit)×Bool×Unit))=>aq (λ(v8:T38)=>v4 ((),v8.2.1,IntKind.wrap .i64 (v3.2.2.1+1),())) (λv9=>bif v7.2.1 then if(List.length v7.1.1+List.length ([(v7.1.2.1.1,IntKind.wrap .i64 (v7.1.2.1.2.1+1),v7.1.2.1.2.2)]:List (Int×Int×Int)))*24<=140737488355328 then if List.length v7.1.1+List.length ([(v7.1.2.1.1,IntKind.wrap .i64 (v7.1.2.1.2.1+1),v7.1.2.1.2.2)]:List (Int×Int×Int))<=9223372036854775807 then v9 ((),v7.1.1++([(v7.1.2.1.1,IntKind.wrap .i64 (v7.1.2.1.2.1+1),v7.1.2.1.2.2)]:List (Int×Int×Int)),())else none else none else v9 ((),v7.1.1,()))) (λv10=>bif v6.1.2.1 then v10 ((v3.2.1,v5,()),bif v6.1.1.1 == v2.2.2.1.1 then decide (v6.1.1.2=v2.2.2.1.2)else false,())else v10 ((v3.2.1,v5,()),false,())))|none=>none)else none else ah (p99 v1 (v3.2.1,())) (λ(v11:T44)=>some ((v11.1.1,()),()))) v1 ((),([]:List (Int×Int×Int)),0,())
def F50(n:Nat):Fb 50:=fb n [⟨_,F95 n⟩,⟨_,F99 n⟩] [] [] [⟨_,Gb⟩] Tryz.func50 Tryz.results50 Tryz.ntmps50 (.seq (.reg none [3,5]) (.seq .nop (.seq (.seq .nop (.block none (.loop ⟨[],[.hdr 7 63 kJ (.own .ro),.val 14 y2],[3,5,12,13]⟩ (.seq .nop (.seq .nop (.seq (.block none (.seq .nop (.seq (.reg none [10]) (.seq (.reg (some ⟨[(63,kJ,.own .ro),(72,.box AM,.own (.pr .ro (.pr .ro .ro)))],[.val 29 y4],[3,5,7,9,12,13,14]⟩) []) (.cond (some ⟨[],[.hdr 7 63 kJ (.own .ro)],[3,5,12,13,14]⟩) (.seq .nop (.rgf none [9] [])) .nop))))) .nop)))))) .nop))) [(y32,.ro),(kJ,.ro),(y62,.ro)] A14 [] [] (p50 n)
def p12(v1:Nat)(v2:T90):Option ((((List (List (Int×Int×Int)))×(List (List ((Bool×Int)×Int))))×Int×Unit)×Unit):=ah (p43 v1 (v2.1,())) (λ(v3:T26)=>bif !(decide (v3.1.1.1=0))then some (((([]:List (List (Int×Int×Int))),([]:List (List ((Bool×Int)×Int)))),v3.1.1.1,()),())else ah (p44 v1 (v2.1,())) (λ(v4:((((List Bool)×(List Int))×Unit)×Unit))=>ah (p48 v1 (v2.1,())) (λ(v5:T44)=>ah (p47 v1 (v2.1,v4.1.1,v5.1.1,())) (λ(v6:T44)=>ah (p45 v1 (v6.1.1,([]:List ((List Int)×Int)),(([]:List (List (Int×Int×Int))),([]:List (List ((Bool×Int)×Int)))),())) (λ(v7:T88)=>aA (λ(v8:((((List (List (Int×Int×Int)))×(List (List ((Bool×Int)×Int))))×((List (List (Int×Int×Int)))×(List (List ((Bool×Int)×Int))))×(List ((List Int)×Int))×Unit)×Int×Unit))=>λv9=>bif decide (v8.2.1<(v8.1.2.1.1.length:Int))then bif decide (2000<(v8.1.2.1.1.length:Int))then some (((([]:List (List (Int×Int×Int))),([]:List (List ((Bool×Int)×Int)))),6,()),())else if 0<=v8.2.1 then(match v8.1.2.1.1[(v8.2.1).toNat]? with|some v10=>ah (p49 v1 (v2.1,v10,())) (λ(v11:T36)=>aA (λ(v12:((((List (List (Int×Int×Int)))×(List (List ((Bool×Int)×Int))))×((List (List (Int×Int×Int)))×(List (List ((Bool×Int)×Int))))×(List ((List Int)×Int))×Unit)×(List ((Bool×Int)×Int))×Int×Unit))=>λv13=>bif decide (v12.2.2.1<(v11.1.1.length:Int))then if 0<=v12.2.2.1 then(match v11.1.1[(v12.2.2.1).toNat]? with|some v14=>if 0<=v8.2.1 then(match v12.1.2.1.1[(v8.2.1).toNat]? with|some v15=>ah (p50 v1 (v2.1,v15,v14,())) (λ(v16:T44)=>ah (p47 v1 (v2.1,v4.1.1,v16.1.1,())) (λ(v17:T44)=>ah (p45 v1 (v17.1.1,v12.1.2.2.1,v12.1.2.1,())) (λ(v18:T88)=>if(List.length v12.2.1+List.length ([(v14,v18.1.1)]:List ((Bool×Int)×Int)))*24<=140737488355328 then if List.length v12.2.1+List.length ([(v14,v18.1.1)]:List ((Bool×Int)×Int))<=9223372036854775807 then v13 ((v12.1.1,v18.2.2.1,v18.2.1,()),v12.2.1++([(v14,v18.1.1)]:List ((Bool×Int)×Int)),IntKind.wrap .i64 (v12.2.2.1+1),())else none else none)))|none=>none)else none|none=>none)else none else if(List.length v12.1.2.1.2+List.length ([v12.2.1]:List (List ((Bool×Int)×Int))))*24<=140737488355328 then if List.length v12.1.2.1.2+List.length ([v12.2.1]:List (List ((Bool×Int)×Int)))<=9223372036854775807 then v9 ((v12.1.1,(v12.1.2.1.1,v12.1.2.1.2++([v12.2.1]:List (List ((Bool×Int)×Int)))),v12.1.2.2.1,()),IntKind.wrap .i64 (v8.2.1+1),())else none else none) v1 ((v8.1.1,v8.1.2.1,v8.1.2.2.1,()),([]:List ((Bool×Int)×Int)),0,()))|none=>none)else none else some ((v8.1.2.1,0,()),())) v1 (((([]:List (List (Int×Int×Int))),([]:List (List ((Bool×Int)×Int)))),v7.2.2.1,v7.2.1,()),0,()))))))
def F12(n:Nat):Fb 12:=fb n [⟨_,F43 n⟩,⟨_,F44 n⟩,⟨_,F45 n⟩,⟨_,F48 n⟩,⟨_,F47 n⟩,⟨_,F49 n⟩,⟨_,F50 n⟩] [18,22,29,30,31,43,50,68,69,70] [] [] Tryz.func12 Tryz.results12 Tryz.ntmps12 (.seq (.reg none [1]) (.seq (.seq (.reg none [4]) .nop) (.seq (.reg none [5]) (.seq .nop (.seq .nop (.seq .nop (.seq .nop (.seq (.seq .nop (.block none (.loop ⟨[(16,.box y43,.own (.pr (.own .ro) (.own .ro))),(48,.box y43,.own (.pr (.own .ro) (.own .ro))),(56,.box pJ,.own (.own .ro))],[.val 9 y2],[1,2,5,6,8]⟩ (.seq .nop (.seq (.block none (.seq .nop (.seq .nop (.seq (.seq .nop (.block none (.loop ⟨[(16,.box y43,.own (.pr (.own .ro) (.own .ro))),(48,.box y43,.own (.pr (.own .ro) (.own .ro))),(56,.box pJ,.own (.own .ro))],[.hdr 10 87 ID (.own .ro),.val 52 y2],[1,2,5,6,8,9,50,51]⟩ (.seq .nop (.seq .nop (.seq (.block none (.seq (.reg none [12]) .nop)) .nop)))))) (.rgf none [10] []))))) .nop))))) (.seq (.rgf none [6] [2]) .nop))))))))) A15 [(y43,.ro),(y2,.ro)] [] [] (p12 n)
def p14(v1:Nat)(v2:(((List (List (Int×Int×Int)))×(List (List ((Bool×Int)×Int))))×Unit)):T13:=some (((v2.1.1.length:Int),()),())
def F14(n:Nat):Fb 14:=fb n [] [] [] [] Tryz.func14 Tryz.results14 Tryz.ntmps14 (.seq (.reg none [1]) .nop) [(y43,.ro)] A17 [] [] (p14 n)
def p52(v1:Nat)(v2:T94):T15:=ah (Ge v1 (v2.1,v2.2.1.1,())) (λ(v3:T49)=>aq (λ(v4:T5)=>some ((v4.2.1,()),())) (λv5=>bif v3.1.2.1 then v5 ((),decide (v2.2.1.2.1=(v3.1.1.length:Int)),())else v5 ((),false,())))
def F52(n:Nat):Fb 52:=fb n [⟨_,F106 n⟩] [11] [] [] Tryz.func52 Tryz.results52 Tryz.ntmps52 (.seq (.reg none [2,3]) (.seq .nop (.seq (.reg (some ⟨[],[.val 4 y4],[]⟩) []) .nop))) A6 A16 [] [] (p52 n)
def p15(v1:Nat)(v2:(((List (List (Int×Int×Int)))×(List (List ((Bool×Int)×Int))))×((List ((List Int)×Int×(List Int)))×(List (List Int))×(List (Int×(List Int)×(List (Bool×Int))×Bool×Int×(List Int)))×(List (Int×(List Int)))×Int)×Int×Unit)):Option (((List Int)×(List Int)×Unit)×Unit):=aq (λ(v3:T5)=>bif v3.2.1 then some ((([]:List Int),([]:List Int),()),())else if 0<=v2.2.2.1 then(match v2.1.1[(v2.2.2.1).toNat]? with|some v4=>aA (λ(v5:(Unit×(List Int)×(List Int)×Int×Unit))=>λv6=>bif decide (v5.2.2.2.1<(v4.length:Int))then if 0<=v5.2.2.2.1 then(match v4[(v5.2.2.2.1).toNat]? with|some v7=>ah (p52 v1 (v2.2.1,v7,())) (λ(v8:T8)=>aq (λ(v9:(Unit×(List Int)×(List Int)×Unit))=>v6 ((),v9.2.1,v9.2.2.1,IntKind.wrap .i64 (v5.2.2.2.1+1),())) (λv10=>bif v8.1.1 then if(List.length v5.2.1+List.length ([v7.1]:List Int))*8<=140737488355328 then if List.length v5.2.1+List.length ([v7.1]:List Int)<=9223372036854775807 then if(List.length v5.2.2.1+List.length ([v7.2.2]:List Int))*8<=140737488355328 then if List.length v5.2.2.1+List.length ([v7.2.2]:List Int)<=9223372036854775807 then v10 ((),v5.2.1++([v7.1]:List Int),v5.2.2.1++([v7.2.2]:List Int),())else none else none else none else none else v10 ((),v5.2.1,v5.2.2.1,())))|none=>none)else none else some ((v5.2.1,v5.2.2.1,()),())) v1 ((),([]:List Int),([]:List Int),0,())|none=>none)else none) (λv11=>bif decide (v2.2.2.1<0)then v11 ((),true,())else v11 ((),decide ((v2.1.1.length:Int)<=v2.2.2.1),()))
def F15(n:Nat):Fb 15:=fb n [⟨_,F52 n⟩] [] [] [] Tryz.func15 Tryz.results15 Tryz.ntmps15 (.seq (.reg none [3,4]) (.seq .nop (.seq .nop (.seq (.seq (.reg (some ⟨[],[.val 20 y4],[2,3,4,8,9]⟩) []) .nop) (.seq (.seq .nop (.block none (.loop ⟨[],[.hdr 8 71 y53 (.own .ro),.hdr 9 79 y54 (.own .ro),.val 27 y2],[4,25,26]⟩ (.seq .nop (.seq .nop (.seq (.block none (.seq (.reg none [11]) (.seq .nop (.cond (some ⟨[],[.hdr 8 71 y53 (.own .ro),.hdr 9 79 y54 (.own .ro)],[4,25,26,27]⟩) .nop .nop)))) .nop)))))) .nop))))) [(y43,.ro),(y32,.ro),(y2,.ro)] [(y53,.ro),(y54,.ro)] [] [] (p15 n)
def KO(v1:Nat)(v2:T3):T15:=ah (Gd v1 (v2.2.1,())) (λ(v3:T7)=>some ((!(decide ((dL .and .u64 v2.1 v3.1.1)=0)),()),()))
def F169(n:Nat):Fb 169:=fb n [⟨_,F100 n⟩] [] [] [] Tryz.func169 Tryz.results169 Tryz.ntmps169 (.nop) [(y12,.ro),(y2,.ro)] A16 [] [] (KO n)
def KP(v1:Nat)(v2:T1):T32:=aA (λ(v3:T18)=>λv4=>bif decide (v3.2.2.1<=63)then ah (KO v1 (v2.1,v3.2.2.1,())) (λ(v5:T8)=>aq (λ(v6:(Unit×(List Int)×Unit))=>v4 ((),v6.2.1,IntKind.wrap .i64 (v3.2.2.1+1),())) (λv7=>bif v5.1.1 then if(List.length v3.2.1+List.length ([v3.2.2.1]:List Int))*8<=140737488355328 then if List.length v3.2.1+List.length ([v3.2.2.1]:List Int)<=9223372036854775807 then v7 ((),v3.2.1++([v3.2.2.1]:List Int),())else none else none else v7 ((),v3.2.1,())))else some ((v3.2.1,()),())) v1 ((),([]:List Int),0,())
def F104(n:Nat):Fb 104:=fb n [⟨_,F169 n⟩] [] [] [] Tryz.func104 Tryz.results104 Tryz.ntmps104 (.seq .nop (.seq .nop (.seq (.seq .nop (.block none (.loop ⟨[],[.hdr 3 31 y53 (.own .ro),.val 4 y2],[0]⟩ (.seq .nop (.seq (.block none (.seq .nop (.cond (some ⟨[],[.hdr 3 31 y53 (.own .ro)],[0,4]⟩) .nop .nop))) .nop))))) .nop))) [(y12,.ro)] [(y53,.ro)] [] [] (KP n)
def Gi(v1:Nat)(v2:T91):T25:=aA (λ(v3:T4)=>λv4=>bif decide (v3.2.1<(v2.1.2.2.2.1.length:Int))then if 0<=v3.2.1 then(match v2.1.2.2.2.1[(v3.2.1).toNat]? with|some v5=>aA (λ(v6:T4)=>λv7=>bif decide (v6.2.1<(v5.2.length:Int))then if 0<=v6.2.1 then(match v5.2[(v6.2.1).toNat]? with|some v8=>bif decide (v8=v2.2.1)then some ((IntKind.wrap .i64 (v3.2.1+1),v5.1,()),())else v7 ((),IntKind.wrap .i64 (v6.2.1+1),())|none=>none)else none else v4 ((),IntKind.wrap .i64 (v3.2.1+1),())) v1 ((),0,())|none=>none)else none else some ((0,0,()),())) v1 ((),0,())
def F216(n:Nat):Fb 216:=fb n [] [] [] [] Tryz.func216 Tryz.results216 Tryz.ntmps216 (.seq (.reg none [2]) (.seq (.seq .nop (.block none (.loop ⟨[],[.val 13 y2],[1,11,12]⟩ (.seq .nop (.seq .nop (.seq (.block none (.seq (.reg none [7]) (.seq .nop (.block none (.loop ⟨[],[.val 21 y2],[1,6,7,11,12,13,19,20]⟩ .nop))))) .nop)))))) .nop)) A10 A11 [] [] (Gi n)
def KQ(v1:Nat)(v2:T91):T25:=aq (λ(v3:T5)=>bif v3.2.1 then some ((0,0,()),())else if 0<=v2.2.1 then(match v2.1.2.2.1[(v2.2.1).toNat]? with|some v4=>bif decide (0<=v4.2.2.2.2.1)then ah (Gi v1 (v2.1,v4.2.2.2.2.1,())) (λ(v5:T11)=>some ((v5.1.1,v5.1.2.1,()),()))else aA (λ(v6:T4)=>λv7=>bif decide (0<=v6.2.1)then aq (λ(v8:T2)=>v7 ((),IntKind.wrap .i64 (v6.2.1-1),())) (λv9=>if 0<=v6.2.1 then(match v4.2.2.1[(v6.2.1).toNat]? with|some v10=>bif v10.1 then v9 ((),())else if 0<=v6.2.1 then(match v4.2.2.1[(v6.2.1).toNat]? with|some v11=>ah (Gi v1 (v2.1,v11.2,())) (λ(v12:T11)=>bif decide (0<v12.1.1)then some ((v12.1.1,v12.1.2.1,()),())else v9 ((),()))|none=>none)else none|none=>none)else none)else some ((0,0,()),())) v1 ((),IntKind.wrap .i64 ((v4.2.2.1.length:Int)-1),())|none=>none)else none) (λv13=>bif decide (v2.2.1<0)then v13 ((),true,())else v13 ((),decide ((v2.1.2.2.1.length:Int)<=v2.2.1),()))
def F195(n:Nat):Fb 195:=fb n [⟨_,F216 n⟩] [] [] [] Tryz.func195 Tryz.results195 Tryz.ntmps195 (.seq (.reg none [2]) (.seq (.seq (.reg (some ⟨[],[.val 18 y4],[1,2]⟩) []) .nop) (.seq (.reg none [6]) (.seq .nop (.seq (.seq .nop (.block none (.loop ⟨[],[.val 7 y2],[2,6]⟩ (.seq .nop (.seq (.block (some ⟨[],[],[2,6,7]⟩) .nop) .nop))))) .nop))))) A10 A11 [] [] (KQ n)
def KR(v1:Nat)(v2:T92):T13:=ah (KQ v1 (v2.1,v2.2.1,())) (λ(v3:T11)=>ah (Gi v1 (v2.1,v2.2.2.1,())) (λ(v4:T11)=>aq (λ(v5:T5)=>bif v5.2.1 then some ((3,()),())else bif decide (v4.1.1<v3.1.1)then some ((1,()),())else bif decide (v3.1.1<v4.1.1)then some ((0,()),())else bif decide (v4.1.2.1=1)then some ((1,()),())else bif decide (v4.1.2.1=2)then some ((0,()),())else some ((2,()),())) (λv6=>bif decide (v3.1.1=0)then v6 ((),true,())else v6 ((),decide (v4.1.1=0),()))))
def F170(n:Nat):Fb 170:=fb n [⟨_,F195 n⟩,⟨_,F216 n⟩] [] [] [] Tryz.func170 Tryz.results170 Tryz.ntmps170 (.seq (.reg none [3]) (.seq .nop (.seq .nop (.seq (.block none (.seq (.reg (some ⟨[],[.val 23 y4],[7,9,10]⟩) []) .nop)) .nop)))) [(y32,.ro),(y2,.ro),(y2,.ro)] A17 [] [] (KR n)
def KS(v1:Nat)(v2:(((List ((List Int)×Int×(List Int)))×(List (List Int))×(List (Int×(List Int)×(List (Bool×Int))×Bool×Int×(List Int)))×(List (Int×(List Int)))×Int)×Int×Int×(Int×Int)×(Int×Int)×Unit)):Option (((Int×Int)×(List (Int×Int×Int×Int×Int×Bool))×Unit)×Unit):=bif decide (v2.2.2.2.1.1=0)then some ((v2.2.2.2.2.1,([]:List (Int×Int×Int×Int×Int×Bool)),()),())else aq (λ(v3:(((Int×Int)×(Int×Int×Int×Int×Int×Bool)×Unit)×Unit))=>some ((v2.2.2.2.1,([(v3.1.2.1.1,v3.1.2.1.2.1,v3.1.2.1.2.2.1,v3.1.2.1.2.2.2.1,v3.1.2.1.2.2.2.2.1,true)]:List (Int×Int×Int×Int×Int×Bool)),()),())) (λv4=>bif decide (v2.2.2.2.1.1=1)then ah (KR v1 (v2.1,v2.2.2.2.2.1.2,v2.2.2.1,())) (λ(v5:T7)=>bif decide (v5.1.1=1)then some ((v2.2.2.2.2.1,([(v2.2.1,v2.2.2.1,v2.2.2.2.2.1.2,-1,2,false)]:List (Int×Int×Int×Int×Int×Bool)),()),())else bif decide (v5.1.1=2)then some (((0,0),([(v2.2.1,v2.2.2.1,v2.2.2.2.2.1.2,-1,0,false)]:List (Int×Int×Int×Int×Int×Bool)),()),())else bif decide (v5.1.1=0)then some ((v2.2.2.2.1,([(v2.2.1,v2.2.2.1,v2.2.2.2.2.1.2,-1,v2.2.2.2.1.1,false)]:List (Int×Int×Int×Int×Int×Bool)),()),())else v4 (((0,0),(v2.2.1,v2.2.2.1,v2.2.2.2.2.1.2,-1,v2.2.2.2.1.1,false),()),()))else v4 (((0,0),(v2.2.1,v2.2.2.1,v2.2.2.2.1.2,v2.2.2.2.2.1.2,v2.2.2.2.1.1,false),()),()))
def F105(n:Nat):Fb 105:=fb n [⟨_,F170 n⟩] [] [] [] Tryz.func105 Tryz.results105 Tryz.ntmps105 (.seq (.reg none [5,8,9]) (.seq .nop (.seq (.seq .nop (.block none (.seq .nop (.cond none .nop (.seq .nop (.cond (some ⟨[(80,.box y57,.own (.pr .ro .ro)),(96,.box y25,.own (.pr .ro (.pr .ro (.pr .ro (.pr .ro (.pr .ro .ro))))))],[],[8,10,12]⟩) .nop .nop)))))) (.seq (.reg none [12]) (.seq (.reg none [10]) .nop))))) [(y32,.ro),(y2,.ro),(y2,.ro),(y57,.ro),(y57,.ro)] [(y57,.ro),(y22,.ro)] [] [] (KS n)
def p51(v1:Nat)(v2:(((List ((List Int)×Int×(List Int)))×(List (List Int))×(List (Int×(List Int)×(List (Bool×Int))×Bool×Int×(List Int)))×(List (Int×(List Int)))×Int)×((List (List (Int×Int×Int)))×(List (List ((Bool×Int)×Int))))×Int×Unit)):Option (((List (Int×Int))×(List (Int×Int×Int×Int×Int×Bool))×Unit)×Unit):=if 0<=(IntKind.wrap .i64 ((v2.1.1.length:Int)+1))/\(IntKind.wrap .i64 ((v2.1.1.length:Int)+1))<=(IntKind.wrap .i64 ((v2.1.1.length:Int)+1))then if(IntKind.wrap .i64 ((v2.1.1.length:Int)+1)).toNat*16<=140737488355328 then aq (λ(v3:T47)=>bif v3.2.1 then some ((v3.1.1,([]:List (Int×Int×Int×Int×Int×Bool)),()),())else if 0<=v2.2.2.1 then(match v2.2.1.2[(v2.2.2.1).toNat]? with|some v4=>aA (λ(v5:(((List (Int×Int))×Unit)×Int×Unit))=>λv6=>bif decide (v5.2.1<(v4.length:Int))then if 0<=v5.2.1 then(match v4[(v5.2.1).toNat]? with|some v7=>aq (λ(v8:T47)=>aq (λ(v9:(((List (Int×Int))×Unit)×Unit))=>v6 ((v9.1.1,()),IntKind.wrap .i64 (v5.2.1+1),())) (λv10=>bif v8.2.1 then if 0<=v7.1.2 then(match v8.1.1[(v7.1.2).toNat]? with|some v11=>if 0<=v7.1.2 then(match v8.1.1[(v7.1.2).toNat]? with|some v12=>v10 ((List.set v8.1.1 (v7.1.2).toNat (1,v7.2),()),())|none=>none)else none|none=>none)else none else v10 ((v8.1.1,()),()))) (λv13=>bif !v7.1.1 then v13 ((v5.1.1,()),decide (v7.1.2<(v2.1.1.length:Int)),())else v13 ((v5.1.1,()),false,()))|none=>none)else none else ah (p15 v1 (v2.2.1,v2.1,v2.2.2.1,())) (λ(v14:T42)=>aA (λ(v15:T80)=>λv16=>bif decide (v15.2.2.1<(v14.1.1.length:Int))then if 0<=v15.2.2.1 then(match v14.1.1[(v15.2.2.1).toNat]? with|some v17=>aq (λ(v18:(((List (Int×Int×Int×Int×Int×Bool))×(Int×Int)×(List (Int×Int))×Unit)×Unit))=>if 0<=v15.2.2.1 then(match v14.1.2.1[(v15.2.2.1).toNat]? with|some v19=>ah (KP v1 (v19,())) (λ(v20:T14)=>aA (λ(v21:T80)=>λv22=>bif decide (v21.2.2.1<(v20.1.1.length:Int))then aq (λ(v23:(((List (Int×Int))×Unit)×(List (Int×Int×Int×Int×Int×Bool))×Unit))=>v22 ((v23.1.1,()),v23.2.1,IntKind.wrap .i64 (v21.2.2.1+1),())) (λv24=>if 0<=v21.2.2.1 then(match v20.1.1[(v21.2.2.1).toNat]? with|some v25=>aq (λ(v26:(((List (Int×Int×Int×Int×Int×Bool))×(List (Int×Int))×Unit)×Int×Unit))=>bif decide ((v26.1.2.1.length:Int)<=v26.2.1)then v24 ((v26.1.2.1,()),v26.1.1,())else if 0<=v26.2.1 then(match v26.1.2.1[(v26.2.1).toNat]? with|some v27=>ah (KS v1 (v2.1,v2.2.2.1,v26.2.1,v27,v18.1.2.1,())) (λ(v28:(((Int×Int)×(List (Int×Int×Int×Int×Int×Bool))×Unit)×Unit))=>if 0<=v26.2.1 then(match v26.1.2.1[(v26.2.1).toNat]? with|some v29=>if 0<=v26.2.1 then(match v26.1.2.1[(v26.2.1).toNat]? with|some v30=>if(List.length v26.1.1+List.length v28.1.2.1)*48<=140737488355328 then if List.length v26.1.1+List.length v28.1.2.1<=9223372036854775807 then v24 ((List.set v26.1.2.1 (v26.2.1).toNat v28.1.1,()),v26.1.1++v28.1.2.1,())else none else none|none=>none)else none|none=>none)else none)|none=>none)else none) (λv31=>bif decide (v25=63)then v31 ((v21.2.1,v21.1.1,()),(v2.1.1.length:Int),())else v31 ((v21.2.1,v21.1.1,()),v25,()))|none=>none)else none)else v16 ((v21.1.1,()),v21.2.1,IntKind.wrap .i64 (v15.2.2.1+1),())) v1 ((v18.1.2.2.1,()),v18.1.1,0,()))|none=>none)else none) (λv32=>bif decide (v17=(v2.1.2.2.1.length:Int))then v32 ((v15.2.1,(3,v17),v15.1.1,()),())else v32 ((v15.2.1,(2,v17),v15.1.1,()),()))|none=>none)else none else some ((v15.1.1,v15.2.1,()),())) v1 ((v5.1.1,()),([]:List (Int×Int×Int×Int×Int×Bool)),0,()))) v1 ((v3.1.1,()),0,())|none=>none)else none) (λv33=>bif decide (v2.2.2.1<0)then v33 ((List.replicate (IntKind.wrap .i64 ((v2.1.1.length:Int)+1)).toNat (0,0),()),true,())else ah (p14 v1 (v2.2.1,())) (λ(v34:T7)=>v33 ((List.replicate (IntKind.wrap .i64 ((v2.1.1.length:Int)+1)).toNat (0,0),()),decide (v34.1.1<=v2.2.2.1),())))else none else none
def F51(n:Nat):Fb 51:=fb n [⟨_,F14 n⟩,⟨_,F15 n⟩,⟨_,F104 n⟩,⟨_,F105 n⟩] [72,94,119] [] [] Tryz.func51 Tryz.results51 Tryz.ntmps51 (.seq (.reg none [3,4]) (.seq .nop (.seq (.seq (.reg (some ⟨[(208,iN,.own (.pr .ro .ro))],[.val 34 y4],[2,3,4,8]⟩) []) .nop) (.seq (.seq .nop (.block none (.loop ⟨[(208,iN,.own (.pr .ro .ro))],[.val 42 y2],[2,3,4,8,40,41]⟩ (.seq .nop (.seq .nop (.seq (.block none (.seq (.reg none [10]) (.seq (.reg (some ⟨[(208,iN,.own (.pr .ro .ro))],[.val 58 y4],[2,3,4,8,10,40,41,42]⟩) []) (.cond (some ⟨[(208,iN,.own (.pr .ro .ro))],[],[2,3,4,8,40,41,42]⟩) .nop .nop)))) .nop)))))) (.seq .nop (.seq .nop (.seq (.seq .nop (.block none (.loop ⟨[(208,iN,.own (.pr .ro .ro))],[.hdr 11 95 y22 (.own .ro),.val 77 y2],[2,3,8,13,75,76]⟩ (.seq .nop (.seq .nop (.seq (.block none (.seq .nop (.seq .nop (.seq (.seq .nop (.cond (some ⟨[(95,y22,.own .ro),(128,.box y57,.own (.pr .ro .ro)),(208,iN,.own (.pr .ro .ro))],[],[2,3,8,11,13,14,16,75,76,77]⟩) .nop .nop)) (.seq (.reg none [16]) (.block none (.loop ⟨[(208,iN,.own (.pr .ro .ro))],[.hdr 11 95 y22 (.own .ro),.val 96 y2],[2,3,8,13,16,75,76,77,94,95]⟩ (.seq .nop (.seq .nop (.seq (.block (some ⟨[(208,iN,.own (.pr .ro .ro))],[.hdr 11 95 y22 (.own .ro)],[2,3,8,13,16,75,76,77,94,95,96]⟩) (.seq .nop (.seq .nop (.seq (.seq .nop (.cond (some ⟨[(95,y22,.own .ro),(208,iN,.own (.pr .ro .ro))],[.val 19 y2],[2,3,8,11,13,16,75,76,77,94,95,96]⟩) .nop .nop)) (.seq .nop (.seq (.reg none [20]) .nop)))))) .nop)))))))))) .nop)))))) .nop))))))) [(y32,.ro),(y43,.ro),(y2,.ro)] [(iN,.ro),(y22,.ro)] [] [] (p51 n)
def p13(v1:Nat)(v2:(((List ((List Int)×Int×(List Int)))×(List (List Int))×(List (Int×(List Int)×(List (Bool×Int))×Bool×Int×(List Int)))×(List (Int×(List Int)))×Int)×((List (List (Int×Int×Int)))×(List (List ((Bool×Int)×Int))))×Unit)):Option (((List (List (Int×Int)))×(List (Int×Int×Int×Int×Int×Bool))×Unit)×Unit):=ah (p14 v1 (v2.2.1,())) (λ(v3:T7)=>aA (λ(v4:(Unit×(List (List (Int×Int)))×(List (Int×Int×Int×Int×Int×Bool))×Int×Unit))=>λv5=>bif decide (v4.2.2.2.1<v3.1.1)then ah (p51 v1 (v2.1,v2.2.1,v4.2.2.2.1,())) (λ(v6:(((List (Int×Int))×(List (Int×Int×Int×Int×Int×Bool))×Unit)×Unit))=>if(List.length v4.2.1+List.length ([v6.1.1]:List (List (Int×Int))))*24<=140737488355328 then if List.length v4.2.1+List.length ([v6.1.1]:List (List (Int×Int)))<=9223372036854775807 then if(List.length v4.2.2.1+List.length v6.1.2.1)*48<=140737488355328 then if List.length v4.2.2.1+List.length v6.1.2.1<=9223372036854775807 then v5 ((),v4.2.1++([v6.1.1]:List (List (Int×Int))),v4.2.2.1++v6.1.2.1,IntKind.wrap .i64 (v4.2.2.2.1+1),())else none else none else none else none)else some ((v4.2.1,v4.2.2.1,()),())) v1 ((),([]:List (List (Int×Int))),([]:List (Int×Int×Int×Int×Int×Bool)),0,()))
def F13(n:Nat):Fb 13:=fb n [⟨_,F14 n⟩,⟨_,F51 n⟩] [20] [] [] Tryz.func13 Tryz.results13 Tryz.ntmps13 (.seq (.reg none [2,3]) (.seq .nop (.seq .nop (.seq (.seq .nop (.block none (.loop ⟨[],[.hdr 6 55 y82 (.own .ro),.hdr 7 63 y22 (.own .ro),.val 13 y2],[2,3,12]⟩ .nop))) .nop)))) [(y32,.ro),(y43,.ro)] [(y82,.ro),(y22,.ro)] [] [] (p13 n)
def p10(v1:Nat)(v2:T59):Option (((List (Int×Int×Int×Int×Int×Bool))×Unit)×Unit):=aA (λ(v3:(Unit×(List (Int×Int×Int×Int×Int×Bool))×Int×Unit))=>λv4=>bif decide (v3.2.2.1<(v2.1.length:Int))then if 0<=v3.2.2.1 then(match v2.1[(v3.2.2.1).toNat]? with|some v5=>aq (λ(v6:(Unit×(List (Int×Int×Int×Int×Int×Bool))×Unit))=>v4 ((),v6.2.1,IntKind.wrap .i64 (v3.2.2.1+1),())) (λv7=>bif v5.2.2.2.2.2 then if(List.length v3.2.1+List.length ([v5]:List (Int×Int×Int×Int×Int×Bool)))*48<=140737488355328 then if List.length v3.2.1+List.length ([v5]:List (Int×Int×Int×Int×Int×Bool))<=9223372036854775807 then v7 ((),v3.2.1++([v5]:List (Int×Int×Int×Int×Int×Bool)),())else none else none else v7 ((),v3.2.1,()))|none=>none)else none else some ((v3.2.1,()),())) v1 ((),([]:List (Int×Int×Int×Int×Int×Bool)),0,())
def F10(n:Nat):Fb 10:=fb n [] [] [] [] Tryz.func10 Tryz.results10 Tryz.ntmps10 (.seq .nop (.seq .nop (.seq (.seq .nop (.block none (.loop ⟨[],[.hdr 3 31 y22 (.own .ro),.val 8 y2],[6,7]⟩ (.seq .nop (.seq .nop (.seq (.block none (.seq (.reg none [5]) (.seq .nop (.cond (some ⟨[],[.hdr 3 31 y22 (.own .ro)],[6,7,8]⟩) .nop .nop)))) .nop)))))) .nop))) [(y22,.ro)] [(y22,.ro)] [] [] (p10 n)
def p9(v1:Nat)(v2:Unit):T15:=ah (p12 v1 ((([(([80,76,85,83]:List Int),0,([112]:List Int)),(([88]:List Int),0,([120]:List Int))]:List ((List Int)×Int×(List Int))),([([69]:List Int)]:List (List Int)),([(0,([65,100,100]:List Int),([(true,0),(false,0),(true,0)]:List (Bool×Int)),false,-1,([0,0]:List Int)),(0,([79,110,101]:List Int),([(false,1)]:List (Bool×Int)),false,-1,([]:List Int))]:List (Int×(List Int)×(List (Bool×Int))×Bool×Int×(List Int))),([]:List (Int×(List Int))),0),())) (λ(v3:T83)=>ah (p13 v1 ((([(([80,76,85,83]:List Int),0,([112]:List Int)),(([88]:List Int),0,([120]:List Int))]:List ((List Int)×Int×(List Int))),([([69]:List Int)]:List (List Int)),([(0,([65,100,100]:List Int),([(true,0),(false,0),(true,0)]:List (Bool×Int)),false,-1,([0,0]:List Int)),(0,([79,110,101]:List Int),([(false,1)]:List (Bool×Int)),false,-1,([]:List Int))]:List (Int×(List Int)×(List (Bool×Int))×Bool×Int×(List Int))),([]:List (Int×(List Int))),0),v3.1.1,())) (λ(v4:T81)=>aq (λ(v5:T5)=>some ((v5.2.1,()),())) (λv6=>bif decide (v3.1.2.1=0)then bif decide ((v4.1.2.1.length:Int)=1)then if(0:Int)<=(0:Int)then(match v4.1.2.1[(0:Int).toNat]? with|some v7=>bif v7.2.2.2.2.2 then if(0:Int)<=(0:Int)then(match v4.1.2.1[(0:Int).toNat]? with|some v8=>bif decide (v8.2.2.2.2.1=1)then if(0:Int)<=(0:Int)then(match v4.1.2.1[(0:Int).toNat]? with|some v9=>bif decide (v9.2.1=0)then if(0:Int)<=(0:Int)then(match v4.1.2.1[(0:Int).toNat]? with|some v10=>bif decide (v10.2.2.2.1=(-1))then ah (p10 v1 (v4.1.2.1,())) (λ(v11:T64)=>v6 ((),decide ((v11.1.1.length:Int)=1),()))else v6 ((),false,())|none=>none)else none else v6 ((),false,())|none=>none)else none else v6 ((),false,())|none=>none)else none else v6 ((),false,())|none=>none)else none else v6 ((),false,())else v6 ((),false,()))))
def p3(v1:Nat)(v2:T59):T15:=ah (p9 v1 ()) (λ(v3:T8)=>bif !v3.1.1 then some ((false,()),())else bif decide (100<(v2.1.length:Int))then some ((true,()),())else ah (p10 v1 (v2.1,())) (λ(v4:T64)=>aA (λ(v5:T9)=>λv6=>bif decide (v5.2.2.1<(v2.1.length:Int))then aq (λ(v7:T4)=>v6 ((),v7.2.1,IntKind.wrap .i64 (v5.2.2.1+1),())) (λv8=>if 0<=v5.2.2.1 then(match v2.1[(v5.2.2.1).toNat]? with|some v9=>bif !v9.2.2.2.2.2 then v8 ((),v5.2.1,())else aq (λ(v10:T5)=>bif v10.2.1 then some ((false,()),())else v8 ((),IntKind.wrap .i64 (v5.2.1+1),())) (λv11=>bif decide ((v4.1.1.length:Int)<=v5.2.1)then v11 ((),true,())else if 0<=v5.2.1 then(match v4.1.1[(v5.2.1).toNat]? with|some v12=>if 0<=v5.2.2.1 then(match v2.1[(v5.2.2.1).toNat]? with|some v13=>v11 ((),bif bif decide (v12.1=v13.1)then bif decide (v12.2.1=v13.2.1)then bif decide (v12.2.2.1=v13.2.2.1)then bif decide (v12.2.2.2.1=v13.2.2.2.1)then bif decide (v12.2.2.2.2.1=v13.2.2.2.2.1)then v12.2.2.2.2.2 == v13.2.2.2.2.2 else false else false else false else false else false then false else true,())|none=>none)else none|none=>none)else none)|none=>none)else none)else some ((decide (v5.2.1=(v4.1.1.length:Int)),()),())) v1 ((),0,0,())))
end
noncomputable section
def p16(v1:Nat)(v2:(((List (List (Int×Int×Int)))×(List (List ((Bool×Int)×Int))))×Int×(Bool×Int)×Unit)):T13:=aq (λ(v3:T5)=>bif v3.2.1 then some ((-1,()),())else if 0<=v2.2.1 then(match v2.1.2[(v2.2.1).toNat]? with|some v4=>aA (λ(v5:T4)=>λv6=>bif decide (v5.2.1<(v4.length:Int))then if 0<=v5.2.1 then(match v4[(v5.2.1).toNat]? with|some v7=>bif bif v7.1.1 == v2.2.2.1.1 then decide (v7.1.2=v2.2.2.1.2)else false then some ((v7.2,()),())else v6 ((),IntKind.wrap .i64 (v5.2.1+1),())|none=>none)else none else some ((-1,()),())) v1 ((),0,())|none=>none)else none) (λv8=>bif decide (v2.2.1<0)then v8 ((),true,())else v8 ((),decide ((v2.1.2.length:Int)<=v2.2.1),()))
def F16(n:Nat):Fb 16:=fb n [] [] [] [⟨_,Gb⟩] Tryz.func16 Tryz.results16 Tryz.ntmps16 (.seq (.reg none [3,5]) (.seq (.seq (.reg (some ⟨[],[.val 17 y4],[1,3,5]⟩) []) .nop) (.seq (.seq .nop (.block none (.loop ⟨[],[.val 24 y2],[5,22,23]⟩ (.seq .nop (.seq .nop (.seq (.block none (.seq (.reg none [8]) .nop)) .nop)))))) .nop))) [(y43,.ro),(y2,.ro),(y62,.ro)] A17 [] [] (p16 n)
def p18(v1:Nat)(v2:T90):Option ((((List (List (Int×Int)))×(List (List Int))×(List Int)×(List Int))×(List (Int×Int×Int×Int×Int×Bool))×Int×Unit)×Unit):=ah (p12 v1 (v2.1,())) (λ(v3:T83)=>bif !(decide (v3.1.2.1=0))then some (((([]:List (List (Int×Int))),([]:List (List Int)),([]:List Int),([]:List Int)),([]:List (Int×Int×Int×Int×Int×Bool)),v3.1.2.1,()),())else ah (p13 v1 (v2.1,v3.1.1,())) (λ(v4:T81)=>ah (p10 v1 (v4.1.2.1,())) (λ(v5:T64)=>bif decide (0<(v5.1.1.length:Int))then some (((([]:List (List (Int×Int))),([]:List (List Int)),([]:List Int),([]:List Int)),v4.1.2.1,18,()),())else ah (p14 v1 (v3.1.1,())) (λ(v6:T7)=>aA (λ(v7:T89)=>λv8=>bif decide (v7.2.1<v6.1.1)then aA (λ(v9:((((List (List (Int×Int)))×(List (List Int))×(List Int)×(List Int))×((List (List (Int×Int)))×(List (List Int))×(List Int)×(List Int))×Unit)×(List Int)×Int×Unit))=>λv10=>bif decide (v9.2.2.1<(v2.1.2.1.length:Int))then ah (p16 v1 (v3.1.1,v7.2.1,(true,v9.2.2.1),())) (λ(v11:T7)=>if(List.length v9.2.1+List.length ([v11.1.1]:List Int))*8<=140737488355328 then if List.length v9.2.1+List.length ([v11.1.1]:List Int)<=9223372036854775807 then v10 ((v9.1.1,v9.1.2.1,()),v9.2.1++([v11.1.1]:List Int),IntKind.wrap .i64 (v9.2.2.1+1),())else none else none)else if(List.length v9.1.2.1.2.1+List.length ([v9.2.1]:List (List Int)))*24<=140737488355328 then if List.length v9.1.2.1.2.1+List.length ([v9.2.1]:List (List Int))<=9223372036854775807 then v8 ((v9.1.1,(v9.1.2.1.1,v9.1.2.1.2.1++([v9.2.1]:List (List Int)),v9.1.2.1.2.2),()),IntKind.wrap .i64 (v7.2.1+1),())else none else none) v1 ((v7.1.1,v7.1.2.1,()),([]:List Int),0,())else aA (λ(v12:T89)=>λv13=>bif decide (v12.2.1<(v2.1.2.2.1.length:Int))then if 0<=v12.2.1 then(match v2.1.2.2.1[(v12.2.1).toNat]? with|some v14=>if(List.length v12.1.2.1.2.2.1+List.length ([v14.1]:List Int))*8<=140737488355328 then if List.length v12.1.2.1.2.2.1+List.length ([v14.1]:List Int)<=9223372036854775807 then if(List.length v12.1.2.1.2.2.2+List.length ([(v14.2.2.1.length:Int)]:List Int))*8<=140737488355328 then if List.length v12.1.2.1.2.2.2+List.length ([(v14.2.2.1.length:Int)]:List Int)<=9223372036854775807 then v13 ((v12.1.1,(v12.1.2.1.1,v12.1.2.1.2.1,v12.1.2.1.2.2.1++([v14.1]:List Int),v12.1.2.1.2.2.2++([(v14.2.2.1.length:Int)]:List Int)),()),IntKind.wrap .i64 (v12.2.1+1),())else none else none else none else none|none=>none)else none else some ((v12.1.2.1,v4.1.2.1,0,()),())) v1 ((v7.1.1,v7.1.2.1,()),0,())) v1 (((([]:List (List (Int×Int))),([]:List (List Int)),([]:List Int),([]:List Int)),(v4.1.1,([]:List (List Int)),([]:List Int),([]:List Int)),()),0,())))))
def F18(n:Nat):Fb 18:=fb n [⟨_,F12 n⟩,⟨_,F13 n⟩,⟨_,F10 n⟩,⟨_,F14 n⟩,⟨_,F16 n⟩] [17,22,27,31,34,37] [] [] Tryz.func18 Tryz.results18 Tryz.ntmps18 (.seq (.reg none [1]) (.seq (.reg none [5]) (.seq .nop (.seq .nop (.seq .nop (.seq .nop (.seq (.seq .nop (.block none (.loop ⟨[(16,.box y83,.own (.pr (.own .ro) (.pr (.own .ro) (.pr (.own .ro) (.own .ro))))),(72,.box y83,.own (.pr .ro (.pr (.own .ro) (.pr (.own .ro) (.own .ro)))))],[.val 40 y2],[1,2,5,8,9,39]⟩ (.seq .nop (.seq .nop (.seq (.block none (.seq .nop (.seq .nop (.seq (.seq .nop (.block none (.loop ⟨[(16,.box y83,.own (.pr (.own .ro) (.pr (.own .ro) (.pr (.own .ro) (.own .ro))))),(72,.box y83,.own (.pr .ro (.pr (.own .ro) (.pr (.own .ro) (.own .ro)))))],[.hdr 11 95 y53 (.own .ro),.val 46 y2],[1,2,5,8,9,10,39,40,45]⟩ .nop))) (.rgf none [11] []))))) .nop)))))) (.seq (.seq .nop (.block none (.loop ⟨[(16,.box y83,.own (.pr (.own .ro) (.pr (.own .ro) (.pr (.own .ro) (.own .ro))))),(72,.box y83,.own (.pr .ro (.pr (.own .ro) (.pr (.own .ro) (.own .ro)))))],[.val 68 y2],[2,8,9,66,67]⟩ (.seq .nop (.seq .nop (.seq (.block none (.seq (.reg none [14]) .nop)) .nop)))))) (.seq (.rgf none [9] [2]) .nop))))))))) A15 [(y83,.ro),(y22,.ro),(y2,.ro)] [] [] (p18 n)
def p20(v1:Nat)(v2:T79):T13:=some (((v2.1.1.length:Int),()),())
def F20(n:Nat):Fb 20:=fb n [] [] [] [] Tryz.func20 Tryz.results20 Tryz.ntmps20 (.seq (.reg none [1]) .nop) [(y83,.ro)] A17 [] [] (p20 n)
def p17(v1:Nat)(v2:Unit):T15:=ah (p18 v1 ((([(([88]:List Int),0,([120]:List Int))]:List ((List Int)×Int×(List Int))),([([69]:List Int)]:List (List Int)),([(0,([84,119,111]:List Int),([(true,0),(true,0)]:List (Bool×Int)),false,-1,([0]:List Int)),(0,([79,110,101]:List Int),([(false,0)]:List (Bool×Int)),false,-1,([]:List Int))]:List (Int×(List Int)×(List (Bool×Int))×Bool×Int×(List Int))),([]:List (Int×(List Int))),0),())) (λ(v3:((((List (List (Int×Int)))×(List (List Int))×(List Int)×(List Int))×(List (Int×Int×Int×Int×Int×Bool))×Int×Unit)×Unit))=>aq (λ(v4:T5)=>some ((v4.2.1,()),())) (λv5=>bif decide (v3.1.2.2.1=18)then bif decide (0<(v3.1.2.1.length:Int))then ah (p20 v1 (v3.1.1,())) (λ(v6:T7)=>v5 ((),decide (v6.1.1=0),()))else v5 ((),false,())else v5 ((),false,())))
def F17(n:Nat):Fb 17:=fb n [⟨_,F18 n⟩,⟨_,F20 n⟩] [14,17,19,22] [] [] Tryz.func17 Tryz.results17 Tryz.ntmps17 (.seq .nop (.seq (.reg none [1]) (.seq (.reg none [2]) (.seq (.reg none [3]) (.seq (.reg (some ⟨[],[.val 0 y4],[]⟩) []) .nop))))) [] A16 [] [] (p17 n)
def p23(v1:Nat)(v2:T79):T15:=aq (λ(v3:T5)=>bif v3.2.1 then some ((false,()),())else aA (λ(v4:T4)=>λv5=>bif decide (v4.2.1<(v2.1.1.length:Int))then if 0<=v4.2.1 then(match v2.1.1[(v4.2.1).toNat]? with|some v6=>bif decide (40<(v6.length:Int))then some ((false,()),())else v5 ((),IntKind.wrap .i64 (v4.2.1+1),())|none=>none)else none else aA (λ(v7:T4)=>λv8=>bif decide (v7.2.1<(v2.1.2.1.length:Int))then if 0<=v7.2.1 then(match v2.1.2.1[(v7.2.1).toNat]? with|some v9=>bif decide (40<(v9.length:Int))then some ((false,()),())else v8 ((),IntKind.wrap .i64 (v7.2.1+1),())|none=>none)else none else some ((true,()),())) v1 ((),0,())) v1 ((),0,())) (λv10=>bif decide (40<(v2.1.1.length:Int))then v10 ((),true,())else bif decide (40<(v2.1.2.1.length:Int))then v10 ((),true,())else bif decide (40<(v2.1.2.2.1.length:Int))then v10 ((),true,())else v10 ((),decide (40<(v2.1.2.2.2.length:Int)),()))
def F23(n:Nat):Fb 23:=fb n [] [] [] [] Tryz.func23 Tryz.results23 Tryz.ntmps23 (.seq (.reg none [1]) (.seq (.seq (.reg (some ⟨[],[.val 26 y4],[1]⟩) []) .nop) (.seq (.seq .nop (.block none (.loop ⟨[],[.val 3 y2],[1]⟩ .nop))) (.seq (.seq .nop (.block none (.loop ⟨[],[.val 4 y2],[1]⟩ .nop))) .nop)))) [(y83,.ro)] A16 [] [] (p23 n)
def p25(v1:Nat)(v2:T79):Option ((((List (List (Int×Int)))×(List (List Int))×(List Int)×(List Int))×Unit)×Unit):=aA (λ(v3:T89)=>λv4=>bif decide (v3.2.1<(v2.1.1.length:Int))then aA (λ(v5:((((List (List (Int×Int)))×(List (List Int))×(List Int)×(List Int))×((List (List (Int×Int)))×(List (List Int))×(List Int)×(List Int))×Unit)×(List (Int×Int))×Int×Unit))=>λv6=>if 0<=v3.2.1 then(match v2.1.1[(v3.2.1).toNat]? with|some v7=>bif decide (v5.2.2.1<(v7.length:Int))then if 0<=v3.2.1 then(match v2.1.1[(v3.2.1).toNat]? with|some v8=>if 0<=v5.2.2.1 then(match v8[(v5.2.2.1).toNat]? with|some v9=>if 0<=v3.2.1 then(match v2.1.1[(v3.2.1).toNat]? with|some v10=>if 0<=v5.2.2.1 then(match v10[(v5.2.2.1).toNat]? with|some v11=>if(List.length v5.2.1+List.length ([(v9.1,v11.2)]:List (Int×Int)))*16<=140737488355328 then if List.length v5.2.1+List.length ([(v9.1,v11.2)]:List (Int×Int))<=9223372036854775807 then v6 ((v5.1.1,v5.1.2.1,()),v5.2.1++([(v9.1,v11.2)]:List (Int×Int)),IntKind.wrap .i64 (v5.2.2.1+1),())else none else none|none=>none)else none|none=>none)else none|none=>none)else none|none=>none)else none else if(List.length v5.1.2.1.1+List.length ([v5.2.1]:List (List (Int×Int))))*24<=140737488355328 then if List.length v5.1.2.1.1+List.length ([v5.2.1]:List (List (Int×Int)))<=9223372036854775807 then v4 ((v5.1.1,(v5.1.2.1.1++([v5.2.1]:List (List (Int×Int))),v5.1.2.1.2),()),IntKind.wrap .i64 (v3.2.1+1),())else none else none|none=>none)else none) v1 ((v3.1.1,v3.1.2.1,()),([]:List (Int×Int)),0,())else some ((v3.1.2.1,()),())) v1 (((([]:List (List (Int×Int))),([]:List (List Int)),([]:List Int),([]:List Int)),(([]:List (List (Int×Int))),v2.1.2.1,v2.1.2.2.1,v2.1.2.2.2),()),0,())
def F25(n:Nat):Fb 25:=fb n [] [13] [] [] Tryz.func25 Tryz.results25 Tryz.ntmps25 (.seq (.reg none [1]) (.seq .nop (.seq (.seq .nop (.block none (.loop ⟨[(16,.box y83,.own (.pr (.own .ro) (.pr (.own .ro) (.pr (.own .ro) (.own .ro))))),(24,.box y83,.own (.pr (.own .ro) (.pr .ro (.pr .ro .ro))))],[.val 4 y2],[1,2,3]⟩ (.seq .nop (.seq (.block none (.seq .nop (.seq (.seq .nop (.block none (.loop ⟨[(16,.box y83,.own (.pr (.own .ro) (.pr (.own .ro) (.pr (.own .ro) (.own .ro))))),(24,.box y83,.own (.pr (.own .ro) (.pr .ro (.pr .ro .ro))))],[.hdr 5 47 iN (.own .ro),.val 6 y2],[1,2,3,4]⟩ .nop))) (.rgf none [5] [])))) .nop))))) (.seq (.rgf none [3] [2]) .nop)))) [(y83,.ro)] [(y83,.ro)] [] [] (p25 n)
def p24(v1:Nat)(v2:T85):T15:=aq (λ(v3:T5)=>bif v3.2.1 then some ((false,()),())else aA (λ(v4:T4)=>λv5=>bif decide (v4.2.1<(v2.1.1.length:Int))then aq (λ(v6:T5)=>bif v6.2.1 then some ((false,()),())else aA (λ(v7:T4)=>λv8=>if 0<=v4.2.1 then(match v2.1.1[(v4.2.1).toNat]? with|some v9=>bif decide (v7.2.1<(v9.length:Int))then if 0<=v4.2.1 then(match v2.1.1[(v4.2.1).toNat]? with|some v10=>if 0<=v7.2.1 then(match v10[(v7.2.1).toNat]? with|some v11=>aq (λ(v12:T5)=>bif v12.2.1 then some ((false,()),())else v8 ((),IntKind.wrap .i64 (v7.2.1+1),())) (λv13=>bif decide (v11.1<0)then v13 ((),true,())else bif decide (3<v11.1)then v13 ((),true,())else bif decide (v11.1=1)then bif decide (v11.2<0)then v13 ((),true,())else bif decide ((v2.1.1.length:Int)<=v11.2)then v13 ((),true,())else bif decide (v11.1=2)then bif decide (v11.2<0)then v13 ((),true,())else v13 ((),decide ((v2.1.2.2.1.length:Int)<=v11.2),())else v13 ((),false,())else bif decide (v11.1=2)then bif decide (v11.2<0)then v13 ((),true,())else v13 ((),decide ((v2.1.2.2.1.length:Int)<=v11.2),())else v13 ((),false,()))|none=>none)else none|none=>none)else none else aA (λ(v14:T4)=>λv15=>if 0<=v4.2.1 then(match v2.1.2.1[(v4.2.1).toNat]? with|some v16=>bif decide (v14.2.1<(v16.length:Int))then aq (λ(v17:T5)=>bif v17.2.1 then some ((false,()),())else v15 ((),IntKind.wrap .i64 (v14.2.1+1),())) (λv18=>if 0<=v4.2.1 then(match v2.1.2.1[(v4.2.1).toNat]? with|some v19=>if 0<=v14.2.1 then(match v19[(v14.2.1).toNat]? with|some v20=>bif decide (v20<(-1))then v18 ((),true,())else if 0<=v4.2.1 then(match v2.1.2.1[(v4.2.1).toNat]? with|some v21=>if 0<=v14.2.1 then(match v21[(v14.2.1).toNat]? with|some v22=>v18 ((),decide ((v2.1.1.length:Int)<=v22),())|none=>none)else none|none=>none)else none|none=>none)else none|none=>none)else none)else v5 ((),IntKind.wrap .i64 (v4.2.1+1),())|none=>none)else none) v1 ((),0,())|none=>none)else none) v1 ((),0,())) (λv23=>if 0<=v4.2.1 then(match v2.1.1[(v4.2.1).toNat]? with|some v24=>bif !(decide ((IntKind.wrap .i64 ((v24.length:Int)-1))=v2.2.1))then v23 ((),true,())else if 0<=v4.2.1 then(match v2.1.2.1[(v4.2.1).toNat]? with|some v25=>v23 ((),!(decide ((v25.length:Int)=v2.2.2.1)),())|none=>none)else none|none=>none)else none)else aA (λ(v26:T4)=>λv27=>bif decide (v26.2.1<(v2.1.2.2.1.length:Int))then aq (λ(v28:T5)=>bif v28.2.1 then some ((false,()),())else v27 ((),IntKind.wrap .i64 (v26.2.1+1),())) (λv29=>if 0<=v26.2.1 then(match v2.1.2.2.1[(v26.2.1).toNat]? with|some v30=>bif decide (v30<0)then v29 ((),true,())else if 0<=v26.2.1 then(match v2.1.2.2.1[(v26.2.1).toNat]? with|some v31=>bif decide (v2.2.2.1<=v31)then v29 ((),true,())else if 0<=v26.2.1 then(match v2.1.2.2.2[(v26.2.1).toNat]? with|some v32=>bif decide (v32<0)then v29 ((),true,())else if 0<=v26.2.1 then(match v2.1.2.2.2[(v26.2.1).toNat]? with|some v33=>v29 ((),decide (12<v33),())|none=>none)else none|none=>none)else none|none=>none)else none|none=>none)else none)else some ((true,()),())) v1 ((),0,())) v1 ((),0,())) (λv34=>bif decide ((v2.1.1.length:Int)=0)then v34 ((),true,())else bif !(decide ((v2.1.2.1.length:Int)=(v2.1.1.length:Int)))then v34 ((),true,())else v34 ((),!(decide ((v2.1.2.2.2.length:Int)=(v2.1.2.2.1.length:Int))),()))
def F24(n:Nat):Fb 24:=fb n [] [] [] [] Tryz.func24 Tryz.results24 Tryz.ntmps24 (.seq (.reg none [3]) (.seq .nop (.seq (.seq (.reg (some ⟨[],[.val 33 y4],[1,2,3,7]⟩) []) .nop) (.seq (.seq .nop (.block none (.loop ⟨[],[.val 8 y2],[1,2,3,7]⟩ (.seq .nop (.seq (.block none (.seq (.seq (.reg (some ⟨[],[.val 57 y4],[1,2,3,7,8]⟩) []) .nop) (.seq (.seq .nop (.block none (.loop ⟨[],[.val 9 y2],[1,2,3,7,8]⟩ (.seq .nop (.seq (.block none (.seq (.reg none [10]) (.seq (.reg (some ⟨[],[.val 117 y4],[1,2,3,7,8,9]⟩) []) .nop))) .nop))))) (.seq .nop (.block none (.loop ⟨[],[.val 11 y2],[1,2,3,7,8]⟩ (.seq .nop (.seq (.block none (.seq (.reg (some ⟨[],[.val 148 y4],[1,2,3,7,8,11]⟩) []) .nop)) .nop)))))))) .nop))))) (.seq (.seq .nop (.block none (.loop ⟨[],[.val 12 y2],[2,3]⟩ (.seq .nop (.seq (.block none (.seq (.reg (some ⟨[],[.val 186 y4],[2,3,12]⟩) []) .nop)) .nop))))) .nop))))) A2 A16 [] [] (p24 n)
def p56(v1:Nat)(v2:(((List (List (Int×Int)))×(List (List Int))×(List Int)×(List Int))×(List (Int×Int))×Unit)):T15:=aA (λ(v3:T4)=>λv4=>bif decide (v3.2.1<(v2.2.1.length:Int))then if 0<=v3.2.1 then(match v2.2.1[(v3.2.1).toNat]? with|some v5=>aq (λ(v6:T2)=>v4 ((),IntKind.wrap .i64 (v3.2.1+1),())) (λv7=>bif decide (v5.1=1)then aq (λ(v8:T5)=>bif v8.2.1 then some ((false,()),())else v7 ((),())) (λv9=>bif decide (v5.2<0)then v9 ((),true,())else v9 ((),decide ((v2.1.1.length:Int)<=v5.2),()))else aq (λ(v10:T2)=>v7 ((),())) (λv11=>bif decide (v5.1=2)then aq (λ(v12:T5)=>bif v12.2.1 then some ((false,()),())else v11 ((),())) (λv13=>bif decide (v5.2<0)then v13 ((),true,())else v13 ((),decide ((v2.1.2.2.1.length:Int)<=v5.2),()))else aq (λ(v14:T5)=>bif v14.2.1 then v11 ((),())else some ((false,()),())) (λv15=>bif decide (v5.1=0)then v15 ((),decide (v5.1=0),())else v15 ((),decide (v5.1=3),()))))|none=>none)else none else some ((true,()),())) v1 ((),0,())
def F56(n:Nat):Fb 56:=fb n [] [] [] [] Tryz.func56 Tryz.results56 Tryz.ntmps56 (.seq (.reg none [2]) (.seq (.seq .nop (.block none (.loop ⟨[],[.val 9 y2],[2,7,8]⟩ (.seq .nop (.seq .nop (.seq (.block none (.seq (.reg none [6]) (.seq .nop (.block none (.seq .nop (.cond (some ⟨[],[],[2,7,8,9]⟩) (.seq (.reg (some ⟨[],[.val 27 y4],[2,7,8,9]⟩) []) .nop) (.seq .nop (.cond (some ⟨[],[],[2,7,8,9]⟩) (.seq (.reg (some ⟨[],[.val 40 y4],[2,7,8,9]⟩) []) .nop) (.seq (.seq .nop (.cond (some ⟨[],[.val 41 y4],[2,7,8,9]⟩) .nop .nop)) .nop))))))))) .nop)))))) .nop)) [(y83,.ro),(iN,.ro)] A16 [] [] (p56 n)
def p22(v1:Nat)(v2:T85):T13:=aq (λ(v3:T5)=>bif v3.2.1 then some ((23,()),())else aA (λ(v4:T4)=>λv5=>bif decide (v4.2.1<(v2.1.1.length:Int))then if 0<=v4.2.1 then(match v2.1.1[(v4.2.1).toNat]? with|some v6=>aq (λ(v7:T5)=>bif v7.2.1 then some ((23,()),())else if 0<=v4.2.1 then(match v2.1.2.1[(v4.2.1).toNat]? with|some v8=>aA (λ(v9:T4)=>λv10=>bif decide (v9.2.1<(v8.length:Int))then if 0<=v9.2.1 then(match v8[(v9.2.1).toNat]? with|some v11=>aq (λ(v12:T5)=>bif v12.2.1 then some ((23,()),())else v10 ((),IntKind.wrap .i64 (v9.2.1+1),())) (λv13=>bif decide (v11<(-1))then v13 ((),true,())else v13 ((),decide ((v2.1.1.length:Int)<=v11),()))|none=>none)else none else v5 ((),IntKind.wrap .i64 (v4.2.1+1),())) v1 ((),0,())|none=>none)else none) (λv14=>bif !(decide ((v6.length:Int)=(IntKind.wrap .i64 (v2.2.1+1))))then v14 ((),true,())else if 0<=v4.2.1 then(match v2.1.2.1[(v4.2.1).toNat]? with|some v15=>bif !(decide ((v15.length:Int)=v2.2.2.1))then v14 ((),true,())else ah (p56 v1 (v2.1,v6,())) (λ(v16:T8)=>v14 ((),!v16.1.1,()))|none=>none)else none)|none=>none)else none else aA (λ(v17:T4)=>λv18=>bif decide (v17.2.1<(v2.1.2.2.1.length:Int))then if 0<=v17.2.1 then(match v2.1.2.2.1[(v17.2.1).toNat]? with|some v19=>aq (λ(v20:T5)=>bif v20.2.1 then some ((23,()),())else v18 ((),IntKind.wrap .i64 (v17.2.1+1),())) (λv21=>bif decide (v19<0)then v21 ((),true,())else bif decide (v2.2.2.1<=v19)then v21 ((),true,())else if 0<=v17.2.1 then(match v2.1.2.2.2[(v17.2.1).toNat]? with|some v22=>bif decide (v22<0)then v21 ((),true,())else if 0<=v17.2.1 then(match v2.1.2.2.2[(v17.2.1).toNat]? with|some v23=>v21 ((),decide (12<v23),())|none=>none)else none|none=>none)else none)|none=>none)else none else some ((0,()),())) v1 ((),0,())) v1 ((),0,())) (λv24=>bif decide ((v2.1.1.length:Int)=0)then v24 ((),true,())else bif !(decide ((v2.1.2.1.length:Int)=(v2.1.1.length:Int)))then v24 ((),true,())else v24 ((),!(decide ((v2.1.2.2.2.length:Int)=(v2.1.2.2.1.length:Int))),()))
def F22(n:Nat):Fb 22:=fb n [⟨_,F56 n⟩] [] [] [] Tryz.func22 Tryz.results22 Tryz.ntmps22 (.seq (.reg none [3]) (.seq (.seq (.reg (some ⟨[],[.val 34 y4],[1,2,3]⟩) []) .nop) (.seq (.seq .nop (.block none (.loop ⟨[],[.val 38 y2],[1,2,3,36,37]⟩ (.seq .nop (.seq .nop (.seq (.block none (.seq .nop (.seq (.seq (.reg (some ⟨[],[.val 63 y4],[1,2,3,7,36,37,38]⟩) []) .nop) (.seq .nop (.block none (.loop ⟨[],[.val 70 y2],[1,2,3,36,37,38,68,69]⟩ (.seq .nop (.seq .nop (.seq (.block none (.seq .nop (.seq (.reg (some ⟨[],[.val 82 y4],[1,2,3,36,37,38,68,69,70]⟩) []) .nop))) .nop))))))))) .nop)))))) (.seq (.seq .nop (.block none (.loop ⟨[],[.val 88 y2],[2,3,86,87]⟩ (.seq .nop (.seq .nop (.seq (.block none (.seq .nop (.seq (.reg (some ⟨[],[.val 115 y4],[2,3,86,87,88]⟩) []) .nop))) .nop)))))) .nop)))) A2 A17 [] [] (p22 n)
def p6(v1:Nat)(v2:T85):T15:=ah (p17 v1 ()) (λ(v3:T8)=>bif !v3.1.1 then some ((false,()),())else ah (p23 v1 (v2.1,())) (λ(v4:T8)=>bif !v4.1.1 then some ((true,()),())else ah (p25 v1 (v2.1,())) (λ(v5:((((List (List (Int×Int)))×(List (List Int))×(List Int)×(List Int))×Unit)×Unit))=>ah (p24 v1 (v5.1.1,v2.2.1,v2.2.2.1,())) (λ(v6:T8)=>ah (p22 v1 (v2.1,v2.2.1,v2.2.2.1,())) (λ(v7:T7)=>aq (λ(v8:T5)=>some ((v8.2.1,()),())) (λv9=>bif(decide (v7.1.1=0)) == v6.1.1 then bif v6.1.1 then v9 ((),true,())else v9 ((),decide (v7.1.1=23),())else v9 ((),false,())))))))
def F6(n:Nat):Fb 6:=fb n [⟨_,F17 n⟩,⟨_,F23 n⟩,⟨_,F25 n⟩,⟨_,F24 n⟩,⟨_,F22 n⟩] [15] [] [] Tryz.func6 Tryz.results6 Tryz.ntmps6 (.seq (.reg none [3]) (.seq .nop (.seq .nop (.seq .nop (.seq .nop (.seq (.reg (some ⟨[],[.val 6 y4],[]⟩) []) .nop)))))) A2 A16 [] [] (p6 n)
abbrev ok6(n:Nat):=(F6 n).o
end
noncomputable section
theorem ew{A R:Type}(body:A->(A->Option R)->Option R)(n:Nat)(x:A):aA body (n+1) x=body x (aA body n):=rfl
theorem nA{A R:Type}{body:A->(A->Option R)->Option R}(f:Nat->A)(spec:Nat->Option R)(len:Nat)
 (step:∀ j,j<=len->∀ k,(j<len->k (f (j+1))=spec (j+1))->body (f j) k=spec j):∀ n j,j<=len->len-j<n->aA body n (f j)=spec j:=by
 intro n
 induction n with
 |zero=>intro j _ h;omega
 |succ n ih=>
  intro j hj hn
  rw[ew]
  exact step j hj _ (λhlt=>ih (j+1) hlt (by omega))
theorem du{α A R:Type}{body:A->(A->Option R)->Option R}(l:List α)(ok:α->Bool)(bad after:Option R)(f:Nat->A)
 (step:∀ j,(h:j<l.length)->∀ k,body (f j) k=if ok l[j]=true then k (f (j+1))else bad) (fin:∀ k,body (f l.length) k=after) (n:Nat) (hn:l.length<n):aA body n (f 0)=if l.all ok=true then after else bad:=by
 have:=nA (body:=body) f (λj=>if(l.drop j).all ok=true then after else bad) l.length (λj hj k hk=>by
  rcases av j l.length with hi|hi
  ·rw[step j hi,hk hi,dB hi,List.all_cons]
   cases ok l[j] <;> simp
  ·have e:j=l.length:=by omega
   rw[e,fin];simp) n 0 (bT _) (by omega)
 rwa [da]at this
theorem ba{A R:Type}{body:A->(A->Option R)->Option R}(I:Nat->A->Option R->Prop)
 (step:∀ m x r,I m x r->∀ k,(∀ m' y r',m' < m->I m' y r'->k y=r')->body x k=r):∀ n m x r,m<n->I m x r->aA body n x=r:=by
 intro n
 induction n with
 |zero=>intro m x r h;omega
 |succ n ih=>
  intro m x r h hi
  rw[ew]
  exact step m x r hi _ (λm' y r' hm hi'=>ih m' y r' (by omega) hi')
def N0:Nat:=18446744073709551616
theorem pA{n:Nat}(h:n<=maxLen):n+1<N0:=by unfold maxLen at h;unfold N0;omega
theorem bI{n:Int}(h1:-9223372036854775808<=n)(h2:n<=9223372036854775807):IntKind.wrap .i64 n=n:=iA ⟨h1,h2⟩
theorem bg{j n:Nat}(h:j<n)(hn:n<=maxLen):IntKind.wrap .i64 ((j:Int)+1)=((j+1:Nat):Int):=by
 unfold maxLen at hn
 rw[bI (by omega) (by omega)];simp
@[simp] theorem bA {A R:Type} (J:A->Option R) (body:(A->Option R)->Option R):aq J body=body J:=rfl
@[simp] theorem bL {A R:Type} (a:A) (k:A->Option R):ah (some a) k=k a:=rfl
theorem aa{A R:Type}{o:Option A}{a:A}(h:o=some a)(k:A->Option R):ah o k=k a:=by rw[h];rfl
theorem qV{α:Type}(c:Bool)(a b:α):(bif c then a else b)=if c=true then a else b:=by cases c <;> rfl
end
noncomputable section
theorem tS:∀ (n:Nat) (l:List Nat),l.Nodup->(∀ x∈l,x<n)->l.length<=n:=by
 intro n
 induction n with
 |zero=>
  intro l _ h
  cases l with
  |nil=>simp
  |cons x xs=>have:=h x (by simp);omega
 |succ n ih=>
  intro l hn h
  by_cases hm:n∈l
  ·have h1:(l.erase n).length<=n:=by
    refine ih _ (hn.erase n) (λx hx=>?_)
    have hx1:x∈l:=List.mem_of_mem_erase hx
    have hx2:x≠n:=by
     rintro rfl
     exact(List.Nodup.not_mem_erase hn) hx
    have:=h x hx1
    omega
   rw[List.length_erase_of_mem hm]at h1
   omega
  ·refine Nat.le_succ_of_le (ih l hn (λx hx=>?_))
   have:=h x hx
   have hne:x≠n:=by rintro rfl;exact hm hx
   omega
theorem tT{α:Type}(R:α->Nat->Prop)(hf:∀ x y c,R x c->R y c->x=y)(n:Nat)(l:List α)(hn:l.Nodup)(h:∀ x∈l,∃ c,c<n/\R x c):l.length<=n:=by
 have key:∀ l:List α,l.Nodup->(∀ x∈l,∃ c,c<n/\R x c)->∃ cs:List Nat,cs.length=l.length/\cs.Nodup/\∀ c∈cs,c<n/\∃ x∈l,R x c:=by
  intro l
  induction l with
  |nil=>intro _ _;exact⟨[],rfl,List.nodup_nil,λc hc=>by simp at hc⟩
  |cons x xs ih=>
   intro hn h
   obtain⟨h1,h2⟩:=List.nodup_cons.1 hn
   obtain⟨cs,e1,e2,e3⟩:=ih h2 (λy hy=>h y (by simp[hy]))
   obtain⟨c,hc,hr⟩:=h x (by simp)
   refine⟨c::cs,by simp[e1],List.nodup_cons.2 ⟨λhm=>?_,e2⟩,λd hd=>?_⟩
   ·obtain⟨_,y,hy,hry⟩:=e3 c hm
    exact h1 (hf x y c hr hry ▸ hy)
   ·rcases aH.1 hd with rfl|hd
    ·exact⟨hc,x,by simp,hr⟩
    ·obtain⟨q1,y,hy,q2⟩:=e3 d hd
     exact⟨q1,y,by simp[hy],q2⟩
 obtain⟨cs,e1,e2,e3⟩:=key l hn h
 rw[<-e1]
 exact tS n cs e2 (λc hc=>(e3 c hc).1)
def dg:List Bool->Nat
 |[]=>0
 |b::r=>(if b then 1 else 0)+2*dg r
theorem jU:∀ (l:List Bool),dg l<2 ^ l.length:=by
 intro l
 induction l with
 |nil=>simp[dg]
 |cons b r ih=>
  simp only[dg,bU,lO]
  split <;> omega
theorem l7:∀ (l m:List Bool),l.length=m.length->dg l=dg m->l=m:=by
 intro l
 induction l with
 |nil=>intro m hl _;cases m with
  |nil=>rfl
  |cons _ _=>simp at hl
 |cons b r ih=>
  intro m hl h
  cases m with
  |nil=>simp at hl
  |cons c s=>
   simp only[dg]at h
   have hbc:b=c:=by cases b <;> cases c <;> simp at h |- <;> omega
   subst hbc
   rw[ih s (by simpa using hl) (by omega)]
end
noncomputable section
inductive Rx where
 |eps
 |set (S:List Int)
 |cat (a b:Rx)
 |alt (a b:Rx)
 |rep (k:Int) (a:Rx)
abbrev Pc:=Int×List Int
def zS:List Int:=[0,0,0,0]
def Rx.post:Rx->List Pc
 |.eps=>[(0,zS)]
 |.set S=>[(1,S)]
 |.cat a b=>a.post++b.post++[(2,zS)]
 |.alt a b=>a.post++b.post++[(3,zS)]
 |.rep k a=>a.post++[(k,zS)]
def Rx.len:Rx->Nat
 |.eps=>1
 |.set _=>1
 |.cat a b=>a.len+b.len+1
 |.alt a b=>a.len+b.len+1
 |.rep _ a=>a.len+1
def Rx.null:Rx->Bool
 |.eps=>true
 |.set _=>false
 |.cat a b=>a.null&&b.null
 |.alt a b=>a.null||b.null
 |.rep k a=>!decide (k=5)||a.null
def Rx.ok:Rx->Prop
 |.eps=>True
 |.set S=>S.length=4/\S≠zS/\∀ x∈S,0<=x/\x<=18446744073709551615
 |.cat a b=>a.ok/\b.ok
 |.alt a b=>a.ok/\b.ok
 |.rep k a=>(k=4\/k=5\/k=6)/\a.ok
theorem Rx.bu:∀ t:Rx,0<t.len:=by intro t;cases t <;> simp[Rx.len]
theorem Rx.aN:∀ t:Rx,t.post.length=t.len:=by
 intro t
 induction t with
 |eps=>rfl
 |set S=>rfl
 |cat a b iha ihb=>simp[Rx.post,Rx.len,iha,ihb];omega
 |alt a b iha ihb=>simp[Rx.post,Rx.len,iha,ihb];omega
 |rep k a ih=>simp[Rx.post,Rx.len,ih]
abbrev Ed:=Nat×Nat×List Int×Bool
def fE(p q:Nat):Ed:=(p,q,zS,true)
def Rx.fst(t:Rx)(n:Nat):Nat:=n+2*t.len-2
def Rx.lst(t:Rx)(n:Nat):Nat:=n+2*t.len-1
def Rx.ap:Rx->Nat->List Ed
 |.eps,n=>[fE n (n+1)]
 |.set S,n=>[(n,n+1,S,false)]
 |.cat a b,n=>a.ap n++b.ap (n+2*a.len)++[fE (n+2*(a.len+b.len)) (a.fst n),fE (a.lst n) (b.fst (n+2*a.len)),fE (b.lst (n+2*a.len)) (n+2*(a.len+b.len)+1)]
 |.alt a b,n=>a.ap n++b.ap (n+2*a.len)++[fE (n+2*(a.len+b.len)) (a.fst n),fE (a.lst n) (n+2*(a.len+b.len)+1),fE (n+2*(a.len+b.len)) (b.fst (n+2*a.len)),fE (b.lst (n+2*a.len)) (n+2*(a.len+b.len)+1)]
 |.rep k a,n=>a.ap n++[fE (n+2*a.len) (a.fst n),fE (a.lst n) (n+2*a.len+1)]++(if k=6 then []else [fE (a.lst n) (a.fst n)])++(if k=5 then []else [fE (n+2*a.len) (n+2*a.len+1)])
theorem Rx.dj:∀ (t:Rx) (n:Nat),∀ e∈t.ap n,n<=e.1/\e.1<n+2*t.len/\n<=e.2.1/\e.2.1<n+2*t.len:=by
 intro t
 induction t with
 |eps=>intro n e he;simp[Rx.ap,fE]at he;subst he;simp[Rx.len]
 |set S=>intro n e he;simp[Rx.ap]at he;subst he;simp[Rx.len]
 |cat a b iha ihb=>
  intro n e he
  have ha:=a.bu
  have hb:=b.bu
  simp only[Rx.ap,aC,aH,bP,or_false]at he
  simp only[Rx.len]
  rcases he with(he|he)|he|he|he
  ·have:=iha n e he;omega
  ·have:=ihb _ e he;omega
  all_goals (subst he;simp only[fE,Rx.fst,Rx.lst];omega)
 |alt a b iha ihb=>
  intro n e he
  have ha:=a.bu
  have hb:=b.bu
  simp only[Rx.ap,aC,aH,bP,or_false]at he
  simp only[Rx.len]
  rcases he with(he|he)|he|he|he|he
  ·have:=iha n e he;omega
  ·have:=ihb _ e he;omega
  all_goals (subst he;simp only[fE,Rx.fst,Rx.lst];omega)
 |rep k a ih=>
  intro n e he
  have ha:=a.bu
  simp only[Rx.ap,aC,aH,bP,or_false]at he
  simp only[Rx.len]
  rcases he with((he|he|he)|he)|he
  ·have:=ih n e he;omega
  ·subst he;simp only[fE,Rx.fst,Rx.lst];omega
  ·subst he;simp only[fE,Rx.fst,Rx.lst];omega
  ·split at he
   ·simp at he
   ·simp only[eV]at he;subst he;simp only[fE,Rx.fst,Rx.lst];omega
  ·split at he
   ·simp at he
   ·simp only[eV]at he;subst he;simp only[fE,Rx.fst,Rx.lst];omega
def Rx.cl:Rx->Nat->Nat->Bool
 |.eps,n,q=>decide (q=n)||decide (q=n+1)
 |.set _,n,q=>decide (q=n)
 |.cat a b,n,q=>decide (q=n+2*(a.len+b.len))||a.cl n q||(a.null&&b.cl (n+2*a.len) q)||(a.null&&b.null&&decide (q=n+2*(a.len+b.len)+1))
 |.alt a b,n,q=>decide (q=n+2*(a.len+b.len))||a.cl n q||b.cl (n+2*a.len) q||((a.null||b.null)&&decide (q=n+2*(a.len+b.len)+1))
 |.rep k a,n,q=>decide (q=n+2*a.len)||a.cl n q||((!decide (k=5)||a.null)&&decide (q=n+2*a.len+1))
theorem Rx.pB:∀ (t:Rx) (n q:Nat),t.cl n q=true->n<=q/\q<n+2*t.len:=by
 intro t
 induction t with
 |eps=>intro n q h;simp only[Rx.cl,aR,decide_eq_true_eq]at h;simp only[Rx.len];omega
 |set S=>intro n q h;simp only[Rx.cl,decide_eq_true_eq]at h;simp only[Rx.len];omega
 |cat a b iha ihb=>
  intro n q h
  simp only[Rx.cl,aR,ag,decide_eq_true_eq]at h
  simp only[Rx.len]
  rcases h with((h|h)|h)|h
  ·omega
  ·have:=iha n q h;omega
  ·have:=ihb _ q h.2;omega
  ·omega
 |alt a b iha ihb=>
  intro n q h
  simp only[Rx.cl,aR,ag,decide_eq_true_eq]at h
  simp only[Rx.len]
  rcases h with((h|h)|h)|h
  ·omega
  ·have:=iha n q h;omega
  ·have:=ihb _ q h;omega
  ·omega
 |rep k a ih=>
  intro n q h
  simp only[Rx.cl,aR,ag,decide_eq_true_eq]at h
  simp only[Rx.len]
  rcases h with(h|h)|h
  ·omega
  ·have:=ih n q h;omega
  ·omega
theorem Rx.qW(t:Rx){n q:Nat}(h:q<n\/n+2*t.len<=q):t.cl n q=false:=by
 cases hc:t.cl n q
 ·rfl
 ·have:=t.pB n q hc;omega
theorem Rx.lv:∀ (t:Rx) (n:Nat),t.cl n (t.fst n)=true:=by
 intro t n
 have:=t.bu
 cases t with
 |eps=>simp[Rx.cl,Rx.fst,Rx.len]
 |set S=>simp[Rx.cl,Rx.fst,Rx.len]
 |cat a b=>
  have e:(Rx.cat a b).fst n=n+2*(a.len+b.len):=by simp only[Rx.fst,Rx.len];omega
  rw[e];simp[Rx.cl]
 |alt a b=>
  have e:(Rx.alt a b).fst n=n+2*(a.len+b.len):=by simp only[Rx.fst,Rx.len];omega
  rw[e];simp[Rx.cl]
 |rep k a=>
  have e:(Rx.rep k a).fst n=n+2*a.len:=by simp only[Rx.fst,Rx.len];omega
  rw[e];simp[Rx.cl]
theorem Rx.oV:∀ (t:Rx) (n:Nat),t.cl n (t.lst n)=t.null:=by
 intro t n
 have:=t.bu
 cases t with
 |eps=>simp[Rx.cl,Rx.lst,Rx.len,Rx.null]
 |set S=>simp[Rx.cl,Rx.lst,Rx.len,Rx.null]
 |cat a b=>
  have e:(Rx.cat a b).lst n=n+2*(a.len+b.len)+1:=by simp only[Rx.lst,Rx.len];omega
  rw[e]
  simp only[Rx.cl,a.qW (n:=n) (q:=n+2*(a.len+b.len)+1) (by omega),b.qW (n:=n+2*a.len) (q:=n+2*(a.len+b.len)+1) (by omega),Rx.null]
  simp
 |alt a b=>
  have e:(Rx.alt a b).lst n=n+2*(a.len+b.len)+1:=by simp only[Rx.lst,Rx.len];omega
  rw[e]
  simp only[Rx.cl,a.qW (n:=n) (q:=n+2*(a.len+b.len)+1) (by omega),b.qW (n:=n+2*a.len) (q:=n+2*(a.len+b.len)+1) (by omega),Rx.null]
  simp
 |rep k a=>
  have e:(Rx.rep k a).lst n=n+2*a.len+1:=by simp only[Rx.lst,Rx.len];omega
  rw[e]
  simp only[Rx.cl,a.qW (n:=n) (q:=n+2*a.len+1) (by omega),Rx.null]
  simp
theorem Rx.mM(t:Rx)(n:Nat):n<=t.fst n/\t.fst n<n+2*t.len:=by have:=t.bu;simp only[Rx.fst];omega
theorem Rx.jk(t:Rx)(n:Nat):n<=t.lst n/\t.lst n<n+2*t.len:=by have:=t.bu;simp only[Rx.lst];omega
theorem Rx.yG:∀ (t:Rx) (n:Nat),∀ e∈t.ap n,e.2.2.2=true->t.cl n e.1=true->t.cl n e.2.1=true:=by
 intro t
 induction t with
 |eps=>intro n e he _ h;simp[Rx.ap,fE]at he;subst he;simp[Rx.cl]
 |set S=>intro n e he hf h;simp[Rx.ap]at he;subst he;cases hf
 |cat a b iha ihb=>
  intro n e he hf h
  have ha:=a.bu
  have hb:=b.bu
  simp only[Rx.ap,aC,aH,bP,or_false]at he
  simp only[Rx.cl,aR,ag,decide_eq_true_eq]at h |-
  rcases he with(he|he)|he|he|he
  ·have hr:=a.dj n e he
   have:a.cl n e.1=true:=by
    rcases h with((h|h)|h)|h
    ·omega
    ·exact h
    ·have:=b.pB _ _ h.2;omega
    ·omega
   exact .inl (.inl (.inr (iha n e he hf this)))
  ·have hr:=b.dj _ e he
   have:a.null=true/\b.cl (n+2*a.len) e.1=true:=by
    rcases h with((h|h)|h)|h
    ·omega
    ·have:=a.pB _ _ h;omega
    ·exact h
    ·omega
   exact .inl (.inr ⟨this.1,ihb _ e he hf this.2⟩)
  ·subst he;exact .inl (.inl (.inr (a.lv n)))
  ·subst he
   simp only[fE]at h |-
   have hi:=a.jk n
   have:a.null=true:=by
    rcases h with((h|h)|h)|h
    ·omega
    ·rw[a.oV]at h;exact h
    ·exact h.1
    ·omega
   exact .inl (.inr ⟨this,b.lv _⟩)
  ·subst he
   simp only[fE]at h |-
   have hi:=b.jk (n+2*a.len)
   have:a.null=true/\b.null=true:=by
    rcases h with((h|h)|h)|h
    ·omega
    ·have:=a.pB _ _ h;omega
    ·rw[b.oV]at h;exact h
    ·exact h.1
   exact .inr ⟨this,trivial⟩
 |alt a b iha ihb=>
  intro n e he hf h
  have ha:=a.bu
  have hb:=b.bu
  simp only[Rx.ap,aC,aH,bP,or_false]at he
  simp only[Rx.cl,aR,ag,decide_eq_true_eq]at h |-
  rcases he with(he|he)|he|he|he|he
  ·have hr:=a.dj n e he
   have:a.cl n e.1=true:=by
    rcases h with((h|h)|h)|h
    ·omega
    ·exact h
    ·have:=b.pB _ _ h;omega
    ·omega
   exact .inl (.inl (.inr (iha n e he hf this)))
  ·have hr:=b.dj _ e he
   have:b.cl (n+2*a.len) e.1=true:=by
    rcases h with((h|h)|h)|h
    ·omega
    ·have:=a.pB _ _ h;omega
    ·exact h
    ·omega
   exact .inl (.inr (ihb _ e he hf this))
  ·subst he;exact .inl (.inl (.inr (a.lv n)))
  ·subst he
   simp only[fE]at h |-
   have hi:=a.jk n
   have:a.null=true:=by
    rcases h with((h|h)|h)|h
    ·omega
    ·rw[a.oV]at h;exact h
    ·have:=b.pB _ _ h;omega
    ·omega
   exact .inr ⟨.inl this,trivial⟩
  ·subst he;exact .inl (.inr (b.lv _))
  ·subst he
   simp only[fE]at h |-
   have hi:=b.jk (n+2*a.len)
   have:b.null=true:=by
    rcases h with((h|h)|h)|h
    ·omega
    ·have:=a.pB _ _ h;omega
    ·rw[b.oV]at h;exact h
    ·omega
   exact .inr ⟨.inr this,trivial⟩
 |rep k a ih=>
  intro n e he hf h
  have ha:=a.bu
  simp only[Rx.ap,aC,aH,bP,or_false]at he
  simp only[Rx.cl,aR,ag,bq,decide_eq_true_eq,decide_eq_false_iff_not]at h |-
  have hi:=a.jk n
  have hj:=a.mM n
  rcases he with((he|he|he)|he)|he
  ·have hr:=a.dj n e he
   have:a.cl n e.1=true:=by
    rcases h with(h|h)|h
    ·omega
    ·exact h
    ·omega
   exact .inl (.inr (ih n e he hf this))
  ·subst he;exact .inl (.inr (a.lv n))
  ·subst he
   simp only[fE]at h |-
   have:a.null=true:=by
    rcases h with(h|h)|h
    ·omega
    ·rw[a.oV]at h;exact h
    ·omega
   exact .inr ⟨.inr this,trivial⟩
  ·split at he
   ·simp at he
   ·simp only[eV]at he;subst he;exact .inl (.inr (a.lv n))
  ·split at he
   ·simp at he
   ·rename_i h5
    simp only[eV]at he;subst he
    exact .inr ⟨.inl h5,rfl⟩
inductive Fr0(E:List Ed):Nat->Nat->Prop where
 |refl (p:Nat):Fr0 E p p
 |step {p q r:Nat}:Fr0 E p q->(q,r,zS,true)∈E->Fr0 E p r
theorem Fr0.mono{E E':List Ed}(h:∀ e∈E,e∈E'){p q:Nat}(hp:Fr0 E p q):Fr0 E' p q:=by
 induction hp with
 |refl=>exact .refl _
 |step _ he ih=>exact .step ih (h _ he)
theorem Fr0.trans{E:List Ed}{p q r:Nat}(h1:Fr0 E p q)(h2:Fr0 E q r):Fr0 E p r:=by
 induction h2 with
 |refl=>exact h1
 |step _ he ih=>exact .step ih he
theorem Rx.Dn:∀ (t:Rx) (n:Nat),t.null=true->Fr0 (t.ap n) (t.fst n) (t.lst n):=by
 intro t
 induction t with
 |eps=>
  intro n _
  have e1:Rx.eps.fst n=n:=by simp[Rx.fst,Rx.len]
  have e2:Rx.eps.lst n=n+1:=by simp[Rx.lst,Rx.len]
  rw[e1,e2]
  exact .step (.refl _) (by simp[Rx.ap,fE])
 |set S=>intro n h;cases h
 |cat a b iha ihb=>
  intro n h
  simp only[Rx.null,ag]at h
  have e1:(Rx.cat a b).fst n=n+2*(a.len+b.len):=by simp only[Rx.fst,Rx.len];omega
  have e2:(Rx.cat a b).lst n=n+2*(a.len+b.len)+1:=by simp only[Rx.lst,Rx.len];omega
  rw[e1,e2]
  have w1:Fr0 ((Rx.cat a b).ap n) (n+2*(a.len+b.len)) (a.fst n):=.step (.refl _) (by simp[Rx.ap,fE])
  have w2:=(iha n h.1).mono (E':=(Rx.cat a b).ap n) (λe he=>by simp only[Rx.ap,aC];exact .inl (.inl he))
  have w3:=(ihb (n+2*a.len) h.2).mono (E':=(Rx.cat a b).ap n) (λe he=>by simp only[Rx.ap,aC];exact .inl (.inr he))
  exact .step ((Fr0.step (w1.trans w2) (by simp[Rx.ap,fE])).trans w3) (by simp[Rx.ap,fE])
 |alt a b iha ihb=>
  intro n h
  simp only[Rx.null,aR]at h
  have e1:(Rx.alt a b).fst n=n+2*(a.len+b.len):=by simp only[Rx.fst,Rx.len];omega
  have e2:(Rx.alt a b).lst n=n+2*(a.len+b.len)+1:=by simp only[Rx.lst,Rx.len];omega
  rw[e1,e2]
  rcases h with h|h
  ·have w1:Fr0 ((Rx.alt a b).ap n) (n+2*(a.len+b.len)) (a.fst n):=.step (.refl _) (by simp[Rx.ap,fE])
   have w2:=(iha n h).mono (E':=(Rx.alt a b).ap n) (λe he=>by simp only[Rx.ap,aC];exact .inl (.inl he))
   exact .step (w1.trans w2) (by simp[Rx.ap,fE])
  ·have w1:Fr0 ((Rx.alt a b).ap n) (n+2*(a.len+b.len)) (b.fst (n+2*a.len)):=.step (.refl _) (by simp[Rx.ap,fE])
   have w2:=(ihb _ h).mono (E':=(Rx.alt a b).ap n) (λe he=>by simp only[Rx.ap,aC];exact .inl (.inr he))
   exact .step (w1.trans w2) (by simp[Rx.ap,fE])
 |rep k a ih=>
  intro n h
  have e1:(Rx.rep k a).fst n=n+2*a.len:=by simp only[Rx.fst,Rx.len];omega
  have e2:(Rx.rep k a).lst n=n+2*a.len+1:=by simp only[Rx.lst,Rx.len];omega
  rw[e1,e2]
  by_cases h5:k=5
  ·simp only[Rx.null,h5,decide_true,az,cR]at h
   have w1:Fr0 ((Rx.rep k a).ap n) (n+2*a.len) (a.fst n):=.step (.refl _) (by simp[Rx.ap,fE])
   have w2:=(ih n h).mono (E':=(Rx.rep k a).ap n) (λe he=>by simp only[Rx.ap,aC];exact .inl (.inl (.inl he)))
   exact .step (w1.trans w2) (by simp[Rx.ap,fE])
  ·exact .step (.refl _) (by simp[Rx.ap,fE,h5])
end
noncomputable section
def nB(c:Int):Option Int:=if 48<=c/\c<=57 then some (c-48)else if 97<=c/\c<=102 then some (c-87)else none
def kE(c:Int):Bool:=(decide (48<=c)&&decide (c<=57))||(decide (97<=c)&&decide (c<=122))||(decide (65<=c)&&decide (c<=90))
def rdS:List Int->Option (Int×Nat)
 |[]=>none
 |c::r=>if c≠92 then some (c,1)else match r with
  |[]=>none
  |d::r2=>if d=110 then some (10,2)else if d=116 then some (9,2)else if d=114 then some (13,2)else
   if d=120 then(match r2 with
    |h::l::_=>(match nB h,nB l with
     |some a,some b=>some (16*a+b,4)
     |_,_=>none)
    |_=>none)
   else if kE d=true\/d<32\/126<d then none else some (d,2)
def kF(l:Nat->Bool):Nat->Nat
 |0=>0
 |n+1=>(if l n then 2 ^ n else 0)+kF l n
theorem sr(l:Nat->Bool)(w:Nat):∃ n,n=kF (λi=>l (64*w+i)) 64:=⟨_,rfl⟩
def a8(l:Nat->Bool)(w:Nat):Nat:=Classical.choose (sr l w)
theorem kw(l:Nat->Bool)(w:Nat):a8 l w=kF (λi=>l (64*w+i)) 64:=Classical.choose_spec (sr l w)
def ofB(l:Nat->Bool):List Int:=[(a8 l 0:Nat),(a8 l 1:Nat),(a8 l 2:Nat),(a8 l 3:Nat)]
def oW(c:Int):Nat->Bool:=λi=>decide (c=(i:Int))
def qX(a b:Int):Nat->Bool:=λi=>decide (a<=(i:Int))&&decide ((i:Int)<=b)
def dy(l:Nat->Bool):Bool:=(List.range 256).all λi=>!l i
def ch(s:List Int)(at_:Nat):Int:=(s[at_]?).getD (-1)
def brL(s:List Int):Nat->Nat->(Nat->Bool)->Option ((Nat->Bool)×Nat)
 |0,_,_=>none
 |m+1,i,l=>if s.length<=i\/ch s i=93 then some (l,i)else
  if ch s i∈[94,45,47,34]then none else match rdS (s.drop i)with
   |none=>none
   |some (a,n)=>if i+n<s.length/\ch s (i+n)=45 then
    (if s.length<=i+n+1\/ch s (i+n+1)∈[93,94,45,47,34]then none else match rdS (s.drop (i+n+1))with
     |none=>none
     |some (b,n2)=>if b<a then none else brL s m (i+n+1+n2) λx=>l x||qX a b x)
    else brL s m (i+n) λx=>l x||qX a a x
def brS(s:List Int)(i:Nat):Option (Rx×Nat):=
 let nt:=decide (i<s.length)&&decide (ch s i=94)
 match brL s s.length.succ (if nt then i+1 else i) (λ_=>false)with
 |none=>none
 |some (l,j)=>
  let l':=if nt then λx=>!l x else l
  if s.length<=j\/dy l'=true then none else some (.set (ofB l'),j+1)
def kK(inner:Nat->Nat->Option (Rx×Nat))(s:List Int)(i d:Nat):Option (Rx×Nat):=
 if s.length<=i\/ch s i∈[124,41,42,43,63,93,47,34]then none
 else if ch s i=46 then some (.set (ofB λ_=>true),i+1)
 else if ch s i=126 then some (.eps,i+1)
 else if ch s i=91 then brS s (i+1)
 else if ch s i=40 then(if 99<=d then none else match inner (i+1) (d+1)with
  |none=>none
  |some (t,j)=>if j<s.length/\ch s j=41 then some (t,j+1)else none)
 else match rdS (s.drop i)with
  |none=>none
  |some (c,n)=>some (.set (ofB (oW c)),i+n)
def gC(c:Int):Int:=if c=42 then 4 else if c=43 then 5 else 6
def oX(s:List Int):Nat->Nat->Rx->Option (Rx×Nat)
 |0,_,_=>none
 |m+1,i,t=>if i<s.length/\ch s i∈[42,43,63]then oX s m (i+1) (.rep (gC (ch s i)) t)else some (t,i)
def jl(inner:Nat->Nat->Option (Rx×Nat))(s:List Int)(i d:Nat):Option (Rx×Nat):=
 match kK inner s i d with
 |none=>none
 |some (t,j)=>oX s s.length.succ j t
def pM(inner:Nat->Nat->Option (Rx×Nat))(s:List Int)(d:Nat):Nat->Nat->Rx->Option (Rx×Nat)
 |0,_,_=>none
 |m+1,i,t=>if i<s.length/\ch s i∉[124,41]then(match jl inner s i d with
  |none=>none
  |some (t2,j)=>pM inner s d m j (.cat t t2))else some (t,i)
def jV(inner:Nat->Nat->Option (Rx×Nat))(s:List Int)(i d:Nat):Option (Rx×Nat):=
 match jl inner s i d with
 |none=>none
 |some (t,j)=>pM inner s d s.length.succ j t
def pN(inner:Nat->Nat->Option (Rx×Nat))(s:List Int)(d:Nat):Nat->Nat->Rx->Option (Rx×Nat)
 |0,_,_=>none
 |m+1,i,t=>if i<s.length/\ch s i=124 then(match jV inner s (i+1) d with
  |none=>none
  |some (t2,j)=>pN inner s d m j (.alt t t2))else some (t,i)
def xN(inner:Nat->Nat->Option (Rx×Nat))(s:List Int)(i d:Nat):Option (Rx×Nat):=
 match jV inner s i d with
 |none=>none
 |some (t,j)=>pN inner s d s.length.succ j t
def iV(s:List Int):Nat->Nat->Nat->Option (Rx×Nat)
 |0,_,_=>none
 |n+1,i,d=>xN (iV s n) s i d
def fk(s:List Int):Except Int Rx:=
 if 1600<s.length then .error 6 else match iV s s.length.succ 0 0 with
  |none=>.error 5
  |some (t,i)=>if i<s.length then .error 5 else if 400<t.len then .error 6 else .ok t
end
noncomputable section
theorem qY(l:Nat->Bool):∀ n,kF l n<2 ^ n:=by
 intro n
 induction n with
 |zero=>simp[kF]
 |succ n ih=>simp only[kF,lO];split <;> omega
theorem sw(l:Nat->Bool):∀ n i,(kF l n).testBit i=(decide (i<n)&&l i):=by
 intro n
 induction n with
 |zero=>intro i;simp[kF]
 |succ n ih=>
  intro i
  have hlt:=qY l n
  simp only[kF]
  by_cases hl:l n=true
  ·rw[if_pos hl]
   rcases Nat.lt_trichotomy i n with h|h|h
   ·rw[Nat.testBit_two_pow_add_gt h,ih]
    simp[h,oj h]
   ·subst h
    rw[Nat.testBit_two_pow_add_eq,n9 hlt]
    simp[hl]
   ·rw[n9 (bc (show 2 ^ n+kF l n<2 ^ (n+1) by rw[lO];omega) (oc (by omega) h))]
    have:¬i<n+1:=by omega
    simp[this]
  ·rw[if_neg hl,dF,ih]
   have hl:l n=false:=by simpa using hl
   by_cases h:i=n
   ·subst h;simp[hl]
   ·have:(i<n)↔(i<n+1):=by omega
    simp[this]
theorem dn(l:Nat->Bool)(w:Nat):a8 l w<18446744073709551616:=by rw[kw];exact qY _ 64
theorem cT(l:Nat->Bool)(w i:Nat):(a8 l w).testBit i=(decide (i<64)&&l (64*w+i)):=by rw[kw];exact sw _ 64 i
theorem fD{l m:Nat->Bool}{w:Nat}(h:∀ i,i<64->l (64*w+i)=m (64*w+i)):a8 l w=a8 m w:=by
 apply ik
 intro i
 rw[cT,cT]
 by_cases hi:i<64
 ·rw[h i hi]
 ·simp[hi]
theorem l8{l:Nat->Bool}{w n:Nat}(h:∀ i,n.testBit i=(decide (i<64)&&l (64*w+i))):n=a8 l w:=by
 apply ik
 intro i
 rw[h,cT]
theorem gM{l m:Nat->Bool}(h:∀ i,i<256->l i=m i):ofB l=ofB m:=by
 unfold ofB
 rw[fD (w:=0) (λi hi=>h _ (by omega)),fD (w:=1) (λi hi=>h _ (by omega)),fD (w:=2) (λi hi=>h _ (by omega)),fD (w:=3) (λi hi=>h _ (by omega))]
theorem ib{l:Nat->Bool}{w:Nat}(h:w<4):(ofB l)[w]?=some ((a8 l w:Nat):Int):=by
 unfold ofB
 match w,h with
 |0,_=>rfl
 |1,_=>rfl
 |2,_=>rfl
 |3,_=>rfl
theorem Nu{a b c d n a' b' c' d':Int}{w:Nat}(h:w<4)(h0:if w=0 then a'=n else a'=a)(h1:if w=1 then b'=n else b'=b)(h2:if w=2 then c'=n else c'=c)(h3:if w=3 then d'=n else d'=d):[a,b,c,d].set w n=[a',b',c',d']:=by
 have:w=0\/w=1\/w=2\/w=3:=by omega
 rcases this with rfl|rfl|rfl|rfl <;> simp at h0 h1 h2 h3 <;> subst h0 h1 h2 h3 <;> rfl
theorem tU{l m:Nat->Bool}{w n:Nat}(h:w<4)(hn:n=a8 m w)(hm:∀ v i,v<4->v≠w->i<64->l (64*v+i)=m (64*v+i)):(ofB l).set w (n:Int)=ofB m:=by
 have key:∀ v,v<4->(if w=v then((a8 m v:Nat):Int)=(n:Int)else((a8 m v:Nat):Int)=((a8 l v:Nat):Int)):=by
  intro v hv
  split
  ·rename_i e;rw[hn,e]
  ·rename_i e
   rw[fD (l:=l) (m:=m) (w:=v) (λi hi=>hm v i hv (λe2=>e e2.symm) hi)]
 exact Nu h (key 0 (by omega)) (key 1 (by omega)) (key 2 (by omega)) (key 3 (by omega))
theorem I5(l:Nat->Bool):∀ x∈ofB l,0<=x/\x<=18446744073709551615:=by
 intro x hx
 simp only[ofB,aH,bP,or_false]at hx
 have h0:=dn l 0
 have h1:=dn l 1
 have h2:=dn l 2
 have h3:=dn l 3
 generalize a8 l 0=a0 at *
 generalize a8 l 1=a1 at *
 generalize a8 l 2=a2 at *
 generalize a8 l 3=a3 at *
 omega
theorem pC{l:Nat->Bool}{w:Nat}:a8 l w=0↔∀ i,i<64->l (64*w+i)=false:=by
 constructor
 ·intro h i hi
  have:=cT l w i
  rw[h]at this
  simpa [hi]using this.symm
 ·intro h
  apply ik
  intro i
  rw[cT]
  by_cases hi:i<64
  ·simp[h i hi]
  ·simp[hi]
theorem fW{l:Nat->Bool}:ofB l=zS↔dy l=true:=by
 unfold dy
 rw[cO]
 constructor
 ·intro h i hi
  have hi:=jA.1 hi
  simp only[ofB,zS,fK,and_true]at h
  have hw:∀ w,w<4->a8 l w=0:=by
   intro w hw
   match w,hw with
   |0,_=>omega
   |1,_=>omega
   |2,_=>omega
   |3,_=>omega
  have:=pC.1 (hw (i / 64) (by omega)) (i % 64) (by omega)
  rw[show 64*(i / 64)+i % 64=i by omega]at this
  simp[this]
 ·intro h
  have hz:∀ w,w<4->a8 l w=0:=λw hw=>pC.2 λi hi=>by
   have:=h (64*w+i) (jA.2 (by omega))
   simpa using this
  simp[ofB,zS,hz]
theorem oY{n:Nat}(h:n<18446744073709551616):(BitVec.ofInt (IntKind.bits .u64) (n:Int)).toNat=n:=by
 have:IntKind.bits .u64=64:=rfl
 rw[this,BitVec.toNat_ofInt]
 omega
theorem wrap_u64{n:Nat}(h:n<18446744073709551616):IntKind.wrap .u64 (n:Int)=n:=iA ⟨by simp[kLo],by simp[kHi];omega⟩
theorem Dp{a b:Nat}(ha:a<18446744073709551616)(hb:b<18446744073709551616):dL .or .u64 (a:Int) (b:Int)=((a|||b:Nat):Int):=by
 have hlt:a|||b<2 ^ 64:=Nat.or_lt_two_pow ha hb
 simp only[dL,BitVec.toNat_or,oY ha,oY hb]
 exact wrap_u64 hlt
theorem xO{a b:Nat}(ha:a<18446744073709551616)(hb:b<18446744073709551616):dL .andNot .u64 (a:Int) (b:Int)=((a&&& (18446744073709551615-b):Nat):Int):=by
 have hlt:a&&& (18446744073709551615-b)<2 ^ 64:=Nat.and_lt_two_pow _ (by omega)
 simp only[dL,BitVec.toNat_and,BitVec.toNat_not,oY ha,oY hb]
 exact wrap_u64 hlt
theorem wj{i:Nat}(h:i<64):2 ^ i<18446744073709551616:=bc (Nat.pow_lt_pow_right (by omega) h) (by decide)
theorem tV{i:Nat}(h:i<64):IntKind.wrap .u64 ((1:Int)*2 ^ (Nat.min (Int.toNat (i:Int)) (IntKind.bits .u64)))=((2 ^ i:Nat):Int):=by
 have e:Nat.min (Int.toNat (i:Int)) (IntKind.bits .u64)=i:=by
  rw[af];exact c7 (by show i<=64;omega)
 rw[e,Int.one_mul]
 have:=wrap_u64 (wj h)
 rw[<-this]
 congr 1
theorem Dq{l:Nat->Bool}{w i:Nat}(hi:i<64):a8 l w|||2 ^ i=a8 (λx=>l x||decide (x=64*w+i)) w:=by
 apply l8
 intro j
 rw[Nat.testBit_or,cT,Nat.testBit_two_pow]
 by_cases hj:j<64
 ·simp only[hj,decide_true,bK]
  congr 1
  rw[decide_eq_decide];omega
 ·simp only[hj,decide_false,dE,cR,decide_eq_false_iff_not];omega
theorem Gj{l m:Nat->Bool}{w:Nat}:a8 l w|||a8 m w=a8 (λx=>l x||m x) w:=by
 apply l8
 intro j
 rw[Nat.testBit_or,cT,cT]
 cases decide (j<64) <;> simp
theorem Dr{l:Nat->Bool}{w:Nat}:18446744073709551615&&& (18446744073709551615-a8 l w)=a8 (λx=>!l x) w:=by
 apply l8
 intro j
 have h:=dn l w
 rw[Nat.testBit_and,show(18446744073709551615:Nat)=2 ^ 64-1 by rfl,Nat.testBit_two_pow_sub_one,show 2 ^ 64-1-a8 l w=2 ^ 64-(a8 l w+1) by omega,Nat.testBit_two_pow_sub_succ h,cT]
 cases decide (j<64) <;> simp
end
noncomputable section
theorem Ds(i:Nat):Int.tdiv (i:Int) 64=((i / 64:Nat):Int):=by
 rw[show(64:Int)=((64:Nat):Int) by rfl];exact jB i 64 |>.symm
theorem Dt(i:Nat):Int.tmod (i:Int) 64=((i % 64:Nat):Int):=by
 rw[show(64:Int)=((64:Nat):Int) by rfl];exact lL i 64 |>.symm
theorem bo{n:Nat}(h:n<9223372036854775808):IntKind.wrap .i64 (n:Int)=n:=bI (by omega) (by omega)
theorem iO{n:Nat}(h:n<256):IntKind.wrap .u8 (n:Int)=n:=iA ⟨by simp[kLo],by simp[kHi];omega⟩
theorem yH{f:Nat->Bool}{i:Nat}(h:i<256):(ofB f).set (i / 64) (dL .or .u64 ((a8 f (i / 64):Nat):Int) ((2 ^ (i % 64):Nat):Int))=ofB (λx=>f x||decide (x=i)):=by
 have hi:i % 64<64:=dS _ (by omega)
 rw[Dp (dn _ _) (wj hi),Dq hi]
 have e:64*(i / 64)+i % 64=i:=by omega
 rw[e]
 refine tU (by omega) rfl (λv j hv hne hj=>?_)
 have:¬(64*v+j=i):=by omega
 simp[this]
theorem yI:FE N0 ()=some ((ofB (λ_=>true),()),()):=by
 have h:∀ w,a8 (λ_=>true) w=18446744073709551615:=λw=>by rw[kw];rfl
 have:ofB (λ_=>true)=[18446744073709551615,18446744073709551615,18446744073709551615,18446744073709551615]:=by unfold ofB;simp only[h];rfl
 rw[this]
 rfl
theorem Gk{a b:Int}(ha:0<=a/\a<=255)(hb:0<=b/\b<=255):CW N0 (a,(b,()))=some ((ofB (qX a b),()),()):=by
 unfold CW
 have wa:IntKind.wrap .i64 a=a:=bI (by omega) (by omega)
 have wb:IntKind.wrap .i64 b=b:=bI (by omega) (by omega)
 have z:([0,0,0,0]:List Int)=ofB (λx=>decide (a<=(x:Int))&&decide ((x:Int)<a)):=by
  rw[show([0,0,0,0]:List Int)=zS by rfl]
  refine(fW.2 ?_).symm
  unfold dy
  rw[cO]
  intro x _
  by_cases h:a<=(x:Int) <;> simp[h]
 simp only[wa,wb]
 refine ba (λm x r=>∃ i:Nat,x=(([0,0,0,0],(ofB (λx=>decide (a<=(x:Int))&&decide ((x:Int)<(i:Int))),())),((i:Int),()))/\m=(b+1-i).toNat/\a<=i/\i<=256/\(a<=b->(i:Int)<=b+1)/\(b<a->(i:Int)=a)/\r=some ((ofB (qX a b),()),())) ?_ N0 ((b+1-a).toNat) _ _ (by unfold N0;omega) ⟨a.toNat,by rw[cF ha.1,<-z],by rw[cF ha.1],by omega,by omega,by omega,by omega,rfl⟩
 rintro m x r ⟨i,rfl,hm,h1,h2,h3,h4,rfl⟩ k hk
 simp only
 by_cases hib:(i:Int)<=b
 ·have hi:i<256:=by omega
  have hw:i / 64<4:=by omega
  have hl:i % 64<64:=dS _ (by omega)
  have w1:IntKind.wrap .i64 (Int.tdiv (i:Int) 64)=((i / 64:Nat):Int):=by rw[Ds];exact bo (by omega)
  have w2:IntKind.wrap .u64 (Int.tmod (i:Int) 64)=((i % 64:Nat):Int):=by rw[Dt];exact wrap_u64 (by omega)
  have w3:IntKind.wrap .i64 ((i:Int)+1)=((i+1:Nat):Int):=by rw[<-bo (n:=i+1) (by omega)];rfl
  have g:(ofB (λx=>decide (a<=(x:Int))&&decide ((x:Int)<(i:Int))))[((i / 64:Nat):Int).toNat]?=some ((a8 (λx=>decide (a<=(x:Int))&&decide ((x:Int)<(i:Int))) (i / 64):Nat):Int):=by rw[af];exact ib hw
  have n1:¬((64:Int)=0):=by omega
  have n2:¬(((i % 64:Nat):Int)<0):=by omega
  have n3:(0:Int)<=((i / 64:Nat):Int):=by omega
  rw[decide_eq_true hib,cond_true,w1,w2,w3,if_neg n1,if_pos n3,g]
  simp only[if_neg n1,if_neg n2,if_pos n3,g,tV hl]
  refine hk _ _ _ (show(b+1-((i+1:Nat):Int)).toNat<m by omega) ⟨i+1,?_,rfl,by omega,by omega,by omega,by omega,rfl⟩
  rw[af,yH hi]
  have ef:ofB (λx=>(decide (a<=(x:Int))&&decide ((x:Int)<(i:Int)))||decide (x=i))=ofB (λx=>decide (a<=(x:Int))&&decide ((x:Int)<((i+1:Nat):Int))):=by
   refine gM (λx hx=>?_)
   have e1:(decide ((x:Int)<((i+1:Nat):Int)))=(decide ((x:Int)<(i:Int))||decide (x=i)):=by
    rw[<-Bool.decide_or,decide_eq_decide];omega
   rw[e1]
   by_cases hax:a<=(x:Int)
   ·simp[hax]
   ·have:¬x=i:=by omega
    simp[hax,this]
  rw[ef]
 ·rw[decide_eq_false hib,cond_false]
  have ef:ofB (λx=>decide (a<=(x:Int))&&decide ((x:Int)<(i:Int)))=ofB (qX a b):=?_
  ·rw[ef]
  refine gM (λx hx=>?_)
  unfold qX
  rcases Int.lt_or_le b a with hlt|hle
  ·have e:=h4 hlt
   by_cases hax:a<=(x:Int)
   ·have:¬((x:Int)<=b):=by omega
    have:¬((x:Int)<(i:Int)):=by omega
    simp[*]
   ·simp[hax]
  ·have e:=h3 hle
   have:((x:Int)<(i:Int))↔((x:Int)<=b):=by omega
   simp[this]
theorem sx{l m:Nat->Bool}{i n:Nat}(hi:i<4)(hn:n=a8 m i):(ofB (λx=>bif decide (x<64*i)then m x else l x)).set i (n:Int)=ofB (λx=>bif decide (x<64*(i+1))then m x else l x):=by
 refine tU hi ?_ (λv j hv hne hj=>?_)
 ·rw[hn]
  refine fD (λj hj=>?_)
  rw[decide_eq_true (by omega)];rfl
 ·have:(64*v+j<64*i)↔(64*v+j<64*(i+1)):=by omega
  simp only[this]
theorem sy{l m:Nat->Bool}:ofB (λx=>bif decide (x<64*4)then m x else l x)=ofB m:=gM λx hx=>by rw[decide_eq_true (by omega)];rfl
theorem yJ{l m:Nat->Bool}:ofB l=ofB (λx=>bif decide (x<64*0)then m x else l x):=gM λx hx=>by rw[decide_eq_false (by omega)];rfl
theorem sA{l m:Nat->Bool}{i:Nat}(hi:i<4):(ofB (λx=>bif decide (x<64*i)then m x else l x))[i]?=some ((a8 l i:Nat):Int):=by
 have e:a8 (λx=>bif decide (x<64*i)then m x else l x) i=a8 l i:=fD (λj hj=>by rw[decide_eq_false (by omega)];rfl)
 rw[ib hi,e]
theorem Gl(l m:Nat->Bool):CX N0 (ofB l,(ofB m,()))=some ((ofB (λx=>l x||m x),()),()):=by
 unfold CX
 refine ba (λmm x r=>∃ (i:Nat) (z:List Int),x=((ofB (λx=>bif decide (x<64*i)then(l x||m x)else l x),(z,())),((i:Int),()))/\mm+i=4/\r=some ((ofB (λx=>l x||m x),()),())) ?_ N0 4 _ _ (by unfold N0;omega) ⟨0,_,by rw[<-yJ];rfl,rfl,rfl⟩
 rintro mm x r ⟨i,z,rfl,hm,rfl⟩ k hk
 simp only
 rcases av i 4 with h|h
 ·have g1:=sA (l:=l) (m:=λx=>l x||m x) h
  have g2:=ib (l:=m) h
  have n0:(0:Int)<=(i:Int):=by omega
  have w3:IntKind.wrap .i64 ((i:Int)+1)=((i+1:Nat):Int):=by rw[<-bo (n:=i+1) (by omega)];rfl
  rw[decide_eq_true (show(i:Int)<4 by omega),cond_true,if_pos n0,af,g1]
  simp only[if_pos n0,g1,g2,w3]
  refine hk (mm-1) _ _ (by omega) ⟨i+1,z,?_,by omega,rfl⟩
  rw[Dp (dn _ _) (dn _ _),sx h Gj]
 ·have e:i=4:=by omega
  subst e
  rw[decide_eq_false (show ¬(((4:Nat):Int)<4) by omega),cond_false,sy]
theorem Gm(m:Nat->Bool):FG N0 (ofB (λ_=>true),(ofB m,()))=some ((ofB (λx=>!m x),()),()):=by
 unfold FG
 refine ba (λmm x r=>∃ (i:Nat) (z:List Int),x=((ofB (λx=>bif decide (x<64*i)then(!m x)else true),(z,())),((i:Int),()))/\mm+i=4/\r=some ((ofB (λx=>!m x),()),())) ?_ N0 4 _ _ (by unfold N0;omega) ⟨0,_,by rw[<-yJ];rfl,rfl,rfl⟩
 rintro mm x r ⟨i,z,rfl,hm,rfl⟩ k hk
 simp only
 rcases av i 4 with h|h
 ·have g1:=sA (l:=λ_=>true) (m:=λx=>!m x) h
  have g2:=ib (l:=m) h
  have n0:(0:Int)<=(i:Int):=by omega
  have w3:IntKind.wrap .i64 ((i:Int)+1)=((i+1:Nat):Int):=by rw[<-bo (n:=i+1) (by omega)];rfl
  have hf:a8 (λ_=>true) i=18446744073709551615:=by rw[kw];rfl
  rw[decide_eq_true (show(i:Int)<4 by omega),cond_true,if_pos n0,af,g1]
  simp only[if_pos n0,g1,g2,w3]
  refine hk (mm-1) _ _ (by omega) ⟨i+1,z,?_,by omega,rfl⟩
  rw[xO (dn _ _) (dn _ _),hf,sx h Dr]
 ·have e:i=4:=by omega
  subst e
  rw[decide_eq_false (show ¬(((4:Nat):Int)<4) by omega),cond_false,sy]
theorem Gn(m:Nat->Bool):FH N0 (ofB m,())=some ((ofB (λx=>!m x),()),()):=by
 unfold FH
 simp only[yI,bL,Gm]
theorem yK(m:Nat->Bool):pL N0 (ofB m,())=some ((dy m,()),()):=by
 unfold pL
 have:(decide (ofB m=[0,0,0,0]))=dy m:=by
  rw[cY,decide_eq_true_eq]
  exact fW
 simp only[this]
theorem yL{c:Int}(h:0<=c/\c<=255):FJ N0 ([c],())=some ((ofB (oW c),()),()):=by
 obtain⟨i,rfl⟩:∃ i:Nat,c=i:=⟨c.toNat,by omega⟩
 have hi:i<256:=by omega
 have hw:i / 64<4:=by omega
 have hl:i % 64<64:=dS _ (by omega)
 have z:([0,0,0,0]:List Int)=ofB (λ_=>false):=by
  rw[show([0,0,0,0]:List Int)=zS by rfl]
  exact(fW.2 (by unfold dy;rw[cO];intro x _;rfl)).symm
 have w1:IntKind.wrap .u8 (Int.tdiv (i:Int) 64)=((i / 64:Nat):Int):=by rw[Ds];exact iO (by omega)
 have w3:IntKind.wrap .i64 ((0:Int)+1)=1:=bI (by omega) (by omega)
 have g:=ib (l:=λ_=>false) hw
 have n1:¬((64:Int)=0):=by omega
 have n2:¬(((i % 64:Nat):Int)<0):=by omega
 have n3:(0:Int)<=((i / 64:Nat):Int):=by omega
 unfold FJ
 refine ba (λm x r=>((m=1/\x=(([0,0,0,0],(ofB (λ_=>false),())),((0:Int),())))\/(m=0/\x=(([0,0,0,0],(ofB (oW (i:Int)),())),((1:Int),()))))/\r=some ((ofB (oW (i:Int)),()),())) ?_ N0 1 _ _ (by unfold N0;omega) ⟨.inl ⟨rfl,by rw[<-z]⟩,rfl⟩
 rintro m x r ⟨hx,rfl⟩ k hk
 rcases hx with⟨rfl,rfl⟩|⟨rfl,rfl⟩
 ·have l1:decide ((0:Int)<(([(i:Int)]:List Int).length:Nat))=true:=rfl
  have g0:([(i:Int)]:List Int)[((0:Int)).toNat]?=some (i:Int):=rfl
  have n0:(0:Int)<=0:=by omega
  have tn:(((i / 64:Nat):Int)).toNat=i / 64:=af _
  have hs:=yH (f:=λ_=>false) hi
  have ef:ofB (λx=>false||decide (x=i))=ofB (oW (i:Int)):=gM λx hx=>by
   unfold oW
   rw[cR,decide_eq_decide];omega
  have sh:=tV hl
  rw[l1,cond_true,if_pos n0,g0]
  simp only[if_neg n1,w1,if_pos n3,tn,g]
  simp only[Dt,if_neg n2,if_pos n3,tn,g,sh,w3,hs,ef]
  exact hk 0 _ _ (by omega) ⟨.inr ⟨rfl,rfl⟩,rfl⟩
 ·have l1:decide ((1:Int)<(([(i:Int)]:List Int).length:Nat))=false:=rfl
  rw[l1,cond_false]
end
noncomputable section
def Bytes(s:List Int):Prop:=∀ c∈s,0<=c/\c<=255
theorem Bytes.get{s:List Int}(h:Bytes s){i:Nat}{c:Int}(hc:s[i]?=some c):0<=c/\c<=255:=h c (eT hc)
theorem Bytes.drop{s:List Int}(h:Bytes s)(i:Nat):Bytes (s.drop i):=λc hc=>h c (lD hc)
theorem yM{c:Int}(h:0<=c/\c<=255):xF N0 (c,())=some (((nB c).getD (-1),()),()):=by
 unfold xF nB
 simp only[bA]
 by_cases h1:(48:Int)<=c
 ·by_cases h2:c<=(57:Int)
  ·have w1:IntKind.wrap .u8 (c-48)=c-48:=iA ⟨by simp[kLo];omega,by simp[kHi];omega⟩
   have w2:IntKind.wrap .i64 (c-48)=c-48:=bI (by omega) (by omega)
   simp[h1,h2,w1,w2]
  ·by_cases h3:(97:Int)<=c
   ·by_cases h4:c<=(102:Int)
    ·have w1:IntKind.wrap .u8 (c-97)=c-97:=iA ⟨by simp[kLo];omega,by simp[kHi];omega⟩
     have w2:IntKind.wrap .i64 (c-97)=c-97:=bI (by omega) (by omega)
     have w3:IntKind.wrap .i64 (c-97+10)=c-97+10:=bI (by omega) (by omega)
     have e:c-97+10=c-87:=by omega
     rw[e]at w3
     simp[h1,h2,h3,h4,w1,w2,w3,e]
    ·simp[h1,h2,h3,h4]
   ·simp[h1,h2,h3]
 ·have h3:¬(97:Int)<=c:=by omega
  simp[h1,h3]
theorem l9{c v:Int}(h:nB c=some v):0<=v/\v<=15:=by
 unfold nB at h
 split at h
 ·injection h with h;omega
 ·split at h
  ·injection h with h;omega
  ·cases h
theorem Nv:∀ a b:Fin 16,IntKind.wrap .u8 (dL .or .i64 (IntKind.wrap .i64 (((a.val:Nat):Int)*2 ^ (Nat.min (Int.toNat (4:Int)) (IntKind.bits .i64)))) ((b.val:Nat):Int))=16*((a.val:Nat):Int)+((b.val:Nat):Int):=by decide
theorem Du{a b:Int}(ha:0<=a/\a<=15)(hb:0<=b/\b<=15):IntKind.wrap .u8 (dL .or .i64 (IntKind.wrap .i64 (a*2 ^ (Nat.min (Int.toNat (4:Int)) (IntKind.bits .i64)))) b)=16*a+b:=by
 have:=Nv ⟨a.toNat,by omega⟩ ⟨b.toNat,by omega⟩
 simp only[cF ha.1,cF hb.1]at this
 exact this
def rdR(o:Option (Int×Nat)):Int×(Int×(Bool×Unit)):=match o with
 |some (c,n)=>(c,((n:Int),(true,())))
 |none=>(0,(0,(false,())))
theorem Gp{t:List Int}(hb:Bytes t):FF N0 (t,())=some (rdR (rdS t),()):=by
 unfold FF
 simp only[bA]
 cases t with
 |nil=>rfl
 |cons c r=>
  have e0:decide ((c::r:List Int)=[])=false:=rfl
  have n0:(0:Int)<=0:=by omega
  have g0:(c::r)[((0:Int)).toNat]?=some c:=rfl
  rw[e0,cond_false,if_pos n0,g0]
  simp only[if_pos n0]
  by_cases hc:c=92
  ·subst hc
   simp only[decide_true,az,cond_false]
   cases r with
   |nil=>rfl
   |cons d r2=>
    have hd:=hb d (by simp)
    have el:decide ((((92::d::r2:List Int).length:Nat):Int)<2)=false:=by
     rw[decide_eq_false_iff_not];simp;omega
    have g1:(92::d::r2:List Int)[((1:Int)).toNat]?=some d:=rfl
    have n1:(0:Int)<=1:=by omega
    rw[el,cond_false,if_pos n1,g1]
    simp only[rdS,ne_eq,not_true_eq_false,if_false]
    by_cases h1:d=110
    ·subst h1;rfl
    by_cases h2:d=116
    ·subst h2;rfl
    by_cases h3:d=114
    ·subst h3;rfl
    simp only[h1,h2,h3,decide_false,cond_false,if_false]
    by_cases h4:d=120
    ·subst h4
     simp only[decide_true,cond_true,if_true]
     cases r2 with
     |nil=>rfl
     |cons x r3=>
      cases r3 with
      |nil=>rfl
      |cons y r4=>
       have hx:=hb x (by simp)
       have hy:=hb y (by simp)
       have l4:decide ((4:Int)<=(((92::120::x::y::r4:List Int).length:Nat):Int))=true:=by
        rw[decide_eq_true_eq];simp;omega
       have n2:(0:Int)<=2:=by omega
       have n3:(0:Int)<=3:=by omega
       have g2:(92::120::x::y::r4:List Int)[((2:Int)).toNat]?=some x:=rfl
       have g3:(92::120::x::y::r4:List Int)[((3:Int)).toNat]?=some y:=rfl
       have n4:¬((4:Int)<0):=by omega
       rw[l4,cond_true,if_pos n2,g2]
       simp only[if_pos n2,if_pos n3,g3,yM hx,yM hy,bL,if_neg n4]
       cases hvx:nB x with
       |none=>
        have:decide ((0:Int)<=(none:Option Int).getD (-1))=false:=rfl
        rw[this]
        rfl
       |some a=>
        have ha:=l9 hvx
        have:decide ((0:Int)<=(some a).getD (-1))=true:=by simpa using ha.1
        rw[this]
        simp only[cond_true]
        cases hvy:nB y with
        |none=>
         have:decide ((0:Int)<=(none:Option Int).getD (-1))=false:=rfl
         rw[this]
         rfl
        |some b=>
         have hb2:=l9 hvy
         have:decide ((0:Int)<=(some b).getD (-1))=true:=by simpa using hb2.1
         rw[this]
         simp only[cond_true,im,Du ha hb2]
         rfl
    ·simp only[h4,decide_false,cond_false,if_false]
     by_cases h5:d=0
     ·subst h5;rfl
     simp only[h5,decide_false,cond_false]
     have hif:(kE d=true\/d<32\/126<d)↔((kE d||(decide (d<32)||decide (126<d)))=true):=by simp
     simp only[hif]
     unfold kE
     generalize decide ((48:Int)<=d)=b1
     generalize decide (d<=(57:Int))=b2
     generalize decide ((97:Int)<=d)=b3
     generalize decide (d<=(122:Int))=b4
     generalize decide ((65:Int)<=d)=b5
     generalize decide (d<=(90:Int))=b6
     generalize decide (d<(32:Int))=b7
     generalize decide ((126:Int)<d)=b8
     revert b1 b2 b3 b4 b5 b6 b7 b8
     intro b1 b2 b3 b4 b5 b6 b7 b8
     cases b1 <;> cases b2 <;> cases b3 <;> cases b4 <;> cases b5 <;> cases b6 <;> cases b7 <;> cases b8 <;> rfl
  ·have hc2:decide (c=92)=false:=decide_eq_false hc
   rw[hc2]
   simp only[aG,cond_true,rdS,ne_eq,hc,not_false_eq_true,if_true]
   rfl
theorem jm{t:List Int}(hb:Bytes t){c:Int}{n:Nat}(h:rdS t=some (c,n)):(0<=c/\c<=255)/\0<n/\n<=t.length:=by
 unfold rdS at h
 cases t with
 |nil=>cases h
 |cons a r=>
  have ha:=hb a (by simp)
  simp only at h
  split at h
  ·injection h with h;injection h with h1 h2;subst h1;subst h2;simp;omega
  ·cases r with
   |nil=>cases h
   |cons d r2=>
    have hd:=hb d (by simp)
    simp only at h
    split at h
    ·injection h with h;injection h with h1 h2;subst h1;subst h2;simp
    split at h
    ·injection h with h;injection h with h1 h2;subst h1;subst h2;simp
    split at h
    ·injection h with h;injection h with h1 h2;subst h1;subst h2;simp
    split at h
    ·split at h
     ·rename_i x y r4
      split at h
      ·rename_i u v hu hv
       have h1:=l9 hu
       have h2:=l9 hv
       injection h with h;injection h with h3 h4;subst h3;subst h4;simp;omega
      ·cases h
     ·cases h
    ·split at h
     ·cases h
     ·injection h with h;injection h with h1 h2;subst h1;subst h2;simp;omega
def kst(s:List Int)(i:Nat)(d:Int):List Int×(Int×Int):=(s,((i:Int),d))
def nC(s:List Int)(i:Nat)(l:List Int):Bool:=decide (s.length<=i)||l.any λb=>decide (ch s i=b)
theorem fX{s:List Int}{i:Nat}(h:i<s.length):s[i]?=some (ch s i):=by unfold ch;rw[au h];rfl
theorem nD(s:List Int)(hs:s.length<=maxLen)(i:Nat)(d:Int)(l:List Int)(hl:l.length<=maxLen):vR N0 (kst s i d,(l,()))=some ((nC s i l,()),(kst s i d,())):=by
 unfold vR kst nC
 simp only
 rcases av i s.length with hi|hi
 ·have e1:decide (((s.length:Nat):Int)<=(i:Int))=false:=decide_eq_false (by omega)
  have e2:decide (s.length<=i)=false:=decide_eq_false (by omega)
  rw[e1,cond_false,e2,cR]
  refine ba (λm x r=>∃ j:Nat,x=(((s,((i:Int),d)),()),((j:Int),()))/\m+j=l.length/\r=some (((l.drop j).any (λb=>decide (ch s i=b)),()),((s,((i:Int),d)),()))) ?_ N0 l.length _ _ (by have:=pA hl;omega) ⟨0,rfl,rfl,by rw[da]⟩
  rintro m x r ⟨j,rfl,hm,rfl⟩ k hk
  simp only
  rcases av j l.length with hj|hj
  ·have n0:(0:Int)<=(i:Int):=by omega
   have n1:(0:Int)<=(j:Int):=by omega
   rw[decide_eq_true (show(j:Int)<((l.length:Nat):Int) by omega),cond_true,if_pos n0,af,fX hi]
   simp only[if_pos n1,af,au hj,bg hj hl]
   rw[dB hj,List.any_cons]
   cases hd:decide (ch s i=l[j])
   ·rw[cond_false,cR]
    exact hk (m-1) _ _ (by omega) ⟨j+1,rfl,by omega,rfl⟩
   ·rw[cond_true,jC]
  ·rw[decide_eq_false (show ¬(j:Int)<((l.length:Nat):Int) by omega),cond_false,jv hj]
   rfl
 ·have e1:decide (((s.length:Nat):Int)<=(i:Int))=true:=decide_eq_true (by omega)
  have e2:decide (s.length<=i)=true:=decide_eq_true hi
  rw[e1,e2]
  rfl
def eC(s:List Int)(i:Nat)(c:Int):Bool:=decide (i<s.length)&&decide (ch s i=c)
theorem ma(s:List Int)(hs:s.length<=maxLen)(i:Nat)(d:Int)(c:Int):mj N0 (kst s i d,(c,()))=some ((eC s i c,()),(kst s (if eC s i c=true then i+1 else i) d,())):=by
 unfold mj kst eC
 simp only[bA]
 rcases av i s.length with hi|hi
 ·have n0:(0:Int)<=(i:Int):=by omega
  rw[decide_eq_true (show(i:Int)<((s.length:Nat):Int) by omega),cond_true,if_pos n0,af,fX hi,decide_eq_true hi]
  simp only[bK,decide_eq_true_eq]
  by_cases h:ch s i=c
  ·simp only[h,decide_true,cond_true,if_true,bg hi hs]
  ·simp only[h,decide_false,cond_false,if_false]
 ·rw[decide_eq_false (show ¬(i:Int)<((s.length:Nat):Int) by omega),cond_false,decide_eq_false (by omega)]
  simp
def rdK(s:List Int)(i:Nat)(d:Int):(Int×(Bool×Unit))×((List Int×(Int×Int))×Unit):=match rdS (s.drop i)with
 |some (c,n)=>((c,(true,())),(kst s (i+n) d,()))
 |none=>((0,(false,())),(kst s i d,()))
theorem tW{s:List Int}(hb:Bytes s)(hs:s.length<=maxLen){i:Nat}(hi:i<=s.length)(d:Int):AQ N0 (kst s i d,())=some (rdK s i d):=by
 unfold AQ kst
 simp only
 have hc:(0:Int)<=(i:Int)/\(i:Int)<=((s.length:Nat):Int)/\((s.length:Nat):Int)<=((s.length:Nat):Int):=⟨by omega,by omega,by omega⟩
 have qZ:bZ s (i:Int) ((s.length:Nat):Int)=s.drop i:=by
  unfold bZ
  simp only[af]
  exact dC (by simp)
 rw[if_pos hc,qZ,aa (Gp (hb.drop i))]
 unfold rdK rdR kst
 cases hr:rdS (s.drop i)with
 |none=>
  simp only[Int.add_zero]
  rw[bo (by unfold maxLen at hs;omega)]
 |some p=>
  obtain⟨c,n⟩:=p
  obtain⟨_,h1,h2⟩:=jm (hb.drop i) hr
  rw[bm]at h2
  simp only
  have:((i:Int)+(n:Int))=((i+n:Nat):Int):=by omega
  rw[this,bo (by unfold maxLen at hs;omega)]
end
noncomputable section
theorem dz{A R:Type}{body:A->(A->Option R)->Option R}(I:Nat->A->Prop)(Q:Option R->Prop)
 (step:∀ m x,I m x->∀ k,(∀ m' y,m' < m->I m' y->Q (k y))->Q (body x k)):∀ n m x,m<n->I m x->Q (aA body n x):=by
 intro n
 induction n with
 |zero=>intro m x h;omega
 |succ n ih=>
  intro m x h hi
  rw[ew]
  exact step m x hi _ (λm' y hm hi'=>ih m' y (by omega) hi')
def OkP(s:List Int)(d:Int)(B:Nat)(o:Option (Rx×Nat))(z:Option ((List Pc×(Bool×Unit))×((List Int×(Int×Int))×Unit))):Prop:=
 match o with
 |some (t,j)=>z=some ((t.post,(true,())),(kst s j d,()))
 |none=>∃ r k,z=some ((r,(false,())),(k,()))/\r.length<=B
def lx(s:List Int)(nt:Bool)(o:Option ((Nat->Bool)×Nat)):Option (Rx×Nat):=
 match o with
 |none=>none
 |some (l,j)=>if s.length<=j\/dy (if nt=true then λx=>!l x else l)=true then none else some (.set (ofB (if nt=true then λx=>!l x else l)),j+1)
theorem tX(s:List Int)(i:Nat):brS s i=lx s (eC s i 94) (brL s s.length.succ (if eC s i 94=true then i+1 else i) (λ_=>false)):=by
 unfold brS lx eC
 rfl
theorem Gq{s:List Int}(hb:Bytes s)(hs:s.length<=maxLen){i:Nat}(hi:i<=s.length)(d:Int):OkP s d 1 (brS s i) (FI N0 (kst s i d,())):=by
 rw[tX]
 unfold FI
 simp only[bA]
 rw[aa (ma s hs i d 94)]
 simp only
 generalize hnt:eC s i 94=nt
 have hi1:(if nt=true then i+1 else i)<=s.length:=by
  split
  ·rename_i h
   rw[<-hnt]at h
   unfold eC at h
   simp at h
   omega
  ·exact hi
 generalize (if nt=true then i+1 else i)=i1 at hi1
 have hz:([0,0,0,0]:List Int)=ofB (λ_=>false):=by
  rw[show([0,0,0,0]:List Int)=zS by rfl]
  exact(fW.2 (by unfold dy;rw[cO];intro x _;rfl)).symm
 generalize bR:brL s s.length.succ i1 (λ_=>false)=res
 refine dz (λm x=>∃ (i:Nat) (f:Nat->Bool) (bM:Nat),x=((kst s i d,(ofB f,())),())/\i<=s.length/\s.length-i<bM/\m=s.length-i/\brL s bM i f=res) (OkP s d 1 (lx s nt res)) ?_ N0 (s.length-i1) _ (by have:=pA hs;omega) ⟨i1,_,s.length.succ,by rw[<-hz],hi1,by omega,rfl,bR⟩
 rintro m x ⟨i,f,bM,rfl,hi,hf,hm,hr⟩ k hk
 obtain⟨bM,rfl⟩:∃ q,bM=q+1:=⟨bM-1,by omega⟩
 simp only[brL]at hr
 rw[aa (nD s hs i d [93] (by simp[maxLen]))]
 simp only
 by_cases kt:s.length<=i\/ch s i=93
 ·-- the end
  rw[if_pos kt]at hr
  have hc:nC s i [93]=true:=by
   unfold nC
   rcases kt with h|h
   ·simp[h]
   ·simp[h]
  rw[hc]
  simp only[az,cond_false]
  subst hr
  have cS:∀ g:Nat->Bool,OkP s d 1 (if s.length<=i\/dy g=true then none else some (.set (ofB g),i+1)) (ah (mj N0 (kst s i d,(93,()))) λv21=>bif v21.1.1 then ah (pL N0 (ofB g,())) λv22=>some (([((1:Int),ofB g)],(!v22.1.1,())),(v21.2.1,()))else some (([((1:Int),ofB g)],(false,())),(v21.2.1,()))):=by
   intro g
   rw[aa (ma s hs i d 93)]
   simp only
   rcases av i s.length with h|h
   ·have h93:ch s i=93:=kt.resolve_left (by omega)
    have he:eC s i 93=true:=by unfold eC;simp[h,h93]
    rw[he]
    simp only[cond_true,if_true,yK,bL]
    cases hem:dy g
    ·have:¬(s.length<=i\/(false=true)):=by simp;omega
     rw[if_neg this]
     rfl
    ·rw[if_pos (.inr rfl)]
     exact⟨_,_,rfl,by simp⟩
   ·have he:eC s i 93=false:=by unfold eC;simp;omega
    rw[he,if_pos (.inl h)]
    exact⟨_,_,rfl,by simp⟩
  unfold lx
  cases nt
  ·exact cS f
  ·simp only[cond_true,Gn,bL,if_true]
   exact cS λx=>!f x
 ·rw[if_neg kt]at hr
  have hlt:i<s.length:=by omega
  have hc:nC s i [93]=false:=by
   unfold nC
   have h1:¬s.length<=i:=by omega
   have h2:¬ch s i=93:=λh=>kt (.inr h)
   simp[h1,h2]
  rw[hc]
  simp only[aG,cond_true]
  rw[aa (nD s hs i d [94,45,47,34] (by simp[maxLen]))]
  simp only
  have hc2:nC s i [94,45,47,34]=decide (ch s i∈([94,45,47,34]:List Int)):=by
   unfold nC
   have h1:¬s.length<=i:=by omega
   rw[decide_eq_false h1,cR,cY,decide_eq_true_eq,fJ]
   simp
  rw[hc2]
  by_cases hin:ch s i∈([94,45,47,34]:List Int)
  ·rw[if_pos hin]at hr
   rw[decide_eq_true hin,cond_true]
   subst hr
   exact⟨_,_,rfl,by simp⟩
  rw[if_neg hin]at hr
  rw[decide_eq_false hin,cond_false,aa (tW hb hs hi d)]
  unfold rdK
  cases hrd:rdS (s.drop i)with
  |none=>
   rw[hrd]at hr
   simp only at hr
   subst hr
   exact⟨_,_,rfl,by simp⟩
  |some p=>
   obtain⟨a,n⟩:=p
   rw[hrd]at hr
   simp only at hr
   simp only[az,cond_false]
   obtain⟨ha,hn1,hn2⟩:=jm (hb.drop i) hrd
   rw[bm]at hn2
   rw[aa (ma s hs (i+n) d 45)]
   simp only
   -- EE goes on with a range
   have go:∀ (j:Nat) (b:Int),j<=s.length->i<j->(0<=b/\b<=255)->brL s bM j (λx=>f x||qX a b x)=res->
    OkP s d 1 (lx s nt res) (ah (CW N0 (a,(b,()))) λv11=>ah (CX N0 (ofB f,(v11.1.1,()))) λv12=>k ((kst s j d,(v12.1.1,())),())):=by
    intro j b hj hij hbb bR
    rw[aa (Gk ha hbb)]
    simp only
    rw[aa (Gl f (qX a b))]
    exact hk (s.length-j) _ (by omega) ⟨j,_,bM,rfl,hj,by omega,rfl,bR⟩
   by_cases hd:i+n<s.length/\ch s (i+n)=45
   ·rw[if_pos hd]at hr
    have he:eC s (i+n) 45=true:=by unfold eC;simp[hd.1,hd.2]
    rw[he]
    simp only[cond_true,if_true]
    rw[aa (nD s hs (i+n+1) d [93,94,45,47,34] (by simp[maxLen]))]
    simp only
    have hc3:nC s (i+n+1) [93,94,45,47,34]=decide (s.length<=i+n+1\/ch s (i+n+1)∈([93,94,45,47,34]:List Int)):=by
     unfold nC
     rw[cY,aR,decide_eq_true_eq,decide_eq_true_eq,fJ]
     simp
    rw[hc3]
    by_cases h4:s.length<=i+n+1\/ch s (i+n+1)∈([93,94,45,47,34]:List Int)
    ·rw[if_pos h4]at hr
     rw[decide_eq_true h4,cond_true]
     subst hr
     exact⟨_,_,rfl,by simp⟩
    rw[if_neg h4]at hr
    rw[decide_eq_false h4,cond_false,aa (tW hb hs (show i+n+1<=s.length by omega) d)]
    unfold rdK
    cases wk:rdS (s.drop (i+n+1))with
    |none=>
     rw[wk]at hr
     simp only at hr
     subst hr
     exact⟨_,_,rfl,by simp⟩
    |some p2=>
     obtain⟨b,n2⟩:=p2
     rw[wk]at hr
     simp only at hr
     simp only[az,cond_false]
     obtain⟨hbb,hn3,hn4⟩:=jm (hb.drop _) wk
     rw[bm]at hn4
     by_cases hba:b<a
     ·rw[if_pos hba]at hr
      rw[decide_eq_true hba,cond_true]
      subst hr
      exact⟨_,_,rfl,by simp⟩
     ·rw[if_neg hba]at hr
      rw[decide_eq_false hba,cond_false]
      exact go (i+n+1+n2) b (by omega) (by omega) hbb hr
   ·rw[if_neg hd]at hr
    have he:eC s (i+n) 45=false:=by
     unfold eC
     rw[ij,decide_eq_false_iff_not,decide_eq_false_iff_not]
     by_cases h:i+n<s.length
     ·exact .inr λh2=>hd ⟨h,h2⟩
     ·exact .inl h
    rw[he]
    simp only[cond_false,aE,if_false]
    exact go (i+n) a (by omega) (by omega) ha hr
end
noncomputable section
def Res(s:List Int)(i:Nat)(t:Rx)(j:Nat):Prop:=i<j/\j<=s.length/\t.len+1<=2*(j-i)/\t.ok
def iW(s:List Int)(i:Nat)(o:Option (Rx×Nat)):Prop:=∀ t j,o=some (t,j)->Res s i t j
theorem xP{l:Nat->Bool}(h:dy l=false):(Rx.set (ofB l)).ok:=⟨rfl,(λe=>by rw[fW.1 e]at h;cases h),I5 l⟩
theorem xQ:dy (λ_=>true)=false:=by
 unfold dy
 rw[List.all_eq_false]
 exact⟨0,by simp,by simp⟩
theorem Bb{c:Int}(h:0<=c/\c<=255):dy (oW c)=false:=by
 unfold dy
 rw[List.all_eq_false]
 refine⟨c.toNat,jA.2 (by omega),?_⟩
 unfold oW
 simp
 omega
theorem yN{s:List Int}(hb:Bytes s):∀ (m i:Nat) (l:Nat->Bool) (r:Nat->Bool) (j:Nat),brL s m i l=some (r,j)->i<=j:=by
 intro m
 induction m with
 |zero=>intro i l r j h;cases h
 |succ m ih=>
  intro i l r j h
  simp only[brL]at h
  split at h
  ·injection h with h;injection h with h1 h2;omega
  split at h
  ·cases h
  split at h
  ·cases h
  rename_i a n hrd
  have hn:=(jm (hb.drop i) hrd).2.1
  split at h
  ·split at h
   ·cases h
   split at h
   ·cases h
   rename_i b n2 wk
   split at h
   ·cases h
   have:=ih _ _ _ _ h
   omega
  ·have:=ih _ _ _ _ h
   omega
theorem yO{s:List Int}(hb:Bytes s){i0 i:Nat}(hi:i0<i):iW s i0 (brS s i):=by
 intro t j h
 rw[tX]at h
 unfold lx at h
 split at h
 ·cases h
 rename_i l k hl
 generalize (if eC s i 94=true then λx=>!l x else l)=l' at h
 split at h
 ·cases h
 rename_i hn
 injection h with h
 injection h with h1 h2
 subst h1;subst h2
 have h1:=yN hb _ _ _ _ _ hl
 have h2:i<=k:=by
  refine bn ?_ h1
  split <;> omega
 have hne:¬s.length<=k:=λe=>hn (.inl e)
 have hem:=λe=>hn (.inr e)
 refine⟨by omega,by omega,by simp only[Rx.len];omega,xP ?_⟩
 simpa using hem
theorem q8{s:List Int}(hb:Bytes s){inner:Nat->Nat->Option (Rx×Nat)}{i d:Nat}(hin:iW s (i+1) (inner (i+1) (d+1))):iW s i (kK inner s i d):=by
 intro t j h
 unfold kK at h
 split at h
 ·cases h
 rename_i kt
 have hlt:i<s.length:=by
  rcases av i s.length with h|h
  ·exact h
  ·exact absurd (.inl h) kt
 split at h
 ·injection h with h;injection h with h1 h2;subst h1;subst h2
  exact⟨by omega,by omega,by simp only[Rx.len];omega,xP xQ⟩
 split at h
 ·injection h with h;injection h with h1 h2;subst h1;subst h2
  exact⟨by omega,by omega,by simp only[Rx.len];omega,trivial⟩
 split at h
 ·exact yO hb (by omega) t j h
 split at h
 ·split at h
  ·cases h
  split at h
  ·cases h
  rename_i t2 j2 hi2
  obtain⟨q1,q2,q3,q4⟩:=hin _ _ hi2
  split at h
  ·rename_i hj
   injection h with h;injection h with h1 h2;subst h1;subst h2
   exact⟨by omega,by omega,by omega,q4⟩
  ·cases h
 split at h
 ·cases h
 rename_i c n hrd
 obtain⟨h1,h2,h3⟩:=jm (hb.drop i) hrd
 rw[bm]at h3
 injection h with h;injection h with h4 h5;subst h4;subst h5
 exact⟨by omega,by omega,by simp only[Rx.len];omega,xP (Bb h1)⟩
theorem oZ(c:Int):gC c=4\/gC c=5\/gC c=6:=by unfold gC;split;exact .inl rfl;split;exact .inr (.inl rfl);exact .inr (.inr rfl)
theorem Dv{s:List Int}:∀ (m i0 i:Nat) (t0 t:Rx) (j:Nat),Res s i0 t0 i->oX s m i t0=some (t,j)->Res s i0 t j:=by
 intro m
 induction m with
 |zero=>intro i0 i t0 t j _ h;cases h
 |succ m ih=>
  intro i0 i t0 t j hr h
  simp only[oX]at h
  split at h
  ·rename_i hc
   refine ih i0 (i+1) _ t j ?_ h
   obtain⟨q1,q2,q3,q4⟩:=hr
   exact⟨by omega,by omega,by simp only[Rx.len];omega,oZ _,q4⟩
  ·injection h with h;injection h with h1 h2;subst h1;subst h2;exact hr
theorem nE{s:List Int}(hb:Bytes s){inner:Nat->Nat->Option (Rx×Nat)}{i d:Nat}(hin:iW s (i+1) (inner (i+1) (d+1))):iW s i (jl inner s i d):=by
 intro t j h
 unfold jl at h
 split at h
 ·cases h
 rename_i t0 i0 h0
 exact Dv _ i i0 t0 t j (q8 hb hin _ _ h0) h
theorem Dw{s:List Int}(hb:Bytes s){inner:Nat->Nat->Option (Rx×Nat)}{d:Nat}(n:Nat)(hin:∀ i d,s.length-i<n->iW s i (inner i d)):∀ (m i0 i:Nat) (t0 t:Rx) (j:Nat),Res s i0 t0 i->s.length-i0<=n->pM inner s d m i t0=some (t,j)->Res s i0 t j:=by
 intro m
 induction m with
 |zero=>intro i0 i t0 t j _ _ h;cases h
 |succ m ih=>
  intro i0 i t0 t j hr hn h
  simp only[pM]at h
  split at h
  ·rename_i hc
   split at h
   ·cases h
   rename_i t2 j2 h2
   obtain⟨q1,q2,q3,q4⟩:=hr
   obtain⟨p1,p2,p3,p4⟩:=nE hb (hin (i+1) (d+1) (by omega)) _ _ h2
   refine ih i0 j2 _ t j ?_ hn h
   exact⟨by omega,p2,by simp only[Rx.len];omega,q4,p4⟩
  ·injection h with h;injection h with h1 h2;subst h1;subst h2;exact hr
theorem nF{s:List Int}(hb:Bytes s){inner:Nat->Nat->Option (Rx×Nat)}{i d:Nat}(n:Nat)(hin:∀ i d,s.length-i<n->iW s i (inner i d))(hn:s.length-i<=n):iW s i (jV inner s i d):=by
 intro t j h
 unfold jV at h
 split at h
 ·cases h
 rename_i t0 i0 h0
 rcases av i s.length with hlt|hge
 ·exact Dw hb n hin _ i i0 t0 t j (nE hb (hin (i+1) (d+1) (by omega)) _ _ h0) hn h
 ·exfalso
  unfold jl kK at h0
  rw[if_pos (.inl hge)]at h0
  cases h0
theorem Dx{s:List Int}(hb:Bytes s){inner:Nat->Nat->Option (Rx×Nat)}{d:Nat}(n:Nat)(hin:∀ i d,s.length-i<n->iW s i (inner i d)):∀ (m i0 i:Nat) (t0 t:Rx) (j:Nat),Res s i0 t0 i->s.length-i0<=n->pN inner s d m i t0=some (t,j)->Res s i0 t j:=by
 intro m
 induction m with
 |zero=>intro i0 i t0 t j _ _ h;cases h
 |succ m ih=>
  intro i0 i t0 t j hr hn h
  simp only[pN]at h
  split at h
  ·rename_i hc
   split at h
   ·cases h
   rename_i t2 j2 h2
   obtain⟨q1,q2,q3,q4⟩:=hr
   obtain⟨p1,p2,p3,p4⟩:=nF hb n hin (by omega) _ _ h2
   refine ih i0 j2 _ t j ?_ hn h
   exact⟨by omega,p2,by simp only[Rx.len];omega,q4,p4⟩
  ·injection h with h;injection h with h1 h2;subst h1;subst h2;exact hr
theorem iP{s:List Int}(hb:Bytes s):∀ (n i d:Nat),s.length-i<n->iW s i (iV s n i d):=by
 intro n
 induction n with
 |zero=>intro i d h;omega
 |succ n ih=>
  intro i d hn t j h
  simp only[iV,xN]at h
  split at h
  ·cases h
  rename_i t0 i0 h0
  exact Dx hb n ih _ i i0 t0 t j (nF hb n ih (by omega) _ _ h0) (by omega) h
end
noncomputable section
theorem tY(k:Int):vS N0 (k,())=some ((if k=0\/k=1 then 0 else if k=4\/k=5\/k=6 then 1 else if k=2\/k=3 then 2 else -1,()),()):=by
 unfold vS
 simp only[bA]
 by_cases h0:k=0
 ·subst h0;rfl
 by_cases h1:k=1
 ·subst h1;rfl
 by_cases h2:k=2
 ·subst h2;rfl
 by_cases h3:k=3
 ·subst h3;rfl
 by_cases h4:k=4
 ·subst h4;rfl
 by_cases h5:k=5
 ·subst h5;rfl
 by_cases h6:k=6
 ·subst h6;rfl
 simp[h0,h1,h2,h3,h4,h5,h6]
theorem wm{a b:Nat}(ha:a<=1000000)(hb:b<=1000000):((a+b)*40<=140737488355328)/\(a+b<=9223372036854775807):=by omega
theorem Dy{k:Int}(hk:k=4\/k=5\/k=6){l:List Pc}(hl:l.length<=1000000):qS N0 (k,([l],()))=some ((l++[(k,zS)],()),()):=by
 have ht:(if k=0\/k=1 then(0:Int)else if k=4\/k=5\/k=6 then 1 else if k=2\/k=3 then 2 else -1)=1:=by
  have:¬(k=0\/k=1):=by omega
  rw[if_neg this,if_pos hk]
 unfold qS
 simp only[bA,tY,ht,bL]
 have e1:(!(decide ((1:Int)=(([l]:List (List Pc)).length:Nat))))=false:=rfl
 have e2:decide (((([l]:List (List Pc)).length:Nat):Int)=0)=false:=rfl
 rw[e1,cond_false,e2,cond_false]
 refine ba (λm x r=>((m=1/\x=((),(([]:List Pc),((0:Int),()))))\/(m=0/\x=((),(l,((1:Int),())))))/\r=some ((l++[(k,zS)],()),())) ?_ N0 1 _ _ (by unfold N0;omega) ⟨.inl ⟨rfl,rfl⟩,rfl⟩
 rintro m x r ⟨hx,rfl⟩ kk hkk
 rcases hx with⟨rfl,rfl⟩|⟨rfl,rfl⟩
 ·have l1:decide ((0:Int)<(([l]:List (List Pc)).length:Nat))=true:=rfl
  have g0:([l]:List (List Pc))[((0:Int)).toNat]?=some l:=rfl
  have n0:(0:Int)<=0:=by omega
  obtain⟨f1,f2⟩:=wm (a:=([]:List Pc).length) (b:=l.length) (by simp) hl
  have w3:IntKind.wrap .i64 ((0:Int)+1)=1:=bI (by omega) (by omega)
  rw[l1,cond_true,if_pos n0,g0]
  simp only[if_pos f1,if_pos f2,w3,bJ]
  exact hkk 0 _ _ (by omega) ⟨.inr ⟨rfl,rfl⟩,rfl⟩
 ·have l1:decide ((1:Int)<(([l]:List (List Pc)).length:Nat))=false:=rfl
  obtain⟨f1,f2⟩:=wm (a:=l.length) (b:=([(k,[0,0,0,0])]:List Pc).length) hl (by simp)
  rw[l1,cond_false,if_pos f1,if_pos f2]
  rfl
theorem nG{k:Int}(hk:k=2\/k=3){l l2:List Pc}(hl:l.length<=100000)(hl2:l2.length<=100000):qS N0 (k,([l,l2],()))=some ((l++l2++[(k,zS)],()),()):=by
 have ht:(if k=0\/k=1 then(0:Int)else if k=4\/k=5\/k=6 then 1 else if k=2\/k=3 then 2 else -1)=2:=by
  have h1:¬(k=0\/k=1):=by omega
  have h2:¬(k=4\/k=5\/k=6):=by omega
  rw[if_neg h1,if_neg h2,if_pos hk]
 unfold qS
 simp only[bA,tY,ht,bL]
 have e1:(!(decide ((2:Int)=(([l,l2]:List (List Pc)).length:Nat))))=false:=rfl
 have e2:decide (((([l,l2]:List (List Pc)).length:Nat):Int)=0)=false:=rfl
 rw[e1,cond_false,e2,cond_false]
 refine ba (λm x r=>((m=2/\x=((),(([]:List Pc),((0:Int),()))))\/(m=1/\x=((),(l,((1:Int),()))))\/(m=0/\x=((),(l++l2,((2:Int),())))))/\r=some ((l++l2++[(k,zS)],()),())) ?_ N0 2 _ _ (by unfold N0;omega) ⟨.inl ⟨rfl,rfl⟩,rfl⟩
 rintro m x r ⟨hx,rfl⟩ kk hkk
 rcases hx with⟨rfl,rfl⟩|⟨rfl,rfl⟩|⟨rfl,rfl⟩
 ·have l1:decide ((0:Int)<(([l,l2]:List (List Pc)).length:Nat))=true:=rfl
  have g0:([l,l2]:List (List Pc))[((0:Int)).toNat]?=some l:=rfl
  have n0:(0:Int)<=0:=by omega
  obtain⟨f1,f2⟩:=wm (a:=([]:List Pc).length) (b:=l.length) (by simp) (by omega)
  have w3:IntKind.wrap .i64 ((0:Int)+1)=1:=bI (by omega) (by omega)
  rw[l1,cond_true,if_pos n0,g0]
  simp only[if_pos f1,if_pos f2,w3,bJ]
  exact hkk 1 _ _ (by omega) ⟨.inr (.inl ⟨rfl,rfl⟩),rfl⟩
 ·have l1:decide ((1:Int)<(([l,l2]:List (List Pc)).length:Nat))=true:=rfl
  have g0:([l,l2]:List (List Pc))[((1:Int)).toNat]?=some l2:=rfl
  have n0:(0:Int)<=1:=by omega
  obtain⟨f1,f2⟩:=wm (a:=l.length) (b:=l2.length) (by omega) (by omega)
  have w3:IntKind.wrap .i64 ((1:Int)+1)=2:=bI (by omega) (by omega)
  rw[l1,cond_true,if_pos n0,g0]
  simp only[if_pos f1,if_pos f2,w3]
  exact hkk 0 _ _ (by omega) ⟨.inr (.inr ⟨rfl,rfl⟩),rfl⟩
 ·have l1:decide ((2:Int)<(([l,l2]:List (List Pc)).length:Nat))=false:=rfl
  obtain⟨f1,f2⟩:=wm (a:=(l++l2).length) (b:=([(k,[0,0,0,0])]:List Pc).length) (by simp;omega) (by simp)
  rw[l1,cond_false,if_pos f1,if_pos f2]
  rfl
abbrev RdF:=(List Int×(Int×Int))×Unit->Option ((List Pc×(Bool×Unit))×((List Int×(Int×Int))×Unit))
theorem fa{s:List Int}{i:Nat}{c:Int}(h1:i<s.length)(h2:ch s i=c):eC s i c=true:=by unfold eC;simp[h1,h2]
theorem gD{s:List Int}{i:Nat}{c:Int}(h2:¬ch s i=c):eC s i c=false:=by unfold eC;simp[h2]
theorem I6{s:List Int}(hb:Bytes s)(hs:s.length<=1600){q2 q3 q4 q5:RdF}{inner:Nat->Nat->Option (Rx×Nat)}{i d:Nat}(hd:d<=i)
 (hin:i<s.length->OkP s ((d+1:Nat):Int) (2*(s.length-(i+1))) (inner (i+1) (d+1)) (q2 (kst s (i+1) ((d+1:Nat):Int),()))) (bR:iW s (i+1) (inner (i+1) (d+1))):
 OkP s d (2*(s.length-i)) (kK inner s i d) (vW N0 q2 q3 q4 q5 (kst s i d,())):=by
 have hsm:s.length<=maxLen:=by unfold maxLen;omega
 have o0:=ma s hsm
 unfold vW
 dsimp only
 rw[aa (nD s hsm i d [124,41,42,43,63,93,47,34] (by simp[maxLen]))]
 simp only
 have hc:nC s i [124,41,42,43,63,93,47,34]=decide (s.length<=i\/ch s i∈([124,41,42,43,63,93,47,34]:List Int)):=by
  unfold nC
  rw[cY,aR,decide_eq_true_eq,decide_eq_true_eq,fJ]
  simp
 rw[hc]
 unfold kK
 by_cases h0:s.length<=i\/ch s i∈([124,41,42,43,63,93,47,34]:List Int)
 ·rw[if_pos h0,decide_eq_true h0,cond_true]
  exact⟨_,_,rfl,by simp⟩
 rw[if_neg h0,decide_eq_false h0,cond_false]
 have hlt:i<s.length:=by
  rcases av i s.length with h|h
  ·exact h
  ·exact absurd (.inl h) h0
 rw[aa (o0 i d 46)]
 simp only
 by_cases h1:ch s i=46
 ·rw[if_pos h1,fa hlt h1]
  simp only[cond_true,if_true,yI,bL]
  rfl
 rw[if_neg h1,gD h1]
 simp only[cond_false,aE,if_false]
 rw[aa (o0 i d 126)]
 simp only
 by_cases h2:ch s i=126
 ·rw[if_pos h2,fa hlt h2]
  simp only[cond_true,if_true]
  rfl
 rw[if_neg h2,gD h2]
 simp only[cond_false,aE,if_false]
 rw[aa (o0 i d 40)]
 simp only
 by_cases h3:ch s i=40
 ·have h4:¬ch s i=91:=by omega
  rw[if_neg h4,if_pos h3,fa hlt h3]
  simp only[cond_true,if_true]
  have w1:IntKind.wrap .i64 ((d:Int)+1)=((d+1:Nat):Int):=bg (n:=1601) (by omega) (by simp[maxLen])
  have I7:((kst s (i+1) (d:Int)).1,((kst s (i+1) (d:Int)).2.1,IntKind.wrap .i64 ((kst s (i+1) (d:Int)).2.2+1)))=kst s (i+1) ((d+1:Nat):Int):=by
   show(s,(((i+1:Nat):Int),IntKind.wrap .i64 ((d:Int)+1)))=_
   rw[w1];rfl
  rw[I7]
  have hq:=hin hlt
  unfold OkP at hq
  cases hi2:inner (i+1) (d+1)with
  |none=>
   rw[hi2]at hq
   obtain⟨r,k,hq,hrl⟩:=hq
   rw[aa hq]
   simp only[bA,cond_false,ite_self]
   exact⟨_,_,rfl,by omega⟩
  |some p=>
   obtain⟨t,j⟩:=p
   rw[hi2]at hq
   obtain⟨r1,r2,r3,r4⟩:=bR t j hi2
   have hpl:=t.aN
   rw[aa hq]
   simp only[bA,cond_true]
   have w2:IntKind.wrap .i64 ((kst s j ((d+1:Nat):Int)).2.2-1)=(d:Int):=by
    show IntKind.wrap .i64 (((d+1:Nat):Int)-1)=_
    rw[bI (by omega) (by omega)];omega
   simp only[w2]
   have Nw:((kst s j ((d+1:Nat):Int)).1,((kst s j ((d+1:Nat):Int)).2.1,(d:Int)))=kst s j (d:Int):=rfl
   rw[Nw]
   by_cases h99:99<=d
   ·rw[if_pos h99,decide_eq_false (by omega),cond_false]
    exact⟨_,_,rfl,by omega⟩
   ·rw[if_neg h99,decide_eq_true (by omega),cond_true,aa (o0 j d 41)]
    simp only
    by_cases h41:j<s.length/\ch s j=41
    ·rw[if_pos h41,fa h41.1 h41.2]
     rfl
    ·rw[if_neg h41]
     have:eC s j 41=false:=by
      unfold eC
      rw[ij,decide_eq_false_iff_not,decide_eq_false_iff_not]
      by_cases h:j<s.length
      ·exact .inr λh2=>h41 ⟨h,h2⟩
      ·exact .inl h
     rw[this]
     exact⟨_,_,rfl,by omega⟩
 rw[gD h3]
 simp only[cond_false,aE,if_false]
 rw[aa (o0 i d 91)]
 simp only
 by_cases h4:ch s i=91
 ·rw[if_pos h4,fa hlt h4]
  simp only[cond_true,if_true]
  have hq:=Gq hb hsm (show i+1<=s.length by omega) (d:Int)
  unfold OkP at hq
  cases hbr:brS s (i+1)with
  |none=>
   rw[hbr]at hq
   obtain⟨r,k,hq,hrl⟩:=hq
   rw[aa hq]
   exact⟨_,_,rfl,by show r.length<=_;omega⟩
  |some p=>
   obtain⟨t,j⟩:=p
   rw[hbr]at hq
   simp only at hq
   rw[aa hq]
   rfl
 rw[if_neg h4,if_neg h3,gD h4]
 simp only[cond_false,aE,if_false]
 rw[aa (tW hb hsm (lN hlt) d)]
 unfold rdK
 cases hrd:rdS (s.drop i)with
 |none=>
  simp only
  rw[aa (yL (c:=0) ⟨by omega,by omega⟩)]
  exact⟨_,_,rfl,by simp;omega⟩
 |some p=>
  obtain⟨c,n⟩:=p
  obtain⟨r1,_,_⟩:=jm (hb.drop i) hrd
  simp only
  rw[aa (yL r1)]
  rfl
end
noncomputable section
theorem Bc{s:List Int}(hb:Bytes s)(hs:s.length<=1600){q2 q3 q4 q5:RdF}{inner:Nat->Nat->Option (Rx×Nat)}{i d:Nat}{B:Nat}
 (dA:OkP s d B (kK inner s i d) (q5 (kst s i d,()))) (bR:iW s i (kK inner s i d)):
 OkP s d 0 (jl inner s i d) (vV N0 q2 q3 q4 q5 (kst s i d,())):=by
 have hsm:s.length<=maxLen:=by unfold maxLen;omega
 have o0:=ma s hsm
 unfold vV
 dsimp only
 unfold jl
 unfold OkP at dA
 cases ho:kK inner s i d with
 |none=>
  rw[ho]at dA
  obtain⟨r,k,hq,hrl⟩:=dA
  rw[aa hq]
  refine dz (λm x=>m=0) (OkP s d 0 none) ?_ N0 0 _ (by unfold N0;omega) rfl
  rintro m x hm k hk
  exact⟨_,_,rfl,by simp⟩
 |some p=>
  obtain⟨t0,j0⟩:=p
  rw[ho]at dA
  simp only at dA
  have hr0:=bR t0 j0 ho
  rw[aa dA]
  simp only
  generalize hrs:oX s s.length.succ j0 t0=res
  refine dz (λm x=>∃ (j:Nat) (t:Rx) (bM:Nat),x=((kst s j d,()),(t.post,()))/\Res s i t j/\s.length-j<bM/\m=s.length-j/\oX s bM j t=res) (OkP s d 0 res) ?_ N0 (s.length-j0) _ (by unfold N0;omega) ⟨j0,t0,_,rfl,hr0,by omega,rfl,hrs⟩
  rintro m x ⟨j,t,bM,rfl,hr,hf,hm,hl⟩ k hk
  obtain⟨bM,rfl⟩:∃ q,bM=q+1:=⟨bM-1,by omega⟩
  simp only[oX]at hl
  simp only[bA,cond_true]
  have Dz:∀ kk:Int,(kk=4\/kk=5\/kk=6)->qS N0 (kk,([t.post],()))=some (((Rx.rep kk t).post,()),()):=λkk hkk=>by
   rw[Dy hkk (by rw[t.aN];obtain⟨_,h1,h2,_⟩:=hr;omega)]
   rfl
  have go:j<s.length->∀ kk:Int,kk=gC (ch s j)->oX s bM (j+1) (.rep (gC (ch s j)) t)=res->OkP s d 0 res (k ((kst s (j+1) d,()),((Rx.rep kk t).post,()))):=by
   intro hlt kk hkk hl
   obtain⟨h1,h2,h3,h4⟩:=hr
   exact hk (s.length-(j+1)) _ (by omega) ⟨j+1,.rep kk t,bM,rfl,⟨by omega,by omega,by simp only[Rx.len];omega,by rw[hkk];exact oZ _,h4⟩,by omega,rfl,by rw[hkk];exact hl⟩
  rw[aa (o0 j d 42)]
  simp only
  by_cases hc:j<s.length/\ch s j∈([42,43,63]:List Int)
  ·rw[if_pos hc]at hl
   obtain⟨hlt,mg⟩:=hc
   by_cases h1:ch s j=42
   ·rw[fa hlt h1]
    simp only[cond_true,if_true]
    rw[aa (Dz 4 (by omega))]
    exact go hlt 4 (by rw[h1];rfl) hl
   ·rw[gD h1]
    simp only[cond_false,aE,if_false]
    rw[aa (o0 j d 43)]
    simp only
    by_cases h2:ch s j=43
    ·rw[fa hlt h2]
     simp only[cond_true,if_true]
     rw[aa (Dz 5 (by omega))]
     exact go hlt 5 (by rw[h2];rfl) hl
    ·rw[gD h2]
     simp only[cond_false,aE,if_false]
     rw[aa (o0 j d 63)]
     simp only
     have h3:ch s j=63:=by simpa [h1,h2]using mg
     rw[fa hlt h3]
     simp only[cond_true,if_true]
     rw[aa (Dz 6 (by omega))]
     exact go hlt 6 (by rw[h3];rfl) hl
  ·rw[if_neg hc]at hl
   have hno:∀ c:Int,c∈([42,43,63]:List Int)->eC s j c=false:=by
    intro c hcm
    unfold eC
    rw[ij,decide_eq_false_iff_not,decide_eq_false_iff_not]
    by_cases h:j<s.length
    ·exact .inr λh2=>hc ⟨h,h2 ▸ hcm⟩
    ·exact .inl h
   rw[hno 42 (by simp)]
   simp only[cond_false,aE,if_false]
   rw[aa (o0 j d 43)]
   simp only
   rw[hno 43 (by simp)]
   simp only[cond_false,aE,if_false]
   rw[aa (o0 j d 63)]
   simp only
   rw[hno 63 (by simp)]
   simp only[cond_false,aE,if_false]
   subst hl
   rfl
theorem I8{s:List Int}(hb:Bytes s)(hs:s.length<=1600){q2 q3 q4 q5:RdF}{inner:Nat->Nat->Option (Rx×Nat)}{i d:Nat}(hi:i<=s.length)
 (bh:∀ j,i<=j->j<=s.length->OkP s d 0 (jl inner s j d) (q4 (kst s j d,()))) (bR:∀ j,i<=j->iW s j (jl inner s j d)):
 OkP s d (2*(s.length-i)) (jV inner s i d) (vU N0 q2 q3 q4 q5 (kst s i d,())):=by
 have hsm:s.length<=maxLen:=by unfold maxLen;omega
 unfold vU
 dsimp only
 unfold jV
 have dA:=bh i (ar _) hi
 unfold OkP at dA
 cases ho:jl inner s i d with
 |none=>
  rw[ho]at dA
  obtain⟨r,k,hq,hrl⟩:=dA
  rw[aa hq]
  refine dz (λm x=>m=0/\x=((k,()),(r,(false,())))) (OkP s d (2*(s.length-i)) none) ?_ N0 0 _ (by unfold N0;omega) ⟨rfl,rfl⟩
  rintro m x ⟨_,rfl⟩ k hk
  simp only[bA,cond_false]
  exact⟨_,_,rfl,by omega⟩
 |some p=>
  obtain⟨t0,j0⟩:=p
  rw[ho]at dA
  simp only at dA
  have hr0:=bR i (ar _) t0 j0 ho
  rw[aa dA]
  simp only
  generalize hrs:pM inner s d s.length.succ j0 t0=res
  refine dz (λm x=>(∃ (j:Nat) (t:Rx) (bM:Nat),x=((kst s j d,()),(t.post,(true,())))/\Res s i t j/\s.length-j<bM/\m=s.length-j+1/\pM inner s d bM j t=res)\/(∃ r k,x=((k,()),(r,(false,())))/\r.length<=2*(s.length-i)/\res=none/\m=0)) (OkP s d (2*(s.length-i)) res) ?_ N0 (s.length-j0+1) _ (by unfold N0;omega) (.inl ⟨j0,t0,_,rfl,hr0,by omega,rfl,hrs⟩)
  rintro m x (⟨j,t,bM,rfl,hr,hf,hm,hl⟩|⟨r,kk,rfl,hrl,rfl,rfl⟩) k hk
  ·obtain⟨bM,rfl⟩:∃ q,bM=q+1:=⟨bM-1,by omega⟩
   simp only[pM]at hl
   simp only[bA,cond_true]
   rw[aa (nD s hsm j d [124,41] (by simp[maxLen]))]
   simp only
   have hc:nC s j [124,41]=decide (¬(j<s.length/\ch s j∉([124,41]:List Int))):=by
    unfold nC
    rw[cY,aR,decide_eq_true_eq,decide_eq_true_eq,fJ]
    simp only[aH,bP,or_false,decide_eq_true_eq]
    constructor
    ·rintro(h|⟨c,hc,h⟩)
     ·omega
     ·rintro⟨_,h2⟩;exact h2 (by rw[h];exact hc)
    ·intro h
     by_cases hj:j<s.length
     ·right
      refine⟨ch s j,?_,rfl⟩
      by_cases h2:ch s j=124\/ch s j=41
      ·exact h2
      ·exact absurd ⟨hj,h2⟩ h
     ·left;omega
   rw[hc]
   by_cases hgo:j<s.length/\ch s j∉([124,41]:List Int)
   ·rw[if_pos hgo]at hl
    rw[decide_eq_false (by simpa using hgo)]
    simp only[aG,cond_true]
    obtain⟨g1,g2,g3,g4⟩:=hr
    have hq:=bh j (by omega) (by omega)
    unfold OkP at hq
    cases h2:jl inner s j d with
    |none=>
     rw[h2]at hq hl
     obtain⟨r,kx,hq,hrl⟩:=hq
     rw[aa hq]
     simp only
     have hr0:r=[]:=cX (by omega)
     subst hr0
     rw[aa (nG (.inl rfl) (by rw[t.aN];omega) (by simp))]
     exact hk 0 _ (by omega) (.inr ⟨_,_,rfl,by simp[t.aN];omega,hl.symm,rfl⟩)
    |some p=>
     obtain⟨t2,j2⟩:=p
     rw[h2]at hq hl
     simp only at hq hl
     obtain⟨f1,f2,f3,f4⟩:=bR j (by omega) t2 j2 h2
     rw[aa hq]
     simp only
     rw[aa (nG (.inl rfl) (by rw[t.aN];omega) (by rw[t2.aN];omega))]
     exact hk (s.length-j2+1) _ (by omega) (.inl ⟨j2,.cat t t2,bM,rfl,⟨by omega,by omega,by simp only[Rx.len];omega,g4,f4⟩,by omega,rfl,hl⟩)
   ·rw[if_neg hgo]at hl
    rw[decide_eq_true hgo]
    simp only[az,cond_false]
    subst hl
    rfl
  ·simp only[bA,cond_false]
   exact⟨_,_,rfl,hrl⟩
theorem I9{s:List Int}(hb:Bytes s)(hs:s.length<=1600){q2 q3 q4 q5:RdF}{inner:Nat->Nat->Option (Rx×Nat)}{i d:Nat}(hi:i<=s.length)
 (tZ:∀ j,i<=j->j<=s.length->OkP s d (2*(s.length-j)) (jV inner s j d) (q3 (kst s j d,()))) (bR:∀ j,i<=j->iW s j (jV inner s j d)):
 OkP s d (2*(s.length-i)) (xN inner s i d) (vT N0 q2 q3 q4 q5 (kst s i d,())):=by
 have hsm:s.length<=maxLen:=by unfold maxLen;omega
 have o0:=ma s hsm
 unfold vT
 dsimp only
 unfold xN
 have dA:=tZ i (ar _) hi
 unfold OkP at dA
 cases ho:jV inner s i d with
 |none=>
  rw[ho]at dA
  obtain⟨r,k,hq,hrl⟩:=dA
  rw[aa hq]
  refine dz (λm x=>m=0/\x=((k,()),(r,(false,())))) (OkP s d (2*(s.length-i)) none) ?_ N0 0 _ (by unfold N0;omega) ⟨rfl,rfl⟩
  rintro m x ⟨_,rfl⟩ k hk
  simp only[bA,cond_false]
  exact⟨_,_,rfl,by omega⟩
 |some p=>
  obtain⟨t0,j0⟩:=p
  rw[ho]at dA
  simp only at dA
  have hr0:=bR i (ar _) t0 j0 ho
  rw[aa dA]
  simp only
  generalize hrs:pN inner s d s.length.succ j0 t0=res
  refine dz (λm x=>(∃ (j:Nat) (t:Rx) (bM:Nat),x=((kst s j d,()),(t.post,(true,())))/\Res s i t j/\s.length-j<bM/\m=s.length-j+1/\pN inner s d bM j t=res)\/(∃ r k,x=((k,()),(r,(false,())))/\r.length<=2*(s.length-i)/\res=none/\m=0)) (OkP s d (2*(s.length-i)) res) ?_ N0 (s.length-j0+1) _ (by unfold N0;omega) (.inl ⟨j0,t0,_,rfl,hr0,by omega,rfl,hrs⟩)
  rintro m x (⟨j,t,bM,rfl,hr,hf,hm,hl⟩|⟨r,kk,rfl,hrl,rfl,rfl⟩) k hk
  ·obtain⟨bM,rfl⟩:∃ q,bM=q+1:=⟨bM-1,by omega⟩
   simp only[pN]at hl
   simp only[bA,cond_true]
   rw[aa (o0 j d 124)]
   simp only
   by_cases hgo:j<s.length/\ch s j=124
   ·rw[if_pos hgo]at hl
    rw[fa hgo.1 hgo.2]
    simp only[if_true,cond_true]
    obtain⟨g1,g2,g3,g4⟩:=hr
    have hq:=tZ (j+1) (by omega) (by omega)
    unfold OkP at hq
    cases h2:jV inner s (j+1) d with
    |none=>
     rw[h2]at hq hl
     obtain⟨r,kx,hq,hrl⟩:=hq
     rw[aa hq]
     simp only
     rw[aa (nG (.inr rfl) (by rw[t.aN];omega) (by omega))]
     exact hk 0 _ (by omega) (.inr ⟨_,_,rfl,by simp[t.aN];omega,hl.symm,rfl⟩)
    |some p=>
     obtain⟨t2,j2⟩:=p
     rw[h2]at hq hl
     simp only at hq hl
     obtain⟨f1,f2,f3,f4⟩:=bR (j+1) (by omega) t2 j2 h2
     rw[aa hq]
     simp only
     rw[aa (nG (.inr rfl) (by rw[t.aN];omega) (by rw[t2.aN];omega))]
     exact hk (s.length-j2+1) _ (by omega) (.inl ⟨j2,.alt t t2,bM,rfl,⟨by omega,by omega,by simp only[Rx.len];omega,g4,f4⟩,by omega,rfl,hl⟩)
   ·rw[if_neg hgo]at hl
    have:eC s j 124=false:=by
     unfold eC
     rw[ij,decide_eq_false_iff_not,decide_eq_false_iff_not]
     by_cases h:j<s.length
     ·exact .inr λh2=>hgo ⟨h,h2⟩
     ·exact .inl h
    rw[this]
    simp only[aE,if_false,cond_false]
    subst hl
    rfl
  ·simp only[bA,cond_false]
   exact⟨_,_,rfl,hrl⟩
end
end Go.Proofs.YtphipehmbefejaaGreat.Rf
