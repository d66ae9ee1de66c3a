/- A part of a proof that deriveTrees_holds: the given statement DeriveTreesSaid is true of the program, with no condition ahead of it. Printed by wip/dev/pack2.py out of the texts in wip. -/
import Derived.Test.YthalkfdkbalpmaaGreatW3
set_option linter.unusedVariables false
set_option linter.unusedSimpArgs false
namespace Go.Proofs.YthalkfdkbalpmaaGreat.Rf
open Go
noncomputable section
def ua(v1:Nat)(v2:(((List Int)×Int×Int)×(List Int)×Unit)):T58:=bif decide ((v2.1.1.length:Int)<=v2.1.2.1)then some ((true,()),v2.1,())else ap (λ(v3:((((List Int)×Int×Int)×Unit)×Int×Unit))=>λv4=>bif decide (v3.2.1<(v2.2.1.length:Int))then if 0<=v3.1.1.2.1 then(match v3.1.1.1[(v3.1.1.2.1).toNat]? with|some v5=>if 0<=v3.2.1 then(match v2.2.1[(v3.2.1).toNat]? with|some v6=>bif decide (v5=v6)then some ((true,()),v3.1.1,())else v4 ((v3.1.1,()),IntKind.wrap .i64 (v3.2.1+1),())|none=>none)else none|none=>none)else none else some ((false,()),v3.1.1,())) v1 ((v2.1,()),0,())
def F171(n:Nat):Fb 171:=fb n [] [] [] [] Tryz.func171 Tryz.results171 Tryz.ntmps171 (.seq .nop (.seq .nop (.seq (.seq .nop (.block none (.loop ⟨[(6,.box iM,.own .ro)],[.val 18 y2],[0,1,17]⟩ .nop))) .nop))) [(.box iM,.own .ro),(y9,.ro)] A16 [0] A7 (ua n)
def ki(v1:Nat)(v2:(((List Int)×Int×Int)×Int×Unit)):T58:=aj (λ(v3:T50)=>bif v3.2.1 then some ((true,()),(v3.1.1.1,IntKind.wrap .i64 (v3.1.1.2.1+1),v3.1.1.2.2),())else some ((false,()),v3.1.1,())) (λv4=>bif decide (v2.1.2.1<(v2.1.1.length:Int))then if 0<=v2.1.2.1 then(match v2.1.1[(v2.1.2.1).toNat]? with|some v5=>v4 ((v2.1,()),decide (v5=v2.2.1),())|none=>none)else none else v4 ((v2.1,()),false,()))
def F158(n:Nat):Fb 158:=fb n [] [] [] [] Tryz.func158 Tryz.results158 Tryz.ntmps158 (.seq .nop (.seq (.seq (.reg (some ⟨[(6,.box iM,.own .ro)],[.val 27 y4],[0]⟩) []) .nop) .nop)) [(.box iM,.own .ro),(y5,.ro)] A16 [0] A7 (ki n)
def Fz(v1:Nat)(v2:Unit):T30:=if(0:Int)<=(0:Int)then(match([0,0,0,0]:List Int)[(0:Int).toNat]? with|some v3=>if(0:Int)<=(1:Int)then(match(List.set ([0,0,0,0]:List Int) (0:Int).toNat (18446744073709551615:Int))[(1:Int).toNat]? with|some v4=>if(0:Int)<=(2:Int)then(match(List.set (List.set ([0,0,0,0]:List Int) (0:Int).toNat (18446744073709551615:Int)) (1:Int).toNat (18446744073709551615:Int))[(2:Int).toNat]? with|some v5=>if(0:Int)<=(3:Int)then(match(List.set (List.set (List.set ([0,0,0,0]:List Int) (0:Int).toNat (18446744073709551615:Int)) (1:Int).toNat (18446744073709551615:Int)) (2:Int).toNat (18446744073709551615:Int))[(3:Int).toNat]? with|some v6=>some ((List.set (List.set (List.set (List.set ([0,0,0,0]:List Int) (0:Int).toNat (18446744073709551615:Int)) (1:Int).toNat (18446744073709551615:Int)) (2:Int).toNat (18446744073709551615:Int)) (3:Int).toNat (18446744073709551615:Int),()),())|none=>none)else none|none=>none)else none|none=>none)else none|none=>none)else none
def F184(n:Nat):Fb 184:=fb n [] [] [] [] Tryz.func184 Tryz.results184 Tryz.ntmps184 (.seq .nop (.seq (.reg none [0]) .nop)) [] A13 [] [] (Fz n)
def wB(v1:Nat)(v2:T1):T12:=aj (λ(v3:T3)=>bif v3.2.1 then some ((IntKind.wrap .i64 (IntKind.wrap .u8 (v2.1-48)),()),())else aj (λ(v4:T3)=>bif v4.2.1 then some ((IntKind.wrap .i64 ((IntKind.wrap .i64 (IntKind.wrap .u8 (v2.1-97)))+10),()),())else some ((-1,()),())) (λv5=>bif decide (97<=v2.1)then v5 ((),decide (v2.1<=102),())else v5 ((),false,()))) (λv6=>bif decide (48<=v2.1)then v6 ((),decide (v2.1<=57),())else v6 ((),false,()))
def F193(n:Nat):Fb 193:=fb n [] [] [] [] Tryz.func193 Tryz.results193 Tryz.ntmps193 (.seq .nop (.seq (.block none (.seq (.reg (some ⟨[],[.val 3 y4],[0]⟩) []) (.cond none .nop (.seq (.reg (some ⟨[],[.val 13 y4],[0]⟩) []) .nop)))) .nop)) [(y5,.ro)] A17 [] [] (wB n)
def FA(v1:Nat)(v2:T4):T36:=bif decide (v2.1=([]:List Int))then some ((0,0,false,()),())else if(0:Int)<=(0:Int)then(match v2.1[(0:Int).toNat]? with|some v3=>bif !(decide (v3=92))then if(0:Int)<=(0:Int)then(match v2.1[(0:Int).toNat]? with|some v4=>some ((v4,1,true,()),())|none=>none)else none else bif decide ((v2.1.length:Int)<2)then some ((0,0,false,()),())else if(0:Int)<=(1:Int)then(match v2.1[(1:Int).toNat]? with|some v5=>aj (λ(v6:(Unit×Unit))=>some ((0,0,false,()),())) (λv7=>bif decide (v5=110)then some ((10,2,true,()),())else bif decide (v5=116)then some ((9,2,true,()),())else bif decide (v5=114)then some ((13,2,true,()),())else bif decide (v5=120)then aj (λ(v8:T3)=>bif v8.2.1 then if(0:Int)<=(2:Int)then(match v2.1[(2:Int).toNat]? with|some v9=>ae (wB v1 (v9,())) (λ(v10:T5)=>if(4:Int)<0 then none else if(0:Int)<=(3:Int)then(match v2.1[(3:Int).toNat]? with|some v11=>ae (wB v1 (v11,())) (λ(v12:T5)=>some ((IntKind.wrap .u8 (ek .or .i64 (IntKind.wrap .i64 (v10.1.1*2 ^ (Nat.min (Int.toNat (4:Int)) (IntKind.bits .i64)))) v12.1.1),4,true,()),()))|none=>none)else none)|none=>none)else none else v7 ((),())) (λv13=>bif decide (4<=(v2.1.length:Int))then if(0:Int)<=(2:Int)then(match v2.1[(2:Int).toNat]? with|some v14=>ae (wB v1 (v14,())) (λ(v15:T5)=>bif decide (0<=v15.1.1)then if(0:Int)<=(3:Int)then(match v2.1[(3:Int).toNat]? with|some v16=>ae (wB v1 (v16,())) (λ(v17:T5)=>v13 ((),decide (0<=v17.1.1),()))|none=>none)else none else v13 ((),false,()))|none=>none)else none else v13 ((),false,()))else bif decide (v5=0)then v7 ((),())else aj (λ(v18:T3)=>bif v18.2.1 then some ((0,0,false,()),())else some ((v5,2,true,()),())) (λv19=>bif decide (48<=v5)then bif decide (v5<=57)then v19 ((),true,())else bif decide (97<=v5)then bif decide (v5<=122)then v19 ((),true,())else bif decide (65<=v5)then bif decide (v5<=90)then v19 ((),true,())else bif decide (v5<32)then v19 ((),true,())else v19 ((),decide (126<v5),())else bif decide (v5<32)then v19 ((),true,())else v19 ((),decide (126<v5),())else bif decide (65<=v5)then bif decide (v5<=90)then v19 ((),true,())else bif decide (v5<32)then v19 ((),true,())else v19 ((),decide (126<v5),())else bif decide (v5<32)then v19 ((),true,())else v19 ((),decide (126<v5),())else bif decide (97<=v5)then bif decide (v5<=122)then v19 ((),true,())else bif decide (65<=v5)then bif decide (v5<=90)then v19 ((),true,())else bif decide (v5<32)then v19 ((),true,())else v19 ((),decide (126<v5),())else bif decide (v5<32)then v19 ((),true,())else v19 ((),decide (126<v5),())else bif decide (65<=v5)then bif decide (v5<=90)then v19 ((),true,())else bif decide (v5<32)then v19 ((),true,())else v19 ((),decide (126<v5),())else bif decide (v5<32)then v19 ((),true,())else v19 ((),decide (126<v5),())))|none=>none)else none|none=>none)else none
def F191(n:Nat):Fb 191:=fb n [⟨_,F193 n⟩] [] [] [] Tryz.func191 Tryz.results191 Tryz.ntmps191 (.seq .nop (.seq .nop (.seq .nop (.seq (.seq .nop (.block none (.seq (.block (some ⟨[],[],[]⟩) (.seq .nop (.seq (.reg (some ⟨[],[.val 46 y4],[0]⟩) []) .nop))) .nop))) (.seq (.seq (.reg (some ⟨[],[.val 85 y4],[5]⟩) []) .nop) .nop))))) A18 [(y5,.ro),(y2,.ro),(y4,.ro)] [] [] (FA n)
def z5(v1:Nat)(v2:T19):Option ((Int×Bool×Unit)×((List Int)×Int×Int)×Unit):=if 0<=v2.1.2.1/\v2.1.2.1<=(v2.1.1.length:Int)/\(v2.1.1.length:Int)<=(v2.1.1.length:Int)then ae (FA v1 (aY v2.1.1 v2.1.2.1 (v2.1.1.length:Int),())) (λ(v3:T18)=>some ((v3.1.1,v3.1.2.2.1,()),(v2.1.1,IntKind.wrap .i64 (v2.1.2.1+v3.1.2.1),v2.1.2.2),()))else none
def F186(n:Nat):Fb 186:=fb n [⟨_,F191 n⟩] [] [] [] Tryz.func186 Tryz.results186 Tryz.ntmps186 (.nop) A7 [(y5,.ro),(y4,.ro)] [0] A7 (z5 n)
def Cu(v1:Nat)(v2:(Int×Int×Unit)):T30:=ap (λ(v3:T48)=>λv4=>bif decide (v3.2.1<=(IntKind.wrap .i64 v2.2.1))then if(64:Int)=0 then none else if 0<=(IntKind.wrap .i64 (Int.tdiv v3.2.1 64))then(match v3.1.2.1[(IntKind.wrap .i64 (Int.tdiv v3.2.1 64)).toNat]? with|some v5=>if(64:Int)=0 then none else if(IntKind.wrap .u64 (Int.tmod v3.2.1 64))<0 then none else if 0<=(IntKind.wrap .i64 (Int.tdiv v3.2.1 64))then(match v3.1.2.1[(IntKind.wrap .i64 (Int.tdiv v3.2.1 64)).toNat]? with|some v6=>if 0<=(IntKind.wrap .i64 (Int.tdiv v3.2.1 64))then(match v3.1.2.1[(IntKind.wrap .i64 (Int.tdiv v3.2.1 64)).toNat]? with|some v7=>v4 ((v3.1.1,List.set v3.1.2.1 (IntKind.wrap .i64 (Int.tdiv v3.2.1 64)).toNat (ek .or .u64 v5 (IntKind.wrap .u64 ((1:Int)*2 ^ (Nat.min (Int.toNat (IntKind.wrap .u64 (Int.tmod v3.2.1 64))) (IntKind.bits .u64))))),()),IntKind.wrap .i64 (v3.2.1+1),())|none=>none)else none|none=>none)else none|none=>none)else none else some ((v3.1.2.1,()),())) v1 ((([0,0,0,0]:List Int),([0,0,0,0]:List Int),()),IntKind.wrap .i64 v2.1,())
def F189(n:Nat):Fb 189:=fb n [] [] [] [] Tryz.func189 Tryz.results189 Tryz.ntmps189 (.seq .nop (.seq .nop (.seq (.seq .nop (.block none (.loop ⟨[(32,.box cX,.own .ro),(40,.box cX,.own .ro)],[.val 6 y2],[1,4,5]⟩ .nop))) (.seq (.rgf none [5] [4]) .nop)))) [(y5,.ro),(y5,.ro)] A13 [] [] (Cu n)
def Cv(v1:Nat)(v2:T20):T30:=ap (λ(v3:T48)=>λv4=>bif decide (v3.2.1<4)then if 0<=v3.2.1 then(match v3.1.1[(v3.2.1).toNat]? with|some v5=>if 0<=v3.2.1 then(match v2.2.1[(v3.2.1).toNat]? with|some v6=>if 0<=v3.2.1 then(match v3.1.1[(v3.2.1).toNat]? with|some v7=>if 0<=v3.2.1 then(match v3.1.1[(v3.2.1).toNat]? with|some v8=>v4 ((List.set v3.1.1 (v3.2.1).toNat (ek .or .u64 v5 v6),v3.1.2.1,()),IntKind.wrap .i64 (v3.2.1+1),())|none=>none)else none|none=>none)else none|none=>none)else none|none=>none)else none else some ((v3.1.1,()),())) v1 ((v2.1,([0,0,0,0]:List Int),()),0,())
def F188(n:Nat):Fb 188:=fb n [] [] [] [] Tryz.func188 Tryz.results188 Tryz.ntmps188 (.seq (.reg none [3]) (.seq (.seq .nop (.block none (.loop ⟨[(16,.box cX,.own .ro),(32,.box cX,.own .ro)],[.val 6 y2],[2,3,4]⟩ .nop))) (.seq (.rgf none [2] [4]) .nop))) [(cX,.ro),(cX,.ro)] A13 [] [] (Cv n)
def FB(v1:Nat)(v2:T20):T30:=ap (λ(v3:T48)=>λv4=>bif decide (v3.2.1<4)then if 0<=v3.2.1 then(match v3.1.1[(v3.2.1).toNat]? with|some v5=>if 0<=v3.2.1 then(match v2.2.1[(v3.2.1).toNat]? with|some v6=>if 0<=v3.2.1 then(match v3.1.1[(v3.2.1).toNat]? with|some v7=>if 0<=v3.2.1 then(match v3.1.1[(v3.2.1).toNat]? with|some v8=>v4 ((List.set v3.1.1 (v3.2.1).toNat (ek .andNot .u64 v5 v6),v3.1.2.1,()),IntKind.wrap .i64 (v3.2.1+1),())|none=>none)else none|none=>none)else none|none=>none)else none|none=>none)else none else some ((v3.1.1,()),())) v1 ((v2.1,([0,0,0,0]:List Int),()),0,())
def F192(n:Nat):Fb 192:=fb n [] [] [] [] Tryz.func192 Tryz.results192 Tryz.ntmps192 (.seq (.reg none [3]) (.seq (.seq .nop (.block none (.loop ⟨[(16,.box cX,.own .ro),(32,.box cX,.own .ro)],[.val 6 y2],[2,3,4]⟩ .nop))) (.seq (.rgf none [2] [4]) .nop))) [(cX,.ro),(cX,.ro)] A13 [] [] (FB n)
def FC(v1:Nat)(v2:T4):T30:=ae (Fz v1 ()) (λ(v3:T13)=>ae (FB v1 (v3.1.1,v2.1,())) (λ(v4:T13)=>some ((v4.1.1,()),())))
def F190(n:Nat):Fb 190:=fb n [⟨_,F184 n⟩,⟨_,F192 n⟩] [] [] [] Tryz.func190 Tryz.results190 Tryz.ntmps190 (.seq (.reg none [1]) (.seq (.reg none [2]) .nop)) A13 A13 [] [] (FC n)
theorem HD:qU Tryz.prog 215:=⟨by kernel_rfl,by kernel_rfl,by kernel_rfl⟩
def na(v1:Nat)(v2:T4):T14:=some ((decide (v2.1=([0,0,0,0]:List Int)),()),())
def F161(n:Nat):Fb 161:=fb n [] [] [] [⟨_,HD⟩] Tryz.func161 Tryz.results161 Tryz.ntmps161 (.seq (.reg none [1]) .nop) A13 A16 [] [] (na n)
def FD(v1:Nat)(v2:T19):T72:=ae (ki v1 (v2.1,94,())) (λ(v3:T51)=>ap (λ(v4:T57)=>λv5=>ae (ua v1 (v4.1.1,([93]:List Int),())) (λ(v6:T51)=>bif !v6.1.1 then ae (ua v1 (v6.2.1,([94,45,47,34]:List Int),())) (λ(v7:T51)=>bif v7.1.1 then some ((([]:List (Int×(List Int))),false,()),v7.2.1,())else ae (z5 v1 (v7.2.1,())) (λ(v8:T56)=>bif !v8.1.2.1 then some ((([]:List (Int×(List Int))),false,()),v8.2.1,())else ae (ki v1 (v8.2.1,45,())) (λ(v9:T51)=>aj (λ(v10:((((List Int)×Int×Int)×(List Int)×Unit)×Int×Unit))=>ae (Cu v1 (v8.1.1,v10.2.1,())) (λ(v11:T13)=>ae (Cv v1 (v10.1.2.1,v11.1.1,())) (λ(v12:T13)=>v5 ((v10.1.1,v12.1.1,()),())))) (λv13=>bif v9.1.1 then ae (ua v1 (v9.2.1,([93,94,45,47,34]:List Int),())) (λ(v14:T51)=>bif v14.1.1 then some ((([]:List (Int×(List Int))),false,()),v14.2.1,())else ae (z5 v1 (v14.2.1,())) (λ(v15:T56)=>aj (λ(v16:((((List Int)×Int×Int)×(List Int)×Unit)×Bool×Unit))=>bif v16.2.1 then some ((([]:List (Int×(List Int))),false,()),v16.1.1,())else v13 ((v16.1.1,v16.1.2.1,()),v15.1.1,())) (λv17=>bif !v15.1.2.1 then v17 ((v15.2.1,v4.1.2.1,()),true,())else v17 ((v15.2.1,v4.1.2.1,()),decide (v15.1.1<v8.1.1),()))))else v13 ((v9.2.1,v4.1.2.1,()),v8.1.1,())))))else aj (λ(v18:T57)=>aj (λ(v19:T68)=>some ((v19.2.1,v19.2.2.1,()),v19.1.1,())) (λv20=>ae (ki v1 (v18.1.1,93,())) (λ(v21:T51)=>bif v21.1.1 then ae (na v1 (v18.1.2.1,())) (λ(v22:T6)=>v20 ((v21.2.1,()),([(1,v18.1.2.1)]:List (Int×(List Int))),!v22.1.1,()))else v20 ((v21.2.1,()),([(1,v18.1.2.1)]:List (Int×(List Int))),false,())))) (λv23=>bif v3.1.1 then ae (FC v1 (v4.1.2.1,())) (λ(v24:T13)=>v23 ((v6.2.1,v24.1.1,()),()))else v23 ((v6.2.1,v4.1.2.1,()),())))) v1 ((v3.2.1,([0,0,0,0]:List Int),()),()))
def F185(n:Nat):Fb 185:=fb n [⟨_,F158 n⟩,⟨_,F171 n⟩,⟨_,F186 n⟩,⟨_,F189 n⟩,⟨_,F188 n⟩,⟨_,F190 n⟩,⟨_,F161 n⟩] [] [] [] Tryz.func185 Tryz.results185 Tryz.ntmps185 (.seq .nop (.seq .nop (.seq .nop (.seq (.block none (.loop ⟨[(6,.box iM,.own .ro),(40,.box cX,.own .ro)],[],[0,4,5]⟩ (.seq .nop (.block none (.seq .nop (.seq .nop (.seq .nop (.seq .nop (.seq (.seq .nop (.cond (some ⟨[(6,.box iM,.own .ro),(40,.box cX,.own .ro)],[.val 8 y5],[0,4,5,6]⟩) (.seq .nop (.seq .nop (.seq (.reg (some ⟨[(6,.box iM,.own .ro),(40,.box cX,.own .ro)],[.val 39 y4],[0,4,5,6,8]⟩) []) .nop))) .nop)) .nop))))))))) (.seq (.seq .nop (.cond (some ⟨[(6,.box iM,.own .ro),(40,.box cX,.own .ro)],[],[0,5]⟩) .nop .nop)) (.seq (.rgf (some ⟨[(6,.box iM,.own .ro)],[.hdr 2 23 jy (.own .ro),.val 3 y4],[0]⟩) [5] []) .nop)))))) A7 A8 [0] A7 (FD n)
def FE(v1:Nat)(v2:T4):T30:=ap (λ(v3:T48)=>λv4=>bif decide (v3.2.1<(v2.1.length:Int))then if 0<=v3.2.1 then(match v2.1[(v3.2.1).toNat]? with|some v5=>if(64:Int)=0 then none else if 0<=(IntKind.wrap .u8 (Int.tdiv v5 64))then(match v3.1.2.1[(IntKind.wrap .u8 (Int.tdiv v5 64)).toNat]? with|some v6=>if(64:Int)=0 then none else if(Int.tmod v5 64)<0 then none else if 0<=(IntKind.wrap .u8 (Int.tdiv v5 64))then(match v3.1.2.1[(IntKind.wrap .u8 (Int.tdiv v5 64)).toNat]? with|some v7=>if 0<=(IntKind.wrap .u8 (Int.tdiv v5 64))then(match v3.1.2.1[(IntKind.wrap .u8 (Int.tdiv v5 64)).toNat]? with|some v8=>v4 ((v3.1.1,List.set v3.1.2.1 (IntKind.wrap .u8 (Int.tdiv v5 64)).toNat (ek .or .u64 v6 (IntKind.wrap .u64 ((1:Int)*2 ^ (Nat.min (Int.toNat (Int.tmod v5 64)) (IntKind.bits .u64))))),()),IntKind.wrap .i64 (v3.2.1+1),())|none=>none)else none|none=>none)else none|none=>none)else none|none=>none)else none else some ((v3.1.2.1,()),())) v1 ((([0,0,0,0]:List Int),([0,0,0,0]:List Int),()),0,())
def F187(n:Nat):Fb 187:=fb n [] [] [] [] Tryz.func187 Tryz.results187 Tryz.ntmps187 (.seq .nop (.seq .nop (.seq (.seq .nop (.block none (.loop ⟨[(16,.box cX,.own .ro),(24,.box cX,.own .ro)],[.val 8 y2],[2,3,6,7]⟩ .nop))) (.seq (.rgf none [3] [2]) .nop)))) [(tY,.ro)] A13 [] [] (FE n)
def ub(v1:Nat)(v2:T1):T12:=aj (λ(v3:T3)=>bif v3.2.1 then some ((0,()),())else aj (λ(v4:T3)=>bif v4.2.1 then some ((1,()),())else aj (λ(v5:T3)=>bif v5.2.1 then some ((2,()),())else some ((-1,()),())) (λv6=>bif decide (v2.1=2)then v6 ((),decide (v2.1=2),())else v6 ((),decide (v2.1=3),()))) (λv7=>bif decide (v2.1=4)then v7 ((),decide (v2.1=4),())else aj (λ(v8:T3)=>v7 ((),v8.2.1,())) (λv9=>bif decide (v2.1=5)then v9 ((),decide (v2.1=5),())else v9 ((),decide (v2.1=6),())))) (λv10=>bif decide (v2.1=0)then v10 ((),decide (v2.1=0),())else v10 ((),decide (v2.1=1),()))
def F160(n:Nat):Fb 160:=fb n [] [] [] [] Tryz.func160 Tryz.results160 Tryz.ntmps160 (.seq .nop (.seq (.seq .nop (.block none (.seq (.seq .nop (.cond (some ⟨[],[.val 4 y4],[3]⟩) .nop .nop)) (.cond none .nop (.seq (.seq .nop (.cond (some ⟨[],[.val 7 y4],[3]⟩) .nop (.seq .nop (.cond (some ⟨[],[.val 7 y4],[3]⟩) .nop .nop)))) (.cond none .nop (.seq (.seq .nop (.cond (some ⟨[],[.val 11 y4],[]⟩) .nop .nop)) .nop))))))) .nop)) A17 A17 [] [] (ub n)
def oL(v1:Nat)(v2:(Int×(List (List (Int×(List Int))))×Unit)):Option (((List (Int×(List Int)))×Unit)×Unit):=aj (λ(v3:T3)=>bif v3.2.1 then some ((([]:List (Int×(List Int))),()),())else ap (λ(v4:(Unit×(List (Int×(List Int)))×Int×Unit))=>λv5=>bif decide (v4.2.2.1<(v2.2.1.length:Int))then if 0<=v4.2.2.1 then(match v2.2.1[(v4.2.2.1).toNat]? with|some v6=>if(List.length v4.2.1+List.length v6)*40<=140737488355328 then if List.length v4.2.1+List.length v6<=9223372036854775807 then v5 ((),v4.2.1++v6,IntKind.wrap .i64 (v4.2.2.1+1),())else none else none|none=>none)else none else if(List.length v4.2.1+List.length ([(v2.1,([0,0,0,0]:List Int))]:List (Int×(List Int))))*40<=140737488355328 then if List.length v4.2.1+List.length ([(v2.1,([0,0,0,0]:List Int))]:List (Int×(List Int)))<=9223372036854775807 then some ((v4.2.1++([(v2.1,([0,0,0,0]:List Int))]:List (Int×(List Int))),()),())else none else none) v1 ((),([]:List (Int×(List Int))),0,())) (λv7=>ae (ub v1 (v2.1,())) (λ(v8:T5)=>bif !(decide (v8.1.1=(v2.2.1.length:Int)))then v7 ((),true,())else v7 ((),decide ((v2.2.1.length:Int)=0),())))
def F159(n:Nat):Fb 159:=fb n [⟨_,F160 n⟩] [] [] [] Tryz.func159 Tryz.results159 Tryz.ntmps159 (.seq .nop (.seq (.seq (.reg (some ⟨[],[.val 17 y4],[0,1]⟩) []) .nop) (.seq .nop (.seq (.seq .nop (.block none (.loop ⟨[],[.hdr 5 47 jy (.own .ro),.val 20 y2],[0,18,19]⟩ .nop))) .nop)))) [(y2,.ro),(Fy,.ro)] [(jy,.ro)] [] [] (oL n)
abbrev z6:=Qt A7 A8 A7
abbrev I8(q:z6):Callee:=⟨_,_,[0],_,q⟩
theorem Cw:Plain Tryz.prog 145:=pl Tryz.func145
abbrev z7:=Qt A7 A8 A7
abbrev I9(q:z7):Callee:=⟨_,_,[0],_,q⟩
theorem Cy:Plain Tryz.prog 157:=pl Tryz.func157
abbrev z8:=Qt A7 A8 A7
abbrev Ja(q:z8):Callee:=⟨_,_,[0],_,q⟩
theorem Cz:Plain Tryz.prog 170:=pl Tryz.func170
abbrev z9:=Qt A7 A8 A7
abbrev Jb(q:z9):Callee:=⟨_,_,[0],_,q⟩
theorem CA:Plain Tryz.prog 181:=pl Tryz.func181
abbrev CB(jz:z6)(jA:z7)(jB:z8)(jC:z9):=di Tryz.prog 145 (I8 jz)/\di Tryz.prog 157 (I9 jA)/\di Tryz.prog 170 (Ja jB)/\di Tryz.prog 181 (Jb jC)
def uc(v1:Nat)(v2 v3 v4 v5:T76)(v6:T19):T72:=ae (v3 (v6.1,())) (λ(v7:T69)=>ap (λ(v8:T68)=>λv9=>aj (λ(v10:T50)=>bif v10.2.1 then ae (v3 (v10.1.1,())) (λ(v11:T69)=>ae (oL v1 (3,([v8.2.1,v11.1.1]:List (List (Int×(List Int)))),())) (λ(v12:T47)=>v9 ((v11.2.1,()),v12.1.1,v11.1.2.1,())))else some ((v8.2.1,v8.2.2.1,()),v10.1.1,())) (λv13=>bif v8.2.2.1 then ae (ki v1 (v8.1.1,124,())) (λ(v14:T51)=>v13 ((v14.2.1,()),v14.1.1,()))else v13 ((v8.1.1,()),false,()))) v1 ((v7.2.1,()),v7.1.1,v7.1.2.1,()))
theorem OM(n:Nat)(jz:z6)(jA:z7)(jB:z8)(jC:z9)(h:CB jz jA jB jC):di Tryz.prog 145 (I8 (uc n jz jA jB jC)):=(fb n [⟨_,F158 n⟩,⟨_,F159 n⟩,⟨_,⟨_,h.1,Cw⟩⟩,⟨_,⟨_,h.2.1,Cy⟩⟩,⟨_,⟨_,h.2.2.1,Cz⟩⟩,⟨_,⟨_,h.2.2.2,CA⟩⟩] [9,19] [] [] Tryz.func145 Tryz.results145 Tryz.ntmps145 (.seq .nop (.seq .nop (.seq (.block none (.loop ⟨[(6,.box iM,.own .ro)],[.val 4 jy,.val 5 y4],[0]⟩ (.seq (.seq (.reg (some ⟨[(6,.box iM,.own .ro)],[.val 16 y4],[0,4,5]⟩) []) .nop) .nop))) .nop))) A7 A8 [0] A7 (uc n jz jA jB jC)).o
def ud(v1:Nat)(v2 v3 v4 v5:T76)(v6:T19):T72:=ae (v4 (v6.1,())) (λ(v7:T69)=>ap (λ(v8:T68)=>λv9=>aj (λ(v10:T50)=>bif v10.2.1 then ae (v4 (v10.1.1,())) (λ(v11:T69)=>ae (oL v1 (2,([v8.2.1,v11.1.1]:List (List (Int×(List Int)))),())) (λ(v12:T47)=>v9 ((v11.2.1,()),v12.1.1,v11.1.2.1,())))else some ((v8.2.1,v8.2.2.1,()),v10.1.1,())) (λv13=>bif v8.2.2.1 then ae (ua v1 (v8.1.1,([124,41]:List Int),())) (λ(v14:T51)=>v13 ((v14.2.1,()),!v14.1.1,()))else v13 ((v8.1.1,()),false,()))) v1 ((v7.2.1,()),v7.1.1,v7.1.2.1,()))
theorem ON(n:Nat)(jz:z6)(jA:z7)(jB:z8)(jC:z9)(h:CB jz jA jB jC):di Tryz.prog 157 (I9 (ud n jz jA jB jC)):=(fb n [⟨_,F171 n⟩,⟨_,F159 n⟩,⟨_,⟨_,h.1,Cw⟩⟩,⟨_,⟨_,h.2.1,Cy⟩⟩,⟨_,⟨_,h.2.2.1,Cz⟩⟩,⟨_,⟨_,h.2.2.2,CA⟩⟩] [9,20] [] [] Tryz.func157 Tryz.results157 Tryz.ntmps157 (.seq .nop (.seq .nop (.seq (.block none (.loop ⟨[(6,.box iM,.own .ro)],[.val 4 jy,.val 5 y4],[0]⟩ (.seq (.seq (.reg (some ⟨[(6,.box iM,.own .ro)],[.val 17 y4],[0,4,5]⟩) []) .nop) .nop))) .nop))) A7 A8 [0] A7 (ud n jz jA jB jC)).o
def ue(v1:Nat)(v2 v3 v4 v5:T76)(v6:T19):T72:=ae (v5 (v6.1,())) (λ(v7:T69)=>ap (λ(v8:T63)=>λv9=>bif v7.1.2.1 then ae (ki v1 (v8.1.1,42,())) (λ(v10:T51)=>aj (λ(v11:T63)=>v9 ((v11.1.1,()),v11.2.1,())) (λv12=>bif v10.1.1 then ae (oL v1 (4,([v8.2.1]:List (List (Int×(List Int)))),())) (λ(v13:T47)=>v12 ((v10.2.1,()),v13.1.1,()))else ae (ki v1 (v10.2.1,43,())) (λ(v14:T51)=>aj (λ(v15:T63)=>v12 ((v15.1.1,()),v15.2.1,())) (λv16=>bif v14.1.1 then ae (oL v1 (5,([v8.2.1]:List (List (Int×(List Int)))),())) (λ(v17:T47)=>v16 ((v14.2.1,()),v17.1.1,()))else ae (ki v1 (v14.2.1,63,())) (λ(v18:T51)=>bif v18.1.1 then ae (oL v1 (6,([v8.2.1]:List (List (Int×(List Int)))),())) (λ(v19:T47)=>v16 ((v18.2.1,()),v19.1.1,()))else some ((v8.2.1,true,()),v18.2.1,()))))))else some ((([]:List (Int×(List Int))),false,()),v8.1.1,())) v1 ((v7.2.1,()),v7.1.1,()))
theorem OO(n:Nat)(jz:z6)(jA:z7)(jB:z8)(jC:z9)(h:CB jz jA jB jC):di Tryz.prog 170 (Ja (ue n jz jA jB jC)):=(fb n [⟨_,F158 n⟩,⟨_,F159 n⟩,⟨_,⟨_,h.1,Cw⟩⟩,⟨_,⟨_,h.2.1,Cy⟩⟩,⟨_,⟨_,h.2.2.1,Cz⟩⟩,⟨_,⟨_,h.2.2.2,CA⟩⟩] [8] [] [] Tryz.func170 Tryz.results170 Tryz.ntmps170 (.seq .nop (.seq .nop (.seq (.block none (.loop ⟨[(6,.box iM,.own .ro)],[.val 4 jy],[0,5]⟩ (.seq .nop (.block none (.block none (.seq .nop (.cond (some ⟨[(6,.box iM,.own .ro)],[.val 4 jy],[0,5]⟩) .nop (.seq .nop (.cond (some ⟨[(6,.box iM,.own .ro)],[.val 4 jy],[0,5]⟩) .nop .nop))))))))) .nop))) A7 A8 [0] A7 (ue n jz jA jB jC)).o
def uf(v1:Nat)(v2 v3 v4 v5:T76)(v6:T19):T72:=ae (ua v1 (v6.1,([124,41,42,43,63,93,47,34]:List Int),())) (λ(v7:T51)=>bif v7.1.1 then some ((([]:List (Int×(List Int))),false,()),v7.2.1,())else ae (ki v1 (v7.2.1,46,())) (λ(v8:T51)=>bif v8.1.1 then ae (Fz v1 ()) (λ(v9:T13)=>some ((([(1,v9.1.1)]:List (Int×(List Int))),true,()),v8.2.1,()))else ae (ki v1 (v8.2.1,126,())) (λ(v10:T51)=>bif v10.1.1 then some ((([(0,([0,0,0,0]:List Int))]:List (Int×(List Int))),true,()),v10.2.1,())else ae (ki v1 (v10.2.1,40,())) (λ(v11:T51)=>bif v11.1.1 then ae (v2 ((v11.2.1.1,v11.2.1.2.1,IntKind.wrap .i64 (v11.2.1.2.2+1)),())) (λ(v12:T69)=>aj (λ(v13:T68)=>some ((v13.2.1,v13.2.2.1,()),v13.1.1,())) (λv14=>bif v12.1.2.1 then bif decide ((IntKind.wrap .i64 (v12.2.1.2.2-1))<99)then ae (ki v1 ((v12.2.1.1,v12.2.1.2.1,IntKind.wrap .i64 (v12.2.1.2.2-1)),41,())) (λ(v15:T51)=>v14 ((v15.2.1,()),v12.1.1,v15.1.1,()))else v14 (((v12.2.1.1,v12.2.1.2.1,IntKind.wrap .i64 (v12.2.1.2.2-1)),()),v12.1.1,false,())else v14 (((v12.2.1.1,v12.2.1.2.1,IntKind.wrap .i64 (v12.2.1.2.2-1)),()),v12.1.1,false,())))else ae (ki v1 (v11.2.1,91,())) (λ(v16:T51)=>bif v16.1.1 then ae (FD v1 (v16.2.1,())) (λ(v17:T69)=>some ((v17.1.1,v17.1.2.1,()),v17.2.1,()))else ae (z5 v1 (v16.2.1,())) (λ(v18:T56)=>ae (FE v1 (([v18.1.1]:List Int),())) (λ(v19:T13)=>some ((([(1,v19.1.1)]:List (Int×(List Int))),v18.1.2.1,()),v18.2.1,()))))))))
theorem OP(n:Nat)(jz:z6)(jA:z7)(jB:z8)(jC:z9)(h:CB jz jA jB jC):di Tryz.prog 181 (Jb (uf n jz jA jB jC)):=(fb n [⟨_,F171 n⟩,⟨_,F158 n⟩,⟨_,F184 n⟩,⟨_,F185 n⟩,⟨_,F186 n⟩,⟨_,F187 n⟩,⟨_,⟨_,h.1,Cw⟩⟩,⟨_,⟨_,h.2.1,Cy⟩⟩,⟨_,⟨_,h.2.2.1,Cz⟩⟩,⟨_,⟨_,h.2.2.2,CA⟩⟩] [34,61] [] [] Tryz.func181 Tryz.results181 Tryz.ntmps181 (.seq .nop (.seq (.block none (.seq .nop (.cond none .nop (.seq .nop (.cond none .nop (.seq .nop (.cond none .nop (.seq .nop (.cond none (.seq .nop (.seq .nop (.seq .nop (.seq (.reg (some ⟨[(6,.box iM,.own .ro)],[.val 2 jy,.val 3 y4],[0]⟩) []) .nop)))) .nop))))))))) .nop)) A7 A8 [0] A7 (uf n jz jA jB jC)).o
def bo(n:Nat):Nat->(T19->T72)×(T19->T72)×(T19->T72)×(T19->T72)
 |0=>(λ_=>none,λ_=>none,λ_=>none,λ_=>none)
 |d+1=>(λx=>uc n (bo n d).1 (bo n d).2.1 (bo n d).2.2.1 (bo n d).2.2.2 x,λx=>ud n (bo n d).1 (bo n d).2.1 (bo n d).2.2.1 (bo n d).2.2.2 x,λx=>ue n (bo n d).1 (bo n d).2.1 (bo n d).2.2.1 (bo n d).2.2.2 x,λx=>uf n (bo n d).1 (bo n d).2.1 (bo n d).2.2.1 (bo n d).2.2.2 x)
theorem ug(n:Nat):∀ d,CB (bo n d).1 (bo n d).2.1 (bo n d).2.2.1 (bo n d).2.2.2
 |0=>⟨(λx r h=>by cases h),(λx r h=>by cases h),(λx r h=>by cases h),(λx r h=>by cases h)⟩
 |d+1=>⟨OM n _ _ _ _ (ug n d),ON n _ _ _ _ (ug n d),OO n _ _ _ _ (ug n d),OP n _ _ _ _ (ug n d)⟩
def Jc(n:Nat)(x:T19):T72:=(bo n n).1 x
def F145(n:Nat):Fb 145:=⟨I8 (Jc n),(ug n n).1,Cw⟩
def OQ(n:Nat)(x:T19):T72:=(bo n n).2.1 x
def F157(n:Nat):Fb 157:=⟨I9 (OQ n),(ug n n).2.1,Cy⟩
def OR(n:Nat)(x:T19):T72:=(bo n n).2.2.1 x
def F170(n:Nat):Fb 170:=⟨Ja (OR n),(ug n n).2.2.1,Cz⟩
def OS(n:Nat)(x:T19):T72:=(bo n n).2.2.2 x
def F181(n:Nat):Fb 181:=⟨Jb (OS n),(ug n n).2.2.2,CA⟩
def FF(v1:Nat)(v2:T4):T59:=bif decide (1600<(v2.1.length:Int))then some ((([]:List (Int×(List Int))),6,()),())else ae (Jc v1 ((v2.1,0,0),())) (λ(v3:T69)=>aj (λ(v4:T3)=>bif v4.2.1 then some ((([]:List (Int×(List Int))),5,()),())else bif decide (400<(v3.1.1.length:Int))then some ((([]:List (Int×(List Int))),6,()),())else some ((v3.1.1,0,()),())) (λv5=>bif !v3.1.2.1 then v5 ((),true,())else v5 ((),decide (v3.2.1.2.1<(v2.1.length:Int)),())))
def F128(n:Nat):Fb 128:=fb n [⟨_,F145 n⟩] [15] [] [] Tryz.func128 Tryz.results128 Tryz.ntmps128 (.seq .nop (.seq .nop (.seq .nop (.seq .nop (.seq (.block none (.seq (.reg (some ⟨[],[.val 18 y4],[5]⟩) []) .nop)) .nop))))) A18 A9 [] [] (FF n)
end
noncomputable section
def FG(v1:Nat)(v2:T26):T12:=bif decide (400<(v2.1.length:Int))then some ((6,()),())else ap (λ(v3:T8)=>λv4=>bif decide (v3.2.2.1<(v2.1.length:Int))then if 0<=v3.2.2.1 then(match v2.1[(v3.2.2.1).toNat]? with|some v5=>ae (ub v1 (v5.1,())) (λ(v6:T5)=>aj (λ(v7:T3)=>bif v7.2.1 then some ((5,()),())else v4 ((),IntKind.wrap .i64 (v3.2.1+(IntKind.wrap .i64 (1-v6.1.1))),IntKind.wrap .i64 (v3.2.2.1+1),())) (λv8=>bif decide (v6.1.1<0)then v8 ((),true,())else bif decide (v3.2.1<v6.1.1)then v8 ((),true,())else ae (na v1 (v5.2,())) (λ(v9:T6)=>v8 ((),(decide (v5.1=1)) == v9.1.1,()))))|none=>none)else none else bif !(decide (v3.2.1=1))then some ((5,()),())else some ((0,()),())) v1 ((),0,0,())
def F146(n:Nat):Fb 146:=fb n [⟨_,F160 n⟩,⟨_,F161 n⟩] [] [] [] Tryz.func146 Tryz.results146 Tryz.ntmps146 (.seq .nop (.seq .nop (.seq .nop (.seq (.seq .nop (.block none (.loop ⟨[],[.val 3 y2,.val 12 y2],[10,11]⟩ (.seq .nop (.seq .nop (.seq (.block none (.seq (.reg none [5]) (.seq .nop (.seq (.seq (.reg (some ⟨[],[.val 34 y4],[3,6,10,11,12]⟩) []) .nop) .nop)))) .nop)))))) .nop)))) [(jy,.ro)] A17 [] [] (FG n)
def CC(v1:Nat)(v2:T62):Option ((Int×Unit)×(Int×(List (Int×Int×(List Int)×Bool))×Int×Int)×Unit):=some ((IntKind.wrap .i64 ((IntKind.wrap .i64 (v2.1.1+1))-1),()),(IntKind.wrap .i64 (v2.1.1+1),v2.1.2),())
def F172(n:Nat):Fb 172:=fb n [] [] [] [] Tryz.func172 Tryz.results172 Tryz.ntmps172 (.nop) A3 A17 [0] A3 (CC n)
def FH(v1:Nat)(v2:T62):Option (((Int×Int)×Unit)×(Int×(List (Int×Int×(List Int)×Bool))×Int×Int)×Unit):=ae (CC v1 (v2.1,())) (λ(v3:T71)=>ae (CC v1 (v3.2.1,())) (λ(v4:T71)=>some (((v3.1.1,v4.1.1),()),v4.2.1,())))
def F162(n:Nat):Fb 162:=fb n [⟨_,F172 n⟩] [] [] [] Tryz.func162 Tryz.results162 Tryz.ntmps162 (.seq .nop (.seq .nop (.seq (.reg none [2]) .nop))) A3 [(LA,.ro)] [0] A3 (FH n)
def l5(v1:Nat)(v2:((Int×(List (Int×Int×(List Int)×Bool))×Int×Int)×Int×Int×Unit)):Option (Unit×(Int×(List (Int×Int×(List Int)×Bool))×Int×Int)×Unit):=if(List.length v2.1.2.1+List.length ([(v2.2.1,v2.2.2.1,([0,0,0,0]:List Int),true)]:List (Int×Int×(List Int)×Bool)))*56<=140737488355328 then if List.length v2.1.2.1+List.length ([(v2.2.1,v2.2.2.1,([0,0,0,0]:List Int),true)]:List (Int×Int×(List Int)×Bool))<=9223372036854775807 then some ((),(v2.1.1,v2.1.2.1++([(v2.2.1,v2.2.2.1,([0,0,0,0]:List Int),true)]:List (Int×Int×(List Int)×Bool)),v2.1.2.2),())else none else none
def F163(n:Nat):Fb 163:=fb n [] [] [] [] Tryz.func163 Tryz.results163 Tryz.ntmps163 (.nop) [(.box m6,.own (.pr .ro (.pr (.own .ro) (.pr .ro .ro)))),(y2,.ro),(y2,.ro)] [] [0] A3 (l5 n)
def kW(v1:Nat)(v2:((Int×(List (Int×Int×(List Int)×Bool))×Int×Int)×(Int×(List Int))×(List (Int×Int))×Unit)):Option (((List (Int×Int))×Unit)×(Int×(List (Int×Int×(List Int)×Bool))×Int×Int)×Unit):=ae (FH v1 (v2.1,())) (λ(v3:(((Int×Int)×Unit)×(Int×(List (Int×Int×(List Int)×Bool))×Int×Int)×Unit))=>aj (λ(v4:T74)=>ae (ub v1 (v2.2.1.1,())) (λ(v5:T5)=>if(0:Int)<=(0:Int)/\(0:Int)<=(IntKind.wrap .i64 ((v2.2.2.1.length:Int)-v5.1.1))/\(IntKind.wrap .i64 ((v2.2.2.1.length:Int)-v5.1.1))<=(v4.1.2.1.length:Int)then if(List.length (aY v4.1.2.1 (0:Int) (IntKind.wrap .i64 ((v2.2.2.1.length:Int)-v5.1.1)))+List.length ([v3.1.1]:List (Int×Int)))*16<=140737488355328 then if List.length (aY v4.1.2.1 (0:Int) (IntKind.wrap .i64 ((v2.2.2.1.length:Int)-v5.1.1)))+List.length ([v3.1.1]:List (Int×Int))<=9223372036854775807 then some (((aY v4.1.2.1 (0:Int) (IntKind.wrap .i64 ((v2.2.2.1.length:Int)-v5.1.1)))++([v3.1.1]:List (Int×Int)),()),v4.1.1,())else none else none else none)) (λv6=>bif decide (v2.2.1.1=0)then ae (l5 v1 (v3.2.1,v3.1.1.1,v3.1.1.2,())) (λ(v7:T65)=>v6 ((v7.2.1,v2.2.2.1,()),()))else aj (λ(v8:T74)=>v6 ((v8.1.1,v8.1.2.1,()),())) (λv9=>bif decide (v2.2.1.1=1)then if(List.length v3.2.1.2.1+List.length ([(v3.1.1.1,v3.1.1.2,v2.2.1.2,false)]:List (Int×Int×(List Int)×Bool)))*56<=140737488355328 then if List.length v3.2.1.2.1+List.length ([(v3.1.1.1,v3.1.1.2,v2.2.1.2,false)]:List (Int×Int×(List Int)×Bool))<=9223372036854775807 then v9 (((v3.2.1.1,v3.2.1.2.1++([(v3.1.1.1,v3.1.1.2,v2.2.1.2,false)]:List (Int×Int×(List Int)×Bool)),v3.2.1.2.2),v2.2.2.1,()),())else none else none else aj (λ(v10:T74)=>v9 ((v10.1.1,v10.1.2.1,()),())) (λv11=>bif decide (v2.2.1.1=2)then if 0<=(IntKind.wrap .i64 ((v2.2.2.1.length:Int)-2))then(match v2.2.2.1[(IntKind.wrap .i64 ((v2.2.2.1.length:Int)-2)).toNat]? with|some v12=>if 0<=(IntKind.wrap .i64 ((v2.2.2.1.length:Int)-1))then(match v2.2.2.1[(IntKind.wrap .i64 ((v2.2.2.1.length:Int)-1)).toNat]? with|some v13=>ae (l5 v1 (v3.2.1,v3.1.1.1,v12.1,())) (λ(v14:T65)=>ae (l5 v1 (v14.2.1,v12.2,v13.1,())) (λ(v15:T65)=>ae (l5 v1 (v15.2.1,v13.2,v3.1.1.2,())) (λ(v16:T65)=>v11 ((v16.2.1,v2.2.2.1,()),()))))|none=>none)else none|none=>none)else none else aj (λ(v17:T74)=>v11 ((v17.1.1,v17.1.2.1,()),())) (λv18=>bif decide (v2.2.1.1=3)then if 0<=(IntKind.wrap .i64 ((v2.2.2.1.length:Int)-2))/\(IntKind.wrap .i64 ((v2.2.2.1.length:Int)-2))<=(v2.2.2.1.length:Int)/\(v2.2.2.1.length:Int)<=(v2.2.2.1.length:Int)then ap (λ(v19:(((Int×(List (Int×Int×(List Int)×Bool))×Int×Int)×(List (Int×Int))×Unit)×Int×Unit))=>λv20=>bif decide (v19.2.1<(mI (IntKind.wrap .i64 ((v2.2.2.1.length:Int)-2)) (v2.2.2.1.length:Int)))then bif sX v19.2.1 (IntKind.wrap .i64 ((v2.2.2.1.length:Int)-2)) (v2.2.2.1.length:Int)then if 0<=(jb (IntKind.wrap .i64 ((v2.2.2.1.length:Int)-2)) v19.2.1)then(match v19.1.2.1[(jb (IntKind.wrap .i64 ((v2.2.2.1.length:Int)-2)) v19.2.1).toNat]? with|some v21=>ae (l5 v1 (v19.1.1,v3.1.1.1,v21.1,())) (λ(v22:T65)=>ae (l5 v1 (v22.2.1,v21.2,v3.1.1.2,())) (λ(v23:T65)=>v20 ((v23.2.1,v19.1.2.1,()),IntKind.wrap .i64 (v19.2.1+1),())))|none=>none)else none else none else v18 ((v19.1.1,v19.1.2.1,()),())) v1 ((v3.2.1,v2.2.2.1,()),0,())else none else if 0<=(IntKind.wrap .i64 ((v2.2.2.1.length:Int)-1))then(match v2.2.2.1[(IntKind.wrap .i64 ((v2.2.2.1.length:Int)-1)).toNat]? with|some v24=>ae (l5 v1 (v3.2.1,v3.1.1.1,v24.1,())) (λ(v25:T65)=>ae (l5 v1 (v25.2.1,v24.2,v3.1.1.2,())) (λ(v26:T65)=>aj (λ(v27:T74)=>aj (λ(v28:T74)=>v18 ((v28.1.1,v28.1.2.1,()),())) (λv29=>bif !(decide (v2.2.1.1=5))then ae (l5 v1 (v27.1.1,v3.1.1.1,v3.1.1.2,())) (λ(v30:T65)=>v29 ((v30.2.1,v27.1.2.1,()),()))else v29 ((v27.1.1,v27.1.2.1,()),()))) (λv31=>bif !(decide (v2.2.1.1=6))then ae (l5 v1 (v26.2.1,v24.2,v24.1,())) (λ(v32:T65)=>v31 ((v32.2.1,v2.2.2.1,()),()))else v31 ((v26.2.1,v2.2.2.1,()),()))))|none=>none)else none)))))
def F147(n:Nat):Fb 147:=fb n [⟨_,F162 n⟩,⟨_,F163 n⟩,⟨_,F160 n⟩] [] [118] [] Tryz.func147 Tryz.results147 Tryz.ntmps147 (.seq (.reg none [4]) (.seq .nop (.seq (.reg none [8]) (.seq (.seq .nop (.block none (.seq .nop (.cond (some ⟨[(6,.box m6,.own (.pr .ro (.pr (.own .ro) (.pr .ro .ro)))),(22,oK,.own .ro)],[],[0,2,4,7,8]⟩) .nop (.seq .nop (.cond (some ⟨[(6,.box m6,.own (.pr .ro (.pr (.own .ro) (.pr .ro .ro)))),(22,oK,.own .ro)],[],[0,2,4,7,8]⟩) .nop (.seq .nop (.cond (some ⟨[(6,.box m6,.own (.pr .ro (.pr (.own .ro) (.pr .ro .ro)))),(22,oK,.own .ro)],[],[0,2,4,7,8]⟩) (.seq (.reg none [9,10]) .nop) (.seq .nop (.cond (some ⟨[(6,.box m6,.own (.pr .ro (.pr (.own .ro) (.pr .ro .ro)))),(22,oK,.own .ro)],[],[0,2,4,7,8]⟩) (.seq .nop (.block none (.loop ⟨[(6,.box m6,.own (.pr .ro (.pr (.own .ro) (.pr .ro .ro)))),(22,oK,.own .ro)],[.val 120 y2],[0,2,4,7,8,118,119]⟩ (.seq .nop (.seq .nop (.seq (.block none (.seq (.reg none [12]) .nop)) .nop)))))) (.seq (.reg none [13]) (.seq .nop (.seq .nop (.seq (.seq .nop (.cond (some ⟨[(6,.box m6,.own (.pr .ro (.pr (.own .ro) (.pr .ro .ro)))),(22,oK,.own .ro)],[],[0,2,4,7,8]⟩) .nop .nop)) (.seq .nop (.cond (some ⟨[(6,.box m6,.own (.pr .ro (.pr (.own .ro) (.pr .ro .ro)))),(22,oK,.own .ro)],[],[0,2,4,7,8]⟩) .nop .nop)))))))))))))))) .nop)))) [(.box m6,.own (.pr .ro (.pr (.own .ro) (.pr .ro .ro)))),(z3,.ro),(oK,.own .ro)] [(oK,.own .ro)] [0] A3 (kW n)
def FI(v1:Nat)(v2:T26):Option (((Int×(List (Int×Int×(List Int)×Bool))×Int×Int)×Int×Unit)×Unit):=ae (FG v1 (v2.1,())) (λ(v3:T5)=>bif !(decide (v3.1.1=0))then some (((0,([]:List (Int×Int×(List Int)×Bool)),0,0),v3.1.1,()),())else ap (λ(v4:(((Int×(List (Int×Int×(List Int)×Bool))×Int×Int)×(Int×(List (Int×Int×(List Int)×Bool))×Int×Int)×Unit)×(List (Int×Int))×Int×Unit))=>λv5=>bif decide (v4.2.2.1<(v2.1.length:Int))then if 0<=v4.2.2.1 then(match v2.1[(v4.2.2.1).toNat]? with|some v6=>ae (kW v1 (v4.1.2.1,v6,v4.2.1,())) (λ(v7:(((List (Int×Int))×Unit)×(Int×(List (Int×Int×(List Int)×Bool))×Int×Int)×Unit))=>v5 ((v4.1.1,v7.2.1,()),v7.1.1,IntKind.wrap .i64 (v4.2.2.1+1),()))|none=>none)else none else if(0:Int)<=(0:Int)then(match v4.2.1[(0:Int).toNat]? with|some v8=>if(0:Int)<=(0:Int)then(match v4.2.1[(0:Int).toNat]? with|some v9=>some (((v4.1.2.1.1,v4.1.2.1.2.1,v8.1,v9.2),0,()),())|none=>none)else none|none=>none)else none) v1 (((0,([]:List (Int×Int×(List Int)×Bool)),0,0),(0,([]:List (Int×Int×(List Int)×Bool)),0,0),()),([]:List (Int×Int)),0,()))
def F129(n:Nat):Fb 129:=fb n [⟨_,F146 n⟩,⟨_,F147 n⟩] [13,15] [] [] Tryz.func129 Tryz.results129 Tryz.ntmps129 (.seq .nop (.seq .nop (.seq .nop (.seq .nop (.seq (.seq .nop (.block none (.loop ⟨[(16,.box rI,.own (.pr .ro (.pr (.own .ro) (.pr .ro .ro)))),(128,.box m6,.own (.pr .ro (.pr (.own .ro) (.pr .ro .ro))))],[.hdr 6 55 oK (.own .ro),.val 19 y2],[2,5,17,18]⟩ (.seq .nop (.seq .nop (.seq (.block none (.seq (.reg none [8]) .nop)) .nop)))))) (.seq .nop (.seq (.rgf none [5] [2]) .nop))))))) [(jy,.ro)] [(rI,.ro),(y2,.ro)] [] [] (FI n)
def Aa(v1:Nat)(v2:T62):T14:=aj (λ(v3:T3)=>bif v3.2.1 then some ((false,()),())else ap (λ(v4:T2)=>λv5=>bif decide (v4.2.1<(v2.1.2.1.length:Int))then if 0<=v4.2.1 then(match v2.1.2.1[(v4.2.1).toNat]? with|some v6=>aj (λ(v7:T3)=>bif v7.2.1 then some ((false,()),())else v5 ((),IntKind.wrap .i64 (v4.2.1+1),())) (λv8=>bif decide (v6.1<0)then v8 ((),true,())else bif decide (v2.1.1<=v6.1)then v8 ((),true,())else bif decide (v6.2.1<0)then v8 ((),true,())else v8 ((),decide (v2.1.1<=v6.2.1),()))|none=>none)else none else some ((true,()),())) v1 ((),0,())) (λv9=>bif decide (v2.1.2.2.1<0)then v9 ((),true,())else bif decide (v2.1.1<=v2.1.2.2.1)then v9 ((),true,())else bif decide (v2.1.2.2.2<0)then v9 ((),true,())else v9 ((),decide (v2.1.1<=v2.1.2.2.2),()))
def F148(n:Nat):Fb 148:=fb n [] [] [] [] Tryz.func148 Tryz.results148 Tryz.ntmps148 (.seq (.reg none [1]) (.seq (.seq (.reg (some ⟨[],[.val 26 y4],[1]⟩) []) .nop) (.seq (.seq .nop (.block none (.loop ⟨[],[.val 30 y2],[1,28,29]⟩ (.seq .nop (.seq .nop (.seq (.block none (.seq (.reg none [4]) (.seq (.reg (some ⟨[],[.val 55 y4],[1,28,29,30]⟩) []) .nop))) .nop)))))) .nop))) [(rI,.ro)] A16 [] [] (Aa n)
def FJ(v1:Nat)(v2:T62):Option (((List (List Int))×Unit)×Unit):=ap (λ(v3:(Unit×(List (List Int))×Int×Unit))=>λv4=>bif decide (v3.2.2.1<(v2.1.2.1.length:Int))then if 0<=v3.2.2.1 then(match v2.1.2.1[(v3.2.2.1).toNat]? with|some v5=>aj (λ(v6:(Unit×(List (List Int))×Unit))=>v4 ((),v6.2.1,IntKind.wrap .i64 (v3.2.2.1+1),())) (λv7=>bif !v5.2.2.2 then if(List.length v3.2.1+List.length ([v5.2.2.1]:List (List Int)))*32<=140737488355328 then if List.length v3.2.1+List.length ([v5.2.2.1]:List (List Int))<=9223372036854775807 then v7 ((),v3.2.1++([v5.2.2.1]:List (List Int)),())else none else none else v7 ((),v3.2.1,()))|none=>none)else none else some ((v3.2.1,()),())) v1 ((),([]:List (List Int)),0,())
def F165(n:Nat):Fb 165:=fb n [] [] [] [] Tryz.func165 Tryz.results165 Tryz.ntmps165 (.seq (.reg none [1]) (.seq .nop (.seq (.seq .nop (.block none (.loop ⟨[],[.hdr 3 31 z4 (.own .ro),.val 9 y2],[7,8]⟩ (.seq .nop (.seq .nop (.seq (.block none (.seq (.reg none [5]) (.seq .nop (.cond (some ⟨[],[.hdr 3 31 z4 (.own .ro)],[7,8,9]⟩) .nop .nop)))) .nop)))))) .nop))) [(rI,.ro)] [(z4,.ro)] [] [] (FJ n)
def Ab(v1:Nat)(v2:T9):T14:=if(64:Int)=0 then none else if 0<=(IntKind.wrap .u8 (Int.tdiv v2.2.1 64))then(match v2.1[(IntKind.wrap .u8 (Int.tdiv v2.2.1 64)).toNat]? with|some v3=>if(64:Int)=0 then none else if(Int.tmod v2.2.1 64)<0 then none else some ((decide ((ek .and .u64 (Int.fdiv v3 (2 ^ (Nat.min (Int.toNat (Int.tmod v2.2.1 64)) (IntKind.bits .u64)))) (1:Int))=1),()),())|none=>none)else none
def F176(n:Nat):Fb 176:=fb n [] [] [] [] Tryz.func176 Tryz.results176 Tryz.ntmps176 (.seq (.reg none [2]) .nop) [(cX,.ro),(y5,.ro)] A16 [] [] (Ab n)
def FK(v1:Nat)(v2:T21):T30:=if(8:Int)=0 then none else if 0<=(IntKind.wrap .i64 (Int.tdiv (IntKind.wrap .i64 ((v2.1.length:Int)+7)) 8))/\(IntKind.wrap .i64 (Int.tdiv (IntKind.wrap .i64 ((v2.1.length:Int)+7)) 8))<=(IntKind.wrap .i64 (Int.tdiv (IntKind.wrap .i64 ((v2.1.length:Int)+7)) 8))then if(IntKind.wrap .i64 (Int.tdiv (IntKind.wrap .i64 ((v2.1.length:Int)+7)) 8)).toNat*1<=140737488355328 then ap (λ(v3:T23)=>λv4=>bif decide (v3.2.1<(v2.1.length:Int))then if 0<=v3.2.1 then(match v2.1[(v3.2.1).toNat]? with|some v5=>ae (Ab v1 (v5,v2.2.1,())) (λ(v6:T6)=>aj (λ(v7:T13)=>v4 ((v7.1.1,()),IntKind.wrap .i64 (v3.2.1+1),())) (λv8=>bif v6.1.1 then if(8:Int)=0 then none else if 0<=(IntKind.wrap .i64 (Int.tdiv v3.2.1 8))then(match v3.1.1[(IntKind.wrap .i64 (Int.tdiv v3.2.1 8)).toNat]? with|some v9=>if(8:Int)=0 then none else if(IntKind.wrap .u64 (Int.tmod v3.2.1 8))<0 then none else if 0<=(IntKind.wrap .i64 (Int.tdiv v3.2.1 8))then(match v3.1.1[(IntKind.wrap .i64 (Int.tdiv v3.2.1 8)).toNat]? with|some v10=>if 0<=(IntKind.wrap .i64 (Int.tdiv v3.2.1 8))then(match v3.1.1[(IntKind.wrap .i64 (Int.tdiv v3.2.1 8)).toNat]? with|some v11=>v8 ((List.set v3.1.1 (IntKind.wrap .i64 (Int.tdiv v3.2.1 8)).toNat (ek .or .u8 v9 (IntKind.wrap .u8 ((1:Int)*2 ^ (Nat.min (Int.toNat (IntKind.wrap .u64 (Int.tmod v3.2.1 8))) (IntKind.bits .u8))))),()),())|none=>none)else none|none=>none)else none|none=>none)else none else v8 ((v3.1.1,()),())))|none=>none)else none else some ((v3.1.1,()),())) v1 ((List.replicate (IntKind.wrap .i64 (Int.tdiv (IntKind.wrap .i64 ((v2.1.length:Int)+7)) 8)).toNat (0:Int),()),0,())else none else none
def F173(n:Nat):Fb 173:=fb n [⟨_,F176 n⟩] [] [] [] Tryz.func173 Tryz.results173 Tryz.ntmps173 (.seq .nop (.seq .nop (.seq (.seq .nop (.block none (.loop ⟨[(96,tY,.own .ro)],[.val 15 y2],[1,5,13,14]⟩ (.seq .nop (.seq .nop (.seq (.block none (.seq (.reg none [7]) (.seq .nop (.cond (some ⟨[(96,tY,.own .ro)],[],[1,5,13,14,15]⟩) .nop .nop)))) .nop)))))) .nop))) [(z4,.ro),(y5,.ro)] A18 [] [] (FK n)
def FL(v1:Nat)(v2:((List (List Int))×Unit)):T30:=ap (λ(v3:T67)=>λv4=>bif decide (v3.2.1<256)then ae (FK v1 (v2.1,IntKind.wrap .u8 v3.2.1,())) (λ(v5:T13)=>aj (λ(v6:T67)=>if 0<=v3.2.1 then(match v6.1.2.1[(v3.2.1).toNat]? with|some v7=>if 0<=v3.2.1 then(match v6.1.2.1[(v3.2.1).toNat]? with|some v8=>v4 ((v6.1.1,List.set v6.1.2.1 (v3.2.1).toNat (IntKind.wrap .u8 v6.2.1),v6.1.2.2.1,()),IntKind.wrap .i64 (v3.2.1+1),())|none=>none)else none|none=>none)else none) (λv9=>bif !(cT (λ(v10:T0)=>λ(v11:T0)=>decide (v10=v11)) v5.1.1 v3.1.2.2.1)then bif q8 v3.1.2.2.1 then v9 ((v3.1.1,v3.1.2.1,cu (λ(v12:T0)=>λ(v13:T0)=>decide (v12=v13)) v5.1.1 (vH v3.1.2.2.1) v3.1.2.2.1,()),vH v3.1.2.2.1,())else none else v9 ((v3.1.1,v3.1.2.1,v3.1.2.2.1,()),bB (λ(v14:T0)=>λ(v15:T0)=>decide (v14=v15)) v5.1.1 v3.1.2.2.1,())))else some ((v3.1.2.1,()),())) v1 ((List.replicate 256 (0:Int),List.replicate 256 (0:Int),([]:List ((List Int)×Int)),()),0,())
def F164(n:Nat):Fb 164:=fb n [⟨_,F173 n⟩] [] [] [] Tryz.func164 Tryz.results164 Tryz.ntmps164 (.seq .nop (.seq .nop (.seq .nop (.seq (.seq .nop (.block none (.loop ⟨[(16,.box tZ,.own .ro),(24,.box tZ,.own .ro),(72,wA,.own .ro)],[.val 10 y2],[0,2,3,4]⟩ (.seq .nop (.seq .nop (.seq (.block none (.seq .nop (.seq .nop (.seq .nop (.seq (.seq .nop (.cond (some ⟨[(16,.box tZ,.own .ro),(24,.box tZ,.own .ro),(72,wA,.own .ro)],[.val 7 y2],[0,2,3,4,5,10]⟩) .nop .nop)) .nop))))) .nop)))))) (.seq (.rgf none [3] [2]) .nop))))) [(z4,.ro)] [(tZ,.ro)] [] [] (FL n)
def CD(v1:Nat)(v2:((Int×(List (Int×Int×(List Int)×Bool))×Int×Int)×(List Bool)×Unit)):T33:=if 0<=v2.1.1/\v2.1.1<=v2.1.1 then if(v2.1.1).toNat*1<=140737488355328 then ap (λ(v3:T31)=>λv4=>bif v3.2.1 then ap (λ(v5:(((List Bool)×Unit)×Bool×Int×Unit))=>λv6=>bif decide (v5.2.2.1<(v2.1.2.1.length:Int))then if 0<=v5.2.2.1 then(match v2.1.2.1[(v5.2.2.1).toNat]? with|some v7=>aj (λ(v8:T31)=>aj (λ(v9:T31)=>v6 ((v9.1.1,()),v9.2.1,IntKind.wrap .i64 (v5.2.2.1+1),())) (λv10=>bif v8.2.1 then if 0<=v7.2.1 then(match v8.1.1[(v7.2.1).toNat]? with|some v11=>if 0<=v7.2.1 then(match v8.1.1[(v7.2.1).toNat]? with|some v12=>v10 ((List.set v8.1.1 (v7.2.1).toNat true,()),true,())|none=>none)else none|none=>none)else none else v10 ((v8.1.1,()),v5.2.1,()))) (λv13=>bif v7.2.2.2 then if 0<=v7.1 then(match v5.1.1[(v7.1).toNat]? with|some v14=>bif v14 then if 0<=v7.2.1 then(match v5.1.1[(v7.2.1).toNat]? with|some v15=>v13 ((v5.1.1,()),!v15,())|none=>none)else none else v13 ((v5.1.1,()),false,())|none=>none)else none else v13 ((v5.1.1,()),false,()))|none=>none)else none else v4 ((v5.1.1,()),v5.2.1,())) v1 ((v3.1.1,()),false,0,())else some ((v3.1.1,()),())) v1 ((cpL (List.replicate (v2.1.1).toNat false) v2.2.1,()),true,())else none else none
def F167(n:Nat):Fb 167:=fb n [] [] [] [] Tryz.func167 Tryz.results167 Tryz.ntmps167 (.seq (.reg none [2]) (.seq .nop (.seq .nop (.seq (.seq .nop (.block none (.loop ⟨[(88,cd,.own .ro)],[.val 6 y4],[2,5]⟩ (.seq .nop (.block none (.seq .nop (.seq .nop (.block none (.loop ⟨[(88,cd,.own .ro)],[.val 6 y4,.val 19 y2],[2,5,17,18]⟩ (.seq .nop (.seq .nop (.seq (.block none (.seq (.reg none [8]) (.seq (.reg (some ⟨[(88,cd,.own .ro)],[.val 39 y4],[2,5,6,8,17,18,19]⟩) []) (.cond (some ⟨[(88,cd,.own .ro)],[.val 6 y4],[2,5,17,18,19]⟩) .nop .nop)))) .nop)))))))))))) .nop)))) [(rI,.ro),(cd,.ro)] A14 [] [] (CD n)
def FM(v1:Nat)(v2:((List Bool)×Unit)):T30:=if(8:Int)=0 then none else if 0<=(IntKind.wrap .i64 (Int.tdiv (IntKind.wrap .i64 ((v2.1.length:Int)+7)) 8))/\(IntKind.wrap .i64 (Int.tdiv (IntKind.wrap .i64 ((v2.1.length:Int)+7)) 8))<=(IntKind.wrap .i64 (Int.tdiv (IntKind.wrap .i64 ((v2.1.length:Int)+7)) 8))then if(IntKind.wrap .i64 (Int.tdiv (IntKind.wrap .i64 ((v2.1.length:Int)+7)) 8)).toNat*1<=140737488355328 then ap (λ(v3:T23)=>λv4=>bif decide (v3.2.1<(v2.1.length:Int))then if 0<=v3.2.1 then(match v2.1[(v3.2.1).toNat]? with|some v5=>aj (λ(v6:T13)=>v4 ((v6.1.1,()),IntKind.wrap .i64 (v3.2.1+1),())) (λv7=>bif v5 then if(8:Int)=0 then none else if 0<=(IntKind.wrap .i64 (Int.tdiv v3.2.1 8))then(match v3.1.1[(IntKind.wrap .i64 (Int.tdiv v3.2.1 8)).toNat]? with|some v8=>if(8:Int)=0 then none else if(IntKind.wrap .u64 (Int.tmod v3.2.1 8))<0 then none else if 0<=(IntKind.wrap .i64 (Int.tdiv v3.2.1 8))then(match v3.1.1[(IntKind.wrap .i64 (Int.tdiv v3.2.1 8)).toNat]? with|some v9=>if 0<=(IntKind.wrap .i64 (Int.tdiv v3.2.1 8))then(match v3.1.1[(IntKind.wrap .i64 (Int.tdiv v3.2.1 8)).toNat]? with|some v10=>v7 ((List.set v3.1.1 (IntKind.wrap .i64 (Int.tdiv v3.2.1 8)).toNat (ek .or .u8 v8 (IntKind.wrap .u8 ((1:Int)*2 ^ (Nat.min (Int.toNat (IntKind.wrap .u64 (Int.tmod v3.2.1 8))) (IntKind.bits .u8))))),()),())|none=>none)else none|none=>none)else none|none=>none)else none else v7 ((v3.1.1,()),()))|none=>none)else none else some ((v3.1.1,()),())) v1 ((List.replicate (IntKind.wrap .i64 (Int.tdiv (IntKind.wrap .i64 ((v2.1.length:Int)+7)) 8)).toNat (0:Int),()),0,())else none else none
def F174(n:Nat):Fb 174:=fb n [] [] [] [] Tryz.func174 Tryz.results174 Tryz.ntmps174 (.seq .nop (.seq .nop (.seq (.seq .nop (.block none (.loop ⟨[(80,tY,.own .ro)],[.val 13 y2],[3,11,12]⟩ (.seq .nop (.seq .nop (.seq (.block none (.seq .nop (.seq .nop (.cond (some ⟨[(80,tY,.own .ro)],[],[3,11,12,13]⟩) .nop .nop)))) .nop)))))) .nop))) A14 A18 [] [] (FM n)
def FN(v1:Nat)(v2:T9):T12:=bif decide ((v2.1.length:Int)<=v2.2.1)then some ((-1,()),())else if 0<=v2.2.1 then(match v2.1[(v2.2.1).toNat]? with|some v3=>some ((v3,()),())|none=>none)else none
def F182(n:Nat):Fb 182:=fb n [] [] [] [] Tryz.func182 Tryz.results182 Tryz.ntmps182 (.nop) [(y28,.ro),(y2,.ro)] A17 [] [] (FN n)
def FO(v1:Nat)(v2:((Option ((Int×(List (Int×Int×(List Int)×Bool))×Int×Int)×(List Int)×(List Int)×(List ((List Int)×Int))×(List (List Bool))×(List Int)×(List (List Int))×(List Int)))×(List Bool)×Unit)):T12:=ap (λ(v3:T8)=>λv4=>bif decide (v3.2.2.1<(v2.2.1.length:Int))then if 0<=v3.2.2.1 then(match v2.2.1[(v3.2.2.1).toNat]? with|some v5=>(match v2.1 with|some v6=>(match v2.1 with|some v7=>ae (FN v1 (v7.2.1,v3.2.2.1,())) (λ(v8:T5)=>aj (λ(v9:T3)=>aj (λ(v10:T2)=>v4 ((),v10.2.1,IntKind.wrap .i64 (v3.2.2.1+1),())) (λv11=>bif v9.2.1 then v11 ((),v8.1.1,())else v11 ((),v3.2.1,()))) (λv12=>bif v5 then bif decide (0<=v8.1.1)then bif decide (v3.2.1<0)then v12 ((),true,())else v12 ((),decide (v8.1.1<v3.2.1),())else v12 ((),false,())else v12 ((),false,())))|none=>none)|none=>none)|none=>none)else none else some ((v3.2.1,()),())) v1 ((),-1,0,())
def F175(n:Nat):Fb 175:=fb n [⟨_,F182 n⟩] [] [] [] Tryz.func175 Tryz.results175 Tryz.ntmps175 (.seq .nop (.seq .nop (.seq (.seq .nop (.block none (.loop ⟨[],[.val 5 y2,.val 11 y2],[0,9,10]⟩ (.seq .nop (.seq .nop (.seq (.block none (.seq .nop (.seq .nop (.seq (.reg (some ⟨[],[.val 35 y4],[0,5,8,9,10,11]⟩) []) (.cond (some ⟨[],[.val 5 y2],[0,9,10,11]⟩) .nop .nop))))) .nop)))))) .nop))) [(Me,.ro),(cd,.ro)] A17 [] [] (FO n)
def CE(v1:Nat)(v2:(((Int×(List (Int×Int×(List Int)×Bool))×Int×Int)×(List Int)×(List Int)×(List ((List Int)×Int))×(List (List Bool))×(List Int)×(List (List Int))×(List Int))×(List Bool)×Unit)):Option ((Int×Unit)×((Int×(List (Int×Int×(List Int)×Bool))×Int×Int)×(List Int)×(List Int)×(List ((List Int)×Int))×(List (List Bool))×(List Int)×(List (List Int))×(List Int))×Unit):=ap (λ(v3:((((Int×(List (Int×Int×(List Int)×Bool))×Int×Int)×(List Int)×(List Int)×(List ((List Int)×Int))×(List (List Bool))×(List Int)×(List (List Int))×(List Int))×Unit)×Bool×Int×Unit))=>λv4=>bif decide (v3.2.2.1<(v2.2.1.length:Int))then if 0<=v3.2.2.1 then(match v2.2.1[(v3.2.2.1).toNat]? with|some v5=>aj (λ(v6:((((Int×(List (Int×Int×(List Int)×Bool))×Int×Int)×(List Int)×(List Int)×(List ((List Int)×Int))×(List (List Bool))×(List Int)×(List (List Int))×(List Int))×Unit)×Bool×Unit))=>v4 ((v6.1.1,()),v6.2.1,IntKind.wrap .i64 (v3.2.2.1+1),())) (λv7=>bif v3.2.1 then v7 ((v3.1.1,()),true,())else v7 ((v3.1.1,()),v5,()))|none=>none)else none else bif !v3.2.1 then some ((-1,()),v3.1.1,())else ae (FM v1 (v2.2.1,())) (λ(v8:T13)=>bif cT (λ(v9:T0)=>λ(v10:T0)=>decide (v9=v10)) v8.1.1 v3.1.1.2.2.2.1 then some ((bB (λ(v11:T0)=>λ(v12:T0)=>decide (v11=v12)) v8.1.1 v3.1.1.2.2.2.1,()),v3.1.1,())else if(List.length v3.1.1.2.2.2.2.1+List.length ([v2.2.1]:List (List Bool)))*24<=140737488355328 then if List.length v3.1.1.2.2.2.2.1+List.length ([v2.2.1]:List (List Bool))<=9223372036854775807 then ae (FO v1 (some (v3.1.1.1,v3.1.1.2.1,v3.1.1.2.2.1,cu (λ(v13:T0)=>λ(v14:T0)=>decide (v13=v14)) v8.1.1 (v3.1.1.2.2.2.2.1.length:Int) v3.1.1.2.2.2.1,v3.1.1.2.2.2.2.1++([v2.2.1]:List (List Bool)),v3.1.1.2.2.2.2.2),v2.2.1,())) (λ(v15:T5)=>if(List.length v3.1.1.2.2.2.2.2.2.2+List.length ([v15.1.1]:List Int))*8<=140737488355328 then if List.length v3.1.1.2.2.2.2.2.2.2+List.length ([v15.1.1]:List Int)<=9223372036854775807 then some ((IntKind.wrap .i64 (((List.length (v3.1.1.2.2.2.2.1++([v2.2.1]:List (List Bool))):Nat):Int)-1),()),(v3.1.1.1,v3.1.1.2.1,v3.1.1.2.2.1,cu (λ(v16:T0)=>λ(v17:T0)=>decide (v16=v17)) v8.1.1 (v3.1.1.2.2.2.2.1.length:Int) v3.1.1.2.2.2.1,v3.1.1.2.2.2.2.1++([v2.2.1]:List (List Bool)),v3.1.1.2.2.2.2.2.1,v3.1.1.2.2.2.2.2.2.1,v3.1.1.2.2.2.2.2.2.2++([v15.1.1]:List Int)),())else none else none)else none else none)) v1 ((v2.1,()),false,0,())
def F166(n:Nat):Fb 166:=fb n [⟨_,F174 n⟩,⟨_,F175 n⟩] [] [] [] Tryz.func166 Tryz.results166 Tryz.ntmps166 (.seq .nop (.seq .nop (.seq (.seq .nop (.block none (.loop ⟨[(6,.box rJ,.own (.pr .ro (.pr .ro (.pr .ro (.pr (.own .ro) (.pr (.own .ro) (.pr .ro (.pr (.own .ro) (.own .ro)))))))))],[.val 5 y4,.val 13 y2],[0,1,11,12]⟩ (.seq .nop (.seq .nop (.seq (.block none (.seq .nop (.reg (some ⟨[(6,.box rJ,.own (.pr .ro (.pr .ro (.pr .ro (.pr (.own .ro) (.pr (.own .ro) (.pr .ro (.pr (.own .ro) (.own .ro)))))))))],[.val 5 y4],[0,1,11,12,13]⟩) []))) .nop)))))) .nop))) [(.box rJ,.own (.pr .ro (.pr .ro (.pr .ro (.pr (.own .ro) (.pr (.own .ro) (.pr .ro (.pr (.own .ro) (.own .ro))))))))),(cd,.ro)] A17 [0] [(.box rJ,.own (.pr .ro (.pr .ro (.pr .ro (.pr (.own .ro) (.pr (.own .ro) (.pr .ro (.pr (.own .ro) (.own .ro)))))))))] (CE n)
def FP(v1:Nat)(v2:((Int×(List (Int×Int×(List Int)×Bool))×Int×Int)×(List Bool)×Int×Unit)):T33:=if 0<=v2.1.1/\v2.1.1<=v2.1.1 then if(v2.1.1).toNat*1<=140737488355328 then ap (λ(v3:T27)=>λv4=>bif decide (v3.2.1<(v2.1.2.1.length:Int))then if 0<=v3.2.1 then(match v2.1.2.1[(v3.2.1).toNat]? with|some v5=>aj (λ(v6:T31)=>aj (λ(v7:T15)=>v4 ((v7.1.1,()),IntKind.wrap .i64 (v3.2.1+1),())) (λv8=>bif v6.2.1 then if 0<=v5.2.1 then(match v6.1.1[(v5.2.1).toNat]? with|some v9=>if 0<=v5.2.1 then(match v6.1.1[(v5.2.1).toNat]? with|some v10=>v8 ((List.set v6.1.1 (v5.2.1).toNat true,()),())|none=>none)else none|none=>none)else none else v8 ((v6.1.1,()),()))) (λv11=>bif !v5.2.2.2 then bif decide (v5.1<(v2.2.1.length:Int))then if 0<=v5.1 then(match v2.2.1[(v5.1).toNat]? with|some v12=>bif v12 then ae (Ab v1 (v5.2.2.1,v2.2.2.1,())) (λ(v13:T6)=>v11 ((v3.1.1,()),v13.1.1,()))else v11 ((v3.1.1,()),false,())|none=>none)else none else v11 ((v3.1.1,()),false,())else v11 ((v3.1.1,()),false,()))|none=>none)else none else some ((v3.1.1,()),())) v1 ((List.replicate (v2.1.1).toNat false,()),0,())else none else none
def F168(n:Nat):Fb 168:=fb n [⟨_,F176 n⟩] [] [] [] Tryz.func168 Tryz.results168 Tryz.ntmps168 (.seq (.reg none [3]) (.seq .nop (.seq (.seq .nop (.block none (.loop ⟨[(96,cd,.own .ro)],[.val 16 y2],[1,2,7,14,15]⟩ (.seq .nop (.seq .nop (.seq (.block none (.seq (.reg none [9]) (.seq (.reg (some ⟨[(96,cd,.own .ro)],[.val 42 y4],[1,2,7,9,14,15,16]⟩) []) (.cond (some ⟨[(96,cd,.own .ro)],[],[1,2,7,14,15,16]⟩) .nop .nop)))) .nop)))))) .nop))) [(rI,.ro),(cd,.ro),(y5,.ro)] A14 [] [] (FP n)
def CF(v1:Nat)(v2:((Int×(List (Int×Int×(List Int)×Bool))×Int×Int)×(List Int)×Unit)):T70:=ae (Aa v1 (v2.1,())) (λ(v3:T6)=>bif !v3.1.1 then some (((List.replicate 256 (0:Int),([]:List (List Int)),([]:List Int)),1,()),())else ae (FJ v1 (v2.1,())) (λ(v4:T32)=>ae (FL v1 (v4.1.1,())) (λ(v5:T13)=>ap (λ(v6:T82)=>λv7=>bif decide (v6.2.1<256)then if 0<=v6.2.1 then(match v6.1.2.1.2.2.2.2.2.1[(v6.2.1).toNat]? with|some v8=>aj (λ(v9:((((List Int)×(List (List Int))×(List Int))×((Int×(List (Int×Int×(List Int)×Bool))×Int×Int)×(List Int)×(List Int)×(List ((List Int)×Int))×(List (List Bool))×(List Int)×(List (List Int))×(List Int))×Unit)×Unit))=>v7 ((v9.1.1,v9.1.2.1,()),IntKind.wrap .i64 (v6.2.1+1),())) (λv10=>bif decide ((IntKind.wrap .i64 v8)=(v6.1.2.1.2.2.1.length:Int))then if(List.length v6.1.2.1.2.2.1+List.length ([(IntKind.wrap .u8 v6.2.1)]:List Int))*1<=140737488355328 then if List.length v6.1.2.1.2.2.1+List.length ([(IntKind.wrap .u8 v6.2.1)]:List Int)<=9223372036854775807 then v10 ((v6.1.1,(v6.1.2.1.1,v6.1.2.1.2.1,v6.1.2.1.2.2.1++([(IntKind.wrap .u8 v6.2.1)]:List Int),v6.1.2.1.2.2.2),()),())else none else none else v10 ((v6.1.1,v6.1.2.1,()),()))|none=>none)else none else if 0<=v2.1.1/\v2.1.1<=v2.1.1 then if(v2.1.1).toNat*1<=140737488355328 then if 0<=v2.1.2.2.1 then(match(List.replicate (v2.1.1).toNat false)[(v2.1.2.2.1).toNat]? with|some v11=>if 0<=v2.1.2.2.1 then(match(List.replicate (v2.1.1).toNat false)[(v2.1.2.2.1).toNat]? with|some v12=>ae (CD v1 (v2.1,List.set (List.replicate (v2.1.1).toNat false) (v2.1.2.2.1).toNat true,())) (λ(v13:T15)=>ae (CE v1 (v6.1.2.1,v13.1.1,())) (λ(v14:T81)=>ap (λ(v15:T82)=>λv16=>bif decide (v15.2.1<(v15.1.2.1.2.2.2.2.1.length:Int))then bif decide (2000<(v15.1.2.1.2.2.2.2.1.length:Int))then some (((List.replicate 256 (0:Int),([]:List (List Int)),([]:List Int)),6,()),())else ap (λ(v17:((((List Int)×(List (List Int))×(List Int))×((Int×(List (Int×Int×(List Int)×Bool))×Int×Int)×(List Int)×(List Int)×(List ((List Int)×Int))×(List (List Bool))×(List Int)×(List (List Int))×(List Int))×Unit)×(List Int)×Int×Unit))=>λv18=>bif decide (v17.2.2.1<(v15.1.2.1.2.2.1.length:Int))then if 0<=v17.2.2.1 then(match v15.1.2.1.2.2.1[(v17.2.2.1).toNat]? with|some v19=>if 0<=v15.2.1 then(match v17.1.2.1.2.2.2.2.1[(v15.2.1).toNat]? with|some v20=>ae (FP v1 (v2.1,v20,v19,())) (λ(v21:T15)=>ae (CD v1 (v2.1,v21.1.1,())) (λ(v22:T15)=>ae (CE v1 (v17.1.2.1,v22.1.1,())) (λ(v23:T81)=>if(List.length v17.2.1+List.length ([v23.1.1]:List Int))*8<=140737488355328 then if List.length v17.2.1+List.length ([v23.1.1]:List Int)<=9223372036854775807 then v18 ((v17.1.1,v23.2.1,()),v17.2.1++([v23.1.1]:List Int),IntKind.wrap .i64 (v17.2.2.1+1),())else none else none)))|none=>none)else none|none=>none)else none else if(List.length v17.1.2.1.2.2.2.2.2.2.1+List.length ([v17.2.1]:List (List Int)))*24<=140737488355328 then if List.length v17.1.2.1.2.2.2.2.2.2.1+List.length ([v17.2.1]:List (List Int))<=9223372036854775807 then v16 ((v17.1.1,(v17.1.2.1.1,v17.1.2.1.2.1,v17.1.2.1.2.2.1,v17.1.2.1.2.2.2.1,v17.1.2.1.2.2.2.2.1,v17.1.2.1.2.2.2.2.2.1,v17.1.2.1.2.2.2.2.2.2.1++([v17.2.1]:List (List Int)),v17.1.2.1.2.2.2.2.2.2.2),()),IntKind.wrap .i64 (v15.2.1+1),())else none else none) v1 ((v15.1.1,v15.1.2.1,()),([]:List Int),0,())else some ((v15.1.2.1.2.2.2.2.2,0,()),())) v1 ((v6.1.1,v14.2.1,()),0,())))|none=>none)else none|none=>none)else none else none else none) v1 (((List.replicate 256 (0:Int),([]:List (List Int)),([]:List Int)),(v2.1,v2.2.1,([]:List Int),([]:List ((List Int)×Int)),([]:List (List Bool)),v5.1.1,([]:List (List Int)),([]:List Int)),()),0,()))))
def F149(n:Nat):Fb 149:=fb n [⟨_,F148 n⟩,⟨_,F165 n⟩,⟨_,F164 n⟩,⟨_,F167 n⟩,⟨_,F166 n⟩,⟨_,F168 n⟩] [16,20,24,69,85,107,108,109] [] [] Tryz.func149 Tryz.results149 Tryz.ntmps149 (.seq (.reg none [2]) (.seq .nop (.seq .nop (.seq .nop (.seq (.seq .nop (.block none (.loop ⟨[(32,.box pC,.own (.pr .ro (.pr (.own .ro) (.own .ro)))),(168,.box rJ,.own (.pr .ro (.pr .ro (.pr (.own .ro) (.pr (.own .ro) (.pr (.own .ro) (.pr .ro (.pr (.own .ro) (.own .ro)))))))))],[.val 29 y2],[2,4,6]⟩ (.seq .nop (.seq .nop (.seq (.block none (.seq .nop (.seq .nop (.cond (some ⟨[(32,.box pC,.own (.pr .ro (.pr (.own .ro) (.own .ro)))),(168,.box rJ,.own (.pr .ro (.pr .ro (.pr (.own .ro) (.pr (.own .ro) (.pr (.own .ro) (.pr .ro (.pr (.own .ro) (.own .ro)))))))))],[],[2,4,6,29]⟩) .nop .nop)))) .nop)))))) (.seq (.rgp none [] [] [(6,[.deref,.st,.snd,.snd,.fst])]) (.seq .nop (.seq .nop (.seq (.seq .nop (.block none (.loop ⟨[(32,.box pC,.own (.pr .ro (.pr (.own .ro) (.own .ro)))),(168,.box rJ,.own (.pr .ro (.pr .ro (.pr .ro (.pr (.own .ro) (.pr (.own .ro) (.pr .ro (.pr (.own .ro) (.own .ro)))))))))],[.val 9 y2],[2,4,6]⟩ (.seq .nop (.seq (.block none (.seq .nop (.seq .nop (.seq (.seq .nop (.block none (.loop ⟨[(32,.box pC,.own (.pr .ro (.pr (.own .ro) (.own .ro)))),(168,.box rJ,.own (.pr .ro (.pr .ro (.pr .ro (.pr (.own .ro) (.pr (.own .ro) (.pr .ro (.pr (.own .ro) (.own .ro)))))))))],[.hdr 10 87 y28 (.own .ro),.val 91 y2],[2,4,6,9,89,90]⟩ .nop))) (.rgf none [10] []))))) .nop))))) (.seq (.rgf none [6] [4]) .nop)))))))))) [(rI,.ro),(y28,.ro)] A10 [] [] (CF n)
def CG(v1:Nat)(v2:T62):T70:=ae (Aa v1 (v2.1,())) (λ(v3:T6)=>bif !v3.1.1 then some (((List.replicate 256 (0:Int),([]:List (List Int)),([]:List Int)),1,()),())else if 0<=v2.1.1/\v2.1.1<=v2.1.1 then if(v2.1.1).toNat*8<=140737488355328 then ap (λ(v4:((((List Int)×(List (List Int))×(List Int))×(List Int)×Unit)×Int×Unit))=>λv5=>bif decide (v4.2.1<((List.length (List.replicate (v2.1.1).toNat (0:Int)):Nat):Int))then if 0<=v4.2.1 then(match v4.1.2.1[(v4.2.1).toNat]? with|some v6=>if 0<=v4.2.1 then(match v4.1.2.1[(v4.2.1).toNat]? with|some v7=>v5 ((v4.1.1,List.set v4.1.2.1 (v4.2.1).toNat (-1:Int),()),IntKind.wrap .i64 (v4.2.1+1),())|none=>none)else none|none=>none)else none else if 0<=v2.1.2.2.2 then(match v4.1.2.1[(v2.1.2.2.2).toNat]? with|some v8=>if 0<=v2.1.2.2.2 then(match v4.1.2.1[(v2.1.2.2.2).toNat]? with|some v9=>ae (CF v1 (v2.1,List.set v4.1.2.1 (v2.1.2.2.2).toNat (0:Int),())) (λ(v10:T64)=>some ((v10.1.1,v10.1.2.1,()),()))|none=>none)else none|none=>none)else none) v1 (((List.replicate 256 (0:Int),([]:List (List Int)),([]:List Int)),List.replicate (v2.1.1).toNat (0:Int),()),0,())else none else none)
def F130(n:Nat):Fb 130:=fb n [⟨_,F148 n⟩,⟨_,F149 n⟩] [9] [] [] Tryz.func130 Tryz.results130 Tryz.ntmps130 (.seq (.reg none [1]) (.seq .nop (.seq .nop (.seq (.seq .nop (.block none (.loop ⟨[(16,.box pC,.own (.pr .ro (.pr (.own .ro) (.own .ro)))),(96,y28,.own .ro)],[.val 15 y2],[1,2,4,14]⟩ .nop))) (.seq .nop (.seq (.reg none [2]) .nop)))))) [(rI,.ro)] A10 [] [] (CG n)
def wC(v1:Nat)(v2:T4):T70:=ae (FF v1 (v2.1,())) (λ(v3:T54)=>bif !(decide (v3.1.2.1=0))then some (((List.replicate 256 (0:Int),([]:List (List Int)),([]:List Int)),v3.1.2.1,()),())else ae (FI v1 (v3.1.1,())) (λ(v4:(((Int×(List (Int×Int×(List Int)×Bool))×Int×Int)×Int×Unit)×Unit))=>bif !(decide (v4.1.2.1=0))then some (((List.replicate 256 (0:Int),([]:List (List Int)),([]:List Int)),v4.1.2.1,()),())else ae (CG v1 (v4.1.1,())) (λ(v5:T64)=>some ((v5.1.1,v5.1.2.1,()),()))))
def F107(n:Nat):Fb 107:=fb n [⟨_,F128 n⟩,⟨_,F129 n⟩,⟨_,F130 n⟩] [9,14,18,23,26] [] [] Tryz.func107 Tryz.results107 Tryz.ntmps107 (.seq .nop (.seq .nop (.seq .nop (.seq (.reg none [6]) (.seq .nop (.seq (.reg none [2]) .nop)))))) A18 A10 [] [] (wC n)
def Mi(v1:Nat)(v2:(((List Int)×(List (List Int))×(List Int))×Int×Int×Unit)):T12:=aj (λ(v3:T3)=>bif v3.2.1 then some ((-1,()),())else if 0<=v2.2.1 then(match v2.1.2.1[(v2.2.1).toNat]? with|some v4=>if 0<=v2.2.2.1 then(match v2.1.1[(v2.2.2.1).toNat]? with|some v5=>if 0<=v5 then(match v4[(v5).toNat]? with|some v6=>some ((v6,()),())|none=>none)else none|none=>none)else none|none=>none)else none) (λv7=>bif decide (v2.2.1<0)then v7 ((),true,())else bif decide ((v2.1.2.1.length:Int)<=v2.2.1)then v7 ((),true,())else if 0<=v2.2.2.1 then(match v2.1.1[(v2.2.2.1).toNat]? with|some v8=>if 0<=v2.2.1 then(match v2.1.2.1[(v2.2.1).toNat]? with|some v9=>v7 ((),decide ((v9.length:Int)<=(IntKind.wrap .i64 v8)),())|none=>none)else none|none=>none)else none)
def F150(n:Nat):Fb 150:=fb n [] [] [] [] Tryz.func150 Tryz.results150 Tryz.ntmps150 (.seq (.reg none [3]) (.seq (.seq (.reg (some ⟨[],[.val 29 y4],[1,2,3]⟩) []) .nop) .nop)) [(pC,.ro),(y2,.ro),(y5,.ro)] A17 [] [] (Mi n)
def FQ(v1:Nat)(v2:(((List Int)×(List (List Int))×(List Int))×Int×(List Int)×Unit)):T12:=ap (λ(v3:T8)=>λv4=>aj (λ(v5:T3)=>bif v5.2.1 then if 0<=v3.2.2.1 then(match v2.2.2.1[(v3.2.2.1).toNat]? with|some v6=>ae (Mi v1 (v2.1,v3.2.1,v6,())) (λ(v7:T5)=>v4 ((),v7.1.1,IntKind.wrap .i64 (v3.2.2.1+1),()))|none=>none)else none else some ((v3.2.1,()),())) (λv8=>bif decide (v3.2.2.1<(v2.2.2.1.length:Int))then v8 ((),!(decide (v3.2.1=-1)),())else v8 ((),false,()))) v1 ((),v2.2.1,0,())
def F132(n:Nat):Fb 132:=fb n [⟨_,F150 n⟩] [] [] [] Tryz.func132 Tryz.results132 Tryz.ntmps132 (.seq (.reg none [3]) (.seq (.seq .nop (.block none (.loop ⟨[],[.val 1 y2,.val 7 y2],[2,3]⟩ (.seq (.seq (.reg (some ⟨[],[.val 15 y4],[1,2,3,7]⟩) []) .nop) .nop)))) .nop)) [(pC,.ro),(y2,.ro),(y9,.ro)] A17 [] [] (FQ n)
def FR(v1:Nat)(v2:(((List Int)×(List (List Int))×(List Int))×Int×Unit)):T12:=aj (λ(v3:T3)=>bif v3.2.1 then some ((-1,()),())else if 0<=v2.2.1 then(match v2.1.2.2[(v2.2.1).toNat]? with|some v4=>some ((v4,()),())|none=>none)else none) (λv5=>bif decide (v2.2.1<0)then v5 ((),true,())else v5 ((),decide ((v2.1.2.2.length:Int)<=v2.2.1),()))
def F131(n:Nat):Fb 131:=fb n [] [] [] [] Tryz.func131 Tryz.results131 Tryz.ntmps131 (.seq (.reg none [2]) (.seq (.seq (.reg (some ⟨[],[.val 13 y4],[1,2]⟩) []) .nop) .nop)) A10 A17 [] [] (FR n)
def FT(v1:Nat)(v2:(((List Int)×(List (List Int))×(List Int))×(List Int)×Unit)):T12:=ae (FQ v1 (v2.1,0,v2.2.1,())) (λ(v3:T5)=>ae (FR v1 (v2.1,v3.1.1,())) (λ(v4:T5)=>some ((v4.1.1,()),())))
def F108(n:Nat):Fb 108:=fb n [⟨_,F132 n⟩,⟨_,F131 n⟩] [] [] [] Tryz.func108 Tryz.results108 Tryz.ntmps108 (.seq (.reg none [2]) .nop) [(pC,.ro),(y9,.ro)] A17 [] [] (FT n)
end
noncomputable section
def uh(v1:Nat)(v2:T9):T14:=ap (λ(v3:T2)=>λv4=>bif decide (v3.2.1<(v2.1.length:Int))then if 0<=v3.2.1 then(match v2.1[(v3.2.1).toNat]? with|some v5=>bif decide (v5=v2.2.1)then some ((true,()),())else v4 ((),IntKind.wrap .i64 (v3.2.1+1),())|none=>none)else none else some ((false,()),())) v1 ((),0,())
def F152(n:Nat):Fb 152:=fb n [] [] [] [] Tryz.func152 Tryz.results152 Tryz.ntmps152 (.seq .nop (.seq (.seq .nop (.block none (.loop ⟨[],[.val 5 y2],[0,1]⟩ .nop))) .nop)) [(y9,.ro),(y5,.ro)] A16 [] [] (uh n)
def Ac(v1:Nat)(v2:T9):T14:=if(64:Int)=0 then none else if 0<=(IntKind.wrap .i64 (Int.tdiv v2.2.1 64))then(match v2.1[(IntKind.wrap .i64 (Int.tdiv v2.2.1 64)).toNat]? with|some v3=>ap (λ(v4:T8)=>λv5=>if(64:Int)=0 then none else bif decide (v4.2.2.1<(Int.tmod v2.2.1 64))then if(2:Int)=0 then none else v5 ((),IntKind.wrap .u64 (Int.tdiv v4.2.1 2),IntKind.wrap .i64 (v4.2.2.1+1),())else if(2:Int)=0 then none else some ((decide ((Int.tmod v4.2.1 2)=1),()),())) v1 ((),v3,0,())|none=>none)else none
def F135(n:Nat):Fb 135:=fb n [] [] [] [] Tryz.func135 Tryz.results135 Tryz.ntmps135 (.seq (.reg none [2]) (.seq .nop (.seq (.seq .nop (.block none (.loop ⟨[],[.val 5 y12,.val 6 y2],[1]⟩ .nop))) .nop))) [(cX,.ro),(y2,.ro)] A16 [] [] (Ac n)
def wD(v1:Nat)(v2:((List Bool)×Unit)):T30:=ap (λ(v3:T48)=>λv4=>aj (λ(v5:T52)=>bif v5.2.1 then if 0<=v3.2.1 then(match v2.1[(v3.2.1).toNat]? with|some v6=>aj (λ(v7:T40)=>v4 ((v7.1.1,v7.1.2.1,()),IntKind.wrap .i64 (v3.2.1+1),())) (λv8=>bif v6 then if(64:Int)=0 then none else if(64:Int)=0 then none else if 0<=(IntKind.wrap .i64 (Int.tdiv v3.2.1 64))then(match v5.1.2.1[(IntKind.wrap .i64 (Int.tdiv v3.2.1 64)).toNat]? with|some v9=>if(64:Int)=0 then none else if(IntKind.wrap .u64 (Int.tmod v3.2.1 64))<0 then none else if 0<=(IntKind.wrap .i64 (Int.tdiv v3.2.1 64))then(match v5.1.2.1[(IntKind.wrap .i64 (Int.tdiv v3.2.1 64)).toNat]? with|some v10=>if 0<=(IntKind.wrap .i64 (Int.tdiv v3.2.1 64))then(match v5.1.2.1[(IntKind.wrap .i64 (Int.tdiv v3.2.1 64)).toNat]? with|some v11=>v8 ((v5.1.1,List.set v5.1.2.1 (IntKind.wrap .i64 (Int.tdiv v3.2.1 64)).toNat (IntKind.wrap .u64 (v9+(IntKind.wrap .u64 ((1:Int)*2 ^ (Nat.min (Int.toNat (IntKind.wrap .u64 (Int.tmod v3.2.1 64))) (IntKind.bits .u64)))))),()),())|none=>none)else none|none=>none)else none|none=>none)else none else v8 ((v5.1.1,v5.1.2.1,()),()))|none=>none)else none else some ((v5.1.2.1,()),())) (λv12=>bif decide (v3.2.1<256)then v12 ((v3.1.1,v3.1.2.1,()),decide (v3.2.1<(v2.1.length:Int)),())else v12 ((v3.1.1,v3.1.2.1,()),false,()))) v1 ((([0,0,0,0]:List Int),([0,0,0,0]:List Int),()),0,())
def F180(n:Nat):Fb 180:=fb n [] [] [] [] Tryz.func180 Tryz.results180 Tryz.ntmps180 (.seq .nop (.seq .nop (.seq (.seq .nop (.block none (.loop ⟨[(16,.box cX,.own .ro),(24,.box cX,.own .ro)],[.val 4 y2],[0,2,3]⟩ (.seq (.seq (.reg (some ⟨[(16,.box cX,.own .ro),(24,.box cX,.own .ro)],[.val 12 y4],[0,2,3,4]⟩) []) .nop) (.seq (.block none (.seq .nop (.cond (some ⟨[(16,.box cX,.own .ro),(24,.box cX,.own .ro)],[],[0,2,3,4]⟩) .nop .nop))) .nop))))) (.seq (.rgf none [3] [2]) .nop)))) A14 A13 [] [] (wD n)
def CH(v1:Nat)(v2:(Int×(List Int)×(List Int)×Unit)):T30:=ap (λ(v3:(((List Int)×Unit)×(List Bool)×Int×Unit))=>λv4=>bif decide (v3.2.2.1<256)then ae (Ac v1 (v2.2.1,v3.2.2.1,())) (λ(v5:T6)=>ae (Ac v1 (v2.2.2.1,v3.2.2.1,())) (λ(v6:T6)=>aj (λ(v7:T43)=>v4 ((v7.1.1,()),v7.2.1,IntKind.wrap .i64 (v3.2.2.1+1),())) (λv8=>bif decide (v2.1=0)then aj (λ(v9:T43)=>v8 ((v9.1.1,()),v9.2.1,())) (λv10=>bif v5.1.1 then if(List.length v3.2.1+List.length ([true]:List Bool))*1<=140737488355328 then if List.length v3.2.1+List.length ([true]:List Bool)<=9223372036854775807 then v10 ((v3.1.1,()),v3.2.1++([true]:List Bool),())else none else none else if(List.length v3.2.1+List.length ([v6.1.1]:List Bool))*1<=140737488355328 then if List.length v3.2.1+List.length ([v6.1.1]:List Bool)<=9223372036854775807 then v10 ((v3.1.1,()),v3.2.1++([v6.1.1]:List Bool),())else none else none)else aj (λ(v11:T43)=>v8 ((v11.1.1,()),v11.2.1,())) (λv12=>bif decide (v2.1=1)then aj (λ(v13:T43)=>v12 ((v13.1.1,()),v13.2.1,())) (λv14=>bif v5.1.1 then if(List.length v3.2.1+List.length ([v6.1.1]:List Bool))*1<=140737488355328 then if List.length v3.2.1+List.length ([v6.1.1]:List Bool)<=9223372036854775807 then v14 ((v3.1.1,()),v3.2.1++([v6.1.1]:List Bool),())else none else none else if(List.length v3.2.1+List.length ([false]:List Bool))*1<=140737488355328 then if List.length v3.2.1+List.length ([false]:List Bool)<=9223372036854775807 then v14 ((v3.1.1,()),v3.2.1++([false]:List Bool),())else none else none)else aj (λ(v15:T43)=>v12 ((v15.1.1,()),v15.2.1,())) (λv16=>bif decide (v2.1=2)then aj (λ(v17:T43)=>v16 ((v17.1.1,()),v17.2.1,())) (λv18=>bif v5.1.1 then if(List.length v3.2.1+List.length ([(!v6.1.1)]:List Bool))*1<=140737488355328 then if List.length v3.2.1+List.length ([(!v6.1.1)]:List Bool)<=9223372036854775807 then v18 ((v3.1.1,()),v3.2.1++([(!v6.1.1)]:List Bool),())else none else none else if(List.length v3.2.1+List.length ([false]:List Bool))*1<=140737488355328 then if List.length v3.2.1+List.length ([false]:List Bool)<=9223372036854775807 then v18 ((v3.1.1,()),v3.2.1++([false]:List Bool),())else none else none)else if(List.length v3.2.1+List.length ([(!v5.1.1)]:List Bool))*1<=140737488355328 then if List.length v3.2.1+List.length ([(!v5.1.1)]:List Bool)<=9223372036854775807 then v16 ((v3.1.1,()),v3.2.1++([(!v5.1.1)]:List Bool),())else none else none)))))else ae (wD v1 (v3.2.1,())) (λ(v19:T13)=>some ((v19.1.1,()),()))) v1 ((([0,0,0,0]:List Int),()),([]:List Bool),0,())
def F177(n:Nat):Fb 177:=fb n [⟨_,F135 n⟩,⟨_,F180 n⟩] [] [] [] Tryz.func177 Tryz.results177 Tryz.ntmps177 (.seq (.reg none [4,5]) (.seq .nop (.seq (.seq .nop (.block none (.loop ⟨[(48,.box cX,.own .ro)],[.hdr 7 63 cd (.own .ro),.val 8 y2],[0,4,5,6]⟩ (.seq .nop (.seq (.block none (.seq .nop (.seq .nop (.block none (.seq .nop (.cond (some ⟨[(48,.box cX,.own .ro)],[.hdr 7 63 cd (.own .ro)],[0,4,5,6,8]⟩) (.reg (some ⟨[(48,.box cX,.own .ro)],[.hdr 7 63 cd (.own .ro)],[0,4,5,6,8]⟩) []) (.seq .nop (.cond (some ⟨[(48,.box cX,.own .ro)],[.hdr 7 63 cd (.own .ro)],[0,4,5,6,8]⟩) (.reg (some ⟨[(48,.box cX,.own .ro)],[.hdr 7 63 cd (.own .ro)],[0,4,5,6,8]⟩) []) (.seq .nop (.cond (some ⟨[(48,.box cX,.own .ro)],[.hdr 7 63 cd (.own .ro)],[0,4,5,6,8]⟩) (.reg (some ⟨[(48,.box cX,.own .ro)],[.hdr 7 63 cd (.own .ro)],[0,4,5,6,8]⟩) []) .nop)))))))))) .nop))))) (.seq (.reg none [6]) .nop)))) [(y2,.ro),(cX,.ro),(cX,.ro)] A13 [] [] (CH n)
def ui(v1:Nat)(v2:T9):T14:=ap (λ(v3:T2)=>λv4=>bif decide (v3.2.1<(v2.1.length:Int))then if 0<=v3.2.1 then(match v2.1[(v3.2.1).toNat]? with|some v5=>bif decide (v5=v2.2.1)then some ((true,()),())else v4 ((),IntKind.wrap .i64 (v3.2.1+1),())|none=>none)else none else some ((false,()),())) v1 ((),0,())
def F113(n:Nat):Fb 113:=fb n [] [] [] [] Tryz.func113 Tryz.results113 Tryz.ntmps113 (.seq .nop (.seq (.seq .nop (.block none (.loop ⟨[],[.val 5 y2],[0,1]⟩ .nop))) .nop)) [(y9,.ro),(y5,.ro)] A16 [] [] (ui n)
def FU(v1:Nat)(v2:(Int×(List Int)×Unit)):T30:=bif decide (v2.1=10)then some ((([92,110]:List Int),()),())else bif decide (v2.1=9)then some ((([92,116]:List Int),()),())else bif decide (v2.1=13)then some ((([92,114]:List Int),()),())else aj (λ(v3:T3)=>bif v3.2.1 then if(16:Int)=0 then none else if(16:Int)=0 then none else if 0<=(IntKind.wrap .u8 (Int.tdiv v2.1 16))/\(IntKind.wrap .u8 (Int.tdiv v2.1 16))<=(IntKind.wrap .u8 ((IntKind.wrap .u8 (Int.tdiv v2.1 16))+1))/\(IntKind.wrap .u8 ((IntKind.wrap .u8 (Int.tdiv v2.1 16))+1))<=((List.length ([48,49,50,51,52,53,54,55,56,57,97,98,99,100,101,102]:List Int):Nat):Int)then if List.length ([92,120]:List Int)+List.length (aY ([48,49,50,51,52,53,54,55,56,57,97,98,99,100,101,102]:List Int) (IntKind.wrap .u8 (Int.tdiv v2.1 16)) (IntKind.wrap .u8 ((IntKind.wrap .u8 (Int.tdiv v2.1 16))+1)))<=9223372036854775807 then if(16:Int)=0 then none else if(16:Int)=0 then none else if 0<=(Int.tmod v2.1 16)/\(Int.tmod v2.1 16)<=(IntKind.wrap .u8 ((Int.tmod v2.1 16)+1))/\(IntKind.wrap .u8 ((Int.tmod v2.1 16)+1))<=((List.length ([48,49,50,51,52,53,54,55,56,57,97,98,99,100,101,102]:List Int):Nat):Int)then if List.length (([92,120]:List Int)++(aY ([48,49,50,51,52,53,54,55,56,57,97,98,99,100,101,102]:List Int) (IntKind.wrap .u8 (Int.tdiv v2.1 16)) (IntKind.wrap .u8 ((IntKind.wrap .u8 (Int.tdiv v2.1 16))+1))))+List.length (aY ([48,49,50,51,52,53,54,55,56,57,97,98,99,100,101,102]:List Int) (Int.tmod v2.1 16) (IntKind.wrap .u8 ((Int.tmod v2.1 16)+1)))<=9223372036854775807 then some (((([92,120]:List Int)++(aY ([48,49,50,51,52,53,54,55,56,57,97,98,99,100,101,102]:List Int) (IntKind.wrap .u8 (Int.tdiv v2.1 16)) (IntKind.wrap .u8 ((IntKind.wrap .u8 (Int.tdiv v2.1 16))+1))))++(aY ([48,49,50,51,52,53,54,55,56,57,97,98,99,100,101,102]:List Int) (Int.tmod v2.1 16) (IntKind.wrap .u8 ((Int.tmod v2.1 16)+1))),()),())else none else none else none else none else aj (λ(v4:T3)=>bif v4.2.1 then if List.length ([92]:List Int)+List.length ([v2.1]:List Int)<=9223372036854775807 then some ((([92]:List Int)++([v2.1]:List Int),()),())else none else some ((([v2.1]:List Int),()),())) (λv5=>bif decide (v2.1=92)then v5 ((),true,())else ae (ui v1 (v2.2.1,v2.1,())) (λ(v6:T6)=>v5 ((),v6.1.1,())))) (λv7=>bif decide (v2.1<32)then v7 ((),true,())else v7 ((),decide (126<v2.1),()))
def F183(n:Nat):Fb 183:=fb n [⟨_,F113 n⟩] [] [] [] Tryz.func183 Tryz.results183 Tryz.ntmps183 (.seq .nop (.seq .nop (.seq (.block none (.seq .nop (.cond none .nop (.seq .nop (.cond none .nop (.seq .nop (.cond none .nop (.seq (.reg (some ⟨[],[.val 15 y4],[0,1,5]⟩) []) (.cond none .nop (.seq (.reg (some ⟨[],[.val 38 y4],[0]⟩) []) .nop)))))))))) .nop))) [(y5,.ro),(y9,.ro)] A18 [] [] (FU n)
def CI(v1:Nat)(v2:T1):T14:=ae (ui v1 (([48,49,50,51,52,53,54,55,56,57,97,98,99,100,101,102,103,104,105,106,107,108,109,110,111,112,113,114,115,116,117,118,119,120,121,122,65,66,67,68,69,70,71,72,73,74,75,76,77,78,79,80,81,82,83,84,85,86,87,88,89,90]:List Int),v2.1,())) (λ(v3:T6)=>some ((v3.1.1,()),()))
def F114(n:Nat):Fb 114:=fb n [⟨_,F113 n⟩] [] [] [] Tryz.func114 Tryz.results114 Tryz.ntmps114 (.nop) [(y5,.ro)] A16 [] [] (CI n)
def Ad(v1:Nat)(v2:T4):T36:=bif decide (v2.1=([]:List Int))then some ((0,0,false,()),())else if(0:Int)<=(0:Int)then(match v2.1[(0:Int).toNat]? with|some v3=>bif !(decide (v3=92))then if(0:Int)<=(0:Int)then(match v2.1[(0:Int).toNat]? with|some v4=>some ((v4,1,true,()),())|none=>none)else none else ap (λ(v5:T2)=>λv6=>bif decide (v5.2.1<256)then ae (FU v1 (IntKind.wrap .u8 v5.2.1,([]:List Int),())) (λ(v7:T13)=>aj (λ(v8:T3)=>bif v8.2.1 then some ((IntKind.wrap .u8 v5.2.1,2,true,()),())else if(16:Int)=0 then none else if(16:Int)=0 then none else if 0<=(IntKind.wrap .i64 (Int.tdiv v5.2.1 16))/\(IntKind.wrap .i64 (Int.tdiv v5.2.1 16))<=(IntKind.wrap .i64 ((IntKind.wrap .i64 (Int.tdiv v5.2.1 16))+1))/\(IntKind.wrap .i64 ((IntKind.wrap .i64 (Int.tdiv v5.2.1 16))+1))<=((List.length ([48,49,50,51,52,53,54,55,56,57,97,98,99,100,101,102]:List Int):Nat):Int)then if List.length ([92,120]:List Int)+List.length (aY ([48,49,50,51,52,53,54,55,56,57,97,98,99,100,101,102]:List Int) (IntKind.wrap .i64 (Int.tdiv v5.2.1 16)) (IntKind.wrap .i64 ((IntKind.wrap .i64 (Int.tdiv v5.2.1 16))+1)))<=9223372036854775807 then if(16:Int)=0 then none else if(16:Int)=0 then none else if 0<=(Int.tmod v5.2.1 16)/\(Int.tmod v5.2.1 16)<=(IntKind.wrap .i64 ((Int.tmod v5.2.1 16)+1))/\(IntKind.wrap .i64 ((Int.tmod v5.2.1 16)+1))<=((List.length ([48,49,50,51,52,53,54,55,56,57,97,98,99,100,101,102]:List Int):Nat):Int)then if List.length (([92,120]:List Int)++(aY ([48,49,50,51,52,53,54,55,56,57,97,98,99,100,101,102]:List Int) (IntKind.wrap .i64 (Int.tdiv v5.2.1 16)) (IntKind.wrap .i64 ((IntKind.wrap .i64 (Int.tdiv v5.2.1 16))+1))))+List.length (aY ([48,49,50,51,52,53,54,55,56,57,97,98,99,100,101,102]:List Int) (Int.tmod v5.2.1 16) (IntKind.wrap .i64 ((Int.tmod v5.2.1 16)+1)))<=9223372036854775807 then aj (λ(v9:T3)=>bif v9.2.1 then some ((IntKind.wrap .u8 v5.2.1,4,true,()),())else v6 ((),IntKind.wrap .i64 (v5.2.1+1),())) (λv10=>bif decide (3<(v2.1.length:Int))then if(0:Int)<=(0:Int)/\(0:Int)<=(4:Int)/\(4:Int)<=(v2.1.length:Int)then v10 ((),decide ((aY v2.1 (0:Int) (4:Int))=((([92,120]:List Int)++(aY ([48,49,50,51,52,53,54,55,56,57,97,98,99,100,101,102]:List Int) (IntKind.wrap .i64 (Int.tdiv v5.2.1 16)) (IntKind.wrap .i64 ((IntKind.wrap .i64 (Int.tdiv v5.2.1 16))+1))))++(aY ([48,49,50,51,52,53,54,55,56,57,97,98,99,100,101,102]:List Int) (Int.tmod v5.2.1 16) (IntKind.wrap .i64 ((Int.tmod v5.2.1 16)+1))))),())else none else v10 ((),false,()))else none else none else none else none) (λv11=>bif decide ((v7.1.1.length:Int)=2)then if(0:Int)<=(1:Int)then(match v7.1.1[(1:Int).toNat]? with|some v12=>bif !(decide (v12=92))then bif decide (1<(v2.1.length:Int))then if(0:Int)<=(0:Int)/\(0:Int)<=(2:Int)/\(2:Int)<=(v2.1.length:Int)then v11 ((),decide ((aY v2.1 (0:Int) (2:Int))=v7.1.1),())else none else v11 ((),false,())else v11 ((),false,())|none=>none)else none else v11 ((),false,())))else aj (λ(v13:T3)=>bif v13.2.1 then if(0:Int)<=(1:Int)then(match v2.1[(1:Int).toNat]? with|some v14=>some ((v14,2,true,()),())|none=>none)else none else some ((0,0,false,()),())) (λv15=>bif decide (1<(v2.1.length:Int))then if(0:Int)<=(1:Int)then(match v2.1[(1:Int).toNat]? with|some v16=>bif decide (32<=v16)then if(0:Int)<=(1:Int)then(match v2.1[(1:Int).toNat]? with|some v17=>bif decide (v17<=126)then if(0:Int)<=(1:Int)then(match v2.1[(1:Int).toNat]? with|some v18=>ae (CI v1 (v18,())) (λ(v19:T6)=>v15 ((),!v19.1.1,()))|none=>none)else none else v15 ((),false,())|none=>none)else none else v15 ((),false,())|none=>none)else none else v15 ((),false,()))) v1 ((),0,())|none=>none)else none
def F179(n:Nat):Fb 179:=fb n [⟨_,F183 n⟩,⟨_,F114 n⟩] [] [] [] Tryz.func179 Tryz.results179 Tryz.ntmps179 (.seq .nop (.seq .nop (.seq .nop (.seq (.seq .nop (.block none (.loop ⟨[],[.val 5 y2],[0]⟩ (.seq .nop (.seq (.block none (.seq .nop (.seq (.seq (.reg (some ⟨[],[.val 40 y4],[0,5]⟩) []) .nop) (.seq .nop (.seq (.reg (some ⟨[],[.val 65 y4],[0,5]⟩) []) .nop))))) .nop))))) (.seq (.seq (.reg (some ⟨[],[.val 86 y4],[0]⟩) []) .nop) .nop))))) A18 [(y5,.ro),(y2,.ro),(y4,.ro)] [] [] (Ad n)
def FV(v1:Nat)(v2:T9):T59:=if(0:Int)<=(256:Int)/\(256:Int)<=(256:Int)then if(256:Int).toNat*1<=140737488355328 then aj (λ(v3:T31)=>aj (λ(v4:T27)=>ap (λ(v5:T27)=>λv6=>aj (λ(v7:T31)=>bif v7.2.1 then if 0<=v5.2.1/\v5.2.1<=(v2.1.length:Int)/\(v2.1.length:Int)<=(v2.1.length:Int)then ae (Ad v1 (aY v2.1 v5.2.1 (v2.1.length:Int),())) (λ(v8:T18)=>aj (λ(v9:T31)=>bif v9.2.1 then some ((([]:List (Int×(List Int))),v5.2.1,()),())else aj (λ(v10:T31)=>aj (λ(v11:(((List Bool)×Unit)×Int×Int×Unit))=>ap (λ(v12:T27)=>λv13=>bif decide (v12.2.1<=(IntKind.wrap .i64 v11.2.2.1))then if 0<=v12.2.1 then(match v12.1.1[(v12.2.1).toNat]? with|some v14=>if 0<=v12.2.1 then(match v12.1.1[(v12.2.1).toNat]? with|some v15=>v13 ((List.set v12.1.1 (v12.2.1).toNat true,()),IntKind.wrap .i64 (v12.2.1+1),())|none=>none)else none|none=>none)else none else v6 ((v12.1.1,()),v11.2.1,())) v1 ((v11.1.1,()),IntKind.wrap .i64 v8.1.1,())) (λv16=>bif v10.2.1 then aj (λ(v17:T31)=>bif v17.2.1 then some ((([]:List (Int×(List Int))),IntKind.wrap .i64 ((IntKind.wrap .i64 (v5.2.1+v8.1.2.1))+1),()),())else if 0<=(IntKind.wrap .i64 ((IntKind.wrap .i64 (v5.2.1+v8.1.2.1))+1))/\(IntKind.wrap .i64 ((IntKind.wrap .i64 (v5.2.1+v8.1.2.1))+1))<=(v2.1.length:Int)/\(v2.1.length:Int)<=(v2.1.length:Int)then ae (Ad v1 (aY v2.1 (IntKind.wrap .i64 ((IntKind.wrap .i64 (v5.2.1+v8.1.2.1))+1)) (v2.1.length:Int),())) (λ(v18:T18)=>aj (λ(v19:T31)=>bif v19.2.1 then some ((([]:List (Int×(List Int))),IntKind.wrap .i64 ((IntKind.wrap .i64 (v5.2.1+v8.1.2.1))+1),()),())else v16 ((v19.1.1,()),IntKind.wrap .i64 ((IntKind.wrap .i64 ((IntKind.wrap .i64 (v5.2.1+v8.1.2.1))+1))+v18.1.2.1),v18.1.1,())) (λv20=>bif !v18.1.2.2.1 then v20 ((v17.1.1,()),true,())else v20 ((v17.1.1,()),decide (v18.1.1<v8.1.1),())))else none) (λv21=>bif decide ((v2.1.length:Int)<=(IntKind.wrap .i64 ((IntKind.wrap .i64 (v5.2.1+v8.1.2.1))+1)))then v21 ((v10.1.1,()),true,())else if 0<=(IntKind.wrap .i64 ((IntKind.wrap .i64 (v5.2.1+v8.1.2.1))+1))then(match v2.1[(IntKind.wrap .i64 ((IntKind.wrap .i64 (v5.2.1+v8.1.2.1))+1)).toNat]? with|some v22=>ae (uh v1 (([93,94,45,47,34]:List Int),v22,())) (λ(v23:T6)=>v21 ((v10.1.1,()),v23.1.1,()))|none=>none)else none)else v16 ((v10.1.1,()),IntKind.wrap .i64 (v5.2.1+v8.1.2.1),v8.1.1,()))) (λv24=>bif decide ((IntKind.wrap .i64 (v5.2.1+v8.1.2.1))<(v2.1.length:Int))then if 0<=(IntKind.wrap .i64 (v5.2.1+v8.1.2.1))then(match v2.1[(IntKind.wrap .i64 (v5.2.1+v8.1.2.1)).toNat]? with|some v25=>v24 ((v9.1.1,()),decide (v25=45),())|none=>none)else none else v24 ((v9.1.1,()),false,()))) (λv26=>bif !v8.1.2.2.1 then v26 ((v7.1.1,()),true,())else if 0<=v5.2.1 then(match v2.1[(v5.2.1).toNat]? with|some v27=>ae (uh v1 (([94,45,47,34]:List Int),v27,())) (λ(v28:T6)=>v26 ((v7.1.1,()),v28.1.1,()))|none=>none)else none))else none else ae (wD v1 (v7.1.1,())) (λ(v29:T13)=>aj (λ(v30:T13)=>aj (λ(v31:T28)=>bif v31.2.1 then some ((([]:List (Int×(List Int))),v5.2.1,()),())else some ((([(1,v31.1.1)]:List (Int×(List Int))),IntKind.wrap .i64 (v5.2.1+1),()),())) (λv32=>bif decide ((v2.1.length:Int)<=v5.2.1)then v32 ((v30.1.1,()),true,())else v32 ((v30.1.1,()),decide (v30.1.1=([0,0,0,0]:List Int)),()))) (λv33=>bif v3.2.1 then ae (CH v1 (3,v29.1.1,v29.1.1,())) (λ(v34:T13)=>v33 ((v34.1.1,()),()))else v33 ((v29.1.1,()),())))) (λv35=>bif decide (v5.2.1<(v2.1.length:Int))then if 0<=v5.2.1 then(match v2.1[(v5.2.1).toNat]? with|some v36=>v35 ((v5.1.1,()),!(decide (v36=93)),())|none=>none)else none else v35 ((v5.1.1,()),false,()))) v1 ((v4.1.1,()),v4.2.1,())) (λv37=>bif v3.2.1 then v37 ((v3.1.1,()),IntKind.wrap .i64 (v2.2.1+1),())else v37 ((v3.1.1,()),v2.2.1,()))) (λv38=>bif decide (v2.2.1<(v2.1.length:Int))then if 0<=v2.2.1 then(match v2.1[(v2.2.1).toNat]? with|some v39=>v38 ((List.replicate (256:Int).toNat false,()),decide (v39=94),())|none=>none)else none else v38 ((List.replicate (256:Int).toNat false,()),false,()))else none else none
def F178(n:Nat):Fb 178:=fb n [⟨_,F179 n⟩,⟨_,F152 n⟩,⟨_,F180 n⟩,⟨_,F177 n⟩] [] [] [⟨_,HD⟩] Tryz.func178 Tryz.results178 Tryz.ntmps178 (.seq .nop (.seq .nop (.seq (.reg (some ⟨[(112,cd,.own .ro)],[.val 7 y4],[0,1,6]⟩) []) (.seq (.seq .nop (.cond (some ⟨[(112,cd,.own .ro)],[.val 1 y2],[0,6,7]⟩) .nop .nop)) (.seq (.block none (.loop ⟨[(112,cd,.own .ro)],[.val 1 y2],[0,6,7]⟩ (.seq (.seq (.reg (some ⟨[(112,cd,.own .ro)],[.val 37 y4],[0,1,6,7]⟩) []) .nop) (.block none (.seq .nop (.seq (.seq (.reg (some ⟨[(112,cd,.own .ro)],[.val 53 y4],[0,1,6,7,8,9]⟩) []) .nop) (.seq .nop (.seq .nop (.seq (.seq (.reg (some ⟨[(112,cd,.own .ro)],[.val 68 y4],[0,1,6,7,8,11]⟩) []) (.cond (some ⟨[(112,cd,.own .ro)],[.val 1 y2,.val 11 y5],[0,6,7,8]⟩) (.seq .nop (.seq (.seq (.reg (some ⟨[(112,cd,.own .ro)],[.val 80 y4],[0,1,6,7,8]⟩) []) .nop) (.seq .nop (.seq (.seq (.reg (some ⟨[(112,cd,.own .ro)],[.val 96 y4],[0,1,6,7,8,9,11]⟩) []) .nop) .nop)))) .nop)) (.seq .nop (.block none (.loop ⟨[(112,cd,.own .ro)],[.val 12 y2],[0,1,6,7,11]⟩ .nop)))))))))))) (.seq .nop (.seq (.seq .nop (.cond (some ⟨[(104,.box cX,.own .ro)],[],[0,1,13]⟩) .nop .nop)) (.seq (.seq (.reg (some ⟨[(104,.box cX,.own .ro)],[.val 126 y4],[1,13]⟩) []) .nop) (.seq (.rgf none [13] []) .nop))))))))) [(y9,.ro),(y2,.ro)] A6 [] [] (FV n)
abbrev Ae:=Qt A5 A6 []
abbrev Jd(q:Ae):Callee:=⟨_,_,[],_,q⟩
theorem CJ:Plain Tryz.prog 111:=pl Tryz.func111
abbrev Af:=Qt A5 A6 []
abbrev Je(q:Af):Callee:=⟨_,_,[],_,q⟩
theorem CK:Plain Tryz.prog 133:=pl Tryz.func133
abbrev Ah:=Qt A5 A6 []
abbrev Jf(q:Ah):Callee:=⟨_,_,[],_,q⟩
theorem CL:Plain Tryz.prog 151:=pl Tryz.func151
abbrev Ai:=Qt A5 A6 []
abbrev Jg(q:Ai):Callee:=⟨_,_,[],_,q⟩
theorem CM:Plain Tryz.prog 169:=pl Tryz.func169
abbrev CN(jD:Ae)(jE:Af)(jF:Ah)(jG:Ai):=di Tryz.prog 111 (Jd jD)/\di Tryz.prog 133 (Je jE)/\di Tryz.prog 151 (Jf jF)/\di Tryz.prog 169 (Jg jG)
def uj(v1:Nat)(v2 v3 v4 v5:T73)(v6:T16):T59:=ae (v3 (v6.1,v6.2.1,v6.2.2.1,())) (λ(v7:T54)=>ap (λ(v8:T49)=>λv9=>aj (λ(v10:T3)=>bif v10.2.1 then ae (v3 (v6.1,IntKind.wrap .i64 (v8.2.1+1),v6.2.2.1,())) (λ(v11:T54)=>bif List.isEmpty v11.1.1 then some ((([]:List (Int×(List Int))),v11.1.2.1,()),())else if(List.length ([]:List (Int×(List Int)))+List.length v8.2.2.1)*40<=140737488355328 then if List.length ([]:List (Int×(List Int)))+List.length v8.2.2.1<=9223372036854775807 then if(List.length (([]:List (Int×(List Int)))++v8.2.2.1)+List.length v11.1.1)*40<=140737488355328 then if List.length (([]:List (Int×(List Int)))++v8.2.2.1)+List.length v11.1.1<=9223372036854775807 then if(List.length ((([]:List (Int×(List Int)))++v8.2.2.1)++v11.1.1)+List.length ([(3,([0,0,0,0]:List Int))]:List (Int×(List Int))))*40<=140737488355328 then if List.length ((([]:List (Int×(List Int)))++v8.2.2.1)++v11.1.1)+List.length ([(3,([0,0,0,0]:List Int))]:List (Int×(List Int)))<=9223372036854775807 then bif List.isEmpty (((([]:List (Int×(List Int)))++v8.2.2.1)++v11.1.1)++([(3,([0,0,0,0]:List Int))]:List (Int×(List Int))))then none else v9 ((),v11.1.2.1,((([]:List (Int×(List Int)))++v8.2.2.1)++v11.1.1)++([(3,([0,0,0,0]:List Int))]:List (Int×(List Int))),())else none else none else none else none else none else none)else some ((v8.2.2.1,v8.2.1,()),())) (λv12=>bif !(List.isEmpty v8.2.2.1)then bif decide (v8.2.1<(v6.1.length:Int))then if 0<=v8.2.1 then(match v6.1[(v8.2.1).toNat]? with|some v13=>v12 ((),decide (v13=124),())|none=>none)else none else v12 ((),false,())else v12 ((),false,()))) v1 ((),v7.1.2.1,v7.1.1,()))
theorem OT(n:Nat)(jD:Ae)(jE:Af)(jF:Ah)(jG:Ai)(h:CN jD jE jF jG):di Tryz.prog 111 (Jd (uj n jD jE jF jG)):=(fb n [⟨_,⟨_,h.1,CJ⟩⟩,⟨_,⟨_,h.2.1,CK⟩⟩,⟨_,⟨_,h.2.2.1,CL⟩⟩,⟨_,⟨_,h.2.2.2,CM⟩⟩] [14,36] [] [] Tryz.func111 Tryz.results111 Tryz.ntmps111 (.seq .nop (.seq .nop (.seq (.block none (.loop ⟨[],[.val 1 y2,.val 8 (.nl z3)],[0,2]⟩ (.seq (.seq (.reg (some ⟨[],[.val 30 y4],[0,1,2,8]⟩) []) .nop) (.block none (.seq .nop (.seq .nop (.seq .nop (.reg none [8])))))))) .nop))) A5 A6 [] [] (uj n jD jE jF jG)).o
def uk(v1:Nat)(v2 v3 v4 v5:T73)(v6:T16):T59:=ae (v4 (v6.1,v6.2.1,v6.2.2.1,())) (λ(v7:T54)=>ap (λ(v8:T49)=>λv9=>aj (λ(v10:T3)=>bif v10.2.1 then ae (v4 (v6.1,v8.2.1,v6.2.2.1,())) (λ(v11:T54)=>bif List.isEmpty v11.1.1 then some ((([]:List (Int×(List Int))),v11.1.2.1,()),())else if(List.length ([]:List (Int×(List Int)))+List.length v8.2.2.1)*40<=140737488355328 then if List.length ([]:List (Int×(List Int)))+List.length v8.2.2.1<=9223372036854775807 then if(List.length (([]:List (Int×(List Int)))++v8.2.2.1)+List.length v11.1.1)*40<=140737488355328 then if List.length (([]:List (Int×(List Int)))++v8.2.2.1)+List.length v11.1.1<=9223372036854775807 then if(List.length ((([]:List (Int×(List Int)))++v8.2.2.1)++v11.1.1)+List.length ([(2,([0,0,0,0]:List Int))]:List (Int×(List Int))))*40<=140737488355328 then if List.length ((([]:List (Int×(List Int)))++v8.2.2.1)++v11.1.1)+List.length ([(2,([0,0,0,0]:List Int))]:List (Int×(List Int)))<=9223372036854775807 then bif List.isEmpty (((([]:List (Int×(List Int)))++v8.2.2.1)++v11.1.1)++([(2,([0,0,0,0]:List Int))]:List (Int×(List Int))))then none else v9 ((),v11.1.2.1,((([]:List (Int×(List Int)))++v8.2.2.1)++v11.1.1)++([(2,([0,0,0,0]:List Int))]:List (Int×(List Int))),())else none else none else none else none else none else none)else some ((v8.2.2.1,v8.2.1,()),())) (λv12=>bif !(List.isEmpty v8.2.2.1)then bif decide (v8.2.1<(v6.1.length:Int))then if 0<=v8.2.1 then(match v6.1[(v8.2.1).toNat]? with|some v13=>ae (uh v1 (([124,41]:List Int),v13,())) (λ(v14:T6)=>v12 ((),!v14.1.1,()))|none=>none)else none else v12 ((),false,())else v12 ((),false,()))) v1 ((),v7.1.2.1,v7.1.1,()))
theorem OU(n:Nat)(jD:Ae)(jE:Af)(jF:Ah)(jG:Ai)(h:CN jD jE jF jG):di Tryz.prog 133 (Je (uk n jD jE jF jG)):=(fb n [⟨_,F152 n⟩,⟨_,⟨_,h.1,CJ⟩⟩,⟨_,⟨_,h.2.1,CK⟩⟩,⟨_,⟨_,h.2.2.1,CL⟩⟩,⟨_,⟨_,h.2.2.2,CM⟩⟩] [14,36] [] [] Tryz.func133 Tryz.results133 Tryz.ntmps133 (.seq .nop (.seq .nop (.seq (.block none (.loop ⟨[],[.val 1 y2,.val 8 (.nl z3)],[0,2]⟩ (.seq (.seq (.reg (some ⟨[],[.val 31 y4],[0,1,2,8]⟩) []) .nop) (.block none (.seq .nop (.seq .nop (.seq .nop (.reg none [8])))))))) .nop))) A5 A6 [] [] (uk n jD jE jF jG)).o
def ul(v1:Nat)(v2 v3 v4 v5:T73)(v6:T16):T59:=ae (v5 (v6.1,v6.2.1,v6.2.2.1,())) (λ(v7:T54)=>ap (λ(v8:T49)=>λv9=>aj (λ(v10:T3)=>bif v10.2.1 then if 0<=v8.2.1 then(match v6.1[(v8.2.1).toNat]? with|some v11=>aj (λ(v12:T2)=>if 0<=v8.2.1 then(match v6.1[(v8.2.1).toNat]? with|some v13=>aj (λ(v14:T2)=>if(List.length ([]:List (Int×(List Int)))+List.length v8.2.2.1)*40<=140737488355328 then if List.length ([]:List (Int×(List Int)))+List.length v8.2.2.1<=9223372036854775807 then if(List.length (([]:List (Int×(List Int)))++v8.2.2.1)+List.length ([(v14.2.1,([0,0,0,0]:List Int))]:List (Int×(List Int))))*40<=140737488355328 then if List.length (([]:List (Int×(List Int)))++v8.2.2.1)+List.length ([(v14.2.1,([0,0,0,0]:List Int))]:List (Int×(List Int)))<=9223372036854775807 then bif List.isEmpty ((([]:List (Int×(List Int)))++v8.2.2.1)++([(v14.2.1,([0,0,0,0]:List Int))]:List (Int×(List Int))))then none else v9 ((),IntKind.wrap .i64 (v8.2.1+1),(([]:List (Int×(List Int)))++v8.2.2.1)++([(v14.2.1,([0,0,0,0]:List Int))]:List (Int×(List Int))),())else none else none else none else none) (λv15=>bif decide (v13=63)then v15 ((),6,())else v15 ((),v12.2.1,()))|none=>none)else none) (λv16=>bif decide (v11=43)then v16 ((),5,())else v16 ((),4,()))|none=>none)else none else some ((v8.2.2.1,v8.2.1,()),())) (λv17=>bif !(List.isEmpty v8.2.2.1)then bif decide (v8.2.1<(v6.1.length:Int))then if 0<=v8.2.1 then(match v6.1[(v8.2.1).toNat]? with|some v18=>ae (uh v1 (([42,43,63]:List Int),v18,())) (λ(v19:T6)=>v17 ((),v19.1.1,()))|none=>none)else none else v17 ((),false,())else v17 ((),false,()))) v1 ((),v7.1.2.1,v7.1.1,()))
theorem OV(n:Nat)(jD:Ae)(jE:Af)(jF:Ah)(jG:Ai)(h:CN jD jE jF jG):di Tryz.prog 151 (Jf (ul n jD jE jF jG)):=(fb n [⟨_,F152 n⟩,⟨_,⟨_,h.1,CJ⟩⟩,⟨_,⟨_,h.2.1,CK⟩⟩,⟨_,⟨_,h.2.2.1,CL⟩⟩,⟨_,⟨_,h.2.2.2,CM⟩⟩] [14] [] [] Tryz.func151 Tryz.results151 Tryz.ntmps151 (.seq .nop (.seq .nop (.seq (.block none (.loop ⟨[],[.val 1 y2,.val 8 (.nl z3)],[0]⟩ (.seq (.seq (.reg (some ⟨[],[.val 30 y4],[0,1,8]⟩) []) .nop) (.block none (.seq .nop (.seq (.seq .nop (.cond (some ⟨[],[.val 9 y2],[0,1,8]⟩) .nop .nop)) (.seq (.seq .nop (.cond (some ⟨[],[.val 9 y2],[0,1,8]⟩) .nop .nop)) (.seq (.reg none [8]) .nop)))))))) .nop))) A5 A6 [] [] (ul n jD jE jF jG)).o
def um(v1:Nat)(v2 v3 v4 v5:T73)(v6:T16):T59:=aj (λ(v7:T3)=>bif v7.2.1 then some ((([]:List (Int×(List Int))),v6.2.1,()),())else if 0<=v6.2.1 then(match v6.1[(v6.2.1).toNat]? with|some v8=>bif decide (v8=46)then ae (CH v1 (3,([0,0,0,0]:List Int),([0,0,0,0]:List Int),())) (λ(v9:T13)=>some ((([(1,v9.1.1)]:List (Int×(List Int))),IntKind.wrap .i64 (v6.2.1+1),()),()))else if 0<=v6.2.1 then(match v6.1[(v6.2.1).toNat]? with|some v10=>bif decide (v10=126)then some ((([(0,([0,0,0,0]:List Int))]:List (Int×(List Int))),IntKind.wrap .i64 (v6.2.1+1),()),())else if 0<=v6.2.1 then(match v6.1[(v6.2.1).toNat]? with|some v11=>bif decide (v11=91)then ae (FV v1 (v6.1,IntKind.wrap .i64 (v6.2.1+1),())) (λ(v12:T54)=>some ((v12.1.1,v12.1.2.1,()),()))else if 0<=v6.2.1 then(match v6.1[(v6.2.1).toNat]? with|some v13=>bif decide (v13=40)then bif decide (99<=v6.2.2.1)then some ((([]:List (Int×(List Int))),v6.2.1,()),())else ae (v2 (v6.1,IntKind.wrap .i64 (v6.2.1+1),IntKind.wrap .i64 (v6.2.2.1+1),())) (λ(v14:T54)=>aj (λ(v15:T3)=>bif v15.2.1 then some ((([]:List (Int×(List Int))),v14.1.2.1,()),())else some ((v14.1.1,IntKind.wrap .i64 (v14.1.2.1+1),()),())) (λv16=>bif List.isEmpty v14.1.1 then v16 ((),true,())else bif decide ((v6.1.length:Int)<=v14.1.2.1)then v16 ((),true,())else if 0<=v14.1.2.1 then(match v6.1[(v14.1.2.1).toNat]? with|some v17=>v16 ((),!(decide (v17=41)),())|none=>none)else none))else if 0<=v6.2.1/\v6.2.1<=(v6.1.length:Int)/\(v6.1.length:Int)<=(v6.1.length:Int)then ae (Ad v1 (aY v6.1 v6.2.1 (v6.1.length:Int),())) (λ(v18:T18)=>bif !v18.1.2.2.1 then some ((([]:List (Int×(List Int))),v6.2.1,()),())else if(0:Int)<=(256:Int)/\(256:Int)<=(256:Int)then if(256:Int).toNat*1<=140737488355328 then if 0<=v18.1.1 then(match(List.replicate (256:Int).toNat false)[(v18.1.1).toNat]? with|some v19=>if 0<=v18.1.1 then(match(List.replicate (256:Int).toNat false)[(v18.1.1).toNat]? with|some v20=>ae (wD v1 (List.set (List.replicate (256:Int).toNat false) (v18.1.1).toNat true,())) (λ(v21:T13)=>some ((([(1,v21.1.1)]:List (Int×(List Int))),IntKind.wrap .i64 (v6.2.1+v18.1.2.1),()),()))|none=>none)else none|none=>none)else none else none else none)else none|none=>none)else none|none=>none)else none|none=>none)else none|none=>none)else none) (λv22=>bif decide ((v6.1.length:Int)<=v6.2.1)then v22 ((),true,())else if 0<=v6.2.1 then(match v6.1[(v6.2.1).toNat]? with|some v23=>ae (uh v1 (([124,41,42,43,63,93,47,34]:List Int),v23,())) (λ(v24:T6)=>v22 ((),v24.1.1,()))|none=>none)else none)
theorem OW(n:Nat)(jD:Ae)(jE:Af)(jF:Ah)(jG:Ai)(h:CN jD jE jF jG):di Tryz.prog 169 (Jg (um n jD jE jF jG)):=(fb n [⟨_,F152 n⟩,⟨_,F177 n⟩,⟨_,F178 n⟩,⟨_,F179 n⟩,⟨_,F180 n⟩,⟨_,⟨_,h.1,CJ⟩⟩,⟨_,⟨_,h.2.1,CK⟩⟩,⟨_,⟨_,h.2.2.1,CL⟩⟩,⟨_,⟨_,h.2.2.2,CM⟩⟩] [55,72] [] [] Tryz.func169 Tryz.results169 Tryz.ntmps169 (.seq .nop (.seq (.block none (.seq (.reg (some ⟨[],[.val 14 y4],[0,1,2]⟩) []) (.cond none .nop (.seq .nop (.cond none .nop (.seq .nop (.cond none .nop (.seq .nop (.cond none .nop (.seq .nop (.cond none (.seq .nop (.seq .nop (.seq (.seq (.reg (some ⟨[],[.val 88 y4],[8,9]⟩) []) .nop) .nop))) .nop))))))))))) .nop)) A5 A6 [] [] (um n jD jE jF jG)).o
def bp(n:Nat):Nat->(T16->T59)×(T16->T59)×(T16->T59)×(T16->T59)
 |0=>(λ_=>none,λ_=>none,λ_=>none,λ_=>none)
 |d+1=>(λx=>uj n (bp n d).1 (bp n d).2.1 (bp n d).2.2.1 (bp n d).2.2.2 x,λx=>uk n (bp n d).1 (bp n d).2.1 (bp n d).2.2.1 (bp n d).2.2.2 x,λx=>ul n (bp n d).1 (bp n d).2.1 (bp n d).2.2.1 (bp n d).2.2.2 x,λx=>um n (bp n d).1 (bp n d).2.1 (bp n d).2.2.1 (bp n d).2.2.2 x)
theorem uo(n:Nat):∀ d,CN (bp n d).1 (bp n d).2.1 (bp n d).2.2.1 (bp n d).2.2.2
 |0=>⟨(λx r h=>by cases h),(λx r h=>by cases h),(λx r h=>by cases h),(λx r h=>by cases h)⟩
 |d+1=>⟨OT n _ _ _ _ (uo n d),OU n _ _ _ _ (uo n d),OV n _ _ _ _ (uo n d),OW n _ _ _ _ (uo n d)⟩
def Jh(n:Nat)(x:T16):T59:=(bp n n).1 x
def F111(n:Nat):Fb 111:=⟨Jd (Jh n),(uo n n).1,CJ⟩
def OX(n:Nat)(x:T16):T59:=(bp n n).2.1 x
def F133(n:Nat):Fb 133:=⟨Je (OX n),(uo n n).2.1,CK⟩
def OY(n:Nat)(x:T16):T59:=(bp n n).2.2.1 x
def F151(n:Nat):Fb 151:=⟨Jf (OY n),(uo n n).2.2.1,CL⟩
def OZ(n:Nat)(x:T16):T59:=(bp n n).2.2.2 x
def F169(n:Nat):Fb 169:=⟨Jg (OZ n),(uo n n).2.2.2,CM⟩
def p97(v1:Nat)(v2:T4):T59:=bif decide (1600<(v2.1.length:Int))then some ((([]:List (Int×(List Int))),6,()),())else ae (Jh v1 (v2.1,0,0,())) (λ(v3:T54)=>aj (λ(v4:T3)=>bif v4.2.1 then some ((([]:List (Int×(List Int))),5,()),())else bif decide (400<(v3.1.1.length:Int))then some ((([]:List (Int×(List Int))),6,()),())else some ((v3.1.1,0,()),())) (λv5=>bif List.isEmpty v3.1.1 then v5 ((),true,())else v5 ((),decide (v3.1.2.1<(v2.1.length:Int)),())))
def F97(n:Nat):Fb 97:=fb n [⟨_,F111 n⟩] [11] [] [] Tryz.func97 Tryz.results97 Tryz.ntmps97 (.seq .nop (.seq .nop (.seq .nop (.seq (.seq (.reg (some ⟨[],[.val 21 y4],[4]⟩) []) .nop) .nop)))) A18 A9 [] [] (p97 n)
def Aj(v1:Nat)(v2:T1):T12:=aj (λ(v3:T28)=>bif v3.2.1 then some ((-1,()),())else if 0<=v2.1 then(match v3.1.1[(v2.1).toNat]? with|some v4=>some ((v4,()),())|none=>none)else none) (λv5=>bif decide (v2.1<0)then v5 ((([0,0,2,2,1,1,1]:List Int),()),true,())else v5 ((([0,0,2,2,1,1,1]:List Int),()),decide (6<v2.1),()))
def F153(n:Nat):Fb 153:=fb n [] [] [] [] Tryz.func153 Tryz.results153 Tryz.ntmps153 (.seq .nop (.seq .nop (.seq (.seq (.reg (some ⟨[(32,y28,.own .ro)],[.val 10 y4],[0,3]⟩) []) .nop) .nop))) A17 A17 [] [] (Aj n)
def wF(v1:Nat)(v2:((List (Int×(List Int)))×Int×Unit)):T12:=ap (λ(v3:T8)=>λv4=>bif decide (0<=v3.2.2.1)then if 0<=v3.2.2.1 then(match v2.1[(v3.2.2.1).toNat]? with|some v5=>ae (Aj v1 (v5.1,())) (λ(v6:T5)=>bif decide ((IntKind.wrap .i64 ((IntKind.wrap .i64 (v3.2.1-1))+v6.1.1))=0)then some ((v3.2.2.1,()),())else v4 ((),IntKind.wrap .i64 ((IntKind.wrap .i64 (v3.2.1-1))+v6.1.1),IntKind.wrap .i64 (v3.2.2.1-1),()))|none=>none)else none else some ((0,()),())) v1 ((),1,v2.2.1,())
def F154(n:Nat):Fb 154:=fb n [⟨_,F153 n⟩] [] [] [] Tryz.func154 Tryz.results154 Tryz.ntmps154 (.seq .nop (.seq .nop (.seq (.seq .nop (.block none (.loop ⟨[],[.val 5 y2,.val 6 y2],[0]⟩ .nop))) .nop))) A9 A17 [] [] (wF n)
def rK(v1:Nat)(v2:T26):Option (((List (List (Int×(List Int))))×Unit)×Unit):=if 0<=(IntKind.wrap .i64 ((v2.1.length:Int)-1))then(match v2.1[(IntKind.wrap .i64 ((v2.1.length:Int)-1)).toNat]? with|some v3=>ae (Aj v1 (v3.1,())) (λ(v4:T5)=>ap (λ(v5:(Unit×(List (List (Int×(List Int))))×Int×Int×Unit))=>λv6=>bif decide (0<v5.2.2.2.1)then ae (wF v1 (v2.1,IntKind.wrap .i64 (v5.2.2.1-1),())) (λ(v7:T5)=>if 0<=v7.1.1/\v7.1.1<=v5.2.2.1/\v5.2.2.1<=(v2.1.length:Int)then if(List.length ([(aY v2.1 v7.1.1 v5.2.2.1)]:List (List (Int×(List Int))))+List.length v5.2.1)*24<=140737488355328 then if List.length ([(aY v2.1 v7.1.1 v5.2.2.1)]:List (List (Int×(List Int))))+List.length v5.2.1<=9223372036854775807 then v6 ((),([(aY v2.1 v7.1.1 v5.2.2.1)]:List (List (Int×(List Int))))++v5.2.1,v7.1.1,IntKind.wrap .i64 (v5.2.2.2.1-1),())else none else none else none)else some ((v5.2.1,()),())) v1 ((),([]:List (List (Int×(List Int)))),IntKind.wrap .i64 ((v2.1.length:Int)-1),v4.1.1,()))|none=>none)else none
def F134(n:Nat):Fb 134:=fb n [⟨_,F153 n⟩,⟨_,F154 n⟩] [] [] [] Tryz.func134 Tryz.results134 Tryz.ntmps134 (.seq .nop (.seq .nop (.seq .nop (.seq .nop (.seq (.seq .nop (.block none (.loop ⟨[],[.hdr 4 39 Fy (.own .ro),.val 5 y2,.val 6 y2],[0]⟩ .nop))) .nop))))) [(jy,.ro)] [(Fy,.ro)] [] [] (rK n)
def CO(v1:Nat)(v2:((List Bool)×(List Bool)×Unit)):T33:=ap (λ(v3:T22)=>λv4=>bif decide (v3.2.2.1<(v2.1.length:Int))then aj (λ(v5:(Unit×(List Bool)×Unit))=>v4 ((),v5.2.1,IntKind.wrap .i64 (v3.2.2.1+1),())) (λv6=>if 0<=v3.2.2.1 then(match v2.1[(v3.2.2.1).toNat]? with|some v7=>bif v7 then if(List.length v3.2.1+List.length ([true]:List Bool))*1<=140737488355328 then if List.length v3.2.1+List.length ([true]:List Bool)<=9223372036854775807 then v6 ((),v3.2.1++([true]:List Bool),())else none else none else if 0<=v3.2.2.1 then(match v2.2.1[(v3.2.2.1).toNat]? with|some v8=>if(List.length v3.2.1+List.length ([v8]:List Bool))*1<=140737488355328 then if List.length v3.2.1+List.length ([v8]:List Bool)<=9223372036854775807 then v6 ((),v3.2.1++([v8]:List Bool),())else none else none|none=>none)else none|none=>none)else none)else some ((v3.2.1,()),())) v1 ((),([]:List Bool),0,())
def F136(n:Nat):Fb 136:=fb n [] [] [] [] Tryz.func136 Tryz.results136 Tryz.ntmps136 (.seq .nop (.seq .nop (.seq (.seq .nop (.block none (.loop ⟨[],[.hdr 5 47 cd (.own .ro),.val 6 y2],[0,1]⟩ (.seq .nop (.seq (.block none (.reg (some ⟨[],[.hdr 5 47 cd (.own .ro)],[0,1,6]⟩) [])) .nop))))) .nop))) [(cd,.ro),(cd,.ro)] A14 [] [] (CO n)
abbrev FW:=Qt A4 A14 []
abbrev Ji(q:FW):Callee:=⟨_,_,[],_,q⟩
theorem Jj:Plain Tryz.prog 112:=pl Tryz.func112
abbrev FX:=Qt A4 A14 []
abbrev Jk(q:FX):Callee:=⟨_,_,[],_,q⟩
theorem Jl:Plain Tryz.prog 137:=pl Tryz.func137
abbrev Jm(rL:FW)(rM:FX):=di Tryz.prog 112 (Ji rL)/\di Tryz.prog 137 (Jk rM)
def hO(v1:Nat)(v2 v3:T75)(v4:T61):T33:=if 0<=(v4.2.2.1.length:Int)/\(v4.2.2.1.length:Int)<=(v4.2.2.1.length:Int)then if(v4.2.2.1.length:Int).toNat*1<=140737488355328 then ae (rK v1 (v4.1,())) (λ(v5:(((List (List (Int×(List Int))))×Unit)×Unit))=>if 0<=(IntKind.wrap .i64 ((v4.1.length:Int)-1))then(match v4.1[(IntKind.wrap .i64 ((v4.1.length:Int)-1)).toNat]? with|some v6=>bif decide (v6.1=0)then some ((v4.2.2.1,()),())else bif decide (v6.1=1)then ap (λ(v7:T27)=>λv8=>bif decide (v7.2.1<(v4.2.1.length:Int))then aj (λ(v9:T15)=>v8 ((v9.1.1,()),IntKind.wrap .i64 (v7.2.1+1),())) (λv10=>if 0<=v7.2.1 then(match v4.2.2.1[(v7.2.1).toNat]? with|some v11=>bif v11 then if 0<=(IntKind.wrap .i64 ((v4.1.length:Int)-1))then(match v4.1[(IntKind.wrap .i64 ((v4.1.length:Int)-1)).toNat]? with|some v12=>if 0<=v7.2.1 then(match v4.2.1[(v7.2.1).toNat]? with|some v13=>ae (Ac v1 (v12.2,IntKind.wrap .i64 v13,())) (λ(v14:T6)=>if 0<=(IntKind.wrap .i64 (v7.2.1+1))then(match v7.1.1[(IntKind.wrap .i64 (v7.2.1+1)).toNat]? with|some v15=>if 0<=(IntKind.wrap .i64 (v7.2.1+1))then(match v7.1.1[(IntKind.wrap .i64 (v7.2.1+1)).toNat]? with|some v16=>v10 ((List.set v7.1.1 (IntKind.wrap .i64 (v7.2.1+1)).toNat v14.1.1,()),())|none=>none)else none|none=>none)else none)|none=>none)else none|none=>none)else none else if 0<=(IntKind.wrap .i64 (v7.2.1+1))then(match v7.1.1[(IntKind.wrap .i64 (v7.2.1+1)).toNat]? with|some v17=>if 0<=(IntKind.wrap .i64 (v7.2.1+1))then(match v7.1.1[(IntKind.wrap .i64 (v7.2.1+1)).toNat]? with|some v18=>v10 ((List.set v7.1.1 (IntKind.wrap .i64 (v7.2.1+1)).toNat false,()),())|none=>none)else none|none=>none)else none|none=>none)else none)else some ((v7.1.1,()),())) v1 ((List.replicate (v4.2.2.1.length:Int).toNat false,()),0,())else bif decide (v6.1=2)then if(0:Int)<=(1:Int)then(match v5.1.1[(1:Int).toNat]? with|some v19=>if(0:Int)<=(0:Int)then(match v5.1.1[(0:Int).toNat]? with|some v20=>ae (v2 (v20,v4.2.1,v4.2.2.1,())) (λ(v21:T15)=>ae (v2 (v19,v4.2.1,v21.1.1,())) (λ(v22:T15)=>some ((v22.1.1,()),())))|none=>none)else none|none=>none)else none else bif decide (v6.1=3)then if(0:Int)<=(0:Int)then(match v5.1.1[(0:Int).toNat]? with|some v23=>ae (v2 (v23,v4.2.1,v4.2.2.1,())) (λ(v24:T15)=>if(0:Int)<=(1:Int)then(match v5.1.1[(1:Int).toNat]? with|some v25=>ae (v2 (v25,v4.2.1,v4.2.2.1,())) (λ(v26:T15)=>ae (CO v1 (v24.1.1,v26.1.1,())) (λ(v27:T15)=>some ((v27.1.1,()),())))|none=>none)else none)|none=>none)else none else bif decide (v6.1=6)then if(0:Int)<=(0:Int)then(match v5.1.1[(0:Int).toNat]? with|some v28=>ae (v2 (v28,v4.2.1,v4.2.2.1,())) (λ(v29:T15)=>ae (CO v1 (v4.2.2.1,v29.1.1,())) (λ(v30:T15)=>some ((v30.1.1,()),())))|none=>none)else none else if 0<=(IntKind.wrap .i64 ((v4.1.length:Int)-1))then(match v4.1[(IntKind.wrap .i64 ((v4.1.length:Int)-1)).toNat]? with|some v31=>bif decide (v31.1=4)then if(0:Int)<=(0:Int)then(match v5.1.1[(0:Int).toNat]? with|some v32=>ae (v3 (v32,v4.2.1,v4.2.2.1,())) (λ(v33:T15)=>some ((v33.1.1,()),()))|none=>none)else none else if(0:Int)<=(0:Int)then(match v5.1.1[(0:Int).toNat]? with|some v34=>if(0:Int)<=(0:Int)then(match v5.1.1[(0:Int).toNat]? with|some v35=>ae (v2 (v35,v4.2.1,v4.2.2.1,())) (λ(v36:T15)=>ae (v3 (v34,v4.2.1,v36.1.1,())) (λ(v37:T15)=>some ((v37.1.1,()),())))|none=>none)else none|none=>none)else none|none=>none)else none|none=>none)else none)else none else none
theorem O0(n:Nat)(rL:FW)(rM:FX)(h:Jm rL rM):di Tryz.prog 112 (Ji (hO n rL rM)):=(fb n [⟨_,F134 n⟩,⟨_,F135 n⟩,⟨_,F136 n⟩,⟨_,⟨_,h.1,Jj⟩⟩,⟨_,⟨_,h.2,Jl⟩⟩] [14,67,68,76,82,83,92,93,107,117,118] [] [] Tryz.func112 Tryz.results112 Tryz.ntmps112 (.seq .nop (.seq .nop (.seq .nop (.seq (.seq .nop (.block none (.seq .nop (.cond none .nop (.seq .nop (.cond none (.seq (.seq .nop (.block none (.loop ⟨[(96,cd,.own .ro)],[.val 9 y2],[0,1,2,7]⟩ (.seq .nop (.seq (.block none (.reg (some ⟨[(96,cd,.own .ro)],[],[0,1,2,7,9]⟩) [])) .nop))))) .nop) .nop)))))) .nop)))) A4 A14 [] [] (hO n rL rM)).o
def uq(v1:Nat)(v2 v3:T75)(v4:T61):T33:=ap (λ(v5:T22)=>λv6=>bif decide (v5.2.2.1<=(v4.2.1.length:Int))then ae (v2 (v4.1,v4.2.1,v5.2.1,())) (λ(v7:T15)=>ae (CO v1 (v5.2.1,v7.1.1,())) (λ(v8:T15)=>ap (λ(v9:(Unit×Bool×Int×Unit))=>λv10=>bif decide (v9.2.2.1<(v8.1.1.length:Int))then aj (λ(v11:T3)=>v10 ((),v11.2.1,IntKind.wrap .i64 (v9.2.2.1+1),())) (λv12=>bif v9.2.1 then if 0<=v9.2.2.1 then(match v8.1.1[(v9.2.2.1).toNat]? with|some v13=>if 0<=v9.2.2.1 then(match v5.2.1[(v9.2.2.1).toNat]? with|some v14=>v12 ((),v13 == v14,())|none=>none)else none|none=>none)else none else v12 ((),false,()))else bif v9.2.1 then some ((v8.1.1,()),())else v6 ((),v8.1.1,IntKind.wrap .i64 (v5.2.2.1+1),())) v1 ((),true,0,())))else some ((v5.2.1,()),())) v1 ((),v4.2.2.1,0,())
theorem O1(n:Nat)(rL:FW)(rM:FX)(h:Jm rL rM):di Tryz.prog 137 (Jk (uq n rL rM)):=(fb n [⟨_,F136 n⟩,⟨_,⟨_,h.1,Jj⟩⟩,⟨_,⟨_,h.2,Jl⟩⟩] [21,22] [] [] Tryz.func137 Tryz.results137 Tryz.ntmps137 (.seq .nop (.seq (.seq .nop (.block none (.loop ⟨[],[.val 2 cd,.val 7 y2],[0,1]⟩ (.seq .nop (.seq (.block none (.seq .nop (.seq .nop (.seq (.seq .nop (.block none (.loop ⟨[],[.val 9 y4,.val 10 y2],[0,1,2,7,8]⟩ (.seq .nop (.seq (.block none (.reg (some ⟨[],[.val 9 y4],[0,1,2,7,8,10]⟩) [])) .nop))))) .nop)))) .nop))))) .nop)) A4 A14 [] [] (uq n rL rM)).o
def dE(n:Nat):Nat->(T61->T33)×(T61->T33)
 |0=>(λ_=>none,λ_=>none)
 |d+1=>(λx=>hO n (dE n d).1 (dE n d).2 x,λx=>uq n (dE n d).1 (dE n d).2 x)
theorem FY(n:Nat):∀ d,Jm (dE n d).1 (dE n d).2
 |0=>⟨(λx r h=>by cases h),(λx r h=>by cases h)⟩
 |d+1=>⟨O0 n _ _ (FY n d),O1 n _ _ (FY n d)⟩
def Jn(n:Nat)(x:T61):T33:=(dE n n).1 x
def F112(n:Nat):Fb 112:=⟨Ji (Jn n),(FY n n).1,Jj⟩
def O2(n:Nat)(x:T61):T33:=(dE n n).2 x
def F137(n:Nat):Fb 137:=⟨Jk (O2 n),(FY n n).2,Jl⟩
def p98(v1:Nat)(v2:((List (Int×(List Int)))×(List Int)×Unit)):T14:=if 0<=(IntKind.wrap .i64 ((v2.2.1.length:Int)+1))/\(IntKind.wrap .i64 ((v2.2.1.length:Int)+1))<=(IntKind.wrap .i64 ((v2.2.1.length:Int)+1))then if(IntKind.wrap .i64 ((v2.2.1.length:Int)+1)).toNat*1<=140737488355328 then if(0:Int)<=(0:Int)then(match(List.replicate (IntKind.wrap .i64 ((v2.2.1.length:Int)+1)).toNat false)[(0:Int).toNat]? with|some v3=>if(0:Int)<=(0:Int)then(match(List.replicate (IntKind.wrap .i64 ((v2.2.1.length:Int)+1)).toNat false)[(0:Int).toNat]? with|some v4=>ae (Jn v1 (v2.1,v2.2.1,List.set (List.replicate (IntKind.wrap .i64 ((v2.2.1.length:Int)+1)).toNat false) (0:Int).toNat true,())) (λ(v5:T15)=>if 0<=(v2.2.1.length:Int)then(match v5.1.1[(v2.2.1.length:Int).toNat]? with|some v6=>some ((v6,()),())|none=>none)else none)|none=>none)else none|none=>none)else none else none else none
def F98(n:Nat):Fb 98:=fb n [⟨_,F112 n⟩] [] [] [] Tryz.func98 Tryz.results98 Tryz.ntmps98 (.nop) [(jy,.ro),(y9,.ro)] A16 [] [] (p98 n)
end
noncomputable section
def Ak(v1:Nat)(v2:T1):T12:=aj (λ(v3:(Unit×Unit))=>some ((3,()),())) (λv4=>aj (λ(v5:(Unit×Unit))=>v4 ((),())) (λv6=>aj (λ(v7:T3)=>bif v7.2.1 then some ((1,()),())else aj (λ(v8:T3)=>bif v8.2.1 then some ((2,()),())else aj (λ(v9:T3)=>bif v9.2.1 then v6 ((),())else aj (λ(v10:T3)=>bif v10.2.1 then v6 ((),())else bif decide (v2.1=95)then v4 ((),())else aj (λ(v11:T3)=>bif v11.2.1 then some ((4,()),())else some ((0,()),())) (λv12=>bif decide (32<v2.1)then v12 ((),decide (v2.1<=126),())else v12 ((),false,()))) (λv13=>bif decide (65<=v2.1)then v13 ((),decide (v2.1<=90),())else v13 ((),false,()))) (λv14=>bif decide (97<=v2.1)then v14 ((),decide (v2.1<=122),())else v14 ((),false,()))) (λv15=>bif decide (48<=v2.1)then v15 ((),decide (v2.1<=57),())else v15 ((),false,()))) (λv16=>bif decide (v2.1=32)then v16 ((),decide (v2.1=32),())else aj (λ(v17:T3)=>v16 ((),v17.2.1,())) (λv18=>bif decide (v2.1=9)then v18 ((),decide (v2.1=9),())else aj (λ(v19:T3)=>v18 ((),v19.2.1,())) (λv20=>bif decide (v2.1=10)then v20 ((),decide (v2.1=10),())else v20 ((),decide (v2.1=13),()))))))
def F109(n:Nat):Fb 109:=fb n [] [] [] [] Tryz.func109 Tryz.results109 Tryz.ntmps109 (.seq .nop (.seq (.block none (.seq (.block none (.seq (.block (some ⟨[],[],[]⟩) (.block (some ⟨[],[],[]⟩) (.block none (.seq (.block none (.seq (.block none (.seq (.seq (.seq (.seq .nop (.cond (some ⟨[],[.val 3 y4],[0]⟩) .nop (.seq .nop (.cond (some ⟨[],[.val 3 y4],[0]⟩) .nop (.seq .nop (.cond (some ⟨[],[.val 3 y4],[0]⟩) .nop .nop)))))) .nop) (.seq (.seq (.reg (some ⟨[],[.val 12 y4],[0]⟩) []) .nop) (.seq (.seq (.reg (some ⟨[],[.val 19 y4],[0]⟩) []) .nop) (.seq (.seq (.reg (some ⟨[],[.val 26 y4],[0]⟩) []) .nop) (.seq .nop (.seq (.reg (some ⟨[],[.val 36 y4],[]⟩) []) .nop)))))) .nop)) .nop)) .nop)))) .nop)) .nop)) .nop)) [(y5,.ro)] A17 [] [] (Ak n)
def p89(v1:Nat)(v2:T4):T14:=aj (λ(v3:T3)=>bif v3.2.1 then some ((false,()),())else ap (λ(v4:T2)=>λv5=>bif decide (v4.2.1<(v2.1.length:Int))then if 0<=v4.2.1 then(match v2.1[(v4.2.1).toNat]? with|some v6=>ae (Ak v1 (v6,())) (λ(v7:T5)=>aj (λ(v8:T3)=>bif v8.2.1 then some ((false,()),())else v5 ((),IntKind.wrap .i64 (v4.2.1+1),())) (λv9=>bif !(decide (v7.1.1=2))then v9 ((),!(decide (v7.1.1=3)),())else v9 ((),false,())))|none=>none)else none else some ((true,()),())) v1 ((),0,())) (λv10=>bif decide (40<(v2.1.length:Int))then v10 ((),true,())else bif decide (v2.1=([]:List Int))then v10 ((),true,())else if(0:Int)<=(0:Int)then(match v2.1[(0:Int).toNat]? with|some v11=>ae (Ak v1 (v11,())) (λ(v12:T5)=>v10 ((),!(decide (v12.1.1=3)),()))|none=>none)else none)
def F89(n:Nat):Fb 89:=fb n [⟨_,F109 n⟩] [] [] [] Tryz.func89 Tryz.results89 Tryz.ntmps89 (.seq .nop (.seq (.seq (.reg (some ⟨[],[.val 17 y4],[0]⟩) []) .nop) (.seq (.seq .nop (.block none (.loop ⟨[],[.val 20 y2],[0,19]⟩ (.seq .nop (.seq .nop (.seq (.block none (.seq .nop (.seq .nop (.seq (.reg (some ⟨[],[.val 32 y4],[0,19,20]⟩) []) .nop)))) .nop)))))) .nop))) A18 A16 [] [] (p89 n)
def p88(v1:Nat)(v2:(((List Int)×Int×(List Int))×(List ((List Int)×Int))×Unit)):T12:=ae (p89 v1 (v2.1.1,())) (λ(v3:T6)=>bif !v3.1.1 then some ((8,()),())else bif decide (0<(bB (λ(v4:T0)=>λ(v5:T0)=>decide (v4=v5)) v2.1.1 v2.2.1))then some ((9,()),())else aj (λ(v6:T3)=>bif v6.2.1 then some ((1,()),())else ae (wC v1 (v2.1.2.2,())) (λ(v7:T64)=>bif !(decide (v7.1.2.1=0))then some ((v7.1.2.1,()),())else ae (FT v1 (v7.1.1,([]:List Int),())) (λ(v8:T5)=>bif decide (0<=v8.1.1)then some ((14,()),())else some ((0,()),())))) (λv9=>bif decide (v2.1.2.1<0)then v9 ((),true,())else v9 ((),decide (2<v2.1.2.1),())))
def F88(n:Nat):Fb 88:=fb n [⟨_,F89 n⟩,⟨_,F107 n⟩,⟨_,F108 n⟩] [30] [] [] Tryz.func88 Tryz.results88 Tryz.ntmps88 (.seq (.reg none [2]) (.seq (.block none (.seq .nop (.cond none .nop (.seq .nop (.cond none .nop (.seq (.reg (some ⟨[],[.val 18 y4],[2]⟩) []) .nop)))))) (.seq (.reg none [5]) .nop))) [(y82,.ro),(wA,.ro)] A17 [] [] (p88 n)
def p58(v1:Nat)(v2:T53):T24:=bif decide (60<(v2.1.length:Int))then some (((v2.1.length:Int),6,()),())else ap (λ(v3:(((List ((List Int)×Int))×Unit)×Int×Unit))=>λv4=>bif decide (v3.2.1<(v2.1.length:Int))then if 0<=v3.2.1 then(match v2.1[(v3.2.1).toNat]? with|some v5=>ae (p88 v1 (v5,v3.1.1,())) (λ(v6:T5)=>bif !(decide (v6.1.1=0))then some ((v3.2.1,v6.1.1,()),())else v4 ((cu (λ(v7:T0)=>λ(v8:T0)=>decide (v7=v8)) v5.1 (IntKind.wrap .i64 ((bB (λ(v9:T0)=>λ(v10:T0)=>decide (v9=v10)) v5.1 v3.1.1)+1)) v3.1.1,()),IntKind.wrap .i64 (v3.2.1+1),()))|none=>none)else none else some (((v2.1.length:Int),0,()),())) v1 ((([]:List ((List Int)×Int)),()),0,())
def F58(n:Nat):Fb 58:=fb n [⟨_,F88 n⟩] [] [] [] Tryz.func58 Tryz.results58 Tryz.ntmps58 (.seq .nop (.seq .nop (.seq .nop (.seq (.seq .nop (.block none (.loop ⟨[(104,wA,.own .ro)],[.val 16 y2],[0,4,14,15]⟩ (.seq .nop (.seq .nop (.seq (.block none (.seq (.reg none [6]) .nop)) .nop)))))) .nop)))) [(y22,.ro)] A12 [] [] (p58 n)
def FZ(v1:Nat)(v2:T37):T12:=ap (λ(v3:T2)=>λv4=>bif decide (v3.2.1<(v2.1.length:Int))then if 0<=v3.2.1 then(match v2.1[(v3.2.1).toNat]? with|some v5=>bif decide (v2.2.1=v5)then some ((v3.2.1,()),())else v4 ((),IntKind.wrap .i64 (v3.2.1+1),())|none=>none)else none else some ((-1,()),())) v1 ((),0,())
def F110(n:Nat):Fb 110:=fb n [] [] [] [] Tryz.func110 Tryz.results110 Tryz.ntmps110 (.seq .nop (.seq (.seq .nop (.block none (.loop ⟨[],[.val 8 y2],[0,1,7]⟩ .nop))) .nop)) [(y23,.ro),(y9,.ro)] A17 [] [] (FZ n)
def p90(v1:Nat)(v2:T37):T14:=ae (FZ v1 (v2.1,v2.2.1,())) (λ(v3:T5)=>some ((decide (0<=v3.1.1),()),()))
def F90(n:Nat):Fb 90:=fb n [⟨_,F110 n⟩] [] [] [] Tryz.func90 Tryz.results90 Tryz.ntmps90 (.nop) [(y23,.ro),(y9,.ro)] A16 [] [] (p90 n)
def p91(v1:Nat)(v2:((List ((List Int)×Int×(List Int)))×(List Int)×Unit)):T12:=ap (λ(v3:T2)=>λv4=>bif decide (v3.2.1<(v2.1.length:Int))then if 0<=v3.2.1 then(match v2.1[(v3.2.1).toNat]? with|some v5=>bif decide (v5.1=v2.2.1)then some ((v3.2.1,()),())else v4 ((),IntKind.wrap .i64 (v3.2.1+1),())|none=>none)else none else some ((-1,()),())) v1 ((),0,())
def F91(n:Nat):Fb 91:=fb n [] [] [] [] Tryz.func91 Tryz.results91 Tryz.ntmps91 (.seq .nop (.seq (.seq .nop (.block none (.loop ⟨[],[.val 9 y2],[1,7,8]⟩ (.seq .nop (.seq .nop (.seq (.block none (.seq (.reg none [6]) .nop)) .nop)))))) .nop)) [(y22,.ro),(y9,.ro)] A17 [] [] (p91 n)
def p59(v1:Nat)(v2:T77):T41:=bif decide (300<(v2.1.2.1.length:Int))then some (((6,2,(v2.1.2.1.length:Int)),()),())else ap (λ(v3:T35)=>λv4=>bif decide (v3.2.1<(v2.1.2.1.length:Int))then if 0<=v3.2.1 then(match v2.1.2.1[(v3.2.1).toNat]? with|some v5=>ae (p89 v1 (v5,())) (λ(v6:T6)=>bif !v6.1.1 then some (((8,2,v3.2.1),()),())else aj (λ(v7:T38)=>bif v7.2.1 then some (((9,2,v3.2.1),()),())else v4 ((v7.1.1,()),IntKind.wrap .i64 (v3.2.1+1),())) (λv8=>if(0:Int)<=(0:Int)/\(0:Int)<=v3.2.1/\v3.2.1<=(v2.1.2.1.length:Int)then ae (p90 v1 (aY v2.1.2.1 (0:Int) v3.2.1,v5,())) (λ(v9:T6)=>bif v9.1.1 then v8 ((v3.1.1,()),true,())else ae (p91 v1 (v2.1.1,v5,())) (λ(v10:T5)=>v8 ((v3.1.1,()),decide (0<=v10.1.1),())))else none))|none=>none)else none else some (((0,0,0),()),())) v1 (((0,0,0),()),0,())
def F59(n:Nat):Fb 59:=fb n [⟨_,F89 n⟩,⟨_,F90 n⟩,⟨_,F91 n⟩] [] [] [] Tryz.func59 Tryz.results59 Tryz.ntmps59 (.seq (.reg none [1]) (.seq .nop (.seq (.seq .nop (.block none (.loop ⟨[(16,.box y89,.own (.pr .ro (.pr .ro .ro)))],[.val 16 y2],[1,2,14,15]⟩ (.seq .nop (.seq .nop (.seq (.block none (.seq .nop (.block none (.seq .nop (.cond none .nop (.seq (.reg (some ⟨[(16,.box y89,.own (.pr .ro (.pr .ro .ro)))],[.val 27 y4],[1,2,3,14,15,16]⟩) []) .nop)))))) .nop)))))) (.seq (.reg none [2]) .nop)))) A15 [(y89,.ro)] [] [] (p59 n)
def p92(v1:Nat)(v2:T80):T14:=bif v2.2.1.1 then aj (λ(v3:T3)=>some ((v3.2.1,()),())) (λv4=>bif decide (0<=v2.2.1.2)then v4 ((),decide (v2.2.1.2<(v2.1.2.1.length:Int)),())else v4 ((),false,()))else aj (λ(v5:T3)=>some ((v5.2.1,()),())) (λv6=>bif decide (0<=v2.2.1.2)then bif decide (v2.2.1.2<(v2.1.1.length:Int))then if 0<=v2.2.1.2 then(match v2.1.1[(v2.2.1.2).toNat]? with|some v7=>v6 ((),decide (v7.2.1=0),())|none=>none)else none else v6 ((),false,())else v6 ((),false,()))
def F92(n:Nat):Fb 92:=fb n [] [] [] [] Tryz.func92 Tryz.results92 Tryz.ntmps92 (.seq (.reg none [2,3]) (.seq (.seq .nop (.cond none (.seq (.reg (some ⟨[],[.val 4 y4],[]⟩) []) .nop) .nop)) (.seq (.reg (some ⟨[],[.val 4 y4],[]⟩) []) .nop))) [(y26,.ro),(y63,.ro)] A16 [] [] (p92 n)
theorem O3:qU Tryz.prog 64:=⟨by kernel_rfl,by kernel_rfl,by kernel_rfl⟩
def p93(v1:Nat)(v2:T66):T14:=aj (λ(v3:T3)=>some ((v3.2.1,()),())) (λv4=>bif decide ((v2.1.2.2.1.length:Int)=3)then if(0:Int)<=(0:Int)then(match v2.1.2.2.1[(0:Int).toNat]? with|some v5=>bif !v5.1 then if(0:Int)<=(1:Int)then(match v2.1.2.2.1[(1:Int).toNat]? with|some v6=>bif bif v6.1 == true then decide (v6.2=v2.1.1)else false then if(0:Int)<=(2:Int)then(match v2.1.2.2.1[(2:Int).toNat]? with|some v7=>v4 ((),!v7.1,())|none=>none)else none else v4 ((),false,())|none=>none)else none else v4 ((),false,())|none=>none)else none else v4 ((),false,()))
def F93(n:Nat):Fb 93:=fb n [] [] [] [⟨_,O3⟩] Tryz.func93 Tryz.results93 Tryz.ntmps93 (.seq (.reg none [1]) (.seq (.reg (some ⟨[],[.val 2 y4],[]⟩) []) .nop)) [(y84,.ro)] A16 [] [] (p93 n)
def p60(v1:Nat)(v2:T78):T12:=if 0<=v2.2.1 then(match v2.1.2.2.1[(v2.2.1).toNat]? with|some v3=>aj (λ(v4:T3)=>bif v4.2.1 then some ((11,()),())else ae (p89 v1 (v3.2.1,())) (λ(v5:T6)=>bif !v5.1.1 then some ((8,()),())else bif decide (12<(v3.2.2.1.length:Int))then some ((6,()),())else bif !(decide ((v3.2.2.2.2.2.length:Int)=(if(IntKind.wrap .i64 ((v3.2.2.1.length:Int)-1))<(0:Int)then(0:Int)else IntKind.wrap .i64 ((v3.2.2.1.length:Int)-1))))then some ((1,()),())else if(0:Int)<=(0:Int)/\(0:Int)<=v2.2.1/\v2.2.1<=(v2.1.2.2.1.length:Int)then ap (λ(v6:T2)=>λv7=>bif decide (v6.2.1<((List.length (aY v2.1.2.2.1 (0:Int) v2.2.1):Nat):Int))then if 0<=v6.2.1 then(match(aY v2.1.2.2.1 (0:Int) v2.2.1)[(v6.2.1).toNat]? with|some v8=>bif decide (v8.2.1=v3.2.1)then some ((9,()),())else v7 ((),IntKind.wrap .i64 (v6.2.1+1),())|none=>none)else none else ap (λ(v9:T2)=>λv10=>bif decide (v9.2.1<(v3.2.2.1.length:Int))then if 0<=v9.2.1 then(match v3.2.2.1[(v9.2.1).toNat]? with|some v11=>ae (p92 v1 (v2.1,v11,())) (λ(v12:T6)=>bif !v12.1.1 then some ((11,()),())else v10 ((),IntKind.wrap .i64 (v9.2.1+1),()))|none=>none)else none else ap (λ(v13:T2)=>λv14=>bif decide (v13.2.1<(v3.2.2.2.2.2.length:Int))then if 0<=v13.2.1 then(match v3.2.2.2.2.2[(v13.2.1).toNat]? with|some v15=>aj (λ(v16:T3)=>bif v16.2.1 then some ((1,()),())else v14 ((),IntKind.wrap .i64 (v13.2.1+1),())) (λv17=>bif decide (v15<0)then v17 ((),true,())else v17 ((),decide (3<v15),()))|none=>none)else none else aj (λ(v18:T3)=>bif v18.2.1 then some ((11,()),())else aj (λ(v19:T3)=>bif v19.2.1 then some ((15,()),())else some ((0,()),())) (λv20=>bif v3.2.2.2.1 then ae (p93 v1 (v3,())) (λ(v21:T6)=>v20 ((),!v21.1.1,()))else v20 ((),false,()))) (λv22=>bif !(decide (v3.2.2.2.2.1=-1))then bif decide (v3.2.2.2.2.1<0)then v22 ((),true,())else ae (p92 v1 (v2.1,(false,v3.2.2.2.2.1),())) (λ(v23:T6)=>v22 ((),!v23.1.1,()))else v22 ((),false,()))) v1 ((),0,())) v1 ((),0,())) v1 ((),0,())else none)) (λv24=>bif decide (v3.1<0)then v24 ((),true,())else v24 ((),decide ((v2.1.2.1.length:Int)<=v3.1),()))|none=>none)else none
def F60(n:Nat):Fb 60:=fb n [⟨_,F89 n⟩,⟨_,F92 n⟩,⟨_,F93 n⟩] [] [] [] Tryz.func60 Tryz.results60 Tryz.ntmps60 (.seq (.reg none [2]) (.seq (.reg none [5]) (.seq (.block none (.seq (.reg (some ⟨[],[.val 17 y4],[1,2,5]⟩) []) .nop)) (.seq (.seq .nop (.block none (.loop ⟨[],[.val 54 y2],[2,5,52,53]⟩ (.seq .nop (.seq .nop (.seq (.block none (.seq (.reg none [7]) .nop)) .nop)))))) (.seq (.seq .nop (.block none (.loop ⟨[],[.val 67 y2],[2,5,65,66]⟩ (.seq .nop (.seq .nop (.seq (.block none (.seq (.reg none [9]) .nop)) .nop)))))) (.seq (.seq .nop (.block none (.loop ⟨[],[.val 79 y2],[2,5,77,78]⟩ (.seq .nop (.seq .nop (.seq (.block none (.seq .nop (.seq (.reg (some ⟨[],[.val 88 y4],[2,5,77,78,79]⟩) []) .nop))) .nop)))))) (.seq (.seq (.reg (some ⟨[],[.val 105 y4],[5]⟩) []) .nop) (.seq (.seq (.reg (some ⟨[],[.val 112 y4],[]⟩) []) .nop) .nop)))))))) A11 A17 [] [] (p60 n)
def p61(v1:Nat)(v2:T77):T41:=ap (λ(v3:T60)=>λv4=>bif decide (v3.2.1<(v2.1.2.2.2.1.length:Int))then if 0<=v3.2.1 then(match v2.1.2.2.2.1[(v3.2.1).toNat]? with|some v5=>aj (λ(v6:(((Int×Int×Int)×(List (Int×Int))×Unit)×Bool×Unit))=>bif v6.2.1 then some (((1,4,v3.2.1),()),())else ap (λ(v7:T60)=>λv8=>bif decide (v7.2.1<(v5.2.length:Int))then if 0<=v7.2.1 then(match v5.2[(v7.2.1).toNat]? with|some v9=>ae (p92 v1 (v2.1,(false,v9),())) (λ(v10:T6)=>bif !v10.1.1 then some (((11,4,v3.2.1),()),())else bif decide (0<(bB (λ(v11:Int)=>λ(v12:Int)=>decide (v11=v12)) v9 v7.1.2.1))then some (((9,4,v3.2.1),()),())else v8 ((v7.1.1,cu (λ(v13:Int)=>λ(v14:Int)=>decide (v13=v14)) v9 (IntKind.wrap .i64 ((bB (λ(v15:Int)=>λ(v16:Int)=>decide (v15=v16)) v9 v7.1.2.1)+1)) v7.1.2.1,()),IntKind.wrap .i64 (v7.2.1+1),()))|none=>none)else none else v4 ((v7.1.1,v7.1.2.1,()),IntKind.wrap .i64 (v3.2.1+1),())) v1 ((v6.1.1,v6.1.2.1,()),0,())) (λv17=>bif decide (v5.1<1)then v17 ((v3.1.1,v3.1.2.1,()),true,())else bif decide (3<v5.1)then v17 ((v3.1.1,v3.1.2.1,()),true,())else bif decide ((v5.2.length:Int)=0)then v17 ((v3.1.1,v3.1.2.1,()),true,())else v17 ((v3.1.1,v3.1.2.1,()),decide (60<=v3.2.1),()))|none=>none)else none else some (((0,0,0),()),())) v1 (((0,0,0),([]:List (Int×Int)),()),0,())
def F61(n:Nat):Fb 61:=fb n [⟨_,F92 n⟩] [] [] [] Tryz.func61 Tryz.results61 Tryz.ntmps61 (.seq (.reg none [1]) (.seq .nop (.seq (.seq .nop (.block none (.loop ⟨[(16,.box y89,.own (.pr .ro (.pr .ro .ro))),(64,Fx,.own .ro)],[.val 12 y2],[1,2,3,10,11]⟩ (.seq .nop (.seq .nop (.seq (.block none (.seq (.reg none [5]) (.seq (.seq (.reg (some ⟨[(16,.box y89,.own (.pr .ro (.pr .ro .ro))),(64,Fx,.own .ro)],[.val 34 y4],[1,2,3,4,5,10,11,12]⟩) []) .nop) (.seq .nop (.block none (.loop ⟨[(16,.box y89,.own (.pr .ro (.pr .ro .ro))),(64,Fx,.own .ro)],[.val 40 y2],[1,2,3,4,10,11,12,38,39]⟩ .nop)))))) .nop)))))) (.seq (.reg none [2]) .nop)))) A15 [(y89,.ro)] [] [] (p61 n)
def p31(v1:Nat)(v2:T77):T41:=ae (p58 v1 (v2.1.1,())) (λ(v3:T10)=>bif !(decide (v3.1.2.1=0))then some (((v3.1.2.1,1,v3.1.1),()),())else ae (p59 v1 (v2.1,())) (λ(v4:T25)=>bif !(decide (v4.1.1.1=0))then some ((v4.1.1,()),())else bif decide (200<(v2.1.2.2.1.length:Int))then some (((6,3,(v2.1.2.2.1.length:Int)),()),())else ap (λ(v5:T35)=>λv6=>bif decide (v5.2.1<(v2.1.2.2.1.length:Int))then ae (p60 v1 (v2.1,v5.2.1,())) (λ(v7:T5)=>bif !(decide (v7.1.1=0))then some (((v7.1.1,3,v5.2.1),()),())else v6 ((v5.1.1,()),IntKind.wrap .i64 (v5.2.1+1),()))else ae (p61 v1 (v2.1,())) (λ(v8:T25)=>bif !(decide (v8.1.1.1=0))then some ((v8.1.1,()),())else aj (λ(v9:T38)=>bif v9.2.1 then some (((11,5,0),()),())else some (((0,0,0),()),())) (λv10=>bif decide (v2.1.2.2.2.2<0)then v10 ((v5.1.1,()),true,())else v10 ((v5.1.1,()),decide ((v2.1.2.1.length:Int)<=v2.1.2.2.2.2),())))) v1 (((0,0,0),()),0,())))
def F31(n:Nat):Fb 31:=fb n [⟨_,F58 n⟩,⟨_,F59 n⟩,⟨_,F60 n⟩,⟨_,F61 n⟩] [] [] [] Tryz.func31 Tryz.results31 Tryz.ntmps31 (.seq (.reg none [1]) (.seq .nop (.seq (.seq (.reg none [5]) .nop) (.seq .nop (.seq (.seq .nop (.block none (.loop ⟨[(16,.box y89,.own (.pr .ro (.pr .ro .ro)))],[.val 37 y2],[1,2,36]⟩ .nop))) (.seq (.seq (.reg none [8]) .nop) (.seq (.seq (.reg (some ⟨[(16,.box y89,.own (.pr .ro (.pr .ro .ro)))],[.val 65 y4],[2]⟩) []) .nop) (.seq (.reg none [2]) .nop)))))))) A15 [(y89,.ro)] [] [] (p31 n)
def p99(v1:Nat)(v2:T1):T12:=ae (ui v1 (([32,9,10,13]:List Int),v2.1,())) (λ(v3:T6)=>bif v3.1.1 then some ((1,()),())else ae (ui v1 (([48,49,50,51,52,53,54,55,56,57]:List Int),v2.1,())) (λ(v4:T6)=>bif v4.1.1 then some ((2,()),())else aj (λ(v5:T3)=>bif v5.2.1 then some ((3,()),())else aj (λ(v6:T3)=>bif v6.2.1 then some ((4,()),())else some ((0,()),())) (λv7=>bif decide (32<v2.1)then v7 ((),decide (v2.1<127),())else v7 ((),false,()))) (λv8=>ae (CI v1 (v2.1,())) (λ(v9:T6)=>bif v9.1.1 then v8 ((),true,())else v8 ((),decide (v2.1=95),())))))
def F99(n:Nat):Fb 99:=fb n [⟨_,F113 n⟩,⟨_,F114 n⟩] [] [] [] Tryz.func99 Tryz.results99 Tryz.ntmps99 (.seq .nop (.seq (.block none (.seq .nop (.cond none .nop (.seq .nop (.cond none .nop (.seq (.reg (some ⟨[],[.val 9 y4],[0]⟩) []) (.cond none .nop (.seq (.reg (some ⟨[],[.val 16 y4],[]⟩) []) .nop)))))))) .nop)) [(y5,.ro)] A17 [] [] (p99 n)
def p67(v1:Nat)(v2:T4):T14:=ap (λ(v3:T2)=>λv4=>bif decide (v3.2.1<(v2.1.length:Int))then if 0<=v3.2.1 then(match v2.1[(v3.2.1).toNat]? with|some v5=>ae (p99 v1 (v5,())) (λ(v6:T5)=>aj (λ(v7:T3)=>bif v7.2.1 then some ((false,()),())else v4 ((),IntKind.wrap .i64 (v3.2.1+1),())) (λv8=>bif !(decide (v6.1.1=3))then bif !(decide (v6.1.1=2))then v8 ((),true,())else v8 ((),decide (v3.2.1=0),())else v8 ((),false,())))|none=>none)else none else aj (λ(v9:T3)=>some ((v9.2.1,()),())) (λv10=>bif decide (1<=(v2.1.length:Int))then v10 ((),decide ((v2.1.length:Int)<=40),())else v10 ((),false,()))) v1 ((),0,())
def F67(n:Nat):Fb 67:=fb n [⟨_,F99 n⟩] [] [] [] Tryz.func67 Tryz.results67 Tryz.ntmps67 (.seq .nop (.seq (.seq .nop (.block none (.loop ⟨[],[.val 3 y2],[0]⟩ (.seq .nop (.seq (.block none (.seq .nop (.seq (.reg (some ⟨[],[.val 24 y4],[0,3]⟩) []) .nop))) .nop))))) (.seq (.reg (some ⟨[],[.val 2 y4],[]⟩) []) .nop))) A18 A16 [] [] (p67 n)
def p66(v1:Nat)(v2:((List ((List Int)×Int×(List Int)))×Int×Unit)):T12:=if 0<=v2.2.1 then(match v2.1[(v2.2.1).toNat]? with|some v3=>ae (p67 v1 (v3.1,())) (λ(v4:T6)=>bif !v4.1.1 then some ((8,()),())else ap (λ(v5:T2)=>λv6=>bif decide (v5.2.1<v2.2.1)then if 0<=v5.2.1 then(match v2.1[(v5.2.1).toNat]? with|some v7=>bif decide (v7.1=v3.1)then some ((9,()),())else v6 ((),IntKind.wrap .i64 (v5.2.1+1),())|none=>none)else none else aj (λ(v8:T3)=>bif v8.2.1 then some ((1,()),())else ae (p97 v1 (v3.2.2,())) (λ(v9:T54)=>bif !(decide (v9.1.2.1=0))then some ((v9.1.2.1,()),())else ae (p98 v1 (v9.1.1,([]:List Int),())) (λ(v10:T6)=>bif v10.1.1 then some ((14,()),())else some ((0,()),())))) (λv11=>bif decide (v3.2.1<0)then v11 ((),true,())else v11 ((),decide (2<v3.2.1),()))) v1 ((),0,()))|none=>none)else none
def F66(n:Nat):Fb 66:=fb n [⟨_,F67 n⟩,⟨_,F97 n⟩,⟨_,F98 n⟩] [41] [] [] Tryz.func66 Tryz.results66 Tryz.ntmps66 (.seq .nop (.seq (.reg none [5]) (.seq .nop (.seq (.seq .nop (.block none (.loop ⟨[],[.val 6 y2],[0,1,5]⟩ .nop))) (.seq (.seq (.reg (some ⟨[],[.val 37 y4],[5]⟩) []) .nop) .nop))))) [(y22,.ro),(y2,.ro)] A17 [] [] (p66 n)
def p35(v1:Nat)(v2:T53):T24:=bif decide (60<(v2.1.length:Int))then some (((v2.1.length:Int),6,()),())else ap (λ(v3:T2)=>λv4=>bif decide (v3.2.1<(v2.1.length:Int))then ae (p66 v1 (v2.1,v3.2.1,())) (λ(v5:T5)=>bif !(decide (v5.1.1=0))then some ((v3.2.1,v5.1.1,()),())else v4 ((),IntKind.wrap .i64 (v3.2.1+1),()))else some (((v2.1.length:Int),0,()),())) v1 ((),0,())
def F35(n:Nat):Fb 35:=fb n [⟨_,F66 n⟩] [] [] [] Tryz.func35 Tryz.results35 Tryz.ntmps35 (.seq .nop (.seq .nop (.seq (.seq .nop (.block none (.loop ⟨[],[.val 4 y2],[0]⟩ .nop))) .nop))) [(y22,.ro)] A12 [] [] (p35 n)
def p36(v1:Nat)(v2:T78):T12:=if 0<=v2.2.1 then(match v2.1.2.1[(v2.2.1).toNat]? with|some v3=>ae (p67 v1 (v3,())) (λ(v4:T6)=>bif !v4.1.1 then some ((8,()),())else ap (λ(v5:T2)=>λv6=>bif decide (v5.2.1<v2.2.1)then if 0<=v5.2.1 then(match v2.1.2.1[(v5.2.1).toNat]? with|some v7=>if 0<=v2.2.1 then(match v2.1.2.1[(v2.2.1).toNat]? with|some v8=>bif decide (v7=v8)then some ((9,()),())else v6 ((),IntKind.wrap .i64 (v5.2.1+1),())|none=>none)else none|none=>none)else none else ap (λ(v9:T2)=>λv10=>bif decide (v9.2.1<(v2.1.1.length:Int))then if 0<=v9.2.1 then(match v2.1.1[(v9.2.1).toNat]? with|some v11=>if 0<=v2.2.1 then(match v2.1.2.1[(v2.2.1).toNat]? with|some v12=>bif decide (v11.1=v12)then some ((9,()),())else v10 ((),IntKind.wrap .i64 (v9.2.1+1),())|none=>none)else none|none=>none)else none else some ((0,()),())) v1 ((),0,())) v1 ((),0,()))|none=>none)else none
def F36(n:Nat):Fb 36:=fb n [⟨_,F67 n⟩] [] [] [] Tryz.func36 Tryz.results36 Tryz.ntmps36 (.seq (.reg none [2]) (.seq .nop (.seq (.seq .nop (.block none (.loop ⟨[],[.val 5 y2],[1,2]⟩ .nop))) (.seq (.seq .nop (.block none (.loop ⟨[],[.val 6 y2],[1,2]⟩ .nop))) .nop)))) A11 A17 [] [] (p36 n)
def p68(v1:Nat)(v2:T80):T14:=bif v2.2.1.1 then aj (λ(v3:T3)=>some ((v3.2.1,()),())) (λv4=>bif decide (0<=v2.2.1.2)then v4 ((),decide (v2.2.1.2<(v2.1.2.1.length:Int)),())else v4 ((),false,()))else aj (λ(v5:T3)=>some ((v5.2.1,()),())) (λv6=>bif decide (0<=v2.2.1.2)then bif decide (v2.2.1.2<(v2.1.1.length:Int))then if 0<=v2.2.1.2 then(match v2.1.1[(v2.2.1.2).toNat]? with|some v7=>v6 ((),decide (v7.2.1=0),())|none=>none)else none else v6 ((),false,())else v6 ((),false,()))
def F68(n:Nat):Fb 68:=fb n [] [] [] [] Tryz.func68 Tryz.results68 Tryz.ntmps68 (.seq (.reg none [2,3]) (.seq (.seq .nop (.cond none (.seq (.reg (some ⟨[],[.val 4 y4],[]⟩) []) .nop) .nop)) (.seq (.reg (some ⟨[],[.val 4 y4],[]⟩) []) .nop))) [(y26,.ro),(y63,.ro)] A16 [] [] (p68 n)
def p69(v1:Nat)(v2:T66):T14:=aj (λ(v3:T3)=>some ((v3.2.1,()),())) (λv4=>bif decide ((v2.1.2.2.1.length:Int)=3)then if(0:Int)<=(0:Int)then(match v2.1.2.2.1[(0:Int).toNat]? with|some v5=>bif !v5.1 then if(0:Int)<=(1:Int)then(match v2.1.2.2.1[(1:Int).toNat]? with|some v6=>bif v6.1 then if(0:Int)<=(1:Int)then(match v2.1.2.2.1[(1:Int).toNat]? with|some v7=>bif decide (v7.2=v2.1.1)then if(0:Int)<=(2:Int)then(match v2.1.2.2.1[(2:Int).toNat]? with|some v8=>v4 ((),!v8.1,())|none=>none)else none else v4 ((),false,())|none=>none)else none else v4 ((),false,())|none=>none)else none else v4 ((),false,())|none=>none)else none else v4 ((),false,()))
def F69(n:Nat):Fb 69:=fb n [] [] [] [] Tryz.func69 Tryz.results69 Tryz.ntmps69 (.seq (.reg none [1]) (.seq (.reg (some ⟨[],[.val 2 y4],[]⟩) []) .nop)) [(y84,.ro)] A16 [] [] (p69 n)
def p37(v1:Nat)(v2:T78):T12:=if 0<=v2.2.1 then(match v2.1.2.2.1[(v2.2.1).toNat]? with|some v3=>aj (λ(v4:T3)=>bif v4.2.1 then some ((11,()),())else ae (p67 v1 (v3.2.1,())) (λ(v5:T6)=>bif !v5.1.1 then some ((8,()),())else bif decide (12<(v3.2.2.1.length:Int))then some ((6,()),())else bif !(decide ((v3.2.2.2.2.2.length:Int)=(if 0<(IntKind.wrap .i64 ((v3.2.2.1.length:Int)-1))then IntKind.wrap .i64 ((v3.2.2.1.length:Int)-1)else(0:Int))))then some ((1,()),())else ap (λ(v6:T2)=>λv7=>bif decide (v6.2.1<v2.2.1)then if 0<=v6.2.1 then(match v2.1.2.2.1[(v6.2.1).toNat]? with|some v8=>bif decide (v8.2.1=v3.2.1)then some ((9,()),())else v7 ((),IntKind.wrap .i64 (v6.2.1+1),())|none=>none)else none else ap (λ(v9:T2)=>λv10=>bif decide (v9.2.1<(v3.2.2.1.length:Int))then if 0<=v9.2.1 then(match v3.2.2.1[(v9.2.1).toNat]? with|some v11=>ae (p68 v1 (v2.1,v11,())) (λ(v12:T6)=>bif !v12.1.1 then some ((11,()),())else v10 ((),IntKind.wrap .i64 (v9.2.1+1),()))|none=>none)else none else ap (λ(v13:T2)=>λv14=>bif decide (v13.2.1<(v3.2.2.2.2.2.length:Int))then aj (λ(v15:T3)=>bif v15.2.1 then some ((1,()),())else v14 ((),IntKind.wrap .i64 (v13.2.1+1),())) (λv16=>if 0<=v13.2.1 then(match v3.2.2.2.2.2[(v13.2.1).toNat]? with|some v17=>bif decide (v17<0)then v16 ((),true,())else if 0<=v13.2.1 then(match v3.2.2.2.2.2[(v13.2.1).toNat]? with|some v18=>v16 ((),decide (3<v18),())|none=>none)else none|none=>none)else none)else aj (λ(v19:T3)=>bif v19.2.1 then some ((11,()),())else aj (λ(v20:T3)=>bif v20.2.1 then some ((15,()),())else some ((0,()),())) (λv21=>bif v3.2.2.2.1 then ae (p69 v1 (v3,())) (λ(v22:T6)=>v21 ((),!v22.1.1,()))else v21 ((),false,()))) (λv23=>bif !(decide (v3.2.2.2.2.1=-1))then ae (p68 v1 (v2.1,(false,v3.2.2.2.2.1),())) (λ(v24:T6)=>v23 ((),!v24.1.1,()))else v23 ((),false,()))) v1 ((),0,())) v1 ((),0,())) v1 ((),0,()))) (λv25=>bif decide (v3.1<0)then v25 ((),true,())else v25 ((),decide ((v2.1.2.1.length:Int)<=v3.1),()))|none=>none)else none
def F37(n:Nat):Fb 37:=fb n [⟨_,F67 n⟩,⟨_,F68 n⟩,⟨_,F69 n⟩] [] [] [] Tryz.func37 Tryz.results37 Tryz.ntmps37 (.seq (.reg none [2]) (.seq (.reg none [5]) (.seq (.seq (.reg (some ⟨[],[.val 24 y4],[1,2,5]⟩) []) .nop) (.seq .nop (.seq .nop (.seq .nop (.seq (.seq .nop (.block none (.loop ⟨[],[.val 6 y2],[1,2,5]⟩ .nop))) (.seq (.seq .nop (.block none (.loop ⟨[],[.val 7 y2],[2,5]⟩ .nop))) (.seq (.seq .nop (.block none (.loop ⟨[],[.val 8 y2],[2,5]⟩ (.seq .nop (.seq (.block none (.seq (.reg (some ⟨[],[.val 91 y4],[2,5,8]⟩) []) .nop)) .nop))))) (.seq (.seq (.reg (some ⟨[],[.val 102 y4],[5]⟩) []) .nop) (.seq (.seq (.reg (some ⟨[],[.val 109 y4],[]⟩) []) .nop) .nop))))))))))) A11 A17 [] [] (p37 n)
def p70(v1:Nat)(v2:(((List ((List Int)×Int×(List Int)))×(List (List Int))×(List (Int×(List Int)×(List (Bool×Int))×Bool×Int×(List Int)))×(List (Int×(List Int)))×Int)×Int×Int×Unit)):T14:=ap (λ(v3:T2)=>λv4=>bif decide (v3.2.1<=v2.2.1)then ap (λ(v5:T2)=>λv6=>if 0<=v3.2.1 then(match v2.1.2.2.2.1[(v3.2.1).toNat]? with|some v7=>bif decide (v5.2.1<(v7.2.length:Int))then aj (λ(v8:T3)=>bif v8.2.1 then some ((false,()),())else if 0<=v3.2.1 then(match v2.1.2.2.2.1[(v3.2.1).toNat]? with|some v9=>if 0<=v5.2.1 then(match v9.2[(v5.2.1).toNat]? with|some v10=>if 0<=v2.2.1 then(match v2.1.2.2.2.1[(v2.2.1).toNat]? with|some v11=>if 0<=v2.2.2.1 then(match v11.2[(v2.2.2.1).toNat]? with|some v12=>bif decide (v10=v12)then some ((true,()),())else v6 ((),IntKind.wrap .i64 (v5.2.1+1),())|none=>none)else none|none=>none)else none|none=>none)else none|none=>none)else none) (λv13=>bif decide (v3.2.1=v2.2.1)then v13 ((),decide (v2.2.2.1<=v5.2.1),())else v13 ((),false,()))else v4 ((),IntKind.wrap .i64 (v3.2.1+1),())|none=>none)else none) v1 ((),0,())else some ((false,()),())) v1 ((),0,())
def F70(n:Nat):Fb 70:=fb n [] [] [] [] Tryz.func70 Tryz.results70 Tryz.ntmps70 (.seq (.reg none [3]) (.seq (.seq .nop (.block none (.loop ⟨[],[.val 7 y2],[1,2,3]⟩ (.seq .nop (.seq (.block none (.seq .nop (.block none (.loop ⟨[],[.val 8 y2],[1,2,3,7]⟩ (.seq .nop (.seq (.block none (.seq (.seq (.reg (some ⟨[],[.val 32 y4],[1,2,3,7,8]⟩) []) .nop) .nop)) .nop)))))) .nop))))) .nop)) [(y26,.ro),(y2,.ro),(y2,.ro)] A16 [] [] (p70 n)
def p38(v1:Nat)(v2:T78):T12:=if 0<=v2.2.1 then(match v2.1.2.2.2.1[(v2.2.1).toNat]? with|some v3=>aj (λ(v4:T3)=>bif v4.2.1 then some ((1,()),())else ap (λ(v5:T2)=>λv6=>bif decide (v5.2.1<(v3.2.length:Int))then if 0<=v5.2.1 then(match v3.2[(v5.2.1).toNat]? with|some v7=>ae (p68 v1 (v2.1,(false,v7),())) (λ(v8:T6)=>bif !v8.1.1 then some ((11,()),())else ae (p70 v1 (v2.1,v2.2.1,v5.2.1,())) (λ(v9:T6)=>bif v9.1.1 then some ((9,()),())else v6 ((),IntKind.wrap .i64 (v5.2.1+1),())))|none=>none)else none else some ((0,()),())) v1 ((),0,())) (λv10=>bif decide (v3.1<1)then v10 ((),true,())else bif decide (3<v3.1)then v10 ((),true,())else bif decide ((v3.2.length:Int)=0)then v10 ((),true,())else v10 ((),decide (60<=v2.2.1),()))|none=>none)else none
def F38(n:Nat):Fb 38:=fb n [⟨_,F68 n⟩,⟨_,F70 n⟩] [] [] [] Tryz.func38 Tryz.results38 Tryz.ntmps38 (.seq (.reg none [2]) (.seq (.reg none [5]) (.seq (.seq (.reg (some ⟨[],[.val 29 y4],[1,2,5]⟩) []) .nop) (.seq (.seq .nop (.block none (.loop ⟨[],[.val 6 y2],[1,2,5]⟩ .nop))) .nop)))) A11 A17 [] [] (p38 n)
def p13(v1:Nat)(v2:T77):Option ((Int×Int×Int×Unit)×Unit):=ae (p35 v1 (v2.1.1,())) (λ(v3:T10)=>bif !(decide (v3.1.2.1=0))then some ((v3.1.2.1,1,v3.1.1,()),())else bif decide (300<(v2.1.2.1.length:Int))then some ((6,2,(v2.1.2.1.length:Int),()),())else ap (λ(v4:T2)=>λv5=>bif decide (v4.2.1<(v2.1.2.1.length:Int))then ae (p36 v1 (v2.1,v4.2.1,())) (λ(v6:T5)=>bif !(decide (v6.1.1=0))then some ((v6.1.1,2,v4.2.1,()),())else v5 ((),IntKind.wrap .i64 (v4.2.1+1),()))else bif decide (200<(v2.1.2.2.1.length:Int))then some ((6,3,(v2.1.2.2.1.length:Int),()),())else ap (λ(v7:T2)=>λv8=>bif decide (v7.2.1<(v2.1.2.2.1.length:Int))then ae (p37 v1 (v2.1,v7.2.1,())) (λ(v9:T5)=>bif !(decide (v9.1.1=0))then some ((v9.1.1,3,v7.2.1,()),())else v8 ((),IntKind.wrap .i64 (v7.2.1+1),()))else ap (λ(v10:T2)=>λv11=>bif decide (v10.2.1<(v2.1.2.2.2.1.length:Int))then ae (p38 v1 (v2.1,v10.2.1,())) (λ(v12:T5)=>bif !(decide (v12.1.1=0))then some ((v12.1.1,4,v10.2.1,()),())else v11 ((),IntKind.wrap .i64 (v10.2.1+1),()))else aj (λ(v13:T3)=>bif v13.2.1 then some ((11,5,0,()),())else some ((0,0,0,()),())) (λv14=>bif decide (v2.1.2.2.2.2<0)then v14 ((),true,())else v14 ((),decide ((v2.1.2.1.length:Int)<=v2.1.2.2.2.2),()))) v1 ((),0,())) v1 ((),0,())) v1 ((),0,()))
def F13(n:Nat):Fb 13:=fb n [⟨_,F35 n⟩,⟨_,F36 n⟩,⟨_,F37 n⟩,⟨_,F38 n⟩] [] [] [] Tryz.func13 Tryz.results13 Tryz.ntmps13 (.seq (.reg none [1]) (.seq .nop (.seq .nop (.seq (.seq .nop (.block none (.loop ⟨[],[.val 7 y2],[1]⟩ .nop))) (.seq .nop (.seq (.seq .nop (.block none (.loop ⟨[],[.val 9 y2],[1]⟩ .nop))) (.seq (.seq .nop (.block none (.loop ⟨[],[.val 11 y2],[1]⟩ .nop))) (.seq (.seq (.reg (some ⟨[],[.val 89 y4],[]⟩) []) .nop) .nop)))))))) A15 [(y2,.ro),(y2,.ro),(y2,.ro)] [] [] (p13 n)
def p30(v1:Nat)(v2:T53):T14:=bif decide (20<(v2.1.length:Int))then some ((false,()),())else ap (λ(v3:T2)=>λv4=>bif decide (v3.2.1<(v2.1.length:Int))then aj (λ(v5:T3)=>bif v5.2.1 then some ((false,()),())else v4 ((),IntKind.wrap .i64 (v3.2.1+1),())) (λv6=>if 0<=v3.2.1 then(match v2.1[(v3.2.1).toNat]? with|some v7=>bif decide (40<(v7.2.2.length:Int))then v6 ((),true,())else if 0<=v3.2.1 then(match v2.1[(v3.2.1).toNat]? with|some v8=>v6 ((),decide (100<(v8.1.length:Int)),())|none=>none)else none|none=>none)else none)else some ((true,()),())) v1 ((),0,())
def F30(n:Nat):Fb 30:=fb n [] [] [] [] Tryz.func30 Tryz.results30 Tryz.ntmps30 (.seq .nop (.seq .nop (.seq (.seq .nop (.block none (.loop ⟨[],[.val 3 y2],[0]⟩ (.seq .nop (.seq (.block none (.seq (.reg (some ⟨[],[.val 28 y4],[0,3]⟩) []) .nop)) .nop))))) .nop))) [(y22,.ro)] A16 [] [] (p30 n)
def p8(v1:Nat)(v2:T77):T14:=aj (λ(v3:T3)=>bif v3.2.1 then some ((false,()),())else ap (λ(v4:T2)=>λv5=>bif decide (v4.2.1<(v2.1.2.1.length:Int))then if 0<=v4.2.1 then(match v2.1.2.1[(v4.2.1).toNat]? with|some v6=>bif decide (100<(v6.length:Int))then some ((false,()),())else v5 ((),IntKind.wrap .i64 (v4.2.1+1),())|none=>none)else none else ap (λ(v7:T2)=>λv8=>bif decide (v7.2.1<(v2.1.2.2.1.length:Int))then aj (λ(v9:T3)=>bif v9.2.1 then some ((false,()),())else v8 ((),IntKind.wrap .i64 (v7.2.1+1),())) (λv10=>if 0<=v7.2.1 then(match v2.1.2.2.1[(v7.2.1).toNat]? with|some v11=>bif decide (20<(v11.2.2.1.length:Int))then v10 ((),true,())else if 0<=v7.2.1 then(match v2.1.2.2.1[(v7.2.1).toNat]? with|some v12=>bif decide (20<(v12.2.2.2.2.2.length:Int))then v10 ((),true,())else if 0<=v7.2.1 then(match v2.1.2.2.1[(v7.2.1).toNat]? with|some v13=>v10 ((),decide (100<(v13.2.1.length:Int)),())|none=>none)else none|none=>none)else none|none=>none)else none)else ap (λ(v14:T2)=>λv15=>bif decide (v14.2.1<(v2.1.2.2.2.1.length:Int))then if 0<=v14.2.1 then(match v2.1.2.2.2.1[(v14.2.1).toNat]? with|some v16=>bif decide (20<(v16.2.length:Int))then some ((false,()),())else v15 ((),IntKind.wrap .i64 (v14.2.1+1),())|none=>none)else none else some ((true,()),())) v1 ((),0,())) v1 ((),0,())) v1 ((),0,())) (λv17=>ae (p30 v1 (v2.1.1,())) (λ(v18:T6)=>bif !v18.1.1 then v17 ((),true,())else bif decide (20<(v2.1.2.1.length:Int))then v17 ((),true,())else bif decide (40<(v2.1.2.2.1.length:Int))then v17 ((),true,())else v17 ((),decide (20<(v2.1.2.2.2.1.length:Int)),())))
def F8(n:Nat):Fb 8:=fb n [⟨_,F30 n⟩] [] [] [] Tryz.func8 Tryz.results8 Tryz.ntmps8 (.seq (.reg none [1]) (.seq (.seq (.reg (some ⟨[],[.val 27 y4],[1]⟩) []) .nop) (.seq (.seq .nop (.block none (.loop ⟨[],[.val 3 y2],[1]⟩ .nop))) (.seq (.seq .nop (.block none (.loop ⟨[],[.val 4 y2],[1]⟩ (.seq .nop (.seq (.block none (.seq (.reg (some ⟨[],[.val 76 y4],[1,4]⟩) []) .nop)) .nop))))) (.seq (.seq .nop (.block none (.loop ⟨[],[.val 5 y2],[1]⟩ .nop))) .nop))))) A15 A16 [] [] (p8 n)
def p9(v1:Nat)(v2:T77):T14:=ap (λ(v3:T2)=>λv4=>bif decide (v3.2.1<(v2.1.1.length:Int))then if 0<=v3.2.1 then(match v2.1.1[(v3.2.1).toNat]? with|some v5=>bif decide (12<(v5.2.2.length:Int))then some ((false,()),())else v4 ((),IntKind.wrap .i64 (v3.2.1+1),())|none=>none)else none else some ((true,()),())) v1 ((),0,())
def F9(n:Nat):Fb 9:=fb n [] [] [] [] Tryz.func9 Tryz.results9 Tryz.ntmps9 (.seq (.reg none [1]) (.seq (.seq .nop (.block none (.loop ⟨[],[.val 3 y2],[1]⟩ .nop))) .nop)) A15 A16 [] [] (p9 n)
end
end Go.Proofs.YthalkfdkbalpmaaGreat.Rf
namespace Go.Proofs.YthalkfdkbalpmaaGreat.Rf
open Go Go.RowKit
noncomputable section
theorem wpList_append_run{P:Program}(w:World){ops:Array Oper}{rest:List Oper}{o:Oper}{a:Act}{Q:Exit->Act->World->Prop}
 (hg:o.guard=none) (s x:Operand) (t tx:TypeId) (hop:o.op=Op.call {callee:=Callee.builtin Builtin.append,args:=#[s,x],argTypes:=#[t,tx]})
 (v1 v2:Value) (hs:a.eval s=v1) (hx:a.eval x=v2) (z:Value) (w':World) (aR:∀ ty,(Builtin.append_ #[t,tx] ty #[v1,v2]).run P w=.ok z w')
 (hK:wpList P ops Q rest (a.put o.dst z) w'):wpList P ops Q (o::rest) a w:=by
 refine wpList_plain hg λK hK'=>?_
 unfold Oper.wp
 simp[execOp,hop,Go.resolve,invoke,builtin,hs,hx,aR o.type,Result.andThen]
 exact hK' _ _ hK
set_option maxRecDepth 100000 in
theorem oM(z:Array Value)(n:Nat):(Builtin.zeroCells z n).size=n*z.size:=by simp[Builtin.zeroCells]
theorem ur(n:Int)(ao:Option Addr)(cap:Nat)(w:World)(h0:0<=n)(hn:n<=9223372036854775807)(hc:(cap:Int)<=9223372036854775807)(h:n<=cap):
 Calls Tryz.prog 94 #[.slice ao 0 cap,.int .i64 n] w λe w'=>e=.returned (.slice ao 0 cap)/\w'=w:=by
 have h1:¬0<n-cap:=by omega
 go_enter Tryz.func94,Tryz.ntmps94
 go_wp2
 go_ret
 exact⟨rfl,rfl⟩
set_option maxRecDepth 100000 in
theorem wG(n:Int)(w:World)(h0:0<n)(hn:n<=1000000)(v:Value)(w1:World)(ao:Option Addr)(c2:Nat)(hc2:0<c2)
 (CP:∀ ty,(Builtin.append_ #[62,3] ty #[.slice ao 0 0,.int .i64 n]).run Tryz.prog w=.ok (.slice (some ⟨w.heap.size,0,none⟩) n.toNat c2) w1):
 Calls Tryz.prog 94 #[.slice ao 0 0,.int .i64 n] w λe w'=>e=.returned (.slice (some ⟨w.heap.size,0,none⟩) 0 c2)/\w'=w1:=by
 have H:=Lib.hid CP
 clear CP
 go_enter Tryz.func94,Tryz.ntmps94
 go_wp2_with (at_builtin;refine wpList_append_run _ rfl _ _ 62 3 rfl (.slice ao 0 0) (.int .i64 n) rfl rfl _ _ H.out ?_)
 go_ret
 exact⟨rfl,rfl⟩
set_option maxRecDepth 100000 in
theorem wH(n:Int)(w:World)(cap:Nat)(h0:(cap:Int)<n)(hc:0<cap)(hn:n<=1000000)(v:Value)(w1:World)(b off:Nat)(c2:Nat)(hc2:0<c2)
 (CP:∀ ty,(Builtin.append_ #[62,3] ty #[.slice (some ⟨b,off,none⟩) cap cap,.int .i64 (n-cap)]).run Tryz.prog w=.ok (.slice (some ⟨w.heap.size,0,none⟩) n.toNat c2) w1):
 Calls Tryz.prog 94 #[.slice (some ⟨b,off,none⟩) 0 cap,.int .i64 n] w λe w'=>e=.returned (.slice (some ⟨w.heap.size,0,none⟩) 0 c2)/\w'=w1:=by
 have hcz:cap≠0:=by omega
 have H:=Lib.hid CP
 clear CP
 go_enter Tryz.func94,Tryz.ntmps94
 go_wp2_with (at_builtin;refine wpList_append_run _ rfl _ _ 62 3 rfl (.slice (some ⟨b,off,none⟩) cap cap) (.int .i64 (n-cap)) ?_ rfl _ _ H.out ?_)
 ·simp[Act.eval,hcz,Addr.add]
 ·go_ret
  exact⟨rfl,rfl⟩
def p94(n:Nat)(x:List (Bool×Int)×(Int×Unit)):Option ((List (Bool×Int)×Unit)×Unit):=if x.1=[]/\0<=x.2.1/\x.2.1<=1000000 then some (([],()),())else none
theorem F4:Plain Tryz.prog 94:=⟨_,Tryz.func94,by kernel_rfl,by kernel_rfl⟩
theorem O4(N:Nat):di Tryz.prog 94 ⟨[(.sl (.st (.pair .bool (.int .i64))),.own .ro),(.int .i64,.ro)],[(.sl (.st (.pair .bool (.int .i64))),.own .ro)],[],[],p94 N⟩:=by
 rintro⟨xs,n0,u⟩ r hd F w S vs gW hSF hF hS _
 obtain⟨n,hnn⟩:∃ n:Int,n=n0:=⟨n0,rfl⟩
 subst hnn
 have hd2:p94 N (xs,n,u)=some r:=hd
 clear hd
 unfold p94 at hd2
 split at hd2
 case isFalse=>cases hd2
 rename_i hc
 obtain⟨hx,h0,hn⟩:=hc
 simp only at hx h0 hn
 subst hx
 injection hd2 with hd2
 subst hd2
 obtain⟨v1,vs1,cs1,S1,S2,rfl,hr1,hv1,⟨v2,vs2,cs2,S3,S4,rfl,hr2,hv2,h3,_⟩,s1,s2,d⟩:=gW
 cases h3
 obtain⟨rfl,hv2⟩:v2=.int .i64 n/\True:=by
  obtain⟨e,_⟩:=il hr2 hv2
  exact⟨e,trivial⟩
 have hr0:=hr1
 obtain⟨ao,cap,rfl,hle,hcm,hor⟩:=hr1
 have O5:v1=.slice ao 0 cap:=by simp[VR,Ty.agg]at hv1;exact hv1.1.symm
 subst O5
 have O6:(cap:Int)<=9223372036854775807:=by unfold maxLen at hcm;omega
 have H4:∀ k,S1 k->k<w.heap.size:=λk hk=>hS k (s1 k hk)
 obtain⟨i,z,hi,hi1,hi2,hi3,hi4⟩:=(k64).nH
 have hz:z.cells.size=2:=by rw[<-Array.length_toList,hi4];rfl
 have O7:i.size=2:=hi1
 have hby:i.bytes=16:=hi2
 -- behind the Ek
 have fin:∀ (w1:World) (c2:Nat) (arr:Array Value),w1=w.drew.alloc (.cells arr 64)->c2*2<=arr.size->c2<=maxLen->vD ⟨[(.sl (.st (.pair .bool (.int .i64))),.own .ro),(.int .i64,.ro)],[(.sl (.st (.pair .bool (.int .i64))),.own .ro)],[],[],p94 N⟩ (([],()),()) F w S [.slice ao 0 cap,.int .i64 n] (.returned (.slice (some ⟨w.heap.size,0,none⟩) 0 c2)) w1:=by
  rintro w1 c2 arr rfl hc2 hm
  refine⟨[.slice (some ⟨w.heap.size,0,none⟩) 0 c2],F,λk=>k=w.heap.size,ab.none,rfl,⟨_,[],[.slice (some ⟨w.heap.size,0,none⟩) 0 c2],λk=>k=w.heap.size,ab.none,rfl,?_,by simp[VR,Ty.agg,Value.oneCell'],rfl,Sub.refl _,λ_ h=>h.elim,λ_ _ h=>h.elim⟩,rfl,λ_ _ h=>h.elim,?_,Sub.refl _,?_,λk hk _ _=>hk,?_⟩
  ·exact⟨_,c2,rfl,Nat.zero_le _,hm,.inr ⟨w.heap.size,0,arr,Mark.free _ 64,rfl,fQ w.drew _,by simpa [Ty.width]using hc2,rfl,ab.none,by simp[aH],λ_ h=>h.elim,λh=>h⟩⟩
  ·exact⟨rfl,rfl,rfl,by rw[bA];exact Nat.le_succ _,λk hk _=>cq w.drew _ hk⟩
  ·intro k hk;rw[bA];exact Nat.lt_succ_of_lt (hF k hk)
  ·rintro k (hk|hk)
   ·subst hk
    exact⟨by rw[bA];exact Nat.lt_succ_self _,λhf=>Nat.lt_irrefl _ (hF _ hf),λh=>absurd h (Nat.lt_irrefl _)⟩
   ·exact hk.elim
 by_cases Jo:n<=cap
 ·refine(ur n ao cap w h0 (by omega) O6 Jo).mono λe w' he=>?_
  obtain⟨rfl,rfl⟩:=he
  refine⟨[.slice ao 0 cap],F,S1,ab.none,rfl,⟨_,[],[.slice ao 0 cap],S1,ab.none,rfl,hr0,by simp[VR,Ty.agg,Value.oneCell'],rfl,Sub.refl _,λ_ h=>h.elim,λ_ _ h=>h.elim⟩,rfl,λ_ _ h=>h.elim,⟨rfl,rfl,rfl,Nat.le_refl _,λ_ _ _=>rfl⟩,Sub.refl _,hF,λk hk _ _=>hk,?_⟩
  rintro k (hk|hk)
  ·exact⟨H4 k hk,λhf=>hSF k (s1 k hk) hf,λ_=>s1 k hk⟩
  ·exact hk.elim
 ·have hlt:(cap:Int)<n:=by omega
  obtain⟨k,rfl⟩:∃ k:Nat,n=k:=⟨n.toNat,by omega⟩
  have hg:=grownCap_ge w k cap 64
  have hg2:=grownCap_le_maxLen w k cap 64 (by unfold maxLen;omega)
  rcases Nat.eq_zero_or_pos cap with hz0|hp
  ·subst hz0
   have aR:∀ ty,(Builtin.append_ #[62,3] ty #[.slice ao 0 0,.int .i64 (k:Int)]).run Tryz.prog w=.ok (.slice (some ⟨w.heap.size,0,none⟩) k (grownCap w k 0 64)) _:=λty=>by
    have:=Lib.run_append_grow_zeros (P:=Tryz.prog) w 62 3 ty 64 i z .i64 .i64 Tryz.underlying62 Tryz.underlying3 hi hi3 ao 0 0 [] (by
     cases ao with
     |none=>simp[Builtin.firstCells]
     |some ad=>exact run_firstCells_some w.drew i.size 0 ad 0 0 [] (by simp) (λj v hj=>by simp at hj)) k (by omega) (by omega) (by omega) (by omega) (by rw[hby];omega) (by rw[Nat.zero_add,hby];exact growslice_fits (by omega) (by omega))
    rw[Nat.zero_add]at this
    exact this
   refine(wG (k:Int) w (by omega) (by omega) default _ ao (grownCap w k 0 64) (by omega) (by simpa using aR)).mono λe w' he=>?_
   obtain⟨rfl,rfl⟩:=he
   refine fin _ _ _ rfl ?_ hg2
   simp only[Array.size_append,oM,hz,List.size_toArray,List.length_nil]
   omega
  ·rcases hor with h|⟨b,off,c,e,rfl,hb,hcs,hSb,S0,hr,t1,n1⟩
   ·omega
   simp only[Ty.width]at hcs
   have hat:∀ j v,((c.toList.drop off).take (cap*2))[j]?=some v->w.drew.cell? ((⟨b,off,none⟩:Addr).add j)=some v:=by
    intro j v hj
    rw[List.getElem?_take]at hj
    split at hj
    ·rw[List.getElem?_drop]at hj
     rw[Addr.add_lit]
     have hb':w.drew.heap[b]?=some (.cells c e.t (e.a,e.b)):=hb
     simp[World.cell?,hb']
     simpa using hj
    ·cases hj
   have hol:((c.toList.drop off).take (cap*2)).length=cap*2:=by simp;omega
   have aR:∀ ty,(Builtin.append_ #[62,3] ty #[.slice (some ⟨b,off,none⟩) cap cap,.int .i64 ((k:Int)-cap)]).run Tryz.prog w=.ok (.slice (some ⟨w.heap.size,0,none⟩) k (grownCap w k cap 64)) _:=λty=>by
    have:=Lib.run_append_grow_zeros (P:=Tryz.prog) w 62 3 ty 64 i z .i64 .i64 Tryz.underlying62 Tryz.underlying3 hi hi3 (some ⟨b,off,none⟩) cap cap ((c.toList.drop off).take (cap*2)) (by
     rw[O7]
     exact run_firstCells_some w.drew 2 cap ⟨b,off,none⟩ cap cap _ (by rw[hol]) hat) (k-cap) (by omega) (by omega) (by omega) (by omega) (by rw[hby];omega) (by rw[show cap+(k-cap)=k by omega,hby];exact growslice_fits (by omega) (by omega))
    rw[show cap+(k-cap)=k by omega,show((k-cap:Nat):Int)=(k:Int)-cap by omega]at this
    exact this
   refine(wH (k:Int) w cap hlt hp (by omega) default _ b off (grownCap w k cap 64) (by omega) (by simpa using aR)).mono λe' w' he=>?_
   obtain⟨rfl,rfl⟩:=he
   refine fin _ _ _ rfl ?_ hg2
   simp only[Array.size_append,oM,hz,List.size_toArray,hol]
   omega
def F94(n:Nat):Fb 94:=⟨_,O4 n,F4⟩
end
end Go.Proofs.YthalkfdkbalpmaaGreat.Rf
namespace Go.Proofs.YthalkfdkbalpmaaGreat.Rf
open Go
noncomputable section
def p63(v1:Nat)(v2:((List (Bool×Int))×(List Int)×Unit)):T12:=ap (λ(v3:T8)=>λv4=>bif decide (v3.2.2.1<(v2.1.length:Int))then if 0<=v3.2.2.1 then(match v2.1[(v3.2.2.1).toNat]? with|some v5=>aj (λ(v6:T2)=>v4 ((),v6.2.1,IntKind.wrap .i64 (v3.2.2.1+1),())) (λv7=>bif !v5.1 then v7 ((),if 1073741824<(IntKind.wrap .i64 (v3.2.1+1))then(1073741824:Int)else IntKind.wrap .i64 (v3.2.1+1),())else aj (λ(v8:T3)=>bif v8.2.1 then some ((-1,()),())else if 0<=v5.2 then(match v2.2.1[(v5.2).toNat]? with|some v9=>v7 ((),if 1073741824<(IntKind.wrap .i64 (v3.2.1+v9))then(1073741824:Int)else IntKind.wrap .i64 (v3.2.1+v9),())|none=>none)else none) (λv10=>bif decide (v5.2<0)then v10 ((),true,())else bif decide ((v2.2.1.length:Int)<=v5.2)then v10 ((),true,())else if 0<=v5.2 then(match v2.2.1[(v5.2).toNat]? with|some v11=>v10 ((),decide (v11<0),())|none=>none)else none))|none=>none)else none else some ((v3.2.1,()),())) v1 ((),0,0,())
def F63(n:Nat):Fb 63:=fb n [] [] [] [] Tryz.func63 Tryz.results63 Tryz.ntmps63 (.seq .nop (.seq .nop (.seq (.seq .nop (.block none (.loop ⟨[],[.val 5 y2,.val 10 y2],[1,8,9]⟩ (.seq .nop (.seq .nop (.seq (.block none (.seq (.reg none [7]) (.block none (.seq .nop (.cond (some ⟨[],[.val 5 y2],[1,8,9,10]⟩) .nop (.seq (.reg (some ⟨[],[.val 29 y4],[1,5,7,8,9,10]⟩) []) .nop)))))) .nop)))))) .nop))) [(y62,.ro),(y28,.ro)] A17 [] [] (p63 n)
def p33(v1:Nat)(v2:T77):T30:=if 0<=(v2.1.2.1.length:Int)/\(v2.1.2.1.length:Int)<=(v2.1.2.1.length:Int)then if(v2.1.2.1.length:Int).toNat*8<=140737488355328 then ap (λ(v3:T23)=>λv4=>bif decide (v3.2.1<((List.length (List.replicate (v2.1.2.1.length:Int).toNat (0:Int)):Nat):Int))then if 0<=v3.2.1 then(match v3.1.1[(v3.2.1).toNat]? with|some v5=>if 0<=v3.2.1 then(match v3.1.1[(v3.2.1).toNat]? with|some v6=>v4 ((List.set v3.1.1 (v3.2.1).toNat (-1:Int),()),IntKind.wrap .i64 (v3.2.1+1),())|none=>none)else none|none=>none)else none else ap (λ(v7:T28)=>λv8=>bif v7.2.1 then ap (λ(v9:T39)=>λv10=>bif decide (v9.2.2.1<(v2.1.2.2.1.length:Int))then aj (λ(v11:T28)=>v10 ((v11.1.1,()),v11.2.1,IntKind.wrap .i64 (v9.2.2.1+1),())) (λv12=>if 0<=v9.2.2.1 then(match v2.1.2.2.1[(v9.2.2.1).toNat]? with|some v13=>aj (λ(v14:T28)=>bif v14.2.1 then v12 ((v14.1.1,()),v9.2.1,())else ae (p63 v1 (v13.2.2.1,v14.1.1,())) (λ(v15:T5)=>aj (λ(v16:T28)=>aj (λ(v17:T28)=>v12 ((v17.1.1,()),v17.2.1,())) (λv18=>bif v16.2.1 then if 0<=v13.1 then(match v16.1.1[(v13.1).toNat]? with|some v19=>if 0<=v13.1 then(match v16.1.1[(v13.1).toNat]? with|some v20=>v18 ((List.set v16.1.1 (v13.1).toNat v15.1.1,()),true,())|none=>none)else none|none=>none)else none else v18 ((v16.1.1,()),v9.2.1,()))) (λv21=>bif decide (0<=v15.1.1)then if 0<=v13.1 then(match v14.1.1[(v13.1).toNat]? with|some v22=>bif decide (v22<0)then v21 ((v14.1.1,()),true,())else if 0<=v13.1 then(match v14.1.1[(v13.1).toNat]? with|some v23=>v21 ((v14.1.1,()),decide (v15.1.1<v23),())|none=>none)else none|none=>none)else none else v21 ((v14.1.1,()),false,())))) (λv24=>bif decide (v13.1<0)then v24 ((v9.1.1,()),true,())else v24 ((v9.1.1,()),decide ((v9.1.1.length:Int)<=v13.1),()))|none=>none)else none)else v8 ((v9.1.1,()),v9.2.1,())) v1 ((v7.1.1,()),false,0,())else some ((v7.1.1,()),())) v1 ((v3.1.1,()),true,())) v1 ((List.replicate (v2.1.2.1.length:Int).toNat (0:Int),()),0,())else none else none
def F33(n:Nat):Fb 33:=fb n [⟨_,F63 n⟩] [] [] [] Tryz.func33 Tryz.results33 Tryz.ntmps33 (.seq (.reg none [1]) (.seq .nop (.seq (.seq .nop (.block none (.loop ⟨[(96,y28,.own .ro)],[.val 15 y2],[1,3,14]⟩ .nop))) (.seq (.seq .nop (.block none (.loop ⟨[(96,y28,.own .ro)],[.val 5 y4],[1,3]⟩ (.seq .nop (.block none (.seq .nop (.seq .nop (.block none (.loop ⟨[(96,y28,.own .ro)],[.val 5 y4,.val 26 y2],[1,3,24,25]⟩ (.seq .nop (.seq .nop (.seq (.block (some ⟨[(96,y28,.own .ro)],[.val 5 y4],[1,3,24,25,26]⟩) (.seq (.reg none [7]) (.seq (.seq (.reg (some ⟨[(96,y28,.own .ro)],[.val 39 y4],[1,3,5,7,24,25,26]⟩) []) .nop) (.seq .nop (.seq (.reg (some ⟨[(96,y28,.own .ro)],[.val 62 y4],[1,3,5,7,8,24,25,26]⟩) []) (.cond (some ⟨[(96,y28,.own .ro)],[.val 5 y4],[1,3,24,25,26]⟩) .nop .nop)))))) .nop)))))))))))) .nop)))) A15 [(y28,.ro)] [] [] (p33 n)
def p62(v1:Nat)(v2:((List (List (Bool×Int)))×Unit)):Option (((List (Bool×Int))×Unit)×Unit):=ap (λ(v3:T8)=>λv4=>bif decide (v3.2.2.1<(v2.1.length:Int))then if 0<=v3.2.2.1 then(match v2.1[(v3.2.2.1).toNat]? with|some v5=>bif decide ((IntKind.wrap .i64 (v3.2.1+(v5.length:Int)))<0)then none else v4 ((),IntKind.wrap .i64 (v3.2.1+(v5.length:Int)),IntKind.wrap .i64 (v3.2.2.1+1),())|none=>none)else none else ae (p94 v1 (([]:List (Bool×Int)),v3.2.1,())) (λ(v6:T34)=>ap (λ(v7:(Unit×(List (Bool×Int))×Int×Unit))=>λv8=>bif decide (v7.2.2.1<(v2.1.length:Int))then if 0<=v7.2.2.1 then(match v2.1[(v7.2.2.1).toNat]? with|some v9=>if(List.length v7.2.1+List.length v9)*16<=140737488355328 then if List.length v7.2.1+List.length v9<=9223372036854775807 then v8 ((),v7.2.1++v9,IntKind.wrap .i64 (v7.2.2.1+1),())else none else none|none=>none)else none else some ((v7.2.1,()),())) v1 ((),v6.1.1,0,()))) v1 ((),0,0,())
def F62(n:Nat):Fb 62:=fb n [⟨_,F94 n⟩] [] [] [] Tryz.func62 Tryz.results62 Tryz.ntmps62 (.seq .nop (.seq .nop (.seq (.seq .nop (.block none (.loop ⟨[],[.val 3 y2,.val 11 y2],[0,9,10]⟩ .nop))) (.seq .nop (.seq (.seq .nop (.block none (.loop ⟨[],[.hdr 6 55 y62 (.own .ro),.val 27 y2],[25,26]⟩ .nop))) .nop))))) [(y45,.ro)] [(y62,.ro)] [] [] (p62 n)
def p95(v1:Nat)(v2:T4):T30:=BD (List.isEmpty v2.1) (λ(v3:Bool)=>bif v3 then some ((([]:List Int),()),())else if(List.length ([]:List Int)+List.length v2.1)*8<=140737488355328 then if List.length ([]:List Int)+List.length v2.1<=9223372036854775807 then some ((([]:List Int)++v2.1,()),())else none else none)
def F95(n:Nat):Fb 95:=fb n [] [] [] [] Tryz.func95 Tryz.results95 Tryz.ntmps95 (.nop) [(y28,.ro)] [(y28,.own .ro)] [] [] (p95 n)
def p64(v1:Nat)(v2:T21):T14:=if 0<=(v2.1.length:Int)/\(v2.1.length:Int)<=(v2.1.length:Int)then if(v2.1.length:Int).toNat*1<=140737488355328 then if 0<=v2.2.1 then(match v2.1[(v2.2.1).toNat]? with|some v3=>ae (p95 v1 (v3,())) (λ(v4:T13)=>ap (λ(v5:T44)=>λv6=>bif decide (0<(v5.2.1.length:Int))then if(0:Int)<=(0:Int)then(match v5.2.1[(0:Int).toNat]? with|some v7=>if(0:Int)<=(1:Int)/\(1:Int)<=(v5.2.1.length:Int)/\(v5.2.1.length:Int)<=(v5.2.1.length:Int)then bif decide (v7=v2.2.1)then some ((true,()),())else if 0<=v7 then(match v5.1.1[(v7).toNat]? with|some v8=>aj (λ(v9:T44)=>v6 ((v9.1.1,()),v9.2.1,())) (λv10=>bif !v8 then if 0<=v7 then(match v5.1.1[(v7).toNat]? with|some v11=>if 0<=v7 then(match v5.1.1[(v7).toNat]? with|some v12=>if 0<=v7 then(match v2.1[(v7).toNat]? with|some v13=>if(List.length (aY v5.2.1 (1:Int) (v5.2.1.length:Int))+List.length v13)*8<=140737488355328 then if List.length (aY v5.2.1 (1:Int) (v5.2.1.length:Int))+List.length v13<=9223372036854775807 then v10 ((List.set v5.1.1 (v7).toNat true,()),(aY v5.2.1 (1:Int) (v5.2.1.length:Int))++v13,())else none else none|none=>none)else none|none=>none)else none|none=>none)else none else v10 ((v5.1.1,()),aY v5.2.1 (1:Int) (v5.2.1.length:Int),()))|none=>none)else none else none|none=>none)else none else some ((false,()),())) v1 ((List.replicate (v2.1.length:Int).toNat false,()),v4.1.1,()))|none=>none)else none else none else none
def F64(n:Nat):Fb 64:=fb n [⟨_,F95 n⟩] [] [] [] Tryz.func64 Tryz.results64 Tryz.ntmps64 (.seq .nop (.seq .nop (.seq .nop (.seq (.block none (.loop ⟨[(80,cd,.own .ro)],[.hdr 6 55 y28 (.own .ro)],[0,1,5]⟩ (.seq .nop (.block none (.seq .nop (.seq .nop (.seq .nop (.seq .nop (.cond (some ⟨[(80,cd,.own .ro)],[.hdr 6 55 y28 (.own .ro)],[0,1,5]⟩) .nop .nop))))))))) .nop)))) [(y42,.ro),(y2,.ro)] A16 [] [] (p64 n)
def p32(v1:Nat)(v2:T77):T12:=ae (p33 v1 (v2.1,())) (λ(v3:T13)=>if 0<=(v2.1.2.1.length:Int)/\(v2.1.2.1.length:Int)<=(v2.1.2.1.length:Int)then if(v2.1.2.1.length:Int).toNat*24<=140737488355328 then ap (λ(v4:T42)=>λv5=>bif decide (v4.2.1<(v2.1.2.2.1.length:Int))then aj (λ(v6:T32)=>v5 ((v6.1.1,()),IntKind.wrap .i64 (v4.2.1+1),())) (λv7=>if 0<=v4.2.1 then(match v2.1.2.2.1[(v4.2.1).toNat]? with|some v8=>aj (λ(v9:T45)=>bif v9.2.1 then v7 ((v9.1.1,()),())else ap (λ(v10:T42)=>λv11=>bif decide (v10.2.1<(v8.2.2.1.length:Int))then if 0<=v10.2.1 then(match v8.2.2.1[(v10.2.1).toNat]? with|some v12=>if(0:Int)<=(0:Int)/\(0:Int)<=v10.2.1/\v10.2.1<=(v8.2.2.1.length:Int)then if 0<=(IntKind.wrap .i64 (v10.2.1+1))/\(IntKind.wrap .i64 (v10.2.1+1))<=(v8.2.2.1.length:Int)/\(v8.2.2.1.length:Int)<=(v8.2.2.1.length:Int)then ae (p62 v1 (([(aY v8.2.2.1 (0:Int) v10.2.1),(aY v8.2.2.1 (IntKind.wrap .i64 (v10.2.1+1)) (v8.2.2.1.length:Int))]:List (List (Bool×Int))),())) (λ(v13:T34)=>aj (λ(v14:T45)=>aj (λ(v15:T32)=>v11 ((v15.1.1,()),IntKind.wrap .i64 (v10.2.1+1),())) (λv16=>bif v14.2.1 then if 0<=v8.1 then(match v14.1.1[(v8.1).toNat]? with|some v17=>if 0<=v8.1 then(match v14.1.1[(v8.1).toNat]? with|some v18=>if(List.length v18+List.length ([v12.2]:List Int))*8<=140737488355328 then if List.length v18+List.length ([v12.2]:List Int)<=9223372036854775807 then if 0<=v8.1/\(v8.1).toNat=(v8.1).toNat then if 0<=v8.1/\(v8.1).toNat=(v8.1).toNat then v16 ((List.set v14.1.1 (v8.1).toNat (v18++([v12.2]:List Int)),()),())else none else none else none else none|none=>none)else none|none=>none)else none else v16 ((v14.1.1,()),()))) (λv19=>bif v12.1 then bif decide (0<=v12.2)then bif decide (v12.2<(v10.1.1.length:Int))then ae (p63 v1 (v13.1.1,v3.1.1,())) (λ(v20:T5)=>v19 ((v10.1.1,()),decide (v20.1.1=0),()))else v19 ((v10.1.1,()),false,())else v19 ((v10.1.1,()),false,())else v19 ((v10.1.1,()),false,())))else none else none|none=>none)else none else v7 ((v10.1.1,()),())) v1 ((v9.1.1,()),0,())) (λv21=>bif decide (v8.1<0)then v21 ((v4.1.1,()),true,())else v21 ((v4.1.1,()),decide ((v4.1.1.length:Int)<=v8.1),()))|none=>none)else none)else ap (λ(v22:T42)=>λv23=>bif decide (v22.2.1<(v4.1.1.length:Int))then ae (p64 v1 (v22.1.1,v22.2.1,())) (λ(v24:T6)=>bif v24.1.1 then some ((v22.2.1,()),())else v23 ((v22.1.1,()),IntKind.wrap .i64 (v22.2.1+1),()))else some ((-1,()),())) v1 ((v4.1.1,()),0,())) v1 ((List.replicate (v2.1.2.1.length:Int).toNat ([]:List Int),()),0,())else none else none)
def F32(n:Nat):Fb 32:=fb n [⟨_,F33 n⟩,⟨_,F62 n⟩,⟨_,F63 n⟩,⟨_,F64 n⟩] [12,51,52] [] [] Tryz.func32 Tryz.results32 Tryz.ntmps32 (.seq (.reg none [1]) (.seq .nop (.seq .nop (.seq (.seq .nop (.block none (.loop ⟨[(128,y42,.own (.own .ro))],[.val 20 y2],[3,4,18,19]⟩ (.seq .nop (.seq .nop (.seq (.block (some ⟨[(128,y42,.own (.own .ro))],[],[3,4,18,19,20]⟩) (.seq (.reg none [6]) (.seq (.seq (.reg (some ⟨[(128,y42,.own (.own .ro))],[.val 33 y4],[3,4,6,18,19,20]⟩) []) .nop) (.seq .nop (.block none (.loop ⟨[(128,y42,.own (.own .ro))],[.val 37 y2],[3,4,6,18,19,20,35,36]⟩ (.seq .nop (.seq .nop (.seq (.block none (.seq (.reg none [8]) (.seq .nop (.seq (.reg (some ⟨[(128,y42,.own (.own .ro))],[.val 72 y4],[3,4,6,8,18,19,20,35,36,37]⟩) []) (.cond (some ⟨[(128,y42,.own (.own .ro))],[],[3,4,6,18,19,20,35,36,37]⟩) .nop .nop))))) .nop))))))))) .nop)))))) (.seq (.seq .nop (.block none (.loop ⟨[(128,y42,.own (.own .ro))],[.val 90 y2],[4,89]⟩ .nop))) .nop))))) A15 A17 [] [] (p32 n)
def p96(v1:Nat)(v2:((Option (((List ((List Int)×Int×(List Int)))×(List (List Int))×(List (Int×(List Int)×(List (Bool×Int))×Bool×Int×(List Int)))×(List (Int×(List Int)))×Int)×(List Int)×Int×(List Int)×(List ((Int×Int×Int×Int)×Int))))×(List (Bool×Int))×Unit)):T12:=ap (λ(v3:T8)=>λv4=>bif decide (v3.2.2.1<(v2.2.1.length:Int))then if 0<=v3.2.2.1 then(match v2.2.1[(v3.2.2.1).toNat]? with|some v5=>aj (λ(v6:T2)=>v4 ((),v6.2.1,IntKind.wrap .i64 (v3.2.2.1+1),())) (λv7=>bif !v5.1 then v7 ((),IntKind.wrap .i64 (v3.2.1+1),())else(match v2.1 with|some v8=>(match v2.1 with|some v9=>if 0<=v5.2 then(match v9.2.2.2.1[(v5.2).toNat]? with|some v10=>bif decide (v10<0)then some ((-1,()),())else(match v2.1 with|some v11=>(match v2.1 with|some v12=>if 0<=v5.2 then(match v12.2.2.2.1[(v5.2).toNat]? with|some v13=>v7 ((),IntKind.wrap .i64 (v3.2.1+v13),())|none=>none)else none|none=>none)|none=>none)|none=>none)else none|none=>none)|none=>none))|none=>none)else none else some ((v3.2.1,()),())) v1 ((),0,0,())
def F96(n:Nat):Fb 96:=fb n [] [] [] [] Tryz.func96 Tryz.results96 Tryz.ntmps96 (.seq .nop (.seq .nop (.seq (.seq .nop (.block none (.loop ⟨[],[.val 5 y2,.val 10 y2],[0,8,9]⟩ (.seq .nop (.seq .nop (.seq (.block none (.seq (.reg none [7]) (.block none (.seq .nop (.cond (some ⟨[],[.val 5 y2],[0,8,9,10]⟩) .nop .nop))))) .nop)))))) .nop))) [(y92,.ro),(y62,.ro)] A17 [] [] (p96 n)
theorem CQ:qU Tryz.prog 132:=⟨by kernel_rfl,by kernel_rfl,by kernel_rfl⟩
abbrev Q34:=Qt A1 A17 A2
abbrev C34(q:Q34):Callee:=⟨_,_,[0],_,q⟩
theorem l34:Plain Tryz.prog 34:=pl Tryz.func34
abbrev Q65:=Qt A0 A17 A2
abbrev C65(q:Q65):Callee:=⟨_,_,[0],_,q⟩
theorem l65:Plain Tryz.prog 65:=pl Tryz.func65
abbrev H34(q34:Q34)(q65:Q65):=di Tryz.prog 34 (C34 q34)/\di Tryz.prog 65 (C65 q65)
def CR(v1:Nat)(v2:T90)(v3:T91)(v4:T86):T88:=bif cT (λ(v5:T7)=>λ(v6:T7)=>bif decide (v5.1=v6.1)then bif decide (v5.2.1=v6.2.1)then bif decide (v5.2.2.1=v6.2.2.1)then decide (v5.2.2.2=v6.2.2.2)else false else false else false) (-1,v4.2.1,v4.2.2.1,v4.2.2.2.1) v4.1.2.2.2.2 then some ((bB (λ(v7:T7)=>λ(v8:T7)=>bif decide (v7.1=v8.1)then bif decide (v7.2.1=v8.2.1)then bif decide (v7.2.2.1=v8.2.2.1)then decide (v7.2.2.2=v8.2.2.2)else false else false else false) (-1,v4.2.1,v4.2.2.1,v4.2.2.2.1) v4.1.2.2.2.2,()),v4.1,())else ap (λ(v9:T87)=>λv10=>bif decide (v9.2.2.1<(v4.1.1.2.2.1.length:Int))then if 0<=v9.2.2.1 then(match v4.1.1.2.2.1[(v9.2.2.1).toNat]? with|some v11=>aj (λ(v12:T83)=>v10 ((v12.1.1,()),v12.2.1,IntKind.wrap .i64 (v9.2.2.1+1),())) (λv13=>bif decide (v11.1=v4.2.1)then dj (ae (v3 (v9.1.1,v9.2.2.1,0,v4.2.2.1,v4.2.2.2.1,())) (λ(v14:T84)=>v13 ((v14.2.1,()),if v14.2.1.2.2.1<(IntKind.wrap .i64 (v9.2.1+v14.1.1))then v14.2.1.2.2.1 else IntKind.wrap .i64 (v9.2.1+v14.1.1),()))) (dj (ae (v3 (v9.1.1,v9.2.2.1,0,v4.2.2.1,v4.2.2.2.1,())) (λ(v15:T84)=>v13 ((v15.2.1,()),if v15.2.1.2.2.1<(IntKind.wrap .i64 (v9.2.1+v15.1.1))then v15.2.1.2.2.1 else IntKind.wrap .i64 (v9.2.1+v15.1.1),()))) (dj (ae (v3 (v9.1.1,v9.2.2.1,0,v4.2.2.1,v4.2.2.2.1,())) (λ(v16:T84)=>v13 ((v16.2.1,()),if v16.2.1.2.2.1<(IntKind.wrap .i64 (v9.2.1+v16.1.1))then v16.2.1.2.2.1 else IntKind.wrap .i64 (v9.2.1+v16.1.1),()))) (ae (v3 (v9.1.1,v9.2.2.1,0,v4.2.2.1,v4.2.2.2.1,())) (λ(v17:T84)=>v13 ((v17.2.1,()),if v9.1.1.2.2.1<(IntKind.wrap .i64 (v9.2.1+v17.1.1))then v9.1.1.2.2.1 else IntKind.wrap .i64 (v9.2.1+v17.1.1),())))))else v13 ((v9.1.1,()),v9.2.1,()))|none=>none)else none else some ((v9.2.1,()),(v9.1.1.1,v9.1.1.2.1,v9.1.1.2.2.1,v9.1.1.2.2.2.1,cu (λ(v18:T7)=>λ(v19:T7)=>bif decide (v18.1=v19.1)then bif decide (v18.2.1=v19.2.1)then bif decide (v18.2.2.1=v19.2.2.1)then decide (v18.2.2.2=v19.2.2.2)else false else false else false) (-1,v4.2.1,v4.2.2.1,v4.2.2.2.1) v9.2.1 v9.1.1.2.2.2.2),())) v1 ((v4.1,()),0,0,())
theorem b34(n:Nat)(q34:Q34)(q65:Q65)(h:H34 q34 q65):di Tryz.prog 34 (C34 (CR n q34 q65)):=(fb n [⟨_,⟨_,h.1,l34⟩⟩,⟨_,⟨_,h.2,l65⟩⟩] [50] [] [⟨_,CQ⟩] Tryz.func34 Tryz.results34 Tryz.ntmps34 (.seq .nop (.seq (.reg none [9]) (.seq .nop (.seq .nop (.seq (.seq .nop (.block none (.loop ⟨[(6,.box y95,.own (.pr .ro (.pr .ro (.pr .ro (.pr .ro (.own .ro))))))],[.val 12 y2,.val 36 y2],[0,1,2,3,9,34,35]⟩ (.seq .nop (.seq .nop (.seq (.block none (.seq (.reg none [14]) (.seq .nop (.cond (some ⟨[(6,.box y95,.own (.pr .ro (.pr .ro (.pr .ro (.pr .ro (.own .ro))))))],[.val 12 y2],[0,1,2,3,9,34,35,36]⟩) (.rga none [] [] (.split 5 8 (.leaf [0,1,2,3,4,5,6,7,8,9,10,11,12]) (.split 5 9 (.leaf [0,1,2,3,4,7,8,5,6,9,10,11,12]) (.split 5 10 (.leaf [0,1,2,3,4,7,8,9,5,6,10,11,12]) (.leaf [0,1,2,3,4,7,8,9,10,5,6,11,12]))))) .nop)))) .nop)))))) .nop))))) A1 A17 [0] A2 (CR n q34 q65)).o
def CS(v1:Nat)(v2:T90)(v3:T91)(v4:T89):T88:=if 0<=v4.2.1 then(match v4.1.1.2.2.1[(v4.2.1).toNat]? with|some v5=>bif decide (v4.2.2.1=(v5.2.2.1.length:Int))then bif decide (v4.2.2.2.1=v4.2.2.2.2.1)then some ((1,()),v4.1,())else some ((0,()),v4.1,())else bif cT (λ(v6:T7)=>λ(v7:T7)=>bif decide (v6.1=v7.1)then bif decide (v6.2.1=v7.2.1)then bif decide (v6.2.2.1=v7.2.2.1)then decide (v6.2.2.2=v7.2.2.2)else false else false else false) (v4.2.1,v4.2.2.1,v4.2.2.2.1,v4.2.2.2.2.1) v4.1.2.2.2.2 then some ((bB (λ(v8:T7)=>λ(v9:T7)=>bif decide (v8.1=v9.1)then bif decide (v8.2.1=v9.2.1)then bif decide (v8.2.2.1=v9.2.2.1)then decide (v8.2.2.2=v9.2.2.2)else false else false else false) (v4.2.1,v4.2.2.1,v4.2.2.2.1,v4.2.2.2.2.1) v4.1.2.2.2.2,()),v4.1,())else if 0<=v4.2.2.1 then(match v5.2.2.1[(v4.2.2.1).toNat]? with|some v10=>bif !v10.1 then aj (λ(v11:T85)=>aj (λ(v12:T83)=>some ((v12.2.1,()),(v12.1.1.1,v12.1.1.2.1,v12.1.1.2.2.1,v12.1.1.2.2.2.1,cu (λ(v13:T7)=>λ(v14:T7)=>bif decide (v13.1=v14.1)then bif decide (v13.2.1=v14.2.1)then bif decide (v13.2.2.1=v14.2.2.1)then decide (v13.2.2.2=v14.2.2.2)else false else false else false) (v4.2.1,v4.2.2.1,v4.2.2.2.1,v4.2.2.2.2.1) v12.2.1 v12.1.1.2.2.2.2),())) (λv15=>bif v11.2.1 then ae (v3 (v11.1.1,v4.2.1,IntKind.wrap .i64 (v4.2.2.1+1),IntKind.wrap .i64 (v4.2.2.2.1+1),v4.2.2.2.2.1,())) (λ(v16:T84)=>v15 ((v16.2.1,()),v16.1.1,()))else v15 ((v11.1.1,()),0,()))) (λv17=>bif decide (v4.2.2.2.1<v4.2.2.2.2.1)then if 0<=v4.2.2.2.1 then(match v4.1.2.1[(v4.2.2.2.1).toNat]? with|some v18=>v17 ((v4.1,()),decide (v18=v10.2),())|none=>none)else none else v17 ((v4.1,()),false,()))else if 0<=v10.2 then(match v4.1.2.2.2.1[(v10.2).toNat]? with|some v19=>if 0<=(IntKind.wrap .i64 (v4.2.2.1+1))/\(IntKind.wrap .i64 (v4.2.2.1+1))<=(v5.2.2.1.length:Int)/\(v5.2.2.1.length:Int)<=(v5.2.2.1.length:Int)then ae (p96 v1 (some v4.1,aY v5.2.2.1 (IntKind.wrap .i64 (v4.2.2.1+1)) (v5.2.2.1.length:Int),())) (λ(v20:T5)=>aj (λ(v21:T85)=>bif v21.2.1 then some ((0,()),(v21.1.1.1,v21.1.1.2.1,v21.1.1.2.2.1,v21.1.1.2.2.2.1,cu (λ(v22:T7)=>λ(v23:T7)=>bif decide (v22.1=v23.1)then bif decide (v22.2.1=v23.2.1)then bif decide (v22.2.2.1=v23.2.2.1)then decide (v22.2.2.2=v23.2.2.2)else false else false else false) (v4.2.1,v4.2.2.1,v4.2.2.2.1,v4.2.2.2.2.1) (0:Int) v21.1.1.2.2.2.2),())else ap (λ(v24:T87)=>λv25=>bif decide (v24.2.2.1<=(IntKind.wrap .i64 (v4.2.2.2.2.1-v20.1.1)))then aj (λ(v26:T83)=>v25 ((v26.1.1,()),v26.2.1,IntKind.wrap .i64 (v24.2.2.1+1),())) (λv27=>ae (v3 (v24.1.1,v4.2.1,IntKind.wrap .i64 (v4.2.2.1+1),v24.2.2.1,v4.2.2.2.2.1,())) (λ(v28:T84)=>bif decide (v28.1.1=0)then v27 ((v28.2.1,()),v24.2.1,())else dj (dj (ae (v2 (v28.2.1,v10.2,v4.2.2.2.1,v24.2.2.1,())) (λ(v29:T84)=>v27 ((v29.2.1,()),if v29.2.1.2.2.1<(IntKind.wrap .i64 (v24.2.1+(if v29.2.1.2.2.1<(IntKind.wrap .i64 (v28.1.1*v29.1.1))then v29.2.1.2.2.1 else IntKind.wrap .i64 (v28.1.1*v29.1.1))))then v29.2.1.2.2.1 else IntKind.wrap .i64 (v24.2.1+(if v29.2.1.2.2.1<(IntKind.wrap .i64 (v28.1.1*v29.1.1))then v29.2.1.2.2.1 else IntKind.wrap .i64 (v28.1.1*v29.1.1))),()))) (dj (ae (v2 (v28.2.1,v10.2,v4.2.2.2.1,v24.2.2.1,())) (λ(v30:T84)=>v27 ((v30.2.1,()),if v30.2.1.2.2.1<(IntKind.wrap .i64 (v24.2.1+(if v30.2.1.2.2.1<(IntKind.wrap .i64 (v28.1.1*v30.1.1))then v30.2.1.2.2.1 else IntKind.wrap .i64 (v28.1.1*v30.1.1))))then v30.2.1.2.2.1 else IntKind.wrap .i64 (v24.2.1+(if v30.2.1.2.2.1<(IntKind.wrap .i64 (v28.1.1*v30.1.1))then v30.2.1.2.2.1 else IntKind.wrap .i64 (v28.1.1*v30.1.1))),()))) (dj (ae (v2 (v28.2.1,v10.2,v4.2.2.2.1,v24.2.2.1,())) (λ(v31:T84)=>v27 ((v31.2.1,()),if v31.2.1.2.2.1<(IntKind.wrap .i64 (v24.2.1+(if v31.2.1.2.2.1<(IntKind.wrap .i64 (v28.1.1*v31.1.1))then v31.2.1.2.2.1 else IntKind.wrap .i64 (v28.1.1*v31.1.1))))then v31.2.1.2.2.1 else IntKind.wrap .i64 (v24.2.1+(if v31.2.1.2.2.1<(IntKind.wrap .i64 (v28.1.1*v31.1.1))then v31.2.1.2.2.1 else IntKind.wrap .i64 (v28.1.1*v31.1.1))),()))) (ae (v2 (v28.2.1,v10.2,v4.2.2.2.1,v24.2.2.1,())) (λ(v32:T84)=>v27 ((v32.2.1,()),if v28.2.1.2.2.1<(IntKind.wrap .i64 (v24.2.1+(if v32.2.1.2.2.1<(IntKind.wrap .i64 (v28.1.1*v32.1.1))then v32.2.1.2.2.1 else IntKind.wrap .i64 (v28.1.1*v32.1.1))))then v28.2.1.2.2.1 else IntKind.wrap .i64 (v24.2.1+(if v32.2.1.2.2.1<(IntKind.wrap .i64 (v28.1.1*v32.1.1))then v32.2.1.2.2.1 else IntKind.wrap .i64 (v28.1.1*v32.1.1))),())))))) (dj (dj (ae (v2 (v28.2.1,v10.2,v4.2.2.2.1,v24.2.2.1,())) (λ(v33:T84)=>v27 ((v33.2.1,()),if v33.2.1.2.2.1<(IntKind.wrap .i64 (v24.2.1+(if v33.2.1.2.2.1<(IntKind.wrap .i64 (v28.1.1*v33.1.1))then v33.2.1.2.2.1 else IntKind.wrap .i64 (v28.1.1*v33.1.1))))then v33.2.1.2.2.1 else IntKind.wrap .i64 (v24.2.1+(if v33.2.1.2.2.1<(IntKind.wrap .i64 (v28.1.1*v33.1.1))then v33.2.1.2.2.1 else IntKind.wrap .i64 (v28.1.1*v33.1.1))),()))) (dj (ae (v2 (v28.2.1,v10.2,v4.2.2.2.1,v24.2.2.1,())) (λ(v34:T84)=>v27 ((v34.2.1,()),if v34.2.1.2.2.1<(IntKind.wrap .i64 (v24.2.1+(if v34.2.1.2.2.1<(IntKind.wrap .i64 (v28.1.1*v34.1.1))then v34.2.1.2.2.1 else IntKind.wrap .i64 (v28.1.1*v34.1.1))))then v34.2.1.2.2.1 else IntKind.wrap .i64 (v24.2.1+(if v34.2.1.2.2.1<(IntKind.wrap .i64 (v28.1.1*v34.1.1))then v34.2.1.2.2.1 else IntKind.wrap .i64 (v28.1.1*v34.1.1))),()))) (dj (ae (v2 (v28.2.1,v10.2,v4.2.2.2.1,v24.2.2.1,())) (λ(v35:T84)=>v27 ((v35.2.1,()),if v35.2.1.2.2.1<(IntKind.wrap .i64 (v24.2.1+(if v35.2.1.2.2.1<(IntKind.wrap .i64 (v28.1.1*v35.1.1))then v35.2.1.2.2.1 else IntKind.wrap .i64 (v28.1.1*v35.1.1))))then v35.2.1.2.2.1 else IntKind.wrap .i64 (v24.2.1+(if v35.2.1.2.2.1<(IntKind.wrap .i64 (v28.1.1*v35.1.1))then v35.2.1.2.2.1 else IntKind.wrap .i64 (v28.1.1*v35.1.1))),()))) (ae (v2 (v28.2.1,v10.2,v4.2.2.2.1,v24.2.2.1,())) (λ(v36:T84)=>v27 ((v36.2.1,()),if v28.2.1.2.2.1<(IntKind.wrap .i64 (v24.2.1+(if v36.2.1.2.2.1<(IntKind.wrap .i64 (v28.1.1*v36.1.1))then v36.2.1.2.2.1 else IntKind.wrap .i64 (v28.1.1*v36.1.1))))then v28.2.1.2.2.1 else IntKind.wrap .i64 (v24.2.1+(if v36.2.1.2.2.1<(IntKind.wrap .i64 (v28.1.1*v36.1.1))then v36.2.1.2.2.1 else IntKind.wrap .i64 (v28.1.1*v36.1.1))),())))))) (dj (dj (ae (v2 (v28.2.1,v10.2,v4.2.2.2.1,v24.2.2.1,())) (λ(v37:T84)=>v27 ((v37.2.1,()),if v37.2.1.2.2.1<(IntKind.wrap .i64 (v24.2.1+(if v37.2.1.2.2.1<(IntKind.wrap .i64 (v28.1.1*v37.1.1))then v37.2.1.2.2.1 else IntKind.wrap .i64 (v28.1.1*v37.1.1))))then v37.2.1.2.2.1 else IntKind.wrap .i64 (v24.2.1+(if v37.2.1.2.2.1<(IntKind.wrap .i64 (v28.1.1*v37.1.1))then v37.2.1.2.2.1 else IntKind.wrap .i64 (v28.1.1*v37.1.1))),()))) (dj (ae (v2 (v28.2.1,v10.2,v4.2.2.2.1,v24.2.2.1,())) (λ(v38:T84)=>v27 ((v38.2.1,()),if v38.2.1.2.2.1<(IntKind.wrap .i64 (v24.2.1+(if v38.2.1.2.2.1<(IntKind.wrap .i64 (v28.1.1*v38.1.1))then v38.2.1.2.2.1 else IntKind.wrap .i64 (v28.1.1*v38.1.1))))then v38.2.1.2.2.1 else IntKind.wrap .i64 (v24.2.1+(if v38.2.1.2.2.1<(IntKind.wrap .i64 (v28.1.1*v38.1.1))then v38.2.1.2.2.1 else IntKind.wrap .i64 (v28.1.1*v38.1.1))),()))) (dj (ae (v2 (v28.2.1,v10.2,v4.2.2.2.1,v24.2.2.1,())) (λ(v39:T84)=>v27 ((v39.2.1,()),if v39.2.1.2.2.1<(IntKind.wrap .i64 (v24.2.1+(if v39.2.1.2.2.1<(IntKind.wrap .i64 (v28.1.1*v39.1.1))then v39.2.1.2.2.1 else IntKind.wrap .i64 (v28.1.1*v39.1.1))))then v39.2.1.2.2.1 else IntKind.wrap .i64 (v24.2.1+(if v39.2.1.2.2.1<(IntKind.wrap .i64 (v28.1.1*v39.1.1))then v39.2.1.2.2.1 else IntKind.wrap .i64 (v28.1.1*v39.1.1))),()))) (ae (v2 (v28.2.1,v10.2,v4.2.2.2.1,v24.2.2.1,())) (λ(v40:T84)=>v27 ((v40.2.1,()),if v28.2.1.2.2.1<(IntKind.wrap .i64 (v24.2.1+(if v40.2.1.2.2.1<(IntKind.wrap .i64 (v28.1.1*v40.1.1))then v40.2.1.2.2.1 else IntKind.wrap .i64 (v28.1.1*v40.1.1))))then v28.2.1.2.2.1 else IntKind.wrap .i64 (v24.2.1+(if v40.2.1.2.2.1<(IntKind.wrap .i64 (v28.1.1*v40.1.1))then v40.2.1.2.2.1 else IntKind.wrap .i64 (v28.1.1*v40.1.1))),())))))) (dj (ae (v2 (v28.2.1,v10.2,v4.2.2.2.1,v24.2.2.1,())) (λ(v41:T84)=>v27 ((v41.2.1,()),if v41.2.1.2.2.1<(IntKind.wrap .i64 (v24.2.1+(if v28.2.1.2.2.1<(IntKind.wrap .i64 (v28.1.1*v41.1.1))then v28.2.1.2.2.1 else IntKind.wrap .i64 (v28.1.1*v41.1.1))))then v41.2.1.2.2.1 else IntKind.wrap .i64 (v24.2.1+(if v28.2.1.2.2.1<(IntKind.wrap .i64 (v28.1.1*v41.1.1))then v28.2.1.2.2.1 else IntKind.wrap .i64 (v28.1.1*v41.1.1))),()))) (dj (ae (v2 (v28.2.1,v10.2,v4.2.2.2.1,v24.2.2.1,())) (λ(v42:T84)=>v27 ((v42.2.1,()),if v42.2.1.2.2.1<(IntKind.wrap .i64 (v24.2.1+(if v28.2.1.2.2.1<(IntKind.wrap .i64 (v28.1.1*v42.1.1))then v28.2.1.2.2.1 else IntKind.wrap .i64 (v28.1.1*v42.1.1))))then v42.2.1.2.2.1 else IntKind.wrap .i64 (v24.2.1+(if v28.2.1.2.2.1<(IntKind.wrap .i64 (v28.1.1*v42.1.1))then v28.2.1.2.2.1 else IntKind.wrap .i64 (v28.1.1*v42.1.1))),()))) (dj (ae (v2 (v28.2.1,v10.2,v4.2.2.2.1,v24.2.2.1,())) (λ(v43:T84)=>v27 ((v43.2.1,()),if v43.2.1.2.2.1<(IntKind.wrap .i64 (v24.2.1+(if v28.2.1.2.2.1<(IntKind.wrap .i64 (v28.1.1*v43.1.1))then v28.2.1.2.2.1 else IntKind.wrap .i64 (v28.1.1*v43.1.1))))then v43.2.1.2.2.1 else IntKind.wrap .i64 (v24.2.1+(if v28.2.1.2.2.1<(IntKind.wrap .i64 (v28.1.1*v43.1.1))then v28.2.1.2.2.1 else IntKind.wrap .i64 (v28.1.1*v43.1.1))),()))) (ae (v2 (v28.2.1,v10.2,v4.2.2.2.1,v24.2.2.1,())) (λ(v44:T84)=>v27 ((v44.2.1,()),if v28.2.1.2.2.1<(IntKind.wrap .i64 (v24.2.1+(if v28.2.1.2.2.1<(IntKind.wrap .i64 (v28.1.1*v44.1.1))then v28.2.1.2.2.1 else IntKind.wrap .i64 (v28.1.1*v44.1.1))))then v28.2.1.2.2.1 else IntKind.wrap .i64 (v24.2.1+(if v28.2.1.2.2.1<(IntKind.wrap .i64 (v28.1.1*v44.1.1))then v28.2.1.2.2.1 else IntKind.wrap .i64 (v28.1.1*v44.1.1))),()))))))))))else some ((v24.2.1,()),(v24.1.1.1,v24.1.1.2.1,v24.1.1.2.2.1,v24.1.1.2.2.2.1,cu (λ(v45:T7)=>λ(v46:T7)=>bif decide (v45.1=v46.1)then bif decide (v45.2.1=v46.2.1)then bif decide (v45.2.2.1=v46.2.2.1)then decide (v45.2.2.2=v46.2.2.2)else false else false else false) (v4.2.1,v4.2.2.1,v4.2.2.2.1,v4.2.2.2.2.1) v24.2.1 v24.1.1.2.2.2.2),())) v1 ((v21.1.1,()),0,IntKind.wrap .i64 (v4.2.2.2.1+v19),())) (λv47=>bif decide (v19<0)then v47 ((v4.1,()),true,())else v47 ((v4.1,()),decide (v20.1.1<0),())))else none|none=>none)else none|none=>none)else none|none=>none)else none
theorem b65(n:Nat)(q34:Q34)(q65:Q65)(h:H34 q34 q65):di Tryz.prog 65 (C65 (CS n q34 q65)):=(fb n [⟨_,F96 n⟩,⟨_,⟨_,h.1,l34⟩⟩,⟨_,⟨_,h.2,l65⟩⟩] [82,131,141] [] [⟨_,CQ⟩] Tryz.func65 Tryz.results65 Tryz.ntmps65 (.seq .nop (.seq .nop (.seq .nop (.seq (.reg none [12]) (.seq .nop (.seq .nop (.seq (.reg none [16]) (.seq (.seq .nop (.cond none (.seq (.seq (.reg (some ⟨[(6,.box y95,.own (.pr .ro (.pr .ro (.pr .ro (.pr .ro (.own .ro))))))],[.val 74 y4],[0,1,2,3,4,12,15]⟩) []) (.cond (some ⟨[(6,.box y95,.own (.pr .ro (.pr .ro (.pr .ro (.pr .ro (.own .ro))))))],[.val 15 y2],[0,12]⟩) .nop .nop)) .nop) .nop)) (.seq .nop (.seq (.seq (.reg (some ⟨[(6,.box y95,.own (.pr .ro (.pr .ro (.pr .ro (.pr .ro (.own .ro))))))],[.val 109 y4],[0,1,2,3,4,12,15,16,17,18]⟩) []) .nop) (.seq (.seq .nop (.block none (.loop ⟨[(6,.box y95,.own (.pr .ro (.pr .ro (.pr .ro (.pr .ro (.own .ro))))))],[.val 15 y2,.val 19 y2],[0,1,2,3,4,12,16,18]⟩ (.seq .nop (.seq (.block (some ⟨[(6,.box y95,.own (.pr .ro (.pr .ro (.pr .ro (.pr .ro (.own .ro))))))],[.val 15 y2],[0,1,2,3,4,12,16,18,19]⟩) (.seq .nop (.seq .nop (.rga none [] [] (.split 7 10 (.split 7 16 (.leaf [0,1,2,3,4,5,6,7,8,9,10,11,12,13,14,15,16,17,18,19,20]) (.split 7 17 (.leaf [0,1,2,3,4,5,6,9,15,16,7,8,10,11,12,13,14,17,18,19,20]) (.split 7 18 (.leaf [0,1,2,3,4,5,6,9,15,16,17,7,8,10,11,12,13,14,18,19,20]) (.leaf [0,1,2,3,4,5,6,9,15,16,17,18,7,8,10,11,12,13,14,19,20])))) (.split 7 11 (.split 7 16 (.leaf [0,1,2,3,4,5,6,9,10,7,8,11,12,13,14,15,16,17,18,19,20]) (.split 7 17 (.leaf [0,1,2,3,4,5,6,9,10,15,16,7,8,11,12,13,14,17,18,19,20]) (.split 7 18 (.leaf [0,1,2,3,4,5,6,9,10,15,16,17,7,8,11,12,13,14,18,19,20]) (.leaf [0,1,2,3,4,5,6,9,10,15,16,17,18,7,8,11,12,13,14,19,20])))) (.split 7 12 (.split 7 16 (.leaf [0,1,2,3,4,5,6,9,10,11,7,8,12,13,14,15,16,17,18,19,20]) (.split 7 17 (.leaf [0,1,2,3,4,5,6,9,10,11,15,16,7,8,12,13,14,17,18,19,20]) (.split 7 18 (.leaf [0,1,2,3,4,5,6,9,10,11,15,16,17,7,8,12,13,14,18,19,20]) (.leaf [0,1,2,3,4,5,6,9,10,11,15,16,17,18,7,8,12,13,14,19,20])))) (.split 7 16 (.leaf [0,1,2,3,4,5,6,9,10,11,12,7,8,13,14,15,16,17,18,19,20]) (.split 7 17 (.leaf [0,1,2,3,4,5,6,9,10,11,12,15,16,7,8,13,14,17,18,19,20]) (.split 7 18 (.leaf [0,1,2,3,4,5,6,9,10,11,12,15,16,17,7,8,13,14,18,19,20]) (.leaf [0,1,2,3,4,5,6,9,10,11,12,15,16,17,18,7,8,13,14,19,20]))))))))))) .nop))))) .nop))))))))))) A0 A17 [0] A2 (CS n q34 q65)).o
def oN(n:Nat):Nat->(T86->T88)×(T89->T88)
 |0=>(λ_=>none,λ_=>none)
 |d+1=>(λx=>CR n (oN n d).1 (oN n d).2 x,λx=>CS n (oN n d).1 (oN n d).2 x)
theorem g34(n:Nat):∀ d,H34 (oN n d).1 (oN n d).2
 |0=>⟨(λx r h=>by cases h),(λx r h=>by cases h)⟩
 |d+1=>⟨b34 n _ _ (g34 n d),b65 n _ _ (g34 n d)⟩
def p34(n:Nat)(x:T86):T88:=(oN n n).1 x
def F34(n:Nat):Fb 34:=⟨C34 (p34 n),(g34 n n).1,l34⟩
def p65(n:Nat)(x:T89):T88:=(oN n n).2 x
def F65(n:Nat):Fb 65:=⟨C65 (p65 n),(g34 n n).2,l65⟩
def p10(v1:Nat)(v2:(((List ((List Int)×Int×(List Int)))×(List (List Int))×(List (Int×(List Int)×(List (Bool×Int))×Bool×Int×(List Int)))×(List (Int×(List Int)))×Int)×Int×(List Int)×Int×Unit)):T24:=aj (λ(v3:T3)=>bif v3.2.1 then some ((0,6,()),())else aj (λ(v4:T3)=>bif v4.2.1 then some ((0,1,()),())else ae (p33 v1 (v2.1,())) (λ(v5:T13)=>ae (p34 v1 ((v2.1,v2.2.2.1,v2.2.2.2.1,v5.1.1,([]:List ((Int×Int×Int×Int)×Int))),v2.2.1,0,(v2.2.2.1.length:Int),())) (λ(v6:T84)=>some ((v6.1.1,0,()),())))) (λv7=>bif decide (v2.2.1<0)then v7 ((),true,())else bif decide ((v2.1.2.1.length:Int)<=v2.2.1)then v7 ((),true,())else ae (p31 v1 (v2.1,())) (λ(v8:T25)=>bif !(decide (v8.1.1.1=0))then v7 ((),true,())else ae (p32 v1 (v2.1,())) (λ(v9:T5)=>v7 ((),decide (0<=v9.1.1),()))))) (λv10=>bif decide (40<(v2.2.2.1.length:Int))then v10 ((),true,())else bif decide (v2.2.2.2.1<1)then v10 ((),true,())else v10 ((),decide (1000<v2.2.2.2.1),()))
def F10(n:Nat):Fb 10:=fb n [⟨_,F31 n⟩,⟨_,F32 n⟩,⟨_,F33 n⟩,⟨_,F34 n⟩] [48,50,56] [] [⟨_,CQ⟩] Tryz.func10 Tryz.results10 Tryz.ntmps10 (.seq (.reg none [4]) (.seq (.block none (.seq (.reg (some ⟨[],[.val 11 y4],[1,2,3,4]⟩) []) (.cond none .nop (.seq (.reg (some ⟨[],[.val 23 y4],[1,2,3,4]⟩) []) .nop)))) .nop)) [(y26,.ro),(y2,.ro),(y28,.ro),(y2,.ro)] A12 [] [] (p10 n)
def p12(v1:Nat)(v2:T79):T29:=ae (p10 v1 (v2.1,v2.1.2.2.2.2,v2.2.1,2,())) (λ(v3:T10)=>some ((decide (v3.1.1=1),v3.1.2.1,()),()))
def F12(n:Nat):Fb 12:=fb n [⟨_,F10 n⟩] [] [] [] Tryz.func12 Tryz.results12 Tryz.ntmps12 (.seq (.reg none [2]) .nop) [(y26,.ro),(y28,.ro)] [(y4,.ro),(y2,.ro)] [] [] (p12 n)
def p7(v1:Nat)(v2:Unit):T14:=ae (p10 v1 ((([(([88]:List Int),0,([120]:List Int))]:List ((List Int)×Int×(List Int))),([([69]:List Int)]:List (List Int)),([(0,([84,119,111]:List Int),([(true,0),(true,0)]:List (Bool×Int)),false,-1,([0]:List Int)),(0,([79,110,101]:List Int),([(false,0)]:List (Bool×Int)),false,-1,([]:List Int))]:List (Int×(List Int)×(List (Bool×Int))×Bool×Int×(List Int))),([]:List (Int×(List Int))),0),0,([0,0,0]:List Int),9,())) (λ(v3:T10)=>ae (p12 v1 ((([(([88]:List Int),0,([120]:List Int))]:List ((List Int)×Int×(List Int))),([([69]:List Int)]:List (List Int)),([(0,([84,119,111]:List Int),([(true,0),(true,0)]:List (Bool×Int)),false,-1,([0]:List Int)),(0,([79,110,101]:List Int),([(false,0)]:List (Bool×Int)),false,-1,([]:List Int))]:List (Int×(List Int)×(List (Bool×Int))×Bool×Int×(List Int))),([]:List (Int×(List Int))),0),([0,0]:List Int),())) (λ(v4:T11)=>aj (λ(v5:T3)=>some ((v5.2.1,()),())) (λv6=>bif decide (v3.1.1=2)then bif decide (v3.1.2.1=0)then bif v4.1.1 then v6 ((),decide (v4.1.2.1=0),())else v6 ((),false,())else v6 ((),false,())else v6 ((),false,()))))
def F7(n:Nat):Fb 7:=fb n [⟨_,F10 n⟩,⟨_,F12 n⟩] [15,18,20] [] [] Tryz.func7 Tryz.results7 Tryz.ntmps7 (.seq .nop (.seq (.reg none [1]) (.seq (.reg none [2]) (.seq .nop (.seq .nop (.seq (.reg (some ⟨[],[.val 0 y4],[]⟩) []) .nop)))))) [] A16 [] [] (p7 n)
def p11(v1:Nat)(v2:T79):T29:=ae (p10 v1 (v2.1,v2.1.2.2.2.2,v2.2.1,1,())) (λ(v3:T10)=>some ((decide (0<v3.1.1),v3.1.2.1,()),()))
def F11(n:Nat):Fb 11:=fb n [⟨_,F10 n⟩] [] [] [] Tryz.func11 Tryz.results11 Tryz.ntmps11 (.seq (.reg none [2]) .nop) [(y26,.ro),(y28,.ro)] [(y4,.ro),(y2,.ro)] [] [] (p11 n)
def p71(v1:Nat)(v2:(((List ((List Int)×Int×(List Int)))×(List (List Int))×(List (Int×(List Int)×(List (Bool×Int))×Bool×Int×(List Int)))×(List (Int×(List Int)))×Int)×(List (Bool×Int))×(List Int)×Unit)):T12:=ap (λ(v3:T8)=>λv4=>bif decide (v3.2.2.1<(v2.2.1.length:Int))then if 0<=v3.2.2.1 then(match v2.2.1[(v3.2.2.1).toNat]? with|some v5=>aj (λ(v6:T2)=>v4 ((),if 1073741824<v6.2.1 then(1073741824:Int)else v6.2.1,IntKind.wrap .i64 (v3.2.2.1+1),())) (λv7=>bif !v5.1 then v7 ((),IntKind.wrap .i64 (v3.2.1+1),())else aj (λ(v8:T3)=>bif v8.2.1 then some ((-1,()),())else if 0<=v5.2 then(match v2.2.2.1[(v5.2).toNat]? with|some v9=>v7 ((),IntKind.wrap .i64 (v3.2.1+v9),())|none=>none)else none) (λv10=>bif decide (v5.2<0)then v10 ((),true,())else bif decide ((v2.2.2.1.length:Int)<=v5.2)then v10 ((),true,())else if 0<=v5.2 then(match v2.2.2.1[(v5.2).toNat]? with|some v11=>v10 ((),decide (v11<0),())|none=>none)else none))|none=>none)else none else some ((v3.2.1,()),())) v1 ((),0,0,())
def F71(n:Nat):Fb 71:=fb n [] [] [] [] Tryz.func71 Tryz.results71 Tryz.ntmps71 (.seq (.reg none [3]) (.seq .nop (.seq (.seq .nop (.block none (.loop ⟨[],[.val 7 y2,.val 8 y2],[1,2]⟩ (.seq .nop (.seq (.block none (.seq (.reg none [9]) (.seq (.block none (.seq .nop (.cond (some ⟨[],[.val 7 y2],[1,2,8]⟩) .nop (.seq (.reg (some ⟨[],[.val 33 y4],[1,2,7,8,9]⟩) []) .nop)))) .nop))) .nop))))) .nop))) [(y26,.ro),(y62,.ro),(y28,.ro)] A17 [] [] (p71 n)
def p39(v1:Nat)(v2:T77):T30:=ap (λ(v3:T17)=>λv4=>bif decide (v3.2.2.1<(v2.1.2.1.length:Int))then if(List.length v3.2.1+List.length ([-1]:List Int))*8<=140737488355328 then if List.length v3.2.1+List.length ([-1]:List Int)<=9223372036854775807 then v4 ((),v3.2.1++([-1]:List Int),IntKind.wrap .i64 (v3.2.2.1+1),())else none else none else ap (λ(v5:T28)=>λv6=>bif v5.2.1 then ap (λ(v7:T39)=>λv8=>bif decide (v7.2.2.1<(v2.1.2.2.1.length:Int))then aj (λ(v9:T28)=>v8 ((v9.1.1,()),v9.2.1,IntKind.wrap .i64 (v7.2.2.1+1),())) (λv10=>if 0<=v7.2.2.1 then(match v2.1.2.2.1[(v7.2.2.1).toNat]? with|some v11=>aj (λ(v12:T28)=>bif v12.2.1 then v10 ((v12.1.1,()),v7.2.1,())else ae (p71 v1 (v2.1,v11.2.2.1,v12.1.1,())) (λ(v13:T5)=>aj (λ(v14:T28)=>aj (λ(v15:T28)=>v10 ((v15.1.1,()),v15.2.1,())) (λv16=>bif v14.2.1 then if 0<=v11.1 then(match v14.1.1[(v11.1).toNat]? with|some v17=>if 0<=v11.1 then(match v14.1.1[(v11.1).toNat]? with|some v18=>v16 ((List.set v14.1.1 (v11.1).toNat v13.1.1,()),true,())|none=>none)else none|none=>none)else none else v16 ((v14.1.1,()),v7.2.1,()))) (λv19=>bif decide (0<=v13.1.1)then if 0<=v11.1 then(match v12.1.1[(v11.1).toNat]? with|some v20=>bif decide (v20<0)then v19 ((v12.1.1,()),true,())else if 0<=v11.1 then(match v12.1.1[(v11.1).toNat]? with|some v21=>v19 ((v12.1.1,()),decide (v13.1.1<v21),())|none=>none)else none|none=>none)else none else v19 ((v12.1.1,()),false,())))) (λv22=>bif decide (v11.1<0)then v22 ((v7.1.1,()),true,())else v22 ((v7.1.1,()),decide ((v7.1.1.length:Int)<=v11.1),()))|none=>none)else none)else v6 ((v7.1.1,()),v7.2.1,())) v1 ((v5.1.1,()),false,0,())else some ((v5.1.1,()),())) v1 ((v3.2.1,()),true,())) v1 ((),([]:List Int),0,())
def F39(n:Nat):Fb 39:=fb n [⟨_,F71 n⟩] [] [] [] Tryz.func39 Tryz.results39 Tryz.ntmps39 (.seq (.reg none [1]) (.seq .nop (.seq (.seq .nop (.block none (.loop ⟨[],[.hdr 3 31 y28 (.own .ro),.val 4 y2],[1]⟩ .nop))) (.seq .nop (.seq (.block none (.loop ⟨[(31,y28,.own .ro)],[.val 5 y4],[1,3]⟩ (.seq .nop (.block none (.seq .nop (.seq .nop (.block none (.loop ⟨[(31,y28,.own .ro)],[.val 5 y4,.val 6 y2],[1,3]⟩ (.seq .nop (.seq (.block (some ⟨[(31,y28,.own .ro)],[.val 5 y4],[1,3,6]⟩) (.seq (.reg none [7]) (.seq (.seq (.reg (some ⟨[(31,y28,.own .ro)],[.val 41 y4],[1,3,5,6,7]⟩) []) .nop) (.seq .nop (.seq (.reg (some ⟨[(31,y28,.own .ro)],[.val 65 y4],[1,3,5,6,7,8]⟩) []) (.cond (some ⟨[(31,y28,.own .ro)],[.val 5 y4],[1,3,6]⟩) .nop .nop)))))) .nop)))))))))) .nop))))) A15 [(y28,.ro)] [] [] (p39 n)
def p40(v1:Nat)(v2:(((List ((List Int)×Int×(List Int)))×(List (List Int))×(List (Int×(List Int)×(List (Bool×Int))×Bool×Int×(List Int)))×(List (Int×(List Int)))×Int)×(List Int)×Int×Int×Unit)):T14:=ap (λ(v3:T2)=>λv4=>bif decide (v3.2.1<(v2.1.2.2.1.length:Int))then if 0<=v3.2.1 then(match v2.1.2.2.1[(v3.2.1).toNat]? with|some v5=>ap (λ(v6:T2)=>λv7=>aj (λ(v8:T3)=>bif v8.2.1 then if(0:Int)<=(0:Int)/\(0:Int)<=v6.2.1/\v6.2.1<=(v5.2.2.1.length:Int)then if(List.length ([]:List (Bool×Int))+List.length (aY v5.2.2.1 (0:Int) v6.2.1))*16<=140737488355328 then if List.length ([]:List (Bool×Int))+List.length (aY v5.2.2.1 (0:Int) v6.2.1)<=9223372036854775807 then if 0<=(IntKind.wrap .i64 (v6.2.1+1))/\(IntKind.wrap .i64 (v6.2.1+1))<=(v5.2.2.1.length:Int)/\(v5.2.2.1.length:Int)<=(v5.2.2.1.length:Int)then if(List.length (([]:List (Bool×Int))++(aY v5.2.2.1 (0:Int) v6.2.1))+List.length (aY v5.2.2.1 (IntKind.wrap .i64 (v6.2.1+1)) (v5.2.2.1.length:Int)))*16<=140737488355328 then if List.length (([]:List (Bool×Int))++(aY v5.2.2.1 (0:Int) v6.2.1))+List.length (aY v5.2.2.1 (IntKind.wrap .i64 (v6.2.1+1)) (v5.2.2.1.length:Int))<=9223372036854775807 then aj (λ(v9:T3)=>bif v9.2.1 then some ((true,()),())else v7 ((),IntKind.wrap .i64 (v6.2.1+1),())) (λv10=>if 0<=v6.2.1 then(match v5.2.2.1[(v6.2.1).toNat]? with|some v11=>bif v11.1 then if 0<=v6.2.1 then(match v5.2.2.1[(v6.2.1).toNat]? with|some v12=>bif decide (v12.2=v2.2.2.2.1)then ae (p71 v1 (v2.1,(([]:List (Bool×Int))++(aY v5.2.2.1 (0:Int) v6.2.1))++(aY v5.2.2.1 (IntKind.wrap .i64 (v6.2.1+1)) (v5.2.2.1.length:Int)),v2.2.1,())) (λ(v13:T5)=>v10 ((),decide (v13.1.1=0),()))else v10 ((),false,())|none=>none)else none else v10 ((),false,())|none=>none)else none)else none else none else none else none else none else none else v4 ((),IntKind.wrap .i64 (v3.2.1+1),())) (λv14=>bif decide (v6.2.1<(v5.2.2.1.length:Int))then v14 ((),decide (v5.1=v2.2.2.1),())else v14 ((),false,()))) v1 ((),0,())|none=>none)else none else some ((false,()),())) v1 ((),0,())
def F40(n:Nat):Fb 40:=fb n [⟨_,F71 n⟩] [] [] [] Tryz.func40 Tryz.results40 Tryz.ntmps40 (.seq (.reg none [4]) (.seq (.seq .nop (.block none (.loop ⟨[],[.val 9 y2],[1,2,3,4]⟩ (.seq .nop (.seq (.block none (.seq (.reg none [10]) (.seq .nop (.block none (.loop ⟨[],[.val 11 y2],[1,2,3,4,9,10]⟩ (.seq (.seq (.reg (some ⟨[],[.val 35 y4],[1,2,3,4,9,10,11]⟩) []) .nop) (.seq (.block none (.seq .nop (.seq (.reg (some ⟨[],[.val 72 y4],[1,2,3,4,9,10,11]⟩) []) .nop))) .nop))))))) .nop))))) .nop)) [(y26,.ro),(y28,.ro),(y2,.ro),(y2,.ro)] A16 [] [] (p40 n)
def p14(v1:Nat)(v2:T77):T12:=ae (p39 v1 (v2.1,())) (λ(v3:T13)=>ap (λ(v4:(Unit×(List (List Bool))×Int×Unit))=>λv5=>bif decide (v4.2.2.1<(v2.1.2.1.length:Int))then if 0<=(v2.1.2.1.length:Int)/\(v2.1.2.1.length:Int)<=(v2.1.2.1.length:Int)then if(v2.1.2.1.length:Int).toNat*1<=140737488355328 then ap (λ(v6:(((List (List Bool))×(List Bool)×Unit)×Int×Unit))=>λv7=>bif decide (v6.2.1<(v2.1.2.1.length:Int))then ae (p40 v1 (v2.1,v3.1.1,v4.2.2.1,v6.2.1,())) (λ(v8:T6)=>if 0<=v6.2.1 then(match v6.1.2.1[(v6.2.1).toNat]? with|some v9=>if 0<=v6.2.1 then(match v6.1.2.1[(v6.2.1).toNat]? with|some v10=>v7 ((v6.1.1,List.set v6.1.2.1 (v6.2.1).toNat v8.1.1,()),IntKind.wrap .i64 (v6.2.1+1),())|none=>none)else none|none=>none)else none)else if(List.length v6.1.1+List.length ([v6.1.2.1]:List (List Bool)))*24<=140737488355328 then if List.length v6.1.1+List.length ([v6.1.2.1]:List (List Bool))<=9223372036854775807 then v5 ((),v6.1.1++([v6.1.2.1]:List (List Bool)),IntKind.wrap .i64 (v4.2.2.1+1),())else none else none) v1 ((v4.2.1,List.replicate (v2.1.2.1.length:Int).toNat false,()),0,())else none else none else ap (λ(v11:T46)=>λv12=>bif decide (v11.2.1<(v2.1.2.1.length:Int))then ap (λ(v13:T46)=>λv14=>bif decide (v13.2.1<(v2.1.2.1.length:Int))then ap (λ(v15:T46)=>λv16=>bif decide (v15.2.1<(v2.1.2.1.length:Int))then aj (λ(v17:(((List (List Bool))×Unit)×Unit))=>v16 ((v17.1.1,()),IntKind.wrap .i64 (v15.2.1+1),())) (λv18=>if 0<=v13.2.1 then(match v15.1.1[(v13.2.1).toNat]? with|some v19=>if 0<=v13.2.1 then(match v15.1.1[(v13.2.1).toNat]? with|some v20=>if 0<=v15.2.1 then(match v20[(v15.2.1).toNat]? with|some v21=>bif v21 then if 0<=v15.2.1 then(match v19[(v15.2.1).toNat]? with|some v22=>if 0<=v13.2.1 then(match v15.1.1[(v13.2.1).toNat]? with|some v23=>if 0<=v15.2.1 then(match v23[(v15.2.1).toNat]? with|some v24=>v18 ((List.set v15.1.1 (v13.2.1).toNat (List.set v23 (v15.2.1).toNat true),()),())|none=>none)else none|none=>none)else none|none=>none)else none else if 0<=v13.2.1 then(match v15.1.1[(v13.2.1).toNat]? with|some v25=>if 0<=v11.2.1 then(match v25[(v11.2.1).toNat]? with|some v26=>bif v26 then if 0<=v11.2.1 then(match v15.1.1[(v11.2.1).toNat]? with|some v27=>if 0<=v15.2.1 then(match v27[(v15.2.1).toNat]? with|some v28=>if 0<=v15.2.1 then(match v19[(v15.2.1).toNat]? with|some v29=>if 0<=v13.2.1 then(match v15.1.1[(v13.2.1).toNat]? with|some v30=>if 0<=v15.2.1 then(match v30[(v15.2.1).toNat]? with|some v31=>v18 ((List.set v15.1.1 (v13.2.1).toNat (List.set v30 (v15.2.1).toNat v28),()),())|none=>none)else none|none=>none)else none|none=>none)else none|none=>none)else none|none=>none)else none else if 0<=v15.2.1 then(match v19[(v15.2.1).toNat]? with|some v32=>if 0<=v13.2.1 then(match v15.1.1[(v13.2.1).toNat]? with|some v33=>if 0<=v15.2.1 then(match v33[(v15.2.1).toNat]? with|some v34=>v18 ((List.set v15.1.1 (v13.2.1).toNat (List.set v33 (v15.2.1).toNat false),()),())|none=>none)else none|none=>none)else none|none=>none)else none|none=>none)else none|none=>none)else none|none=>none)else none|none=>none)else none|none=>none)else none)else v14 ((v15.1.1,()),IntKind.wrap .i64 (v13.2.1+1),())) v1 ((v13.1.1,()),0,())else v12 ((v13.1.1,()),IntKind.wrap .i64 (v11.2.1+1),())) v1 ((v11.1.1,()),0,())else ap (λ(v35:T46)=>λv36=>bif decide (v35.2.1<(v2.1.2.1.length:Int))then if 0<=v35.2.1 then(match v35.1.1[(v35.2.1).toNat]? with|some v37=>if 0<=v35.2.1 then(match v37[(v35.2.1).toNat]? with|some v38=>bif v38 then some ((v35.2.1,()),())else v36 ((v35.1.1,()),IntKind.wrap .i64 (v35.2.1+1),())|none=>none)else none|none=>none)else none else some ((-1,()),())) v1 ((v11.1.1,()),0,())) v1 ((v4.2.1,()),0,())) v1 ((),([]:List (List Bool)),0,()))
def F14(n:Nat):Fb 14:=fb n [⟨_,F39 n⟩,⟨_,F40 n⟩] [14] [] [] Tryz.func14 Tryz.results14 Tryz.ntmps14 (.seq (.reg none [1]) (.seq .nop (.seq .nop (.seq .nop (.seq (.seq .nop (.block none (.loop ⟨[],[.hdr 5 47 pD (.own (.own .ro)),.val 6 y2],[1,3,4]⟩ (.seq .nop (.seq (.block none (.seq .nop (.seq (.seq .nop (.block none (.loop ⟨[(47,pD,.own (.own .ro)),(192,cd,.own .ro)],[.val 8 y2],[1,3,4,5,6,7]⟩ .nop))) .nop))) .nop))))) (.seq (.seq .nop (.block none (.loop ⟨[(47,pD,.own (.own .ro))],[.val 9 y2],[4,5]⟩ (.seq .nop (.seq (.block none (.seq .nop (.block none (.loop ⟨[(47,pD,.own (.own .ro))],[.val 10 y2],[4,5,9]⟩ (.seq .nop (.seq (.block none (.seq .nop (.block none (.loop ⟨[(47,pD,.own (.own .ro))],[.val 11 y2],[4,5,9,10]⟩ (.seq .nop (.seq (.block none (.reg (some ⟨[(47,pD,.own (.own .ro))],[],[4,5,9,10,11]⟩) [])) .nop)))))) .nop)))))) .nop))))) (.seq (.seq .nop (.block none (.loop ⟨[(47,pD,.own (.own .ro))],[.val 12 y2],[4,5]⟩ .nop))) .nop))))))) A15 A17 [] [] (p14 n)
def p41(v1:Nat)(v2:((List (List (List Int)))×(List (Bool×Int))×(List Int)×Int×Int×Int×Unit)):T12:=if 0<=(IntKind.wrap .i64 (v2.2.2.2.2.1+1))/\(IntKind.wrap .i64 (v2.2.2.2.2.1+1))<=(IntKind.wrap .i64 (v2.2.2.2.2.1+1))then if(IntKind.wrap .i64 (v2.2.2.2.2.1+1)).toNat*8<=140737488355328 then if(0:Int)<=(0:Int)then(match(List.replicate (IntKind.wrap .i64 (v2.2.2.2.2.1+1)).toNat (0:Int))[(0:Int).toNat]? with|some v3=>if(0:Int)<=(0:Int)then(match(List.replicate (IntKind.wrap .i64 (v2.2.2.2.2.1+1)).toNat (0:Int))[(0:Int).toNat]? with|some v4=>ap (λ(v5:T17)=>λv6=>bif decide (v5.2.2.1<(v2.2.1.length:Int))then if 0<=(IntKind.wrap .i64 (v2.2.2.2.2.1+1))/\(IntKind.wrap .i64 (v2.2.2.2.2.1+1))<=(IntKind.wrap .i64 (v2.2.2.2.2.1+1))then if(IntKind.wrap .i64 (v2.2.2.2.2.1+1)).toNat*8<=140737488355328 then ap (λ(v7:T48)=>λv8=>bif decide (v7.2.1<=v2.2.2.2.2.1)then aj (λ(v9:T40)=>v8 ((v9.1.1,v9.1.2.1,()),IntKind.wrap .i64 (v7.2.1+1),())) (λv10=>if 0<=v7.2.1 then(match v7.1.1[(v7.2.1).toNat]? with|some v11=>bif decide (v11=0)then v10 ((v7.1.1,v7.1.2.1,()),())else if 0<=v5.2.2.1 then(match v2.2.1[(v5.2.2.1).toNat]? with|some v12=>bif !v12.1 then aj (λ(v13:T52)=>aj (λ(v14:T40)=>v10 ((v14.1.1,v14.1.2.1,()),())) (λv15=>bif v13.2.1 then if 0<=(IntKind.wrap .i64 (v7.2.1+1))then(match v13.1.2.1[(IntKind.wrap .i64 (v7.2.1+1)).toNat]? with|some v16=>if 0<=v7.2.1 then(match v13.1.1[(v7.2.1).toNat]? with|some v17=>if 0<=(IntKind.wrap .i64 (v7.2.1+1))then(match v13.1.2.1[(IntKind.wrap .i64 (v7.2.1+1)).toNat]? with|some v18=>if 0<=(IntKind.wrap .i64 (v7.2.1+1))then(match v13.1.2.1[(IntKind.wrap .i64 (v7.2.1+1)).toNat]? with|some v19=>v15 ((v13.1.1,List.set v13.1.2.1 (IntKind.wrap .i64 (v7.2.1+1)).toNat (if v2.2.2.2.2.2.1<(IntKind.wrap .i64 (v16+v17))then v2.2.2.2.2.2.1 else IntKind.wrap .i64 (v16+v17)),()),())|none=>none)else none|none=>none)else none|none=>none)else none|none=>none)else none else v15 ((v13.1.1,v13.1.2.1,()),()))) (λv20=>bif decide (v7.2.1<v2.2.2.2.2.1)then if 0<=(IntKind.wrap .i64 (v2.2.2.2.1+v7.2.1))then(match v2.2.2.1[(IntKind.wrap .i64 (v2.2.2.2.1+v7.2.1)).toNat]? with|some v21=>if 0<=v5.2.2.1 then(match v2.2.1[(v5.2.2.1).toNat]? with|some v22=>v20 ((v7.1.1,v7.1.2.1,()),decide (v21=v22.2),())|none=>none)else none|none=>none)else none else v20 ((v7.1.1,v7.1.2.1,()),false,()))else ap (λ(v23:T48)=>λv24=>bif decide (v23.2.1<=v2.2.2.2.2.1)then if 0<=v23.2.1 then(match v23.1.2.1[(v23.2.1).toNat]? with|some v25=>if 0<=v7.2.1 then(match v23.1.1[(v7.2.1).toNat]? with|some v26=>if 0<=v5.2.2.1 then(match v2.2.1[(v5.2.2.1).toNat]? with|some v27=>if 0<=v27.2 then(match v2.1[(v27.2).toNat]? with|some v28=>if 0<=(IntKind.wrap .i64 (v2.2.2.2.1+v7.2.1))then(match v28[(IntKind.wrap .i64 (v2.2.2.2.1+v7.2.1)).toNat]? with|some v29=>if 0<=(IntKind.wrap .i64 (v23.2.1-v7.2.1))then(match v29[(IntKind.wrap .i64 (v23.2.1-v7.2.1)).toNat]? with|some v30=>if 0<=v23.2.1 then(match v23.1.2.1[(v23.2.1).toNat]? with|some v31=>if 0<=v23.2.1 then(match v23.1.2.1[(v23.2.1).toNat]? with|some v32=>v24 ((v23.1.1,List.set v23.1.2.1 (v23.2.1).toNat (if v2.2.2.2.2.2.1<(IntKind.wrap .i64 (v25+(if v2.2.2.2.2.2.1<(IntKind.wrap .i64 (v26*v30))then v2.2.2.2.2.2.1 else IntKind.wrap .i64 (v26*v30))))then v2.2.2.2.2.2.1 else IntKind.wrap .i64 (v25+(if v2.2.2.2.2.2.1<(IntKind.wrap .i64 (v26*v30))then v2.2.2.2.2.2.1 else IntKind.wrap .i64 (v26*v30)))),()),IntKind.wrap .i64 (v23.2.1+1),())|none=>none)else none|none=>none)else none|none=>none)else none|none=>none)else none|none=>none)else none|none=>none)else none|none=>none)else none|none=>none)else none else v10 ((v23.1.1,v23.1.2.1,()),())) v1 ((v7.1.1,v7.1.2.1,()),v7.2.1,())|none=>none)else none|none=>none)else none)else v6 ((),v7.1.2.1,IntKind.wrap .i64 (v5.2.2.1+1),())) v1 ((v5.2.1,List.replicate (IntKind.wrap .i64 (v2.2.2.2.2.1+1)).toNat (0:Int),()),0,())else none else none else if 0<=v2.2.2.2.2.1 then(match v5.2.1[(v2.2.2.2.2.1).toNat]? with|some v33=>some ((v33,()),())|none=>none)else none) v1 ((),List.set (List.replicate (IntKind.wrap .i64 (v2.2.2.2.2.1+1)).toNat (0:Int)) (0:Int).toNat (1:Int),0,())|none=>none)else none|none=>none)else none else none else none
def F41(n:Nat):Fb 41:=fb n [] [] [] [] Tryz.func41 Tryz.results41 Tryz.ntmps41 (.seq .nop (.seq .nop (.seq .nop (.seq (.seq .nop (.block none (.loop ⟨[],[.hdr 13 111 y28 (.own .ro),.val 14 y2],[0,1,2,3,4,5]⟩ (.seq .nop (.seq (.block none (.seq .nop (.seq (.seq .nop (.block none (.loop ⟨[(111,y28,.own .ro),(248,y28,.own .ro)],[.val 16 y2],[0,1,2,3,4,5,13,14,15]⟩ (.seq .nop (.seq (.block (some ⟨[(111,y28,.own .ro),(248,y28,.own .ro)],[],[0,1,2,3,4,5,13,14,15,16]⟩) (.seq .nop (.seq (.seq .nop (.cond none (.seq (.seq (.reg (some ⟨[(111,y28,.own .ro),(248,y28,.own .ro)],[.val 64 y4],[0,1,2,3,4,5,13,14,15,16]⟩) []) (.cond (some ⟨[(111,y28,.own .ro),(248,y28,.own .ro)],[],[0,1,2,3,4,5,13,14,15,16]⟩) .nop .nop)) .nop) .nop)) (.seq .nop (.block none (.loop ⟨[(111,y28,.own .ro),(248,y28,.own .ro)],[.val 17 y2],[0,1,2,3,4,5,13,14,15,16]⟩ .nop)))))) .nop))))) .nop))) .nop))))) .nop)))) [(y40,.ro),(y62,.ro),(y28,.ro),(y2,.ro),(y2,.ro),(y2,.ro)] A17 [] [] (p41 n)
def p15(v1:Nat)(v2:(((List ((List Int)×Int×(List Int)))×(List (List Int))×(List (Int×(List Int)×(List (Bool×Int))×Bool×Int×(List Int)))×(List (Int×(List Int)))×Int)×(List Int)×Int×Unit)):Option (((List (List (List Int)))×Unit)×Unit):=ap (λ(v3:(Unit×(List (List (List Int)))×Int×Unit))=>λv4=>bif decide (v3.2.2.1<(v2.1.2.1.length:Int))then ap (λ(v5:(((List (List (List Int)))×Unit)×(List (List Int))×Int×Unit))=>λv6=>bif decide (v5.2.2.1<=(v2.2.1.length:Int))then if 0<=(IntKind.wrap .i64 ((v2.2.1.length:Int)+1))/\(IntKind.wrap .i64 ((v2.2.1.length:Int)+1))<=(IntKind.wrap .i64 ((v2.2.1.length:Int)+1))then if(IntKind.wrap .i64 ((v2.2.1.length:Int)+1)).toNat*8<=140737488355328 then if(List.length v5.2.1+List.length ([(List.replicate (IntKind.wrap .i64 ((v2.2.1.length:Int)+1)).toNat (0:Int))]:List (List Int)))*24<=140737488355328 then if List.length v5.2.1+List.length ([(List.replicate (IntKind.wrap .i64 ((v2.2.1.length:Int)+1)).toNat (0:Int))]:List (List Int))<=9223372036854775807 then v6 ((v5.1.1,()),v5.2.1++([(List.replicate (IntKind.wrap .i64 ((v2.2.1.length:Int)+1)).toNat (0:Int))]:List (List Int)),IntKind.wrap .i64 (v5.2.2.1+1),())else none else none else none else none else if(List.length v5.1.1+List.length ([v5.2.1]:List (List (List Int))))*24<=140737488355328 then if List.length v5.1.1+List.length ([v5.2.1]:List (List (List Int)))<=9223372036854775807 then v4 ((),v5.1.1++([v5.2.1]:List (List (List Int))),IntKind.wrap .i64 (v3.2.2.1+1),())else none else none) v1 ((v3.2.1,()),([]:List (List Int)),0,())else ap (λ(v7:T55)=>λv8=>bif decide (v7.2.1<=(v2.2.1.length:Int))then ap (λ(v9:T55)=>λv10=>bif decide (v9.2.1<=(v2.1.2.1.length:Int))then ap (λ(v11:T55)=>λv12=>bif decide ((IntKind.wrap .i64 (v11.2.1+v7.2.1))<=(v2.2.1.length:Int))then ap (λ(v13:T55)=>λv14=>bif decide (v13.2.1<(v2.1.2.1.length:Int))then ap (λ(v15:(((List (List (List Int)))×Unit)×Int×Int×Unit))=>λv16=>bif decide (v15.2.2.1<(v2.1.2.2.1.length:Int))then if 0<=v15.2.2.1 then(match v2.1.2.2.1[(v15.2.2.1).toNat]? with|some v17=>aj (λ(v18:T55)=>v16 ((v18.1.1,()),v18.2.1,IntKind.wrap .i64 (v15.2.2.1+1),())) (λv19=>bif decide (v17.1=v13.2.1)then if 0<=v15.2.2.1 then(match v2.1.2.2.1[(v15.2.2.1).toNat]? with|some v20=>ae (p41 v1 (v15.1.1,v20.2.2.1,v2.2.1,v11.2.1,v7.2.1,v2.2.2.1,())) (λ(v21:T5)=>v19 ((v15.1.1,()),if v2.2.2.1<(IntKind.wrap .i64 (v15.2.1+v21.1.1))then v2.2.2.1 else IntKind.wrap .i64 (v15.2.1+v21.1.1),()))|none=>none)else none else v19 ((v15.1.1,()),v15.2.1,()))|none=>none)else none else if 0<=v13.2.1 then(match v15.1.1[(v13.2.1).toNat]? with|some v22=>if 0<=v11.2.1 then(match v22[(v11.2.1).toNat]? with|some v23=>if 0<=v7.2.1 then(match v23[(v7.2.1).toNat]? with|some v24=>if 0<=v13.2.1 then(match v15.1.1[(v13.2.1).toNat]? with|some v25=>if 0<=v11.2.1 then(match v25[(v11.2.1).toNat]? with|some v26=>if 0<=v7.2.1 then(match v26[(v7.2.1).toNat]? with|some v27=>v14 ((List.set v15.1.1 (v13.2.1).toNat (List.set v25 (v11.2.1).toNat (List.set v26 (v7.2.1).toNat v15.2.1)),()),IntKind.wrap .i64 (v13.2.1+1),())|none=>none)else none|none=>none)else none|none=>none)else none|none=>none)else none|none=>none)else none|none=>none)else none) v1 ((v13.1.1,()),0,0,())else v12 ((v13.1.1,()),IntKind.wrap .i64 (v11.2.1+1),())) v1 ((v11.1.1,()),0,())else v10 ((v11.1.1,()),IntKind.wrap .i64 (v9.2.1+1),())) v1 ((v9.1.1,()),0,())else v8 ((v9.1.1,()),IntKind.wrap .i64 (v7.2.1+1),())) v1 ((v7.1.1,()),0,())else some ((v7.1.1,()),())) v1 ((v3.2.1,()),0,())) v1 ((),([]:List (List (List Int))),0,())
def F15(n:Nat):Fb 15:=fb n [⟨_,F41 n⟩] [] [] [] Tryz.func15 Tryz.results15 Tryz.ntmps15 (.seq (.reg none [3]) (.seq .nop (.seq (.seq .nop (.block none (.loop ⟨[],[.hdr 7 63 y40 (.own (.own (.own .ro))),.val 8 y2],[1,2,3]⟩ (.seq .nop (.seq (.block none (.seq .nop (.seq (.seq .nop (.block none (.loop ⟨[(63,y40,.own (.own (.own .ro)))],[.hdr 9 79 y42 (.own (.own .ro)),.val 10 y2],[1,2,3,7,8]⟩ .nop))) .nop))) .nop))))) (.seq (.seq .nop (.block none (.loop ⟨[(63,y40,.own (.own (.own .ro)))],[.val 11 y2],[1,2,3,7]⟩ (.seq .nop (.seq (.block none (.seq .nop (.block none (.loop ⟨[(63,y40,.own (.own (.own .ro)))],[.val 12 y2],[1,2,3,7,11]⟩ (.seq .nop (.seq (.block none (.seq .nop (.block none (.loop ⟨[(63,y40,.own (.own (.own .ro)))],[.val 13 y2],[1,2,3,7,11,12]⟩ (.seq .nop (.seq (.block none (.seq .nop (.block none (.loop ⟨[(63,y40,.own (.own (.own .ro)))],[.val 14 y2],[1,2,3,7,11,12,13]⟩ (.seq .nop (.seq (.block none (.seq .nop (.seq (.seq .nop (.block none (.loop ⟨[(63,y40,.own (.own (.own .ro)))],[.val 15 y2,.val 16 y2],[1,2,3,7,11,12,13,14]⟩ (.seq .nop (.seq (.block none (.seq .nop (.cond (some ⟨[(63,y40,.own (.own (.own .ro)))],[.val 15 y2],[1,2,3,7,11,12,13,14,16]⟩) .nop .nop))) .nop))))) .nop))) .nop)))))) .nop)))))) .nop)))))) .nop))))) .nop)))) [(y26,.ro),(y28,.ro),(y2,.ro)] [(y40,.ro)] [] [] (p15 n)
def p3(v1:Nat)(v2:(((List ((List Int)×Int×(List Int)))×(List (List Int))×(List (Int×(List Int)×(List (Bool×Int))×Bool×Int×(List Int)))×(List (Int×(List Int)))×Int)×(List Int)×(List Int)×Unit)):T14:=ae (p7 v1 ()) (λ(v3:T6)=>bif !v3.1.1 then some ((false,()),())else aj (λ(v4:T3)=>bif v4.2.1 then some ((true,()),())else if(0:Int)<=(0:Int)then(match v2.2.2.1[(0:Int).toNat]? with|some v5=>if(0:Int)<=(1:Int)then(match v2.2.2.1[(1:Int).toNat]? with|some v6=>ae (p10 v1 (v2.1,v5,v2.2.1,v6,())) (λ(v7:T10)=>ae (p11 v1 (v2.1,v2.2.1,())) (λ(v8:T11)=>ae (p12 v1 (v2.1,v2.2.1,())) (λ(v9:T11)=>aj (λ(v10:T3)=>bif v10.2.1 then aj (λ(v11:T3)=>some ((v11.2.1,()),())) (λv12=>bif decide (v7.1.1=0)then v12 ((),decide (v7.1.2.1=6),())else v12 ((),false,()))else ae (p13 v1 (v2.1,())) (λ(v13:((Int×Int×Int×Unit)×Unit))=>aj (λ(v14:T3)=>bif v14.2.1 then aj (λ(v15:T3)=>some ((v15.2.1,()),())) (λv16=>bif decide (v7.1.1=0)then bif decide (v7.1.2.1=1)then bif decide (v8.1.2.1=1)then bif decide (v9.1.2.1=1)then bif !v8.1.1 then v16 ((),!v9.1.1,())else v16 ((),false,())else v16 ((),false,())else v16 ((),false,())else v16 ((),false,())else v16 ((),false,()))else ae (p15 v1 (v2.1,v2.2.1,if v6<(2:Int)then(2:Int)else v6,())) (λ(v17:(((List (List (List Int)))×Unit)×Unit))=>aj (λ(v18:T3)=>bif v18.2.1 then some ((false,()),())else aj (λ(v19:T3)=>bif v19.2.1 then aj (λ(v20:T3)=>some ((v20.2.1,()),())) (λv21=>bif decide (v7.1.1=0)then v21 ((),decide (v7.1.2.1=1),())else v21 ((),false,()))else aj (λ(v22:T3)=>some ((v22.2.1,()),())) (λv23=>bif decide (v7.1.2.1=0)then if 0<=v5 then(match v17.1.1[(v5).toNat]? with|some v24=>if(0:Int)<=(0:Int)then(match v24[(0:Int).toNat]? with|some v25=>if 0<=(v2.2.1.length:Int)then(match v25[(v2.2.1.length:Int).toNat]? with|some v26=>v23 ((),decide (v7.1.1=(if v6<v26 then v6 else v26)),())|none=>none)else none|none=>none)else none|none=>none)else none else v23 ((),false,()))) (λv27=>bif decide (v5<0)then v27 ((),true,())else v27 ((),decide ((v2.1.2.1.length:Int)<=v5),()))) (λv28=>bif !(decide (v8.1.2.1=0))then v28 ((),true,())else bif !(decide (v9.1.2.1=0))then v28 ((),true,())else if 0<=v2.1.2.2.2.2 then(match v17.1.1[(v2.1.2.2.2.2).toNat]? with|some v29=>if(0:Int)<=(0:Int)then(match v29[(0:Int).toNat]? with|some v30=>if 0<=(v2.2.1.length:Int)then(match v30[(v2.2.1.length:Int).toNat]? with|some v31=>bif !(v8.1.1 == (decide (0<v31)))then v28 ((),true,())else if 0<=v2.1.2.2.2.2 then(match v17.1.1[(v2.1.2.2.2.2).toNat]? with|some v32=>if(0:Int)<=(0:Int)then(match v32[(0:Int).toNat]? with|some v33=>if 0<=(v2.2.1.length:Int)then(match v33[(v2.2.1.length:Int).toNat]? with|some v34=>v28 ((),!(v9.1.1 == (decide (v34=1))),())|none=>none)else none|none=>none)else none|none=>none)else none|none=>none)else none|none=>none)else none|none=>none)else none))) (λv35=>bif !(decide (v13.1.1=0))then v35 ((),true,())else ae (p14 v1 (v2.1,())) (λ(v36:T5)=>v35 ((),decide (0<=v36.1.1),()))))) (λv37=>bif decide (40<(v2.2.1.length:Int))then v37 ((),true,())else bif decide (v6<1)then v37 ((),true,())else v37 ((),decide (1000<v6),())))))|none=>none)else none|none=>none)else none) (λv38=>ae (p8 v1 (v2.1,())) (λ(v39:T6)=>bif !v39.1.1 then v38 ((),true,())else bif decide (12<(v2.1.2.2.1.length:Int))then v38 ((),true,())else bif decide (8<(v2.2.1.length:Int))then bif decide ((v2.2.1.length:Int)<=40)then v38 ((),true,())else ae (p9 v1 (v2.1,())) (λ(v40:T6)=>v38 ((),!v40.1.1,()))else ae (p9 v1 (v2.1,())) (λ(v41:T6)=>v38 ((),!v41.1.1,())))))
def F3(n:Nat):Fb 3:=fb n [⟨_,F7 n⟩,⟨_,F8 n⟩,⟨_,F9 n⟩,⟨_,F10 n⟩,⟨_,F11 n⟩,⟨_,F12 n⟩,⟨_,F13 n⟩,⟨_,F14 n⟩,⟨_,F15 n⟩] [125] [] [] Tryz.func3 Tryz.results3 Tryz.ntmps3 (.seq (.reg none [3,5]) (.seq .nop (.seq (.seq (.reg (some ⟨[],[.val 44 y4],[1,3,5]⟩) []) .nop) (.seq .nop (.seq .nop (.seq .nop (.seq .nop (.seq (.seq (.reg (some ⟨[],[.val 79 y4],[1,3,7,8,9,10,11,12,13,14]⟩) []) (.cond none (.seq (.reg (some ⟨[],[.val 6 y4],[]⟩) []) .nop) .nop)) (.seq (.seq .nop (.seq (.reg (some ⟨[],[.val 98 y4],[1,3,7,8,9,10,11,12,13,14]⟩) []) (.cond none (.seq (.reg (some ⟨[],[.val 6 y4],[]⟩) []) .nop) .nop))) (.seq .nop (.seq (.seq (.reg (some ⟨[],[.val 163 y4],[1,3,7,8,9,10,18]⟩) []) .nop) (.seq (.seq (.reg (some ⟨[],[.val 172 y4],[1,7,8,9,10,18]⟩) []) (.cond none (.seq (.reg (some ⟨[],[.val 6 y4],[]⟩) []) .nop) .nop)) (.seq (.reg (some ⟨[],[.val 6 y4],[]⟩) []) .nop))))))))))))) [(y26,.ro),(y28,.ro),(y29,.ro)] A16 [] [] (p3 n)
abbrev ok3(n:Nat):=(F3 n).o
end
noncomputable section
theorem bL{A R:Type}(body:A->(A->Option R)->Option R)(n:Nat)(x:A):ap body (n+1) x=body x (ap body n):=rfl
theorem cP{A R:Type}{body:A->(A->Option R)->Option R}(f:Nat->A)(spec:Nat->Option R)(len:Nat)
 (step:∀ j,j<=len->∀ k,(j<len->k (f (j+1))=spec (j+1))->body (f j) k=spec j):∀ n j,j<=len->len-j<n->ap body n (f j)=spec j:=by
 intro n
 induction n with
 |zero=>intro j _ h;omega
 |succ n ih=>
  intro j hj hn
  rw[bL]
  exact step j hj _ (λhlt=>ih (j+1) hlt (by omega))
theorem cU{α A R:Type}{body:A->(A->Option R)->Option R}(l:List α)(ok:α->Bool)(bad after:Option R)(f:Nat->A)
 (step:∀ j,(h:j<l.length)->∀ k,body (f j) k=if ok l[j]=true then k (f (j+1))else bad) (fin:∀ k,body (f l.length) k=after) (n:Nat) (hn:l.length<n):ap body n (f 0)=if l.all ok=true then after else bad:=by
 have:=cP (body:=body) f (λj=>if(l.drop j).all ok=true then after else bad) l.length (λj hj k hk=>by
  rcases Nat.lt_or_ge j l.length with hi|hi
  ·rw[step j hi,hk hi,List.drop_eq_getElem_cons hi,List.all_cons]
   cases ok l[j] <;> simp
  ·have e:j=l.length:=by omega
   rw[e,fin];simp) n 0 (Nat.zero_le _) (by omega)
 rwa [List.drop_zero]at this
theorem Mj{A R:Type}{body:A->(A->Option R)->Option R}(P:Nat->Prop)(len:Nat)(found after:Option R)(f:Nat->A)
 (step:∀ j,j<len->∀ k,(P j->body (f j) k=found)/\(¬P j->body (f j) k=k (f (j+1)))) (fin:∀ k,body (f len) k=after) (n:Nat) (hn:len<n):
 ((∃ j,j<len/\P j)->ap body n (f 0)=found)/\((¬∃ j,j<len/\P j)->ap body n (f 0)=after):=by
 constructor
 ·rintro⟨j,hj,hp⟩
  have key:∀ n i,i<=j->j-i<n->ap body n (f i)=found:=by
   intro n
   induction n with
   |zero=>intro i _ h;omega
   |succ n ih=>
    intro i hi hlt
    rw[bL]
    by_cases hpi:P i
    ·exact(step i (by omega) _).1 hpi
    ·rw[(step i (by omega) _).2 hpi]
     have hne:i≠j:=λe=>hpi (e ▸ hp)
     exact ih (i+1) (by omega) (by omega)
  exact key n 0 (Nat.zero_le _) (by omega)
 ·intro hno
  exact cP (body:=body) f (λ_=>after) len (λi hi k hk=>by
   rcases Nat.lt_or_ge i len with h|h
   ·rw[(step i h k).2 (λhp=>hno ⟨i,h,hp⟩)];exact hk h
   ·have e:i=len:=by omega
    rw[e];exact fin k) n 0 (Nat.zero_le _) (by omega)
theorem Kf{A R:Type}{body:A->(A->Option R)->Option R}(P:Nat->Prop)(len:Nat)(r:Option R)(f:Nat->A)
 (step:∀ j,j<len->∀ k,(P j->body (f j) k=r)/\(¬P j->body (f j) k=k (f (j+1)))) (fin:(¬∃ j,j<len/\P j)->∀ k,body (f len) k=r) (n:Nat) (hn:len<n):ap body n (f 0)=r:=by
 by_cases h:∃ j,j<len/\P j
 ·obtain⟨j,hj,hp⟩:=h
  have key:∀ n i,i<=j->j-i<n->ap body n (f i)=r:=by
   intro n
   induction n with
   |zero=>intro i _ h;omega
   |succ n ih=>
    intro i hi hlt
    rw[bL]
    by_cases hpi:P i
    ·exact(step i (by omega) _).1 hpi
    ·rw[(step i (by omega) _).2 hpi]
     have hne:i≠j:=λe=>hpi (e ▸ hp)
     exact ih (i+1) (by omega) (by omega)
  exact key n 0 (Nat.zero_le _) (by omega)
 ·exact cP (body:=body) f (λ_=>r) len (λi hi k hk=>by
   rcases Nat.lt_or_ge i len with h'|h'
   ·rw[(step i h' k).2 (λhp=>h ⟨i,h',hp⟩)];exact hk h'
   ·have e:i=len:=by omega
    rw[e];exact fin h k) n 0 (Nat.zero_le _) (by omega)
theorem Kg{A R:Type}{body:A->(A->Option R)->Option R}(f:Nat->A)(spec:Nat->Option R)(len:Nat)
 (step:∀ j,j<=len->∀ k,(∀ i,j=i+1->k (f i)=spec i)->body (f j) k=spec j):∀ n j,j<=len->j<n->ap body n (f j)=spec j:=by
 intro n
 induction n with
 |zero=>intro j _ h;omega
 |succ n ih=>
  intro j hj hn
  rw[bL]
  exact step j hj _ (λi e=>ih i (by omega) (by omega))
theorem au{A R:Type}{body:A->(A->Option R)->Option R}(I:Nat->A->Option R->Prop)
 (step:∀ m x r,I m x r->∀ k,(∀ m' y r',m' < m->I m' y r'->k y=r')->body x k=r):∀ n m x r,m<n->I m x r->ap body n x=r:=by
 intro n
 induction n with
 |zero=>intro m x r h;omega
 |succ n ih=>
  intro m x r h hi
  rw[bL]
  exact step m x r hi _ (λm' y r' hm hi'=>ih m' y r' (by omega) hi')
def N0:Nat:=18446744073709551616
theorem eL{n:Nat}(h:n<=maxLen):n+1<N0:=by unfold maxLen at h;unfold N0;omega
theorem aJ{n:Int}(h1:-9223372036854775808<=n)(h2:n<=9223372036854775807):IntKind.wrap .i64 n=n:=fi ⟨h1,h2⟩
theorem aC{j n:Nat}(h:j<n)(hn:n<=maxLen):IntKind.wrap .i64 ((j:Int)+1)=((j+1:Nat):Int):=by
 unfold maxLen at hn
 rw[aJ (by omega) (by omega)];simp
theorem PD{n:Int}(h:inK .i64 n):-9223372036854775808<=n/\n<=9223372036854775807:=h
@[simp] theorem aP {A R:Type} (J:A->Option R) (body:(A->Option R)->Option R):aj J body=body J:=rfl
@[simp] theorem aK {A R:Type} (a:A) (k:A->Option R):ae (some a) k=k a:=rfl
theorem aa{A R:Type}{o:Option A}{a:A}(h:o=some a)(k:A->Option R):ae o k=k a:=by rw[h];rfl
theorem kw{α:Type}(c:Bool)(a b:α):(bif c then a else b)=if c=true then a else b:=by cases c <;> rfl
end
noncomputable section
theorem rN:∀ (n:Nat) (l:List Nat),l.Nodup->(∀ x∈l,x<n)->l.length<=n:=by
 intro n
 induction n with
 |zero=>
  intro l _ h
  cases l with
  |nil=>simp
  |cons x xs=>have:=h x (by simp);omega
 |succ n ih=>
  intro l hn h
  by_cases hm:n∈l
  ·have h1:(l.erase n).length<=n:=by
    refine ih _ (hn.erase n) (λx hx=>?_)
    have hx1:x∈l:=List.mem_of_mem_erase hx
    have hx2:x≠n:=by
     rintro rfl
     exact(List.Nodup.not_mem_erase hn) hx
    have:=h x hx1
    omega
   rw[List.length_erase_of_mem hm]at h1
   omega
  ·refine Nat.le_succ_of_le (ih l hn (λx hx=>?_))
   have:=h x hx
   have hne:x≠n:=by rintro rfl;exact hm hx
   omega
theorem rO{α:Type}(R:α->Nat->Prop)(hf:∀ x y c,R x c->R y c->x=y)(n:Nat)(l:List α)(hn:l.Nodup)(h:∀ x∈l,∃ c,c<n/\R x c):l.length<=n:=by
 have key:∀ l:List α,l.Nodup->(∀ x∈l,∃ c,c<n/\R x c)->∃ cs:List Nat,cs.length=l.length/\cs.Nodup/\∀ c∈cs,c<n/\∃ x∈l,R x c:=by
  intro l
  induction l with
  |nil=>intro _ _;exact⟨[],rfl,List.nodup_nil,λc hc=>by simp at hc⟩
  |cons x xs ih=>
   intro hn h
   obtain⟨h1,h2⟩:=List.nodup_cons.1 hn
   obtain⟨cs,e1,e2,e3⟩:=ih h2 (λy hy=>h y (by simp[hy]))
   obtain⟨c,hc,hr⟩:=h x (by simp)
   refine⟨c::cs,by simp[e1],List.nodup_cons.2 ⟨λhm=>?_,e2⟩,λd hd=>?_⟩
   ·obtain⟨_,y,hy,hry⟩:=e3 c hm
    exact h1 (hf x y c hr hry ▸ hy)
   ·rcases List.mem_cons.1 hd with rfl|hd
    ·exact⟨hc,x,by simp,hr⟩
    ·obtain⟨q1,y,hy,q2⟩:=e3 d hd
     exact⟨q1,y,by simp[hy],q2⟩
 obtain⟨cs,e1,e2,e3⟩:=key l hn h
 rw[<-e1]
 exact rN n cs e2 (λc hc=>(e3 c hc).1)
def bR:List Bool->Nat
 |[]=>0
 |b::r=>(if b then 1 else 0)+2*bR r
theorem hP:∀ (l:List Bool),bR l<2 ^ l.length:=by
 intro l
 induction l with
 |nil=>simp[bR]
 |cons b r ih=>
  simp only[bR,List.length_cons,Nat.pow_succ]
  split <;> omega
theorem j5:∀ (l m:List Bool),l.length=m.length->bR l=bR m->l=m:=by
 intro l
 induction l with
 |nil=>intro m hl _;cases m with
  |nil=>rfl
  |cons _ _=>simp at hl
 |cons b r ih=>
  intro m hl h
  cases m with
  |nil=>simp at hl
  |cons c s=>
   simp only[bR]at h
   have hbc:b=c:=by cases b <;> cases c <;> simp at h |- <;> omega
   subst hbc
   rw[ih s (by simpa using hl) (by omega)]
end
noncomputable section
inductive Rx where
 |eps
 |set (S:List Int)
 |cat (a b:Rx)
 |alt (a b:Rx)
 |rep (k:Int) (a:Rx)
abbrev Pc:=Int×List Int
def zS:List Int:=[0,0,0,0]
def Rx.post:Rx->List Pc
 |.eps=>[(0,zS)]
 |.set S=>[(1,S)]
 |.cat a b=>a.post++b.post++[(2,zS)]
 |.alt a b=>a.post++b.post++[(3,zS)]
 |.rep k a=>a.post++[(k,zS)]
def Rx.len:Rx->Nat
 |.eps=>1
 |.set _=>1
 |.cat a b=>a.len+b.len+1
 |.alt a b=>a.len+b.len+1
 |.rep _ a=>a.len+1
def Rx.null:Rx->Bool
 |.eps=>true
 |.set _=>false
 |.cat a b=>a.null&&b.null
 |.alt a b=>a.null||b.null
 |.rep k a=>!decide (k=5)||a.null
def Rx.ok:Rx->Prop
 |.eps=>True
 |.set S=>S.length=4/\S≠zS/\∀ x∈S,0<=x/\x<=18446744073709551615
 |.cat a b=>a.ok/\b.ok
 |.alt a b=>a.ok/\b.ok
 |.rep k a=>(k=4\/k=5\/k=6)/\a.ok
theorem Rx.aQ:∀ t:Rx,0<t.len:=by intro t;cases t <;> simp[Rx.len]
theorem Rx.az:∀ t:Rx,t.post.length=t.len:=by
 intro t
 induction t with
 |eps=>rfl
 |set S=>rfl
 |cat a b iha ihb=>simp[Rx.post,Rx.len,iha,ihb];omega
 |alt a b iha ihb=>simp[Rx.post,Rx.len,iha,ihb];omega
 |rep k a ih=>simp[Rx.post,Rx.len,ih]
abbrev Ed:=Nat×Nat×List Int×Bool
def fE(p q:Nat):Ed:=(p,q,zS,true)
def Rx.fst(t:Rx)(n:Nat):Nat:=n+2*t.len-2
def Rx.lst(t:Rx)(n:Nat):Nat:=n+2*t.len-1
def Rx.ag:Rx->Nat->List Ed
 |.eps,n=>[fE n (n+1)]
 |.set S,n=>[(n,n+1,S,false)]
 |.cat a b,n=>a.ag n++b.ag (n+2*a.len)++[fE (n+2*(a.len+b.len)) (a.fst n),fE (a.lst n) (b.fst (n+2*a.len)),fE (b.lst (n+2*a.len)) (n+2*(a.len+b.len)+1)]
 |.alt a b,n=>a.ag n++b.ag (n+2*a.len)++[fE (n+2*(a.len+b.len)) (a.fst n),fE (a.lst n) (n+2*(a.len+b.len)+1),fE (n+2*(a.len+b.len)) (b.fst (n+2*a.len)),fE (b.lst (n+2*a.len)) (n+2*(a.len+b.len)+1)]
 |.rep k a,n=>a.ag n++[fE (n+2*a.len) (a.fst n),fE (a.lst n) (n+2*a.len+1)]++(if k=6 then []else [fE (a.lst n) (a.fst n)])++(if k=5 then []else [fE (n+2*a.len) (n+2*a.len+1)])
theorem Rx.bU:∀ (t:Rx) (n:Nat),∀ e∈t.ag n,n<=e.1/\e.1<n+2*t.len/\n<=e.2.1/\e.2.1<n+2*t.len:=by
 intro t
 induction t with
 |eps=>intro n e he;simp[Rx.ag,fE]at he;subst he;simp[Rx.len]
 |set S=>intro n e he;simp[Rx.ag]at he;subst he;simp[Rx.len]
 |cat a b iha ihb=>
  intro n e he
  have ha:=a.aQ
  have hb:=b.aQ
  simp only[Rx.ag,List.mem_append,List.mem_cons,List.not_mem_nil,or_false]at he
  simp only[Rx.len]
  rcases he with(he|he)|he|he|he
  ·have:=iha n e he;omega
  ·have:=ihb _ e he;omega
  all_goals (subst he;simp only[fE,Rx.fst,Rx.lst];omega)
 |alt a b iha ihb=>
  intro n e he
  have ha:=a.aQ
  have hb:=b.aQ
  simp only[Rx.ag,List.mem_append,List.mem_cons,List.not_mem_nil,or_false]at he
  simp only[Rx.len]
  rcases he with(he|he)|he|he|he|he
  ·have:=iha n e he;omega
  ·have:=ihb _ e he;omega
  all_goals (subst he;simp only[fE,Rx.fst,Rx.lst];omega)
 |rep k a ih=>
  intro n e he
  have ha:=a.aQ
  simp only[Rx.ag,List.mem_append,List.mem_cons,List.not_mem_nil,or_false]at he
  simp only[Rx.len]
  rcases he with((he|he|he)|he)|he
  ·have:=ih n e he;omega
  ·subst he;simp only[fE,Rx.fst,Rx.lst];omega
  ·subst he;simp only[fE,Rx.fst,Rx.lst];omega
  ·split at he
   ·simp at he
   ·simp only[List.mem_singleton]at he;subst he;simp only[fE,Rx.fst,Rx.lst];omega
  ·split at he
   ·simp at he
   ·simp only[List.mem_singleton]at he;subst he;simp only[fE,Rx.fst,Rx.lst];omega
def Rx.cl:Rx->Nat->Nat->Bool
 |.eps,n,q=>decide (q=n)||decide (q=n+1)
 |.set _,n,q=>decide (q=n)
 |.cat a b,n,q=>decide (q=n+2*(a.len+b.len))||a.cl n q||(a.null&&b.cl (n+2*a.len) q)||(a.null&&b.null&&decide (q=n+2*(a.len+b.len)+1))
 |.alt a b,n,q=>decide (q=n+2*(a.len+b.len))||a.cl n q||b.cl (n+2*a.len) q||((a.null||b.null)&&decide (q=n+2*(a.len+b.len)+1))
 |.rep k a,n,q=>decide (q=n+2*a.len)||a.cl n q||((!decide (k=5)||a.null)&&decide (q=n+2*a.len+1))
theorem Rx.mQ:∀ (t:Rx) (n q:Nat),t.cl n q=true->n<=q/\q<n+2*t.len:=by
 intro t
 induction t with
 |eps=>intro n q h;simp only[Rx.cl,Bool.or_eq_true,decide_eq_true_eq]at h;simp only[Rx.len];omega
 |set S=>intro n q h;simp only[Rx.cl,decide_eq_true_eq]at h;simp only[Rx.len];omega
 |cat a b iha ihb=>
  intro n q h
  simp only[Rx.cl,Bool.or_eq_true,Bool.and_eq_true,decide_eq_true_eq]at h
  simp only[Rx.len]
  rcases h with((h|h)|h)|h
  ·omega
  ·have:=iha n q h;omega
  ·have:=ihb _ q h.2;omega
  ·omega
 |alt a b iha ihb=>
  intro n q h
  simp only[Rx.cl,Bool.or_eq_true,Bool.and_eq_true,decide_eq_true_eq]at h
  simp only[Rx.len]
  rcases h with((h|h)|h)|h
  ·omega
  ·have:=iha n q h;omega
  ·have:=ihb _ q h;omega
  ·omega
 |rep k a ih=>
  intro n q h
  simp only[Rx.cl,Bool.or_eq_true,Bool.and_eq_true,decide_eq_true_eq]at h
  simp only[Rx.len]
  rcases h with(h|h)|h
  ·omega
  ·have:=ih n q h;omega
  ·omega
theorem Rx.oO(t:Rx){n q:Nat}(h:q<n\/n+2*t.len<=q):t.cl n q=false:=by
 cases hc:t.cl n q
 ·rfl
 ·have:=t.mQ n q hc;omega
theorem Rx.jH:∀ (t:Rx) (n:Nat),t.cl n (t.fst n)=true:=by
 intro t n
 have:=t.aQ
 cases t with
 |eps=>simp[Rx.cl,Rx.fst,Rx.len]
 |set S=>simp[Rx.cl,Rx.fst,Rx.len]
 |cat a b=>
  have e:(Rx.cat a b).fst n=n+2*(a.len+b.len):=by simp only[Rx.fst,Rx.len];omega
  rw[e];simp[Rx.cl]
 |alt a b=>
  have e:(Rx.alt a b).fst n=n+2*(a.len+b.len):=by simp only[Rx.fst,Rx.len];omega
  rw[e];simp[Rx.cl]
 |rep k a=>
  have e:(Rx.rep k a).fst n=n+2*a.len:=by simp only[Rx.fst,Rx.len];omega
  rw[e];simp[Rx.cl]
theorem Rx.l6:∀ (t:Rx) (n:Nat),t.cl n (t.lst n)=t.null:=by
 intro t n
 have:=t.aQ
 cases t with
 |eps=>simp[Rx.cl,Rx.lst,Rx.len,Rx.null]
 |set S=>simp[Rx.cl,Rx.lst,Rx.len,Rx.null]
 |cat a b=>
  have e:(Rx.cat a b).lst n=n+2*(a.len+b.len)+1:=by simp only[Rx.lst,Rx.len];omega
  rw[e]
  simp only[Rx.cl,a.oO (n:=n) (q:=n+2*(a.len+b.len)+1) (by omega),b.oO (n:=n+2*a.len) (q:=n+2*(a.len+b.len)+1) (by omega),Rx.null]
  simp
 |alt a b=>
  have e:(Rx.alt a b).lst n=n+2*(a.len+b.len)+1:=by simp only[Rx.lst,Rx.len];omega
  rw[e]
  simp only[Rx.cl,a.oO (n:=n) (q:=n+2*(a.len+b.len)+1) (by omega),b.oO (n:=n+2*a.len) (q:=n+2*(a.len+b.len)+1) (by omega),Rx.null]
  simp
 |rep k a=>
  have e:(Rx.rep k a).lst n=n+2*a.len+1:=by simp only[Rx.lst,Rx.len];omega
  rw[e]
  simp only[Rx.cl,a.oO (n:=n) (q:=n+2*a.len+1) (by omega),Rx.null]
  simp
theorem Rx.ky(t:Rx)(n:Nat):n<=t.fst n/\t.fst n<n+2*t.len:=by have:=t.aQ;simp only[Rx.fst];omega
theorem Rx.gR(t:Rx)(n:Nat):n<=t.lst n/\t.lst n<n+2*t.len:=by have:=t.aQ;simp only[Rx.lst];omega
theorem Rx.xP:∀ (t:Rx) (n:Nat),∀ e∈t.ag n,e.2.2.2=true->t.cl n e.1=true->t.cl n e.2.1=true:=by
 intro t
 induction t with
 |eps=>intro n e he _ h;simp[Rx.ag,fE]at he;subst he;simp[Rx.cl]
 |set S=>intro n e he hf h;simp[Rx.ag]at he;subst he;cases hf
 |cat a b iha ihb=>
  intro n e he hf h
  have ha:=a.aQ
  have hb:=b.aQ
  simp only[Rx.ag,List.mem_append,List.mem_cons,List.not_mem_nil,or_false]at he
  simp only[Rx.cl,Bool.or_eq_true,Bool.and_eq_true,decide_eq_true_eq]at h |-
  rcases he with(he|he)|he|he|he
  ·have hr:=a.bU n e he
   have:a.cl n e.1=true:=by
    rcases h with((h|h)|h)|h
    ·omega
    ·exact h
    ·have:=b.mQ _ _ h.2;omega
    ·omega
   exact .inl (.inl (.inr (iha n e he hf this)))
  ·have hr:=b.bU _ e he
   have:a.null=true/\b.cl (n+2*a.len) e.1=true:=by
    rcases h with((h|h)|h)|h
    ·omega
    ·have:=a.mQ _ _ h;omega
    ·exact h
    ·omega
   exact .inl (.inr ⟨this.1,ihb _ e he hf this.2⟩)
  ·subst he;exact .inl (.inl (.inr (a.jH n)))
  ·subst he
   simp only[fE]at h |-
   have hi:=a.gR n
   have:a.null=true:=by
    rcases h with((h|h)|h)|h
    ·omega
    ·rw[a.l6]at h;exact h
    ·exact h.1
    ·omega
   exact .inl (.inr ⟨this,b.jH _⟩)
  ·subst he
   simp only[fE]at h |-
   have hi:=b.gR (n+2*a.len)
   have:a.null=true/\b.null=true:=by
    rcases h with((h|h)|h)|h
    ·omega
    ·have:=a.mQ _ _ h;omega
    ·rw[b.l6]at h;exact h
    ·exact h.1
   exact .inr ⟨this,trivial⟩
 |alt a b iha ihb=>
  intro n e he hf h
  have ha:=a.aQ
  have hb:=b.aQ
  simp only[Rx.ag,List.mem_append,List.mem_cons,List.not_mem_nil,or_false]at he
  simp only[Rx.cl,Bool.or_eq_true,Bool.and_eq_true,decide_eq_true_eq]at h |-
  rcases he with(he|he)|he|he|he|he
  ·have hr:=a.bU n e he
   have:a.cl n e.1=true:=by
    rcases h with((h|h)|h)|h
    ·omega
    ·exact h
    ·have:=b.mQ _ _ h;omega
    ·omega
   exact .inl (.inl (.inr (iha n e he hf this)))
  ·have hr:=b.bU _ e he
   have:b.cl (n+2*a.len) e.1=true:=by
    rcases h with((h|h)|h)|h
    ·omega
    ·have:=a.mQ _ _ h;omega
    ·exact h
    ·omega
   exact .inl (.inr (ihb _ e he hf this))
  ·subst he;exact .inl (.inl (.inr (a.jH n)))
  ·subst he
   simp only[fE]at h |-
   have hi:=a.gR n
   have:a.null=true:=by
    rcases h with((h|h)|h)|h
    ·omega
    ·rw[a.l6]at h;exact h
    ·have:=b.mQ _ _ h;omega
    ·omega
   exact .inr ⟨.inl this,trivial⟩
  ·subst he;exact .inl (.inr (b.jH _))
  ·subst he
   simp only[fE]at h |-
   have hi:=b.gR (n+2*a.len)
   have:b.null=true:=by
    rcases h with((h|h)|h)|h
    ·omega
    ·have:=a.mQ _ _ h;omega
    ·rw[b.l6]at h;exact h
    ·omega
   exact .inr ⟨.inr this,trivial⟩
 |rep k a ih=>
  intro n e he hf h
  have ha:=a.aQ
  simp only[Rx.ag,List.mem_append,List.mem_cons,List.not_mem_nil,or_false]at he
  simp only[Rx.cl,Bool.or_eq_true,Bool.and_eq_true,Bool.not_eq_true',decide_eq_true_eq,decide_eq_false_iff_not]at h |-
  have hi:=a.gR n
  have hj:=a.ky n
  rcases he with((he|he|he)|he)|he
  ·have hr:=a.bU n e he
   have:a.cl n e.1=true:=by
    rcases h with(h|h)|h
    ·omega
    ·exact h
    ·omega
   exact .inl (.inr (ih n e he hf this))
  ·subst he;exact .inl (.inr (a.jH n))
  ·subst he
   simp only[fE]at h |-
   have:a.null=true:=by
    rcases h with(h|h)|h
    ·omega
    ·rw[a.l6]at h;exact h
    ·omega
   exact .inr ⟨.inr this,trivial⟩
  ·split at he
   ·simp at he
   ·simp only[List.mem_singleton]at he;subst he;exact .inl (.inr (a.jH n))
  ·split at he
   ·simp at he
   ·rename_i h5
    simp only[List.mem_singleton]at he;subst he
    exact .inr ⟨.inl h5,rfl⟩
inductive Fr0(E:List Ed):Nat->Nat->Prop where
 |refl (p:Nat):Fr0 E p p
 |step {p q r:Nat}:Fr0 E p q->(q,r,zS,true)∈E->Fr0 E p r
theorem Fr0.mono{E E':List Ed}(h:∀ e∈E,e∈E'){p q:Nat}(hp:Fr0 E p q):Fr0 E' p q:=by
 induction hp with
 |refl=>exact .refl _
 |step _ he ih=>exact .step ih (h _ he)
theorem Fr0.trans{E:List Ed}{p q r:Nat}(h1:Fr0 E p q)(h2:Fr0 E q r):Fr0 E p r:=by
 induction h2 with
 |refl=>exact h1
 |step _ he ih=>exact .step ih he
theorem Rx.CU:∀ (t:Rx) (n:Nat),t.null=true->Fr0 (t.ag n) (t.fst n) (t.lst n):=by
 intro t
 induction t with
 |eps=>
  intro n _
  have e1:Rx.eps.fst n=n:=by simp[Rx.fst,Rx.len]
  have e2:Rx.eps.lst n=n+1:=by simp[Rx.lst,Rx.len]
  rw[e1,e2]
  exact .step (.refl _) (by simp[Rx.ag,fE])
 |set S=>intro n h;cases h
 |cat a b iha ihb=>
  intro n h
  simp only[Rx.null,Bool.and_eq_true]at h
  have e1:(Rx.cat a b).fst n=n+2*(a.len+b.len):=by simp only[Rx.fst,Rx.len];omega
  have e2:(Rx.cat a b).lst n=n+2*(a.len+b.len)+1:=by simp only[Rx.lst,Rx.len];omega
  rw[e1,e2]
  have w1:Fr0 ((Rx.cat a b).ag n) (n+2*(a.len+b.len)) (a.fst n):=.step (.refl _) (by simp[Rx.ag,fE])
  have w2:=(iha n h.1).mono (E':=(Rx.cat a b).ag n) (λe he=>by simp only[Rx.ag,List.mem_append];exact .inl (.inl he))
  have w3:=(ihb (n+2*a.len) h.2).mono (E':=(Rx.cat a b).ag n) (λe he=>by simp only[Rx.ag,List.mem_append];exact .inl (.inr he))
  exact .step ((Fr0.step (w1.trans w2) (by simp[Rx.ag,fE])).trans w3) (by simp[Rx.ag,fE])
 |alt a b iha ihb=>
  intro n h
  simp only[Rx.null,Bool.or_eq_true]at h
  have e1:(Rx.alt a b).fst n=n+2*(a.len+b.len):=by simp only[Rx.fst,Rx.len];omega
  have e2:(Rx.alt a b).lst n=n+2*(a.len+b.len)+1:=by simp only[Rx.lst,Rx.len];omega
  rw[e1,e2]
  rcases h with h|h
  ·have w1:Fr0 ((Rx.alt a b).ag n) (n+2*(a.len+b.len)) (a.fst n):=.step (.refl _) (by simp[Rx.ag,fE])
   have w2:=(iha n h).mono (E':=(Rx.alt a b).ag n) (λe he=>by simp only[Rx.ag,List.mem_append];exact .inl (.inl he))
   exact .step (w1.trans w2) (by simp[Rx.ag,fE])
  ·have w1:Fr0 ((Rx.alt a b).ag n) (n+2*(a.len+b.len)) (b.fst (n+2*a.len)):=.step (.refl _) (by simp[Rx.ag,fE])
   have w2:=(ihb _ h).mono (E':=(Rx.alt a b).ag n) (λe he=>by simp only[Rx.ag,List.mem_append];exact .inl (.inr he))
   exact .step (w1.trans w2) (by simp[Rx.ag,fE])
 |rep k a ih=>
  intro n h
  have e1:(Rx.rep k a).fst n=n+2*a.len:=by simp only[Rx.fst,Rx.len];omega
  have e2:(Rx.rep k a).lst n=n+2*a.len+1:=by simp only[Rx.lst,Rx.len];omega
  rw[e1,e2]
  by_cases h5:k=5
  ·simp only[Rx.null,h5,decide_true,Bool.not_true,Bool.false_or]at h
   have w1:Fr0 ((Rx.rep k a).ag n) (n+2*a.len) (a.fst n):=.step (.refl _) (by simp[Rx.ag,fE])
   have w2:=(ih n h).mono (E':=(Rx.rep k a).ag n) (λe he=>by simp only[Rx.ag,List.mem_append];exact .inl (.inl (.inl he)))
   exact .step (w1.trans w2) (by simp[Rx.ag,fE])
  ·exact .step (.refl _) (by simp[Rx.ag,fE,h5])
end
noncomputable section
def kX(c:Int):Option Int:=if 48<=c/\c<=57 then some (c-48)else if 97<=c/\c<=102 then some (c-87)else none
def iX(c:Int):Bool:=(decide (48<=c)&&decide (c<=57))||(decide (97<=c)&&decide (c<=122))||(decide (65<=c)&&decide (c<=90))
def rdS:List Int->Option (Int×Nat)
 |[]=>none
 |c::r=>if c≠92 then some (c,1)else match r with
  |[]=>none
  |d::r2=>if d=110 then some (10,2)else if d=116 then some (9,2)else if d=114 then some (13,2)else
   if d=120 then(match r2 with
    |h::l::_=>(match kX h,kX l with
     |some a,some b=>some (16*a+b,4)
     |_,_=>none)
    |_=>none)
   else if iX d=true\/d<32\/126<d then none else some (d,2)
def iY(l:Nat->Bool):Nat->Nat
 |0=>0
 |n+1=>(if l n then 2 ^ n else 0)+iY l n
theorem qc(l:Nat->Bool)(w:Nat):∃ n,n=iY (λi=>l (64*w+i)) 64:=⟨_,rfl⟩
def aI(l:Nat->Bool)(w:Nat):Nat:=Classical.choose (qc l w)
theorem iN(l:Nat->Bool)(w:Nat):aI l w=iY (λi=>l (64*w+i)) 64:=Classical.choose_spec (qc l w)
def ofB(l:Nat->Bool):List Int:=[(aI l 0:Nat),(aI l 1:Nat),(aI l 2:Nat),(aI l 3:Nat)]
def l7(c:Int):Nat->Bool:=λi=>decide (c=(i:Int))
def oP(a b:Int):Nat->Bool:=λi=>decide (a<=(i:Int))&&decide ((i:Int)<=b)
def cm(l:Nat->Bool):Bool:=(List.range 256).all λi=>!l i
def ch(s:List Int)(at_:Nat):Int:=(s[at_]?).getD (-1)
def brL(s:List Int):Nat->Nat->(Nat->Bool)->Option ((Nat->Bool)×Nat)
 |0,_,_=>none
 |m+1,i,l=>if s.length<=i\/ch s i=93 then some (l,i)else
  if ch s i∈[94,45,47,34]then none else match rdS (s.drop i)with
   |none=>none
   |some (a,n)=>if i+n<s.length/\ch s (i+n)=45 then
    (if s.length<=i+n+1\/ch s (i+n+1)∈[93,94,45,47,34]then none else match rdS (s.drop (i+n+1))with
     |none=>none
     |some (b,n2)=>if b<a then none else brL s m (i+n+1+n2) λx=>l x||oP a b x)
    else brL s m (i+n) λx=>l x||oP a a x
def brS(s:List Int)(i:Nat):Option (Rx×Nat):=
 let nt:=decide (i<s.length)&&decide (ch s i=94)
 match brL s s.length.succ (if nt then i+1 else i) (λ_=>false)with
 |none=>none
 |some (l,j)=>
  let l':=if nt then λx=>!l x else l
  if s.length<=j\/cm l'=true then none else some (.set (ofB l'),j+1)
def hY(inner:Nat->Nat->Option (Rx×Nat))(s:List Int)(i d:Nat):Option (Rx×Nat):=
 if s.length<=i\/ch s i∈[124,41,42,43,63,93,47,34]then none
 else if ch s i=46 then some (.set (ofB λ_=>true),i+1)
 else if ch s i=126 then some (.eps,i+1)
 else if ch s i=91 then brS s (i+1)
 else if ch s i=40 then(if 99<=d then none else match inner (i+1) (d+1)with
  |none=>none
  |some (t,j)=>if j<s.length/\ch s j=41 then some (t,j+1)else none)
 else match rdS (s.drop i)with
  |none=>none
  |some (c,n)=>some (.set (ofB (l7 c)),i+n)
def eQ(c:Int):Int:=if c=42 then 4 else if c=43 then 5 else 6
def kz(s:List Int):Nat->Nat->Rx->Option (Rx×Nat)
 |0,_,_=>none
 |m+1,i,t=>if i<s.length/\ch s i∈[42,43,63]then kz s m (i+1) (.rep (eQ (ch s i)) t)else some (t,i)
def gk(inner:Nat->Nat->Option (Rx×Nat))(s:List Int)(i d:Nat):Option (Rx×Nat):=
 match hY inner s i d with
 |none=>none
 |some (t,j)=>kz s s.length.succ j t
def kY(inner:Nat->Nat->Option (Rx×Nat))(s:List Int)(d:Nat):Nat->Nat->Rx->Option (Rx×Nat)
 |0,_,_=>none
 |m+1,i,t=>if i<s.length/\ch s i∉[124,41]then(match gk inner s i d with
  |none=>none
  |some (t2,j)=>kY inner s d m j (.cat t t2))else some (t,i)
def gy(inner:Nat->Nat->Option (Rx×Nat))(s:List Int)(i d:Nat):Option (Rx×Nat):=
 match gk inner s i d with
 |none=>none
 |some (t,j)=>kY inner s d s.length.succ j t
def kZ(inner:Nat->Nat->Option (Rx×Nat))(s:List Int)(d:Nat):Nat->Nat->Rx->Option (Rx×Nat)
 |0,_,_=>none
 |m+1,i,t=>if i<s.length/\ch s i=124 then(match gy inner s (i+1) d with
  |none=>none
  |some (t2,j)=>kZ inner s d m j (.alt t t2))else some (t,i)
def us(inner:Nat->Nat->Option (Rx×Nat))(s:List Int)(i d:Nat):Option (Rx×Nat):=
 match gy inner s i d with
 |none=>none
 |some (t,j)=>kZ inner s d s.length.succ j t
def fJ(s:List Int):Nat->Nat->Nat->Option (Rx×Nat)
 |0,_,_=>none
 |n+1,i,d=>us (fJ s n) s i d
def cY(s:List Int):Except Int Rx:=
 if 1600<s.length then .error 6 else match fJ s s.length.succ 0 0 with
  |none=>.error 5
  |some (t,i)=>if i<s.length then .error 5 else if 400<t.len then .error 6 else .ok t
end
noncomputable section
theorem oQ(l:Nat->Bool):∀ n,iY l n<2 ^ n:=by
 intro n
 induction n with
 |zero=>simp[iY]
 |succ n ih=>simp only[iY,Nat.pow_succ];split <;> omega
theorem qd(l:Nat->Bool):∀ n i,(iY l n).testBit i=(decide (i<n)&&l i):=by
 intro n
 induction n with
 |zero=>intro i;simp[iY]
 |succ n ih=>
  intro i
  have hlt:=oQ l n
  simp only[iY]
  by_cases hl:l n=true
  ·rw[if_pos hl]
   rcases Nat.lt_trichotomy i n with h|h|h
   ·rw[Nat.testBit_two_pow_add_gt h,ih]
    simp[h,Nat.lt_succ_of_lt h]
   ·subst h
    rw[Nat.testBit_two_pow_add_eq,Nat.testBit_lt_two_pow hlt]
    simp[hl]
   ·rw[Nat.testBit_lt_two_pow (Nat.lt_of_lt_of_le (show 2 ^ n+iY l n<2 ^ (n+1) by rw[Nat.pow_succ];omega) (Nat.pow_le_pow_right (by omega) h))]
    have:¬i<n+1:=by omega
    simp[this]
  ·rw[if_neg hl,Nat.zero_add,ih]
   have hl:l n=false:=by simpa using hl
   by_cases h:i=n
   ·subst h;simp[hl]
   ·have:(i<n)↔(i<n+1):=by omega
    simp[this]
theorem bX(l:Nat->Bool)(w:Nat):aI l w<18446744073709551616:=by rw[iN];exact oQ _ 64
theorem bM(l:Nat->Bool)(w i:Nat):(aI l w).testBit i=(decide (i<64)&&l (64*w+i)):=by rw[iN];exact qd _ 64 i
theorem dW{l m:Nat->Bool}{w:Nat}(h:∀ i,i<64->l (64*w+i)=m (64*w+i)):aI l w=aI m w:=by
 apply Nat.eq_of_testBit_eq
 intro i
 rw[bM,bM]
 by_cases hi:i<64
 ·rw[h i hi]
 ·simp[hi]
theorem j6{l:Nat->Bool}{w n:Nat}(h:∀ i,n.testBit i=(decide (i<64)&&l (64*w+i))):n=aI l w:=by
 apply Nat.eq_of_testBit_eq
 intro i
 rw[h,bM]
theorem fe{l m:Nat->Bool}(h:∀ i,i<256->l i=m i):ofB l=ofB m:=by
 unfold ofB
 rw[dW (w:=0) (λi hi=>h _ (by omega)),dW (w:=1) (λi hi=>h _ (by omega)),dW (w:=2) (λi hi=>h _ (by omega)),dW (w:=3) (λi hi=>h _ (by omega))]
theorem fK{l:Nat->Bool}{w:Nat}(h:w<4):(ofB l)[w]?=some ((aI l w:Nat):Int):=by
 unfold ofB
 match w,h with
 |0,_=>rfl
 |1,_=>rfl
 |2,_=>rfl
 |3,_=>rfl
theorem O8{a b c d n a' b' c' d':Int}{w:Nat}(h:w<4)(h0:if w=0 then a'=n else a'=a)(h1:if w=1 then b'=n else b'=b)(h2:if w=2 then c'=n else c'=c)(h3:if w=3 then d'=n else d'=d):[a,b,c,d].set w n=[a',b',c',d']:=by
 have:w=0\/w=1\/w=2\/w=3:=by omega
 rcases this with rfl|rfl|rfl|rfl <;> simp at h0 h1 h2 h3 <;> subst h0 h1 h2 h3 <;> rfl
theorem rP{l m:Nat->Bool}{w n:Nat}(h:w<4)(hn:n=aI m w)(hm:∀ v i,v<4->v≠w->i<64->l (64*v+i)=m (64*v+i)):(ofB l).set w (n:Int)=ofB m:=by
 have key:∀ v,v<4->(if w=v then((aI m v:Nat):Int)=(n:Int)else((aI m v:Nat):Int)=((aI l v:Nat):Int)):=by
  intro v hv
  split
  ·rename_i e;rw[hn,e]
  ·rename_i e
   rw[dW (l:=l) (m:=m) (w:=v) (λi hi=>hm v i hv (λe2=>e e2.symm) hi)]
 exact O8 h (key 0 (by omega)) (key 1 (by omega)) (key 2 (by omega)) (key 3 (by omega))
theorem MX(l:Nat->Bool):(ofB l).length=4:=rfl
theorem Jp(l:Nat->Bool):∀ x∈ofB l,0<=x/\x<=18446744073709551615:=by
 intro x hx
 simp only[ofB,List.mem_cons,List.not_mem_nil,or_false]at hx
 have h0:=bX l 0
 have h1:=bX l 1
 have h2:=bX l 2
 have h3:=bX l 3
 generalize aI l 0=a0 at *
 generalize aI l 1=a1 at *
 generalize aI l 2=a2 at *
 generalize aI l 3=a3 at *
 omega
theorem mR{l:Nat->Bool}{w:Nat}:aI l w=0↔∀ i,i<64->l (64*w+i)=false:=by
 constructor
 ·intro h i hi
  have:=bM l w i
  rw[h]at this
  simpa [hi]using this.symm
 ·intro h
  apply Nat.eq_of_testBit_eq
  intro i
  rw[bM]
  by_cases hi:i<64
  ·simp[h i hi]
  ·simp[hi]
theorem ez{l:Nat->Bool}:ofB l=zS↔cm l=true:=by
 unfold cm
 rw[List.all_eq_true]
 constructor
 ·intro h i hi
  have hi:=List.mem_range.1 hi
  simp only[ofB,zS,List.cons.injEq,and_true]at h
  have hw:∀ w,w<4->aI l w=0:=by
   intro w hw
   match w,hw with
   |0,_=>omega
   |1,_=>omega
   |2,_=>omega
   |3,_=>omega
  have:=mR.1 (hw (i / 64) (by omega)) (i % 64) (by omega)
  rw[show 64*(i / 64)+i % 64=i by omega]at this
  simp[this]
 ·intro h
  have hz:∀ w,w<4->aI l w=0:=λw hw=>mR.2 λi hi=>by
   have:=h (64*w+i) (List.mem_range.2 (by omega))
   simpa using this
  simp[ofB,zS,hz]
theorem l8{n:Nat}(h:n<18446744073709551616):(BitVec.ofInt (IntKind.bits .u64) (n:Int)).toNat=n:=by
 have:IntKind.bits .u64=64:=rfl
 rw[this,BitVec.toNat_ofInt]
 omega
theorem wrap_u64{n:Nat}(h:n<18446744073709551616):IntKind.wrap .u64 (n:Int)=n:=fi ⟨by simp[kLo],by simp[kHi];omega⟩
theorem CV{a b:Nat}(ha:a<18446744073709551616)(hb:b<18446744073709551616):ek .or .u64 (a:Int) (b:Int)=((a|||b:Nat):Int):=by
 have hlt:a|||b<2 ^ 64:=Nat.or_lt_two_pow ha hb
 simp only[ek,BitVec.toNat_or,l8 ha,l8 hb]
 exact wrap_u64 hlt
theorem wI{a b:Nat}(ha:a<18446744073709551616)(hb:b<18446744073709551616):ek .andNot .u64 (a:Int) (b:Int)=((a&&& (18446744073709551615-b):Nat):Int):=by
 have hlt:a&&& (18446744073709551615-b)<2 ^ 64:=Nat.and_lt_two_pow _ (by omega)
 simp only[ek,BitVec.toNat_and,BitVec.toNat_not,l8 ha,l8 hb]
 exact wrap_u64 hlt
theorem uu{i:Nat}(h:i<64):2 ^ i<18446744073709551616:=Nat.lt_of_lt_of_le (Nat.pow_lt_pow_right (by omega) h) (by decide)
theorem rQ{i:Nat}(h:i<64):IntKind.wrap .u64 ((1:Int)*2 ^ (Nat.min (Int.toNat (i:Int)) (IntKind.bits .u64)))=((2 ^ i:Nat):Int):=by
 have e:Nat.min (Int.toNat (i:Int)) (IntKind.bits .u64)=i:=by
  rw[Int.toNat_natCast];exact Nat.min_eq_left (by show i<=64;omega)
 rw[e,Int.one_mul]
 have:=wrap_u64 (uu h)
 rw[<-this]
 congr 1
theorem CW{l:Nat->Bool}{w i:Nat}(hi:i<64):aI l w|||2 ^ i=aI (λx=>l x||decide (x=64*w+i)) w:=by
 apply j6
 intro j
 rw[Nat.testBit_or,bM,Nat.testBit_two_pow]
 by_cases hj:j<64
 ·simp only[hj,decide_true,Bool.true_and]
  congr 1
  rw[decide_eq_decide];omega
 ·simp only[hj,decide_false,Bool.false_and,Bool.false_or,decide_eq_false_iff_not];omega
theorem F5{l m:Nat->Bool}{w:Nat}:aI l w|||aI m w=aI (λx=>l x||m x) w:=by
 apply j6
 intro j
 rw[Nat.testBit_or,bM,bM]
 cases decide (j<64) <;> simp
theorem CX{l:Nat->Bool}{w:Nat}:18446744073709551615&&& (18446744073709551615-aI l w)=aI (λx=>!l x) w:=by
 apply j6
 intro j
 have h:=bX l w
 rw[Nat.testBit_and,show(18446744073709551615:Nat)=2 ^ 64-1 by rfl,Nat.testBit_two_pow_sub_one,show 2 ^ 64-1-aI l w=2 ^ 64-(aI l w+1) by omega,Nat.testBit_two_pow_sub_succ h,bM]
 cases decide (j<64) <;> simp
end
noncomputable section
theorem CY(i:Nat):Int.tdiv (i:Int) 64=((i / 64:Nat):Int):=by
 rw[show(64:Int)=((64:Nat):Int) by rfl];exact Int.ofNat_tdiv i 64 |>.symm
theorem CZ(i:Nat):Int.tmod (i:Int) 64=((i % 64:Nat):Int):=by
 rw[show(64:Int)=((64:Nat):Int) by rfl];exact Int.ofNat_tmod i 64 |>.symm
theorem aM{n:Nat}(h:n<9223372036854775808):IntKind.wrap .i64 (n:Int)=n:=aJ (by omega) (by omega)
theorem gm{n:Nat}(h:n<256):IntKind.wrap .u8 (n:Int)=n:=fi ⟨by simp[kLo],by simp[kHi];omega⟩
theorem xQ{f:Nat->Bool}{i:Nat}(h:i<256):(ofB f).set (i / 64) (ek .or .u64 ((aI f (i / 64):Nat):Int) ((2 ^ (i % 64):Nat):Int))=ofB (λx=>f x||decide (x=i)):=by
 have hi:i % 64<64:=Nat.mod_lt _ (by omega)
 rw[CV (bX _ _) (uu hi),CW hi]
 have e:64*(i / 64)+i % 64=i:=by omega
 rw[e]
 refine rP (by omega) rfl (λv j hv hne hj=>?_)
 have:¬(64*v+j=i):=by omega
 simp[this]
theorem xR:Fz N0 ()=some ((ofB (λ_=>true),()),()):=by
 have h:∀ w,aI (λ_=>true) w=18446744073709551615:=λw=>by rw[iN];rfl
 have:ofB (λ_=>true)=[18446744073709551615,18446744073709551615,18446744073709551615,18446744073709551615]:=by unfold ofB;simp only[h];rfl
 rw[this]
 rfl
theorem F6{a b:Int}(ha:0<=a/\a<=255)(hb:0<=b/\b<=255):Cu N0 (a,(b,()))=some ((ofB (oP a b),()),()):=by
 unfold Cu
 have wa:IntKind.wrap .i64 a=a:=aJ (by omega) (by omega)
 have wb:IntKind.wrap .i64 b=b:=aJ (by omega) (by omega)
 have z:([0,0,0,0]:List Int)=ofB (λx=>decide (a<=(x:Int))&&decide ((x:Int)<a)):=by
  rw[show([0,0,0,0]:List Int)=zS by rfl]
  refine(ez.2 ?_).symm
  unfold cm
  rw[List.all_eq_true]
  intro x _
  by_cases h:a<=(x:Int) <;> simp[h]
 simp only[wa,wb]
 refine au (λm x r=>∃ i:Nat,x=(([0,0,0,0],(ofB (λx=>decide (a<=(x:Int))&&decide ((x:Int)<(i:Int))),())),((i:Int),()))/\m=(b+1-i).toNat/\a<=i/\i<=256/\(a<=b->(i:Int)<=b+1)/\(b<a->(i:Int)=a)/\r=some ((ofB (oP a b),()),())) ?_ N0 ((b+1-a).toNat) _ _ (by unfold N0;omega) ⟨a.toNat,by rw[Int.toNat_of_nonneg ha.1,<-z],by rw[Int.toNat_of_nonneg ha.1],by omega,by omega,by omega,by omega,rfl⟩
 rintro m x r ⟨i,rfl,hm,h1,h2,h3,h4,rfl⟩ k hk
 simp only
 by_cases hib:(i:Int)<=b
 ·have hi:i<256:=by omega
  have hw:i / 64<4:=by omega
  have hl:i % 64<64:=Nat.mod_lt _ (by omega)
  have w1:IntKind.wrap .i64 (Int.tdiv (i:Int) 64)=((i / 64:Nat):Int):=by rw[CY];exact aM (by omega)
  have w2:IntKind.wrap .u64 (Int.tmod (i:Int) 64)=((i % 64:Nat):Int):=by rw[CZ];exact wrap_u64 (by omega)
  have w3:IntKind.wrap .i64 ((i:Int)+1)=((i+1:Nat):Int):=by rw[<-aM (n:=i+1) (by omega)];rfl
  have g:(ofB (λx=>decide (a<=(x:Int))&&decide ((x:Int)<(i:Int))))[((i / 64:Nat):Int).toNat]?=some ((aI (λx=>decide (a<=(x:Int))&&decide ((x:Int)<(i:Int))) (i / 64):Nat):Int):=by rw[Int.toNat_natCast];exact fK hw
  have n1:¬((64:Int)=0):=by omega
  have n2:¬(((i % 64:Nat):Int)<0):=by omega
  have n3:(0:Int)<=((i / 64:Nat):Int):=by omega
  rw[decide_eq_true hib,cond_true,w1,w2,w3,if_neg n1,if_pos n3,g]
  simp only[if_neg n1,if_neg n2,if_pos n3,g,rQ hl]
  refine hk _ _ _ (show(b+1-((i+1:Nat):Int)).toNat<m by omega) ⟨i+1,?_,rfl,by omega,by omega,by omega,by omega,rfl⟩
  rw[Int.toNat_natCast,xQ hi]
  have ef:ofB (λx=>(decide (a<=(x:Int))&&decide ((x:Int)<(i:Int)))||decide (x=i))=ofB (λx=>decide (a<=(x:Int))&&decide ((x:Int)<((i+1:Nat):Int))):=by
   refine fe (λx hx=>?_)
   have e1:(decide ((x:Int)<((i+1:Nat):Int)))=(decide ((x:Int)<(i:Int))||decide (x=i)):=by
    rw[<-Bool.decide_or,decide_eq_decide];omega
   rw[e1]
   by_cases hax:a<=(x:Int)
   ·simp[hax]
   ·have:¬x=i:=by omega
    simp[hax,this]
  rw[ef]
 ·rw[decide_eq_false hib,cond_false]
  have ef:ofB (λx=>decide (a<=(x:Int))&&decide ((x:Int)<(i:Int)))=ofB (oP a b):=?_
  ·rw[ef]
  refine fe (λx hx=>?_)
  unfold oP
  rcases Int.lt_or_le b a with hlt|hle
  ·have e:=h4 hlt
   by_cases hax:a<=(x:Int)
   ·have:¬((x:Int)<=b):=by omega
    have:¬((x:Int)<(i:Int)):=by omega
    simp[*]
   ·simp[hax]
  ·have e:=h3 hle
   have:((x:Int)<(i:Int))↔((x:Int)<=b):=by omega
   simp[this]
theorem qe{l m:Nat->Bool}{i n:Nat}(hi:i<4)(hn:n=aI m i):(ofB (λx=>bif decide (x<64*i)then m x else l x)).set i (n:Int)=ofB (λx=>bif decide (x<64*(i+1))then m x else l x):=by
 refine rP hi ?_ (λv j hv hne hj=>?_)
 ·rw[hn]
  refine dW (λj hj=>?_)
  rw[decide_eq_true (by omega)];rfl
 ·have:(64*v+j<64*i)↔(64*v+j<64*(i+1)):=by omega
  simp only[this]
theorem qf{l m:Nat->Bool}:ofB (λx=>bif decide (x<64*4)then m x else l x)=ofB m:=fe λx hx=>by rw[decide_eq_true (by omega)];rfl
theorem xS{l m:Nat->Bool}:ofB l=ofB (λx=>bif decide (x<64*0)then m x else l x):=fe λx hx=>by rw[decide_eq_false (by omega)];rfl
theorem qg{l m:Nat->Bool}{i:Nat}(hi:i<4):(ofB (λx=>bif decide (x<64*i)then m x else l x))[i]?=some ((aI l i:Nat):Int):=by
 have e:aI (λx=>bif decide (x<64*i)then m x else l x) i=aI l i:=dW (λj hj=>by rw[decide_eq_false (by omega)];rfl)
 rw[fK hi,e]
theorem Ga(l m:Nat->Bool):Cv N0 (ofB l,(ofB m,()))=some ((ofB (λx=>l x||m x),()),()):=by
 unfold Cv
 refine au (λmm x r=>∃ (i:Nat) (z:List Int),x=((ofB (λx=>bif decide (x<64*i)then(l x||m x)else l x),(z,())),((i:Int),()))/\mm+i=4/\r=some ((ofB (λx=>l x||m x),()),())) ?_ N0 4 _ _ (by unfold N0;omega) ⟨0,_,by rw[<-xS];rfl,rfl,rfl⟩
 rintro mm x r ⟨i,z,rfl,hm,rfl⟩ k hk
 simp only
 rcases Nat.lt_or_ge i 4 with h|h
 ·have g1:=qg (l:=l) (m:=λx=>l x||m x) h
  have g2:=fK (l:=m) h
  have n0:(0:Int)<=(i:Int):=by omega
  have w3:IntKind.wrap .i64 ((i:Int)+1)=((i+1:Nat):Int):=by rw[<-aM (n:=i+1) (by omega)];rfl
  rw[decide_eq_true (show(i:Int)<4 by omega),cond_true,if_pos n0,Int.toNat_natCast,g1]
  simp only[if_pos n0,g1,g2,w3]
  refine hk (mm-1) _ _ (by omega) ⟨i+1,z,?_,by omega,rfl⟩
  rw[CV (bX _ _) (bX _ _),qe h F5]
 ·have e:i=4:=by omega
  subst e
  rw[decide_eq_false (show ¬(((4:Nat):Int)<4) by omega),cond_false,qf]
theorem Gb(m:Nat->Bool):FB N0 (ofB (λ_=>true),(ofB m,()))=some ((ofB (λx=>!m x),()),()):=by
 unfold FB
 refine au (λmm x r=>∃ (i:Nat) (z:List Int),x=((ofB (λx=>bif decide (x<64*i)then(!m x)else true),(z,())),((i:Int),()))/\mm+i=4/\r=some ((ofB (λx=>!m x),()),())) ?_ N0 4 _ _ (by unfold N0;omega) ⟨0,_,by rw[<-xS];rfl,rfl,rfl⟩
 rintro mm x r ⟨i,z,rfl,hm,rfl⟩ k hk
 simp only
 rcases Nat.lt_or_ge i 4 with h|h
 ·have g1:=qg (l:=λ_=>true) (m:=λx=>!m x) h
  have g2:=fK (l:=m) h
  have n0:(0:Int)<=(i:Int):=by omega
  have w3:IntKind.wrap .i64 ((i:Int)+1)=((i+1:Nat):Int):=by rw[<-aM (n:=i+1) (by omega)];rfl
  have hf:aI (λ_=>true) i=18446744073709551615:=by rw[iN];rfl
  rw[decide_eq_true (show(i:Int)<4 by omega),cond_true,if_pos n0,Int.toNat_natCast,g1]
  simp only[if_pos n0,g1,g2,w3]
  refine hk (mm-1) _ _ (by omega) ⟨i+1,z,?_,by omega,rfl⟩
  rw[wI (bX _ _) (bX _ _),hf,qe h CX]
 ·have e:i=4:=by omega
  subst e
  rw[decide_eq_false (show ¬(((4:Nat):Int)<4) by omega),cond_false,qf]
theorem Gc(m:Nat->Bool):FC N0 (ofB m,())=some ((ofB (λx=>!m x),()),()):=by
 unfold FC
 simp only[xR,aK,Gb]
theorem xT(m:Nat->Bool):na N0 (ofB m,())=some ((cm m,()),()):=by
 unfold na
 have:(decide (ofB m=[0,0,0,0]))=cm m:=by
  rw[Bool.eq_iff_iff,decide_eq_true_eq]
  exact ez
 simp only[this]
theorem xU{c:Int}(h:0<=c/\c<=255):FE N0 ([c],())=some ((ofB (l7 c),()),()):=by
 obtain⟨i,rfl⟩:∃ i:Nat,c=i:=⟨c.toNat,by omega⟩
 have hi:i<256:=by omega
 have hw:i / 64<4:=by omega
 have hl:i % 64<64:=Nat.mod_lt _ (by omega)
 have z:([0,0,0,0]:List Int)=ofB (λ_=>false):=by
  rw[show([0,0,0,0]:List Int)=zS by rfl]
  exact(ez.2 (by unfold cm;rw[List.all_eq_true];intro x _;rfl)).symm
 have w1:IntKind.wrap .u8 (Int.tdiv (i:Int) 64)=((i / 64:Nat):Int):=by rw[CY];exact gm (by omega)
 have w3:IntKind.wrap .i64 ((0:Int)+1)=1:=aJ (by omega) (by omega)
 have g:=fK (l:=λ_=>false) hw
 have n1:¬((64:Int)=0):=by omega
 have n2:¬(((i % 64:Nat):Int)<0):=by omega
 have n3:(0:Int)<=((i / 64:Nat):Int):=by omega
 unfold FE
 refine au (λm x r=>((m=1/\x=(([0,0,0,0],(ofB (λ_=>false),())),((0:Int),())))\/(m=0/\x=(([0,0,0,0],(ofB (l7 (i:Int)),())),((1:Int),()))))/\r=some ((ofB (l7 (i:Int)),()),())) ?_ N0 1 _ _ (by unfold N0;omega) ⟨.inl ⟨rfl,by rw[<-z]⟩,rfl⟩
 rintro m x r ⟨hx,rfl⟩ k hk
 rcases hx with⟨rfl,rfl⟩|⟨rfl,rfl⟩
 ·have l1:decide ((0:Int)<(([(i:Int)]:List Int).length:Nat))=true:=rfl
  have g0:([(i:Int)]:List Int)[((0:Int)).toNat]?=some (i:Int):=rfl
  have n0:(0:Int)<=0:=by omega
  have tn:(((i / 64:Nat):Int)).toNat=i / 64:=Int.toNat_natCast _
  have hs:=xQ (f:=λ_=>false) hi
  have ef:ofB (λx=>false||decide (x=i))=ofB (l7 (i:Int)):=fe λx hx=>by
   unfold l7
   rw[Bool.false_or,decide_eq_decide];omega
  have sh:=rQ hl
  rw[l1,cond_true,if_pos n0,g0]
  simp only[if_neg n1,w1,if_pos n3,tn,g]
  simp only[CZ,if_neg n2,if_pos n3,tn,g,sh,w3,hs,ef]
  exact hk 0 _ _ (by omega) ⟨.inr ⟨rfl,rfl⟩,rfl⟩
 ·have l1:decide ((1:Int)<(([(i:Int)]:List Int).length:Nat))=false:=rfl
  rw[l1,cond_false]
end
noncomputable section
def Bytes(s:List Int):Prop:=∀ c∈s,0<=c/\c<=255
theorem Bytes.get{s:List Int}(h:Bytes s){i:Nat}{c:Int}(hc:s[i]?=some c):0<=c/\c<=255:=h c (List.mem_of_getElem? hc)
theorem Bytes.drop{s:List Int}(h:Bytes s)(i:Nat):Bytes (s.drop i):=λc hc=>h c (List.mem_of_mem_drop hc)
theorem xV{c:Int}(h:0<=c/\c<=255):wB N0 (c,())=some (((kX c).getD (-1),()),()):=by
 unfold wB kX
 simp only[aP]
 by_cases h1:(48:Int)<=c
 ·by_cases h2:c<=(57:Int)
  ·have w1:IntKind.wrap .u8 (c-48)=c-48:=fi ⟨by simp[kLo];omega,by simp[kHi];omega⟩
   have w2:IntKind.wrap .i64 (c-48)=c-48:=aJ (by omega) (by omega)
   simp[h1,h2,w1,w2]
  ·by_cases h3:(97:Int)<=c
   ·by_cases h4:c<=(102:Int)
    ·have w1:IntKind.wrap .u8 (c-97)=c-97:=fi ⟨by simp[kLo];omega,by simp[kHi];omega⟩
     have w2:IntKind.wrap .i64 (c-97)=c-97:=aJ (by omega) (by omega)
     have w3:IntKind.wrap .i64 (c-97+10)=c-97+10:=aJ (by omega) (by omega)
     have e:c-97+10=c-87:=by omega
     rw[e]at w3
     simp[h1,h2,h3,h4,w1,w2,w3,e]
    ·simp[h1,h2,h3,h4]
   ·simp[h1,h2,h3]
 ·have h3:¬(97:Int)<=c:=by omega
  simp[h1,h3]
theorem j7{c v:Int}(h:kX c=some v):0<=v/\v<=15:=by
 unfold kX at h
 split at h
 ·injection h with h;omega
 ·split at h
  ·injection h with h;omega
  ·cases h
theorem O9:∀ a b:Fin 16,IntKind.wrap .u8 (ek .or .i64 (IntKind.wrap .i64 (((a.val:Nat):Int)*2 ^ (Nat.min (Int.toNat (4:Int)) (IntKind.bits .i64)))) ((b.val:Nat):Int))=16*((a.val:Nat):Int)+((b.val:Nat):Int):=by decide
theorem C0{a b:Int}(ha:0<=a/\a<=15)(hb:0<=b/\b<=15):IntKind.wrap .u8 (ek .or .i64 (IntKind.wrap .i64 (a*2 ^ (Nat.min (Int.toNat (4:Int)) (IntKind.bits .i64)))) b)=16*a+b:=by
 have:=O9 ⟨a.toNat,by omega⟩ ⟨b.toNat,by omega⟩
 simp only[Int.toNat_of_nonneg ha.1,Int.toNat_of_nonneg hb.1]at this
 exact this
def rdR(o:Option (Int×Nat)):Int×(Int×(Bool×Unit)):=match o with
 |some (c,n)=>(c,((n:Int),(true,())))
 |none=>(0,(0,(false,())))
theorem Gd{t:List Int}(hb:Bytes t):FA N0 (t,())=some (rdR (rdS t),()):=by
 unfold FA
 simp only[aP]
 cases t with
 |nil=>rfl
 |cons c r=>
  have e0:decide ((c::r:List Int)=[])=false:=rfl
  have n0:(0:Int)<=0:=by omega
  have g0:(c::r)[((0:Int)).toNat]?=some c:=rfl
  rw[e0,cond_false,if_pos n0,g0]
  simp only[if_pos n0]
  by_cases hc:c=92
  ·subst hc
   simp only[decide_true,Bool.not_true,cond_false]
   cases r with
   |nil=>rfl
   |cons d r2=>
    have hd:=hb d (by simp)
    have el:decide ((((92::d::r2:List Int).length:Nat):Int)<2)=false:=by
     rw[decide_eq_false_iff_not];simp;omega
    have g1:(92::d::r2:List Int)[((1:Int)).toNat]?=some d:=rfl
    have n1:(0:Int)<=1:=by omega
    rw[el,cond_false,if_pos n1,g1]
    simp only[rdS,ne_eq,not_true_eq_false,if_false]
    by_cases h1:d=110
    ·subst h1;rfl
    by_cases h2:d=116
    ·subst h2;rfl
    by_cases h3:d=114
    ·subst h3;rfl
    simp only[h1,h2,h3,decide_false,cond_false,if_false]
    by_cases h4:d=120
    ·subst h4
     simp only[decide_true,cond_true,if_true]
     cases r2 with
     |nil=>rfl
     |cons x r3=>
      cases r3 with
      |nil=>rfl
      |cons y r4=>
       have hx:=hb x (by simp)
       have hy:=hb y (by simp)
       have l4:decide ((4:Int)<=(((92::120::x::y::r4:List Int).length:Nat):Int))=true:=by
        rw[decide_eq_true_eq];simp;omega
       have n2:(0:Int)<=2:=by omega
       have n3:(0:Int)<=3:=by omega
       have g2:(92::120::x::y::r4:List Int)[((2:Int)).toNat]?=some x:=rfl
       have g3:(92::120::x::y::r4:List Int)[((3:Int)).toNat]?=some y:=rfl
       have n4:¬((4:Int)<0):=by omega
       rw[l4,cond_true,if_pos n2,g2]
       simp only[if_pos n2,if_pos n3,g3,xV hx,xV hy,aK,if_neg n4]
       cases hvx:kX x with
       |none=>
        have:decide ((0:Int)<=(none:Option Int).getD (-1))=false:=rfl
        rw[this]
        rfl
       |some a=>
        have ha:=j7 hvx
        have:decide ((0:Int)<=(some a).getD (-1))=true:=by simpa using ha.1
        rw[this]
        simp only[cond_true]
        cases hvy:kX y with
        |none=>
         have:decide ((0:Int)<=(none:Option Int).getD (-1))=false:=rfl
         rw[this]
         rfl
        |some b=>
         have hb2:=j7 hvy
         have:decide ((0:Int)<=(some b).getD (-1))=true:=by simpa using hb2.1
         rw[this]
         simp only[cond_true,Option.getD_some,C0 ha hb2]
         rfl
    ·simp only[h4,decide_false,cond_false,if_false]
     by_cases h5:d=0
     ·subst h5;rfl
     simp only[h5,decide_false,cond_false]
     have hif:(iX d=true\/d<32\/126<d)↔((iX d||(decide (d<32)||decide (126<d)))=true):=by simp
     simp only[hif]
     unfold iX
     generalize decide ((48:Int)<=d)=b1
     generalize decide (d<=(57:Int))=b2
     generalize decide ((97:Int)<=d)=b3
     generalize decide (d<=(122:Int))=b4
     generalize decide ((65:Int)<=d)=b5
     generalize decide (d<=(90:Int))=b6
     generalize decide (d<(32:Int))=b7
     generalize decide ((126:Int)<d)=b8
     revert b1 b2 b3 b4 b5 b6 b7 b8
     intro b1 b2 b3 b4 b5 b6 b7 b8
     cases b1 <;> cases b2 <;> cases b3 <;> cases b4 <;> cases b5 <;> cases b6 <;> cases b7 <;> cases b8 <;> rfl
  ·have hc2:decide (c=92)=false:=decide_eq_false hc
   rw[hc2]
   simp only[Bool.not_false,cond_true,rdS,ne_eq,hc,not_false_eq_true,if_true]
   rfl
theorem gn{t:List Int}(hb:Bytes t){c:Int}{n:Nat}(h:rdS t=some (c,n)):(0<=c/\c<=255)/\0<n/\n<=t.length:=by
 unfold rdS at h
 cases t with
 |nil=>cases h
 |cons a r=>
  have ha:=hb a (by simp)
  simp only at h
  split at h
  ·injection h with h;injection h with h1 h2;subst h1;subst h2;simp;omega
  ·cases r with
   |nil=>cases h
   |cons d r2=>
    have hd:=hb d (by simp)
    simp only at h
    split at h
    ·injection h with h;injection h with h1 h2;subst h1;subst h2;simp
    split at h
    ·injection h with h;injection h with h1 h2;subst h1;subst h2;simp
    split at h
    ·injection h with h;injection h with h1 h2;subst h1;subst h2;simp
    split at h
    ·split at h
     ·rename_i x y r4
      split at h
      ·rename_i u v hu hv
       have h1:=j7 hu
       have h2:=j7 hv
       injection h with h;injection h with h3 h4;subst h3;subst h4;simp;omega
      ·cases h
     ·cases h
    ·split at h
     ·cases h
     ·injection h with h;injection h with h1 h2;subst h1;subst h2;simp;omega
def kst(s:List Int)(i:Nat)(d:Int):List Int×(Int×Int):=(s,((i:Int),d))
def jI(s:List Int)(i:Nat)(l:List Int):Bool:=decide (s.length<=i)||l.any λb=>decide (ch s i=b)
theorem eA{s:List Int}{i:Nat}(h:i<s.length):s[i]?=some (ch s i):=by unfold ch;rw[List.getElem?_eq_getElem h];rfl
theorem lc(s:List Int)(hs:s.length<=maxLen)(i:Nat)(d:Int)(l:List Int)(hl:l.length<=maxLen):ua N0 (kst s i d,(l,()))=some ((jI s i l,()),(kst s i d,())):=by
 unfold ua kst jI
 simp only
 rcases Nat.lt_or_ge i s.length with hi|hi
 ·have e1:decide (((s.length:Nat):Int)<=(i:Int))=false:=decide_eq_false (by omega)
  have e2:decide (s.length<=i)=false:=decide_eq_false (by omega)
  rw[e1,cond_false,e2,Bool.false_or]
  refine au (λm x r=>∃ j:Nat,x=(((s,((i:Int),d)),()),((j:Int),()))/\m+j=l.length/\r=some (((l.drop j).any (λb=>decide (ch s i=b)),()),((s,((i:Int),d)),()))) ?_ N0 l.length _ _ (by have:=eL hl;omega) ⟨0,rfl,rfl,by rw[List.drop_zero]⟩
  rintro m x r ⟨j,rfl,hm,rfl⟩ k hk
  simp only
  rcases Nat.lt_or_ge j l.length with hj|hj
  ·have n0:(0:Int)<=(i:Int):=by omega
   have n1:(0:Int)<=(j:Int):=by omega
   rw[decide_eq_true (show(j:Int)<((l.length:Nat):Int) by omega),cond_true,if_pos n0,Int.toNat_natCast,eA hi]
   simp only[if_pos n1,Int.toNat_natCast,List.getElem?_eq_getElem hj,aC hj hl]
   rw[List.drop_eq_getElem_cons hj,List.any_cons]
   cases hd:decide (ch s i=l[j])
   ·rw[cond_false,Bool.false_or]
    exact hk (m-1) _ _ (by omega) ⟨j+1,rfl,by omega,rfl⟩
   ·rw[cond_true,Bool.true_or]
  ·rw[decide_eq_false (show ¬(j:Int)<((l.length:Nat):Int) by omega),cond_false,List.drop_of_length_le hj]
   rfl
 ·have e1:decide (((s.length:Nat):Int)<=(i:Int))=true:=decide_eq_true (by omega)
  have e2:decide (s.length<=i)=true:=decide_eq_true hi
  rw[e1,e2]
  rfl
def cG(s:List Int)(i:Nat)(c:Int):Bool:=decide (i<s.length)&&decide (ch s i=c)
theorem j8(s:List Int)(hs:s.length<=maxLen)(i:Nat)(d:Int)(c:Int):ki N0 (kst s i d,(c,()))=some ((cG s i c,()),(kst s (if cG s i c=true then i+1 else i) d,())):=by
 unfold ki kst cG
 simp only[aP]
 rcases Nat.lt_or_ge i s.length with hi|hi
 ·have n0:(0:Int)<=(i:Int):=by omega
  rw[decide_eq_true (show(i:Int)<((s.length:Nat):Int) by omega),cond_true,if_pos n0,Int.toNat_natCast,eA hi,decide_eq_true hi]
  simp only[Bool.true_and,decide_eq_true_eq]
  by_cases h:ch s i=c
  ·simp only[h,decide_true,cond_true,if_true,aC hi hs]
  ·simp only[h,decide_false,cond_false,if_false]
 ·rw[decide_eq_false (show ¬(i:Int)<((s.length:Nat):Int) by omega),cond_false,decide_eq_false (by omega)]
  simp
def rdK(s:List Int)(i:Nat)(d:Int):(Int×(Bool×Unit))×((List Int×(Int×Int))×Unit):=match rdS (s.drop i)with
 |some (c,n)=>((c,(true,())),(kst s (i+n) d,()))
 |none=>((0,(false,())),(kst s i d,()))
theorem rR{s:List Int}(hb:Bytes s)(hs:s.length<=maxLen){i:Nat}(hi:i<=s.length)(d:Int):z5 N0 (kst s i d,())=some (rdK s i d):=by
 unfold z5 kst
 simp only
 have hc:(0:Int)<=(i:Int)/\(i:Int)<=((s.length:Nat):Int)/\((s.length:Nat):Int)<=((s.length:Nat):Int):=⟨by omega,by omega,by omega⟩
 have l9:aY s (i:Int) ((s.length:Nat):Int)=s.drop i:=by
  unfold aY
  simp only[Int.toNat_natCast]
  exact List.take_of_length_le (by simp)
 rw[if_pos hc,l9,aa (Gd (hb.drop i))]
 unfold rdK rdR kst
 cases hr:rdS (s.drop i)with
 |none=>
  simp only[Int.add_zero]
  rw[aM (by unfold maxLen at hs;omega)]
 |some p=>
  obtain⟨c,n⟩:=p
  obtain⟨_,h1,h2⟩:=gn (hb.drop i) hr
  rw[List.length_drop]at h2
  simp only
  have:((i:Int)+(n:Int))=((i+n:Nat):Int):=by omega
  rw[this,aM (by unfold maxLen at hs;omega)]
end
noncomputable section
theorem bC{A R:Type}{body:A->(A->Option R)->Option R}(I:Nat->A->Prop)(Q:Option R->Prop)
 (step:∀ m x,I m x->∀ k,(∀ m' y,m' < m->I m' y->Q (k y))->Q (body x k)):∀ n m x,m<n->I m x->Q (ap body n x):=by
 intro n
 induction n with
 |zero=>intro m x h;omega
 |succ n ih=>
  intro m x h hi
  rw[bL]
  exact step m x hi _ (λm' y hm hi'=>ih m' y (by omega) hi')
def OkP(s:List Int)(d:Int)(B:Nat)(o:Option (Rx×Nat))(z:Option ((List Pc×(Bool×Unit))×((List Int×(Int×Int))×Unit))):Prop:=
 match o with
 |some (t,j)=>z=some ((t.post,(true,())),(kst s j d,()))
 |none=>∃ r k,z=some ((r,(false,())),(k,()))/\r.length<=B
def iZ(s:List Int)(nt:Bool)(o:Option ((Nat->Bool)×Nat)):Option (Rx×Nat):=
 match o with
 |none=>none
 |some (l,j)=>if s.length<=j\/cm (if nt=true then λx=>!l x else l)=true then none else some (.set (ofB (if nt=true then λx=>!l x else l)),j+1)
theorem oR(s:List Int)(i:Nat):brS s i=iZ s (cG s i 94) (brL s s.length.succ (if cG s i 94=true then i+1 else i) (λ_=>false)):=by
 unfold brS iZ cG
 rfl
theorem Kh(s:List Int)(i:Nat)(a:Int)(l:List Int):jI s i (a::l)=(jI s i l||decide (ch s i=a)):=by
 unfold jI
 rw[List.any_cons]
 cases decide (s.length<=i) <;> cases decide (ch s i=a) <;> simp
theorem Ge{s:List Int}(hb:Bytes s)(hs:s.length<=maxLen){i:Nat}(hi:i<=s.length)(d:Int):OkP s d 1 (brS s i) (FD N0 (kst s i d,())):=by
 rw[oR]
 unfold FD
 simp only[aP]
 rw[aa (j8 s hs i d 94)]
 simp only
 generalize hnt:cG s i 94=nt
 have hi1:(if nt=true then i+1 else i)<=s.length:=by
  split
  ·rename_i h
   rw[<-hnt]at h
   unfold cG at h
   simp at h
   omega
  ·exact hi
 generalize (if nt=true then i+1 else i)=i1 at hi1
 have hz:([0,0,0,0]:List Int)=ofB (λ_=>false):=by
  rw[show([0,0,0,0]:List Int)=zS by rfl]
  exact(ez.2 (by unfold cm;rw[List.all_eq_true];intro x _;rfl)).symm
 generalize a8:brL s s.length.succ i1 (λ_=>false)=res
 refine bC (λm x=>∃ (i:Nat) (f:Nat->Bool) (aS:Nat),x=((kst s i d,(ofB f,())),())/\i<=s.length/\s.length-i<aS/\m=s.length-i/\brL s aS i f=res) (OkP s d 1 (iZ s nt res)) ?_ N0 (s.length-i1) _ (by have:=eL hs;omega) ⟨i1,_,s.length.succ,by rw[<-hz],hi1,by omega,rfl,a8⟩
 rintro m x ⟨i,f,aS,rfl,hi,hf,hm,hr⟩ k hk
 obtain⟨aS,rfl⟩:∃ q,aS=q+1:=⟨aS-1,by omega⟩
 simp only[brL]at hr
 rw[aa (lc s hs i d [93] (by simp[maxLen]))]
 simp only
 by_cases iO:s.length<=i\/ch s i=93
 ·-- the end
  rw[if_pos iO]at hr
  have hc:jI s i [93]=true:=by
   unfold jI
   rcases iO with h|h
   ·simp[h]
   ·simp[h]
  rw[hc]
  simp only[Bool.not_true,cond_false]
  subst hr
  have bf:∀ g:Nat->Bool,OkP s d 1 (if s.length<=i\/cm g=true then none else some (.set (ofB g),i+1)) (ae (ki N0 (kst s i d,(93,()))) λv21=>bif v21.1.1 then ae (na N0 (ofB g,())) λv22=>some (([((1:Int),ofB g)],(!v22.1.1,())),(v21.2.1,()))else some (([((1:Int),ofB g)],(false,())),(v21.2.1,()))):=by
   intro g
   rw[aa (j8 s hs i d 93)]
   simp only
   rcases Nat.lt_or_ge i s.length with h|h
   ·have h93:ch s i=93:=iO.resolve_left (by omega)
    have he:cG s i 93=true:=by unfold cG;simp[h,h93]
    rw[he]
    simp only[cond_true,if_true,xT,aK]
    cases hem:cm g
    ·have:¬(s.length<=i\/(false=true)):=by simp;omega
     rw[if_neg this]
     rfl
    ·rw[if_pos (.inr rfl)]
     exact⟨_,_,rfl,by simp⟩
   ·have he:cG s i 93=false:=by unfold cG;simp;omega
    rw[he,if_pos (.inl h)]
    exact⟨_,_,rfl,by simp⟩
  unfold iZ
  cases nt
  ·exact bf f
  ·simp only[cond_true,Gc,aK,if_true]
   exact bf λx=>!f x
 ·rw[if_neg iO]at hr
  have hlt:i<s.length:=by omega
  have hc:jI s i [93]=false:=by
   unfold jI
   have h1:¬s.length<=i:=by omega
   have h2:¬ch s i=93:=λh=>iO (.inr h)
   simp[h1,h2]
  rw[hc]
  simp only[Bool.not_false,cond_true]
  rw[aa (lc s hs i d [94,45,47,34] (by simp[maxLen]))]
  simp only
  have hc2:jI s i [94,45,47,34]=decide (ch s i∈([94,45,47,34]:List Int)):=by
   unfold jI
   have h1:¬s.length<=i:=by omega
   rw[decide_eq_false h1,Bool.false_or,Bool.eq_iff_iff,decide_eq_true_eq,List.any_eq_true]
   simp
  rw[hc2]
  by_cases hin:ch s i∈([94,45,47,34]:List Int)
  ·rw[if_pos hin]at hr
   rw[decide_eq_true hin,cond_true]
   subst hr
   exact⟨_,_,rfl,by simp⟩
  rw[if_neg hin]at hr
  rw[decide_eq_false hin,cond_false,aa (rR hb hs hi d)]
  unfold rdK
  cases hrd:rdS (s.drop i)with
  |none=>
   rw[hrd]at hr
   simp only at hr
   subst hr
   exact⟨_,_,rfl,by simp⟩
  |some p=>
   obtain⟨a,n⟩:=p
   rw[hrd]at hr
   simp only at hr
   simp only[Bool.not_true,cond_false]
   obtain⟨ha,hn1,hn2⟩:=gn (hb.drop i) hrd
   rw[List.length_drop]at hn2
   rw[aa (j8 s hs (i+n) d 45)]
   simp only
   -- Bk goes on with a range
   have go:∀ (j:Nat) (b:Int),j<=s.length->i<j->(0<=b/\b<=255)->brL s aS j (λx=>f x||oP a b x)=res->
    OkP s d 1 (iZ s nt res) (ae (Cu N0 (a,(b,()))) λv11=>ae (Cv N0 (ofB f,(v11.1.1,()))) λv12=>k ((kst s j d,(v12.1.1,())),())):=by
    intro j b hj hij hbb a8
    rw[aa (F6 ha hbb)]
    simp only
    rw[aa (Ga f (oP a b))]
    exact hk (s.length-j) _ (by omega) ⟨j,_,aS,rfl,hj,by omega,rfl,a8⟩
   by_cases hd:i+n<s.length/\ch s (i+n)=45
   ·rw[if_pos hd]at hr
    have he:cG s (i+n) 45=true:=by unfold cG;simp[hd.1,hd.2]
    rw[he]
    simp only[cond_true,if_true]
    rw[aa (lc s hs (i+n+1) d [93,94,45,47,34] (by simp[maxLen]))]
    simp only
    have hc3:jI s (i+n+1) [93,94,45,47,34]=decide (s.length<=i+n+1\/ch s (i+n+1)∈([93,94,45,47,34]:List Int)):=by
     unfold jI
     rw[Bool.eq_iff_iff,Bool.or_eq_true,decide_eq_true_eq,decide_eq_true_eq,List.any_eq_true]
     simp
    rw[hc3]
    by_cases h4:s.length<=i+n+1\/ch s (i+n+1)∈([93,94,45,47,34]:List Int)
    ·rw[if_pos h4]at hr
     rw[decide_eq_true h4,cond_true]
     subst hr
     exact⟨_,_,rfl,by simp⟩
    rw[if_neg h4]at hr
    rw[decide_eq_false h4,cond_false,aa (rR hb hs (show i+n+1<=s.length by omega) d)]
    unfold rdK
    cases uv:rdS (s.drop (i+n+1))with
    |none=>
     rw[uv]at hr
     simp only at hr
     subst hr
     exact⟨_,_,rfl,by simp⟩
    |some p2=>
     obtain⟨b,n2⟩:=p2
     rw[uv]at hr
     simp only at hr
     simp only[Bool.not_true,cond_false]
     obtain⟨hbb,hn3,hn4⟩:=gn (hb.drop _) uv
     rw[List.length_drop]at hn4
     by_cases hba:b<a
     ·rw[if_pos hba]at hr
      rw[decide_eq_true hba,cond_true]
      subst hr
      exact⟨_,_,rfl,by simp⟩
     ·rw[if_neg hba]at hr
      rw[decide_eq_false hba,cond_false]
      exact go (i+n+1+n2) b (by omega) (by omega) hbb hr
   ·rw[if_neg hd]at hr
    have he:cG s (i+n) 45=false:=by
     unfold cG
     rw[Bool.and_eq_false_iff,decide_eq_false_iff_not,decide_eq_false_iff_not]
     by_cases h:i+n<s.length
     ·exact .inr λh2=>hd ⟨h,h2⟩
     ·exact .inl h
    rw[he]
    simp only[cond_false,Bool.false_eq_true,if_false]
    exact go (i+n) a (by omega) (by omega) ha hr
end
noncomputable section
def Res(s:List Int)(i:Nat)(t:Rx)(j:Nat):Prop:=i<j/\j<=s.length/\t.len+1<=2*(j-i)/\t.ok
def gz(s:List Int)(i:Nat)(o:Option (Rx×Nat)):Prop:=∀ t j,o=some (t,j)->Res s i t j
theorem wJ{l:Nat->Bool}(h:cm l=false):(Rx.set (ofB l)).ok:=⟨rfl,(λe=>by rw[ez.1 e]at h;cases h),Jp l⟩
theorem wK:cm (λ_=>true)=false:=by
 unfold cm
 rw[List.all_eq_false]
 exact⟨0,by simp,by simp⟩
theorem Al{c:Int}(h:0<=c/\c<=255):cm (l7 c)=false:=by
 unfold cm
 rw[List.all_eq_false]
 refine⟨c.toNat,List.mem_range.2 (by omega),?_⟩
 unfold l7
 simp
 omega
theorem xW{s:List Int}(hb:Bytes s):∀ (m i:Nat) (l:Nat->Bool) (r:Nat->Bool) (j:Nat),brL s m i l=some (r,j)->i<=j:=by
 intro m
 induction m with
 |zero=>intro i l r j h;cases h
 |succ m ih=>
  intro i l r j h
  simp only[brL]at h
  split at h
  ·injection h with h;injection h with h1 h2;omega
  split at h
  ·cases h
  split at h
  ·cases h
  rename_i a n hrd
  have hn:=(gn (hb.drop i) hrd).2.1
  split at h
  ·split at h
   ·cases h
   split at h
   ·cases h
   rename_i b n2 uv
   split at h
   ·cases h
   have:=ih _ _ _ _ h
   omega
  ·have:=ih _ _ _ _ h
   omega
theorem rS{s:List Int}(hb:Bytes s){i0 i:Nat}(hi:i0<i):gz s i0 (brS s i):=by
 intro t j h
 rw[oR]at h
 unfold iZ at h
 split at h
 ·cases h
 rename_i l k hl
 generalize (if cG s i 94=true then λx=>!l x else l)=l' at h
 split at h
 ·cases h
 rename_i hn
 injection h with h
 injection h with h1 h2
 subst h1;subst h2
 have h1:=xW hb _ _ _ _ _ hl
 have h2:i<=k:=by
  refine Nat.le_trans ?_ h1
  split <;> omega
 have hne:¬s.length<=k:=λe=>hn (.inl e)
 have hem:=λe=>hn (.inr e)
 refine⟨by omega,by omega,by simp only[Rx.len];omega,wJ ?_⟩
 simpa using hem
theorem oS{s:List Int}(hb:Bytes s){inner:Nat->Nat->Option (Rx×Nat)}{i d:Nat}(hin:gz s (i+1) (inner (i+1) (d+1))):gz s i (hY inner s i d):=by
 intro t j h
 unfold hY at h
 split at h
 ·cases h
 rename_i iO
 have hlt:i<s.length:=by
  rcases Nat.lt_or_ge i s.length with h|h
  ·exact h
  ·exact absurd (.inl h) iO
 split at h
 ·injection h with h;injection h with h1 h2;subst h1;subst h2
  exact⟨by omega,by omega,by simp only[Rx.len];omega,wJ wK⟩
 split at h
 ·injection h with h;injection h with h1 h2;subst h1;subst h2
  exact⟨by omega,by omega,by simp only[Rx.len];omega,trivial⟩
 split at h
 ·exact rS hb (by omega) t j h
 split at h
 ·split at h
  ·cases h
  split at h
  ·cases h
  rename_i t2 j2 hi2
  obtain⟨q1,q2,q3,q4⟩:=hin _ _ hi2
  split at h
  ·rename_i hj
   injection h with h;injection h with h1 h2;subst h1;subst h2
   exact⟨by omega,by omega,by omega,q4⟩
  ·cases h
 split at h
 ·cases h
 rename_i c n hrd
 obtain⟨h1,h2,h3⟩:=gn (hb.drop i) hrd
 rw[List.length_drop]at h3
 injection h with h;injection h with h4 h5;subst h4;subst h5
 exact⟨by omega,by omega,by simp only[Rx.len];omega,wJ (Al h1)⟩
theorem ma(c:Int):eQ c=4\/eQ c=5\/eQ c=6:=by unfold eQ;split;exact .inl rfl;split;exact .inr (.inl rfl);exact .inr (.inr rfl)
theorem C1{s:List Int}:∀ (m i0 i:Nat) (t0 t:Rx) (j:Nat),Res s i0 t0 i->kz s m i t0=some (t,j)->Res s i0 t j:=by
 intro m
 induction m with
 |zero=>intro i0 i t0 t j _ h;cases h
 |succ m ih=>
  intro i0 i t0 t j hr h
  simp only[kz]at h
  split at h
  ·rename_i hc
   refine ih i0 (i+1) _ t j ?_ h
   obtain⟨q1,q2,q3,q4⟩:=hr
   exact⟨by omega,by omega,by simp only[Rx.len];omega,ma _,q4⟩
  ·injection h with h;injection h with h1 h2;subst h1;subst h2;exact hr
theorem ld{s:List Int}(hb:Bytes s){inner:Nat->Nat->Option (Rx×Nat)}{i d:Nat}(hin:gz s (i+1) (inner (i+1) (d+1))):gz s i (gk inner s i d):=by
 intro t j h
 unfold gk at h
 split at h
 ·cases h
 rename_i t0 i0 h0
 exact C1 _ i i0 t0 t j (oS hb hin _ _ h0) h
theorem C2{s:List Int}(hb:Bytes s){inner:Nat->Nat->Option (Rx×Nat)}{d:Nat}(n:Nat)(hin:∀ i d,s.length-i<n->gz s i (inner i d)):∀ (m i0 i:Nat) (t0 t:Rx) (j:Nat),Res s i0 t0 i->s.length-i0<=n->kY inner s d m i t0=some (t,j)->Res s i0 t j:=by
 intro m
 induction m with
 |zero=>intro i0 i t0 t j _ _ h;cases h
 |succ m ih=>
  intro i0 i t0 t j hr hn h
  simp only[kY]at h
  split at h
  ·rename_i hc
   split at h
   ·cases h
   rename_i t2 j2 h2
   obtain⟨q1,q2,q3,q4⟩:=hr
   obtain⟨p1,p2,p3,p4⟩:=ld hb (hin (i+1) (d+1) (by omega)) _ _ h2
   refine ih i0 j2 _ t j ?_ hn h
   exact⟨by omega,p2,by simp only[Rx.len];omega,q4,p4⟩
  ·injection h with h;injection h with h1 h2;subst h1;subst h2;exact hr
theorem lg{s:List Int}(hb:Bytes s){inner:Nat->Nat->Option (Rx×Nat)}{i d:Nat}(n:Nat)(hin:∀ i d,s.length-i<n->gz s i (inner i d))(hn:s.length-i<=n):gz s i (gy inner s i d):=by
 intro t j h
 unfold gy at h
 split at h
 ·cases h
 rename_i t0 i0 h0
 rcases Nat.lt_or_ge i s.length with hlt|hge
 ·exact C2 hb n hin _ i i0 t0 t j (ld hb (hin (i+1) (d+1) (by omega)) _ _ h0) hn h
 ·exfalso
  unfold gk hY at h0
  rw[if_pos (.inl hge)]at h0
  cases h0
theorem C3{s:List Int}(hb:Bytes s){inner:Nat->Nat->Option (Rx×Nat)}{d:Nat}(n:Nat)(hin:∀ i d,s.length-i<n->gz s i (inner i d)):∀ (m i0 i:Nat) (t0 t:Rx) (j:Nat),Res s i0 t0 i->s.length-i0<=n->kZ inner s d m i t0=some (t,j)->Res s i0 t j:=by
 intro m
 induction m with
 |zero=>intro i0 i t0 t j _ _ h;cases h
 |succ m ih=>
  intro i0 i t0 t j hr hn h
  simp only[kZ]at h
  split at h
  ·rename_i hc
   split at h
   ·cases h
   rename_i t2 j2 h2
   obtain⟨q1,q2,q3,q4⟩:=hr
   obtain⟨p1,p2,p3,p4⟩:=lg hb n hin (by omega) _ _ h2
   refine ih i0 j2 _ t j ?_ hn h
   exact⟨by omega,p2,by simp only[Rx.len];omega,q4,p4⟩
  ·injection h with h;injection h with h1 h2;subst h1;subst h2;exact hr
theorem fu{s:List Int}(hb:Bytes s):∀ (n i d:Nat),s.length-i<n->gz s i (fJ s n i d):=by
 intro n
 induction n with
 |zero=>intro i d h;omega
 |succ n ih=>
  intro i d hn t j h
  simp only[fJ,us]at h
  split at h
  ·cases h
  rename_i t0 i0 h0
  exact C3 hb n ih _ i i0 t0 t j (lg hb n ih (by omega) _ _ h0) (by omega) h
end
noncomputable section
theorem rT(k:Int):ub N0 (k,())=some ((if k=0\/k=1 then 0 else if k=4\/k=5\/k=6 then 1 else if k=2\/k=3 then 2 else -1,()),()):=by
 unfold ub
 simp only[aP]
 by_cases h0:k=0
 ·subst h0;rfl
 by_cases h1:k=1
 ·subst h1;rfl
 by_cases h2:k=2
 ·subst h2;rfl
 by_cases h3:k=3
 ·subst h3;rfl
 by_cases h4:k=4
 ·subst h4;rfl
 by_cases h5:k=5
 ·subst h5;rfl
 by_cases h6:k=6
 ·subst h6;rfl
 simp[h0,h1,h2,h3,h4,h5,h6]
theorem uw{a b:Nat}(ha:a<=1000000)(hb:b<=1000000):((a+b)*40<=140737488355328)/\(a+b<=9223372036854775807):=by omega
theorem C4{k:Int}(hk:k=4\/k=5\/k=6){l:List Pc}(hl:l.length<=1000000):oL N0 (k,([l],()))=some ((l++[(k,zS)],()),()):=by
 have ht:(if k=0\/k=1 then(0:Int)else if k=4\/k=5\/k=6 then 1 else if k=2\/k=3 then 2 else -1)=1:=by
  have:¬(k=0\/k=1):=by omega
  rw[if_neg this,if_pos hk]
 unfold oL
 simp only[aP,rT,ht,aK]
 have e1:(!(decide ((1:Int)=(([l]:List (List Pc)).length:Nat))))=false:=rfl
 have e2:decide (((([l]:List (List Pc)).length:Nat):Int)=0)=false:=rfl
 rw[e1,cond_false,e2,cond_false]
 refine au (λm x r=>((m=1/\x=((),(([]:List Pc),((0:Int),()))))\/(m=0/\x=((),(l,((1:Int),())))))/\r=some ((l++[(k,zS)],()),())) ?_ N0 1 _ _ (by unfold N0;omega) ⟨.inl ⟨rfl,rfl⟩,rfl⟩
 rintro m x r ⟨hx,rfl⟩ kk hkk
 rcases hx with⟨rfl,rfl⟩|⟨rfl,rfl⟩
 ·have l1:decide ((0:Int)<(([l]:List (List Pc)).length:Nat))=true:=rfl
  have g0:([l]:List (List Pc))[((0:Int)).toNat]?=some l:=rfl
  have n0:(0:Int)<=0:=by omega
  obtain⟨f1,f2⟩:=uw (a:=([]:List Pc).length) (b:=l.length) (by simp) hl
  have w3:IntKind.wrap .i64 ((0:Int)+1)=1:=aJ (by omega) (by omega)
  rw[l1,cond_true,if_pos n0,g0]
  simp only[if_pos f1,if_pos f2,w3,List.nil_append]
  exact hkk 0 _ _ (by omega) ⟨.inr ⟨rfl,rfl⟩,rfl⟩
 ·have l1:decide ((1:Int)<(([l]:List (List Pc)).length:Nat))=false:=rfl
  obtain⟨f1,f2⟩:=uw (a:=l.length) (b:=([(k,[0,0,0,0])]:List Pc).length) hl (by simp)
  rw[l1,cond_false,if_pos f1,if_pos f2]
  rfl
theorem lh{k:Int}(hk:k=2\/k=3){l l2:List Pc}(hl:l.length<=100000)(hl2:l2.length<=100000):oL N0 (k,([l,l2],()))=some ((l++l2++[(k,zS)],()),()):=by
 have ht:(if k=0\/k=1 then(0:Int)else if k=4\/k=5\/k=6 then 1 else if k=2\/k=3 then 2 else -1)=2:=by
  have h1:¬(k=0\/k=1):=by omega
  have h2:¬(k=4\/k=5\/k=6):=by omega
  rw[if_neg h1,if_neg h2,if_pos hk]
 unfold oL
 simp only[aP,rT,ht,aK]
 have e1:(!(decide ((2:Int)=(([l,l2]:List (List Pc)).length:Nat))))=false:=rfl
 have e2:decide (((([l,l2]:List (List Pc)).length:Nat):Int)=0)=false:=rfl
 rw[e1,cond_false,e2,cond_false]
 refine au (λm x r=>((m=2/\x=((),(([]:List Pc),((0:Int),()))))\/(m=1/\x=((),(l,((1:Int),()))))\/(m=0/\x=((),(l++l2,((2:Int),())))))/\r=some ((l++l2++[(k,zS)],()),())) ?_ N0 2 _ _ (by unfold N0;omega) ⟨.inl ⟨rfl,rfl⟩,rfl⟩
 rintro m x r ⟨hx,rfl⟩ kk hkk
 rcases hx with⟨rfl,rfl⟩|⟨rfl,rfl⟩|⟨rfl,rfl⟩
 ·have l1:decide ((0:Int)<(([l,l2]:List (List Pc)).length:Nat))=true:=rfl
  have g0:([l,l2]:List (List Pc))[((0:Int)).toNat]?=some l:=rfl
  have n0:(0:Int)<=0:=by omega
  obtain⟨f1,f2⟩:=uw (a:=([]:List Pc).length) (b:=l.length) (by simp) (by omega)
  have w3:IntKind.wrap .i64 ((0:Int)+1)=1:=aJ (by omega) (by omega)
  rw[l1,cond_true,if_pos n0,g0]
  simp only[if_pos f1,if_pos f2,w3,List.nil_append]
  exact hkk 1 _ _ (by omega) ⟨.inr (.inl ⟨rfl,rfl⟩),rfl⟩
 ·have l1:decide ((1:Int)<(([l,l2]:List (List Pc)).length:Nat))=true:=rfl
  have g0:([l,l2]:List (List Pc))[((1:Int)).toNat]?=some l2:=rfl
  have n0:(0:Int)<=1:=by omega
  obtain⟨f1,f2⟩:=uw (a:=l.length) (b:=l2.length) (by omega) (by omega)
  have w3:IntKind.wrap .i64 ((1:Int)+1)=2:=aJ (by omega) (by omega)
  rw[l1,cond_true,if_pos n0,g0]
  simp only[if_pos f1,if_pos f2,w3]
  exact hkk 0 _ _ (by omega) ⟨.inr (.inr ⟨rfl,rfl⟩),rfl⟩
 ·have l1:decide ((2:Int)<(([l,l2]:List (List Pc)).length:Nat))=false:=rfl
  obtain⟨f1,f2⟩:=uw (a:=(l++l2).length) (b:=([(k,[0,0,0,0])]:List Pc).length) (by simp;omega) (by simp)
  rw[l1,cond_false,if_pos f1,if_pos f2]
  rfl
abbrev RdF:=(List Int×(Int×Int))×Unit->Option ((List Pc×(Bool×Unit))×((List Int×(Int×Int))×Unit))
theorem dx{s:List Int}{i:Nat}{c:Int}(h1:i<s.length)(h2:ch s i=c):cG s i c=true:=by unfold cG;simp[h1,h2]
theorem eR{s:List Int}{i:Nat}{c:Int}(h2:¬ch s i=c):cG s i c=false:=by unfold cG;simp[h2]
theorem Mk{s:List Int}{i:Nat}{c:Int}(h2:s.length<=i):cG s i c=false:=by
 unfold cG
 rw[decide_eq_false (by omega)];rfl
theorem Jq{s:List Int}(hb:Bytes s)(hs:s.length<=1600){q2 q3 q4 q5:RdF}{inner:Nat->Nat->Option (Rx×Nat)}{i d:Nat}(hd:d<=i)
 (hin:i<s.length->OkP s ((d+1:Nat):Int) (2*(s.length-(i+1))) (inner (i+1) (d+1)) (q2 (kst s (i+1) ((d+1:Nat):Int),()))) (a8:gz s (i+1) (inner (i+1) (d+1))):
 OkP s d (2*(s.length-i)) (hY inner s i d) (uf N0 q2 q3 q4 q5 (kst s i d,())):=by
 have hsm:s.length<=maxLen:=by unfold maxLen;omega
 have mb:=j8 s hsm
 unfold uf
 dsimp only
 rw[aa (lc s hsm i d [124,41,42,43,63,93,47,34] (by simp[maxLen]))]
 simp only
 have hc:jI s i [124,41,42,43,63,93,47,34]=decide (s.length<=i\/ch s i∈([124,41,42,43,63,93,47,34]:List Int)):=by
  unfold jI
  rw[Bool.eq_iff_iff,Bool.or_eq_true,decide_eq_true_eq,decide_eq_true_eq,List.any_eq_true]
  simp
 rw[hc]
 unfold hY
 by_cases h0:s.length<=i\/ch s i∈([124,41,42,43,63,93,47,34]:List Int)
 ·rw[if_pos h0,decide_eq_true h0,cond_true]
  exact⟨_,_,rfl,by simp⟩
 rw[if_neg h0,decide_eq_false h0,cond_false]
 have hlt:i<s.length:=by
  rcases Nat.lt_or_ge i s.length with h|h
  ·exact h
  ·exact absurd (.inl h) h0
 rw[aa (mb i d 46)]
 simp only
 by_cases h1:ch s i=46
 ·rw[if_pos h1,dx hlt h1]
  simp only[cond_true,if_true,xR,aK]
  rfl
 rw[if_neg h1,eR h1]
 simp only[cond_false,Bool.false_eq_true,if_false]
 rw[aa (mb i d 126)]
 simp only
 by_cases h2:ch s i=126
 ·rw[if_pos h2,dx hlt h2]
  simp only[cond_true,if_true]
  rfl
 rw[if_neg h2,eR h2]
 simp only[cond_false,Bool.false_eq_true,if_false]
 rw[aa (mb i d 40)]
 simp only
 by_cases h3:ch s i=40
 ·have h4:¬ch s i=91:=by omega
  rw[if_neg h4,if_pos h3,dx hlt h3]
  simp only[cond_true,if_true]
  have w1:IntKind.wrap .i64 ((d:Int)+1)=((d+1:Nat):Int):=aC (n:=1601) (by omega) (by simp[maxLen])
  have Jr:((kst s (i+1) (d:Int)).1,((kst s (i+1) (d:Int)).2.1,IntKind.wrap .i64 ((kst s (i+1) (d:Int)).2.2+1)))=kst s (i+1) ((d+1:Nat):Int):=by
   show(s,(((i+1:Nat):Int),IntKind.wrap .i64 ((d:Int)+1)))=_
   rw[w1];rfl
  rw[Jr]
  have hq:=hin hlt
  unfold OkP at hq
  cases hi2:inner (i+1) (d+1)with
  |none=>
   rw[hi2]at hq
   obtain⟨r,k,hq,hrl⟩:=hq
   rw[aa hq]
   simp only[aP,cond_false,ite_self]
   exact⟨_,_,rfl,by omega⟩
  |some p=>
   obtain⟨t,j⟩:=p
   rw[hi2]at hq
   obtain⟨r1,r2,r3,r4⟩:=a8 t j hi2
   have hpl:=t.az
   rw[aa hq]
   simp only[aP,cond_true]
   have w2:IntKind.wrap .i64 ((kst s j ((d+1:Nat):Int)).2.2-1)=(d:Int):=by
    show IntKind.wrap .i64 (((d+1:Nat):Int)-1)=_
    rw[aJ (by omega) (by omega)];omega
   simp only[w2]
   have Js:((kst s j ((d+1:Nat):Int)).1,((kst s j ((d+1:Nat):Int)).2.1,(d:Int)))=kst s j (d:Int):=rfl
   rw[Js]
   by_cases h99:99<=d
   ·rw[if_pos h99,decide_eq_false (by omega),cond_false]
    exact⟨_,_,rfl,by omega⟩
   ·rw[if_neg h99,decide_eq_true (by omega),cond_true,aa (mb j d 41)]
    simp only
    by_cases h41:j<s.length/\ch s j=41
    ·rw[if_pos h41,dx h41.1 h41.2]
     rfl
    ·rw[if_neg h41]
     have:cG s j 41=false:=by
      unfold cG
      rw[Bool.and_eq_false_iff,decide_eq_false_iff_not,decide_eq_false_iff_not]
      by_cases h:j<s.length
      ·exact .inr λh2=>h41 ⟨h,h2⟩
      ·exact .inl h
     rw[this]
     exact⟨_,_,rfl,by omega⟩
 rw[eR h3]
 simp only[cond_false,Bool.false_eq_true,if_false]
 rw[aa (mb i d 91)]
 simp only
 by_cases h4:ch s i=91
 ·rw[if_pos h4,dx hlt h4]
  simp only[cond_true,if_true]
  have hq:=Ge hb hsm (show i+1<=s.length by omega) (d:Int)
  unfold OkP at hq
  cases hbr:brS s (i+1)with
  |none=>
   rw[hbr]at hq
   obtain⟨r,k,hq,hrl⟩:=hq
   rw[aa hq]
   exact⟨_,_,rfl,by show r.length<=_;omega⟩
  |some p=>
   obtain⟨t,j⟩:=p
   rw[hbr]at hq
   simp only at hq
   rw[aa hq]
   rfl
 rw[if_neg h4,if_neg h3,eR h4]
 simp only[cond_false,Bool.false_eq_true,if_false]
 rw[aa (rR hb hsm (Nat.le_of_lt hlt) d)]
 unfold rdK
 cases hrd:rdS (s.drop i)with
 |none=>
  simp only
  rw[aa (xU (c:=0) ⟨by omega,by omega⟩)]
  exact⟨_,_,rfl,by simp;omega⟩
 |some p=>
  obtain⟨c,n⟩:=p
  obtain⟨r1,_,_⟩:=gn (hb.drop i) hrd
  simp only
  rw[aa (xU r1)]
  rfl
end
noncomputable section
theorem Am{s:List Int}(hb:Bytes s)(hs:s.length<=1600){q2 q3 q4 q5:RdF}{inner:Nat->Nat->Option (Rx×Nat)}{i d:Nat}{B:Nat}
 (cn:OkP s d B (hY inner s i d) (q5 (kst s i d,()))) (a8:gz s i (hY inner s i d)):
 OkP s d 0 (gk inner s i d) (ue N0 q2 q3 q4 q5 (kst s i d,())):=by
 have hsm:s.length<=maxLen:=by unfold maxLen;omega
 have mb:=j8 s hsm
 unfold ue
 dsimp only
 unfold gk
 unfold OkP at cn
 cases ho:hY inner s i d with
 |none=>
  rw[ho]at cn
  obtain⟨r,k,hq,hrl⟩:=cn
  rw[aa hq]
  refine bC (λm x=>m=0) (OkP s d 0 none) ?_ N0 0 _ (by unfold N0;omega) rfl
  rintro m x hm k hk
  exact⟨_,_,rfl,by simp⟩
 |some p=>
  obtain⟨t0,j0⟩:=p
  rw[ho]at cn
  simp only at cn
  have hr0:=a8 t0 j0 ho
  rw[aa cn]
  simp only
  generalize hrs:kz s s.length.succ j0 t0=res
  refine bC (λm x=>∃ (j:Nat) (t:Rx) (aS:Nat),x=((kst s j d,()),(t.post,()))/\Res s i t j/\s.length-j<aS/\m=s.length-j/\kz s aS j t=res) (OkP s d 0 res) ?_ N0 (s.length-j0) _ (by unfold N0;omega) ⟨j0,t0,_,rfl,hr0,by omega,rfl,hrs⟩
  rintro m x ⟨j,t,aS,rfl,hr,hf,hm,hl⟩ k hk
  obtain⟨aS,rfl⟩:∃ q,aS=q+1:=⟨aS-1,by omega⟩
  simp only[kz]at hl
  simp only[aP,cond_true]
  have C5:∀ kk:Int,(kk=4\/kk=5\/kk=6)->oL N0 (kk,([t.post],()))=some (((Rx.rep kk t).post,()),()):=λkk hkk=>by
   rw[C4 hkk (by rw[t.az];obtain⟨_,h1,h2,_⟩:=hr;omega)]
   rfl
  have go:j<s.length->∀ kk:Int,kk=eQ (ch s j)->kz s aS (j+1) (.rep (eQ (ch s j)) t)=res->OkP s d 0 res (k ((kst s (j+1) d,()),((Rx.rep kk t).post,()))):=by
   intro hlt kk hkk hl
   obtain⟨h1,h2,h3,h4⟩:=hr
   exact hk (s.length-(j+1)) _ (by omega) ⟨j+1,.rep kk t,aS,rfl,⟨by omega,by omega,by simp only[Rx.len];omega,by rw[hkk];exact ma _,h4⟩,by omega,rfl,by rw[hkk];exact hl⟩
  rw[aa (mb j d 42)]
  simp only
  by_cases hc:j<s.length/\ch s j∈([42,43,63]:List Int)
  ·rw[if_pos hc]at hl
   obtain⟨hlt,gw⟩:=hc
   by_cases h1:ch s j=42
   ·rw[dx hlt h1]
    simp only[cond_true,if_true]
    rw[aa (C5 4 (by omega))]
    exact go hlt 4 (by rw[h1];rfl) hl
   ·rw[eR h1]
    simp only[cond_false,Bool.false_eq_true,if_false]
    rw[aa (mb j d 43)]
    simp only
    by_cases h2:ch s j=43
    ·rw[dx hlt h2]
     simp only[cond_true,if_true]
     rw[aa (C5 5 (by omega))]
     exact go hlt 5 (by rw[h2];rfl) hl
    ·rw[eR h2]
     simp only[cond_false,Bool.false_eq_true,if_false]
     rw[aa (mb j d 63)]
     simp only
     have h3:ch s j=63:=by simpa [h1,h2]using gw
     rw[dx hlt h3]
     simp only[cond_true,if_true]
     rw[aa (C5 6 (by omega))]
     exact go hlt 6 (by rw[h3];rfl) hl
  ·rw[if_neg hc]at hl
   have hno:∀ c:Int,c∈([42,43,63]:List Int)->cG s j c=false:=by
    intro c hcm
    unfold cG
    rw[Bool.and_eq_false_iff,decide_eq_false_iff_not,decide_eq_false_iff_not]
    by_cases h:j<s.length
    ·exact .inr λh2=>hc ⟨h,h2 ▸ hcm⟩
    ·exact .inl h
   rw[hno 42 (by simp)]
   simp only[cond_false,Bool.false_eq_true,if_false]
   rw[aa (mb j d 43)]
   simp only
   rw[hno 43 (by simp)]
   simp only[cond_false,Bool.false_eq_true,if_false]
   rw[aa (mb j d 63)]
   simp only
   rw[hno 63 (by simp)]
   simp only[cond_false,Bool.false_eq_true,if_false]
   subst hl
   rfl
theorem Jt{s:List Int}(hb:Bytes s)(hs:s.length<=1600){q2 q3 q4 q5:RdF}{inner:Nat->Nat->Option (Rx×Nat)}{i d:Nat}(hi:i<=s.length)
 (aL:∀ j,i<=j->j<=s.length->OkP s d 0 (gk inner s j d) (q4 (kst s j d,()))) (a8:∀ j,i<=j->gz s j (gk inner s j d)):
 OkP s d (2*(s.length-i)) (gy inner s i d) (ud N0 q2 q3 q4 q5 (kst s i d,())):=by
 have hsm:s.length<=maxLen:=by unfold maxLen;omega
 unfold ud
 dsimp only
 unfold gy
 have cn:=aL i (Nat.le_refl _) hi
 unfold OkP at cn
 cases ho:gk inner s i d with
 |none=>
  rw[ho]at cn
  obtain⟨r,k,hq,hrl⟩:=cn
  rw[aa hq]
  refine bC (λm x=>m=0/\x=((k,()),(r,(false,())))) (OkP s d (2*(s.length-i)) none) ?_ N0 0 _ (by unfold N0;omega) ⟨rfl,rfl⟩
  rintro m x ⟨_,rfl⟩ k hk
  simp only[aP,cond_false]
  exact⟨_,_,rfl,by omega⟩
 |some p=>
  obtain⟨t0,j0⟩:=p
  rw[ho]at cn
  simp only at cn
  have hr0:=a8 i (Nat.le_refl _) t0 j0 ho
  rw[aa cn]
  simp only
  generalize hrs:kY inner s d s.length.succ j0 t0=res
  refine bC (λm x=>(∃ (j:Nat) (t:Rx) (aS:Nat),x=((kst s j d,()),(t.post,(true,())))/\Res s i t j/\s.length-j<aS/\m=s.length-j+1/\kY inner s d aS j t=res)\/(∃ r k,x=((k,()),(r,(false,())))/\r.length<=2*(s.length-i)/\res=none/\m=0)) (OkP s d (2*(s.length-i)) res) ?_ N0 (s.length-j0+1) _ (by unfold N0;omega) (.inl ⟨j0,t0,_,rfl,hr0,by omega,rfl,hrs⟩)
  rintro m x (⟨j,t,aS,rfl,hr,hf,hm,hl⟩|⟨r,kk,rfl,hrl,rfl,rfl⟩) k hk
  ·obtain⟨aS,rfl⟩:∃ q,aS=q+1:=⟨aS-1,by omega⟩
   simp only[kY]at hl
   simp only[aP,cond_true]
   rw[aa (lc s hsm j d [124,41] (by simp[maxLen]))]
   simp only
   have hc:jI s j [124,41]=decide (¬(j<s.length/\ch s j∉([124,41]:List Int))):=by
    unfold jI
    rw[Bool.eq_iff_iff,Bool.or_eq_true,decide_eq_true_eq,decide_eq_true_eq,List.any_eq_true]
    simp only[List.mem_cons,List.not_mem_nil,or_false,decide_eq_true_eq]
    constructor
    ·rintro(h|⟨c,hc,h⟩)
     ·omega
     ·rintro⟨_,h2⟩;exact h2 (by rw[h];exact hc)
    ·intro h
     by_cases hj:j<s.length
     ·right
      refine⟨ch s j,?_,rfl⟩
      by_cases h2:ch s j=124\/ch s j=41
      ·exact h2
      ·exact absurd ⟨hj,h2⟩ h
     ·left;omega
   rw[hc]
   by_cases hgo:j<s.length/\ch s j∉([124,41]:List Int)
   ·rw[if_pos hgo]at hl
    rw[decide_eq_false (by simpa using hgo)]
    simp only[Bool.not_false,cond_true]
    obtain⟨g1,g2,g3,g4⟩:=hr
    have hq:=aL j (by omega) (by omega)
    unfold OkP at hq
    cases h2:gk inner s j d with
    |none=>
     rw[h2]at hq hl
     obtain⟨r,kx,hq,hrl⟩:=hq
     rw[aa hq]
     simp only
     have hr0:r=[]:=List.eq_nil_of_length_eq_zero (by omega)
     subst hr0
     rw[aa (lh (.inl rfl) (by rw[t.az];omega) (by simp))]
     exact hk 0 _ (by omega) (.inr ⟨_,_,rfl,by simp[t.az];omega,hl.symm,rfl⟩)
    |some p=>
     obtain⟨t2,j2⟩:=p
     rw[h2]at hq hl
     simp only at hq hl
     obtain⟨f1,f2,f3,f4⟩:=a8 j (by omega) t2 j2 h2
     rw[aa hq]
     simp only
     rw[aa (lh (.inl rfl) (by rw[t.az];omega) (by rw[t2.az];omega))]
     exact hk (s.length-j2+1) _ (by omega) (.inl ⟨j2,.cat t t2,aS,rfl,⟨by omega,by omega,by simp only[Rx.len];omega,g4,f4⟩,by omega,rfl,hl⟩)
   ·rw[if_neg hgo]at hl
    rw[decide_eq_true hgo]
    simp only[Bool.not_true,cond_false]
    subst hl
    rfl
  ·simp only[aP,cond_false]
   exact⟨_,_,rfl,hrl⟩
theorem Ju{s:List Int}(hb:Bytes s)(hs:s.length<=1600){q2 q3 q4 q5:RdF}{inner:Nat->Nat->Option (Rx×Nat)}{i d:Nat}(hi:i<=s.length)
 (rU:∀ j,i<=j->j<=s.length->OkP s d (2*(s.length-j)) (gy inner s j d) (q3 (kst s j d,()))) (a8:∀ j,i<=j->gz s j (gy inner s j d)):
 OkP s d (2*(s.length-i)) (us inner s i d) (uc N0 q2 q3 q4 q5 (kst s i d,())):=by
 have hsm:s.length<=maxLen:=by unfold maxLen;omega
 have mb:=j8 s hsm
 unfold uc
 dsimp only
 unfold us
 have cn:=rU i (Nat.le_refl _) hi
 unfold OkP at cn
 cases ho:gy inner s i d with
 |none=>
  rw[ho]at cn
  obtain⟨r,k,hq,hrl⟩:=cn
  rw[aa hq]
  refine bC (λm x=>m=0/\x=((k,()),(r,(false,())))) (OkP s d (2*(s.length-i)) none) ?_ N0 0 _ (by unfold N0;omega) ⟨rfl,rfl⟩
  rintro m x ⟨_,rfl⟩ k hk
  simp only[aP,cond_false]
  exact⟨_,_,rfl,by omega⟩
 |some p=>
  obtain⟨t0,j0⟩:=p
  rw[ho]at cn
  simp only at cn
  have hr0:=a8 i (Nat.le_refl _) t0 j0 ho
  rw[aa cn]
  simp only
  generalize hrs:kZ inner s d s.length.succ j0 t0=res
  refine bC (λm x=>(∃ (j:Nat) (t:Rx) (aS:Nat),x=((kst s j d,()),(t.post,(true,())))/\Res s i t j/\s.length-j<aS/\m=s.length-j+1/\kZ inner s d aS j t=res)\/(∃ r k,x=((k,()),(r,(false,())))/\r.length<=2*(s.length-i)/\res=none/\m=0)) (OkP s d (2*(s.length-i)) res) ?_ N0 (s.length-j0+1) _ (by unfold N0;omega) (.inl ⟨j0,t0,_,rfl,hr0,by omega,rfl,hrs⟩)
  rintro m x (⟨j,t,aS,rfl,hr,hf,hm,hl⟩|⟨r,kk,rfl,hrl,rfl,rfl⟩) k hk
  ·obtain⟨aS,rfl⟩:∃ q,aS=q+1:=⟨aS-1,by omega⟩
   simp only[kZ]at hl
   simp only[aP,cond_true]
   rw[aa (mb j d 124)]
   simp only
   by_cases hgo:j<s.length/\ch s j=124
   ·rw[if_pos hgo]at hl
    rw[dx hgo.1 hgo.2]
    simp only[if_true,cond_true]
    obtain⟨g1,g2,g3,g4⟩:=hr
    have hq:=rU (j+1) (by omega) (by omega)
    unfold OkP at hq
    cases h2:gy inner s (j+1) d with
    |none=>
     rw[h2]at hq hl
     obtain⟨r,kx,hq,hrl⟩:=hq
     rw[aa hq]
     simp only
     rw[aa (lh (.inr rfl) (by rw[t.az];omega) (by omega))]
     exact hk 0 _ (by omega) (.inr ⟨_,_,rfl,by simp[t.az];omega,hl.symm,rfl⟩)
    |some p=>
     obtain⟨t2,j2⟩:=p
     rw[h2]at hq hl
     simp only at hq hl
     obtain⟨f1,f2,f3,f4⟩:=a8 (j+1) (by omega) t2 j2 h2
     rw[aa hq]
     simp only
     rw[aa (lh (.inr rfl) (by rw[t.az];omega) (by rw[t2.az];omega))]
     exact hk (s.length-j2+1) _ (by omega) (.inl ⟨j2,.alt t t2,aS,rfl,⟨by omega,by omega,by simp only[Rx.len];omega,g4,f4⟩,by omega,rfl,hl⟩)
   ·rw[if_neg hgo]at hl
    have:cG s j 124=false:=by
     unfold cG
     rw[Bool.and_eq_false_iff,decide_eq_false_iff_not,decide_eq_false_iff_not]
     by_cases h:j<s.length
     ·exact .inr λh2=>hgo ⟨h,h2⟩
     ·exact .inl h
    rw[this]
    simp only[Bool.false_eq_true,if_false,cond_false]
    subst hl
    rfl
  ·simp only[aP,cond_false]
   exact⟨_,_,rfl,hrl⟩
end
noncomputable section
theorem Jv{s:List Int}(hb:Bytes s)(hs:s.length<=1600):∀ (n D i d:Nat),4*n<=D->s.length-i<n->i<=s.length->d<=i->OkP s d (2*(s.length-i)) (fJ s n i d) ((bo N0 D).1 (kst s i d,())):=by
 intro n
 induction n with
 |zero=>intro D i d _ h;omega
 |succ n ih=>
  intro D i d hD hn hi hd
  obtain⟨D,rfl⟩:∃ q,D=q+1+1+1+1:=⟨D-4,by omega⟩
  have a8:∀ i d,s.length-i<n->gz s i (fJ s n i d):=λi d h=>fu hb n i d h
  have cn:∀ j,i<=j->j<=s.length->OkP s d (2*(s.length-j)) (hY (fJ s n) s j d) ((bo N0 (D+1)).2.2.2 (kst s j d,())):=λj hij hj=>
   Jq (q2:=(bo N0 (D)).1) (q3:=(bo N0 (D)).2.1) (q4:=(bo N0 (D)).2.2.1) (q5:=(bo N0 (D)).2.2.2) hb hs (Nat.le_trans hd hij) (λhlt=>ih D (j+1) (d+1) (by omega) (by omega) (by omega) (by omega)) (λt j2 h=>by
    rcases Nat.lt_or_ge j s.length with hlt|hge
    ·exact a8 (j+1) (d+1) (by omega) t j2 h
    ·cases n with
     |zero=>cases h
     |succ n=>exact fu hb (n+1) (j+1) (d+1) (by omega) t j2 h)
  have An:∀ j,i<=j->gz s (j+1) (fJ s n (j+1) (d+1)):=λj hij t j2 h=>by
   rcases Nat.lt_or_ge j s.length with hlt|hge
   ·exact a8 (j+1) (d+1) (by omega) t j2 h
   ·cases n with
    |zero=>cases h
    |succ n=>exact fu hb (n+1) (j+1) (d+1) (by omega) t j2 h
  have aL:∀ j,i<=j->j<=s.length->OkP s d 0 (gk (fJ s n) s j d) ((bo N0 (D+1+1)).2.2.1 (kst s j d,())):=λj hij hj=>
   Am (q2:=(bo N0 (D+1)).1) (q3:=(bo N0 (D+1)).2.1) (q4:=(bo N0 (D+1)).2.2.1) (q5:=(bo N0 (D+1)).2.2.2) hb hs (cn j hij hj) (oS hb (An j hij))
  have rU:∀ j,i<=j->j<=s.length->OkP s d (2*(s.length-j)) (gy (fJ s n) s j d) ((bo N0 (D+1+1+1)).2.1 (kst s j d,())):=λj hij hj=>
   Jt (q2:=(bo N0 (D+1+1)).1) (q3:=(bo N0 (D+1+1)).2.1) (q4:=(bo N0 (D+1+1)).2.2.1) (q5:=(bo N0 (D+1+1)).2.2.2) hb hs hj (λj2 hj2 hj3=>aL j2 (Nat.le_trans hij hj2) hj3) (λj2 hj2=>ld hb (An j2 (Nat.le_trans hij hj2)))
  exact Ju (q2:=(bo N0 (D+1+1+1)).1) (q3:=(bo N0 (D+1+1+1)).2.1) (q4:=(bo N0 (D+1+1+1)).2.2.1) (q5:=(bo N0 (D+1+1+1)).2.2.2) hb hs hi rU (λj hij t j2 h=>lg hb n a8 (by omega) t j2 h)
def C6(o:Except Int Rx):(List Pc×(Int×Unit))×Unit:=match o with
 |.ok t=>((t.post,(0,())),())
 |.error e=>(([],(e,())),())
theorem xX{s:List Int}(hb:Bytes s)(hsm:s.length<=maxLen):FF N0 (s,())=some (C6 (cY s)):=by
 unfold FF cY
 dsimp only
 by_cases hs:1600<s.length
 ·rw[if_pos hs,decide_eq_true (show(1600:Int)<((s.length:Nat):Int) by omega),cond_true]
  rfl
 rw[if_neg hs,decide_eq_false (show ¬(1600:Int)<((s.length:Nat):Int) by omega),cond_false]
 have hq:OkP s ((0:Nat):Int) (2*(s.length-0)) (fJ s s.length.succ 0 0) (Jc N0 (kst s 0 ((0:Nat):Int),())):=Jv hb (by omega) s.length.succ N0 0 0 (by unfold N0;omega) (by omega) (Nat.zero_le _) (Nat.le_refl _)
 have hk:kst s 0 ((0:Nat):Int)=(s,((0:Int),(0:Int))):=rfl
 rw[hk]at hq
 unfold OkP at hq
 cases ho:fJ s s.length.succ 0 0 with
 |none=>
  rw[ho]at hq
  obtain⟨r,k,hq,_⟩:=hq
  rw[aa hq]
  rfl
 |some p=>
  obtain⟨t,i⟩:=p
  rw[ho]at hq
  simp only at hq
  rw[aa hq]
  simp only[aP,Bool.not_true,cond_false]
  have h1:decide ((kst s i ((0:Nat):Int)).2.1<((s.length:Nat):Int))=decide (i<s.length):=by
   rw[decide_eq_decide];show(i:Int)<_↔_;omega
  rw[h1]
  by_cases h2:i<s.length
  ·rw[if_pos h2,decide_eq_true h2];rfl
  rw[if_neg h2,decide_eq_false h2,cond_false]
  rw[t.az]
  by_cases h3:400<t.len
  ·rw[if_pos h3,decide_eq_true (show(400:Int)<((t.len:Nat):Int) by omega)];rfl
  ·rw[if_neg h3,decide_eq_false (show ¬(400:Int)<((t.len:Nat):Int) by omega)];rfl
theorem mc{s:List Int}(hb:Bytes s){t:Rx}(h:cY s=.ok t):t.ok/\t.len<=400/\t.len+1<=2*s.length:=by
 unfold cY at h
 split at h
 ·cases h
 split at h
 ·cases h
 rename_i t2 i ho
 obtain⟨h1,h2,h3,h4⟩:=fu hb _ _ _ (by omega) _ _ ho
 split at h
 ·cases h
 split at h
 ·cases h
 injection h with h
 subst h
 exact⟨h4,by omega,by omega⟩
end
end Go.Proofs.YthalkfdkbalpmaaGreat.Rf
