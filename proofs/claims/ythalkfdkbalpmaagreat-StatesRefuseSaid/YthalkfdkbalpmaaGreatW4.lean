/- A part of a proof that a given statement (the one of this claim: the name of its theorem ends in _holds) is true of the program, with no condition ahead of it. Printed by wip/dev/pack2.py out of the texts in wip. -/
import Derived.Test.YthalkfdkbalpmaaGreatW3
set_option linter.unusedVariables false
set_option linter.unusedSimpArgs false
namespace Go.Proofs.YthalkfdkbalpmaaGreat.Rf
open Go
noncomputable section
def sY(v1:Nat)(v2:(((List Int)×Int×Int)×(List Int)×Unit)):T67:=bif decide ((v2.1.1.length:Int)<=v2.1.2.1)then some ((true,()),v2.1,())else aq (λ(v3:((((List Int)×Int×Int)×Unit)×Int×Unit))=>λv4=>bif decide (v3.2.1<(v2.2.1.length:Int))then if 0<=v3.1.1.2.1 then(match v3.1.1.1[(v3.1.1.2.1).toNat]? with|some v5=>if 0<=v3.2.1 then(match v2.2.1[(v3.2.1).toNat]? with|some v6=>bif decide (v5=v6)then some ((true,()),v3.1.1,())else v4 ((v3.1.1,()),IntKind.wrap .i64 (v3.2.1+1),())|none=>none)else none|none=>none)else none else some ((false,()),v3.1.1,())) v1 ((v2.1,()),0,())
def F171(n:Nat):Fb 171:=fb n [] [] [] [] Tryz.func171 Tryz.results171 Tryz.ntmps171 (.seq .nop (.seq .nop (.seq (.seq .nop (.block none (.loop ⟨[(6,.box il,.own .ro)],[.val 18 y2],[0,1,17]⟩ .nop))) .nop))) [(.box il,.own .ro),(y9,.ro)] A19 [0] A6 (sY n)
def jS(v1:Nat)(v2:(((List Int)×Int×Int)×Int×Unit)):T67:=aj (λ(v3:T57)=>bif v3.2.1 then some ((true,()),(v3.1.1.1,IntKind.wrap .i64 (v3.1.1.2.1+1),v3.1.1.2.2),())else some ((false,()),v3.1.1,())) (λv4=>bif decide (v2.1.2.1<(v2.1.1.length:Int))then if 0<=v2.1.2.1 then(match v2.1.1[(v2.1.2.1).toNat]? with|some v5=>v4 ((v2.1,()),decide (v5=v2.2.1),())|none=>none)else none else v4 ((v2.1,()),false,()))
def F158(n:Nat):Fb 158:=fb n [] [] [] [] Tryz.func158 Tryz.results158 Tryz.ntmps158 (.seq .nop (.seq (.seq (.reg (some ⟨[(6,.box il,.own .ro)],[.val 27 y4],[0]⟩) []) .nop) .nop)) [(.box il,.own .ro),(y5,.ro)] A19 [0] A6 (jS n)
def D5(v1:Nat)(v2:Unit):T33:=if(0:Int)<=(0:Int)then(match([0,0,0,0]:List Int)[(0:Int).toNat]? with|some v3=>if(0:Int)<=(1:Int)then(match(List.set ([0,0,0,0]:List Int) (0:Int).toNat (18446744073709551615:Int))[(1:Int).toNat]? with|some v4=>if(0:Int)<=(2:Int)then(match(List.set (List.set ([0,0,0,0]:List Int) (0:Int).toNat (18446744073709551615:Int)) (1:Int).toNat (18446744073709551615:Int))[(2:Int).toNat]? with|some v5=>if(0:Int)<=(3:Int)then(match(List.set (List.set (List.set ([0,0,0,0]:List Int) (0:Int).toNat (18446744073709551615:Int)) (1:Int).toNat (18446744073709551615:Int)) (2:Int).toNat (18446744073709551615:Int))[(3:Int).toNat]? with|some v6=>some ((List.set (List.set (List.set (List.set ([0,0,0,0]:List Int) (0:Int).toNat (18446744073709551615:Int)) (1:Int).toNat (18446744073709551615:Int)) (2:Int).toNat (18446744073709551615:Int)) (3:Int).toNat (18446744073709551615:Int),()),())|none=>none)else none|none=>none)else none|none=>none)else none|none=>none)else none
def F184(n:Nat):Fb 184:=fb n [] [] [] [] Tryz.func184 Tryz.results184 Tryz.ntmps184 (.seq .nop (.seq (.reg none [0]) .nop)) [] A14 [] [] (D5 n)
def vn(v1:Nat)(v2:T1):T12:=aj (λ(v3:T3)=>bif v3.2.1 then some ((IntKind.wrap .i64 (IntKind.wrap .u8 (v2.1-48)),()),())else aj (λ(v4:T3)=>bif v4.2.1 then some ((IntKind.wrap .i64 ((IntKind.wrap .i64 (IntKind.wrap .u8 (v2.1-97)))+10),()),())else some ((-1,()),())) (λv5=>bif decide (97<=v2.1)then v5 ((),decide (v2.1<=102),())else v5 ((),false,()))) (λv6=>bif decide (48<=v2.1)then v6 ((),decide (v2.1<=57),())else v6 ((),false,()))
def F193(n:Nat):Fb 193:=fb n [] [] [] [] Tryz.func193 Tryz.results193 Tryz.ntmps193 (.seq .nop (.seq (.block none (.seq (.reg (some ⟨[],[.val 3 y4],[0]⟩) []) (.cond none .nop (.seq (.reg (some ⟨[],[.val 13 y4],[0]⟩) []) .nop)))) .nop)) [(y5,.ro)] A20 [] [] (vn n)
def D6(v1:Nat)(v2:T4):T40:=bif decide (v2.1=([]:List Int))then some ((0,0,false,()),())else if(0:Int)<=(0:Int)then(match v2.1[(0:Int).toNat]? with|some v3=>bif !(decide (v3=92))then if(0:Int)<=(0:Int)then(match v2.1[(0:Int).toNat]? with|some v4=>some ((v4,1,true,()),())|none=>none)else none else bif decide ((v2.1.length:Int)<2)then some ((0,0,false,()),())else if(0:Int)<=(1:Int)then(match v2.1[(1:Int).toNat]? with|some v5=>aj (λ(v6:(Unit×Unit))=>some ((0,0,false,()),())) (λv7=>bif decide (v5=110)then some ((10,2,true,()),())else bif decide (v5=116)then some ((9,2,true,()),())else bif decide (v5=114)then some ((13,2,true,()),())else bif decide (v5=120)then aj (λ(v8:T3)=>bif v8.2.1 then if(0:Int)<=(2:Int)then(match v2.1[(2:Int).toNat]? with|some v9=>af (vn v1 (v9,())) (λ(v10:T5)=>if(4:Int)<0 then none else if(0:Int)<=(3:Int)then(match v2.1[(3:Int).toNat]? with|some v11=>af (vn v1 (v11,())) (λ(v12:T5)=>some ((IntKind.wrap .u8 (bF .or .i64 (IntKind.wrap .i64 (v10.1.1*2 ^ (Nat.min (Int.toNat (4:Int)) (IntKind.bits .i64)))) v12.1.1),4,true,()),()))|none=>none)else none)|none=>none)else none else v7 ((),())) (λv13=>bif decide (4<=(v2.1.length:Int))then if(0:Int)<=(2:Int)then(match v2.1[(2:Int).toNat]? with|some v14=>af (vn v1 (v14,())) (λ(v15:T5)=>bif decide (0<=v15.1.1)then if(0:Int)<=(3:Int)then(match v2.1[(3:Int).toNat]? with|some v16=>af (vn v1 (v16,())) (λ(v17:T5)=>v13 ((),decide (0<=v17.1.1),()))|none=>none)else none else v13 ((),false,()))|none=>none)else none else v13 ((),false,()))else bif decide (v5=0)then v7 ((),())else aj (λ(v18:T3)=>bif v18.2.1 then some ((0,0,false,()),())else some ((v5,2,true,()),())) (λv19=>bif decide (48<=v5)then bif decide (v5<=57)then v19 ((),true,())else bif decide (97<=v5)then bif decide (v5<=122)then v19 ((),true,())else bif decide (65<=v5)then bif decide (v5<=90)then v19 ((),true,())else bif decide (v5<32)then v19 ((),true,())else v19 ((),decide (126<v5),())else bif decide (v5<32)then v19 ((),true,())else v19 ((),decide (126<v5),())else bif decide (65<=v5)then bif decide (v5<=90)then v19 ((),true,())else bif decide (v5<32)then v19 ((),true,())else v19 ((),decide (126<v5),())else bif decide (v5<32)then v19 ((),true,())else v19 ((),decide (126<v5),())else bif decide (97<=v5)then bif decide (v5<=122)then v19 ((),true,())else bif decide (65<=v5)then bif decide (v5<=90)then v19 ((),true,())else bif decide (v5<32)then v19 ((),true,())else v19 ((),decide (126<v5),())else bif decide (v5<32)then v19 ((),true,())else v19 ((),decide (126<v5),())else bif decide (65<=v5)then bif decide (v5<=90)then v19 ((),true,())else bif decide (v5<32)then v19 ((),true,())else v19 ((),decide (126<v5),())else bif decide (v5<32)then v19 ((),true,())else v19 ((),decide (126<v5),())))|none=>none)else none|none=>none)else none
def F191(n:Nat):Fb 191:=fb n [⟨_,F193 n⟩] [] [] [] Tryz.func191 Tryz.results191 Tryz.ntmps191 (.seq .nop (.seq .nop (.seq .nop (.seq (.seq .nop (.block none (.seq (.block (some ⟨[],[],[]⟩) (.seq .nop (.seq (.reg (some ⟨[],[.val 46 y4],[0]⟩) []) .nop))) .nop))) (.seq (.seq (.reg (some ⟨[],[.val 85 y4],[5]⟩) []) .nop) .nop))))) A21 [(y5,.ro),(y2,.ro),(y4,.ro)] [] [] (D6 n)
def yY(v1:Nat)(v2:T20):Option ((Int×Bool×Unit)×((List Int)×Int×Int)×Unit):=if 0<=v2.1.2.1/\v2.1.2.1<=(v2.1.1.length:Int)/\(v2.1.1.length:Int)<=(v2.1.1.length:Int)then af (D6 v1 (br v2.1.1 v2.1.2.1 (v2.1.1.length:Int),())) (λ(v3:T19)=>some ((v3.1.1,v3.1.2.2.1,()),(v2.1.1,IntKind.wrap .i64 (v2.1.2.1+v3.1.2.1),v2.1.2.2),()))else none
def F186(n:Nat):Fb 186:=fb n [⟨_,F191 n⟩] [] [] [] Tryz.func186 Tryz.results186 Tryz.ntmps186 (.nop) A6 [(y5,.ro),(y4,.ro)] [0] A6 (yY n)
def Bs(v1:Nat)(v2:(Int×Int×Unit)):T33:=aq (λ(v3:T55)=>λv4=>bif decide (v3.2.1<=(IntKind.wrap .i64 v2.2.1))then if(64:Int)=0 then none else if 0<=(IntKind.wrap .i64 (Int.tdiv v3.2.1 64))then(match v3.1.2.1[(IntKind.wrap .i64 (Int.tdiv v3.2.1 64)).toNat]? with|some v5=>if(64:Int)=0 then none else if(IntKind.wrap .u64 (Int.tmod v3.2.1 64))<0 then none else if 0<=(IntKind.wrap .i64 (Int.tdiv v3.2.1 64))then(match v3.1.2.1[(IntKind.wrap .i64 (Int.tdiv v3.2.1 64)).toNat]? with|some v6=>if 0<=(IntKind.wrap .i64 (Int.tdiv v3.2.1 64))then(match v3.1.2.1[(IntKind.wrap .i64 (Int.tdiv v3.2.1 64)).toNat]? with|some v7=>v4 ((v3.1.1,List.set v3.1.2.1 (IntKind.wrap .i64 (Int.tdiv v3.2.1 64)).toNat (bF .or .u64 v5 (IntKind.wrap .u64 ((1:Int)*2 ^ (Nat.min (Int.toNat (IntKind.wrap .u64 (Int.tmod v3.2.1 64))) (IntKind.bits .u64))))),()),IntKind.wrap .i64 (v3.2.1+1),())|none=>none)else none|none=>none)else none|none=>none)else none else some ((v3.1.2.1,()),())) v1 ((([0,0,0,0]:List Int),([0,0,0,0]:List Int),()),IntKind.wrap .i64 v2.1,())
def F189(n:Nat):Fb 189:=fb n [] [] [] [] Tryz.func189 Tryz.results189 Tryz.ntmps189 (.seq .nop (.seq .nop (.seq (.seq .nop (.block none (.loop ⟨[(32,.box cT,.own .ro),(40,.box cT,.own .ro)],[.val 6 y2],[1,4,5]⟩ .nop))) (.seq (.rgf none [5] [4]) .nop)))) [(y5,.ro),(y5,.ro)] A14 [] [] (Bs n)
def Bt(v1:Nat)(v2:T21):T33:=aq (λ(v3:T55)=>λv4=>bif decide (v3.2.1<4)then if 0<=v3.2.1 then(match v3.1.1[(v3.2.1).toNat]? with|some v5=>if 0<=v3.2.1 then(match v2.2.1[(v3.2.1).toNat]? with|some v6=>if 0<=v3.2.1 then(match v3.1.1[(v3.2.1).toNat]? with|some v7=>if 0<=v3.2.1 then(match v3.1.1[(v3.2.1).toNat]? with|some v8=>v4 ((List.set v3.1.1 (v3.2.1).toNat (bF .or .u64 v5 v6),v3.1.2.1,()),IntKind.wrap .i64 (v3.2.1+1),())|none=>none)else none|none=>none)else none|none=>none)else none|none=>none)else none else some ((v3.1.1,()),())) v1 ((v2.1,([0,0,0,0]:List Int),()),0,())
def F188(n:Nat):Fb 188:=fb n [] [] [] [] Tryz.func188 Tryz.results188 Tryz.ntmps188 (.seq (.reg none [3]) (.seq (.seq .nop (.block none (.loop ⟨[(16,.box cT,.own .ro),(32,.box cT,.own .ro)],[.val 6 y2],[2,3,4]⟩ .nop))) (.seq (.rgf none [2] [4]) .nop))) [(cT,.ro),(cT,.ro)] A14 [] [] (Bt n)
def D7(v1:Nat)(v2:T21):T33:=aq (λ(v3:T55)=>λv4=>bif decide (v3.2.1<4)then if 0<=v3.2.1 then(match v3.1.1[(v3.2.1).toNat]? with|some v5=>if 0<=v3.2.1 then(match v2.2.1[(v3.2.1).toNat]? with|some v6=>if 0<=v3.2.1 then(match v3.1.1[(v3.2.1).toNat]? with|some v7=>if 0<=v3.2.1 then(match v3.1.1[(v3.2.1).toNat]? with|some v8=>v4 ((List.set v3.1.1 (v3.2.1).toNat (bF .andNot .u64 v5 v6),v3.1.2.1,()),IntKind.wrap .i64 (v3.2.1+1),())|none=>none)else none|none=>none)else none|none=>none)else none|none=>none)else none else some ((v3.1.1,()),())) v1 ((v2.1,([0,0,0,0]:List Int),()),0,())
def F192(n:Nat):Fb 192:=fb n [] [] [] [] Tryz.func192 Tryz.results192 Tryz.ntmps192 (.seq (.reg none [3]) (.seq (.seq .nop (.block none (.loop ⟨[(16,.box cT,.own .ro),(32,.box cT,.own .ro)],[.val 6 y2],[2,3,4]⟩ .nop))) (.seq (.rgf none [2] [4]) .nop))) [(cT,.ro),(cT,.ro)] A14 [] [] (D7 n)
def D8(v1:Nat)(v2:T4):T33:=af (D5 v1 ()) (λ(v3:T13)=>af (D7 v1 (v3.1.1,v2.1,())) (λ(v4:T13)=>some ((v4.1.1,()),())))
def F190(n:Nat):Fb 190:=fb n [⟨_,F184 n⟩,⟨_,F192 n⟩] [] [] [] Tryz.func190 Tryz.results190 Tryz.ntmps190 (.seq (.reg none [1]) (.seq (.reg none [2]) .nop)) A14 A14 [] [] (D8 n)
theorem FU:rH Tryz.prog 215:=⟨by kernel_rfl,by kernel_rfl,by kernel_rfl⟩
def mC(v1:Nat)(v2:T4):T14:=some ((decide (v2.1=([0,0,0,0]:List Int)),()),())
def F161(n:Nat):Fb 161:=fb n [] [] [] [⟨_,FU⟩] Tryz.func161 Tryz.results161 Tryz.ntmps161 (.seq (.reg none [1]) .nop) A14 A19 [] [] (mC n)
def D9(v1:Nat)(v2:T20):T83:=af (jS v1 (v2.1,94,())) (λ(v3:T58)=>aq (λ(v4:T66)=>λv5=>af (sY v1 (v4.1.1,([93]:List Int),())) (λ(v6:T58)=>bif !v6.1.1 then af (sY v1 (v6.2.1,([94,45,47,34]:List Int),())) (λ(v7:T58)=>bif v7.1.1 then some ((([]:List (Int×(List Int))),false,()),v7.2.1,())else af (yY v1 (v7.2.1,())) (λ(v8:T65)=>bif !v8.1.2.1 then some ((([]:List (Int×(List Int))),false,()),v8.2.1,())else af (jS v1 (v8.2.1,45,())) (λ(v9:T58)=>aj (λ(v10:((((List Int)×Int×Int)×(List Int)×Unit)×Int×Unit))=>af (Bs v1 (v8.1.1,v10.2.1,())) (λ(v11:T13)=>af (Bt v1 (v10.1.2.1,v11.1.1,())) (λ(v12:T13)=>v5 ((v10.1.1,v12.1.1,()),())))) (λv13=>bif v9.1.1 then af (sY v1 (v9.2.1,([93,94,45,47,34]:List Int),())) (λ(v14:T58)=>bif v14.1.1 then some ((([]:List (Int×(List Int))),false,()),v14.2.1,())else af (yY v1 (v14.2.1,())) (λ(v15:T65)=>aj (λ(v16:((((List Int)×Int×Int)×(List Int)×Unit)×Bool×Unit))=>bif v16.2.1 then some ((([]:List (Int×(List Int))),false,()),v16.1.1,())else v13 ((v16.1.1,v16.1.2.1,()),v15.1.1,())) (λv17=>bif !v15.1.2.1 then v17 ((v15.2.1,v4.1.2.1,()),true,())else v17 ((v15.2.1,v4.1.2.1,()),decide (v15.1.1<v8.1.1),()))))else v13 ((v9.2.1,v4.1.2.1,()),v8.1.1,())))))else aj (λ(v18:T66)=>aj (λ(v19:T78)=>some ((v19.2.1,v19.2.2.1,()),v19.1.1,())) (λv20=>af (jS v1 (v18.1.1,93,())) (λ(v21:T58)=>bif v21.1.1 then af (mC v1 (v18.1.2.1,())) (λ(v22:T6)=>v20 ((v21.2.1,()),([(1,v18.1.2.1)]:List (Int×(List Int))),!v22.1.1,()))else v20 ((v21.2.1,()),([(1,v18.1.2.1)]:List (Int×(List Int))),false,())))) (λv23=>bif v3.1.1 then af (D8 v1 (v4.1.2.1,())) (λ(v24:T13)=>v23 ((v6.2.1,v24.1.1,()),()))else v23 ((v6.2.1,v4.1.2.1,()),())))) v1 ((v3.2.1,([0,0,0,0]:List Int),()),()))
def F185(n:Nat):Fb 185:=fb n [⟨_,F158 n⟩,⟨_,F171 n⟩,⟨_,F186 n⟩,⟨_,F189 n⟩,⟨_,F188 n⟩,⟨_,F190 n⟩,⟨_,F161 n⟩] [] [] [] Tryz.func185 Tryz.results185 Tryz.ntmps185 (.seq .nop (.seq .nop (.seq .nop (.seq (.block none (.loop ⟨[(6,.box il,.own .ro),(40,.box cT,.own .ro)],[],[0,4,5]⟩ (.seq .nop (.block none (.seq .nop (.seq .nop (.seq .nop (.seq .nop (.seq (.seq .nop (.cond (some ⟨[(6,.box il,.own .ro),(40,.box cT,.own .ro)],[.val 8 y5],[0,4,5,6]⟩) (.seq .nop (.seq .nop (.seq (.reg (some ⟨[(6,.box il,.own .ro),(40,.box cT,.own .ro)],[.val 39 y4],[0,4,5,6,8]⟩) []) .nop))) .nop)) .nop))))))))) (.seq (.seq .nop (.cond (some ⟨[(6,.box il,.own .ro),(40,.box cT,.own .ro)],[],[0,5]⟩) .nop .nop)) (.seq (.rgf (some ⟨[(6,.box il,.own .ro)],[.hdr 2 23 jb (.own .ro),.val 3 y4],[0]⟩) [5] []) .nop)))))) A6 A7 [0] A6 (D9 n)
def Ea(v1:Nat)(v2:T4):T33:=aq (λ(v3:T55)=>λv4=>bif decide (v3.2.1<(v2.1.length:Int))then if 0<=v3.2.1 then(match v2.1[(v3.2.1).toNat]? with|some v5=>if(64:Int)=0 then none else if 0<=(IntKind.wrap .u8 (Int.tdiv v5 64))then(match v3.1.2.1[(IntKind.wrap .u8 (Int.tdiv v5 64)).toNat]? with|some v6=>if(64:Int)=0 then none else if(Int.tmod v5 64)<0 then none else if 0<=(IntKind.wrap .u8 (Int.tdiv v5 64))then(match v3.1.2.1[(IntKind.wrap .u8 (Int.tdiv v5 64)).toNat]? with|some v7=>if 0<=(IntKind.wrap .u8 (Int.tdiv v5 64))then(match v3.1.2.1[(IntKind.wrap .u8 (Int.tdiv v5 64)).toNat]? with|some v8=>v4 ((v3.1.1,List.set v3.1.2.1 (IntKind.wrap .u8 (Int.tdiv v5 64)).toNat (bF .or .u64 v6 (IntKind.wrap .u64 ((1:Int)*2 ^ (Nat.min (Int.toNat (Int.tmod v5 64)) (IntKind.bits .u64))))),()),IntKind.wrap .i64 (v3.2.1+1),())|none=>none)else none|none=>none)else none|none=>none)else none|none=>none)else none else some ((v3.1.2.1,()),())) v1 ((([0,0,0,0]:List Int),([0,0,0,0]:List Int),()),0,())
def F187(n:Nat):Fb 187:=fb n [] [] [] [] Tryz.func187 Tryz.results187 Tryz.ntmps187 (.seq .nop (.seq .nop (.seq (.seq .nop (.block none (.loop ⟨[(16,.box cT,.own .ro),(24,.box cT,.own .ro)],[.val 8 y2],[2,3,6,7]⟩ .nop))) (.seq (.rgf none [3] [2]) .nop)))) [(oG,.ro)] A14 [] [] (Ea n)
def sZ(v1:Nat)(v2:T1):T12:=aj (λ(v3:T3)=>bif v3.2.1 then some ((0,()),())else aj (λ(v4:T3)=>bif v4.2.1 then some ((1,()),())else aj (λ(v5:T3)=>bif v5.2.1 then some ((2,()),())else some ((-1,()),())) (λv6=>bif decide (v2.1=2)then v6 ((),decide (v2.1=2),())else v6 ((),decide (v2.1=3),()))) (λv7=>bif decide (v2.1=4)then v7 ((),decide (v2.1=4),())else aj (λ(v8:T3)=>v7 ((),v8.2.1,())) (λv9=>bif decide (v2.1=5)then v9 ((),decide (v2.1=5),())else v9 ((),decide (v2.1=6),())))) (λv10=>bif decide (v2.1=0)then v10 ((),decide (v2.1=0),())else v10 ((),decide (v2.1=1),()))
def F160(n:Nat):Fb 160:=fb n [] [] [] [] Tryz.func160 Tryz.results160 Tryz.ntmps160 (.seq .nop (.seq (.seq .nop (.block none (.seq (.seq .nop (.cond (some ⟨[],[.val 4 y4],[3]⟩) .nop .nop)) (.cond none .nop (.seq (.seq .nop (.cond (some ⟨[],[.val 7 y4],[3]⟩) .nop (.seq .nop (.cond (some ⟨[],[.val 7 y4],[3]⟩) .nop .nop)))) (.cond none .nop (.seq (.seq .nop (.cond (some ⟨[],[.val 11 y4],[]⟩) .nop .nop)) .nop))))))) .nop)) A20 A20 [] [] (sZ n)
def nU(v1:Nat)(v2:(Int×(List (List (Int×(List Int))))×Unit)):Option (((List (Int×(List Int)))×Unit)×Unit):=aj (λ(v3:T3)=>bif v3.2.1 then some ((([]:List (Int×(List Int))),()),())else aq (λ(v4:(Unit×(List (Int×(List Int)))×Int×Unit))=>λv5=>bif decide (v4.2.2.1<(v2.2.1.length:Int))then if 0<=v4.2.2.1 then(match v2.2.1[(v4.2.2.1).toNat]? with|some v6=>if(List.length v4.2.1+List.length v6)*40<=140737488355328 then if List.length v4.2.1+List.length v6<=9223372036854775807 then v5 ((),v4.2.1++v6,IntKind.wrap .i64 (v4.2.2.1+1),())else none else none|none=>none)else none else if(List.length v4.2.1+List.length ([(v2.1,([0,0,0,0]:List Int))]:List (Int×(List Int))))*40<=140737488355328 then if List.length v4.2.1+List.length ([(v2.1,([0,0,0,0]:List Int))]:List (Int×(List Int)))<=9223372036854775807 then some ((v4.2.1++([(v2.1,([0,0,0,0]:List Int))]:List (Int×(List Int))),()),())else none else none) v1 ((),([]:List (Int×(List Int))),0,())) (λv7=>af (sZ v1 (v2.1,())) (λ(v8:T5)=>bif !(decide (v8.1.1=(v2.2.1.length:Int)))then v7 ((),true,())else v7 ((),decide ((v2.2.1.length:Int)=0),())))
def F159(n:Nat):Fb 159:=fb n [⟨_,F160 n⟩] [] [] [] Tryz.func159 Tryz.results159 Tryz.ntmps159 (.seq .nop (.seq (.seq (.reg (some ⟨[],[.val 17 y4],[0,1]⟩) []) .nop) (.seq .nop (.seq (.seq .nop (.block none (.loop ⟨[],[.hdr 5 47 jb (.own .ro),.val 20 y2],[0,18,19]⟩ .nop))) .nop)))) [(y2,.ro),(D4,.ro)] [(jb,.ro)] [] [] (nU n)
abbrev yZ:=Qt A6 A7 A6
abbrev Hm(q:yZ):Callee:=⟨_,_,[0],_,q⟩
theorem Bu:Plain Tryz.prog 145:=pl Tryz.func145
abbrev y0:=Qt A6 A7 A6
abbrev Hn(q:y0):Callee:=⟨_,_,[0],_,q⟩
theorem Bv:Plain Tryz.prog 157:=pl Tryz.func157
abbrev za:=Qt A6 A7 A6
abbrev Ho(q:za):Callee:=⟨_,_,[0],_,q⟩
theorem Bw:Plain Tryz.prog 170:=pl Tryz.func170
abbrev zb:=Qt A6 A7 A6
abbrev Hp(q:zb):Callee:=⟨_,_,[0],_,q⟩
theorem Bx:Plain Tryz.prog 181:=pl Tryz.func181
abbrev By(jc:yZ)(jd:y0)(je:za)(jf:zb):=dC Tryz.prog 145 (Hm jc)/\dC Tryz.prog 157 (Hn jd)/\dC Tryz.prog 170 (Ho je)/\dC Tryz.prog 181 (Hp jf)
def s7(v1:Nat)(v2 v3 v4 v5:T88)(v6:T20):T83:=af (v3 (v6.1,())) (λ(v7:T79)=>aq (λ(v8:T78)=>λv9=>aj (λ(v10:T57)=>bif v10.2.1 then af (v3 (v10.1.1,())) (λ(v11:T79)=>af (nU v1 (3,([v8.2.1,v11.1.1]:List (List (Int×(List Int)))),())) (λ(v12:T49)=>v9 ((v11.2.1,()),v12.1.1,v11.1.2.1,())))else some ((v8.2.1,v8.2.2.1,()),v10.1.1,())) (λv13=>bif v8.2.2.1 then af (jS v1 (v8.1.1,124,())) (λ(v14:T58)=>v13 ((v14.2.1,()),v14.1.1,()))else v13 ((v8.1.1,()),false,()))) v1 ((v7.2.1,()),v7.1.1,v7.1.2.1,()))
theorem MO(n:Nat)(jc:yZ)(jd:y0)(je:za)(jf:zb)(h:By jc jd je jf):dC Tryz.prog 145 (Hm (s7 n jc jd je jf)):=(fb n [⟨_,F158 n⟩,⟨_,F159 n⟩,⟨_,⟨_,h.1,Bu⟩⟩,⟨_,⟨_,h.2.1,Bv⟩⟩,⟨_,⟨_,h.2.2.1,Bw⟩⟩,⟨_,⟨_,h.2.2.2,Bx⟩⟩] [9,19] [] [] Tryz.func145 Tryz.results145 Tryz.ntmps145 (.seq .nop (.seq .nop (.seq (.block none (.loop ⟨[(6,.box il,.own .ro)],[.val 4 jb,.val 5 y4],[0]⟩ (.seq (.seq (.reg (some ⟨[(6,.box il,.own .ro)],[.val 16 y4],[0,4,5]⟩) []) .nop) .nop))) .nop))) A6 A7 [0] A6 (s7 n jc jd je jf)).o
def s8(v1:Nat)(v2 v3 v4 v5:T88)(v6:T20):T83:=af (v4 (v6.1,())) (λ(v7:T79)=>aq (λ(v8:T78)=>λv9=>aj (λ(v10:T57)=>bif v10.2.1 then af (v4 (v10.1.1,())) (λ(v11:T79)=>af (nU v1 (2,([v8.2.1,v11.1.1]:List (List (Int×(List Int)))),())) (λ(v12:T49)=>v9 ((v11.2.1,()),v12.1.1,v11.1.2.1,())))else some ((v8.2.1,v8.2.2.1,()),v10.1.1,())) (λv13=>bif v8.2.2.1 then af (sY v1 (v8.1.1,([124,41]:List Int),())) (λ(v14:T58)=>v13 ((v14.2.1,()),!v14.1.1,()))else v13 ((v8.1.1,()),false,()))) v1 ((v7.2.1,()),v7.1.1,v7.1.2.1,()))
theorem MP(n:Nat)(jc:yZ)(jd:y0)(je:za)(jf:zb)(h:By jc jd je jf):dC Tryz.prog 157 (Hn (s8 n jc jd je jf)):=(fb n [⟨_,F171 n⟩,⟨_,F159 n⟩,⟨_,⟨_,h.1,Bu⟩⟩,⟨_,⟨_,h.2.1,Bv⟩⟩,⟨_,⟨_,h.2.2.1,Bw⟩⟩,⟨_,⟨_,h.2.2.2,Bx⟩⟩] [9,20] [] [] Tryz.func157 Tryz.results157 Tryz.ntmps157 (.seq .nop (.seq .nop (.seq (.block none (.loop ⟨[(6,.box il,.own .ro)],[.val 4 jb,.val 5 y4],[0]⟩ (.seq (.seq (.reg (some ⟨[(6,.box il,.own .ro)],[.val 17 y4],[0,4,5]⟩) []) .nop) .nop))) .nop))) A6 A7 [0] A6 (s8 n jc jd je jf)).o
def s9(v1:Nat)(v2 v3 v4 v5:T88)(v6:T20):T83:=af (v5 (v6.1,())) (λ(v7:T79)=>aq (λ(v8:T73)=>λv9=>bif v7.1.2.1 then af (jS v1 (v8.1.1,42,())) (λ(v10:T58)=>aj (λ(v11:T73)=>v9 ((v11.1.1,()),v11.2.1,())) (λv12=>bif v10.1.1 then af (nU v1 (4,([v8.2.1]:List (List (Int×(List Int)))),())) (λ(v13:T49)=>v12 ((v10.2.1,()),v13.1.1,()))else af (jS v1 (v10.2.1,43,())) (λ(v14:T58)=>aj (λ(v15:T73)=>v12 ((v15.1.1,()),v15.2.1,())) (λv16=>bif v14.1.1 then af (nU v1 (5,([v8.2.1]:List (List (Int×(List Int)))),())) (λ(v17:T49)=>v16 ((v14.2.1,()),v17.1.1,()))else af (jS v1 (v14.2.1,63,())) (λ(v18:T58)=>bif v18.1.1 then af (nU v1 (6,([v8.2.1]:List (List (Int×(List Int)))),())) (λ(v19:T49)=>v16 ((v18.2.1,()),v19.1.1,()))else some ((v8.2.1,true,()),v18.2.1,()))))))else some ((([]:List (Int×(List Int))),false,()),v8.1.1,())) v1 ((v7.2.1,()),v7.1.1,()))
theorem MQ(n:Nat)(jc:yZ)(jd:y0)(je:za)(jf:zb)(h:By jc jd je jf):dC Tryz.prog 170 (Ho (s9 n jc jd je jf)):=(fb n [⟨_,F158 n⟩,⟨_,F159 n⟩,⟨_,⟨_,h.1,Bu⟩⟩,⟨_,⟨_,h.2.1,Bv⟩⟩,⟨_,⟨_,h.2.2.1,Bw⟩⟩,⟨_,⟨_,h.2.2.2,Bx⟩⟩] [8] [] [] Tryz.func170 Tryz.results170 Tryz.ntmps170 (.seq .nop (.seq .nop (.seq (.block none (.loop ⟨[(6,.box il,.own .ro)],[.val 4 jb],[0,5]⟩ (.seq .nop (.block none (.block none (.seq .nop (.cond (some ⟨[(6,.box il,.own .ro)],[.val 4 jb],[0,5]⟩) .nop (.seq .nop (.cond (some ⟨[(6,.box il,.own .ro)],[.val 4 jb],[0,5]⟩) .nop .nop))))))))) .nop))) A6 A7 [0] A6 (s9 n jc jd je jf)).o
def ta(v1:Nat)(v2 v3 v4 v5:T88)(v6:T20):T83:=af (sY v1 (v6.1,([124,41,42,43,63,93,47,34]:List Int),())) (λ(v7:T58)=>bif v7.1.1 then some ((([]:List (Int×(List Int))),false,()),v7.2.1,())else af (jS v1 (v7.2.1,46,())) (λ(v8:T58)=>bif v8.1.1 then af (D5 v1 ()) (λ(v9:T13)=>some ((([(1,v9.1.1)]:List (Int×(List Int))),true,()),v8.2.1,()))else af (jS v1 (v8.2.1,126,())) (λ(v10:T58)=>bif v10.1.1 then some ((([(0,([0,0,0,0]:List Int))]:List (Int×(List Int))),true,()),v10.2.1,())else af (jS v1 (v10.2.1,40,())) (λ(v11:T58)=>bif v11.1.1 then af (v2 ((v11.2.1.1,v11.2.1.2.1,IntKind.wrap .i64 (v11.2.1.2.2+1)),())) (λ(v12:T79)=>aj (λ(v13:T78)=>some ((v13.2.1,v13.2.2.1,()),v13.1.1,())) (λv14=>bif v12.1.2.1 then bif decide ((IntKind.wrap .i64 (v12.2.1.2.2-1))<99)then af (jS v1 ((v12.2.1.1,v12.2.1.2.1,IntKind.wrap .i64 (v12.2.1.2.2-1)),41,())) (λ(v15:T58)=>v14 ((v15.2.1,()),v12.1.1,v15.1.1,()))else v14 (((v12.2.1.1,v12.2.1.2.1,IntKind.wrap .i64 (v12.2.1.2.2-1)),()),v12.1.1,false,())else v14 (((v12.2.1.1,v12.2.1.2.1,IntKind.wrap .i64 (v12.2.1.2.2-1)),()),v12.1.1,false,())))else af (jS v1 (v11.2.1,91,())) (λ(v16:T58)=>bif v16.1.1 then af (D9 v1 (v16.2.1,())) (λ(v17:T79)=>some ((v17.1.1,v17.1.2.1,()),v17.2.1,()))else af (yY v1 (v16.2.1,())) (λ(v18:T65)=>af (Ea v1 (([v18.1.1]:List Int),())) (λ(v19:T13)=>some ((([(1,v19.1.1)]:List (Int×(List Int))),v18.1.2.1,()),v18.2.1,()))))))))
theorem MR(n:Nat)(jc:yZ)(jd:y0)(je:za)(jf:zb)(h:By jc jd je jf):dC Tryz.prog 181 (Hp (ta n jc jd je jf)):=(fb n [⟨_,F171 n⟩,⟨_,F158 n⟩,⟨_,F184 n⟩,⟨_,F185 n⟩,⟨_,F186 n⟩,⟨_,F187 n⟩,⟨_,⟨_,h.1,Bu⟩⟩,⟨_,⟨_,h.2.1,Bv⟩⟩,⟨_,⟨_,h.2.2.1,Bw⟩⟩,⟨_,⟨_,h.2.2.2,Bx⟩⟩] [34,61] [] [] Tryz.func181 Tryz.results181 Tryz.ntmps181 (.seq .nop (.seq (.block none (.seq .nop (.cond none .nop (.seq .nop (.cond none .nop (.seq .nop (.cond none .nop (.seq .nop (.cond none (.seq .nop (.seq .nop (.seq .nop (.seq (.reg (some ⟨[(6,.box il,.own .ro)],[.val 2 jb,.val 3 y4],[0]⟩) []) .nop)))) .nop))))))))) .nop)) A6 A7 [0] A6 (ta n jc jd je jf)).o
def bo(n:Nat):Nat->(T20->T83)×(T20->T83)×(T20->T83)×(T20->T83)
 |0=>(λ_=>none,λ_=>none,λ_=>none,λ_=>none)
 |d+1=>(λx=>s7 n (bo n d).1 (bo n d).2.1 (bo n d).2.2.1 (bo n d).2.2.2 x,λx=>s8 n (bo n d).1 (bo n d).2.1 (bo n d).2.2.1 (bo n d).2.2.2 x,λx=>s9 n (bo n d).1 (bo n d).2.1 (bo n d).2.2.1 (bo n d).2.2.2 x,λx=>ta n (bo n d).1 (bo n d).2.1 (bo n d).2.2.1 (bo n d).2.2.2 x)
theorem tb(n:Nat):∀ d,By (bo n d).1 (bo n d).2.1 (bo n d).2.2.1 (bo n d).2.2.2
 |0=>⟨(λx r h=>by cases h),(λx r h=>by cases h),(λx r h=>by cases h),(λx r h=>by cases h)⟩
 |d+1=>⟨MO n _ _ _ _ (tb n d),MP n _ _ _ _ (tb n d),MQ n _ _ _ _ (tb n d),MR n _ _ _ _ (tb n d)⟩
def Hq(n:Nat)(x:T20):T83:=(bo n n).1 x
def F145(n:Nat):Fb 145:=⟨Hm (Hq n),(tb n n).1,Bu⟩
def MS(n:Nat)(x:T20):T83:=(bo n n).2.1 x
def F157(n:Nat):Fb 157:=⟨Hn (MS n),(tb n n).2.1,Bv⟩
def MT(n:Nat)(x:T20):T83:=(bo n n).2.2.1 x
def F170(n:Nat):Fb 170:=⟨Ho (MT n),(tb n n).2.2.1,Bw⟩
def MU(n:Nat)(x:T20):T83:=(bo n n).2.2.2 x
def F181(n:Nat):Fb 181:=⟨Hp (MU n),(tb n n).2.2.2,Bx⟩
def Eb(v1:Nat)(v2:T4):T68:=bif decide (1600<(v2.1.length:Int))then some ((([]:List (Int×(List Int))),6,()),())else af (Hq v1 ((v2.1,0,0),())) (λ(v3:T79)=>aj (λ(v4:T3)=>bif v4.2.1 then some ((([]:List (Int×(List Int))),5,()),())else bif decide (400<(v3.1.1.length:Int))then some ((([]:List (Int×(List Int))),6,()),())else some ((v3.1.1,0,()),())) (λv5=>bif !v3.1.2.1 then v5 ((),true,())else v5 ((),decide (v3.2.1.2.1<(v2.1.length:Int)),())))
def F128(n:Nat):Fb 128:=fb n [⟨_,F145 n⟩] [15] [] [] Tryz.func128 Tryz.results128 Tryz.ntmps128 (.seq .nop (.seq .nop (.seq .nop (.seq .nop (.seq (.block none (.seq (.reg (some ⟨[],[.val 18 y4],[5]⟩) []) .nop)) .nop))))) A21 A8 [] [] (Eb n)
end
noncomputable section
def Ec(v1:Nat)(v2:T28):T12:=bif decide (400<(v2.1.length:Int))then some ((6,()),())else aq (λ(v3:T7)=>λv4=>bif decide (v3.2.2.1<(v2.1.length:Int))then if 0<=v3.2.2.1 then(match v2.1[(v3.2.2.1).toNat]? with|some v5=>af (sZ v1 (v5.1,())) (λ(v6:T5)=>aj (λ(v7:T3)=>bif v7.2.1 then some ((5,()),())else v4 ((),IntKind.wrap .i64 (v3.2.1+(IntKind.wrap .i64 (1-v6.1.1))),IntKind.wrap .i64 (v3.2.2.1+1),())) (λv8=>bif decide (v6.1.1<0)then v8 ((),true,())else bif decide (v3.2.1<v6.1.1)then v8 ((),true,())else af (mC v1 (v5.2,())) (λ(v9:T6)=>v8 ((),(decide (v5.1=1)) == v9.1.1,()))))|none=>none)else none else bif !(decide (v3.2.1=1))then some ((5,()),())else some ((0,()),())) v1 ((),0,0,())
def F146(n:Nat):Fb 146:=fb n [⟨_,F160 n⟩,⟨_,F161 n⟩] [] [] [] Tryz.func146 Tryz.results146 Tryz.ntmps146 (.seq .nop (.seq .nop (.seq .nop (.seq (.seq .nop (.block none (.loop ⟨[],[.val 3 y2,.val 12 y2],[10,11]⟩ (.seq .nop (.seq .nop (.seq (.block none (.seq (.reg none [5]) (.seq .nop (.seq (.seq (.reg (some ⟨[],[.val 34 y4],[3,6,10,11,12]⟩) []) .nop) .nop)))) .nop)))))) .nop)))) [(jb,.ro)] A20 [] [] (Ec n)
def Bz(v1:Nat)(v2:T71):Option ((Int×Unit)×(Int×(List (Int×Int×(List Int)×Bool))×Int×Int)×Unit):=some ((IntKind.wrap .i64 ((IntKind.wrap .i64 (v2.1.1+1))-1),()),(IntKind.wrap .i64 (v2.1.1+1),v2.1.2),())
def F172(n:Nat):Fb 172:=fb n [] [] [] [] Tryz.func172 Tryz.results172 Tryz.ntmps172 (.nop) A0 A20 [0] A0 (Bz n)
def Ee(v1:Nat)(v2:T71):Option (((Int×Int)×Unit)×(Int×(List (Int×Int×(List Int)×Bool))×Int×Int)×Unit):=af (Bz v1 (v2.1,())) (λ(v3:T81)=>af (Bz v1 (v3.2.1,())) (λ(v4:T81)=>some (((v3.1.1,v4.1.1),()),v4.2.1,())))
def F162(n:Nat):Fb 162:=fb n [⟨_,F172 n⟩] [] [] [] Tryz.func162 Tryz.results162 Tryz.ntmps162 (.seq .nop (.seq .nop (.seq (.reg none [2]) .nop))) A0 [(JB,.ro)] [0] A0 (Ee n)
def lG(v1:Nat)(v2:((Int×(List (Int×Int×(List Int)×Bool))×Int×Int)×Int×Int×Unit)):Option (Unit×(Int×(List (Int×Int×(List Int)×Bool))×Int×Int)×Unit):=if(List.length v2.1.2.1+List.length ([(v2.2.1,v2.2.2.1,([0,0,0,0]:List Int),true)]:List (Int×Int×(List Int)×Bool)))*56<=140737488355328 then if List.length v2.1.2.1+List.length ([(v2.2.1,v2.2.2.1,([0,0,0,0]:List Int),true)]:List (Int×Int×(List Int)×Bool))<=9223372036854775807 then some ((),(v2.1.1,v2.1.2.1++([(v2.2.1,v2.2.2.1,([0,0,0,0]:List Int),true)]:List (Int×Int×(List Int)×Bool)),v2.1.2.2),())else none else none
def F163(n:Nat):Fb 163:=fb n [] [] [] [] Tryz.func163 Tryz.results163 Tryz.ntmps163 (.nop) [(.box mz,.own (.pr .ro (.pr (.own .ro) (.pr .ro .ro)))),(y2,.ro),(y2,.ro)] [] [0] A0 (lG n)
def kF(v1:Nat)(v2:((Int×(List (Int×Int×(List Int)×Bool))×Int×Int)×(Int×(List Int))×(List (Int×Int))×Unit)):Option (((List (Int×Int))×Unit)×(Int×(List (Int×Int×(List Int)×Bool))×Int×Int)×Unit):=af (Ee v1 (v2.1,())) (λ(v3:(((Int×Int)×Unit)×(Int×(List (Int×Int×(List Int)×Bool))×Int×Int)×Unit))=>aj (λ(v4:T86)=>af (sZ v1 (v2.2.1.1,())) (λ(v5:T5)=>if(0:Int)<=(0:Int)/\(0:Int)<=(IntKind.wrap .i64 ((v2.2.2.1.length:Int)-v5.1.1))/\(IntKind.wrap .i64 ((v2.2.2.1.length:Int)-v5.1.1))<=(v4.1.2.1.length:Int)then if(List.length (br v4.1.2.1 (0:Int) (IntKind.wrap .i64 ((v2.2.2.1.length:Int)-v5.1.1)))+List.length ([v3.1.1]:List (Int×Int)))*16<=140737488355328 then if List.length (br v4.1.2.1 (0:Int) (IntKind.wrap .i64 ((v2.2.2.1.length:Int)-v5.1.1)))+List.length ([v3.1.1]:List (Int×Int))<=9223372036854775807 then some (((br v4.1.2.1 (0:Int) (IntKind.wrap .i64 ((v2.2.2.1.length:Int)-v5.1.1)))++([v3.1.1]:List (Int×Int)),()),v4.1.1,())else none else none else none)) (λv6=>bif decide (v2.2.1.1=0)then af (lG v1 (v3.2.1,v3.1.1.1,v3.1.1.2,())) (λ(v7:T75)=>v6 ((v7.2.1,v2.2.2.1,()),()))else aj (λ(v8:T86)=>v6 ((v8.1.1,v8.1.2.1,()),())) (λv9=>bif decide (v2.2.1.1=1)then if(List.length v3.2.1.2.1+List.length ([(v3.1.1.1,v3.1.1.2,v2.2.1.2,false)]:List (Int×Int×(List Int)×Bool)))*56<=140737488355328 then if List.length v3.2.1.2.1+List.length ([(v3.1.1.1,v3.1.1.2,v2.2.1.2,false)]:List (Int×Int×(List Int)×Bool))<=9223372036854775807 then v9 (((v3.2.1.1,v3.2.1.2.1++([(v3.1.1.1,v3.1.1.2,v2.2.1.2,false)]:List (Int×Int×(List Int)×Bool)),v3.2.1.2.2),v2.2.2.1,()),())else none else none else aj (λ(v10:T86)=>v9 ((v10.1.1,v10.1.2.1,()),())) (λv11=>bif decide (v2.2.1.1=2)then if 0<=(IntKind.wrap .i64 ((v2.2.2.1.length:Int)-2))then(match v2.2.2.1[(IntKind.wrap .i64 ((v2.2.2.1.length:Int)-2)).toNat]? with|some v12=>if 0<=(IntKind.wrap .i64 ((v2.2.2.1.length:Int)-1))then(match v2.2.2.1[(IntKind.wrap .i64 ((v2.2.2.1.length:Int)-1)).toNat]? with|some v13=>af (lG v1 (v3.2.1,v3.1.1.1,v12.1,())) (λ(v14:T75)=>af (lG v1 (v14.2.1,v12.2,v13.1,())) (λ(v15:T75)=>af (lG v1 (v15.2.1,v13.2,v3.1.1.2,())) (λ(v16:T75)=>v11 ((v16.2.1,v2.2.2.1,()),()))))|none=>none)else none|none=>none)else none else aj (λ(v17:T86)=>v11 ((v17.1.1,v17.1.2.1,()),())) (λv18=>bif decide (v2.2.1.1=3)then if 0<=(IntKind.wrap .i64 ((v2.2.2.1.length:Int)-2))/\(IntKind.wrap .i64 ((v2.2.2.1.length:Int)-2))<=(v2.2.2.1.length:Int)/\(v2.2.2.1.length:Int)<=(v2.2.2.1.length:Int)then aq (λ(v19:(((Int×(List (Int×Int×(List Int)×Bool))×Int×Int)×(List (Int×Int))×Unit)×Int×Unit))=>λv20=>bif decide (v19.2.1<(l5 (IntKind.wrap .i64 ((v2.2.2.1.length:Int)-2)) (v2.2.2.1.length:Int)))then bif rN v19.2.1 (IntKind.wrap .i64 ((v2.2.2.1.length:Int)-2)) (v2.2.2.1.length:Int)then if 0<=(iG (IntKind.wrap .i64 ((v2.2.2.1.length:Int)-2)) v19.2.1)then(match v19.1.2.1[(iG (IntKind.wrap .i64 ((v2.2.2.1.length:Int)-2)) v19.2.1).toNat]? with|some v21=>af (lG v1 (v19.1.1,v3.1.1.1,v21.1,())) (λ(v22:T75)=>af (lG v1 (v22.2.1,v21.2,v3.1.1.2,())) (λ(v23:T75)=>v20 ((v23.2.1,v19.1.2.1,()),IntKind.wrap .i64 (v19.2.1+1),())))|none=>none)else none else none else v18 ((v19.1.1,v19.1.2.1,()),())) v1 ((v3.2.1,v2.2.2.1,()),0,())else none else if 0<=(IntKind.wrap .i64 ((v2.2.2.1.length:Int)-1))then(match v2.2.2.1[(IntKind.wrap .i64 ((v2.2.2.1.length:Int)-1)).toNat]? with|some v24=>af (lG v1 (v3.2.1,v3.1.1.1,v24.1,())) (λ(v25:T75)=>af (lG v1 (v25.2.1,v24.2,v3.1.1.2,())) (λ(v26:T75)=>aj (λ(v27:T86)=>aj (λ(v28:T86)=>v18 ((v28.1.1,v28.1.2.1,()),())) (λv29=>bif !(decide (v2.2.1.1=5))then af (lG v1 (v27.1.1,v3.1.1.1,v3.1.1.2,())) (λ(v30:T75)=>v29 ((v30.2.1,v27.1.2.1,()),()))else v29 ((v27.1.1,v27.1.2.1,()),()))) (λv31=>bif !(decide (v2.2.1.1=6))then af (lG v1 (v26.2.1,v24.2,v24.1,())) (λ(v32:T75)=>v31 ((v32.2.1,v2.2.2.1,()),()))else v31 ((v26.2.1,v2.2.2.1,()),()))))|none=>none)else none)))))
def F147(n:Nat):Fb 147:=fb n [⟨_,F162 n⟩,⟨_,F163 n⟩,⟨_,F160 n⟩] [] [118] [] Tryz.func147 Tryz.results147 Tryz.ntmps147 (.seq (.reg none [4]) (.seq .nop (.seq (.reg none [8]) (.seq (.seq .nop (.block none (.seq .nop (.cond (some ⟨[(6,.box mz,.own (.pr .ro (.pr (.own .ro) (.pr .ro .ro)))),(22,nT,.own .ro)],[],[0,2,4,7,8]⟩) .nop (.seq .nop (.cond (some ⟨[(6,.box mz,.own (.pr .ro (.pr (.own .ro) (.pr .ro .ro)))),(22,nT,.own .ro)],[],[0,2,4,7,8]⟩) .nop (.seq .nop (.cond (some ⟨[(6,.box mz,.own (.pr .ro (.pr (.own .ro) (.pr .ro .ro)))),(22,nT,.own .ro)],[],[0,2,4,7,8]⟩) (.seq (.reg none [9,10]) .nop) (.seq .nop (.cond (some ⟨[(6,.box mz,.own (.pr .ro (.pr (.own .ro) (.pr .ro .ro)))),(22,nT,.own .ro)],[],[0,2,4,7,8]⟩) (.seq .nop (.block none (.loop ⟨[(6,.box mz,.own (.pr .ro (.pr (.own .ro) (.pr .ro .ro)))),(22,nT,.own .ro)],[.val 120 y2],[0,2,4,7,8,118,119]⟩ (.seq .nop (.seq .nop (.seq (.block none (.seq (.reg none [12]) .nop)) .nop)))))) (.seq (.reg none [13]) (.seq .nop (.seq .nop (.seq (.seq .nop (.cond (some ⟨[(6,.box mz,.own (.pr .ro (.pr (.own .ro) (.pr .ro .ro)))),(22,nT,.own .ro)],[],[0,2,4,7,8]⟩) .nop .nop)) (.seq .nop (.cond (some ⟨[(6,.box mz,.own (.pr .ro (.pr (.own .ro) (.pr .ro .ro)))),(22,nT,.own .ro)],[],[0,2,4,7,8]⟩) .nop .nop)))))))))))))))) .nop)))) [(.box mz,.own (.pr .ro (.pr (.own .ro) (.pr .ro .ro)))),(yW,.ro),(nT,.own .ro)] [(nT,.own .ro)] [0] A0 (kF n)
def Ef(v1:Nat)(v2:T28):Option (((Int×(List (Int×Int×(List Int)×Bool))×Int×Int)×Int×Unit)×Unit):=af (Ec v1 (v2.1,())) (λ(v3:T5)=>bif !(decide (v3.1.1=0))then some (((0,([]:List (Int×Int×(List Int)×Bool)),0,0),v3.1.1,()),())else aq (λ(v4:(((Int×(List (Int×Int×(List Int)×Bool))×Int×Int)×(Int×(List (Int×Int×(List Int)×Bool))×Int×Int)×Unit)×(List (Int×Int))×Int×Unit))=>λv5=>bif decide (v4.2.2.1<(v2.1.length:Int))then if 0<=v4.2.2.1 then(match v2.1[(v4.2.2.1).toNat]? with|some v6=>af (kF v1 (v4.1.2.1,v6,v4.2.1,())) (λ(v7:(((List (Int×Int))×Unit)×(Int×(List (Int×Int×(List Int)×Bool))×Int×Int)×Unit))=>v5 ((v4.1.1,v7.2.1,()),v7.1.1,IntKind.wrap .i64 (v4.2.2.1+1),()))|none=>none)else none else if(0:Int)<=(0:Int)then(match v4.2.1[(0:Int).toNat]? with|some v8=>if(0:Int)<=(0:Int)then(match v4.2.1[(0:Int).toNat]? with|some v9=>some (((v4.1.2.1.1,v4.1.2.1.2.1,v8.1,v9.2),0,()),())|none=>none)else none|none=>none)else none) v1 (((0,([]:List (Int×Int×(List Int)×Bool)),0,0),(0,([]:List (Int×Int×(List Int)×Bool)),0,0),()),([]:List (Int×Int)),0,()))
def F129(n:Nat):Fb 129:=fb n [⟨_,F146 n⟩,⟨_,F147 n⟩] [13,15] [] [] Tryz.func129 Tryz.results129 Tryz.ntmps129 (.seq .nop (.seq .nop (.seq .nop (.seq .nop (.seq (.seq .nop (.block none (.loop ⟨[(16,.box qz,.own (.pr .ro (.pr (.own .ro) (.pr .ro .ro)))),(128,.box mz,.own (.pr .ro (.pr (.own .ro) (.pr .ro .ro))))],[.hdr 6 55 nT (.own .ro),.val 19 y2],[2,5,17,18]⟩ (.seq .nop (.seq .nop (.seq (.block none (.seq (.reg none [8]) .nop)) .nop)))))) (.seq .nop (.seq (.rgf none [5] [2]) .nop))))))) [(jb,.ro)] [(qz,.ro),(y2,.ro)] [] [] (Ef n)
def zd(v1:Nat)(v2:T71):T14:=aj (λ(v3:T3)=>bif v3.2.1 then some ((false,()),())else aq (λ(v4:T2)=>λv5=>bif decide (v4.2.1<(v2.1.2.1.length:Int))then if 0<=v4.2.1 then(match v2.1.2.1[(v4.2.1).toNat]? with|some v6=>aj (λ(v7:T3)=>bif v7.2.1 then some ((false,()),())else v5 ((),IntKind.wrap .i64 (v4.2.1+1),())) (λv8=>bif decide (v6.1<0)then v8 ((),true,())else bif decide (v2.1.1<=v6.1)then v8 ((),true,())else bif decide (v6.2.1<0)then v8 ((),true,())else v8 ((),decide (v2.1.1<=v6.2.1),()))|none=>none)else none else some ((true,()),())) v1 ((),0,())) (λv9=>bif decide (v2.1.2.2.1<0)then v9 ((),true,())else bif decide (v2.1.1<=v2.1.2.2.1)then v9 ((),true,())else bif decide (v2.1.2.2.2<0)then v9 ((),true,())else v9 ((),decide (v2.1.1<=v2.1.2.2.2),()))
def F148(n:Nat):Fb 148:=fb n [] [] [] [] Tryz.func148 Tryz.results148 Tryz.ntmps148 (.seq (.reg none [1]) (.seq (.seq (.reg (some ⟨[],[.val 26 y4],[1]⟩) []) .nop) (.seq (.seq .nop (.block none (.loop ⟨[],[.val 30 y2],[1,28,29]⟩ (.seq .nop (.seq .nop (.seq (.block none (.seq (.reg none [4]) (.seq (.reg (some ⟨[],[.val 55 y4],[1,28,29,30]⟩) []) .nop))) .nop)))))) .nop))) [(qz,.ro)] A19 [] [] (zd n)
def Eg(v1:Nat)(v2:T71):Option (((List (List Int))×Unit)×Unit):=aq (λ(v3:(Unit×(List (List Int))×Int×Unit))=>λv4=>bif decide (v3.2.2.1<(v2.1.2.1.length:Int))then if 0<=v3.2.2.1 then(match v2.1.2.1[(v3.2.2.1).toNat]? with|some v5=>aj (λ(v6:(Unit×(List (List Int))×Unit))=>v4 ((),v6.2.1,IntKind.wrap .i64 (v3.2.2.1+1),())) (λv7=>bif !v5.2.2.2 then if(List.length v3.2.1+List.length ([v5.2.2.1]:List (List Int)))*32<=140737488355328 then if List.length v3.2.1+List.length ([v5.2.2.1]:List (List Int))<=9223372036854775807 then v7 ((),v3.2.1++([v5.2.2.1]:List (List Int)),())else none else none else v7 ((),v3.2.1,()))|none=>none)else none else some ((v3.2.1,()),())) v1 ((),([]:List (List Int)),0,())
def F165(n:Nat):Fb 165:=fb n [] [] [] [] Tryz.func165 Tryz.results165 Tryz.ntmps165 (.seq (.reg none [1]) (.seq .nop (.seq (.seq .nop (.block none (.loop ⟨[],[.hdr 3 31 yX (.own .ro),.val 9 y2],[7,8]⟩ (.seq .nop (.seq .nop (.seq (.block none (.seq (.reg none [5]) (.seq .nop (.cond (some ⟨[],[.hdr 3 31 yX (.own .ro)],[7,8,9]⟩) .nop .nop)))) .nop)))))) .nop))) [(qz,.ro)] [(yX,.ro)] [] [] (Eg n)
def ze(v1:Nat)(v2:T8):T14:=if(64:Int)=0 then none else if 0<=(IntKind.wrap .u8 (Int.tdiv v2.2.1 64))then(match v2.1[(IntKind.wrap .u8 (Int.tdiv v2.2.1 64)).toNat]? with|some v3=>if(64:Int)=0 then none else if(Int.tmod v2.2.1 64)<0 then none else some ((decide ((bF .and .u64 (Int.fdiv v3 (2 ^ (Nat.min (Int.toNat (Int.tmod v2.2.1 64)) (IntKind.bits .u64)))) (1:Int))=1),()),())|none=>none)else none
def F176(n:Nat):Fb 176:=fb n [] [] [] [] Tryz.func176 Tryz.results176 Tryz.ntmps176 (.seq (.reg none [2]) .nop) [(cT,.ro),(y5,.ro)] A19 [] [] (ze n)
def Eh(v1:Nat)(v2:((List (List Int))×Int×Unit)):T33:=if(8:Int)=0 then none else if 0<=(IntKind.wrap .i64 (Int.tdiv (IntKind.wrap .i64 ((v2.1.length:Int)+7)) 8))/\(IntKind.wrap .i64 (Int.tdiv (IntKind.wrap .i64 ((v2.1.length:Int)+7)) 8))<=(IntKind.wrap .i64 (Int.tdiv (IntKind.wrap .i64 ((v2.1.length:Int)+7)) 8))then if(IntKind.wrap .i64 (Int.tdiv (IntKind.wrap .i64 ((v2.1.length:Int)+7)) 8)).toNat*1<=140737488355328 then aq (λ(v3:T24)=>λv4=>bif decide (v3.2.1<(v2.1.length:Int))then if 0<=v3.2.1 then(match v2.1[(v3.2.1).toNat]? with|some v5=>af (ze v1 (v5,v2.2.1,())) (λ(v6:T6)=>aj (λ(v7:T13)=>v4 ((v7.1.1,()),IntKind.wrap .i64 (v3.2.1+1),())) (λv8=>bif v6.1.1 then if(8:Int)=0 then none else if 0<=(IntKind.wrap .i64 (Int.tdiv v3.2.1 8))then(match v3.1.1[(IntKind.wrap .i64 (Int.tdiv v3.2.1 8)).toNat]? with|some v9=>if(8:Int)=0 then none else if(IntKind.wrap .u64 (Int.tmod v3.2.1 8))<0 then none else if 0<=(IntKind.wrap .i64 (Int.tdiv v3.2.1 8))then(match v3.1.1[(IntKind.wrap .i64 (Int.tdiv v3.2.1 8)).toNat]? with|some v10=>if 0<=(IntKind.wrap .i64 (Int.tdiv v3.2.1 8))then(match v3.1.1[(IntKind.wrap .i64 (Int.tdiv v3.2.1 8)).toNat]? with|some v11=>v8 ((List.set v3.1.1 (IntKind.wrap .i64 (Int.tdiv v3.2.1 8)).toNat (bF .or .u8 v9 (IntKind.wrap .u8 ((1:Int)*2 ^ (Nat.min (Int.toNat (IntKind.wrap .u64 (Int.tmod v3.2.1 8))) (IntKind.bits .u8))))),()),())|none=>none)else none|none=>none)else none|none=>none)else none else v8 ((v3.1.1,()),())))|none=>none)else none else some ((v3.1.1,()),())) v1 ((List.replicate (IntKind.wrap .i64 (Int.tdiv (IntKind.wrap .i64 ((v2.1.length:Int)+7)) 8)).toNat (0:Int),()),0,())else none else none
def F173(n:Nat):Fb 173:=fb n [⟨_,F176 n⟩] [] [] [] Tryz.func173 Tryz.results173 Tryz.ntmps173 (.seq .nop (.seq .nop (.seq (.seq .nop (.block none (.loop ⟨[(96,oG,.own .ro)],[.val 15 y2],[1,5,13,14]⟩ (.seq .nop (.seq .nop (.seq (.block none (.seq (.reg none [7]) (.seq .nop (.cond (some ⟨[(96,oG,.own .ro)],[],[1,5,13,14,15]⟩) .nop .nop)))) .nop)))))) .nop))) [(yX,.ro),(y5,.ro)] A21 [] [] (Eh n)
def Ei(v1:Nat)(v2:((List (List Int))×Unit)):T33:=aq (λ(v3:T77)=>λv4=>bif decide (v3.2.1<256)then af (Eh v1 (v2.1,IntKind.wrap .u8 v3.2.1,())) (λ(v5:T13)=>aj (λ(v6:T77)=>if 0<=v3.2.1 then(match v6.1.2.1[(v3.2.1).toNat]? with|some v7=>if 0<=v3.2.1 then(match v6.1.2.1[(v3.2.1).toNat]? with|some v8=>v4 ((v6.1.1,List.set v6.1.2.1 (v3.2.1).toNat (IntKind.wrap .u8 v6.2.1),v6.1.2.2.1,()),IntKind.wrap .i64 (v3.2.1+1),())|none=>none)else none|none=>none)else none) (λv9=>bif !(eF (λ(v10:T0)=>λ(v11:T0)=>decide (v10=v11)) v5.1.1 v3.1.2.2.1)then bif p6 v3.1.2.2.1 then v9 ((v3.1.1,v3.1.2.1,dm (λ(v12:T0)=>λ(v13:T0)=>decide (v12=v13)) v5.1.1 (uE v3.1.2.2.1) v3.1.2.2.1,()),uE v3.1.2.2.1,())else none else v9 ((v3.1.1,v3.1.2.1,v3.1.2.2.1,()),bx (λ(v14:T0)=>λ(v15:T0)=>decide (v14=v15)) v5.1.1 v3.1.2.2.1,())))else some ((v3.1.2.1,()),())) v1 ((List.replicate 256 (0:Int),List.replicate 256 (0:Int),([]:List ((List Int)×Int)),()),0,())
def F164(n:Nat):Fb 164:=fb n [⟨_,F173 n⟩] [] [] [] Tryz.func164 Tryz.results164 Tryz.ntmps164 (.seq .nop (.seq .nop (.seq .nop (.seq (.seq .nop (.block none (.loop ⟨[(16,.box sX,.own .ro),(24,.box sX,.own .ro),(72,mu,.own .ro)],[.val 10 y2],[0,2,3,4]⟩ (.seq .nop (.seq .nop (.seq (.block none (.seq .nop (.seq .nop (.seq .nop (.seq (.seq .nop (.cond (some ⟨[(16,.box sX,.own .ro),(24,.box sX,.own .ro),(72,mu,.own .ro)],[.val 7 y2],[0,2,3,4,5,10]⟩) .nop .nop)) .nop))))) .nop)))))) (.seq (.rgf none [3] [2]) .nop))))) [(yX,.ro)] [(sX,.ro)] [] [] (Ei n)
def BA(v1:Nat)(v2:((Int×(List (Int×Int×(List Int)×Bool))×Int×Int)×(List Bool)×Unit)):T36:=if 0<=v2.1.1/\v2.1.1<=v2.1.1 then if(v2.1.1).toNat*1<=140737488355328 then aq (λ(v3:T34)=>λv4=>bif v3.2.1 then aq (λ(v5:(((List Bool)×Unit)×Bool×Int×Unit))=>λv6=>bif decide (v5.2.2.1<(v2.1.2.1.length:Int))then if 0<=v5.2.2.1 then(match v2.1.2.1[(v5.2.2.1).toNat]? with|some v7=>aj (λ(v8:T34)=>aj (λ(v9:T34)=>v6 ((v9.1.1,()),v9.2.1,IntKind.wrap .i64 (v5.2.2.1+1),())) (λv10=>bif v8.2.1 then if 0<=v7.2.1 then(match v8.1.1[(v7.2.1).toNat]? with|some v11=>if 0<=v7.2.1 then(match v8.1.1[(v7.2.1).toNat]? with|some v12=>v10 ((List.set v8.1.1 (v7.2.1).toNat true,()),true,())|none=>none)else none|none=>none)else none else v10 ((v8.1.1,()),v5.2.1,()))) (λv13=>bif v7.2.2.2 then if 0<=v7.1 then(match v5.1.1[(v7.1).toNat]? with|some v14=>bif v14 then if 0<=v7.2.1 then(match v5.1.1[(v7.2.1).toNat]? with|some v15=>v13 ((v5.1.1,()),!v15,())|none=>none)else none else v13 ((v5.1.1,()),false,())|none=>none)else none else v13 ((v5.1.1,()),false,()))|none=>none)else none else v4 ((v5.1.1,()),v5.2.1,())) v1 ((v3.1.1,()),false,0,())else some ((v3.1.1,()),())) v1 ((cpL (List.replicate (v2.1.1).toNat false) v2.2.1,()),true,())else none else none
def F167(n:Nat):Fb 167:=fb n [] [] [] [] Tryz.func167 Tryz.results167 Tryz.ntmps167 (.seq (.reg none [2]) (.seq .nop (.seq .nop (.seq (.seq .nop (.block none (.loop ⟨[(88,cn,.own .ro)],[.val 6 y4],[2,5]⟩ (.seq .nop (.block none (.seq .nop (.seq .nop (.block none (.loop ⟨[(88,cn,.own .ro)],[.val 6 y4,.val 19 y2],[2,5,17,18]⟩ (.seq .nop (.seq .nop (.seq (.block none (.seq (.reg none [8]) (.seq (.reg (some ⟨[(88,cn,.own .ro)],[.val 39 y4],[2,5,6,8,17,18,19]⟩) []) (.cond (some ⟨[(88,cn,.own .ro)],[.val 6 y4],[2,5,17,18,19]⟩) .nop .nop)))) .nop)))))))))))) .nop)))) [(qz,.ro),(cn,.ro)] A15 [] [] (BA n)
def Ej(v1:Nat)(v2:((List Bool)×Unit)):T33:=if(8:Int)=0 then none else if 0<=(IntKind.wrap .i64 (Int.tdiv (IntKind.wrap .i64 ((v2.1.length:Int)+7)) 8))/\(IntKind.wrap .i64 (Int.tdiv (IntKind.wrap .i64 ((v2.1.length:Int)+7)) 8))<=(IntKind.wrap .i64 (Int.tdiv (IntKind.wrap .i64 ((v2.1.length:Int)+7)) 8))then if(IntKind.wrap .i64 (Int.tdiv (IntKind.wrap .i64 ((v2.1.length:Int)+7)) 8)).toNat*1<=140737488355328 then aq (λ(v3:T24)=>λv4=>bif decide (v3.2.1<(v2.1.length:Int))then if 0<=v3.2.1 then(match v2.1[(v3.2.1).toNat]? with|some v5=>aj (λ(v6:T13)=>v4 ((v6.1.1,()),IntKind.wrap .i64 (v3.2.1+1),())) (λv7=>bif v5 then if(8:Int)=0 then none else if 0<=(IntKind.wrap .i64 (Int.tdiv v3.2.1 8))then(match v3.1.1[(IntKind.wrap .i64 (Int.tdiv v3.2.1 8)).toNat]? with|some v8=>if(8:Int)=0 then none else if(IntKind.wrap .u64 (Int.tmod v3.2.1 8))<0 then none else if 0<=(IntKind.wrap .i64 (Int.tdiv v3.2.1 8))then(match v3.1.1[(IntKind.wrap .i64 (Int.tdiv v3.2.1 8)).toNat]? with|some v9=>if 0<=(IntKind.wrap .i64 (Int.tdiv v3.2.1 8))then(match v3.1.1[(IntKind.wrap .i64 (Int.tdiv v3.2.1 8)).toNat]? with|some v10=>v7 ((List.set v3.1.1 (IntKind.wrap .i64 (Int.tdiv v3.2.1 8)).toNat (bF .or .u8 v8 (IntKind.wrap .u8 ((1:Int)*2 ^ (Nat.min (Int.toNat (IntKind.wrap .u64 (Int.tmod v3.2.1 8))) (IntKind.bits .u8))))),()),())|none=>none)else none|none=>none)else none|none=>none)else none else v7 ((v3.1.1,()),()))|none=>none)else none else some ((v3.1.1,()),())) v1 ((List.replicate (IntKind.wrap .i64 (Int.tdiv (IntKind.wrap .i64 ((v2.1.length:Int)+7)) 8)).toNat (0:Int),()),0,())else none else none
def F174(n:Nat):Fb 174:=fb n [] [] [] [] Tryz.func174 Tryz.results174 Tryz.ntmps174 (.seq .nop (.seq .nop (.seq (.seq .nop (.block none (.loop ⟨[(80,oG,.own .ro)],[.val 13 y2],[3,11,12]⟩ (.seq .nop (.seq .nop (.seq (.block none (.seq .nop (.seq .nop (.cond (some ⟨[(80,oG,.own .ro)],[],[3,11,12,13]⟩) .nop .nop)))) .nop)))))) .nop))) A15 A21 [] [] (Ej n)
def Ek(v1:Nat)(v2:T8):T12:=bif decide ((v2.1.length:Int)<=v2.2.1)then some ((-1,()),())else if 0<=v2.2.1 then(match v2.1[(v2.2.1).toNat]? with|some v3=>some ((v3,()),())|none=>none)else none
def F182(n:Nat):Fb 182:=fb n [] [] [] [] Tryz.func182 Tryz.results182 Tryz.ntmps182 (.nop) [(y28,.ro),(y2,.ro)] A20 [] [] (Ek n)
def El(v1:Nat)(v2:((Option ((Int×(List (Int×Int×(List Int)×Bool))×Int×Int)×(List Int)×(List Int)×(List ((List Int)×Int))×(List (List Bool))×(List Int)×(List (List Int))×(List Int)))×(List Bool)×Unit)):T12:=aq (λ(v3:T7)=>λv4=>bif decide (v3.2.2.1<(v2.2.1.length:Int))then if 0<=v3.2.2.1 then(match v2.2.1[(v3.2.2.1).toNat]? with|some v5=>(match v2.1 with|some v6=>(match v2.1 with|some v7=>af (Ek v1 (v7.2.1,v3.2.2.1,())) (λ(v8:T5)=>aj (λ(v9:T3)=>aj (λ(v10:T2)=>v4 ((),v10.2.1,IntKind.wrap .i64 (v3.2.2.1+1),())) (λv11=>bif v9.2.1 then v11 ((),v8.1.1,())else v11 ((),v3.2.1,()))) (λv12=>bif v5 then bif decide (0<=v8.1.1)then bif decide (v3.2.1<0)then v12 ((),true,())else v12 ((),decide (v8.1.1<v3.2.1),())else v12 ((),false,())else v12 ((),false,())))|none=>none)|none=>none)|none=>none)else none else some ((v3.2.1,()),())) v1 ((),-1,0,())
def F175(n:Nat):Fb 175:=fb n [⟨_,F182 n⟩] [] [] [] Tryz.func175 Tryz.results175 Tryz.ntmps175 (.seq .nop (.seq .nop (.seq (.seq .nop (.block none (.loop ⟨[],[.val 5 y2,.val 11 y2],[0,9,10]⟩ (.seq .nop (.seq .nop (.seq (.block none (.seq .nop (.seq .nop (.seq (.reg (some ⟨[],[.val 35 y4],[0,5,8,9,10,11]⟩) []) (.cond (some ⟨[],[.val 5 y2],[0,9,10,11]⟩) .nop .nop))))) .nop)))))) .nop))) [(Ka,.ro),(cn,.ro)] A20 [] [] (El n)
def BB(v1:Nat)(v2:(((Int×(List (Int×Int×(List Int)×Bool))×Int×Int)×(List Int)×(List Int)×(List ((List Int)×Int))×(List (List Bool))×(List Int)×(List (List Int))×(List Int))×(List Bool)×Unit)):Option ((Int×Unit)×((Int×(List (Int×Int×(List Int)×Bool))×Int×Int)×(List Int)×(List Int)×(List ((List Int)×Int))×(List (List Bool))×(List Int)×(List (List Int))×(List Int))×Unit):=aq (λ(v3:((((Int×(List (Int×Int×(List Int)×Bool))×Int×Int)×(List Int)×(List Int)×(List ((List Int)×Int))×(List (List Bool))×(List Int)×(List (List Int))×(List Int))×Unit)×Bool×Int×Unit))=>λv4=>bif decide (v3.2.2.1<(v2.2.1.length:Int))then if 0<=v3.2.2.1 then(match v2.2.1[(v3.2.2.1).toNat]? with|some v5=>aj (λ(v6:((((Int×(List (Int×Int×(List Int)×Bool))×Int×Int)×(List Int)×(List Int)×(List ((List Int)×Int))×(List (List Bool))×(List Int)×(List (List Int))×(List Int))×Unit)×Bool×Unit))=>v4 ((v6.1.1,()),v6.2.1,IntKind.wrap .i64 (v3.2.2.1+1),())) (λv7=>bif v3.2.1 then v7 ((v3.1.1,()),true,())else v7 ((v3.1.1,()),v5,()))|none=>none)else none else bif !v3.2.1 then some ((-1,()),v3.1.1,())else af (Ej v1 (v2.2.1,())) (λ(v8:T13)=>bif eF (λ(v9:T0)=>λ(v10:T0)=>decide (v9=v10)) v8.1.1 v3.1.1.2.2.2.1 then some ((bx (λ(v11:T0)=>λ(v12:T0)=>decide (v11=v12)) v8.1.1 v3.1.1.2.2.2.1,()),v3.1.1,())else if(List.length v3.1.1.2.2.2.2.1+List.length ([v2.2.1]:List (List Bool)))*24<=140737488355328 then if List.length v3.1.1.2.2.2.2.1+List.length ([v2.2.1]:List (List Bool))<=9223372036854775807 then af (El v1 (some (v3.1.1.1,v3.1.1.2.1,v3.1.1.2.2.1,dm (λ(v13:T0)=>λ(v14:T0)=>decide (v13=v14)) v8.1.1 (v3.1.1.2.2.2.2.1.length:Int) v3.1.1.2.2.2.1,v3.1.1.2.2.2.2.1++([v2.2.1]:List (List Bool)),v3.1.1.2.2.2.2.2),v2.2.1,())) (λ(v15:T5)=>if(List.length v3.1.1.2.2.2.2.2.2.2+List.length ([v15.1.1]:List Int))*8<=140737488355328 then if List.length v3.1.1.2.2.2.2.2.2.2+List.length ([v15.1.1]:List Int)<=9223372036854775807 then some ((IntKind.wrap .i64 (((List.length (v3.1.1.2.2.2.2.1++([v2.2.1]:List (List Bool))):Nat):Int)-1),()),(v3.1.1.1,v3.1.1.2.1,v3.1.1.2.2.1,dm (λ(v16:T0)=>λ(v17:T0)=>decide (v16=v17)) v8.1.1 (v3.1.1.2.2.2.2.1.length:Int) v3.1.1.2.2.2.1,v3.1.1.2.2.2.2.1++([v2.2.1]:List (List Bool)),v3.1.1.2.2.2.2.2.1,v3.1.1.2.2.2.2.2.2.1,v3.1.1.2.2.2.2.2.2.2++([v15.1.1]:List Int)),())else none else none)else none else none)) v1 ((v2.1,()),false,0,())
def F166(n:Nat):Fb 166:=fb n [⟨_,F174 n⟩,⟨_,F175 n⟩] [] [] [] Tryz.func166 Tryz.results166 Tryz.ntmps166 (.seq .nop (.seq .nop (.seq (.seq .nop (.block none (.loop ⟨[(6,.box qA,.own (.pr .ro (.pr .ro (.pr .ro (.pr (.own .ro) (.pr (.own .ro) (.pr .ro (.pr (.own .ro) (.own .ro)))))))))],[.val 5 y4,.val 13 y2],[0,1,11,12]⟩ (.seq .nop (.seq .nop (.seq (.block none (.seq .nop (.reg (some ⟨[(6,.box qA,.own (.pr .ro (.pr .ro (.pr .ro (.pr (.own .ro) (.pr (.own .ro) (.pr .ro (.pr (.own .ro) (.own .ro)))))))))],[.val 5 y4],[0,1,11,12,13]⟩) []))) .nop)))))) .nop))) [(.box qA,.own (.pr .ro (.pr .ro (.pr .ro (.pr (.own .ro) (.pr (.own .ro) (.pr .ro (.pr (.own .ro) (.own .ro))))))))),(cn,.ro)] A20 [0] [(.box qA,.own (.pr .ro (.pr .ro (.pr .ro (.pr (.own .ro) (.pr (.own .ro) (.pr .ro (.pr (.own .ro) (.own .ro)))))))))] (BB n)
def Em(v1:Nat)(v2:((Int×(List (Int×Int×(List Int)×Bool))×Int×Int)×(List Bool)×Int×Unit)):T36:=if 0<=v2.1.1/\v2.1.1<=v2.1.1 then if(v2.1.1).toNat*1<=140737488355328 then aq (λ(v3:T29)=>λv4=>bif decide (v3.2.1<(v2.1.2.1.length:Int))then if 0<=v3.2.1 then(match v2.1.2.1[(v3.2.1).toNat]? with|some v5=>aj (λ(v6:T34)=>aj (λ(v7:T15)=>v4 ((v7.1.1,()),IntKind.wrap .i64 (v3.2.1+1),())) (λv8=>bif v6.2.1 then if 0<=v5.2.1 then(match v6.1.1[(v5.2.1).toNat]? with|some v9=>if 0<=v5.2.1 then(match v6.1.1[(v5.2.1).toNat]? with|some v10=>v8 ((List.set v6.1.1 (v5.2.1).toNat true,()),())|none=>none)else none|none=>none)else none else v8 ((v6.1.1,()),()))) (λv11=>bif !v5.2.2.2 then bif decide (v5.1<(v2.2.1.length:Int))then if 0<=v5.1 then(match v2.2.1[(v5.1).toNat]? with|some v12=>bif v12 then af (ze v1 (v5.2.2.1,v2.2.2.1,())) (λ(v13:T6)=>v11 ((v3.1.1,()),v13.1.1,()))else v11 ((v3.1.1,()),false,())|none=>none)else none else v11 ((v3.1.1,()),false,())else v11 ((v3.1.1,()),false,()))|none=>none)else none else some ((v3.1.1,()),())) v1 ((List.replicate (v2.1.1).toNat false,()),0,())else none else none
def F168(n:Nat):Fb 168:=fb n [⟨_,F176 n⟩] [] [] [] Tryz.func168 Tryz.results168 Tryz.ntmps168 (.seq (.reg none [3]) (.seq .nop (.seq (.seq .nop (.block none (.loop ⟨[(96,cn,.own .ro)],[.val 16 y2],[1,2,7,14,15]⟩ (.seq .nop (.seq .nop (.seq (.block none (.seq (.reg none [9]) (.seq (.reg (some ⟨[(96,cn,.own .ro)],[.val 42 y4],[1,2,7,9,14,15,16]⟩) []) (.cond (some ⟨[(96,cn,.own .ro)],[],[1,2,7,14,15,16]⟩) .nop .nop)))) .nop)))))) .nop))) [(qz,.ro),(cn,.ro),(y5,.ro)] A15 [] [] (Em n)
def vo(v1:Nat)(v2:((Int×(List (Int×Int×(List Int)×Bool))×Int×Int)×(List Int)×Unit)):T80:=af (zd v1 (v2.1,())) (λ(v3:T6)=>bif !v3.1.1 then some (((List.replicate 256 (0:Int),([]:List (List Int)),([]:List Int)),1,()),())else af (Eg v1 (v2.1,())) (λ(v4:(((List (List Int))×Unit)×Unit))=>af (Ei v1 (v4.1.1,())) (λ(v5:T13)=>aq (λ(v6:T95)=>λv7=>bif decide (v6.2.1<256)then if 0<=v6.2.1 then(match v6.1.2.1.2.2.2.2.2.1[(v6.2.1).toNat]? with|some v8=>aj (λ(v9:((((List Int)×(List (List Int))×(List Int))×((Int×(List (Int×Int×(List Int)×Bool))×Int×Int)×(List Int)×(List Int)×(List ((List Int)×Int))×(List (List Bool))×(List Int)×(List (List Int))×(List Int))×Unit)×Unit))=>v7 ((v9.1.1,v9.1.2.1,()),IntKind.wrap .i64 (v6.2.1+1),())) (λv10=>bif decide ((IntKind.wrap .i64 v8)=(v6.1.2.1.2.2.1.length:Int))then if(List.length v6.1.2.1.2.2.1+List.length ([(IntKind.wrap .u8 v6.2.1)]:List Int))*1<=140737488355328 then if List.length v6.1.2.1.2.2.1+List.length ([(IntKind.wrap .u8 v6.2.1)]:List Int)<=9223372036854775807 then v10 ((v6.1.1,(v6.1.2.1.1,v6.1.2.1.2.1,v6.1.2.1.2.2.1++([(IntKind.wrap .u8 v6.2.1)]:List Int),v6.1.2.1.2.2.2),()),())else none else none else v10 ((v6.1.1,v6.1.2.1,()),()))|none=>none)else none else if 0<=v2.1.1/\v2.1.1<=v2.1.1 then if(v2.1.1).toNat*1<=140737488355328 then if 0<=v2.1.2.2.1 then(match(List.replicate (v2.1.1).toNat false)[(v2.1.2.2.1).toNat]? with|some v11=>if 0<=v2.1.2.2.1 then(match(List.replicate (v2.1.1).toNat false)[(v2.1.2.2.1).toNat]? with|some v12=>af (BA v1 (v2.1,List.set (List.replicate (v2.1.1).toNat false) (v2.1.2.2.1).toNat true,())) (λ(v13:T15)=>af (BB v1 (v6.1.2.1,v13.1.1,())) (λ(v14:T94)=>aq (λ(v15:T95)=>λv16=>bif decide (v15.2.1<(v15.1.2.1.2.2.2.2.1.length:Int))then bif decide (2000<(v15.1.2.1.2.2.2.2.1.length:Int))then some (((List.replicate 256 (0:Int),([]:List (List Int)),([]:List Int)),6,()),())else aq (λ(v17:((((List Int)×(List (List Int))×(List Int))×((Int×(List (Int×Int×(List Int)×Bool))×Int×Int)×(List Int)×(List Int)×(List ((List Int)×Int))×(List (List Bool))×(List Int)×(List (List Int))×(List Int))×Unit)×(List Int)×Int×Unit))=>λv18=>bif decide (v17.2.2.1<(v15.1.2.1.2.2.1.length:Int))then if 0<=v17.2.2.1 then(match v15.1.2.1.2.2.1[(v17.2.2.1).toNat]? with|some v19=>if 0<=v15.2.1 then(match v17.1.2.1.2.2.2.2.1[(v15.2.1).toNat]? with|some v20=>af (Em v1 (v2.1,v20,v19,())) (λ(v21:T15)=>af (BA v1 (v2.1,v21.1.1,())) (λ(v22:T15)=>af (BB v1 (v17.1.2.1,v22.1.1,())) (λ(v23:T94)=>if(List.length v17.2.1+List.length ([v23.1.1]:List Int))*8<=140737488355328 then if List.length v17.2.1+List.length ([v23.1.1]:List Int)<=9223372036854775807 then v18 ((v17.1.1,v23.2.1,()),v17.2.1++([v23.1.1]:List Int),IntKind.wrap .i64 (v17.2.2.1+1),())else none else none)))|none=>none)else none|none=>none)else none else if(List.length v17.1.2.1.2.2.2.2.2.2.1+List.length ([v17.2.1]:List (List Int)))*24<=140737488355328 then if List.length v17.1.2.1.2.2.2.2.2.2.1+List.length ([v17.2.1]:List (List Int))<=9223372036854775807 then v16 ((v17.1.1,(v17.1.2.1.1,v17.1.2.1.2.1,v17.1.2.1.2.2.1,v17.1.2.1.2.2.2.1,v17.1.2.1.2.2.2.2.1,v17.1.2.1.2.2.2.2.2.1,v17.1.2.1.2.2.2.2.2.2.1++([v17.2.1]:List (List Int)),v17.1.2.1.2.2.2.2.2.2.2),()),IntKind.wrap .i64 (v15.2.1+1),())else none else none) v1 ((v15.1.1,v15.1.2.1,()),([]:List Int),0,())else some ((v15.1.2.1.2.2.2.2.2,0,()),())) v1 ((v6.1.1,v14.2.1,()),0,())))|none=>none)else none|none=>none)else none else none else none) v1 (((List.replicate 256 (0:Int),([]:List (List Int)),([]:List Int)),(v2.1,v2.2.1,([]:List Int),([]:List ((List Int)×Int)),([]:List (List Bool)),v5.1.1,([]:List (List Int)),([]:List Int)),()),0,()))))
def F149(n:Nat):Fb 149:=fb n [⟨_,F148 n⟩,⟨_,F165 n⟩,⟨_,F164 n⟩,⟨_,F167 n⟩,⟨_,F166 n⟩,⟨_,F168 n⟩] [16,20,24,69,85,107,108,109] [] [] Tryz.func149 Tryz.results149 Tryz.ntmps149 (.seq (.reg none [2]) (.seq .nop (.seq .nop (.seq .nop (.seq (.seq .nop (.block none (.loop ⟨[(32,.box oH,.own (.pr .ro (.pr (.own .ro) (.own .ro)))),(168,.box qA,.own (.pr .ro (.pr .ro (.pr (.own .ro) (.pr (.own .ro) (.pr (.own .ro) (.pr .ro (.pr (.own .ro) (.own .ro)))))))))],[.val 29 y2],[2,4,6]⟩ (.seq .nop (.seq .nop (.seq (.block none (.seq .nop (.seq .nop (.cond (some ⟨[(32,.box oH,.own (.pr .ro (.pr (.own .ro) (.own .ro)))),(168,.box qA,.own (.pr .ro (.pr .ro (.pr (.own .ro) (.pr (.own .ro) (.pr (.own .ro) (.pr .ro (.pr (.own .ro) (.own .ro)))))))))],[],[2,4,6,29]⟩) .nop .nop)))) .nop)))))) (.seq (.rgp none [] [] [(6,[.deref,.st,.snd,.snd,.fst])]) (.seq .nop (.seq .nop (.seq (.seq .nop (.block none (.loop ⟨[(32,.box oH,.own (.pr .ro (.pr (.own .ro) (.own .ro)))),(168,.box qA,.own (.pr .ro (.pr .ro (.pr .ro (.pr (.own .ro) (.pr (.own .ro) (.pr .ro (.pr (.own .ro) (.own .ro)))))))))],[.val 9 y2],[2,4,6]⟩ (.seq .nop (.seq (.block none (.seq .nop (.seq .nop (.seq (.seq .nop (.block none (.loop ⟨[(32,.box oH,.own (.pr .ro (.pr (.own .ro) (.own .ro)))),(168,.box qA,.own (.pr .ro (.pr .ro (.pr .ro (.pr (.own .ro) (.pr (.own .ro) (.pr .ro (.pr (.own .ro) (.own .ro)))))))))],[.hdr 10 87 y28 (.own .ro),.val 91 y2],[2,4,6,9,89,90]⟩ .nop))) (.rgf none [10] []))))) .nop))))) (.seq (.rgf none [6] [4]) .nop)))))))))) [(qz,.ro),(y28,.ro)] A9 [] [] (vo n)
def BC(v1:Nat)(v2:T71):T80:=af (zd v1 (v2.1,())) (λ(v3:T6)=>bif !v3.1.1 then some (((List.replicate 256 (0:Int),([]:List (List Int)),([]:List Int)),1,()),())else if 0<=v2.1.1/\v2.1.1<=v2.1.1 then if(v2.1.1).toNat*8<=140737488355328 then aq (λ(v4:((((List Int)×(List (List Int))×(List Int))×(List Int)×Unit)×Int×Unit))=>λv5=>bif decide (v4.2.1<((List.length (List.replicate (v2.1.1).toNat (0:Int)):Nat):Int))then if 0<=v4.2.1 then(match v4.1.2.1[(v4.2.1).toNat]? with|some v6=>if 0<=v4.2.1 then(match v4.1.2.1[(v4.2.1).toNat]? with|some v7=>v5 ((v4.1.1,List.set v4.1.2.1 (v4.2.1).toNat (-1:Int),()),IntKind.wrap .i64 (v4.2.1+1),())|none=>none)else none|none=>none)else none else if 0<=v2.1.2.2.2 then(match v4.1.2.1[(v2.1.2.2.2).toNat]? with|some v8=>if 0<=v2.1.2.2.2 then(match v4.1.2.1[(v2.1.2.2.2).toNat]? with|some v9=>af (vo v1 (v2.1,List.set v4.1.2.1 (v2.1.2.2.2).toNat (0:Int),())) (λ(v10:T74)=>some ((v10.1.1,v10.1.2.1,()),()))|none=>none)else none|none=>none)else none) v1 (((List.replicate 256 (0:Int),([]:List (List Int)),([]:List Int)),List.replicate (v2.1.1).toNat (0:Int),()),0,())else none else none)
def F130(n:Nat):Fb 130:=fb n [⟨_,F148 n⟩,⟨_,F149 n⟩] [9] [] [] Tryz.func130 Tryz.results130 Tryz.ntmps130 (.seq (.reg none [1]) (.seq .nop (.seq .nop (.seq (.seq .nop (.block none (.loop ⟨[(16,.box oH,.own (.pr .ro (.pr (.own .ro) (.own .ro)))),(96,y28,.own .ro)],[.val 15 y2],[1,2,4,14]⟩ .nop))) (.seq .nop (.seq (.reg none [2]) .nop)))))) [(qz,.ro)] A9 [] [] (BC n)
def qC(v1:Nat)(v2:T4):T80:=af (Eb v1 (v2.1,())) (λ(v3:T62)=>bif !(decide (v3.1.2.1=0))then some (((List.replicate 256 (0:Int),([]:List (List Int)),([]:List Int)),v3.1.2.1,()),())else af (Ef v1 (v3.1.1,())) (λ(v4:(((Int×(List (Int×Int×(List Int)×Bool))×Int×Int)×Int×Unit)×Unit))=>bif !(decide (v4.1.2.1=0))then some (((List.replicate 256 (0:Int),([]:List (List Int)),([]:List Int)),v4.1.2.1,()),())else af (BC v1 (v4.1.1,())) (λ(v5:T74)=>some ((v5.1.1,v5.1.2.1,()),()))))
def F107(n:Nat):Fb 107:=fb n [⟨_,F128 n⟩,⟨_,F129 n⟩,⟨_,F130 n⟩] [9,14,18,23,26] [] [] Tryz.func107 Tryz.results107 Tryz.ntmps107 (.seq .nop (.seq .nop (.seq .nop (.seq (.reg none [6]) (.seq .nop (.seq (.reg none [2]) .nop)))))) A21 A9 [] [] (qC n)
def Ke(v1:Nat)(v2:(((List Int)×(List (List Int))×(List Int))×Int×Int×Unit)):T12:=aj (λ(v3:T3)=>bif v3.2.1 then some ((-1,()),())else if 0<=v2.2.1 then(match v2.1.2.1[(v2.2.1).toNat]? with|some v4=>if 0<=v2.2.2.1 then(match v2.1.1[(v2.2.2.1).toNat]? with|some v5=>if 0<=v5 then(match v4[(v5).toNat]? with|some v6=>some ((v6,()),())|none=>none)else none|none=>none)else none|none=>none)else none) (λv7=>bif decide (v2.2.1<0)then v7 ((),true,())else bif decide ((v2.1.2.1.length:Int)<=v2.2.1)then v7 ((),true,())else if 0<=v2.2.2.1 then(match v2.1.1[(v2.2.2.1).toNat]? with|some v8=>if 0<=v2.2.1 then(match v2.1.2.1[(v2.2.1).toNat]? with|some v9=>v7 ((),decide ((v9.length:Int)<=(IntKind.wrap .i64 v8)),())|none=>none)else none|none=>none)else none)
def F150(n:Nat):Fb 150:=fb n [] [] [] [] Tryz.func150 Tryz.results150 Tryz.ntmps150 (.seq (.reg none [3]) (.seq (.seq (.reg (some ⟨[],[.val 29 y4],[1,2,3]⟩) []) .nop) .nop)) [(oH,.ro),(y2,.ro),(y5,.ro)] A20 [] [] (Ke n)
def En(v1:Nat)(v2:(((List Int)×(List (List Int))×(List Int))×Int×(List Int)×Unit)):T12:=aq (λ(v3:T7)=>λv4=>aj (λ(v5:T3)=>bif v5.2.1 then if 0<=v3.2.2.1 then(match v2.2.2.1[(v3.2.2.1).toNat]? with|some v6=>af (Ke v1 (v2.1,v3.2.1,v6,())) (λ(v7:T5)=>v4 ((),v7.1.1,IntKind.wrap .i64 (v3.2.2.1+1),()))|none=>none)else none else some ((v3.2.1,()),())) (λv8=>bif decide (v3.2.2.1<(v2.2.2.1.length:Int))then v8 ((),!(decide (v3.2.1=-1)),())else v8 ((),false,()))) v1 ((),v2.2.1,0,())
def F132(n:Nat):Fb 132:=fb n [⟨_,F150 n⟩] [] [] [] Tryz.func132 Tryz.results132 Tryz.ntmps132 (.seq (.reg none [3]) (.seq (.seq .nop (.block none (.loop ⟨[],[.val 1 y2,.val 7 y2],[2,3]⟩ (.seq (.seq (.reg (some ⟨[],[.val 15 y4],[1,2,3,7]⟩) []) .nop) .nop)))) .nop)) [(oH,.ro),(y2,.ro),(y9,.ro)] A20 [] [] (En n)
def Ep(v1:Nat)(v2:(((List Int)×(List (List Int))×(List Int))×Int×Unit)):T12:=aj (λ(v3:T3)=>bif v3.2.1 then some ((-1,()),())else if 0<=v2.2.1 then(match v2.1.2.2[(v2.2.1).toNat]? with|some v4=>some ((v4,()),())|none=>none)else none) (λv5=>bif decide (v2.2.1<0)then v5 ((),true,())else v5 ((),decide ((v2.1.2.2.length:Int)<=v2.2.1),()))
def F131(n:Nat):Fb 131:=fb n [] [] [] [] Tryz.func131 Tryz.results131 Tryz.ntmps131 (.seq (.reg none [2]) (.seq (.seq (.reg (some ⟨[],[.val 13 y4],[1,2]⟩) []) .nop) .nop)) A9 A20 [] [] (Ep n)
def Er(v1:Nat)(v2:(((List Int)×(List (List Int))×(List Int))×(List Int)×Unit)):T12:=af (En v1 (v2.1,0,v2.2.1,())) (λ(v3:T5)=>af (Ep v1 (v2.1,v3.1.1,())) (λ(v4:T5)=>some ((v4.1.1,()),())))
def F108(n:Nat):Fb 108:=fb n [⟨_,F132 n⟩,⟨_,F131 n⟩] [] [] [] Tryz.func108 Tryz.results108 Tryz.ntmps108 (.seq (.reg none [2]) .nop) [(oH,.ro),(y9,.ro)] A20 [] [] (Er n)
end
noncomputable section
def tc(v1:Nat)(v2:T8):T14:=aq (λ(v3:T2)=>λv4=>bif decide (v3.2.1<(v2.1.length:Int))then if 0<=v3.2.1 then(match v2.1[(v3.2.1).toNat]? with|some v5=>bif decide (v5=v2.2.1)then some ((true,()),())else v4 ((),IntKind.wrap .i64 (v3.2.1+1),())|none=>none)else none else some ((false,()),())) v1 ((),0,())
def F152(n:Nat):Fb 152:=fb n [] [] [] [] Tryz.func152 Tryz.results152 Tryz.ntmps152 (.seq .nop (.seq (.seq .nop (.block none (.loop ⟨[],[.val 5 y2],[0,1]⟩ .nop))) .nop)) [(y9,.ro),(y5,.ro)] A19 [] [] (tc n)
def zf(v1:Nat)(v2:T8):T14:=if(64:Int)=0 then none else if 0<=(IntKind.wrap .i64 (Int.tdiv v2.2.1 64))then(match v2.1[(IntKind.wrap .i64 (Int.tdiv v2.2.1 64)).toNat]? with|some v3=>aq (λ(v4:T7)=>λv5=>if(64:Int)=0 then none else bif decide (v4.2.2.1<(Int.tmod v2.2.1 64))then if(2:Int)=0 then none else v5 ((),IntKind.wrap .u64 (Int.tdiv v4.2.1 2),IntKind.wrap .i64 (v4.2.2.1+1),())else if(2:Int)=0 then none else some ((decide ((Int.tmod v4.2.1 2)=1),()),())) v1 ((),v3,0,())|none=>none)else none
def F135(n:Nat):Fb 135:=fb n [] [] [] [] Tryz.func135 Tryz.results135 Tryz.ntmps135 (.seq (.reg none [2]) (.seq .nop (.seq (.seq .nop (.block none (.loop ⟨[],[.val 5 y12,.val 6 y2],[1]⟩ .nop))) .nop))) [(cT,.ro),(y2,.ro)] A19 [] [] (zf n)
def vq(v1:Nat)(v2:((List Bool)×Unit)):T33:=aq (λ(v3:T55)=>λv4=>aj (λ(v5:(((List Int)×(List Int)×Unit)×Bool×Unit))=>bif v5.2.1 then if 0<=v3.2.1 then(match v2.1[(v3.2.1).toNat]? with|some v6=>aj (λ(v7:(((List Int)×(List Int)×Unit)×Unit))=>v4 ((v7.1.1,v7.1.2.1,()),IntKind.wrap .i64 (v3.2.1+1),())) (λv8=>bif v6 then if(64:Int)=0 then none else if(64:Int)=0 then none else if 0<=(IntKind.wrap .i64 (Int.tdiv v3.2.1 64))then(match v5.1.2.1[(IntKind.wrap .i64 (Int.tdiv v3.2.1 64)).toNat]? with|some v9=>if(64:Int)=0 then none else if(IntKind.wrap .u64 (Int.tmod v3.2.1 64))<0 then none else if 0<=(IntKind.wrap .i64 (Int.tdiv v3.2.1 64))then(match v5.1.2.1[(IntKind.wrap .i64 (Int.tdiv v3.2.1 64)).toNat]? with|some v10=>if 0<=(IntKind.wrap .i64 (Int.tdiv v3.2.1 64))then(match v5.1.2.1[(IntKind.wrap .i64 (Int.tdiv v3.2.1 64)).toNat]? with|some v11=>v8 ((v5.1.1,List.set v5.1.2.1 (IntKind.wrap .i64 (Int.tdiv v3.2.1 64)).toNat (IntKind.wrap .u64 (v9+(IntKind.wrap .u64 ((1:Int)*2 ^ (Nat.min (Int.toNat (IntKind.wrap .u64 (Int.tmod v3.2.1 64))) (IntKind.bits .u64)))))),()),())|none=>none)else none|none=>none)else none|none=>none)else none else v8 ((v5.1.1,v5.1.2.1,()),()))|none=>none)else none else some ((v5.1.2.1,()),())) (λv12=>bif decide (v3.2.1<256)then v12 ((v3.1.1,v3.1.2.1,()),decide (v3.2.1<(v2.1.length:Int)),())else v12 ((v3.1.1,v3.1.2.1,()),false,()))) v1 ((([0,0,0,0]:List Int),([0,0,0,0]:List Int),()),0,())
def F180(n:Nat):Fb 180:=fb n [] [] [] [] Tryz.func180 Tryz.results180 Tryz.ntmps180 (.seq .nop (.seq .nop (.seq (.seq .nop (.block none (.loop ⟨[(16,.box cT,.own .ro),(24,.box cT,.own .ro)],[.val 4 y2],[0,2,3]⟩ (.seq (.seq (.reg (some ⟨[(16,.box cT,.own .ro),(24,.box cT,.own .ro)],[.val 12 y4],[0,2,3,4]⟩) []) .nop) (.seq (.block none (.seq .nop (.cond (some ⟨[(16,.box cT,.own .ro),(24,.box cT,.own .ro)],[],[0,2,3,4]⟩) .nop .nop))) .nop))))) (.seq (.rgf none [3] [2]) .nop)))) A15 A14 [] [] (vq n)
def BD(v1:Nat)(v2:(Int×(List Int)×(List Int)×Unit)):T33:=aq (λ(v3:(((List Int)×Unit)×(List Bool)×Int×Unit))=>λv4=>bif decide (v3.2.2.1<256)then af (zf v1 (v2.2.1,v3.2.2.1,())) (λ(v5:T6)=>af (zf v1 (v2.2.2.1,v3.2.2.1,())) (λ(v6:T6)=>aj (λ(v7:T45)=>v4 ((v7.1.1,()),v7.2.1,IntKind.wrap .i64 (v3.2.2.1+1),())) (λv8=>bif decide (v2.1=0)then aj (λ(v9:T45)=>v8 ((v9.1.1,()),v9.2.1,())) (λv10=>bif v5.1.1 then if(List.length v3.2.1+List.length ([true]:List Bool))*1<=140737488355328 then if List.length v3.2.1+List.length ([true]:List Bool)<=9223372036854775807 then v10 ((v3.1.1,()),v3.2.1++([true]:List Bool),())else none else none else if(List.length v3.2.1+List.length ([v6.1.1]:List Bool))*1<=140737488355328 then if List.length v3.2.1+List.length ([v6.1.1]:List Bool)<=9223372036854775807 then v10 ((v3.1.1,()),v3.2.1++([v6.1.1]:List Bool),())else none else none)else aj (λ(v11:T45)=>v8 ((v11.1.1,()),v11.2.1,())) (λv12=>bif decide (v2.1=1)then aj (λ(v13:T45)=>v12 ((v13.1.1,()),v13.2.1,())) (λv14=>bif v5.1.1 then if(List.length v3.2.1+List.length ([v6.1.1]:List Bool))*1<=140737488355328 then if List.length v3.2.1+List.length ([v6.1.1]:List Bool)<=9223372036854775807 then v14 ((v3.1.1,()),v3.2.1++([v6.1.1]:List Bool),())else none else none else if(List.length v3.2.1+List.length ([false]:List Bool))*1<=140737488355328 then if List.length v3.2.1+List.length ([false]:List Bool)<=9223372036854775807 then v14 ((v3.1.1,()),v3.2.1++([false]:List Bool),())else none else none)else aj (λ(v15:T45)=>v12 ((v15.1.1,()),v15.2.1,())) (λv16=>bif decide (v2.1=2)then aj (λ(v17:T45)=>v16 ((v17.1.1,()),v17.2.1,())) (λv18=>bif v5.1.1 then if(List.length v3.2.1+List.length ([(!v6.1.1)]:List Bool))*1<=140737488355328 then if List.length v3.2.1+List.length ([(!v6.1.1)]:List Bool)<=9223372036854775807 then v18 ((v3.1.1,()),v3.2.1++([(!v6.1.1)]:List Bool),())else none else none else if(List.length v3.2.1+List.length ([false]:List Bool))*1<=140737488355328 then if List.length v3.2.1+List.length ([false]:List Bool)<=9223372036854775807 then v18 ((v3.1.1,()),v3.2.1++([false]:List Bool),())else none else none)else if(List.length v3.2.1+List.length ([(!v5.1.1)]:List Bool))*1<=140737488355328 then if List.length v3.2.1+List.length ([(!v5.1.1)]:List Bool)<=9223372036854775807 then v16 ((v3.1.1,()),v3.2.1++([(!v5.1.1)]:List Bool),())else none else none)))))else af (vq v1 (v3.2.1,())) (λ(v19:T13)=>some ((v19.1.1,()),()))) v1 ((([0,0,0,0]:List Int),()),([]:List Bool),0,())
def F177(n:Nat):Fb 177:=fb n [⟨_,F135 n⟩,⟨_,F180 n⟩] [] [] [] Tryz.func177 Tryz.results177 Tryz.ntmps177 (.seq (.reg none [4,5]) (.seq .nop (.seq (.seq .nop (.block none (.loop ⟨[(48,.box cT,.own .ro)],[.hdr 7 63 cn (.own .ro),.val 8 y2],[0,4,5,6]⟩ (.seq .nop (.seq (.block none (.seq .nop (.seq .nop (.block none (.seq .nop (.cond (some ⟨[(48,.box cT,.own .ro)],[.hdr 7 63 cn (.own .ro)],[0,4,5,6,8]⟩) (.reg (some ⟨[(48,.box cT,.own .ro)],[.hdr 7 63 cn (.own .ro)],[0,4,5,6,8]⟩) []) (.seq .nop (.cond (some ⟨[(48,.box cT,.own .ro)],[.hdr 7 63 cn (.own .ro)],[0,4,5,6,8]⟩) (.reg (some ⟨[(48,.box cT,.own .ro)],[.hdr 7 63 cn (.own .ro)],[0,4,5,6,8]⟩) []) (.seq .nop (.cond (some ⟨[(48,.box cT,.own .ro)],[.hdr 7 63 cn (.own .ro)],[0,4,5,6,8]⟩) (.reg (some ⟨[(48,.box cT,.own .ro)],[.hdr 7 63 cn (.own .ro)],[0,4,5,6,8]⟩) []) .nop)))))))))) .nop))))) (.seq (.reg none [6]) .nop)))) [(y2,.ro),(cT,.ro),(cT,.ro)] A14 [] [] (BD n)
def tf(v1:Nat)(v2:T8):T14:=aq (λ(v3:T2)=>λv4=>bif decide (v3.2.1<(v2.1.length:Int))then if 0<=v3.2.1 then(match v2.1[(v3.2.1).toNat]? with|some v5=>bif decide (v5=v2.2.1)then some ((true,()),())else v4 ((),IntKind.wrap .i64 (v3.2.1+1),())|none=>none)else none else some ((false,()),())) v1 ((),0,())
def F113(n:Nat):Fb 113:=fb n [] [] [] [] Tryz.func113 Tryz.results113 Tryz.ntmps113 (.seq .nop (.seq (.seq .nop (.block none (.loop ⟨[],[.val 5 y2],[0,1]⟩ .nop))) .nop)) [(y9,.ro),(y5,.ro)] A19 [] [] (tf n)
def Es(v1:Nat)(v2:(Int×(List Int)×Unit)):T33:=bif decide (v2.1=10)then some ((([92,110]:List Int),()),())else bif decide (v2.1=9)then some ((([92,116]:List Int),()),())else bif decide (v2.1=13)then some ((([92,114]:List Int),()),())else aj (λ(v3:T3)=>bif v3.2.1 then if(16:Int)=0 then none else if(16:Int)=0 then none else if 0<=(IntKind.wrap .u8 (Int.tdiv v2.1 16))/\(IntKind.wrap .u8 (Int.tdiv v2.1 16))<=(IntKind.wrap .u8 ((IntKind.wrap .u8 (Int.tdiv v2.1 16))+1))/\(IntKind.wrap .u8 ((IntKind.wrap .u8 (Int.tdiv v2.1 16))+1))<=((List.length ([48,49,50,51,52,53,54,55,56,57,97,98,99,100,101,102]:List Int):Nat):Int)then if List.length ([92,120]:List Int)+List.length (br ([48,49,50,51,52,53,54,55,56,57,97,98,99,100,101,102]:List Int) (IntKind.wrap .u8 (Int.tdiv v2.1 16)) (IntKind.wrap .u8 ((IntKind.wrap .u8 (Int.tdiv v2.1 16))+1)))<=9223372036854775807 then if(16:Int)=0 then none else if(16:Int)=0 then none else if 0<=(Int.tmod v2.1 16)/\(Int.tmod v2.1 16)<=(IntKind.wrap .u8 ((Int.tmod v2.1 16)+1))/\(IntKind.wrap .u8 ((Int.tmod v2.1 16)+1))<=((List.length ([48,49,50,51,52,53,54,55,56,57,97,98,99,100,101,102]:List Int):Nat):Int)then if List.length (([92,120]:List Int)++(br ([48,49,50,51,52,53,54,55,56,57,97,98,99,100,101,102]:List Int) (IntKind.wrap .u8 (Int.tdiv v2.1 16)) (IntKind.wrap .u8 ((IntKind.wrap .u8 (Int.tdiv v2.1 16))+1))))+List.length (br ([48,49,50,51,52,53,54,55,56,57,97,98,99,100,101,102]:List Int) (Int.tmod v2.1 16) (IntKind.wrap .u8 ((Int.tmod v2.1 16)+1)))<=9223372036854775807 then some (((([92,120]:List Int)++(br ([48,49,50,51,52,53,54,55,56,57,97,98,99,100,101,102]:List Int) (IntKind.wrap .u8 (Int.tdiv v2.1 16)) (IntKind.wrap .u8 ((IntKind.wrap .u8 (Int.tdiv v2.1 16))+1))))++(br ([48,49,50,51,52,53,54,55,56,57,97,98,99,100,101,102]:List Int) (Int.tmod v2.1 16) (IntKind.wrap .u8 ((Int.tmod v2.1 16)+1))),()),())else none else none else none else none else aj (λ(v4:T3)=>bif v4.2.1 then if List.length ([92]:List Int)+List.length ([v2.1]:List Int)<=9223372036854775807 then some ((([92]:List Int)++([v2.1]:List Int),()),())else none else some ((([v2.1]:List Int),()),())) (λv5=>bif decide (v2.1=92)then v5 ((),true,())else af (tf v1 (v2.2.1,v2.1,())) (λ(v6:T6)=>v5 ((),v6.1.1,())))) (λv7=>bif decide (v2.1<32)then v7 ((),true,())else v7 ((),decide (126<v2.1),()))
def F183(n:Nat):Fb 183:=fb n [⟨_,F113 n⟩] [] [] [] Tryz.func183 Tryz.results183 Tryz.ntmps183 (.seq .nop (.seq .nop (.seq (.block none (.seq .nop (.cond none .nop (.seq .nop (.cond none .nop (.seq .nop (.cond none .nop (.seq (.reg (some ⟨[],[.val 15 y4],[0,1,5]⟩) []) (.cond none .nop (.seq (.reg (some ⟨[],[.val 38 y4],[0]⟩) []) .nop)))))))))) .nop))) [(y5,.ro),(y9,.ro)] A21 [] [] (Es n)
def BE(v1:Nat)(v2:T1):T14:=af (tf v1 (([48,49,50,51,52,53,54,55,56,57,97,98,99,100,101,102,103,104,105,106,107,108,109,110,111,112,113,114,115,116,117,118,119,120,121,122,65,66,67,68,69,70,71,72,73,74,75,76,77,78,79,80,81,82,83,84,85,86,87,88,89,90]:List Int),v2.1,())) (λ(v3:T6)=>some ((v3.1.1,()),()))
def F114(n:Nat):Fb 114:=fb n [⟨_,F113 n⟩] [] [] [] Tryz.func114 Tryz.results114 Tryz.ntmps114 (.nop) [(y5,.ro)] A19 [] [] (BE n)
def zg(v1:Nat)(v2:T4):T40:=bif decide (v2.1=([]:List Int))then some ((0,0,false,()),())else if(0:Int)<=(0:Int)then(match v2.1[(0:Int).toNat]? with|some v3=>bif !(decide (v3=92))then if(0:Int)<=(0:Int)then(match v2.1[(0:Int).toNat]? with|some v4=>some ((v4,1,true,()),())|none=>none)else none else aq (λ(v5:T2)=>λv6=>bif decide (v5.2.1<256)then af (Es v1 (IntKind.wrap .u8 v5.2.1,([]:List Int),())) (λ(v7:T13)=>aj (λ(v8:T3)=>bif v8.2.1 then some ((IntKind.wrap .u8 v5.2.1,2,true,()),())else if(16:Int)=0 then none else if(16:Int)=0 then none else if 0<=(IntKind.wrap .i64 (Int.tdiv v5.2.1 16))/\(IntKind.wrap .i64 (Int.tdiv v5.2.1 16))<=(IntKind.wrap .i64 ((IntKind.wrap .i64 (Int.tdiv v5.2.1 16))+1))/\(IntKind.wrap .i64 ((IntKind.wrap .i64 (Int.tdiv v5.2.1 16))+1))<=((List.length ([48,49,50,51,52,53,54,55,56,57,97,98,99,100,101,102]:List Int):Nat):Int)then if List.length ([92,120]:List Int)+List.length (br ([48,49,50,51,52,53,54,55,56,57,97,98,99,100,101,102]:List Int) (IntKind.wrap .i64 (Int.tdiv v5.2.1 16)) (IntKind.wrap .i64 ((IntKind.wrap .i64 (Int.tdiv v5.2.1 16))+1)))<=9223372036854775807 then if(16:Int)=0 then none else if(16:Int)=0 then none else if 0<=(Int.tmod v5.2.1 16)/\(Int.tmod v5.2.1 16)<=(IntKind.wrap .i64 ((Int.tmod v5.2.1 16)+1))/\(IntKind.wrap .i64 ((Int.tmod v5.2.1 16)+1))<=((List.length ([48,49,50,51,52,53,54,55,56,57,97,98,99,100,101,102]:List Int):Nat):Int)then if List.length (([92,120]:List Int)++(br ([48,49,50,51,52,53,54,55,56,57,97,98,99,100,101,102]:List Int) (IntKind.wrap .i64 (Int.tdiv v5.2.1 16)) (IntKind.wrap .i64 ((IntKind.wrap .i64 (Int.tdiv v5.2.1 16))+1))))+List.length (br ([48,49,50,51,52,53,54,55,56,57,97,98,99,100,101,102]:List Int) (Int.tmod v5.2.1 16) (IntKind.wrap .i64 ((Int.tmod v5.2.1 16)+1)))<=9223372036854775807 then aj (λ(v9:T3)=>bif v9.2.1 then some ((IntKind.wrap .u8 v5.2.1,4,true,()),())else v6 ((),IntKind.wrap .i64 (v5.2.1+1),())) (λv10=>bif decide (3<(v2.1.length:Int))then if(0:Int)<=(0:Int)/\(0:Int)<=(4:Int)/\(4:Int)<=(v2.1.length:Int)then v10 ((),decide ((br v2.1 (0:Int) (4:Int))=((([92,120]:List Int)++(br ([48,49,50,51,52,53,54,55,56,57,97,98,99,100,101,102]:List Int) (IntKind.wrap .i64 (Int.tdiv v5.2.1 16)) (IntKind.wrap .i64 ((IntKind.wrap .i64 (Int.tdiv v5.2.1 16))+1))))++(br ([48,49,50,51,52,53,54,55,56,57,97,98,99,100,101,102]:List Int) (Int.tmod v5.2.1 16) (IntKind.wrap .i64 ((Int.tmod v5.2.1 16)+1))))),())else none else v10 ((),false,()))else none else none else none else none) (λv11=>bif decide ((v7.1.1.length:Int)=2)then if(0:Int)<=(1:Int)then(match v7.1.1[(1:Int).toNat]? with|some v12=>bif !(decide (v12=92))then bif decide (1<(v2.1.length:Int))then if(0:Int)<=(0:Int)/\(0:Int)<=(2:Int)/\(2:Int)<=(v2.1.length:Int)then v11 ((),decide ((br v2.1 (0:Int) (2:Int))=v7.1.1),())else none else v11 ((),false,())else v11 ((),false,())|none=>none)else none else v11 ((),false,())))else aj (λ(v13:T3)=>bif v13.2.1 then if(0:Int)<=(1:Int)then(match v2.1[(1:Int).toNat]? with|some v14=>some ((v14,2,true,()),())|none=>none)else none else some ((0,0,false,()),())) (λv15=>bif decide (1<(v2.1.length:Int))then if(0:Int)<=(1:Int)then(match v2.1[(1:Int).toNat]? with|some v16=>bif decide (32<=v16)then if(0:Int)<=(1:Int)then(match v2.1[(1:Int).toNat]? with|some v17=>bif decide (v17<=126)then if(0:Int)<=(1:Int)then(match v2.1[(1:Int).toNat]? with|some v18=>af (BE v1 (v18,())) (λ(v19:T6)=>v15 ((),!v19.1.1,()))|none=>none)else none else v15 ((),false,())|none=>none)else none else v15 ((),false,())|none=>none)else none else v15 ((),false,()))) v1 ((),0,())|none=>none)else none
def F179(n:Nat):Fb 179:=fb n [⟨_,F183 n⟩,⟨_,F114 n⟩] [] [] [] Tryz.func179 Tryz.results179 Tryz.ntmps179 (.seq .nop (.seq .nop (.seq .nop (.seq (.seq .nop (.block none (.loop ⟨[],[.val 5 y2],[0]⟩ (.seq .nop (.seq (.block none (.seq .nop (.seq (.seq (.reg (some ⟨[],[.val 40 y4],[0,5]⟩) []) .nop) (.seq .nop (.seq (.reg (some ⟨[],[.val 65 y4],[0,5]⟩) []) .nop))))) .nop))))) (.seq (.seq (.reg (some ⟨[],[.val 86 y4],[0]⟩) []) .nop) .nop))))) A21 [(y5,.ro),(y2,.ro),(y4,.ro)] [] [] (zg n)
def Et(v1:Nat)(v2:T8):T68:=if(0:Int)<=(256:Int)/\(256:Int)<=(256:Int)then if(256:Int).toNat*1<=140737488355328 then aj (λ(v3:T34)=>aj (λ(v4:T29)=>aq (λ(v5:T29)=>λv6=>aj (λ(v7:T34)=>bif v7.2.1 then if 0<=v5.2.1/\v5.2.1<=(v2.1.length:Int)/\(v2.1.length:Int)<=(v2.1.length:Int)then af (zg v1 (br v2.1 v5.2.1 (v2.1.length:Int),())) (λ(v8:T19)=>aj (λ(v9:T34)=>bif v9.2.1 then some ((([]:List (Int×(List Int))),v5.2.1,()),())else aj (λ(v10:T34)=>aj (λ(v11:(((List Bool)×Unit)×Int×Int×Unit))=>aq (λ(v12:T29)=>λv13=>bif decide (v12.2.1<=(IntKind.wrap .i64 v11.2.2.1))then if 0<=v12.2.1 then(match v12.1.1[(v12.2.1).toNat]? with|some v14=>if 0<=v12.2.1 then(match v12.1.1[(v12.2.1).toNat]? with|some v15=>v13 ((List.set v12.1.1 (v12.2.1).toNat true,()),IntKind.wrap .i64 (v12.2.1+1),())|none=>none)else none|none=>none)else none else v6 ((v12.1.1,()),v11.2.1,())) v1 ((v11.1.1,()),IntKind.wrap .i64 v8.1.1,())) (λv16=>bif v10.2.1 then aj (λ(v17:T34)=>bif v17.2.1 then some ((([]:List (Int×(List Int))),IntKind.wrap .i64 ((IntKind.wrap .i64 (v5.2.1+v8.1.2.1))+1),()),())else if 0<=(IntKind.wrap .i64 ((IntKind.wrap .i64 (v5.2.1+v8.1.2.1))+1))/\(IntKind.wrap .i64 ((IntKind.wrap .i64 (v5.2.1+v8.1.2.1))+1))<=(v2.1.length:Int)/\(v2.1.length:Int)<=(v2.1.length:Int)then af (zg v1 (br v2.1 (IntKind.wrap .i64 ((IntKind.wrap .i64 (v5.2.1+v8.1.2.1))+1)) (v2.1.length:Int),())) (λ(v18:T19)=>aj (λ(v19:T34)=>bif v19.2.1 then some ((([]:List (Int×(List Int))),IntKind.wrap .i64 ((IntKind.wrap .i64 (v5.2.1+v8.1.2.1))+1),()),())else v16 ((v19.1.1,()),IntKind.wrap .i64 ((IntKind.wrap .i64 ((IntKind.wrap .i64 (v5.2.1+v8.1.2.1))+1))+v18.1.2.1),v18.1.1,())) (λv20=>bif !v18.1.2.2.1 then v20 ((v17.1.1,()),true,())else v20 ((v17.1.1,()),decide (v18.1.1<v8.1.1),())))else none) (λv21=>bif decide ((v2.1.length:Int)<=(IntKind.wrap .i64 ((IntKind.wrap .i64 (v5.2.1+v8.1.2.1))+1)))then v21 ((v10.1.1,()),true,())else if 0<=(IntKind.wrap .i64 ((IntKind.wrap .i64 (v5.2.1+v8.1.2.1))+1))then(match v2.1[(IntKind.wrap .i64 ((IntKind.wrap .i64 (v5.2.1+v8.1.2.1))+1)).toNat]? with|some v22=>af (tc v1 (([93,94,45,47,34]:List Int),v22,())) (λ(v23:T6)=>v21 ((v10.1.1,()),v23.1.1,()))|none=>none)else none)else v16 ((v10.1.1,()),IntKind.wrap .i64 (v5.2.1+v8.1.2.1),v8.1.1,()))) (λv24=>bif decide ((IntKind.wrap .i64 (v5.2.1+v8.1.2.1))<(v2.1.length:Int))then if 0<=(IntKind.wrap .i64 (v5.2.1+v8.1.2.1))then(match v2.1[(IntKind.wrap .i64 (v5.2.1+v8.1.2.1)).toNat]? with|some v25=>v24 ((v9.1.1,()),decide (v25=45),())|none=>none)else none else v24 ((v9.1.1,()),false,()))) (λv26=>bif !v8.1.2.2.1 then v26 ((v7.1.1,()),true,())else if 0<=v5.2.1 then(match v2.1[(v5.2.1).toNat]? with|some v27=>af (tc v1 (([94,45,47,34]:List Int),v27,())) (λ(v28:T6)=>v26 ((v7.1.1,()),v28.1.1,()))|none=>none)else none))else none else af (vq v1 (v7.1.1,())) (λ(v29:T13)=>aj (λ(v30:T13)=>aj (λ(v31:T30)=>bif v31.2.1 then some ((([]:List (Int×(List Int))),v5.2.1,()),())else some ((([(1,v31.1.1)]:List (Int×(List Int))),IntKind.wrap .i64 (v5.2.1+1),()),())) (λv32=>bif decide ((v2.1.length:Int)<=v5.2.1)then v32 ((v30.1.1,()),true,())else v32 ((v30.1.1,()),decide (v30.1.1=([0,0,0,0]:List Int)),()))) (λv33=>bif v3.2.1 then af (BD v1 (3,v29.1.1,v29.1.1,())) (λ(v34:T13)=>v33 ((v34.1.1,()),()))else v33 ((v29.1.1,()),())))) (λv35=>bif decide (v5.2.1<(v2.1.length:Int))then if 0<=v5.2.1 then(match v2.1[(v5.2.1).toNat]? with|some v36=>v35 ((v5.1.1,()),!(decide (v36=93)),())|none=>none)else none else v35 ((v5.1.1,()),false,()))) v1 ((v4.1.1,()),v4.2.1,())) (λv37=>bif v3.2.1 then v37 ((v3.1.1,()),IntKind.wrap .i64 (v2.2.1+1),())else v37 ((v3.1.1,()),v2.2.1,()))) (λv38=>bif decide (v2.2.1<(v2.1.length:Int))then if 0<=v2.2.1 then(match v2.1[(v2.2.1).toNat]? with|some v39=>v38 ((List.replicate (256:Int).toNat false,()),decide (v39=94),())|none=>none)else none else v38 ((List.replicate (256:Int).toNat false,()),false,()))else none else none
def F178(n:Nat):Fb 178:=fb n [⟨_,F179 n⟩,⟨_,F152 n⟩,⟨_,F180 n⟩,⟨_,F177 n⟩] [] [] [⟨_,FU⟩] Tryz.func178 Tryz.results178 Tryz.ntmps178 (.seq .nop (.seq .nop (.seq (.reg (some ⟨[(112,cn,.own .ro)],[.val 7 y4],[0,1,6]⟩) []) (.seq (.seq .nop (.cond (some ⟨[(112,cn,.own .ro)],[.val 1 y2],[0,6,7]⟩) .nop .nop)) (.seq (.block none (.loop ⟨[(112,cn,.own .ro)],[.val 1 y2],[0,6,7]⟩ (.seq (.seq (.reg (some ⟨[(112,cn,.own .ro)],[.val 37 y4],[0,1,6,7]⟩) []) .nop) (.block none (.seq .nop (.seq (.seq (.reg (some ⟨[(112,cn,.own .ro)],[.val 53 y4],[0,1,6,7,8,9]⟩) []) .nop) (.seq .nop (.seq .nop (.seq (.seq (.reg (some ⟨[(112,cn,.own .ro)],[.val 68 y4],[0,1,6,7,8,11]⟩) []) (.cond (some ⟨[(112,cn,.own .ro)],[.val 1 y2,.val 11 y5],[0,6,7,8]⟩) (.seq .nop (.seq (.seq (.reg (some ⟨[(112,cn,.own .ro)],[.val 80 y4],[0,1,6,7,8]⟩) []) .nop) (.seq .nop (.seq (.seq (.reg (some ⟨[(112,cn,.own .ro)],[.val 96 y4],[0,1,6,7,8,9,11]⟩) []) .nop) .nop)))) .nop)) (.seq .nop (.block none (.loop ⟨[(112,cn,.own .ro)],[.val 12 y2],[0,1,6,7,11]⟩ .nop)))))))))))) (.seq .nop (.seq (.seq .nop (.cond (some ⟨[(104,.box cT,.own .ro)],[],[0,1,13]⟩) .nop .nop)) (.seq (.seq (.reg (some ⟨[(104,.box cT,.own .ro)],[.val 126 y4],[1,13]⟩) []) .nop) (.seq (.rgf none [13] []) .nop))))))))) [(y9,.ro),(y2,.ro)] A5 [] [] (Et n)
abbrev zh:=Qt A4 A5 []
abbrev Hr(q:zh):Callee:=⟨_,_,[],_,q⟩
theorem BF:Plain Tryz.prog 111:=pl Tryz.func111
abbrev zj:=Qt A4 A5 []
abbrev Hs(q:zj):Callee:=⟨_,_,[],_,q⟩
theorem BG:Plain Tryz.prog 133:=pl Tryz.func133
abbrev zk:=Qt A4 A5 []
abbrev Ht(q:zk):Callee:=⟨_,_,[],_,q⟩
theorem BH:Plain Tryz.prog 151:=pl Tryz.func151
abbrev zl:=Qt A4 A5 []
abbrev Hu(q:zl):Callee:=⟨_,_,[],_,q⟩
theorem BJ:Plain Tryz.prog 169:=pl Tryz.func169
abbrev BK(jg:zh)(jh:zj)(ji:zk)(jj:zl):=dC Tryz.prog 111 (Hr jg)/\dC Tryz.prog 133 (Hs jh)/\dC Tryz.prog 151 (Ht ji)/\dC Tryz.prog 169 (Hu jj)
def th(v1:Nat)(v2 v3 v4 v5:T84)(v6:T16):T68:=af (v3 (v6.1,v6.2.1,v6.2.2.1,())) (λ(v7:T62)=>aq (λ(v8:T56)=>λv9=>aj (λ(v10:T3)=>bif v10.2.1 then af (v3 (v6.1,IntKind.wrap .i64 (v8.2.1+1),v6.2.2.1,())) (λ(v11:T62)=>bif List.isEmpty v11.1.1 then some ((([]:List (Int×(List Int))),v11.1.2.1,()),())else if(List.length ([]:List (Int×(List Int)))+List.length v8.2.2.1)*40<=140737488355328 then if List.length ([]:List (Int×(List Int)))+List.length v8.2.2.1<=9223372036854775807 then if(List.length (([]:List (Int×(List Int)))++v8.2.2.1)+List.length v11.1.1)*40<=140737488355328 then if List.length (([]:List (Int×(List Int)))++v8.2.2.1)+List.length v11.1.1<=9223372036854775807 then if(List.length ((([]:List (Int×(List Int)))++v8.2.2.1)++v11.1.1)+List.length ([(3,([0,0,0,0]:List Int))]:List (Int×(List Int))))*40<=140737488355328 then if List.length ((([]:List (Int×(List Int)))++v8.2.2.1)++v11.1.1)+List.length ([(3,([0,0,0,0]:List Int))]:List (Int×(List Int)))<=9223372036854775807 then bif List.isEmpty (((([]:List (Int×(List Int)))++v8.2.2.1)++v11.1.1)++([(3,([0,0,0,0]:List Int))]:List (Int×(List Int))))then none else v9 ((),v11.1.2.1,((([]:List (Int×(List Int)))++v8.2.2.1)++v11.1.1)++([(3,([0,0,0,0]:List Int))]:List (Int×(List Int))),())else none else none else none else none else none else none)else some ((v8.2.2.1,v8.2.1,()),())) (λv12=>bif !(List.isEmpty v8.2.2.1)then bif decide (v8.2.1<(v6.1.length:Int))then if 0<=v8.2.1 then(match v6.1[(v8.2.1).toNat]? with|some v13=>v12 ((),decide (v13=124),())|none=>none)else none else v12 ((),false,())else v12 ((),false,()))) v1 ((),v7.1.2.1,v7.1.1,()))
theorem MV(n:Nat)(jg:zh)(jh:zj)(ji:zk)(jj:zl)(h:BK jg jh ji jj):dC Tryz.prog 111 (Hr (th n jg jh ji jj)):=(fb n [⟨_,⟨_,h.1,BF⟩⟩,⟨_,⟨_,h.2.1,BG⟩⟩,⟨_,⟨_,h.2.2.1,BH⟩⟩,⟨_,⟨_,h.2.2.2,BJ⟩⟩] [14,36] [] [] Tryz.func111 Tryz.results111 Tryz.ntmps111 (.seq .nop (.seq .nop (.seq (.block none (.loop ⟨[],[.val 1 y2,.val 8 (.nl yW)],[0,2]⟩ (.seq (.seq (.reg (some ⟨[],[.val 30 y4],[0,1,2,8]⟩) []) .nop) (.block none (.seq .nop (.seq .nop (.seq .nop (.reg none [8])))))))) .nop))) A4 A5 [] [] (th n jg jh ji jj)).o
def tj(v1:Nat)(v2 v3 v4 v5:T84)(v6:T16):T68:=af (v4 (v6.1,v6.2.1,v6.2.2.1,())) (λ(v7:T62)=>aq (λ(v8:T56)=>λv9=>aj (λ(v10:T3)=>bif v10.2.1 then af (v4 (v6.1,v8.2.1,v6.2.2.1,())) (λ(v11:T62)=>bif List.isEmpty v11.1.1 then some ((([]:List (Int×(List Int))),v11.1.2.1,()),())else if(List.length ([]:List (Int×(List Int)))+List.length v8.2.2.1)*40<=140737488355328 then if List.length ([]:List (Int×(List Int)))+List.length v8.2.2.1<=9223372036854775807 then if(List.length (([]:List (Int×(List Int)))++v8.2.2.1)+List.length v11.1.1)*40<=140737488355328 then if List.length (([]:List (Int×(List Int)))++v8.2.2.1)+List.length v11.1.1<=9223372036854775807 then if(List.length ((([]:List (Int×(List Int)))++v8.2.2.1)++v11.1.1)+List.length ([(2,([0,0,0,0]:List Int))]:List (Int×(List Int))))*40<=140737488355328 then if List.length ((([]:List (Int×(List Int)))++v8.2.2.1)++v11.1.1)+List.length ([(2,([0,0,0,0]:List Int))]:List (Int×(List Int)))<=9223372036854775807 then bif List.isEmpty (((([]:List (Int×(List Int)))++v8.2.2.1)++v11.1.1)++([(2,([0,0,0,0]:List Int))]:List (Int×(List Int))))then none else v9 ((),v11.1.2.1,((([]:List (Int×(List Int)))++v8.2.2.1)++v11.1.1)++([(2,([0,0,0,0]:List Int))]:List (Int×(List Int))),())else none else none else none else none else none else none)else some ((v8.2.2.1,v8.2.1,()),())) (λv12=>bif !(List.isEmpty v8.2.2.1)then bif decide (v8.2.1<(v6.1.length:Int))then if 0<=v8.2.1 then(match v6.1[(v8.2.1).toNat]? with|some v13=>af (tc v1 (([124,41]:List Int),v13,())) (λ(v14:T6)=>v12 ((),!v14.1.1,()))|none=>none)else none else v12 ((),false,())else v12 ((),false,()))) v1 ((),v7.1.2.1,v7.1.1,()))
theorem MW(n:Nat)(jg:zh)(jh:zj)(ji:zk)(jj:zl)(h:BK jg jh ji jj):dC Tryz.prog 133 (Hs (tj n jg jh ji jj)):=(fb n [⟨_,F152 n⟩,⟨_,⟨_,h.1,BF⟩⟩,⟨_,⟨_,h.2.1,BG⟩⟩,⟨_,⟨_,h.2.2.1,BH⟩⟩,⟨_,⟨_,h.2.2.2,BJ⟩⟩] [14,36] [] [] Tryz.func133 Tryz.results133 Tryz.ntmps133 (.seq .nop (.seq .nop (.seq (.block none (.loop ⟨[],[.val 1 y2,.val 8 (.nl yW)],[0,2]⟩ (.seq (.seq (.reg (some ⟨[],[.val 31 y4],[0,1,2,8]⟩) []) .nop) (.block none (.seq .nop (.seq .nop (.seq .nop (.reg none [8])))))))) .nop))) A4 A5 [] [] (tj n jg jh ji jj)).o
def tk(v1:Nat)(v2 v3 v4 v5:T84)(v6:T16):T68:=af (v5 (v6.1,v6.2.1,v6.2.2.1,())) (λ(v7:T62)=>aq (λ(v8:T56)=>λv9=>aj (λ(v10:T3)=>bif v10.2.1 then if 0<=v8.2.1 then(match v6.1[(v8.2.1).toNat]? with|some v11=>aj (λ(v12:T2)=>if 0<=v8.2.1 then(match v6.1[(v8.2.1).toNat]? with|some v13=>aj (λ(v14:T2)=>if(List.length ([]:List (Int×(List Int)))+List.length v8.2.2.1)*40<=140737488355328 then if List.length ([]:List (Int×(List Int)))+List.length v8.2.2.1<=9223372036854775807 then if(List.length (([]:List (Int×(List Int)))++v8.2.2.1)+List.length ([(v14.2.1,([0,0,0,0]:List Int))]:List (Int×(List Int))))*40<=140737488355328 then if List.length (([]:List (Int×(List Int)))++v8.2.2.1)+List.length ([(v14.2.1,([0,0,0,0]:List Int))]:List (Int×(List Int)))<=9223372036854775807 then bif List.isEmpty ((([]:List (Int×(List Int)))++v8.2.2.1)++([(v14.2.1,([0,0,0,0]:List Int))]:List (Int×(List Int))))then none else v9 ((),IntKind.wrap .i64 (v8.2.1+1),(([]:List (Int×(List Int)))++v8.2.2.1)++([(v14.2.1,([0,0,0,0]:List Int))]:List (Int×(List Int))),())else none else none else none else none) (λv15=>bif decide (v13=63)then v15 ((),6,())else v15 ((),v12.2.1,()))|none=>none)else none) (λv16=>bif decide (v11=43)then v16 ((),5,())else v16 ((),4,()))|none=>none)else none else some ((v8.2.2.1,v8.2.1,()),())) (λv17=>bif !(List.isEmpty v8.2.2.1)then bif decide (v8.2.1<(v6.1.length:Int))then if 0<=v8.2.1 then(match v6.1[(v8.2.1).toNat]? with|some v18=>af (tc v1 (([42,43,63]:List Int),v18,())) (λ(v19:T6)=>v17 ((),v19.1.1,()))|none=>none)else none else v17 ((),false,())else v17 ((),false,()))) v1 ((),v7.1.2.1,v7.1.1,()))
theorem MX(n:Nat)(jg:zh)(jh:zj)(ji:zk)(jj:zl)(h:BK jg jh ji jj):dC Tryz.prog 151 (Ht (tk n jg jh ji jj)):=(fb n [⟨_,F152 n⟩,⟨_,⟨_,h.1,BF⟩⟩,⟨_,⟨_,h.2.1,BG⟩⟩,⟨_,⟨_,h.2.2.1,BH⟩⟩,⟨_,⟨_,h.2.2.2,BJ⟩⟩] [14] [] [] Tryz.func151 Tryz.results151 Tryz.ntmps151 (.seq .nop (.seq .nop (.seq (.block none (.loop ⟨[],[.val 1 y2,.val 8 (.nl yW)],[0]⟩ (.seq (.seq (.reg (some ⟨[],[.val 30 y4],[0,1,8]⟩) []) .nop) (.block none (.seq .nop (.seq (.seq .nop (.cond (some ⟨[],[.val 9 y2],[0,1,8]⟩) .nop .nop)) (.seq (.seq .nop (.cond (some ⟨[],[.val 9 y2],[0,1,8]⟩) .nop .nop)) (.seq (.reg none [8]) .nop)))))))) .nop))) A4 A5 [] [] (tk n jg jh ji jj)).o
def tp(v1:Nat)(v2 v3 v4 v5:T84)(v6:T16):T68:=aj (λ(v7:T3)=>bif v7.2.1 then some ((([]:List (Int×(List Int))),v6.2.1,()),())else if 0<=v6.2.1 then(match v6.1[(v6.2.1).toNat]? with|some v8=>bif decide (v8=46)then af (BD v1 (3,([0,0,0,0]:List Int),([0,0,0,0]:List Int),())) (λ(v9:T13)=>some ((([(1,v9.1.1)]:List (Int×(List Int))),IntKind.wrap .i64 (v6.2.1+1),()),()))else if 0<=v6.2.1 then(match v6.1[(v6.2.1).toNat]? with|some v10=>bif decide (v10=126)then some ((([(0,([0,0,0,0]:List Int))]:List (Int×(List Int))),IntKind.wrap .i64 (v6.2.1+1),()),())else if 0<=v6.2.1 then(match v6.1[(v6.2.1).toNat]? with|some v11=>bif decide (v11=91)then af (Et v1 (v6.1,IntKind.wrap .i64 (v6.2.1+1),())) (λ(v12:T62)=>some ((v12.1.1,v12.1.2.1,()),()))else if 0<=v6.2.1 then(match v6.1[(v6.2.1).toNat]? with|some v13=>bif decide (v13=40)then bif decide (99<=v6.2.2.1)then some ((([]:List (Int×(List Int))),v6.2.1,()),())else af (v2 (v6.1,IntKind.wrap .i64 (v6.2.1+1),IntKind.wrap .i64 (v6.2.2.1+1),())) (λ(v14:T62)=>aj (λ(v15:T3)=>bif v15.2.1 then some ((([]:List (Int×(List Int))),v14.1.2.1,()),())else some ((v14.1.1,IntKind.wrap .i64 (v14.1.2.1+1),()),())) (λv16=>bif List.isEmpty v14.1.1 then v16 ((),true,())else bif decide ((v6.1.length:Int)<=v14.1.2.1)then v16 ((),true,())else if 0<=v14.1.2.1 then(match v6.1[(v14.1.2.1).toNat]? with|some v17=>v16 ((),!(decide (v17=41)),())|none=>none)else none))else if 0<=v6.2.1/\v6.2.1<=(v6.1.length:Int)/\(v6.1.length:Int)<=(v6.1.length:Int)then af (zg v1 (br v6.1 v6.2.1 (v6.1.length:Int),())) (λ(v18:T19)=>bif !v18.1.2.2.1 then some ((([]:List (Int×(List Int))),v6.2.1,()),())else if(0:Int)<=(256:Int)/\(256:Int)<=(256:Int)then if(256:Int).toNat*1<=140737488355328 then if 0<=v18.1.1 then(match(List.replicate (256:Int).toNat false)[(v18.1.1).toNat]? with|some v19=>if 0<=v18.1.1 then(match(List.replicate (256:Int).toNat false)[(v18.1.1).toNat]? with|some v20=>af (vq v1 (List.set (List.replicate (256:Int).toNat false) (v18.1.1).toNat true,())) (λ(v21:T13)=>some ((([(1,v21.1.1)]:List (Int×(List Int))),IntKind.wrap .i64 (v6.2.1+v18.1.2.1),()),()))|none=>none)else none|none=>none)else none else none else none)else none|none=>none)else none|none=>none)else none|none=>none)else none|none=>none)else none) (λv22=>bif decide ((v6.1.length:Int)<=v6.2.1)then v22 ((),true,())else if 0<=v6.2.1 then(match v6.1[(v6.2.1).toNat]? with|some v23=>af (tc v1 (([124,41,42,43,63,93,47,34]:List Int),v23,())) (λ(v24:T6)=>v22 ((),v24.1.1,()))|none=>none)else none)
theorem MY(n:Nat)(jg:zh)(jh:zj)(ji:zk)(jj:zl)(h:BK jg jh ji jj):dC Tryz.prog 169 (Hu (tp n jg jh ji jj)):=(fb n [⟨_,F152 n⟩,⟨_,F177 n⟩,⟨_,F178 n⟩,⟨_,F179 n⟩,⟨_,F180 n⟩,⟨_,⟨_,h.1,BF⟩⟩,⟨_,⟨_,h.2.1,BG⟩⟩,⟨_,⟨_,h.2.2.1,BH⟩⟩,⟨_,⟨_,h.2.2.2,BJ⟩⟩] [55,72] [] [] Tryz.func169 Tryz.results169 Tryz.ntmps169 (.seq .nop (.seq (.block none (.seq (.reg (some ⟨[],[.val 14 y4],[0,1,2]⟩) []) (.cond none .nop (.seq .nop (.cond none .nop (.seq .nop (.cond none .nop (.seq .nop (.cond none .nop (.seq .nop (.cond none (.seq .nop (.seq .nop (.seq (.seq (.reg (some ⟨[],[.val 88 y4],[8,9]⟩) []) .nop) .nop))) .nop))))))))))) .nop)) A4 A5 [] [] (tp n jg jh ji jj)).o
def bp(n:Nat):Nat->(T16->T68)×(T16->T68)×(T16->T68)×(T16->T68)
 |0=>(λ_=>none,λ_=>none,λ_=>none,λ_=>none)
 |d+1=>(λx=>th n (bp n d).1 (bp n d).2.1 (bp n d).2.2.1 (bp n d).2.2.2 x,λx=>tj n (bp n d).1 (bp n d).2.1 (bp n d).2.2.1 (bp n d).2.2.2 x,λx=>tk n (bp n d).1 (bp n d).2.1 (bp n d).2.2.1 (bp n d).2.2.2 x,λx=>tp n (bp n d).1 (bp n d).2.1 (bp n d).2.2.1 (bp n d).2.2.2 x)
theorem tq(n:Nat):∀ d,BK (bp n d).1 (bp n d).2.1 (bp n d).2.2.1 (bp n d).2.2.2
 |0=>⟨(λx r h=>by cases h),(λx r h=>by cases h),(λx r h=>by cases h),(λx r h=>by cases h)⟩
 |d+1=>⟨MV n _ _ _ _ (tq n d),MW n _ _ _ _ (tq n d),MX n _ _ _ _ (tq n d),MY n _ _ _ _ (tq n d)⟩
def Hv(n:Nat)(x:T16):T68:=(bp n n).1 x
def F111(n:Nat):Fb 111:=⟨Hr (Hv n),(tq n n).1,BF⟩
def MZ(n:Nat)(x:T16):T68:=(bp n n).2.1 x
def F133(n:Nat):Fb 133:=⟨Hs (MZ n),(tq n n).2.1,BG⟩
def M0(n:Nat)(x:T16):T68:=(bp n n).2.2.1 x
def F151(n:Nat):Fb 151:=⟨Ht (M0 n),(tq n n).2.2.1,BH⟩
def M1(n:Nat)(x:T16):T68:=(bp n n).2.2.2 x
def F169(n:Nat):Fb 169:=⟨Hu (M1 n),(tq n n).2.2.2,BJ⟩
def p97(v1:Nat)(v2:T4):T68:=bif decide (1600<(v2.1.length:Int))then some ((([]:List (Int×(List Int))),6,()),())else af (Hv v1 (v2.1,0,0,())) (λ(v3:T62)=>aj (λ(v4:T3)=>bif v4.2.1 then some ((([]:List (Int×(List Int))),5,()),())else bif decide (400<(v3.1.1.length:Int))then some ((([]:List (Int×(List Int))),6,()),())else some ((v3.1.1,0,()),())) (λv5=>bif List.isEmpty v3.1.1 then v5 ((),true,())else v5 ((),decide (v3.1.2.1<(v2.1.length:Int)),())))
def F97(n:Nat):Fb 97:=fb n [⟨_,F111 n⟩] [11] [] [] Tryz.func97 Tryz.results97 Tryz.ntmps97 (.seq .nop (.seq .nop (.seq .nop (.seq (.seq (.reg (some ⟨[],[.val 21 y4],[4]⟩) []) .nop) .nop)))) A21 A8 [] [] (p97 n)
def zm(v1:Nat)(v2:T1):T12:=aj (λ(v3:T30)=>bif v3.2.1 then some ((-1,()),())else if 0<=v2.1 then(match v3.1.1[(v2.1).toNat]? with|some v4=>some ((v4,()),())|none=>none)else none) (λv5=>bif decide (v2.1<0)then v5 ((([0,0,2,2,1,1,1]:List Int),()),true,())else v5 ((([0,0,2,2,1,1,1]:List Int),()),decide (6<v2.1),()))
def F153(n:Nat):Fb 153:=fb n [] [] [] [] Tryz.func153 Tryz.results153 Tryz.ntmps153 (.seq .nop (.seq .nop (.seq (.seq (.reg (some ⟨[(32,y28,.own .ro)],[.val 10 y4],[0,3]⟩) []) .nop) .nop))) A20 A20 [] [] (zm n)
def vt(v1:Nat)(v2:((List (Int×(List Int)))×Int×Unit)):T12:=aq (λ(v3:T7)=>λv4=>bif decide (0<=v3.2.2.1)then if 0<=v3.2.2.1 then(match v2.1[(v3.2.2.1).toNat]? with|some v5=>af (zm v1 (v5.1,())) (λ(v6:T5)=>bif decide ((IntKind.wrap .i64 ((IntKind.wrap .i64 (v3.2.1-1))+v6.1.1))=0)then some ((v3.2.2.1,()),())else v4 ((),IntKind.wrap .i64 ((IntKind.wrap .i64 (v3.2.1-1))+v6.1.1),IntKind.wrap .i64 (v3.2.2.1-1),()))|none=>none)else none else some ((0,()),())) v1 ((),1,v2.2.1,())
def F154(n:Nat):Fb 154:=fb n [⟨_,F153 n⟩] [] [] [] Tryz.func154 Tryz.results154 Tryz.ntmps154 (.seq .nop (.seq .nop (.seq (.seq .nop (.block none (.loop ⟨[],[.val 5 y2,.val 6 y2],[0]⟩ .nop))) .nop))) A8 A20 [] [] (vt n)
def qD(v1:Nat)(v2:T28):Option (((List (List (Int×(List Int))))×Unit)×Unit):=if 0<=(IntKind.wrap .i64 ((v2.1.length:Int)-1))then(match v2.1[(IntKind.wrap .i64 ((v2.1.length:Int)-1)).toNat]? with|some v3=>af (zm v1 (v3.1,())) (λ(v4:T5)=>aq (λ(v5:(Unit×(List (List (Int×(List Int))))×Int×Int×Unit))=>λv6=>bif decide (0<v5.2.2.2.1)then af (vt v1 (v2.1,IntKind.wrap .i64 (v5.2.2.1-1),())) (λ(v7:T5)=>if 0<=v7.1.1/\v7.1.1<=v5.2.2.1/\v5.2.2.1<=(v2.1.length:Int)then if(List.length ([(br v2.1 v7.1.1 v5.2.2.1)]:List (List (Int×(List Int))))+List.length v5.2.1)*24<=140737488355328 then if List.length ([(br v2.1 v7.1.1 v5.2.2.1)]:List (List (Int×(List Int))))+List.length v5.2.1<=9223372036854775807 then v6 ((),([(br v2.1 v7.1.1 v5.2.2.1)]:List (List (Int×(List Int))))++v5.2.1,v7.1.1,IntKind.wrap .i64 (v5.2.2.2.1-1),())else none else none else none)else some ((v5.2.1,()),())) v1 ((),([]:List (List (Int×(List Int)))),IntKind.wrap .i64 ((v2.1.length:Int)-1),v4.1.1,()))|none=>none)else none
def F134(n:Nat):Fb 134:=fb n [⟨_,F153 n⟩,⟨_,F154 n⟩] [] [] [] Tryz.func134 Tryz.results134 Tryz.ntmps134 (.seq .nop (.seq .nop (.seq .nop (.seq .nop (.seq (.seq .nop (.block none (.loop ⟨[],[.hdr 4 39 D4 (.own .ro),.val 5 y2,.val 6 y2],[0]⟩ .nop))) .nop))))) [(jb,.ro)] [(D4,.ro)] [] [] (qD n)
def BL(v1:Nat)(v2:((List Bool)×(List Bool)×Unit)):T36:=aq (λ(v3:T22)=>λv4=>bif decide (v3.2.2.1<(v2.1.length:Int))then aj (λ(v5:(Unit×(List Bool)×Unit))=>v4 ((),v5.2.1,IntKind.wrap .i64 (v3.2.2.1+1),())) (λv6=>if 0<=v3.2.2.1 then(match v2.1[(v3.2.2.1).toNat]? with|some v7=>bif v7 then if(List.length v3.2.1+List.length ([true]:List Bool))*1<=140737488355328 then if List.length v3.2.1+List.length ([true]:List Bool)<=9223372036854775807 then v6 ((),v3.2.1++([true]:List Bool),())else none else none else if 0<=v3.2.2.1 then(match v2.2.1[(v3.2.2.1).toNat]? with|some v8=>if(List.length v3.2.1+List.length ([v8]:List Bool))*1<=140737488355328 then if List.length v3.2.1+List.length ([v8]:List Bool)<=9223372036854775807 then v6 ((),v3.2.1++([v8]:List Bool),())else none else none|none=>none)else none|none=>none)else none)else some ((v3.2.1,()),())) v1 ((),([]:List Bool),0,())
def F136(n:Nat):Fb 136:=fb n [] [] [] [] Tryz.func136 Tryz.results136 Tryz.ntmps136 (.seq .nop (.seq .nop (.seq (.seq .nop (.block none (.loop ⟨[],[.hdr 5 47 cn (.own .ro),.val 6 y2],[0,1]⟩ (.seq .nop (.seq (.block none (.reg (some ⟨[],[.hdr 5 47 cn (.own .ro)],[0,1,6]⟩) [])) .nop))))) .nop))) [(cn,.ro),(cn,.ro)] A15 [] [] (BL n)
abbrev Eu:=Qt A3 A15 []
abbrev Hw(q:Eu):Callee:=⟨_,_,[],_,q⟩
theorem Hx:Plain Tryz.prog 112:=pl Tryz.func112
abbrev Ev:=Qt A3 A15 []
abbrev Hy(q:Ev):Callee:=⟨_,_,[],_,q⟩
theorem Hz:Plain Tryz.prog 137:=pl Tryz.func137
abbrev HA(qE:Eu)(qF:Ev):=dC Tryz.prog 112 (Hw qE)/\dC Tryz.prog 137 (Hy qF)
def gN(v1:Nat)(v2 v3:T87)(v4:T70):T36:=if 0<=(v4.2.2.1.length:Int)/\(v4.2.2.1.length:Int)<=(v4.2.2.1.length:Int)then if(v4.2.2.1.length:Int).toNat*1<=140737488355328 then af (qD v1 (v4.1,())) (λ(v5:(((List (List (Int×(List Int))))×Unit)×Unit))=>if 0<=(IntKind.wrap .i64 ((v4.1.length:Int)-1))then(match v4.1[(IntKind.wrap .i64 ((v4.1.length:Int)-1)).toNat]? with|some v6=>bif decide (v6.1=0)then some ((v4.2.2.1,()),())else bif decide (v6.1=1)then aq (λ(v7:T29)=>λv8=>bif decide (v7.2.1<(v4.2.1.length:Int))then aj (λ(v9:T15)=>v8 ((v9.1.1,()),IntKind.wrap .i64 (v7.2.1+1),())) (λv10=>if 0<=v7.2.1 then(match v4.2.2.1[(v7.2.1).toNat]? with|some v11=>bif v11 then if 0<=(IntKind.wrap .i64 ((v4.1.length:Int)-1))then(match v4.1[(IntKind.wrap .i64 ((v4.1.length:Int)-1)).toNat]? with|some v12=>if 0<=v7.2.1 then(match v4.2.1[(v7.2.1).toNat]? with|some v13=>af (zf v1 (v12.2,IntKind.wrap .i64 v13,())) (λ(v14:T6)=>if 0<=(IntKind.wrap .i64 (v7.2.1+1))then(match v7.1.1[(IntKind.wrap .i64 (v7.2.1+1)).toNat]? with|some v15=>if 0<=(IntKind.wrap .i64 (v7.2.1+1))then(match v7.1.1[(IntKind.wrap .i64 (v7.2.1+1)).toNat]? with|some v16=>v10 ((List.set v7.1.1 (IntKind.wrap .i64 (v7.2.1+1)).toNat v14.1.1,()),())|none=>none)else none|none=>none)else none)|none=>none)else none|none=>none)else none else if 0<=(IntKind.wrap .i64 (v7.2.1+1))then(match v7.1.1[(IntKind.wrap .i64 (v7.2.1+1)).toNat]? with|some v17=>if 0<=(IntKind.wrap .i64 (v7.2.1+1))then(match v7.1.1[(IntKind.wrap .i64 (v7.2.1+1)).toNat]? with|some v18=>v10 ((List.set v7.1.1 (IntKind.wrap .i64 (v7.2.1+1)).toNat false,()),())|none=>none)else none|none=>none)else none|none=>none)else none)else some ((v7.1.1,()),())) v1 ((List.replicate (v4.2.2.1.length:Int).toNat false,()),0,())else bif decide (v6.1=2)then if(0:Int)<=(1:Int)then(match v5.1.1[(1:Int).toNat]? with|some v19=>if(0:Int)<=(0:Int)then(match v5.1.1[(0:Int).toNat]? with|some v20=>af (v2 (v20,v4.2.1,v4.2.2.1,())) (λ(v21:T15)=>af (v2 (v19,v4.2.1,v21.1.1,())) (λ(v22:T15)=>some ((v22.1.1,()),())))|none=>none)else none|none=>none)else none else bif decide (v6.1=3)then if(0:Int)<=(0:Int)then(match v5.1.1[(0:Int).toNat]? with|some v23=>af (v2 (v23,v4.2.1,v4.2.2.1,())) (λ(v24:T15)=>if(0:Int)<=(1:Int)then(match v5.1.1[(1:Int).toNat]? with|some v25=>af (v2 (v25,v4.2.1,v4.2.2.1,())) (λ(v26:T15)=>af (BL v1 (v24.1.1,v26.1.1,())) (λ(v27:T15)=>some ((v27.1.1,()),())))|none=>none)else none)|none=>none)else none else bif decide (v6.1=6)then if(0:Int)<=(0:Int)then(match v5.1.1[(0:Int).toNat]? with|some v28=>af (v2 (v28,v4.2.1,v4.2.2.1,())) (λ(v29:T15)=>af (BL v1 (v4.2.2.1,v29.1.1,())) (λ(v30:T15)=>some ((v30.1.1,()),())))|none=>none)else none else if 0<=(IntKind.wrap .i64 ((v4.1.length:Int)-1))then(match v4.1[(IntKind.wrap .i64 ((v4.1.length:Int)-1)).toNat]? with|some v31=>bif decide (v31.1=4)then if(0:Int)<=(0:Int)then(match v5.1.1[(0:Int).toNat]? with|some v32=>af (v3 (v32,v4.2.1,v4.2.2.1,())) (λ(v33:T15)=>some ((v33.1.1,()),()))|none=>none)else none else if(0:Int)<=(0:Int)then(match v5.1.1[(0:Int).toNat]? with|some v34=>if(0:Int)<=(0:Int)then(match v5.1.1[(0:Int).toNat]? with|some v35=>af (v2 (v35,v4.2.1,v4.2.2.1,())) (λ(v36:T15)=>af (v3 (v34,v4.2.1,v36.1.1,())) (λ(v37:T15)=>some ((v37.1.1,()),())))|none=>none)else none|none=>none)else none|none=>none)else none|none=>none)else none)else none else none
theorem M2(n:Nat)(qE:Eu)(qF:Ev)(h:HA qE qF):dC Tryz.prog 112 (Hw (gN n qE qF)):=(fb n [⟨_,F134 n⟩,⟨_,F135 n⟩,⟨_,F136 n⟩,⟨_,⟨_,h.1,Hx⟩⟩,⟨_,⟨_,h.2,Hz⟩⟩] [14,67,68,76,82,83,92,93,107,117,118] [] [] Tryz.func112 Tryz.results112 Tryz.ntmps112 (.seq .nop (.seq .nop (.seq .nop (.seq (.seq .nop (.block none (.seq .nop (.cond none .nop (.seq .nop (.cond none (.seq (.seq .nop (.block none (.loop ⟨[(96,cn,.own .ro)],[.val 9 y2],[0,1,2,7]⟩ (.seq .nop (.seq (.block none (.reg (some ⟨[(96,cn,.own .ro)],[],[0,1,2,7,9]⟩) [])) .nop))))) .nop) .nop)))))) .nop)))) A3 A15 [] [] (gN n qE qF)).o
def tt(v1:Nat)(v2 v3:T87)(v4:T70):T36:=aq (λ(v5:T22)=>λv6=>bif decide (v5.2.2.1<=(v4.2.1.length:Int))then af (v2 (v4.1,v4.2.1,v5.2.1,())) (λ(v7:T15)=>af (BL v1 (v5.2.1,v7.1.1,())) (λ(v8:T15)=>aq (λ(v9:(Unit×Bool×Int×Unit))=>λv10=>bif decide (v9.2.2.1<(v8.1.1.length:Int))then aj (λ(v11:T3)=>v10 ((),v11.2.1,IntKind.wrap .i64 (v9.2.2.1+1),())) (λv12=>bif v9.2.1 then if 0<=v9.2.2.1 then(match v8.1.1[(v9.2.2.1).toNat]? with|some v13=>if 0<=v9.2.2.1 then(match v5.2.1[(v9.2.2.1).toNat]? with|some v14=>v12 ((),v13 == v14,())|none=>none)else none|none=>none)else none else v12 ((),false,()))else bif v9.2.1 then some ((v8.1.1,()),())else v6 ((),v8.1.1,IntKind.wrap .i64 (v5.2.2.1+1),())) v1 ((),true,0,())))else some ((v5.2.1,()),())) v1 ((),v4.2.2.1,0,())
theorem M3(n:Nat)(qE:Eu)(qF:Ev)(h:HA qE qF):dC Tryz.prog 137 (Hy (tt n qE qF)):=(fb n [⟨_,F136 n⟩,⟨_,⟨_,h.1,Hx⟩⟩,⟨_,⟨_,h.2,Hz⟩⟩] [21,22] [] [] Tryz.func137 Tryz.results137 Tryz.ntmps137 (.seq .nop (.seq (.seq .nop (.block none (.loop ⟨[],[.val 2 cn,.val 7 y2],[0,1]⟩ (.seq .nop (.seq (.block none (.seq .nop (.seq .nop (.seq (.seq .nop (.block none (.loop ⟨[],[.val 9 y4,.val 10 y2],[0,1,2,7,8]⟩ (.seq .nop (.seq (.block none (.reg (some ⟨[],[.val 9 y4],[0,1,2,7,8,10]⟩) [])) .nop))))) .nop)))) .nop))))) .nop)) A3 A15 [] [] (tt n qE qF)).o
def dy(n:Nat):Nat->(T70->T36)×(T70->T36)
 |0=>(λ_=>none,λ_=>none)
 |d+1=>(λx=>gN n (dy n d).1 (dy n d).2 x,λx=>tt n (dy n d).1 (dy n d).2 x)
theorem Ew(n:Nat):∀ d,HA (dy n d).1 (dy n d).2
 |0=>⟨(λx r h=>by cases h),(λx r h=>by cases h)⟩
 |d+1=>⟨M2 n _ _ (Ew n d),M3 n _ _ (Ew n d)⟩
def HB(n:Nat)(x:T70):T36:=(dy n n).1 x
def F112(n:Nat):Fb 112:=⟨Hw (HB n),(Ew n n).1,Hx⟩
def M4(n:Nat)(x:T70):T36:=(dy n n).2 x
def F137(n:Nat):Fb 137:=⟨Hy (M4 n),(Ew n n).2,Hz⟩
def p98(v1:Nat)(v2:((List (Int×(List Int)))×(List Int)×Unit)):T14:=if 0<=(IntKind.wrap .i64 ((v2.2.1.length:Int)+1))/\(IntKind.wrap .i64 ((v2.2.1.length:Int)+1))<=(IntKind.wrap .i64 ((v2.2.1.length:Int)+1))then if(IntKind.wrap .i64 ((v2.2.1.length:Int)+1)).toNat*1<=140737488355328 then if(0:Int)<=(0:Int)then(match(List.replicate (IntKind.wrap .i64 ((v2.2.1.length:Int)+1)).toNat false)[(0:Int).toNat]? with|some v3=>if(0:Int)<=(0:Int)then(match(List.replicate (IntKind.wrap .i64 ((v2.2.1.length:Int)+1)).toNat false)[(0:Int).toNat]? with|some v4=>af (HB v1 (v2.1,v2.2.1,List.set (List.replicate (IntKind.wrap .i64 ((v2.2.1.length:Int)+1)).toNat false) (0:Int).toNat true,())) (λ(v5:T15)=>if 0<=(v2.2.1.length:Int)then(match v5.1.1[(v2.2.1.length:Int).toNat]? with|some v6=>some ((v6,()),())|none=>none)else none)|none=>none)else none|none=>none)else none else none else none
def F98(n:Nat):Fb 98:=fb n [⟨_,F112 n⟩] [] [] [] Tryz.func98 Tryz.results98 Tryz.ntmps98 (.nop) [(jb,.ro),(y9,.ro)] A19 [] [] (p98 n)
end
noncomputable section
def zn(v1:Nat)(v2:T1):T12:=aj (λ(v3:(Unit×Unit))=>some ((3,()),())) (λv4=>aj (λ(v5:(Unit×Unit))=>v4 ((),())) (λv6=>aj (λ(v7:T3)=>bif v7.2.1 then some ((1,()),())else aj (λ(v8:T3)=>bif v8.2.1 then some ((2,()),())else aj (λ(v9:T3)=>bif v9.2.1 then v6 ((),())else aj (λ(v10:T3)=>bif v10.2.1 then v6 ((),())else bif decide (v2.1=95)then v4 ((),())else aj (λ(v11:T3)=>bif v11.2.1 then some ((4,()),())else some ((0,()),())) (λv12=>bif decide (32<v2.1)then v12 ((),decide (v2.1<=126),())else v12 ((),false,()))) (λv13=>bif decide (65<=v2.1)then v13 ((),decide (v2.1<=90),())else v13 ((),false,()))) (λv14=>bif decide (97<=v2.1)then v14 ((),decide (v2.1<=122),())else v14 ((),false,()))) (λv15=>bif decide (48<=v2.1)then v15 ((),decide (v2.1<=57),())else v15 ((),false,()))) (λv16=>bif decide (v2.1=32)then v16 ((),decide (v2.1=32),())else aj (λ(v17:T3)=>v16 ((),v17.2.1,())) (λv18=>bif decide (v2.1=9)then v18 ((),decide (v2.1=9),())else aj (λ(v19:T3)=>v18 ((),v19.2.1,())) (λv20=>bif decide (v2.1=10)then v20 ((),decide (v2.1=10),())else v20 ((),decide (v2.1=13),()))))))
def F109(n:Nat):Fb 109:=fb n [] [] [] [] Tryz.func109 Tryz.results109 Tryz.ntmps109 (.seq .nop (.seq (.block none (.seq (.block none (.seq (.block (some ⟨[],[],[]⟩) (.block (some ⟨[],[],[]⟩) (.block none (.seq (.block none (.seq (.block none (.seq (.seq (.seq (.seq .nop (.cond (some ⟨[],[.val 3 y4],[0]⟩) .nop (.seq .nop (.cond (some ⟨[],[.val 3 y4],[0]⟩) .nop (.seq .nop (.cond (some ⟨[],[.val 3 y4],[0]⟩) .nop .nop)))))) .nop) (.seq (.seq (.reg (some ⟨[],[.val 12 y4],[0]⟩) []) .nop) (.seq (.seq (.reg (some ⟨[],[.val 19 y4],[0]⟩) []) .nop) (.seq (.seq (.reg (some ⟨[],[.val 26 y4],[0]⟩) []) .nop) (.seq .nop (.seq (.reg (some ⟨[],[.val 36 y4],[]⟩) []) .nop)))))) .nop)) .nop)) .nop)))) .nop)) .nop)) .nop)) [(y5,.ro)] A20 [] [] (zn n)
def p89(v1:Nat)(v2:T4):T14:=aj (λ(v3:T3)=>bif v3.2.1 then some ((false,()),())else aq (λ(v4:T2)=>λv5=>bif decide (v4.2.1<(v2.1.length:Int))then if 0<=v4.2.1 then(match v2.1[(v4.2.1).toNat]? with|some v6=>af (zn v1 (v6,())) (λ(v7:T5)=>aj (λ(v8:T3)=>bif v8.2.1 then some ((false,()),())else v5 ((),IntKind.wrap .i64 (v4.2.1+1),())) (λv9=>bif !(decide (v7.1.1=2))then v9 ((),!(decide (v7.1.1=3)),())else v9 ((),false,())))|none=>none)else none else some ((true,()),())) v1 ((),0,())) (λv10=>bif decide (40<(v2.1.length:Int))then v10 ((),true,())else bif decide (v2.1=([]:List Int))then v10 ((),true,())else if(0:Int)<=(0:Int)then(match v2.1[(0:Int).toNat]? with|some v11=>af (zn v1 (v11,())) (λ(v12:T5)=>v10 ((),!(decide (v12.1.1=3)),()))|none=>none)else none)
def F89(n:Nat):Fb 89:=fb n [⟨_,F109 n⟩] [] [] [] Tryz.func89 Tryz.results89 Tryz.ntmps89 (.seq .nop (.seq (.seq (.reg (some ⟨[],[.val 17 y4],[0]⟩) []) .nop) (.seq (.seq .nop (.block none (.loop ⟨[],[.val 20 y2],[0,19]⟩ (.seq .nop (.seq .nop (.seq (.block none (.seq .nop (.seq .nop (.seq (.reg (some ⟨[],[.val 32 y4],[0,19,20]⟩) []) .nop)))) .nop)))))) .nop))) A21 A19 [] [] (p89 n)
def p88(v1:Nat)(v2:(((List Int)×Int×(List Int))×(List ((List Int)×Int))×Unit)):T12:=af (p89 v1 (v2.1.1,())) (λ(v3:T6)=>bif !v3.1.1 then some ((8,()),())else bif decide (0<(bx (λ(v4:T0)=>λ(v5:T0)=>decide (v4=v5)) v2.1.1 v2.2.1))then some ((9,()),())else aj (λ(v6:T3)=>bif v6.2.1 then some ((1,()),())else af (qC v1 (v2.1.2.2,())) (λ(v7:T74)=>bif !(decide (v7.1.2.1=0))then some ((v7.1.2.1,()),())else af (Er v1 (v7.1.1,([]:List Int),())) (λ(v8:T5)=>bif decide (0<=v8.1.1)then some ((14,()),())else some ((0,()),())))) (λv9=>bif decide (v2.1.2.1<0)then v9 ((),true,())else v9 ((),decide (2<v2.1.2.1),())))
def F88(n:Nat):Fb 88:=fb n [⟨_,F89 n⟩,⟨_,F107 n⟩,⟨_,F108 n⟩] [30] [] [] Tryz.func88 Tryz.results88 Tryz.ntmps88 (.seq (.reg none [2]) (.seq (.block none (.seq .nop (.cond none .nop (.seq .nop (.cond none .nop (.seq (.reg (some ⟨[],[.val 18 y4],[2]⟩) []) .nop)))))) (.seq (.reg none [5]) .nop))) [(y82,.ro),(mu,.ro)] A20 [] [] (p88 n)
def p58(v1:Nat)(v2:T59):T25:=bif decide (60<(v2.1.length:Int))then some (((v2.1.length:Int),6,()),())else aq (λ(v3:(((List ((List Int)×Int))×Unit)×Int×Unit))=>λv4=>bif decide (v3.2.1<(v2.1.length:Int))then if 0<=v3.2.1 then(match v2.1[(v3.2.1).toNat]? with|some v5=>af (p88 v1 (v5,v3.1.1,())) (λ(v6:T5)=>bif !(decide (v6.1.1=0))then some ((v3.2.1,v6.1.1,()),())else v4 ((dm (λ(v7:T0)=>λ(v8:T0)=>decide (v7=v8)) v5.1 (IntKind.wrap .i64 ((bx (λ(v9:T0)=>λ(v10:T0)=>decide (v9=v10)) v5.1 v3.1.1)+1)) v3.1.1,()),IntKind.wrap .i64 (v3.2.1+1),()))|none=>none)else none else some (((v2.1.length:Int),0,()),())) v1 ((([]:List ((List Int)×Int)),()),0,())
def F58(n:Nat):Fb 58:=fb n [⟨_,F88 n⟩] [] [] [] Tryz.func58 Tryz.results58 Tryz.ntmps58 (.seq .nop (.seq .nop (.seq .nop (.seq (.seq .nop (.block none (.loop ⟨[(104,mu,.own .ro)],[.val 16 y2],[0,4,14,15]⟩ (.seq .nop (.seq .nop (.seq (.block none (.seq (.reg none [6]) .nop)) .nop)))))) .nop)))) [(y22,.ro)] A12 [] [] (p58 n)
def Ex(v1:Nat)(v2:T41):T12:=aq (λ(v3:T2)=>λv4=>bif decide (v3.2.1<(v2.1.length:Int))then if 0<=v3.2.1 then(match v2.1[(v3.2.1).toNat]? with|some v5=>bif decide (v2.2.1=v5)then some ((v3.2.1,()),())else v4 ((),IntKind.wrap .i64 (v3.2.1+1),())|none=>none)else none else some ((-1,()),())) v1 ((),0,())
def F110(n:Nat):Fb 110:=fb n [] [] [] [] Tryz.func110 Tryz.results110 Tryz.ntmps110 (.seq .nop (.seq (.seq .nop (.block none (.loop ⟨[],[.val 8 y2],[0,1,7]⟩ .nop))) .nop)) [(y23,.ro),(y9,.ro)] A20 [] [] (Ex n)
def p90(v1:Nat)(v2:T41):T14:=af (Ex v1 (v2.1,v2.2.1,())) (λ(v3:T5)=>some ((decide (0<=v3.1.1),()),()))
def F90(n:Nat):Fb 90:=fb n [⟨_,F110 n⟩] [] [] [] Tryz.func90 Tryz.results90 Tryz.ntmps90 (.nop) [(y23,.ro),(y9,.ro)] A19 [] [] (p90 n)
def p91(v1:Nat)(v2:((List ((List Int)×Int×(List Int)))×(List Int)×Unit)):T12:=aq (λ(v3:T2)=>λv4=>bif decide (v3.2.1<(v2.1.length:Int))then if 0<=v3.2.1 then(match v2.1[(v3.2.1).toNat]? with|some v5=>bif decide (v5.1=v2.2.1)then some ((v3.2.1,()),())else v4 ((),IntKind.wrap .i64 (v3.2.1+1),())|none=>none)else none else some ((-1,()),())) v1 ((),0,())
def F91(n:Nat):Fb 91:=fb n [] [] [] [] Tryz.func91 Tryz.results91 Tryz.ntmps91 (.seq .nop (.seq (.seq .nop (.block none (.loop ⟨[],[.val 9 y2],[1,7,8]⟩ (.seq .nop (.seq .nop (.seq (.block none (.seq (.reg none [6]) .nop)) .nop)))))) .nop)) [(y22,.ro),(y9,.ro)] A20 [] [] (p91 n)
def p59(v1:Nat)(v2:T90):T43:=bif decide (300<(v2.1.2.1.length:Int))then some (((6,2,(v2.1.2.1.length:Int)),()),())else aq (λ(v3:T38)=>λv4=>bif decide (v3.2.1<(v2.1.2.1.length:Int))then if 0<=v3.2.1 then(match v2.1.2.1[(v3.2.1).toNat]? with|some v5=>af (p89 v1 (v5,())) (λ(v6:T6)=>bif !v6.1.1 then some (((8,2,v3.2.1),()),())else aj (λ(v7:T42)=>bif v7.2.1 then some (((9,2,v3.2.1),()),())else v4 ((v7.1.1,()),IntKind.wrap .i64 (v3.2.1+1),())) (λv8=>if(0:Int)<=(0:Int)/\(0:Int)<=v3.2.1/\v3.2.1<=(v2.1.2.1.length:Int)then af (p90 v1 (br v2.1.2.1 (0:Int) v3.2.1,v5,())) (λ(v9:T6)=>bif v9.1.1 then v8 ((v3.1.1,()),true,())else af (p91 v1 (v2.1.1,v5,())) (λ(v10:T5)=>v8 ((v3.1.1,()),decide (0<=v10.1.1),())))else none))|none=>none)else none else some (((0,0,0),()),())) v1 (((0,0,0),()),0,())
def F59(n:Nat):Fb 59:=fb n [⟨_,F89 n⟩,⟨_,F90 n⟩,⟨_,F91 n⟩] [] [] [] Tryz.func59 Tryz.results59 Tryz.ntmps59 (.seq (.reg none [1]) (.seq .nop (.seq (.seq .nop (.block none (.loop ⟨[(16,.box y89,.own (.pr .ro (.pr .ro .ro)))],[.val 16 y2],[1,2,14,15]⟩ (.seq .nop (.seq .nop (.seq (.block none (.seq .nop (.block none (.seq .nop (.cond none .nop (.seq (.reg (some ⟨[(16,.box y89,.own (.pr .ro (.pr .ro .ro)))],[.val 27 y4],[1,2,3,14,15,16]⟩) []) .nop)))))) .nop)))))) (.seq (.reg none [2]) .nop)))) A16 [(y89,.ro)] [] [] (p59 n)
def p92(v1:Nat)(v2:T92):T14:=bif v2.2.1.1 then aj (λ(v3:T3)=>some ((v3.2.1,()),())) (λv4=>bif decide (0<=v2.2.1.2)then v4 ((),decide (v2.2.1.2<(v2.1.2.1.length:Int)),())else v4 ((),false,()))else aj (λ(v5:T3)=>some ((v5.2.1,()),())) (λv6=>bif decide (0<=v2.2.1.2)then bif decide (v2.2.1.2<(v2.1.1.length:Int))then if 0<=v2.2.1.2 then(match v2.1.1[(v2.2.1.2).toNat]? with|some v7=>v6 ((),decide (v7.2.1=0),())|none=>none)else none else v6 ((),false,())else v6 ((),false,()))
def F92(n:Nat):Fb 92:=fb n [] [] [] [] Tryz.func92 Tryz.results92 Tryz.ntmps92 (.seq (.reg none [2,3]) (.seq (.seq .nop (.cond none (.seq (.reg (some ⟨[],[.val 4 y4],[]⟩) []) .nop) .nop)) (.seq (.reg (some ⟨[],[.val 4 y4],[]⟩) []) .nop))) [(y26,.ro),(y63,.ro)] A19 [] [] (p92 n)
theorem Ey:rH Tryz.prog 64:=⟨by kernel_rfl,by kernel_rfl,by kernel_rfl⟩
def p93(v1:Nat)(v2:T76):T14:=aj (λ(v3:T3)=>some ((v3.2.1,()),())) (λv4=>bif decide ((v2.1.2.2.1.length:Int)=3)then if(0:Int)<=(0:Int)then(match v2.1.2.2.1[(0:Int).toNat]? with|some v5=>bif !v5.1 then if(0:Int)<=(1:Int)then(match v2.1.2.2.1[(1:Int).toNat]? with|some v6=>bif bif v6.1 == true then decide (v6.2=v2.1.1)else false then if(0:Int)<=(2:Int)then(match v2.1.2.2.1[(2:Int).toNat]? with|some v7=>v4 ((),!v7.1,())|none=>none)else none else v4 ((),false,())|none=>none)else none else v4 ((),false,())|none=>none)else none else v4 ((),false,()))
def F93(n:Nat):Fb 93:=fb n [] [] [] [⟨_,Ey⟩] Tryz.func93 Tryz.results93 Tryz.ntmps93 (.seq (.reg none [1]) (.seq (.reg (some ⟨[],[.val 2 y4],[]⟩) []) .nop)) [(y84,.ro)] A19 [] [] (p93 n)
def p60(v1:Nat)(v2:T91):T12:=if 0<=v2.2.1 then(match v2.1.2.2.1[(v2.2.1).toNat]? with|some v3=>aj (λ(v4:T3)=>bif v4.2.1 then some ((11,()),())else af (p89 v1 (v3.2.1,())) (λ(v5:T6)=>bif !v5.1.1 then some ((8,()),())else bif decide (12<(v3.2.2.1.length:Int))then some ((6,()),())else bif !(decide ((v3.2.2.2.2.2.length:Int)=(if(IntKind.wrap .i64 ((v3.2.2.1.length:Int)-1))<(0:Int)then(0:Int)else IntKind.wrap .i64 ((v3.2.2.1.length:Int)-1))))then some ((1,()),())else if(0:Int)<=(0:Int)/\(0:Int)<=v2.2.1/\v2.2.1<=(v2.1.2.2.1.length:Int)then aq (λ(v6:T2)=>λv7=>bif decide (v6.2.1<((List.length (br v2.1.2.2.1 (0:Int) v2.2.1):Nat):Int))then if 0<=v6.2.1 then(match(br v2.1.2.2.1 (0:Int) v2.2.1)[(v6.2.1).toNat]? with|some v8=>bif decide (v8.2.1=v3.2.1)then some ((9,()),())else v7 ((),IntKind.wrap .i64 (v6.2.1+1),())|none=>none)else none else aq (λ(v9:T2)=>λv10=>bif decide (v9.2.1<(v3.2.2.1.length:Int))then if 0<=v9.2.1 then(match v3.2.2.1[(v9.2.1).toNat]? with|some v11=>af (p92 v1 (v2.1,v11,())) (λ(v12:T6)=>bif !v12.1.1 then some ((11,()),())else v10 ((),IntKind.wrap .i64 (v9.2.1+1),()))|none=>none)else none else aq (λ(v13:T2)=>λv14=>bif decide (v13.2.1<(v3.2.2.2.2.2.length:Int))then if 0<=v13.2.1 then(match v3.2.2.2.2.2[(v13.2.1).toNat]? with|some v15=>aj (λ(v16:T3)=>bif v16.2.1 then some ((1,()),())else v14 ((),IntKind.wrap .i64 (v13.2.1+1),())) (λv17=>bif decide (v15<0)then v17 ((),true,())else v17 ((),decide (3<v15),()))|none=>none)else none else aj (λ(v18:T3)=>bif v18.2.1 then some ((11,()),())else aj (λ(v19:T3)=>bif v19.2.1 then some ((15,()),())else some ((0,()),())) (λv20=>bif v3.2.2.2.1 then af (p93 v1 (v3,())) (λ(v21:T6)=>v20 ((),!v21.1.1,()))else v20 ((),false,()))) (λv22=>bif !(decide (v3.2.2.2.2.1=-1))then bif decide (v3.2.2.2.2.1<0)then v22 ((),true,())else af (p92 v1 (v2.1,(false,v3.2.2.2.2.1),())) (λ(v23:T6)=>v22 ((),!v23.1.1,()))else v22 ((),false,()))) v1 ((),0,())) v1 ((),0,())) v1 ((),0,())else none)) (λv24=>bif decide (v3.1<0)then v24 ((),true,())else v24 ((),decide ((v2.1.2.1.length:Int)<=v3.1),()))|none=>none)else none
def F60(n:Nat):Fb 60:=fb n [⟨_,F89 n⟩,⟨_,F92 n⟩,⟨_,F93 n⟩] [] [] [] Tryz.func60 Tryz.results60 Tryz.ntmps60 (.seq (.reg none [2]) (.seq (.reg none [5]) (.seq (.block none (.seq (.reg (some ⟨[],[.val 17 y4],[1,2,5]⟩) []) .nop)) (.seq (.seq .nop (.block none (.loop ⟨[],[.val 54 y2],[2,5,52,53]⟩ (.seq .nop (.seq .nop (.seq (.block none (.seq (.reg none [7]) .nop)) .nop)))))) (.seq (.seq .nop (.block none (.loop ⟨[],[.val 67 y2],[2,5,65,66]⟩ (.seq .nop (.seq .nop (.seq (.block none (.seq (.reg none [9]) .nop)) .nop)))))) (.seq (.seq .nop (.block none (.loop ⟨[],[.val 79 y2],[2,5,77,78]⟩ (.seq .nop (.seq .nop (.seq (.block none (.seq .nop (.seq (.reg (some ⟨[],[.val 88 y4],[2,5,77,78,79]⟩) []) .nop))) .nop)))))) (.seq (.seq (.reg (some ⟨[],[.val 105 y4],[5]⟩) []) .nop) (.seq (.seq (.reg (some ⟨[],[.val 112 y4],[]⟩) []) .nop) .nop)))))))) A10 A20 [] [] (p60 n)
def p61(v1:Nat)(v2:T90):T43:=aq (λ(v3:T69)=>λv4=>bif decide (v3.2.1<(v2.1.2.2.2.1.length:Int))then if 0<=v3.2.1 then(match v2.1.2.2.2.1[(v3.2.1).toNat]? with|some v5=>aj (λ(v6:(((Int×Int×Int)×(List (Int×Int))×Unit)×Bool×Unit))=>bif v6.2.1 then some (((1,4,v3.2.1),()),())else aq (λ(v7:T69)=>λv8=>bif decide (v7.2.1<(v5.2.length:Int))then if 0<=v7.2.1 then(match v5.2[(v7.2.1).toNat]? with|some v9=>af (p92 v1 (v2.1,(false,v9),())) (λ(v10:T6)=>bif !v10.1.1 then some (((11,4,v3.2.1),()),())else bif decide (0<(bx (λ(v11:Int)=>λ(v12:Int)=>decide (v11=v12)) v9 v7.1.2.1))then some (((9,4,v3.2.1),()),())else v8 ((v7.1.1,dm (λ(v13:Int)=>λ(v14:Int)=>decide (v13=v14)) v9 (IntKind.wrap .i64 ((bx (λ(v15:Int)=>λ(v16:Int)=>decide (v15=v16)) v9 v7.1.2.1)+1)) v7.1.2.1,()),IntKind.wrap .i64 (v7.2.1+1),()))|none=>none)else none else v4 ((v7.1.1,v7.1.2.1,()),IntKind.wrap .i64 (v3.2.1+1),())) v1 ((v6.1.1,v6.1.2.1,()),0,())) (λv17=>bif decide (v5.1<1)then v17 ((v3.1.1,v3.1.2.1,()),true,())else bif decide (3<v5.1)then v17 ((v3.1.1,v3.1.2.1,()),true,())else bif decide ((v5.2.length:Int)=0)then v17 ((v3.1.1,v3.1.2.1,()),true,())else v17 ((v3.1.1,v3.1.2.1,()),decide (60<=v3.2.1),()))|none=>none)else none else some (((0,0,0),()),())) v1 (((0,0,0),([]:List (Int×Int)),()),0,())
def F61(n:Nat):Fb 61:=fb n [⟨_,F92 n⟩] [] [] [] Tryz.func61 Tryz.results61 Tryz.ntmps61 (.seq (.reg none [1]) (.seq .nop (.seq (.seq .nop (.block none (.loop ⟨[(16,.box y89,.own (.pr .ro (.pr .ro .ro))),(64,D2,.own .ro)],[.val 12 y2],[1,2,3,10,11]⟩ (.seq .nop (.seq .nop (.seq (.block none (.seq (.reg none [5]) (.seq (.seq (.reg (some ⟨[(16,.box y89,.own (.pr .ro (.pr .ro .ro))),(64,D2,.own .ro)],[.val 34 y4],[1,2,3,4,5,10,11,12]⟩) []) .nop) (.seq .nop (.block none (.loop ⟨[(16,.box y89,.own (.pr .ro (.pr .ro .ro))),(64,D2,.own .ro)],[.val 40 y2],[1,2,3,4,10,11,12,38,39]⟩ .nop)))))) .nop)))))) (.seq (.reg none [2]) .nop)))) A16 [(y89,.ro)] [] [] (p61 n)
def p31(v1:Nat)(v2:T90):T43:=af (p58 v1 (v2.1.1,())) (λ(v3:T9)=>bif !(decide (v3.1.2.1=0))then some (((v3.1.2.1,1,v3.1.1),()),())else af (p59 v1 (v2.1,())) (λ(v4:T26)=>bif !(decide (v4.1.1.1=0))then some ((v4.1.1,()),())else bif decide (200<(v2.1.2.2.1.length:Int))then some (((6,3,(v2.1.2.2.1.length:Int)),()),())else aq (λ(v5:T38)=>λv6=>bif decide (v5.2.1<(v2.1.2.2.1.length:Int))then af (p60 v1 (v2.1,v5.2.1,())) (λ(v7:T5)=>bif !(decide (v7.1.1=0))then some (((v7.1.1,3,v5.2.1),()),())else v6 ((v5.1.1,()),IntKind.wrap .i64 (v5.2.1+1),()))else af (p61 v1 (v2.1,())) (λ(v8:T26)=>bif !(decide (v8.1.1.1=0))then some ((v8.1.1,()),())else aj (λ(v9:T42)=>bif v9.2.1 then some (((11,5,0),()),())else some (((0,0,0),()),())) (λv10=>bif decide (v2.1.2.2.2.2<0)then v10 ((v5.1.1,()),true,())else v10 ((v5.1.1,()),decide ((v2.1.2.1.length:Int)<=v2.1.2.2.2.2),())))) v1 (((0,0,0),()),0,())))
def F31(n:Nat):Fb 31:=fb n [⟨_,F58 n⟩,⟨_,F59 n⟩,⟨_,F60 n⟩,⟨_,F61 n⟩] [] [] [] Tryz.func31 Tryz.results31 Tryz.ntmps31 (.seq (.reg none [1]) (.seq .nop (.seq (.seq (.reg none [5]) .nop) (.seq .nop (.seq (.seq .nop (.block none (.loop ⟨[(16,.box y89,.own (.pr .ro (.pr .ro .ro)))],[.val 37 y2],[1,2,36]⟩ .nop))) (.seq (.seq (.reg none [8]) .nop) (.seq (.seq (.reg (some ⟨[(16,.box y89,.own (.pr .ro (.pr .ro .ro)))],[.val 65 y4],[2]⟩) []) .nop) (.seq (.reg none [2]) .nop)))))))) A16 [(y89,.ro)] [] [] (p31 n)
def p99(v1:Nat)(v2:T1):T12:=af (tf v1 (([32,9,10,13]:List Int),v2.1,())) (λ(v3:T6)=>bif v3.1.1 then some ((1,()),())else af (tf v1 (([48,49,50,51,52,53,54,55,56,57]:List Int),v2.1,())) (λ(v4:T6)=>bif v4.1.1 then some ((2,()),())else aj (λ(v5:T3)=>bif v5.2.1 then some ((3,()),())else aj (λ(v6:T3)=>bif v6.2.1 then some ((4,()),())else some ((0,()),())) (λv7=>bif decide (32<v2.1)then v7 ((),decide (v2.1<127),())else v7 ((),false,()))) (λv8=>af (BE v1 (v2.1,())) (λ(v9:T6)=>bif v9.1.1 then v8 ((),true,())else v8 ((),decide (v2.1=95),())))))
def F99(n:Nat):Fb 99:=fb n [⟨_,F113 n⟩,⟨_,F114 n⟩] [] [] [] Tryz.func99 Tryz.results99 Tryz.ntmps99 (.seq .nop (.seq (.block none (.seq .nop (.cond none .nop (.seq .nop (.cond none .nop (.seq (.reg (some ⟨[],[.val 9 y4],[0]⟩) []) (.cond none .nop (.seq (.reg (some ⟨[],[.val 16 y4],[]⟩) []) .nop)))))))) .nop)) [(y5,.ro)] A20 [] [] (p99 n)
def p67(v1:Nat)(v2:T4):T14:=aq (λ(v3:T2)=>λv4=>bif decide (v3.2.1<(v2.1.length:Int))then if 0<=v3.2.1 then(match v2.1[(v3.2.1).toNat]? with|some v5=>af (p99 v1 (v5,())) (λ(v6:T5)=>aj (λ(v7:T3)=>bif v7.2.1 then some ((false,()),())else v4 ((),IntKind.wrap .i64 (v3.2.1+1),())) (λv8=>bif !(decide (v6.1.1=3))then bif !(decide (v6.1.1=2))then v8 ((),true,())else v8 ((),decide (v3.2.1=0),())else v8 ((),false,())))|none=>none)else none else aj (λ(v9:T3)=>some ((v9.2.1,()),())) (λv10=>bif decide (1<=(v2.1.length:Int))then v10 ((),decide ((v2.1.length:Int)<=40),())else v10 ((),false,()))) v1 ((),0,())
def F67(n:Nat):Fb 67:=fb n [⟨_,F99 n⟩] [] [] [] Tryz.func67 Tryz.results67 Tryz.ntmps67 (.seq .nop (.seq (.seq .nop (.block none (.loop ⟨[],[.val 3 y2],[0]⟩ (.seq .nop (.seq (.block none (.seq .nop (.seq (.reg (some ⟨[],[.val 24 y4],[0,3]⟩) []) .nop))) .nop))))) (.seq (.reg (some ⟨[],[.val 2 y4],[]⟩) []) .nop))) A21 A19 [] [] (p67 n)
def p66(v1:Nat)(v2:((List ((List Int)×Int×(List Int)))×Int×Unit)):T12:=if 0<=v2.2.1 then(match v2.1[(v2.2.1).toNat]? with|some v3=>af (p67 v1 (v3.1,())) (λ(v4:T6)=>bif !v4.1.1 then some ((8,()),())else aq (λ(v5:T2)=>λv6=>bif decide (v5.2.1<v2.2.1)then if 0<=v5.2.1 then(match v2.1[(v5.2.1).toNat]? with|some v7=>bif decide (v7.1=v3.1)then some ((9,()),())else v6 ((),IntKind.wrap .i64 (v5.2.1+1),())|none=>none)else none else aj (λ(v8:T3)=>bif v8.2.1 then some ((1,()),())else af (p97 v1 (v3.2.2,())) (λ(v9:T62)=>bif !(decide (v9.1.2.1=0))then some ((v9.1.2.1,()),())else af (p98 v1 (v9.1.1,([]:List Int),())) (λ(v10:T6)=>bif v10.1.1 then some ((14,()),())else some ((0,()),())))) (λv11=>bif decide (v3.2.1<0)then v11 ((),true,())else v11 ((),decide (2<v3.2.1),()))) v1 ((),0,()))|none=>none)else none
def F66(n:Nat):Fb 66:=fb n [⟨_,F67 n⟩,⟨_,F97 n⟩,⟨_,F98 n⟩] [41] [] [] Tryz.func66 Tryz.results66 Tryz.ntmps66 (.seq .nop (.seq (.reg none [5]) (.seq .nop (.seq (.seq .nop (.block none (.loop ⟨[],[.val 6 y2],[0,1,5]⟩ .nop))) (.seq (.seq (.reg (some ⟨[],[.val 37 y4],[5]⟩) []) .nop) .nop))))) [(y22,.ro),(y2,.ro)] A20 [] [] (p66 n)
def p35(v1:Nat)(v2:T59):T25:=bif decide (60<(v2.1.length:Int))then some (((v2.1.length:Int),6,()),())else aq (λ(v3:T2)=>λv4=>bif decide (v3.2.1<(v2.1.length:Int))then af (p66 v1 (v2.1,v3.2.1,())) (λ(v5:T5)=>bif !(decide (v5.1.1=0))then some ((v3.2.1,v5.1.1,()),())else v4 ((),IntKind.wrap .i64 (v3.2.1+1),()))else some (((v2.1.length:Int),0,()),())) v1 ((),0,())
def F35(n:Nat):Fb 35:=fb n [⟨_,F66 n⟩] [] [] [] Tryz.func35 Tryz.results35 Tryz.ntmps35 (.seq .nop (.seq .nop (.seq (.seq .nop (.block none (.loop ⟨[],[.val 4 y2],[0]⟩ .nop))) .nop))) [(y22,.ro)] A12 [] [] (p35 n)
def p36(v1:Nat)(v2:T91):T12:=if 0<=v2.2.1 then(match v2.1.2.1[(v2.2.1).toNat]? with|some v3=>af (p67 v1 (v3,())) (λ(v4:T6)=>bif !v4.1.1 then some ((8,()),())else aq (λ(v5:T2)=>λv6=>bif decide (v5.2.1<v2.2.1)then if 0<=v5.2.1 then(match v2.1.2.1[(v5.2.1).toNat]? with|some v7=>if 0<=v2.2.1 then(match v2.1.2.1[(v2.2.1).toNat]? with|some v8=>bif decide (v7=v8)then some ((9,()),())else v6 ((),IntKind.wrap .i64 (v5.2.1+1),())|none=>none)else none|none=>none)else none else aq (λ(v9:T2)=>λv10=>bif decide (v9.2.1<(v2.1.1.length:Int))then if 0<=v9.2.1 then(match v2.1.1[(v9.2.1).toNat]? with|some v11=>if 0<=v2.2.1 then(match v2.1.2.1[(v2.2.1).toNat]? with|some v12=>bif decide (v11.1=v12)then some ((9,()),())else v10 ((),IntKind.wrap .i64 (v9.2.1+1),())|none=>none)else none|none=>none)else none else some ((0,()),())) v1 ((),0,())) v1 ((),0,()))|none=>none)else none
def F36(n:Nat):Fb 36:=fb n [⟨_,F67 n⟩] [] [] [] Tryz.func36 Tryz.results36 Tryz.ntmps36 (.seq (.reg none [2]) (.seq .nop (.seq (.seq .nop (.block none (.loop ⟨[],[.val 5 y2],[1,2]⟩ .nop))) (.seq (.seq .nop (.block none (.loop ⟨[],[.val 6 y2],[1,2]⟩ .nop))) .nop)))) A10 A20 [] [] (p36 n)
def p68(v1:Nat)(v2:T92):T14:=bif v2.2.1.1 then aj (λ(v3:T3)=>some ((v3.2.1,()),())) (λv4=>bif decide (0<=v2.2.1.2)then v4 ((),decide (v2.2.1.2<(v2.1.2.1.length:Int)),())else v4 ((),false,()))else aj (λ(v5:T3)=>some ((v5.2.1,()),())) (λv6=>bif decide (0<=v2.2.1.2)then bif decide (v2.2.1.2<(v2.1.1.length:Int))then if 0<=v2.2.1.2 then(match v2.1.1[(v2.2.1.2).toNat]? with|some v7=>v6 ((),decide (v7.2.1=0),())|none=>none)else none else v6 ((),false,())else v6 ((),false,()))
def F68(n:Nat):Fb 68:=fb n [] [] [] [] Tryz.func68 Tryz.results68 Tryz.ntmps68 (.seq (.reg none [2,3]) (.seq (.seq .nop (.cond none (.seq (.reg (some ⟨[],[.val 4 y4],[]⟩) []) .nop) .nop)) (.seq (.reg (some ⟨[],[.val 4 y4],[]⟩) []) .nop))) [(y26,.ro),(y63,.ro)] A19 [] [] (p68 n)
def p69(v1:Nat)(v2:T76):T14:=aj (λ(v3:T3)=>some ((v3.2.1,()),())) (λv4=>bif decide ((v2.1.2.2.1.length:Int)=3)then if(0:Int)<=(0:Int)then(match v2.1.2.2.1[(0:Int).toNat]? with|some v5=>bif !v5.1 then if(0:Int)<=(1:Int)then(match v2.1.2.2.1[(1:Int).toNat]? with|some v6=>bif v6.1 then if(0:Int)<=(1:Int)then(match v2.1.2.2.1[(1:Int).toNat]? with|some v7=>bif decide (v7.2=v2.1.1)then if(0:Int)<=(2:Int)then(match v2.1.2.2.1[(2:Int).toNat]? with|some v8=>v4 ((),!v8.1,())|none=>none)else none else v4 ((),false,())|none=>none)else none else v4 ((),false,())|none=>none)else none else v4 ((),false,())|none=>none)else none else v4 ((),false,()))
def F69(n:Nat):Fb 69:=fb n [] [] [] [] Tryz.func69 Tryz.results69 Tryz.ntmps69 (.seq (.reg none [1]) (.seq (.reg (some ⟨[],[.val 2 y4],[]⟩) []) .nop)) [(y84,.ro)] A19 [] [] (p69 n)
def p37(v1:Nat)(v2:T91):T12:=if 0<=v2.2.1 then(match v2.1.2.2.1[(v2.2.1).toNat]? with|some v3=>aj (λ(v4:T3)=>bif v4.2.1 then some ((11,()),())else af (p67 v1 (v3.2.1,())) (λ(v5:T6)=>bif !v5.1.1 then some ((8,()),())else bif decide (12<(v3.2.2.1.length:Int))then some ((6,()),())else bif !(decide ((v3.2.2.2.2.2.length:Int)=(if 0<(IntKind.wrap .i64 ((v3.2.2.1.length:Int)-1))then IntKind.wrap .i64 ((v3.2.2.1.length:Int)-1)else(0:Int))))then some ((1,()),())else aq (λ(v6:T2)=>λv7=>bif decide (v6.2.1<v2.2.1)then if 0<=v6.2.1 then(match v2.1.2.2.1[(v6.2.1).toNat]? with|some v8=>bif decide (v8.2.1=v3.2.1)then some ((9,()),())else v7 ((),IntKind.wrap .i64 (v6.2.1+1),())|none=>none)else none else aq (λ(v9:T2)=>λv10=>bif decide (v9.2.1<(v3.2.2.1.length:Int))then if 0<=v9.2.1 then(match v3.2.2.1[(v9.2.1).toNat]? with|some v11=>af (p68 v1 (v2.1,v11,())) (λ(v12:T6)=>bif !v12.1.1 then some ((11,()),())else v10 ((),IntKind.wrap .i64 (v9.2.1+1),()))|none=>none)else none else aq (λ(v13:T2)=>λv14=>bif decide (v13.2.1<(v3.2.2.2.2.2.length:Int))then aj (λ(v15:T3)=>bif v15.2.1 then some ((1,()),())else v14 ((),IntKind.wrap .i64 (v13.2.1+1),())) (λv16=>if 0<=v13.2.1 then(match v3.2.2.2.2.2[(v13.2.1).toNat]? with|some v17=>bif decide (v17<0)then v16 ((),true,())else if 0<=v13.2.1 then(match v3.2.2.2.2.2[(v13.2.1).toNat]? with|some v18=>v16 ((),decide (3<v18),())|none=>none)else none|none=>none)else none)else aj (λ(v19:T3)=>bif v19.2.1 then some ((11,()),())else aj (λ(v20:T3)=>bif v20.2.1 then some ((15,()),())else some ((0,()),())) (λv21=>bif v3.2.2.2.1 then af (p69 v1 (v3,())) (λ(v22:T6)=>v21 ((),!v22.1.1,()))else v21 ((),false,()))) (λv23=>bif !(decide (v3.2.2.2.2.1=-1))then af (p68 v1 (v2.1,(false,v3.2.2.2.2.1),())) (λ(v24:T6)=>v23 ((),!v24.1.1,()))else v23 ((),false,()))) v1 ((),0,())) v1 ((),0,())) v1 ((),0,()))) (λv25=>bif decide (v3.1<0)then v25 ((),true,())else v25 ((),decide ((v2.1.2.1.length:Int)<=v3.1),()))|none=>none)else none
def F37(n:Nat):Fb 37:=fb n [⟨_,F67 n⟩,⟨_,F68 n⟩,⟨_,F69 n⟩] [] [] [] Tryz.func37 Tryz.results37 Tryz.ntmps37 (.seq (.reg none [2]) (.seq (.reg none [5]) (.seq (.seq (.reg (some ⟨[],[.val 24 y4],[1,2,5]⟩) []) .nop) (.seq .nop (.seq .nop (.seq .nop (.seq (.seq .nop (.block none (.loop ⟨[],[.val 6 y2],[1,2,5]⟩ .nop))) (.seq (.seq .nop (.block none (.loop ⟨[],[.val 7 y2],[2,5]⟩ .nop))) (.seq (.seq .nop (.block none (.loop ⟨[],[.val 8 y2],[2,5]⟩ (.seq .nop (.seq (.block none (.seq (.reg (some ⟨[],[.val 91 y4],[2,5,8]⟩) []) .nop)) .nop))))) (.seq (.seq (.reg (some ⟨[],[.val 102 y4],[5]⟩) []) .nop) (.seq (.seq (.reg (some ⟨[],[.val 109 y4],[]⟩) []) .nop) .nop))))))))))) A10 A20 [] [] (p37 n)
def p70(v1:Nat)(v2:(((List ((List Int)×Int×(List Int)))×(List (List Int))×(List (Int×(List Int)×(List (Bool×Int))×Bool×Int×(List Int)))×(List (Int×(List Int)))×Int)×Int×Int×Unit)):T14:=aq (λ(v3:T2)=>λv4=>bif decide (v3.2.1<=v2.2.1)then aq (λ(v5:T2)=>λv6=>if 0<=v3.2.1 then(match v2.1.2.2.2.1[(v3.2.1).toNat]? with|some v7=>bif decide (v5.2.1<(v7.2.length:Int))then aj (λ(v8:T3)=>bif v8.2.1 then some ((false,()),())else if 0<=v3.2.1 then(match v2.1.2.2.2.1[(v3.2.1).toNat]? with|some v9=>if 0<=v5.2.1 then(match v9.2[(v5.2.1).toNat]? with|some v10=>if 0<=v2.2.1 then(match v2.1.2.2.2.1[(v2.2.1).toNat]? with|some v11=>if 0<=v2.2.2.1 then(match v11.2[(v2.2.2.1).toNat]? with|some v12=>bif decide (v10=v12)then some ((true,()),())else v6 ((),IntKind.wrap .i64 (v5.2.1+1),())|none=>none)else none|none=>none)else none|none=>none)else none|none=>none)else none) (λv13=>bif decide (v3.2.1=v2.2.1)then v13 ((),decide (v2.2.2.1<=v5.2.1),())else v13 ((),false,()))else v4 ((),IntKind.wrap .i64 (v3.2.1+1),())|none=>none)else none) v1 ((),0,())else some ((false,()),())) v1 ((),0,())
def F70(n:Nat):Fb 70:=fb n [] [] [] [] Tryz.func70 Tryz.results70 Tryz.ntmps70 (.seq (.reg none [3]) (.seq (.seq .nop (.block none (.loop ⟨[],[.val 7 y2],[1,2,3]⟩ (.seq .nop (.seq (.block none (.seq .nop (.block none (.loop ⟨[],[.val 8 y2],[1,2,3,7]⟩ (.seq .nop (.seq (.block none (.seq (.seq (.reg (some ⟨[],[.val 32 y4],[1,2,3,7,8]⟩) []) .nop) .nop)) .nop)))))) .nop))))) .nop)) [(y26,.ro),(y2,.ro),(y2,.ro)] A19 [] [] (p70 n)
def p38(v1:Nat)(v2:T91):T12:=if 0<=v2.2.1 then(match v2.1.2.2.2.1[(v2.2.1).toNat]? with|some v3=>aj (λ(v4:T3)=>bif v4.2.1 then some ((1,()),())else aq (λ(v5:T2)=>λv6=>bif decide (v5.2.1<(v3.2.length:Int))then if 0<=v5.2.1 then(match v3.2[(v5.2.1).toNat]? with|some v7=>af (p68 v1 (v2.1,(false,v7),())) (λ(v8:T6)=>bif !v8.1.1 then some ((11,()),())else af (p70 v1 (v2.1,v2.2.1,v5.2.1,())) (λ(v9:T6)=>bif v9.1.1 then some ((9,()),())else v6 ((),IntKind.wrap .i64 (v5.2.1+1),())))|none=>none)else none else some ((0,()),())) v1 ((),0,())) (λv10=>bif decide (v3.1<1)then v10 ((),true,())else bif decide (3<v3.1)then v10 ((),true,())else bif decide ((v3.2.length:Int)=0)then v10 ((),true,())else v10 ((),decide (60<=v2.2.1),()))|none=>none)else none
def F38(n:Nat):Fb 38:=fb n [⟨_,F68 n⟩,⟨_,F70 n⟩] [] [] [] Tryz.func38 Tryz.results38 Tryz.ntmps38 (.seq (.reg none [2]) (.seq (.reg none [5]) (.seq (.seq (.reg (some ⟨[],[.val 29 y4],[1,2,5]⟩) []) .nop) (.seq (.seq .nop (.block none (.loop ⟨[],[.val 6 y2],[1,2,5]⟩ .nop))) .nop)))) A10 A20 [] [] (p38 n)
def p13(v1:Nat)(v2:T90):Option ((Int×Int×Int×Unit)×Unit):=af (p35 v1 (v2.1.1,())) (λ(v3:T9)=>bif !(decide (v3.1.2.1=0))then some ((v3.1.2.1,1,v3.1.1,()),())else bif decide (300<(v2.1.2.1.length:Int))then some ((6,2,(v2.1.2.1.length:Int),()),())else aq (λ(v4:T2)=>λv5=>bif decide (v4.2.1<(v2.1.2.1.length:Int))then af (p36 v1 (v2.1,v4.2.1,())) (λ(v6:T5)=>bif !(decide (v6.1.1=0))then some ((v6.1.1,2,v4.2.1,()),())else v5 ((),IntKind.wrap .i64 (v4.2.1+1),()))else bif decide (200<(v2.1.2.2.1.length:Int))then some ((6,3,(v2.1.2.2.1.length:Int),()),())else aq (λ(v7:T2)=>λv8=>bif decide (v7.2.1<(v2.1.2.2.1.length:Int))then af (p37 v1 (v2.1,v7.2.1,())) (λ(v9:T5)=>bif !(decide (v9.1.1=0))then some ((v9.1.1,3,v7.2.1,()),())else v8 ((),IntKind.wrap .i64 (v7.2.1+1),()))else aq (λ(v10:T2)=>λv11=>bif decide (v10.2.1<(v2.1.2.2.2.1.length:Int))then af (p38 v1 (v2.1,v10.2.1,())) (λ(v12:T5)=>bif !(decide (v12.1.1=0))then some ((v12.1.1,4,v10.2.1,()),())else v11 ((),IntKind.wrap .i64 (v10.2.1+1),()))else aj (λ(v13:T3)=>bif v13.2.1 then some ((11,5,0,()),())else some ((0,0,0,()),())) (λv14=>bif decide (v2.1.2.2.2.2<0)then v14 ((),true,())else v14 ((),decide ((v2.1.2.1.length:Int)<=v2.1.2.2.2.2),()))) v1 ((),0,())) v1 ((),0,())) v1 ((),0,()))
def F13(n:Nat):Fb 13:=fb n [⟨_,F35 n⟩,⟨_,F36 n⟩,⟨_,F37 n⟩,⟨_,F38 n⟩] [] [] [] Tryz.func13 Tryz.results13 Tryz.ntmps13 (.seq (.reg none [1]) (.seq .nop (.seq .nop (.seq (.seq .nop (.block none (.loop ⟨[],[.val 7 y2],[1]⟩ .nop))) (.seq .nop (.seq (.seq .nop (.block none (.loop ⟨[],[.val 9 y2],[1]⟩ .nop))) (.seq (.seq .nop (.block none (.loop ⟨[],[.val 11 y2],[1]⟩ .nop))) (.seq (.seq (.reg (some ⟨[],[.val 89 y4],[]⟩) []) .nop) .nop)))))))) A16 [(y2,.ro),(y2,.ro),(y2,.ro)] [] [] (p13 n)
def p30(v1:Nat)(v2:T59):T14:=bif decide (20<(v2.1.length:Int))then some ((false,()),())else aq (λ(v3:T2)=>λv4=>bif decide (v3.2.1<(v2.1.length:Int))then aj (λ(v5:T3)=>bif v5.2.1 then some ((false,()),())else v4 ((),IntKind.wrap .i64 (v3.2.1+1),())) (λv6=>if 0<=v3.2.1 then(match v2.1[(v3.2.1).toNat]? with|some v7=>bif decide (40<(v7.2.2.length:Int))then v6 ((),true,())else if 0<=v3.2.1 then(match v2.1[(v3.2.1).toNat]? with|some v8=>v6 ((),decide (100<(v8.1.length:Int)),())|none=>none)else none|none=>none)else none)else some ((true,()),())) v1 ((),0,())
def F30(n:Nat):Fb 30:=fb n [] [] [] [] Tryz.func30 Tryz.results30 Tryz.ntmps30 (.seq .nop (.seq .nop (.seq (.seq .nop (.block none (.loop ⟨[],[.val 3 y2],[0]⟩ (.seq .nop (.seq (.block none (.seq (.reg (some ⟨[],[.val 28 y4],[0,3]⟩) []) .nop)) .nop))))) .nop))) [(y22,.ro)] A19 [] [] (p30 n)
def p8(v1:Nat)(v2:T90):T14:=aj (λ(v3:T3)=>bif v3.2.1 then some ((false,()),())else aq (λ(v4:T2)=>λv5=>bif decide (v4.2.1<(v2.1.2.1.length:Int))then if 0<=v4.2.1 then(match v2.1.2.1[(v4.2.1).toNat]? with|some v6=>bif decide (100<(v6.length:Int))then some ((false,()),())else v5 ((),IntKind.wrap .i64 (v4.2.1+1),())|none=>none)else none else aq (λ(v7:T2)=>λv8=>bif decide (v7.2.1<(v2.1.2.2.1.length:Int))then aj (λ(v9:T3)=>bif v9.2.1 then some ((false,()),())else v8 ((),IntKind.wrap .i64 (v7.2.1+1),())) (λv10=>if 0<=v7.2.1 then(match v2.1.2.2.1[(v7.2.1).toNat]? with|some v11=>bif decide (20<(v11.2.2.1.length:Int))then v10 ((),true,())else if 0<=v7.2.1 then(match v2.1.2.2.1[(v7.2.1).toNat]? with|some v12=>bif decide (20<(v12.2.2.2.2.2.length:Int))then v10 ((),true,())else if 0<=v7.2.1 then(match v2.1.2.2.1[(v7.2.1).toNat]? with|some v13=>v10 ((),decide (100<(v13.2.1.length:Int)),())|none=>none)else none|none=>none)else none|none=>none)else none)else aq (λ(v14:T2)=>λv15=>bif decide (v14.2.1<(v2.1.2.2.2.1.length:Int))then if 0<=v14.2.1 then(match v2.1.2.2.2.1[(v14.2.1).toNat]? with|some v16=>bif decide (20<(v16.2.length:Int))then some ((false,()),())else v15 ((),IntKind.wrap .i64 (v14.2.1+1),())|none=>none)else none else some ((true,()),())) v1 ((),0,())) v1 ((),0,())) v1 ((),0,())) (λv17=>af (p30 v1 (v2.1.1,())) (λ(v18:T6)=>bif !v18.1.1 then v17 ((),true,())else bif decide (20<(v2.1.2.1.length:Int))then v17 ((),true,())else bif decide (40<(v2.1.2.2.1.length:Int))then v17 ((),true,())else v17 ((),decide (20<(v2.1.2.2.2.1.length:Int)),())))
def F8(n:Nat):Fb 8:=fb n [⟨_,F30 n⟩] [] [] [] Tryz.func8 Tryz.results8 Tryz.ntmps8 (.seq (.reg none [1]) (.seq (.seq (.reg (some ⟨[],[.val 27 y4],[1]⟩) []) .nop) (.seq (.seq .nop (.block none (.loop ⟨[],[.val 3 y2],[1]⟩ .nop))) (.seq (.seq .nop (.block none (.loop ⟨[],[.val 4 y2],[1]⟩ (.seq .nop (.seq (.block none (.seq (.reg (some ⟨[],[.val 76 y4],[1,4]⟩) []) .nop)) .nop))))) (.seq (.seq .nop (.block none (.loop ⟨[],[.val 5 y2],[1]⟩ .nop))) .nop))))) A16 A19 [] [] (p8 n)
def p9(v1:Nat)(v2:T90):T14:=aq (λ(v3:T2)=>λv4=>bif decide (v3.2.1<(v2.1.1.length:Int))then if 0<=v3.2.1 then(match v2.1.1[(v3.2.1).toNat]? with|some v5=>bif decide (12<(v5.2.2.length:Int))then some ((false,()),())else v4 ((),IntKind.wrap .i64 (v3.2.1+1),())|none=>none)else none else some ((true,()),())) v1 ((),0,())
def F9(n:Nat):Fb 9:=fb n [] [] [] [] Tryz.func9 Tryz.results9 Tryz.ntmps9 (.seq (.reg none [1]) (.seq (.seq .nop (.block none (.loop ⟨[],[.val 3 y2],[1]⟩ .nop))) .nop)) A16 A19 [] [] (p9 n)
end
noncomputable section
def p80(v1:Nat)(v2:T1):T12:=aj (λ(v3:T3)=>bif v3.2.1 then some ((0,()),())else if(IntKind.wrap .u64 v2.1)<0 then none else some ((IntKind.wrap .u64 ((1:Int)*2 ^ (Nat.min (Int.toNat (IntKind.wrap .u64 v2.1)) (IntKind.bits .u64))),()),())) (λv4=>bif decide (v2.1<0)then v4 ((),true,())else v4 ((),decide (63<v2.1),()))
def F80(n:Nat):Fb 80:=fb n [] [] [] [] Tryz.func80 Tryz.results80 Tryz.ntmps80 (.seq .nop (.seq (.seq (.reg (some ⟨[],[.val 8 y4],[0]⟩) []) .nop) .nop)) A20 A17 [] [] (p80 n)
def p73(v1:Nat)(v2:(((List Bool)×(List Int))×(List (Bool×Int))×Unit)):T31:=aq (λ(v3:T7)=>λv4=>bif decide (v3.2.2.1<(v2.2.1.length:Int))then if 0<=v3.2.2.1 then(match v2.2.1[(v3.2.2.1).toNat]? with|some v5=>bif !v5.1 then af (p80 v1 (v5.2,())) (λ(v6:T5)=>some ((bF .or .u64 v3.2.1 v6.1.1,false,()),()))else aj (λ(v7:T3)=>bif v7.2.1 then some ((v3.2.1,false,()),())else if 0<=v5.2 then(match v2.1.2[(v5.2).toNat]? with|some v8=>if 0<=v5.2 then(match v2.1.1[(v5.2).toNat]? with|some v9=>bif !v9 then some ((bF .or .u64 v3.2.1 v8,false,()),())else v4 ((),bF .or .u64 v3.2.1 v8,IntKind.wrap .i64 (v3.2.2.1+1),())|none=>none)else none|none=>none)else none) (λv10=>bif decide (v5.2<0)then v10 ((),true,())else bif decide ((v2.1.1.length:Int)<=v5.2)then v10 ((),true,())else v10 ((),decide ((v2.1.2.length:Int)<=v5.2),()))|none=>none)else none else some ((v3.2.1,true,()),())) v1 ((),0,0,())
def F73(n:Nat):Fb 73:=fb n [⟨_,F80 n⟩] [] [] [] Tryz.func73 Tryz.results73 Tryz.ntmps73 (.seq (.reg none [2]) (.seq .nop (.seq (.seq .nop (.block none (.loop ⟨[],[.val 6 y12,.val 11 y2],[2,9,10]⟩ (.seq .nop (.seq .nop (.seq (.block none (.seq (.reg none [8]) (.seq (.block none (.seq .nop (.cond none .nop (.seq (.reg (some ⟨[],[.val 24 y4],[2,6,8,9,10,11]⟩) []) .nop)))) .nop))) .nop)))))) .nop))) [(im,.ro),(y62,.ro)] [(y12,.ro),(y4,.ro)] [] [] (p73 n)
def p44(v1:Nat)(v2:T90):Option ((((List Bool)×(List Int))×Unit)×Unit):=if 0<=(v2.1.2.1.length:Int)/\(v2.1.2.1.length:Int)<=(v2.1.2.1.length:Int)then if(v2.1.2.1.length:Int).toNat*1<=140737488355328 then if 0<=(v2.1.2.1.length:Int)/\(v2.1.2.1.length:Int)<=(v2.1.2.1.length:Int)then if(v2.1.2.1.length:Int).toNat*8<=140737488355328 then aq (λ(v3:T82)=>λv4=>bif v3.2.1 then aq (λ(v5:((((List Bool)×(List Int))×((List Bool)×(List Int))×Unit)×Bool×Int×Unit))=>λv6=>bif decide (v5.2.2.1<(v2.1.2.2.1.length:Int))then aj (λ(v7:T82)=>v6 ((v7.1.1,v7.1.2.1,()),v7.2.1,IntKind.wrap .i64 (v5.2.2.1+1),())) (λv8=>if 0<=v5.2.2.1 then(match v2.1.2.2.1[(v5.2.2.1).toNat]? with|some v9=>aj (λ(v10:T82)=>bif v10.2.1 then v8 ((v10.1.1,v10.1.2.1,()),v5.2.1,())else af (p73 v1 (v10.1.2.1,v9.2.2.1,())) (λ(v11:T11)=>aj (λ(v12:T82)=>aj (λ(v13:T82)=>v8 ((v13.1.1,v13.1.2.1,()),v13.2.1,())) (λv14=>bif v12.2.1 then if 0<=v9.1 then(match v12.1.2.1.2[(v9.1).toNat]? with|some v15=>if 0<=v9.1 then(match v12.1.2.1.2[(v9.1).toNat]? with|some v16=>if 0<=v9.1 then(match v12.1.2.1.2[(v9.1).toNat]? with|some v17=>aj (λ(v18:((((List Bool)×(List Int))×((List Bool)×(List Int))×Unit)×Unit))=>v14 ((v18.1.1,v18.1.2.1,()),true,())) (λv19=>if 0<=v9.1 then(match v12.1.2.1.1[(v9.1).toNat]? with|some v20=>bif v20 then if 0<=v9.1 then(match v12.1.2.1.1[(v9.1).toNat]? with|some v21=>if 0<=v9.1 then(match v12.1.2.1.1[(v9.1).toNat]? with|some v22=>v19 ((v12.1.1,(List.set v12.1.2.1.1 (v9.1).toNat true,List.set v12.1.2.1.2 (v9.1).toNat (bF .or .u64 v15 v11.1.1)),()),())|none=>none)else none|none=>none)else none else if 0<=v9.1 then(match v12.1.2.1.1[(v9.1).toNat]? with|some v23=>if 0<=v9.1 then(match v12.1.2.1.1[(v9.1).toNat]? with|some v24=>v19 ((v12.1.1,(List.set v12.1.2.1.1 (v9.1).toNat v11.1.2.1,List.set v12.1.2.1.2 (v9.1).toNat (bF .or .u64 v15 v11.1.1)),()),())|none=>none)else none|none=>none)else none|none=>none)else none)|none=>none)else none|none=>none)else none|none=>none)else none else v14 ((v12.1.1,v12.1.2.1,()),v5.2.1,()))) (λv25=>if 0<=v9.1 then(match v10.1.2.1.2[(v9.1).toNat]? with|some v26=>if 0<=v9.1 then(match v10.1.2.1.2[(v9.1).toNat]? with|some v27=>bif !(decide ((bF .or .u64 v26 v11.1.1)=v27))then v25 ((v10.1.1,v10.1.2.1,()),true,())else bif v11.1.2.1 then if 0<=v9.1 then(match v10.1.2.1.1[(v9.1).toNat]? with|some v28=>v25 ((v10.1.1,v10.1.2.1,()),!v28,())|none=>none)else none else v25 ((v10.1.1,v10.1.2.1,()),false,())|none=>none)else none|none=>none)else none))) (λv29=>bif decide (v9.1<0)then v29 ((v5.1.1,v5.1.2.1,()),true,())else v29 ((v5.1.1,v5.1.2.1,()),decide ((v2.1.2.1.length:Int)<=v9.1),()))|none=>none)else none)else v4 ((v5.1.1,v5.1.2.1,()),v5.2.1,())) v1 ((v3.1.1,v3.1.2.1,()),false,0,())else some ((v3.1.2.1,()),())) v1 (((([]:List Bool),([]:List Int)),(List.replicate (v2.1.2.1.length:Int).toNat false,List.replicate (v2.1.2.1.length:Int).toNat (0:Int)),()),true,())else none else none else none else none
def F44(n:Nat):Fb 44:=fb n [⟨_,F73 n⟩] [17] [] [] Tryz.func44 Tryz.results44 Tryz.ntmps44 (.seq (.reg none [1]) (.seq .nop (.seq (.seq .nop (.block none (.loop ⟨[(16,.box im,.own (.pr (.own .ro) (.own .ro))),(24,.box im,.own (.pr (.own .ro) (.own .ro)))],[.val 4 y4],[1,2,3]⟩ (.seq .nop (.block none (.seq .nop (.seq .nop (.block none (.loop ⟨[(16,.box im,.own (.pr (.own .ro) (.own .ro))),(24,.box im,.own (.pr (.own .ro) (.own .ro)))],[.val 4 y4,.val 22 y2],[1,2,3,20,21]⟩ (.seq .nop (.seq .nop (.seq (.block (some ⟨[(16,.box im,.own (.pr (.own .ro) (.own .ro))),(24,.box im,.own (.pr (.own .ro) (.own .ro)))],[.val 4 y4],[1,2,3,20,21,22]⟩) (.seq (.reg none [6]) (.seq (.seq (.reg (some ⟨[(16,.box im,.own (.pr (.own .ro) (.own .ro))),(24,.box im,.own (.pr (.own .ro) (.own .ro)))],[.val 36 y4],[1,2,3,4,6,20,21,22]⟩) []) .nop) (.seq .nop (.seq (.reg (some ⟨[(16,.box im,.own (.pr (.own .ro) (.own .ro))),(24,.box im,.own (.pr (.own .ro) (.own .ro)))],[.val 70 y4],[1,2,3,4,6,7,8,20,21,22]⟩) []) (.cond (some ⟨[(16,.box im,.own (.pr (.own .ro) (.own .ro))),(24,.box im,.own (.pr (.own .ro) (.own .ro)))],[.val 4 y4],[1,2,3,20,21,22]⟩) (.seq .nop (.seq (.reg (some ⟨[(16,.box im,.own (.pr (.own .ro) (.own .ro))),(24,.box im,.own (.pr (.own .ro) (.own .ro)))],[],[1,2,3,20,21,22]⟩) []) .nop)) .nop)))))) .nop)))))))))))) (.seq (.rgf none [3] [2]) .nop)))) A16 [(im,.ro)] [] [] (p44 n)
def p46(v1:Nat)(v2:T23):T33:=if(0:Int)<=(0:Int)/\(0:Int)<=(IntKind.wrap .i64 ((12:Int)*(v2.1.length:Int)))then if(IntKind.wrap .i64 ((12:Int)*(v2.1.length:Int))).toNat*1<=140737488355328 then aq (λ(v3:T17)=>λv4=>bif decide (v3.2.2.1<(v2.1.length:Int))then if 0<=v3.2.2.1 then(match v2.1[(v3.2.2.1).toNat]? with|some v5=>if(8:Int)<0 then none else if(8:Int)<0 then none else if(List.length v3.2.1+List.length ([(IntKind.wrap .u8 (Int.fdiv v5.1 (2 ^ (Nat.min (Int.toNat (8:Int)) (IntKind.bits .i64))))),(IntKind.wrap .u8 v5.1),(IntKind.wrap .u8 (Int.fdiv v5.2.1 (2 ^ (Nat.min (Int.toNat (8:Int)) (IntKind.bits .i64))))),(IntKind.wrap .u8 v5.2.1)]:List Int))*1<=140737488355328 then if List.length v3.2.1+List.length ([(IntKind.wrap .u8 (Int.fdiv v5.1 (2 ^ (Nat.min (Int.toNat (8:Int)) (IntKind.bits .i64))))),(IntKind.wrap .u8 v5.1),(IntKind.wrap .u8 (Int.fdiv v5.2.1 (2 ^ (Nat.min (Int.toNat (8:Int)) (IntKind.bits .i64))))),(IntKind.wrap .u8 v5.2.1)]:List Int)<=9223372036854775807 then aq (λ(v6:T17)=>λv7=>bif decide (v6.2.2.1<8)then if(IntKind.wrap .u64 (IntKind.wrap .i64 ((8:Int)*v6.2.2.1)))<0 then none else if(List.length v6.2.1+List.length ([(IntKind.wrap .u8 (Int.fdiv v5.2.2 (2 ^ (Nat.min (Int.toNat (IntKind.wrap .u64 (IntKind.wrap .i64 ((8:Int)*v6.2.2.1)))) (IntKind.bits .u64)))))]:List Int))*1<=140737488355328 then if List.length v6.2.1+List.length ([(IntKind.wrap .u8 (Int.fdiv v5.2.2 (2 ^ (Nat.min (Int.toNat (IntKind.wrap .u64 (IntKind.wrap .i64 ((8:Int)*v6.2.2.1)))) (IntKind.bits .u64)))))]:List Int)<=9223372036854775807 then v7 ((),v6.2.1++([(IntKind.wrap .u8 (Int.fdiv v5.2.2 (2 ^ (Nat.min (Int.toNat (IntKind.wrap .u64 (IntKind.wrap .i64 ((8:Int)*v6.2.2.1)))) (IntKind.bits .u64)))))]:List Int),IntKind.wrap .i64 (v6.2.2.1+1),())else none else none else v4 ((),v6.2.1,IntKind.wrap .i64 (v3.2.2.1+1),())) v1 ((),v3.2.1++([(IntKind.wrap .u8 (Int.fdiv v5.1 (2 ^ (Nat.min (Int.toNat (8:Int)) (IntKind.bits .i64))))),(IntKind.wrap .u8 v5.1),(IntKind.wrap .u8 (Int.fdiv v5.2.1 (2 ^ (Nat.min (Int.toNat (8:Int)) (IntKind.bits .i64))))),(IntKind.wrap .u8 v5.2.1)]:List Int),0,())else none else none|none=>none)else none else some ((v3.2.1,()),())) v1 ((),List.replicate (0:Int).toNat (0:Int),0,())else none else none
def F46(n:Nat):Fb 46:=fb n [] [] [] [] Tryz.func46 Tryz.results46 Tryz.ntmps46 (.seq .nop (.seq .nop (.seq (.seq .nop (.block none (.loop ⟨[],[.hdr 3 31 oG (.own .ro),.val 13 y2],[11,12]⟩ (.seq .nop (.seq .nop (.seq (.block none (.seq (.reg none [5]) (.seq .nop (.seq .nop (.block none (.loop ⟨[],[.hdr 3 31 oG (.own .ro),.val 34 y2],[5,11,12,13]⟩ .nop)))))) .nop)))))) .nop))) A18 A21 [] [] (p46 n)
def p45(v1:Nat)(v2:((List (Int×Int×Int))×(List ((List Int)×Int))×((List (List (Int×Int×Int)))×(List (List ((Bool×Int)×Int))))×Unit)):Option ((Int×Unit)×(List ((List Int)×Int))×((List (List (Int×Int×Int)))×(List (List ((Bool×Int)×Int))))×Unit):=af (p46 v1 (v2.1,())) (λ(v3:T13)=>aj (λ(v4:(((List ((List Int)×Int))×((List (List (Int×Int×Int)))×(List (List ((Bool×Int)×Int))))×Unit)×Int×Unit))=>some ((v4.2.1,()),v4.1.1,v4.1.2.1,())) (λv5=>bif !(eF (λ(v6:T0)=>λ(v7:T0)=>decide (v6=v7)) v3.1.1 v2.2.1)then if(List.length v2.2.2.1.1+List.length ([v2.1]:List (List (Int×Int×Int))))*24<=140737488355328 then if List.length v2.2.2.1.1+List.length ([v2.1]:List (List (Int×Int×Int)))<=9223372036854775807 then v5 ((dm (λ(v8:T0)=>λ(v9:T0)=>decide (v8=v9)) v3.1.1 (v2.2.2.1.1.length:Int) v2.2.1,(v2.2.2.1.1++([v2.1]:List (List (Int×Int×Int))),v2.2.2.1.2),()),(v2.2.2.1.1.length:Int),())else none else none else v5 ((v2.2.1,v2.2.2.1,()),bx (λ(v10:T0)=>λ(v11:T0)=>decide (v10=v11)) v3.1.1 v2.2.1,())))
def F45(n:Nat):Fb 45:=fb n [⟨_,F46 n⟩] [] [] [] Tryz.func45 Tryz.results45 Tryz.ntmps45 (.seq .nop (.seq .nop (.seq .nop (.seq (.seq .nop (.cond (some ⟨[(14,.box mu,.own (.own .ro)),(22,.box y52,.own (.pr (.own .ro) (.own .ro)))],[.val 6 y2],[1,2]⟩) .nop .nop)) .nop)))) [(y58,.ro),(.box mu,.own (.own .ro)),(.box y52,.own (.pr (.own .ro) (.own .ro)))] A20 [1,2] [(.box mu,.own (.own .ro)),(.box y52,.own (.pr (.own .ro) (.own .ro)))] (p45 n)
def HC(v1:Nat)(v2:T1):T14:=some ((!(decide (v2.1=v2.1)),()),())
def F138(n:Nat):Fb 138:=fb n [] [] [] [] Tryz.func138 Tryz.results138 Tryz.ntmps138 (.nop) A20 A19 [] [] (HC n)
def HD(v1:Nat)(v2:(Int×Int×Unit)):T12:=af (HC v1 (v2.1,())) (λ(v3:T6)=>af (HC v1 (v2.2.1,())) (λ(v4:T6)=>bif v3.1.1 then bif v4.1.1 then some ((0,()),())else some ((-1,()),())else bif v4.1.1 then some ((1,()),())else bif decide (v2.1<v2.2.1)then some ((-1,()),())else bif decide (v2.2.1<v2.1)then some ((1,()),())else some ((0,()),())))
def F115(n:Nat):Fb 115:=fb n [⟨_,F138 n⟩] [] [] [] Tryz.func115 Tryz.results115 Tryz.ntmps115 (.nop) A12 A20 [] [] (HD n)
def HE(v1:Nat)(v2:((Int×Int×Int)×(Int×Int×Int)×Unit)):T12:=bif !(decide (v2.1.1=v2.2.1.1))then af (HD v1 (v2.1.1,v2.2.1.1,())) (λ(v3:T5)=>some ((v3.1.1,()),()))else af (HD v1 (v2.1.2.1,v2.2.1.2.1,())) (λ(v4:T5)=>some ((v4.1.1,()),()))
def F101(n:Nat):Fb 101:=fb n [⟨_,F115 n⟩] [] [] [] Tryz.func101 Tryz.results101 Tryz.ntmps101 (.seq (.reg none [2,3]) .nop) [(y79,.ro),(y79,.ro)] A20 [] [] (HE n)
def Kf(v1:Nat)(v2:((List (Int×Int×Int))×(Int×Int×Int)×Unit×Unit)):T31:=aq (λ(v3:T7)=>λv4=>bif decide (v3.2.1<v3.2.2.1)then if(1:Int)<0 then none else if 0<=(IntKind.wrap .i64 (Int.fdiv (IntKind.wrap .u64 (IntKind.wrap .i64 (v3.2.1+v3.2.2.1))) (2 ^ (Nat.min (Int.toNat (1:Int)) (IntKind.bits .u64)))))then(match v2.1[(IntKind.wrap .i64 (Int.fdiv (IntKind.wrap .u64 (IntKind.wrap .i64 (v3.2.1+v3.2.2.1))) (2 ^ (Nat.min (Int.toNat (1:Int)) (IntKind.bits .u64))))).toNat]? with|some v5=>af (HE v1 (v5,v2.2.1,())) (λ(v6:T5)=>aj (λ(v7:T7)=>v4 ((),v7.2.1,v7.2.2.1,())) (λv8=>bif decide (v6.1.1<0)then v8 ((),IntKind.wrap .i64 ((IntKind.wrap .i64 (Int.fdiv (IntKind.wrap .u64 (IntKind.wrap .i64 (v3.2.1+v3.2.2.1))) (2 ^ (Nat.min (Int.toNat (1:Int)) (IntKind.bits .u64)))))+1),v3.2.2.1,())else v8 ((),v3.2.1,IntKind.wrap .i64 (Int.fdiv (IntKind.wrap .u64 (IntKind.wrap .i64 (v3.2.1+v3.2.2.1))) (2 ^ (Nat.min (Int.toNat (1:Int)) (IntKind.bits .u64)))),())))|none=>none)else none else aj (λ(v9:(Unit×Int×Bool×Unit))=>some ((v9.2.1,v9.2.2.1,()),())) (λv10=>bif decide (v3.2.1<(v2.1.length:Int))then if 0<=v3.2.1 then(match v2.1[(v3.2.1).toNat]? with|some v11=>af (HE v1 (v11,v2.2.1,())) (λ(v12:T5)=>v10 ((),v3.2.1,decide (v12.1.1=0),()))|none=>none)else none else v10 ((),v3.2.1,false,()))) v1 ((),0,(v2.1.length:Int),())
def F100(n:Nat):Fb 100:=fb n [⟨_,F101 n⟩] [] [] [] Tryz.func100 Tryz.results100 Tryz.ntmps100 (.seq (.reg none [4]) (.seq .nop (.seq .nop (.seq (.block none (.loop ⟨[],[.val 9 y2,.val 10 y2],[0,2,4,8]⟩ (.seq .nop (.block none (.seq .nop (.seq .nop (.cond (some ⟨[],[.val 9 y2,.val 10 y2],[0,2,4,8]⟩) .nop .nop))))))) (.seq (.reg (some ⟨[],[.val 6 y2,.val 7 y4],[]⟩) []) .nop))))) [(y58,.ro),(y79,.ro),(.fn 101,.ro)] [(y2,.ro),(y4,.ro)] [] [] (Kf n)
def p76(v1:Nat)(v2:((((List ((List Int)×Int×(List Int)))×(List (List Int))×(List (Int×(List Int)×(List (Bool×Int))×Bool×Int×(List Int)))×(List (Int×(List Int)))×Int)×((List Bool)×(List Int))×(List Bool)×(List Int)×(List (Int×Int×Int)))×Int×Int×Unit)):Option (Unit×(((List ((List Int)×Int×(List Int)))×(List (List Int))×(List (Int×(List Int)×(List (Bool×Int))×Bool×Int×(List Int)))×(List (Int×(List Int)))×Int)×((List Bool)×(List Int))×(List Bool)×(List Int)×(List (Int×Int×Int)))×Unit):=aq (λ(v3:(((((List ((List Int)×Int×(List Int)))×(List (List Int))×(List (Int×(List Int)×(List (Bool×Int))×Bool×Int×(List Int)))×(List (Int×(List Int)))×Int)×((List Bool)×(List Int))×(List Bool)×(List Int)×(List (Int×Int×Int)))×Unit)×Int×Unit))=>λv4=>bif decide (v3.2.1<(v2.1.1.2.2.1.length:Int))then aj (λ(v5:T96)=>v4 ((v5.1.1,()),IntKind.wrap .i64 (v3.2.1+1),())) (λv6=>if 0<=v3.2.1 then(match v2.1.1.2.2.1[(v3.2.1).toNat]? with|some v7=>aj (λ(v8:T97)=>bif v8.2.1 then v6 ((v8.1.1,()),())else if 0<=v3.2.1 then(match v8.1.1.2.2.1[(v3.2.1).toNat]? with|some v9=>if 0<=v3.2.1 then(match v8.1.1.2.2.1[(v3.2.1).toNat]? with|some v10=>if 0<=v3.2.1 then(match v8.1.1.2.2.2.1[(v3.2.1).toNat]? with|some v11=>if 0<=v3.2.1 then(match v8.1.1.2.2.2.1[(v3.2.1).toNat]? with|some v12=>if 0<=v3.2.1 then(match v8.1.1.2.2.2.1[(v3.2.1).toNat]? with|some v13=>if 0<=v3.2.1 then(match(List.set v8.1.1.2.2.2.1 (v3.2.1).toNat (bF .or .u64 v11 v2.2.2.1))[(v3.2.1).toNat]? with|some v14=>if(List.length v8.1.1.2.2.2.2+List.length ([(v3.2.1,0,v14)]:List (Int×Int×Int)))*24<=140737488355328 then if List.length v8.1.1.2.2.2.2+List.length ([(v3.2.1,0,v14)]:List (Int×Int×Int))<=9223372036854775807 then v6 (((v8.1.1.1,v8.1.1.2.1,List.set v8.1.1.2.2.1 (v3.2.1).toNat true,List.set v8.1.1.2.2.2.1 (v3.2.1).toNat (bF .or .u64 v11 v2.2.2.1),v8.1.1.2.2.2.2++([(v3.2.1,0,v14)]:List (Int×Int×Int))),()),())else none else none|none=>none)else none|none=>none)else none|none=>none)else none|none=>none)else none|none=>none)else none|none=>none)else none) (λv15=>bif !(decide (v7.1=v2.2.1))then v15 ((v3.1.1,()),true,())else if 0<=v3.2.1 then(match v3.1.1.2.2.1[(v3.2.1).toNat]? with|some v16=>bif v16 then if 0<=v3.2.1 then(match v3.1.1.2.2.2.1[(v3.2.1).toNat]? with|some v17=>if 0<=v3.2.1 then(match v3.1.1.2.2.2.1[(v3.2.1).toNat]? with|some v18=>v15 ((v3.1.1,()),decide ((bF .or .u64 v17 v2.2.2.1)=v18),())|none=>none)else none|none=>none)else none else v15 ((v3.1.1,()),false,())|none=>none)else none)|none=>none)else none)else some ((),v3.1.1,())) v1 ((v2.1,()),0,())
def F76(n:Nat):Fb 76:=fb n [] [] [] [] Tryz.func76 Tryz.results76 Tryz.ntmps76 (.seq .nop (.block none (.loop ⟨[(6,.box qB,.own (.pr .ro (.pr .ro (.pr (.own .ro) (.pr (.own .ro) (.own .ro))))))],[.val 14 y2],[0,1,2,12,13]⟩ (.seq .nop (.seq .nop (.seq (.block (some ⟨[(6,.box qB,.own (.pr .ro (.pr .ro (.pr (.own .ro) (.pr (.own .ro) (.own .ro))))))],[],[0,1,2,12,13,14]⟩) (.seq (.reg none [7]) (.seq (.seq (.reg (some ⟨[(6,.box qB,.own (.pr .ro (.pr .ro (.pr (.own .ro) (.pr (.own .ro) (.own .ro))))))],[.val 50 y4],[0,1,2,6,12,13,14]⟩) []) .nop) .nop))) .nop)))))) [(.box qB,.own (.pr .ro (.pr .ro (.pr (.own .ro) (.pr (.own .ro) (.own .ro)))))),(y2,.ro),(y12,.ro)] [] [0] [(.box qB,.own (.pr .ro (.pr .ro (.pr (.own .ro) (.pr (.own .ro) (.own .ro))))))] (p76 n)
def p77(v1:Nat)(v2:(((List Bool)×(List Int))×(List (Bool×Int))×Int×Unit)):T12:=af (p73 v1 (v2.1,v2.2.1,())) (λ(v3:T11)=>bif v3.1.2.1 then some ((bF .or .u64 v3.1.1 v2.2.2.1,()),())else some ((v3.1.1,()),()))
def F77(n:Nat):Fb 77:=fb n [⟨_,F73 n⟩] [] [] [] Tryz.func77 Tryz.results77 Tryz.ntmps77 (.seq (.reg none [3]) .nop) [(im,.ro),(y62,.ro),(y12,.ro)] A17 [] [] (p77 n)
def p87(v1:Nat)(v2:T91):Option (((List (Bool×Int))×Bool×Unit)×Unit):=aj (λ(v3:T3)=>bif v3.2.1 then if 0<=v2.2.1 then(match v2.1.2.2.1[(v2.2.1).toNat]? with|some v4=>some ((v4.2.2.1,true,()),())|none=>none)else none else bif decide (v2.2.1=(v2.1.2.2.1.length:Int))then some ((([(true,v2.1.2.2.2.2)]:List (Bool×Int)),true,()),())else some ((([]:List (Bool×Int)),false,()),())) (λv5=>bif decide (0<=v2.2.1)then v5 ((),decide (v2.2.1<(v2.1.2.2.1.length:Int)),())else v5 ((),false,()))
def F87(n:Nat):Fb 87:=fb n [] [] [] [] Tryz.func87 Tryz.results87 Tryz.ntmps87 (.seq (.reg none [2]) (.seq (.block none (.seq (.reg (some ⟨[],[.val 6 y4],[1,2]⟩) []) .nop)) .nop)) A10 [(y62,.ro),(y4,.ro)] [] [] (p87 n)
def p78(v1:Nat)(v2:T93):T52:=af (p87 v1 (v2.1,v2.2.1.1,())) (λ(v3:T50)=>aj (λ(v4:T3)=>bif v4.2.1 then some ((([]:List (Bool×Int)),()),())else if 0<=(IntKind.wrap .i64 (v2.2.1.2.1+1))/\(IntKind.wrap .i64 (v2.2.1.2.1+1))<=(v3.1.1.length:Int)/\(v3.1.1.length:Int)<=(v3.1.1.length:Int)then some ((br v3.1.1 (IntKind.wrap .i64 (v2.2.1.2.1+1)) (v3.1.1.length:Int),()),())else none) (λv5=>bif decide (v2.2.1.2.1<0)then v5 ((),true,())else v5 ((),decide ((IntKind.wrap .i64 ((v3.1.1.length:Int)-1))<=v2.2.1.2.1),())))
def F78(n:Nat):Fb 78:=fb n [⟨_,F87 n⟩] [11] [] [] Tryz.func78 Tryz.results78 Tryz.ntmps78 (.seq (.reg none [2,3]) (.seq .nop (.seq (.seq (.reg (some ⟨[],[.val 24 y4],[3,5]⟩) []) .nop) .nop))) [(y26,.ro),(y79,.ro)] [(y62,.ro)] [] [] (p78 n)
def p48(v1:Nat)(v2:T90):T63:=af (p80 v1 (63,())) (λ(v3:T5)=>some ((([((v2.1.2.2.1.length:Int),0,v3.1.1)]:List (Int×Int×Int)),()),()))
def F48(n:Nat):Fb 48:=fb n [⟨_,F80 n⟩] [] [] [] Tryz.func48 Tryz.results48 Tryz.ntmps48 (.seq (.reg none [1]) .nop) A16 A18 [] [] (p48 n)
def p74(v1:Nat)(v2:T23):T63:=GL (List.isEmpty v2.1) (λ(v3:Bool)=>bif v3 then some ((([]:List (Int×Int×Int)),()),())else if(List.length ([]:List (Int×Int×Int))+List.length v2.1)*24<=140737488355328 then if List.length ([]:List (Int×Int×Int))+List.length v2.1<=9223372036854775807 then some ((([]:List (Int×Int×Int))++v2.1,()),())else none else none)
def F74(n:Nat):Fb 74:=fb n [] [] [] [] Tryz.func74 Tryz.results74 Tryz.ntmps74 (.nop) A18 [(y58,.own .ro)] [] [] (p74 n)
def Kg(v1:Nat)(v2:T46):T12:=aq (λ(v3:T2)=>λv4=>bif decide (v3.2.1<(v2.1.length:Int))then if 0<=v3.2.1 then(match v2.1[(v3.2.1).toNat]? with|some v5=>bif bif v2.2.1.1 == v5.1 then decide (v2.2.1.2=v5.2)else false then some ((v3.2.1,()),())else v4 ((),IntKind.wrap .i64 (v3.2.1+1),())|none=>none)else none else some ((-1,()),())) v1 ((),0,())
def F103(n:Nat):Fb 103:=fb n [] [] [] [⟨_,Ey⟩] Tryz.func103 Tryz.results103 Tryz.ntmps103 (.seq (.reg none [3]) (.seq (.seq .nop (.block none (.loop ⟨[],[.val 8 y2],[0,3,7]⟩ .nop))) .nop)) [(y62,.ro),(y63,.ro)] A20 [] [] (Kg n)
def p81(v1:Nat)(v2:T46):T14:=af (Kg v1 (v2.1,v2.2.1,())) (λ(v3:T5)=>some ((decide (0<=v3.1.1),()),()))
def F81(n:Nat):Fb 81:=fb n [⟨_,F103 n⟩] [] [] [] Tryz.func81 Tryz.results81 Tryz.ntmps81 (.seq (.reg none [3]) .nop) [(y62,.ro),(y63,.ro)] A19 [] [] (p81 n)
end
noncomputable section
def p83(v1:Nat)(v2:((Bool×Int)×(Bool×Int)×Unit)):T12:=aj (λ(v3:T3)=>bif v3.2.1 then some ((-1,()),())else aj (λ(v4:T3)=>bif v4.2.1 then some ((1,()),())else bif decide (v2.1.2<v2.2.1.2)then some ((-1,()),())else some ((0,()),())) (λv5=>bif !(v2.1.1 == v2.2.1.1)then v5 ((),true,())else v5 ((),decide (v2.2.1.2<v2.1.2),()))) (λv6=>bif !(v2.1.1 == v2.2.1.1)then v6 ((),v2.2.1.1,())else v6 ((),false,()))
def F83(n:Nat):Fb 83:=fb n [] [] [] [] Tryz.func83 Tryz.results83 Tryz.ntmps83 (.seq (.reg none [2,3]) (.seq (.block none (.seq (.reg (some ⟨[],[.val 5 y4],[2,3]⟩) []) (.cond none .nop (.seq (.reg (some ⟨[],[.val 15 y4],[2,3]⟩) []) .nop)))) .nop)) [(y63,.ro),(y63,.ro)] A20 [] [] (p83 n)
def M5(v1:Nat)(v2:T1):T12:=aj (λ(v3:T7)=>aj (λ(v4:T7)=>if 0<=(IntKind.wrap .u8 v4.2.1)then(match((0:Int)::((1:Int)::((2:Int)::((2:Int)::((3:Int)::((3:Int)::((3:Int)::((3:Int)::((4:Int)::((4:Int)::((4:Int)::((4:Int)::((4:Int)::((4:Int)::((4:Int)::((4:Int)::((5:Int)::((5:Int)::((5:Int)::((5:Int)::((5:Int)::((5:Int)::((5:Int)::((5:Int)::((5:Int)::((5:Int)::((5:Int)::((5:Int)::((5:Int)::((5:Int)::((5:Int)::((5:Int)::((6:Int)::((6:Int)::((6:Int)::((6:Int)::((6:Int)::((6:Int)::((6:Int)::((6:Int)::((6:Int)::((6:Int)::((6:Int)::((6:Int)::((6:Int)::((6:Int)::((6:Int)::((6:Int)::((6:Int)::((6:Int)::((6:Int)::((6:Int)::((6:Int)::((6:Int)::((6:Int)::((6:Int)::((6:Int)::((6:Int)::((6:Int)::((6:Int)::((6:Int)::((6:Int)::((6:Int)::((6:Int)::((7:Int)::((7:Int)::((7:Int)::((7:Int)::((7:Int)::((7:Int)::((7:Int)::((7:Int)::((7:Int)::((7:Int)::((7:Int)::((7:Int)::((7:Int)::((7:Int)::((7:Int)::((7:Int)::((7:Int)::((7:Int)::((7:Int)::((7:Int)::((7:Int)::((7:Int)::((7:Int)::((7:Int)::((7:Int)::((7:Int)::((7:Int)::((7:Int)::((7:Int)::((7:Int)::((7:Int)::((7:Int)::((7:Int)::((7:Int)::((7:Int)::((7:Int)::((7:Int)::((7:Int)::((7:Int)::((7:Int)::((7:Int)::((7:Int)::((7:Int)::((7:Int)::((7:Int)::((7:Int)::((7:Int)::((7:Int)::((7:Int)::((7:Int)::((7:Int)::((7:Int)::((7:Int)::((7:Int)::((7:Int)::((7:Int)::((7:Int)::((7:Int)::((7:Int)::((7:Int)::((7:Int)::((7:Int)::((7:Int)::((7:Int)::(List.replicate 128 (8:Int))))))))))))))))))))))))))))))))))))))))))))))))))))))))))))))))))))))))))))))))))))))))))))))))))))))))))))))))))))))))))))))))))[(IntKind.wrap .u8 v4.2.1).toNat]? with|some v5=>some ((IntKind.wrap .i64 (v4.2.2.1+(IntKind.wrap .i64 v5)),()),())|none=>none)else none) (λv6=>bif decide (256<=v3.2.1)then if(8:Int)<0 then none else v6 ((),Int.fdiv v3.2.1 (2 ^ (Nat.min (Int.toNat (8:Int)) (IntKind.bits .u32))),IntKind.wrap .i64 (v3.2.2.1+8),())else v6 ((),v3.2.1,v3.2.2.1,()))) (λv7=>bif decide (65536<=v2.1)then if(16:Int)<0 then none else v7 ((),Int.fdiv v2.1 (2 ^ (Nat.min (Int.toNat (16:Int)) (IntKind.bits .u32))),16,())else v7 ((),v2.1,0,()))
def F126(n:Nat):Fb 126:=fb n [] [] [] [] Tryz.func126 Tryz.results126 Tryz.ntmps126 (.seq .nop (.seq (.seq .nop (.cond (some ⟨[],[.val 0 D3,.val 2 y2],[]⟩) .nop .nop)) (.seq (.seq .nop (.cond (some ⟨[],[.val 0 D3,.val 2 y2],[]⟩) .nop .nop)) .nop))) [(D3,.ro)] A20 [] [] (M5 n)
def Kh(v1:Nat)(v2:T1):T12:=aj (λ(v3:T7)=>aj (λ(v4:T7)=>aj (λ(v5:T7)=>if 0<=(IntKind.wrap .u8 v5.2.1)then(match((0:Int)::((1:Int)::((2:Int)::((2:Int)::((3:Int)::((3:Int)::((3:Int)::((3:Int)::((4:Int)::((4:Int)::((4:Int)::((4:Int)::((4:Int)::((4:Int)::((4:Int)::((4:Int)::((5:Int)::((5:Int)::((5:Int)::((5:Int)::((5:Int)::((5:Int)::((5:Int)::((5:Int)::((5:Int)::((5:Int)::((5:Int)::((5:Int)::((5:Int)::((5:Int)::((5:Int)::((5:Int)::((6:Int)::((6:Int)::((6:Int)::((6:Int)::((6:Int)::((6:Int)::((6:Int)::((6:Int)::((6:Int)::((6:Int)::((6:Int)::((6:Int)::((6:Int)::((6:Int)::((6:Int)::((6:Int)::((6:Int)::((6:Int)::((6:Int)::((6:Int)::((6:Int)::((6:Int)::((6:Int)::((6:Int)::((6:Int)::((6:Int)::((6:Int)::((6:Int)::((6:Int)::((6:Int)::((6:Int)::((6:Int)::((7:Int)::((7:Int)::((7:Int)::((7:Int)::((7:Int)::((7:Int)::((7:Int)::((7:Int)::((7:Int)::((7:Int)::((7:Int)::((7:Int)::((7:Int)::((7:Int)::((7:Int)::((7:Int)::((7:Int)::((7:Int)::((7:Int)::((7:Int)::((7:Int)::((7:Int)::((7:Int)::((7:Int)::((7:Int)::((7:Int)::((7:Int)::((7:Int)::((7:Int)::((7:Int)::((7:Int)::((7:Int)::((7:Int)::((7:Int)::((7:Int)::((7:Int)::((7:Int)::((7:Int)::((7:Int)::((7:Int)::((7:Int)::((7:Int)::((7:Int)::((7:Int)::((7:Int)::((7:Int)::((7:Int)::((7:Int)::((7:Int)::((7:Int)::((7:Int)::((7:Int)::((7:Int)::((7:Int)::((7:Int)::((7:Int)::((7:Int)::((7:Int)::((7:Int)::((7:Int)::((7:Int)::((7:Int)::((7:Int)::((7:Int)::(List.replicate 128 (8:Int))))))))))))))))))))))))))))))))))))))))))))))))))))))))))))))))))))))))))))))))))))))))))))))))))))))))))))))))))))))))))))))))))[(IntKind.wrap .u8 v5.2.1).toNat]? with|some v6=>some ((IntKind.wrap .i64 (v5.2.2.1+(IntKind.wrap .i64 v6)),()),())|none=>none)else none) (λv7=>bif decide (256<=v4.2.1)then if(8:Int)<0 then none else v7 ((),Int.fdiv v4.2.1 (2 ^ (Nat.min (Int.toNat (8:Int)) (IntKind.bits .u64))),IntKind.wrap .i64 (v4.2.2.1+8),())else v7 ((),v4.2.1,v4.2.2.1,()))) (λv8=>bif decide (65536<=v3.2.1)then if(16:Int)<0 then none else v8 ((),Int.fdiv v3.2.1 (2 ^ (Nat.min (Int.toNat (16:Int)) (IntKind.bits .u64))),IntKind.wrap .i64 (v3.2.2.1+16),())else v8 ((),v3.2.1,v3.2.2.1,()))) (λv9=>bif decide (4294967296<=v2.1)then if(32:Int)<0 then none else v9 ((),Int.fdiv v2.1 (2 ^ (Nat.min (Int.toNat (32:Int)) (IntKind.bits .u64))),32,())else v9 ((),v2.1,0,()))
def F127(n:Nat):Fb 127:=fb n [] [] [] [] Tryz.func127 Tryz.results127 Tryz.ntmps127 (.seq .nop (.seq (.seq .nop (.cond (some ⟨[],[.val 0 y12,.val 2 y2],[]⟩) .nop .nop)) (.seq (.seq .nop (.cond (some ⟨[],[.val 0 y12,.val 2 y2],[]⟩) .nop .nop)) (.seq (.seq .nop (.cond (some ⟨[],[.val 0 y12,.val 2 y2],[]⟩) .nop .nop)) .nop)))) A17 A20 [] [] (Kh n)
def HF(v1:Nat)(v2:T1):T12:=af (Kh v1 (v2.1,())) (λ(v3:T5)=>some ((v3.1.1,()),()))
def F105(n:Nat):Fb 105:=fb n [⟨_,F126 n⟩,⟨_,F127 n⟩] [] [] [] Tryz.func105 Tryz.results105 Tryz.ntmps105 (.nop) A17 A20 [] [] (HF n)
def Ki(v1:Nat)(v2:T54):T48:=aq (λ(v3:T47)=>λv4=>bif decide (v3.2.1<v2.2.2.1)then aq (λ(v5:T47)=>λv6=>aj (λ(v7:T51)=>bif v7.2.1 then if 0<=(IntKind.wrap .i64 (v5.2.1-1))then(match v7.1.1[(IntKind.wrap .i64 (v5.2.1-1)).toNat]? with|some v8=>if 0<=v5.2.1 then(match v7.1.1[(v5.2.1).toNat]? with|some v9=>if 0<=v5.2.1 then(match v7.1.1[(v5.2.1).toNat]? with|some v10=>if 0<=v5.2.1 then(match v7.1.1[(v5.2.1).toNat]? with|some v11=>if 0<=(IntKind.wrap .i64 (v5.2.1-1))then(match(List.set v7.1.1 (v5.2.1).toNat v8)[(IntKind.wrap .i64 (v5.2.1-1)).toNat]? with|some v12=>if 0<=(IntKind.wrap .i64 (v5.2.1-1))then(match(List.set v7.1.1 (v5.2.1).toNat v8)[(IntKind.wrap .i64 (v5.2.1-1)).toNat]? with|some v13=>v6 ((List.set (List.set v7.1.1 (v5.2.1).toNat v8) (IntKind.wrap .i64 (v5.2.1-1)).toNat v9,()),IntKind.wrap .i64 (v5.2.1-1),())|none=>none)else none|none=>none)else none|none=>none)else none|none=>none)else none|none=>none)else none|none=>none)else none else v4 ((v7.1.1,()),IntKind.wrap .i64 (v3.2.1+1),())) (λv14=>bif decide (v2.2.1<v5.2.1)then if 0<=v5.2.1 then(match v5.1.1[(v5.2.1).toNat]? with|some v15=>if 0<=(IntKind.wrap .i64 (v5.2.1-1))then(match v5.1.1[(IntKind.wrap .i64 (v5.2.1-1)).toNat]? with|some v16=>af (p83 v1 (v15,v16,())) (λ(v17:T5)=>v14 ((v5.1.1,()),decide (v17.1.1<0),()))|none=>none)else none|none=>none)else none else v14 ((v5.1.1,()),false,()))) v1 ((v3.1.1,()),v3.2.1,())else some ((),v3.1.1,())) v1 ((v2.1,()),IntKind.wrap .i64 (v2.2.1+1),())
def F118(n:Nat):Fb 118:=fb n [⟨_,F83 n⟩] [] [] [] Tryz.func118 Tryz.results118 Tryz.ntmps118 (.seq .nop (.block none (.loop ⟨[(6,y62,.own .ro)],[.val 8 y2],[0,1,2,3]⟩ (.seq .nop (.seq (.block none (.seq .nop (.block none (.loop ⟨[(6,y62,.own .ro)],[.val 9 y2],[0,1,2,3,8]⟩ (.seq (.seq (.reg (some ⟨[(6,y62,.own .ro)],[.val 34 y4],[0,1,2,3,8,9]⟩) []) .nop) .nop))))) .nop))))) A2 [] [0] A13 (Ki n)
def HG(v1:Nat)(v2:T64):T48:=aq (λ(v3:T47)=>λv4=>bif decide (v2.2.2.1<=(IntKind.wrap .i64 ((IntKind.wrap .i64 ((2:Int)*v3.2.1))+1)))then some ((),v3.1.1,())else aj (λ(v5:T51)=>aj (λ(v6:T47)=>if 0<=(IntKind.wrap .i64 (v2.2.2.2.1+v3.2.1))then(match v6.1.1[(IntKind.wrap .i64 (v2.2.2.2.1+v3.2.1)).toNat]? with|some v7=>if 0<=(IntKind.wrap .i64 (v2.2.2.2.1+v6.2.1))then(match v6.1.1[(IntKind.wrap .i64 (v2.2.2.2.1+v6.2.1)).toNat]? with|some v8=>af (p83 v1 (v7,v8,())) (λ(v9:T5)=>bif !(decide (v9.1.1<0))then some ((),v6.1.1,())else if 0<=(IntKind.wrap .i64 (v2.2.2.2.1+v6.2.1))then(match v6.1.1[(IntKind.wrap .i64 (v2.2.2.2.1+v6.2.1)).toNat]? with|some v10=>if 0<=(IntKind.wrap .i64 (v2.2.2.2.1+v3.2.1))then(match v6.1.1[(IntKind.wrap .i64 (v2.2.2.2.1+v3.2.1)).toNat]? with|some v11=>if 0<=(IntKind.wrap .i64 (v2.2.2.2.1+v3.2.1))then(match v6.1.1[(IntKind.wrap .i64 (v2.2.2.2.1+v3.2.1)).toNat]? with|some v12=>if 0<=(IntKind.wrap .i64 (v2.2.2.2.1+v3.2.1))then(match v6.1.1[(IntKind.wrap .i64 (v2.2.2.2.1+v3.2.1)).toNat]? with|some v13=>if 0<=(IntKind.wrap .i64 (v2.2.2.2.1+v6.2.1))then(match(List.set v6.1.1 (IntKind.wrap .i64 (v2.2.2.2.1+v3.2.1)).toNat v10)[(IntKind.wrap .i64 (v2.2.2.2.1+v6.2.1)).toNat]? with|some v14=>if 0<=(IntKind.wrap .i64 (v2.2.2.2.1+v6.2.1))then(match(List.set v6.1.1 (IntKind.wrap .i64 (v2.2.2.2.1+v3.2.1)).toNat v10)[(IntKind.wrap .i64 (v2.2.2.2.1+v6.2.1)).toNat]? with|some v15=>v4 ((List.set (List.set v6.1.1 (IntKind.wrap .i64 (v2.2.2.2.1+v3.2.1)).toNat v10) (IntKind.wrap .i64 (v2.2.2.2.1+v6.2.1)).toNat v11,()),v6.2.1,())|none=>none)else none|none=>none)else none|none=>none)else none|none=>none)else none|none=>none)else none|none=>none)else none)|none=>none)else none|none=>none)else none) (λv16=>bif v5.2.1 then v16 ((v5.1.1,()),IntKind.wrap .i64 ((IntKind.wrap .i64 ((IntKind.wrap .i64 ((2:Int)*v3.2.1))+1))+1),())else v16 ((v5.1.1,()),IntKind.wrap .i64 ((IntKind.wrap .i64 ((2:Int)*v3.2.1))+1),()))) (λv17=>bif decide ((IntKind.wrap .i64 ((IntKind.wrap .i64 ((IntKind.wrap .i64 ((2:Int)*v3.2.1))+1))+1))<v2.2.2.1)then if 0<=(IntKind.wrap .i64 (v2.2.2.2.1+(IntKind.wrap .i64 ((IntKind.wrap .i64 ((2:Int)*v3.2.1))+1))))then(match v3.1.1[(IntKind.wrap .i64 (v2.2.2.2.1+(IntKind.wrap .i64 ((IntKind.wrap .i64 ((2:Int)*v3.2.1))+1)))).toNat]? with|some v18=>if 0<=(IntKind.wrap .i64 ((IntKind.wrap .i64 (v2.2.2.2.1+(IntKind.wrap .i64 ((IntKind.wrap .i64 ((2:Int)*v3.2.1))+1))))+1))then(match v3.1.1[(IntKind.wrap .i64 ((IntKind.wrap .i64 (v2.2.2.2.1+(IntKind.wrap .i64 ((IntKind.wrap .i64 ((2:Int)*v3.2.1))+1))))+1)).toNat]? with|some v19=>af (p83 v1 (v18,v19,())) (λ(v20:T5)=>v17 ((v3.1.1,()),decide (v20.1.1<0),()))|none=>none)else none|none=>none)else none else v17 ((v3.1.1,()),false,()))) v1 ((v2.1,()),v2.2.1,())
def F140(n:Nat):Fb 140:=fb n [⟨_,F83 n⟩] [] [] [] Tryz.func140 Tryz.results140 Tryz.ntmps140 (.seq .nop (.block none (.loop ⟨[(6,y62,.own .ro)],[.val 10 y2],[0,2,3,4]⟩ (.block none (.seq .nop (.seq .nop (.seq (.seq (.reg (some ⟨[(6,y62,.own .ro)],[.val 40 y4],[0,2,3,4,10,11]⟩) []) (.cond (some ⟨[(6,y62,.own .ro)],[.val 11 y2],[0,2,3,4,10]⟩) .nop .nop)) .nop))))))) A1 [] [0] A13 (HG n)
def Kj(v1:Nat)(v2:T54):T48:=if(2:Int)=0 then none else aq (λ(v3:T47)=>λv4=>bif decide (0<=v3.2.1)then af (HG v1 (v3.1.1,v3.2.1,IntKind.wrap .i64 (v2.2.2.1-v2.2.1),v2.2.1,v2.2.2.2.1,())) (λ(v5:T32)=>v4 ((v5.2.1,()),IntKind.wrap .i64 (v3.2.1-1),()))else aq (λ(v6:T47)=>λv7=>bif decide (0<=v6.2.1)then if 0<=(IntKind.wrap .i64 (v2.2.1+v6.2.1))then(match v6.1.1[(IntKind.wrap .i64 (v2.2.1+v6.2.1)).toNat]? with|some v8=>if 0<=v2.2.1 then(match v6.1.1[(v2.2.1).toNat]? with|some v9=>if 0<=v2.2.1 then(match v6.1.1[(v2.2.1).toNat]? with|some v10=>if 0<=v2.2.1 then(match v6.1.1[(v2.2.1).toNat]? with|some v11=>if 0<=(IntKind.wrap .i64 (v2.2.1+v6.2.1))then(match(List.set v6.1.1 (v2.2.1).toNat v8)[(IntKind.wrap .i64 (v2.2.1+v6.2.1)).toNat]? with|some v12=>if 0<=(IntKind.wrap .i64 (v2.2.1+v6.2.1))then(match(List.set v6.1.1 (v2.2.1).toNat v8)[(IntKind.wrap .i64 (v2.2.1+v6.2.1)).toNat]? with|some v13=>af (HG v1 (List.set (List.set v6.1.1 (v2.2.1).toNat v8) (IntKind.wrap .i64 (v2.2.1+v6.2.1)).toNat v9,0,v6.2.1,v2.2.1,v2.2.2.2.1,())) (λ(v14:T32)=>v7 ((v14.2.1,()),IntKind.wrap .i64 (v6.2.1-1),()))|none=>none)else none|none=>none)else none|none=>none)else none|none=>none)else none|none=>none)else none|none=>none)else none else some ((),v6.1.1,())) v1 ((v3.1.1,()),IntKind.wrap .i64 ((IntKind.wrap .i64 (v2.2.2.1-v2.2.1))-1),())) v1 ((v2.1,()),IntKind.wrap .i64 (Int.tdiv (IntKind.wrap .i64 ((IntKind.wrap .i64 (v2.2.2.1-v2.2.1))-1)) 2),())
def F119(n:Nat):Fb 119:=fb n [⟨_,F83 n⟩,⟨_,F140 n⟩] [] [] [] Tryz.func119 Tryz.results119 Tryz.ntmps119 (.seq .nop (.seq .nop (.seq .nop (.seq (.seq .nop (.block none (.loop ⟨[(6,y62,.own .ro)],[.val 11 y2],[0,3,8,9,10]⟩ .nop))) (.seq .nop (.block none (.loop ⟨[(6,y62,.own .ro)],[.val 12 y2],[0,3,8,9]⟩ .nop))))))) A2 [] [0] A13 (Kj n)
def Kk(v1:Nat)(v2:T1):T12:=af (HF v1 (IntKind.wrap .u64 v2.1,())) (λ(v3:T5)=>if v3.1.1<0 then none else some ((IntKind.wrap .u64 ((1:Int)*2 ^ (Nat.min (Int.toNat v3.1.1) (IntKind.bits .u64))),()),()))
def F141(n:Nat):Fb 141:=fb n [⟨_,F105 n⟩] [] [] [] Tryz.func141 Tryz.results141 Tryz.ntmps141 (.nop) A20 A17 [] [] (Kk n)
def Kl(v1:Nat)(v2:T1):T27:=if(13:Int)<0 then none else if(7:Int)<0 then none else if(17:Int)<0 then none else some ((bF .xor .u64 (bF .xor .u64 (bF .xor .u64 v2.1 (IntKind.wrap .u64 (v2.1*2 ^ (Nat.min (Int.toNat (13:Int)) (IntKind.bits .u64))))) (Int.fdiv (bF .xor .u64 v2.1 (IntKind.wrap .u64 (v2.1*2 ^ (Nat.min (Int.toNat (13:Int)) (IntKind.bits .u64))))) (2 ^ (Nat.min (Int.toNat (7:Int)) (IntKind.bits .u64))))) (IntKind.wrap .u64 ((bF .xor .u64 (bF .xor .u64 v2.1 (IntKind.wrap .u64 (v2.1*2 ^ (Nat.min (Int.toNat (13:Int)) (IntKind.bits .u64))))) (Int.fdiv (bF .xor .u64 v2.1 (IntKind.wrap .u64 (v2.1*2 ^ (Nat.min (Int.toNat (13:Int)) (IntKind.bits .u64))))) (2 ^ (Nat.min (Int.toNat (7:Int)) (IntKind.bits .u64)))))*2 ^ (Nat.min (Int.toNat (17:Int)) (IntKind.bits .u64)))),()),bF .xor .u64 (bF .xor .u64 (bF .xor .u64 v2.1 (IntKind.wrap .u64 (v2.1*2 ^ (Nat.min (Int.toNat (13:Int)) (IntKind.bits .u64))))) (Int.fdiv (bF .xor .u64 v2.1 (IntKind.wrap .u64 (v2.1*2 ^ (Nat.min (Int.toNat (13:Int)) (IntKind.bits .u64))))) (2 ^ (Nat.min (Int.toNat (7:Int)) (IntKind.bits .u64))))) (IntKind.wrap .u64 ((bF .xor .u64 (bF .xor .u64 v2.1 (IntKind.wrap .u64 (v2.1*2 ^ (Nat.min (Int.toNat (13:Int)) (IntKind.bits .u64))))) (Int.fdiv (bF .xor .u64 v2.1 (IntKind.wrap .u64 (v2.1*2 ^ (Nat.min (Int.toNat (13:Int)) (IntKind.bits .u64))))) (2 ^ (Nat.min (Int.toNat (7:Int)) (IntKind.bits .u64)))))*2 ^ (Nat.min (Int.toNat (17:Int)) (IntKind.bits .u64)))),())
def F142(n:Nat):Fb 142:=fb n [] [] [] [] Tryz.func142 Tryz.results142 Tryz.ntmps142 (.nop) [(.box y12,.own .ro)] A17 [0] [(.box y12,.own .ro)] (Kl n)
def Km(v1:Nat)(v2:T54):T48:=aj (λ(v3:T37)=>some ((),v3.1.1,())) (λv4=>bif decide (8<=(IntKind.wrap .i64 (v2.2.2.1-v2.2.1)))then af (Kk v1 (IntKind.wrap .i64 (v2.2.2.1-v2.2.1),())) (λ(v5:T5)=>if(4:Int)=0 then none else aq (λ(v6:T60)=>λv7=>if(4:Int)=0 then none else bif decide (v6.2.1<=(IntKind.wrap .i64 ((IntKind.wrap .i64 (v2.2.1+(IntKind.wrap .i64 ((IntKind.wrap .i64 (Int.tdiv (IntKind.wrap .i64 (v2.2.2.1-v2.2.1)) 4))*2))))+1)))then af (Kl v1 (v6.1.2.1,())) (λ(v8:T10)=>aj (λ(v9:T60)=>if 0<=(IntKind.wrap .i64 (v2.2.1+v9.2.1))then(match v9.1.1[(IntKind.wrap .i64 (v2.2.1+v9.2.1)).toNat]? with|some v10=>if 0<=v6.2.1 then(match v9.1.1[(v6.2.1).toNat]? with|some v11=>if 0<=v6.2.1 then(match v9.1.1[(v6.2.1).toNat]? with|some v12=>if 0<=v6.2.1 then(match v9.1.1[(v6.2.1).toNat]? with|some v13=>if 0<=(IntKind.wrap .i64 (v2.2.1+v9.2.1))then(match(List.set v9.1.1 (v6.2.1).toNat v10)[(IntKind.wrap .i64 (v2.2.1+v9.2.1)).toNat]? with|some v14=>if 0<=(IntKind.wrap .i64 (v2.2.1+v9.2.1))then(match(List.set v9.1.1 (v6.2.1).toNat v10)[(IntKind.wrap .i64 (v2.2.1+v9.2.1)).toNat]? with|some v15=>v7 ((List.set (List.set v9.1.1 (v6.2.1).toNat v10) (IntKind.wrap .i64 (v2.2.1+v9.2.1)).toNat v11,v9.1.2.1,()),IntKind.wrap .i64 (v6.2.1+1),())|none=>none)else none|none=>none)else none|none=>none)else none|none=>none)else none|none=>none)else none|none=>none)else none) (λv16=>bif decide ((IntKind.wrap .i64 (v2.2.2.1-v2.2.1))<=(IntKind.wrap .i64 (bF .and .u64 v8.1.1 (IntKind.wrap .u64 (v5.1.1-1)))))then v16 ((v6.1.1,v8.2.1,()),IntKind.wrap .i64 ((IntKind.wrap .i64 (bF .and .u64 v8.1.1 (IntKind.wrap .u64 (v5.1.1-1))))-(IntKind.wrap .i64 (v2.2.2.1-v2.2.1))),())else v16 ((v6.1.1,v8.2.1,()),IntKind.wrap .i64 (bF .and .u64 v8.1.1 (IntKind.wrap .u64 (v5.1.1-1))),())))else v4 ((v6.1.1,()),())) v1 ((v2.1,IntKind.wrap .u64 (IntKind.wrap .i64 (v2.2.2.1-v2.2.1)),()),IntKind.wrap .i64 ((IntKind.wrap .i64 (v2.2.1+(IntKind.wrap .i64 ((IntKind.wrap .i64 (Int.tdiv (IntKind.wrap .i64 (v2.2.2.1-v2.2.1)) 4))*2))))-1),()))else v4 ((v2.1,()),()))
def F120(n:Nat):Fb 120:=fb n [⟨_,F83 n⟩,⟨_,F141 n⟩,⟨_,F142 n⟩] [] [] [] Tryz.func120 Tryz.results120 Tryz.ntmps120 (.seq .nop (.seq .nop (.cond (some ⟨[(6,y62,.own .ro)],[],[0]⟩) (.seq .nop (.seq .nop (.seq .nop (.block none (.loop ⟨[(6,y62,.own .ro),(72,.box y12,.own .ro)],[.val 11 y2],[0,1,8,9,10]⟩ (.seq .nop (.seq (.block none (.seq .nop (.seq (.seq .nop (.cond (some ⟨[(6,y62,.own .ro),(72,.box y12,.own .ro)],[.val 12 y2],[0,1,8,9,10,11]⟩) .nop .nop)) .nop))) .nop))))))) .nop))) A2 [] [0] A13 (Km n)
def Ez(v1:Nat)(v2:T64):Option ((Int×Int×Unit)×Int×Unit):=if 0<=v2.2.2.1 then(match v2.1[(v2.2.2.1).toNat]? with|some v3=>if 0<=v2.2.1 then(match v2.1[(v2.2.1).toNat]? with|some v4=>af (p83 v1 (v3,v4,())) (λ(v5:T5)=>bif decide (v5.1.1<0)then some ((v2.2.2.1,v2.2.1,()),IntKind.wrap .i64 (v2.2.2.2.1+1),())else some ((v2.2.1,v2.2.2.1,()),v2.2.2.2.1,()))|none=>none)else none|none=>none)else none
def F156(n:Nat):Fb 156:=fb n [⟨_,F83 n⟩] [] [] [] Tryz.func156 Tryz.results156 Tryz.ntmps156 (.nop) [(y62,.ro),(y2,.ro),(y2,.ro),(.box y2,.own .ro),(.fn 83,.ro)] A12 [3] A11 (Ez n)
def HH(v1:Nat)(v2:((List (Bool×Int))×Int×Int×Int×Int×Unit×Unit)):T27:=af (Ez v1 (v2.1,v2.2.1,v2.2.2.1,v2.2.2.2.2.1,v2.2.2.2.2.2.1,())) (λ(v3:T18)=>af (Ez v1 (v2.1,v3.1.2.1,v2.2.2.2.1,v3.2.1,v2.2.2.2.2.2.1,())) (λ(v4:T18)=>af (Ez v1 (v2.1,v3.1.1,v4.1.1,v4.2.1,v2.2.2.2.2.2.1,())) (λ(v5:T18)=>some ((v5.1.2.1,()),v5.2.1,()))))
def F144(n:Nat):Fb 144:=fb n [⟨_,F83 n⟩,⟨_,F156 n⟩] [] [] [] Tryz.func144 Tryz.results144 Tryz.ntmps144 (.nop) [(y62,.ro),(y2,.ro),(y2,.ro),(y2,.ro),(.box y2,.own .ro),(.fn 83,.ro)] A20 [4] A11 (HH n)
def EA(v1:Nat)(v2:T54):T27:=af (HH v1 (v2.1,IntKind.wrap .i64 (v2.2.1-1),v2.2.1,IntKind.wrap .i64 (v2.2.1+1),v2.2.2.1,v2.2.2.2.1,())) (λ(v3:T10)=>some ((v3.1.1,()),v3.2.1,()))
def F143(n:Nat):Fb 143:=fb n [⟨_,F83 n⟩,⟨_,F144 n⟩] [] [] [] Tryz.func143 Tryz.results143 Tryz.ntmps143 (.nop) [(y62,.ro),(y2,.ro),(.box y2,.own .ro),(.fn 83,.ro)] A20 [2] A11 (EA n)
def Ko(v1:Nat)(v2:T54):T25:=if(4:Int)=0 then none else if(4:Int)=0 then none else if(4:Int)=0 then none else aj (λ(v3:T10)=>bif decide (v3.1.1=0)then some ((v3.2.1,1,()),())else bif decide (v3.1.1=12)then some ((v3.2.1,2,()),())else some ((v3.2.1,0,()),())) (λv4=>bif decide (8<=(IntKind.wrap .i64 (v2.2.2.1-v2.2.1)))then aj (λ(v5:((Int×Unit)×Int×Int×Int×Unit))=>af (HH v1 (v2.1,v5.2.1,v5.2.2.1,v5.2.2.2.1,v5.1.1,v2.2.2.2.1,())) (λ(v6:T10)=>v4 ((v6.2.1,()),v6.1.1,()))) (λv7=>bif decide (50<=(IntKind.wrap .i64 (v2.2.2.1-v2.2.1)))then af (EA v1 (v2.1,IntKind.wrap .i64 (v2.2.1+(IntKind.wrap .i64 ((IntKind.wrap .i64 (Int.tdiv (IntKind.wrap .i64 (v2.2.2.1-v2.2.1)) 4))*1))),0,v2.2.2.2.1,())) (λ(v8:T10)=>af (EA v1 (v2.1,IntKind.wrap .i64 (v2.2.1+(IntKind.wrap .i64 ((IntKind.wrap .i64 (Int.tdiv (IntKind.wrap .i64 (v2.2.2.1-v2.2.1)) 4))*2))),v8.2.1,v2.2.2.2.1,())) (λ(v9:T10)=>af (EA v1 (v2.1,IntKind.wrap .i64 (v2.2.1+(IntKind.wrap .i64 ((IntKind.wrap .i64 (Int.tdiv (IntKind.wrap .i64 (v2.2.2.1-v2.2.1)) 4))*3))),v9.2.1,v2.2.2.2.1,())) (λ(v10:T10)=>v7 ((v10.2.1,()),v8.1.1,v9.1.1,v10.1.1,()))))else v7 ((0,()),IntKind.wrap .i64 (v2.2.1+(IntKind.wrap .i64 ((IntKind.wrap .i64 (Int.tdiv (IntKind.wrap .i64 (v2.2.2.1-v2.2.1)) 4))*1))),IntKind.wrap .i64 (v2.2.1+(IntKind.wrap .i64 ((IntKind.wrap .i64 (Int.tdiv (IntKind.wrap .i64 (v2.2.2.1-v2.2.1)) 4))*2))),IntKind.wrap .i64 (v2.2.1+(IntKind.wrap .i64 ((IntKind.wrap .i64 (Int.tdiv (IntKind.wrap .i64 (v2.2.2.1-v2.2.1)) 4))*3))),()))else v4 ((0,()),IntKind.wrap .i64 (v2.2.1+(IntKind.wrap .i64 ((IntKind.wrap .i64 (Int.tdiv (IntKind.wrap .i64 (v2.2.2.1-v2.2.1)) 4))*2))),()))
def F121(n:Nat):Fb 121:=fb n [⟨_,F83 n⟩,⟨_,F143 n⟩,⟨_,F144 n⟩] [] [] [] Tryz.func121 Tryz.results121 Tryz.ntmps121 (.seq .nop (.seq .nop (.seq .nop (.seq .nop (.seq .nop (.seq .nop (.seq (.seq .nop (.cond (some ⟨[(88,.box y2,.own .ro)],[.val 13 y2],[11]⟩) (.seq (.seq .nop (.cond (some ⟨[(88,.box y2,.own .ro)],[.val 12 y2,.val 13 y2,.val 14 y2],[0,3,11]⟩) .nop .nop)) .nop) .nop)) .nop))))))) [(y62,.ro),(y2,.ro),(y2,.ro),(.fn 83,.ro)] A12 [] [] (Ko n)
def Kp(v1:Nat)(v2:T54):T48:=aq (λ(v3:T61)=>λv4=>bif decide (v3.2.1<v3.2.2.1)then if 0<=v3.2.2.1 then(match v3.1.1[(v3.2.2.1).toNat]? with|some v5=>if 0<=v3.2.1 then(match v3.1.1[(v3.2.1).toNat]? with|some v6=>if 0<=v3.2.1 then(match v3.1.1[(v3.2.1).toNat]? with|some v7=>if 0<=v3.2.1 then(match v3.1.1[(v3.2.1).toNat]? with|some v8=>if 0<=v3.2.2.1 then(match(List.set v3.1.1 (v3.2.1).toNat v5)[(v3.2.2.1).toNat]? with|some v9=>if 0<=v3.2.2.1 then(match(List.set v3.1.1 (v3.2.1).toNat v5)[(v3.2.2.1).toNat]? with|some v10=>v4 ((List.set (List.set v3.1.1 (v3.2.1).toNat v5) (v3.2.2.1).toNat v6,()),IntKind.wrap .i64 (v3.2.1+1),IntKind.wrap .i64 (v3.2.2.1-1),())|none=>none)else none|none=>none)else none|none=>none)else none|none=>none)else none|none=>none)else none|none=>none)else none else some ((),v3.1.1,())) v1 ((v2.1,()),v2.2.1,IntKind.wrap .i64 (v2.2.2.1-1),())
def F122(n:Nat):Fb 122:=fb n [⟨_,F83 n⟩] [] [] [] Tryz.func122 Tryz.results122 Tryz.ntmps122 (.seq .nop (.seq .nop (.block none (.loop ⟨[(6,y62,.own .ro)],[.val 8 y2,.val 9 y2],[0]⟩ .nop)))) A2 [] [0] A13 (Kp n)
def Kq(v1:Nat)(v2:T54):Option ((Bool×Unit)×(List (Bool×Int))×Unit):=aq (λ(v3:T61)=>λv4=>bif decide (v3.2.2.1<5)then aq (λ(v5:T47)=>λv6=>aj (λ(v7:T51)=>bif v7.2.1 then v6 ((v7.1.1,()),IntKind.wrap .i64 (v5.2.1+1),())else bif decide (v5.2.1=v2.2.2.1)then some ((true,()),v7.1.1,())else bif decide ((IntKind.wrap .i64 (v2.2.2.1-v2.2.1))<50)then some ((false,()),v7.1.1,())else if 0<=(IntKind.wrap .i64 (v5.2.1-1))then(match v7.1.1[(IntKind.wrap .i64 (v5.2.1-1)).toNat]? with|some v8=>if 0<=v5.2.1 then(match v7.1.1[(v5.2.1).toNat]? with|some v9=>if 0<=v5.2.1 then(match v7.1.1[(v5.2.1).toNat]? with|some v10=>if 0<=v5.2.1 then(match v7.1.1[(v5.2.1).toNat]? with|some v11=>if 0<=(IntKind.wrap .i64 (v5.2.1-1))then(match(List.set v7.1.1 (v5.2.1).toNat v8)[(IntKind.wrap .i64 (v5.2.1-1)).toNat]? with|some v12=>if 0<=(IntKind.wrap .i64 (v5.2.1-1))then(match(List.set v7.1.1 (v5.2.1).toNat v8)[(IntKind.wrap .i64 (v5.2.1-1)).toNat]? with|some v13=>aj (λ(v14:T37)=>aj (λ(v15:T37)=>v4 ((v15.1.1,()),v5.2.1,IntKind.wrap .i64 (v3.2.2.1+1),())) (λv16=>bif decide (2<=(IntKind.wrap .i64 (v2.2.2.1-v5.2.1)))then aj (λ(v17:T37)=>v16 ((v17.1.1,()),())) (λv18=>aq (λ(v19:T47)=>λv20=>bif decide (v19.2.1<v2.2.2.1)then if 0<=v19.2.1 then(match v19.1.1[(v19.2.1).toNat]? with|some v21=>if 0<=(IntKind.wrap .i64 (v19.2.1-1))then(match v19.1.1[(IntKind.wrap .i64 (v19.2.1-1)).toNat]? with|some v22=>af (p83 v1 (v21,v22,())) (λ(v23:T5)=>bif !(decide (v23.1.1<0))then v18 ((v19.1.1,()),())else if 0<=(IntKind.wrap .i64 (v19.2.1-1))then(match v19.1.1[(IntKind.wrap .i64 (v19.2.1-1)).toNat]? with|some v24=>if 0<=v19.2.1 then(match v19.1.1[(v19.2.1).toNat]? with|some v25=>if 0<=v19.2.1 then(match v19.1.1[(v19.2.1).toNat]? with|some v26=>if 0<=v19.2.1 then(match v19.1.1[(v19.2.1).toNat]? with|some v27=>if 0<=(IntKind.wrap .i64 (v19.2.1-1))then(match(List.set v19.1.1 (v19.2.1).toNat v24)[(IntKind.wrap .i64 (v19.2.1-1)).toNat]? with|some v28=>if 0<=(IntKind.wrap .i64 (v19.2.1-1))then(match(List.set v19.1.1 (v19.2.1).toNat v24)[(IntKind.wrap .i64 (v19.2.1-1)).toNat]? with|some v29=>v20 ((List.set (List.set v19.1.1 (v19.2.1).toNat v24) (IntKind.wrap .i64 (v19.2.1-1)).toNat v25,()),IntKind.wrap .i64 (v19.2.1+1),())|none=>none)else none|none=>none)else none|none=>none)else none|none=>none)else none|none=>none)else none|none=>none)else none)|none=>none)else none|none=>none)else none else v18 ((v19.1.1,()),())) v1 ((v14.1.1,()),IntKind.wrap .i64 (v5.2.1+1),()))else v16 ((v14.1.1,()),()))) (λv30=>bif decide (2<=(IntKind.wrap .i64 (v5.2.1-v2.2.1)))then aj (λ(v31:T37)=>v30 ((v31.1.1,()),())) (λv32=>aq (λ(v33:T47)=>λv34=>bif decide (1<=v33.2.1)then if 0<=v33.2.1 then(match v33.1.1[(v33.2.1).toNat]? with|some v35=>if 0<=(IntKind.wrap .i64 (v33.2.1-1))then(match v33.1.1[(IntKind.wrap .i64 (v33.2.1-1)).toNat]? with|some v36=>af (p83 v1 (v35,v36,())) (λ(v37:T5)=>bif !(decide (v37.1.1<0))then v32 ((v33.1.1,()),())else if 0<=(IntKind.wrap .i64 (v33.2.1-1))then(match v33.1.1[(IntKind.wrap .i64 (v33.2.1-1)).toNat]? with|some v38=>if 0<=v33.2.1 then(match v33.1.1[(v33.2.1).toNat]? with|some v39=>if 0<=v33.2.1 then(match v33.1.1[(v33.2.1).toNat]? with|some v40=>if 0<=v33.2.1 then(match v33.1.1[(v33.2.1).toNat]? with|some v41=>if 0<=(IntKind.wrap .i64 (v33.2.1-1))then(match(List.set v33.1.1 (v33.2.1).toNat v38)[(IntKind.wrap .i64 (v33.2.1-1)).toNat]? with|some v42=>if 0<=(IntKind.wrap .i64 (v33.2.1-1))then(match(List.set v33.1.1 (v33.2.1).toNat v38)[(IntKind.wrap .i64 (v33.2.1-1)).toNat]? with|some v43=>v34 ((List.set (List.set v33.1.1 (v33.2.1).toNat v38) (IntKind.wrap .i64 (v33.2.1-1)).toNat v39,()),IntKind.wrap .i64 (v33.2.1-1),())|none=>none)else none|none=>none)else none|none=>none)else none|none=>none)else none|none=>none)else none|none=>none)else none)|none=>none)else none|none=>none)else none else v32 ((v33.1.1,()),())) v1 ((List.set (List.set v7.1.1 (v5.2.1).toNat v8) (IntKind.wrap .i64 (v5.2.1-1)).toNat v9,()),IntKind.wrap .i64 (v5.2.1-1),()))else v30 ((List.set (List.set v7.1.1 (v5.2.1).toNat v8) (IntKind.wrap .i64 (v5.2.1-1)).toNat v9,()),()))|none=>none)else none|none=>none)else none|none=>none)else none|none=>none)else none|none=>none)else none|none=>none)else none) (λv44=>bif decide (v5.2.1<v2.2.2.1)then if 0<=v5.2.1 then(match v5.1.1[(v5.2.1).toNat]? with|some v45=>if 0<=(IntKind.wrap .i64 (v5.2.1-1))then(match v5.1.1[(IntKind.wrap .i64 (v5.2.1-1)).toNat]? with|some v46=>af (p83 v1 (v45,v46,())) (λ(v47:T5)=>v44 ((v5.1.1,()),!(decide (v47.1.1<0)),()))|none=>none)else none|none=>none)else none else v44 ((v5.1.1,()),false,()))) v1 ((v3.1.1,()),v3.2.1,())else some ((false,()),v3.1.1,())) v1 ((v2.1,()),IntKind.wrap .i64 (v2.2.1+1),0,())
def F123(n:Nat):Fb 123:=fb n [⟨_,F83 n⟩] [] [] [] Tryz.func123 Tryz.results123 Tryz.ntmps123 (.seq .nop (.seq .nop (.seq (.seq .nop (.block none (.loop ⟨[(6,y62,.own .ro)],[.val 9 y2,.val 10 y2],[0,1,2,3]⟩ (.seq .nop (.seq (.block none (.seq (.block none (.loop ⟨[(6,y62,.own .ro)],[.val 9 y2],[0,1,2,3,10]⟩ (.seq (.seq (.reg (some ⟨[(6,y62,.own .ro)],[.val 36 y4],[0,1,2,3,9,10]⟩) []) .nop) .nop))) (.seq .nop (.seq .nop (.seq .nop (.seq (.seq .nop (.cond (some ⟨[(6,y62,.own .ro)],[],[0,1,2,3,9,10]⟩) (.seq .nop (.block (some ⟨[(6,y62,.own .ro)],[],[0,1,2,3,9,10]⟩) (.loop ⟨[(6,y62,.own .ro)],[.val 11 y2],[0,1,2,3,9,10]⟩ .nop))) .nop)) (.seq .nop (.cond (some ⟨[(6,y62,.own .ro)],[],[0,1,2,3,9,10]⟩) (.seq .nop (.block (some ⟨[(6,y62,.own .ro)],[],[0,1,2,3,9,10]⟩) (.loop ⟨[(6,y62,.own .ro)],[.val 12 y2],[0,1,2,3,9,10]⟩ .nop))) .nop)))))))) .nop))))) .nop))) A2 A19 [0] A13 (Kq n)
def Kr(v1:Nat)(v2:T64):Option ((Int×Unit)×(List (Bool×Int))×Unit):=if 0<=v2.2.2.2.1 then(match v2.1[(v2.2.2.2.1).toNat]? with|some v3=>if 0<=v2.2.1 then(match v2.1[(v2.2.1).toNat]? with|some v4=>if 0<=v2.2.1 then(match v2.1[(v2.2.1).toNat]? with|some v5=>if 0<=v2.2.1 then(match v2.1[(v2.2.1).toNat]? with|some v6=>if 0<=v2.2.2.2.1 then(match(List.set v2.1 (v2.2.1).toNat v3)[(v2.2.2.2.1).toNat]? with|some v7=>if 0<=v2.2.2.2.1 then(match(List.set v2.1 (v2.2.1).toNat v3)[(v2.2.2.2.1).toNat]? with|some v8=>aq (λ(v9:T61)=>λv10=>aq (λ(v11:T47)=>λv12=>aj (λ(v13:T51)=>bif v13.2.1 then v12 ((v13.1.1,()),IntKind.wrap .i64 (v11.2.1+1),())else aq (λ(v14:T47)=>λv15=>aj (λ(v16:T51)=>bif v16.2.1 then v15 ((v16.1.1,()),IntKind.wrap .i64 (v14.2.1-1),())else bif decide (v14.2.1<v11.2.1)then some ((v11.2.1,()),v16.1.1,())else if 0<=v14.2.1 then(match v16.1.1[(v14.2.1).toNat]? with|some v17=>if 0<=v11.2.1 then(match v16.1.1[(v11.2.1).toNat]? with|some v18=>if 0<=v11.2.1 then(match v16.1.1[(v11.2.1).toNat]? with|some v19=>if 0<=v11.2.1 then(match v16.1.1[(v11.2.1).toNat]? with|some v20=>if 0<=v14.2.1 then(match(List.set v16.1.1 (v11.2.1).toNat v17)[(v14.2.1).toNat]? with|some v21=>if 0<=v14.2.1 then(match(List.set v16.1.1 (v11.2.1).toNat v17)[(v14.2.1).toNat]? with|some v22=>v10 ((List.set (List.set v16.1.1 (v11.2.1).toNat v17) (v14.2.1).toNat v18,()),IntKind.wrap .i64 (v11.2.1+1),IntKind.wrap .i64 (v14.2.1-1),())|none=>none)else none|none=>none)else none|none=>none)else none|none=>none)else none|none=>none)else none|none=>none)else none) (λv23=>bif decide (v11.2.1<=v14.2.1)then if 0<=v2.2.1 then(match v14.1.1[(v2.2.1).toNat]? with|some v24=>if 0<=v14.2.1 then(match v14.1.1[(v14.2.1).toNat]? with|some v25=>af (p83 v1 (v24,v25,())) (λ(v26:T5)=>v23 ((v14.1.1,()),decide (v26.1.1<0),()))|none=>none)else none|none=>none)else none else v23 ((v14.1.1,()),false,()))) v1 ((v13.1.1,()),v9.2.2.1,())) (λv27=>bif decide (v11.2.1<=v9.2.2.1)then if 0<=v2.2.1 then(match v11.1.1[(v2.2.1).toNat]? with|some v28=>if 0<=v11.2.1 then(match v11.1.1[(v11.2.1).toNat]? with|some v29=>af (p83 v1 (v28,v29,())) (λ(v30:T5)=>v27 ((v11.1.1,()),!(decide (v30.1.1<0)),()))|none=>none)else none|none=>none)else none else v27 ((v11.1.1,()),false,()))) v1 ((v9.1.1,()),v9.2.1,())) v1 ((List.set (List.set v2.1 (v2.2.1).toNat v3) (v2.2.2.2.1).toNat v4,()),IntKind.wrap .i64 (v2.2.1+1),IntKind.wrap .i64 (v2.2.2.1-1),())|none=>none)else none|none=>none)else none|none=>none)else none|none=>none)else none|none=>none)else none|none=>none)else none
def F124(n:Nat):Fb 124:=fb n [⟨_,F83 n⟩] [] [] [] Tryz.func124 Tryz.results124 Tryz.ntmps124 (.seq .nop (.seq .nop (.seq .nop (.seq (.block none (.loop ⟨[(6,y62,.own .ro)],[.val 11 y2,.val 12 y2],[0,1,4]⟩ (.block none (.seq (.block none (.loop ⟨[(6,y62,.own .ro)],[.val 11 y2],[0,1,4,12]⟩ (.seq (.seq (.reg (some ⟨[(6,y62,.own .ro)],[.val 47 y4],[0,1,4,11,12]⟩) []) .nop) .nop))) (.seq (.block none (.loop ⟨[(6,y62,.own .ro)],[.val 12 y2],[0,1,4,11]⟩ (.seq (.seq (.reg (some ⟨[(6,y62,.own .ro)],[.val 65 y4],[0,1,4,11,12]⟩) []) .nop) .nop))) .nop))))) .nop)))) A1 A20 [0] A13 (Kr n)
def Kt(v1:Nat)(v2:T64):Option ((Int×Bool×Unit)×(List (Bool×Int))×Unit):=if 0<=v2.2.2.2.1 then(match v2.1[(v2.2.2.2.1).toNat]? with|some v3=>if 0<=v2.2.1 then(match v2.1[(v2.2.1).toNat]? with|some v4=>if 0<=v2.2.1 then(match v2.1[(v2.2.1).toNat]? with|some v5=>if 0<=v2.2.1 then(match v2.1[(v2.2.1).toNat]? with|some v6=>if 0<=v2.2.2.2.1 then(match(List.set v2.1 (v2.2.1).toNat v3)[(v2.2.2.2.1).toNat]? with|some v7=>if 0<=v2.2.2.2.1 then(match(List.set v2.1 (v2.2.1).toNat v3)[(v2.2.2.2.1).toNat]? with|some v8=>aq (λ(v9:T47)=>λv10=>aj (λ(v11:T51)=>bif v11.2.1 then v10 ((v11.1.1,()),IntKind.wrap .i64 (v9.2.1+1),())else aq (λ(v12:T47)=>λv13=>aj (λ(v14:T51)=>bif v14.2.1 then v13 ((v14.1.1,()),IntKind.wrap .i64 (v12.2.1-1),())else bif decide (v12.2.1<v9.2.1)then if 0<=v2.2.1 then(match v14.1.1[(v2.2.1).toNat]? with|some v15=>if 0<=v12.2.1 then(match v14.1.1[(v12.2.1).toNat]? with|some v16=>if 0<=v12.2.1 then(match v14.1.1[(v12.2.1).toNat]? with|some v17=>if 0<=v12.2.1 then(match v14.1.1[(v12.2.1).toNat]? with|some v18=>if 0<=v2.2.1 then(match(List.set v14.1.1 (v12.2.1).toNat v15)[(v2.2.1).toNat]? with|some v19=>if 0<=v2.2.1 then(match(List.set v14.1.1 (v12.2.1).toNat v15)[(v2.2.1).toNat]? with|some v20=>some ((v12.2.1,true,()),List.set (List.set v14.1.1 (v12.2.1).toNat v15) (v2.2.1).toNat v16,())|none=>none)else none|none=>none)else none|none=>none)else none|none=>none)else none|none=>none)else none|none=>none)else none else if 0<=v12.2.1 then(match v14.1.1[(v12.2.1).toNat]? with|some v21=>if 0<=v9.2.1 then(match v14.1.1[(v9.2.1).toNat]? with|some v22=>if 0<=v9.2.1 then(match v14.1.1[(v9.2.1).toNat]? with|some v23=>if 0<=v9.2.1 then(match v14.1.1[(v9.2.1).toNat]? with|some v24=>if 0<=v12.2.1 then(match(List.set v14.1.1 (v9.2.1).toNat v21)[(v12.2.1).toNat]? with|some v25=>if 0<=v12.2.1 then(match(List.set v14.1.1 (v9.2.1).toNat v21)[(v12.2.1).toNat]? with|some v26=>aq (λ(v27:T61)=>λv28=>aq (λ(v29:T47)=>λv30=>aj (λ(v31:T51)=>bif v31.2.1 then v30 ((v31.1.1,()),IntKind.wrap .i64 (v29.2.1+1),())else aq (λ(v32:T47)=>λv33=>aj (λ(v34:T51)=>bif v34.2.1 then v33 ((v34.1.1,()),IntKind.wrap .i64 (v32.2.1-1),())else bif decide (v32.2.1<v29.2.1)then if 0<=v2.2.1 then(match v34.1.1[(v2.2.1).toNat]? with|some v35=>if 0<=v32.2.1 then(match v34.1.1[(v32.2.1).toNat]? with|some v36=>if 0<=v32.2.1 then(match v34.1.1[(v32.2.1).toNat]? with|some v37=>if 0<=v32.2.1 then(match v34.1.1[(v32.2.1).toNat]? with|some v38=>if 0<=v2.2.1 then(match(List.set v34.1.1 (v32.2.1).toNat v35)[(v2.2.1).toNat]? with|some v39=>if 0<=v2.2.1 then(match(List.set v34.1.1 (v32.2.1).toNat v35)[(v2.2.1).toNat]? with|some v40=>some ((v32.2.1,false,()),List.set (List.set v34.1.1 (v32.2.1).toNat v35) (v2.2.1).toNat v36,())|none=>none)else none|none=>none)else none|none=>none)else none|none=>none)else none|none=>none)else none|none=>none)else none else if 0<=v32.2.1 then(match v34.1.1[(v32.2.1).toNat]? with|some v41=>if 0<=v29.2.1 then(match v34.1.1[(v29.2.1).toNat]? with|some v42=>if 0<=v29.2.1 then(match v34.1.1[(v29.2.1).toNat]? with|some v43=>if 0<=v29.2.1 then(match v34.1.1[(v29.2.1).toNat]? with|some v44=>if 0<=v32.2.1 then(match(List.set v34.1.1 (v29.2.1).toNat v41)[(v32.2.1).toNat]? with|some v45=>if 0<=v32.2.1 then(match(List.set v34.1.1 (v29.2.1).toNat v41)[(v32.2.1).toNat]? with|some v46=>v28 ((List.set (List.set v34.1.1 (v29.2.1).toNat v41) (v32.2.1).toNat v42,()),IntKind.wrap .i64 (v29.2.1+1),IntKind.wrap .i64 (v32.2.1-1),())|none=>none)else none|none=>none)else none|none=>none)else none|none=>none)else none|none=>none)else none|none=>none)else none) (λv47=>bif decide (v29.2.1<=v32.2.1)then if 0<=v32.2.1 then(match v32.1.1[(v32.2.1).toNat]? with|some v48=>if 0<=v2.2.1 then(match v32.1.1[(v2.2.1).toNat]? with|some v49=>af (p83 v1 (v48,v49,())) (λ(v50:T5)=>v47 ((v32.1.1,()),!(decide (v50.1.1<0)),()))|none=>none)else none|none=>none)else none else v47 ((v32.1.1,()),false,()))) v1 ((v31.1.1,()),v27.2.2.1,())) (λv51=>bif decide (v29.2.1<=v27.2.2.1)then if 0<=v29.2.1 then(match v29.1.1[(v29.2.1).toNat]? with|some v52=>if 0<=v2.2.1 then(match v29.1.1[(v2.2.1).toNat]? with|some v53=>af (p83 v1 (v52,v53,())) (λ(v54:T5)=>v51 ((v29.1.1,()),decide (v54.1.1<0),()))|none=>none)else none|none=>none)else none else v51 ((v29.1.1,()),false,()))) v1 ((v27.1.1,()),v27.2.1,())) v1 ((List.set (List.set v14.1.1 (v9.2.1).toNat v21) (v12.2.1).toNat v22,()),IntKind.wrap .i64 (v9.2.1+1),IntKind.wrap .i64 (v12.2.1-1),())|none=>none)else none|none=>none)else none|none=>none)else none|none=>none)else none|none=>none)else none|none=>none)else none) (λv55=>bif decide (v9.2.1<=v12.2.1)then if 0<=v12.2.1 then(match v12.1.1[(v12.2.1).toNat]? with|some v56=>if 0<=v2.2.1 then(match v12.1.1[(v2.2.1).toNat]? with|some v57=>af (p83 v1 (v56,v57,())) (λ(v58:T5)=>v55 ((v12.1.1,()),!(decide (v58.1.1<0)),()))|none=>none)else none|none=>none)else none else v55 ((v12.1.1,()),false,()))) v1 ((v11.1.1,()),IntKind.wrap .i64 (v2.2.2.1-1),())) (λv59=>bif decide (v9.2.1<=(IntKind.wrap .i64 (v2.2.2.1-1)))then if 0<=v9.2.1 then(match v9.1.1[(v9.2.1).toNat]? with|some v60=>if 0<=v2.2.1 then(match v9.1.1[(v2.2.1).toNat]? with|some v61=>af (p83 v1 (v60,v61,())) (λ(v62:T5)=>v59 ((v9.1.1,()),decide (v62.1.1<0),()))|none=>none)else none|none=>none)else none else v59 ((v9.1.1,()),false,()))) v1 ((List.set (List.set v2.1 (v2.2.1).toNat v3) (v2.2.2.2.1).toNat v4,()),IntKind.wrap .i64 (v2.2.1+1),())|none=>none)else none|none=>none)else none|none=>none)else none|none=>none)else none|none=>none)else none|none=>none)else none
def F125(n:Nat):Fb 125:=fb n [⟨_,F83 n⟩] [] [] [] Tryz.func125 Tryz.results125 Tryz.ntmps125 (.seq .nop (.seq .nop (.seq .nop (.seq (.block none (.loop ⟨[(6,y62,.own .ro)],[.val 12 y2],[0,1,4,13]⟩ (.seq (.seq (.reg (some ⟨[(6,y62,.own .ro)],[.val 47 y4],[0,1,4,12,13]⟩) []) .nop) .nop))) (.seq (.block none (.loop ⟨[(6,y62,.own .ro)],[.val 13 y2],[0,1,4,12]⟩ (.seq (.seq (.reg (some ⟨[(6,y62,.own .ro)],[.val 66 y4],[0,1,4,12,13]⟩) []) .nop) .nop))) (.seq .nop (.seq .nop (.seq .nop (.seq .nop (.seq (.block none (.loop ⟨[(6,y62,.own .ro)],[.val 12 y2,.val 13 y2],[0,1,4]⟩ (.block none (.seq (.block none (.loop ⟨[(6,y62,.own .ro)],[.val 12 y2],[0,1,4,13]⟩ (.seq (.seq (.reg (some ⟨[(6,y62,.own .ro)],[.val 120 y4],[0,1,4,12,13]⟩) []) .nop) .nop))) (.seq (.block none (.loop ⟨[(6,y62,.own .ro)],[.val 13 y2],[0,1,4,12]⟩ (.seq (.seq (.reg (some ⟨[(6,y62,.own .ro)],[.val 139 y4],[0,1,4,12,13]⟩) []) .nop) .nop))) .nop))))) .nop)))))))))) A1 [(y2,.ro),(y4,.ro)] [0] A13 (Kt n)
abbrev HI:=Qt A1 [] A13
abbrev HJ(q:HI):Callee:=⟨_,_,[0],_,q⟩
theorem Ku:Plain Tryz.prog 104:=pl Tryz.func104
abbrev Kv(BM:HI):=dC Tryz.prog 104 (HJ BM)
def BN(v1:Nat)(v2:((List (Bool×Int))×Int×Int×Int×Unit×Unit)->Option (Unit×(List (Bool×Int))×Unit))(v3:T64):T48:=aq (λ(v4:T72)=>λv5=>aj (λ(v6:T72)=>v5 ((v6.1.1,()),v6.2.1,v6.2.2.1,v6.2.2.2.1,v6.2.2.2.2.1,v6.2.2.2.2.2.1,())) (λv7=>bif decide ((IntKind.wrap .i64 (v4.2.2.1-v4.2.1))<=12)then af (Ki v1 (v4.1.1,v4.2.1,v4.2.2.1,v3.2.2.2.2.1,())) (λ(v8:T32)=>some ((),v8.2.1,()))else bif decide (v4.2.2.2.1=0)then af (Kj v1 (v4.1.1,v4.2.1,v4.2.2.1,v3.2.2.2.2.1,())) (λ(v9:T32)=>some ((),v9.2.1,()))else aj (λ(v10:T47)=>af (Ko v1 (v10.1.1,v4.2.1,v4.2.2.1,v3.2.2.2.2.1,())) (λ(v11:T9)=>aj (λ(v12:T61)=>aj (λ(v13:T51)=>aj (λ(v14:T37)=>aj (λ(v15:T51)=>bif v15.2.1 then af (Kr v1 (v15.1.1,v4.2.1,v4.2.2.1,v12.2.1,v3.2.2.2.2.1,())) (λ(v16:((Int×Unit)×(List (Bool×Int))×Unit))=>v7 ((v16.2.1,()),v16.1.1,v4.2.2.1,v10.2.1,v4.2.2.2.2.1,v4.2.2.2.2.2.1,()))else af (Kt v1 (v15.1.1,v4.2.1,v4.2.2.1,v12.2.1,v3.2.2.2.2.1,())) (λ(v17:((Int×Bool×Unit)×(List (Bool×Int))×Unit))=>if(8:Int)=0 then none else aj (λ(v18:(((List (Bool×Int))×Unit)×Int×Int×Bool×Unit))=>v7 ((v18.1.1,()),v18.2.1,v18.2.2.1,v10.2.1,v18.2.2.2.1,v17.1.2.1,())) (λv19=>bif decide ((IntKind.wrap .i64 (v17.1.1-v4.2.1))<(IntKind.wrap .i64 (v4.2.2.1-v17.1.1)))then af (v2 (v17.2.1,v4.2.1,v17.1.1,v10.2.1,v3.2.2.2.2.1,())) (λ(v20:T32)=>v19 ((v20.2.1,()),IntKind.wrap .i64 (v17.1.1+1),v4.2.2.1,decide ((IntKind.wrap .i64 (Int.tdiv (IntKind.wrap .i64 (v4.2.2.1-v4.2.1)) 8))<=(IntKind.wrap .i64 (v17.1.1-v4.2.1))),()))else af (v2 (v17.2.1,IntKind.wrap .i64 (v17.1.1+1),v4.2.2.1,v10.2.1,v3.2.2.2.2.1,())) (λ(v21:T32)=>v19 ((v21.2.1,()),v4.2.1,v17.1.1,decide ((IntKind.wrap .i64 (Int.tdiv (IntKind.wrap .i64 (v4.2.2.1-v4.2.1)) 8))<=(IntKind.wrap .i64 (v4.2.2.1-v17.1.1))),()))))) (λv22=>bif decide (0<v4.2.1)then if 0<=(IntKind.wrap .i64 (v4.2.1-1))then(match v14.1.1[(IntKind.wrap .i64 (v4.2.1-1)).toNat]? with|some v23=>if 0<=v12.2.1 then(match v14.1.1[(v12.2.1).toNat]? with|some v24=>af (p83 v1 (v23,v24,())) (λ(v25:T5)=>v22 ((v14.1.1,()),!(decide (v25.1.1<0)),()))|none=>none)else none|none=>none)else none else v22 ((v14.1.1,()),false,()))) (λv26=>bif v13.2.1 then af (Kq v1 (v13.1.1,v4.2.1,v4.2.2.1,v3.2.2.2.2.1,())) (λ(v27:((Bool×Unit)×(List (Bool×Int))×Unit))=>bif v27.1.1 then some ((),v27.2.1,())else v26 ((v27.2.1,()),()))else v26 ((v13.1.1,()),()))) (λv28=>bif v4.2.2.2.2.1 then bif v4.2.2.2.2.2.1 then v28 ((v12.1.1,()),decide (v12.2.2.1=1),())else v28 ((v12.1.1,()),false,())else v28 ((v12.1.1,()),false,()))) (λv29=>bif decide (v11.1.2.1=2)then af (Kp v1 (v10.1.1,v4.2.1,v4.2.2.1,v3.2.2.2.2.1,())) (λ(v30:T32)=>v29 ((v30.2.1,()),IntKind.wrap .i64 ((IntKind.wrap .i64 (v4.2.2.1-1))-(IntKind.wrap .i64 (v11.1.1-v4.2.1))),1,()))else v29 ((v10.1.1,()),v11.1.1,v11.1.2.1,())))) (λv31=>bif !v4.2.2.2.2.1 then af (Km v1 (v4.1.1,v4.2.1,v4.2.2.1,v3.2.2.2.2.1,())) (λ(v32:T32)=>v31 ((v32.2.1,()),IntKind.wrap .i64 (v4.2.2.2.1-1),()))else v31 ((v4.1.1,()),v4.2.2.2.1,())))) v1 ((v3.1,()),v3.2.1,v3.2.2.1,v3.2.2.2.1,true,true,())
theorem M6(n:Nat)(BM:HI)(h:Kv BM):dC Tryz.prog 104 (HJ (BN n BM)):=(fb n [⟨_,F83 n⟩,⟨_,F118 n⟩,⟨_,F119 n⟩,⟨_,F120 n⟩,⟨_,F121 n⟩,⟨_,F122 n⟩,⟨_,F123 n⟩,⟨_,F124 n⟩,⟨_,F125 n⟩,⟨_,⟨_,h,Ku⟩⟩] [] [] [] Tryz.func104 Tryz.results104 Tryz.ntmps104 (.seq .nop (.seq .nop (.block none (.loop ⟨[(6,y62,.own .ro)],[.val 1 y2,.val 2 y2,.val 3 y2,.val 10 y4,.val 11 y4],[0,4]⟩ (.block (some ⟨[(6,y62,.own .ro)],[.val 1 y2,.val 2 y2,.val 3 y2,.val 10 y4,.val 11 y4],[0,4]⟩) (.seq .nop (.seq .nop (.seq .nop (.seq (.seq .nop (.cond (some ⟨[(6,y62,.own .ro)],[.val 3 y2],[0,1,2,4,10,11,12]⟩) .nop .nop)) (.seq .nop (.seq (.seq .nop (.cond (some ⟨[(6,y62,.own .ro)],[.val 13 y2,.val 14 y2],[0,1,2,3,4,10,11,12]⟩) .nop .nop)) (.seq (.seq (.reg (some ⟨[(6,y62,.own .ro)],[.val 75 y4],[0,1,2,3,4,10,11,12,13]⟩) []) (.cond (some ⟨[(6,y62,.own .ro)],[],[0,1,2,3,4,10,11,12,13]⟩) .nop .nop)) (.seq (.seq (.reg (some ⟨[(6,y62,.own .ro)],[.val 97 y4],[0,1,2,3,4,10,11,12,13]⟩) []) .nop) (.seq .nop (.seq .nop (.seq .nop (.seq .nop (.seq .nop (.cond (some ⟨[(6,y62,.own .ro)],[.val 1 y2,.val 2 y2,.val 10 y4],[0,3,4,11]⟩) .nop .nop))))))))))))))))))) A1 [] [0] A13 (BN n BM)).o
def BO(n:Nat):Nat->T64->T48
 |0,_=>none
 |d+1,x=>BN n (BO n d) x
theorem Kw(n:Nat):∀ d,Kv (BO n d)
 |0=>(λx r h=>by cases h)
 |d+1=>M6 n _ (Kw n d)
def Kx(n:Nat)(x:T64):T48:=BO n n x
def F104(n:Nat):Fb 104:=⟨HJ (Kx n),Kw n n,Ku⟩
def p82(v1:Nat)(v2:((List (Bool×Int))×Unit×Unit)):T48:=af (HF v1 (IntKind.wrap .u64 (v2.1.length:Int),())) (λ(v3:T5)=>af (Kx v1 (v2.1,0,(v2.1.length:Int),v3.1.1,v2.2.1,())) (λ(v4:T32)=>some ((),v4.2.1,())))
def F82(n:Nat):Fb 82:=fb n [⟨_,F83 n⟩,⟨_,F105 n⟩,⟨_,F104 n⟩] [] [] [] Tryz.func82 Tryz.results82 Tryz.ntmps82 (.nop) [(y62,.own .ro),(.fn 83,.ro)] [] [0] A13 (p82 n)
end
end Go.Proofs.YthalkfdkbalpmaaGreat.Rf
namespace Go.Proofs.YthalkfdkbalpmaaGreat.Rf
open Go Go.RowKit
noncomputable section
theorem iq{P:Program}(w:World)(dT sT ty elem:TypeId)(z b o HK M7:Nat)(a:Addr)(HL M8:Nat)(cs:List Value)
 (hu:P.underlying dT=some (.slice elem)) (hs:(P.info? elem).map (·.size)=some z) (hn:cs.length=Nat.min HL HK*z)
 (Gl:∀ j v,cs[j]?=some v->w.cell? (a.add j)=some v) (hc:∀ j,j<cs.length->(w.cell? ⟨b,o+j,none⟩).isSome=true) (hf:∀ j,j<cs.length->w.frozen? ⟨b,o+j,none⟩=false) (h1:∀ v∈cs,v.oneCell'=true):
 (Builtin.copy_ #[dT,sT] ty #[.slice (some ⟨b,o,none⟩) HK M7,.slice (some a) HL M8]).run P w=.ok (goInt (Nat.min HL HK)) (w.setCells b o cs):=by
 have hl:=run_loadCells_list (P:=P) w a cs Gl
 have hst:=run_storeCells_cells (P:=P) b o cs 0 w (by simpa using hc) (by simpa using hf) h1
 cases hq:P.info? elem with
 |none=>simp[hq]at hs
 |some i=>
  have hi:i.size=z:=by simpa [hq]using hs
  rw[hn]at hl
  simp[Builtin.copy_,run_underlying hu,Builtin.lenOf,Builtin.firstCells,sizeOf,typeInfo,hq,hi,hl,hst]
theorem dQ{P:Program}(w:World){ops:Array Oper}{rest:List Oper}{o:Oper}{a:Act}{Q:Exit->Act->World->Prop}
 (hg:o.guard=none) (s x:Operand) (t tx:TypeId) (hop:o.op=Op.call {callee:=Callee.builtin Builtin.append,args:=#[s,x],argTypes:=#[t,tx]})
 (v1 v2:Value) (hs:a.eval s=v1) (hx:a.eval x=v2) (z:Value) (w':World) (aO:(Builtin.append_ #[t,tx] o.type #[v1,v2]).run P w=.ok z w')
 (hK:wpList P ops Q rest (a.put o.dst z) w'):wpList P ops Q (o::rest) a w:=by
 refine wpList_plain hg λK hK'=>?_
 unfold Oper.wp
 simp[execOp,hop,Go.resolve,invoke,builtin,hs,hx,aO,Result.andThen]
 exact hK' _ _ hK
set_option maxRecDepth 100000 in
theorem EB(ao:Option Addr)(n cap:Nat)(ad:Addr)(vc:Nat)(w:World)(hnc:n<=cap)(hn:(cap:Int)<=9223372036854775807)(hvc:1<=vc)(v:Value)(w1:World)
 (Kz:(Builtin.append_ #[60,60] 60 #[.slice ao n cap,.slice (some ad) 1 vc]).run Tryz.prog w=.ok v w1):
 Calls Tryz.prog 102 #[.slice ao n cap,.int .i64 n,.slice (some ad) 1 vc] w λe w'=>e=.returned v/\w'=w1:=by
 have H:=Lib.hid Kz
 clear Kz
 go_enter Tryz.func102,Tryz.ntmps102
 cases ao with
 |none=>
  go_wp2_with (at_builtin;refine dQ _ rfl _ _ 60 60 rfl _ _ rfl rfl _ _ H.out ?_)
  go_ret
  exact⟨rfl,rfl⟩
 |some a=>
  obtain⟨ab,aof,asp⟩:=a
  go_wp2_with (at_builtin;refine dQ _ rfl _ _ 60 60 rfl _ _ rfl rfl _ _ H.out ?_)
  all_goals (go_ret;exact⟨rfl,rfl⟩)
theorem jk{P:Program}{ops:Array Oper}{o:Oper}{a:Act}{w:World}{K:Act->World->Prop}{Q:Exit->Act->World->Prop}{E:Prop}
 (hg:o.guard=none) (d x:Operand) (dT sT:TypeId) (hop:o.op=Op.call {callee:=Callee.builtin Builtin.copy,args:=#[d,x],argTypes:=#[dT,sT]})
 (v u:Value) (hd:a.eval d=v) (hx:a.eval x=u) {v':Value} {w':World} (hr:(Builtin.copy_ #[dT,sT] o.type #[v,u]).run P w=.ok v' w') (hK:K (a.put o.dst v') w'):
 if Region.wanted o (yielded ops a.tmps)=true then Oper.wp P o a w K Q else E:=by
 have hw:Region.wanted o (yielded ops a.tmps)=true:=by simp[Region.wanted,hg]
 rw[if_pos hw]
 unfold Oper.wp
 simp[execOp,hop,Go.resolve,invoke,builtin,hd,hx,hr,Result.andThen]
 exact hK
theorem eI{P:Program}(w:World){ops:Array Oper}{rest:List Oper}{o:Oper}{a:Act}{Q:Exit->Act->World->Prop}(hgd:o.guard=none)(d s:Operand)(t t':TypeId)
 (ho:o.op=.call {callee:=.builtin .copy,args:=#[d,s],argTypes:=#[t,t']}) (v u:Value) (hd:a.eval d=v) (hs:a.eval s=u) {v':Value} {w':World}
 (hr:(Builtin.copy_ #[t,t'] o.type #[v,u]).run P w=.ok v' w') (h:wpList P ops Q rest (a.put o.dst v') w'):wpList P ops Q (o::rest) a w:=
 wpList_plain hgd λ_ hK=>by
  unfold Oper.wp
  simp[execOp,ho,Go.resolve,invoke,builtin,hd,hs,hr,Result.andThen]
  exact hK _ _ h
theorem mc(b:Nat)(vs:List Value)(o:Nat)(w:World)(h:∀ j,j<vs.length->(w.cell? ⟨b,o+j,none⟩).isSome=true)(k:Nat)(hk:(w.cell? ⟨b,k,none⟩).isSome=true):((w.setCells b o vs).cell? ⟨b,k,none⟩).isSome=true:=by
 by_cases hin:o<=k/\k<o+vs.length
 ·have:=World.cell?_setCells_in b vs o w h (k-o) (by omega)
  rw[show o+(k-o)=k by omega]at this
  rw[this];rfl
 ·rw[World.cell?_setCells_out b vs o w ⟨b,k,none⟩ (λ_ _=>by show k<o\/o+vs.length<=k;omega)]
  exact hk
set_option maxHeartbeats 4000000 in
set_option maxRecDepth 100000 in
theorem zo(b off n c i vb gy vc:Nat)(cs vs:List Value)(w:World)(hi:i<n)(cf:n+1<=c)(IE:(c:Int)<=9223372036854775807)(hvb:vb≠b)
 (hcl:cs.length=n*3) (hvl:vs.length=3)
 (hcs:∀ j v,cs[j]?=some v->w.cell? ⟨b,off+j,none⟩=some v) (hsp:∀ j,j<(n+1)*3->(w.cell? ⟨b,off+j,none⟩).isSome=true) (hfz:∀ j,j<(n+1)*3->w.frozen? ⟨b,off+j,none⟩=false)
 (hvs:∀ j v,vs[j]?=some v->w.cell? ⟨vb,gy+j,none⟩=some v) (h1c:∀ v∈cs,v.oneCell'=true) (h1v:∀ v∈vs,v.oneCell'=true)
 (tA tB:TypeId) (kA kB:Nat) (hsa:w.shape? vb=some (tA,kA)) (hsb:w.shape? b=some (tB,kB)) (hkB:kB≠0) (hfa:w.frozen? ⟨vb,gy,none⟩=false) (hfe:w.frozen? ⟨vb,kA,none⟩=false)
 (hsz:(Tryz.prog.info? 117).map (·.size)=some 3):
 Calls Tryz.prog 102 #[.slice (some ⟨b,off,none⟩) n c,.int .i64 i,.slice (some ⟨vb,gy,none⟩) 1 vc] w λe w'=>
  e=.returned (.slice (some ⟨b,off,none⟩) (n+1) c)/\w'=(w.drew.setCells b (off+(i+1)*3) (cs.drop (i*3))).setCells b (off+i*3) vs:=by
 have mixed:Tryz.prog.follows .mixedOrders=true:=by kernel_rfl
 have hz2:¬((i:Int)=(n:Int)):=by omega
 have M9:∀ w,(Go.sizeOf 117).run Tryz.prog w=.ok 3 w:=λw=>by
  cases hq:Tryz.prog.info? 117 with
  |none=>simp[hq]at hsz
  |some q=>
   have:q.size=3:=by simpa [hq]using hsz
   simp[Go.sizeOf,typeInfo,hq,this]
 have hov:∀ lb cb,(callFunc 116 #[.slice (some ⟨vb,gy,none⟩) 1 vc,.slice (some ⟨b,off+(i+1)*3,none⟩) lb cb]).run Tryz.prog w=.ok (.value (.bool false)) w:=λlb cb=>by
  rw[run_callFunc_extern Tryz.func116 (by kernel_rfl) (by kernel_rfl) (by kernel_rfl) (e:=Extern.SlicesOverlaps.overlaps #[60,60] #[4]) (by kernel_rfl),
   Lib.run_overlaps_apart w 60 4 117 Tryz.underlying60 3 M9 ⟨vb,gy,none⟩ ⟨b,off+(i+1)*3,none⟩ 1 vc lb cb hvb tA tB kA kB hsa hsb hkB hfa hfe]
  rfl
 have hdl:(cs.drop (i*3)).length=(n-i)*3:=by rw[List.length_drop,hcl,Nat.sub_mul]
 have hw1:IntKind.i64.wrap ((i:Int)+1)=(i:Int)+1:=by rw[IntKind.wrap_i64];omega
 have hb1:(0:Int)<=(i:Int)+1:=by omega
 have hin:i<=n:=by omega
 have htn:((i:Int)+1).toNat=i+1:=by omega
 have hb2:¬(c=i+1):=by omega
 have hb3:(i:Int)<=(n:Int)+1:=by omega
 have hb4:¬(c=i):=by omega
 have KA:∀ ty dc sc,(Builtin.copy_ #[60,60] ty #[.slice (some ⟨b,off+(i+1)*3,none⟩) (n-i) dc,.slice (some ⟨b,off+i*3,none⟩) (n+1-i) sc]).run Tryz.prog w.drew=.ok (goInt (Nat.min (n+1-i) (n-i))) (w.drew.setCells b (off+(i+1)*3) (cs.drop (i*3))):=λty dc sc=>
  iq w.drew _ _ ty 117 3 b (off+(i+1)*3) (n-i) dc ⟨b,off+i*3,none⟩ (n+1-i) sc (cs.drop (i*3)) Tryz.underlying60 hsz (by rw[hdl];congr 1;simp only[Nat.min_def];split <;> omega)
   (λj v hj=>by rw[Addr.add_lit,Nat.add_assoc];exact hcs (i*3+j) v (by rwa [List.getElem?_drop]at hj))
   (λj hj=>by rw[Nat.add_assoc];exact hsp _ (by omega)) (λj hj=>by rw[Nat.add_assoc];exact hfz _ (by omega)) (λv hv=>h1c v (List.mem_of_mem_drop hv))
 obtain⟨W1,hW1⟩:∃ W1,W1=w.drew.setCells b (off+(i+1)*3) (cs.drop (i*3)):=⟨_,rfl⟩
 have Na:∀ k,k<(n+1)*3->(W1.cell? ⟨b,off+k,none⟩).isSome=true:=λk hk=>by
  rw[hW1]
  exact mc b _ _ _ (λj hj=>by rw[Nat.add_assoc];exact hsp _ (by omega)) _ (hsp k hk)
 have Nb:∀ (W:World),(∀ x,W.cell? x=W1.cell? x)->(∀ x,W.frozen? x=W1.frozen? x)->∀ ty dc,(Builtin.copy_ #[60,60] ty #[.slice (some ⟨b,off+i*3,none⟩) (n+1-i) dc,.slice (some ⟨vb,gy,none⟩) 1 vc]).run Tryz.prog W=.ok (goInt (Nat.min 1 (n+1-i))) (W.setCells b (off+i*3) vs):=λW hWc hWf ty dc=>
  iq W _ _ ty 117 3 b (off+i*3) (n+1-i) dc ⟨vb,gy,none⟩ 1 vc vs Tryz.underlying60 hsz (by rw[hvl];have:Nat.min 1 (n+1-i)=1:=Nat.min_eq_left (by omega);rw[this])
   (λj v hj=>by
    rw[Addr.add_lit,hWc,hW1,World.cell?_setCells_out b _ _ _ _ (λh _=>absurd h hvb)]
    exact hvs j v hj)
   (λj hj=>by rw[hWc,Nat.add_assoc];exact Na _ (by omega)) (λj hj=>by rw[hWf,hW1,World.frozen?_setCells,Nat.add_assoc];exact hfz _ (by omega)) h1v
 rw[<-hW1]at KA
 go_enter Tryz.func102,Tryz.ntmps102
 go_wp2_with (simp only[hov])
 go_region_law_o (refine jk rfl _ _ 60 60 rfl _ _ (by simp[Act.eval,Act.put]) (by simp[Act.eval,Act.put]) (KA _ _ _) ?_)
 go_wp2_with (at_builtin;refine eI _ rfl _ _ 60 60 rfl _ _ rfl rfl (Nb _ (λ_=>rfl) (λ_=>rfl) _ _) ?_)
 go_ret
 first|exact⟨rfl,rfl⟩|exact⟨rfl,by rw[hW1]⟩
set_option maxHeartbeats 4000000 in
set_option maxRecDepth 100000 in
theorem BP(b off n c i vb gy vc:Nat)(cs vs:List Value)(w:World)(hi:i<n)(hnc:n<=c)(cf:c<n+1)(tu:(n+1)*24<=140737488355328)
 (hcl:cs.length=n*3) (hvl:vs.length=3)
 (hcs:∀ j v,cs[j]?=some v->w.cell? ⟨b,off+j,none⟩=some v)
 (hvs:∀ j v,vs[j]?=some v->w.cell? ⟨vb,gy+j,none⟩=some v) (h1c:∀ v∈cs,v.oneCell'=true) (h1v:∀ v∈vs,v.oneCell'=true)
 (hbw:b<w.heap.size) (hvw:vb<w.heap.size) (i0:TypeInfo) (z:Value) (hi0:Tryz.prog.info? 117=some i0) (hz0:i0.zero=some z) (hzs:i0.size=3) (hzb:i0.bytes=24) (hzc:z.cells.size=3):
 Calls Tryz.prog 102 #[.slice (some ⟨b,off,none⟩) n c,.int .i64 i,.slice (some ⟨vb,gy,none⟩) 1 vc] w λe w'=>
  e=.returned (.slice (some ⟨w.heap.size,0,none⟩) (n+1) (grownCap w (n+1) c 117))/\
  w'=(((w.alloc (.cells ((cs.take (i*3)).toArray++Builtin.zeroCells z.cells (n+1-i)++Builtin.zeroCells z.cells (grownCap w (n+1) c 117-(n+1))) 117)).drew.setCells w.heap.size (i*3) vs).drew).setCells w.heap.size ((i+1)*3) (cs.drop (i*3)):=by
 have mixed:Tryz.prog.follows .mixedOrders=true:=by kernel_rfl
 have hz2:¬((i:Int)=(n:Int)):=by omega
 have hz3:(c:Int)<(n:Int)+1:=by omega
 have hsz:(Tryz.prog.info? 117).map (·.size)=some 3:=by rw[hi0];simp[hzs]
 have hkk:(n:Int)+1-(i:Int)=((n+1-i:Nat):Int):=by omega
 have hik:i+(n+1-i)=n+1:=by omega
 have hold:(Builtin.firstCells i0.size i (.slice (some ⟨b,off,none⟩) i c)).run Tryz.prog w.drew=.ok (cs.take (i*3)).toArray w.drew:=by
  rw[hzs]
  exact run_firstCells_some w.drew 3 i ⟨b,off,none⟩ i c (cs.take (i*3)) (by rw[List.length_take];omega) (λj v hj=>by
   rw[Addr.add_lit]
   rw[List.getElem?_take]at hj
   split at hj
   ·exact hcs j v hj
   ·cases hj)
 have hrz:∀ ty,(Builtin.append_ #[60,3] ty #[.slice (some ⟨b,off,none⟩) i c,.int .i64 ((n:Int)+1-(i:Int))]).run Tryz.prog w=
  .ok (.slice (some ⟨w.heap.size,0,none⟩) (n+1) (grownCap w (n+1) c 117)) (w.drew.alloc (.cells ((cs.take (i*3)).toArray++Builtin.zeroCells z.cells (n+1-i)++Builtin.zeroCells z.cells (grownCap w (n+1) c 117-(n+1))) 117)):=λty=>by
  have h:=Lib.run_append_grow_zeros (P:=Tryz.prog) w 60 3 ty 117 i0 z .i64 .i64 Tryz.underlying60 Tryz.underlying3 hi0 hz0 (some ⟨b,off,none⟩) i c (cs.take (i*3)) hold (n+1-i) (by omega) (by omega) (by omega) (by omega) (by rw[hzb];omega) (by rw[hzb,hik];exact growslice_fits cf tu)
  rw[hik]at h
  rw[hkk]
  exact h
 obtain⟨G,hG⟩:∃ G,G=grownCap w (n+1) c 117:=⟨_,rfl⟩
 obtain⟨ROW,tv⟩:∃ ROW:Array Value,ROW=(cs.take (i*3)).toArray++Builtin.zeroCells z.cells (n+1-i)++Builtin.zeroCells z.cells (G-(n+1)):=⟨_,rfl⟩
 rw[<-hG]at hrz |-
 rw[<-tv]at hrz |-
 have hRl:(n+1)*3<=ROW.size:=by
  rw[tv]
  simp only[Array.size_append,size_zeroCells,hzc,List.size_toArray,List.length_take,hcl]
  have:min (i*3) (n*3)=i*3:=Nat.min_eq_left (by omega)
  omega
 obtain⟨W1,hW1⟩:∃ W1,W1=w.drew.alloc (.cells ROW 117):=⟨_,rfl⟩
 rw[<-hW1]at hrz
 have hN:∀ j,j<(n+1)*3->(W1.cell? ⟨w.heap.size,j,none⟩).isSome=true:=λj hj=>by
  rw[hW1,World.cell?_alloc_at (w:=w.drew) ROW _ w.heap.size j rfl,Array.getElem?_eq_getElem (by omega)];rfl
 have hNf:∀ j,W1.frozen? ⟨w.heap.size,j,none⟩=false:=λj=>by rw[hW1];exact World.frozen?_alloc_at (w:=w.drew) ROW _ w.heap.size j rfl
 have hOb:∀ j v,w.cell? ⟨b,j,none⟩=some v->W1.cell? ⟨b,j,none⟩=some v:=λj v h=>by rw[hW1,World.cell?_alloc_past (w:=w.drew) _ b j hbw];exact h
 have hOv:∀ j v,w.cell? ⟨vb,j,none⟩=some v->W1.cell? ⟨vb,j,none⟩=some v:=λj v h=>by rw[hW1,World.cell?_alloc_past (w:=w.drew) _ vb j hvw];exact h
 have Nc:∀ (W:World),(∀ x,W.cell? x=W1.cell? x)->(∀ x,W.frozen? x=W1.frozen? x)->∀ ty dc,(Builtin.copy_ #[60,60] ty #[.slice (some ⟨w.heap.size,i*3,none⟩) (n+1-i) dc,.slice (some ⟨vb,gy,none⟩) 1 vc]).run Tryz.prog W=.ok (goInt (Nat.min 1 (n+1-i))) (W.setCells w.heap.size (i*3) vs):=λW hWc hWf ty dc=>
  iq W _ _ ty 117 3 w.heap.size (i*3) (n+1-i) dc ⟨vb,gy,none⟩ 1 vc vs Tryz.underlying60 hsz (by rw[hvl];have:Nat.min 1 (n+1-i)=1:=Nat.min_eq_left (by omega);rw[this])
   (λj v hj=>by rw[Addr.add_lit,hWc];exact hOv _ v (hvs j v hj))
   (λj hj=>by rw[hWc];exact hN _ (by omega)) (λj hj=>by rw[hWf];exact hNf _) h1v
 have hGn:n+1<=G:=by rw[hG];exact grownCap_ge w _ _ _
 have NF:G<=9223372036854775807:=by
  have:=grownCap_le_maxLen w (n+1) c 117 (by unfold maxLen;omega)
  rw[<-hG]at this
  unfold maxLen at this
  omega
 have hGi:¬(G=i):=by omega
 have NG:¬(G=i+1):=by omega
 have hci:¬(c=i):=by omega
 have hbN:b≠w.heap.size:=by omega
 have hdl:(cs.drop (i*3)).length=(n-i)*3:=by rw[List.length_drop,hcl,Nat.sub_mul]
 have KB:∀ (W:World),(∀ x,W.cell? x=(W1.setCells w.heap.size (i*3) vs).cell? x)->(∀ x,W.frozen? x=(W1.setCells w.heap.size (i*3) vs).frozen? x)->∀ ty dc sc,(Builtin.copy_ #[60,60] ty #[.slice (some ⟨w.heap.size,(i+1)*3,none⟩) (n-i) dc,.slice (some ⟨b,off+i*3,none⟩) (n-i) sc]).run Tryz.prog W=.ok (goInt (Nat.min (n-i) (n-i))) (W.setCells w.heap.size ((i+1)*3) (cs.drop (i*3))):=λW hWc hWf ty dc sc=>
  iq W _ _ ty 117 3 w.heap.size ((i+1)*3) (n-i) dc ⟨b,off+i*3,none⟩ (n-i) sc (cs.drop (i*3)) Tryz.underlying60 hsz (by rw[hdl];congr 1;exact(Nat.min_self _).symm)
   (λj v hj=>by
    rw[Addr.add_lit,hWc,World.cell?_setCells_out _ _ _ _ _ (λh _=>absurd h hbN),Nat.add_assoc]
    exact hOb _ v (hcs (i*3+j) v (by rwa [List.getElem?_drop]at hj)))
   (λj hj=>by rw[hWc];exact mc _ _ _ _ (λt ht=>hN _ (by omega)) _ (hN _ (by omega)))
   (λj hj=>by rw[hWf,World.frozen?_setCells];exact hNf _) (λv hv=>h1c v (List.mem_of_mem_drop hv))
 subst hW1
 have hE1:∀ x,((w.alloc (.cells ROW 117)).drew).cell? x=(w.drew.alloc (.cells ROW 117)).cell? x:=λx=>rfl
 have hE2:∀ x,((w.alloc (.cells ROW 117)).drew).frozen? x=(w.drew.alloc (.cells ROW 117)).frozen? x:=λx=>rfl
 have hF1:∀ x,(((w.alloc (.cells ROW 117)).drew.setCells w.heap.size (i*3) vs).drew).cell? x=((w.drew.alloc (.cells ROW 117)).setCells w.heap.size (i*3) vs).cell? x:=λx=>rfl
 have hF2:∀ x,(((w.alloc (.cells ROW 117)).drew.setCells w.heap.size (i*3) vs).drew).frozen? x=((w.drew.alloc (.cells ROW 117)).setCells w.heap.size (i*3) vs).frozen? x:=λx=>rfl
 have hw1:IntKind.i64.wrap ((i:Int)+1)=(i:Int)+1:=by rw[IntKind.wrap_i64];omega
 have hb1:(0:Int)<=(i:Int)+1:=by omega
 have hin:i<=n:=by omega
 have htn:((i:Int)+1).toNat=i+1:=by omega
 have hb3:(i:Int)<=(n:Int):=by omega
 clear hkk hik hold tv hG hRl
 go_enter Tryz.func102,Tryz.ntmps102
 go_wp2_with (first
  |(at_builtin;refine dQ _ rfl _ _ 60 3 rfl _ _ rfl rfl _ _ (hrz _) ?_)
  |(at_builtin;refine eI _ rfl _ _ 60 60 rfl _ _ rfl rfl (Nc _ hE1 hE2 _ _) ?_)
  |(at_builtin;refine eI _ rfl _ _ 60 60 rfl _ _ rfl rfl (KB _ (λ_=>rfl) (λ_=>rfl) _ _ _) ?_))
 go_region_law_o (refine jk rfl _ _ 60 60 rfl (.slice (some ⟨w.heap.size,(i+1)*3,none⟩) (n-i) (G-(i+1))) (.slice (some ⟨b,off+i*3,none⟩) (n-i) (c-i)) (by simp[Act.eval,Act.put]) (by simp[Act.eval,Act.put]) (KB _ hF1 hF2 3 (G-(i+1)) (c-i)) ?_)
 go_wp2
 go_ret
 exact⟨rfl,rfl⟩
end
noncomputable section
abbrev It:=Int×(Int×Int)
def itC(x:It):List Value:=[.int .i64 x.1,.int .i64 x.2.1,.int .u64 x.2.2]
def vu(x:It):Prop:=inK .i64 x.1/\inK .i64 x.2.1/\inK .u64 x.2.2
def itL(xs:List It):List Value:=xs.flatMap itC
theorem qG:∀ xs,(itL xs).length=xs.length*3
 |[]=>rfl
 |x::xs=>by
  show(itC x++itL xs).length=_
  rw[List.length_append,qG xs,List.length_cons]
  show 3+_=_
  omega
theorem nV(xs ys:List It):itL (xs++ys)=itL xs++itL ys:=List.flatMap_append
theorem tw:∀ (i:Nat) (xs:List It),itL (xs.take i)=(itL xs).take (i*3)
 |0,xs=>by simp[itL]
 |i+1,[]=>by simp[itL]
 |i+1,x::xs=>by
  show itC x++itL (xs.take i)=(itC x++itL xs).take ((i+1)*3)
  rw[tw i xs,show(i+1)*3=(itC x).length+i*3 by show _=3+_;omega,List.take_length_add_append]
theorem tz:∀ (i:Nat) (xs:List It),itL (xs.drop i)=(itL xs).drop (i*3)
 |0,xs=>by simp
 |i+1,[]=>by simp[itL]
 |i+1,x::xs=>by
  show itL (xs.drop i)=(itC x++itL xs).drop ((i+1)*3)
  rw[tz i xs,show(i+1)*3=(itC x).length+i*3 by show _=3+_;omega,List.drop_length_add_append]
theorem jH:∀ (xs:List It),∀ v∈itL xs,v.oneCell'=true
 |[],v,h=>by cases h
 |x::xs,v,h=>by
  rcases List.mem_append.1 (show v∈itC x++itL xs from h)with h|h
  ·simp only[itC,List.mem_cons,List.not_mem_nil,or_false]at h
   rcases h with rfl|rfl|rfl <;> rfl
  ·exact jH xs v h
theorem HM{F:ae}{w:World}{m:Md}{x:It}{cs:List Value}{S:ae}(h:Rep F w fZ m x cs S):cs=itC x/\vu x:=by
 obtain⟨c1,c2,S1,S2,rfl,⟨rfl,k1⟩,⟨c3,c4,S3,S4,rfl,⟨rfl,k2⟩,⟨rfl,k3⟩,_⟩,_⟩:=h
 exact⟨rfl,k1,k2,k3⟩
theorem HN{F:ae}{w:World}{m:Md}{x:It}(h:vu x):Rep F w fZ m x (itC x) ae.none:=
 ⟨[_],_,ae.none,ae.none,rfl,⟨rfl,h.1⟩,⟨[_],[_],ae.none,ae.none,rfl,⟨rfl,h.2.1⟩,⟨rfl,h.2.2⟩,Sub.refl _,Sub.refl _,λ_ h=>h.elim⟩,Sub.refl _,Sub.refl _,λ_ h=>h.elim⟩
theorem wT{F:ae}{w:World}{m:Md}:∀ {xs:List It} {cs:List Value} {S:ae},aF (Rep F w fZ m) xs cs S->cs=itL xs/\∀ x∈xs,vu x
 |[],cs,S,h=>⟨h,λx hx=>by cases hx⟩
 |x::xs,cs,S,h=>by
  obtain⟨c1,c2,S1,S2,rfl,h1,h2,_⟩:=h
  obtain⟨rfl,k1⟩:=HM h1
  obtain⟨rfl,k2⟩:=wT h2
  exact⟨rfl,λy hy=>by rcases List.mem_cons.1 hy with rfl|hy;exact k1;exact k2 y hy⟩
theorem qH{F:ae}{w:World}{m:Md}:∀ {xs:List It},(∀ x∈xs,vu x)->aF (Rep F w fZ m) xs (itL xs) ae.none
 |[],_=>rfl
 |x::xs,h=>⟨_,_,ae.none,ae.none,rfl,HN (h x List.mem_cons_self),qH (λy hy=>h y (List.mem_cons_of_mem _ hy)),Sub.refl _,Sub.refl _,λ_ h=>h.elim⟩
theorem vz(L A Y vs:List Value)(o1 o2:Nat)(h1:L.take o1=A)(h2:o1<=L.length)(hv:vs.length=3)(ho:o2=o1+3)(h3:o2<=L.length):
 ∀ L1,L1=L.take o2++Y++L.drop (o2+Y.length)->L1.take o1++vs++L1.drop (o1+vs.length)=A++vs++Y++L.drop (o2+Y.length):=by
 rintro L1 rfl
 have e1:(L.take o2++Y++L.drop (o2+Y.length)).take o1=A:=by
  rw[List.append_assoc,List.take_append_of_le_length (by rw[List.length_take];omega),List.take_take,show min o1 o2=o1 by omega,h1]
 have e2:(L.take o2++Y++L.drop (o2+Y.length)).drop (o1+vs.length)=Y++L.drop (o2+Y.length):=by
  rw[List.append_assoc,hv,<-ho]
  exact List.drop_left' (by rw[List.length_take];omega)
 rw[e1,e2]
 simp
end
noncomputable section
def zp(n:Nat)(x:List It×(Int×(List It×Unit))):Option ((List It×Unit)×Unit):=
 if x.2.2.1.length=1/\0<=x.2.1/\x.2.1.toNat<=x.1.length/\(x.1.length+1)*24<=140737488355328 then some ((x.1.take x.2.1.toNat++x.2.2.1++x.1.drop x.2.1.toNat,()),())else none
theorem BQ:Plain Tryz.prog 102:=⟨_,Tryz.func102,by kernel_rfl,by kernel_rfl⟩
theorem pc{F:ae}{w:World}{xs:List It}{ao:Option Addr}{cap:Nat}{S:ae}(h:Rep F w (.sl fZ) (.own .ro) xs [.slice ao xs.length cap] S)(hp:0<cap):
 xs.length<=cap/\cap<=maxLen/\(∀ x∈xs,vu x)/\∃ (b off:Nat) (c:Array Value) (e:Mark c.size 3),ao=some ⟨b,off,none⟩/\w.heap[b]?=some (.cells c e.t (e.a,e.b))/\off+cap*3<=c.size/\S b/\(c.toList.drop off).take (xs.length*3)=itL xs:=by
 obtain⟨a,cp,e0,h1,h2,h3⟩:=h
 injection e0 with e0 _
 injection e0 with q1 q2 q3
 subst q1 q3
 rcases h3 with rfl|⟨b,off,c,e,rfl,hb,hc,hS,S0,hr,_,_⟩
 ·omega
 ·obtain⟨k1,k2⟩:=wT hr
  exact⟨h1,h2,k2,b,off,c,e,rfl,hb,hc,hS,k1⟩
theorem BR{F:ae}{w:World}{xs:List It}{b off cap:Nat}{c:Array Value}(e:Mark c.size 3){S:ae}(h1:xs.length<=cap)(h2:cap<=maxLen)(hb:w.heap[b]?=some (.cells c e.t (e.a,e.b)))(hc:off+cap*3<=c.size)(hS:S b)(hk:∀ x∈xs,vu x)
 (hr:(c.toList.drop off).take (xs.length*3)=itL xs):Rep F w (.sl fZ) (.own .ro) xs [.slice (some ⟨b,off,none⟩) xs.length cap] S:=
 ⟨_,cap,rfl,h1,h2,.inr ⟨b,off,c,e,rfl,hb,hc,hS,ae.none,by
  show aF _ _ ((c.toList.drop off).take (xs.length*3)) _
  rw[hr];exact qH hk,λ_ h=>h.elim,λh=>h⟩⟩
theorem BS{F:ae}{w:World}{xs:List It}{ao:Option Addr}{cap:Nat}{S:ae}(h:Rep F w (.sl fZ) (.own .ro) xs [.slice ao xs.length cap] S):xs.length<=cap/\cap<=maxLen:=by
 obtain⟨a,cp,e0,h1,h2,h3⟩:=h
 injection e0 with e0 _
 injection e0 with q1 q2 q3
 subst q1 q3
 exact⟨h1,h2⟩
set_option maxHeartbeats 1000000 in
theorem BT(N:Nat)(xs ys:List It)(i:Nat){F:ae}{w:World}{S S1 S5:ae}{ao ao3:Option Addr}{cap nW:Nat}(hSF:Dis S F)(hF:∀ k,F k->k<w.heap.size)(hS:∀ k,S k->k<w.heap.size)
 (hy1:ys.length=1) (hin:i<=xs.length) (tu:(xs.length+1)*24<=140737488355328) (hx1:Rep F w (.sl fZ) (.own .ro) xs [.slice ao xs.length cap] S1) (hx3:Rep F w (.sl fZ) (.own .ro) ys [.slice ao3 ys.length nW] S5)
 (s1:Sub S1 S) (hS5:Sub S5 S) (Nd:Dis S1 S5):
 Calls Tryz.prog 102 #[.slice ao xs.length cap,.int .i64 i,.slice ao3 ys.length nW] w (pR ⟨[(.sl fZ,.own .ro),(y3,.ro),(.sl fZ,.own .ro)],[(.sl fZ,.own .ro)],[],[],zp N⟩ ((xs.take i++ys++xs.drop i,()),()) F w S [.slice ao xs.length cap,.int .i64 i,.slice ao3 ys.length nW]):=by
 obtain⟨hle,hcm⟩:=BS hx1
 obtain⟨NH,NI⟩:=BS hx3
 obtain⟨_,_,hyk,vb,gy,c3,e3,rfl,hb3,hc3,KC,FV⟩:=pc hx3 (by omega)
 rw[hy1]at FV |-
 have hl3:(itL ys).length=3:=by rw[qG,hy1]
 have HO:∀ j v,(itL ys)[j]?=some v->w.cell? ⟨vb,gy+j,none⟩=some v:=by
  intro j v hj
  rw[<-FV,List.getElem?_take]at hj
  split at hj
  ·rw[List.getElem?_drop]at hj
   simp only[World.cell?,hb3]
   simpa using hj
  ·cases hj
 -- the end
 have fin:∀ (v':Value) (w':World) (Sr:ae),w'.os=w.os->w'.tape=w.tape->w'.output=w.output->w.heap.size<=w'.heap.size->(∀ k,k<w.heap.size->¬S k->w'.heap[k]?=w.heap[k]?)->
  Rep F w' (.sl fZ) (.own .ro) (xs.take i++ys++xs.drop i) [v'] Sr->(∀ k,Sr k->S k\/(w.heap.size<=k/\k<w'.heap.size))->
  pR ⟨[(.sl fZ,.own .ro),(y3,.ro),(.sl fZ,.own .ro)],[(.sl fZ,.own .ro)],[],[],zp N⟩ ((xs.take i++ys++xs.drop i,()),()) F w S [.slice ao xs.length cap,.int .i64 i,.slice (some ⟨vb,gy,none⟩) 1 nW] (.returned v') w':=by
  intro v' w' Sr q1 q2 q3 q4 q5 aK hsr
  have hvr:VR (.sl fZ) [v'] v':=by
   obtain⟨a,cp,e0,_⟩:=aK
   injection e0 with e0 _
   subst e0
   simp[VR,Ty.agg,Value.oneCell']
  refine⟨[v'],F,Sr,ae.none,rfl,⟨_,[],[v'],Sr,ae.none,rfl,aK,hvr,rfl,Sub.refl _,λ_ h=>h.elim,λ_ _ h=>h.elim⟩,rfl,λ_ _ h=>h.elim,⟨q1,q2,q3,q4,q5⟩,Sub.refl _,λk hk=>Nat.lt_of_lt_of_le (hF k hk) q4,λk hk _ _=>hk,?_⟩
  rintro k (hk|hk)
  ·rcases hsr k hk with h|⟨h,h'⟩
   ·exact⟨Nat.lt_of_lt_of_le (hS k h) q4,λhf=>hSF k h hf,λ_=>h⟩
   ·exact⟨h',λhf=>by have:=hF k hf;omega,λhl=>by omega⟩
  ·exact hk.elim
 have hrl:(xs.take i++ys++xs.drop i).length=xs.length+1:=by
  rw[List.length_append,List.length_append,List.length_take,List.length_drop,hy1];omega
 by_cases ir:i=xs.length
 ·subst ir
  obtain⟨v',w',aO,q1,q2,q3,q4,q5,q6⟩:=lX (P:=Tryz.prog) (F:=F) (w:=w) hF (t:=60) (tx:=60) (ty:=60) Hb Tryz.underlying60 (me:=.ro) (x1:=xs) (x2:=ys) (v1:=.slice ao xs.length cap) (v2:=.slice (some ⟨vb,gy,none⟩) 1 nW) (S1:=S1) (S2:=ae.none) hx1 (news:=itL ys)
   (by
    have:=Src.ofSlice (P:=Tryz.prog) (w:=w) (size:=3) Tryz.underlying60 ⟨vb,gy,none⟩ 1 nW (itL ys) (by rw[hl3]) (λj v hj=>by rw[Addr.add_lit];exact HO j v hj) (jH ys)
    show Src Tryz.prog 3 60 _ ys.length _ w
    rw[hy1];exact this)
   (qH hyk) (λ_ _ h=>h.elim) (λk hk hf=>hSF k (s1 k hk) hf) (λk hk=>hS k (s1 k hk)) (λ_ h=>h.elim) (by show(xs.length+ys.length)*24<=_;rw[hy1];exact tu) (by show xs.length+ys.length<=_;rw[hy1];unfold maxLen;omega)
  refine(EB ao xs.length cap ⟨vb,gy,none⟩ nW w hle (by unfold maxLen at hcm;omega) (by omega) v' w' aO).mono λe W he=>?_
  obtain⟨rfl,rfl⟩:=he
  refine fin _ _ (λk=>S1 k\/ae.none k\/(w.heap.size<=k/\k<W.heap.size)) q1 q2 q3 q4 (λk hk hs=>q5 k hk (λh=>hs (s1 k h))) ?_ ?_
  ·rw[List.take_length,List.drop_length,List.append_nil];exact q6
  ·rintro k (h|h|h)
   ·exact .inl (s1 k h)
   ·exact h.elim
   ·exact .inr h
 ·have hi:i<xs.length:=by omega
  obtain⟨_,_,hxk,b,off,c,e,rfl,hb,hcc,hSb,eU⟩:=pc hx1 (by omega)
  have hvb:vb≠b:=λh=>Nd b hSb (h ▸ KC)
  have hbw:b<w.heap.size:=hS b (s1 b hSb)
  have hvw:vb<w.heap.size:=hS vb (hS5 vb KC)
  have hlx:=qG xs
  have hcl:c.toList.length=c.size:=Array.length_toList
  have hat:∀ j v,(itL xs)[j]?=some v->w.cell? ⟨b,off+j,none⟩=some v:=by
   intro j v hj
   rw[<-eU,List.getElem?_take]at hj
   split at hj
   ·rw[List.getElem?_drop]at hj
    simp only[World.cell?,hb]
    simpa using hj
   ·cases hj
  have fv:∀ x∈xs.take i++ys++xs.drop i,vu x:=by
   intro x hx
   rcases List.mem_append.1 hx with hx|hx
   ·rcases List.mem_append.1 hx with hx|hx
    ·exact hxk x (List.mem_of_mem_take hx)
    ·exact hyk x hx
   ·exact hxk x (List.mem_of_mem_drop hx)
  have qe:itL (xs.take i++ys++xs.drop i)=(itL xs).take (i*3)++itL ys++(itL xs).drop (i*3):=by
   rw[nV,nV,tw,tz]
  obtain⟨ti,z,hti,ht1,ht2,ht3,ht4⟩:=Hb.mQ
  have hz:z.cells.size=3:=by rw[<-Array.length_toList,ht4];rfl
  have hsz:(Tryz.prog.info? 117).map (·.size)=some 3:=by rw[hti];exact congrArg some ht1
  have hdl:((itL xs).drop (i*3)).length=(xs.length-i)*3:=by rw[List.length_drop,hlx,Nat.sub_mul]
  by_cases cf:xs.length+1<=cap
  ·have Nz:(xs.length+1)*3<=cap*3:=Nat.mul_le_mul_right _ cf
   refine(zo b off xs.length cap i vb gy nW (itL xs) (itL ys) w hi cf (by unfold maxLen at hcm;omega) hvb hlx hl3 hat (λj hj=>by simp only[World.cell?,hb];simp;omega) (λj hj=>Mark.frz (e:=e) hb rfl (by show off+j<c.size;omega)) HO (jH xs) (jH ys)
    e3.t e.t c3.size c.size (by simp[World.shape?,hb3]) (by simp[World.shape?,hb]) (by omega) (Mark.frz (e:=e3) hb3 rfl (by show gy<c3.size;omega)) (by
     have h:=e3.en (by decide)
     simp only[World.frozen?,hb3]
     rcases Nat.lt_or_ge c3.size e3.a with h1|h1
     ·have:decide (e3.a<=c3.size)=false:=decide_eq_false (by omega)
      simp[this]
     ·have:decide (c3.size<e3.b)=false:=decide_eq_false (λh2=>h ⟨h1,h2⟩)
      simp[this]) hsz).mono λe' W he=>?_
   obtain⟨rfl,rfl⟩:=he
   obtain⟨a1,⟨cA,a2,a3⟩,a4,a5,a6,a7⟩:=bS b ((itL xs).drop (i*3)) (off+(i+1)*3) w.drew c e.t (e.a,e.b) hb (by rw[hdl];omega)
   have hcA:cA.size=c.size:=by
    rw[<-Array.length_toList,<-Array.length_toList,a3]
    simp only[List.length_append,List.length_take,List.length_drop,hcl,hlx]
    omega
   obtain⟨b1,⟨cB,b2,b3⟩,b4,b5,b6,b7⟩:=bS b (itL ys) (off+i*3) _ cA e.t (e.a,e.b) a2 (by rw[hl3,hcA];omega)
   have hcB:cB.size=c.size:=by
    rw[<-hcA,<-Array.length_toList,<-Array.length_toList (xs:=cA),b3]
    simp only[List.length_append,List.length_take,List.length_drop,Array.length_toList,hl3]
    omega
   have KD:cB.toList=c.toList.take off++(itL xs).take (i*3)++itL ys++(itL xs).drop (i*3)++c.toList.drop (off+(i+1)*3+((itL xs).drop (i*3)).length):=by
    rw[b3]
    exact vz c.toList _ _ _ (off+i*3) (off+(i+1)*3) (by
     rw[<-eU,List.take_take,show min (i*3) (xs.length*3)=i*3 by omega,List.take_add]) (by omega) hl3 (by omega) (by omega) cA.toList a3
   refine fin _ _ S1 (b5.trans a5) (b6.trans a6) (b7.trans a7) (by rw[b4,a4];exact Nat.le_refl _) (λk hk hs=>by
    have hkb:k≠b:=λh=>hs (h ▸ s1 b hSb)
    rw[b1 k hkb,a1 k hkb];rfl) ?_ (λk hk=>.inl (s1 k hk))
   have e':Mark cB.size 3:=e.to (Nat.le_of_eq hcB)
   have:=BR (F:=F) (w:=((w.drew.setCells b (off+(i+1)*3) ((itL xs).drop (i*3))).setCells b (off+i*3) (itL ys))) (xs:=xs.take i++ys++xs.drop i) (b:=b) (off:=off) (cap:=cap) (c:=cB) (e.to (Nat.le_of_eq hcB)) (S:=S1) (by rw[hrl];exact cf) hcm b2 (by rw[hcB];exact hcc) hSb fv (by
    rw[hrl,qe,KD]
    rw[show c.toList.take off++(itL xs).take (i*3)++itL ys++(itL xs).drop (i*3)++c.toList.drop (off+(i+1)*3+((itL xs).drop (i*3)).length)=c.toList.take off++(((itL xs).take (i*3)++itL ys++(itL xs).drop (i*3))++c.toList.drop (off+(i+1)*3+((itL xs).drop (i*3)).length)) by simp]
    rw[List.drop_left' (by rw[List.length_take];omega)]
    exact List.take_left' (by
     simp only[List.length_append,List.length_take,List.length_drop,hlx,hl3];omega))
   rw[hrl]at this
   exact this
  ·refine(BP b off xs.length cap i vb gy nW (itL xs) (itL ys) w hi hle (by omega) (by omega) hlx hl3 hat HO (jH xs) (jH ys) hbw hvw ti z hti ht3 ht1 ht2 hz).mono λe' W he=>?_
   obtain⟨rfl,rfl⟩:=he
   obtain⟨ROW,tv⟩:∃ ROW:Array Value,ROW=((itL xs).take (i*3)).toArray++Builtin.zeroCells z.cells (xs.length+1-i)++Builtin.zeroCells z.cells (grownCap w (xs.length+1) cap 117-(xs.length+1)):=⟨_,rfl⟩
   rw[<-tv]
   have hG:=grownCap_ge w (xs.length+1) cap 117
   have hG2:=grownCap_le_maxLen w (xs.length+1) cap 117 (by unfold maxLen;omega)
   obtain⟨G,hGG⟩:∃ G,G=grownCap w (xs.length+1) cap 117:=⟨_,rfl⟩
   rw[<-hGG]at hG hG2 tv |-
   have hRs:ROW.size=G*3:=by
    rw[tv]
    simp only[Array.size_append,size_zeroCells,hz,List.size_toArray,List.length_take,hlx]
    have:min (i*3) (xs.length*3)=i*3:=Nat.min_eq_left (by omega)
    omega
   have hRt:ROW.toList.take (i*3)=(itL xs).take (i*3):=by
    rw[tv]
    simp only[Array.toList_append,List.append_assoc]
    exact List.take_left' (by rw[List.length_take];omega)
   have uG:(w.alloc (.cells ROW 117)).drew.heap[w.heap.size]?=some (.cells ROW 117 (0,0)):=fF w _
   obtain⟨a1,⟨cA,a2,a3⟩,a4,a5,a6,a7⟩:=bS w.heap.size (itL ys) (i*3) (w.alloc (.cells ROW 117)).drew ROW 117 (0,0) uG (by rw[hl3,hRs];omega)
   have hRl:ROW.toList.length=G*3:=by rw[Array.length_toList];exact hRs
   have hcA:cA.size=G*3:=by
    rw[<-Array.length_toList,a3]
    simp only[List.length_append,List.length_take,List.length_drop,hRl,hl3]
    omega
   have Nf:cA.toList.length=G*3:=by rw[Array.length_toList];exact hcA
   obtain⟨b1,⟨cB,b2,b3⟩,b4,b5,b6,b7⟩:=bS w.heap.size ((itL xs).drop (i*3)) ((i+1)*3) ((w.alloc (.cells ROW 117)).drew.setCells w.heap.size (i*3) (itL ys)).drew cA 117 (0,0) a2 (by rw[hdl,hcA];omega)
   have hcB:cB.size=G*3:=by
    rw[<-Array.length_toList,b3]
    simp only[List.length_append,List.length_take,List.length_drop,Nf,hlx]
    omega
   have hAt:cA.toList.take ((i+1)*3)=(itL xs).take (i*3)++itL ys:=by
    rw[a3,hRt]
    exact List.take_left' (by rw[List.length_append,List.length_take,hl3,hlx];omega)
   have q9:(cB.toList.drop 0).take ((xs.take i++ys++xs.drop i).length*3)=itL (xs.take i++ys++xs.drop i):=by
    rw[hrl,qe,List.drop_zero,b3,hAt]
    exact List.take_left' (by simp only[List.length_append,List.length_take,List.length_drop,hlx,hl3];omega)
   have yR:=BR (F:=F) (w:=(((w.alloc (.cells ROW 117)).drew.setCells w.heap.size (i*3) (itL ys)).drew).setCells w.heap.size ((i+1)*3) ((itL xs).drop (i*3))) (xs:=xs.take i++ys++xs.drop i) (b:=w.heap.size) (off:=0) (cap:=G) (c:=cB) (Mark.free _ 117) (S:=λk=>k=w.heap.size) (by rw[hrl];exact hG) hG2 b2 (by rw[hcB];omega) rfl fv q9
   rw[hrl]at yR
   have hws:((((w.alloc (.cells ROW 117)).drew.setCells w.heap.size (i*3) (itL ys)).drew).setCells w.heap.size ((i+1)*3) ((itL xs).drop (i*3))).heap.size=w.heap.size+1:=by
    rw[b4]
    exact a4.trans (bI w _)
   refine fin _ _ (λk=>k=w.heap.size) (b5.trans a5) (b6.trans a6) (b7.trans a7) (by rw[hws];omega) (λk hk hs=>?_) yR (λk hk=>.inr ⟨by omega,by omega⟩)
   rw[b1 k (by omega)]
   exact(a1 k (by omega)).trans (cd w _ hk)
theorem KE(N:Nat):dC Tryz.prog 102 ⟨[(.sl fZ,.own .ro),(y3,.ro),(.sl fZ,.own .ro)],[(.sl fZ,.own .ro)],[],[],zp N⟩:=by
 rintro⟨xs,i0,ys,u⟩ r hd F w S args gD hSF hF hS _
 have hd2:zp N (xs,i0,ys,u)=some r:=hd
 clear hd
 unfold zp at hd2
 split at hd2
 case isFalse=>cases hd2
 rename_i hc
 obtain⟨hy1,h0,hin,tu⟩:=hc
 have hd3:=Option.some.inj hd2
 subst hd3
 clear hd2
 obtain⟨v1,vs1,cs1,S1,S2,rfl,hr1,hv1,⟨v2,vs2,cs2,S3,S4,rfl,hr2,hv2,⟨v3,vs3,cs3,S5,S6,rfl,hr3,hv3,h4,s5,s6,d5⟩,s3,s4,d3⟩,s1,s2,d⟩:=gD
 cases h4
 have Ng:=(gV (k:=.i64) hr2 hv2).1
 have e0:i0=((Int.toNat i0:Nat):Int):=(Int.toNat_of_nonneg h0).symm
 obtain⟨ao,cap,hc1,_⟩:=id hr1
 obtain⟨ao3,nW,hc3,_⟩:=id hr3
 subst hc1 hc3
 have Nh:v1=.slice ao (List.length (xs:List It)) cap:=by simp[VR,Ty.agg]at hv1;exact hv1.1.symm
 have Ni:v3=.slice ao3 (List.length (ys:List It)) nW:=by simp[VR,Ty.agg]at hv3;exact hv3.1.symm
 have:=BT N xs ys (Int.toNat i0) hSF hF hS hy1 hin tu (S1:=S1) (S5:=S5) hr1 hr3 s1 (λk hk=>s2 k (s4 k (s5 k hk))) (λk h1 h5=>d k h1 (s4 k (s5 k h5)))
 rw[<-e0]at this
 rw[Nh,Ng,Ni]
 exact this
def F102(n:Nat):Fb 102:=⟨_,KE n,BQ⟩
end
end Go.Proofs.YthalkfdkbalpmaaGreat.Rf
namespace Go.Proofs.YthalkfdkbalpmaaGreat.Rf
open Go
noncomputable section
def p75(v1:Nat)(v2:T93):Option (((Bool×Int)×Bool×Unit)×Unit):=af (p87 v1 (v2.1,v2.2.1.1,())) (λ(v3:T50)=>aj (λ(v4:(((Bool×Int)×Unit)×Bool×Unit))=>bif v4.2.1 then some (((false,0),false,()),())else if 0<=v2.2.1.2.1 then(match v3.1.1[(v2.2.1.2.1).toNat]? with|some v5=>some ((v5,true,()),())|none=>none)else none) (λv6=>bif !v3.1.2.1 then v6 (((false,0),()),true,())else bif decide (v2.2.1.2.1<0)then v6 (((false,0),()),true,())else v6 (((false,0),()),decide ((v3.1.1.length:Int)<=v2.2.1.2.1),())))
def F75(n:Nat):Fb 75:=fb n [⟨_,F87 n⟩] [12] [] [] Tryz.func75 Tryz.results75 Tryz.ntmps75 (.seq (.reg none [2,3]) (.seq .nop (.seq (.seq (.reg (some ⟨[(32,.box y63,.own (.pr .ro .ro))],[.val 28 y4],[3,4,6]⟩) []) .nop) (.seq (.reg none [4]) .nop)))) [(y26,.ro),(y79,.ro)] [(y63,.ro),(y4,.ro)] [] [] (p75 n)
def p79(v1:Nat)(v2:T23):T63:=aq (λ(v3:T53)=>λv4=>bif decide (v3.2.2.1<(v2.1.length:Int))then aj (λ(v5:T39)=>v4 ((),v5.2.1,IntKind.wrap .i64 (v3.2.2.1+1),())) (λv6=>if 0<=v3.2.2.1 then(match v2.1[(v3.2.2.1).toNat]? with|some v7=>af (Kf v1 (v3.2.1,v7,(),())) (λ(v8:T11)=>bif v8.1.2.1 then if 0<=v8.1.1 then(match v3.2.1[(v8.1.1).toNat]? with|some v9=>if 0<=v8.1.1 then(match v3.2.1[(v8.1.1).toNat]? with|some v10=>if 0<=v8.1.1 then(match v3.2.1[(v8.1.1).toNat]? with|some v11=>v6 ((),List.set v3.2.1 (v8.1.1).toNat (v11.1,v11.2.1,bF .or .u64 v9.2.2 v7.2.2),())|none=>none)else none|none=>none)else none|none=>none)else none else af (zp v1 (v3.2.1,v8.1.1,([v7]:List (Int×Int×Int)),())) (λ(v12:T44)=>v6 ((),v12.1.1,())))|none=>none)else none)else some ((v3.2.1,()),())) v1 ((),([]:List (Int×Int×Int)),0,())
def F79(n:Nat):Fb 79:=fb n [⟨_,F100 n⟩,⟨_,F101 n⟩,⟨_,F102 n⟩] [] [] [] Tryz.func79 Tryz.results79 Tryz.ntmps79 (.seq .nop (.seq .nop (.seq (.seq .nop (.block none (.loop ⟨[],[.hdr 3 31 y58 (.own .ro),.val 10 y2],[8,9]⟩ (.seq .nop (.seq .nop (.seq (.block (some ⟨[],[.hdr 3 31 y58 (.own .ro)],[8,9,10]⟩) (.seq (.reg none [5]) .nop)) .nop)))))) .nop))) A18 A18 [] [] (p79 n)
def p47(v1:Nat)(v2:(((List ((List Int)×Int×(List Int)))×(List (List Int))×(List (Int×(List Int)×(List (Bool×Int))×Bool×Int×(List Int)))×(List (Int×(List Int)))×Int)×((List Bool)×(List Int))×(List (Int×Int×Int))×Unit)):T63:=if 0<=(v2.1.2.2.1.length:Int)/\(v2.1.2.2.1.length:Int)<=(v2.1.2.2.1.length:Int)then if(v2.1.2.2.1.length:Int).toNat*1<=140737488355328 then if 0<=(v2.1.2.2.1.length:Int)/\(v2.1.2.2.1.length:Int)<=(v2.1.2.2.1.length:Int)then if(v2.1.2.2.1.length:Int).toNat*8<=140737488355328 then af (p74 v1 (v2.2.2.1,())) (λ(v3:T44)=>aq (λ(v4:T96)=>λv5=>bif decide (0<(v4.1.1.2.2.2.2.length:Int))then if(0:Int)<=(0:Int)then(match v4.1.1.2.2.2.2[(0:Int).toNat]? with|some v6=>if(0:Int)<=(1:Int)/\(1:Int)<=(v4.1.1.2.2.2.2.length:Int)/\(v4.1.1.2.2.2.2.length:Int)<=(v4.1.1.2.2.2.2.length:Int)then af (p75 v1 (v2.1,v6,())) (λ(v7:T35)=>aj (λ(v8:T97)=>aj (λ(v9:T96)=>v5 ((v9.1.1,()),())) (λv10=>bif v8.2.1 then af (p78 v1 (v2.1,v6,())) (λ(v11:T37)=>af (p77 v1 (v2.2.1,v11.1.1,v6.2.2,())) (λ(v12:T5)=>af (p76 v1 (v8.1.1,v7.1.1.2,v12.1.1,())) (λ(v13:(Unit×(((List ((List Int)×Int×(List Int)))×(List (List Int))×(List (Int×(List Int)×(List (Bool×Int))×Bool×Int×(List Int)))×(List (Int×(List Int)))×Int)×((List Bool)×(List Int))×(List Bool)×(List Int)×(List (Int×Int×Int)))×Unit))=>v10 ((v13.2.1,()),()))))else v10 ((v8.1.1,()),()))) (λv14=>bif v7.1.2.1 then v14 (((v4.1.1.1,v4.1.1.2.1,v4.1.1.2.2.1,v4.1.1.2.2.2.1,br v4.1.1.2.2.2.2 (1:Int) (v4.1.1.2.2.2.2.length:Int)),()),v7.1.1.1,())else v14 (((v4.1.1.1,v4.1.1.2.1,v4.1.1.2.2.1,v4.1.1.2.2.2.1,br v4.1.1.2.2.2.2 (1:Int) (v4.1.1.2.2.2.2.length:Int)),()),false,())))else none|none=>none)else none else af (p74 v1 (v2.2.2.1,())) (λ(v15:T44)=>aq (λ(v16:T53)=>λv17=>bif decide (v16.2.2.1<(v4.1.1.2.2.1.length:Int))then if 0<=v16.2.2.1 then(match v4.1.1.2.2.1[(v16.2.2.1).toNat]? with|some v18=>aj (λ(v19:T39)=>v17 ((),v19.2.1,IntKind.wrap .i64 (v16.2.2.1+1),())) (λv20=>bif v18 then if 0<=v16.2.2.1 then(match v4.1.1.2.2.2.1[(v16.2.2.1).toNat]? with|some v21=>if(List.length v16.2.1+List.length ([(v16.2.2.1,0,v21)]:List (Int×Int×Int)))*24<=140737488355328 then if List.length v16.2.1+List.length ([(v16.2.2.1,0,v21)]:List (Int×Int×Int))<=9223372036854775807 then v20 ((),v16.2.1++([(v16.2.2.1,0,v21)]:List (Int×Int×Int)),())else none else none|none=>none)else none else v20 ((),v16.2.1,()))|none=>none)else none else af (p79 v1 (v16.2.1,())) (λ(v22:T44)=>some ((v22.1.1,()),()))) v1 ((),v15.1.1,0,()))) v1 (((v2.1,v2.2.1,List.replicate (v2.1.2.2.1.length:Int).toNat false,List.replicate (v2.1.2.2.1.length:Int).toNat (0:Int),v3.1.1),()),()))else none else none else none else none
def F47(n:Nat):Fb 47:=fb n [⟨_,F74 n⟩,⟨_,F75 n⟩,⟨_,F78 n⟩,⟨_,F77 n⟩,⟨_,F76 n⟩,⟨_,F79 n⟩] [26,65,69] [] [] Tryz.func47 Tryz.results47 Tryz.ntmps47 (.seq (.reg none [3,4]) (.seq .nop (.seq (.block none (.loop ⟨[(216,.box qB,.own (.pr .ro (.pr .ro (.pr (.own .ro) (.pr (.own .ro) (.own .ro))))))],[],[2,3,4,7]⟩ (.seq .nop (.block none (.seq (.reg none [8]) (.seq .nop (.seq (.reg none [9]) (.seq (.reg (some ⟨[(216,.box qB,.own (.pr .ro (.pr .ro (.pr (.own .ro) (.pr (.own .ro) (.own .ro))))))],[.val 58 y4],[2,3,4,7,8,9]⟩) []) (.cond (some ⟨[(216,.box qB,.own (.pr .ro (.pr .ro (.pr (.own .ro) (.pr (.own .ro) (.own .ro))))))],[],[2,3,4,7]⟩) .nop .nop))))))))) (.seq (.reg none [7]) (.seq (.seq .nop (.block none (.loop ⟨[],[.hdr 11 95 y58 (.own .ro),.val 77 y2],[7,75,76]⟩ (.seq .nop (.seq .nop (.seq (.block none (.seq .nop (.seq .nop (.cond (some ⟨[],[.hdr 11 95 y58 (.own .ro)],[7,75,76,77]⟩) .nop .nop)))) .nop)))))) .nop))))) [(y26,.ro),(im,.ro),(y58,.ro)] A18 [] [] (p47 n)
def p49(v1:Nat)(v2:(((List ((List Int)×Int×(List Int)))×(List (List Int))×(List (Int×(List Int)×(List (Bool×Int))×Bool×Int×(List Int)))×(List (Int×(List Int)))×Int)×(List (Int×Int×Int))×Unit)):T52:=aq (λ(v3:(Unit×(List (Bool×Int))×Int×Unit))=>λv4=>bif decide (v3.2.2.1<(v2.2.1.length:Int))then if 0<=v3.2.2.1 then(match v2.2.1[(v3.2.2.1).toNat]? with|some v5=>af (p75 v1 (v2.1,v5,())) (λ(v6:T35)=>aj (λ(v7:T51)=>aj (λ(v8:T32)=>v4 ((),v8.2.1,IntKind.wrap .i64 (v3.2.2.1+1),())) (λv9=>bif v7.2.1 then if(List.length v7.1.1+List.length ([v6.1.1]:List (Bool×Int)))*16<=140737488355328 then if List.length v7.1.1+List.length ([v6.1.1]:List (Bool×Int))<=9223372036854775807 then v9 ((),v7.1.1++([v6.1.1]:List (Bool×Int)),())else none else none else v9 ((),v7.1.1,()))) (λv10=>bif v6.1.2.1 then af (p81 v1 (v3.2.1,v6.1.1,())) (λ(v11:T6)=>v10 ((v3.2.1,()),!v11.1.1,()))else v10 ((v3.2.1,()),false,())))|none=>none)else none else af (p82 v1 (v3.2.1,(),())) (λ(v12:T32)=>some ((v12.2.1,()),()))) v1 ((),([]:List (Bool×Int)),0,())
def F49(n:Nat):Fb 49:=fb n [⟨_,F75 n⟩,⟨_,F81 n⟩,⟨_,F82 n⟩,⟨_,F83 n⟩] [] [] [] Tryz.func49 Tryz.results49 Tryz.ntmps49 (.seq (.reg none [2]) (.seq .nop (.seq (.seq .nop (.block none (.loop ⟨[],[.hdr 5 47 y62 (.own .ro),.val 12 y2],[2,10,11]⟩ (.seq .nop (.seq .nop (.seq (.block none (.seq (.reg none [7]) (.seq (.reg none [8]) (.seq (.reg (some ⟨[(47,y62,.own .ro)],[.val 28 y4],[2,5,8,10,11,12]⟩) []) (.cond (some ⟨[],[.hdr 5 47 y62 (.own .ro)],[2,10,11,12]⟩) .nop .nop))))) .nop)))))) .nop))) [(y26,.ro),(y58,.ro)] [(y62,.ro)] [] [] (p49 n)
def p50(v1:Nat)(v2:(((List ((List Int)×Int×(List Int)))×(List (List Int))×(List (Int×(List Int)×(List (Bool×Int))×Bool×Int×(List Int)))×(List (Int×(List Int)))×Int)×(List (Int×Int×Int))×(Bool×Int)×Unit)):T63:=aq (λ(v3:T53)=>λv4=>bif decide (v3.2.2.1<(v2.2.1.length:Int))then if 0<=v3.2.2.1 then(match v2.2.1[(v3.2.2.1).toNat]? with|some v5=>af (p75 v1 (v2.1,v5,())) (λ(v6:T35)=>aj (λ(v7:(((List (Int×Int×Int))×(Int×Int×Int)×Unit)×Bool×Unit))=>aj (λ(v8:T39)=>v4 ((),v8.2.1,IntKind.wrap .i64 (v3.2.2.1+1),())) (λv9=>bif v7.2.1 then if(List.length v7.1.1+List.length ([(v7.1.2.1.1,IntKind.wrap .i64 (v7.1.2.1.2.1+1),v7.1.2.1.2.2)]:List (Int×Int×Int)))*24<=140737488355328 then if List.length v7.1.1+List.length ([(v7.1.2.1.1,IntKind.wrap .i64 (v7.1.2.1.2.1+1),v7.1.2.1.2.2)]:List (Int×Int×Int))<=9223372036854775807 then v9 ((),v7.1.1++([(v7.1.2.1.1,IntKind.wrap .i64 (v7.1.2.1.2.1+1),v7.1.2.1.2.2)]:List (Int×Int×Int)),())else none else none else v9 ((),v7.1.1,()))) (λv10=>bif v6.1.2.1 then v10 ((v3.2.1,v5,()),bif v6.1.1.1 == v2.2.2.1.1 then decide (v6.1.1.2=v2.2.2.1.2)else false,())else v10 ((v3.2.1,v5,()),false,())))|none=>none)else none else af (p79 v1 (v3.2.1,())) (λ(v11:T44)=>some ((v11.1.1,()),()))) v1 ((),([]:List (Int×Int×Int)),0,())
def F50(n:Nat):Fb 50:=fb n [⟨_,F75 n⟩,⟨_,F79 n⟩] [] [] [⟨_,Ey⟩] Tryz.func50 Tryz.results50 Tryz.ntmps50 (.seq (.reg none [3,5]) (.seq .nop (.seq (.seq .nop (.block none (.loop ⟨[],[.hdr 7 63 y58 (.own .ro),.val 14 y2],[3,5,12,13]⟩ (.seq .nop (.seq .nop (.seq (.block none (.seq .nop (.seq (.reg none [10]) (.seq (.reg (some ⟨[(63,y58,.own .ro),(72,.box y79,.own (.pr .ro (.pr .ro .ro)))],[.val 29 y4],[3,5,7,9,12,13,14]⟩) []) (.cond (some ⟨[],[.hdr 7 63 y58 (.own .ro)],[3,5,12,13,14]⟩) (.seq .nop (.rgf none [9] [])) .nop))))) .nop)))))) .nop))) [(y26,.ro),(y58,.ro),(y63,.ro)] A18 [] [] (p50 n)
def p18(v1:Nat)(v2:T90):Option ((((List (List (Int×Int×Int)))×(List (List ((Bool×Int)×Int))))×Int×Unit)×Unit):=af (p31 v1 (v2.1,())) (λ(v3:T26)=>bif !(decide (v3.1.1.1=0))then some (((([]:List (List (Int×Int×Int))),([]:List (List ((Bool×Int)×Int)))),v3.1.1.1,()),())else af (p44 v1 (v2.1,())) (λ(v4:((((List Bool)×(List Int))×Unit)×Unit))=>af (p48 v1 (v2.1,())) (λ(v5:T44)=>af (p47 v1 (v2.1,v4.1.1,v5.1.1,())) (λ(v6:T44)=>af (p45 v1 (v6.1.1,([]:List ((List Int)×Int)),(([]:List (List (Int×Int×Int))),([]:List (List ((Bool×Int)×Int)))),())) (λ(v7:T89)=>aq (λ(v8:((((List (List (Int×Int×Int)))×(List (List ((Bool×Int)×Int))))×((List (List (Int×Int×Int)))×(List (List ((Bool×Int)×Int))))×(List ((List Int)×Int))×Unit)×Int×Unit))=>λv9=>bif decide (v8.2.1<(v8.1.2.1.1.length:Int))then bif decide (2000<(v8.1.2.1.1.length:Int))then some (((([]:List (List (Int×Int×Int))),([]:List (List ((Bool×Int)×Int)))),6,()),())else if 0<=v8.2.1 then(match v8.1.2.1.1[(v8.2.1).toNat]? with|some v10=>af (p49 v1 (v2.1,v10,())) (λ(v11:T37)=>aq (λ(v12:((((List (List (Int×Int×Int)))×(List (List ((Bool×Int)×Int))))×((List (List (Int×Int×Int)))×(List (List ((Bool×Int)×Int))))×(List ((List Int)×Int))×Unit)×(List ((Bool×Int)×Int))×Int×Unit))=>λv13=>bif decide (v12.2.2.1<(v11.1.1.length:Int))then if 0<=v12.2.2.1 then(match v11.1.1[(v12.2.2.1).toNat]? with|some v14=>if 0<=v8.2.1 then(match v12.1.2.1.1[(v8.2.1).toNat]? with|some v15=>af (p50 v1 (v2.1,v15,v14,())) (λ(v16:T44)=>af (p47 v1 (v2.1,v4.1.1,v16.1.1,())) (λ(v17:T44)=>af (p45 v1 (v17.1.1,v12.1.2.2.1,v12.1.2.1,())) (λ(v18:T89)=>if(List.length v12.2.1+List.length ([(v14,v18.1.1)]:List ((Bool×Int)×Int)))*24<=140737488355328 then if List.length v12.2.1+List.length ([(v14,v18.1.1)]:List ((Bool×Int)×Int))<=9223372036854775807 then v13 ((v12.1.1,v18.2.2.1,v18.2.1,()),v12.2.1++([(v14,v18.1.1)]:List ((Bool×Int)×Int)),IntKind.wrap .i64 (v12.2.2.1+1),())else none else none)))|none=>none)else none|none=>none)else none else if(List.length v12.1.2.1.2+List.length ([v12.2.1]:List (List ((Bool×Int)×Int))))*24<=140737488355328 then if List.length v12.1.2.1.2+List.length ([v12.2.1]:List (List ((Bool×Int)×Int)))<=9223372036854775807 then v9 ((v12.1.1,(v12.1.2.1.1,v12.1.2.1.2++([v12.2.1]:List (List ((Bool×Int)×Int)))),v12.1.2.2.1,()),IntKind.wrap .i64 (v8.2.1+1),())else none else none) v1 ((v8.1.1,v8.1.2.1,v8.1.2.2.1,()),([]:List ((Bool×Int)×Int)),0,()))|none=>none)else none else some ((v8.1.2.1,0,()),())) v1 (((([]:List (List (Int×Int×Int))),([]:List (List ((Bool×Int)×Int)))),v7.2.2.1,v7.2.1,()),0,()))))))
def F18(n:Nat):Fb 18:=fb n [⟨_,F31 n⟩,⟨_,F44 n⟩,⟨_,F45 n⟩,⟨_,F48 n⟩,⟨_,F47 n⟩,⟨_,F49 n⟩,⟨_,F50 n⟩] [18,22,29,30,31,43,50,68,69,70] [] [] Tryz.func18 Tryz.results18 Tryz.ntmps18 (.seq (.reg none [1]) (.seq (.seq (.reg none [4]) .nop) (.seq (.reg none [5]) (.seq .nop (.seq .nop (.seq .nop (.seq .nop (.seq (.seq .nop (.block none (.loop ⟨[(16,.box y52,.own (.pr (.own .ro) (.own .ro))),(48,.box y52,.own (.pr (.own .ro) (.own .ro))),(56,.box mu,.own (.own .ro))],[.val 9 y2],[1,2,5,6,8]⟩ (.seq .nop (.seq (.block none (.seq .nop (.seq .nop (.seq (.seq .nop (.block none (.loop ⟨[(16,.box y52,.own (.pr (.own .ro) (.own .ro))),(48,.box y52,.own (.pr (.own .ro) (.own .ro))),(56,.box mu,.own (.own .ro))],[.hdr 10 87 y61 (.own .ro),.val 52 y2],[1,2,5,6,8,9,50,51]⟩ (.seq .nop (.seq .nop (.seq (.block none (.seq (.reg none [12]) .nop)) .nop)))))) (.rgf none [10] []))))) .nop))))) (.seq (.rgf none [6] [2]) .nop))))))))) A16 [(y52,.ro),(y2,.ro)] [] [] (p18 n)
def p19(v1:Nat)(v2:(((List (List (Int×Int×Int)))×(List (List ((Bool×Int)×Int))))×Unit)):T12:=some (((v2.1.1.length:Int),()),())
def F19(n:Nat):Fb 19:=fb n [] [] [] [] Tryz.func19 Tryz.results19 Tryz.ntmps19 (.seq (.reg none [1]) .nop) [(y52,.ro)] A20 [] [] (p19 n)
def p16(v1:Nat)(v2:Unit):T14:=af (p18 v1 ((([(([65]:List Int),0,([97]:List Int))]:List ((List Int)×Int×(List Int))),([([83]:List Int)]:List (List Int)),([(0,([80]:List Int),([(false,0)]:List (Bool×Int)),false,-1,([]:List Int))]:List (Int×(List Int)×(List (Bool×Int))×Bool×Int×(List Int))),([]:List (Int×(List Int))),0),())) (λ(v3:T85)=>aj (λ(v4:T3)=>some ((v4.2.1,()),())) (λv5=>bif decide (v3.1.2.1=0)then af (p19 v1 (v3.1.1,())) (λ(v6:T5)=>v5 ((),decide (v6.1.1=3),()))else v5 ((),false,())))
def F16(n:Nat):Fb 16:=fb n [⟨_,F18 n⟩,⟨_,F19 n⟩] [9,11] [] [] Tryz.func16 Tryz.results16 Tryz.ntmps16 (.seq .nop (.seq (.reg none [1]) (.seq (.reg (some ⟨[],[.val 0 y4],[]⟩) []) .nop))) [] A19 [] [] (p16 n)
def p27(v1:Nat)(v2:(((List (List (Int×Int×Int)))×(List (List ((Bool×Int)×Int))))×Int×(Bool×Int)×Unit)):T12:=aj (λ(v3:T3)=>bif v3.2.1 then some ((-1,()),())else if 0<=v2.2.1 then(match v2.1.2[(v2.2.1).toNat]? with|some v4=>aq (λ(v5:T2)=>λv6=>bif decide (v5.2.1<(v4.length:Int))then if 0<=v5.2.1 then(match v4[(v5.2.1).toNat]? with|some v7=>bif bif v7.1.1 == v2.2.2.1.1 then decide (v7.1.2=v2.2.2.1.2)else false then some ((v7.2,()),())else v6 ((),IntKind.wrap .i64 (v5.2.1+1),())|none=>none)else none else some ((-1,()),())) v1 ((),0,())|none=>none)else none) (λv8=>bif decide (v2.2.1<0)then v8 ((),true,())else v8 ((),decide ((v2.1.2.length:Int)<=v2.2.1),()))
def F27(n:Nat):Fb 27:=fb n [] [] [] [⟨_,Ey⟩] Tryz.func27 Tryz.results27 Tryz.ntmps27 (.seq (.reg none [3,5]) (.seq (.seq (.reg (some ⟨[],[.val 17 y4],[1,3,5]⟩) []) .nop) (.seq (.seq .nop (.block none (.loop ⟨[],[.val 24 y2],[5,22,23]⟩ (.seq .nop (.seq .nop (.seq (.block none (.seq (.reg none [8]) .nop)) .nop)))))) .nop))) [(y52,.ro),(y2,.ro),(y63,.ro)] A20 [] [] (p27 n)
def p22(v1:Nat)(v2:(((List (List (Int×Int×Int)))×(List (List ((Bool×Int)×Int))))×(List (Bool×Int))×Unit)):T12:=bif decide ((v2.1.1.length:Int)=0)then some ((-1,()),())else aq (λ(v3:T7)=>λv4=>bif decide (v3.2.2.1<(v2.2.1.length:Int))then if 0<=v3.2.2.1 then(match v2.2.1[(v3.2.2.1).toNat]? with|some v5=>af (p27 v1 (v2.1,v3.2.1,v5,())) (λ(v6:T5)=>bif decide (v6.1.1<0)then some ((-1,()),())else v4 ((),v6.1.1,IntKind.wrap .i64 (v3.2.2.1+1),()))|none=>none)else none else some ((v3.2.1,()),())) v1 ((),0,0,())
def F22(n:Nat):Fb 22:=fb n [⟨_,F27 n⟩] [] [] [] Tryz.func22 Tryz.results22 Tryz.ntmps22 (.seq (.reg none [2]) (.seq .nop (.seq .nop (.seq (.seq .nop (.block none (.loop ⟨[],[.val 5 y2,.val 14 y2],[2,12,13]⟩ (.seq .nop (.seq .nop (.seq (.block none (.seq (.reg none [7]) .nop)) .nop)))))) .nop)))) [(y52,.ro),(y62,.ro)] A20 [] [] (p22 n)
def p5(v1:Nat)(v2:T90):T14:=af (p16 v1 ()) (λ(v3:T6)=>bif !v3.1.1 then some ((false,()),())else af (p8 v1 (v2.1,())) (λ(v4:T6)=>bif !v4.1.1 then some ((true,()),())else af (p13 v1 (v2.1,())) (λ(v5:((Int×Int×Int×Unit)×Unit))=>bif decide (v5.1.1=0)then some ((true,()),())else af (p18 v1 (v2.1,())) (λ(v6:T85)=>aj (λ(v7:T3)=>some ((v7.2.1,()),())) (λv8=>bif decide (v6.1.2.1=v5.1.1)then af (p19 v1 (v6.1.1,())) (λ(v9:T5)=>bif decide (v9.1.1=0)then af (p22 v1 (v6.1.1,([]:List (Bool×Int)),())) (λ(v10:T5)=>v8 ((),decide (v10.1.1=-1),()))else v8 ((),false,()))else bif decide (v6.1.2.1=6)then af (p19 v1 (v6.1.1,())) (λ(v11:T5)=>bif decide (v11.1.1=0)then af (p22 v1 (v6.1.1,([]:List (Bool×Int)),())) (λ(v12:T5)=>v8 ((),decide (v12.1.1=-1),()))else v8 ((),false,()))else v8 ((),false,()))))))
def F5(n:Nat):Fb 5:=fb n [⟨_,F16 n⟩,⟨_,F8 n⟩,⟨_,F13 n⟩,⟨_,F18 n⟩,⟨_,F19 n⟩,⟨_,F22 n⟩] [23] [] [] Tryz.func5 Tryz.results5 Tryz.ntmps5 (.seq (.reg none [1]) (.seq .nop (.seq .nop (.seq .nop (.seq .nop (.seq (.reg none [6]) (.seq (.reg (some ⟨[],[.val 2 y4],[]⟩) []) .nop))))))) A16 A19 [] [] (p5 n)
abbrev ok5(n:Nat):=(F5 n).o
end
noncomputable section
theorem bP{A R:Type}(body:A->(A->Option R)->Option R)(n:Nat)(x:A):aq body (n+1) x=body x (aq body n):=rfl
theorem jI{A R:Type}{body:A->(A->Option R)->Option R}(f:Nat->A)(spec:Nat->Option R)(len:Nat)
 (step:∀ j,j<=len->∀ k,(j<len->k (f (j+1))=spec (j+1))->body (f j) k=spec j):∀ n j,j<=len->len-j<n->aq body n (f j)=spec j:=by
 intro n
 induction n with
 |zero=>intro j _ h;omega
 |succ n ih=>
  intro j hj hn
  rw[bP]
  exact step j hj _ (λhlt=>ih (j+1) hlt (by omega))
theorem dg{α A R:Type}{body:A->(A->Option R)->Option R}(l:List α)(ok:α->Bool)(bad after:Option R)(f:Nat->A)
 (step:∀ j,(h:j<l.length)->∀ k,body (f j) k=if ok l[j]=true then k (f (j+1))else bad) (fin:∀ k,body (f l.length) k=after) (n:Nat) (hn:l.length<n):aq body n (f 0)=if l.all ok=true then after else bad:=by
 have:=jI (body:=body) f (λj=>if(l.drop j).all ok=true then after else bad) l.length (λj hj k hk=>by
  rcases Nat.lt_or_ge j l.length with hi|hi
  ·rw[step j hi,hk hi,List.drop_eq_getElem_cons hi,List.all_cons]
   cases ok l[j] <;> simp
  ·have e:j=l.length:=by omega
   rw[e,fin];simp) n 0 (Nat.zero_le _) (by omega)
 rwa [List.drop_zero]at this
theorem KF{A R:Type}{body:A->(A->Option R)->Option R}(P:Nat->Prop)(len:Nat)(found after:Option R)(f:Nat->A)
 (step:∀ j,j<len->∀ k,(P j->body (f j) k=found)/\(¬P j->body (f j) k=k (f (j+1)))) (fin:∀ k,body (f len) k=after) (n:Nat) (hn:len<n):
 ((∃ j,j<len/\P j)->aq body n (f 0)=found)/\((¬∃ j,j<len/\P j)->aq body n (f 0)=after):=by
 constructor
 ·rintro⟨j,hj,hp⟩
  have key:∀ n i,i<=j->j-i<n->aq body n (f i)=found:=by
   intro n
   induction n with
   |zero=>intro i _ h;omega
   |succ n ih=>
    intro i hi hlt
    rw[bP]
    by_cases hpi:P i
    ·exact(step i (by omega) _).1 hpi
    ·rw[(step i (by omega) _).2 hpi]
     have hne:i≠j:=λe=>hpi (e ▸ hp)
     exact ih (i+1) (by omega) (by omega)
  exact key n 0 (Nat.zero_le _) (by omega)
 ·intro hno
  exact jI (body:=body) f (λ_=>after) len (λi hi k hk=>by
   rcases Nat.lt_or_ge i len with h|h
   ·rw[(step i h k).2 (λhp=>hno ⟨i,h,hp⟩)];exact hk h
   ·have e:i=len:=by omega
    rw[e];exact fin k) n 0 (Nat.zero_le _) (by omega)
theorem Iq{A R:Type}{body:A->(A->Option R)->Option R}(P:Nat->Prop)(len:Nat)(r:Option R)(f:Nat->A)
 (step:∀ j,j<len->∀ k,(P j->body (f j) k=r)/\(¬P j->body (f j) k=k (f (j+1)))) (fin:(¬∃ j,j<len/\P j)->∀ k,body (f len) k=r) (n:Nat) (hn:len<n):aq body n (f 0)=r:=by
 by_cases h:∃ j,j<len/\P j
 ·obtain⟨j,hj,hp⟩:=h
  have key:∀ n i,i<=j->j-i<n->aq body n (f i)=r:=by
   intro n
   induction n with
   |zero=>intro i _ h;omega
   |succ n ih=>
    intro i hi hlt
    rw[bP]
    by_cases hpi:P i
    ·exact(step i (by omega) _).1 hpi
    ·rw[(step i (by omega) _).2 hpi]
     have hne:i≠j:=λe=>hpi (e ▸ hp)
     exact ih (i+1) (by omega) (by omega)
  exact key n 0 (Nat.zero_le _) (by omega)
 ·exact jI (body:=body) f (λ_=>r) len (λi hi k hk=>by
   rcases Nat.lt_or_ge i len with h'|h'
   ·rw[(step i h' k).2 (λhp=>h ⟨i,h',hp⟩)];exact hk h'
   ·have e:i=len:=by omega
    rw[e];exact fin h k) n 0 (Nat.zero_le _) (by omega)
theorem Ir{A R:Type}{body:A->(A->Option R)->Option R}(f:Nat->A)(spec:Nat->Option R)(len:Nat)
 (step:∀ j,j<=len->∀ k,(∀ i,j=i+1->k (f i)=spec i)->body (f j) k=spec j):∀ n j,j<=len->j<n->aq body n (f j)=spec j:=by
 intro n
 induction n with
 |zero=>intro j _ h;omega
 |succ n ih=>
  intro j hj hn
  rw[bP]
  exact step j hj _ (λi e=>ih i (by omega) (by omega))
theorem aJ{A R:Type}{body:A->(A->Option R)->Option R}(I:Nat->A->Option R->Prop)
 (step:∀ m x r,I m x r->∀ k,(∀ m' y r',m' < m->I m' y r'->k y=r')->body x k=r):∀ n m x r,m<n->I m x r->aq body n x=r:=by
 intro n
 induction n with
 |zero=>intro m x r h;omega
 |succ n ih=>
  intro m x r h hi
  rw[bP]
  exact step m x r hi _ (λm' y r' hm hi'=>ih m' y r' (by omega) hi')
def N0:Nat:=18446744073709551616
theorem gO{n:Nat}(h:n<=maxLen):n+1<N0:=by unfold maxLen at h;unfold N0;omega
theorem bc{n:Int}(h1:-9223372036854775808<=n)(h2:n<=9223372036854775807):IntKind.wrap .i64 n=n:=eT ⟨h1,h2⟩
theorem aE{j n:Nat}(h:j<n)(hn:n<=maxLen):IntKind.wrap .i64 ((j:Int)+1)=((j+1:Nat):Int):=by
 unfold maxLen at hn
 rw[bc (by omega) (by omega)];simp
theorem NA{n:Int}(h:inK .i64 n):-9223372036854775808<=n/\n<=9223372036854775807:=h
@[simp] theorem aY {A R:Type} (J:A->Option R) (body:(A->Option R)->Option R):aj J body=body J:=rfl
@[simp] theorem aX {A R:Type} (a:A) (k:A->Option R):af (some a) k=k a:=rfl
theorem aa{A R:Type}{o:Option A}{a:A}(h:o=some a)(k:A->Option R):af o k=k a:=by rw[h];rfl
theorem BU{α:Type}(c:Bool)(a b:α):(bif c then a else b)=if c=true then a else b:=by cases c <;> rfl
end
noncomputable section
theorem qI:∀ (n:Nat) (l:List Nat),l.Nodup->(∀ x∈l,x<n)->l.length<=n:=by
 intro n
 induction n with
 |zero=>
  intro l _ h
  cases l with
  |nil=>simp
  |cons x xs=>have:=h x (by simp);omega
 |succ n ih=>
  intro l hn h
  by_cases hm:n∈l
  ·have h1:(l.erase n).length<=n:=by
    refine ih _ (hn.erase n) (λx hx=>?_)
    have hx1:x∈l:=List.mem_of_mem_erase hx
    have hx2:x≠n:=by
     rintro rfl
     exact(List.Nodup.not_mem_erase hn) hx
    have:=h x hx1
    omega
   rw[List.length_erase_of_mem hm]at h1
   omega
  ·refine Nat.le_succ_of_le (ih l hn (λx hx=>?_))
   have:=h x hx
   have hne:x≠n:=by rintro rfl;exact hm hx
   omega
theorem qJ{α:Type}(R:α->Nat->Prop)(hf:∀ x y c,R x c->R y c->x=y)(n:Nat)(l:List α)(hn:l.Nodup)(h:∀ x∈l,∃ c,c<n/\R x c):l.length<=n:=by
 have key:∀ l:List α,l.Nodup->(∀ x∈l,∃ c,c<n/\R x c)->∃ cs:List Nat,cs.length=l.length/\cs.Nodup/\∀ c∈cs,c<n/\∃ x∈l,R x c:=by
  intro l
  induction l with
  |nil=>intro _ _;exact⟨[],rfl,List.nodup_nil,λc hc=>by simp at hc⟩
  |cons x xs ih=>
   intro hn h
   obtain⟨h1,h2⟩:=List.nodup_cons.1 hn
   obtain⟨cs,e1,e2,e3⟩:=ih h2 (λy hy=>h y (by simp[hy]))
   obtain⟨c,hc,hr⟩:=h x (by simp)
   refine⟨c::cs,by simp[e1],List.nodup_cons.2 ⟨λhm=>?_,e2⟩,λd hd=>?_⟩
   ·obtain⟨_,y,hy,hry⟩:=e3 c hm
    exact h1 (hf x y c hr hry ▸ hy)
   ·rcases List.mem_cons.1 hd with rfl|hd
    ·exact⟨hc,x,by simp,hr⟩
    ·obtain⟨q1,y,hy,q2⟩:=e3 d hd
     exact⟨q1,y,by simp[hy],q2⟩
 obtain⟨cs,e1,e2,e3⟩:=key l hn h
 rw[<-e1]
 exact qI n cs e2 (λc hc=>(e3 c hc).1)
def bN:List Bool->Nat
 |[]=>0
 |b::r=>(if b then 1 else 0)+2*bN r
theorem gQ:∀ (l:List Bool),bN l<2 ^ l.length:=by
 intro l
 induction l with
 |nil=>simp[bN]
 |cons b r ih=>
  simp only[bN,List.length_cons,Nat.pow_succ]
  split <;> omega
theorem jJ:∀ (l m:List Bool),l.length=m.length->bN l=bN m->l=m:=by
 intro l
 induction l with
 |nil=>intro m hl _;cases m with
  |nil=>rfl
  |cons _ _=>simp at hl
 |cons b r ih=>
  intro m hl h
  cases m with
  |nil=>simp at hl
  |cons c s=>
   simp only[bN]at h
   have hbc:b=c:=by cases b <;> cases c <;> simp at h |- <;> omega
   subst hbc
   rw[ih s (by simpa using hl) (by omega)]
end
noncomputable section
inductive Rx where
 |eps
 |set (S:List Int)
 |cat (a b:Rx)
 |alt (a b:Rx)
 |rep (k:Int) (a:Rx)
abbrev Pc:=Int×List Int
def zS:List Int:=[0,0,0,0]
def Rx.post:Rx->List Pc
 |.eps=>[(0,zS)]
 |.set S=>[(1,S)]
 |.cat a b=>a.post++b.post++[(2,zS)]
 |.alt a b=>a.post++b.post++[(3,zS)]
 |.rep k a=>a.post++[(k,zS)]
def Rx.len:Rx->Nat
 |.eps=>1
 |.set _=>1
 |.cat a b=>a.len+b.len+1
 |.alt a b=>a.len+b.len+1
 |.rep _ a=>a.len+1
def Rx.null:Rx->Bool
 |.eps=>true
 |.set _=>false
 |.cat a b=>a.null&&b.null
 |.alt a b=>a.null||b.null
 |.rep k a=>!decide (k=5)||a.null
def Rx.ok:Rx->Prop
 |.eps=>True
 |.set S=>S.length=4/\S≠zS/\∀ x∈S,0<=x/\x<=18446744073709551615
 |.cat a b=>a.ok/\b.ok
 |.alt a b=>a.ok/\b.ok
 |.rep k a=>(k=4\/k=5\/k=6)/\a.ok
theorem Rx.aN:∀ t:Rx,0<t.len:=by intro t;cases t <;> simp[Rx.len]
theorem Rx.az:∀ t:Rx,t.post.length=t.len:=by
 intro t
 induction t with
 |eps=>rfl
 |set S=>rfl
 |cat a b iha ihb=>simp[Rx.post,Rx.len,iha,ihb];omega
 |alt a b iha ihb=>simp[Rx.post,Rx.len,iha,ihb];omega
 |rep k a ih=>simp[Rx.post,Rx.len,ih]
abbrev Ed:=Nat×Nat×List Int×Bool
def fE(p q:Nat):Ed:=(p,q,zS,true)
def Rx.fst(t:Rx)(n:Nat):Nat:=n+2*t.len-2
def Rx.lst(t:Rx)(n:Nat):Nat:=n+2*t.len-1
def Rx.ah:Rx->Nat->List Ed
 |.eps,n=>[fE n (n+1)]
 |.set S,n=>[(n,n+1,S,false)]
 |.cat a b,n=>a.ah n++b.ah (n+2*a.len)++[fE (n+2*(a.len+b.len)) (a.fst n),fE (a.lst n) (b.fst (n+2*a.len)),fE (b.lst (n+2*a.len)) (n+2*(a.len+b.len)+1)]
 |.alt a b,n=>a.ah n++b.ah (n+2*a.len)++[fE (n+2*(a.len+b.len)) (a.fst n),fE (a.lst n) (n+2*(a.len+b.len)+1),fE (n+2*(a.len+b.len)) (b.fst (n+2*a.len)),fE (b.lst (n+2*a.len)) (n+2*(a.len+b.len)+1)]
 |.rep k a,n=>a.ah n++[fE (n+2*a.len) (a.fst n),fE (a.lst n) (n+2*a.len+1)]++(if k=6 then []else [fE (a.lst n) (a.fst n)])++(if k=5 then []else [fE (n+2*a.len) (n+2*a.len+1)])
theorem Rx.bR:∀ (t:Rx) (n:Nat),∀ e∈t.ah n,n<=e.1/\e.1<n+2*t.len/\n<=e.2.1/\e.2.1<n+2*t.len:=by
 intro t
 induction t with
 |eps=>intro n e he;simp[Rx.ah,fE]at he;subst he;simp[Rx.len]
 |set S=>intro n e he;simp[Rx.ah]at he;subst he;simp[Rx.len]
 |cat a b iha ihb=>
  intro n e he
  have ha:=a.aN
  have hb:=b.aN
  simp only[Rx.ah,List.mem_append,List.mem_cons,List.not_mem_nil,or_false]at he
  simp only[Rx.len]
  rcases he with(he|he)|he|he|he
  ·have:=iha n e he;omega
  ·have:=ihb _ e he;omega
  all_goals (subst he;simp only[fE,Rx.fst,Rx.lst];omega)
 |alt a b iha ihb=>
  intro n e he
  have ha:=a.aN
  have hb:=b.aN
  simp only[Rx.ah,List.mem_append,List.mem_cons,List.not_mem_nil,or_false]at he
  simp only[Rx.len]
  rcases he with(he|he)|he|he|he|he
  ·have:=iha n e he;omega
  ·have:=ihb _ e he;omega
  all_goals (subst he;simp only[fE,Rx.fst,Rx.lst];omega)
 |rep k a ih=>
  intro n e he
  have ha:=a.aN
  simp only[Rx.ah,List.mem_append,List.mem_cons,List.not_mem_nil,or_false]at he
  simp only[Rx.len]
  rcases he with((he|he|he)|he)|he
  ·have:=ih n e he;omega
  ·subst he;simp only[fE,Rx.fst,Rx.lst];omega
  ·subst he;simp only[fE,Rx.fst,Rx.lst];omega
  ·split at he
   ·simp at he
   ·simp only[List.mem_singleton]at he;subst he;simp only[fE,Rx.fst,Rx.lst];omega
  ·split at he
   ·simp at he
   ·simp only[List.mem_singleton]at he;subst he;simp only[fE,Rx.fst,Rx.lst];omega
def Rx.cl:Rx->Nat->Nat->Bool
 |.eps,n,q=>decide (q=n)||decide (q=n+1)
 |.set _,n,q=>decide (q=n)
 |.cat a b,n,q=>decide (q=n+2*(a.len+b.len))||a.cl n q||(a.null&&b.cl (n+2*a.len) q)||(a.null&&b.null&&decide (q=n+2*(a.len+b.len)+1))
 |.alt a b,n,q=>decide (q=n+2*(a.len+b.len))||a.cl n q||b.cl (n+2*a.len) q||((a.null||b.null)&&decide (q=n+2*(a.len+b.len)+1))
 |.rep k a,n,q=>decide (q=n+2*a.len)||a.cl n q||((!decide (k=5)||a.null)&&decide (q=n+2*a.len+1))
theorem Rx.mf:∀ (t:Rx) (n q:Nat),t.cl n q=true->n<=q/\q<n+2*t.len:=by
 intro t
 induction t with
 |eps=>intro n q h;simp only[Rx.cl,Bool.or_eq_true,decide_eq_true_eq]at h;simp only[Rx.len];omega
 |set S=>intro n q h;simp only[Rx.cl,decide_eq_true_eq]at h;simp only[Rx.len];omega
 |cat a b iha ihb=>
  intro n q h
  simp only[Rx.cl,Bool.or_eq_true,Bool.and_eq_true,decide_eq_true_eq]at h
  simp only[Rx.len]
  rcases h with((h|h)|h)|h
  ·omega
  ·have:=iha n q h;omega
  ·have:=ihb _ q h.2;omega
  ·omega
 |alt a b iha ihb=>
  intro n q h
  simp only[Rx.cl,Bool.or_eq_true,Bool.and_eq_true,decide_eq_true_eq]at h
  simp only[Rx.len]
  rcases h with((h|h)|h)|h
  ·omega
  ·have:=iha n q h;omega
  ·have:=ihb _ q h;omega
  ·omega
 |rep k a ih=>
  intro n q h
  simp only[Rx.cl,Bool.or_eq_true,Bool.and_eq_true,decide_eq_true_eq]at h
  simp only[Rx.len]
  rcases h with(h|h)|h
  ·omega
  ·have:=ih n q h;omega
  ·omega
theorem Rx.nX(t:Rx){n q:Nat}(h:q<n\/n+2*t.len<=q):t.cl n q=false:=by
 cases hc:t.cl n q
 ·rfl
 ·have:=t.mf n q hc;omega
theorem Rx.jl:∀ (t:Rx) (n:Nat),t.cl n (t.fst n)=true:=by
 intro t n
 have:=t.aN
 cases t with
 |eps=>simp[Rx.cl,Rx.fst,Rx.len]
 |set S=>simp[Rx.cl,Rx.fst,Rx.len]
 |cat a b=>
  have e:(Rx.cat a b).fst n=n+2*(a.len+b.len):=by simp only[Rx.fst,Rx.len];omega
  rw[e];simp[Rx.cl]
 |alt a b=>
  have e:(Rx.alt a b).fst n=n+2*(a.len+b.len):=by simp only[Rx.fst,Rx.len];omega
  rw[e];simp[Rx.cl]
 |rep k a=>
  have e:(Rx.rep k a).fst n=n+2*a.len:=by simp only[Rx.fst,Rx.len];omega
  rw[e];simp[Rx.cl]
theorem Rx.lH:∀ (t:Rx) (n:Nat),t.cl n (t.lst n)=t.null:=by
 intro t n
 have:=t.aN
 cases t with
 |eps=>simp[Rx.cl,Rx.lst,Rx.len,Rx.null]
 |set S=>simp[Rx.cl,Rx.lst,Rx.len,Rx.null]
 |cat a b=>
  have e:(Rx.cat a b).lst n=n+2*(a.len+b.len)+1:=by simp only[Rx.lst,Rx.len];omega
  rw[e]
  simp only[Rx.cl,a.nX (n:=n) (q:=n+2*(a.len+b.len)+1) (by omega),b.nX (n:=n+2*a.len) (q:=n+2*(a.len+b.len)+1) (by omega),Rx.null]
  simp
 |alt a b=>
  have e:(Rx.alt a b).lst n=n+2*(a.len+b.len)+1:=by simp only[Rx.lst,Rx.len];omega
  rw[e]
  simp only[Rx.cl,a.nX (n:=n) (q:=n+2*(a.len+b.len)+1) (by omega),b.nX (n:=n+2*a.len) (q:=n+2*(a.len+b.len)+1) (by omega),Rx.null]
  simp
 |rep k a=>
  have e:(Rx.rep k a).lst n=n+2*a.len+1:=by simp only[Rx.lst,Rx.len];omega
  rw[e]
  simp only[Rx.cl,a.nX (n:=n) (q:=n+2*a.len+1) (by omega),Rx.null]
  simp
theorem Rx.jm(t:Rx)(n:Nat):n<=t.fst n/\t.fst n<n+2*t.len:=by have:=t.aN;simp only[Rx.fst];omega
theorem Rx.fU(t:Rx)(n:Nat):n<=t.lst n/\t.lst n<n+2*t.len:=by have:=t.aN;simp only[Rx.lst];omega
theorem Rx.wU:∀ (t:Rx) (n:Nat),∀ e∈t.ah n,e.2.2.2=true->t.cl n e.1=true->t.cl n e.2.1=true:=by
 intro t
 induction t with
 |eps=>intro n e he _ h;simp[Rx.ah,fE]at he;subst he;simp[Rx.cl]
 |set S=>intro n e he hf h;simp[Rx.ah]at he;subst he;cases hf
 |cat a b iha ihb=>
  intro n e he hf h
  have ha:=a.aN
  have hb:=b.aN
  simp only[Rx.ah,List.mem_append,List.mem_cons,List.not_mem_nil,or_false]at he
  simp only[Rx.cl,Bool.or_eq_true,Bool.and_eq_true,decide_eq_true_eq]at h |-
  rcases he with(he|he)|he|he|he
  ·have hr:=a.bR n e he
   have:a.cl n e.1=true:=by
    rcases h with((h|h)|h)|h
    ·omega
    ·exact h
    ·have:=b.mf _ _ h.2;omega
    ·omega
   exact .inl (.inl (.inr (iha n e he hf this)))
  ·have hr:=b.bR _ e he
   have:a.null=true/\b.cl (n+2*a.len) e.1=true:=by
    rcases h with((h|h)|h)|h
    ·omega
    ·have:=a.mf _ _ h;omega
    ·exact h
    ·omega
   exact .inl (.inr ⟨this.1,ihb _ e he hf this.2⟩)
  ·subst he;exact .inl (.inl (.inr (a.jl n)))
  ·subst he
   simp only[fE]at h |-
   have hi:=a.fU n
   have:a.null=true:=by
    rcases h with((h|h)|h)|h
    ·omega
    ·rw[a.lH]at h;exact h
    ·exact h.1
    ·omega
   exact .inl (.inr ⟨this,b.jl _⟩)
  ·subst he
   simp only[fE]at h |-
   have hi:=b.fU (n+2*a.len)
   have:a.null=true/\b.null=true:=by
    rcases h with((h|h)|h)|h
    ·omega
    ·have:=a.mf _ _ h;omega
    ·rw[b.lH]at h;exact h
    ·exact h.1
   exact .inr ⟨this,trivial⟩
 |alt a b iha ihb=>
  intro n e he hf h
  have ha:=a.aN
  have hb:=b.aN
  simp only[Rx.ah,List.mem_append,List.mem_cons,List.not_mem_nil,or_false]at he
  simp only[Rx.cl,Bool.or_eq_true,Bool.and_eq_true,decide_eq_true_eq]at h |-
  rcases he with(he|he)|he|he|he|he
  ·have hr:=a.bR n e he
   have:a.cl n e.1=true:=by
    rcases h with((h|h)|h)|h
    ·omega
    ·exact h
    ·have:=b.mf _ _ h;omega
    ·omega
   exact .inl (.inl (.inr (iha n e he hf this)))
  ·have hr:=b.bR _ e he
   have:b.cl (n+2*a.len) e.1=true:=by
    rcases h with((h|h)|h)|h
    ·omega
    ·have:=a.mf _ _ h;omega
    ·exact h
    ·omega
   exact .inl (.inr (ihb _ e he hf this))
  ·subst he;exact .inl (.inl (.inr (a.jl n)))
  ·subst he
   simp only[fE]at h |-
   have hi:=a.fU n
   have:a.null=true:=by
    rcases h with((h|h)|h)|h
    ·omega
    ·rw[a.lH]at h;exact h
    ·have:=b.mf _ _ h;omega
    ·omega
   exact .inr ⟨.inl this,trivial⟩
  ·subst he;exact .inl (.inr (b.jl _))
  ·subst he
   simp only[fE]at h |-
   have hi:=b.fU (n+2*a.len)
   have:b.null=true:=by
    rcases h with((h|h)|h)|h
    ·omega
    ·have:=a.mf _ _ h;omega
    ·rw[b.lH]at h;exact h
    ·omega
   exact .inr ⟨.inr this,trivial⟩
 |rep k a ih=>
  intro n e he hf h
  have ha:=a.aN
  simp only[Rx.ah,List.mem_append,List.mem_cons,List.not_mem_nil,or_false]at he
  simp only[Rx.cl,Bool.or_eq_true,Bool.and_eq_true,Bool.not_eq_true',decide_eq_true_eq,decide_eq_false_iff_not]at h |-
  have hi:=a.fU n
  have hj:=a.jm n
  rcases he with((he|he|he)|he)|he
  ·have hr:=a.bR n e he
   have:a.cl n e.1=true:=by
    rcases h with(h|h)|h
    ·omega
    ·exact h
    ·omega
   exact .inl (.inr (ih n e he hf this))
  ·subst he;exact .inl (.inr (a.jl n))
  ·subst he
   simp only[fE]at h |-
   have:a.null=true:=by
    rcases h with(h|h)|h
    ·omega
    ·rw[a.lH]at h;exact h
    ·omega
   exact .inr ⟨.inr this,trivial⟩
  ·split at he
   ·simp at he
   ·simp only[List.mem_singleton]at he;subst he;exact .inl (.inr (a.jl n))
  ·split at he
   ·simp at he
   ·rename_i h5
    simp only[List.mem_singleton]at he;subst he
    exact .inr ⟨.inl h5,rfl⟩
inductive Fr0(E:List Ed):Nat->Nat->Prop where
 |refl (p:Nat):Fr0 E p p
 |step {p q r:Nat}:Fr0 E p q->(q,r,zS,true)∈E->Fr0 E p r
theorem Fr0.mono{E E':List Ed}(h:∀ e∈E,e∈E'){p q:Nat}(hp:Fr0 E p q):Fr0 E' p q:=by
 induction hp with
 |refl=>exact .refl _
 |step _ he ih=>exact .step ih (h _ he)
theorem Fr0.trans{E:List Ed}{p q r:Nat}(h1:Fr0 E p q)(h2:Fr0 E q r):Fr0 E p r:=by
 induction h2 with
 |refl=>exact h1
 |step _ he ih=>exact .step ih he
theorem Rx.BV:∀ (t:Rx) (n:Nat),t.null=true->Fr0 (t.ah n) (t.fst n) (t.lst n):=by
 intro t
 induction t with
 |eps=>
  intro n _
  have e1:Rx.eps.fst n=n:=by simp[Rx.fst,Rx.len]
  have e2:Rx.eps.lst n=n+1:=by simp[Rx.lst,Rx.len]
  rw[e1,e2]
  exact .step (.refl _) (by simp[Rx.ah,fE])
 |set S=>intro n h;cases h
 |cat a b iha ihb=>
  intro n h
  simp only[Rx.null,Bool.and_eq_true]at h
  have e1:(Rx.cat a b).fst n=n+2*(a.len+b.len):=by simp only[Rx.fst,Rx.len];omega
  have e2:(Rx.cat a b).lst n=n+2*(a.len+b.len)+1:=by simp only[Rx.lst,Rx.len];omega
  rw[e1,e2]
  have w1:Fr0 ((Rx.cat a b).ah n) (n+2*(a.len+b.len)) (a.fst n):=.step (.refl _) (by simp[Rx.ah,fE])
  have w2:=(iha n h.1).mono (E':=(Rx.cat a b).ah n) (λe he=>by simp only[Rx.ah,List.mem_append];exact .inl (.inl he))
  have w3:=(ihb (n+2*a.len) h.2).mono (E':=(Rx.cat a b).ah n) (λe he=>by simp only[Rx.ah,List.mem_append];exact .inl (.inr he))
  exact .step ((Fr0.step (w1.trans w2) (by simp[Rx.ah,fE])).trans w3) (by simp[Rx.ah,fE])
 |alt a b iha ihb=>
  intro n h
  simp only[Rx.null,Bool.or_eq_true]at h
  have e1:(Rx.alt a b).fst n=n+2*(a.len+b.len):=by simp only[Rx.fst,Rx.len];omega
  have e2:(Rx.alt a b).lst n=n+2*(a.len+b.len)+1:=by simp only[Rx.lst,Rx.len];omega
  rw[e1,e2]
  rcases h with h|h
  ·have w1:Fr0 ((Rx.alt a b).ah n) (n+2*(a.len+b.len)) (a.fst n):=.step (.refl _) (by simp[Rx.ah,fE])
   have w2:=(iha n h).mono (E':=(Rx.alt a b).ah n) (λe he=>by simp only[Rx.ah,List.mem_append];exact .inl (.inl he))
   exact .step (w1.trans w2) (by simp[Rx.ah,fE])
  ·have w1:Fr0 ((Rx.alt a b).ah n) (n+2*(a.len+b.len)) (b.fst (n+2*a.len)):=.step (.refl _) (by simp[Rx.ah,fE])
   have w2:=(ihb _ h).mono (E':=(Rx.alt a b).ah n) (λe he=>by simp only[Rx.ah,List.mem_append];exact .inl (.inr he))
   exact .step (w1.trans w2) (by simp[Rx.ah,fE])
 |rep k a ih=>
  intro n h
  have e1:(Rx.rep k a).fst n=n+2*a.len:=by simp only[Rx.fst,Rx.len];omega
  have e2:(Rx.rep k a).lst n=n+2*a.len+1:=by simp only[Rx.lst,Rx.len];omega
  rw[e1,e2]
  by_cases h5:k=5
  ·simp only[Rx.null,h5,decide_true,Bool.not_true,Bool.false_or]at h
   have w1:Fr0 ((Rx.rep k a).ah n) (n+2*a.len) (a.fst n):=.step (.refl _) (by simp[Rx.ah,fE])
   have w2:=(ih n h).mono (E':=(Rx.rep k a).ah n) (λe he=>by simp only[Rx.ah,List.mem_append];exact .inl (.inl (.inl he)))
   exact .step (w1.trans w2) (by simp[Rx.ah,fE])
  ·exact .step (.refl _) (by simp[Rx.ah,fE,h5])
end
noncomputable section
def kG(c:Int):Option Int:=if 48<=c/\c<=57 then some (c-48)else if 97<=c/\c<=102 then some (c-87)else none
def iD(c:Int):Bool:=(decide (48<=c)&&decide (c<=57))||(decide (97<=c)&&decide (c<=122))||(decide (65<=c)&&decide (c<=90))
def rdS:List Int->Option (Int×Nat)
 |[]=>none
 |c::r=>if c≠92 then some (c,1)else match r with
  |[]=>none
  |d::r2=>if d=110 then some (10,2)else if d=116 then some (9,2)else if d=114 then some (13,2)else
   if d=120 then(match r2 with
    |h::l::_=>(match kG h,kG l with
     |some a,some b=>some (16*a+b,4)
     |_,_=>none)
    |_=>none)
   else if iD d=true\/d<32\/126<d then none else some (d,2)
def iE(l:Nat->Bool):Nat->Nat
 |0=>0
 |n+1=>(if l n then 2 ^ n else 0)+iE l n
theorem pd(l:Nat->Bool)(w:Nat):∃ n,n=iE (λi=>l (64*w+i)) 64:=⟨_,rfl⟩
def aI(l:Nat->Bool)(w:Nat):Nat:=Classical.choose (pd l w)
theorem iu(l:Nat->Bool)(w:Nat):aI l w=iE (λi=>l (64*w+i)) 64:=Classical.choose_spec (pd l w)
def ofB(l:Nat->Bool):List Int:=[(aI l 0:Nat),(aI l 1:Nat),(aI l 2:Nat),(aI l 3:Nat)]
def lI(c:Int):Nat->Bool:=λi=>decide (c=(i:Int))
def nY(a b:Int):Nat->Bool:=λi=>decide (a<=(i:Int))&&decide ((i:Int)<=b)
def bZ(l:Nat->Bool):Bool:=(List.range 256).all λi=>!l i
def ch(s:List Int)(at_:Nat):Int:=(s[at_]?).getD (-1)
def brL(s:List Int):Nat->Nat->(Nat->Bool)->Option ((Nat->Bool)×Nat)
 |0,_,_=>none
 |m+1,i,l=>if s.length<=i\/ch s i=93 then some (l,i)else
  if ch s i∈[94,45,47,34]then none else match rdS (s.drop i)with
   |none=>none
   |some (a,n)=>if i+n<s.length/\ch s (i+n)=45 then
    (if s.length<=i+n+1\/ch s (i+n+1)∈[93,94,45,47,34]then none else match rdS (s.drop (i+n+1))with
     |none=>none
     |some (b,n2)=>if b<a then none else brL s m (i+n+1+n2) λx=>l x||nY a b x)
    else brL s m (i+n) λx=>l x||nY a a x
def brS(s:List Int)(i:Nat):Option (Rx×Nat):=
 let nt:=decide (i<s.length)&&decide (ch s i=94)
 match brL s s.length.succ (if nt then i+1 else i) (λ_=>false)with
 |none=>none
 |some (l,j)=>
  let l':=if nt then λx=>!l x else l
  if s.length<=j\/bZ l'=true then none else some (.set (ofB l'),j+1)
def gR(inner:Nat->Nat->Option (Rx×Nat))(s:List Int)(i d:Nat):Option (Rx×Nat):=
 if s.length<=i\/ch s i∈[124,41,42,43,63,93,47,34]then none
 else if ch s i=46 then some (.set (ofB λ_=>true),i+1)
 else if ch s i=126 then some (.eps,i+1)
 else if ch s i=91 then brS s (i+1)
 else if ch s i=40 then(if 99<=d then none else match inner (i+1) (d+1)with
  |none=>none
  |some (t,j)=>if j<s.length/\ch s j=41 then some (t,j+1)else none)
 else match rdS (s.drop i)with
  |none=>none
  |some (c,n)=>some (.set (ofB (lI c)),i+n)
def eJ(c:Int):Int:=if c=42 then 4 else if c=43 then 5 else 6
def kc(s:List Int):Nat->Nat->Rx->Option (Rx×Nat)
 |0,_,_=>none
 |m+1,i,t=>if i<s.length/\ch s i∈[42,43,63]then kc s m (i+1) (.rep (eJ (ch s i)) t)else some (t,i)
def fV(inner:Nat->Nat->Option (Rx×Nat))(s:List Int)(i d:Nat):Option (Rx×Nat):=
 match gR inner s i d with
 |none=>none
 |some (t,j)=>kc s s.length.succ j t
def kH(inner:Nat->Nat->Option (Rx×Nat))(s:List Int)(d:Nat):Nat->Nat->Rx->Option (Rx×Nat)
 |0,_,_=>none
 |m+1,i,t=>if i<s.length/\ch s i∉[124,41]then(match fV inner s i d with
  |none=>none
  |some (t2,j)=>kH inner s d m j (.cat t t2))else some (t,i)
def ga(inner:Nat->Nat->Option (Rx×Nat))(s:List Int)(i d:Nat):Option (Rx×Nat):=
 match fV inner s i d with
 |none=>none
 |some (t,j)=>kH inner s d s.length.succ j t
def kI(inner:Nat->Nat->Option (Rx×Nat))(s:List Int)(d:Nat):Nat->Nat->Rx->Option (Rx×Nat)
 |0,_,_=>none
 |m+1,i,t=>if i<s.length/\ch s i=124 then(match ga inner s (i+1) d with
  |none=>none
  |some (t2,j)=>kI inner s d m j (.alt t t2))else some (t,i)
def tC(inner:Nat->Nat->Option (Rx×Nat))(s:List Int)(i d:Nat):Option (Rx×Nat):=
 match ga inner s i d with
 |none=>none
 |some (t,j)=>kI inner s d s.length.succ j t
def fA(s:List Int):Nat->Nat->Nat->Option (Rx×Nat)
 |0,_,_=>none
 |n+1,i,d=>tC (fA s n) s i d
def cG(s:List Int):Except Int Rx:=
 if 1600<s.length then .error 6 else match fA s s.length.succ 0 0 with
  |none=>.error 5
  |some (t,i)=>if i<s.length then .error 5 else if 400<t.len then .error 6 else .ok t
end
noncomputable section
theorem nZ(l:Nat->Bool):∀ n,iE l n<2 ^ n:=by
 intro n
 induction n with
 |zero=>simp[iE]
 |succ n ih=>simp only[iE,Nat.pow_succ];split <;> omega
theorem pe(l:Nat->Bool):∀ n i,(iE l n).testBit i=(decide (i<n)&&l i):=by
 intro n
 induction n with
 |zero=>intro i;simp[iE]
 |succ n ih=>
  intro i
  have hlt:=nZ l n
  simp only[iE]
  by_cases hl:l n=true
  ·rw[if_pos hl]
   rcases Nat.lt_trichotomy i n with h|h|h
   ·rw[Nat.testBit_two_pow_add_gt h,ih]
    simp[h,Nat.lt_succ_of_lt h]
   ·subst h
    rw[Nat.testBit_two_pow_add_eq,Nat.testBit_lt_two_pow hlt]
    simp[hl]
   ·rw[Nat.testBit_lt_two_pow (Nat.lt_of_lt_of_le (show 2 ^ n+iE l n<2 ^ (n+1) by rw[Nat.pow_succ];omega) (Nat.pow_le_pow_right (by omega) h))]
    have:¬i<n+1:=by omega
    simp[this]
  ·rw[if_neg hl,Nat.zero_add,ih]
   have hl:l n=false:=by simpa using hl
   by_cases h:i=n
   ·subst h;simp[hl]
   ·have:(i<n)↔(i<n+1):=by omega
    simp[this]
theorem bT(l:Nat->Bool)(w:Nat):aI l w<18446744073709551616:=by rw[iu];exact nZ _ 64
theorem bJ(l:Nat->Bool)(w i:Nat):(aI l w).testBit i=(decide (i<64)&&l (64*w+i)):=by rw[iu];exact pe _ 64 i
theorem dR{l m:Nat->Bool}{w:Nat}(h:∀ i,i<64->l (64*w+i)=m (64*w+i)):aI l w=aI m w:=by
 apply Nat.eq_of_testBit_eq
 intro i
 rw[bJ,bJ]
 by_cases hi:i<64
 ·rw[h i hi]
 ·simp[hi]
theorem jK{l:Nat->Bool}{w n:Nat}(h:∀ i,n.testBit i=(decide (i<64)&&l (64*w+i))):n=aI l w:=by
 apply Nat.eq_of_testBit_eq
 intro i
 rw[h,bJ]
theorem eR{l m:Nat->Bool}(h:∀ i,i<256->l i=m i):ofB l=ofB m:=by
 unfold ofB
 rw[dR (w:=0) (λi hi=>h _ (by omega)),dR (w:=1) (λi hi=>h _ (by omega)),dR (w:=2) (λi hi=>h _ (by omega)),dR (w:=3) (λi hi=>h _ (by omega))]
theorem fB{l:Nat->Bool}{w:Nat}(h:w<4):(ofB l)[w]?=some ((aI l w:Nat):Int):=by
 unfold ofB
 match w,h with
 |0,_=>rfl
 |1,_=>rfl
 |2,_=>rfl
 |3,_=>rfl
theorem Nj{a b c d n a' b' c' d':Int}{w:Nat}(h:w<4)(h0:if w=0 then a'=n else a'=a)(h1:if w=1 then b'=n else b'=b)(h2:if w=2 then c'=n else c'=c)(h3:if w=3 then d'=n else d'=d):[a,b,c,d].set w n=[a',b',c',d']:=by
 have:w=0\/w=1\/w=2\/w=3:=by omega
 rcases this with rfl|rfl|rfl|rfl <;> simp at h0 h1 h2 h3 <;> subst h0 h1 h2 h3 <;> rfl
theorem qK{l m:Nat->Bool}{w n:Nat}(h:w<4)(hn:n=aI m w)(hm:∀ v i,v<4->v≠w->i<64->l (64*v+i)=m (64*v+i)):(ofB l).set w (n:Int)=ofB m:=by
 have key:∀ v,v<4->(if w=v then((aI m v:Nat):Int)=(n:Int)else((aI m v:Nat):Int)=((aI l v:Nat):Int)):=by
  intro v hv
  split
  ·rename_i e;rw[hn,e]
  ·rename_i e
   rw[dR (l:=l) (m:=m) (w:=v) (λi hi=>hm v i hv (λe2=>e e2.symm) hi)]
 exact Nj h (key 0 (by omega)) (key 1 (by omega)) (key 2 (by omega)) (key 3 (by omega))
theorem K9(l:Nat->Bool):(ofB l).length=4:=rfl
theorem HP(l:Nat->Bool):∀ x∈ofB l,0<=x/\x<=18446744073709551615:=by
 intro x hx
 simp only[ofB,List.mem_cons,List.not_mem_nil,or_false]at hx
 have h0:=bT l 0
 have h1:=bT l 1
 have h2:=bT l 2
 have h3:=bT l 3
 generalize aI l 0=a0 at *
 generalize aI l 1=a1 at *
 generalize aI l 2=a2 at *
 generalize aI l 3=a3 at *
 omega
theorem mg{l:Nat->Bool}{w:Nat}:aI l w=0↔∀ i,i<64->l (64*w+i)=false:=by
 constructor
 ·intro h i hi
  have:=bJ l w i
  rw[h]at this
  simpa [hi]using this.symm
 ·intro h
  apply Nat.eq_of_testBit_eq
  intro i
  rw[bJ]
  by_cases hi:i<64
  ·simp[h i hi]
  ·simp[hi]
theorem et{l:Nat->Bool}:ofB l=zS↔bZ l=true:=by
 unfold bZ
 rw[List.all_eq_true]
 constructor
 ·intro h i hi
  have hi:=List.mem_range.1 hi
  simp only[ofB,zS,List.cons.injEq,and_true]at h
  have hw:∀ w,w<4->aI l w=0:=by
   intro w hw
   match w,hw with
   |0,_=>omega
   |1,_=>omega
   |2,_=>omega
   |3,_=>omega
  have:=mg.1 (hw (i / 64) (by omega)) (i % 64) (by omega)
  rw[show 64*(i / 64)+i % 64=i by omega]at this
  simp[this]
 ·intro h
  have hz:∀ w,w<4->aI l w=0:=λw hw=>mg.2 λi hi=>by
   have:=h (64*w+i) (List.mem_range.2 (by omega))
   simpa using this
  simp[ofB,zS,hz]
theorem lJ{n:Nat}(h:n<18446744073709551616):(BitVec.ofInt (IntKind.bits .u64) (n:Int)).toNat=n:=by
 have:IntKind.bits .u64=64:=rfl
 rw[this,BitVec.toNat_ofInt]
 omega
theorem wrap_u64{n:Nat}(h:n<18446744073709551616):IntKind.wrap .u64 (n:Int)=n:=eT ⟨by simp[kLo],by simp[kHi];omega⟩
theorem BW{a b:Nat}(ha:a<18446744073709551616)(hb:b<18446744073709551616):bF .or .u64 (a:Int) (b:Int)=((a|||b:Nat):Int):=by
 have hlt:a|||b<2 ^ 64:=Nat.or_lt_two_pow ha hb
 simp only[bF,BitVec.toNat_or,lJ ha,lJ hb]
 exact wrap_u64 hlt
theorem vA{a b:Nat}(ha:a<18446744073709551616)(hb:b<18446744073709551616):bF .andNot .u64 (a:Int) (b:Int)=((a&&& (18446744073709551615-b):Nat):Int):=by
 have hlt:a&&& (18446744073709551615-b)<2 ^ 64:=Nat.and_lt_two_pow _ (by omega)
 simp only[bF,BitVec.toNat_and,BitVec.toNat_not,lJ ha,lJ hb]
 exact wrap_u64 hlt
theorem tD{i:Nat}(h:i<64):2 ^ i<18446744073709551616:=Nat.lt_of_lt_of_le (Nat.pow_lt_pow_right (by omega) h) (by decide)
theorem qL{i:Nat}(h:i<64):IntKind.wrap .u64 ((1:Int)*2 ^ (Nat.min (Int.toNat (i:Int)) (IntKind.bits .u64)))=((2 ^ i:Nat):Int):=by
 have e:Nat.min (Int.toNat (i:Int)) (IntKind.bits .u64)=i:=by
  rw[Int.toNat_natCast];exact Nat.min_eq_left (by show i<=64;omega)
 rw[e,Int.one_mul]
 have:=wrap_u64 (tD h)
 rw[<-this]
 congr 1
theorem BX{l:Nat->Bool}{w i:Nat}(hi:i<64):aI l w|||2 ^ i=aI (λx=>l x||decide (x=64*w+i)) w:=by
 apply jK
 intro j
 rw[Nat.testBit_or,bJ,Nat.testBit_two_pow]
 by_cases hj:j<64
 ·simp only[hj,decide_true,Bool.true_and]
  congr 1
  rw[decide_eq_decide];omega
 ·simp only[hj,decide_false,Bool.false_and,Bool.false_or,decide_eq_false_iff_not];omega
theorem EC{l m:Nat->Bool}{w:Nat}:aI l w|||aI m w=aI (λx=>l x||m x) w:=by
 apply jK
 intro j
 rw[Nat.testBit_or,bJ,bJ]
 cases decide (j<64) <;> simp
theorem BY{l:Nat->Bool}{w:Nat}:18446744073709551615&&& (18446744073709551615-aI l w)=aI (λx=>!l x) w:=by
 apply jK
 intro j
 have h:=bT l w
 rw[Nat.testBit_and,show(18446744073709551615:Nat)=2 ^ 64-1 by rfl,Nat.testBit_two_pow_sub_one,show 2 ^ 64-1-aI l w=2 ^ 64-(aI l w+1) by omega,Nat.testBit_two_pow_sub_succ h,bJ]
 cases decide (j<64) <;> simp
end
noncomputable section
theorem BZ(i:Nat):Int.tdiv (i:Int) 64=((i / 64:Nat):Int):=by
 rw[show(64:Int)=((64:Nat):Int) by rfl];exact Int.ofNat_tdiv i 64 |>.symm
theorem B0(i:Nat):Int.tmod (i:Int) 64=((i % 64:Nat):Int):=by
 rw[show(64:Int)=((64:Nat):Int) by rfl];exact Int.ofNat_tmod i 64 |>.symm
theorem aL{n:Nat}(h:n<9223372036854775808):IntKind.wrap .i64 (n:Int)=n:=bc (by omega) (by omega)
theorem fc{n:Nat}(h:n<256):IntKind.wrap .u8 (n:Int)=n:=eT ⟨by simp[kLo],by simp[kHi];omega⟩
theorem wV{f:Nat->Bool}{i:Nat}(h:i<256):(ofB f).set (i / 64) (bF .or .u64 ((aI f (i / 64):Nat):Int) ((2 ^ (i % 64):Nat):Int))=ofB (λx=>f x||decide (x=i)):=by
 have hi:i % 64<64:=Nat.mod_lt _ (by omega)
 rw[BW (bT _ _) (tD hi),BX hi]
 have e:64*(i / 64)+i % 64=i:=by omega
 rw[e]
 refine qK (by omega) rfl (λv j hv hne hj=>?_)
 have:¬(64*v+j=i):=by omega
 simp[this]
theorem wW:D5 N0 ()=some ((ofB (λ_=>true),()),()):=by
 have h:∀ w,aI (λ_=>true) w=18446744073709551615:=λw=>by rw[iu];rfl
 have:ofB (λ_=>true)=[18446744073709551615,18446744073709551615,18446744073709551615,18446744073709551615]:=by unfold ofB;simp only[h];rfl
 rw[this]
 rfl
theorem ED{a b:Int}(ha:0<=a/\a<=255)(hb:0<=b/\b<=255):Bs N0 (a,(b,()))=some ((ofB (nY a b),()),()):=by
 unfold Bs
 have wa:IntKind.wrap .i64 a=a:=bc (by omega) (by omega)
 have wb:IntKind.wrap .i64 b=b:=bc (by omega) (by omega)
 have z:([0,0,0,0]:List Int)=ofB (λx=>decide (a<=(x:Int))&&decide ((x:Int)<a)):=by
  rw[show([0,0,0,0]:List Int)=zS by rfl]
  refine(et.2 ?_).symm
  unfold bZ
  rw[List.all_eq_true]
  intro x _
  by_cases h:a<=(x:Int) <;> simp[h]
 simp only[wa,wb]
 refine aJ (λm x r=>∃ i:Nat,x=(([0,0,0,0],(ofB (λx=>decide (a<=(x:Int))&&decide ((x:Int)<(i:Int))),())),((i:Int),()))/\m=(b+1-i).toNat/\a<=i/\i<=256/\(a<=b->(i:Int)<=b+1)/\(b<a->(i:Int)=a)/\r=some ((ofB (nY a b),()),())) ?_ N0 ((b+1-a).toNat) _ _ (by unfold N0;omega) ⟨a.toNat,by rw[Int.toNat_of_nonneg ha.1,<-z],by rw[Int.toNat_of_nonneg ha.1],by omega,by omega,by omega,by omega,rfl⟩
 rintro m x r ⟨i,rfl,hm,h1,h2,h3,h4,rfl⟩ k hk
 simp only
 by_cases hib:(i:Int)<=b
 ·have hi:i<256:=by omega
  have hw:i / 64<4:=by omega
  have hl:i % 64<64:=Nat.mod_lt _ (by omega)
  have w1:IntKind.wrap .i64 (Int.tdiv (i:Int) 64)=((i / 64:Nat):Int):=by rw[BZ];exact aL (by omega)
  have w2:IntKind.wrap .u64 (Int.tmod (i:Int) 64)=((i % 64:Nat):Int):=by rw[B0];exact wrap_u64 (by omega)
  have w3:IntKind.wrap .i64 ((i:Int)+1)=((i+1:Nat):Int):=by rw[<-aL (n:=i+1) (by omega)];rfl
  have g:(ofB (λx=>decide (a<=(x:Int))&&decide ((x:Int)<(i:Int))))[((i / 64:Nat):Int).toNat]?=some ((aI (λx=>decide (a<=(x:Int))&&decide ((x:Int)<(i:Int))) (i / 64):Nat):Int):=by rw[Int.toNat_natCast];exact fB hw
  have n1:¬((64:Int)=0):=by omega
  have n2:¬(((i % 64:Nat):Int)<0):=by omega
  have n3:(0:Int)<=((i / 64:Nat):Int):=by omega
  rw[decide_eq_true hib,cond_true,w1,w2,w3,if_neg n1,if_pos n3,g]
  simp only[if_neg n1,if_neg n2,if_pos n3,g,qL hl]
  refine hk _ _ _ (show(b+1-((i+1:Nat):Int)).toNat<m by omega) ⟨i+1,?_,rfl,by omega,by omega,by omega,by omega,rfl⟩
  rw[Int.toNat_natCast,wV hi]
  have ef:ofB (λx=>(decide (a<=(x:Int))&&decide ((x:Int)<(i:Int)))||decide (x=i))=ofB (λx=>decide (a<=(x:Int))&&decide ((x:Int)<((i+1:Nat):Int))):=by
   refine eR (λx hx=>?_)
   have e1:(decide ((x:Int)<((i+1:Nat):Int)))=(decide ((x:Int)<(i:Int))||decide (x=i)):=by
    rw[<-Bool.decide_or,decide_eq_decide];omega
   rw[e1]
   by_cases hax:a<=(x:Int)
   ·simp[hax]
   ·have:¬x=i:=by omega
    simp[hax,this]
  rw[ef]
 ·rw[decide_eq_false hib,cond_false]
  have ef:ofB (λx=>decide (a<=(x:Int))&&decide ((x:Int)<(i:Int)))=ofB (nY a b):=?_
  ·rw[ef]
  refine eR (λx hx=>?_)
  unfold nY
  rcases Int.lt_or_le b a with hlt|hle
  ·have e:=h4 hlt
   by_cases hax:a<=(x:Int)
   ·have:¬((x:Int)<=b):=by omega
    have:¬((x:Int)<(i:Int)):=by omega
    simp[*]
   ·simp[hax]
  ·have e:=h3 hle
   have:((x:Int)<(i:Int))↔((x:Int)<=b):=by omega
   simp[this]
theorem pg{l m:Nat->Bool}{i n:Nat}(hi:i<4)(hn:n=aI m i):(ofB (λx=>bif decide (x<64*i)then m x else l x)).set i (n:Int)=ofB (λx=>bif decide (x<64*(i+1))then m x else l x):=by
 refine qK hi ?_ (λv j hv hne hj=>?_)
 ·rw[hn]
  refine dR (λj hj=>?_)
  rw[decide_eq_true (by omega)];rfl
 ·have:(64*v+j<64*i)↔(64*v+j<64*(i+1)):=by omega
  simp only[this]
theorem pi{l m:Nat->Bool}:ofB (λx=>bif decide (x<64*4)then m x else l x)=ofB m:=eR λx hx=>by rw[decide_eq_true (by omega)];rfl
theorem wX{l m:Nat->Bool}:ofB l=ofB (λx=>bif decide (x<64*0)then m x else l x):=eR λx hx=>by rw[decide_eq_false (by omega)];rfl
theorem pj{l m:Nat->Bool}{i:Nat}(hi:i<4):(ofB (λx=>bif decide (x<64*i)then m x else l x))[i]?=some ((aI l i:Nat):Int):=by
 have e:aI (λx=>bif decide (x<64*i)then m x else l x) i=aI l i:=dR (λj hj=>by rw[decide_eq_false (by omega)];rfl)
 rw[fB hi,e]
theorem EE(l m:Nat->Bool):Bt N0 (ofB l,(ofB m,()))=some ((ofB (λx=>l x||m x),()),()):=by
 unfold Bt
 refine aJ (λmm x r=>∃ (i:Nat) (z:List Int),x=((ofB (λx=>bif decide (x<64*i)then(l x||m x)else l x),(z,())),((i:Int),()))/\mm+i=4/\r=some ((ofB (λx=>l x||m x),()),())) ?_ N0 4 _ _ (by unfold N0;omega) ⟨0,_,by rw[<-wX];rfl,rfl,rfl⟩
 rintro mm x r ⟨i,z,rfl,hm,rfl⟩ k hk
 simp only
 rcases Nat.lt_or_ge i 4 with h|h
 ·have g1:=pj (l:=l) (m:=λx=>l x||m x) h
  have g2:=fB (l:=m) h
  have n0:(0:Int)<=(i:Int):=by omega
  have w3:IntKind.wrap .i64 ((i:Int)+1)=((i+1:Nat):Int):=by rw[<-aL (n:=i+1) (by omega)];rfl
  rw[decide_eq_true (show(i:Int)<4 by omega),cond_true,if_pos n0,Int.toNat_natCast,g1]
  simp only[if_pos n0,g1,g2,w3]
  refine hk (mm-1) _ _ (by omega) ⟨i+1,z,?_,by omega,rfl⟩
  rw[BW (bT _ _) (bT _ _),pg h EC]
 ·have e:i=4:=by omega
  subst e
  rw[decide_eq_false (show ¬(((4:Nat):Int)<4) by omega),cond_false,pi]
theorem EG(m:Nat->Bool):D7 N0 (ofB (λ_=>true),(ofB m,()))=some ((ofB (λx=>!m x),()),()):=by
 unfold D7
 refine aJ (λmm x r=>∃ (i:Nat) (z:List Int),x=((ofB (λx=>bif decide (x<64*i)then(!m x)else true),(z,())),((i:Int),()))/\mm+i=4/\r=some ((ofB (λx=>!m x),()),())) ?_ N0 4 _ _ (by unfold N0;omega) ⟨0,_,by rw[<-wX];rfl,rfl,rfl⟩
 rintro mm x r ⟨i,z,rfl,hm,rfl⟩ k hk
 simp only
 rcases Nat.lt_or_ge i 4 with h|h
 ·have g1:=pj (l:=λ_=>true) (m:=λx=>!m x) h
  have g2:=fB (l:=m) h
  have n0:(0:Int)<=(i:Int):=by omega
  have w3:IntKind.wrap .i64 ((i:Int)+1)=((i+1:Nat):Int):=by rw[<-aL (n:=i+1) (by omega)];rfl
  have hf:aI (λ_=>true) i=18446744073709551615:=by rw[iu];rfl
  rw[decide_eq_true (show(i:Int)<4 by omega),cond_true,if_pos n0,Int.toNat_natCast,g1]
  simp only[if_pos n0,g1,g2,w3]
  refine hk (mm-1) _ _ (by omega) ⟨i+1,z,?_,by omega,rfl⟩
  rw[vA (bT _ _) (bT _ _),hf,pg h BY]
 ·have e:i=4:=by omega
  subst e
  rw[decide_eq_false (show ¬(((4:Nat):Int)<4) by omega),cond_false,pi]
theorem EH(m:Nat->Bool):D8 N0 (ofB m,())=some ((ofB (λx=>!m x),()),()):=by
 unfold D8
 simp only[wW,aX,EG]
theorem wY(m:Nat->Bool):mC N0 (ofB m,())=some ((bZ m,()),()):=by
 unfold mC
 have:(decide (ofB m=[0,0,0,0]))=bZ m:=by
  rw[Bool.eq_iff_iff,decide_eq_true_eq]
  exact et
 simp only[this]
theorem wZ{c:Int}(h:0<=c/\c<=255):Ea N0 ([c],())=some ((ofB (lI c),()),()):=by
 obtain⟨i,rfl⟩:∃ i:Nat,c=i:=⟨c.toNat,by omega⟩
 have hi:i<256:=by omega
 have hw:i / 64<4:=by omega
 have hl:i % 64<64:=Nat.mod_lt _ (by omega)
 have z:([0,0,0,0]:List Int)=ofB (λ_=>false):=by
  rw[show([0,0,0,0]:List Int)=zS by rfl]
  exact(et.2 (by unfold bZ;rw[List.all_eq_true];intro x _;rfl)).symm
 have w1:IntKind.wrap .u8 (Int.tdiv (i:Int) 64)=((i / 64:Nat):Int):=by rw[BZ];exact fc (by omega)
 have w3:IntKind.wrap .i64 ((0:Int)+1)=1:=bc (by omega) (by omega)
 have g:=fB (l:=λ_=>false) hw
 have n1:¬((64:Int)=0):=by omega
 have n2:¬(((i % 64:Nat):Int)<0):=by omega
 have n3:(0:Int)<=((i / 64:Nat):Int):=by omega
 unfold Ea
 refine aJ (λm x r=>((m=1/\x=(([0,0,0,0],(ofB (λ_=>false),())),((0:Int),())))\/(m=0/\x=(([0,0,0,0],(ofB (lI (i:Int)),())),((1:Int),()))))/\r=some ((ofB (lI (i:Int)),()),())) ?_ N0 1 _ _ (by unfold N0;omega) ⟨.inl ⟨rfl,by rw[<-z]⟩,rfl⟩
 rintro m x r ⟨hx,rfl⟩ k hk
 rcases hx with⟨rfl,rfl⟩|⟨rfl,rfl⟩
 ·have l1:decide ((0:Int)<(([(i:Int)]:List Int).length:Nat))=true:=rfl
  have g0:([(i:Int)]:List Int)[((0:Int)).toNat]?=some (i:Int):=rfl
  have n0:(0:Int)<=0:=by omega
  have tn:(((i / 64:Nat):Int)).toNat=i / 64:=Int.toNat_natCast _
  have hs:=wV (f:=λ_=>false) hi
  have ef:ofB (λx=>false||decide (x=i))=ofB (lI (i:Int)):=eR λx hx=>by
   unfold lI
   rw[Bool.false_or,decide_eq_decide];omega
  have sh:=qL hl
  rw[l1,cond_true,if_pos n0,g0]
  simp only[if_neg n1,w1,if_pos n3,tn,g]
  simp only[B0,if_neg n2,if_pos n3,tn,g,sh,w3,hs,ef]
  exact hk 0 _ _ (by omega) ⟨.inr ⟨rfl,rfl⟩,rfl⟩
 ·have l1:decide ((1:Int)<(([(i:Int)]:List Int).length:Nat))=false:=rfl
  rw[l1,cond_false]
end
end Go.Proofs.YthalkfdkbalpmaaGreat.Rf
