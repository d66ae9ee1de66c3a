/- A part of a proof that a given statement (the one of this claim: the name of its theorem ends in _holds) is true of the program, with no condition ahead of it. Printed by wip/dev/pack2.py out of the texts in wip. -/
import Derived.Test.YthalkfdkbalpmaaGreatU3
set_option linter.unusedVariables false
set_option linter.unusedSimpArgs false
namespace Go.Proofs.YthalkfdkbalpmaaGreat.Rf
open Go
noncomputable section
def Mp(v1:Nat)(v2:T26):T12:=bif decide (400<(v2.1.length:Int))then some ((6,()),())else aE (λ(v3:T9)=>λv4=>bif decide (v3.2.2.1<(v2.1.length:Int))then if 0<=v3.2.2.1 then(match v2.1[(v3.2.2.1).toNat]? with|some v5=>aj (Aq v1 (v5.1,())) (λ(v6:T6)=>aw (λ(v7:T4)=>bif v7.2.1 then some ((5,()),())else v4 ((),IntKind.wrap .i64 (v3.2.1+(IntKind.wrap .i64 (1-v6.1.1))),IntKind.wrap .i64 (v3.2.2.1+1),())) (λv8=>bif decide (v6.1.1<0)then v8 ((),true,())else bif decide (v3.2.1<v6.1.1)then v8 ((),true,())else aj (ta v1 (v5.2,())) (λ(v9:T8)=>v8 ((),(decide (v5.1=1)) == v9.1.1,()))))|none=>none)else none else bif !(decide (v3.2.1=1))then some ((5,()),())else some ((0,()),())) v1 ((),0,0,())
def F146(n:Nat):Fb 146:=fb n [⟨_,F160 n⟩,⟨_,F161 n⟩] [] [] [] Tryz.func146 Tryz.results146 Tryz.ntmps146 (.seq .nop (.seq .nop (.seq .nop (.seq (.seq .nop (.block none (.loop ⟨[],[.val 3 y2,.val 12 y2],[10,11]⟩ (.seq .nop (.seq .nop (.seq (.block none (.seq (.reg none [5]) (.seq .nop (.seq (.seq (.reg (some ⟨[],[.val 34 y4],[3,6,10,11,12]⟩) []) .nop) .nop)))) .nop)))))) .nop)))) [(nw,.ro)] A19 [] [] (Mp n)
def IK(v1:Nat)(v2:T71):Option ((Int×Unit)×(Int×(List (Int×Int×(List Int)×Bool))×Int×Int)×Unit):=some ((IntKind.wrap .i64 ((IntKind.wrap .i64 (v2.1.1+1))-1),()),(IntKind.wrap .i64 (v2.1.1+1),v2.1.2),())
def F172(n:Nat):Fb 172:=fb n [] [] [] [] Tryz.func172 Tryz.results172 Tryz.ntmps172 (.nop) A0 A19 [0] A0 (IK n)
def Mq(v1:Nat)(v2:T71):Option (((Int×Int)×Unit)×(Int×(List (Int×Int×(List Int)×Bool))×Int×Int)×Unit):=aj (IK v1 (v2.1,())) (λ(v3:T81)=>aj (IK v1 (v3.2.1,())) (λ(v4:T81)=>some (((v3.1.1,v4.1.1),()),v4.2.1,())))
def F162(n:Nat):Fb 162:=fb n [⟨_,F172 n⟩] [] [] [] Tryz.func162 Tryz.results162 Tryz.ntmps162 (.seq .nop (.seq .nop (.seq (.reg none [2]) .nop))) A0 [(RJ,.ro)] [0] A0 (Mq n)
def rP(v1:Nat)(v2:((Int×(List (Int×Int×(List Int)×Bool))×Int×Int)×Int×Int×Unit)):Option (Unit×(Int×(List (Int×Int×(List Int)×Bool))×Int×Int)×Unit):=if(List.length v2.1.2.1+List.length ([(v2.2.1,v2.2.2.1,([0,0,0,0]:List Int),true)]:List (Int×Int×(List Int)×Bool)))*56<=140737488355328 then if List.length v2.1.2.1+List.length ([(v2.2.1,v2.2.2.1,([0,0,0,0]:List Int),true)]:List (Int×Int×(List Int)×Bool))<=9223372036854775807 then some ((),(v2.1.1,v2.1.2.1++([(v2.2.1,v2.2.2.1,([0,0,0,0]:List Int),true)]:List (Int×Int×(List Int)×Bool)),v2.1.2.2),())else none else none
def F163(n:Nat):Fb 163:=fb n [] [] [] [] Tryz.func163 Tryz.results163 Tryz.ntmps163 (.nop) [(.box s9,.own (.pr .ro (.pr (.own .ro) (.pr .ro .ro)))),(y2,.ro),(y2,.ro)] [] [0] A0 (rP n)
def pZ(v1:Nat)(v2:((Int×(List (Int×Int×(List Int)×Bool))×Int×Int)×(Int×(List Int))×(List (Int×Int))×Unit)):Option (((List (Int×Int))×Unit)×(Int×(List (Int×Int×(List Int)×Bool))×Int×Int)×Unit):=aj (Mq v1 (v2.1,())) (λ(v3:(((Int×Int)×Unit)×(Int×(List (Int×Int×(List Int)×Bool))×Int×Int)×Unit))=>aw (λ(v4:T86)=>aj (Aq v1 (v2.2.1.1,())) (λ(v5:T6)=>if(0:Int)<=(0:Int)/\(0:Int)<=(IntKind.wrap .i64 ((v2.2.2.1.length:Int)-v5.1.1))/\(IntKind.wrap .i64 ((v2.2.2.1.length:Int)-v5.1.1))<=(v4.1.2.1.length:Int)then if(List.length (cz v4.1.2.1 (0:Int) (IntKind.wrap .i64 ((v2.2.2.1.length:Int)-v5.1.1)))+List.length ([v3.1.1]:List (Int×Int)))*16<=140737488355328 then if List.length (cz v4.1.2.1 (0:Int) (IntKind.wrap .i64 ((v2.2.2.1.length:Int)-v5.1.1)))+List.length ([v3.1.1]:List (Int×Int))<=9223372036854775807 then some (((cz v4.1.2.1 (0:Int) (IntKind.wrap .i64 ((v2.2.2.1.length:Int)-v5.1.1)))++([v3.1.1]:List (Int×Int)),()),v4.1.1,())else none else none else none)) (λv6=>bif decide (v2.2.1.1=0)then aj (rP v1 (v3.2.1,v3.1.1.1,v3.1.1.2,())) (λ(v7:T75)=>v6 ((v7.2.1,v2.2.2.1,()),()))else aw (λ(v8:T86)=>v6 ((v8.1.1,v8.1.2.1,()),())) (λv9=>bif decide (v2.2.1.1=1)then if(List.length v3.2.1.2.1+List.length ([(v3.1.1.1,v3.1.1.2,v2.2.1.2,false)]:List (Int×Int×(List Int)×Bool)))*56<=140737488355328 then if List.length v3.2.1.2.1+List.length ([(v3.1.1.1,v3.1.1.2,v2.2.1.2,false)]:List (Int×Int×(List Int)×Bool))<=9223372036854775807 then v9 (((v3.2.1.1,v3.2.1.2.1++([(v3.1.1.1,v3.1.1.2,v2.2.1.2,false)]:List (Int×Int×(List Int)×Bool)),v3.2.1.2.2),v2.2.2.1,()),())else none else none else aw (λ(v10:T86)=>v9 ((v10.1.1,v10.1.2.1,()),())) (λv11=>bif decide (v2.2.1.1=2)then if 0<=(IntKind.wrap .i64 ((v2.2.2.1.length:Int)-2))then(match v2.2.2.1[(IntKind.wrap .i64 ((v2.2.2.1.length:Int)-2)).toNat]? with|some v12=>if 0<=(IntKind.wrap .i64 ((v2.2.2.1.length:Int)-1))then(match v2.2.2.1[(IntKind.wrap .i64 ((v2.2.2.1.length:Int)-1)).toNat]? with|some v13=>aj (rP v1 (v3.2.1,v3.1.1.1,v12.1,())) (λ(v14:T75)=>aj (rP v1 (v14.2.1,v12.2,v13.1,())) (λ(v15:T75)=>aj (rP v1 (v15.2.1,v13.2,v3.1.1.2,())) (λ(v16:T75)=>v11 ((v16.2.1,v2.2.2.1,()),()))))|none=>none)else none|none=>none)else none else aw (λ(v17:T86)=>v11 ((v17.1.1,v17.1.2.1,()),())) (λv18=>bif decide (v2.2.1.1=3)then if 0<=(IntKind.wrap .i64 ((v2.2.2.1.length:Int)-2))/\(IntKind.wrap .i64 ((v2.2.2.1.length:Int)-2))<=(v2.2.2.1.length:Int)/\(v2.2.2.1.length:Int)<=(v2.2.2.1.length:Int)then aE (λ(v19:(((Int×(List (Int×Int×(List Int)×Bool))×Int×Int)×(List (Int×Int))×Unit)×Int×Unit))=>λv20=>bif decide (v19.2.1<(sF (IntKind.wrap .i64 ((v2.2.2.1.length:Int)-2)) (v2.2.2.1.length:Int)))then bif zx v19.2.1 (IntKind.wrap .i64 ((v2.2.2.1.length:Int)-2)) (v2.2.2.1.length:Int)then if 0<=(mP (IntKind.wrap .i64 ((v2.2.2.1.length:Int)-2)) v19.2.1)then(match v19.1.2.1[(mP (IntKind.wrap .i64 ((v2.2.2.1.length:Int)-2)) v19.2.1).toNat]? with|some v21=>aj (rP v1 (v19.1.1,v3.1.1.1,v21.1,())) (λ(v22:T75)=>aj (rP v1 (v22.2.1,v21.2,v3.1.1.2,())) (λ(v23:T75)=>v20 ((v23.2.1,v19.1.2.1,()),IntKind.wrap .i64 (v19.2.1+1),())))|none=>none)else none else none else v18 ((v19.1.1,v19.1.2.1,()),())) v1 ((v3.2.1,v2.2.2.1,()),0,())else none else if 0<=(IntKind.wrap .i64 ((v2.2.2.1.length:Int)-1))then(match v2.2.2.1[(IntKind.wrap .i64 ((v2.2.2.1.length:Int)-1)).toNat]? with|some v24=>aj (rP v1 (v3.2.1,v3.1.1.1,v24.1,())) (λ(v25:T75)=>aj (rP v1 (v25.2.1,v24.2,v3.1.1.2,())) (λ(v26:T75)=>aw (λ(v27:T86)=>aw (λ(v28:T86)=>v18 ((v28.1.1,v28.1.2.1,()),())) (λv29=>bif !(decide (v2.2.1.1=5))then aj (rP v1 (v27.1.1,v3.1.1.1,v3.1.1.2,())) (λ(v30:T75)=>v29 ((v30.2.1,v27.1.2.1,()),()))else v29 ((v27.1.1,v27.1.2.1,()),()))) (λv31=>bif !(decide (v2.2.1.1=6))then aj (rP v1 (v26.2.1,v24.2,v24.1,())) (λ(v32:T75)=>v31 ((v32.2.1,v2.2.2.1,()),()))else v31 ((v26.2.1,v2.2.2.1,()),()))))|none=>none)else none)))))
def F147(n:Nat):Fb 147:=fb n [⟨_,F162 n⟩,⟨_,F163 n⟩,⟨_,F160 n⟩] [] [118] [] Tryz.func147 Tryz.results147 Tryz.ntmps147 (.seq (.reg none [4]) (.seq .nop (.seq (.reg none [8]) (.seq (.seq .nop (.block none (.seq .nop (.cond (some ⟨[(6,.box s9,.own (.pr .ro (.pr (.own .ro) (.pr .ro .ro)))),(22,uG,.own .ro)],[],[0,2,4,7,8]⟩) .nop (.seq .nop (.cond (some ⟨[(6,.box s9,.own (.pr .ro (.pr (.own .ro) (.pr .ro .ro)))),(22,uG,.own .ro)],[],[0,2,4,7,8]⟩) .nop (.seq .nop (.cond (some ⟨[(6,.box s9,.own (.pr .ro (.pr (.own .ro) (.pr .ro .ro)))),(22,uG,.own .ro)],[],[0,2,4,7,8]⟩) (.seq (.reg none [9,10]) .nop) (.seq .nop (.cond (some ⟨[(6,.box s9,.own (.pr .ro (.pr (.own .ro) (.pr .ro .ro)))),(22,uG,.own .ro)],[],[0,2,4,7,8]⟩) (.seq .nop (.block none (.loop ⟨[(6,.box s9,.own (.pr .ro (.pr (.own .ro) (.pr .ro .ro)))),(22,uG,.own .ro)],[.val 120 y2],[0,2,4,7,8,118,119]⟩ (.seq .nop (.seq .nop (.seq (.block none (.seq (.reg none [12]) .nop)) .nop)))))) (.seq (.reg none [13]) (.seq .nop (.seq .nop (.seq (.seq .nop (.cond (some ⟨[(6,.box s9,.own (.pr .ro (.pr (.own .ro) (.pr .ro .ro)))),(22,uG,.own .ro)],[],[0,2,4,7,8]⟩) .nop .nop)) (.seq .nop (.cond (some ⟨[(6,.box s9,.own (.pr .ro (.pr (.own .ro) (.pr .ro .ro)))),(22,uG,.own .ro)],[],[0,2,4,7,8]⟩) .nop .nop)))))))))))))))) .nop)))) [(.box s9,.own (.pr .ro (.pr (.own .ro) (.pr .ro .ro)))),(Gj,.ro),(uG,.own .ro)] [(uG,.own .ro)] [0] A0 (pZ n)
def Mr(v1:Nat)(v2:T26):Option (((Int×(List (Int×Int×(List Int)×Bool))×Int×Int)×Int×Unit)×Unit):=aj (Mp v1 (v2.1,())) (λ(v3:T6)=>bif !(decide (v3.1.1=0))then some (((0,([]:List (Int×Int×(List Int)×Bool)),0,0),v3.1.1,()),())else aE (λ(v4:(((Int×(List (Int×Int×(List Int)×Bool))×Int×Int)×(Int×(List (Int×Int×(List Int)×Bool))×Int×Int)×Unit)×(List (Int×Int))×Int×Unit))=>λv5=>bif decide (v4.2.2.1<(v2.1.length:Int))then if 0<=v4.2.2.1 then(match v2.1[(v4.2.2.1).toNat]? with|some v6=>aj (pZ v1 (v4.1.2.1,v6,v4.2.1,())) (λ(v7:(((List (Int×Int))×Unit)×(Int×(List (Int×Int×(List Int)×Bool))×Int×Int)×Unit))=>v5 ((v4.1.1,v7.2.1,()),v7.1.1,IntKind.wrap .i64 (v4.2.2.1+1),()))|none=>none)else none else if(0:Int)<=(0:Int)then(match v4.2.1[(0:Int).toNat]? with|some v8=>if(0:Int)<=(0:Int)then(match v4.2.1[(0:Int).toNat]? with|some v9=>some (((v4.1.2.1.1,v4.1.2.1.2.1,v8.1,v9.2),0,()),())|none=>none)else none|none=>none)else none) v1 (((0,([]:List (Int×Int×(List Int)×Bool)),0,0),(0,([]:List (Int×Int×(List Int)×Bool)),0,0),()),([]:List (Int×Int)),0,()))
def F129(n:Nat):Fb 129:=fb n [⟨_,F146 n⟩,⟨_,F147 n⟩] [13,15] [] [] Tryz.func129 Tryz.results129 Tryz.ntmps129 (.seq .nop (.seq .nop (.seq .nop (.seq .nop (.seq (.seq .nop (.block none (.loop ⟨[(16,.box x5,.own (.pr .ro (.pr (.own .ro) (.pr .ro .ro)))),(128,.box s9,.own (.pr .ro (.pr (.own .ro) (.pr .ro .ro))))],[.hdr 6 55 uG (.own .ro),.val 19 y2],[2,5,17,18]⟩ (.seq .nop (.seq .nop (.seq (.block none (.seq (.reg none [8]) .nop)) .nop)))))) (.seq .nop (.seq (.rgf none [5] [2]) .nop))))))) [(nw,.ro)] [(x5,.ro),(y2,.ro)] [] [] (Mr n)
def Gr(v1:Nat)(v2:T71):T14:=aw (λ(v3:T4)=>bif v3.2.1 then some ((false,()),())else aE (λ(v4:T3)=>λv5=>bif decide (v4.2.1<(v2.1.2.1.length:Int))then if 0<=v4.2.1 then(match v2.1.2.1[(v4.2.1).toNat]? with|some v6=>aw (λ(v7:T4)=>bif v7.2.1 then some ((false,()),())else v5 ((),IntKind.wrap .i64 (v4.2.1+1),())) (λv8=>bif decide (v6.1<0)then v8 ((),true,())else bif decide (v2.1.1<=v6.1)then v8 ((),true,())else bif decide (v6.2.1<0)then v8 ((),true,())else v8 ((),decide (v2.1.1<=v6.2.1),()))|none=>none)else none else some ((true,()),())) v1 ((),0,())) (λv9=>bif decide (v2.1.2.2.1<0)then v9 ((),true,())else bif decide (v2.1.1<=v2.1.2.2.1)then v9 ((),true,())else bif decide (v2.1.2.2.2<0)then v9 ((),true,())else v9 ((),decide (v2.1.1<=v2.1.2.2.2),()))
def F148(n:Nat):Fb 148:=fb n [] [] [] [] Tryz.func148 Tryz.results148 Tryz.ntmps148 (.seq (.reg none [1]) (.seq (.seq (.reg (some ⟨[],[.val 26 y4],[1]⟩) []) .nop) (.seq (.seq .nop (.block none (.loop ⟨[],[.val 30 y2],[1,28,29]⟩ (.seq .nop (.seq .nop (.seq (.block none (.seq (.reg none [4]) (.seq (.reg (some ⟨[],[.val 55 y4],[1,28,29,30]⟩) []) .nop))) .nop)))))) .nop))) [(x5,.ro)] A18 [] [] (Gr n)
def Ms(v1:Nat)(v2:T71):Option (((List (List Int))×Unit)×Unit):=aE (λ(v3:(Unit×(List (List Int))×Int×Unit))=>λv4=>bif decide (v3.2.2.1<(v2.1.2.1.length:Int))then if 0<=v3.2.2.1 then(match v2.1.2.1[(v3.2.2.1).toNat]? with|some v5=>aw (λ(v6:(Unit×(List (List Int))×Unit))=>v4 ((),v6.2.1,IntKind.wrap .i64 (v3.2.2.1+1),())) (λv7=>bif !v5.2.2.2 then if(List.length v3.2.1+List.length ([v5.2.2.1]:List (List Int)))*32<=140737488355328 then if List.length v3.2.1+List.length ([v5.2.2.1]:List (List Int))<=9223372036854775807 then v7 ((),v3.2.1++([v5.2.2.1]:List (List Int)),())else none else none else v7 ((),v3.2.1,()))|none=>none)else none else some ((v3.2.1,()),())) v1 ((),([]:List (List Int)),0,())
def F165(n:Nat):Fb 165:=fb n [] [] [] [] Tryz.func165 Tryz.results165 Tryz.ntmps165 (.seq (.reg none [1]) (.seq .nop (.seq (.seq .nop (.block none (.loop ⟨[],[.hdr 3 31 Gk (.own .ro),.val 9 y2],[7,8]⟩ (.seq .nop (.seq .nop (.seq (.block none (.seq (.reg none [5]) (.seq .nop (.cond (some ⟨[],[.hdr 3 31 Gk (.own .ro)],[7,8,9]⟩) .nop .nop)))) .nop)))))) .nop))) [(x5,.ro)] [(Gk,.ro)] [] [] (Ms n)
def Gt(v1:Nat)(v2:T10):T14:=if(64:Int)=0 then none else if 0<=(IntKind.wrap .u8 (Int.tdiv v2.2.1 64))then(match v2.1[(IntKind.wrap .u8 (Int.tdiv v2.2.1 64)).toNat]? with|some v3=>if(64:Int)=0 then none else if(Int.tmod v2.2.1 64)<0 then none else some ((decide ((eG .and .u64 (Int.fdiv v3 (2 ^ (Nat.min (Int.toNat (Int.tmod v2.2.1 64)) (IntKind.bits .u64)))) (1:Int))=1),()),())|none=>none)else none
def F176(n:Nat):Fb 176:=fb n [] [] [] [] Tryz.func176 Tryz.results176 Tryz.ntmps176 (.seq (.reg none [2]) .nop) [(fC,.ro),(y5,.ro)] A18 [] [] (Gt n)
def Mt(v1:Nat)(v2:((List (List Int))×Int×Unit)):T31:=if(8:Int)=0 then none else if 0<=(IntKind.wrap .i64 (Int.tdiv (IntKind.wrap .i64 ((v2.1.length:Int)+7)) 8))/\(IntKind.wrap .i64 (Int.tdiv (IntKind.wrap .i64 ((v2.1.length:Int)+7)) 8))<=(IntKind.wrap .i64 (Int.tdiv (IntKind.wrap .i64 ((v2.1.length:Int)+7)) 8))then if(IntKind.wrap .i64 (Int.tdiv (IntKind.wrap .i64 ((v2.1.length:Int)+7)) 8)).toNat*1<=140737488355328 then aE (λ(v3:T23)=>λv4=>bif decide (v3.2.1<(v2.1.length:Int))then if 0<=v3.2.1 then(match v2.1[(v3.2.1).toNat]? with|some v5=>aj (Gt v1 (v5,v2.2.1,())) (λ(v6:T8)=>aw (λ(v7:T13)=>v4 ((v7.1.1,()),IntKind.wrap .i64 (v3.2.1+1),())) (λv8=>bif v6.1.1 then if(8:Int)=0 then none else if 0<=(IntKind.wrap .i64 (Int.tdiv v3.2.1 8))then(match v3.1.1[(IntKind.wrap .i64 (Int.tdiv v3.2.1 8)).toNat]? with|some v9=>if(8:Int)=0 then none else if(IntKind.wrap .u64 (Int.tmod v3.2.1 8))<0 then none else if 0<=(IntKind.wrap .i64 (Int.tdiv v3.2.1 8))then(match v3.1.1[(IntKind.wrap .i64 (Int.tdiv v3.2.1 8)).toNat]? with|some v10=>if 0<=(IntKind.wrap .i64 (Int.tdiv v3.2.1 8))then(match v3.1.1[(IntKind.wrap .i64 (Int.tdiv v3.2.1 8)).toNat]? with|some v11=>v8 ((List.set v3.1.1 (IntKind.wrap .i64 (Int.tdiv v3.2.1 8)).toNat (eG .or .u8 v9 (IntKind.wrap .u8 ((1:Int)*2 ^ (Nat.min (Int.toNat (IntKind.wrap .u64 (Int.tmod v3.2.1 8))) (IntKind.bits .u8))))),()),())|none=>none)else none|none=>none)else none|none=>none)else none else v8 ((v3.1.1,()),())))|none=>none)else none else some ((v3.1.1,()),())) v1 ((List.replicate (IntKind.wrap .i64 (Int.tdiv (IntKind.wrap .i64 ((v2.1.length:Int)+7)) 8)).toNat (0:Int),()),0,())else none else none
def F173(n:Nat):Fb 173:=fb n [⟨_,F176 n⟩] [] [] [] Tryz.func173 Tryz.results173 Tryz.ntmps173 (.seq .nop (.seq .nop (.seq (.seq .nop (.block none (.loop ⟨[(96,vV,.own .ro)],[.val 15 y2],[1,5,13,14]⟩ (.seq .nop (.seq .nop (.seq (.block none (.seq (.reg none [7]) (.seq .nop (.cond (some ⟨[(96,vV,.own .ro)],[],[1,5,13,14,15]⟩) .nop .nop)))) .nop)))))) .nop))) [(Gk,.ro),(y5,.ro)] A20 [] [] (Mt n)
def Mu(v1:Nat)(v2:((List (List Int))×Unit)):T31:=aE (λ(v3:T77)=>λv4=>bif decide (v3.2.1<256)then aj (Mt v1 (v2.1,IntKind.wrap .u8 v3.2.1,())) (λ(v5:T13)=>aw (λ(v6:T77)=>if 0<=v3.2.1 then(match v6.1.2.1[(v3.2.1).toNat]? with|some v7=>if 0<=v3.2.1 then(match v6.1.2.1[(v3.2.1).toNat]? with|some v8=>v4 ((v6.1.1,List.set v6.1.2.1 (v3.2.1).toNat (IntKind.wrap .u8 v6.2.1),v6.1.2.2.1,()),IntKind.wrap .i64 (v3.2.1+1),())|none=>none)else none|none=>none)else none) (λv9=>bif !(fk (λ(v10:T0)=>λ(v11:T0)=>decide (v10=v11)) v5.1.1 v3.1.2.2.1)then bif xL v3.1.2.2.1 then v9 ((v3.1.1,v3.1.2.1,ff (λ(v12:T0)=>λ(v13:T0)=>decide (v12=v13)) v5.1.1 (B6 v3.1.2.2.1) v3.1.2.2.1,()),B6 v3.1.2.2.1,())else none else v9 ((v3.1.1,v3.1.2.1,v3.1.2.2.1,()),cW (λ(v14:T0)=>λ(v15:T0)=>decide (v14=v15)) v5.1.1 v3.1.2.2.1,())))else some ((v3.1.2.1,()),())) v1 ((List.replicate 256 (0:Int),List.replicate 256 (0:Int),([]:List ((List Int)×Int)),()),0,())
def F164(n:Nat):Fb 164:=fb n [⟨_,F173 n⟩] [] [] [] Tryz.func164 Tryz.results164 Tryz.ntmps164 (.seq .nop (.seq .nop (.seq .nop (.seq (.seq .nop (.block none (.loop ⟨[(16,.box Ao,.own .ro),(24,.box Ao,.own .ro),(72,s8,.own .ro)],[.val 10 y2],[0,2,3,4]⟩ (.seq .nop (.seq .nop (.seq (.block none (.seq .nop (.seq .nop (.seq .nop (.seq (.seq .nop (.cond (some ⟨[(16,.box Ao,.own .ro),(24,.box Ao,.own .ro),(72,s8,.own .ro)],[.val 7 y2],[0,2,3,4,5,10]⟩) .nop .nop)) .nop))))) .nop)))))) (.seq (.rgf none [3] [2]) .nop))))) [(Gk,.ro)] [(Ao,.ro)] [] [] (Mu n)
def IL(v1:Nat)(v2:((Int×(List (Int×Int×(List Int)×Bool))×Int×Int)×(List Bool)×Unit)):T35:=if 0<=v2.1.1/\v2.1.1<=v2.1.1 then if(v2.1.1).toNat*1<=140737488355328 then aE (λ(v3:T32)=>λv4=>bif v3.2.1 then aE (λ(v5:T43)=>λv6=>bif decide (v5.2.2.1<(v2.1.2.1.length:Int))then if 0<=v5.2.2.1 then(match v2.1.2.1[(v5.2.2.1).toNat]? with|some v7=>aw (λ(v8:T32)=>aw (λ(v9:T32)=>v6 ((v9.1.1,()),v9.2.1,IntKind.wrap .i64 (v5.2.2.1+1),())) (λv10=>bif v8.2.1 then if 0<=v7.2.1 then(match v8.1.1[(v7.2.1).toNat]? with|some v11=>if 0<=v7.2.1 then(match v8.1.1[(v7.2.1).toNat]? with|some v12=>v10 ((List.set v8.1.1 (v7.2.1).toNat true,()),true,())|none=>none)else none|none=>none)else none else v10 ((v8.1.1,()),v5.2.1,()))) (λv13=>bif v7.2.2.2 then if 0<=v7.1 then(match v5.1.1[(v7.1).toNat]? with|some v14=>bif v14 then if 0<=v7.2.1 then(match v5.1.1[(v7.2.1).toNat]? with|some v15=>v13 ((v5.1.1,()),!v15,())|none=>none)else none else v13 ((v5.1.1,()),false,())|none=>none)else none else v13 ((v5.1.1,()),false,()))|none=>none)else none else v4 ((v5.1.1,()),v5.2.1,())) v1 ((v3.1.1,()),false,0,())else some ((v3.1.1,()),())) v1 ((cpL (List.replicate (v2.1.1).toNat false) v2.2.1,()),true,())else none else none
def F167(n:Nat):Fb 167:=fb n [] [] [] [] Tryz.func167 Tryz.results167 Tryz.ntmps167 (.seq (.reg none [2]) (.seq .nop (.seq .nop (.seq (.seq .nop (.block none (.loop ⟨[(88,dx,.own .ro)],[.val 6 y4],[2,5]⟩ (.seq .nop (.block none (.seq .nop (.seq .nop (.block none (.loop ⟨[(88,dx,.own .ro)],[.val 6 y4,.val 19 y2],[2,5,17,18]⟩ (.seq .nop (.seq .nop (.seq (.block none (.seq (.reg none [8]) (.seq (.reg (some ⟨[(88,dx,.own .ro)],[.val 39 y4],[2,5,6,8,17,18,19]⟩) []) (.cond (some ⟨[(88,dx,.own .ro)],[.val 6 y4],[2,5,17,18,19]⟩) .nop .nop)))) .nop)))))))))))) .nop)))) [(x5,.ro),(dx,.ro)] A14 [] [] (IL n)
def Mv(v1:Nat)(v2:T7):T31:=if(8:Int)=0 then none else if 0<=(IntKind.wrap .i64 (Int.tdiv (IntKind.wrap .i64 ((v2.1.length:Int)+7)) 8))/\(IntKind.wrap .i64 (Int.tdiv (IntKind.wrap .i64 ((v2.1.length:Int)+7)) 8))<=(IntKind.wrap .i64 (Int.tdiv (IntKind.wrap .i64 ((v2.1.length:Int)+7)) 8))then if(IntKind.wrap .i64 (Int.tdiv (IntKind.wrap .i64 ((v2.1.length:Int)+7)) 8)).toNat*1<=140737488355328 then aE (λ(v3:T23)=>λv4=>bif decide (v3.2.1<(v2.1.length:Int))then if 0<=v3.2.1 then(match v2.1[(v3.2.1).toNat]? with|some v5=>aw (λ(v6:T13)=>v4 ((v6.1.1,()),IntKind.wrap .i64 (v3.2.1+1),())) (λv7=>bif v5 then if(8:Int)=0 then none else if 0<=(IntKind.wrap .i64 (Int.tdiv v3.2.1 8))then(match v3.1.1[(IntKind.wrap .i64 (Int.tdiv v3.2.1 8)).toNat]? with|some v8=>if(8:Int)=0 then none else if(IntKind.wrap .u64 (Int.tmod v3.2.1 8))<0 then none else if 0<=(IntKind.wrap .i64 (Int.tdiv v3.2.1 8))then(match v3.1.1[(IntKind.wrap .i64 (Int.tdiv v3.2.1 8)).toNat]? with|some v9=>if 0<=(IntKind.wrap .i64 (Int.tdiv v3.2.1 8))then(match v3.1.1[(IntKind.wrap .i64 (Int.tdiv v3.2.1 8)).toNat]? with|some v10=>v7 ((List.set v3.1.1 (IntKind.wrap .i64 (Int.tdiv v3.2.1 8)).toNat (eG .or .u8 v8 (IntKind.wrap .u8 ((1:Int)*2 ^ (Nat.min (Int.toNat (IntKind.wrap .u64 (Int.tmod v3.2.1 8))) (IntKind.bits .u8))))),()),())|none=>none)else none|none=>none)else none|none=>none)else none else v7 ((v3.1.1,()),()))|none=>none)else none else some ((v3.1.1,()),())) v1 ((List.replicate (IntKind.wrap .i64 (Int.tdiv (IntKind.wrap .i64 ((v2.1.length:Int)+7)) 8)).toNat (0:Int),()),0,())else none else none
def F174(n:Nat):Fb 174:=fb n [] [] [] [] Tryz.func174 Tryz.results174 Tryz.ntmps174 (.seq .nop (.seq .nop (.seq (.seq .nop (.block none (.loop ⟨[(80,vV,.own .ro)],[.val 13 y2],[3,11,12]⟩ (.seq .nop (.seq .nop (.seq (.block none (.seq .nop (.seq .nop (.cond (some ⟨[(80,vV,.own .ro)],[],[3,11,12,13]⟩) .nop .nop)))) .nop)))))) .nop))) A14 A20 [] [] (Mv n)
def Mw(v1:Nat)(v2:T10):T12:=bif decide ((v2.1.length:Int)<=v2.2.1)then some ((-1,()),())else if 0<=v2.2.1 then(match v2.1[(v2.2.1).toNat]? with|some v3=>some ((v3,()),())|none=>none)else none
def F182(n:Nat):Fb 182:=fb n [] [] [] [] Tryz.func182 Tryz.results182 Tryz.ntmps182 (.nop) [(y28,.ro),(y2,.ro)] A19 [] [] (Mw n)
def Mx(v1:Nat)(v2:((Option ((Int×(List (Int×Int×(List Int)×Bool))×Int×Int)×(List Int)×(List Int)×(List ((List Int)×Int))×(List (List Bool))×(List Int)×(List (List Int))×(List Int)))×(List Bool)×Unit)):T12:=aE (λ(v3:T9)=>λv4=>bif decide (v3.2.2.1<(v2.2.1.length:Int))then if 0<=v3.2.2.1 then(match v2.2.1[(v3.2.2.1).toNat]? with|some v5=>(match v2.1 with|some v6=>(match v2.1 with|some v7=>aj (Mw v1 (v7.2.1,v3.2.2.1,())) (λ(v8:T6)=>aw (λ(v9:T4)=>aw (λ(v10:T3)=>v4 ((),v10.2.1,IntKind.wrap .i64 (v3.2.2.1+1),())) (λv11=>bif v9.2.1 then v11 ((),v8.1.1,())else v11 ((),v3.2.1,()))) (λv12=>bif v5 then bif decide (0<=v8.1.1)then bif decide (v3.2.1<0)then v12 ((),true,())else v12 ((),decide (v8.1.1<v3.2.1),())else v12 ((),false,())else v12 ((),false,())))|none=>none)|none=>none)|none=>none)else none else some ((v3.2.1,()),())) v1 ((),-1,0,())
def F175(n:Nat):Fb 175:=fb n [⟨_,F182 n⟩] [] [] [] Tryz.func175 Tryz.results175 Tryz.ntmps175 (.seq .nop (.seq .nop (.seq (.seq .nop (.block none (.loop ⟨[],[.val 5 y2,.val 11 y2],[0,9,10]⟩ (.seq .nop (.seq .nop (.seq (.block none (.seq .nop (.seq .nop (.seq (.reg (some ⟨[],[.val 35 y4],[0,5,8,9,10,11]⟩) []) (.cond (some ⟨[],[.val 5 y2],[0,9,10,11]⟩) .nop .nop))))) .nop)))))) .nop))) [(RQ,.ro),(dx,.ro)] A19 [] [] (Mx n)
def IN(v1:Nat)(v2:(((Int×(List (Int×Int×(List Int)×Bool))×Int×Int)×(List Int)×(List Int)×(List ((List Int)×Int))×(List (List Bool))×(List Int)×(List (List Int))×(List Int))×(List Bool)×Unit)):Option ((Int×Unit)×((Int×(List (Int×Int×(List Int)×Bool))×Int×Int)×(List Int)×(List Int)×(List ((List Int)×Int))×(List (List Bool))×(List Int)×(List (List Int))×(List Int))×Unit):=aE (λ(v3:((((Int×(List (Int×Int×(List Int)×Bool))×Int×Int)×(List Int)×(List Int)×(List ((List Int)×Int))×(List (List Bool))×(List Int)×(List (List Int))×(List Int))×Unit)×Bool×Int×Unit))=>λv4=>bif decide (v3.2.2.1<(v2.2.1.length:Int))then if 0<=v3.2.2.1 then(match v2.2.1[(v3.2.2.1).toNat]? with|some v5=>aw (λ(v6:((((Int×(List (Int×Int×(List Int)×Bool))×Int×Int)×(List Int)×(List Int)×(List ((List Int)×Int))×(List (List Bool))×(List Int)×(List (List Int))×(List Int))×Unit)×Bool×Unit))=>v4 ((v6.1.1,()),v6.2.1,IntKind.wrap .i64 (v3.2.2.1+1),())) (λv7=>bif v3.2.1 then v7 ((v3.1.1,()),true,())else v7 ((v3.1.1,()),v5,()))|none=>none)else none else bif !v3.2.1 then some ((-1,()),v3.1.1,())else aj (Mv v1 (v2.2.1,())) (λ(v8:T13)=>bif fk (λ(v9:T0)=>λ(v10:T0)=>decide (v9=v10)) v8.1.1 v3.1.1.2.2.2.1 then some ((cW (λ(v11:T0)=>λ(v12:T0)=>decide (v11=v12)) v8.1.1 v3.1.1.2.2.2.1,()),v3.1.1,())else if(List.length v3.1.1.2.2.2.2.1+List.length ([v2.2.1]:List (List Bool)))*24<=140737488355328 then if List.length v3.1.1.2.2.2.2.1+List.length ([v2.2.1]:List (List Bool))<=9223372036854775807 then aj (Mx v1 (some (v3.1.1.1,v3.1.1.2.1,v3.1.1.2.2.1,ff (λ(v13:T0)=>λ(v14:T0)=>decide (v13=v14)) v8.1.1 (v3.1.1.2.2.2.2.1.length:Int) v3.1.1.2.2.2.1,v3.1.1.2.2.2.2.1++([v2.2.1]:List (List Bool)),v3.1.1.2.2.2.2.2),v2.2.1,())) (λ(v15:T6)=>if(List.length v3.1.1.2.2.2.2.2.2.2+List.length ([v15.1.1]:List Int))*8<=140737488355328 then if List.length v3.1.1.2.2.2.2.2.2.2+List.length ([v15.1.1]:List Int)<=9223372036854775807 then some ((IntKind.wrap .i64 (((List.length (v3.1.1.2.2.2.2.1++([v2.2.1]:List (List Bool))):Nat):Int)-1),()),(v3.1.1.1,v3.1.1.2.1,v3.1.1.2.2.1,ff (λ(v16:T0)=>λ(v17:T0)=>decide (v16=v17)) v8.1.1 (v3.1.1.2.2.2.2.1.length:Int) v3.1.1.2.2.2.1,v3.1.1.2.2.2.2.1++([v2.2.1]:List (List Bool)),v3.1.1.2.2.2.2.2.1,v3.1.1.2.2.2.2.2.2.1,v3.1.1.2.2.2.2.2.2.2++([v15.1.1]:List Int)),())else none else none)else none else none)) v1 ((v2.1,()),false,0,())
def F166(n:Nat):Fb 166:=fb n [⟨_,F174 n⟩,⟨_,F175 n⟩] [] [] [] Tryz.func166 Tryz.results166 Tryz.ntmps166 (.seq .nop (.seq .nop (.seq (.seq .nop (.block none (.loop ⟨[(6,.box x6,.own (.pr .ro (.pr .ro (.pr .ro (.pr (.own .ro) (.pr (.own .ro) (.pr .ro (.pr (.own .ro) (.own .ro)))))))))],[.val 5 y4,.val 13 y2],[0,1,11,12]⟩ (.seq .nop (.seq .nop (.seq (.block none (.seq .nop (.reg (some ⟨[(6,.box x6,.own (.pr .ro (.pr .ro (.pr .ro (.pr (.own .ro) (.pr (.own .ro) (.pr .ro (.pr (.own .ro) (.own .ro)))))))))],[.val 5 y4],[0,1,11,12,13]⟩) []))) .nop)))))) .nop))) [(.box x6,.own (.pr .ro (.pr .ro (.pr .ro (.pr (.own .ro) (.pr (.own .ro) (.pr .ro (.pr (.own .ro) (.own .ro))))))))),(dx,.ro)] A19 [0] [(.box x6,.own (.pr .ro (.pr .ro (.pr .ro (.pr (.own .ro) (.pr (.own .ro) (.pr .ro (.pr (.own .ro) (.own .ro)))))))))] (IN n)
def My(v1:Nat)(v2:((Int×(List (Int×Int×(List Int)×Bool))×Int×Int)×(List Bool)×Int×Unit)):T35:=if 0<=v2.1.1/\v2.1.1<=v2.1.1 then if(v2.1.1).toNat*1<=140737488355328 then aE (λ(v3:T27)=>λv4=>bif decide (v3.2.1<(v2.1.2.1.length:Int))then if 0<=v3.2.1 then(match v2.1.2.1[(v3.2.1).toNat]? with|some v5=>aw (λ(v6:T32)=>aw (λ(v7:T15)=>v4 ((v7.1.1,()),IntKind.wrap .i64 (v3.2.1+1),())) (λv8=>bif v6.2.1 then if 0<=v5.2.1 then(match v6.1.1[(v5.2.1).toNat]? with|some v9=>if 0<=v5.2.1 then(match v6.1.1[(v5.2.1).toNat]? with|some v10=>v8 ((List.set v6.1.1 (v5.2.1).toNat true,()),())|none=>none)else none|none=>none)else none else v8 ((v6.1.1,()),()))) (λv11=>bif !v5.2.2.2 then bif decide (v5.1<(v2.2.1.length:Int))then if 0<=v5.1 then(match v2.2.1[(v5.1).toNat]? with|some v12=>bif v12 then aj (Gt v1 (v5.2.2.1,v2.2.2.1,())) (λ(v13:T8)=>v11 ((v3.1.1,()),v13.1.1,()))else v11 ((v3.1.1,()),false,())|none=>none)else none else v11 ((v3.1.1,()),false,())else v11 ((v3.1.1,()),false,()))|none=>none)else none else some ((v3.1.1,()),())) v1 ((List.replicate (v2.1.1).toNat false,()),0,())else none else none
def F168(n:Nat):Fb 168:=fb n [⟨_,F176 n⟩] [] [] [] Tryz.func168 Tryz.results168 Tryz.ntmps168 (.seq (.reg none [3]) (.seq .nop (.seq (.seq .nop (.block none (.loop ⟨[(96,dx,.own .ro)],[.val 16 y2],[1,2,7,14,15]⟩ (.seq .nop (.seq .nop (.seq (.block none (.seq (.reg none [9]) (.seq (.reg (some ⟨[(96,dx,.own .ro)],[.val 42 y4],[1,2,7,9,14,15,16]⟩) []) (.cond (some ⟨[(96,dx,.own .ro)],[],[1,2,7,14,15,16]⟩) .nop .nop)))) .nop)))))) .nop))) [(x5,.ro),(dx,.ro),(y5,.ro)] A14 [] [] (My n)
def IP(v1:Nat)(v2:((Int×(List (Int×Int×(List Int)×Bool))×Int×Int)×(List Int)×Unit)):T80:=aj (Gr v1 (v2.1,())) (λ(v3:T8)=>bif !v3.1.1 then some (((List.replicate 256 (0:Int),([]:List (List Int)),([]:List Int)),1,()),())else aj (Ms v1 (v2.1,())) (λ(v4:(((List (List Int))×Unit)×Unit))=>aj (Mu v1 (v4.1.1,())) (λ(v5:T13)=>aE (λ(v6:RS)=>λv7=>bif decide (v6.2.1<256)then if 0<=v6.2.1 then(match v6.1.2.1.2.2.2.2.2.1[(v6.2.1).toNat]? with|some v8=>aw (λ(v9:((((List Int)×(List (List Int))×(List Int))×((Int×(List (Int×Int×(List Int)×Bool))×Int×Int)×(List Int)×(List Int)×(List ((List Int)×Int))×(List (List Bool))×(List Int)×(List (List Int))×(List Int))×Unit)×Unit))=>v7 ((v9.1.1,v9.1.2.1,()),IntKind.wrap .i64 (v6.2.1+1),())) (λv10=>bif decide ((IntKind.wrap .i64 v8)=(v6.1.2.1.2.2.1.length:Int))then if(List.length v6.1.2.1.2.2.1+List.length ([(IntKind.wrap .u8 v6.2.1)]:List Int))*1<=140737488355328 then if List.length v6.1.2.1.2.2.1+List.length ([(IntKind.wrap .u8 v6.2.1)]:List Int)<=9223372036854775807 then v10 ((v6.1.1,(v6.1.2.1.1,v6.1.2.1.2.1,v6.1.2.1.2.2.1++([(IntKind.wrap .u8 v6.2.1)]:List Int),v6.1.2.1.2.2.2),()),())else none else none else v10 ((v6.1.1,v6.1.2.1,()),()))|none=>none)else none else if 0<=v2.1.1/\v2.1.1<=v2.1.1 then if(v2.1.1).toNat*1<=140737488355328 then if 0<=v2.1.2.2.1 then(match(List.replicate (v2.1.1).toNat false)[(v2.1.2.2.1).toNat]? with|some v11=>if 0<=v2.1.2.2.1 then(match(List.replicate (v2.1.1).toNat false)[(v2.1.2.2.1).toNat]? with|some v12=>aj (IL v1 (v2.1,List.set (List.replicate (v2.1.1).toNat false) (v2.1.2.2.1).toNat true,())) (λ(v13:T15)=>aj (IN v1 (v6.1.2.1,v13.1.1,())) (λ(v14:T96)=>aE (λ(v15:RS)=>λv16=>bif decide (v15.2.1<(v15.1.2.1.2.2.2.2.1.length:Int))then bif decide (2000<(v15.1.2.1.2.2.2.2.1.length:Int))then some (((List.replicate 256 (0:Int),([]:List (List Int)),([]:List Int)),6,()),())else aE (λ(v17:((((List Int)×(List (List Int))×(List Int))×((Int×(List (Int×Int×(List Int)×Bool))×Int×Int)×(List Int)×(List Int)×(List ((List Int)×Int))×(List (List Bool))×(List Int)×(List (List Int))×(List Int))×Unit)×(List Int)×Int×Unit))=>λv18=>bif decide (v17.2.2.1<(v15.1.2.1.2.2.1.length:Int))then if 0<=v17.2.2.1 then(match v15.1.2.1.2.2.1[(v17.2.2.1).toNat]? with|some v19=>if 0<=v15.2.1 then(match v17.1.2.1.2.2.2.2.1[(v15.2.1).toNat]? with|some v20=>aj (My v1 (v2.1,v20,v19,())) (λ(v21:T15)=>aj (IL v1 (v2.1,v21.1.1,())) (λ(v22:T15)=>aj (IN v1 (v17.1.2.1,v22.1.1,())) (λ(v23:T96)=>if(List.length v17.2.1+List.length ([v23.1.1]:List Int))*8<=140737488355328 then if List.length v17.2.1+List.length ([v23.1.1]:List Int)<=9223372036854775807 then v18 ((v17.1.1,v23.2.1,()),v17.2.1++([v23.1.1]:List Int),IntKind.wrap .i64 (v17.2.2.1+1),())else none else none)))|none=>none)else none|none=>none)else none else if(List.length v17.1.2.1.2.2.2.2.2.2.1+List.length ([v17.2.1]:List (List Int)))*24<=140737488355328 then if List.length v17.1.2.1.2.2.2.2.2.2.1+List.length ([v17.2.1]:List (List Int))<=9223372036854775807 then v16 ((v17.1.1,(v17.1.2.1.1,v17.1.2.1.2.1,v17.1.2.1.2.2.1,v17.1.2.1.2.2.2.1,v17.1.2.1.2.2.2.2.1,v17.1.2.1.2.2.2.2.2.1,v17.1.2.1.2.2.2.2.2.2.1++([v17.2.1]:List (List Int)),v17.1.2.1.2.2.2.2.2.2.2),()),IntKind.wrap .i64 (v15.2.1+1),())else none else none) v1 ((v15.1.1,v15.1.2.1,()),([]:List Int),0,())else some ((v15.1.2.1.2.2.2.2.2,0,()),())) v1 ((v6.1.1,v14.2.1,()),0,())))|none=>none)else none|none=>none)else none else none else none) v1 (((List.replicate 256 (0:Int),([]:List (List Int)),([]:List Int)),(v2.1,v2.2.1,([]:List Int),([]:List ((List Int)×Int)),([]:List (List Bool)),v5.1.1,([]:List (List Int)),([]:List Int)),()),0,()))))
def F149(n:Nat):Fb 149:=fb n [⟨_,F148 n⟩,⟨_,F165 n⟩,⟨_,F164 n⟩,⟨_,F167 n⟩,⟨_,F166 n⟩,⟨_,F168 n⟩] [16,20,24,69,85,107,108,109] [] [] Tryz.func149 Tryz.results149 Tryz.ntmps149 (.seq (.reg none [2]) (.seq .nop (.seq .nop (.seq .nop (.seq (.seq .nop (.block none (.loop ⟨[(32,.box vW,.own (.pr .ro (.pr (.own .ro) (.own .ro)))),(168,.box x6,.own (.pr .ro (.pr .ro (.pr (.own .ro) (.pr (.own .ro) (.pr (.own .ro) (.pr .ro (.pr (.own .ro) (.own .ro)))))))))],[.val 29 y2],[2,4,6]⟩ (.seq .nop (.seq .nop (.seq (.block none (.seq .nop (.seq .nop (.cond (some ⟨[(32,.box vW,.own (.pr .ro (.pr (.own .ro) (.own .ro)))),(168,.box x6,.own (.pr .ro (.pr .ro (.pr (.own .ro) (.pr (.own .ro) (.pr (.own .ro) (.pr .ro (.pr (.own .ro) (.own .ro)))))))))],[],[2,4,6,29]⟩) .nop .nop)))) .nop)))))) (.seq (.rgp none [] [] [(6,[.deref,.st,.snd,.snd,.fst])]) (.seq .nop (.seq .nop (.seq (.seq .nop (.block none (.loop ⟨[(32,.box vW,.own (.pr .ro (.pr (.own .ro) (.own .ro)))),(168,.box x6,.own (.pr .ro (.pr .ro (.pr .ro (.pr (.own .ro) (.pr (.own .ro) (.pr .ro (.pr (.own .ro) (.own .ro)))))))))],[.val 9 y2],[2,4,6]⟩ (.seq .nop (.seq (.block none (.seq .nop (.seq .nop (.seq (.seq .nop (.block none (.loop ⟨[(32,.box vW,.own (.pr .ro (.pr (.own .ro) (.own .ro)))),(168,.box x6,.own (.pr .ro (.pr .ro (.pr .ro (.pr (.own .ro) (.pr (.own .ro) (.pr .ro (.pr (.own .ro) (.own .ro)))))))))],[.hdr 10 87 y28 (.own .ro),.val 91 y2],[2,4,6,9,89,90]⟩ .nop))) (.rgf none [10] []))))) .nop))))) (.seq (.rgf none [6] [4]) .nop)))))))))) [(x5,.ro),(y28,.ro)] A7 [] [] (IP n)
def IQ(v1:Nat)(v2:T71):T80:=aj (Gr v1 (v2.1,())) (λ(v3:T8)=>bif !v3.1.1 then some (((List.replicate 256 (0:Int),([]:List (List Int)),([]:List Int)),1,()),())else if 0<=v2.1.1/\v2.1.1<=v2.1.1 then if(v2.1.1).toNat*8<=140737488355328 then aE (λ(v4:((((List Int)×(List (List Int))×(List Int))×(List Int)×Unit)×Int×Unit))=>λv5=>bif decide (v4.2.1<((List.length (List.replicate (v2.1.1).toNat (0:Int)):Nat):Int))then if 0<=v4.2.1 then(match v4.1.2.1[(v4.2.1).toNat]? with|some v6=>if 0<=v4.2.1 then(match v4.1.2.1[(v4.2.1).toNat]? with|some v7=>v5 ((v4.1.1,List.set v4.1.2.1 (v4.2.1).toNat (-1:Int),()),IntKind.wrap .i64 (v4.2.1+1),())|none=>none)else none|none=>none)else none else if 0<=v2.1.2.2.2 then(match v4.1.2.1[(v2.1.2.2.2).toNat]? with|some v8=>if 0<=v2.1.2.2.2 then(match v4.1.2.1[(v2.1.2.2.2).toNat]? with|some v9=>aj (IP v1 (v2.1,List.set v4.1.2.1 (v2.1.2.2.2).toNat (0:Int),())) (λ(v10:T74)=>some ((v10.1.1,v10.1.2.1,()),()))|none=>none)else none|none=>none)else none) v1 (((List.replicate 256 (0:Int),([]:List (List Int)),([]:List Int)),List.replicate (v2.1.1).toNat (0:Int),()),0,())else none else none)
def F130(n:Nat):Fb 130:=fb n [⟨_,F148 n⟩,⟨_,F149 n⟩] [9] [] [] Tryz.func130 Tryz.results130 Tryz.ntmps130 (.seq (.reg none [1]) (.seq .nop (.seq .nop (.seq (.seq .nop (.block none (.loop ⟨[(16,.box vW,.own (.pr .ro (.pr (.own .ro) (.own .ro)))),(96,y28,.own .ro)],[.val 15 y2],[1,2,4,14]⟩ .nop))) (.seq .nop (.seq (.reg none [2]) .nop)))))) [(x5,.ro)] A7 [] [] (IQ n)
def Ct(v1:Nat)(v2:T5):T80:=aj (Mo v1 (v2.1,())) (λ(v3:T60)=>bif !(decide (v3.1.2.1=0))then some (((List.replicate 256 (0:Int),([]:List (List Int)),([]:List Int)),v3.1.2.1,()),())else aj (Mr v1 (v3.1.1,())) (λ(v4:(((Int×(List (Int×Int×(List Int)×Bool))×Int×Int)×Int×Unit)×Unit))=>bif !(decide (v4.1.2.1=0))then some (((List.replicate 256 (0:Int),([]:List (List Int)),([]:List Int)),v4.1.2.1,()),())else aj (IQ v1 (v4.1.1,())) (λ(v5:T74)=>some ((v5.1.1,v5.1.2.1,()),()))))
def F107(n:Nat):Fb 107:=fb n [⟨_,F128 n⟩,⟨_,F129 n⟩,⟨_,F130 n⟩] [9,14,18,23,26] [] [] Tryz.func107 Tryz.results107 Tryz.ntmps107 (.seq .nop (.seq .nop (.seq .nop (.seq (.reg none [6]) (.seq .nop (.seq (.reg none [2]) .nop)))))) A20 A7 [] [] (Ct n)
def RY(v1:Nat)(v2:(((List Int)×(List (List Int))×(List Int))×Int×Int×Unit)):T12:=aw (λ(v3:T4)=>bif v3.2.1 then some ((-1,()),())else if 0<=v2.2.1 then(match v2.1.2.1[(v2.2.1).toNat]? with|some v4=>if 0<=v2.2.2.1 then(match v2.1.1[(v2.2.2.1).toNat]? with|some v5=>if 0<=v5 then(match v4[(v5).toNat]? with|some v6=>some ((v6,()),())|none=>none)else none|none=>none)else none|none=>none)else none) (λv7=>bif decide (v2.2.1<0)then v7 ((),true,())else bif decide ((v2.1.2.1.length:Int)<=v2.2.1)then v7 ((),true,())else if 0<=v2.2.2.1 then(match v2.1.1[(v2.2.2.1).toNat]? with|some v8=>if 0<=v2.2.1 then(match v2.1.2.1[(v2.2.1).toNat]? with|some v9=>v7 ((),decide ((v9.length:Int)<=(IntKind.wrap .i64 v8)),())|none=>none)else none|none=>none)else none)
def F150(n:Nat):Fb 150:=fb n [] [] [] [] Tryz.func150 Tryz.results150 Tryz.ntmps150 (.seq (.reg none [3]) (.seq (.seq (.reg (some ⟨[],[.val 29 y4],[1,2,3]⟩) []) .nop) .nop)) [(vW,.ro),(y2,.ro),(y5,.ro)] A19 [] [] (RY n)
def Mz(v1:Nat)(v2:(((List Int)×(List (List Int))×(List Int))×Int×(List Int)×Unit)):T12:=aE (λ(v3:T9)=>λv4=>aw (λ(v5:T4)=>bif v5.2.1 then if 0<=v3.2.2.1 then(match v2.2.2.1[(v3.2.2.1).toNat]? with|some v6=>aj (RY v1 (v2.1,v3.2.1,v6,())) (λ(v7:T6)=>v4 ((),v7.1.1,IntKind.wrap .i64 (v3.2.2.1+1),()))|none=>none)else none else some ((v3.2.1,()),())) (λv8=>bif decide (v3.2.2.1<(v2.2.2.1.length:Int))then v8 ((),!(decide (v3.2.1=-1)),())else v8 ((),false,()))) v1 ((),v2.2.1,0,())
def F132(n:Nat):Fb 132:=fb n [⟨_,F150 n⟩] [] [] [] Tryz.func132 Tryz.results132 Tryz.ntmps132 (.seq (.reg none [3]) (.seq (.seq .nop (.block none (.loop ⟨[],[.val 1 y2,.val 7 y2],[2,3]⟩ (.seq (.seq (.reg (some ⟨[],[.val 15 y4],[1,2,3,7]⟩) []) .nop) .nop)))) .nop)) [(vW,.ro),(y2,.ro),(y9,.ro)] A19 [] [] (Mz n)
def MA(v1:Nat)(v2:(((List Int)×(List (List Int))×(List Int))×Int×Unit)):T12:=aw (λ(v3:T4)=>bif v3.2.1 then some ((-1,()),())else if 0<=v2.2.1 then(match v2.1.2.2[(v2.2.1).toNat]? with|some v4=>some ((v4,()),())|none=>none)else none) (λv5=>bif decide (v2.2.1<0)then v5 ((),true,())else v5 ((),decide ((v2.1.2.2.length:Int)<=v2.2.1),()))
def F131(n:Nat):Fb 131:=fb n [] [] [] [] Tryz.func131 Tryz.results131 Tryz.ntmps131 (.seq (.reg none [2]) (.seq (.seq (.reg (some ⟨[],[.val 13 y4],[1,2]⟩) []) .nop) .nop)) A7 A19 [] [] (MA n)
def MB(v1:Nat)(v2:(((List Int)×(List (List Int))×(List Int))×(List Int)×Unit)):T12:=aj (Mz v1 (v2.1,0,v2.2.1,())) (λ(v3:T6)=>aj (MA v1 (v2.1,v3.1.1,())) (λ(v4:T6)=>some ((v4.1.1,()),())))
def F108(n:Nat):Fb 108:=fb n [⟨_,F132 n⟩,⟨_,F131 n⟩] [] [] [] Tryz.func108 Tryz.results108 Tryz.ntmps108 (.seq (.reg none [2]) .nop) [(vW,.ro),(y9,.ro)] A19 [] [] (MB n)
end
noncomputable section
def Aw(v1:Nat)(v2:T10):T14:=aE (λ(v3:T3)=>λv4=>bif decide (v3.2.1<(v2.1.length:Int))then if 0<=v3.2.1 then(match v2.1[(v3.2.1).toNat]? with|some v5=>bif decide (v5=v2.2.1)then some ((true,()),())else v4 ((),IntKind.wrap .i64 (v3.2.1+1),())|none=>none)else none else some ((false,()),())) v1 ((),0,())
def F152(n:Nat):Fb 152:=fb n [] [] [] [] Tryz.func152 Tryz.results152 Tryz.ntmps152 (.seq .nop (.seq (.seq .nop (.block none (.loop ⟨[],[.val 5 y2],[0,1]⟩ .nop))) .nop)) [(y9,.ro),(y5,.ro)] A18 [] [] (Aw n)
def Gu(v1:Nat)(v2:T10):T14:=if(64:Int)=0 then none else if 0<=(IntKind.wrap .i64 (Int.tdiv v2.2.1 64))then(match v2.1[(IntKind.wrap .i64 (Int.tdiv v2.2.1 64)).toNat]? with|some v3=>aE (λ(v4:T9)=>λv5=>if(64:Int)=0 then none else bif decide (v4.2.2.1<(Int.tmod v2.2.1 64))then if(2:Int)=0 then none else v5 ((),IntKind.wrap .u64 (Int.tdiv v4.2.1 2),IntKind.wrap .i64 (v4.2.2.1+1),())else if(2:Int)=0 then none else some ((decide ((Int.tmod v4.2.1 2)=1),()),())) v1 ((),v3,0,())|none=>none)else none
def F135(n:Nat):Fb 135:=fb n [] [] [] [] Tryz.func135 Tryz.results135 Tryz.ntmps135 (.seq (.reg none [2]) (.seq .nop (.seq (.seq .nop (.block none (.loop ⟨[],[.val 5 y12,.val 6 y2],[1]⟩ .nop))) .nop))) [(fC,.ro),(y2,.ro)] A18 [] [] (Gu n)
def Cu(v1:Nat)(v2:T7):T31:=aE (λ(v3:T54)=>λv4=>aw (λ(v5:(((List Int)×(List Int)×Unit)×Bool×Unit))=>bif v5.2.1 then if 0<=v3.2.1 then(match v2.1[(v3.2.1).toNat]? with|some v6=>aw (λ(v7:T44)=>v4 ((v7.1.1,v7.1.2.1,()),IntKind.wrap .i64 (v3.2.1+1),())) (λv8=>bif v6 then if(64:Int)=0 then none else if(64:Int)=0 then none else if 0<=(IntKind.wrap .i64 (Int.tdiv v3.2.1 64))then(match v5.1.2.1[(IntKind.wrap .i64 (Int.tdiv v3.2.1 64)).toNat]? with|some v9=>if(64:Int)=0 then none else if(IntKind.wrap .u64 (Int.tmod v3.2.1 64))<0 then none else if 0<=(IntKind.wrap .i64 (Int.tdiv v3.2.1 64))then(match v5.1.2.1[(IntKind.wrap .i64 (Int.tdiv v3.2.1 64)).toNat]? with|some v10=>if 0<=(IntKind.wrap .i64 (Int.tdiv v3.2.1 64))then(match v5.1.2.1[(IntKind.wrap .i64 (Int.tdiv v3.2.1 64)).toNat]? with|some v11=>v8 ((v5.1.1,List.set v5.1.2.1 (IntKind.wrap .i64 (Int.tdiv v3.2.1 64)).toNat (IntKind.wrap .u64 (v9+(IntKind.wrap .u64 ((1:Int)*2 ^ (Nat.min (Int.toNat (IntKind.wrap .u64 (Int.tmod v3.2.1 64))) (IntKind.bits .u64)))))),()),())|none=>none)else none|none=>none)else none|none=>none)else none else v8 ((v5.1.1,v5.1.2.1,()),()))|none=>none)else none else some ((v5.1.2.1,()),())) (λv12=>bif decide (v3.2.1<256)then v12 ((v3.1.1,v3.1.2.1,()),decide (v3.2.1<(v2.1.length:Int)),())else v12 ((v3.1.1,v3.1.2.1,()),false,()))) v1 ((([0,0,0,0]:List Int),([0,0,0,0]:List Int),()),0,())
def F180(n:Nat):Fb 180:=fb n [] [] [] [] Tryz.func180 Tryz.results180 Tryz.ntmps180 (.seq .nop (.seq .nop (.seq (.seq .nop (.block none (.loop ⟨[(16,.box fC,.own .ro),(24,.box fC,.own .ro)],[.val 4 y2],[0,2,3]⟩ (.seq (.seq (.reg (some ⟨[(16,.box fC,.own .ro),(24,.box fC,.own .ro)],[.val 12 y4],[0,2,3,4]⟩) []) .nop) (.seq (.block none (.seq .nop (.cond (some ⟨[(16,.box fC,.own .ro),(24,.box fC,.own .ro)],[],[0,2,3,4]⟩) .nop .nop))) .nop))))) (.seq (.rgf none [3] [2]) .nop)))) A14 A13 [] [] (Cu n)
def IR(v1:Nat)(v2:(Int×(List Int)×(List Int)×Unit)):T31:=aE (λ(v3:(((List Int)×Unit)×(List Bool)×Int×Unit))=>λv4=>bif decide (v3.2.2.1<256)then aj (Gu v1 (v2.2.1,v3.2.2.1,())) (λ(v5:T8)=>aj (Gu v1 (v2.2.2.1,v3.2.2.1,())) (λ(v6:T8)=>aw (λ(v7:T47)=>v4 ((v7.1.1,()),v7.2.1,IntKind.wrap .i64 (v3.2.2.1+1),())) (λv8=>bif decide (v2.1=0)then aw (λ(v9:T47)=>v8 ((v9.1.1,()),v9.2.1,())) (λv10=>bif v5.1.1 then if(List.length v3.2.1+List.length ([true]:List Bool))*1<=140737488355328 then if List.length v3.2.1+List.length ([true]:List Bool)<=9223372036854775807 then v10 ((v3.1.1,()),v3.2.1++([true]:List Bool),())else none else none else if(List.length v3.2.1+List.length ([v6.1.1]:List Bool))*1<=140737488355328 then if List.length v3.2.1+List.length ([v6.1.1]:List Bool)<=9223372036854775807 then v10 ((v3.1.1,()),v3.2.1++([v6.1.1]:List Bool),())else none else none)else aw (λ(v11:T47)=>v8 ((v11.1.1,()),v11.2.1,())) (λv12=>bif decide (v2.1=1)then aw (λ(v13:T47)=>v12 ((v13.1.1,()),v13.2.1,())) (λv14=>bif v5.1.1 then if(List.length v3.2.1+List.length ([v6.1.1]:List Bool))*1<=140737488355328 then if List.length v3.2.1+List.length ([v6.1.1]:List Bool)<=9223372036854775807 then v14 ((v3.1.1,()),v3.2.1++([v6.1.1]:List Bool),())else none else none else if(List.length v3.2.1+List.length ([false]:List Bool))*1<=140737488355328 then if List.length v3.2.1+List.length ([false]:List Bool)<=9223372036854775807 then v14 ((v3.1.1,()),v3.2.1++([false]:List Bool),())else none else none)else aw (λ(v15:T47)=>v12 ((v15.1.1,()),v15.2.1,())) (λv16=>bif decide (v2.1=2)then aw (λ(v17:T47)=>v16 ((v17.1.1,()),v17.2.1,())) (λv18=>bif v5.1.1 then if(List.length v3.2.1+List.length ([(!v6.1.1)]:List Bool))*1<=140737488355328 then if List.length v3.2.1+List.length ([(!v6.1.1)]:List Bool)<=9223372036854775807 then v18 ((v3.1.1,()),v3.2.1++([(!v6.1.1)]:List Bool),())else none else none else if(List.length v3.2.1+List.length ([false]:List Bool))*1<=140737488355328 then if List.length v3.2.1+List.length ([false]:List Bool)<=9223372036854775807 then v18 ((v3.1.1,()),v3.2.1++([false]:List Bool),())else none else none)else if(List.length v3.2.1+List.length ([(!v5.1.1)]:List Bool))*1<=140737488355328 then if List.length v3.2.1+List.length ([(!v5.1.1)]:List Bool)<=9223372036854775807 then v16 ((v3.1.1,()),v3.2.1++([(!v5.1.1)]:List Bool),())else none else none)))))else aj (Cu v1 (v3.2.1,())) (λ(v19:T13)=>some ((v19.1.1,()),()))) v1 ((([0,0,0,0]:List Int),()),([]:List Bool),0,())
def F177(n:Nat):Fb 177:=fb n [⟨_,F135 n⟩,⟨_,F180 n⟩] [] [] [] Tryz.func177 Tryz.results177 Tryz.ntmps177 (.seq (.reg none [4,5]) (.seq .nop (.seq (.seq .nop (.block none (.loop ⟨[(48,.box fC,.own .ro)],[.hdr 7 63 dx (.own .ro),.val 8 y2],[0,4,5,6]⟩ (.seq .nop (.seq (.block none (.seq .nop (.seq .nop (.block none (.seq .nop (.cond (some ⟨[(48,.box fC,.own .ro)],[.hdr 7 63 dx (.own .ro)],[0,4,5,6,8]⟩) (.reg (some ⟨[(48,.box fC,.own .ro)],[.hdr 7 63 dx (.own .ro)],[0,4,5,6,8]⟩) []) (.seq .nop (.cond (some ⟨[(48,.box fC,.own .ro)],[.hdr 7 63 dx (.own .ro)],[0,4,5,6,8]⟩) (.reg (some ⟨[(48,.box fC,.own .ro)],[.hdr 7 63 dx (.own .ro)],[0,4,5,6,8]⟩) []) (.seq .nop (.cond (some ⟨[(48,.box fC,.own .ro)],[.hdr 7 63 dx (.own .ro)],[0,4,5,6,8]⟩) (.reg (some ⟨[(48,.box fC,.own .ro)],[.hdr 7 63 dx (.own .ro)],[0,4,5,6,8]⟩) []) .nop)))))))))) .nop))))) (.seq (.reg none [6]) .nop)))) [(y2,.ro),(fC,.ro),(fC,.ro)] A13 [] [] (IR n)
def Ax(v1:Nat)(v2:T10):T14:=aE (λ(v3:T3)=>λv4=>bif decide (v3.2.1<(v2.1.length:Int))then if 0<=v3.2.1 then(match v2.1[(v3.2.1).toNat]? with|some v5=>bif decide (v5=v2.2.1)then some ((true,()),())else v4 ((),IntKind.wrap .i64 (v3.2.1+1),())|none=>none)else none else some ((false,()),())) v1 ((),0,())
def F113(n:Nat):Fb 113:=fb n [] [] [] [] Tryz.func113 Tryz.results113 Tryz.ntmps113 (.seq .nop (.seq (.seq .nop (.block none (.loop ⟨[],[.val 5 y2],[0,1]⟩ .nop))) .nop)) [(y9,.ro),(y5,.ro)] A18 [] [] (Ax n)
def MC(v1:Nat)(v2:(Int×(List Int)×Unit)):T31:=bif decide (v2.1=10)then some ((([92,110]:List Int),()),())else bif decide (v2.1=9)then some ((([92,116]:List Int),()),())else bif decide (v2.1=13)then some ((([92,114]:List Int),()),())else aw (λ(v3:T4)=>bif v3.2.1 then if(16:Int)=0 then none else if(16:Int)=0 then none else if 0<=(IntKind.wrap .u8 (Int.tdiv v2.1 16))/\(IntKind.wrap .u8 (Int.tdiv v2.1 16))<=(IntKind.wrap .u8 ((IntKind.wrap .u8 (Int.tdiv v2.1 16))+1))/\(IntKind.wrap .u8 ((IntKind.wrap .u8 (Int.tdiv v2.1 16))+1))<=((List.length ([48,49,50,51,52,53,54,55,56,57,97,98,99,100,101,102]:List Int):Nat):Int)then if List.length ([92,120]:List Int)+List.length (cz ([48,49,50,51,52,53,54,55,56,57,97,98,99,100,101,102]:List Int) (IntKind.wrap .u8 (Int.tdiv v2.1 16)) (IntKind.wrap .u8 ((IntKind.wrap .u8 (Int.tdiv v2.1 16))+1)))<=9223372036854775807 then if(16:Int)=0 then none else if(16:Int)=0 then none else if 0<=(Int.tmod v2.1 16)/\(Int.tmod v2.1 16)<=(IntKind.wrap .u8 ((Int.tmod v2.1 16)+1))/\(IntKind.wrap .u8 ((Int.tmod v2.1 16)+1))<=((List.length ([48,49,50,51,52,53,54,55,56,57,97,98,99,100,101,102]:List Int):Nat):Int)then if List.length (([92,120]:List Int)++(cz ([48,49,50,51,52,53,54,55,56,57,97,98,99,100,101,102]:List Int) (IntKind.wrap .u8 (Int.tdiv v2.1 16)) (IntKind.wrap .u8 ((IntKind.wrap .u8 (Int.tdiv v2.1 16))+1))))+List.length (cz ([48,49,50,51,52,53,54,55,56,57,97,98,99,100,101,102]:List Int) (Int.tmod v2.1 16) (IntKind.wrap .u8 ((Int.tmod v2.1 16)+1)))<=9223372036854775807 then some (((([92,120]:List Int)++(cz ([48,49,50,51,52,53,54,55,56,57,97,98,99,100,101,102]:List Int) (IntKind.wrap .u8 (Int.tdiv v2.1 16)) (IntKind.wrap .u8 ((IntKind.wrap .u8 (Int.tdiv v2.1 16))+1))))++(cz ([48,49,50,51,52,53,54,55,56,57,97,98,99,100,101,102]:List Int) (Int.tmod v2.1 16) (IntKind.wrap .u8 ((Int.tmod v2.1 16)+1))),()),())else none else none else none else none else aw (λ(v4:T4)=>bif v4.2.1 then if List.length ([92]:List Int)+List.length ([v2.1]:List Int)<=9223372036854775807 then some ((([92]:List Int)++([v2.1]:List Int),()),())else none else some ((([v2.1]:List Int),()),())) (λv5=>bif decide (v2.1=92)then v5 ((),true,())else aj (Ax v1 (v2.2.1,v2.1,())) (λ(v6:T8)=>v5 ((),v6.1.1,())))) (λv7=>bif decide (v2.1<32)then v7 ((),true,())else v7 ((),decide (126<v2.1),()))
def F183(n:Nat):Fb 183:=fb n [⟨_,F113 n⟩] [] [] [] Tryz.func183 Tryz.results183 Tryz.ntmps183 (.seq .nop (.seq .nop (.seq (.block none (.seq .nop (.cond none .nop (.seq .nop (.cond none .nop (.seq .nop (.cond none .nop (.seq (.reg (some ⟨[],[.val 15 y4],[0,1,5]⟩) []) (.cond none .nop (.seq (.reg (some ⟨[],[.val 38 y4],[0]⟩) []) .nop)))))))))) .nop))) [(y5,.ro),(y9,.ro)] A20 [] [] (MC n)
def IS(v1:Nat)(v2:T1):T14:=aj (Ax v1 (([48,49,50,51,52,53,54,55,56,57,97,98,99,100,101,102,103,104,105,106,107,108,109,110,111,112,113,114,115,116,117,118,119,120,121,122,65,66,67,68,69,70,71,72,73,74,75,76,77,78,79,80,81,82,83,84,85,86,87,88,89,90]:List Int),v2.1,())) (λ(v3:T8)=>some ((v3.1.1,()),()))
def F114(n:Nat):Fb 114:=fb n [⟨_,F113 n⟩] [] [] [] Tryz.func114 Tryz.results114 Tryz.ntmps114 (.nop) [(y5,.ro)] A18 [] [] (IS n)
def Gv(v1:Nat)(v2:T5):T39:=bif decide (v2.1=([]:List Int))then some ((0,0,false,()),())else if(0:Int)<=(0:Int)then(match v2.1[(0:Int).toNat]? with|some v3=>bif !(decide (v3=92))then if(0:Int)<=(0:Int)then(match v2.1[(0:Int).toNat]? with|some v4=>some ((v4,1,true,()),())|none=>none)else none else aE (λ(v5:T3)=>λv6=>bif decide (v5.2.1<256)then aj (MC v1 (IntKind.wrap .u8 v5.2.1,([]:List Int),())) (λ(v7:T13)=>aw (λ(v8:T4)=>bif v8.2.1 then some ((IntKind.wrap .u8 v5.2.1,2,true,()),())else if(16:Int)=0 then none else if(16:Int)=0 then none else if 0<=(IntKind.wrap .i64 (Int.tdiv v5.2.1 16))/\(IntKind.wrap .i64 (Int.tdiv v5.2.1 16))<=(IntKind.wrap .i64 ((IntKind.wrap .i64 (Int.tdiv v5.2.1 16))+1))/\(IntKind.wrap .i64 ((IntKind.wrap .i64 (Int.tdiv v5.2.1 16))+1))<=((List.length ([48,49,50,51,52,53,54,55,56,57,97,98,99,100,101,102]:List Int):Nat):Int)then if List.length ([92,120]:List Int)+List.length (cz ([48,49,50,51,52,53,54,55,56,57,97,98,99,100,101,102]:List Int) (IntKind.wrap .i64 (Int.tdiv v5.2.1 16)) (IntKind.wrap .i64 ((IntKind.wrap .i64 (Int.tdiv v5.2.1 16))+1)))<=9223372036854775807 then if(16:Int)=0 then none else if(16:Int)=0 then none else if 0<=(Int.tmod v5.2.1 16)/\(Int.tmod v5.2.1 16)<=(IntKind.wrap .i64 ((Int.tmod v5.2.1 16)+1))/\(IntKind.wrap .i64 ((Int.tmod v5.2.1 16)+1))<=((List.length ([48,49,50,51,52,53,54,55,56,57,97,98,99,100,101,102]:List Int):Nat):Int)then if List.length (([92,120]:List Int)++(cz ([48,49,50,51,52,53,54,55,56,57,97,98,99,100,101,102]:List Int) (IntKind.wrap .i64 (Int.tdiv v5.2.1 16)) (IntKind.wrap .i64 ((IntKind.wrap .i64 (Int.tdiv v5.2.1 16))+1))))+List.length (cz ([48,49,50,51,52,53,54,55,56,57,97,98,99,100,101,102]:List Int) (Int.tmod v5.2.1 16) (IntKind.wrap .i64 ((Int.tmod v5.2.1 16)+1)))<=9223372036854775807 then aw (λ(v9:T4)=>bif v9.2.1 then some ((IntKind.wrap .u8 v5.2.1,4,true,()),())else v6 ((),IntKind.wrap .i64 (v5.2.1+1),())) (λv10=>bif decide (3<(v2.1.length:Int))then if(0:Int)<=(0:Int)/\(0:Int)<=(4:Int)/\(4:Int)<=(v2.1.length:Int)then v10 ((),decide ((cz v2.1 (0:Int) (4:Int))=((([92,120]:List Int)++(cz ([48,49,50,51,52,53,54,55,56,57,97,98,99,100,101,102]:List Int) (IntKind.wrap .i64 (Int.tdiv v5.2.1 16)) (IntKind.wrap .i64 ((IntKind.wrap .i64 (Int.tdiv v5.2.1 16))+1))))++(cz ([48,49,50,51,52,53,54,55,56,57,97,98,99,100,101,102]:List Int) (Int.tmod v5.2.1 16) (IntKind.wrap .i64 ((Int.tmod v5.2.1 16)+1))))),())else none else v10 ((),false,()))else none else none else none else none) (λv11=>bif decide ((v7.1.1.length:Int)=2)then if(0:Int)<=(1:Int)then(match v7.1.1[(1:Int).toNat]? with|some v12=>bif !(decide (v12=92))then bif decide (1<(v2.1.length:Int))then if(0:Int)<=(0:Int)/\(0:Int)<=(2:Int)/\(2:Int)<=(v2.1.length:Int)then v11 ((),decide ((cz v2.1 (0:Int) (2:Int))=v7.1.1),())else none else v11 ((),false,())else v11 ((),false,())|none=>none)else none else v11 ((),false,())))else aw (λ(v13:T4)=>bif v13.2.1 then if(0:Int)<=(1:Int)then(match v2.1[(1:Int).toNat]? with|some v14=>some ((v14,2,true,()),())|none=>none)else none else some ((0,0,false,()),())) (λv15=>bif decide (1<(v2.1.length:Int))then if(0:Int)<=(1:Int)then(match v2.1[(1:Int).toNat]? with|some v16=>bif decide (32<=v16)then if(0:Int)<=(1:Int)then(match v2.1[(1:Int).toNat]? with|some v17=>bif decide (v17<=126)then if(0:Int)<=(1:Int)then(match v2.1[(1:Int).toNat]? with|some v18=>aj (IS v1 (v18,())) (λ(v19:T8)=>v15 ((),!v19.1.1,()))|none=>none)else none else v15 ((),false,())|none=>none)else none else v15 ((),false,())|none=>none)else none else v15 ((),false,()))) v1 ((),0,())|none=>none)else none
def F179(n:Nat):Fb 179:=fb n [⟨_,F183 n⟩,⟨_,F114 n⟩] [] [] [] Tryz.func179 Tryz.results179 Tryz.ntmps179 (.seq .nop (.seq .nop (.seq .nop (.seq (.seq .nop (.block none (.loop ⟨[],[.val 5 y2],[0]⟩ (.seq .nop (.seq (.block none (.seq .nop (.seq (.seq (.reg (some ⟨[],[.val 40 y4],[0,5]⟩) []) .nop) (.seq .nop (.seq (.reg (some ⟨[],[.val 65 y4],[0,5]⟩) []) .nop))))) .nop))))) (.seq (.seq (.reg (some ⟨[],[.val 86 y4],[0]⟩) []) .nop) .nop))))) A20 [(y5,.ro),(y2,.ro),(y4,.ro)] [] [] (Gv n)
def MD(v1:Nat)(v2:T10):T67:=if(0:Int)<=(256:Int)/\(256:Int)<=(256:Int)then if(256:Int).toNat*1<=140737488355328 then aw (λ(v3:T32)=>aw (λ(v4:T27)=>aE (λ(v5:T27)=>λv6=>aw (λ(v7:T32)=>bif v7.2.1 then if 0<=v5.2.1/\v5.2.1<=(v2.1.length:Int)/\(v2.1.length:Int)<=(v2.1.length:Int)then aj (Gv v1 (cz v2.1 v5.2.1 (v2.1.length:Int),())) (λ(v8:T18)=>aw (λ(v9:T32)=>bif v9.2.1 then some ((([]:List (Int×(List Int))),v5.2.1,()),())else aw (λ(v10:T32)=>aw (λ(v11:(((List Bool)×Unit)×Int×Int×Unit))=>aE (λ(v12:T27)=>λv13=>bif decide (v12.2.1<=(IntKind.wrap .i64 v11.2.2.1))then if 0<=v12.2.1 then(match v12.1.1[(v12.2.1).toNat]? with|some v14=>if 0<=v12.2.1 then(match v12.1.1[(v12.2.1).toNat]? with|some v15=>v13 ((List.set v12.1.1 (v12.2.1).toNat true,()),IntKind.wrap .i64 (v12.2.1+1),())|none=>none)else none|none=>none)else none else v6 ((v12.1.1,()),v11.2.1,())) v1 ((v11.1.1,()),IntKind.wrap .i64 v8.1.1,())) (λv16=>bif v10.2.1 then aw (λ(v17:T32)=>bif v17.2.1 then some ((([]:List (Int×(List Int))),IntKind.wrap .i64 ((IntKind.wrap .i64 (v5.2.1+v8.1.2.1))+1),()),())else if 0<=(IntKind.wrap .i64 ((IntKind.wrap .i64 (v5.2.1+v8.1.2.1))+1))/\(IntKind.wrap .i64 ((IntKind.wrap .i64 (v5.2.1+v8.1.2.1))+1))<=(v2.1.length:Int)/\(v2.1.length:Int)<=(v2.1.length:Int)then aj (Gv v1 (cz v2.1 (IntKind.wrap .i64 ((IntKind.wrap .i64 (v5.2.1+v8.1.2.1))+1)) (v2.1.length:Int),())) (λ(v18:T18)=>aw (λ(v19:T32)=>bif v19.2.1 then some ((([]:List (Int×(List Int))),IntKind.wrap .i64 ((IntKind.wrap .i64 (v5.2.1+v8.1.2.1))+1),()),())else v16 ((v19.1.1,()),IntKind.wrap .i64 ((IntKind.wrap .i64 ((IntKind.wrap .i64 (v5.2.1+v8.1.2.1))+1))+v18.1.2.1),v18.1.1,())) (λv20=>bif !v18.1.2.2.1 then v20 ((v17.1.1,()),true,())else v20 ((v17.1.1,()),decide (v18.1.1<v8.1.1),())))else none) (λv21=>bif decide ((v2.1.length:Int)<=(IntKind.wrap .i64 ((IntKind.wrap .i64 (v5.2.1+v8.1.2.1))+1)))then v21 ((v10.1.1,()),true,())else if 0<=(IntKind.wrap .i64 ((IntKind.wrap .i64 (v5.2.1+v8.1.2.1))+1))then(match v2.1[(IntKind.wrap .i64 ((IntKind.wrap .i64 (v5.2.1+v8.1.2.1))+1)).toNat]? with|some v22=>aj (Aw v1 (([93,94,45,47,34]:List Int),v22,())) (λ(v23:T8)=>v21 ((v10.1.1,()),v23.1.1,()))|none=>none)else none)else v16 ((v10.1.1,()),IntKind.wrap .i64 (v5.2.1+v8.1.2.1),v8.1.1,()))) (λv24=>bif decide ((IntKind.wrap .i64 (v5.2.1+v8.1.2.1))<(v2.1.length:Int))then if 0<=(IntKind.wrap .i64 (v5.2.1+v8.1.2.1))then(match v2.1[(IntKind.wrap .i64 (v5.2.1+v8.1.2.1)).toNat]? with|some v25=>v24 ((v9.1.1,()),decide (v25=45),())|none=>none)else none else v24 ((v9.1.1,()),false,()))) (λv26=>bif !v8.1.2.2.1 then v26 ((v7.1.1,()),true,())else if 0<=v5.2.1 then(match v2.1[(v5.2.1).toNat]? with|some v27=>aj (Aw v1 (([94,45,47,34]:List Int),v27,())) (λ(v28:T8)=>v26 ((v7.1.1,()),v28.1.1,()))|none=>none)else none))else none else aj (Cu v1 (v7.1.1,())) (λ(v29:T13)=>aw (λ(v30:T13)=>aw (λ(v31:T28)=>bif v31.2.1 then some ((([]:List (Int×(List Int))),v5.2.1,()),())else some ((([(1,v31.1.1)]:List (Int×(List Int))),IntKind.wrap .i64 (v5.2.1+1),()),())) (λv32=>bif decide ((v2.1.length:Int)<=v5.2.1)then v32 ((v30.1.1,()),true,())else v32 ((v30.1.1,()),decide (v30.1.1=([0,0,0,0]:List Int)),()))) (λv33=>bif v3.2.1 then aj (IR v1 (3,v29.1.1,v29.1.1,())) (λ(v34:T13)=>v33 ((v34.1.1,()),()))else v33 ((v29.1.1,()),())))) (λv35=>bif decide (v5.2.1<(v2.1.length:Int))then if 0<=v5.2.1 then(match v2.1[(v5.2.1).toNat]? with|some v36=>v35 ((v5.1.1,()),!(decide (v36=93)),())|none=>none)else none else v35 ((v5.1.1,()),false,()))) v1 ((v4.1.1,()),v4.2.1,())) (λv37=>bif v3.2.1 then v37 ((v3.1.1,()),IntKind.wrap .i64 (v2.2.1+1),())else v37 ((v3.1.1,()),v2.2.1,()))) (λv38=>bif decide (v2.2.1<(v2.1.length:Int))then if 0<=v2.2.1 then(match v2.1[(v2.2.1).toNat]? with|some v39=>v38 ((List.replicate (256:Int).toNat false,()),decide (v39=94),())|none=>none)else none else v38 ((List.replicate (256:Int).toNat false,()),false,()))else none else none
def F178(n:Nat):Fb 178:=fb n [⟨_,F179 n⟩,⟨_,F152 n⟩,⟨_,F180 n⟩,⟨_,F177 n⟩] [] [] [⟨_,Ol⟩] Tryz.func178 Tryz.results178 Tryz.ntmps178 (.seq .nop (.seq .nop (.seq (.reg (some ⟨[(112,dx,.own .ro)],[.val 7 y4],[0,1,6]⟩) []) (.seq (.seq .nop (.cond (some ⟨[(112,dx,.own .ro)],[.val 1 y2],[0,6,7]⟩) .nop .nop)) (.seq (.block none (.loop ⟨[(112,dx,.own .ro)],[.val 1 y2],[0,6,7]⟩ (.seq (.seq (.reg (some ⟨[(112,dx,.own .ro)],[.val 37 y4],[0,1,6,7]⟩) []) .nop) (.block none (.seq .nop (.seq (.seq (.reg (some ⟨[(112,dx,.own .ro)],[.val 53 y4],[0,1,6,7,8,9]⟩) []) .nop) (.seq .nop (.seq .nop (.seq (.seq (.reg (some ⟨[(112,dx,.own .ro)],[.val 68 y4],[0,1,6,7,8,11]⟩) []) (.cond (some ⟨[(112,dx,.own .ro)],[.val 1 y2,.val 11 y5],[0,6,7,8]⟩) (.seq .nop (.seq (.seq (.reg (some ⟨[(112,dx,.own .ro)],[.val 80 y4],[0,1,6,7,8]⟩) []) .nop) (.seq .nop (.seq (.seq (.reg (some ⟨[(112,dx,.own .ro)],[.val 96 y4],[0,1,6,7,8,9,11]⟩) []) .nop) .nop)))) .nop)) (.seq .nop (.block none (.loop ⟨[(112,dx,.own .ro)],[.val 12 y2],[0,1,6,7,11]⟩ .nop)))))))))))) (.seq .nop (.seq (.seq .nop (.cond (some ⟨[(104,.box fC,.own .ro)],[],[0,1,13]⟩) .nop .nop)) (.seq (.seq (.reg (some ⟨[(104,.box fC,.own .ro)],[.val 126 y4],[1,13]⟩) []) .nop) (.seq (.rgf none [13] []) .nop))))))))) [(y9,.ro),(y2,.ro)] A3 [] [] (MD n)
abbrev Gw:=Qt A2 A3 []
abbrev PI(q:Gw):Callee:=⟨_,_,[],_,q⟩
theorem IT:Plain Tryz.prog 111:=pl Tryz.func111
abbrev Gx:=Qt A2 A3 []
abbrev RZ(q:Gx):Callee:=⟨_,_,[],_,q⟩
theorem ME:Plain Tryz.prog 133:=pl Tryz.func133
abbrev Gy:=Qt A2 A3 []
abbrev R0(q:Gy):Callee:=⟨_,_,[],_,q⟩
theorem MF:Plain Tryz.prog 151:=pl Tryz.func151
abbrev Gz:=Qt A2 A3 []
abbrev R1(q:Gz):Callee:=⟨_,_,[],_,q⟩
theorem MG:Plain Tryz.prog 169:=pl Tryz.func169
abbrev IU(nB:Gw)(nC:Gx)(nD:Gy)(nE:Gz):=fX Tryz.prog 111 (PI nB)/\fX Tryz.prog 133 (RZ nC)/\fX Tryz.prog 151 (R0 nD)/\fX Tryz.prog 169 (R1 nE)
def Ay(v1:Nat)(v2 v3 v4 v5:T84)(v6:T16):T67:=aj (v3 (v6.1,v6.2.1,v6.2.2.1,())) (λ(v7:T60)=>aE (λ(v8:T55)=>λv9=>aw (λ(v10:T4)=>bif v10.2.1 then aj (v3 (v6.1,IntKind.wrap .i64 (v8.2.1+1),v6.2.2.1,())) (λ(v11:T60)=>bif List.isEmpty v11.1.1 then some ((([]:List (Int×(List Int))),v11.1.2.1,()),())else if(List.length ([]:List (Int×(List Int)))+List.length v8.2.2.1)*40<=140737488355328 then if List.length ([]:List (Int×(List Int)))+List.length v8.2.2.1<=9223372036854775807 then if(List.length (([]:List (Int×(List Int)))++v8.2.2.1)+List.length v11.1.1)*40<=140737488355328 then if List.length (([]:List (Int×(List Int)))++v8.2.2.1)+List.length v11.1.1<=9223372036854775807 then if(List.length ((([]:List (Int×(List Int)))++v8.2.2.1)++v11.1.1)+List.length ([(3,([0,0,0,0]:List Int))]:List (Int×(List Int))))*40<=140737488355328 then if List.length ((([]:List (Int×(List Int)))++v8.2.2.1)++v11.1.1)+List.length ([(3,([0,0,0,0]:List Int))]:List (Int×(List Int)))<=9223372036854775807 then bif List.isEmpty (((([]:List (Int×(List Int)))++v8.2.2.1)++v11.1.1)++([(3,([0,0,0,0]:List Int))]:List (Int×(List Int))))then none else v9 ((),v11.1.2.1,((([]:List (Int×(List Int)))++v8.2.2.1)++v11.1.1)++([(3,([0,0,0,0]:List Int))]:List (Int×(List Int))),())else none else none else none else none else none else none)else some ((v8.2.2.1,v8.2.1,()),())) (λv12=>bif !(List.isEmpty v8.2.2.1)then bif decide (v8.2.1<(v6.1.length:Int))then if 0<=v8.2.1 then(match v6.1[(v8.2.1).toNat]? with|some v13=>v12 ((),decide (v13=124),())|none=>none)else none else v12 ((),false,())else v12 ((),false,()))) v1 ((),v7.1.2.1,v7.1.1,()))
theorem UT(n:Nat)(nB:Gw)(nC:Gx)(nD:Gy)(nE:Gz)(h:IU nB nC nD nE):fX Tryz.prog 111 (PI (Ay n nB nC nD nE)):=(fb n [⟨_,⟨_,h.1,IT⟩⟩,⟨_,⟨_,h.2.1,ME⟩⟩,⟨_,⟨_,h.2.2.1,MF⟩⟩,⟨_,⟨_,h.2.2.2,MG⟩⟩] [14,36] [] [] Tryz.func111 Tryz.results111 Tryz.ntmps111 (.seq .nop (.seq .nop (.seq (.block none (.loop ⟨[],[.val 1 y2,.val 8 (.nl Gj)],[0,2]⟩ (.seq (.seq (.reg (some ⟨[],[.val 30 y4],[0,1,2,8]⟩) []) .nop) (.block none (.seq .nop (.seq .nop (.seq .nop (.reg none [8])))))))) .nop))) A2 A3 [] [] (Ay n nB nC nD nE)).o
def Az(v1:Nat)(v2 v3 v4 v5:T84)(v6:T16):T67:=aj (v4 (v6.1,v6.2.1,v6.2.2.1,())) (λ(v7:T60)=>aE (λ(v8:T55)=>λv9=>aw (λ(v10:T4)=>bif v10.2.1 then aj (v4 (v6.1,v8.2.1,v6.2.2.1,())) (λ(v11:T60)=>bif List.isEmpty v11.1.1 then some ((([]:List (Int×(List Int))),v11.1.2.1,()),())else if(List.length ([]:List (Int×(List Int)))+List.length v8.2.2.1)*40<=140737488355328 then if List.length ([]:List (Int×(List Int)))+List.length v8.2.2.1<=9223372036854775807 then if(List.length (([]:List (Int×(List Int)))++v8.2.2.1)+List.length v11.1.1)*40<=140737488355328 then if List.length (([]:List (Int×(List Int)))++v8.2.2.1)+List.length v11.1.1<=9223372036854775807 then if(List.length ((([]:List (Int×(List Int)))++v8.2.2.1)++v11.1.1)+List.length ([(2,([0,0,0,0]:List Int))]:List (Int×(List Int))))*40<=140737488355328 then if List.length ((([]:List (Int×(List Int)))++v8.2.2.1)++v11.1.1)+List.length ([(2,([0,0,0,0]:List Int))]:List (Int×(List Int)))<=9223372036854775807 then bif List.isEmpty (((([]:List (Int×(List Int)))++v8.2.2.1)++v11.1.1)++([(2,([0,0,0,0]:List Int))]:List (Int×(List Int))))then none else v9 ((),v11.1.2.1,((([]:List (Int×(List Int)))++v8.2.2.1)++v11.1.1)++([(2,([0,0,0,0]:List Int))]:List (Int×(List Int))),())else none else none else none else none else none else none)else some ((v8.2.2.1,v8.2.1,()),())) (λv12=>bif !(List.isEmpty v8.2.2.1)then bif decide (v8.2.1<(v6.1.length:Int))then if 0<=v8.2.1 then(match v6.1[(v8.2.1).toNat]? with|some v13=>aj (Aw v1 (([124,41]:List Int),v13,())) (λ(v14:T8)=>v12 ((),!v14.1.1,()))|none=>none)else none else v12 ((),false,())else v12 ((),false,()))) v1 ((),v7.1.2.1,v7.1.1,()))
theorem UU(n:Nat)(nB:Gw)(nC:Gx)(nD:Gy)(nE:Gz)(h:IU nB nC nD nE):fX Tryz.prog 133 (RZ (Az n nB nC nD nE)):=(fb n [⟨_,F152 n⟩,⟨_,⟨_,h.1,IT⟩⟩,⟨_,⟨_,h.2.1,ME⟩⟩,⟨_,⟨_,h.2.2.1,MF⟩⟩,⟨_,⟨_,h.2.2.2,MG⟩⟩] [14,36] [] [] Tryz.func133 Tryz.results133 Tryz.ntmps133 (.seq .nop (.seq .nop (.seq (.block none (.loop ⟨[],[.val 1 y2,.val 8 (.nl Gj)],[0,2]⟩ (.seq (.seq (.reg (some ⟨[],[.val 31 y4],[0,1,2,8]⟩) []) .nop) (.block none (.seq .nop (.seq .nop (.seq .nop (.reg none [8])))))))) .nop))) A2 A3 [] [] (Az n nB nC nD nE)).o
def AA(v1:Nat)(v2 v3 v4 v5:T84)(v6:T16):T67:=aj (v5 (v6.1,v6.2.1,v6.2.2.1,())) (λ(v7:T60)=>aE (λ(v8:T55)=>λv9=>aw (λ(v10:T4)=>bif v10.2.1 then if 0<=v8.2.1 then(match v6.1[(v8.2.1).toNat]? with|some v11=>aw (λ(v12:T3)=>if 0<=v8.2.1 then(match v6.1[(v8.2.1).toNat]? with|some v13=>aw (λ(v14:T3)=>if(List.length ([]:List (Int×(List Int)))+List.length v8.2.2.1)*40<=140737488355328 then if List.length ([]:List (Int×(List Int)))+List.length v8.2.2.1<=9223372036854775807 then if(List.length (([]:List (Int×(List Int)))++v8.2.2.1)+List.length ([(v14.2.1,([0,0,0,0]:List Int))]:List (Int×(List Int))))*40<=140737488355328 then if List.length (([]:List (Int×(List Int)))++v8.2.2.1)+List.length ([(v14.2.1,([0,0,0,0]:List Int))]:List (Int×(List Int)))<=9223372036854775807 then bif List.isEmpty ((([]:List (Int×(List Int)))++v8.2.2.1)++([(v14.2.1,([0,0,0,0]:List Int))]:List (Int×(List Int))))then none else v9 ((),IntKind.wrap .i64 (v8.2.1+1),(([]:List (Int×(List Int)))++v8.2.2.1)++([(v14.2.1,([0,0,0,0]:List Int))]:List (Int×(List Int))),())else none else none else none else none) (λv15=>bif decide (v13=63)then v15 ((),6,())else v15 ((),v12.2.1,()))|none=>none)else none) (λv16=>bif decide (v11=43)then v16 ((),5,())else v16 ((),4,()))|none=>none)else none else some ((v8.2.2.1,v8.2.1,()),())) (λv17=>bif !(List.isEmpty v8.2.2.1)then bif decide (v8.2.1<(v6.1.length:Int))then if 0<=v8.2.1 then(match v6.1[(v8.2.1).toNat]? with|some v18=>aj (Aw v1 (([42,43,63]:List Int),v18,())) (λ(v19:T8)=>v17 ((),v19.1.1,()))|none=>none)else none else v17 ((),false,())else v17 ((),false,()))) v1 ((),v7.1.2.1,v7.1.1,()))
theorem UW(n:Nat)(nB:Gw)(nC:Gx)(nD:Gy)(nE:Gz)(h:IU nB nC nD nE):fX Tryz.prog 151 (R0 (AA n nB nC nD nE)):=(fb n [⟨_,F152 n⟩,⟨_,⟨_,h.1,IT⟩⟩,⟨_,⟨_,h.2.1,ME⟩⟩,⟨_,⟨_,h.2.2.1,MF⟩⟩,⟨_,⟨_,h.2.2.2,MG⟩⟩] [14] [] [] Tryz.func151 Tryz.results151 Tryz.ntmps151 (.seq .nop (.seq .nop (.seq (.block none (.loop ⟨[],[.val 1 y2,.val 8 (.nl Gj)],[0]⟩ (.seq (.seq (.reg (some ⟨[],[.val 30 y4],[0,1,8]⟩) []) .nop) (.block none (.seq .nop (.seq (.seq .nop (.cond (some ⟨[],[.val 9 y2],[0,1,8]⟩) .nop .nop)) (.seq (.seq .nop (.cond (some ⟨[],[.val 9 y2],[0,1,8]⟩) .nop .nop)) (.seq (.reg none [8]) .nop)))))))) .nop))) A2 A3 [] [] (AA n nB nC nD nE)).o
def AB(v1:Nat)(v2 v3 v4 v5:T84)(v6:T16):T67:=aw (λ(v7:T4)=>bif v7.2.1 then some ((([]:List (Int×(List Int))),v6.2.1,()),())else if 0<=v6.2.1 then(match v6.1[(v6.2.1).toNat]? with|some v8=>bif decide (v8=46)then aj (IR v1 (3,([0,0,0,0]:List Int),([0,0,0,0]:List Int),())) (λ(v9:T13)=>some ((([(1,v9.1.1)]:List (Int×(List Int))),IntKind.wrap .i64 (v6.2.1+1),()),()))else if 0<=v6.2.1 then(match v6.1[(v6.2.1).toNat]? with|some v10=>bif decide (v10=126)then some ((([(0,([0,0,0,0]:List Int))]:List (Int×(List Int))),IntKind.wrap .i64 (v6.2.1+1),()),())else if 0<=v6.2.1 then(match v6.1[(v6.2.1).toNat]? with|some v11=>bif decide (v11=91)then aj (MD v1 (v6.1,IntKind.wrap .i64 (v6.2.1+1),())) (λ(v12:T60)=>some ((v12.1.1,v12.1.2.1,()),()))else if 0<=v6.2.1 then(match v6.1[(v6.2.1).toNat]? with|some v13=>bif decide (v13=40)then bif decide (99<=v6.2.2.1)then some ((([]:List (Int×(List Int))),v6.2.1,()),())else aj (v2 (v6.1,IntKind.wrap .i64 (v6.2.1+1),IntKind.wrap .i64 (v6.2.2.1+1),())) (λ(v14:T60)=>aw (λ(v15:T4)=>bif v15.2.1 then some ((([]:List (Int×(List Int))),v14.1.2.1,()),())else some ((v14.1.1,IntKind.wrap .i64 (v14.1.2.1+1),()),())) (λv16=>bif List.isEmpty v14.1.1 then v16 ((),true,())else bif decide ((v6.1.length:Int)<=v14.1.2.1)then v16 ((),true,())else if 0<=v14.1.2.1 then(match v6.1[(v14.1.2.1).toNat]? with|some v17=>v16 ((),!(decide (v17=41)),())|none=>none)else none))else if 0<=v6.2.1/\v6.2.1<=(v6.1.length:Int)/\(v6.1.length:Int)<=(v6.1.length:Int)then aj (Gv v1 (cz v6.1 v6.2.1 (v6.1.length:Int),())) (λ(v18:T18)=>bif !v18.1.2.2.1 then some ((([]:List (Int×(List Int))),v6.2.1,()),())else if(0:Int)<=(256:Int)/\(256:Int)<=(256:Int)then if(256:Int).toNat*1<=140737488355328 then if 0<=v18.1.1 then(match(List.replicate (256:Int).toNat false)[(v18.1.1).toNat]? with|some v19=>if 0<=v18.1.1 then(match(List.replicate (256:Int).toNat false)[(v18.1.1).toNat]? with|some v20=>aj (Cu v1 (List.set (List.replicate (256:Int).toNat false) (v18.1.1).toNat true,())) (λ(v21:T13)=>some ((([(1,v21.1.1)]:List (Int×(List Int))),IntKind.wrap .i64 (v6.2.1+v18.1.2.1),()),()))|none=>none)else none|none=>none)else none else none else none)else none|none=>none)else none|none=>none)else none|none=>none)else none|none=>none)else none) (λv22=>bif decide ((v6.1.length:Int)<=v6.2.1)then v22 ((),true,())else if 0<=v6.2.1 then(match v6.1[(v6.2.1).toNat]? with|some v23=>aj (Aw v1 (([124,41,42,43,63,93,47,34]:List Int),v23,())) (λ(v24:T8)=>v22 ((),v24.1.1,()))|none=>none)else none)
theorem UX(n:Nat)(nB:Gw)(nC:Gx)(nD:Gy)(nE:Gz)(h:IU nB nC nD nE):fX Tryz.prog 169 (R1 (AB n nB nC nD nE)):=(fb n [⟨_,F152 n⟩,⟨_,F177 n⟩,⟨_,F178 n⟩,⟨_,F179 n⟩,⟨_,F180 n⟩,⟨_,⟨_,h.1,IT⟩⟩,⟨_,⟨_,h.2.1,ME⟩⟩,⟨_,⟨_,h.2.2.1,MF⟩⟩,⟨_,⟨_,h.2.2.2,MG⟩⟩] [55,72] [] [] Tryz.func169 Tryz.results169 Tryz.ntmps169 (.seq .nop (.seq (.block none (.seq (.reg (some ⟨[],[.val 14 y4],[0,1,2]⟩) []) (.cond none .nop (.seq .nop (.cond none .nop (.seq .nop (.cond none .nop (.seq .nop (.cond none .nop (.seq .nop (.cond none (.seq .nop (.seq .nop (.seq (.seq (.reg (some ⟨[],[.val 88 y4],[8,9]⟩) []) .nop) .nop))) .nop))))))))))) .nop)) A2 A3 [] [] (AB n nB nC nD nE)).o
def db(n:Nat):Nat->(T16->T67)×(T16->T67)×(T16->T67)×(T16->T67)
 |0=>(λ_=>none,λ_=>none,λ_=>none,λ_=>none)
 |d+1=>(λx=>Ay n (db n d).1 (db n d).2.1 (db n d).2.2.1 (db n d).2.2.2 x,λx=>Az n (db n d).1 (db n d).2.1 (db n d).2.2.1 (db n d).2.2.2 x,λx=>AA n (db n d).1 (db n d).2.1 (db n d).2.2.1 (db n d).2.2.2 x,λx=>AB n (db n d).1 (db n d).2.1 (db n d).2.2.1 (db n d).2.2.2 x)
theorem IV(n:Nat):∀ d,IU (db n d).1 (db n d).2.1 (db n d).2.2.1 (db n d).2.2.2
 |0=>⟨(λx r h=>by cases h),(λx r h=>by cases h),(λx r h=>by cases h),(λx r h=>by cases h)⟩
 |d+1=>⟨UT n _ _ _ _ (IV n d),UU n _ _ _ _ (IV n d),UW n _ _ _ _ (IV n d),UX n _ _ _ _ (IV n d)⟩
def PJ(n:Nat)(x:T16):T67:=(db n n).1 x
def F111(n:Nat):Fb 111:=⟨PI (PJ n),(IV n n).1,IT⟩
def p97(v1:Nat)(v2:T5):T67:=bif decide (1600<(v2.1.length:Int))then some ((([]:List (Int×(List Int))),6,()),())else aj (PJ v1 (v2.1,0,0,())) (λ(v3:T60)=>aw (λ(v4:T4)=>bif v4.2.1 then some ((([]:List (Int×(List Int))),5,()),())else bif decide (400<(v3.1.1.length:Int))then some ((([]:List (Int×(List Int))),6,()),())else some ((v3.1.1,0,()),())) (λv5=>bif List.isEmpty v3.1.1 then v5 ((),true,())else v5 ((),decide (v3.1.2.1<(v2.1.length:Int)),())))
def F97(n:Nat):Fb 97:=fb n [⟨_,F111 n⟩] [11] [] [] Tryz.func97 Tryz.results97 Tryz.ntmps97 (.seq .nop (.seq .nop (.seq .nop (.seq (.seq (.reg (some ⟨[],[.val 21 y4],[4]⟩) []) .nop) .nop)))) A20 A6 [] [] (p97 n)
def GA(v1:Nat)(v2:T1):T12:=aw (λ(v3:T28)=>bif v3.2.1 then some ((-1,()),())else if 0<=v2.1 then(match v3.1.1[(v2.1).toNat]? with|some v4=>some ((v4,()),())|none=>none)else none) (λv5=>bif decide (v2.1<0)then v5 ((([0,0,2,2,1,1,1]:List Int),()),true,())else v5 ((([0,0,2,2,1,1,1]:List Int),()),decide (6<v2.1),()))
def F153(n:Nat):Fb 153:=fb n [] [] [] [] Tryz.func153 Tryz.results153 Tryz.ntmps153 (.seq .nop (.seq .nop (.seq (.seq (.reg (some ⟨[(32,y28,.own .ro)],[.val 10 y4],[0,3]⟩) []) .nop) .nop))) A19 A19 [] [] (GA n)
def Cv(v1:Nat)(v2:((List (Int×(List Int)))×Int×Unit)):T12:=aE (λ(v3:T9)=>λv4=>bif decide (0<=v3.2.2.1)then if 0<=v3.2.2.1 then(match v2.1[(v3.2.2.1).toNat]? with|some v5=>aj (GA v1 (v5.1,())) (λ(v6:T6)=>bif decide ((IntKind.wrap .i64 ((IntKind.wrap .i64 (v3.2.1-1))+v6.1.1))=0)then some ((v3.2.2.1,()),())else v4 ((),IntKind.wrap .i64 ((IntKind.wrap .i64 (v3.2.1-1))+v6.1.1),IntKind.wrap .i64 (v3.2.2.1-1),()))|none=>none)else none else some ((0,()),())) v1 ((),1,v2.2.1,())
def F154(n:Nat):Fb 154:=fb n [⟨_,F153 n⟩] [] [] [] Tryz.func154 Tryz.results154 Tryz.ntmps154 (.seq .nop (.seq .nop (.seq (.seq .nop (.block none (.loop ⟨[],[.val 5 y2,.val 6 y2],[0]⟩ .nop))) .nop))) A6 A19 [] [] (Cv n)
def x8(v1:Nat)(v2:T26):Option (((List (List (Int×(List Int))))×Unit)×Unit):=if 0<=(IntKind.wrap .i64 ((v2.1.length:Int)-1))then(match v2.1[(IntKind.wrap .i64 ((v2.1.length:Int)-1)).toNat]? with|some v3=>aj (GA v1 (v3.1,())) (λ(v4:T6)=>aE (λ(v5:(Unit×(List (List (Int×(List Int))))×Int×Int×Unit))=>λv6=>bif decide (0<v5.2.2.2.1)then aj (Cv v1 (v2.1,IntKind.wrap .i64 (v5.2.2.1-1),())) (λ(v7:T6)=>if 0<=v7.1.1/\v7.1.1<=v5.2.2.1/\v5.2.2.1<=(v2.1.length:Int)then if(List.length ([(cz v2.1 v7.1.1 v5.2.2.1)]:List (List (Int×(List Int))))+List.length v5.2.1)*24<=140737488355328 then if List.length ([(cz v2.1 v7.1.1 v5.2.2.1)]:List (List (Int×(List Int))))+List.length v5.2.1<=9223372036854775807 then v6 ((),([(cz v2.1 v7.1.1 v5.2.2.1)]:List (List (Int×(List Int))))++v5.2.1,v7.1.1,IntKind.wrap .i64 (v5.2.2.2.1-1),())else none else none else none)else some ((v5.2.1,()),())) v1 ((),([]:List (List (Int×(List Int)))),IntKind.wrap .i64 ((v2.1.length:Int)-1),v4.1.1,()))|none=>none)else none
def F134(n:Nat):Fb 134:=fb n [⟨_,F153 n⟩,⟨_,F154 n⟩] [] [] [] Tryz.func134 Tryz.results134 Tryz.ntmps134 (.seq .nop (.seq .nop (.seq .nop (.seq .nop (.seq (.seq .nop (.block none (.loop ⟨[],[.hdr 4 39 Me (.own .ro),.val 5 y2,.val 6 y2],[0]⟩ .nop))) .nop))))) [(nw,.ro)] [(Me,.ro)] [] [] (x8 n)
def IW(v1:Nat)(v2:((List Bool)×(List Bool)×Unit)):T35:=aE (λ(v3:T21)=>λv4=>bif decide (v3.2.2.1<(v2.1.length:Int))then aw (λ(v5:(Unit×(List Bool)×Unit))=>v4 ((),v5.2.1,IntKind.wrap .i64 (v3.2.2.1+1),())) (λv6=>if 0<=v3.2.2.1 then(match v2.1[(v3.2.2.1).toNat]? with|some v7=>bif v7 then if(List.length v3.2.1+List.length ([true]:List Bool))*1<=140737488355328 then if List.length v3.2.1+List.length ([true]:List Bool)<=9223372036854775807 then v6 ((),v3.2.1++([true]:List Bool),())else none else none else if 0<=v3.2.2.1 then(match v2.2.1[(v3.2.2.1).toNat]? with|some v8=>if(List.length v3.2.1+List.length ([v8]:List Bool))*1<=140737488355328 then if List.length v3.2.1+List.length ([v8]:List Bool)<=9223372036854775807 then v6 ((),v3.2.1++([v8]:List Bool),())else none else none|none=>none)else none|none=>none)else none)else some ((v3.2.1,()),())) v1 ((),([]:List Bool),0,())
def F136(n:Nat):Fb 136:=fb n [] [] [] [] Tryz.func136 Tryz.results136 Tryz.ntmps136 (.seq .nop (.seq .nop (.seq (.seq .nop (.block none (.loop ⟨[],[.hdr 5 47 dx (.own .ro),.val 6 y2],[0,1]⟩ (.seq .nop (.seq (.block none (.reg (some ⟨[],[.hdr 5 47 dx (.own .ro)],[0,1,6]⟩) [])) .nop))))) .nop))) [(dx,.ro),(dx,.ro)] A14 [] [] (IW n)
abbrev MH:=Qt A1 A14 []
abbrev PK(q:MH):Callee:=⟨_,_,[],_,q⟩
theorem PL:Plain Tryz.prog 112:=pl Tryz.func112
abbrev MI:=Qt A1 A14 []
abbrev R2(q:MI):Callee:=⟨_,_,[],_,q⟩
theorem R3:Plain Tryz.prog 137:=pl Tryz.func137
abbrev PM(x9:MH)(ya:MI):=fX Tryz.prog 112 (PK x9)/\fX Tryz.prog 137 (R2 ya)
def lH(v1:Nat)(v2 v3:T87)(v4:T70):T35:=if 0<=(v4.2.2.1.length:Int)/\(v4.2.2.1.length:Int)<=(v4.2.2.1.length:Int)then if(v4.2.2.1.length:Int).toNat*1<=140737488355328 then aj (x8 v1 (v4.1,())) (λ(v5:(((List (List (Int×(List Int))))×Unit)×Unit))=>if 0<=(IntKind.wrap .i64 ((v4.1.length:Int)-1))then(match v4.1[(IntKind.wrap .i64 ((v4.1.length:Int)-1)).toNat]? with|some v6=>bif decide (v6.1=0)then some ((v4.2.2.1,()),())else bif decide (v6.1=1)then aE (λ(v7:T27)=>λv8=>bif decide (v7.2.1<(v4.2.1.length:Int))then aw (λ(v9:T15)=>v8 ((v9.1.1,()),IntKind.wrap .i64 (v7.2.1+1),())) (λv10=>if 0<=v7.2.1 then(match v4.2.2.1[(v7.2.1).toNat]? with|some v11=>bif v11 then if 0<=(IntKind.wrap .i64 ((v4.1.length:Int)-1))then(match v4.1[(IntKind.wrap .i64 ((v4.1.length:Int)-1)).toNat]? with|some v12=>if 0<=v7.2.1 then(match v4.2.1[(v7.2.1).toNat]? with|some v13=>aj (Gu v1 (v12.2,IntKind.wrap .i64 v13,())) (λ(v14:T8)=>if 0<=(IntKind.wrap .i64 (v7.2.1+1))then(match v7.1.1[(IntKind.wrap .i64 (v7.2.1+1)).toNat]? with|some v15=>if 0<=(IntKind.wrap .i64 (v7.2.1+1))then(match v7.1.1[(IntKind.wrap .i64 (v7.2.1+1)).toNat]? with|some v16=>v10 ((List.set v7.1.1 (IntKind.wrap .i64 (v7.2.1+1)).toNat v14.1.1,()),())|none=>none)else none|none=>none)else none)|none=>none)else none|none=>none)else none else if 0<=(IntKind.wrap .i64 (v7.2.1+1))then(match v7.1.1[(IntKind.wrap .i64 (v7.2.1+1)).toNat]? with|some v17=>if 0<=(IntKind.wrap .i64 (v7.2.1+1))then(match v7.1.1[(IntKind.wrap .i64 (v7.2.1+1)).toNat]? with|some v18=>v10 ((List.set v7.1.1 (IntKind.wrap .i64 (v7.2.1+1)).toNat false,()),())|none=>none)else none|none=>none)else none|none=>none)else none)else some ((v7.1.1,()),())) v1 ((List.replicate (v4.2.2.1.length:Int).toNat false,()),0,())else bif decide (v6.1=2)then if(0:Int)<=(1:Int)then(match v5.1.1[(1:Int).toNat]? with|some v19=>if(0:Int)<=(0:Int)then(match v5.1.1[(0:Int).toNat]? with|some v20=>aj (v2 (v20,v4.2.1,v4.2.2.1,())) (λ(v21:T15)=>aj (v2 (v19,v4.2.1,v21.1.1,())) (λ(v22:T15)=>some ((v22.1.1,()),())))|none=>none)else none|none=>none)else none else bif decide (v6.1=3)then if(0:Int)<=(0:Int)then(match v5.1.1[(0:Int).toNat]? with|some v23=>aj (v2 (v23,v4.2.1,v4.2.2.1,())) (λ(v24:T15)=>if(0:Int)<=(1:Int)then(match v5.1.1[(1:Int).toNat]? with|some v25=>aj (v2 (v25,v4.2.1,v4.2.2.1,())) (λ(v26:T15)=>aj (IW v1 (v24.1.1,v26.1.1,())) (λ(v27:T15)=>some ((v27.1.1,()),())))|none=>none)else none)|none=>none)else none else bif decide (v6.1=6)then if(0:Int)<=(0:Int)then(match v5.1.1[(0:Int).toNat]? with|some v28=>aj (v2 (v28,v4.2.1,v4.2.2.1,())) (λ(v29:T15)=>aj (IW v1 (v4.2.2.1,v29.1.1,())) (λ(v30:T15)=>some ((v30.1.1,()),())))|none=>none)else none else if 0<=(IntKind.wrap .i64 ((v4.1.length:Int)-1))then(match v4.1[(IntKind.wrap .i64 ((v4.1.length:Int)-1)).toNat]? with|some v31=>bif decide (v31.1=4)then if(0:Int)<=(0:Int)then(match v5.1.1[(0:Int).toNat]? with|some v32=>aj (v3 (v32,v4.2.1,v4.2.2.1,())) (λ(v33:T15)=>some ((v33.1.1,()),()))|none=>none)else none else if(0:Int)<=(0:Int)then(match v5.1.1[(0:Int).toNat]? with|some v34=>if(0:Int)<=(0:Int)then(match v5.1.1[(0:Int).toNat]? with|some v35=>aj (v2 (v35,v4.2.1,v4.2.2.1,())) (λ(v36:T15)=>aj (v3 (v34,v4.2.1,v36.1.1,())) (λ(v37:T15)=>some ((v37.1.1,()),())))|none=>none)else none|none=>none)else none|none=>none)else none|none=>none)else none)else none else none
theorem UY(n:Nat)(x9:MH)(ya:MI)(h:PM x9 ya):fX Tryz.prog 112 (PK (lH n x9 ya)):=(fb n [⟨_,F134 n⟩,⟨_,F135 n⟩,⟨_,F136 n⟩,⟨_,⟨_,h.1,PL⟩⟩,⟨_,⟨_,h.2,R3⟩⟩] [14,67,68,76,82,83,92,93,107,117,118] [] [] Tryz.func112 Tryz.results112 Tryz.ntmps112 (.seq .nop (.seq .nop (.seq .nop (.seq (.seq .nop (.block none (.seq .nop (.cond none .nop (.seq .nop (.cond none (.seq (.seq .nop (.block none (.loop ⟨[(96,dx,.own .ro)],[.val 9 y2],[0,1,2,7]⟩ (.seq .nop (.seq (.block none (.reg (some ⟨[(96,dx,.own .ro)],[],[0,1,2,7,9]⟩) [])) .nop))))) .nop) .nop)))))) .nop)))) A1 A14 [] [] (lH n x9 ya)).o
def AD(v1:Nat)(v2 v3:T87)(v4:T70):T35:=aE (λ(v5:T21)=>λv6=>bif decide (v5.2.2.1<=(v4.2.1.length:Int))then aj (v2 (v4.1,v4.2.1,v5.2.1,())) (λ(v7:T15)=>aj (IW v1 (v5.2.1,v7.1.1,())) (λ(v8:T15)=>aE (λ(v9:(Unit×Bool×Int×Unit))=>λv10=>bif decide (v9.2.2.1<(v8.1.1.length:Int))then aw (λ(v11:T4)=>v10 ((),v11.2.1,IntKind.wrap .i64 (v9.2.2.1+1),())) (λv12=>bif v9.2.1 then if 0<=v9.2.2.1 then(match v8.1.1[(v9.2.2.1).toNat]? with|some v13=>if 0<=v9.2.2.1 then(match v5.2.1[(v9.2.2.1).toNat]? with|some v14=>v12 ((),v13 == v14,())|none=>none)else none|none=>none)else none else v12 ((),false,()))else bif v9.2.1 then some ((v8.1.1,()),())else v6 ((),v8.1.1,IntKind.wrap .i64 (v5.2.2.1+1),())) v1 ((),true,0,())))else some ((v5.2.1,()),())) v1 ((),v4.2.2.1,0,())
theorem UZ(n:Nat)(x9:MH)(ya:MI)(h:PM x9 ya):fX Tryz.prog 137 (R2 (AD n x9 ya)):=(fb n [⟨_,F136 n⟩,⟨_,⟨_,h.1,PL⟩⟩,⟨_,⟨_,h.2,R3⟩⟩] [21,22] [] [] Tryz.func137 Tryz.results137 Tryz.ntmps137 (.seq .nop (.seq (.seq .nop (.block none (.loop ⟨[],[.val 2 dx,.val 7 y2],[0,1]⟩ (.seq .nop (.seq (.block none (.seq .nop (.seq .nop (.seq (.seq .nop (.block none (.loop ⟨[],[.val 9 y4,.val 10 y2],[0,1,2,7,8]⟩ (.seq .nop (.seq (.block none (.reg (some ⟨[],[.val 9 y4],[0,1,2,7,8,10]⟩) [])) .nop))))) .nop)))) .nop))))) .nop)) A1 A14 [] [] (AD n x9 ya)).o
def gq(n:Nat):Nat->(T70->T35)×(T70->T35)
 |0=>(λ_=>none,λ_=>none)
 |d+1=>(λx=>lH n (gq n d).1 (gq n d).2 x,λx=>AD n (gq n d).1 (gq n d).2 x)
theorem PN(n:Nat):∀ d,PM (gq n d).1 (gq n d).2
 |0=>⟨(λx r h=>by cases h),(λx r h=>by cases h)⟩
 |d+1=>⟨UY n _ _ (PN n d),UZ n _ _ (PN n d)⟩
def PO(n:Nat)(x:T70):T35:=(gq n n).1 x
def F112(n:Nat):Fb 112:=⟨PK (PO n),(PN n n).1,PL⟩
def p98(v1:Nat)(v2:((List (Int×(List Int)))×(List Int)×Unit)):T14:=if 0<=(IntKind.wrap .i64 ((v2.2.1.length:Int)+1))/\(IntKind.wrap .i64 ((v2.2.1.length:Int)+1))<=(IntKind.wrap .i64 ((v2.2.1.length:Int)+1))then if(IntKind.wrap .i64 ((v2.2.1.length:Int)+1)).toNat*1<=140737488355328 then if(0:Int)<=(0:Int)then(match(List.replicate (IntKind.wrap .i64 ((v2.2.1.length:Int)+1)).toNat false)[(0:Int).toNat]? with|some v3=>if(0:Int)<=(0:Int)then(match(List.replicate (IntKind.wrap .i64 ((v2.2.1.length:Int)+1)).toNat false)[(0:Int).toNat]? with|some v4=>aj (PO v1 (v2.1,v2.2.1,List.set (List.replicate (IntKind.wrap .i64 ((v2.2.1.length:Int)+1)).toNat false) (0:Int).toNat true,())) (λ(v5:T15)=>if 0<=(v2.2.1.length:Int)then(match v5.1.1[(v2.2.1.length:Int).toNat]? with|some v6=>some ((v6,()),())|none=>none)else none)|none=>none)else none|none=>none)else none else none else none
def F98(n:Nat):Fb 98:=fb n [⟨_,F112 n⟩] [] [] [] Tryz.func98 Tryz.results98 Tryz.ntmps98 (.nop) [(nw,.ro),(y9,.ro)] A18 [] [] (p98 n)
end
noncomputable section
def GB(v1:Nat)(v2:T1):T12:=aw (λ(v3:(Unit×Unit))=>some ((3,()),())) (λv4=>aw (λ(v5:(Unit×Unit))=>v4 ((),())) (λv6=>aw (λ(v7:T4)=>bif v7.2.1 then some ((1,()),())else aw (λ(v8:T4)=>bif v8.2.1 then some ((2,()),())else aw (λ(v9:T4)=>bif v9.2.1 then v6 ((),())else aw (λ(v10:T4)=>bif v10.2.1 then v6 ((),())else bif decide (v2.1=95)then v4 ((),())else aw (λ(v11:T4)=>bif v11.2.1 then some ((4,()),())else some ((0,()),())) (λv12=>bif decide (32<v2.1)then v12 ((),decide (v2.1<=126),())else v12 ((),false,()))) (λv13=>bif decide (65<=v2.1)then v13 ((),decide (v2.1<=90),())else v13 ((),false,()))) (λv14=>bif decide (97<=v2.1)then v14 ((),decide (v2.1<=122),())else v14 ((),false,()))) (λv15=>bif decide (48<=v2.1)then v15 ((),decide (v2.1<=57),())else v15 ((),false,()))) (λv16=>bif decide (v2.1=32)then v16 ((),decide (v2.1=32),())else aw (λ(v17:T4)=>v16 ((),v17.2.1,())) (λv18=>bif decide (v2.1=9)then v18 ((),decide (v2.1=9),())else aw (λ(v19:T4)=>v18 ((),v19.2.1,())) (λv20=>bif decide (v2.1=10)then v20 ((),decide (v2.1=10),())else v20 ((),decide (v2.1=13),()))))))
def F109(n:Nat):Fb 109:=fb n [] [] [] [] Tryz.func109 Tryz.results109 Tryz.ntmps109 (.seq .nop (.seq (.block none (.seq (.block none (.seq (.block (some ⟨[],[],[]⟩) (.block (some ⟨[],[],[]⟩) (.block none (.seq (.block none (.seq (.block none (.seq (.seq (.seq (.seq .nop (.cond (some ⟨[],[.val 3 y4],[0]⟩) .nop (.seq .nop (.cond (some ⟨[],[.val 3 y4],[0]⟩) .nop (.seq .nop (.cond (some ⟨[],[.val 3 y4],[0]⟩) .nop .nop)))))) .nop) (.seq (.seq (.reg (some ⟨[],[.val 12 y4],[0]⟩) []) .nop) (.seq (.seq (.reg (some ⟨[],[.val 19 y4],[0]⟩) []) .nop) (.seq (.seq (.reg (some ⟨[],[.val 26 y4],[0]⟩) []) .nop) (.seq .nop (.seq (.reg (some ⟨[],[.val 36 y4],[]⟩) []) .nop)))))) .nop)) .nop)) .nop)))) .nop)) .nop)) .nop)) [(y5,.ro)] A19 [] [] (GB n)
def p89(v1:Nat)(v2:T5):T14:=aw (λ(v3:T4)=>bif v3.2.1 then some ((false,()),())else aE (λ(v4:T3)=>λv5=>bif decide (v4.2.1<(v2.1.length:Int))then if 0<=v4.2.1 then(match v2.1[(v4.2.1).toNat]? with|some v6=>aj (GB v1 (v6,())) (λ(v7:T6)=>aw (λ(v8:T4)=>bif v8.2.1 then some ((false,()),())else v5 ((),IntKind.wrap .i64 (v4.2.1+1),())) (λv9=>bif !(decide (v7.1.1=2))then v9 ((),!(decide (v7.1.1=3)),())else v9 ((),false,())))|none=>none)else none else some ((true,()),())) v1 ((),0,())) (λv10=>bif decide (40<(v2.1.length:Int))then v10 ((),true,())else bif decide (v2.1=([]:List Int))then v10 ((),true,())else if(0:Int)<=(0:Int)then(match v2.1[(0:Int).toNat]? with|some v11=>aj (GB v1 (v11,())) (λ(v12:T6)=>v10 ((),!(decide (v12.1.1=3)),()))|none=>none)else none)
def F89(n:Nat):Fb 89:=fb n [⟨_,F109 n⟩] [] [] [] Tryz.func89 Tryz.results89 Tryz.ntmps89 (.seq .nop (.seq (.seq (.reg (some ⟨[],[.val 17 y4],[0]⟩) []) .nop) (.seq (.seq .nop (.block none (.loop ⟨[],[.val 20 y2],[0,19]⟩ (.seq .nop (.seq .nop (.seq (.block none (.seq .nop (.seq .nop (.seq (.reg (some ⟨[],[.val 32 y4],[0,19,20]⟩) []) .nop)))) .nop)))))) .nop))) A20 A18 [] [] (p89 n)
def p88(v1:Nat)(v2:(((List Int)×Int×(List Int))×(List ((List Int)×Int))×Unit)):T12:=aj (p89 v1 (v2.1.1,())) (λ(v3:T8)=>bif !v3.1.1 then some ((8,()),())else bif decide (0<(cW (λ(v4:T0)=>λ(v5:T0)=>decide (v4=v5)) v2.1.1 v2.2.1))then some ((9,()),())else aw (λ(v6:T4)=>bif v6.2.1 then some ((1,()),())else aj (Ct v1 (v2.1.2.2,())) (λ(v7:T74)=>bif !(decide (v7.1.2.1=0))then some ((v7.1.2.1,()),())else aj (MB v1 (v7.1.1,([]:List Int),())) (λ(v8:T6)=>bif decide (0<=v8.1.1)then some ((14,()),())else some ((0,()),())))) (λv9=>bif decide (v2.1.2.1<0)then v9 ((),true,())else v9 ((),decide (2<v2.1.2.1),())))
def F88(n:Nat):Fb 88:=fb n [⟨_,F89 n⟩,⟨_,F107 n⟩,⟨_,F108 n⟩] [30] [] [] Tryz.func88 Tryz.results88 Tryz.ntmps88 (.seq (.reg none [2]) (.seq (.block none (.seq .nop (.cond none .nop (.seq .nop (.cond none .nop (.seq (.reg (some ⟨[],[.val 18 y4],[2]⟩) []) .nop)))))) (.seq (.reg none [5]) .nop))) [(y82,.ro),(s8,.ro)] A19 [] [] (p88 n)
def p58(v1:Nat)(v2:T58):T24:=bif decide (60<(v2.1.length:Int))then some (((v2.1.length:Int),6,()),())else aE (λ(v3:(((List ((List Int)×Int))×Unit)×Int×Unit))=>λv4=>bif decide (v3.2.1<(v2.1.length:Int))then if 0<=v3.2.1 then(match v2.1[(v3.2.1).toNat]? with|some v5=>aj (p88 v1 (v5,v3.1.1,())) (λ(v6:T6)=>bif !(decide (v6.1.1=0))then some ((v3.2.1,v6.1.1,()),())else v4 ((ff (λ(v7:T0)=>λ(v8:T0)=>decide (v7=v8)) v5.1 (IntKind.wrap .i64 ((cW (λ(v9:T0)=>λ(v10:T0)=>decide (v9=v10)) v5.1 v3.1.1)+1)) v3.1.1,()),IntKind.wrap .i64 (v3.2.1+1),()))|none=>none)else none else some (((v2.1.length:Int),0,()),())) v1 ((([]:List ((List Int)×Int)),()),0,())
def F58(n:Nat):Fb 58:=fb n [⟨_,F88 n⟩] [] [] [] Tryz.func58 Tryz.results58 Tryz.ntmps58 (.seq .nop (.seq .nop (.seq .nop (.seq (.seq .nop (.block none (.loop ⟨[(104,s8,.own .ro)],[.val 16 y2],[0,4,14,15]⟩ (.seq .nop (.seq .nop (.seq (.block none (.seq (.reg none [6]) .nop)) .nop)))))) .nop)))) [(y22,.ro)] A12 [] [] (p58 n)
def MJ(v1:Nat)(v2:T40):T12:=aE (λ(v3:T3)=>λv4=>bif decide (v3.2.1<(v2.1.length:Int))then if 0<=v3.2.1 then(match v2.1[(v3.2.1).toNat]? with|some v5=>bif decide (v2.2.1=v5)then some ((v3.2.1,()),())else v4 ((),IntKind.wrap .i64 (v3.2.1+1),())|none=>none)else none else some ((-1,()),())) v1 ((),0,())
def F110(n:Nat):Fb 110:=fb n [] [] [] [] Tryz.func110 Tryz.results110 Tryz.ntmps110 (.seq .nop (.seq (.seq .nop (.block none (.loop ⟨[],[.val 8 y2],[0,1,7]⟩ .nop))) .nop)) [(y23,.ro),(y9,.ro)] A19 [] [] (MJ n)
def p90(v1:Nat)(v2:T40):T14:=aj (MJ v1 (v2.1,v2.2.1,())) (λ(v3:T6)=>some ((decide (0<=v3.1.1),()),()))
def F90(n:Nat):Fb 90:=fb n [⟨_,F110 n⟩] [] [] [] Tryz.func90 Tryz.results90 Tryz.ntmps90 (.nop) [(y23,.ro),(y9,.ro)] A18 [] [] (p90 n)
def p91(v1:Nat)(v2:((List ((List Int)×Int×(List Int)))×(List Int)×Unit)):T12:=aE (λ(v3:T3)=>λv4=>bif decide (v3.2.1<(v2.1.length:Int))then if 0<=v3.2.1 then(match v2.1[(v3.2.1).toNat]? with|some v5=>bif decide (v5.1=v2.2.1)then some ((v3.2.1,()),())else v4 ((),IntKind.wrap .i64 (v3.2.1+1),())|none=>none)else none else some ((-1,()),())) v1 ((),0,())
def F91(n:Nat):Fb 91:=fb n [] [] [] [] Tryz.func91 Tryz.results91 Tryz.ntmps91 (.seq .nop (.seq (.seq .nop (.block none (.loop ⟨[],[.val 9 y2],[1,7,8]⟩ (.seq .nop (.seq .nop (.seq (.block none (.seq (.reg none [6]) .nop)) .nop)))))) .nop)) [(y22,.ro),(y9,.ro)] A19 [] [] (p91 n)
def p59(v1:Nat)(v2:T92):T45:=bif decide (300<(v2.1.2.1.length:Int))then some (((6,2,(v2.1.2.1.length:Int)),()),())else aE (λ(v3:T37)=>λv4=>bif decide (v3.2.1<(v2.1.2.1.length:Int))then if 0<=v3.2.1 then(match v2.1.2.1[(v3.2.1).toNat]? with|some v5=>aj (p89 v1 (v5,())) (λ(v6:T8)=>bif !v6.1.1 then some (((8,2,v3.2.1),()),())else aw (λ(v7:T41)=>bif v7.2.1 then some (((9,2,v3.2.1),()),())else v4 ((v7.1.1,()),IntKind.wrap .i64 (v3.2.1+1),())) (λv8=>if(0:Int)<=(0:Int)/\(0:Int)<=v3.2.1/\v3.2.1<=(v2.1.2.1.length:Int)then aj (p90 v1 (cz v2.1.2.1 (0:Int) v3.2.1,v5,())) (λ(v9:T8)=>bif v9.1.1 then v8 ((v3.1.1,()),true,())else aj (p91 v1 (v2.1.1,v5,())) (λ(v10:T6)=>v8 ((v3.1.1,()),decide (0<=v10.1.1),())))else none))|none=>none)else none else some (((0,0,0),()),())) v1 (((0,0,0),()),0,())
def F59(n:Nat):Fb 59:=fb n [⟨_,F89 n⟩,⟨_,F90 n⟩,⟨_,F91 n⟩] [] [] [] Tryz.func59 Tryz.results59 Tryz.ntmps59 (.seq (.reg none [1]) (.seq .nop (.seq (.seq .nop (.block none (.loop ⟨[(16,.box y89,.own (.pr .ro (.pr .ro .ro)))],[.val 16 y2],[1,2,14,15]⟩ (.seq .nop (.seq .nop (.seq (.block none (.seq .nop (.block none (.seq .nop (.cond none .nop (.seq (.reg (some ⟨[(16,.box y89,.own (.pr .ro (.pr .ro .ro)))],[.val 27 y4],[1,2,3,14,15,16]⟩) []) .nop)))))) .nop)))))) (.seq (.reg none [2]) .nop)))) A15 [(y89,.ro)] [] [] (p59 n)
def p92(v1:Nat)(v2:T94):T14:=bif v2.2.1.1 then aw (λ(v3:T4)=>some ((v3.2.1,()),())) (λv4=>bif decide (0<=v2.2.1.2)then v4 ((),decide (v2.2.1.2<(v2.1.2.1.length:Int)),())else v4 ((),false,()))else aw (λ(v5:T4)=>some ((v5.2.1,()),())) (λv6=>bif decide (0<=v2.2.1.2)then bif decide (v2.2.1.2<(v2.1.1.length:Int))then if 0<=v2.2.1.2 then(match v2.1.1[(v2.2.1.2).toNat]? with|some v7=>v6 ((),decide (v7.2.1=0),())|none=>none)else none else v6 ((),false,())else v6 ((),false,()))
def F92(n:Nat):Fb 92:=fb n [] [] [] [] Tryz.func92 Tryz.results92 Tryz.ntmps92 (.seq (.reg none [2,3]) (.seq (.seq .nop (.cond none (.seq (.reg (some ⟨[],[.val 4 y4],[]⟩) []) .nop) .nop)) (.seq (.reg (some ⟨[],[.val 4 y4],[]⟩) []) .nop))) [(y26,.ro),(y63,.ro)] A18 [] [] (p92 n)
theorem GC:xG Tryz.prog 64:=⟨by kernel_rfl,by kernel_rfl,by kernel_rfl⟩
def p93(v1:Nat)(v2:T76):T14:=aw (λ(v3:T4)=>some ((v3.2.1,()),())) (λv4=>bif decide ((v2.1.2.2.1.length:Int)=3)then if(0:Int)<=(0:Int)then(match v2.1.2.2.1[(0:Int).toNat]? with|some v5=>bif !v5.1 then if(0:Int)<=(1:Int)then(match v2.1.2.2.1[(1:Int).toNat]? with|some v6=>bif bif v6.1 == true then decide (v6.2=v2.1.1)else false then if(0:Int)<=(2:Int)then(match v2.1.2.2.1[(2:Int).toNat]? with|some v7=>v4 ((),!v7.1,())|none=>none)else none else v4 ((),false,())|none=>none)else none else v4 ((),false,())|none=>none)else none else v4 ((),false,()))
def F93(n:Nat):Fb 93:=fb n [] [] [] [⟨_,GC⟩] Tryz.func93 Tryz.results93 Tryz.ntmps93 (.seq (.reg none [1]) (.seq (.reg (some ⟨[],[.val 2 y4],[]⟩) []) .nop)) [(y84,.ro)] A18 [] [] (p93 n)
def p60(v1:Nat)(v2:T93):T12:=if 0<=v2.2.1 then(match v2.1.2.2.1[(v2.2.1).toNat]? with|some v3=>aw (λ(v4:T4)=>bif v4.2.1 then some ((11,()),())else aj (p89 v1 (v3.2.1,())) (λ(v5:T8)=>bif !v5.1.1 then some ((8,()),())else bif decide (12<(v3.2.2.1.length:Int))then some ((6,()),())else bif !(decide ((v3.2.2.2.2.2.length:Int)=(if(IntKind.wrap .i64 ((v3.2.2.1.length:Int)-1))<(0:Int)then(0:Int)else IntKind.wrap .i64 ((v3.2.2.1.length:Int)-1))))then some ((1,()),())else if(0:Int)<=(0:Int)/\(0:Int)<=v2.2.1/\v2.2.1<=(v2.1.2.2.1.length:Int)then aE (λ(v6:T3)=>λv7=>bif decide (v6.2.1<((List.length (cz v2.1.2.2.1 (0:Int) v2.2.1):Nat):Int))then if 0<=v6.2.1 then(match(cz v2.1.2.2.1 (0:Int) v2.2.1)[(v6.2.1).toNat]? with|some v8=>bif decide (v8.2.1=v3.2.1)then some ((9,()),())else v7 ((),IntKind.wrap .i64 (v6.2.1+1),())|none=>none)else none else aE (λ(v9:T3)=>λv10=>bif decide (v9.2.1<(v3.2.2.1.length:Int))then if 0<=v9.2.1 then(match v3.2.2.1[(v9.2.1).toNat]? with|some v11=>aj (p92 v1 (v2.1,v11,())) (λ(v12:T8)=>bif !v12.1.1 then some ((11,()),())else v10 ((),IntKind.wrap .i64 (v9.2.1+1),()))|none=>none)else none else aE (λ(v13:T3)=>λv14=>bif decide (v13.2.1<(v3.2.2.2.2.2.length:Int))then if 0<=v13.2.1 then(match v3.2.2.2.2.2[(v13.2.1).toNat]? with|some v15=>aw (λ(v16:T4)=>bif v16.2.1 then some ((1,()),())else v14 ((),IntKind.wrap .i64 (v13.2.1+1),())) (λv17=>bif decide (v15<0)then v17 ((),true,())else v17 ((),decide (3<v15),()))|none=>none)else none else aw (λ(v18:T4)=>bif v18.2.1 then some ((11,()),())else aw (λ(v19:T4)=>bif v19.2.1 then some ((15,()),())else some ((0,()),())) (λv20=>bif v3.2.2.2.1 then aj (p93 v1 (v3,())) (λ(v21:T8)=>v20 ((),!v21.1.1,()))else v20 ((),false,()))) (λv22=>bif !(decide (v3.2.2.2.2.1=-1))then bif decide (v3.2.2.2.2.1<0)then v22 ((),true,())else aj (p92 v1 (v2.1,(false,v3.2.2.2.2.1),())) (λ(v23:T8)=>v22 ((),!v23.1.1,()))else v22 ((),false,()))) v1 ((),0,())) v1 ((),0,())) v1 ((),0,())else none)) (λv24=>bif decide (v3.1<0)then v24 ((),true,())else v24 ((),decide ((v2.1.2.1.length:Int)<=v3.1),()))|none=>none)else none
def F60(n:Nat):Fb 60:=fb n [⟨_,F89 n⟩,⟨_,F92 n⟩,⟨_,F93 n⟩] [] [] [] Tryz.func60 Tryz.results60 Tryz.ntmps60 (.seq (.reg none [2]) (.seq (.reg none [5]) (.seq (.block none (.seq (.reg (some ⟨[],[.val 17 y4],[1,2,5]⟩) []) .nop)) (.seq (.seq .nop (.block none (.loop ⟨[],[.val 54 y2],[2,5,52,53]⟩ (.seq .nop (.seq .nop (.seq (.block none (.seq (.reg none [7]) .nop)) .nop)))))) (.seq (.seq .nop (.block none (.loop ⟨[],[.val 67 y2],[2,5,65,66]⟩ (.seq .nop (.seq .nop (.seq (.block none (.seq (.reg none [9]) .nop)) .nop)))))) (.seq (.seq .nop (.block none (.loop ⟨[],[.val 79 y2],[2,5,77,78]⟩ (.seq .nop (.seq .nop (.seq (.block none (.seq .nop (.seq (.reg (some ⟨[],[.val 88 y4],[2,5,77,78,79]⟩) []) .nop))) .nop)))))) (.seq (.seq (.reg (some ⟨[],[.val 105 y4],[5]⟩) []) .nop) (.seq (.seq (.reg (some ⟨[],[.val 112 y4],[]⟩) []) .nop) .nop)))))))) A10 A19 [] [] (p60 n)
def p61(v1:Nat)(v2:T92):T45:=aE (λ(v3:T69)=>λv4=>bif decide (v3.2.1<(v2.1.2.2.2.1.length:Int))then if 0<=v3.2.1 then(match v2.1.2.2.2.1[(v3.2.1).toNat]? with|some v5=>aw (λ(v6:(((Int×Int×Int)×(List (Int×Int))×Unit)×Bool×Unit))=>bif v6.2.1 then some (((1,4,v3.2.1),()),())else aE (λ(v7:T69)=>λv8=>bif decide (v7.2.1<(v5.2.length:Int))then if 0<=v7.2.1 then(match v5.2[(v7.2.1).toNat]? with|some v9=>aj (p92 v1 (v2.1,(false,v9),())) (λ(v10:T8)=>bif !v10.1.1 then some (((11,4,v3.2.1),()),())else bif decide (0<(cW (λ(v11:Int)=>λ(v12:Int)=>decide (v11=v12)) v9 v7.1.2.1))then some (((9,4,v3.2.1),()),())else v8 ((v7.1.1,ff (λ(v13:Int)=>λ(v14:Int)=>decide (v13=v14)) v9 (IntKind.wrap .i64 ((cW (λ(v15:Int)=>λ(v16:Int)=>decide (v15=v16)) v9 v7.1.2.1)+1)) v7.1.2.1,()),IntKind.wrap .i64 (v7.2.1+1),()))|none=>none)else none else v4 ((v7.1.1,v7.1.2.1,()),IntKind.wrap .i64 (v3.2.1+1),())) v1 ((v6.1.1,v6.1.2.1,()),0,())) (λv17=>bif decide (v5.1<1)then v17 ((v3.1.1,v3.1.2.1,()),true,())else bif decide (3<v5.1)then v17 ((v3.1.1,v3.1.2.1,()),true,())else bif decide ((v5.2.length:Int)=0)then v17 ((v3.1.1,v3.1.2.1,()),true,())else v17 ((v3.1.1,v3.1.2.1,()),decide (60<=v3.2.1),()))|none=>none)else none else some (((0,0,0),()),())) v1 (((0,0,0),([]:List (Int×Int)),()),0,())
def F61(n:Nat):Fb 61:=fb n [⟨_,F92 n⟩] [] [] [] Tryz.func61 Tryz.results61 Tryz.ntmps61 (.seq (.reg none [1]) (.seq .nop (.seq (.seq .nop (.block none (.loop ⟨[(16,.box y89,.own (.pr .ro (.pr .ro .ro))),(64,Mc,.own .ro)],[.val 12 y2],[1,2,3,10,11]⟩ (.seq .nop (.seq .nop (.seq (.block none (.seq (.reg none [5]) (.seq (.seq (.reg (some ⟨[(16,.box y89,.own (.pr .ro (.pr .ro .ro))),(64,Mc,.own .ro)],[.val 34 y4],[1,2,3,4,5,10,11,12]⟩) []) .nop) (.seq .nop (.block none (.loop ⟨[(16,.box y89,.own (.pr .ro (.pr .ro .ro))),(64,Mc,.own .ro)],[.val 40 y2],[1,2,3,4,10,11,12,38,39]⟩ .nop)))))) .nop)))))) (.seq (.reg none [2]) .nop)))) A15 [(y89,.ro)] [] [] (p61 n)
def p31(v1:Nat)(v2:T92):T45:=aj (p58 v1 (v2.1.1,())) (λ(v3:((Int×Int×Unit)×Unit))=>bif !(decide (v3.1.2.1=0))then some (((v3.1.2.1,1,v3.1.1),()),())else aj (p59 v1 (v2.1,())) (λ(v4:T25)=>bif !(decide (v4.1.1.1=0))then some ((v4.1.1,()),())else bif decide (200<(v2.1.2.2.1.length:Int))then some (((6,3,(v2.1.2.2.1.length:Int)),()),())else aE (λ(v5:T37)=>λv6=>bif decide (v5.2.1<(v2.1.2.2.1.length:Int))then aj (p60 v1 (v2.1,v5.2.1,())) (λ(v7:T6)=>bif !(decide (v7.1.1=0))then some (((v7.1.1,3,v5.2.1),()),())else v6 ((v5.1.1,()),IntKind.wrap .i64 (v5.2.1+1),()))else aj (p61 v1 (v2.1,())) (λ(v8:T25)=>bif !(decide (v8.1.1.1=0))then some ((v8.1.1,()),())else aw (λ(v9:T41)=>bif v9.2.1 then some (((11,5,0),()),())else some (((0,0,0),()),())) (λv10=>bif decide (v2.1.2.2.2.2<0)then v10 ((v5.1.1,()),true,())else v10 ((v5.1.1,()),decide ((v2.1.2.1.length:Int)<=v2.1.2.2.2.2),())))) v1 (((0,0,0),()),0,())))
def F31(n:Nat):Fb 31:=fb n [⟨_,F58 n⟩,⟨_,F59 n⟩,⟨_,F60 n⟩,⟨_,F61 n⟩] [] [] [] Tryz.func31 Tryz.results31 Tryz.ntmps31 (.seq (.reg none [1]) (.seq .nop (.seq (.seq (.reg none [5]) .nop) (.seq .nop (.seq (.seq .nop (.block none (.loop ⟨[(16,.box y89,.own (.pr .ro (.pr .ro .ro)))],[.val 37 y2],[1,2,36]⟩ .nop))) (.seq (.seq (.reg none [8]) .nop) (.seq (.seq (.reg (some ⟨[(16,.box y89,.own (.pr .ro (.pr .ro .ro)))],[.val 65 y4],[2]⟩) []) .nop) (.seq (.reg none [2]) .nop)))))))) A15 [(y89,.ro)] [] [] (p31 n)
def p99(v1:Nat)(v2:T1):T12:=aj (Ax v1 (([32,9,10,13]:List Int),v2.1,())) (λ(v3:T8)=>bif v3.1.1 then some ((1,()),())else aj (Ax v1 (([48,49,50,51,52,53,54,55,56,57]:List Int),v2.1,())) (λ(v4:T8)=>bif v4.1.1 then some ((2,()),())else aw (λ(v5:T4)=>bif v5.2.1 then some ((3,()),())else aw (λ(v6:T4)=>bif v6.2.1 then some ((4,()),())else some ((0,()),())) (λv7=>bif decide (32<v2.1)then v7 ((),decide (v2.1<127),())else v7 ((),false,()))) (λv8=>aj (IS v1 (v2.1,())) (λ(v9:T8)=>bif v9.1.1 then v8 ((),true,())else v8 ((),decide (v2.1=95),())))))
def F99(n:Nat):Fb 99:=fb n [⟨_,F113 n⟩,⟨_,F114 n⟩] [] [] [] Tryz.func99 Tryz.results99 Tryz.ntmps99 (.seq .nop (.seq (.block none (.seq .nop (.cond none .nop (.seq .nop (.cond none .nop (.seq (.reg (some ⟨[],[.val 9 y4],[0]⟩) []) (.cond none .nop (.seq (.reg (some ⟨[],[.val 16 y4],[]⟩) []) .nop)))))))) .nop)) [(y5,.ro)] A19 [] [] (p99 n)
def p67(v1:Nat)(v2:T5):T14:=aE (λ(v3:T3)=>λv4=>bif decide (v3.2.1<(v2.1.length:Int))then if 0<=v3.2.1 then(match v2.1[(v3.2.1).toNat]? with|some v5=>aj (p99 v1 (v5,())) (λ(v6:T6)=>aw (λ(v7:T4)=>bif v7.2.1 then some ((false,()),())else v4 ((),IntKind.wrap .i64 (v3.2.1+1),())) (λv8=>bif !(decide (v6.1.1=3))then bif !(decide (v6.1.1=2))then v8 ((),true,())else v8 ((),decide (v3.2.1=0),())else v8 ((),false,())))|none=>none)else none else aw (λ(v9:T4)=>some ((v9.2.1,()),())) (λv10=>bif decide (1<=(v2.1.length:Int))then v10 ((),decide ((v2.1.length:Int)<=40),())else v10 ((),false,()))) v1 ((),0,())
def F67(n:Nat):Fb 67:=fb n [⟨_,F99 n⟩] [] [] [] Tryz.func67 Tryz.results67 Tryz.ntmps67 (.seq .nop (.seq (.seq .nop (.block none (.loop ⟨[],[.val 3 y2],[0]⟩ (.seq .nop (.seq (.block none (.seq .nop (.seq (.reg (some ⟨[],[.val 24 y4],[0,3]⟩) []) .nop))) .nop))))) (.seq (.reg (some ⟨[],[.val 2 y4],[]⟩) []) .nop))) A20 A18 [] [] (p67 n)
def p66(v1:Nat)(v2:((List ((List Int)×Int×(List Int)))×Int×Unit)):T12:=if 0<=v2.2.1 then(match v2.1[(v2.2.1).toNat]? with|some v3=>aj (p67 v1 (v3.1,())) (λ(v4:T8)=>bif !v4.1.1 then some ((8,()),())else aE (λ(v5:T3)=>λv6=>bif decide (v5.2.1<v2.2.1)then if 0<=v5.2.1 then(match v2.1[(v5.2.1).toNat]? with|some v7=>bif decide (v7.1=v3.1)then some ((9,()),())else v6 ((),IntKind.wrap .i64 (v5.2.1+1),())|none=>none)else none else aw (λ(v8:T4)=>bif v8.2.1 then some ((1,()),())else aj (p97 v1 (v3.2.2,())) (λ(v9:T60)=>bif !(decide (v9.1.2.1=0))then some ((v9.1.2.1,()),())else aj (p98 v1 (v9.1.1,([]:List Int),())) (λ(v10:T8)=>bif v10.1.1 then some ((14,()),())else some ((0,()),())))) (λv11=>bif decide (v3.2.1<0)then v11 ((),true,())else v11 ((),decide (2<v3.2.1),()))) v1 ((),0,()))|none=>none)else none
def F66(n:Nat):Fb 66:=fb n [⟨_,F67 n⟩,⟨_,F97 n⟩,⟨_,F98 n⟩] [41] [] [] Tryz.func66 Tryz.results66 Tryz.ntmps66 (.seq .nop (.seq (.reg none [5]) (.seq .nop (.seq (.seq .nop (.block none (.loop ⟨[],[.val 6 y2],[0,1,5]⟩ .nop))) (.seq (.seq (.reg (some ⟨[],[.val 37 y4],[5]⟩) []) .nop) .nop))))) [(y22,.ro),(y2,.ro)] A19 [] [] (p66 n)
def p35(v1:Nat)(v2:T58):T24:=bif decide (60<(v2.1.length:Int))then some (((v2.1.length:Int),6,()),())else aE (λ(v3:T3)=>λv4=>bif decide (v3.2.1<(v2.1.length:Int))then aj (p66 v1 (v2.1,v3.2.1,())) (λ(v5:T6)=>bif !(decide (v5.1.1=0))then some ((v3.2.1,v5.1.1,()),())else v4 ((),IntKind.wrap .i64 (v3.2.1+1),()))else some (((v2.1.length:Int),0,()),())) v1 ((),0,())
def F35(n:Nat):Fb 35:=fb n [⟨_,F66 n⟩] [] [] [] Tryz.func35 Tryz.results35 Tryz.ntmps35 (.seq .nop (.seq .nop (.seq (.seq .nop (.block none (.loop ⟨[],[.val 4 y2],[0]⟩ .nop))) .nop))) [(y22,.ro)] A12 [] [] (p35 n)
def p36(v1:Nat)(v2:T93):T12:=if 0<=v2.2.1 then(match v2.1.2.1[(v2.2.1).toNat]? with|some v3=>aj (p67 v1 (v3,())) (λ(v4:T8)=>bif !v4.1.1 then some ((8,()),())else aE (λ(v5:T3)=>λv6=>bif decide (v5.2.1<v2.2.1)then if 0<=v5.2.1 then(match v2.1.2.1[(v5.2.1).toNat]? with|some v7=>if 0<=v2.2.1 then(match v2.1.2.1[(v2.2.1).toNat]? with|some v8=>bif decide (v7=v8)then some ((9,()),())else v6 ((),IntKind.wrap .i64 (v5.2.1+1),())|none=>none)else none|none=>none)else none else aE (λ(v9:T3)=>λv10=>bif decide (v9.2.1<(v2.1.1.length:Int))then if 0<=v9.2.1 then(match v2.1.1[(v9.2.1).toNat]? with|some v11=>if 0<=v2.2.1 then(match v2.1.2.1[(v2.2.1).toNat]? with|some v12=>bif decide (v11.1=v12)then some ((9,()),())else v10 ((),IntKind.wrap .i64 (v9.2.1+1),())|none=>none)else none|none=>none)else none else some ((0,()),())) v1 ((),0,())) v1 ((),0,()))|none=>none)else none
def F36(n:Nat):Fb 36:=fb n [⟨_,F67 n⟩] [] [] [] Tryz.func36 Tryz.results36 Tryz.ntmps36 (.seq (.reg none [2]) (.seq .nop (.seq (.seq .nop (.block none (.loop ⟨[],[.val 5 y2],[1,2]⟩ .nop))) (.seq (.seq .nop (.block none (.loop ⟨[],[.val 6 y2],[1,2]⟩ .nop))) .nop)))) A10 A19 [] [] (p36 n)
def p68(v1:Nat)(v2:T94):T14:=bif v2.2.1.1 then aw (λ(v3:T4)=>some ((v3.2.1,()),())) (λv4=>bif decide (0<=v2.2.1.2)then v4 ((),decide (v2.2.1.2<(v2.1.2.1.length:Int)),())else v4 ((),false,()))else aw (λ(v5:T4)=>some ((v5.2.1,()),())) (λv6=>bif decide (0<=v2.2.1.2)then bif decide (v2.2.1.2<(v2.1.1.length:Int))then if 0<=v2.2.1.2 then(match v2.1.1[(v2.2.1.2).toNat]? with|some v7=>v6 ((),decide (v7.2.1=0),())|none=>none)else none else v6 ((),false,())else v6 ((),false,()))
def F68(n:Nat):Fb 68:=fb n [] [] [] [] Tryz.func68 Tryz.results68 Tryz.ntmps68 (.seq (.reg none [2,3]) (.seq (.seq .nop (.cond none (.seq (.reg (some ⟨[],[.val 4 y4],[]⟩) []) .nop) .nop)) (.seq (.reg (some ⟨[],[.val 4 y4],[]⟩) []) .nop))) [(y26,.ro),(y63,.ro)] A18 [] [] (p68 n)
def p69(v1:Nat)(v2:T76):T14:=aw (λ(v3:T4)=>some ((v3.2.1,()),())) (λv4=>bif decide ((v2.1.2.2.1.length:Int)=3)then if(0:Int)<=(0:Int)then(match v2.1.2.2.1[(0:Int).toNat]? with|some v5=>bif !v5.1 then if(0:Int)<=(1:Int)then(match v2.1.2.2.1[(1:Int).toNat]? with|some v6=>bif v6.1 then if(0:Int)<=(1:Int)then(match v2.1.2.2.1[(1:Int).toNat]? with|some v7=>bif decide (v7.2=v2.1.1)then if(0:Int)<=(2:Int)then(match v2.1.2.2.1[(2:Int).toNat]? with|some v8=>v4 ((),!v8.1,())|none=>none)else none else v4 ((),false,())|none=>none)else none else v4 ((),false,())|none=>none)else none else v4 ((),false,())|none=>none)else none else v4 ((),false,()))
def F69(n:Nat):Fb 69:=fb n [] [] [] [] Tryz.func69 Tryz.results69 Tryz.ntmps69 (.seq (.reg none [1]) (.seq (.reg (some ⟨[],[.val 2 y4],[]⟩) []) .nop)) [(y84,.ro)] A18 [] [] (p69 n)
def p37(v1:Nat)(v2:T93):T12:=if 0<=v2.2.1 then(match v2.1.2.2.1[(v2.2.1).toNat]? with|some v3=>aw (λ(v4:T4)=>bif v4.2.1 then some ((11,()),())else aj (p67 v1 (v3.2.1,())) (λ(v5:T8)=>bif !v5.1.1 then some ((8,()),())else bif decide (12<(v3.2.2.1.length:Int))then some ((6,()),())else bif !(decide ((v3.2.2.2.2.2.length:Int)=(if 0<(IntKind.wrap .i64 ((v3.2.2.1.length:Int)-1))then IntKind.wrap .i64 ((v3.2.2.1.length:Int)-1)else(0:Int))))then some ((1,()),())else aE (λ(v6:T3)=>λv7=>bif decide (v6.2.1<v2.2.1)then if 0<=v6.2.1 then(match v2.1.2.2.1[(v6.2.1).toNat]? with|some v8=>bif decide (v8.2.1=v3.2.1)then some ((9,()),())else v7 ((),IntKind.wrap .i64 (v6.2.1+1),())|none=>none)else none else aE (λ(v9:T3)=>λv10=>bif decide (v9.2.1<(v3.2.2.1.length:Int))then if 0<=v9.2.1 then(match v3.2.2.1[(v9.2.1).toNat]? with|some v11=>aj (p68 v1 (v2.1,v11,())) (λ(v12:T8)=>bif !v12.1.1 then some ((11,()),())else v10 ((),IntKind.wrap .i64 (v9.2.1+1),()))|none=>none)else none else aE (λ(v13:T3)=>λv14=>bif decide (v13.2.1<(v3.2.2.2.2.2.length:Int))then aw (λ(v15:T4)=>bif v15.2.1 then some ((1,()),())else v14 ((),IntKind.wrap .i64 (v13.2.1+1),())) (λv16=>if 0<=v13.2.1 then(match v3.2.2.2.2.2[(v13.2.1).toNat]? with|some v17=>bif decide (v17<0)then v16 ((),true,())else if 0<=v13.2.1 then(match v3.2.2.2.2.2[(v13.2.1).toNat]? with|some v18=>v16 ((),decide (3<v18),())|none=>none)else none|none=>none)else none)else aw (λ(v19:T4)=>bif v19.2.1 then some ((11,()),())else aw (λ(v20:T4)=>bif v20.2.1 then some ((15,()),())else some ((0,()),())) (λv21=>bif v3.2.2.2.1 then aj (p69 v1 (v3,())) (λ(v22:T8)=>v21 ((),!v22.1.1,()))else v21 ((),false,()))) (λv23=>bif !(decide (v3.2.2.2.2.1=-1))then aj (p68 v1 (v2.1,(false,v3.2.2.2.2.1),())) (λ(v24:T8)=>v23 ((),!v24.1.1,()))else v23 ((),false,()))) v1 ((),0,())) v1 ((),0,())) v1 ((),0,()))) (λv25=>bif decide (v3.1<0)then v25 ((),true,())else v25 ((),decide ((v2.1.2.1.length:Int)<=v3.1),()))|none=>none)else none
def F37(n:Nat):Fb 37:=fb n [⟨_,F67 n⟩,⟨_,F68 n⟩,⟨_,F69 n⟩] [] [] [] Tryz.func37 Tryz.results37 Tryz.ntmps37 (.seq (.reg none [2]) (.seq (.reg none [5]) (.seq (.seq (.reg (some ⟨[],[.val 24 y4],[1,2,5]⟩) []) .nop) (.seq .nop (.seq .nop (.seq .nop (.seq (.seq .nop (.block none (.loop ⟨[],[.val 6 y2],[1,2,5]⟩ .nop))) (.seq (.seq .nop (.block none (.loop ⟨[],[.val 7 y2],[2,5]⟩ .nop))) (.seq (.seq .nop (.block none (.loop ⟨[],[.val 8 y2],[2,5]⟩ (.seq .nop (.seq (.block none (.seq (.reg (some ⟨[],[.val 91 y4],[2,5,8]⟩) []) .nop)) .nop))))) (.seq (.seq (.reg (some ⟨[],[.val 102 y4],[5]⟩) []) .nop) (.seq (.seq (.reg (some ⟨[],[.val 109 y4],[]⟩) []) .nop) .nop))))))))))) A10 A19 [] [] (p37 n)
def p70(v1:Nat)(v2:(((List ((List Int)×Int×(List Int)))×(List (List Int))×(List (Int×(List Int)×(List (Bool×Int))×Bool×Int×(List Int)))×(List (Int×(List Int)))×Int)×Int×Int×Unit)):T14:=aE (λ(v3:T3)=>λv4=>bif decide (v3.2.1<=v2.2.1)then aE (λ(v5:T3)=>λv6=>if 0<=v3.2.1 then(match v2.1.2.2.2.1[(v3.2.1).toNat]? with|some v7=>bif decide (v5.2.1<(v7.2.length:Int))then aw (λ(v8:T4)=>bif v8.2.1 then some ((false,()),())else if 0<=v3.2.1 then(match v2.1.2.2.2.1[(v3.2.1).toNat]? with|some v9=>if 0<=v5.2.1 then(match v9.2[(v5.2.1).toNat]? with|some v10=>if 0<=v2.2.1 then(match v2.1.2.2.2.1[(v2.2.1).toNat]? with|some v11=>if 0<=v2.2.2.1 then(match v11.2[(v2.2.2.1).toNat]? with|some v12=>bif decide (v10=v12)then some ((true,()),())else v6 ((),IntKind.wrap .i64 (v5.2.1+1),())|none=>none)else none|none=>none)else none|none=>none)else none|none=>none)else none) (λv13=>bif decide (v3.2.1=v2.2.1)then v13 ((),decide (v2.2.2.1<=v5.2.1),())else v13 ((),false,()))else v4 ((),IntKind.wrap .i64 (v3.2.1+1),())|none=>none)else none) v1 ((),0,())else some ((false,()),())) v1 ((),0,())
def F70(n:Nat):Fb 70:=fb n [] [] [] [] Tryz.func70 Tryz.results70 Tryz.ntmps70 (.seq (.reg none [3]) (.seq (.seq .nop (.block none (.loop ⟨[],[.val 7 y2],[1,2,3]⟩ (.seq .nop (.seq (.block none (.seq .nop (.block none (.loop ⟨[],[.val 8 y2],[1,2,3,7]⟩ (.seq .nop (.seq (.block none (.seq (.seq (.reg (some ⟨[],[.val 32 y4],[1,2,3,7,8]⟩) []) .nop) .nop)) .nop)))))) .nop))))) .nop)) [(y26,.ro),(y2,.ro),(y2,.ro)] A18 [] [] (p70 n)
def p38(v1:Nat)(v2:T93):T12:=if 0<=v2.2.1 then(match v2.1.2.2.2.1[(v2.2.1).toNat]? with|some v3=>aw (λ(v4:T4)=>bif v4.2.1 then some ((1,()),())else aE (λ(v5:T3)=>λv6=>bif decide (v5.2.1<(v3.2.length:Int))then if 0<=v5.2.1 then(match v3.2[(v5.2.1).toNat]? with|some v7=>aj (p68 v1 (v2.1,(false,v7),())) (λ(v8:T8)=>bif !v8.1.1 then some ((11,()),())else aj (p70 v1 (v2.1,v2.2.1,v5.2.1,())) (λ(v9:T8)=>bif v9.1.1 then some ((9,()),())else v6 ((),IntKind.wrap .i64 (v5.2.1+1),())))|none=>none)else none else some ((0,()),())) v1 ((),0,())) (λv10=>bif decide (v3.1<1)then v10 ((),true,())else bif decide (3<v3.1)then v10 ((),true,())else bif decide ((v3.2.length:Int)=0)then v10 ((),true,())else v10 ((),decide (60<=v2.2.1),()))|none=>none)else none
def F38(n:Nat):Fb 38:=fb n [⟨_,F68 n⟩,⟨_,F70 n⟩] [] [] [] Tryz.func38 Tryz.results38 Tryz.ntmps38 (.seq (.reg none [2]) (.seq (.reg none [5]) (.seq (.seq (.reg (some ⟨[],[.val 29 y4],[1,2,5]⟩) []) .nop) (.seq (.seq .nop (.block none (.loop ⟨[],[.val 6 y2],[1,2,5]⟩ .nop))) .nop)))) A10 A19 [] [] (p38 n)
def p13(v1:Nat)(v2:T92):Option ((Int×Int×Int×Unit)×Unit):=aj (p35 v1 (v2.1.1,())) (λ(v3:((Int×Int×Unit)×Unit))=>bif !(decide (v3.1.2.1=0))then some ((v3.1.2.1,1,v3.1.1,()),())else bif decide (300<(v2.1.2.1.length:Int))then some ((6,2,(v2.1.2.1.length:Int),()),())else aE (λ(v4:T3)=>λv5=>bif decide (v4.2.1<(v2.1.2.1.length:Int))then aj (p36 v1 (v2.1,v4.2.1,())) (λ(v6:T6)=>bif !(decide (v6.1.1=0))then some ((v6.1.1,2,v4.2.1,()),())else v5 ((),IntKind.wrap .i64 (v4.2.1+1),()))else bif decide (200<(v2.1.2.2.1.length:Int))then some ((6,3,(v2.1.2.2.1.length:Int),()),())else aE (λ(v7:T3)=>λv8=>bif decide (v7.2.1<(v2.1.2.2.1.length:Int))then aj (p37 v1 (v2.1,v7.2.1,())) (λ(v9:T6)=>bif !(decide (v9.1.1=0))then some ((v9.1.1,3,v7.2.1,()),())else v8 ((),IntKind.wrap .i64 (v7.2.1+1),()))else aE (λ(v10:T3)=>λv11=>bif decide (v10.2.1<(v2.1.2.2.2.1.length:Int))then aj (p38 v1 (v2.1,v10.2.1,())) (λ(v12:T6)=>bif !(decide (v12.1.1=0))then some ((v12.1.1,4,v10.2.1,()),())else v11 ((),IntKind.wrap .i64 (v10.2.1+1),()))else aw (λ(v13:T4)=>bif v13.2.1 then some ((11,5,0,()),())else some ((0,0,0,()),())) (λv14=>bif decide (v2.1.2.2.2.2<0)then v14 ((),true,())else v14 ((),decide ((v2.1.2.1.length:Int)<=v2.1.2.2.2.2),()))) v1 ((),0,())) v1 ((),0,())) v1 ((),0,()))
def F13(n:Nat):Fb 13:=fb n [⟨_,F35 n⟩,⟨_,F36 n⟩,⟨_,F37 n⟩,⟨_,F38 n⟩] [] [] [] Tryz.func13 Tryz.results13 Tryz.ntmps13 (.seq (.reg none [1]) (.seq .nop (.seq .nop (.seq (.seq .nop (.block none (.loop ⟨[],[.val 7 y2],[1]⟩ .nop))) (.seq .nop (.seq (.seq .nop (.block none (.loop ⟨[],[.val 9 y2],[1]⟩ .nop))) (.seq (.seq .nop (.block none (.loop ⟨[],[.val 11 y2],[1]⟩ .nop))) (.seq (.seq (.reg (some ⟨[],[.val 89 y4],[]⟩) []) .nop) .nop)))))))) A15 [(y2,.ro),(y2,.ro),(y2,.ro)] [] [] (p13 n)
def p30(v1:Nat)(v2:T58):T14:=bif decide (20<(v2.1.length:Int))then some ((false,()),())else aE (λ(v3:T3)=>λv4=>bif decide (v3.2.1<(v2.1.length:Int))then aw (λ(v5:T4)=>bif v5.2.1 then some ((false,()),())else v4 ((),IntKind.wrap .i64 (v3.2.1+1),())) (λv6=>if 0<=v3.2.1 then(match v2.1[(v3.2.1).toNat]? with|some v7=>bif decide (40<(v7.2.2.length:Int))then v6 ((),true,())else if 0<=v3.2.1 then(match v2.1[(v3.2.1).toNat]? with|some v8=>v6 ((),decide (100<(v8.1.length:Int)),())|none=>none)else none|none=>none)else none)else some ((true,()),())) v1 ((),0,())
def F30(n:Nat):Fb 30:=fb n [] [] [] [] Tryz.func30 Tryz.results30 Tryz.ntmps30 (.seq .nop (.seq .nop (.seq (.seq .nop (.block none (.loop ⟨[],[.val 3 y2],[0]⟩ (.seq .nop (.seq (.block none (.seq (.reg (some ⟨[],[.val 28 y4],[0,3]⟩) []) .nop)) .nop))))) .nop))) [(y22,.ro)] A18 [] [] (p30 n)
def p8(v1:Nat)(v2:T92):T14:=aw (λ(v3:T4)=>bif v3.2.1 then some ((false,()),())else aE (λ(v4:T3)=>λv5=>bif decide (v4.2.1<(v2.1.2.1.length:Int))then if 0<=v4.2.1 then(match v2.1.2.1[(v4.2.1).toNat]? with|some v6=>bif decide (100<(v6.length:Int))then some ((false,()),())else v5 ((),IntKind.wrap .i64 (v4.2.1+1),())|none=>none)else none else aE (λ(v7:T3)=>λv8=>bif decide (v7.2.1<(v2.1.2.2.1.length:Int))then aw (λ(v9:T4)=>bif v9.2.1 then some ((false,()),())else v8 ((),IntKind.wrap .i64 (v7.2.1+1),())) (λv10=>if 0<=v7.2.1 then(match v2.1.2.2.1[(v7.2.1).toNat]? with|some v11=>bif decide (20<(v11.2.2.1.length:Int))then v10 ((),true,())else if 0<=v7.2.1 then(match v2.1.2.2.1[(v7.2.1).toNat]? with|some v12=>bif decide (20<(v12.2.2.2.2.2.length:Int))then v10 ((),true,())else if 0<=v7.2.1 then(match v2.1.2.2.1[(v7.2.1).toNat]? with|some v13=>v10 ((),decide (100<(v13.2.1.length:Int)),())|none=>none)else none|none=>none)else none|none=>none)else none)else aE (λ(v14:T3)=>λv15=>bif decide (v14.2.1<(v2.1.2.2.2.1.length:Int))then if 0<=v14.2.1 then(match v2.1.2.2.2.1[(v14.2.1).toNat]? with|some v16=>bif decide (20<(v16.2.length:Int))then some ((false,()),())else v15 ((),IntKind.wrap .i64 (v14.2.1+1),())|none=>none)else none else some ((true,()),())) v1 ((),0,())) v1 ((),0,())) v1 ((),0,())) (λv17=>aj (p30 v1 (v2.1.1,())) (λ(v18:T8)=>bif !v18.1.1 then v17 ((),true,())else bif decide (20<(v2.1.2.1.length:Int))then v17 ((),true,())else bif decide (40<(v2.1.2.2.1.length:Int))then v17 ((),true,())else v17 ((),decide (20<(v2.1.2.2.2.1.length:Int)),())))
def F8(n:Nat):Fb 8:=fb n [⟨_,F30 n⟩] [] [] [] Tryz.func8 Tryz.results8 Tryz.ntmps8 (.seq (.reg none [1]) (.seq (.seq (.reg (some ⟨[],[.val 27 y4],[1]⟩) []) .nop) (.seq (.seq .nop (.block none (.loop ⟨[],[.val 3 y2],[1]⟩ .nop))) (.seq (.seq .nop (.block none (.loop ⟨[],[.val 4 y2],[1]⟩ (.seq .nop (.seq (.block none (.seq (.reg (some ⟨[],[.val 76 y4],[1,4]⟩) []) .nop)) .nop))))) (.seq (.seq .nop (.block none (.loop ⟨[],[.val 5 y2],[1]⟩ .nop))) .nop))))) A15 A18 [] [] (p8 n)
end
noncomputable section
def p80(v1:Nat)(v2:T1):T12:=aw (λ(v3:T4)=>bif v3.2.1 then some ((0,()),())else if(IntKind.wrap .u64 v2.1)<0 then none else some ((IntKind.wrap .u64 ((1:Int)*2 ^ (Nat.min (Int.toNat (IntKind.wrap .u64 v2.1)) (IntKind.bits .u64))),()),())) (λv4=>bif decide (v2.1<0)then v4 ((),true,())else v4 ((),decide (63<v2.1),()))
def F80(n:Nat):Fb 80:=fb n [] [] [] [] Tryz.func80 Tryz.results80 Tryz.ntmps80 (.seq .nop (.seq (.seq (.reg (some ⟨[],[.val 8 y4],[0]⟩) []) .nop) .nop)) A19 A16 [] [] (p80 n)
def p73(v1:Nat)(v2:(((List Bool)×(List Int))×(List (Bool×Int))×Unit)):T29:=aE (λ(v3:T9)=>λv4=>bif decide (v3.2.2.1<(v2.2.1.length:Int))then if 0<=v3.2.2.1 then(match v2.2.1[(v3.2.2.1).toNat]? with|some v5=>bif !v5.1 then aj (p80 v1 (v5.2,())) (λ(v6:T6)=>some ((eG .or .u64 v3.2.1 v6.1.1,false,()),()))else aw (λ(v7:T4)=>bif v7.2.1 then some ((v3.2.1,false,()),())else if 0<=v5.2 then(match v2.1.2[(v5.2).toNat]? with|some v8=>if 0<=v5.2 then(match v2.1.1[(v5.2).toNat]? with|some v9=>bif !v9 then some ((eG .or .u64 v3.2.1 v8,false,()),())else v4 ((),eG .or .u64 v3.2.1 v8,IntKind.wrap .i64 (v3.2.2.1+1),())|none=>none)else none|none=>none)else none) (λv10=>bif decide (v5.2<0)then v10 ((),true,())else bif decide ((v2.1.1.length:Int)<=v5.2)then v10 ((),true,())else v10 ((),decide ((v2.1.2.length:Int)<=v5.2),()))|none=>none)else none else some ((v3.2.1,true,()),())) v1 ((),0,0,())
def F73(n:Nat):Fb 73:=fb n [⟨_,F80 n⟩] [] [] [] Tryz.func73 Tryz.results73 Tryz.ntmps73 (.seq (.reg none [2]) (.seq .nop (.seq (.seq .nop (.block none (.loop ⟨[],[.val 6 y12,.val 11 y2],[2,9,10]⟩ (.seq .nop (.seq .nop (.seq (.block none (.seq (.reg none [8]) (.seq (.block none (.seq .nop (.cond none .nop (.seq (.reg (some ⟨[],[.val 24 y4],[2,6,8,9,10,11]⟩) []) .nop)))) .nop))) .nop)))))) .nop))) [(mj,.ro),(y62,.ro)] A11 [] [] (p73 n)
def p44(v1:Nat)(v2:T92):Option ((((List Bool)×(List Int))×Unit)×Unit):=if 0<=(v2.1.2.1.length:Int)/\(v2.1.2.1.length:Int)<=(v2.1.2.1.length:Int)then if(v2.1.2.1.length:Int).toNat*1<=140737488355328 then if 0<=(v2.1.2.1.length:Int)/\(v2.1.2.1.length:Int)<=(v2.1.2.1.length:Int)then if(v2.1.2.1.length:Int).toNat*8<=140737488355328 then aE (λ(v3:T82)=>λv4=>bif v3.2.1 then aE (λ(v5:((((List Bool)×(List Int))×((List Bool)×(List Int))×Unit)×Bool×Int×Unit))=>λv6=>bif decide (v5.2.2.1<(v2.1.2.2.1.length:Int))then aw (λ(v7:T82)=>v6 ((v7.1.1,v7.1.2.1,()),v7.2.1,IntKind.wrap .i64 (v5.2.2.1+1),())) (λv8=>if 0<=v5.2.2.1 then(match v2.1.2.2.1[(v5.2.2.1).toNat]? with|some v9=>aw (λ(v10:T82)=>bif v10.2.1 then v8 ((v10.1.1,v10.1.2.1,()),v5.2.1,())else aj (p73 v1 (v10.1.2.1,v9.2.2.1,())) (λ(v11:T11)=>aw (λ(v12:T82)=>aw (λ(v13:T82)=>v8 ((v13.1.1,v13.1.2.1,()),v13.2.1,())) (λv14=>bif v12.2.1 then if 0<=v9.1 then(match v12.1.2.1.2[(v9.1).toNat]? with|some v15=>if 0<=v9.1 then(match v12.1.2.1.2[(v9.1).toNat]? with|some v16=>if 0<=v9.1 then(match v12.1.2.1.2[(v9.1).toNat]? with|some v17=>aw (λ(v18:((((List Bool)×(List Int))×((List Bool)×(List Int))×Unit)×Unit))=>v14 ((v18.1.1,v18.1.2.1,()),true,())) (λv19=>if 0<=v9.1 then(match v12.1.2.1.1[(v9.1).toNat]? with|some v20=>bif v20 then if 0<=v9.1 then(match v12.1.2.1.1[(v9.1).toNat]? with|some v21=>if 0<=v9.1 then(match v12.1.2.1.1[(v9.1).toNat]? with|some v22=>v19 ((v12.1.1,(List.set v12.1.2.1.1 (v9.1).toNat true,List.set v12.1.2.1.2 (v9.1).toNat (eG .or .u64 v15 v11.1.1)),()),())|none=>none)else none|none=>none)else none else if 0<=v9.1 then(match v12.1.2.1.1[(v9.1).toNat]? with|some v23=>if 0<=v9.1 then(match v12.1.2.1.1[(v9.1).toNat]? with|some v24=>v19 ((v12.1.1,(List.set v12.1.2.1.1 (v9.1).toNat v11.1.2.1,List.set v12.1.2.1.2 (v9.1).toNat (eG .or .u64 v15 v11.1.1)),()),())|none=>none)else none|none=>none)else none|none=>none)else none)|none=>none)else none|none=>none)else none|none=>none)else none else v14 ((v12.1.1,v12.1.2.1,()),v5.2.1,()))) (λv25=>if 0<=v9.1 then(match v10.1.2.1.2[(v9.1).toNat]? with|some v26=>if 0<=v9.1 then(match v10.1.2.1.2[(v9.1).toNat]? with|some v27=>bif !(decide ((eG .or .u64 v26 v11.1.1)=v27))then v25 ((v10.1.1,v10.1.2.1,()),true,())else bif v11.1.2.1 then if 0<=v9.1 then(match v10.1.2.1.1[(v9.1).toNat]? with|some v28=>v25 ((v10.1.1,v10.1.2.1,()),!v28,())|none=>none)else none else v25 ((v10.1.1,v10.1.2.1,()),false,())|none=>none)else none|none=>none)else none))) (λv29=>bif decide (v9.1<0)then v29 ((v5.1.1,v5.1.2.1,()),true,())else v29 ((v5.1.1,v5.1.2.1,()),decide ((v2.1.2.1.length:Int)<=v9.1),()))|none=>none)else none)else v4 ((v5.1.1,v5.1.2.1,()),v5.2.1,())) v1 ((v3.1.1,v3.1.2.1,()),false,0,())else some ((v3.1.2.1,()),())) v1 (((([]:List Bool),([]:List Int)),(List.replicate (v2.1.2.1.length:Int).toNat false,List.replicate (v2.1.2.1.length:Int).toNat (0:Int)),()),true,())else none else none else none else none
def F44(n:Nat):Fb 44:=fb n [⟨_,F73 n⟩] [17] [] [] Tryz.func44 Tryz.results44 Tryz.ntmps44 (.seq (.reg none [1]) (.seq .nop (.seq (.seq .nop (.block none (.loop ⟨[(16,.box mj,.own (.pr (.own .ro) (.own .ro))),(24,.box mj,.own (.pr (.own .ro) (.own .ro)))],[.val 4 y4],[1,2,3]⟩ (.seq .nop (.block none (.seq .nop (.seq .nop (.block none (.loop ⟨[(16,.box mj,.own (.pr (.own .ro) (.own .ro))),(24,.box mj,.own (.pr (.own .ro) (.own .ro)))],[.val 4 y4,.val 22 y2],[1,2,3,20,21]⟩ (.seq .nop (.seq .nop (.seq (.block (some ⟨[(16,.box mj,.own (.pr (.own .ro) (.own .ro))),(24,.box mj,.own (.pr (.own .ro) (.own .ro)))],[.val 4 y4],[1,2,3,20,21,22]⟩) (.seq (.reg none [6]) (.seq (.seq (.reg (some ⟨[(16,.box mj,.own (.pr (.own .ro) (.own .ro))),(24,.box mj,.own (.pr (.own .ro) (.own .ro)))],[.val 36 y4],[1,2,3,4,6,20,21,22]⟩) []) .nop) (.seq .nop (.seq (.reg (some ⟨[(16,.box mj,.own (.pr (.own .ro) (.own .ro))),(24,.box mj,.own (.pr (.own .ro) (.own .ro)))],[.val 70 y4],[1,2,3,4,6,7,8,20,21,22]⟩) []) (.cond (some ⟨[(16,.box mj,.own (.pr (.own .ro) (.own .ro))),(24,.box mj,.own (.pr (.own .ro) (.own .ro)))],[.val 4 y4],[1,2,3,20,21,22]⟩) (.seq .nop (.seq (.reg (some ⟨[(16,.box mj,.own (.pr (.own .ro) (.own .ro))),(24,.box mj,.own (.pr (.own .ro) (.own .ro)))],[],[1,2,3,20,21,22]⟩) []) .nop)) .nop)))))) .nop)))))))))))) (.seq (.rgf none [3] [2]) .nop)))) A15 [(mj,.ro)] [] [] (p44 n)
def p46(v1:Nat)(v2:T22):T31:=if(0:Int)<=(0:Int)/\(0:Int)<=(IntKind.wrap .i64 ((12:Int)*(v2.1.length:Int)))then if(IntKind.wrap .i64 ((12:Int)*(v2.1.length:Int))).toNat*1<=140737488355328 then aE (λ(v3:T17)=>λv4=>bif decide (v3.2.2.1<(v2.1.length:Int))then if 0<=v3.2.2.1 then(match v2.1[(v3.2.2.1).toNat]? with|some v5=>if(8:Int)<0 then none else if(8:Int)<0 then none else if(List.length v3.2.1+List.length ([(IntKind.wrap .u8 (Int.fdiv v5.1 (2 ^ (Nat.min (Int.toNat (8:Int)) (IntKind.bits .i64))))),(IntKind.wrap .u8 v5.1),(IntKind.wrap .u8 (Int.fdiv v5.2.1 (2 ^ (Nat.min (Int.toNat (8:Int)) (IntKind.bits .i64))))),(IntKind.wrap .u8 v5.2.1)]:List Int))*1<=140737488355328 then if List.length v3.2.1+List.length ([(IntKind.wrap .u8 (Int.fdiv v5.1 (2 ^ (Nat.min (Int.toNat (8:Int)) (IntKind.bits .i64))))),(IntKind.wrap .u8 v5.1),(IntKind.wrap .u8 (Int.fdiv v5.2.1 (2 ^ (Nat.min (Int.toNat (8:Int)) (IntKind.bits .i64))))),(IntKind.wrap .u8 v5.2.1)]:List Int)<=9223372036854775807 then aE (λ(v6:T17)=>λv7=>bif decide (v6.2.2.1<8)then if(IntKind.wrap .u64 (IntKind.wrap .i64 ((8:Int)*v6.2.2.1)))<0 then none else if(List.length v6.2.1+List.length ([(IntKind.wrap .u8 (Int.fdiv v5.2.2 (2 ^ (Nat.min (Int.toNat (IntKind.wrap .u64 (IntKind.wrap .i64 ((8:Int)*v6.2.2.1)))) (IntKind.bits .u64)))))]:List Int))*1<=140737488355328 then if List.length v6.2.1+List.length ([(IntKind.wrap .u8 (Int.fdiv v5.2.2 (2 ^ (Nat.min (Int.toNat (IntKind.wrap .u64 (IntKind.wrap .i64 ((8:Int)*v6.2.2.1)))) (IntKind.bits .u64)))))]:List Int)<=9223372036854775807 then v7 ((),v6.2.1++([(IntKind.wrap .u8 (Int.fdiv v5.2.2 (2 ^ (Nat.min (Int.toNat (IntKind.wrap .u64 (IntKind.wrap .i64 ((8:Int)*v6.2.2.1)))) (IntKind.bits .u64)))))]:List Int),IntKind.wrap .i64 (v6.2.2.1+1),())else none else none else v4 ((),v6.2.1,IntKind.wrap .i64 (v3.2.2.1+1),())) v1 ((),v3.2.1++([(IntKind.wrap .u8 (Int.fdiv v5.1 (2 ^ (Nat.min (Int.toNat (8:Int)) (IntKind.bits .i64))))),(IntKind.wrap .u8 v5.1),(IntKind.wrap .u8 (Int.fdiv v5.2.1 (2 ^ (Nat.min (Int.toNat (8:Int)) (IntKind.bits .i64))))),(IntKind.wrap .u8 v5.2.1)]:List Int),0,())else none else none|none=>none)else none else some ((v3.2.1,()),())) v1 ((),List.replicate (0:Int).toNat (0:Int),0,())else none else none
def F46(n:Nat):Fb 46:=fb n [] [] [] [] Tryz.func46 Tryz.results46 Tryz.ntmps46 (.seq .nop (.seq .nop (.seq (.seq .nop (.block none (.loop ⟨[],[.hdr 3 31 vV (.own .ro),.val 13 y2],[11,12]⟩ (.seq .nop (.seq .nop (.seq (.block none (.seq (.reg none [5]) (.seq .nop (.seq .nop (.block none (.loop ⟨[],[.hdr 3 31 vV (.own .ro),.val 34 y2],[5,11,12,13]⟩ .nop)))))) .nop)))))) .nop))) A17 A20 [] [] (p46 n)
def p45(v1:Nat)(v2:((List (Int×Int×Int))×(List ((List Int)×Int))×((List (List (Int×Int×Int)))×(List (List ((Bool×Int)×Int))))×Unit)):Option ((Int×Unit)×(List ((List Int)×Int))×((List (List (Int×Int×Int)))×(List (List ((Bool×Int)×Int))))×Unit):=aj (p46 v1 (v2.1,())) (λ(v3:T13)=>aw (λ(v4:(((List ((List Int)×Int))×((List (List (Int×Int×Int)))×(List (List ((Bool×Int)×Int))))×Unit)×Int×Unit))=>some ((v4.2.1,()),v4.1.1,v4.1.2.1,())) (λv5=>bif !(fk (λ(v6:T0)=>λ(v7:T0)=>decide (v6=v7)) v3.1.1 v2.2.1)then if(List.length v2.2.2.1.1+List.length ([v2.1]:List (List (Int×Int×Int))))*24<=140737488355328 then if List.length v2.2.2.1.1+List.length ([v2.1]:List (List (Int×Int×Int)))<=9223372036854775807 then v5 ((ff (λ(v8:T0)=>λ(v9:T0)=>decide (v8=v9)) v3.1.1 (v2.2.2.1.1.length:Int) v2.2.1,(v2.2.2.1.1++([v2.1]:List (List (Int×Int×Int))),v2.2.2.1.2),()),(v2.2.2.1.1.length:Int),())else none else none else v5 ((v2.2.1,v2.2.2.1,()),cW (λ(v10:T0)=>λ(v11:T0)=>decide (v10=v11)) v3.1.1 v2.2.1,())))
def F45(n:Nat):Fb 45:=fb n [⟨_,F46 n⟩] [] [] [] Tryz.func45 Tryz.results45 Tryz.ntmps45 (.seq .nop (.seq .nop (.seq .nop (.seq (.seq .nop (.cond (some ⟨[(14,.box s8,.own (.own .ro)),(22,.box y52,.own (.pr (.own .ro) (.own .ro)))],[.val 6 y2],[1,2]⟩) .nop .nop)) .nop)))) [(y58,.ro),(.box s8,.own (.own .ro)),(.box y52,.own (.pr (.own .ro) (.own .ro)))] A19 [1,2] [(.box s8,.own (.own .ro)),(.box y52,.own (.pr (.own .ro) (.own .ro)))] (p45 n)
def IX(v1:Nat)(v2:T1):T14:=some ((!(decide (v2.1=v2.1)),()),())
def F138(n:Nat):Fb 138:=fb n [] [] [] [] Tryz.func138 Tryz.results138 Tryz.ntmps138 (.nop) A19 A18 [] [] (IX n)
def IY(v1:Nat)(v2:T2):T12:=aj (IX v1 (v2.1,())) (λ(v3:T8)=>aj (IX v1 (v2.2.1,())) (λ(v4:T8)=>bif v3.1.1 then bif v4.1.1 then some ((0,()),())else some ((-1,()),())else bif v4.1.1 then some ((1,()),())else bif decide (v2.1<v2.2.1)then some ((-1,()),())else bif decide (v2.2.1<v2.1)then some ((1,()),())else some ((0,()),())))
def F115(n:Nat):Fb 115:=fb n [⟨_,F138 n⟩] [] [] [] Tryz.func115 Tryz.results115 Tryz.ntmps115 (.nop) A12 A19 [] [] (IY n)
def IZ(v1:Nat)(v2:((Int×Int×Int)×(Int×Int×Int)×Unit)):T12:=bif !(decide (v2.1.1=v2.2.1.1))then aj (IY v1 (v2.1.1,v2.2.1.1,())) (λ(v3:T6)=>some ((v3.1.1,()),()))else aj (IY v1 (v2.1.2.1,v2.2.1.2.1,())) (λ(v4:T6)=>some ((v4.1.1,()),()))
def F101(n:Nat):Fb 101:=fb n [⟨_,F115 n⟩] [] [] [] Tryz.func101 Tryz.results101 Tryz.ntmps101 (.seq (.reg none [2,3]) .nop) [(y79,.ro),(y79,.ro)] A19 [] [] (IZ n)
def MK(v1:Nat)(v2:((List (Int×Int×Int))×(Int×Int×Int)×Unit×Unit)):T29:=aE (λ(v3:T9)=>λv4=>bif decide (v3.2.1<v3.2.2.1)then if(1:Int)<0 then none else if 0<=(IntKind.wrap .i64 (Int.fdiv (IntKind.wrap .u64 (IntKind.wrap .i64 (v3.2.1+v3.2.2.1))) (2 ^ (Nat.min (Int.toNat (1:Int)) (IntKind.bits .u64)))))then(match v2.1[(IntKind.wrap .i64 (Int.fdiv (IntKind.wrap .u64 (IntKind.wrap .i64 (v3.2.1+v3.2.2.1))) (2 ^ (Nat.min (Int.toNat (1:Int)) (IntKind.bits .u64))))).toNat]? with|some v5=>aj (IZ v1 (v5,v2.2.1,())) (λ(v6:T6)=>aw (λ(v7:T9)=>v4 ((),v7.2.1,v7.2.2.1,())) (λv8=>bif decide (v6.1.1<0)then v8 ((),IntKind.wrap .i64 ((IntKind.wrap .i64 (Int.fdiv (IntKind.wrap .u64 (IntKind.wrap .i64 (v3.2.1+v3.2.2.1))) (2 ^ (Nat.min (Int.toNat (1:Int)) (IntKind.bits .u64)))))+1),v3.2.2.1,())else v8 ((),v3.2.1,IntKind.wrap .i64 (Int.fdiv (IntKind.wrap .u64 (IntKind.wrap .i64 (v3.2.1+v3.2.2.1))) (2 ^ (Nat.min (Int.toNat (1:Int)) (IntKind.bits .u64)))),())))|none=>none)else none else aw (λ(v9:(Unit×Int×Bool×Unit))=>some ((v9.2.1,v9.2.2.1,()),())) (λv10=>bif decide (v3.2.1<(v2.1.length:Int))then if 0<=v3.2.1 then(match v2.1[(v3.2.1).toNat]? with|some v11=>aj (IZ v1 (v11,v2.2.1,())) (λ(v12:T6)=>v10 ((),v3.2.1,decide (v12.1.1=0),()))|none=>none)else none else v10 ((),v3.2.1,false,()))) v1 ((),0,(v2.1.length:Int),())
def F100(n:Nat):Fb 100:=fb n [⟨_,F101 n⟩] [] [] [] Tryz.func100 Tryz.results100 Tryz.ntmps100 (.seq (.reg none [4]) (.seq .nop (.seq .nop (.seq (.block none (.loop ⟨[],[.val 9 y2,.val 10 y2],[0,2,4,8]⟩ (.seq .nop (.block none (.seq .nop (.seq .nop (.cond (some ⟨[],[.val 9 y2,.val 10 y2],[0,2,4,8]⟩) .nop .nop))))))) (.seq (.reg (some ⟨[],[.val 6 y2,.val 7 y4],[]⟩) []) .nop))))) [(y58,.ro),(y79,.ro),(.fn 101,.ro)] [(y2,.ro),(y4,.ro)] [] [] (MK n)
def p76(v1:Nat)(v2:((((List ((List Int)×Int×(List Int)))×(List (List Int))×(List (Int×(List Int)×(List (Bool×Int))×Bool×Int×(List Int)))×(List (Int×(List Int)))×Int)×((List Bool)×(List Int))×(List Bool)×(List Int)×(List (Int×Int×Int)))×Int×Int×Unit)):Option (Unit×(((List ((List Int)×Int×(List Int)))×(List (List Int))×(List (Int×(List Int)×(List (Bool×Int))×Bool×Int×(List Int)))×(List (Int×(List Int)))×Int)×((List Bool)×(List Int))×(List Bool)×(List Int)×(List (Int×Int×Int)))×Unit):=aE (λ(v3:(((((List ((List Int)×Int×(List Int)))×(List (List Int))×(List (Int×(List Int)×(List (Bool×Int))×Bool×Int×(List Int)))×(List (Int×(List Int)))×Int)×((List Bool)×(List Int))×(List Bool)×(List Int)×(List (Int×Int×Int)))×Unit)×Int×Unit))=>λv4=>bif decide (v3.2.1<(v2.1.1.2.2.1.length:Int))then aw (λ(v5:PF)=>v4 ((v5.1.1,()),IntKind.wrap .i64 (v3.2.1+1),())) (λv6=>if 0<=v3.2.1 then(match v2.1.1.2.2.1[(v3.2.1).toNat]? with|some v7=>aw (λ(v8:RT)=>bif v8.2.1 then v6 ((v8.1.1,()),())else if 0<=v3.2.1 then(match v8.1.1.2.2.1[(v3.2.1).toNat]? with|some v9=>if 0<=v3.2.1 then(match v8.1.1.2.2.1[(v3.2.1).toNat]? with|some v10=>if 0<=v3.2.1 then(match v8.1.1.2.2.2.1[(v3.2.1).toNat]? with|some v11=>if 0<=v3.2.1 then(match v8.1.1.2.2.2.1[(v3.2.1).toNat]? with|some v12=>if 0<=v3.2.1 then(match v8.1.1.2.2.2.1[(v3.2.1).toNat]? with|some v13=>if 0<=v3.2.1 then(match(List.set v8.1.1.2.2.2.1 (v3.2.1).toNat (eG .or .u64 v11 v2.2.2.1))[(v3.2.1).toNat]? with|some v14=>if(List.length v8.1.1.2.2.2.2+List.length ([(v3.2.1,0,v14)]:List (Int×Int×Int)))*24<=140737488355328 then if List.length v8.1.1.2.2.2.2+List.length ([(v3.2.1,0,v14)]:List (Int×Int×Int))<=9223372036854775807 then v6 (((v8.1.1.1,v8.1.1.2.1,List.set v8.1.1.2.2.1 (v3.2.1).toNat true,List.set v8.1.1.2.2.2.1 (v3.2.1).toNat (eG .or .u64 v11 v2.2.2.1),v8.1.1.2.2.2.2++([(v3.2.1,0,v14)]:List (Int×Int×Int))),()),())else none else none|none=>none)else none|none=>none)else none|none=>none)else none|none=>none)else none|none=>none)else none|none=>none)else none) (λv15=>bif !(decide (v7.1=v2.2.1))then v15 ((v3.1.1,()),true,())else if 0<=v3.2.1 then(match v3.1.1.2.2.1[(v3.2.1).toNat]? with|some v16=>bif v16 then if 0<=v3.2.1 then(match v3.1.1.2.2.2.1[(v3.2.1).toNat]? with|some v17=>if 0<=v3.2.1 then(match v3.1.1.2.2.2.1[(v3.2.1).toNat]? with|some v18=>v15 ((v3.1.1,()),decide ((eG .or .u64 v17 v2.2.2.1)=v18),())|none=>none)else none|none=>none)else none else v15 ((v3.1.1,()),false,())|none=>none)else none)|none=>none)else none)else some ((),v3.1.1,())) v1 ((v2.1,()),0,())
def F76(n:Nat):Fb 76:=fb n [] [] [] [] Tryz.func76 Tryz.results76 Tryz.ntmps76 (.seq .nop (.block none (.loop ⟨[(6,.box x7,.own (.pr .ro (.pr .ro (.pr (.own .ro) (.pr (.own .ro) (.own .ro))))))],[.val 14 y2],[0,1,2,12,13]⟩ (.seq .nop (.seq .nop (.seq (.block (some ⟨[(6,.box x7,.own (.pr .ro (.pr .ro (.pr (.own .ro) (.pr (.own .ro) (.own .ro))))))],[],[0,1,2,12,13,14]⟩) (.seq (.reg none [7]) (.seq (.seq (.reg (some ⟨[(6,.box x7,.own (.pr .ro (.pr .ro (.pr (.own .ro) (.pr (.own .ro) (.own .ro))))))],[.val 50 y4],[0,1,2,6,12,13,14]⟩) []) .nop) .nop))) .nop)))))) [(.box x7,.own (.pr .ro (.pr .ro (.pr (.own .ro) (.pr (.own .ro) (.own .ro)))))),(y2,.ro),(y12,.ro)] [] [0] [(.box x7,.own (.pr .ro (.pr .ro (.pr (.own .ro) (.pr (.own .ro) (.own .ro))))))] (p76 n)
def p77(v1:Nat)(v2:(((List Bool)×(List Int))×(List (Bool×Int))×Int×Unit)):T12:=aj (p73 v1 (v2.1,v2.2.1,())) (λ(v3:T11)=>bif v3.1.2.1 then some ((eG .or .u64 v3.1.1 v2.2.2.1,()),())else some ((v3.1.1,()),()))
def F77(n:Nat):Fb 77:=fb n [⟨_,F73 n⟩] [] [] [] Tryz.func77 Tryz.results77 Tryz.ntmps77 (.seq (.reg none [3]) .nop) [(mj,.ro),(y62,.ro),(y12,.ro)] A16 [] [] (p77 n)
def p87(v1:Nat)(v2:T93):T62:=aw (λ(v3:T4)=>bif v3.2.1 then if 0<=v2.2.1 then(match v2.1.2.2.1[(v2.2.1).toNat]? with|some v4=>some ((v4.2.2.1,true,()),())|none=>none)else none else bif decide (v2.2.1=(v2.1.2.2.1.length:Int))then some ((([(true,v2.1.2.2.2.2)]:List (Bool×Int)),true,()),())else some ((([]:List (Bool×Int)),false,()),())) (λv5=>bif decide (0<=v2.2.1)then v5 ((),decide (v2.2.1<(v2.1.2.2.1.length:Int)),())else v5 ((),false,()))
def F87(n:Nat):Fb 87:=fb n [] [] [] [] Tryz.func87 Tryz.results87 Tryz.ntmps87 (.seq (.reg none [2]) (.seq (.block none (.seq (.reg (some ⟨[],[.val 6 y4],[1,2]⟩) []) .nop)) .nop)) A10 [(y62,.ro),(y4,.ro)] [] [] (p87 n)
def p78(v1:Nat)(v2:T95):T52:=aj (p87 v1 (v2.1,v2.2.1.1,())) (λ(v3:T50)=>aw (λ(v4:T4)=>bif v4.2.1 then some ((([]:List (Bool×Int)),()),())else if 0<=(IntKind.wrap .i64 (v2.2.1.2.1+1))/\(IntKind.wrap .i64 (v2.2.1.2.1+1))<=(v3.1.1.length:Int)/\(v3.1.1.length:Int)<=(v3.1.1.length:Int)then some ((cz v3.1.1 (IntKind.wrap .i64 (v2.2.1.2.1+1)) (v3.1.1.length:Int),()),())else none) (λv5=>bif decide (v2.2.1.2.1<0)then v5 ((),true,())else v5 ((),decide ((IntKind.wrap .i64 ((v3.1.1.length:Int)-1))<=v2.2.1.2.1),())))
def F78(n:Nat):Fb 78:=fb n [⟨_,F87 n⟩] [11] [] [] Tryz.func78 Tryz.results78 Tryz.ntmps78 (.seq (.reg none [2,3]) (.seq .nop (.seq (.seq (.reg (some ⟨[],[.val 24 y4],[3,5]⟩) []) .nop) .nop))) A8 [(y62,.ro)] [] [] (p78 n)
def p48(v1:Nat)(v2:T92):T61:=aj (p80 v1 (63,())) (λ(v3:T6)=>some ((([((v2.1.2.2.1.length:Int),0,v3.1.1)]:List (Int×Int×Int)),()),()))
def F48(n:Nat):Fb 48:=fb n [⟨_,F80 n⟩] [] [] [] Tryz.func48 Tryz.results48 Tryz.ntmps48 (.seq (.reg none [1]) .nop) A15 A17 [] [] (p48 n)
def p74(v1:Nat)(v2:T22):T61:=LH (List.isEmpty v2.1) (λ(v3:Bool)=>bif v3 then some ((([]:List (Int×Int×Int)),()),())else if(List.length ([]:List (Int×Int×Int))+List.length v2.1)*24<=140737488355328 then if List.length ([]:List (Int×Int×Int))+List.length v2.1<=9223372036854775807 then some ((([]:List (Int×Int×Int))++v2.1,()),())else none else none)
def F74(n:Nat):Fb 74:=fb n [] [] [] [] Tryz.func74 Tryz.results74 Tryz.ntmps74 (.nop) A17 [(y58,.own .ro)] [] [] (p74 n)
def ML(v1:Nat)(v2:T48):T12:=aE (λ(v3:T3)=>λv4=>bif decide (v3.2.1<(v2.1.length:Int))then if 0<=v3.2.1 then(match v2.1[(v3.2.1).toNat]? with|some v5=>bif bif v2.2.1.1 == v5.1 then decide (v2.2.1.2=v5.2)else false then some ((v3.2.1,()),())else v4 ((),IntKind.wrap .i64 (v3.2.1+1),())|none=>none)else none else some ((-1,()),())) v1 ((),0,())
def F103(n:Nat):Fb 103:=fb n [] [] [] [⟨_,GC⟩] Tryz.func103 Tryz.results103 Tryz.ntmps103 (.seq (.reg none [3]) (.seq (.seq .nop (.block none (.loop ⟨[],[.val 8 y2],[0,3,7]⟩ .nop))) .nop)) [(y62,.ro),(y63,.ro)] A19 [] [] (ML n)
def p81(v1:Nat)(v2:T48):T14:=aj (ML v1 (v2.1,v2.2.1,())) (λ(v3:T6)=>some ((decide (0<=v3.1.1),()),()))
def F81(n:Nat):Fb 81:=fb n [⟨_,F103 n⟩] [] [] [] Tryz.func81 Tryz.results81 Tryz.ntmps81 (.seq (.reg none [3]) .nop) [(y62,.ro),(y63,.ro)] A18 [] [] (p81 n)
end
end Go.Proofs.YthalkfdkbalpmaaGreat.Rf
namespace Go.Proofs.YthalkfdkbalpmaaGreat.Rf
open Go Go.RowKit
noncomputable section
theorem ml{P:Program}(w:World)(dT sT ty elem:TypeId)(z b o PP U0:Nat)(a:Addr)(PQ U3:Nat)(cs:List Value)
 (hu:P.underlying dT=some (.slice elem)) (hs:(P.info? elem).map (·.size)=some z) (hn:cs.length=Nat.min PQ PP*z)
 (OS:∀ j v,cs[j]?=some v->w.cell? (a.add j)=some v) (hc:∀ j,j<cs.length->(w.cell? ⟨b,o+j,none⟩).isSome=true) (hf:∀ j,j<cs.length->w.frozen? ⟨b,o+j,none⟩=false) (h1:∀ v∈cs,v.oneCell'=true):
 (Builtin.copy_ #[dT,sT] ty #[.slice (some ⟨b,o,none⟩) PP U0,.slice (some a) PQ U3]).run P w=.ok (goInt (Nat.min PQ PP)) (w.setCells b o cs):=by
 have hl:=run_loadCells_list (P:=P) w a cs OS
 have hst:=run_storeCells_cells (P:=P) b o cs 0 w (by simpa using hc) (by simpa using hf) h1
 cases hq:P.info? elem with
 |none=>simp[hq]at hs
 |some i=>
  have hi:i.size=z:=by simpa [hq]using hs
  rw[hn]at hl
  simp[Builtin.copy_,run_underlying hu,Builtin.lenOf,Builtin.firstCells,sizeOf,typeInfo,hq,hi,hl,hst]
theorem gB{P:Program}(w:World){ops:Array Oper}{rest:List Oper}{o:Oper}{a:Act}{Q:Exit->Act->World->Prop}
 (hg:o.guard=none) (s x:Operand) (t tx:TypeId) (hop:o.op=Op.call {callee:=Callee.builtin Builtin.append,args:=#[s,x],argTypes:=#[t,tx]})
 (v1 v2:Value) (hs:a.eval s=v1) (hx:a.eval x=v2) (z:Value) (w':World) (bY:(Builtin.append_ #[t,tx] o.type #[v1,v2]).run P w=.ok z w')
 (hK:wpList P ops Q rest (a.put o.dst z) w'):wpList P ops Q (o::rest) a w:=by
 refine wpList_plain hg λK hK'=>?_
 unfold Oper.wp
 simp[execOp,hop,Go.resolve,invoke,builtin,hs,hx,bY,Result.andThen]
 exact hK' _ _ hK
set_option maxRecDepth 100000 in
theorem MM(ao:Option Addr)(n cap:Nat)(ad:Addr)(vc:Nat)(w:World)(hnc:n<=cap)(hn:(cap:Int)<=9223372036854775807)(hvc:1<=vc)(v:Value)(w1:World)
 (R4:(Builtin.append_ #[60,60] 60 #[.slice ao n cap,.slice (some ad) 1 vc]).run Tryz.prog w=.ok v w1):
 Calls Tryz.prog 102 #[.slice ao n cap,.int .i64 n,.slice (some ad) 1 vc] w λe w'=>e=.returned v/\w'=w1:=by
 have H:=Lib.hid R4
 clear R4
 go_enter Tryz.func102,Tryz.ntmps102
 cases ao with
 |none=>
  go_wp2_with (at_builtin;refine gB _ rfl _ _ 60 60 rfl _ _ rfl rfl _ _ H.out ?_)
  go_ret
  exact⟨rfl,rfl⟩
 |some a=>
  obtain⟨ab,aof,asp⟩:=a
  go_wp2_with (at_builtin;refine gB _ rfl _ _ 60 60 rfl _ _ rfl rfl _ _ H.out ?_)
  all_goals (go_ret;exact⟨rfl,rfl⟩)
theorem nF{P:Program}{ops:Array Oper}{o:Oper}{a:Act}{w:World}{K:Act->World->Prop}{Q:Exit->Act->World->Prop}{E:Prop}
 (hg:o.guard=none) (d x:Operand) (dT sT:TypeId) (hop:o.op=Op.call {callee:=Callee.builtin Builtin.copy,args:=#[d,x],argTypes:=#[dT,sT]})
 (v u:Value) (hd:a.eval d=v) (hx:a.eval x=u) {v':Value} {w':World} (hr:(Builtin.copy_ #[dT,sT] o.type #[v,u]).run P w=.ok v' w') (hK:K (a.put o.dst v') w'):
 if Region.wanted o (yielded ops a.tmps)=true then Oper.wp P o a w K Q else E:=by
 have hw:Region.wanted o (yielded ops a.tmps)=true:=by simp[Region.wanted,hg]
 rw[if_pos hw]
 unfold Oper.wp
 simp[execOp,hop,Go.resolve,invoke,builtin,hd,hx,hr,Result.andThen]
 exact hK
theorem iK{P:Program}(w:World){ops:Array Oper}{rest:List Oper}{o:Oper}{a:Act}{Q:Exit->Act->World->Prop}(hgd:o.guard=none)(d s:Operand)(t t':TypeId)
 (ho:o.op=.call {callee:=.builtin .copy,args:=#[d,s],argTypes:=#[t,t']}) (v u:Value) (hd:a.eval d=v) (hs:a.eval s=u) {v':Value} {w':World}
 (hr:(Builtin.copy_ #[t,t'] o.type #[v,u]).run P w=.ok v' w') (h:wpList P ops Q rest (a.put o.dst v') w'):wpList P ops Q (o::rest) a w:=
 wpList_plain hgd λ_ hK=>by
  unfold Oper.wp
  simp[execOp,ho,Go.resolve,invoke,builtin,hd,hs,hr,Result.andThen]
  exact hK _ _ h
theorem sK(b:Nat)(vs:List Value)(o:Nat)(w:World)(h:∀ j,j<vs.length->(w.cell? ⟨b,o+j,none⟩).isSome=true)(k:Nat)(hk:(w.cell? ⟨b,k,none⟩).isSome=true):((w.setCells b o vs).cell? ⟨b,k,none⟩).isSome=true:=by
 by_cases hin:o<=k/\k<o+vs.length
 ·have:=World.cell?_setCells_in b vs o w h (k-o) (by omega)
  rw[show o+(k-o)=k by omega]at this
  rw[this];rfl
 ·rw[qI b vs o w ⟨b,k,none⟩ (λ_ _=>by show k<o\/o+vs.length<=k;omega)]
  exact hk
set_option maxHeartbeats 4000000 in
set_option maxRecDepth 100000 in
theorem GD(b off n c i vb kH vc:Nat)(cs vs:List Value)(w:World)(hi:i<n)(o4:n+1<=c)(Q8:(c:Int)<=9223372036854775807)(hvb:vb≠b)
 (hcl:cs.length=n*3) (hvl:vs.length=3)
 (hcs:∀ j v,cs[j]?=some v->w.cell? ⟨b,off+j,none⟩=some v) (hsp:∀ j,j<(n+1)*3->(w.cell? ⟨b,off+j,none⟩).isSome=true) (hfz:∀ j,j<(n+1)*3->w.frozen? ⟨b,off+j,none⟩=false)
 (hvs:∀ j v,vs[j]?=some v->w.cell? ⟨vb,kH+j,none⟩=some v) (h1c:∀ v∈cs,v.oneCell'=true) (h1v:∀ v∈vs,v.oneCell'=true)
 (tA tB:TypeId) (kA kB:Nat) (hsa:w.shape? vb=some (tA,kA)) (hsb:w.shape? b=some (tB,kB)) (hkB:kB≠0) (hfa:w.frozen? ⟨vb,kH,none⟩=false) (hfe:w.frozen? ⟨vb,kA,none⟩=false)
 (hsz:(Tryz.prog.info? 117).map (·.size)=some 3):
 Calls Tryz.prog 102 #[.slice (some ⟨b,off,none⟩) n c,.int .i64 i,.slice (some ⟨vb,kH,none⟩) 1 vc] w λe w'=>
  e=.returned (.slice (some ⟨b,off,none⟩) (n+1) c)/\w'=(w.drew.setCells b (off+(i+1)*3) (cs.drop (i*3))).setCells b (off+i*3) vs:=by
 have mixed:Tryz.prog.follows .mixedOrders=true:=by kernel_rfl
 have hz2:¬((i:Int)=(n:Int)):=by omega
 have U4:∀ w,(Go.sizeOf 117).run Tryz.prog w=.ok 3 w:=λw=>by
  cases hq:Tryz.prog.info? 117 with
  |none=>simp[hq]at hsz
  |some q=>
   have:q.size=3:=by simpa [hq]using hsz
   simp[Go.sizeOf,typeInfo,hq,this]
 have hov:∀ lb cb,(callFunc 116 #[.slice (some ⟨vb,kH,none⟩) 1 vc,.slice (some ⟨b,off+(i+1)*3,none⟩) lb cb]).run Tryz.prog w=.ok (.value (.bool false)) w:=λlb cb=>by
  rw[run_callFunc_extern Tryz.func116 (by kernel_rfl) (by kernel_rfl) (by kernel_rfl) (e:=Extern.SlicesOverlaps.overlaps #[60,60] #[4]) (by kernel_rfl),
   Lib.run_overlaps_apart w 60 4 117 Tryz.underlying60 3 U4 ⟨vb,kH,none⟩ ⟨b,off+(i+1)*3,none⟩ 1 vc lb cb hvb tA tB kA kB hsa hsb hkB hfa hfe]
  rfl
 have hdl:(cs.drop (i*3)).length=(n-i)*3:=by rw[bB,hcl,oq]
 have hw1:IntKind.i64.wrap ((i:Int)+1)=(i:Int)+1:=by rw[IntKind.wrap_i64];omega
 have hb1:(0:Int)<=(i:Int)+1:=by omega
 have hin:i<=n:=by omega
 have htn:((i:Int)+1).toNat=i+1:=by omega
 have hb2:¬(c=i+1):=by omega
 have hb3:(i:Int)<=(n:Int)+1:=by omega
 have hb4:¬(c=i):=by omega
 have R5:∀ ty dc sc,(Builtin.copy_ #[60,60] ty #[.slice (some ⟨b,off+(i+1)*3,none⟩) (n-i) dc,.slice (some ⟨b,off+i*3,none⟩) (n+1-i) sc]).run Tryz.prog w.drew=.ok (goInt (Nat.min (n+1-i) (n-i))) (w.drew.setCells b (off+(i+1)*3) (cs.drop (i*3))):=λty dc sc=>
  ml w.drew _ _ ty 117 3 b (off+(i+1)*3) (n-i) dc ⟨b,off+i*3,none⟩ (n+1-i) sc (cs.drop (i*3)) Tryz.underlying60 hsz (by rw[hdl];congr 1;simp only[Nat.min_def];split <;> omega)
   (λj v hj=>by rw[cU,cF];exact hcs (i*3+j) v (by rwa [fQ]at hj))
   (λj hj=>by rw[cF];exact hsp _ (by omega)) (λj hj=>by rw[cF];exact hfz _ (by omega)) (λv hv=>h1c v (jE hv))
 obtain⟨W1,hW1⟩:∃ W1,W1=w.drew.setCells b (off+(i+1)*3) (cs.drop (i*3)):=⟨_,rfl⟩
 have U5:∀ k,k<(n+1)*3->(W1.cell? ⟨b,off+k,none⟩).isSome=true:=λk hk=>by
  rw[hW1]
  exact sK b _ _ _ (λj hj=>by rw[cF];exact hsp _ (by omega)) _ (hsp k hk)
 have U6:∀ (W:World),(∀ x,W.cell? x=W1.cell? x)->(∀ x,W.frozen? x=W1.frozen? x)->∀ ty dc,(Builtin.copy_ #[60,60] ty #[.slice (some ⟨b,off+i*3,none⟩) (n+1-i) dc,.slice (some ⟨vb,kH,none⟩) 1 vc]).run Tryz.prog W=.ok (goInt (Nat.min 1 (n+1-i))) (W.setCells b (off+i*3) vs):=λW hWc hWf ty dc=>
  ml W _ _ ty 117 3 b (off+i*3) (n+1-i) dc ⟨vb,kH,none⟩ 1 vc vs Tryz.underlying60 hsz (by rw[hvl];have:Nat.min 1 (n+1-i)=1:=dr (by omega);rw[this])
   (λj v hj=>by
    rw[cU,hWc,hW1,qI b _ _ _ _ (λh _=>absurd h hvb)]
    exact hvs j v hj)
   (λj hj=>by rw[hWc,cF];exact U5 _ (by omega)) (λj hj=>by rw[hWf,hW1,World.frozen?_setCells,cF];exact hfz _ (by omega)) h1v
 rw[<-hW1]at R5
 go_enter Tryz.func102,Tryz.ntmps102
 go_wp2_with (simp only[hov])
 go_region_law_o (refine nF rfl _ _ 60 60 rfl _ _ (by simp[Act.eval,Act.put]) (by simp[Act.eval,Act.put]) (R5 _ _ _) ?_)
 go_wp2_with (at_builtin;refine iK _ rfl _ _ 60 60 rfl _ _ rfl rfl (U6 _ (λ_=>rfl) (λ_=>rfl) _ _) ?_)
 go_ret
 first|exact⟨rfl,rfl⟩|exact⟨rfl,by rw[hW1]⟩
set_option maxHeartbeats 4000000 in
set_option maxRecDepth 100000 in
theorem I0(b off n c i vb kH vc:Nat)(cs vs:List Value)(w:World)(hi:i<n)(hnc:n<=c)(o4:c<n+1)(yb:(n+1)*24<=140737488355328)
 (hcl:cs.length=n*3) (hvl:vs.length=3)
 (hcs:∀ j v,cs[j]?=some v->w.cell? ⟨b,off+j,none⟩=some v)
 (hvs:∀ j v,vs[j]?=some v->w.cell? ⟨vb,kH+j,none⟩=some v) (h1c:∀ v∈cs,v.oneCell'=true) (h1v:∀ v∈vs,v.oneCell'=true)
 (hbw:b<w.heap.size) (hvw:vb<w.heap.size) (i0:TypeInfo) (z:Value) (hi0:Tryz.prog.info? 117=some i0) (hz0:i0.zero=some z) (hzs:i0.size=3) (hzb:i0.bytes=24) (hzc:z.cells.size=3):
 Calls Tryz.prog 102 #[.slice (some ⟨b,off,none⟩) n c,.int .i64 i,.slice (some ⟨vb,kH,none⟩) 1 vc] w λe w'=>
  e=.returned (.slice (some ⟨w.heap.size,0,none⟩) (n+1) (grownCap w (n+1) c 117))/\
  w'=(((w.alloc (.cells ((cs.take (i*3)).toArray++Builtin.zeroCells z.cells (n+1-i)++Builtin.zeroCells z.cells (grownCap w (n+1) c 117-(n+1))) 117)).drew.setCells w.heap.size (i*3) vs).drew).setCells w.heap.size ((i+1)*3) (cs.drop (i*3)):=by
 have mixed:Tryz.prog.follows .mixedOrders=true:=by kernel_rfl
 have hz2:¬((i:Int)=(n:Int)):=by omega
 have hz3:(c:Int)<(n:Int)+1:=by omega
 have hsz:(Tryz.prog.info? 117).map (·.size)=some 3:=by rw[hi0];simp[hzs]
 have hkk:(n:Int)+1-(i:Int)=((n+1-i:Nat):Int):=by omega
 have hik:i+(n+1-i)=n+1:=by omega
 have hold:(Builtin.firstCells i0.size i (.slice (some ⟨b,off,none⟩) i c)).run Tryz.prog w.drew=.ok (cs.take (i*3)).toArray w.drew:=by
  rw[hzs]
  exact run_firstCells_some w.drew 3 i ⟨b,off,none⟩ i c (cs.take (i*3)) (by rw[aL];omega) (λj v hj=>by
   rw[cU]
   rw[eB]at hj
   split at hj
   ·exact hcs j v hj
   ·cases hj)
 have hrz:∀ ty,(Builtin.append_ #[60,3] ty #[.slice (some ⟨b,off,none⟩) i c,.int .i64 ((n:Int)+1-(i:Int))]).run Tryz.prog w=
  .ok (.slice (some ⟨w.heap.size,0,none⟩) (n+1) (grownCap w (n+1) c 117)) (w.drew.alloc (.cells ((cs.take (i*3)).toArray++Builtin.zeroCells z.cells (n+1-i)++Builtin.zeroCells z.cells (grownCap w (n+1) c 117-(n+1))) 117)):=λty=>by
  have h:=Lib.run_append_grow_zeros (P:=Tryz.prog) w 60 3 ty 117 i0 z .i64 .i64 Tryz.underlying60 Tryz.underlying3 hi0 hz0 (some ⟨b,off,none⟩) i c (cs.take (i*3)) hold (n+1-i) (by omega) (by omega) (by omega) (by omega) (by rw[hzb];omega) (by rw[hzb,hik];exact growslice_fits o4 yb)
  rw[hik]at h
  rw[hkk]
  exact h
 obtain⟨G,hG⟩:∃ G,G=grownCap w (n+1) c 117:=⟨_,rfl⟩
 obtain⟨ROW,AE⟩:∃ ROW:Array Value,ROW=(cs.take (i*3)).toArray++Builtin.zeroCells z.cells (n+1-i)++Builtin.zeroCells z.cells (G-(n+1)):=⟨_,rfl⟩
 rw[<-hG]at hrz |-
 rw[<-AE]at hrz |-
 have hRl:(n+1)*3<=ROW.size:=by
  rw[AE]
  simp only[n9,size_zeroCells,hzc,qV,aL,hcl]
  have:min (i*3) (n*3)=i*3:=dr (by omega)
  omega
 obtain⟨W1,hW1⟩:∃ W1,W1=w.drew.alloc (.cells ROW 117):=⟨_,rfl⟩
 rw[<-hW1]at hrz
 have hN:∀ j,j<(n+1)*3->(W1.cell? ⟨w.heap.size,j,none⟩).isSome=true:=λj hj=>by
  rw[hW1,World.cell?_alloc_at (w:=w.drew) ROW _ w.heap.size j rfl,Array.getElem?_eq_getElem (by omega)];rfl
 have hNf:∀ j,W1.frozen? ⟨w.heap.size,j,none⟩=false:=λj=>by rw[hW1];exact World.frozen?_alloc_at (w:=w.drew) ROW _ w.heap.size j rfl
 have hOb:∀ j v,w.cell? ⟨b,j,none⟩=some v->W1.cell? ⟨b,j,none⟩=some v:=λj v h=>by rw[hW1,World.cell?_alloc_past (w:=w.drew) _ b j hbw];exact h
 have hOv:∀ j v,w.cell? ⟨vb,j,none⟩=some v->W1.cell? ⟨vb,j,none⟩=some v:=λj v h=>by rw[hW1,World.cell?_alloc_past (w:=w.drew) _ vb j hvw];exact h
 have U7:∀ (W:World),(∀ x,W.cell? x=W1.cell? x)->(∀ x,W.frozen? x=W1.frozen? x)->∀ ty dc,(Builtin.copy_ #[60,60] ty #[.slice (some ⟨w.heap.size,i*3,none⟩) (n+1-i) dc,.slice (some ⟨vb,kH,none⟩) 1 vc]).run Tryz.prog W=.ok (goInt (Nat.min 1 (n+1-i))) (W.setCells w.heap.size (i*3) vs):=λW hWc hWf ty dc=>
  ml W _ _ ty 117 3 w.heap.size (i*3) (n+1-i) dc ⟨vb,kH,none⟩ 1 vc vs Tryz.underlying60 hsz (by rw[hvl];have:Nat.min 1 (n+1-i)=1:=dr (by omega);rw[this])
   (λj v hj=>by rw[cU,hWc];exact hOv _ v (hvs j v hj))
   (λj hj=>by rw[hWc];exact hN _ (by omega)) (λj hj=>by rw[hWf];exact hNf _) h1v
 have hGn:n+1<=G:=by rw[hG];exact grownCap_ge w _ _ _
 have VI:G<=9223372036854775807:=by
  have:=grownCap_le_maxLen w (n+1) c 117 (by unfold maxLen;omega)
  rw[<-hG]at this
  unfold maxLen at this
  omega
 have hGi:¬(G=i):=by omega
 have VJ:¬(G=i+1):=by omega
 have hci:¬(c=i):=by omega
 have hbN:b≠w.heap.size:=by omega
 have hdl:(cs.drop (i*3)).length=(n-i)*3:=by rw[bB,hcl,oq]
 have R6:∀ (W:World),(∀ x,W.cell? x=(W1.setCells w.heap.size (i*3) vs).cell? x)->(∀ x,W.frozen? x=(W1.setCells w.heap.size (i*3) vs).frozen? x)->∀ ty dc sc,(Builtin.copy_ #[60,60] ty #[.slice (some ⟨w.heap.size,(i+1)*3,none⟩) (n-i) dc,.slice (some ⟨b,off+i*3,none⟩) (n-i) sc]).run Tryz.prog W=.ok (goInt (Nat.min (n-i) (n-i))) (W.setCells w.heap.size ((i+1)*3) (cs.drop (i*3))):=λW hWc hWf ty dc sc=>
  ml W _ _ ty 117 3 w.heap.size ((i+1)*3) (n-i) dc ⟨b,off+i*3,none⟩ (n-i) sc (cs.drop (i*3)) Tryz.underlying60 hsz (by rw[hdl];congr 1;exact(Nat.min_self _).symm)
   (λj v hj=>by
    rw[cU,hWc,qI _ _ _ _ _ (λh _=>absurd h hbN),cF]
    exact hOb _ v (hcs (i*3+j) v (by rwa [fQ]at hj)))
   (λj hj=>by rw[hWc];exact sK _ _ _ _ (λt ht=>hN _ (by omega)) _ (hN _ (by omega)))
   (λj hj=>by rw[hWf,World.frozen?_setCells];exact hNf _) (λv hv=>h1c v (jE hv))
 subst hW1
 have hE1:∀ x,((w.alloc (.cells ROW 117)).drew).cell? x=(w.drew.alloc (.cells ROW 117)).cell? x:=λx=>rfl
 have hE2:∀ x,((w.alloc (.cells ROW 117)).drew).frozen? x=(w.drew.alloc (.cells ROW 117)).frozen? x:=λx=>rfl
 have hF1:∀ x,(((w.alloc (.cells ROW 117)).drew.setCells w.heap.size (i*3) vs).drew).cell? x=((w.drew.alloc (.cells ROW 117)).setCells w.heap.size (i*3) vs).cell? x:=λx=>rfl
 have hF2:∀ x,(((w.alloc (.cells ROW 117)).drew.setCells w.heap.size (i*3) vs).drew).frozen? x=((w.drew.alloc (.cells ROW 117)).setCells w.heap.size (i*3) vs).frozen? x:=λx=>rfl
 have hw1:IntKind.i64.wrap ((i:Int)+1)=(i:Int)+1:=by rw[IntKind.wrap_i64];omega
 have hb1:(0:Int)<=(i:Int)+1:=by omega
 have hin:i<=n:=by omega
 have htn:((i:Int)+1).toNat=i+1:=by omega
 have hb3:(i:Int)<=(n:Int):=by omega
 clear hkk hik hold AE hG hRl
 go_enter Tryz.func102,Tryz.ntmps102
 go_wp2_with (first
  |(at_builtin;refine gB _ rfl _ _ 60 3 rfl _ _ rfl rfl _ _ (hrz _) ?_)
  |(at_builtin;refine iK _ rfl _ _ 60 60 rfl _ _ rfl rfl (U7 _ hE1 hE2 _ _) ?_)
  |(at_builtin;refine iK _ rfl _ _ 60 60 rfl _ _ rfl rfl (R6 _ (λ_=>rfl) (λ_=>rfl) _ _ _) ?_))
 go_region_law_o (refine nF rfl _ _ 60 60 rfl (.slice (some ⟨w.heap.size,(i+1)*3,none⟩) (n-i) (G-(i+1))) (.slice (some ⟨b,off+i*3,none⟩) (n-i) (c-i)) (by simp[Act.eval,Act.put]) (by simp[Act.eval,Act.put]) (R6 _ hF1 hF2 3 (G-(i+1)) (c-i)) ?_)
 go_wp2
 go_ret
 exact⟨rfl,rfl⟩
end
noncomputable section
abbrev It:=Int×(Int×Int)
def itC(x:It):List Value:=[.int .i64 x.1,.int .i64 x.2.1,.int .u64 x.2.2]
def Cw(x:It):Prop:=inK .i64 x.1/\inK .i64 x.2.1/\inK .u64 x.2.2
def itL(xs:List It):List Value:=xs.flatMap itC
theorem yc:∀ xs,(itL xs).length=xs.length*3
 |[]=>rfl
 |x::xs=>by
  show(itC x++itL xs).length=_
  rw[ak,yc xs,aO]
  show 3+_=_
  omega
theorem uI(xs ys:List It):itL (xs++ys)=itL xs++itL ys:=iy
theorem AF:∀ (i:Nat) (xs:List It),itL (xs.take i)=(itL xs).take (i*3)
 |0,xs=>by simp[itL]
 |i+1,[]=>by simp[itL]
 |i+1,x::xs=>by
  show itC x++itL (xs.take i)=(itC x++itL xs).take ((i+1)*3)
  rw[AF i xs,show(i+1)*3=(itC x).length+i*3 by show _=3+_;omega,List.take_length_add_append]
theorem AG:∀ (i:Nat) (xs:List It),itL (xs.drop i)=(itL xs).drop (i*3)
 |0,xs=>by simp
 |i+1,[]=>by simp[itL]
 |i+1,x::xs=>by
  show itL (xs.drop i)=(itC x++itL xs).drop ((i+1)*3)
  rw[AG i xs,show(i+1)*3=(itC x).length+i*3 by show _=3+_;omega,List.drop_length_add_append]
theorem oG:∀ (xs:List It),∀ v∈itL xs,v.oneCell'=true
 |[],v,h=>by cases h
 |x::xs,v,h=>by
  rcases av.1 (show v∈itC x++itL xs from h)with h|h
  ·simp only[itC,az,cq,or_false]at h
   rcases h with rfl|rfl|rfl <;> rfl
  ·exact oG xs v h
theorem PR{F:af}{w:World}{m:Md}{x:It}{cs:List Value}{S:af}(h:Rep F w kl m x cs S):cs=itC x/\Cw x:=by
 obtain⟨c1,c2,S1,S2,rfl,⟨rfl,k1⟩,⟨c3,c4,S3,S4,rfl,⟨rfl,k2⟩,⟨rfl,k3⟩,_⟩,_⟩:=h
 exact⟨rfl,k1,k2,k3⟩
theorem PS{F:af}{w:World}{m:Md}{x:It}(h:Cw x):Rep F w kl m x (itC x) af.none:=
 ⟨[_],_,af.none,af.none,rfl,⟨rfl,h.1⟩,⟨[_],[_],af.none,af.none,rfl,⟨rfl,h.2.1⟩,⟨rfl,h.2.2⟩,Sub.refl _,Sub.refl _,λ_ h=>h.elim⟩,Sub.refl _,Sub.refl _,λ_ h=>h.elim⟩
theorem DR{F:af}{w:World}{m:Md}:∀ {xs:List It} {cs:List Value} {S:af},bq (Rep F w kl m) xs cs S->cs=itL xs/\∀ x∈xs,Cw x
 |[],cs,S,h=>⟨h,λx hx=>by cases hx⟩
 |x::xs,cs,S,h=>by
  obtain⟨c1,c2,S1,S2,rfl,h1,h2,_⟩:=h
  obtain⟨rfl,k1⟩:=PR h1
  obtain⟨rfl,k2⟩:=DR h2
  exact⟨rfl,λy hy=>by rcases az.1 hy with rfl|hy;exact k1;exact k2 y hy⟩
theorem yd{F:af}{w:World}{m:Md}:∀ {xs:List It},(∀ x∈xs,Cw x)->bq (Rep F w kl m) xs (itL xs) af.none
 |[],_=>rfl
 |x::xs,h=>⟨_,_,af.none,af.none,rfl,PS (h x bx),yd (λy hy=>h y (bE _ hy)),Sub.refl _,Sub.refl _,λ_ h=>h.elim⟩
theorem Cx(L A Y vs:List Value)(o1 o2:Nat)(h1:L.take o1=A)(h2:o1<=L.length)(hv:vs.length=3)(ho:o2=o1+3)(h3:o2<=L.length):
 ∀ L1,L1=L.take o2++Y++L.drop (o2+Y.length)->L1.take o1++vs++L1.drop (o1+vs.length)=A++vs++Y++L.drop (o2+Y.length):=by
 rintro L1 rfl
 have e1:(L.take o2++Y++L.drop (o2+Y.length)).take o1=A:=by
  rw[aN,fO (by rw[aL];omega),kX,show min o1 o2=o1 by omega,h1]
 have e2:(L.take o2++Y++L.drop (o2+Y.length)).drop (o1+vs.length)=Y++L.drop (o2+Y.length):=by
  rw[aN,hv,<-ho]
  exact List.drop_left' (by rw[aL];omega)
 rw[e1,e2]
 simp
end
noncomputable section
def AH(n:Nat)(x:List It×(Int×(List It×Unit))):Option ((List It×Unit)×Unit):=
 if x.2.2.1.length=1/\0<=x.2.1/\x.2.1.toNat<=x.1.length/\(x.1.length+1)*24<=140737488355328 then some ((x.1.take x.2.1.toNat++x.2.2.1++x.1.drop x.2.1.toNat,()),())else none
theorem I1:Plain Tryz.prog 102:=⟨_,Tryz.func102,by kernel_rfl,by kernel_rfl⟩
theorem wQ{F:af}{w:World}{xs:List It}{ao:Option Addr}{cap:Nat}{S:af}(h:Rep F w (.sl kl) (.own .ro) xs [.slice ao xs.length cap] S)(hp:0<cap):
 xs.length<=cap/\cap<=maxLen/\(∀ x∈xs,Cw x)/\∃ (b off:Nat) (c:Array Value) (e:Mark c.size 3),ao=some ⟨b,off,none⟩/\w.heap[b]?=some (.cells c e.t (e.a,e.b))/\off+cap*3<=c.size/\S b/\(c.toList.drop off).take (xs.length*3)=itL xs:=by
 obtain⟨a,cp,e0,h1,h2,h3⟩:=h
 injection e0 with e0 _
 injection e0 with q1 q2 q3
 subst q1 q3
 rcases h3 with rfl|⟨b,off,c,e,rfl,hb,hc,hS,S0,hr,_,_⟩
 ·omega
 ·obtain⟨k1,k2⟩:=DR hr
  exact⟨h1,h2,k2,b,off,c,e,rfl,hb,hc,hS,k1⟩
theorem I2{F:af}{w:World}{xs:List It}{b off cap:Nat}{c:Array Value}(e:Mark c.size 3){S:af}(h1:xs.length<=cap)(h2:cap<=maxLen)(hb:w.heap[b]?=some (.cells c e.t (e.a,e.b)))(hc:off+cap*3<=c.size)(hS:S b)(hk:∀ x∈xs,Cw x)
 (hr:(c.toList.drop off).take (xs.length*3)=itL xs):Rep F w (.sl kl) (.own .ro) xs [.slice (some ⟨b,off,none⟩) xs.length cap] S:=
 ⟨_,cap,rfl,h1,h2,.inr ⟨b,off,c,e,rfl,hb,hc,hS,af.none,by
  show bq _ _ ((c.toList.drop off).take (xs.length*3)) _
  rw[hr];exact yd hk,λ_ h=>h.elim,λh=>h⟩⟩
theorem I3{F:af}{w:World}{xs:List It}{ao:Option Addr}{cap:Nat}{S:af}(h:Rep F w (.sl kl) (.own .ro) xs [.slice ao xs.length cap] S):xs.length<=cap/\cap<=maxLen:=by
 obtain⟨a,cp,e0,h1,h2,h3⟩:=h
 injection e0 with e0 _
 injection e0 with q1 q2 q3
 subst q1 q3
 exact⟨h1,h2⟩
set_option maxHeartbeats 1000000 in
theorem I4(N:Nat)(xs ys:List It)(i:Nat){F:af}{w:World}{S S1 S5:af}{ao ao3:Option Addr}{cap uJ:Nat}(hSF:Dis S F)(hF:∀ k,F k->k<w.heap.size)(hS:∀ k,S k->k<w.heap.size)
 (hy1:ys.length=1) (hin:i<=xs.length) (yb:(xs.length+1)*24<=140737488355328) (hx1:Rep F w (.sl kl) (.own .ro) xs [.slice ao xs.length cap] S1) (hx3:Rep F w (.sl kl) (.own .ro) ys [.slice ao3 ys.length uJ] S5)
 (s1:Sub S1 S) (hS5:Sub S5 S) (U8:Dis S1 S5):
 Calls Tryz.prog 102 #[.slice ao xs.length cap,.int .i64 i,.slice ao3 ys.length uJ] w (ue ⟨[(.sl kl,.own .ro),(y3,.ro),(.sl kl,.own .ro)],[(.sl kl,.own .ro)],[],[],AH N⟩ ((xs.take i++ys++xs.drop i,()),()) F w S [.slice ao xs.length cap,.int .i64 i,.slice ao3 ys.length uJ]):=by
 obtain⟨hle,hcm⟩:=I3 hx1
 obtain⟨VK,VL⟩:=I3 hx3
 obtain⟨_,_,hyk,vb,kH,c3,e3,rfl,hb3,hc3,R7,Om⟩:=wQ hx3 (by omega)
 rw[hy1]at Om |-
 have hl3:(itL ys).length=3:=by rw[yc,hy1]
 have PT:∀ j v,(itL ys)[j]?=some v->w.cell? ⟨vb,kH+j,none⟩=some v:=by
  intro j v hj
  rw[<-Om,eB]at hj
  split at hj
  ·rw[fQ]at hj
   simp only[World.cell?,hb3]
   simpa using hj
  ·cases hj
 -- the end
 have fin:∀ (v':Value) (w':World) (Sr:af),w'.os=w.os->w'.tape=w.tape->w'.output=w.output->w.heap.size<=w'.heap.size->(∀ k,k<w.heap.size->¬S k->w'.heap[k]?=w.heap[k]?)->
  Rep F w' (.sl kl) (.own .ro) (xs.take i++ys++xs.drop i) [v'] Sr->(∀ k,Sr k->S k\/(w.heap.size<=k/\k<w'.heap.size))->
  ue ⟨[(.sl kl,.own .ro),(y3,.ro),(.sl kl,.own .ro)],[(.sl kl,.own .ro)],[],[],AH N⟩ ((xs.take i++ys++xs.drop i,()),()) F w S [.slice ao xs.length cap,.int .i64 i,.slice (some ⟨vb,kH,none⟩) 1 uJ] (.returned v') w':=by
  intro v' w' Sr q1 q2 q3 q4 q5 bG hsr
  have hvr:VR (.sl kl) [v'] v':=by
   obtain⟨a,cp,e0,_⟩:=bG
   injection e0 with e0 _
   subst e0
   simp[VR,Ty.agg,Value.oneCell']
  refine⟨[v'],F,Sr,af.none,rfl,⟨_,[],[v'],Sr,af.none,rfl,bG,hvr,rfl,Sub.refl _,λ_ h=>h.elim,λ_ _ h=>h.elim⟩,rfl,λ_ _ h=>h.elim,⟨q1,q2,q3,q4,q5⟩,Sub.refl _,λk hk=>bA (hF k hk) q4,λk hk _ _=>hk,?_⟩
  rintro k (hk|hk)
  ·rcases hsr k hk with h|⟨h,h'⟩
   ·exact⟨bA (hS k h) q4,λhf=>hSF k h hf,λ_=>h⟩
   ·exact⟨h',λhf=>by have:=hF k hf;omega,λhl=>by omega⟩
  ·exact hk.elim
 have hrl:(xs.take i++ys++xs.drop i).length=xs.length+1:=by
  rw[ak,ak,aL,bB,hy1];omega
 by_cases mn:i=xs.length
 ·subst mn
  obtain⟨v',w',bY,q1,q2,q3,q4,q5,q6⟩:=sC (P:=Tryz.prog) (F:=F) (w:=w) hF (t:=60) (tx:=60) (ty:=60) Pz Tryz.underlying60 (me:=.ro) (x1:=xs) (x2:=ys) (v1:=.slice ao xs.length cap) (v2:=.slice (some ⟨vb,kH,none⟩) 1 uJ) (S1:=S1) (S2:=af.none) hx1 (news:=itL ys)
   (by
    have:=Src.ofSlice (P:=Tryz.prog) (w:=w) (size:=3) Tryz.underlying60 ⟨vb,kH,none⟩ 1 uJ (itL ys) (by rw[hl3]) (λj v hj=>by rw[cU];exact PT j v hj) (oG ys)
    show Src Tryz.prog 3 60 _ ys.length _ w
    rw[hy1];exact this)
   (yd hyk) (λ_ _ h=>h.elim) (λk hk hf=>hSF k (s1 k hk) hf) (λk hk=>hS k (s1 k hk)) (λ_ h=>h.elim) (by show(xs.length+ys.length)*24<=_;rw[hy1];exact yb) (by show xs.length+ys.length<=_;rw[hy1];unfold maxLen;omega)
  refine(MM ao xs.length cap ⟨vb,kH,none⟩ uJ w hle (by unfold maxLen at hcm;omega) (by omega) v' w' bY).mono λe W he=>?_
  obtain⟨rfl,rfl⟩:=he
  refine fin _ _ (λk=>S1 k\/af.none k\/(w.heap.size<=k/\k<W.heap.size)) q1 q2 q3 q4 (λk hk hs=>q5 k hk (λh=>hs (s1 k h))) ?_ ?_
  ·rw[cK,fw,b9];exact q6
  ·rintro k (h|h|h)
   ·exact .inl (s1 k h)
   ·exact h.elim
   ·exact .inr h
 ·have hi:i<xs.length:=by omega
  obtain⟨_,_,hxk,b,off,c,e,rfl,hb,hcc,hSb,gS⟩:=wQ hx1 (by omega)
  have hvb:vb≠b:=λh=>U8 b hSb (h ▸ R7)
  have hbw:b<w.heap.size:=hS b (s1 b hSb)
  have hvw:vb<w.heap.size:=hS vb (hS5 vb R7)
  have hlx:=yc xs
  have hcl:c.toList.length=c.size:=aX
  have hat:∀ j v,(itL xs)[j]?=some v->w.cell? ⟨b,off+j,none⟩=some v:=by
   intro j v hj
   rw[<-gS,eB]at hj
   split at hj
   ·rw[fQ]at hj
    simp only[World.cell?,hb]
    simpa using hj
   ·cases hj
  have fW:∀ x∈xs.take i++ys++xs.drop i,Cw x:=by
   intro x hx
   rcases av.1 hx with hx|hx
   ·rcases av.1 hx with hx|hx
    ·exact hxk x (qN hx)
    ·exact hyk x hx
   ·exact hxk x (jE hx)
  have xQ:itL (xs.take i++ys++xs.drop i)=(itL xs).take (i*3)++itL ys++(itL xs).drop (i*3):=by
   rw[uI,uI,AF,AG]
  obtain⟨ti,z,hti,ht1,ht2,ht3,ht4⟩:=Pz.vI
  have hz:z.cells.size=3:=by rw[<-aX,ht4];rfl
  have hsz:(Tryz.prog.info? 117).map (·.size)=some 3:=by rw[hti];exact congrArg some ht1
  have hdl:((itL xs).drop (i*3)).length=(xs.length-i)*3:=by rw[bB,hlx,oq]
  by_cases o4:xs.length+1<=cap
  ·have VD:(xs.length+1)*3<=cap*3:=fP _ o4
   refine(GD b off xs.length cap i vb kH uJ (itL xs) (itL ys) w hi o4 (by unfold maxLen at hcm;omega) hvb hlx hl3 hat (λj hj=>by simp only[World.cell?,hb];simp;omega) (λj hj=>Mark.frz (e:=e) hb rfl (by show off+j<c.size;omega)) PT (oG xs) (oG ys)
    e3.t e.t c3.size c.size (by simp[World.shape?,hb3]) (by simp[World.shape?,hb]) (by omega) (Mark.frz (e:=e3) hb3 rfl (by show kH<c3.size;omega)) (by
     have h:=e3.en (by decide)
     simp only[World.frozen?,hb3]
     rcases ap c3.size e3.a with h1|h1
     ·have:decide (e3.a<=c3.size)=false:=decide_eq_false (by omega)
      simp[this]
     ·have:decide (c3.size<e3.b)=false:=decide_eq_false (λh2=>h ⟨h1,h2⟩)
      simp[this]) hsz).mono λe' W he=>?_
   obtain⟨rfl,rfl⟩:=he
   obtain⟨a1,⟨cA,a2,a3⟩,a4,a5,a6,a7⟩:=dQ b ((itL xs).drop (i*3)) (off+(i+1)*3) w.drew c e.t (e.a,e.b) hb (by rw[hdl];omega)
   have hcA:cA.size=c.size:=by
    rw[<-aX,<-aX,a3]
    simp only[ak,aL,bB,hcl,hlx]
    omega
   obtain⟨b1,⟨cB,b2,b3⟩,b4,b5,b6,b7⟩:=dQ b (itL ys) (off+i*3) _ cA e.t (e.a,e.b) a2 (by rw[hl3,hcA];omega)
   have hcB:cB.size=c.size:=by
    rw[<-hcA,<-aX,<-aX (xs:=cA),b3]
    simp only[ak,aL,bB,aX,hl3]
    omega
   have R8:cB.toList=c.toList.take off++(itL xs).take (i*3)++itL ys++(itL xs).drop (i*3)++c.toList.drop (off+(i+1)*3+((itL xs).drop (i*3)).length):=by
    rw[b3]
    exact Cx c.toList _ _ _ (off+i*3) (off+(i+1)*3) (by
     rw[<-gS,kX,show min (i*3) (xs.length*3)=i*3 by omega,List.take_add]) (by omega) hl3 (by omega) (by omega) cA.toList a3
   refine fin _ _ S1 (b5.trans a5) (b6.trans a6) (b7.trans a7) (by rw[b4,a4];exact aq _) (λk hk hs=>by
    have hkb:k≠b:=λh=>hs (h ▸ s1 b hSb)
    rw[b1 k hkb,a1 k hkb];rfl) ?_ (λk hk=>.inl (s1 k hk))
   have e':Mark cB.size 3:=e.to (iC hcB)
   have:=I2 (F:=F) (w:=((w.drew.setCells b (off+(i+1)*3) ((itL xs).drop (i*3))).setCells b (off+i*3) (itL ys))) (xs:=xs.take i++ys++xs.drop i) (b:=b) (off:=off) (cap:=cap) (c:=cB) (e.to (iC hcB)) (S:=S1) (by rw[hrl];exact o4) hcm b2 (by rw[hcB];exact hcc) hSb fW (by
    rw[hrl,xQ,R8]
    rw[show c.toList.take off++(itL xs).take (i*3)++itL ys++(itL xs).drop (i*3)++c.toList.drop (off+(i+1)*3+((itL xs).drop (i*3)).length)=c.toList.take off++(((itL xs).take (i*3)++itL ys++(itL xs).drop (i*3))++c.toList.drop (off+(i+1)*3+((itL xs).drop (i*3)).length)) by simp]
    rw[List.drop_left' (by rw[aL];omega)]
    exact oc (by
     simp only[ak,aL,bB,hlx,hl3];omega))
   rw[hrl]at this
   exact this
  ·refine(I0 b off xs.length cap i vb kH uJ (itL xs) (itL ys) w hi hle (by omega) (by omega) hlx hl3 hat PT (oG xs) (oG ys) hbw hvw ti z hti ht3 ht1 ht2 hz).mono λe' W he=>?_
   obtain⟨rfl,rfl⟩:=he
   obtain⟨ROW,AE⟩:∃ ROW:Array Value,ROW=((itL xs).take (i*3)).toArray++Builtin.zeroCells z.cells (xs.length+1-i)++Builtin.zeroCells z.cells (grownCap w (xs.length+1) cap 117-(xs.length+1)):=⟨_,rfl⟩
   rw[<-AE]
   have hG:=grownCap_ge w (xs.length+1) cap 117
   have hG2:=grownCap_le_maxLen w (xs.length+1) cap 117 (by unfold maxLen;omega)
   obtain⟨G,hGG⟩:∃ G,G=grownCap w (xs.length+1) cap 117:=⟨_,rfl⟩
   rw[<-hGG]at hG hG2 AE |-
   have hRs:ROW.size=G*3:=by
    rw[AE]
    simp only[n9,size_zeroCells,hz,qV,aL,hlx]
    have:min (i*3) (xs.length*3)=i*3:=dr (by omega)
    omega
   have hRt:ROW.toList.take (i*3)=(itL xs).take (i*3):=by
    rw[AE]
    simp only[qQ,aN]
    exact oc (by rw[aL];omega)
   have sW:(w.alloc (.cells ROW 117)).drew.heap[w.heap.size]?=some (.cells ROW 117 (0,0)):=lu w _
   obtain⟨a1,⟨cA,a2,a3⟩,a4,a5,a6,a7⟩:=dQ w.heap.size (itL ys) (i*3) (w.alloc (.cells ROW 117)).drew ROW 117 (0,0) sW (by rw[hl3,hRs];omega)
   have hRl:ROW.toList.length=G*3:=by rw[aX];exact hRs
   have hcA:cA.size=G*3:=by
    rw[<-aX,a3]
    simp only[ak,aL,bB,hRl,hl3]
    omega
   have U9:cA.toList.length=G*3:=by rw[aX];exact hcA
   obtain⟨b1,⟨cB,b2,b3⟩,b4,b5,b6,b7⟩:=dQ w.heap.size ((itL xs).drop (i*3)) ((i+1)*3) ((w.alloc (.cells ROW 117)).drew.setCells w.heap.size (i*3) (itL ys)).drew cA 117 (0,0) a2 (by rw[hdl,hcA];omega)
   have hcB:cB.size=G*3:=by
    rw[<-aX,b3]
    simp only[ak,aL,bB,U9,hlx]
    omega
   have hAt:cA.toList.take ((i+1)*3)=(itL xs).take (i*3)++itL ys:=by
    rw[a3,hRt]
    exact oc (by rw[ak,aL,hl3,hlx];omega)
   have Dg:(cB.toList.drop 0).take ((xs.take i++ys++xs.drop i).length*3)=itL (xs.take i++ys++xs.drop i):=by
    rw[hrl,xQ,du,b3,hAt]
    exact oc (by simp only[ak,aL,bB,hlx,hl3];omega)
   have ye:=I2 (F:=F) (w:=(((w.alloc (.cells ROW 117)).drew.setCells w.heap.size (i*3) (itL ys)).drew).setCells w.heap.size ((i+1)*3) ((itL xs).drop (i*3))) (xs:=xs.take i++ys++xs.drop i) (b:=w.heap.size) (off:=0) (cap:=G) (c:=cB) (Mark.free _ 117) (S:=λk=>k=w.heap.size) (by rw[hrl];exact hG) hG2 b2 (by rw[hcB];omega) rfl fW Dg
   rw[hrl]at ye
   have hws:((((w.alloc (.cells ROW 117)).drew.setCells w.heap.size (i*3) (itL ys)).drew).setCells w.heap.size ((i+1)*3) ((itL xs).drop (i*3))).heap.size=w.heap.size+1:=by
    rw[b4]
    exact a4.trans (dZ w _)
   refine fin _ _ (λk=>k=w.heap.size) (b5.trans a5) (b6.trans a6) (b7.trans a7) (by rw[hws];omega) (λk hk hs=>?_) ye (λk hk=>.inr ⟨by omega,by omega⟩)
   rw[b1 k (by omega)]
   exact(a1 k (by omega)).trans (eW w _ hk)
theorem R9(N:Nat):fX Tryz.prog 102 ⟨[(.sl kl,.own .ro),(y3,.ro),(.sl kl,.own .ro)],[(.sl kl,.own .ro)],[],[],AH N⟩:=by
 rintro⟨xs,i0,ys,u⟩ r hd F w S args jZ hSF hF hS _
 have hd2:AH N (xs,i0,ys,u)=some r:=hd
 clear hd
 unfold AH at hd2
 split at hd2
 case isFalse=>cases hd2
 rename_i hc
 obtain⟨hy1,h0,hin,yb⟩:=hc
 have hd3:=cS hd2
 subst hd3
 clear hd2
 obtain⟨v1,vs1,cs1,S1,S2,rfl,hr1,hv1,⟨v2,vs2,cs2,S3,S4,rfl,hr2,hv2,⟨v3,vs3,cs3,S5,S6,rfl,hr3,hv3,h4,s5,s6,d5⟩,s3,s4,d3⟩,s1,s2,d⟩:=jZ
 cases h4
 have Va:=(pc (k:=.i64) hr2 hv2).1
 have e0:i0=((Int.toNat i0:Nat):Int):=(dm h0).symm
 obtain⟨ao,cap,hc1,_⟩:=id hr1
 obtain⟨ao3,uJ,hc3,_⟩:=id hr3
 subst hc1 hc3
 have PU:v1=.slice ao (List.length (xs:List It)) cap:=by simp[VR,Ty.agg]at hv1;exact hv1.1.symm
 have Vb:v3=.slice ao3 (List.length (ys:List It)) uJ:=by simp[VR,Ty.agg]at hv3;exact hv3.1.symm
 have:=I4 N xs ys (Int.toNat i0) hSF hF hS hy1 hin yb (S1:=S1) (S5:=S5) hr1 hr3 s1 (λk hk=>s2 k (s4 k (s5 k hk))) (λk h1 h5=>d k h1 (s4 k (s5 k h5)))
 rw[<-e0]at this
 rw[PU,Va,Vb]
 exact this
def F102(n:Nat):Fb 102:=⟨_,R9 n,I1⟩
end
end Go.Proofs.YthalkfdkbalpmaaGreat.Rf
namespace Go.Proofs
open Go.Shelf
noncomputable section
def Tryz.sort_ren:Go.Shelf.Ren:=⟨λ|6=>82|14=>104|15=>105|20=>118|21=>119|22=>120|23=>121|24=>122|25=>123|26=>124|27=>125|28=>126|29=>127|46=>140|47=>141|48=>142|49=>143|50=>144|57=>156|n=>n,λ|0=>0|3=>3|4=>4|5=>5|9=>9|22=>62|24=>64|25=>156|39=>144|45=>195|46=>196|50=>111|53=>202|55=>78|66=>223|70=>227|76=>248|77=>98|n=>n,λn=>n⟩
theorem Tryz.sort_lays:Go.Proofs.SlLaysF0.n6 Tryz.prog Tryz.sort_ren:={
 mixed:=by kernel_rfl
 f6 := ⟨ "slices.SortFunc[[]bosket/api.Sym,bosket/api.Sym]", by decide, Tryz.func82.trans (congrArg some (by kernel_rfl))⟩
 f14 := ⟨ "slices.pdqsortCmpFunc[bosket/api.Sym]", by decide, Tryz.func104.trans (congrArg some (by kernel_rfl))⟩
 f15:=Tryz.func105.trans (congrArg some (by kernel_rfl))
 f20 := ⟨ "slices.insertionSortCmpFunc[bosket/api.Sym]", by decide, Tryz.func118.trans (congrArg some (by kernel_rfl))⟩
 f21 := ⟨ "slices.heapSortCmpFunc[bosket/api.Sym]", by decide, Tryz.func119.trans (congrArg some (by kernel_rfl))⟩
 f22 := ⟨ "slices.breakPatternsCmpFunc[bosket/api.Sym]", by decide, Tryz.func120.trans (congrArg some (by kernel_rfl))⟩
 f23 := ⟨ "slices.choosePivotCmpFunc[bosket/api.Sym]", by decide, Tryz.func121.trans (congrArg some (by kernel_rfl))⟩
 f24 := ⟨ "slices.reverseRangeCmpFunc[bosket/api.Sym]", by decide, Tryz.func122.trans (congrArg some (by kernel_rfl))⟩
 f25 := ⟨ "slices.partialInsertionSortCmpFunc[bosket/api.Sym]", by decide, Tryz.func123.trans (congrArg some (by kernel_rfl))⟩
 f26 := ⟨ "slices.partitionEqualCmpFunc[bosket/api.Sym]", by decide, Tryz.func124.trans (congrArg some (by kernel_rfl))⟩
 f27 := ⟨ "slices.partitionCmpFunc[bosket/api.Sym]", by decide, Tryz.func125.trans (congrArg some (by kernel_rfl))⟩
 f28:=Tryz.func126.trans (congrArg some (by kernel_rfl))
 f29:=Tryz.func127.trans (congrArg some (by kernel_rfl))
 f46 := ⟨ "slices.siftDownCmpFunc[bosket/api.Sym]", by decide, Tryz.func140.trans (congrArg some (by kernel_rfl))⟩
 f47:=Tryz.func141.trans (congrArg some (by kernel_rfl))
 f48:=Tryz.func142.trans (congrArg some (by kernel_rfl))
 f49 := ⟨ "slices.medianAdjacentCmpFunc[bosket/api.Sym]", by decide, Tryz.func143.trans (congrArg some (by kernel_rfl))⟩
 f50 := ⟨ "slices.medianCmpFunc[bosket/api.Sym]", by decide, Tryz.func144.trans (congrArg some (by kernel_rfl))⟩
 f57 := ⟨ "slices.order2CmpFunc[bosket/api.Sym]", by decide, Tryz.func156.trans (congrArg some (by kernel_rfl))⟩
 t0:=Tryz.underlying0
 a0:=Tryz.isAgg0
 z0:=Tryz.sizeOf0
 v0:=Tryz.zeroValue0
 t3:=Tryz.underlying3
 a3:=Tryz.isAgg3
 z3:=Tryz.sizeOf3
 v3:=Tryz.zeroValue3
 t4:=Tryz.underlying4
 a4:=Tryz.isAgg4
 z4:=Tryz.sizeOf4
 v4:=Tryz.zeroValue4
 t5:=Tryz.underlying5
 a5:=Tryz.isAgg5
 z5:=Tryz.sizeOf5
 v5:=Tryz.zeroValue5
 t9:=Tryz.underlying9
 a9:=Tryz.isAgg9
 z9:=Tryz.sizeOf9
 v9:=Tryz.zeroValue9
 t22:=Tryz.underlying62
 a22:=Tryz.isAgg62
 z22:=Tryz.sizeOf62
 v22:=Tryz.zeroValue62
 t25:=Tryz.underlying156
 a25:=Tryz.isAgg156
 z25:=Tryz.sizeOf156
 v25:=Tryz.zeroValue156
 t39:=Tryz.underlying144
 a39:=Tryz.isAgg144
 z39:=Tryz.sizeOf144
 v39:=Tryz.zeroValue144
 t45:=Tryz.underlying195
 a45:=Tryz.isAgg195
 z45:=Tryz.sizeOf195
 v45:=Tryz.zeroValue195
 t46:=Tryz.underlying196
 a46:=Tryz.isAgg196
 z46:=Tryz.sizeOf196
 v46:=Tryz.zeroValue196
 t50:=Tryz.underlying111
 a50:=Tryz.isAgg111
 z50:=Tryz.sizeOf111
 v50:=Tryz.zeroValue111
 t53:=Tryz.underlying202
 a53:=Tryz.isAgg202
 z53:=Tryz.sizeOf202
 v53:=Tryz.zeroValue202
 t55:=Tryz.underlying78
 a55:=Tryz.isAgg78
 z55:=Tryz.sizeOf78
 v55:=Tryz.zeroValue78
 t66:=Tryz.underlying223
 a66:=Tryz.isAgg223
 z66:=Tryz.sizeOf223
 v66:=Tryz.zeroValue223
 t70:=Tryz.underlying227
 a70:=Tryz.isAgg227
 z70:=Tryz.sizeOf227
 v70:=Tryz.zeroValue227
 t76:=Tryz.underlying248
 a76:=Tryz.isAgg248
 z76:=Tryz.sizeOf248
 v76:=Tryz.zeroValue248
 t77:=Tryz.underlying98
 a77:=Tryz.isAgg98
 z77:=Tryz.sizeOf98
 v77:=Tryz.zeroValue98}
end
end Go.Proofs
namespace Go.Proofs.YthalkfdkbalpmaaGreat.Rf
open Go Go.RowKit Go.Lib Go.Sort
noncomputable section
abbrev Sy:=Bool×Int
def p5(x y:Sy):Int:=if x.1≠y.1/\y.1=true then -1 else if x.1≠y.1\/y.2<x.2 then 1 else if x.2<y.2 then -1 else 0
def kI(x:Sy):List Value:=[.bool x.1,.int .i64 x.2]
def ltS(x y:Sy):Bool:=decide (x.1=false/\y.1=true\/x.1=y.1/\x.2<y.2)
def Cy(x:Sy):List Sy->List Sy
 |[]=>[x]
 |y::l=>bif ltS y x then y::Cy x l else x::y::l
def gZ:List Sy->List Sy
 |[]=>[]
 |x::l=>Cy x (gZ l)
theorem mq{x y:Sy}:ltS x y=true↔(x.1=false/\y.1=true\/x.1=y.1/\x.2<y.2):=by unfold ltS;simp
theorem uK(x y:Sy):ltS x y=true\/x=y\/ltS y x=true:=by
 obtain⟨a,b⟩:=x
 obtain⟨c,d⟩:=y
 rw[mq,mq]
 cases a <;> cases c <;> simp <;> omega
theorem mu(x:Sy):ltS x x=false:=by
 cases h:ltS x x
 ·rfl
 ·rw[mq]at h
  rcases h with⟨h1,h2⟩|⟨_,h⟩
  ·rw[h1]at h2;cases h2
  ·omega
theorem yf{x y z:Sy}(h1:ltS x y=true)(h2:ltS y z=true):ltS x z=true:=by
 obtain⟨a,b⟩:=x
 obtain⟨c,d⟩:=y
 obtain⟨e,f⟩:=z
 rw[mq]at *
 cases a <;> cases c <;> cases e <;> simp at * <;> omega
theorem yg{x y:Sy}(h1:ltS x y=true)(h2:ltS y x=true):False:=by
 have:=yf h1 h2
 rw[mu]at this
 cases this
theorem mz(x y:Sy):ltOf p5 x y=ltS x y:=by
 obtain⟨a,b⟩:=x
 obtain⟨c,d⟩:=y
 unfold ltOf p5 ltS
 cases a <;> cases c <;> simp
 all_goals (by_cases h1:d<b <;> by_cases h2:b<d <;> simp[h1,h2] <;> omega)
theorem PV:SWO (ltOf p5) where
 irrefl x:=by rw[mz];exact mu x
 trans x y z h1 h2:=by rw[mz]at *;exact yf h1 h2
 ntrans x y z h1 h2:=by
  rw[mz]at *
  cases h:ltS x z
  ·rfl
  ·rcases uK x y with h3|rfl|h3
   ·rw[h3]at h1;cases h1
   ·rw[h]at h2;cases h2
   ·have:=yf h3 h
    rw[this]at h2;cases h2
theorem Vc(x y:Sy)(h1:ltOf p5 x y=false)(h2:ltOf p5 y x=false):x=y:=by
 rw[mz]at *
 rcases uK x y with h|h|h
 ·rw[h]at h1;cases h1
 ·exact h
 ·rw[h]at h2;cases h2
def leS(x y:Sy):Prop:=ltS y x=false
theorem PW{x y z:Sy}(h1:leS x y)(h2:leS y z):leS x z:=by
 have:=PV.ntrans z y x
 rw[mz,mz,mz]at this
 exact this h2 h1
theorem rQ(x:Sy):∀ l,(Cy x l).Perm (x::l)
 |[]=>.refl _
 |y::l=>by
  unfold Cy
  cases ltS y x
  ·exact .refl _
  ·exact((rQ x l).cons y).trans (.swap x y l)
theorem iL:∀ l,(gZ l).Perm l
 |[]=>.refl _
 |x::l=>(rQ x _).trans ((iL l).cons x)
theorem sL(x:Sy):∀ l,l.Pairwise leS->(Cy x l).Pairwise leS
 |[],_=>by simp[Cy]
 |y::l,h=>by
  obtain⟨h1,h2⟩:=dH.1 h
  unfold Cy
  cases hy:ltS y x
  ·refine dH.2 ⟨λz hz=>?_,h⟩
   rcases az.1 hz with rfl|hz
   ·exact hy
   ·exact PW hy (h1 z hz)
  ·refine dH.2 ⟨λz hz=>?_,sL x l h2⟩
   rcases az.1 ((rQ x l).mem_iff.1 hz)with rfl|hz
   ·show ltS z y=false
    cases h':ltS z y
    ·rfl
    ·exact(yg hy h').elim
   ·exact h1 z hz
theorem mC:∀ l,(gZ l).Pairwise leS
 |[]=>.nil
 |x::l=>sL x _ (mC l)
theorem PX(l:List Sy):(l.mergeSort λx y=>!(ltOf p5) y x)=gZ l:=by
 have hp:=List.pairwise_mergeSort (le:=λx y=>!(ltOf p5) y x) (λa b c h1 h2=>by
  simp only[bz]at *
  exact PV.ntrans _ _ _ h2 h1) (λa b=>by
  simp only[mz]
  rcases uK a b with h|rfl|h
  ·have:ltS b a=false:=by
    cases h':ltS b a
    ·rfl
    ·exact(yg h h').elim
   simp[this]
  ·simp[mu]
  ·have:ltS a b=false:=by
    cases h':ltS a b
    ·rfl
    ·exact(yg h h').elim
   simp[this]) l
 refine List.Perm.eq_of_pairwise (le:=leS) (λa b _ _ h1 h2=>?_) (hp.imp λ{a b} h=>?_) (mC l) ((List.mergeSort_perm l _).trans (iL l).symm)
 ·unfold leS at h1 h2
  rcases uK a b with h|h|h
  ·rw[h]at h2;cases h2
  ·exact h
  ·rw[h]at h1;cases h1
 ·simp only[mz,bz]at h
  exact h
set_option maxHeartbeats 1000000 in
theorem Sa(x y:Sy)(W:World):Calls Tryz.prog 83 #[.agg #[.bool x.1,.int .i64 x.2],.agg #[.bool y.1,.int .i64 y.2]] W λe w'=>e=.returned (.int .i64 (p5 x y))/\∃ q os',w'=grow (W.drewN q) os':=by
 have mixed:Tryz.prog.follows .mixedOrders=true:=by kernel_rfl
 obtain⟨a,b⟩:=x
 obtain⟨c,d⟩:=y
 have fin:∀ (v:Int),v=p5 (a,b) (c,d)->∀ W',(∃ q os',W'=grow (W.drewN q) os')->(Ending.returned (Value.int .i64 v)=.returned (.int .i64 (p5 (a,b) (c,d)))/\∃ q os',W'=grow (W.drewN q) os'):=λv hv W' hw=>⟨by rw[hv],hw⟩
 have two:∀ o1 o2:Obj,∃ q os',(W.alloc o1).alloc o2=grow (W.drewN q) os':=λo1 o2=>⟨0,_,by rw[alloc_eq_grow,alloc_eq_grow,grow_grow];rfl⟩
 rcases Int.lt_trichotomy b d with h1|rfl|h1
 ·have h2:¬d<b:=by omega
  cases a <;> cases c
  all_goals (go_enter Tryz.func83,Tryz.ntmps83)
  all_goals go_wp2
  all_goals go_ret
  all_goals (refine fin _ ?_ _ (two _ _))
  all_goals (simp[p5,h1,h2])
 ·cases a <;> cases c
  all_goals (go_enter Tryz.func83,Tryz.ntmps83)
  all_goals go_wp2
  all_goals go_ret
  all_goals (refine fin _ ?_ _ (two _ _))
  all_goals (simp[p5])
 ·have h2:¬b<d:=by omega
  cases a <;> cases c
  all_goals (go_enter Tryz.func83,Tryz.ntmps83)
  all_goals go_wp2
  all_goals go_ret
  all_goals (refine fin _ ?_ _ (two _ _))
  all_goals (simp[p5,h1,h2])
def syL(xs:List Sy):List Value:=xs.flatMap kI
theorem DS:∀ xs,(syL xs).length=xs.length*2
 |[]=>rfl
 |x::xs=>by
  show(kI x++syL xs).length=_
  rw[ak,DS xs,aO]
  show 2+_=_
  omega
theorem I5(x:Sy):∀ v∈kI x,v.oneCell'=true:=λv h=>by
 simp only[kI,az,cq,or_false]at h
 rcases h with rfl|rfl <;> rfl
theorem DT:∀ (xs:List Sy) (t:Nat),t<xs.length*2->(syL xs)[t]?=some ((kI xs[t / 2]!)[t % 2]!)
 |[],t,h=>by simp at h
 |x::xs,0,h=>rfl
 |x::xs,1,h=>rfl
 |x::xs,t+2,h=>by
  show(kI x++syL xs)[t+2]?=_
  rw[fo (by show 2<=_;omega),show t+2-(kI x).length=t by show t+2-2=t;omega,DT xs t (by rw[aO]at h;omega),show(t+2) / 2=t / 2+1 by omega,show(t+2) % 2=t % 2 by omega]
  rfl
theorem AI(xs:List Sy)(t:Nat)(h:t<xs.length*2):(syL xs)[t]?=some ((flatK kI 2 xs.toArray)[t]!):=by
 rw[get_flatK kI 2 xs.toArray t (by simpa using h),DT xs t h]
 simp
theorem PY{F:af}{w:World}{m:Md}{x:Sy}{cs:List Value}{S:af}(h:Rep F w y63 m x cs S):cs=kI x/\inK .i64 x.2:=by
 obtain⟨c1,c2,S1,S2,rfl,rfl,⟨rfl,k⟩,_⟩:=h
 exact⟨rfl,k⟩
theorem PZ{F:af}{w:World}{m:Md}{x:Sy}(h:inK .i64 x.2):Rep F w y63 m x (kI x) af.none:=
 ⟨[_],[_],af.none,af.none,rfl,rfl,⟨rfl,h⟩,Sub.refl _,Sub.refl _,λ_ h=>h.elim⟩
theorem DU{F:af}{w:World}{m:Md}:∀ {xs:List Sy} {cs:List Value} {S:af},bq (Rep F w y63 m) xs cs S->cs=syL xs/\∀ x∈xs,inK .i64 x.2
 |[],cs,S,h=>⟨h,λx hx=>by cases hx⟩
 |x::xs,cs,S,h=>by
  obtain⟨c1,c2,S1,S2,rfl,h1,h2,_⟩:=h
  obtain⟨rfl,k1⟩:=PY h1
  obtain⟨rfl,k2⟩:=DU h2
  exact⟨rfl,λy hy=>by rcases az.1 hy with rfl|hy;exact k1;exact k2 y hy⟩
theorem DV{F:af}{w:World}{m:Md}:∀ {xs:List Sy},(∀ x∈xs,inK .i64 x.2)->bq (Rep F w y63 m) xs (syL xs) af.none
 |[],_=>rfl
 |x::xs,h=>⟨_,_,af.none,af.none,rfl,PZ (h x bx),DV (λy hy=>h y (bE _ hy)),Sub.refl _,Sub.refl _,λ_ h=>h.elim⟩
def p82(n:Nat)(x:List Sy×(Unit×Unit)):Option (Unit×(List Sy×Unit)):=if x.1.length<4611686018427387904 then some ((),(gZ x.1,()))else none
theorem MN:Plain Tryz.prog 82:=⟨_,Tryz.func82,by kernel_rfl,by kernel_rfl⟩
theorem Vd(x:Sy):(kI x).length=2:=rfl
theorem MO(xs:List Sy)(off:Nat)(c:Array Value)(h:off+xs.length*2<=c.size):((putCells id off (flatK kI 2 xs.toArray) c).toList.drop off).take (xs.length*2)=syL xs:=by
 apply eC
 intro t
 rw[eB]
 split
 ·rename_i ht
  rw[fQ,ft,AI xs t ht]
  unfold putCells
  rw[Array.getElem?_mapIdx,Array.getElem?_eq_getElem (by omega)]
  simp only[dA,id]
  rw[if_pos ⟨by omega,by simp;omega⟩,show off+t-off=t by omega]
 ·rename_i ht
  exact(bn (by rw[DS];omega)).symm
set_option maxHeartbeats 1000000 in
theorem Ve(N:Nat):fX Tryz.prog 82 ⟨[(y62,.own .ro),(.fn 83,.ro)],[],[0],[(y62,.own .ro)],p82 N⟩:=by
 rintro⟨xs,z,u⟩ r hd F w S args jZ hSF hF hS _
 have hd2:p82 N (xs,z,u)=some r:=hd
 unfold p82 at hd2
 split at hd2
 case isFalse=>cases hd2
 rename_i yb
 have yb:List.length (xs:List Sy)<4611686018427387904:=yb
 have hd3:((),(gZ xs,()))=r:=cS hd2
 subst hd3
 obtain⟨v1,vs1,cs1,S1,S2,rfl,hr1,hv1,⟨v2,vs2,cs2,S3,S4,rfl,hr2,hv2,h4,s3,s4,d3⟩,s1,s2,d⟩:=jZ
 cases h4
 have Vf:cs2=[.func (.func 83) #[] #[]]:=hr2
 subst Vf
 have Vg:v2=.func (.func 83) #[] #[]:=by simp[VR,Ty.agg]at hv2;exact hv2.1.symm
 subst Vg
 obtain⟨a,cp,e0,h1,h2,h3⟩:=hr1
 subst e0
 have PU:v1=.slice a (List.length (xs:List Sy)) cp:=by simp[VR,Ty.agg]at hv1;exact hv1.1.symm
 subst PU
 have h1:List.length (xs:List Sy)<=cp:=h1
 have hlen:(gZ xs).length=(xs:List Sy).length:=(iL xs).length_eq
 have fin:∀ (w':World),w'.os=w.os->w'.tape=w.tape->w'.output=w.output->w.heap.size<=w'.heap.size->(∀ k,k<w.heap.size->¬S k->w'.heap[k]?=w.heap[k]?)->
  Rep F w' (.sl y63) (.own .ro) (gZ xs) [.slice a (List.length (xs:List Sy)) cp] S1->
  ue ⟨[(y62,.own .ro),(.fn 83,.ro)],[],[0],[(y62,.own .ro)],p82 N⟩ ((),(gZ xs,())) F w S [.slice a (List.length (xs:List Sy)) cp,.func (.func 83) #[] #[]] (.returned (.tuple #[])) w':=by
  intro w' q1 q2 q3 q4 q5 bG
  refine⟨[],F,af.none,S1,rfl,rfl,⟨_,[],_,S1,af.none,rfl,bG,by simp[VR,Ty.agg,Value.oneCell'],rfl,Sub.refl _,λ_ h=>h.elim,λ_ _ h=>h.elim⟩,λ_ h=>h.elim,⟨q1,q2,q3,q4,q5⟩,Sub.refl _,λk hk=>bA (hF k hk) q4,λk hk _ _=>hk,?_⟩
  rintro k (hk|hk)
  ·exact hk.elim
  ·exact⟨bA (hS k (s1 k hk)) q4,λhf=>hSF k (s1 k hk) hf,λ_=>s1 k hk⟩
 rcases h3 with rfl|⟨b,off,c,e,rfl,hb,hc,hSb,S0,hr,hS0,hnb⟩
 ·have e0:(xs:List Sy)=[]:=qL.1 (by omega)
  subst e0
  refine(AnyF.slices_SortFunc_none Tryz.sort_lays a 0 (.func (.func 83) #[] #[]) w).mono λe W he=>?_
  obtain⟨rfl,rfl⟩:=he
  exact fin W rfl rfl rfl (aq _) (λ_ _ _=>rfl) ⟨a,0,rfl,aq _,h2,.inl rfl⟩
 ·obtain⟨gS,hxk⟩:=DU (F:=F) (w:=w) (m:=.ro) hr
  have gS:(c.toList.drop off).take ((xs:List Sy).length*2)=syL xs:=gS
  have hc:off+cp*2<=c.size:=hc
  have hxc:off+(xs:List Sy).length*2<=c.size:=by omega
  have hbw:b<w.heap.size:=hS b (s1 b hSb)
  have hH:HoldsK kI 2 w b off (xs:List Sy).toArray:=by
   intro j hj
   have hj:j<(xs:List Sy).length*2:=by simpa using hj
   refine⟨?_,Mark.frz (e:=e) hb rfl (by show off+j<c.size;omega)⟩
   have:=AI xs j hj
   rw[<-gS,eB,if_pos hj,fQ,ft]at this
   simp only[World.cell?,hb,id]
   exact this
  have eg:∀ args w,(callFunc 83 args).run Tryz.prog w=.ok (.enter 83 args) w:=enters_of Tryz.func83 (by kernel_rfl) rfl
  have Vh:=AnyQ.slices_SortFunc_total Tryz.sort_lays 2 Tryz.isAgg64 Tryz.sizeOf64 kI Vd I5 p5 PV 83 #[] b off cp (xs:List Sy).toArray w eg (λ_ _ _ _ x y=>Sa x y _) hH hbw (by simpa using yb) Vc
  refine Vh.mono λe' W he=>?_
  obtain⟨rfl,n,os,rfl⟩:=he
  rw[show(xs:List Sy).toArray.toList=xs by simp,PX]
  have hh:∀ k:Nat,(sortWorldK kI 2 w b off n (gZ xs).toArray os).heap[k]?=((w.heap.modify b (onCells (putCells id off (flatK kI 2 (gZ xs).toArray))))++os)[k]?:=λk=>rfl
  refine fin _ rfl rfl rfl ?_ (λk hk hs=>?_) ?_
  ·show w.heap.size<=((w.heap.modify b _)++os).size
   simp
  ·have hkb:b≠k:=λh=>hs (h ▸ s1 b hSb)
   rw[hh,qH (by simpa using hk),nW,if_neg hkb]
  ·have sW:(sortWorldK kI 2 w b off n (gZ xs).toArray os).heap[b]?=some (.cells (putCells id off (flatK kI 2 (gZ xs).toArray) c) e.t (e.a,e.b)):=by
    rw[hh,qH (by simpa using hbw),nW,if_pos rfl,hb]
    rfl
   have hcs:(putCells id off (flatK kI 2 (gZ xs).toArray) c).size=c.size:=by unfold putCells;simp
   refine⟨_,cp,by rw[hlen],by rw[hlen];exact h1,h2,.inr ⟨b,off,_,e.to (iC hcs),rfl,sW,by rw[hcs];exact hc,hSb,af.none,?_,λ_ h=>h.elim,λh=>h⟩⟩
   show bq _ _ (((putCells id off (flatK kI 2 (gZ xs).toArray) c).toList.drop off).take ((gZ xs).length*2)) _
   rw[MO (gZ xs) off c (by rw[hlen];exact hxc)]
   exact DV λx hx=>hxk x ((iL xs).mem_iff.1 hx)
def F82(n:Nat):Fb 82:=⟨_,Ve n,MN⟩
end
end Go.Proofs.YthalkfdkbalpmaaGreat.Rf
namespace Go.Proofs.YthalkfdkbalpmaaGreat.Rf
open Go
noncomputable section
def p75(v1:Nat)(v2:T95):T51:=aj (p87 v1 (v2.1,v2.2.1.1,())) (λ(v3:T50)=>aw (λ(v4:T33)=>bif v4.2.1 then some (((false,0),false,()),())else if 0<=v2.2.1.2.1 then(match v3.1.1[(v2.2.1.2.1).toNat]? with|some v5=>some ((v5,true,()),())|none=>none)else none) (λv6=>bif !v3.1.2.1 then v6 (((false,0),()),true,())else bif decide (v2.2.1.2.1<0)then v6 (((false,0),()),true,())else v6 (((false,0),()),decide ((v3.1.1.length:Int)<=v2.2.1.2.1),())))
def F75(n:Nat):Fb 75:=fb n [⟨_,F87 n⟩] [12] [] [] Tryz.func75 Tryz.results75 Tryz.ntmps75 (.seq (.reg none [2,3]) (.seq .nop (.seq (.seq (.reg (some ⟨[(32,.box y63,.own (.pr .ro .ro))],[.val 28 y4],[3,4,6]⟩) []) .nop) (.seq (.reg none [4]) .nop)))) A8 [(y63,.ro),(y4,.ro)] [] [] (p75 n)
def p79(v1:Nat)(v2:T22):T61:=aE (λ(v3:T53)=>λv4=>bif decide (v3.2.2.1<(v2.1.length:Int))then aw (λ(v5:T38)=>v4 ((),v5.2.1,IntKind.wrap .i64 (v3.2.2.1+1),())) (λv6=>if 0<=v3.2.2.1 then(match v2.1[(v3.2.2.1).toNat]? with|some v7=>aj (MK v1 (v3.2.1,v7,(),())) (λ(v8:T11)=>bif v8.1.2.1 then if 0<=v8.1.1 then(match v3.2.1[(v8.1.1).toNat]? with|some v9=>if 0<=v8.1.1 then(match v3.2.1[(v8.1.1).toNat]? with|some v10=>if 0<=v8.1.1 then(match v3.2.1[(v8.1.1).toNat]? with|some v11=>v6 ((),List.set v3.2.1 (v8.1.1).toNat (v11.1,v11.2.1,eG .or .u64 v9.2.2 v7.2.2),())|none=>none)else none|none=>none)else none|none=>none)else none else aj (AH v1 (v3.2.1,v8.1.1,([v7]:List (Int×Int×Int)),())) (λ(v12:T46)=>v6 ((),v12.1.1,())))|none=>none)else none)else some ((v3.2.1,()),())) v1 ((),([]:List (Int×Int×Int)),0,())
def F79(n:Nat):Fb 79:=fb n [⟨_,F100 n⟩,⟨_,F101 n⟩,⟨_,F102 n⟩] [] [] [] Tryz.func79 Tryz.results79 Tryz.ntmps79 (.seq .nop (.seq .nop (.seq (.seq .nop (.block none (.loop ⟨[],[.hdr 3 31 y58 (.own .ro),.val 10 y2],[8,9]⟩ (.seq .nop (.seq .nop (.seq (.block (some ⟨[],[.hdr 3 31 y58 (.own .ro)],[8,9,10]⟩) (.seq (.reg none [5]) .nop)) .nop)))))) .nop))) A17 A17 [] [] (p79 n)
def p47(v1:Nat)(v2:(((List ((List Int)×Int×(List Int)))×(List (List Int))×(List (Int×(List Int)×(List (Bool×Int))×Bool×Int×(List Int)))×(List (Int×(List Int)))×Int)×((List Bool)×(List Int))×(List (Int×Int×Int))×Unit)):T61:=if 0<=(v2.1.2.2.1.length:Int)/\(v2.1.2.2.1.length:Int)<=(v2.1.2.2.1.length:Int)then if(v2.1.2.2.1.length:Int).toNat*1<=140737488355328 then if 0<=(v2.1.2.2.1.length:Int)/\(v2.1.2.2.1.length:Int)<=(v2.1.2.2.1.length:Int)then if(v2.1.2.2.1.length:Int).toNat*8<=140737488355328 then aj (p74 v1 (v2.2.2.1,())) (λ(v3:T46)=>aE (λ(v4:PF)=>λv5=>bif decide (0<(v4.1.1.2.2.2.2.length:Int))then if(0:Int)<=(0:Int)then(match v4.1.1.2.2.2.2[(0:Int).toNat]? with|some v6=>if(0:Int)<=(1:Int)/\(1:Int)<=(v4.1.1.2.2.2.2.length:Int)/\(v4.1.1.2.2.2.2.length:Int)<=(v4.1.1.2.2.2.2.length:Int)then aj (p75 v1 (v2.1,v6,())) (λ(v7:T34)=>aw (λ(v8:RT)=>aw (λ(v9:PF)=>v5 ((v9.1.1,()),())) (λv10=>bif v8.2.1 then aj (p78 v1 (v2.1,v6,())) (λ(v11:T36)=>aj (p77 v1 (v2.2.1,v11.1.1,v6.2.2,())) (λ(v12:T6)=>aj (p76 v1 (v8.1.1,v7.1.1.2,v12.1.1,())) (λ(v13:(Unit×(((List ((List Int)×Int×(List Int)))×(List (List Int))×(List (Int×(List Int)×(List (Bool×Int))×Bool×Int×(List Int)))×(List (Int×(List Int)))×Int)×((List Bool)×(List Int))×(List Bool)×(List Int)×(List (Int×Int×Int)))×Unit))=>v10 ((v13.2.1,()),()))))else v10 ((v8.1.1,()),()))) (λv14=>bif v7.1.2.1 then v14 (((v4.1.1.1,v4.1.1.2.1,v4.1.1.2.2.1,v4.1.1.2.2.2.1,cz v4.1.1.2.2.2.2 (1:Int) (v4.1.1.2.2.2.2.length:Int)),()),v7.1.1.1,())else v14 (((v4.1.1.1,v4.1.1.2.1,v4.1.1.2.2.1,v4.1.1.2.2.2.1,cz v4.1.1.2.2.2.2 (1:Int) (v4.1.1.2.2.2.2.length:Int)),()),false,())))else none|none=>none)else none else aj (p74 v1 (v2.2.2.1,())) (λ(v15:T46)=>aE (λ(v16:T53)=>λv17=>bif decide (v16.2.2.1<(v4.1.1.2.2.1.length:Int))then if 0<=v16.2.2.1 then(match v4.1.1.2.2.1[(v16.2.2.1).toNat]? with|some v18=>aw (λ(v19:T38)=>v17 ((),v19.2.1,IntKind.wrap .i64 (v16.2.2.1+1),())) (λv20=>bif v18 then if 0<=v16.2.2.1 then(match v4.1.1.2.2.2.1[(v16.2.2.1).toNat]? with|some v21=>if(List.length v16.2.1+List.length ([(v16.2.2.1,0,v21)]:List (Int×Int×Int)))*24<=140737488355328 then if List.length v16.2.1+List.length ([(v16.2.2.1,0,v21)]:List (Int×Int×Int))<=9223372036854775807 then v20 ((),v16.2.1++([(v16.2.2.1,0,v21)]:List (Int×Int×Int)),())else none else none|none=>none)else none else v20 ((),v16.2.1,()))|none=>none)else none else aj (p79 v1 (v16.2.1,())) (λ(v22:T46)=>some ((v22.1.1,()),()))) v1 ((),v15.1.1,0,()))) v1 (((v2.1,v2.2.1,List.replicate (v2.1.2.2.1.length:Int).toNat false,List.replicate (v2.1.2.2.1.length:Int).toNat (0:Int),v3.1.1),()),()))else none else none else none else none
def F47(n:Nat):Fb 47:=fb n [⟨_,F74 n⟩,⟨_,F75 n⟩,⟨_,F78 n⟩,⟨_,F77 n⟩,⟨_,F76 n⟩,⟨_,F79 n⟩] [26,65,69] [] [] Tryz.func47 Tryz.results47 Tryz.ntmps47 (.seq (.reg none [3,4]) (.seq .nop (.seq (.block none (.loop ⟨[(216,.box x7,.own (.pr .ro (.pr .ro (.pr (.own .ro) (.pr (.own .ro) (.own .ro))))))],[],[2,3,4,7]⟩ (.seq .nop (.block none (.seq (.reg none [8]) (.seq .nop (.seq (.reg none [9]) (.seq (.reg (some ⟨[(216,.box x7,.own (.pr .ro (.pr .ro (.pr (.own .ro) (.pr (.own .ro) (.own .ro))))))],[.val 58 y4],[2,3,4,7,8,9]⟩) []) (.cond (some ⟨[(216,.box x7,.own (.pr .ro (.pr .ro (.pr (.own .ro) (.pr (.own .ro) (.own .ro))))))],[],[2,3,4,7]⟩) .nop .nop))))))))) (.seq (.reg none [7]) (.seq (.seq .nop (.block none (.loop ⟨[],[.hdr 11 95 y58 (.own .ro),.val 77 y2],[7,75,76]⟩ (.seq .nop (.seq .nop (.seq (.block none (.seq .nop (.seq .nop (.cond (some ⟨[],[.hdr 11 95 y58 (.own .ro)],[7,75,76,77]⟩) .nop .nop)))) .nop)))))) .nop))))) [(y26,.ro),(mj,.ro),(y58,.ro)] A17 [] [] (p47 n)
def p83(v1:Nat)(v2:((Bool×Int)×(Bool×Int)×Unit)):T12:=aw (λ(v3:T4)=>bif v3.2.1 then some ((-1,()),())else aw (λ(v4:T4)=>bif v4.2.1 then some ((1,()),())else bif decide (v2.1.2<v2.2.1.2)then some ((-1,()),())else some ((0,()),())) (λv5=>bif !(v2.1.1 == v2.2.1.1)then v5 ((),true,())else v5 ((),decide (v2.2.1.2<v2.1.2),()))) (λv6=>bif !(v2.1.1 == v2.2.1.1)then v6 ((),v2.2.1.1,())else v6 ((),false,()))
def F83(n:Nat):Fb 83:=fb n [] [] [] [] Tryz.func83 Tryz.results83 Tryz.ntmps83 (.seq (.reg none [2,3]) (.seq (.block none (.seq (.reg (some ⟨[],[.val 5 y4],[2,3]⟩) []) (.cond none .nop (.seq (.reg (some ⟨[],[.val 15 y4],[2,3]⟩) []) .nop)))) .nop)) [(y63,.ro),(y63,.ro)] A19 [] [] (p83 n)
def p49(v1:Nat)(v2:T97):T52:=aE (λ(v3:T42)=>λv4=>bif decide (v3.2.2.1<(v2.2.1.length:Int))then if 0<=v3.2.2.1 then(match v2.2.1[(v3.2.2.1).toNat]? with|some v5=>aj (p75 v1 (v2.1,v5,())) (λ(v6:T34)=>aw (λ(v7:(((List (Bool×Int))×Unit)×Bool×Unit))=>aw (λ(v8:T30)=>v4 ((),v8.2.1,IntKind.wrap .i64 (v3.2.2.1+1),())) (λv9=>bif v7.2.1 then if(List.length v7.1.1+List.length ([v6.1.1]:List (Bool×Int)))*16<=140737488355328 then if List.length v7.1.1+List.length ([v6.1.1]:List (Bool×Int))<=9223372036854775807 then v9 ((),v7.1.1++([v6.1.1]:List (Bool×Int)),())else none else none else v9 ((),v7.1.1,()))) (λv10=>bif v6.1.2.1 then aj (p81 v1 (v3.2.1,v6.1.1,())) (λ(v11:T8)=>v10 ((v3.2.1,()),!v11.1.1,()))else v10 ((v3.2.1,()),false,())))|none=>none)else none else aj (p82 v1 (v3.2.1,(),())) (λ(v12:T30)=>some ((v12.2.1,()),()))) v1 ((),([]:List (Bool×Int)),0,())
def F49(n:Nat):Fb 49:=fb n [⟨_,F75 n⟩,⟨_,F81 n⟩,⟨_,F82 n⟩,⟨_,F83 n⟩] [] [] [] Tryz.func49 Tryz.results49 Tryz.ntmps49 (.seq (.reg none [2]) (.seq .nop (.seq (.seq .nop (.block none (.loop ⟨[],[.hdr 5 47 y62 (.own .ro),.val 12 y2],[2,10,11]⟩ (.seq .nop (.seq .nop (.seq (.block none (.seq (.reg none [7]) (.seq (.reg none [8]) (.seq (.reg (some ⟨[(47,y62,.own .ro)],[.val 28 y4],[2,5,8,10,11,12]⟩) []) (.cond (some ⟨[],[.hdr 5 47 y62 (.own .ro)],[2,10,11,12]⟩) .nop .nop))))) .nop)))))) .nop))) A9 [(y62,.ro)] [] [] (p49 n)
def p50(v1:Nat)(v2:T99):T61:=aE (λ(v3:T53)=>λv4=>bif decide (v3.2.2.1<(v2.2.1.length:Int))then if 0<=v3.2.2.1 then(match v2.2.1[(v3.2.2.1).toNat]? with|some v5=>aj (p75 v1 (v2.1,v5,())) (λ(v6:T34)=>aw (λ(v7:T72)=>aw (λ(v8:T38)=>v4 ((),v8.2.1,IntKind.wrap .i64 (v3.2.2.1+1),())) (λv9=>bif v7.2.1 then if(List.length v7.1.1+List.length ([(v7.1.2.1.1,IntKind.wrap .i64 (v7.1.2.1.2.1+1),v7.1.2.1.2.2)]:List (Int×Int×Int)))*24<=140737488355328 then if List.length v7.1.1+List.length ([(v7.1.2.1.1,IntKind.wrap .i64 (v7.1.2.1.2.1+1),v7.1.2.1.2.2)]:List (Int×Int×Int))<=9223372036854775807 then v9 ((),v7.1.1++([(v7.1.2.1.1,IntKind.wrap .i64 (v7.1.2.1.2.1+1),v7.1.2.1.2.2)]:List (Int×Int×Int)),())else none else none else v9 ((),v7.1.1,()))) (λv10=>bif v6.1.2.1 then v10 ((v3.2.1,v5,()),bif v6.1.1.1 == v2.2.2.1.1 then decide (v6.1.1.2=v2.2.2.1.2)else false,())else v10 ((v3.2.1,v5,()),false,())))|none=>none)else none else aj (p79 v1 (v3.2.1,())) (λ(v11:T46)=>some ((v11.1.1,()),()))) v1 ((),([]:List (Int×Int×Int)),0,())
def F50(n:Nat):Fb 50:=fb n [⟨_,F75 n⟩,⟨_,F79 n⟩] [] [] [⟨_,GC⟩] Tryz.func50 Tryz.results50 Tryz.ntmps50 (.seq (.reg none [3,5]) (.seq .nop (.seq (.seq .nop (.block none (.loop ⟨[],[.hdr 7 63 y58 (.own .ro),.val 14 y2],[3,5,12,13]⟩ (.seq .nop (.seq .nop (.seq (.block none (.seq .nop (.seq (.reg none [10]) (.seq (.reg (some ⟨[(63,y58,.own .ro),(72,.box y79,.own (.pr .ro (.pr .ro .ro)))],[.val 29 y4],[3,5,7,9,12,13,14]⟩) []) (.cond (some ⟨[],[.hdr 7 63 y58 (.own .ro)],[3,5,12,13,14]⟩) (.seq .nop (.rgf none [9] [])) .nop))))) .nop)))))) .nop))) [(y26,.ro),(y58,.ro),(y63,.ro)] A17 [] [] (p50 n)
def p18(v1:Nat)(v2:T92):Option ((((List (List (Int×Int×Int)))×(List (List ((Bool×Int)×Int))))×Int×Unit)×Unit):=aj (p31 v1 (v2.1,())) (λ(v3:T25)=>bif !(decide (v3.1.1.1=0))then some (((([]:List (List (Int×Int×Int))),([]:List (List ((Bool×Int)×Int)))),v3.1.1.1,()),())else aj (p44 v1 (v2.1,())) (λ(v4:((((List Bool)×(List Int))×Unit)×Unit))=>aj (p48 v1 (v2.1,())) (λ(v5:T46)=>aj (p47 v1 (v2.1,v4.1.1,v5.1.1,())) (λ(v6:T46)=>aj (p45 v1 (v6.1.1,([]:List ((List Int)×Int)),(([]:List (List (Int×Int×Int))),([]:List (List ((Bool×Int)×Int)))),())) (λ(v7:T91)=>aE (λ(v8:((((List (List (Int×Int×Int)))×(List (List ((Bool×Int)×Int))))×((List (List (Int×Int×Int)))×(List (List ((Bool×Int)×Int))))×(List ((List Int)×Int))×Unit)×Int×Unit))=>λv9=>bif decide (v8.2.1<(v8.1.2.1.1.length:Int))then bif decide (2000<(v8.1.2.1.1.length:Int))then some (((([]:List (List (Int×Int×Int))),([]:List (List ((Bool×Int)×Int)))),6,()),())else if 0<=v8.2.1 then(match v8.1.2.1.1[(v8.2.1).toNat]? with|some v10=>aj (p49 v1 (v2.1,v10,())) (λ(v11:T36)=>aE (λ(v12:((((List (List (Int×Int×Int)))×(List (List ((Bool×Int)×Int))))×((List (List (Int×Int×Int)))×(List (List ((Bool×Int)×Int))))×(List ((List Int)×Int))×Unit)×(List ((Bool×Int)×Int))×Int×Unit))=>λv13=>bif decide (v12.2.2.1<(v11.1.1.length:Int))then if 0<=v12.2.2.1 then(match v11.1.1[(v12.2.2.1).toNat]? with|some v14=>if 0<=v8.2.1 then(match v12.1.2.1.1[(v8.2.1).toNat]? with|some v15=>aj (p50 v1 (v2.1,v15,v14,())) (λ(v16:T46)=>aj (p47 v1 (v2.1,v4.1.1,v16.1.1,())) (λ(v17:T46)=>aj (p45 v1 (v17.1.1,v12.1.2.2.1,v12.1.2.1,())) (λ(v18:T91)=>if(List.length v12.2.1+List.length ([(v14,v18.1.1)]:List ((Bool×Int)×Int)))*24<=140737488355328 then if List.length v12.2.1+List.length ([(v14,v18.1.1)]:List ((Bool×Int)×Int))<=9223372036854775807 then v13 ((v12.1.1,v18.2.2.1,v18.2.1,()),v12.2.1++([(v14,v18.1.1)]:List ((Bool×Int)×Int)),IntKind.wrap .i64 (v12.2.2.1+1),())else none else none)))|none=>none)else none|none=>none)else none else if(List.length v12.1.2.1.2+List.length ([v12.2.1]:List (List ((Bool×Int)×Int))))*24<=140737488355328 then if List.length v12.1.2.1.2+List.length ([v12.2.1]:List (List ((Bool×Int)×Int)))<=9223372036854775807 then v9 ((v12.1.1,(v12.1.2.1.1,v12.1.2.1.2++([v12.2.1]:List (List ((Bool×Int)×Int)))),v12.1.2.2.1,()),IntKind.wrap .i64 (v8.2.1+1),())else none else none) v1 ((v8.1.1,v8.1.2.1,v8.1.2.2.1,()),([]:List ((Bool×Int)×Int)),0,()))|none=>none)else none else some ((v8.1.2.1,0,()),())) v1 (((([]:List (List (Int×Int×Int))),([]:List (List ((Bool×Int)×Int)))),v7.2.2.1,v7.2.1,()),0,()))))))
def F18(n:Nat):Fb 18:=fb n [⟨_,F31 n⟩,⟨_,F44 n⟩,⟨_,F45 n⟩,⟨_,F48 n⟩,⟨_,F47 n⟩,⟨_,F49 n⟩,⟨_,F50 n⟩] [18,22,29,30,31,43,50,68,69,70] [] [] Tryz.func18 Tryz.results18 Tryz.ntmps18 (.seq (.reg none [1]) (.seq (.seq (.reg none [4]) .nop) (.seq (.reg none [5]) (.seq .nop (.seq .nop (.seq .nop (.seq .nop (.seq (.seq .nop (.block none (.loop ⟨[(16,.box y52,.own (.pr (.own .ro) (.own .ro))),(48,.box y52,.own (.pr (.own .ro) (.own .ro))),(56,.box s8,.own (.own .ro))],[.val 9 y2],[1,2,5,6,8]⟩ (.seq .nop (.seq (.block none (.seq .nop (.seq .nop (.seq (.seq .nop (.block none (.loop ⟨[(16,.box y52,.own (.pr (.own .ro) (.own .ro))),(48,.box y52,.own (.pr (.own .ro) (.own .ro))),(56,.box s8,.own (.own .ro))],[.hdr 10 87 y61 (.own .ro),.val 52 y2],[1,2,5,6,8,9,50,51]⟩ (.seq .nop (.seq .nop (.seq (.block none (.seq (.reg none [12]) .nop)) .nop)))))) (.rgf none [10] []))))) .nop))))) (.seq (.rgf none [6] [2]) .nop))))))))) A15 [(y52,.ro),(y2,.ro)] [] [] (p18 n)
def p19(v1:Nat)(v2:(((List (List (Int×Int×Int)))×(List (List ((Bool×Int)×Int))))×Unit)):T12:=some (((v2.1.1.length:Int),()),())
def F19(n:Nat):Fb 19:=fb n [] [] [] [] Tryz.func19 Tryz.results19 Tryz.ntmps19 (.seq (.reg none [1]) .nop) [(y52,.ro)] A19 [] [] (p19 n)
def p16(v1:Nat)(v2:Unit):T14:=aj (p18 v1 ((([(([65]:List Int),0,([97]:List Int))]:List ((List Int)×Int×(List Int))),([([83]:List Int)]:List (List Int)),([(0,([80]:List Int),([(false,0)]:List (Bool×Int)),false,-1,([]:List Int))]:List (Int×(List Int)×(List (Bool×Int))×Bool×Int×(List Int))),([]:List (Int×(List Int))),0),())) (λ(v3:T85)=>aw (λ(v4:T4)=>some ((v4.2.1,()),())) (λv5=>bif decide (v3.1.2.1=0)then aj (p19 v1 (v3.1.1,())) (λ(v6:T6)=>v5 ((),decide (v6.1.1=3),()))else v5 ((),false,())))
def F16(n:Nat):Fb 16:=fb n [⟨_,F18 n⟩,⟨_,F19 n⟩] [9,11] [] [] Tryz.func16 Tryz.results16 Tryz.ntmps16 (.seq .nop (.seq (.reg none [1]) (.seq (.reg (some ⟨[],[.val 0 y4],[]⟩) []) .nop))) [] A18 [] [] (p16 n)
def p42(v1:Nat)(v2:T92):T14:=aw (λ(v3:T4)=>bif v3.2.1 then some ((false,()),())else aE (λ(v4:T3)=>λv5=>bif decide (v4.2.1<(v2.1.1.length:Int))then if 0<=v4.2.1 then(match v2.1.1[(v4.2.1).toNat]? with|some v6=>bif decide (12<(v6.2.2.length:Int))then some ((false,()),())else v5 ((),IntKind.wrap .i64 (v4.2.1+1),())|none=>none)else none else aj (p13 v1 (v2.1,())) (λ(v7:((Int×Int×Int×Unit)×Unit))=>some ((decide (v7.1.1=0),()),()))) v1 ((),0,())) (λv8=>aj (p8 v1 (v2.1,())) (λ(v9:T8)=>bif !v9.1.1 then v8 ((),true,())else v8 ((),decide (12<(v2.1.2.2.1.length:Int)),())))
def F42(n:Nat):Fb 42:=fb n [⟨_,F8 n⟩,⟨_,F13 n⟩] [] [] [] Tryz.func42 Tryz.results42 Tryz.ntmps42 (.seq (.reg none [1]) (.seq (.seq (.reg (some ⟨[],[.val 15 y4],[1]⟩) []) .nop) (.seq (.seq .nop (.block none (.loop ⟨[],[.val 3 y2],[1]⟩ .nop))) .nop))) A15 A18 [] [] (p42 n)
def p86(v1:Nat)(v2:T7):T12:=aE (λ(v3:(Unit×Int×Int×Int×Unit))=>λv4=>aw (λ(v5:T4)=>bif v5.2.1 then if 0<=v3.2.2.2.1 then(match v2.1[(v3.2.2.2.1).toNat]? with|some v6=>aw (λ(v7:T3)=>v4 ((),v7.2.1,IntKind.wrap .u64 (v3.2.2.1*2),IntKind.wrap .i64 (v3.2.2.2.1+1),())) (λv8=>bif v6 then v8 ((),IntKind.wrap .u64 (v3.2.1+v3.2.2.1),())else v8 ((),v3.2.1,()))|none=>none)else none else some ((v3.2.1,()),())) (λv9=>bif decide (v3.2.2.2.1<(v2.1.length:Int))then v9 ((),decide (v3.2.2.2.1<64),())else v9 ((),false,()))) v1 ((),0,1,0,())
def F86(n:Nat):Fb 86:=fb n [] [] [] [] Tryz.func86 Tryz.results86 Tryz.ntmps86 (.seq .nop (.seq .nop (.seq (.seq .nop (.block none (.loop ⟨[],[.val 3 y12,.val 4 y12,.val 5 y2],[0]⟩ (.seq (.seq (.reg (some ⟨[],[.val 13 y4],[0,3,4,5]⟩) []) .nop) (.seq (.block none (.seq (.seq .nop (.cond (some ⟨[],[.val 3 y12],[0,4,5]⟩) .nop .nop)) .nop)) .nop))))) .nop))) A14 A16 [] [] (p86 n)
def p56(v1:Nat)(v2:T1):T12:=if(0:Int)<=(64:Int)/\(64:Int)<=(64:Int)then if(64:Int).toNat*1<=140737488355328 then aw (λ(v3:T32)=>aw (λ(v4:T15)=>aj (p86 v1 (v4.1.1,())) (λ(v5:T6)=>some ((v5.1.1,()),()))) (λv6=>bif v3.2.1 then if 0<=v2.1 then(match v3.1.1[(v2.1).toNat]? with|some v7=>if 0<=v2.1 then(match v3.1.1[(v2.1).toNat]? with|some v8=>v6 ((List.set v3.1.1 (v2.1).toNat true,()),())|none=>none)else none|none=>none)else none else v6 ((v3.1.1,()),()))) (λv9=>bif decide (0<=v2.1)then v9 ((List.replicate (64:Int).toNat false,()),decide (v2.1<64),())else v9 ((List.replicate (64:Int).toNat false,()),false,()))else none else none
def F56(n:Nat):Fb 56:=fb n [⟨_,F86 n⟩] [] [] [] Tryz.func56 Tryz.results56 Tryz.ntmps56 (.seq .nop (.seq .nop (.seq (.seq (.reg (some ⟨[(32,dx,.own .ro)],[.val 10 y4],[0,3]⟩) []) (.cond (some ⟨[(32,dx,.own .ro)],[],[3]⟩) .nop .nop)) .nop))) A19 A16 [] [] (p56 n)
def p24(v1:Nat)(v2:T92):T61:=aj (p56 v1 (63,())) (λ(v3:T6)=>some ((([((v2.1.2.2.1.length:Int),0,v3.1.1)]:List (Int×Int×Int)),()),()))
def F24(n:Nat):Fb 24:=fb n [⟨_,F56 n⟩] [] [] [] Tryz.func24 Tryz.results24 Tryz.ntmps24 (.seq (.reg none [1]) .nop) A15 A17 [] [] (p24 n)
def p51(v1:Nat)(v2:T92):T35:=if 0<=(v2.1.2.1.length:Int)/\(v2.1.2.1.length:Int)<=(v2.1.2.1.length:Int)then if(v2.1.2.1.length:Int).toNat*1<=140737488355328 then aE (λ(v3:T27)=>λv4=>bif decide (v3.2.1<=(v3.1.1.length:Int))then aE (λ(v5:T27)=>λv6=>bif decide (v5.2.1<(v2.1.2.2.1.length:Int))then if 0<=v5.2.1 then(match v2.1.2.2.1[(v5.2.1).toNat]? with|some v7=>aE (λ(v8:T43)=>λv9=>bif decide (v8.2.2.1<(v7.2.2.1.length:Int))then if 0<=v8.2.2.1 then(match v7.2.2.1[(v8.2.2.1).toNat]? with|some v10=>aw (λ(v11:T32)=>v9 ((v11.1.1,()),v11.2.1,IntKind.wrap .i64 (v8.2.2.1+1),())) (λv12=>bif v8.2.1 then bif v10.1 then bif decide (0<=v10.2)then bif decide (v10.2<(v8.1.1.length:Int))then if 0<=v10.2 then(match v8.1.1[(v10.2).toNat]? with|some v13=>v12 ((v8.1.1,()),v13,())|none=>none)else none else v12 ((v8.1.1,()),false,())else v12 ((v8.1.1,()),false,())else v12 ((v8.1.1,()),false,())else v12 ((v8.1.1,()),false,()))|none=>none)else none else aw (λ(v14:T32)=>aw (λ(v15:T15)=>v6 ((v15.1.1,()),IntKind.wrap .i64 (v5.2.1+1),())) (λv16=>bif v14.2.1 then if 0<=v7.1 then(match v14.1.1[(v7.1).toNat]? with|some v17=>if 0<=v7.1 then(match v14.1.1[(v7.1).toNat]? with|some v18=>v16 ((List.set v14.1.1 (v7.1).toNat true,()),())|none=>none)else none|none=>none)else none else v16 ((v14.1.1,()),()))) (λv19=>bif v8.2.1 then bif decide (0<=v7.1)then v19 ((v8.1.1,()),decide (v7.1<(v8.1.1.length:Int)),())else v19 ((v8.1.1,()),false,())else v19 ((v8.1.1,()),false,()))) v1 ((v5.1.1,()),true,0,())|none=>none)else none else v4 ((v5.1.1,()),IntKind.wrap .i64 (v3.2.1+1),())) v1 ((v3.1.1,()),0,())else some ((v3.1.1,()),())) v1 ((List.replicate (v2.1.2.1.length:Int).toNat false,()),0,())else none else none
def F51(n:Nat):Fb 51:=fb n [] [] [] [] Tryz.func51 Tryz.results51 Tryz.ntmps51 (.seq (.reg none [1]) (.seq .nop (.seq (.seq .nop (.block none (.loop ⟨[(104,dx,.own .ro)],[.val 4 y2],[1,3]⟩ (.seq .nop (.seq (.block none (.seq .nop (.block none (.loop ⟨[(104,dx,.own .ro)],[.val 5 y2],[1,3,4]⟩ (.seq .nop (.seq (.block none (.seq (.reg none [6]) (.seq (.seq .nop (.block none (.loop ⟨[(104,dx,.own .ro)],[.val 7 y4,.val 8 y2],[1,3,4,5,6]⟩ (.seq .nop (.seq (.block none (.seq (.reg none [9]) (.reg (some ⟨[(104,dx,.own .ro)],[.val 7 y4],[1,3,4,5,6,8]⟩) []))) .nop))))) (.seq (.reg (some ⟨[(104,dx,.own .ro)],[.val 80 y4],[1,3,4,5,6]⟩) []) (.cond (some ⟨[(104,dx,.own .ro)],[],[1,3,4,5]⟩) .nop .nop))))) .nop)))))) .nop))))) .nop))) A15 A14 [] [] (p51 n)
def I6(v1:Nat)(v2:T2):T14:=aw (λ(v3:T4)=>bif v3.2.1 then some ((false,()),())else aE (λ(v4:T9)=>λv5=>bif decide (v4.2.2.1<v2.2.1)then if(2:Int)=0 then none else v5 ((),IntKind.wrap .u64 (Int.tdiv v4.2.1 2),IntKind.wrap .i64 (v4.2.2.1+1),())else if(2:Int)=0 then none else some ((decide ((Int.tmod v4.2.1 2)=1),()),())) v1 ((),v2.1,0,())) (λv6=>bif decide (v2.2.1<0)then v6 ((),true,())else v6 ((),decide (63<v2.2.1),()))
def F106(n:Nat):Fb 106:=fb n [] [] [] [] Tryz.func106 Tryz.results106 Tryz.ntmps106 (.seq .nop (.seq (.seq (.reg (some ⟨[],[.val 11 y4],[0,1]⟩) []) .nop) (.seq (.seq .nop (.block none (.loop ⟨[],[.val 0 y12,.val 5 y2],[1]⟩ .nop))) .nop))) [(y12,.ro),(y2,.ro)] A18 [] [] (I6 n)
def p85(v1:Nat)(v2:T2):T12:=if(0:Int)<=(64:Int)/\(64:Int)<=(64:Int)then if(64:Int).toNat*1<=140737488355328 then aE (λ(v3:T27)=>λv4=>bif decide (v3.2.1<64)then aw (λ(v5:T15)=>v4 ((v5.1.1,()),IntKind.wrap .i64 (v3.2.1+1),())) (λv6=>aj (I6 v1 (v2.1,v3.2.1,())) (λ(v7:T8)=>bif v7.1.1 then if 0<=v3.2.1 then(match v3.1.1[(v3.2.1).toNat]? with|some v8=>if 0<=v3.2.1 then(match v3.1.1[(v3.2.1).toNat]? with|some v9=>v6 ((List.set v3.1.1 (v3.2.1).toNat true,()),())|none=>none)else none|none=>none)else none else aj (I6 v1 (v2.2.1,v3.2.1,())) (λ(v10:T8)=>if 0<=v3.2.1 then(match v3.1.1[(v3.2.1).toNat]? with|some v11=>if 0<=v3.2.1 then(match v3.1.1[(v3.2.1).toNat]? with|some v12=>v6 ((List.set v3.1.1 (v3.2.1).toNat v10.1.1,()),())|none=>none)else none|none=>none)else none)))else aj (p86 v1 (v3.1.1,())) (λ(v13:T6)=>some ((v13.1.1,()),()))) v1 ((List.replicate (64:Int).toNat false,()),0,())else none else none
def F85(n:Nat):Fb 85:=fb n [⟨_,F106 n⟩,⟨_,F86 n⟩] [] [] [] Tryz.func85 Tryz.results85 Tryz.ntmps85 (.seq .nop (.seq .nop (.seq (.seq .nop (.block none (.loop ⟨[(56,dx,.own .ro)],[.val 6 y2],[0,1,5]⟩ (.seq .nop (.seq (.block none (.reg (some ⟨[(56,dx,.own .ro)],[],[0,1,5,6]⟩) [])) .nop))))) .nop))) [(y12,.ro),(y12,.ro)] A16 [] [] (p85 n)
abbrev Q84:=Qt [(dx,.ro),(y73,.ro),(y62,.ro)] A11 []
abbrev C84(q:Q84):Callee:=⟨_,_,[],_,q⟩
theorem l84:Plain Tryz.prog 84:=pl Tryz.func84
abbrev H84(q84:Q84):=fX Tryz.prog 84 (C84 q84)
def MP(v1:Nat)(v2:((List Bool)×(List Int)×(List (Bool×Int))×Unit)->Option ((Int×Bool×Unit)×Unit))(v3:T66):T29:=bif decide ((v3.2.2.1.length:Int)=0)then some ((0,true,()),())else if(0:Int)<=(0:Int)then(match v3.2.2.1[(0:Int).toNat]? with|some v4=>bif !v4.1 then aj (p56 v1 (v4.2,())) (λ(v5:T6)=>some ((v5.1.1,false,()),()))else aw (λ(v6:T4)=>bif v6.2.1 then some ((0,false,()),())else if 0<=v4.2 then(match v3.1[(v4.2).toNat]? with|some v7=>bif !v7 then if 0<=v4.2 then(match v3.2.1[(v4.2).toNat]? with|some v8=>some ((v8,false,()),())|none=>none)else none else if(0:Int)<=(1:Int)/\(1:Int)<=(v3.2.2.1.length:Int)/\(v3.2.2.1.length:Int)<=(v3.2.2.1.length:Int)then aj (v2 (v3.1,v3.2.1,cz v3.2.2.1 (1:Int) (v3.2.2.1.length:Int),())) (λ(v9:T11)=>if 0<=v4.2 then(match v3.2.1[(v4.2).toNat]? with|some v10=>aj (p85 v1 (v10,v9.1.1,())) (λ(v11:T6)=>some ((v11.1.1,v9.1.2.1,()),()))|none=>none)else none)else none|none=>none)else none) (λv12=>bif decide (v4.2<0)then v12 ((),true,())else bif decide ((v3.1.length:Int)<=v4.2)then v12 ((),true,())else v12 ((),decide ((v3.2.1.length:Int)<=v4.2),()))|none=>none)else none
theorem b84(n:Nat)(q84:Q84)(h:H84 q84):fX Tryz.prog 84 (C84 (MP n q84)):=(fb n [⟨_,F56 n⟩,⟨_,F85 n⟩,⟨_,⟨_,h,l84⟩⟩] [] [] [] Tryz.func84 Tryz.results84 Tryz.ntmps84 (.seq .nop (.seq .nop (.seq (.reg none [8]) (.seq .nop (.seq (.seq (.reg (some ⟨[],[.val 39 y4],[0,1,2,8]⟩) []) .nop) .nop))))) [(dx,.ro),(y73,.ro),(y62,.ro)] A11 [] [] (MP n q84)).o
def I7(n:Nat):Nat->T66->T29
 |0,_=>none
 |d+1,x=>MP n (I7 n d) x
theorem g84(n:Nat):∀ d,H84 (I7 n d)
 |0=>(λx r h=>by cases h)
 |d+1=>b84 n _ (g84 n d)
def p84(n:Nat)(x:T66):T29:=I7 n n x
def F84(n:Nat):Fb 84:=⟨C84 (p84 n),g84 n n,l84⟩
def p52(v1:Nat)(v2:T92):T31:=aj (p51 v1 (v2.1,())) (λ(v3:T15)=>if 0<=(v2.1.2.1.length:Int)/\(v2.1.2.1.length:Int)<=(v2.1.2.1.length:Int)then if(v2.1.2.1.length:Int).toNat*8<=140737488355328 then aE (λ(v4:T23)=>λv5=>bif decide (v4.2.1<=(IntKind.wrap .i64 ((64:Int)*(v4.1.1.length:Int))))then aE (λ(v6:(((List Int)×Unit)×Bool×Int×Unit))=>λv7=>bif decide (v6.2.2.1<(v2.1.2.2.1.length:Int))then aw (λ(v8:T28)=>v7 ((v8.1.1,()),v8.2.1,IntKind.wrap .i64 (v6.2.2.1+1),())) (λv9=>if 0<=v6.2.2.1 then(match v2.1.2.2.1[(v6.2.2.1).toNat]? with|some v10=>aw (λ(v11:T28)=>bif v11.2.1 then v9 ((v11.1.1,()),v6.2.1,())else aj (p84 v1 (v3.1.1,v11.1.1,v10.2.2.1,())) (λ(v12:T11)=>if 0<=v10.1 then(match v11.1.1[(v10.1).toNat]? with|some v13=>aj (p85 v1 (v12.1.1,v13,())) (λ(v14:T6)=>aw (λ(v15:T28)=>if 0<=v10.1 then(match v15.1.1[(v10.1).toNat]? with|some v16=>if 0<=v10.1 then(match v15.1.1[(v10.1).toNat]? with|some v17=>v9 ((List.set v15.1.1 (v10.1).toNat v14.1.1,()),v15.2.1,())|none=>none)else none|none=>none)else none) (λv18=>bif v6.2.1 then v18 ((v11.1.1,()),true,())else if 0<=v10.1 then(match v11.1.1[(v10.1).toNat]? with|some v19=>v18 ((v11.1.1,()),!(decide (v14.1.1=v19)),())|none=>none)else none))|none=>none)else none)) (λv20=>bif decide (v10.1<0)then v20 ((v6.1.1,()),true,())else v20 ((v6.1.1,()),decide ((v6.1.1.length:Int)<=v10.1),()))|none=>none)else none)else bif !v6.2.1 then some ((v6.1.1,()),())else v5 ((v6.1.1,()),IntKind.wrap .i64 (v4.2.1+1),())) v1 ((v4.1.1,()),false,0,())else some ((v4.1.1,()),())) v1 ((List.replicate (v2.1.2.1.length:Int).toNat (0:Int),()),0,())else none else none)
def F52(n:Nat):Fb 52:=fb n [⟨_,F51 n⟩,⟨_,F84 n⟩,⟨_,F85 n⟩] [12] [] [] Tryz.func52 Tryz.results52 Tryz.ntmps52 (.seq (.reg none [1]) (.seq .nop (.seq .nop (.seq (.seq .nop (.block none (.loop ⟨[(128,y73,.own .ro)],[.val 5 y2],[1,3,4]⟩ (.seq .nop (.seq (.block none (.seq .nop (.seq (.seq .nop (.block none (.loop ⟨[(128,y73,.own .ro)],[.val 6 y4,.val 7 y2],[1,3,4,5]⟩ (.seq .nop (.seq (.block (some ⟨[(128,y73,.own .ro)],[.val 6 y4],[1,3,4,5,7]⟩) (.seq (.reg none [8]) (.seq (.seq (.reg (some ⟨[(128,y73,.own .ro)],[.val 45 y4],[1,3,4,5,6,7,8]⟩) []) .nop) (.seq .nop (.seq .nop (.seq (.reg (some ⟨[(128,y73,.own .ro)],[.val 6 y4],[1,3,4,5,7,8,9]⟩) []) .nop)))))) .nop))))) .nop))) .nop))))) .nop)))) A15 [(y73,.ro)] [] [] (p52 n)
def p53(v1:Nat)(v2:T22):T61:=aE (λ(v3:T53)=>λv4=>bif decide (v3.2.2.1<(v2.1.length:Int))then aE (λ(v5:(((List (Int×Int×Int))×Unit)×Int×Int×Unit))=>λv6=>bif decide (v5.2.2.1<(v2.1.length:Int))then aw (λ(v7:T59)=>aw (λ(v8:T59)=>aw (λ(v9:(((List (Int×Int×Int))×Unit)×Int×Unit))=>v6 ((v9.1.1,()),v9.2.1,IntKind.wrap .i64 (v5.2.2.1+1),())) (λv10=>bif v8.2.1 then v10 ((v8.1.1,()),v5.2.2.1,())else v10 ((v8.1.1,()),v5.2.1,()))) (λv11=>bif v7.2.1 then bif decide (v5.2.1<0)then v11 ((v7.1.1,()),true,())else if 0<=v5.2.2.1 then(match v2.1[(v5.2.2.1).toNat]? with|some v12=>if 0<=v5.2.1 then(match v2.1[(v5.2.1).toNat]? with|some v13=>bif decide (v12.1<v13.1)then v11 ((v7.1.1,()),true,())else if 0<=v5.2.2.1 then(match v2.1[(v5.2.2.1).toNat]? with|some v14=>if 0<=v5.2.1 then(match v2.1[(v5.2.1).toNat]? with|some v15=>bif decide (v14.1=v15.1)then if 0<=v5.2.2.1 then(match v2.1[(v5.2.2.1).toNat]? with|some v16=>if 0<=v5.2.1 then(match v2.1[(v5.2.1).toNat]? with|some v17=>v11 ((v7.1.1,()),decide (v16.2.1<v17.2.1),())|none=>none)else none|none=>none)else none else v11 ((v7.1.1,()),false,())|none=>none)else none|none=>none)else none|none=>none)else none|none=>none)else none else v11 ((v7.1.1,()),false,()))) (λv18=>bif decide ((v5.1.1.length:Int)=0)then v18 ((v5.1.1,()),true,())else if 0<=v5.2.2.1 then(match v2.1[(v5.2.2.1).toNat]? with|some v19=>if 0<=(IntKind.wrap .i64 ((v5.1.1.length:Int)-1))then(match v5.1.1[(IntKind.wrap .i64 ((v5.1.1.length:Int)-1)).toNat]? with|some v20=>bif decide (v20.1<v19.1)then v18 ((v5.1.1,()),true,())else if 0<=v5.2.2.1 then(match v2.1[(v5.2.2.1).toNat]? with|some v21=>if 0<=(IntKind.wrap .i64 ((v5.1.1.length:Int)-1))then(match v5.1.1[(IntKind.wrap .i64 ((v5.1.1.length:Int)-1)).toNat]? with|some v22=>bif decide (v21.1=v22.1)then if 0<=v5.2.2.1 then(match v2.1[(v5.2.2.1).toNat]? with|some v23=>if 0<=(IntKind.wrap .i64 ((v5.1.1.length:Int)-1))then(match v5.1.1[(IntKind.wrap .i64 ((v5.1.1.length:Int)-1)).toNat]? with|some v24=>v18 ((v5.1.1,()),decide (v24.2.1<v23.2.1),())|none=>none)else none|none=>none)else none else v18 ((v5.1.1,()),false,())|none=>none)else none|none=>none)else none|none=>none)else none|none=>none)else none)else bif decide (v5.2.1<0)then some ((v5.1.1,()),())else if 0<=v5.2.1 then(match v2.1[(v5.2.1).toNat]? with|some v25=>if 0<=v5.2.1 then(match v2.1[(v5.2.1).toNat]? with|some v26=>aE (λ(v27:(((List (Int×Int×Int))×(Int×Int×Int)×Unit)×Int×Unit))=>λv28=>bif decide (v27.2.1<(v2.1.length:Int))then aw (λ(v29:T72)=>aw (λ(v30:(((List (Int×Int×Int))×(Int×Int×Int)×Unit)×Unit))=>v28 ((v30.1.1,v30.1.2.1,()),IntKind.wrap .i64 (v27.2.1+1),())) (λv31=>bif v29.2.1 then if 0<=v27.2.1 then(match v2.1[(v27.2.1).toNat]? with|some v32=>aj (p85 v1 (v29.1.2.1.2.2,v32.2.2,())) (λ(v33:T6)=>v31 ((v29.1.1,(v29.1.2.1.1,v29.1.2.1.2.1,v33.1.1),()),()))|none=>none)else none else v31 ((v29.1.1,v29.1.2.1,()),()))) (λv34=>if 0<=v27.2.1 then(match v2.1[(v27.2.1).toNat]? with|some v35=>bif decide (v35.1=v27.1.2.1.1)then if 0<=v27.2.1 then(match v2.1[(v27.2.1).toNat]? with|some v36=>v34 ((v27.1.1,v27.1.2.1,()),decide (v36.2.1=v27.1.2.1.2.1),())|none=>none)else none else v34 ((v27.1.1,v27.1.2.1,()),false,())|none=>none)else none)else if(List.length v27.1.1+List.length ([v27.1.2.1]:List (Int×Int×Int)))*24<=140737488355328 then if List.length v27.1.1+List.length ([v27.1.2.1]:List (Int×Int×Int))<=9223372036854775807 then v4 ((),v27.1.1++([v27.1.2.1]:List (Int×Int×Int)),IntKind.wrap .i64 (v3.2.2.1+1),())else none else none) v1 ((v5.1.1,(v25.1,v26.2.1,0),()),0,())|none=>none)else none|none=>none)else none) v1 ((v3.2.1,()),-1,0,())else some ((v3.2.1,()),())) v1 ((),([]:List (Int×Int×Int)),0,())
def F53(n:Nat):Fb 53:=fb n [⟨_,F85 n⟩] [] [] [] Tryz.func53 Tryz.results53 Tryz.ntmps53 (.seq .nop (.seq .nop (.seq (.seq .nop (.block none (.loop ⟨[],[.hdr 3 31 y58 (.own .ro),.val 4 y2],[0]⟩ (.seq .nop (.seq (.block none (.seq .nop (.seq (.seq .nop (.block none (.loop ⟨[(31,y58,.own .ro)],[.val 5 y2,.val 6 y2],[0,3,4]⟩ (.seq .nop (.seq (.block none (.seq (.reg (some ⟨[(31,y58,.own .ro)],[.val 7 y4],[0,3,4,5,6]⟩) []) (.seq (.reg (some ⟨[(31,y58,.own .ro)],[.val 113 y4],[0,3,4,5,6]⟩) []) (.cond (some ⟨[(31,y58,.own .ro)],[.val 5 y2],[0,3,4,6]⟩) .nop .nop)))) .nop))))) (.seq .nop (.seq .nop (.seq (.seq .nop (.block none (.loop ⟨[(31,y58,.own .ro),(64,.box y79,.own (.pr .ro (.pr .ro .ro)))],[.val 9 y2],[0,3,4,8]⟩ (.seq .nop (.seq (.block none (.seq (.reg (some ⟨[(31,y58,.own .ro),(64,.box y79,.own (.pr .ro (.pr .ro .ro)))],[.val 152 y4],[0,3,4,8,9]⟩) []) (.cond (some ⟨[(31,y58,.own .ro),(64,.box y79,.own (.pr .ro (.pr .ro .ro)))],[],[0,3,4,8,9]⟩) .nop .nop))) .nop))))) (.rgf none [8] []))))))) .nop))))) .nop))) A17 A17 [] [] (p53 n)
def p29(v1:Nat)(v2:T93):T62:=aw (λ(v3:T4)=>bif v3.2.1 then some ((([]:List (Bool×Int)),false,()),())else bif decide (v2.2.1=(v2.1.2.2.1.length:Int))then some ((([(true,v2.1.2.2.2.2)]:List (Bool×Int)),true,()),())else if 0<=v2.2.1 then(match v2.1.2.2.1[(v2.2.1).toNat]? with|some v4=>some ((v4.2.2.1,true,()),())|none=>none)else none) (λv5=>bif decide (v2.2.1<0)then v5 ((),true,())else v5 ((),decide ((v2.1.2.2.1.length:Int)<v2.2.1),()))
def F29(n:Nat):Fb 29:=fb n [] [] [] [] Tryz.func29 Tryz.results29 Tryz.ntmps29 (.seq (.reg none [2]) (.seq (.seq (.reg (some ⟨[],[.val 14 y4],[1,2]⟩) []) .nop) .nop)) A10 [(y62,.ro),(y4,.ro)] [] [] (p29 n)
def p54(v1:Nat)(v2:T95):T51:=aj (p29 v1 (v2.1,v2.2.1.1,())) (λ(v3:T50)=>aw (λ(v4:T33)=>bif v4.2.1 then some (((false,0),false,()),())else if 0<=v2.2.1.2.1 then(match v3.1.1[(v2.2.1.2.1).toNat]? with|some v5=>some ((v5,true,()),())|none=>none)else none) (λv6=>bif decide (v2.2.1.2.1<0)then v6 (((false,0),()),true,())else v6 (((false,0),()),decide ((v3.1.1.length:Int)<=v2.2.1.2.1),())))
def F54(n:Nat):Fb 54:=fb n [⟨_,F29 n⟩] [12] [] [] Tryz.func54 Tryz.results54 Tryz.ntmps54 (.seq (.reg none [2,3]) (.seq .nop (.seq (.seq (.reg (some ⟨[(32,.box y63,.own (.pr .ro .ro))],[.val 24 y4],[3,4,6]⟩) []) .nop) (.seq (.reg none [4]) .nop)))) A8 [(y63,.ro),(y4,.ro)] [] [] (p54 n)
def p55(v1:Nat)(v2:((List Bool)×(List Int)×(List (Bool×Int))×Int×Unit)):T12:=aj (p84 v1 (v2.1,v2.2.1,v2.2.2.1,())) (λ(v3:T11)=>bif v3.1.2.1 then aj (p85 v1 (v3.1.1,v2.2.2.2.1,())) (λ(v4:T6)=>some ((v4.1.1,()),()))else some ((v3.1.1,()),()))
def F55(n:Nat):Fb 55:=fb n [⟨_,F84 n⟩,⟨_,F85 n⟩] [] [] [] Tryz.func55 Tryz.results55 Tryz.ntmps55 (.nop) [(dx,.ro),(y73,.ro),(y62,.ro),(y12,.ro)] A16 [] [] (p55 n)
theorem Vi:xG Tryz.prog 80:=⟨by kernel_rfl,by kernel_rfl,by kernel_rfl⟩
def p20(v1:Nat)(v2:((List (Int×Int×Int))×(List (Int×Int×Int))×Unit)):T14:=bif !(decide ((v2.1.length:Int)=(v2.2.1.length:Int)))then some ((false,()),())else aE (λ(v3:T3)=>λv4=>bif decide (v3.2.1<(v2.1.length:Int))then if 0<=v3.2.1 then(match v2.1[(v3.2.1).toNat]? with|some v5=>if 0<=v3.2.1 then(match v2.2.1[(v3.2.1).toNat]? with|some v6=>bif bif bif decide (v5.1=v6.1)then bif decide (v5.2.1=v6.2.1)then decide (v5.2.2=v6.2.2)else false else false then false else true then some ((false,()),())else v4 ((),IntKind.wrap .i64 (v3.2.1+1),())|none=>none)else none|none=>none)else none else some ((true,()),())) v1 ((),0,())
def F20(n:Nat):Fb 20:=fb n [] [] [] [⟨_,Vi⟩] Tryz.func20 Tryz.results20 Tryz.ntmps20 (.seq .nop (.seq .nop (.seq (.seq .nop (.block none (.loop ⟨[],[.val 5 y2],[0,1]⟩ .nop))) .nop))) [(y58,.ro),(y58,.ro)] A18 [] [] (p20 n)
def p23(v1:Nat)(v2:T97):T61:=aj (p51 v1 (v2.1,())) (λ(v3:T15)=>aj (p52 v1 (v2.1,())) (λ(v4:T13)=>aj (p53 v1 (v2.2.1,())) (λ(v5:T46)=>aE (λ(v6:T38)=>λv7=>if(List.length ([]:List (Int×Int×Int))+List.length v6.2.1)*24<=140737488355328 then if List.length ([]:List (Int×Int×Int))+List.length v6.2.1<=9223372036854775807 then aE (λ(v8:T53)=>λv9=>bif decide (v8.2.2.1<(v6.2.1.length:Int))then aw (λ(v10:T38)=>v9 ((),v10.2.1,IntKind.wrap .i64 (v8.2.2.1+1),())) (λv11=>if 0<=v8.2.2.1 then(match v6.2.1[(v8.2.2.1).toNat]? with|some v12=>aj (p54 v1 (v2.1,v12,())) (λ(v13:T34)=>aw (λ(v14:T59)=>bif v14.2.1 then v11 ((),v14.1.1,())else if 0<=v8.2.2.1 then(match v6.2.1[(v8.2.2.1).toNat]? with|some v15=>aj (p29 v1 (v2.1,v15.1,())) (λ(v16:T50)=>if 0<=v8.2.2.1 then(match v6.2.1[(v8.2.2.1).toNat]? with|some v17=>if 0<=(IntKind.wrap .i64 (v17.2.1+1))/\(IntKind.wrap .i64 (v17.2.1+1))<=(v16.1.1.length:Int)/\(v16.1.1.length:Int)<=(v16.1.1.length:Int)then if 0<=v8.2.2.1 then(match v6.2.1[(v8.2.2.1).toNat]? with|some v18=>aj (p55 v1 (v3.1.1,v4.1.1,cz v16.1.1 (IntKind.wrap .i64 (v17.2.1+1)) (v16.1.1.length:Int),v18.2.2,())) (λ(v19:T6)=>aE (λ(v20:T53)=>λv21=>bif decide (v20.2.2.1<(v2.1.2.2.1.length:Int))then if 0<=v20.2.2.1 then(match v2.1.2.2.1[(v20.2.2.1).toNat]? with|some v22=>aw (λ(v23:T38)=>v21 ((),v23.2.1,IntKind.wrap .i64 (v20.2.2.1+1),())) (λv24=>bif decide (v22.1=v13.1.1.2)then if(List.length v20.2.1+List.length ([(v20.2.2.1,0,v19.1.1)]:List (Int×Int×Int)))*24<=140737488355328 then if List.length v20.2.1+List.length ([(v20.2.2.1,0,v19.1.1)]:List (Int×Int×Int))<=9223372036854775807 then v24 ((),v20.2.1++([(v20.2.2.1,0,v19.1.1)]:List (Int×Int×Int)),())else none else none else v24 ((),v20.2.1,()))|none=>none)else none else v11 ((),v20.2.1,())) v1 ((),v14.1.1,0,()))|none=>none)else none else none|none=>none)else none)|none=>none)else none) (λv25=>bif !v13.1.2.1 then v25 ((v8.2.1,()),true,())else v25 ((v8.2.1,()),!v13.1.1.1,())))|none=>none)else none)else aj (p53 v1 (v8.2.1,())) (λ(v26:T46)=>aj (p20 v1 (v26.1.1,v6.2.1,())) (λ(v27:T8)=>bif v27.1.1 then some ((v6.2.1,()),())else v7 ((),v26.1.1,())))) v1 ((),([]:List (Int×Int×Int))++v6.2.1,0,())else none else none) v1 ((),v5.1.1,()))))
def F23(n:Nat):Fb 23:=fb n [⟨_,F51 n⟩,⟨_,F52 n⟩,⟨_,F53 n⟩,⟨_,F54 n⟩,⟨_,F29 n⟩,⟨_,F55 n⟩,⟨_,F20 n⟩] [17,19,21,54] [] [] Tryz.func23 Tryz.results23 Tryz.ntmps23 (.seq (.reg none [2]) (.seq .nop (.seq .nop (.block none (.loop ⟨[],[.val 7 y58],[2,5,6]⟩ (.block none (.seq .nop (.seq (.seq .nop (.block none (.loop ⟨[],[.hdr 8 71 y58 (.own .ro),.val 9 y2],[2,5,6,7]⟩ (.seq .nop (.seq (.block (some ⟨[],[.hdr 8 71 y58 (.own .ro)],[2,5,6,7,9]⟩) (.seq (.reg none [10]) (.seq (.seq (.reg (some ⟨[(71,y58,.own .ro)],[.val 46 y4],[2,5,6,7,8,9,10]⟩) []) .nop) (.seq .nop (.seq .nop (.seq .nop (.block none (.loop ⟨[],[.hdr 8 71 y58 (.own .ro),.val 15 y2],[2,5,6,7,9,10,14]⟩ (.seq .nop (.seq (.block none (.seq .nop (.cond (some ⟨[],[.hdr 8 71 y58 (.own .ro)],[2,5,6,7,9,10,14,15]⟩) .nop .nop))) .nop)))))))))) .nop))))) .nop)))))))) A9 A17 [] [] (p23 n)
def p72(v1:Nat)(v2:T97):T52:=aE (λ(v3:T42)=>λv4=>bif decide (v3.2.2.1<2)then aE (λ(v5:(Unit×(List (Bool×Int))×Bool×Unit))=>λv6=>bif v5.2.2.1 then aE (λ(v7:(((List (Bool×Int))×(Bool×Int)×Unit)×Bool×Int×Unit))=>λv8=>bif decide (v7.2.2.1<(v2.2.1.length:Int))then aw (λ(v9:T68)=>v8 ((v9.1.1,v9.1.2.1,()),v9.2.1,IntKind.wrap .i64 (v7.2.2.1+1),())) (λv10=>if 0<=v7.2.2.1 then(match v2.2.1[(v7.2.2.1).toNat]? with|some v11=>aj (p54 v1 (v2.1,v11,())) (λ(v12:T34)=>aw (λ(v13:T68)=>aw (λ(v14:T68)=>bif v14.2.1 then v10 ((v14.1.1,v14.1.2.1,()),v7.2.1,())else aw (λ(v15:T68)=>aw (λ(v16:T68)=>v10 ((v16.1.1,v16.1.2.1,()),v16.2.1,())) (λv17=>bif v15.2.1 then v17 ((v15.1.1,v12.1.1,()),true,())else v17 ((v15.1.1,v15.1.2.1,()),v7.2.1,()))) (λv18=>bif !v7.2.1 then v18 ((v14.1.1,v14.1.2.1,()),true,())else v18 ((v14.1.1,v14.1.2.1,()),decide (v12.1.1.2<v14.1.2.1.2),()))) (λv19=>bif !v12.1.2.1 then v19 ((v13.1.1,v13.1.2.1,()),true,())else bif !(v12.1.1.1 == (decide (v3.2.2.1=1)))then v19 ((v13.1.1,v13.1.2.1,()),true,())else bif v13.2.1 then if 0<=(IntKind.wrap .i64 ((v13.1.1.length:Int)-1))then(match v13.1.1[(IntKind.wrap .i64 ((v13.1.1.length:Int)-1)).toNat]? with|some v20=>v19 ((v13.1.1,v13.1.2.1,()),decide (v12.1.1.2<=v20.2),())|none=>none)else none else v19 ((v13.1.1,v13.1.2.1,()),false,()))) (λv21=>bif decide (0<(v7.1.1.length:Int))then if 0<=(IntKind.wrap .i64 ((v7.1.1.length:Int)-1))then(match v7.1.1[(IntKind.wrap .i64 ((v7.1.1.length:Int)-1)).toNat]? with|some v22=>v21 ((v7.1.1,v7.1.2.1,()),v22.1 == (decide (v3.2.2.1=1)),())|none=>none)else none else v21 ((v7.1.1,v7.1.2.1,()),false,())))|none=>none)else none)else aw (λ(v23:T30)=>v6 ((),v23.2.1,v7.2.1,())) (λv24=>bif v7.2.1 then if(List.length v7.1.1+List.length ([v7.1.2.1]:List (Bool×Int)))*16<=140737488355328 then if List.length v7.1.1+List.length ([v7.1.2.1]:List (Bool×Int))<=9223372036854775807 then v24 ((),v7.1.1++([v7.1.2.1]:List (Bool×Int)),())else none else none else v24 ((),v7.1.1,()))) v1 ((v5.2.1,(false,0),()),false,0,())else v4 ((),v5.2.1,IntKind.wrap .i64 (v3.2.2.1+1),())) v1 ((),v3.2.1,true,())else some ((v3.2.1,()),())) v1 ((),([]:List (Bool×Int)),0,())
def F72(n:Nat):Fb 72:=fb n [⟨_,F54 n⟩] [] [] [] Tryz.func72 Tryz.results72 Tryz.ntmps72 (.seq (.reg none [2]) (.seq .nop (.seq (.seq .nop (.block none (.loop ⟨[],[.hdr 5 47 y62 (.own .ro),.val 6 y2],[1,2]⟩ (.seq .nop (.seq (.block none (.seq .nop (.block none (.loop ⟨[],[.hdr 5 47 y62 (.own .ro),.val 7 y4],[1,2,6]⟩ (.seq .nop (.block none (.seq .nop (.seq .nop (.seq (.seq .nop (.block none (.loop ⟨[(47,y62,.own .ro),(64,.box y63,.own (.pr .ro .ro))],[.val 7 y4,.val 9 y2],[1,2,5,6,8]⟩ (.seq .nop (.seq (.block (some ⟨[(47,y62,.own .ro),(64,.box y63,.own (.pr .ro .ro))],[.val 7 y4],[1,2,5,6,8,9]⟩) (.seq (.reg none [10]) (.seq (.reg (some ⟨[(47,y62,.own .ro),(64,.box y63,.own (.pr .ro .ro))],[.val 12 y4],[1,2,5,6,7,8,9,10,11]⟩) []) (.seq (.seq (.reg (some ⟨[(47,y62,.own .ro),(64,.box y63,.own (.pr .ro .ro))],[.val 72 y4],[1,2,5,6,7,8,9,10]⟩) []) .nop) (.seq (.reg (some ⟨[(47,y62,.own .ro),(64,.box y63,.own (.pr .ro .ro))],[.val 81 y4],[1,2,5,6,7,8,9,10]⟩) []) (.cond (some ⟨[(47,y62,.own .ro),(64,.box y63,.own (.pr .ro .ro))],[.val 7 y4],[1,2,5,6,8,9]⟩) .nop .nop)))))) .nop))))) (.seq (.reg none [8]) (.cond (some ⟨[],[.hdr 5 47 y62 (.own .ro)],[1,2,6,7]⟩) .nop .nop))))))))))) .nop))))) .nop))) A9 [(y62,.ro)] [] [] (p72 n)
def p26(v1:Nat)(v2:T99):T61:=aE (λ(v3:T53)=>λv4=>bif decide (v3.2.2.1<(v2.2.1.length:Int))then if 0<=v3.2.2.1 then(match v2.2.1[(v3.2.2.1).toNat]? with|some v5=>aj (p54 v1 (v2.1,v5,())) (λ(v6:T34)=>aw (λ(v7:T59)=>aw (λ(v8:T38)=>v4 ((),v8.2.1,IntKind.wrap .i64 (v3.2.2.1+1),())) (λv9=>bif v7.2.1 then if 0<=v3.2.2.1 then(match v2.2.1[(v3.2.2.1).toNat]? with|some v10=>if 0<=v3.2.2.1 then(match v2.2.1[(v3.2.2.1).toNat]? with|some v11=>if 0<=v3.2.2.1 then(match v2.2.1[(v3.2.2.1).toNat]? with|some v12=>if(List.length v7.1.1+List.length ([(v10.1,IntKind.wrap .i64 (v11.2.1+1),v12.2.2)]:List (Int×Int×Int)))*24<=140737488355328 then if List.length v7.1.1+List.length ([(v10.1,IntKind.wrap .i64 (v11.2.1+1),v12.2.2)]:List (Int×Int×Int))<=9223372036854775807 then v9 ((),v7.1.1++([(v10.1,IntKind.wrap .i64 (v11.2.1+1),v12.2.2)]:List (Int×Int×Int)),())else none else none|none=>none)else none|none=>none)else none|none=>none)else none else v9 ((),v7.1.1,()))) (λv13=>bif v6.1.2.1 then v13 ((v3.2.1,()),bif v6.1.1.1 == v2.2.2.1.1 then decide (v6.1.1.2=v2.2.2.1.2)else false,())else v13 ((v3.2.1,()),false,())))|none=>none)else none else aj (p53 v1 (v3.2.1,())) (λ(v14:T46)=>some ((v14.1.1,()),()))) v1 ((),([]:List (Int×Int×Int)),0,())
def F26(n:Nat):Fb 26:=fb n [⟨_,F54 n⟩,⟨_,F53 n⟩] [] [] [⟨_,GC⟩] Tryz.func26 Tryz.results26 Tryz.ntmps26 (.seq (.reg none [3,5]) (.seq .nop (.seq (.seq .nop (.block none (.loop ⟨[],[.hdr 7 63 y58 (.own .ro),.val 8 y2],[1,3,5]⟩ (.seq .nop (.seq (.block none (.seq (.reg none [9]) (.seq (.reg (some ⟨[(63,y58,.own .ro)],[.val 31 y4],[1,3,5,7,8]⟩) []) (.cond (some ⟨[],[.hdr 7 63 y58 (.own .ro)],[1,3,5,8]⟩) .nop .nop)))) .nop))))) .nop))) [(y26,.ro),(y58,.ro),(y63,.ro)] A17 [] [] (p26 n)
def p43(v1:Nat)(v2:T93):T89:=aj (p24 v1 (v2.1,())) (λ(v3:T46)=>aj (p23 v1 (v2.1,v3.1.1,())) (λ(v4:T46)=>aE (λ(v5:((((List (List (Int×Int×Int)))×(List (List (Bool×Int)))×(List (List Int)))×((List (List (Int×Int×Int)))×(List (List (Bool×Int)))×(List (List Int)))×Unit)×Int×Unit))=>λv6=>bif decide (v5.2.1<(v5.1.2.1.1.length:Int))then bif decide (v2.2.1<(v5.1.2.1.1.length:Int))then some ((v5.1.2.1,false,()),())else if 0<=v5.2.1 then(match v5.1.2.1.1[(v5.2.1).toNat]? with|some v7=>aj (p72 v1 (v2.1,v7,())) (λ(v8:T36)=>aE (λ(v9:((((List (List (Int×Int×Int)))×(List (List (Bool×Int)))×(List (List Int)))×((List (List (Int×Int×Int)))×(List (List (Bool×Int)))×(List (List Int)))×Unit)×(List Int)×Int×Unit))=>λv10=>bif decide (v9.2.2.1<(v8.1.1.length:Int))then if 0<=v5.2.1 then(match v9.1.2.1.1[(v5.2.1).toNat]? with|some v11=>if 0<=v9.2.2.1 then(match v8.1.1[(v9.2.2.1).toNat]? with|some v12=>aj (p26 v1 (v2.1,v11,v12,())) (λ(v13:T46)=>aj (p23 v1 (v2.1,v13.1.1,())) (λ(v14:T46)=>aE (λ(v15:((((List (List (Int×Int×Int)))×(List (List (Bool×Int)))×(List (List Int)))×((List (List (Int×Int×Int)))×(List (List (Bool×Int)))×(List (List Int)))×(List Int)×Unit)×Int×Int×Unit))=>λv16=>aw (λ(v17:((((List (List (Int×Int×Int)))×(List (List (Bool×Int)))×(List (List Int)))×((List (List (Int×Int×Int)))×(List (List (Bool×Int)))×(List (List Int)))×(List Int)×Unit)×Bool×Unit))=>bif v17.2.1 then if 0<=v15.2.2.1 then(match v17.1.2.1.1[(v15.2.2.1).toNat]? with|some v18=>aj (p20 v1 (v18,v14.1.1,())) (λ(v19:T8)=>aw (λ(v20:T98)=>v16 ((v20.1.1,v20.1.2.1,v20.1.2.2.1,()),v20.2.1,IntKind.wrap .i64 (v15.2.2.1+1),())) (λv21=>bif v19.1.1 then v21 ((v17.1.1,v17.1.2.1,v17.1.2.2.1,()),v15.2.2.1,())else v21 ((v17.1.1,v17.1.2.1,v17.1.2.2.1,()),v15.2.1,())))|none=>none)else none else aw (λ(v22:T98)=>if(List.length v22.1.2.2.1+List.length ([v22.2.1]:List Int))*8<=140737488355328 then if List.length v22.1.2.2.1+List.length ([v22.2.1]:List Int)<=9223372036854775807 then v10 ((v22.1.1,v22.1.2.1,()),v22.1.2.2.1++([v22.2.1]:List Int),IntKind.wrap .i64 (v9.2.2.1+1),())else none else none) (λv23=>bif decide (v15.2.1<0)then if(List.length v17.1.2.1.1+List.length ([v14.1.1]:List (List (Int×Int×Int))))*24<=140737488355328 then if List.length v17.1.2.1.1+List.length ([v14.1.1]:List (List (Int×Int×Int)))<=9223372036854775807 then v23 ((v17.1.1,(v17.1.2.1.1++([v14.1.1]:List (List (Int×Int×Int))),v17.1.2.1.2),v17.1.2.2.1,()),(v17.1.2.1.1.length:Int),())else none else none else v23 ((v17.1.1,v17.1.2.1,v17.1.2.2.1,()),v15.2.1,()))) (λv24=>bif decide (v15.2.2.1<(v15.1.2.1.1.length:Int))then v24 ((v15.1.1,v15.1.2.1,v15.1.2.2.1,()),decide (v15.2.1<0),())else v24 ((v15.1.1,v15.1.2.1,v15.1.2.2.1,()),false,()))) v1 ((v9.1.1,v9.1.2.1,v9.2.1,()),-1,0,())))|none=>none)else none|none=>none)else none else if(List.length v9.1.2.1.2.1+List.length ([v8.1.1]:List (List (Bool×Int))))*24<=140737488355328 then if List.length v9.1.2.1.2.1+List.length ([v8.1.1]:List (List (Bool×Int)))<=9223372036854775807 then if(List.length v9.1.2.1.2.2+List.length ([v9.2.1]:List (List Int)))*24<=140737488355328 then if List.length v9.1.2.1.2.2+List.length ([v9.2.1]:List (List Int))<=9223372036854775807 then v6 ((v9.1.1,(v9.1.2.1.1,v9.1.2.1.2.1++([v8.1.1]:List (List (Bool×Int))),v9.1.2.1.2.2++([v9.2.1]:List (List Int))),()),IntKind.wrap .i64 (v5.2.1+1),())else none else none else none else none) v1 ((v5.1.1,v5.1.2.1,()),([]:List Int),0,()))|none=>none)else none else some ((v5.1.2.1,true,()),())) v1 (((([]:List (List (Int×Int×Int))),([]:List (List (Bool×Int))),([]:List (List Int))),(([v4.1.1]:List (List (Int×Int×Int))),([]:List (List (Bool×Int))),([]:List (List Int))),()),0,())))
def F43(n:Nat):Fb 43:=fb n [⟨_,F24 n⟩,⟨_,F23 n⟩,⟨_,F72 n⟩,⟨_,F26 n⟩,⟨_,F20 n⟩] [16,17,19,39,57,58] [] [] Tryz.func43 Tryz.results43 Tryz.ntmps43 (.seq (.reg none [2]) (.seq .nop (.seq (.seq .nop (.block none (.loop ⟨[(32,.box y46,.own (.pr (.own .ro) (.pr (.own .ro) (.own .ro)))),(48,.box y46,.own (.pr (.own .ro) (.pr (.own .ro) (.own .ro))))],[.val 7 y2],[1,2,4,6]⟩ (.seq .nop (.seq (.block none (.seq (.seq .nop (.cond none (.seq (.rgf none [6] []) .nop) .nop)) (.seq .nop (.seq .nop (.seq (.seq .nop (.block none (.loop ⟨[(32,.box y46,.own (.pr (.own .ro) (.pr (.own .ro) (.own .ro)))),(48,.box y46,.own (.pr (.own .ro) (.pr (.own .ro) (.own .ro))))],[.hdr 9 79 y28 (.own .ro),.val 10 y2],[1,2,4,6,7,8]⟩ (.seq .nop (.seq (.block none (.seq .nop (.seq .nop (.seq (.seq .nop (.block none (.loop ⟨[(32,.box y46,.own (.pr (.own .ro) (.pr (.own .ro) (.own .ro)))),(48,.box y46,.own (.pr (.own .ro) (.pr (.own .ro) (.own .ro)))),(79,y28,.own .ro)],[.val 12 y2,.val 13 y2],[1,2,4,6,7,8,9,10,11]⟩ (.seq (.seq (.reg (some ⟨[(32,.box y46,.own (.pr (.own .ro) (.pr (.own .ro) (.own .ro)))),(48,.box y46,.own (.pr (.own .ro) (.pr (.own .ro) (.own .ro)))),(79,y28,.own .ro)],[.val 67 y4],[1,2,4,6,7,8,9,10,11,12,13]⟩) []) .nop) (.seq (.block none (.seq .nop (.cond (some ⟨[(32,.box y46,.own (.pr (.own .ro) (.pr (.own .ro) (.own .ro)))),(48,.box y46,.own (.pr (.own .ro) (.pr (.own .ro) (.own .ro)))),(79,y28,.own .ro)],[.val 12 y2],[1,2,4,6,7,8,9,10,11,13]⟩) .nop .nop))) .nop))))) (.seq (.seq .nop (.cond (some ⟨[(32,.box y46,.own (.pr (.own .ro) (.pr (.own .ro) (.own .ro)))),(48,.box y46,.own (.pr (.own .ro) (.pr (.own .ro) (.own .ro)))),(79,y28,.own .ro)],[.val 12 y2],[1,2,4,6,7,8,9,10]⟩) .nop .nop)) .nop))))) .nop))))) (.seq .nop (.rgf none [9] []))))))) .nop))))) (.seq (.rgf none [6] [4]) .nop)))) A10 [(y46,.ro),(y4,.ro)] [] [] (p43 n)
def p17(v1:Nat)(v2:T92):T89:=aj (p42 v1 (v2.1,())) (λ(v3:T8)=>bif !v3.1.1 then some (((([]:List (List (Int×Int×Int))),([]:List (List (Bool×Int))),([]:List (List Int))),false,()),())else aj (p43 v1 (v2.1,60,())) (λ(v4:T88)=>some ((v4.1.1,v4.1.2.1,()),())))
def F17(n:Nat):Fb 17:=fb n [⟨_,F42 n⟩,⟨_,F43 n⟩] [7,9] [] [] Tryz.func17 Tryz.results17 Tryz.ntmps17 (.seq (.reg none [1]) (.seq .nop (.seq (.reg none [2]) .nop))) A15 [(y46,.ro),(y4,.ro)] [] [] (p17 n)
def p21(v1:Nat)(v2:T22):T61:=aE (λ(v3:T53)=>λv4=>bif decide (v3.2.2.1<(v2.1.length:Int))then if 0<=v3.2.2.1 then(match v2.1[(v3.2.2.1).toNat]? with|some v5=>if 0<=v3.2.2.1 then(match v2.1[(v3.2.2.1).toNat]? with|some v6=>if 0<=v3.2.2.1 then(match v2.1[(v3.2.2.1).toNat]? with|some v7=>if(List.length v3.2.1+List.length ([(v5.1,v6.2.1,v7.2.2)]:List (Int×Int×Int)))*24<=140737488355328 then if List.length v3.2.1+List.length ([(v5.1,v6.2.1,v7.2.2)]:List (Int×Int×Int))<=9223372036854775807 then v4 ((),v3.2.1++([(v5.1,v6.2.1,v7.2.2)]:List (Int×Int×Int)),IntKind.wrap .i64 (v3.2.2.1+1),())else none else none|none=>none)else none|none=>none)else none|none=>none)else none else some ((v3.2.1,()),())) v1 ((),([]:List (Int×Int×Int)),0,())
def p4(v1:Nat)(v2:T92):T14:=aj (p16 v1 ()) (λ(v3:T8)=>bif !v3.1.1 then some ((false,()),())else aj (p17 v1 (v2.1,())) (λ(v4:T88)=>bif !v4.1.2.1 then some ((true,()),())else aj (p18 v1 (v2.1,())) (λ(v5:T85)=>aw (λ(v6:T4)=>bif v6.2.1 then some ((false,()),())else aE (λ(v7:T3)=>λv8=>bif decide (v7.2.1<(v4.1.1.1.length:Int))then aw (λ(v9:T4)=>bif v9.2.1 then some ((false,()),())else aE (λ(v10:T3)=>λv11=>if 0<=v7.2.1 then(match v4.1.1.2.1[(v7.2.1).toNat]? with|some v12=>bif decide (v10.2.1<(v12.length:Int))then aw (λ(v13:T4)=>bif v13.2.1 then some ((false,()),())else v11 ((),IntKind.wrap .i64 (v10.2.1+1),())) (λv14=>if 0<=v7.2.1 then(match v5.1.1.2[(v7.2.1).toNat]? with|some v15=>if 0<=v10.2.1 then(match v15[(v10.2.1).toNat]? with|some v16=>if 0<=v7.2.1 then(match v4.1.1.2.1[(v7.2.1).toNat]? with|some v17=>if 0<=v10.2.1 then(match v17[(v10.2.1).toNat]? with|some v18=>bif bif bif v16.1.1 == v18.1 then decide (v16.1.2=v18.2)else false then false else true then v14 ((),true,())else if 0<=v7.2.1 then(match v5.1.1.2[(v7.2.1).toNat]? with|some v19=>if 0<=v10.2.1 then(match v19[(v10.2.1).toNat]? with|some v20=>if 0<=v7.2.1 then(match v4.1.1.2.2[(v7.2.1).toNat]? with|some v21=>if 0<=v10.2.1 then(match v21[(v10.2.1).toNat]? with|some v22=>v14 ((),!(decide (v20.2=v22)),())|none=>none)else none|none=>none)else none|none=>none)else none|none=>none)else none|none=>none)else none|none=>none)else none|none=>none)else none|none=>none)else none)else v8 ((),IntKind.wrap .i64 (v7.2.1+1),())|none=>none)else none) v1 ((),0,())) (λv23=>if 0<=v7.2.1 then(match v5.1.1.1[(v7.2.1).toNat]? with|some v24=>aj (p21 v1 (v24,())) (λ(v25:T46)=>if 0<=v7.2.1 then(match v4.1.1.1[(v7.2.1).toNat]? with|some v26=>aj (p20 v1 (v25.1.1,v26,())) (λ(v27:T8)=>bif !v27.1.1 then v23 ((),true,())else if 0<=v7.2.1 then(match v5.1.1.2[(v7.2.1).toNat]? with|some v28=>if 0<=v7.2.1 then(match v4.1.1.2.1[(v7.2.1).toNat]? with|some v29=>v23 ((),!(decide ((v28.length:Int)=(v29.length:Int))),())|none=>none)else none|none=>none)else none)|none=>none)else none)|none=>none)else none)else some ((true,()),())) v1 ((),0,())) (λv30=>bif !(decide (v5.1.2.1=0))then v30 ((),true,())else aj (p19 v1 (v5.1.1,())) (λ(v31:T6)=>bif !(decide (v31.1.1=(v4.1.1.1.length:Int)))then v30 ((),true,())else bif !(decide ((v5.1.1.1.length:Int)=(v4.1.1.1.length:Int)))then v30 ((),true,())else v30 ((),!(decide ((v5.1.1.2.length:Int)=(v4.1.1.1.length:Int))),()))))))
end
noncomputable section
def p25(v1:Nat)(v2:(((List (List (Int×Int×Int)))×(List (List (Bool×Int)))×(List (List Int)))×Int×(Bool×Int)×Unit)):T12:=aw (λ(v3:T4)=>bif v3.2.1 then some ((-1,()),())else aE (λ(v4:T3)=>λv5=>if 0<=v2.2.1 then(match v2.1.2.1[(v2.2.1).toNat]? with|some v6=>bif decide (v4.2.1<(v6.length:Int))then if 0<=v2.2.1 then(match v2.1.2.1[(v2.2.1).toNat]? with|some v7=>if 0<=v4.2.1 then(match v7[(v4.2.1).toNat]? with|some v8=>bif bif v8.1 == v2.2.2.1.1 then decide (v8.2=v2.2.2.1.2)else false then if 0<=v2.2.1 then(match v2.1.2.2[(v2.2.1).toNat]? with|some v9=>if 0<=v4.2.1 then(match v9[(v4.2.1).toNat]? with|some v10=>some ((v10,()),())|none=>none)else none|none=>none)else none else v5 ((),IntKind.wrap .i64 (v4.2.1+1),())|none=>none)else none|none=>none)else none else some ((-1,()),())|none=>none)else none) v1 ((),0,())) (λv11=>bif decide (v2.2.1<0)then v11 ((),true,())else v11 ((),decide ((v2.1.2.1.length:Int)<=v2.2.1),()))
def F25(n:Nat):Fb 25:=fb n [] [] [] [⟨_,GC⟩] Tryz.func25 Tryz.results25 Tryz.ntmps25 (.seq (.reg none [3,5]) (.seq (.seq (.reg (some ⟨[],[.val 16 y4],[1,3,5]⟩) []) .nop) (.seq (.seq .nop (.block none (.loop ⟨[],[.val 7 y2],[1,3,5]⟩ .nop))) .nop))) [(y46,.ro),(y2,.ro),(y63,.ro)] A19 [] [] (p25 n)
def p27(v1:Nat)(v2:(((List (List (Int×Int×Int)))×(List (List ((Bool×Int)×Int))))×Int×(Bool×Int)×Unit)):T12:=aw (λ(v3:T4)=>bif v3.2.1 then some ((-1,()),())else if 0<=v2.2.1 then(match v2.1.2[(v2.2.1).toNat]? with|some v4=>aE (λ(v5:T3)=>λv6=>bif decide (v5.2.1<(v4.length:Int))then if 0<=v5.2.1 then(match v4[(v5.2.1).toNat]? with|some v7=>bif bif v7.1.1 == v2.2.2.1.1 then decide (v7.1.2=v2.2.2.1.2)else false then some ((v7.2,()),())else v6 ((),IntKind.wrap .i64 (v5.2.1+1),())|none=>none)else none else some ((-1,()),())) v1 ((),0,())|none=>none)else none) (λv8=>bif decide (v2.2.1<0)then v8 ((),true,())else v8 ((),decide ((v2.1.2.length:Int)<=v2.2.1),()))
def F27(n:Nat):Fb 27:=fb n [] [] [] [⟨_,GC⟩] Tryz.func27 Tryz.results27 Tryz.ntmps27 (.seq (.reg none [3,5]) (.seq (.seq (.reg (some ⟨[],[.val 17 y4],[1,3,5]⟩) []) .nop) (.seq (.seq .nop (.block none (.loop ⟨[],[.val 24 y2],[5,22,23]⟩ (.seq .nop (.seq .nop (.seq (.block none (.seq (.reg none [8]) .nop)) .nop)))))) .nop))) [(y52,.ro),(y2,.ro),(y63,.ro)] A19 [] [] (p27 n)
def p22(v1:Nat)(v2:(((List (List (Int×Int×Int)))×(List (List ((Bool×Int)×Int))))×(List (Bool×Int))×Unit)):T12:=bif decide ((v2.1.1.length:Int)=0)then some ((-1,()),())else aE (λ(v3:T9)=>λv4=>bif decide (v3.2.2.1<(v2.2.1.length:Int))then if 0<=v3.2.2.1 then(match v2.2.1[(v3.2.2.1).toNat]? with|some v5=>aj (p27 v1 (v2.1,v3.2.1,v5,())) (λ(v6:T6)=>bif decide (v6.1.1<0)then some ((-1,()),())else v4 ((),v6.1.1,IntKind.wrap .i64 (v3.2.2.1+1),()))|none=>none)else none else some ((v3.2.1,()),())) v1 ((),0,0,())
def F22(n:Nat):Fb 22:=fb n [⟨_,F27 n⟩] [] [] [] Tryz.func22 Tryz.results22 Tryz.ntmps22 (.seq (.reg none [2]) (.seq .nop (.seq .nop (.seq (.seq .nop (.block none (.loop ⟨[],[.val 5 y2,.val 14 y2],[2,12,13]⟩ (.seq .nop (.seq .nop (.seq (.block none (.seq (.reg none [7]) .nop)) .nop)))))) .nop)))) [(y52,.ro),(y62,.ro)] A19 [] [] (p22 n)
def p57(v1:Nat)(v2:T95):T14:=aj (p87 v1 (v2.1,v2.2.1.1,())) (λ(v3:T50)=>aw (λ(v4:T4)=>some ((v4.2.1,()),())) (λv5=>bif v3.1.2.1 then v5 ((),decide (v2.2.1.2.1=(v3.1.1.length:Int)),())else v5 ((),false,())))
def F57(n:Nat):Fb 57:=fb n [⟨_,F87 n⟩] [11] [] [] Tryz.func57 Tryz.results57 Tryz.ntmps57 (.seq (.reg none [2,3]) (.seq .nop (.seq (.reg (some ⟨[],[.val 4 y4],[]⟩) []) .nop))) A8 A18 [] [] (p57 n)
def p28(v1:Nat)(v2:(((List (List (Int×Int×Int)))×(List (List ((Bool×Int)×Int))))×((List ((List Int)×Int×(List Int)))×(List (List Int))×(List (Int×(List Int)×(List (Bool×Int))×Bool×Int×(List Int)))×(List (Int×(List Int)))×Int)×Int×Unit)):Option (((List Int)×(List Int)×Unit)×Unit):=aw (λ(v3:T4)=>bif v3.2.1 then some ((([]:List Int),([]:List Int),()),())else if 0<=v2.2.2.1 then(match v2.1.1[(v2.2.2.1).toNat]? with|some v4=>aE (λ(v5:(Unit×(List Int)×(List Int)×Int×Unit))=>λv6=>bif decide (v5.2.2.2.1<(v4.length:Int))then if 0<=v5.2.2.2.1 then(match v4[(v5.2.2.2.1).toNat]? with|some v7=>aj (p57 v1 (v2.2.1,v7,())) (λ(v8:T8)=>aw (λ(v9:(Unit×(List Int)×(List Int)×Unit))=>v6 ((),v9.2.1,v9.2.2.1,IntKind.wrap .i64 (v5.2.2.2.1+1),())) (λv10=>bif v8.1.1 then if(List.length v5.2.1+List.length ([v7.1]:List Int))*8<=140737488355328 then if List.length v5.2.1+List.length ([v7.1]:List Int)<=9223372036854775807 then if(List.length v5.2.2.1+List.length ([v7.2.2]:List Int))*8<=140737488355328 then if List.length v5.2.2.1+List.length ([v7.2.2]:List Int)<=9223372036854775807 then v10 ((),v5.2.1++([v7.1]:List Int),v5.2.2.1++([v7.2.2]:List Int),())else none else none else none else none else v10 ((),v5.2.1,v5.2.2.1,())))|none=>none)else none else some ((v5.2.1,v5.2.2.1,()),())) v1 ((),([]:List Int),([]:List Int),0,())|none=>none)else none) (λv11=>bif decide (v2.2.2.1<0)then v11 ((),true,())else v11 ((),decide ((v2.1.1.length:Int)<=v2.2.2.1),()))
def F28(n:Nat):Fb 28:=fb n [⟨_,F57 n⟩] [] [] [] Tryz.func28 Tryz.results28 Tryz.ntmps28 (.seq (.reg none [3,4]) (.seq .nop (.seq .nop (.seq (.seq (.reg (some ⟨[],[.val 20 y4],[2,3,4,8,9]⟩) []) .nop) (.seq (.seq .nop (.block none (.loop ⟨[],[.hdr 8 71 y28 (.own .ro),.hdr 9 79 y73 (.own .ro),.val 27 y2],[4,25,26]⟩ (.seq .nop (.seq .nop (.seq (.block none (.seq (.reg none [11]) (.seq .nop (.cond (some ⟨[],[.hdr 8 71 y28 (.own .ro),.hdr 9 79 y73 (.own .ro)],[4,25,26,27]⟩) .nop .nop)))) .nop)))))) .nop))))) [(y52,.ro),(y26,.ro),(y2,.ro)] [(y28,.ro),(y73,.ro)] [] [] (p28 n)
def p6(v1:Nat)(v2:(((List ((List Int)×Int×(List Int)))×(List (List Int))×(List (Int×(List Int)×(List (Bool×Int))×Bool×Int×(List Int)))×(List (Int×(List Int)))×Int)×(List (Bool×Int))×Int×Unit)):T14:=aj (p16 v1 ()) (λ(v3:T8)=>bif !v3.1.1 then some ((false,()),())else aj (p17 v1 (v2.1,())) (λ(v4:T88)=>aw (λ(v5:T4)=>bif v5.2.1 then some ((true,()),())else aj (p18 v1 (v2.1,())) (λ(v6:T85)=>bif !(decide (v6.1.2.1=0))then some ((false,()),())else aj (p24 v1 (v2.1,())) (λ(v7:T46)=>aj (p23 v1 (v2.1,v7.1.1,())) (λ(v8:T46)=>aE (λ(v9:(Unit×Int×(List (Int×Int×Int))×Int×Unit))=>λv10=>bif decide (v9.2.2.2.1<(v2.2.1.length:Int))then if 0<=v9.2.2.2.1 then(match v2.2.1[(v9.2.2.2.1).toNat]? with|some v11=>aj (p25 v1 (v4.1.1,v9.2.1,v11,())) (λ(v12:T6)=>if 0<=v9.2.2.2.1 then(match v2.2.1[(v9.2.2.2.1).toNat]? with|some v13=>aj (p26 v1 (v2.1,v9.2.2.1,v13,())) (λ(v14:T46)=>aj (p23 v1 (v2.1,v14.1.1,())) (λ(v15:T46)=>if 0<=v9.2.2.2.1 then(match v2.2.1[(v9.2.2.2.1).toNat]? with|some v16=>aj (p27 v1 (v6.1.1,v2.2.2.1,v16,())) (λ(v17:T6)=>if 0<=v9.2.2.2.1 then(match v2.2.1[(v9.2.2.2.1).toNat]? with|some v18=>aj (p25 v1 (v4.1.1,v2.2.2.1,v18,())) (λ(v19:T6)=>bif !(decide (v17.1.1=v19.1.1))then some ((false,()),())else v10 ((),v12.1.1,v15.1.1,IntKind.wrap .i64 (v9.2.2.2.1+1),()))|none=>none)else none)|none=>none)else none))|none=>none)else none)|none=>none)else none else aw (λ(v20:T4)=>bif v20.2.1 then some ((false,()),())else bif decide (v9.2.1<0)then aj (p28 v1 (v6.1.1,v2.1,-1,())) (λ(v21:T44)=>aw (λ(v22:T4)=>some ((v22.2.1,()),())) (λv23=>bif decide ((v21.1.1.length:Int)=0)then v23 ((),decide ((v21.1.2.1.length:Int)=0),())else v23 ((),false,())))else aj (p28 v1 (v6.1.1,v2.1,v9.2.1,())) (λ(v24:T44)=>aE (λ(v25:T9)=>λv26=>bif decide (v25.2.2.1<(v9.2.2.1.length:Int))then aw (λ(v27:T3)=>v26 ((),v27.2.1,IntKind.wrap .i64 (v25.2.2.1+1),())) (λv28=>if 0<=v25.2.2.1 then(match v9.2.2.1[(v25.2.2.1).toNat]? with|some v29=>aj (p29 v1 (v2.1,v29.1,())) (λ(v30:T50)=>if 0<=v25.2.2.1 then(match v9.2.2.1[(v25.2.2.1).toNat]? with|some v31=>bif !(decide (v31.2.1=(v30.1.1.length:Int)))then v28 ((),v25.2.1,())else aw (λ(v32:T4)=>bif v32.2.1 then some ((false,()),())else v28 ((),IntKind.wrap .i64 (v25.2.1+1),())) (λv33=>bif decide ((v24.1.1.length:Int)<=v25.2.1)then v33 ((),true,())else bif decide ((v24.1.2.1.length:Int)<=v25.2.1)then v33 ((),true,())else if 0<=v25.2.1 then(match v24.1.1[(v25.2.1).toNat]? with|some v34=>if 0<=v25.2.2.1 then(match v9.2.2.1[(v25.2.2.1).toNat]? with|some v35=>bif !(decide (v34=v35.1))then v33 ((),true,())else if 0<=v25.2.1 then(match v24.1.2.1[(v25.2.1).toNat]? with|some v36=>if 0<=v25.2.2.1 then(match v9.2.2.1[(v25.2.2.1).toNat]? with|some v37=>v33 ((),!(decide (v36=v37.2.2)),())|none=>none)else none|none=>none)else none|none=>none)else none|none=>none)else none)|none=>none)else none)|none=>none)else none)else aw (λ(v38:T4)=>some ((v38.2.1,()),())) (λv39=>bif decide (v25.2.1=(v24.1.1.length:Int))then v39 ((),decide (v25.2.1=(v24.1.2.1.length:Int)),())else v39 ((),false,()))) v1 ((),0,0,()))) (λv40=>aj (p22 v1 (v6.1.1,v2.2.1,())) (λ(v41:T6)=>bif !(decide (v41.1.1=v9.2.1))then v40 ((),true,())else v40 ((),!((decide (v9.2.1<0)) == (decide ((v9.2.2.1.length:Int)=0))),())))) v1 ((),0,v8.1.1,0,()))))) (λv42=>bif !v4.1.2.1 then v42 ((),true,())else v42 ((),decide (12<(v2.2.1.length:Int)),()))))
def F6(n:Nat):Fb 6:=fb n [⟨_,F16 n⟩,⟨_,F17 n⟩,⟨_,F18 n⟩,⟨_,F24 n⟩,⟨_,F23 n⟩,⟨_,F25 n⟩,⟨_,F26 n⟩,⟨_,F27 n⟩,⟨_,F22 n⟩,⟨_,F28 n⟩,⟨_,F29 n⟩] [26,38,45,46,67,68,102,117,133] [] [] Tryz.func6 Tryz.results6 Tryz.ntmps6 (.seq (.reg none [3]) (.seq .nop (.seq (.reg none [7]) (.seq (.seq (.reg (some ⟨[],[.val 35 y4],[1,2,3,7]⟩) []) .nop) (.seq (.reg none [9]) (.seq .nop (.seq .nop (.seq (.seq .nop (.block none (.loop ⟨[],[.val 11 y2,.val 12 y58,.val 13 y2],[1,2,3,7,9]⟩ .nop))) (.seq (.seq (.reg (some ⟨[],[.val 96 y4],[3,9,11,12]⟩) []) .nop) (.seq (.seq .nop (.cond none (.seq .nop (.seq (.reg (some ⟨[],[.val 6 y4],[]⟩) []) .nop)) .nop)) (.seq .nop (.seq .nop (.seq (.seq .nop (.block none (.loop ⟨[],[.val 18 y2,.val 19 y2],[3,12,16,17]⟩ (.seq .nop (.seq (.block (some ⟨[],[.val 18 y2],[3,12,16,17,19]⟩) (.seq .nop (.seq .nop (.seq (.seq (.reg (some ⟨[],[.val 177 y4],[3,12,16,17,18,19]⟩) []) .nop) .nop)))) .nop))))) (.seq (.reg (some ⟨[],[.val 6 y4],[]⟩) []) .nop)))))))))))))) [(y26,.ro),(y62,.ro),(y2,.ro)] A18 [] [] (p6 n)
abbrev ok6(n:Nat):=(F6 n).o
end
noncomputable section
theorem eJ{A R:Type}(body:A->(A->Option R)->Option R)(n:Nat)(x:A):aE body (n+1) x=body x (aE body n):=rfl
theorem bQ{A R:Type}{body:A->(A->Option R)->Option R}(f:Nat->A)(spec:Nat->Option R)(len:Nat)
 (step:∀ j,j<=len->∀ k,(j<len->k (f (j+1))=spec (j+1))->body (f j) k=spec j):∀ n j,j<=len->len-j<n->aE body n (f j)=spec j:=by
 intro n
 induction n with
 |zero=>intro j _ h;omega
 |succ n ih=>
  intro j hj hn
  rw[eJ]
  exact step j hj _ (λhlt=>ih (j+1) hlt (by omega))
theorem fM{α A R:Type}{body:A->(A->Option R)->Option R}(l:List α)(ok:α->Bool)(bad after:Option R)(f:Nat->A)
 (step:∀ j,(h:j<l.length)->∀ k,body (f j) k=if ok l[j]=true then k (f (j+1))else bad) (fin:∀ k,body (f l.length) k=after) (n:Nat) (hn:l.length<n):aE body n (f 0)=if l.all ok=true then after else bad:=by
 have:=bQ (body:=body) f (λj=>if(l.drop j).all ok=true then after else bad) l.length (λj hj k hk=>by
  rcases ap j l.length with hi|hi
  ·rw[step j hi,hk hi,cQ hi,ol]
   cases ok l[j] <;> simp
  ·have e:j=l.length:=by omega
   rw[e,fin];simp) n 0 (aH _) (by omega)
 rwa [du]at this
theorem aZ{A R:Type}{body:A->(A->Option R)->Option R}(I:Nat->A->Option R->Prop)
 (step:∀ m x r,I m x r->∀ k,(∀ m' y r',m' < m->I m' y r'->k y=r')->body x k=r):∀ n m x r,m<n->I m x r->aE body n x=r:=by
 intro n
 induction n with
 |zero=>intro m x r h;omega
 |succ n ih=>
  intro m x r h hi
  rw[eJ]
  exact step m x r hi _ (λm' y r' hm hi'=>ih m' y r' (by omega) hi')
def N0:Nat:=18446744073709551616
theorem j7{n:Nat}(h:n<=maxLen):n+1<N0:=by unfold maxLen at h;unfold N0;omega
theorem bD{n:Int}(h1:-9223372036854775808<=n)(h2:n<=9223372036854775807):IntKind.wrap .i64 n=n:=jQ ⟨h1,h2⟩
theorem br{j n:Nat}(h:j<n)(hn:n<=maxLen):IntKind.wrap .i64 ((j:Int)+1)=((j+1:Nat):Int):=by
 unfold maxLen at hn
 rw[bD (by omega) (by omega)];simp
@[simp] theorem aJ {A R:Type} (J:A->Option R) (body:(A->Option R)->Option R):aw J body=body J:=rfl
@[simp] theorem aC {A R:Type} (a:A) (k:A->Option R):aj (some a) k=k a:=rfl
theorem aa{A R:Type}{o:Option A}{a:A}(h:o=some a)(k:A->Option R):aj o k=k a:=by rw[h];rfl
theorem bO{α:Type}(c:Bool)(a b:α):(bif c then a else b)=if c=true then a else b:=by cases c <;> rfl
end
noncomputable section
theorem yh:∀ (n:Nat) (l:List Nat),l.Nodup->(∀ x∈l,x<n)->l.length<=n:=by
 intro n
 induction n with
 |zero=>
  intro l _ h
  cases l with
  |nil=>simp
  |cons x xs=>have:=h x (by simp);omega
 |succ n ih=>
  intro l hn h
  by_cases hm:n∈l
  ·have h1:(l.erase n).length<=n:=by
    refine ih _ (hn.erase n) (λx hx=>?_)
    have hx1:x∈l:=List.mem_of_mem_erase hx
    have hx2:x≠n:=by
     rintro rfl
     exact(List.Nodup.not_mem_erase hn) hx
    have:=h x hx1
    omega
   rw[List.length_erase_of_mem hm]at h1
   omega
  ·refine Nat.le_succ_of_le (ih l hn (λx hx=>?_))
   have:=h x hx
   have hne:x≠n:=by rintro rfl;exact hm hx
   omega
theorem rR{α:Type}(R:α->Nat->Prop)(hf:∀ x y c,R x c->R y c->x=y)(n:Nat)(l:List α)(hn:l.Nodup)(h:∀ x∈l,∃ c,c<n/\R x c):l.length<=n:=by
 have key:∀ l:List α,l.Nodup->(∀ x∈l,∃ c,c<n/\R x c)->∃ cs:List Nat,cs.length=l.length/\cs.Nodup/\∀ c∈cs,c<n/\∃ x∈l,R x c:=by
  intro l
  induction l with
  |nil=>intro _ _;exact⟨[],rfl,List.nodup_nil,λc hc=>by simp at hc⟩
  |cons x xs ih=>
   intro hn h
   obtain⟨h1,h2⟩:=rf.1 hn
   obtain⟨cs,e1,e2,e3⟩:=ih h2 (λy hy=>h y (by simp[hy]))
   obtain⟨c,hc,hr⟩:=h x (by simp)
   refine⟨c::cs,by simp[e1],rf.2 ⟨λhm=>?_,e2⟩,λd hd=>?_⟩
   ·obtain⟨_,y,hy,hry⟩:=e3 c hm
    exact h1 (hf x y c hr hry ▸ hy)
   ·rcases az.1 hd with rfl|hd
    ·exact⟨hc,x,by simp,hr⟩
    ·obtain⟨q1,y,hy,q2⟩:=e3 d hd
     exact⟨q1,y,by simp[hy],q2⟩
 obtain⟨cs,e1,e2,e3⟩:=key l hn h
 rw[<-e1]
 exact yh n cs e2 (λc hc=>(e3 c hc).1)
def dK:List Bool->Nat
 |[]=>0
 |b::r=>(if b then 1 else 0)+2*dK r
theorem lI:∀ (l:List Bool),dK l<2 ^ l.length:=by
 intro l
 induction l with
 |nil=>simp[dK]
 |cons b r ih=>
  simp only[dK,aO,iD]
  split <;> omega
theorem oH:∀ (l m:List Bool),l.length=m.length->dK l=dK m->l=m:=by
 intro l
 induction l with
 |nil=>intro m hl _;cases m with
  |nil=>rfl
  |cons _ _=>simp at hl
 |cons b r ih=>
  intro m hl h
  cases m with
  |nil=>simp at hl
  |cons c s=>
   simp only[dK]at h
   have hbc:b=c:=by cases b <;> cases c <;> simp at h |- <;> omega
   subst hbc
   rw[ih s (by simpa using hl) (by omega)]
end
noncomputable section
inductive Rx where
 |eps
 |set (S:List Int)
 |cat (a b:Rx)
 |alt (a b:Rx)
 |rep (k:Int) (a:Rx)
abbrev Pc:=Int×List Int
def zS:List Int:=[0,0,0,0]
def Rx.post:Rx->List Pc
 |.eps=>[(0,zS)]
 |.set S=>[(1,S)]
 |.cat a b=>a.post++b.post++[(2,zS)]
 |.alt a b=>a.post++b.post++[(3,zS)]
 |.rep k a=>a.post++[(k,zS)]
def Rx.len:Rx->Nat
 |.eps=>1
 |.set _=>1
 |.cat a b=>a.len+b.len+1
 |.alt a b=>a.len+b.len+1
 |.rep _ a=>a.len+1
def Rx.null:Rx->Bool
 |.eps=>true
 |.set _=>false
 |.cat a b=>a.null&&b.null
 |.alt a b=>a.null||b.null
 |.rep k a=>!decide (k=5)||a.null
def Rx.ok:Rx->Prop
 |.eps=>True
 |.set S=>S.length=4/\S≠zS/\∀ x∈S,0<=x/\x<=18446744073709551615
 |.cat a b=>a.ok/\b.ok
 |.alt a b=>a.ok/\b.ok
 |.rep k a=>(k=4\/k=5\/k=6)/\a.ok
theorem Rx.bL:∀ t:Rx,0<t.len:=by intro t;cases t <;> simp[Rx.len]
theorem Rx.aV:∀ t:Rx,t.post.length=t.len:=by
 intro t
 induction t with
 |eps=>rfl
 |set S=>rfl
 |cat a b iha ihb=>simp[Rx.post,Rx.len,iha,ihb];omega
 |alt a b iha ihb=>simp[Rx.post,Rx.len,iha,ihb];omega
 |rep k a ih=>simp[Rx.post,Rx.len,ih]
abbrev Ed:=Nat×Nat×List Int×Bool
def fE(p q:Nat):Ed:=(p,q,zS,true)
def Rx.fst(t:Rx)(n:Nat):Nat:=n+2*t.len-2
def Rx.lst(t:Rx)(n:Nat):Nat:=n+2*t.len-1
def Rx.ay:Rx->Nat->List Ed
 |.eps,n=>[fE n (n+1)]
 |.set S,n=>[(n,n+1,S,false)]
 |.cat a b,n=>a.ay n++b.ay (n+2*a.len)++[fE (n+2*(a.len+b.len)) (a.fst n),fE (a.lst n) (b.fst (n+2*a.len)),fE (b.lst (n+2*a.len)) (n+2*(a.len+b.len)+1)]
 |.alt a b,n=>a.ay n++b.ay (n+2*a.len)++[fE (n+2*(a.len+b.len)) (a.fst n),fE (a.lst n) (n+2*(a.len+b.len)+1),fE (n+2*(a.len+b.len)) (b.fst (n+2*a.len)),fE (b.lst (n+2*a.len)) (n+2*(a.len+b.len)+1)]
 |.rep k a,n=>a.ay n++[fE (n+2*a.len) (a.fst n),fE (a.lst n) (n+2*a.len+1)]++(if k=6 then []else [fE (a.lst n) (a.fst n)])++(if k=5 then []else [fE (n+2*a.len) (n+2*a.len+1)])
theorem Rx.dN:∀ (t:Rx) (n:Nat),∀ e∈t.ay n,n<=e.1/\e.1<n+2*t.len/\n<=e.2.1/\e.2.1<n+2*t.len:=by
 intro t
 induction t with
 |eps=>intro n e he;simp[Rx.ay,fE]at he;subst he;simp[Rx.len]
 |set S=>intro n e he;simp[Rx.ay]at he;subst he;simp[Rx.len]
 |cat a b iha ihb=>
  intro n e he
  have ha:=a.bL
  have hb:=b.bL
  simp only[Rx.ay,av,az,cq,or_false]at he
  simp only[Rx.len]
  rcases he with(he|he)|he|he|he
  ·have:=iha n e he;omega
  ·have:=ihb _ e he;omega
  all_goals (subst he;simp only[fE,Rx.fst,Rx.lst];omega)
 |alt a b iha ihb=>
  intro n e he
  have ha:=a.bL
  have hb:=b.bL
  simp only[Rx.ay,av,az,cq,or_false]at he
  simp only[Rx.len]
  rcases he with(he|he)|he|he|he|he
  ·have:=iha n e he;omega
  ·have:=ihb _ e he;omega
  all_goals (subst he;simp only[fE,Rx.fst,Rx.lst];omega)
 |rep k a ih=>
  intro n e he
  have ha:=a.bL
  simp only[Rx.ay,av,az,cq,or_false]at he
  simp only[Rx.len]
  rcases he with((he|he|he)|he)|he
  ·have:=ih n e he;omega
  ·subst he;simp only[fE,Rx.fst,Rx.lst];omega
  ·subst he;simp only[fE,Rx.fst,Rx.lst];omega
  ·split at he
   ·simp at he
   ·simp only[aM]at he;subst he;simp only[fE,Rx.fst,Rx.lst];omega
  ·split at he
   ·simp at he
   ·simp only[aM]at he;subst he;simp only[fE,Rx.fst,Rx.lst];omega
def Rx.cl:Rx->Nat->Nat->Bool
 |.eps,n,q=>decide (q=n)||decide (q=n+1)
 |.set _,n,q=>decide (q=n)
 |.cat a b,n,q=>decide (q=n+2*(a.len+b.len))||a.cl n q||(a.null&&b.cl (n+2*a.len) q)||(a.null&&b.null&&decide (q=n+2*(a.len+b.len)+1))
 |.alt a b,n,q=>decide (q=n+2*(a.len+b.len))||a.cl n q||b.cl (n+2*a.len) q||((a.null||b.null)&&decide (q=n+2*(a.len+b.len)+1))
 |.rep k a,n,q=>decide (q=n+2*a.len)||a.cl n q||((!decide (k=5)||a.null)&&decide (q=n+2*a.len+1))
theorem Rx.sM:∀ (t:Rx) (n q:Nat),t.cl n q=true->n<=q/\q<n+2*t.len:=by
 intro t
 induction t with
 |eps=>intro n q h;simp only[Rx.cl,aG,decide_eq_true_eq]at h;simp only[Rx.len];omega
 |set S=>intro n q h;simp only[Rx.cl,decide_eq_true_eq]at h;simp only[Rx.len];omega
 |cat a b iha ihb=>
  intro n q h
  simp only[Rx.cl,aG,ag,decide_eq_true_eq]at h
  simp only[Rx.len]
  rcases h with((h|h)|h)|h
  ·omega
  ·have:=iha n q h;omega
  ·have:=ihb _ q h.2;omega
  ·omega
 |alt a b iha ihb=>
  intro n q h
  simp only[Rx.cl,aG,ag,decide_eq_true_eq]at h
  simp only[Rx.len]
  rcases h with((h|h)|h)|h
  ·omega
  ·have:=iha n q h;omega
  ·have:=ihb _ q h;omega
  ·omega
 |rep k a ih=>
  intro n q h
  simp only[Rx.cl,aG,ag,decide_eq_true_eq]at h
  simp only[Rx.len]
  rcases h with(h|h)|h
  ·omega
  ·have:=ih n q h;omega
  ·omega
theorem Rx.uL(t:Rx){n q:Nat}(h:q<n\/n+2*t.len<=q):t.cl n q=false:=by
 cases hc:t.cl n q
 ·rfl
 ·have:=t.sM n q hc;omega
theorem Rx.nG:∀ (t:Rx) (n:Nat),t.cl n (t.fst n)=true:=by
 intro t n
 have:=t.bL
 cases t with
 |eps=>simp[Rx.cl,Rx.fst,Rx.len]
 |set S=>simp[Rx.cl,Rx.fst,Rx.len]
 |cat a b=>
  have e:(Rx.cat a b).fst n=n+2*(a.len+b.len):=by simp only[Rx.fst,Rx.len];omega
  rw[e];simp[Rx.cl]
 |alt a b=>
  have e:(Rx.alt a b).fst n=n+2*(a.len+b.len):=by simp only[Rx.fst,Rx.len];omega
  rw[e];simp[Rx.cl]
 |rep k a=>
  have e:(Rx.rep k a).fst n=n+2*a.len:=by simp only[Rx.fst,Rx.len];omega
  rw[e];simp[Rx.cl]
theorem Rx.rS:∀ (t:Rx) (n:Nat),t.cl n (t.lst n)=t.null:=by
 intro t n
 have:=t.bL
 cases t with
 |eps=>simp[Rx.cl,Rx.lst,Rx.len,Rx.null]
 |set S=>simp[Rx.cl,Rx.lst,Rx.len,Rx.null]
 |cat a b=>
  have e:(Rx.cat a b).lst n=n+2*(a.len+b.len)+1:=by simp only[Rx.lst,Rx.len];omega
  rw[e]
  simp only[Rx.cl,a.uL (n:=n) (q:=n+2*(a.len+b.len)+1) (by omega),b.uL (n:=n+2*a.len) (q:=n+2*(a.len+b.len)+1) (by omega),Rx.null]
  simp
 |alt a b=>
  have e:(Rx.alt a b).lst n=n+2*(a.len+b.len)+1:=by simp only[Rx.lst,Rx.len];omega
  rw[e]
  simp only[Rx.cl,a.uL (n:=n) (q:=n+2*(a.len+b.len)+1) (by omega),b.uL (n:=n+2*a.len) (q:=n+2*(a.len+b.len)+1) (by omega),Rx.null]
  simp
 |rep k a=>
  have e:(Rx.rep k a).lst n=n+2*a.len+1:=by simp only[Rx.lst,Rx.len];omega
  rw[e]
  simp only[Rx.cl,a.uL (n:=n) (q:=n+2*a.len+1) (by omega),Rx.null]
  simp
theorem Rx.pq(t:Rx)(n:Nat):n<=t.fst n/\t.fst n<n+2*t.len:=by have:=t.bL;simp only[Rx.fst];omega
theorem Rx.kJ(t:Rx)(n:Nat):n<=t.lst n/\t.lst n<n+2*t.len:=by have:=t.bL;simp only[Rx.lst];omega
theorem Rx.DW:∀ (t:Rx) (n:Nat),∀ e∈t.ay n,e.2.2.2=true->t.cl n e.1=true->t.cl n e.2.1=true:=by
 intro t
 induction t with
 |eps=>intro n e he _ h;simp[Rx.ay,fE]at he;subst he;simp[Rx.cl]
 |set S=>intro n e he hf h;simp[Rx.ay]at he;subst he;cases hf
 |cat a b iha ihb=>
  intro n e he hf h
  have ha:=a.bL
  have hb:=b.bL
  simp only[Rx.ay,av,az,cq,or_false]at he
  simp only[Rx.cl,aG,ag,decide_eq_true_eq]at h |-
  rcases he with(he|he)|he|he|he
  ·have hr:=a.dN n e he
   have:a.cl n e.1=true:=by
    rcases h with((h|h)|h)|h
    ·omega
    ·exact h
    ·have:=b.sM _ _ h.2;omega
    ·omega
   exact .inl (.inl (.inr (iha n e he hf this)))
  ·have hr:=b.dN _ e he
   have:a.null=true/\b.cl (n+2*a.len) e.1=true:=by
    rcases h with((h|h)|h)|h
    ·omega
    ·have:=a.sM _ _ h;omega
    ·exact h
    ·omega
   exact .inl (.inr ⟨this.1,ihb _ e he hf this.2⟩)
  ·subst he;exact .inl (.inl (.inr (a.nG n)))
  ·subst he
   simp only[fE]at h |-
   have hi:=a.kJ n
   have:a.null=true:=by
    rcases h with((h|h)|h)|h
    ·omega
    ·rw[a.rS]at h;exact h
    ·exact h.1
    ·omega
   exact .inl (.inr ⟨this,b.nG _⟩)
  ·subst he
   simp only[fE]at h |-
   have hi:=b.kJ (n+2*a.len)
   have:a.null=true/\b.null=true:=by
    rcases h with((h|h)|h)|h
    ·omega
    ·have:=a.sM _ _ h;omega
    ·rw[b.rS]at h;exact h
    ·exact h.1
   exact .inr ⟨this,trivial⟩
 |alt a b iha ihb=>
  intro n e he hf h
  have ha:=a.bL
  have hb:=b.bL
  simp only[Rx.ay,av,az,cq,or_false]at he
  simp only[Rx.cl,aG,ag,decide_eq_true_eq]at h |-
  rcases he with(he|he)|he|he|he|he
  ·have hr:=a.dN n e he
   have:a.cl n e.1=true:=by
    rcases h with((h|h)|h)|h
    ·omega
    ·exact h
    ·have:=b.sM _ _ h;omega
    ·omega
   exact .inl (.inl (.inr (iha n e he hf this)))
  ·have hr:=b.dN _ e he
   have:b.cl (n+2*a.len) e.1=true:=by
    rcases h with((h|h)|h)|h
    ·omega
    ·have:=a.sM _ _ h;omega
    ·exact h
    ·omega
   exact .inl (.inr (ihb _ e he hf this))
  ·subst he;exact .inl (.inl (.inr (a.nG n)))
  ·subst he
   simp only[fE]at h |-
   have hi:=a.kJ n
   have:a.null=true:=by
    rcases h with((h|h)|h)|h
    ·omega
    ·rw[a.rS]at h;exact h
    ·have:=b.sM _ _ h;omega
    ·omega
   exact .inr ⟨.inl this,trivial⟩
  ·subst he;exact .inl (.inr (b.nG _))
  ·subst he
   simp only[fE]at h |-
   have hi:=b.kJ (n+2*a.len)
   have:b.null=true:=by
    rcases h with((h|h)|h)|h
    ·omega
    ·have:=a.sM _ _ h;omega
    ·rw[b.rS]at h;exact h
    ·omega
   exact .inr ⟨.inr this,trivial⟩
 |rep k a ih=>
  intro n e he hf h
  have ha:=a.bL
  simp only[Rx.ay,av,az,cq,or_false]at he
  simp only[Rx.cl,aG,ag,bz,decide_eq_true_eq,decide_eq_false_iff_not]at h |-
  have hi:=a.kJ n
  have hj:=a.pq n
  rcases he with((he|he|he)|he)|he
  ·have hr:=a.dN n e he
   have:a.cl n e.1=true:=by
    rcases h with(h|h)|h
    ·omega
    ·exact h
    ·omega
   exact .inl (.inr (ih n e he hf this))
  ·subst he;exact .inl (.inr (a.nG n))
  ·subst he
   simp only[fE]at h |-
   have:a.null=true:=by
    rcases h with(h|h)|h
    ·omega
    ·rw[a.rS]at h;exact h
    ·omega
   exact .inr ⟨.inr this,trivial⟩
  ·split at he
   ·simp at he
   ·simp only[aM]at he;subst he;exact .inl (.inr (a.nG n))
  ·split at he
   ·simp at he
   ·rename_i h5
    simp only[aM]at he;subst he
    exact .inr ⟨.inl h5,rfl⟩
inductive Fr0(E:List Ed):Nat->Nat->Prop where
 |refl (p:Nat):Fr0 E p p
 |step {p q r:Nat}:Fr0 E p q->(q,r,zS,true)∈E->Fr0 E p r
theorem Fr0.mono{E E':List Ed}(h:∀ e∈E,e∈E'){p q:Nat}(hp:Fr0 E p q):Fr0 E' p q:=by
 induction hp with
 |refl=>exact .refl _
 |step _ he ih=>exact .step ih (h _ he)
theorem Fr0.trans{E:List Ed}{p q r:Nat}(h1:Fr0 E p q)(h2:Fr0 E q r):Fr0 E p r:=by
 induction h2 with
 |refl=>exact h1
 |step _ he ih=>exact .step ih he
theorem Rx.I8:∀ (t:Rx) (n:Nat),t.null=true->Fr0 (t.ay n) (t.fst n) (t.lst n):=by
 intro t
 induction t with
 |eps=>
  intro n _
  have e1:Rx.eps.fst n=n:=by simp[Rx.fst,Rx.len]
  have e2:Rx.eps.lst n=n+1:=by simp[Rx.lst,Rx.len]
  rw[e1,e2]
  exact .step (.refl _) (by simp[Rx.ay,fE])
 |set S=>intro n h;cases h
 |cat a b iha ihb=>
  intro n h
  simp only[Rx.null,ag]at h
  have e1:(Rx.cat a b).fst n=n+2*(a.len+b.len):=by simp only[Rx.fst,Rx.len];omega
  have e2:(Rx.cat a b).lst n=n+2*(a.len+b.len)+1:=by simp only[Rx.lst,Rx.len];omega
  rw[e1,e2]
  have w1:Fr0 ((Rx.cat a b).ay n) (n+2*(a.len+b.len)) (a.fst n):=.step (.refl _) (by simp[Rx.ay,fE])
  have w2:=(iha n h.1).mono (E':=(Rx.cat a b).ay n) (λe he=>by simp only[Rx.ay,av];exact .inl (.inl he))
  have w3:=(ihb (n+2*a.len) h.2).mono (E':=(Rx.cat a b).ay n) (λe he=>by simp only[Rx.ay,av];exact .inl (.inr he))
  exact .step ((Fr0.step (w1.trans w2) (by simp[Rx.ay,fE])).trans w3) (by simp[Rx.ay,fE])
 |alt a b iha ihb=>
  intro n h
  simp only[Rx.null,aG]at h
  have e1:(Rx.alt a b).fst n=n+2*(a.len+b.len):=by simp only[Rx.fst,Rx.len];omega
  have e2:(Rx.alt a b).lst n=n+2*(a.len+b.len)+1:=by simp only[Rx.lst,Rx.len];omega
  rw[e1,e2]
  rcases h with h|h
  ·have w1:Fr0 ((Rx.alt a b).ay n) (n+2*(a.len+b.len)) (a.fst n):=.step (.refl _) (by simp[Rx.ay,fE])
   have w2:=(iha n h).mono (E':=(Rx.alt a b).ay n) (λe he=>by simp only[Rx.ay,av];exact .inl (.inl he))
   exact .step (w1.trans w2) (by simp[Rx.ay,fE])
  ·have w1:Fr0 ((Rx.alt a b).ay n) (n+2*(a.len+b.len)) (b.fst (n+2*a.len)):=.step (.refl _) (by simp[Rx.ay,fE])
   have w2:=(ihb _ h).mono (E':=(Rx.alt a b).ay n) (λe he=>by simp only[Rx.ay,av];exact .inl (.inr he))
   exact .step (w1.trans w2) (by simp[Rx.ay,fE])
 |rep k a ih=>
  intro n h
  have e1:(Rx.rep k a).fst n=n+2*a.len:=by simp only[Rx.fst,Rx.len];omega
  have e2:(Rx.rep k a).lst n=n+2*a.len+1:=by simp only[Rx.lst,Rx.len];omega
  rw[e1,e2]
  by_cases h5:k=5
  ·simp only[Rx.null,h5,decide_true,aB,cT]at h
   have w1:Fr0 ((Rx.rep k a).ay n) (n+2*a.len) (a.fst n):=.step (.refl _) (by simp[Rx.ay,fE])
   have w2:=(ih n h).mono (E':=(Rx.rep k a).ay n) (λe he=>by simp only[Rx.ay,av];exact .inl (.inl (.inl he)))
   exact .step (w1.trans w2) (by simp[Rx.ay,fE])
  ·exact .step (.refl _) (by simp[Rx.ay,fE,h5])
end
noncomputable section
def qa(c:Int):Option Int:=if 48<=c/\c<=57 then some (c-48)else if 97<=c/\c<=102 then some (c-87)else none
def mL(c:Int):Bool:=(decide (48<=c)&&decide (c<=57))||(decide (97<=c)&&decide (c<=122))||(decide (65<=c)&&decide (c<=90))
def rdS:List Int->Option (Int×Nat)
 |[]=>none
 |c::r=>if c≠92 then some (c,1)else match r with
  |[]=>none
  |d::r2=>if d=110 then some (10,2)else if d=116 then some (9,2)else if d=114 then some (13,2)else
   if d=120 then(match r2 with
    |h::l::_=>(match qa h,qa l with
     |some a,some b=>some (16*a+b,4)
     |_,_=>none)
    |_=>none)
   else if mL d=true\/d<32\/126<d then none else some (d,2)
def mM(l:Nat->Bool):Nat->Nat
 |0=>0
 |n+1=>(if l n then 2 ^ n else 0)+mM l n
theorem wR(l:Nat->Bool)(w:Nat):∃ n,n=mM (λi=>l (64*w+i)) 64:=⟨_,rfl⟩
def bw(l:Nat->Bool)(w:Nat):Nat:=Classical.choose (wR l w)
theorem mD(l:Nat->Bool)(w:Nat):bw l w=mM (λi=>l (64*w+i)) 64:=Classical.choose_spec (wR l w)
def ofB(l:Nat->Bool):List Int:=[(bw l 0:Nat),(bw l 1:Nat),(bw l 2:Nat),(bw l 3:Nat)]
def rT(c:Int):Nat->Bool:=λi=>decide (c=(i:Int))
def uM(a b:Int):Nat->Bool:=λi=>decide (a<=(i:Int))&&decide ((i:Int)<=b)
def eu(l:Nat->Bool):Bool:=(List.range 256).all λi=>!l i
def ch(s:List Int)(at_:Nat):Int:=(s[at_]?).getD (-1)
def brL(s:List Int):Nat->Nat->(Nat->Bool)->Option ((Nat->Bool)×Nat)
 |0,_,_=>none
 |m+1,i,l=>if s.length<=i\/ch s i=93 then some (l,i)else
  if ch s i∈[94,45,47,34]then none else match rdS (s.drop i)with
   |none=>none
   |some (a,n)=>if i+n<s.length/\ch s (i+n)=45 then
    (if s.length<=i+n+1\/ch s (i+n+1)∈[93,94,45,47,34]then none else match rdS (s.drop (i+n+1))with
     |none=>none
     |some (b,n2)=>if b<a then none else brL s m (i+n+1+n2) λx=>l x||uM a b x)
    else brL s m (i+n) λx=>l x||uM a a x
def brS(s:List Int)(i:Nat):Option (Rx×Nat):=
 let nt:=decide (i<s.length)&&decide (ch s i=94)
 match brL s s.length.succ (if nt then i+1 else i) (λ_=>false)with
 |none=>none
 |some (l,j)=>
  let l':=if nt then λx=>!l x else l
  if s.length<=j\/eu l'=true then none else some (.set (ofB l'),j+1)
def mQ(inner:Nat->Nat->Option (Rx×Nat))(s:List Int)(i d:Nat):Option (Rx×Nat):=
 if s.length<=i\/ch s i∈[124,41,42,43,63,93,47,34]then none
 else if ch s i=46 then some (.set (ofB λ_=>true),i+1)
 else if ch s i=126 then some (.eps,i+1)
 else if ch s i=91 then brS s (i+1)
 else if ch s i=40 then(if 99<=d then none else match inner (i+1) (d+1)with
  |none=>none
  |some (t,j)=>if j<s.length/\ch s j=41 then some (t,j+1)else none)
 else match rdS (s.drop i)with
  |none=>none
  |some (c,n)=>some (.set (ofB (rT c)),i+n)
def iM(c:Int):Int:=if c=42 then 4 else if c=43 then 5 else 6
def rU(s:List Int):Nat->Nat->Rx->Option (Rx×Nat)
 |0,_,_=>none
 |m+1,i,t=>if i<s.length/\ch s i∈[42,43,63]then rU s m (i+1) (.rep (iM (ch s i)) t)else some (t,i)
def kK(inner:Nat->Nat->Option (Rx×Nat))(s:List Int)(i d:Nat):Option (Rx×Nat):=
 match mQ inner s i d with
 |none=>none
 |some (t,j)=>rU s s.length.succ j t
def tb(inner:Nat->Nat->Option (Rx×Nat))(s:List Int)(d:Nat):Nat->Nat->Rx->Option (Rx×Nat)
 |0,_,_=>none
 |m+1,i,t=>if i<s.length/\ch s i∉[124,41]then(match kK inner s i d with
  |none=>none
  |some (t2,j)=>tb inner s d m j (.cat t t2))else some (t,i)
def lJ(inner:Nat->Nat->Option (Rx×Nat))(s:List Int)(i d:Nat):Option (Rx×Nat):=
 match kK inner s i d with
 |none=>none
 |some (t,j)=>tb inner s d s.length.succ j t
def tc(inner:Nat->Nat->Option (Rx×Nat))(s:List Int)(d:Nat):Nat->Nat->Rx->Option (Rx×Nat)
 |0,_,_=>none
 |m+1,i,t=>if i<s.length/\ch s i=124 then(match lJ inner s (i+1) d with
  |none=>none
  |some (t2,j)=>tc inner s d m j (.alt t t2))else some (t,i)
def Cz(inner:Nat->Nat->Option (Rx×Nat))(s:List Int)(i d:Nat):Option (Rx×Nat):=
 match lJ inner s i d with
 |none=>none
 |some (t,j)=>tc inner s d s.length.succ j t
def km(s:List Int):Nat->Nat->Nat->Option (Rx×Nat)
 |0,_,_=>none
 |n+1,i,d=>Cz (km s n) s i d
def gk(s:List Int):Except Int Rx:=
 if 1600<s.length then .error 6 else match km s s.length.succ 0 0 with
  |none=>.error 5
  |some (t,i)=>if i<s.length then .error 5 else if 400<t.len then .error 6 else .ok t
end
noncomputable section
theorem uN(l:Nat->Bool):∀ n,mM l n<2 ^ n:=by
 intro n
 induction n with
 |zero=>simp[mM]
 |succ n ih=>simp only[mM,iD];split <;> omega
theorem wS(l:Nat->Bool):∀ n i,(mM l n).testBit i=(decide (i<n)&&l i):=by
 intro n
 induction n with
 |zero=>intro i;simp[mM]
 |succ n ih=>
  intro i
  have hlt:=uN l n
  simp only[mM]
  by_cases hl:l n=true
  ·rw[if_pos hl]
   rcases Nat.lt_trichotomy i n with h|h|h
   ·rw[Nat.testBit_two_pow_add_gt h,ih]
    simp[h,fv h]
   ·subst h
    rw[Nat.testBit_two_pow_add_eq,jD hlt]
    simp[hl]
   ·rw[jD (bA (show 2 ^ n+mM l n<2 ^ (n+1) by rw[iD];omega) (ix (by omega) h))]
    have:¬i<n+1:=by omega
    simp[this]
  ·rw[if_neg hl,eE,ih]
   have hl:l n=false:=by simpa using hl
   by_cases h:i=n
   ·subst h;simp[hl]
   ·have:(i<n)↔(i<n+1):=by omega
    simp[this]
theorem dX(l:Nat->Bool)(w:Nat):bw l w<18446744073709551616:=by rw[mD];exact uN _ 64
theorem dC(l:Nat->Bool)(w i:Nat):(bw l w).testBit i=(decide (i<64)&&l (64*w+i)):=by rw[mD];exact wS _ 64 i
theorem gC{l m:Nat->Bool}{w:Nat}(h:∀ i,i<64->l (64*w+i)=m (64*w+i)):bw l w=bw m w:=by
 apply gI
 intro i
 rw[dC,dC]
 by_cases hi:i<64
 ·rw[h i hi]
 ·simp[hi]
theorem oI{l:Nat->Bool}{w n:Nat}(h:∀ i,n.testBit i=(decide (i<64)&&l (64*w+i))):n=bw l w:=by
 apply gI
 intro i
 rw[h,dC]
theorem iY{l m:Nat->Bool}(h:∀ i,i<256->l i=m i):ofB l=ofB m:=by
 unfold ofB
 rw[gC (w:=0) (λi hi=>h _ (by omega)),gC (w:=1) (λi hi=>h _ (by omega)),gC (w:=2) (λi hi=>h _ (by omega)),gC (w:=3) (λi hi=>h _ (by omega))]
theorem jw{l:Nat->Bool}{w:Nat}(h:w<4):(ofB l)[w]?=some ((bw l w:Nat):Int):=by
 unfold ofB
 match w,h with
 |0,_=>rfl
 |1,_=>rfl
 |2,_=>rfl
 |3,_=>rfl
theorem Vj{a b c d n a' b' c' d':Int}{w:Nat}(h:w<4)(h0:if w=0 then a'=n else a'=a)(h1:if w=1 then b'=n else b'=b)(h2:if w=2 then c'=n else c'=c)(h3:if w=3 then d'=n else d'=d):[a,b,c,d].set w n=[a',b',c',d']:=by
 have:w=0\/w=1\/w=2\/w=3:=by omega
 rcases this with rfl|rfl|rfl|rfl <;> simp at h0 h1 h2 h3 <;> subst h0 h1 h2 h3 <;> rfl
theorem yi{l m:Nat->Bool}{w n:Nat}(h:w<4)(hn:n=bw m w)(hm:∀ v i,v<4->v≠w->i<64->l (64*v+i)=m (64*v+i)):(ofB l).set w (n:Int)=ofB m:=by
 have key:∀ v,v<4->(if w=v then((bw m v:Nat):Int)=(n:Int)else((bw m v:Nat):Int)=((bw l v:Nat):Int)):=by
  intro v hv
  split
  ·rename_i e;rw[hn,e]
  ·rename_i e
   rw[gC (l:=l) (m:=m) (w:=v) (λi hi=>hm v i hv (λe2=>e e2.symm) hi)]
 exact Vj h (key 0 (by omega)) (key 1 (by omega)) (key 2 (by omega)) (key 3 (by omega))
theorem P0(l:Nat->Bool):∀ x∈ofB l,0<=x/\x<=18446744073709551615:=by
 intro x hx
 simp only[ofB,az,cq,or_false]at hx
 have h0:=dX l 0
 have h1:=dX l 1
 have h2:=dX l 2
 have h3:=dX l 3
 generalize bw l 0=a0 at *
 generalize bw l 1=a1 at *
 generalize bw l 2=a2 at *
 generalize bw l 3=a3 at *
 omega
theorem sN{l:Nat->Bool}{w:Nat}:bw l w=0↔∀ i,i<64->l (64*w+i)=false:=by
 constructor
 ·intro h i hi
  have:=dC l w i
  rw[h]at this
  simpa [hi]using this.symm
 ·intro h
  apply gI
  intro i
  rw[dC]
  by_cases hi:i<64
  ·simp[h i hi]
  ·simp[hi]
theorem hC{l:Nat->Bool}:ofB l=zS↔eu l=true:=by
 unfold eu
 rw[cR]
 constructor
 ·intro h i hi
  have hi:=cE.1 hi
  simp only[ofB,zS,eQ,and_true]at h
  have hw:∀ w,w<4->bw l w=0:=by
   intro w hw
   match w,hw with
   |0,_=>omega
   |1,_=>omega
   |2,_=>omega
   |3,_=>omega
  have:=sN.1 (hw (i / 64) (by omega)) (i % 64) (by omega)
  rw[show 64*(i / 64)+i % 64=i by omega]at this
  simp[this]
 ·intro h
  have hz:∀ w,w<4->bw l w=0:=λw hw=>sN.2 λi hi=>by
   have:=h (64*w+i) (cE.2 (by omega))
   simpa using this
  simp[ofB,zS,hz]
theorem rV{n:Nat}(h:n<18446744073709551616):(BitVec.ofInt (IntKind.bits .u64) (n:Int)).toNat=n:=by
 have:IntKind.bits .u64=64:=rfl
 rw[this,qU]
 omega
theorem wrap_u64{n:Nat}(h:n<18446744073709551616):IntKind.wrap .u64 (n:Int)=n:=jQ ⟨by simp[kLo],by simp[kHi];omega⟩
theorem I9{a b:Nat}(ha:a<18446744073709551616)(hb:b<18446744073709551616):eG .or .u64 (a:Int) (b:Int)=((a|||b:Nat):Int):=by
 have hlt:a|||b<2 ^ 64:=qX ha hb
 simp only[eG,rh,rV ha,rV hb]
 exact wrap_u64 hlt
theorem CA{a b:Nat}(ha:a<18446744073709551616)(hb:b<18446744073709551616):eG .andNot .u64 (a:Int) (b:Int)=((a&&& (18446744073709551615-b):Nat):Int):=by
 have hlt:a&&& (18446744073709551615-b)<2 ^ 64:=Nat.and_lt_two_pow _ (by omega)
 simp only[eG,BitVec.toNat_and,BitVec.toNat_not,rV ha,rV hb]
 exact wrap_u64 hlt
theorem AJ{i:Nat}(h:i<64):2 ^ i<18446744073709551616:=bA (qO (by omega) h) (by decide)
theorem yj{i:Nat}(h:i<64):IntKind.wrap .u64 ((1:Int)*2 ^ (Nat.min (Int.toNat (i:Int)) (IntKind.bits .u64)))=((2 ^ i:Nat):Int):=by
 have e:Nat.min (Int.toNat (i:Int)) (IntKind.bits .u64)=i:=by
  rw[ae];exact dr (by show i<=64;omega)
 rw[e,Int.one_mul]
 have:=wrap_u64 (AJ h)
 rw[<-this]
 congr 1
theorem Ja{l:Nat->Bool}{w i:Nat}(hi:i<64):bw l w|||2 ^ i=bw (λx=>l x||decide (x=64*w+i)) w:=by
 apply oI
 intro j
 rw[kY,dC,nY]
 by_cases hj:j<64
 ·simp only[hj,decide_true,bI]
  congr 1
  rw[decide_eq_decide];omega
 ·simp only[hj,decide_false,dI,cT,decide_eq_false_iff_not];omega
theorem MQ{l m:Nat->Bool}{w:Nat}:bw l w|||bw m w=bw (λx=>l x||m x) w:=by
 apply oI
 intro j
 rw[kY,dC,dC]
 cases decide (j<64) <;> simp
theorem Jb{l:Nat->Bool}{w:Nat}:18446744073709551615&&& (18446744073709551615-bw l w)=bw (λx=>!l x) w:=by
 apply oI
 intro j
 have h:=dX l w
 rw[Nat.testBit_and,show(18446744073709551615:Nat)=2 ^ 64-1 by rfl,Nat.testBit_two_pow_sub_one,show 2 ^ 64-1-bw l w=2 ^ 64-(bw l w+1) by omega,Nat.testBit_two_pow_sub_succ h,dC]
 cases decide (j<64) <;> simp
end
noncomputable section
theorem Jc(i:Nat):Int.tdiv (i:Int) 64=((i / 64:Nat):Int):=by
 rw[show(64:Int)=((64:Nat):Int) by rfl];exact kZ i 64 |>.symm
theorem Jd(i:Nat):Int.tmod (i:Int) 64=((i % 64:Nat):Int):=by
 rw[show(64:Int)=((64:Nat):Int) by rfl];exact oj i 64 |>.symm
theorem bJ{n:Nat}(h:n<9223372036854775808):IntKind.wrap .i64 (n:Int)=n:=bD (by omega) (by omega)
theorem j8{n:Nat}(h:n<256):IntKind.wrap .u8 (n:Int)=n:=jQ ⟨by simp[kLo],by simp[kHi];omega⟩
theorem DX{f:Nat->Bool}{i:Nat}(h:i<256):(ofB f).set (i / 64) (eG .or .u64 ((bw f (i / 64):Nat):Int) ((2 ^ (i % 64):Nat):Int))=ofB (λx=>f x||decide (x=i)):=by
 have hi:i % 64<64:=eS _ (by omega)
 rw[I9 (dX _ _) (AJ hi),Ja hi]
 have e:64*(i / 64)+i % 64=i:=by omega
 rw[e]
 refine yi (by omega) rfl (λv j hv hne hj=>?_)
 have:¬(64*v+j=i):=by omega
 simp[this]
theorem DY:Mf N0 ()=some ((ofB (λ_=>true),()),()):=by
 have h:∀ w,bw (λ_=>true) w=18446744073709551615:=λw=>by rw[mD];rfl
 have:ofB (λ_=>true)=[18446744073709551615,18446744073709551615,18446744073709551615,18446744073709551615]:=by unfold ofB;simp only[h];rfl
 rw[this]
 rfl
theorem MR{a b:Int}(ha:0<=a/\a<=255)(hb:0<=b/\b<=255):IF N0 (a,(b,()))=some ((ofB (uM a b),()),()):=by
 unfold IF
 have wa:IntKind.wrap .i64 a=a:=bD (by omega) (by omega)
 have wb:IntKind.wrap .i64 b=b:=bD (by omega) (by omega)
 have z:([0,0,0,0]:List Int)=ofB (λx=>decide (a<=(x:Int))&&decide ((x:Int)<a)):=by
  rw[show([0,0,0,0]:List Int)=zS by rfl]
  refine(hC.2 ?_).symm
  unfold eu
  rw[cR]
  intro x _
  by_cases h:a<=(x:Int) <;> simp[h]
 simp only[wa,wb]
 refine aZ (λm x r=>∃ i:Nat,x=(([0,0,0,0],(ofB (λx=>decide (a<=(x:Int))&&decide ((x:Int)<(i:Int))),())),((i:Int),()))/\m=(b+1-i).toNat/\a<=i/\i<=256/\(a<=b->(i:Int)<=b+1)/\(b<a->(i:Int)=a)/\r=some ((ofB (uM a b),()),())) ?_ N0 ((b+1-a).toNat) _ _ (by unfold N0;omega) ⟨a.toNat,by rw[dm ha.1,<-z],by rw[dm ha.1],by omega,by omega,by omega,by omega,rfl⟩
 rintro m x r ⟨i,rfl,hm,h1,h2,h3,h4,rfl⟩ k hk
 simp only
 by_cases hib:(i:Int)<=b
 ·have hi:i<256:=by omega
  have hw:i / 64<4:=by omega
  have hl:i % 64<64:=eS _ (by omega)
  have w1:IntKind.wrap .i64 (Int.tdiv (i:Int) 64)=((i / 64:Nat):Int):=by rw[Jc];exact bJ (by omega)
  have w2:IntKind.wrap .u64 (Int.tmod (i:Int) 64)=((i % 64:Nat):Int):=by rw[Jd];exact wrap_u64 (by omega)
  have w3:IntKind.wrap .i64 ((i:Int)+1)=((i+1:Nat):Int):=by rw[<-bJ (n:=i+1) (by omega)];rfl
  have g:(ofB (λx=>decide (a<=(x:Int))&&decide ((x:Int)<(i:Int))))[((i / 64:Nat):Int).toNat]?=some ((bw (λx=>decide (a<=(x:Int))&&decide ((x:Int)<(i:Int))) (i / 64):Nat):Int):=by rw[ae];exact jw hw
  have n1:¬((64:Int)=0):=by omega
  have n2:¬(((i % 64:Nat):Int)<0):=by omega
  have n3:(0:Int)<=((i / 64:Nat):Int):=by omega
  rw[decide_eq_true hib,cond_true,w1,w2,w3,if_neg n1,if_pos n3,g]
  simp only[if_neg n1,if_neg n2,if_pos n3,g,yj hl]
  refine hk _ _ _ (show(b+1-((i+1:Nat):Int)).toNat<m by omega) ⟨i+1,?_,rfl,by omega,by omega,by omega,by omega,rfl⟩
  rw[ae,DX hi]
  have ef:ofB (λx=>(decide (a<=(x:Int))&&decide ((x:Int)<(i:Int)))||decide (x=i))=ofB (λx=>decide (a<=(x:Int))&&decide ((x:Int)<((i+1:Nat):Int))):=by
   refine iY (λx hx=>?_)
   have e1:(decide ((x:Int)<((i+1:Nat):Int)))=(decide ((x:Int)<(i:Int))||decide (x=i)):=by
    rw[<-Bool.decide_or,decide_eq_decide];omega
   rw[e1]
   by_cases hax:a<=(x:Int)
   ·simp[hax]
   ·have:¬x=i:=by omega
    simp[hax,this]
  rw[ef]
 ·rw[decide_eq_false hib,cond_false]
  have ef:ofB (λx=>decide (a<=(x:Int))&&decide ((x:Int)<(i:Int)))=ofB (uM a b):=?_
  ·rw[ef]
  refine iY (λx hx=>?_)
  unfold uM
  rcases Int.lt_or_le b a with hlt|hle
  ·have e:=h4 hlt
   by_cases hax:a<=(x:Int)
   ·have:¬((x:Int)<=b):=by omega
    have:¬((x:Int)<(i:Int)):=by omega
    simp[*]
   ·simp[hax]
  ·have e:=h3 hle
   have:((x:Int)<(i:Int))↔((x:Int)<=b):=by omega
   simp[this]
theorem wT{l m:Nat->Bool}{i n:Nat}(hi:i<4)(hn:n=bw m i):(ofB (λx=>bif decide (x<64*i)then m x else l x)).set i (n:Int)=ofB (λx=>bif decide (x<64*(i+1))then m x else l x):=by
 refine yi hi ?_ (λv j hv hne hj=>?_)
 ·rw[hn]
  refine gC (λj hj=>?_)
  rw[decide_eq_true (by omega)];rfl
 ·have:(64*v+j<64*i)↔(64*v+j<64*(i+1)):=by omega
  simp only[this]
theorem wU{l m:Nat->Bool}:ofB (λx=>bif decide (x<64*4)then m x else l x)=ofB m:=iY λx hx=>by rw[decide_eq_true (by omega)];rfl
theorem DZ{l m:Nat->Bool}:ofB l=ofB (λx=>bif decide (x<64*0)then m x else l x):=iY λx hx=>by rw[decide_eq_false (by omega)];rfl
theorem wV{l m:Nat->Bool}{i:Nat}(hi:i<4):(ofB (λx=>bif decide (x<64*i)then m x else l x))[i]?=some ((bw l i:Nat):Int):=by
 have e:bw (λx=>bif decide (x<64*i)then m x else l x) i=bw l i:=gC (λj hj=>by rw[decide_eq_false (by omega)];rfl)
 rw[jw hi,e]
theorem MS(l m:Nat->Bool):IG N0 (ofB l,(ofB m,()))=some ((ofB (λx=>l x||m x),()),()):=by
 unfold IG
 refine aZ (λmm x r=>∃ (i:Nat) (z:List Int),x=((ofB (λx=>bif decide (x<64*i)then(l x||m x)else l x),(z,())),((i:Int),()))/\mm+i=4/\r=some ((ofB (λx=>l x||m x),()),())) ?_ N0 4 _ _ (by unfold N0;omega) ⟨0,_,by rw[<-DZ];rfl,rfl,rfl⟩
 rintro mm x r ⟨i,z,rfl,hm,rfl⟩ k hk
 simp only
 rcases ap i 4 with h|h
 ·have g1:=wV (l:=l) (m:=λx=>l x||m x) h
  have g2:=jw (l:=m) h
  have n0:(0:Int)<=(i:Int):=by omega
  have w3:IntKind.wrap .i64 ((i:Int)+1)=((i+1:Nat):Int):=by rw[<-bJ (n:=i+1) (by omega)];rfl
  rw[decide_eq_true (show(i:Int)<4 by omega),cond_true,if_pos n0,ae,g1]
  simp only[if_pos n0,g1,g2,w3]
  refine hk (mm-1) _ _ (by omega) ⟨i+1,z,?_,by omega,rfl⟩
  rw[I9 (dX _ _) (dX _ _),wT h MQ]
 ·have e:i=4:=by omega
  subst e
  rw[decide_eq_false (show ¬(((4:Nat):Int)<4) by omega),cond_false,wU]
theorem MT(m:Nat->Bool):Mh N0 (ofB (λ_=>true),(ofB m,()))=some ((ofB (λx=>!m x),()),()):=by
 unfold Mh
 refine aZ (λmm x r=>∃ (i:Nat) (z:List Int),x=((ofB (λx=>bif decide (x<64*i)then(!m x)else true),(z,())),((i:Int),()))/\mm+i=4/\r=some ((ofB (λx=>!m x),()),())) ?_ N0 4 _ _ (by unfold N0;omega) ⟨0,_,by rw[<-DZ];rfl,rfl,rfl⟩
 rintro mm x r ⟨i,z,rfl,hm,rfl⟩ k hk
 simp only
 rcases ap i 4 with h|h
 ·have g1:=wV (l:=λ_=>true) (m:=λx=>!m x) h
  have g2:=jw (l:=m) h
  have n0:(0:Int)<=(i:Int):=by omega
  have w3:IntKind.wrap .i64 ((i:Int)+1)=((i+1:Nat):Int):=by rw[<-bJ (n:=i+1) (by omega)];rfl
  have hf:bw (λ_=>true) i=18446744073709551615:=by rw[mD];rfl
  rw[decide_eq_true (show(i:Int)<4 by omega),cond_true,if_pos n0,ae,g1]
  simp only[if_pos n0,g1,g2,w3]
  refine hk (mm-1) _ _ (by omega) ⟨i+1,z,?_,by omega,rfl⟩
  rw[CA (dX _ _) (dX _ _),hf,wT h Jb]
 ·have e:i=4:=by omega
  subst e
  rw[decide_eq_false (show ¬(((4:Nat):Int)<4) by omega),cond_false,wU]
theorem MU(m:Nat->Bool):Mi N0 (ofB m,())=some ((ofB (λx=>!m x),()),()):=by
 unfold Mi
 simp only[DY,aC,MT]
theorem D1(m:Nat->Bool):ta N0 (ofB m,())=some ((eu m,()),()):=by
 unfold ta
 have:(decide (ofB m=[0,0,0,0]))=eu m:=by
  rw[cf,decide_eq_true_eq]
  exact hC
 simp only[this]
theorem D2{c:Int}(h:0<=c/\c<=255):Mk N0 ([c],())=some ((ofB (rT c),()),()):=by
 obtain⟨i,rfl⟩:∃ i:Nat,c=i:=⟨c.toNat,by omega⟩
 have hi:i<256:=by omega
 have hw:i / 64<4:=by omega
 have hl:i % 64<64:=eS _ (by omega)
 have z:([0,0,0,0]:List Int)=ofB (λ_=>false):=by
  rw[show([0,0,0,0]:List Int)=zS by rfl]
  exact(hC.2 (by unfold eu;rw[cR];intro x _;rfl)).symm
 have w1:IntKind.wrap .u8 (Int.tdiv (i:Int) 64)=((i / 64:Nat):Int):=by rw[Jc];exact j8 (by omega)
 have w3:IntKind.wrap .i64 ((0:Int)+1)=1:=bD (by omega) (by omega)
 have g:=jw (l:=λ_=>false) hw
 have n1:¬((64:Int)=0):=by omega
 have n2:¬(((i % 64:Nat):Int)<0):=by omega
 have n3:(0:Int)<=((i / 64:Nat):Int):=by omega
 unfold Mk
 refine aZ (λm x r=>((m=1/\x=(([0,0,0,0],(ofB (λ_=>false),())),((0:Int),())))\/(m=0/\x=(([0,0,0,0],(ofB (rT (i:Int)),())),((1:Int),()))))/\r=some ((ofB (rT (i:Int)),()),())) ?_ N0 1 _ _ (by unfold N0;omega) ⟨.inl ⟨rfl,by rw[<-z]⟩,rfl⟩
 rintro m x r ⟨hx,rfl⟩ k hk
 rcases hx with⟨rfl,rfl⟩|⟨rfl,rfl⟩
 ·have l1:decide ((0:Int)<(([(i:Int)]:List Int).length:Nat))=true:=rfl
  have g0:([(i:Int)]:List Int)[((0:Int)).toNat]?=some (i:Int):=rfl
  have n0:(0:Int)<=0:=by omega
  have tn:(((i / 64:Nat):Int)).toNat=i / 64:=ae _
  have hs:=DX (f:=λ_=>false) hi
  have ef:ofB (λx=>false||decide (x=i))=ofB (rT (i:Int)):=iY λx hx=>by
   unfold rT
   rw[cT,decide_eq_decide];omega
  have sh:=yj hl
  rw[l1,cond_true,if_pos n0,g0]
  simp only[if_neg n1,w1,if_pos n3,tn,g]
  simp only[Jd,if_neg n2,if_pos n3,tn,g,sh,w3,hs,ef]
  exact hk 0 _ _ (by omega) ⟨.inr ⟨rfl,rfl⟩,rfl⟩
 ·have l1:decide ((1:Int)<(([(i:Int)]:List Int).length:Nat))=false:=rfl
  rw[l1,cond_false]
end
noncomputable section
def Bytes(s:List Int):Prop:=∀ c∈s,0<=c/\c<=255
theorem Bytes.get{s:List Int}(h:Bytes s){i:Nat}{c:Int}(hc:s[i]?=some c):0<=c/\c<=255:=h c (cJ hc)
theorem Bytes.drop{s:List Int}(h:Bytes s)(i:Nat):Bytes (s.drop i):=λc hc=>h c (jE hc)
theorem D3{c:Int}(h:0<=c/\c<=255):Cs N0 (c,())=some (((qa c).getD (-1),()),()):=by
 unfold Cs qa
 simp only[aJ]
 by_cases h1:(48:Int)<=c
 ·by_cases h2:c<=(57:Int)
  ·have w1:IntKind.wrap .u8 (c-48)=c-48:=jQ ⟨by simp[kLo];omega,by simp[kHi];omega⟩
   have w2:IntKind.wrap .i64 (c-48)=c-48:=bD (by omega) (by omega)
   simp[h1,h2,w1,w2]
  ·by_cases h3:(97:Int)<=c
   ·by_cases h4:c<=(102:Int)
    ·have w1:IntKind.wrap .u8 (c-97)=c-97:=jQ ⟨by simp[kLo];omega,by simp[kHi];omega⟩
     have w2:IntKind.wrap .i64 (c-97)=c-97:=bD (by omega) (by omega)
     have w3:IntKind.wrap .i64 (c-97+10)=c-97+10:=bD (by omega) (by omega)
     have e:c-97+10=c-87:=by omega
     rw[e]at w3
     simp[h1,h2,h3,h4,w1,w2,w3,e]
    ·simp[h1,h2,h3,h4]
   ·simp[h1,h2,h3]
 ·have h3:¬(97:Int)<=c:=by omega
  simp[h1,h3]
theorem oJ{c v:Int}(h:qa c=some v):0<=v/\v<=15:=by
 unfold qa at h
 split at h
 ·injection h with h;omega
 ·split at h
  ·injection h with h;omega
  ·cases h
theorem Vk:∀ a b:Fin 16,IntKind.wrap .u8 (eG .or .i64 (IntKind.wrap .i64 (((a.val:Nat):Int)*2 ^ (Nat.min (Int.toNat (4:Int)) (IntKind.bits .i64)))) ((b.val:Nat):Int))=16*((a.val:Nat):Int)+((b.val:Nat):Int):=by decide
theorem Je{a b:Int}(ha:0<=a/\a<=15)(hb:0<=b/\b<=15):IntKind.wrap .u8 (eG .or .i64 (IntKind.wrap .i64 (a*2 ^ (Nat.min (Int.toNat (4:Int)) (IntKind.bits .i64)))) b)=16*a+b:=by
 have:=Vk ⟨a.toNat,by omega⟩ ⟨b.toNat,by omega⟩
 simp only[dm ha.1,dm hb.1]at this
 exact this
def rdR(o:Option (Int×Nat)):Int×(Int×(Bool×Unit)):=match o with
 |some (c,n)=>(c,((n:Int),(true,())))
 |none=>(0,(0,(false,())))
theorem MV{t:List Int}(hb:Bytes t):Mg N0 (t,())=some (rdR (rdS t),()):=by
 unfold Mg
 simp only[aJ]
 cases t with
 |nil=>rfl
 |cons c r=>
  have e0:decide ((c::r:List Int)=[])=false:=rfl
  have n0:(0:Int)<=0:=by omega
  have g0:(c::r)[((0:Int)).toNat]?=some c:=rfl
  rw[e0,cond_false,if_pos n0,g0]
  simp only[if_pos n0]
  by_cases hc:c=92
  ·subst hc
   simp only[decide_true,aB,cond_false]
   cases r with
   |nil=>rfl
   |cons d r2=>
    have hd:=hb d (by simp)
    have el:decide ((((92::d::r2:List Int).length:Nat):Int)<2)=false:=by
     rw[decide_eq_false_iff_not];simp;omega
    have g1:(92::d::r2:List Int)[((1:Int)).toNat]?=some d:=rfl
    have n1:(0:Int)<=1:=by omega
    rw[el,cond_false,if_pos n1,g1]
    simp only[rdS,ne_eq,not_true_eq_false,if_false]
    by_cases h1:d=110
    ·subst h1;rfl
    by_cases h2:d=116
    ·subst h2;rfl
    by_cases h3:d=114
    ·subst h3;rfl
    simp only[h1,h2,h3,decide_false,cond_false,if_false]
    by_cases h4:d=120
    ·subst h4
     simp only[decide_true,cond_true,if_true]
     cases r2 with
     |nil=>rfl
     |cons x r3=>
      cases r3 with
      |nil=>rfl
      |cons y r4=>
       have hx:=hb x (by simp)
       have hy:=hb y (by simp)
       have l4:decide ((4:Int)<=(((92::120::x::y::r4:List Int).length:Nat):Int))=true:=by
        rw[decide_eq_true_eq];simp;omega
       have n2:(0:Int)<=2:=by omega
       have n3:(0:Int)<=3:=by omega
       have g2:(92::120::x::y::r4:List Int)[((2:Int)).toNat]?=some x:=rfl
       have g3:(92::120::x::y::r4:List Int)[((3:Int)).toNat]?=some y:=rfl
       have n4:¬((4:Int)<0):=by omega
       rw[l4,cond_true,if_pos n2,g2]
       simp only[if_pos n2,if_pos n3,g3,D3 hx,D3 hy,aC,if_neg n4]
       cases hvx:qa x with
       |none=>
        have:decide ((0:Int)<=(none:Option Int).getD (-1))=false:=rfl
        rw[this]
        rfl
       |some a=>
        have ha:=oJ hvx
        have:decide ((0:Int)<=(some a).getD (-1))=true:=by simpa using ha.1
        rw[this]
        simp only[cond_true]
        cases hvy:qa y with
        |none=>
         have:decide ((0:Int)<=(none:Option Int).getD (-1))=false:=rfl
         rw[this]
         rfl
        |some b=>
         have hb2:=oJ hvy
         have:decide ((0:Int)<=(some b).getD (-1))=true:=by simpa using hb2.1
         rw[this]
         simp only[cond_true,jH,Je ha hb2]
         rfl
    ·simp only[h4,decide_false,cond_false,if_false]
     by_cases h5:d=0
     ·subst h5;rfl
     simp only[h5,decide_false,cond_false]
     have hif:(mL d=true\/d<32\/126<d)↔((mL d||(decide (d<32)||decide (126<d)))=true):=by simp
     simp only[hif]
     unfold mL
     generalize decide ((48:Int)<=d)=b1
     generalize decide (d<=(57:Int))=b2
     generalize decide ((97:Int)<=d)=b3
     generalize decide (d<=(122:Int))=b4
     generalize decide ((65:Int)<=d)=b5
     generalize decide (d<=(90:Int))=b6
     generalize decide (d<(32:Int))=b7
     generalize decide ((126:Int)<d)=b8
     revert b1 b2 b3 b4 b5 b6 b7 b8
     intro b1 b2 b3 b4 b5 b6 b7 b8
     cases b1 <;> cases b2 <;> cases b3 <;> cases b4 <;> cases b5 <;> cases b6 <;> cases b7 <;> cases b8 <;> rfl
  ·have hc2:decide (c=92)=false:=decide_eq_false hc
   rw[hc2]
   simp only[aI,cond_true,rdS,ne_eq,hc,not_false_eq_true,if_true]
   rfl
theorem kL{t:List Int}(hb:Bytes t){c:Int}{n:Nat}(h:rdS t=some (c,n)):(0<=c/\c<=255)/\0<n/\n<=t.length:=by
 unfold rdS at h
 cases t with
 |nil=>cases h
 |cons a r=>
  have ha:=hb a (by simp)
  simp only at h
  split at h
  ·injection h with h;injection h with h1 h2;subst h1;subst h2;simp;omega
  ·cases r with
   |nil=>cases h
   |cons d r2=>
    have hd:=hb d (by simp)
    simp only at h
    split at h
    ·injection h with h;injection h with h1 h2;subst h1;subst h2;simp
    split at h
    ·injection h with h;injection h with h1 h2;subst h1;subst h2;simp
    split at h
    ·injection h with h;injection h with h1 h2;subst h1;subst h2;simp
    split at h
    ·split at h
     ·rename_i x y r4
      split at h
      ·rename_i u v hu hv
       have h1:=oJ hu
       have h2:=oJ hv
       injection h with h;injection h with h3 h4;subst h3;subst h4;simp;omega
      ·cases h
     ·cases h
    ·split at h
     ·cases h
     ·injection h with h;injection h with h1 h2;subst h1;subst h2;simp;omega
def kst(s:List Int)(i:Nat)(d:Int):List Int×(Int×Int):=(s,((i:Int),d))
def qb(s:List Int)(i:Nat)(l:List Int):Bool:=decide (s.length<=i)||l.any λb=>decide (ch s i=b)
theorem hJ{s:List Int}{i:Nat}(h:i<s.length):s[i]?=some (ch s i):=by unfold ch;rw[ah h];rfl
theorem qc(s:List Int)(hs:s.length<=maxLen)(i:Nat)(d:Int)(l:List Int)(hl:l.length<=maxLen):Ap N0 (kst s i d,(l,()))=some ((qb s i l,()),(kst s i d,())):=by
 unfold Ap kst qb
 simp only
 rcases ap i s.length with hi|hi
 ·have e1:decide (((s.length:Nat):Int)<=(i:Int))=false:=decide_eq_false (by omega)
  have e2:decide (s.length<=i)=false:=decide_eq_false (by omega)
  rw[e1,cond_false,e2,cT]
  refine aZ (λm x r=>∃ j:Nat,x=(((s,((i:Int),d)),()),((j:Int),()))/\m+j=l.length/\r=some (((l.drop j).any (λb=>decide (ch s i=b)),()),((s,((i:Int),d)),()))) ?_ N0 l.length _ _ (by have:=j7 hl;omega) ⟨0,rfl,rfl,by rw[du]⟩
  rintro m x r ⟨j,rfl,hm,rfl⟩ k hk
  simp only
  rcases ap j l.length with hj|hj
  ·have n0:(0:Int)<=(i:Int):=by omega
   have n1:(0:Int)<=(j:Int):=by omega
   rw[decide_eq_true (show(j:Int)<((l.length:Nat):Int) by omega),cond_true,if_pos n0,ae,hJ hi]
   simp only[if_pos n1,ae,ah hj,br hj hl]
   rw[cQ hj,List.any_cons]
   cases hd:decide (ch s i=l[j])
   ·rw[cond_false,cT]
    exact hk (m-1) _ _ (by omega) ⟨j+1,rfl,by omega,rfl⟩
   ·rw[cond_true,dW]
  ·rw[decide_eq_false (show ¬(j:Int)<((l.length:Nat):Int) by omega),cond_false,kP hj]
   rfl
 ·have e1:decide (((s.length:Nat):Int)<=(i:Int))=true:=decide_eq_true (by omega)
  have e2:decide (s.length<=i)=true:=decide_eq_true hi
  rw[e1,e2]
  rfl
def fm(s:List Int)(i:Nat)(c:Int):Bool:=decide (i<s.length)&&decide (ch s i=c)
theorem oK(s:List Int)(hs:s.length<=maxLen)(i:Nat)(d:Int)(c:Int):oY N0 (kst s i d,(c,()))=some ((fm s i c,()),(kst s (if fm s i c=true then i+1 else i) d,())):=by
 unfold oY kst fm
 simp only[aJ]
 rcases ap i s.length with hi|hi
 ·have n0:(0:Int)<=(i:Int):=by omega
  rw[decide_eq_true (show(i:Int)<((s.length:Nat):Int) by omega),cond_true,if_pos n0,ae,hJ hi,decide_eq_true hi]
  simp only[bI,decide_eq_true_eq]
  by_cases h:ch s i=c
  ·simp only[h,decide_true,cond_true,if_true,br hi hs]
  ·simp only[h,decide_false,cond_false,if_false]
 ·rw[decide_eq_false (show ¬(i:Int)<((s.length:Nat):Int) by omega),cond_false,decide_eq_false (by omega)]
  simp
def rdK(s:List Int)(i:Nat)(d:Int):(Int×(Bool×Unit))×((List Int×(Int×Int))×Unit):=match rdS (s.drop i)with
 |some (c,n)=>((c,(true,())),(kst s (i+n) d,()))
 |none=>((0,(false,())),(kst s i d,()))
theorem yk{s:List Int}(hb:Bytes s)(hs:s.length<=maxLen){i:Nat}(hi:i<=s.length)(d:Int):Gl N0 (kst s i d,())=some (rdK s i d):=by
 unfold Gl kst
 simp only
 have hc:(0:Int)<=(i:Int)/\(i:Int)<=((s.length:Nat):Int)/\((s.length:Nat):Int)<=((s.length:Nat):Int):=⟨by omega,by omega,by omega⟩
 have rW:cz s (i:Int) ((s.length:Nat):Int)=s.drop i:=by
  unfold cz
  simp only[ae]
  exact bR (by simp)
 rw[if_pos hc,rW,aa (MV (hb.drop i))]
 unfold rdK rdR kst
 cases hr:rdS (s.drop i)with
 |none=>
  simp only[Int.add_zero]
  rw[bJ (by unfold maxLen at hs;omega)]
 |some p=>
  obtain⟨c,n⟩:=p
  obtain⟨_,h1,h2⟩:=kL (hb.drop i) hr
  rw[bB]at h2
  simp only
  have:((i:Int)+(n:Int))=((i+n:Nat):Int):=by omega
  rw[this,bJ (by unfold maxLen at hs;omega)]
end
end Go.Proofs.YthalkfdkbalpmaaGreat.Rf
