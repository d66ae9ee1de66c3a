/- A part of a proof that a given statement (the one of this claim: the name of its theorem ends in _holds) is true of the program, with no condition ahead of it. Printed by wip/dev/pack2.py out of the texts in wip. -/
import Derived.Test.YtphipehmbefejaaGreatU3
set_option linter.unusedVariables false
set_option linter.unusedSimpArgs false
namespace Go.Proofs.YtphipehmbefejaaGreat.Rf
open Go
noncomputable section
def AP(v1:Nat)(v2:T11):T16:=aD (λ(v3:T4)=>λv4=>Bd (v3.2.1<(v2.1.length:Int)) (Ld v2.1 v3.2.1 λv5=>Bd (v5=v2.2.1) (some ((true,()),())) (v4 ((),Wi (v3.2.1+1),()))) (some ((false,()),()))) v1 ((),0,())
def F245(n:Nat):Fb 245:=fb n [] [] [] [] Tryz.func245 Tryz.results245 Tryz.ntmps245 (sn_ (.seq (sn_ (bk_ ⟨[],[.val 5 y2],[0,1]⟩ .nop)) .nop)) [(y9,.ro),(y5,.ro)] A19 [] [] (AP n)
def G3(v1:Nat)(v2:T11):T16:=if(64:Int)=0 then none else if 0<=(Wi (Int.tdiv v2.2.1 64))then(match v2.1[(Wi (Int.tdiv v2.2.1 64)).toNat]? with|some v3=>aD (λ(v4:T10)=>λv5=>if(64:Int)=0 then none else Bd (v4.2.2.1<(Int.tmod v2.2.1 64)) (if(2:Int)=0 then none else v5 ((),IntKind.wrap .u64 (Int.tdiv v4.2.1 2),Wi (v4.2.2.1+1),())) (if(2:Int)=0 then none else some ((decide ((Int.tmod v4.2.1 2)=1),()),()))) v1 ((),v3,0,())|none=>none)else none
def F238(n:Nat):Fb 238:=fb n [] [] [] [] Tryz.func238 Tryz.results238 Tryz.ntmps238 (.seq (rn_ [2]) (sn_ (.seq (sn_ (bk_ ⟨[],[.val 5 y12,.val 6 y2],[1]⟩ .nop)) .nop))) [(kg,.ro),(y2,.ro)] A19 [] [] (G3 n)
def CY(v1:Nat)(v2:T8):T33:=aD (λ(v3:T57)=>λv4=>av (λ(v5:(U33×Bool×Unit))=>bif v5.2.1 then Ld v2.1 v3.2.1 λv6=>av (λ(v7:T46)=>v4 ((v7.1.1,v7.1.2.1,()),Wi (v3.2.1+1),())) (λv8=>bif v6 then if(64:Int)=0 then none else if(64:Int)=0 then none else if 0<=(Wi (Int.tdiv v3.2.1 64))then(match v5.1.2.1[(Wi (Int.tdiv v3.2.1 64)).toNat]? with|some v9=>if(64:Int)=0 then none else if(IntKind.wrap .u64 (Int.tmod v3.2.1 64))<0 then none else if 0<=(Wi (Int.tdiv v3.2.1 64))then(match v5.1.2.1[(Wi (Int.tdiv v3.2.1 64)).toNat]? with|some v10=>if 0<=(Wi (Int.tdiv v3.2.1 64))then(match v5.1.2.1[(Wi (Int.tdiv v3.2.1 64)).toNat]? with|some v11=>v8 ((v5.1.1,List.set v5.1.2.1 (Wi (Int.tdiv v3.2.1 64)).toNat (IntKind.wrap .u64 (v9+(IntKind.wrap .u64 ((1:Int)*2 ^ (Nat.min (Int.toNat (IntKind.wrap .u64 (Int.tmod v3.2.1 64))) (IntKind.bits .u64)))))),()),())|none=>none)else none|none=>none)else none|none=>none)else none else v8 ((v5.1.1,v5.1.2.1,()),()))else some ((v5.1.2.1,()),())) (λv12=>Bd (v3.2.1<256) (v12 ((v3.1.1,v3.1.2.1,()),decide (v3.2.1<(v2.1.length:Int)),())) (v12 ((v3.1.1,v3.1.2.1,()),false,())))) v1 ((([0,0,0,0]:List Int),([0,0,0,0]:List Int),()),0,())
def F260(n:Nat):Fb 260:=fb n [] [] [] [] Tryz.func260 Tryz.results260 Tryz.ntmps260 (sn_ (sn_ (.seq (sn_ (bk_ ⟨Na,[.val 4 y2],[0,2,3]⟩ (.seq (.seq (rs_ ⟨Na,[.val 12 y4],[0,2,3,4]⟩ []) .nop) (.seq (.block none (sn_ (cs_ ⟨Na,[],[0,2,3,4]⟩ .nop .nop))) .nop)))) (.seq (.rgf none [3] [2]) .nop)))) A15 A14 [] [] (CY n)
def JD(v1:Nat)(v2:(Int×U0×U0×Unit)):T33:=aD (λ(v3:(U31×U12×Int×Unit))=>λv4=>Bd (v3.2.2.1<256) (ah (G3 v1 (v2.2.1,v3.2.2.1,())) (λ(v5:T9)=>ah (G3 v1 (v2.2.2.1,v3.2.2.1,())) (λ(v6:T9)=>av (λ(v7:T49)=>v4 ((v7.1.1,()),v7.2.1,Wi (v3.2.2.1+1),())) (λv8=>Bd (v2.1=0) (av (λ(v9:T49)=>v8 ((v9.1.1,()),v9.2.1,())) (λv10=>bif v5.1.1 then Ap 1 (List.length v3.2.1+List.length ([true]:List Bool)) (v10 ((v3.1.1,()),v3.2.1++([true]:List Bool),()))else Ap 1 (List.length v3.2.1+List.length ([v6.1.1]:List Bool)) (v10 ((v3.1.1,()),v3.2.1++([v6.1.1]:List Bool),())))) (av (λ(v11:T49)=>v8 ((v11.1.1,()),v11.2.1,())) (λv12=>Bd (v2.1=1) (av (λ(v13:T49)=>v12 ((v13.1.1,()),v13.2.1,())) (λv14=>bif v5.1.1 then Ap 1 (List.length v3.2.1+List.length ([v6.1.1]:List Bool)) (v14 ((v3.1.1,()),v3.2.1++([v6.1.1]:List Bool),()))else Ap 1 (List.length v3.2.1+List.length ([false]:List Bool)) (v14 ((v3.1.1,()),v3.2.1++([false]:List Bool),())))) (av (λ(v15:T49)=>v12 ((v15.1.1,()),v15.2.1,())) (λv16=>Bd (v2.1=2) (av (λ(v17:T49)=>v16 ((v17.1.1,()),v17.2.1,())) (λv18=>bif v5.1.1 then Ap 1 (List.length v3.2.1+List.length ([(!v6.1.1)]:List Bool)) (v18 ((v3.1.1,()),v3.2.1++([(!v6.1.1)]:List Bool),()))else Ap 1 (List.length v3.2.1+List.length ([false]:List Bool)) (v18 ((v3.1.1,()),v3.2.1++([false]:List Bool),())))) (Ap 1 (List.length v3.2.1+List.length ([(!v5.1.1)]:List Bool)) (v16 ((v3.1.1,()),v3.2.1++([(!v5.1.1)]:List Bool),()))))))))))) (ah (CY v1 (v3.2.1,())) (λ(v19:T15)=>some ((v19.1.1,()),())))) v1 ((([0,0,0,0]:List Int),()),([]:List Bool),0,())
def F257(n:Nat):Fb 257:=fb n [⟨_,F238 n⟩,⟨_,F260 n⟩] [] [] [] Tryz.func257 Tryz.results257 Tryz.ntmps257 (.seq (rn_ [4,5]) (sn_ (.seq (sn_ (bk_ ⟨CW,[.hdr 7 63 eD mo_,.val 8 y2],[0,4,5,6]⟩ (sn_ (.seq (.block none (sn_ (sn_ (.block none (sn_ (cs_ ⟨CW,[.hdr 7 63 eD mo_],[0,4,5,6,8]⟩ (rs_ ⟨CW,[.hdr 7 63 eD mo_],[0,4,5,6,8]⟩ []) (sn_ (cs_ ⟨CW,[.hdr 7 63 eD mo_],[0,4,5,6,8]⟩ (rs_ ⟨CW,[.hdr 7 63 eD mo_],[0,4,5,6,8]⟩ []) (sn_ (cs_ ⟨CW,[.hdr 7 63 eD mo_],[0,4,5,6,8]⟩ (rs_ ⟨CW,[.hdr 7 63 eD mo_],[0,4,5,6,8]⟩ []) .nop)))))))))) .nop)))) (.seq (rn_ [6]) .nop)))) [(y2,.ro),(kg,.ro),(kg,.ro)] A14 [] [] (JD n)
def AQ(v1:Nat)(v2:T11):T16:=aD (λ(v3:T4)=>λv4=>Bd (v3.2.1<(v2.1.length:Int)) (Ld v2.1 v3.2.1 λv5=>Bd (v5=v2.2.1) (some ((true,()),())) (v4 ((),Wi (v3.2.1+1),()))) (some ((false,()),()))) v1 ((),0,())
def F227(n:Nat):Fb 227:=fb n [] [] [] [] Tryz.func227 Tryz.results227 Tryz.ntmps227 (sn_ (.seq (sn_ (bk_ ⟨[],[.val 5 y2],[0,1]⟩ .nop)) .nop)) [(y9,.ro),(y5,.ro)] A19 [] [] (AQ n)
def NB(v1:Nat)(v2:(Int×U0×Unit)):T33:=Bd (v2.1=10) (some ((([92,110]:List Int),()),())) (Bd (v2.1=9) (some ((([92,116]:List Int),()),())) (Bd (v2.1=13) (some ((([92,114]:List Int),()),())) (av (λ(v3:T5)=>bif v3.2.1 then if(16:Int)=0 then none else if(16:Int)=0 then none else if 0<=(IntKind.wrap .u8 (Int.tdiv v2.1 16))/\(IntKind.wrap .u8 (Int.tdiv v2.1 16))<=(IntKind.wrap .u8 ((IntKind.wrap .u8 (Int.tdiv v2.1 16))+1))/\(IntKind.wrap .u8 ((IntKind.wrap .u8 (Int.tdiv v2.1 16))+1))<=((List.length ([48,49,50,51,52,53,54,55,56,57,97,98,99,100,101,102]:List Int):Nat):Int)then if List.length ([92,120]:List Int)+List.length (cC ([48,49,50,51,52,53,54,55,56,57,97,98,99,100,101,102]:List Int) (IntKind.wrap .u8 (Int.tdiv v2.1 16)) (IntKind.wrap .u8 ((IntKind.wrap .u8 (Int.tdiv v2.1 16))+1)))<=9223372036854775807 then if(16:Int)=0 then none else if(16:Int)=0 then none else if 0<=(Int.tmod v2.1 16)/\(Int.tmod v2.1 16)<=(IntKind.wrap .u8 ((Int.tmod v2.1 16)+1))/\(IntKind.wrap .u8 ((Int.tmod v2.1 16)+1))<=((List.length ([48,49,50,51,52,53,54,55,56,57,97,98,99,100,101,102]:List Int):Nat):Int)then if List.length (([92,120]:List Int)++(cC ([48,49,50,51,52,53,54,55,56,57,97,98,99,100,101,102]:List Int) (IntKind.wrap .u8 (Int.tdiv v2.1 16)) (IntKind.wrap .u8 ((IntKind.wrap .u8 (Int.tdiv v2.1 16))+1))))+List.length (cC ([48,49,50,51,52,53,54,55,56,57,97,98,99,100,101,102]:List Int) (Int.tmod v2.1 16) (IntKind.wrap .u8 ((Int.tmod v2.1 16)+1)))<=9223372036854775807 then some (((([92,120]:List Int)++(cC ([48,49,50,51,52,53,54,55,56,57,97,98,99,100,101,102]:List Int) (IntKind.wrap .u8 (Int.tdiv v2.1 16)) (IntKind.wrap .u8 ((IntKind.wrap .u8 (Int.tdiv v2.1 16))+1))))++(cC ([48,49,50,51,52,53,54,55,56,57,97,98,99,100,101,102]:List Int) (Int.tmod v2.1 16) (IntKind.wrap .u8 ((Int.tmod v2.1 16)+1))),()),())else none else none else none else none else av (λ(v4:T5)=>bif v4.2.1 then if List.length ([92]:List Int)+List.length ([v2.1]:List Int)<=9223372036854775807 then some ((([92]:List Int)++([v2.1]:List Int),()),())else none else some ((([v2.1]:List Int),()),())) (λv5=>Bd (v2.1=92) (v5 ((),true,())) (ah (AQ v1 (v2.2.1,v2.1,())) (λ(v6:T9)=>v5 ((),v6.1.1,()))))) (λv7=>Bd (v2.1<32) (v7 ((),true,())) (v7 ((),decide (126<v2.1),()))))))
def F263(n:Nat):Fb 263:=fb n [⟨_,F227 n⟩] [] [] [] Tryz.func263 Tryz.results263 Tryz.ntmps263 (sn_ (sn_ (.seq (.block none (sn_ (.cond none .nop (sn_ (.cond none .nop (sn_ (.cond none .nop (.seq (rs_ ⟨[],[.val 15 y4],[0,1,5]⟩ []) (.cond none .nop (.seq (rs_ ⟨[],[.val 38 y4],[0]⟩ []) .nop)))))))))) .nop))) [(y5,.ro),(y9,.ro)] A21 [] [] (NB n)
def JF(v1:Nat)(v2:T1):T16:=ah (AQ v1 (([48,49,50,51,52,53,54,55,56,57,97,98,99,100,101,102,103,104,105,106,107,108,109,110,111,112,113,114,115,116,117,118,119,120,121,122,65,66,67,68,69,70,71,72,73,74,75,76,77,78,79,80,81,82,83,84,85,86,87,88,89,90]:List Int),v2.1,())) (λ(v3:T9)=>some ((v3.1.1,()),()))
def F228(n:Nat):Fb 228:=fb n [⟨_,F227 n⟩] [] [] [] Tryz.func228 Tryz.results228 Tryz.ntmps228 (.nop) [(y5,.ro)] A19 [] [] (JF n)
def G4(v1:Nat)(v2:T6):T41:=Bd (v2.1=([]:List Int)) (some ((0,0,false,()),())) (if(0:Int)<=(0:Int)then(match v2.1[(0:Int).toNat]? with|some v3=>bif !(decide (v3=92))then if(0:Int)<=(0:Int)then(match v2.1[(0:Int).toNat]? with|some v4=>some ((v4,1,true,()),())|none=>none)else none else aD (λ(v5:T4)=>λv6=>Bd (v5.2.1<256) (ah (NB v1 (IntKind.wrap .u8 v5.2.1,([]:List Int),())) (λ(v7:T15)=>av (λ(v8:T5)=>bif v8.2.1 then some ((IntKind.wrap .u8 v5.2.1,2,true,()),())else if(16:Int)=0 then none else if(16:Int)=0 then none else if 0<=(Wi (Int.tdiv v5.2.1 16))/\(Wi (Int.tdiv v5.2.1 16))<=(Wi ((Wi (Int.tdiv v5.2.1 16))+1))/\(Wi ((Wi (Int.tdiv v5.2.1 16))+1))<=((List.length ([48,49,50,51,52,53,54,55,56,57,97,98,99,100,101,102]:List Int):Nat):Int)then if List.length ([92,120]:List Int)+List.length (cC ([48,49,50,51,52,53,54,55,56,57,97,98,99,100,101,102]:List Int) (Wi (Int.tdiv v5.2.1 16)) (Wi ((Wi (Int.tdiv v5.2.1 16))+1)))<=9223372036854775807 then if(16:Int)=0 then none else if(16:Int)=0 then none else if 0<=(Int.tmod v5.2.1 16)/\(Int.tmod v5.2.1 16)<=(Wi ((Int.tmod v5.2.1 16)+1))/\(Wi ((Int.tmod v5.2.1 16)+1))<=((List.length ([48,49,50,51,52,53,54,55,56,57,97,98,99,100,101,102]:List Int):Nat):Int)then if List.length (([92,120]:List Int)++(cC ([48,49,50,51,52,53,54,55,56,57,97,98,99,100,101,102]:List Int) (Wi (Int.tdiv v5.2.1 16)) (Wi ((Wi (Int.tdiv v5.2.1 16))+1))))+List.length (cC ([48,49,50,51,52,53,54,55,56,57,97,98,99,100,101,102]:List Int) (Int.tmod v5.2.1 16) (Wi ((Int.tmod v5.2.1 16)+1)))<=9223372036854775807 then av (λ(v9:T5)=>bif v9.2.1 then some ((IntKind.wrap .u8 v5.2.1,4,true,()),())else v6 ((),Wi (v5.2.1+1),())) (λv10=>Bd (3<(v2.1.length:Int)) (if(0:Int)<=(0:Int)/\(0:Int)<=(4:Int)/\(4:Int)<=(v2.1.length:Int)then v10 ((),decide ((cC v2.1 (0:Int) (4:Int))=((([92,120]:List Int)++(cC ([48,49,50,51,52,53,54,55,56,57,97,98,99,100,101,102]:List Int) (Wi (Int.tdiv v5.2.1 16)) (Wi ((Wi (Int.tdiv v5.2.1 16))+1))))++(cC ([48,49,50,51,52,53,54,55,56,57,97,98,99,100,101,102]:List Int) (Int.tmod v5.2.1 16) (Wi ((Int.tmod v5.2.1 16)+1))))),())else none) (v10 ((),false,())))else none else none else none else none) (λv11=>Bd ((v7.1.1.length:Int)=2) (if(0:Int)<=(1:Int)then(match v7.1.1[(1:Int).toNat]? with|some v12=>bif !(decide (v12=92))then Bd (1<(v2.1.length:Int)) (if(0:Int)<=(0:Int)/\(0:Int)<=(2:Int)/\(2:Int)<=(v2.1.length:Int)then v11 ((),decide ((cC v2.1 (0:Int) (2:Int))=v7.1.1),())else none) (v11 ((),false,()))else v11 ((),false,())|none=>none)else none) (v11 ((),false,()))))) (av (λ(v13:T5)=>bif v13.2.1 then if(0:Int)<=(1:Int)then(match v2.1[(1:Int).toNat]? with|some v14=>some ((v14,2,true,()),())|none=>none)else none else some ((0,0,false,()),())) (λv15=>Bd (1<(v2.1.length:Int)) (if(0:Int)<=(1:Int)then(match v2.1[(1:Int).toNat]? with|some v16=>Bd (32<=v16) (if(0:Int)<=(1:Int)then(match v2.1[(1:Int).toNat]? with|some v17=>Bd (v17<=126) (if(0:Int)<=(1:Int)then(match v2.1[(1:Int).toNat]? with|some v18=>ah (JF v1 (v18,())) (λ(v19:T9)=>v15 ((),!v19.1.1,()))|none=>none)else none) (v15 ((),false,()))|none=>none)else none) (v15 ((),false,()))|none=>none)else none) (v15 ((),false,()))))) v1 ((),0,())|none=>none)else none)
def F259(n:Nat):Fb 259:=fb n [⟨_,F263 n⟩,⟨_,F228 n⟩] [] [] [] Tryz.func259 Tryz.results259 Tryz.ntmps259 (sn_ (sn_ (sn_ (.seq (sn_ (bk_ ⟨[],[.val 5 y2],[0]⟩ (sn_ (.seq (.block none (sn_ (.seq (.seq (rs_ ⟨[],[.val 40 y4],[0,5]⟩ []) .nop) (sn_ (.seq (rs_ ⟨[],[.val 65 y4],[0,5]⟩ []) .nop))))) .nop)))) (.seq (.seq (rs_ ⟨[],[.val 86 y4],[0]⟩ []) .nop) .nop))))) A21 [(y5,.ro),(y2,.ro),(y4,.ro)] [] [] (G4 n)
def NC(v1:Nat)(v2:T11):T71:=if(0:Int)<=(256:Int)/\(256:Int)<=(256:Int)then if(256:Int).toNat*1<=140737488355328 then av (λ(v3:T34)=>av (λ(v4:T29)=>aD (λ(v5:T29)=>λv6=>av (λ(v7:T34)=>bif v7.2.1 then if 0<=v5.2.1/\v5.2.1<=(v2.1.length:Int)/\(v2.1.length:Int)<=(v2.1.length:Int)then ah (G4 v1 (cC v2.1 v5.2.1 (v2.1.length:Int),())) (λ(v8:T20)=>av (λ(v9:T34)=>bif v9.2.1 then some ((([]:List U7),v5.2.1,()),())else av (λ(v10:T34)=>av (λ(v11:(U29×Int×Int×Unit))=>aD (λ(v12:T29)=>λv13=>Bd (v12.2.1<=(Wi v11.2.2.1)) (Ld v12.1.1 v12.2.1 λv14=>Ld v12.1.1 v12.2.1 λv15=>v13 ((List.set v12.1.1 (v12.2.1).toNat true,()),Wi (v12.2.1+1),())) (v6 ((v12.1.1,()),v11.2.1,()))) v1 ((v11.1.1,()),Wi v8.1.1,())) (λv16=>bif v10.2.1 then av (λ(v17:T34)=>bif v17.2.1 then some ((([]:List U7),Wi ((Wi (v5.2.1+v8.1.2.1))+1),()),())else if 0<=(Wi ((Wi (v5.2.1+v8.1.2.1))+1))/\(Wi ((Wi (v5.2.1+v8.1.2.1))+1))<=(v2.1.length:Int)/\(v2.1.length:Int)<=(v2.1.length:Int)then ah (G4 v1 (cC v2.1 (Wi ((Wi (v5.2.1+v8.1.2.1))+1)) (v2.1.length:Int),())) (λ(v18:T20)=>av (λ(v19:T34)=>bif v19.2.1 then some ((([]:List U7),Wi ((Wi (v5.2.1+v8.1.2.1))+1),()),())else v16 ((v19.1.1,()),Wi ((Wi ((Wi (v5.2.1+v8.1.2.1))+1))+v18.1.2.1),v18.1.1,())) (λv20=>bif !v18.1.2.2.1 then v20 ((v17.1.1,()),true,())else v20 ((v17.1.1,()),decide (v18.1.1<v8.1.1),())))else none) (λv21=>Bd ((v2.1.length:Int)<=(Wi ((Wi (v5.2.1+v8.1.2.1))+1))) (v21 ((v10.1.1,()),true,())) (if 0<=(Wi ((Wi (v5.2.1+v8.1.2.1))+1))then(match v2.1[(Wi ((Wi (v5.2.1+v8.1.2.1))+1)).toNat]? with|some v22=>ah (AP v1 (([93,94,45,47,34]:List Int),v22,())) (λ(v23:T9)=>v21 ((v10.1.1,()),v23.1.1,()))|none=>none)else none))else v16 ((v10.1.1,()),Wi (v5.2.1+v8.1.2.1),v8.1.1,()))) (λv24=>Bd ((Wi (v5.2.1+v8.1.2.1))<(v2.1.length:Int)) (if 0<=(Wi (v5.2.1+v8.1.2.1))then(match v2.1[(Wi (v5.2.1+v8.1.2.1)).toNat]? with|some v25=>v24 ((v9.1.1,()),decide (v25=45),())|none=>none)else none) (v24 ((v9.1.1,()),false,())))) (λv26=>bif !v8.1.2.2.1 then v26 ((v7.1.1,()),true,())else Ld v2.1 v5.2.1 λv27=>ah (AP v1 (([94,45,47,34]:List Int),v27,())) (λ(v28:T9)=>v26 ((v7.1.1,()),v28.1.1,()))))else none else ah (CY v1 (v7.1.1,())) (λ(v29:T15)=>av (λ(v30:T15)=>av (λ(v31:T30)=>bif v31.2.1 then some ((([]:List U7),v5.2.1,()),())else some ((([(1,v31.1.1)]:List U7),Wi (v5.2.1+1),()),())) (λv32=>Bd ((v2.1.length:Int)<=v5.2.1) (v32 ((v30.1.1,()),true,())) (v32 ((v30.1.1,()),decide (v30.1.1=([0,0,0,0]:List Int)),())))) (λv33=>bif v3.2.1 then ah (JD v1 (3,v29.1.1,v29.1.1,())) (λ(v34:T15)=>v33 ((v34.1.1,()),()))else v33 ((v29.1.1,()),())))) (λv35=>Bd (v5.2.1<(v2.1.length:Int)) (Ld v2.1 v5.2.1 λv36=>v35 ((v5.1.1,()),!(decide (v36=93)),())) (v35 ((v5.1.1,()),false,())))) v1 ((v4.1.1,()),v4.2.1,())) (λv37=>bif v3.2.1 then v37 ((v3.1.1,()),Wi (v2.2.1+1),())else v37 ((v3.1.1,()),v2.2.1,()))) (λv38=>Bd (v2.2.1<(v2.1.length:Int)) (Ld v2.1 v2.2.1 λv39=>v38 ((List.replicate (256:Int).toNat false,()),decide (v39=94),())) (v38 ((List.replicate (256:Int).toNat false,()),false,())))else none else none
def F258(n:Nat):Fb 258:=fb n [⟨_,F259 n⟩,⟨_,F245 n⟩,⟨_,F260 n⟩,⟨_,F257 n⟩] [] [] [⟨_,PO⟩] Tryz.func258 Tryz.results258 Tryz.ntmps258 (sn_ (sn_ (.seq (rs_ ⟨Q8_,[.val 7 y4],[0,1,6]⟩ []) (.seq (sn_ (cs_ ⟨Q8_,[.val 1 y2],[0,6,7]⟩ .nop .nop)) (.seq (bk_ ⟨Q8_,[.val 1 y2],[0,6,7]⟩ (.seq (.seq (rs_ ⟨Q8_,[.val 37 y4],[0,1,6,7]⟩ []) .nop) (.block none (sn_ (.seq (.seq (rs_ ⟨Q8_,[.val 53 y4],[0,1,6,7,8,9]⟩ []) .nop) (sn_ (sn_ (.seq (.seq (rs_ ⟨Q8_,[.val 68 y4],[0,1,6,7,8,11]⟩ []) (cs_ ⟨Q8_,[.val 1 y2,.val 11 y5],[0,6,7,8]⟩ (sn_ (.seq (.seq (rs_ ⟨Q8_,[.val 80 y4],[0,1,6,7,8]⟩ []) .nop) (sn_ (.seq (.seq (rs_ ⟨Q8_,[.val 96 y4],[0,1,6,7,8,9,11]⟩ []) .nop) .nop)))) .nop)) (sn_ (bk_ ⟨Q8_,[.val 12 y2],[0,1,6,7,11]⟩ .nop)))))))))) (sn_ (.seq (sn_ (cs_ ⟨[(104,.box kg,mo_)],[],[0,1,13]⟩ .nop .nop)) (.seq (.seq (rs_ ⟨[(104,.box kg,mo_)],[.val 126 y4],[1,13]⟩ []) .nop) (.seq (.rgf none [13] []) .nop))))))))) [(y9,.ro),(y2,.ro)] A4 [] [] (NC n)
abbrev G5:=Qt A3 A4 []
abbrev Re(q:G5):Callee:=⟨_,_,[],_,q⟩
theorem JG:Plain Tryz.prog 217:=pl Tryz.func217
abbrev G6:=Qt A3 A4 []
abbrev Ui(q:G6):Callee:=⟨_,_,[],_,q⟩
theorem ND:Plain Tryz.prog 236:=pl Tryz.func236
abbrev G7:=Qt A3 A4 []
abbrev Uj(q:G7):Callee:=⟨_,_,[],_,q⟩
theorem NE:Plain Tryz.prog 244:=pl Tryz.func244
abbrev G8:=Qt A3 A4 []
abbrev Uk(q:G8):Callee:=⟨_,_,[],_,q⟩
theorem NF:Plain Tryz.prog 252:=pl Tryz.func252
abbrev JH(nx:G5)(ny:G6)(nz:G7)(nA:G8):=fR Tryz.prog 217 (Re nx)/\fR Tryz.prog 236 (Ui ny)/\fR Tryz.prog 244 (Uj nz)/\fR Tryz.prog 252 (Uk nA)
def AR(v1:Nat)(v2 v3 v4 v5:T92)(v6:T18):T71:=ah (v3 (v6.1,v6.2.1,v6.2.2.1,())) (λ(v7:T63)=>aD (λ(v8:T58)=>λv9=>av (λ(v10:T5)=>bif v10.2.1 then ah (v3 (v6.1,IntKind.wrap .i64 (v8.2.1+1),v6.2.2.1,())) (λ(v11:T63)=>bif List.isEmpty v11.1.1 then some ((([]:List U7),v11.1.2.1,()),())else if(List.length ([]:List U7)+List.length v8.2.2.1)*40<=140737488355328 then if List.length ([]:List U7)+List.length v8.2.2.1<=9223372036854775807 then if(List.length (([]:List U7)++v8.2.2.1)+List.length v11.1.1)*40<=140737488355328 then if List.length (([]:List U7)++v8.2.2.1)+List.length v11.1.1<=9223372036854775807 then if(List.length ((([]:List U7)++v8.2.2.1)++v11.1.1)+List.length ([(3,([0,0,0,0]:List Int))]:List U7))*40<=140737488355328 then if List.length ((([]:List U7)++v8.2.2.1)++v11.1.1)+List.length ([(3,([0,0,0,0]:List Int))]:List U7)<=9223372036854775807 then bif List.isEmpty (((([]:List U7)++v8.2.2.1)++v11.1.1)++([(3,([0,0,0,0]:List Int))]:List U7))then none else v9 ((),v11.1.2.1,((([]:List U7)++v8.2.2.1)++v11.1.1)++([(3,([0,0,0,0]:List Int))]:List U7),())else none else none else none else none else none else none)else some ((v8.2.2.1,v8.2.1,()),())) (λv12=>bif !(List.isEmpty v8.2.2.1)then bif decide (v8.2.1<(v6.1.length:Int))then if 0<=v8.2.1 then(match v6.1[(v8.2.1).toNat]? with|some v13=>v12 ((),decide (v13=124),())|none=>none)else none else v12 ((),false,())else v12 ((),false,()))) v1 ((),v7.1.2.1,v7.1.1,()))
theorem Xl(n:Nat)(nx:G5)(ny:G6)(nz:G7)(nA:G8)(h:JH nx ny nz nA):fR Tryz.prog 217 (Re (AR n nx ny nz nA)):=(fb n [⟨_,⟨_,h.1,JG⟩⟩,⟨_,⟨_,h.2.1,ND⟩⟩,⟨_,⟨_,h.2.2.1,NE⟩⟩,⟨_,⟨_,h.2.2.2,NF⟩⟩] [14,36] [] [] Tryz.func217 Tryz.results217 Tryz.ntmps217 (.seq .nop (.seq .nop (.seq (.block none (.loop ⟨[],[.val 1 y2,.val 8 (.nl GQ)],[0,2]⟩ (.seq (.seq (.reg (some ⟨[],[.val 30 y4],[0,1,2,8]⟩) []) .nop) (.block none (.seq .nop (.seq .nop (.seq .nop (.reg none [8])))))))) .nop))) A3 A4 [] [] (AR n nx ny nz nA)).o
def AS(v1:Nat)(v2 v3 v4 v5:T92)(v6:T18):T71:=ah (v4 (v6.1,v6.2.1,v6.2.2.1,())) (λ(v7:T63)=>aD (λ(v8:T58)=>λv9=>av (λ(v10:T5)=>bif v10.2.1 then ah (v4 (v6.1,v8.2.1,v6.2.2.1,())) (λ(v11:T63)=>bif List.isEmpty v11.1.1 then some ((([]:List U7),v11.1.2.1,()),())else if(List.length ([]:List U7)+List.length v8.2.2.1)*40<=140737488355328 then if List.length ([]:List U7)+List.length v8.2.2.1<=9223372036854775807 then if(List.length (([]:List U7)++v8.2.2.1)+List.length v11.1.1)*40<=140737488355328 then if List.length (([]:List U7)++v8.2.2.1)+List.length v11.1.1<=9223372036854775807 then if(List.length ((([]:List U7)++v8.2.2.1)++v11.1.1)+List.length ([(2,([0,0,0,0]:List Int))]:List U7))*40<=140737488355328 then if List.length ((([]:List U7)++v8.2.2.1)++v11.1.1)+List.length ([(2,([0,0,0,0]:List Int))]:List U7)<=9223372036854775807 then bif List.isEmpty (((([]:List U7)++v8.2.2.1)++v11.1.1)++([(2,([0,0,0,0]:List Int))]:List U7))then none else v9 ((),v11.1.2.1,((([]:List U7)++v8.2.2.1)++v11.1.1)++([(2,([0,0,0,0]:List Int))]:List U7),())else none else none else none else none else none else none)else some ((v8.2.2.1,v8.2.1,()),())) (λv12=>bif !(List.isEmpty v8.2.2.1)then bif decide (v8.2.1<(v6.1.length:Int))then if 0<=v8.2.1 then(match v6.1[(v8.2.1).toNat]? with|some v13=>ah (AP v1 (([124,41]:List Int),v13,())) (λ(v14:T9)=>v12 ((),!v14.1.1,()))|none=>none)else none else v12 ((),false,())else v12 ((),false,()))) v1 ((),v7.1.2.1,v7.1.1,()))
theorem Xm(n:Nat)(nx:G5)(ny:G6)(nz:G7)(nA:G8)(h:JH nx ny nz nA):fR Tryz.prog 236 (Ui (AS n nx ny nz nA)):=(fb n [⟨_,F245 n⟩,⟨_,⟨_,h.1,JG⟩⟩,⟨_,⟨_,h.2.1,ND⟩⟩,⟨_,⟨_,h.2.2.1,NE⟩⟩,⟨_,⟨_,h.2.2.2,NF⟩⟩] [14,36] [] [] Tryz.func236 Tryz.results236 Tryz.ntmps236 (.seq .nop (.seq .nop (.seq (.block none (.loop ⟨[],[.val 1 y2,.val 8 (.nl GQ)],[0,2]⟩ (.seq (.seq (.reg (some ⟨[],[.val 31 y4],[0,1,2,8]⟩) []) .nop) (.block none (.seq .nop (.seq .nop (.seq .nop (.reg none [8])))))))) .nop))) A3 A4 [] [] (AS n nx ny nz nA)).o
def AT(v1:Nat)(v2 v3 v4 v5:T92)(v6:T18):T71:=ah (v5 (v6.1,v6.2.1,v6.2.2.1,())) (λ(v7:T63)=>aD (λ(v8:T58)=>λv9=>av (λ(v10:T5)=>bif v10.2.1 then if 0<=v8.2.1 then(match v6.1[(v8.2.1).toNat]? with|some v11=>av (λ(v12:T4)=>if 0<=v8.2.1 then(match v6.1[(v8.2.1).toNat]? with|some v13=>av (λ(v14:T4)=>if(List.length ([]:List U7)+List.length v8.2.2.1)*40<=140737488355328 then if List.length ([]:List U7)+List.length v8.2.2.1<=9223372036854775807 then if(List.length (([]:List U7)++v8.2.2.1)+List.length ([(v14.2.1,([0,0,0,0]:List Int))]:List U7))*40<=140737488355328 then if List.length (([]:List U7)++v8.2.2.1)+List.length ([(v14.2.1,([0,0,0,0]:List Int))]:List U7)<=9223372036854775807 then bif List.isEmpty ((([]:List U7)++v8.2.2.1)++([(v14.2.1,([0,0,0,0]:List Int))]:List U7))then none else v9 ((),IntKind.wrap .i64 (v8.2.1+1),(([]:List U7)++v8.2.2.1)++([(v14.2.1,([0,0,0,0]:List Int))]:List U7),())else none else none else none else none) (λv15=>bif decide (v13=63)then v15 ((),6,())else v15 ((),v12.2.1,()))|none=>none)else none) (λv16=>bif decide (v11=43)then v16 ((),5,())else v16 ((),4,()))|none=>none)else none else some ((v8.2.2.1,v8.2.1,()),())) (λv17=>bif !(List.isEmpty v8.2.2.1)then bif decide (v8.2.1<(v6.1.length:Int))then if 0<=v8.2.1 then(match v6.1[(v8.2.1).toNat]? with|some v18=>ah (AP v1 (([42,43,63]:List Int),v18,())) (λ(v19:T9)=>v17 ((),v19.1.1,()))|none=>none)else none else v17 ((),false,())else v17 ((),false,()))) v1 ((),v7.1.2.1,v7.1.1,()))
theorem Xn(n:Nat)(nx:G5)(ny:G6)(nz:G7)(nA:G8)(h:JH nx ny nz nA):fR Tryz.prog 244 (Uj (AT n nx ny nz nA)):=(fb n [⟨_,F245 n⟩,⟨_,⟨_,h.1,JG⟩⟩,⟨_,⟨_,h.2.1,ND⟩⟩,⟨_,⟨_,h.2.2.1,NE⟩⟩,⟨_,⟨_,h.2.2.2,NF⟩⟩] [14] [] [] Tryz.func244 Tryz.results244 Tryz.ntmps244 (.seq .nop (.seq .nop (.seq (.block none (.loop ⟨[],[.val 1 y2,.val 8 (.nl GQ)],[0]⟩ (.seq (.seq (.reg (some ⟨[],[.val 30 y4],[0,1,8]⟩) []) .nop) (.block none (.seq .nop (.seq (.seq .nop (.cond (some ⟨[],[.val 9 y2],[0,1,8]⟩) .nop .nop)) (.seq (.seq .nop (.cond (some ⟨[],[.val 9 y2],[0,1,8]⟩) .nop .nop)) (.seq (.reg none [8]) .nop)))))))) .nop))) A3 A4 [] [] (AT n nx ny nz nA)).o
def AU(v1:Nat)(v2 v3 v4 v5:T92)(v6:T18):T71:=av (λ(v7:T5)=>bif v7.2.1 then some ((([]:List U7),v6.2.1,()),())else if 0<=v6.2.1 then(match v6.1[(v6.2.1).toNat]? with|some v8=>bif decide (v8=46)then ah (JD v1 (3,([0,0,0,0]:List Int),([0,0,0,0]:List Int),())) (λ(v9:T15)=>some ((([(1,v9.1.1)]:List U7),IntKind.wrap .i64 (v6.2.1+1),()),()))else if 0<=v6.2.1 then(match v6.1[(v6.2.1).toNat]? with|some v10=>bif decide (v10=126)then some ((([(0,([0,0,0,0]:List Int))]:List U7),IntKind.wrap .i64 (v6.2.1+1),()),())else if 0<=v6.2.1 then(match v6.1[(v6.2.1).toNat]? with|some v11=>bif decide (v11=91)then ah (NC v1 (v6.1,IntKind.wrap .i64 (v6.2.1+1),())) (λ(v12:T63)=>some ((v12.1.1,v12.1.2.1,()),()))else if 0<=v6.2.1 then(match v6.1[(v6.2.1).toNat]? with|some v13=>bif decide (v13=40)then bif decide (99<=v6.2.2.1)then some ((([]:List U7),v6.2.1,()),())else ah (v2 (v6.1,IntKind.wrap .i64 (v6.2.1+1),IntKind.wrap .i64 (v6.2.2.1+1),())) (λ(v14:T63)=>av (λ(v15:T5)=>bif v15.2.1 then some ((([]:List U7),v14.1.2.1,()),())else some ((v14.1.1,IntKind.wrap .i64 (v14.1.2.1+1),()),())) (λv16=>bif List.isEmpty v14.1.1 then v16 ((),true,())else bif decide ((v6.1.length:Int)<=v14.1.2.1)then v16 ((),true,())else if 0<=v14.1.2.1 then(match v6.1[(v14.1.2.1).toNat]? with|some v17=>v16 ((),!(decide (v17=41)),())|none=>none)else none))else if 0<=v6.2.1/\v6.2.1<=(v6.1.length:Int)/\(v6.1.length:Int)<=(v6.1.length:Int)then ah (G4 v1 (cC v6.1 v6.2.1 (v6.1.length:Int),())) (λ(v18:T20)=>bif !v18.1.2.2.1 then some ((([]:List U7),v6.2.1,()),())else if(0:Int)<=(256:Int)/\(256:Int)<=(256:Int)then if(256:Int).toNat*1<=140737488355328 then if 0<=v18.1.1 then(match(List.replicate (256:Int).toNat false)[(v18.1.1).toNat]? with|some v19=>if 0<=v18.1.1 then(match(List.replicate (256:Int).toNat false)[(v18.1.1).toNat]? with|some v20=>ah (CY v1 (List.set (List.replicate (256:Int).toNat false) (v18.1.1).toNat true,())) (λ(v21:T15)=>some ((([(1,v21.1.1)]:List U7),IntKind.wrap .i64 (v6.2.1+v18.1.2.1),()),()))|none=>none)else none|none=>none)else none else none else none)else none|none=>none)else none|none=>none)else none|none=>none)else none|none=>none)else none) (λv22=>bif decide ((v6.1.length:Int)<=v6.2.1)then v22 ((),true,())else if 0<=v6.2.1 then(match v6.1[(v6.2.1).toNat]? with|some v23=>ah (AP v1 (([124,41,42,43,63,93,47,34]:List Int),v23,())) (λ(v24:T9)=>v22 ((),v24.1.1,()))|none=>none)else none)
theorem Xo(n:Nat)(nx:G5)(ny:G6)(nz:G7)(nA:G8)(h:JH nx ny nz nA):fR Tryz.prog 252 (Uk (AU n nx ny nz nA)):=(fb n [⟨_,F245 n⟩,⟨_,F257 n⟩,⟨_,F258 n⟩,⟨_,F259 n⟩,⟨_,F260 n⟩,⟨_,⟨_,h.1,JG⟩⟩,⟨_,⟨_,h.2.1,ND⟩⟩,⟨_,⟨_,h.2.2.1,NE⟩⟩,⟨_,⟨_,h.2.2.2,NF⟩⟩] [55,72] [] [] Tryz.func252 Tryz.results252 Tryz.ntmps252 (.seq .nop (.seq (.block none (.seq (.reg (some ⟨[],[.val 14 y4],[0,1,2]⟩) []) (.cond none .nop (.seq .nop (.cond none .nop (.seq .nop (.cond none .nop (.seq .nop (.cond none .nop (.seq .nop (.cond none (.seq .nop (.seq .nop (.seq (.seq (.reg (some ⟨[],[.val 88 y4],[8,9]⟩) []) .nop) .nop))) .nop))))))))))) .nop)) A3 A4 [] [] (AU n nx ny nz nA)).o
def db(n:Nat):Nat->(T18->T71)×(T18->T71)×(T18->T71)×(T18->T71)
 |0=>(λ_=>none,λ_=>none,λ_=>none,λ_=>none)
 |d+1=>(λx=>AR n (db n d).1 (db n d).2.1 (db n d).2.2.1 (db n d).2.2.2 x,λx=>AS n (db n d).1 (db n d).2.1 (db n d).2.2.1 (db n d).2.2.2 x,λx=>AT n (db n d).1 (db n d).2.1 (db n d).2.2.1 (db n d).2.2.2 x,λx=>AU n (db n d).1 (db n d).2.1 (db n d).2.2.1 (db n d).2.2.2 x)
theorem JI(n:Nat):∀ d,JH (db n d).1 (db n d).2.1 (db n d).2.2.1 (db n d).2.2.2
 |0=>⟨(λx r h=>by cases h),(λx r h=>by cases h),(λx r h=>by cases h),(λx r h=>by cases h)⟩
 |d+1=>⟨Xl n _ _ _ _ (JI n d),Xm n _ _ _ _ (JI n d),Xn n _ _ _ _ (JI n d),Xo n _ _ _ _ (JI n d)⟩
def Rg(n:Nat)(x:T18):T71:=(db n n).1 x
def F217(n:Nat):Fb 217:=⟨Re (Rg n),(JI n n).1,JG⟩
def NG(v1:Nat)(v2:T6):T71:=Bd (1600<(v2.1.length:Int)) (some ((([]:List U7),6,()),())) (ah (Rg v1 (v2.1,0,0,())) (λ(v3:T63)=>av (λ(v4:T5)=>bif v4.2.1 then some ((([]:List U7),5,()),())else Bd (400<(v3.1.1.length:Int)) (some ((([]:List U7),6,()),())) (some ((v3.1.1,0,()),()))) (λv5=>bif List.isEmpty v3.1.1 then v5 ((),true,())else v5 ((),decide (v3.1.2.1<(v2.1.length:Int)),()))))
def F171(n:Nat):Fb 171:=fb n [⟨_,F217 n⟩] [11] [] [] Tryz.func171 Tryz.results171 Tryz.ntmps171 (sn_ (sn_ (sn_ (.seq (.seq (rs_ ⟨[],[.val 21 y4],[4]⟩ []) .nop) .nop)))) A21 A9 [] [] (NG n)
def G9(v1:Nat)(v2:T1):T14:=av (λ(v3:T30)=>bif v3.2.1 then some ((-1,()),())else Ld v3.1.1 v2.1 λv4=>some ((v4,()),())) (λv5=>Bd (v2.1<0) (v5 ((([0,0,2,2,1,1,1]:List Int),()),true,())) (v5 ((([0,0,2,2,1,1,1]:List Int),()),decide (6<v2.1),())))
def F246(n:Nat):Fb 246:=fb n [] [] [] [] Tryz.func246 Tryz.results246 Tryz.ntmps246 (sn_ (sn_ (.seq (.seq (rs_ ⟨[(32,y53,mo_)],[.val 10 y4],[0,3]⟩ []) .nop) .nop))) A20 A20 [] [] (G9 n)
def CZ(v1:Nat)(v2:(U14×Int×Unit)):T14:=aD (λ(v3:T10)=>λv4=>bif decide (0<=v3.2.2.1)then if 0<=v3.2.2.1 then(match v2.1[(v3.2.2.1).toNat]? with|some v5=>ah (G9 v1 (v5.1,())) (λ(v6:T7)=>bif decide ((IntKind.wrap .i64 ((IntKind.wrap .i64 (v3.2.1-1))+v6.1.1))=0)then some ((v3.2.2.1,()),())else v4 ((),IntKind.wrap .i64 ((IntKind.wrap .i64 (v3.2.1-1))+v6.1.1),IntKind.wrap .i64 (v3.2.2.1-1),()))|none=>none)else none else some ((0,()),())) v1 ((),1,v2.2.1,())
def F247(n:Nat):Fb 247:=fb n [⟨_,F246 n⟩] [] [] [] Tryz.func247 Tryz.results247 Tryz.ntmps247 (sn_ (sn_ (.seq (sn_ (bk_ ⟨[],[.val 5 y2,.val 6 y2],[0]⟩ .nop)) .nop))) A9 A20 [] [] (CZ n)
def ym(v1:Nat)(v2:T28):Option (((List U14)×Unit)×Unit):=if 0<=(Wi ((v2.1.length:Int)-1))then(match v2.1[(Wi ((v2.1.length:Int)-1)).toNat]? with|some v3=>ah (G9 v1 (v3.1,())) (λ(v4:T7)=>aD (λ(v5:(Unit×(List U14)×Int×Int×Unit))=>λv6=>Bd (0<v5.2.2.2.1) (ah (CZ v1 (v2.1,Wi (v5.2.2.1-1),())) (λ(v7:T7)=>if 0<=v7.1.1/\v7.1.1<=v5.2.2.1/\v5.2.2.1<=(v2.1.length:Int)then Ap 24 (List.length ([(cC v2.1 v7.1.1 v5.2.2.1)]:List U14)+List.length v5.2.1) (v6 ((),([(cC v2.1 v7.1.1 v5.2.2.1)]:List U14)++v5.2.1,v7.1.1,Wi (v5.2.2.2.1-1),()))else none)) (some ((v5.2.1,()),()))) v1 ((),([]:List U14),Wi ((v2.1.length:Int)-1),v4.1.1,()))|none=>none)else none
def F237(n:Nat):Fb 237:=fb n [⟨_,F246 n⟩,⟨_,F247 n⟩] [] [] [] Tryz.func237 Tryz.results237 Tryz.ntmps237 (sn_ (sn_ (sn_ (sn_ (.seq (sn_ (bk_ ⟨[],[.hdr 4 39 M8 mo_,.val 5 y2,.val 6 y2],[0]⟩ .nop)) .nop))))) [(nq,.ro)] [(M8,.ro)] [] [] (ym n)
def JJ(v1:Nat)(v2:(U12×U12×Unit)):T37:=aD (λ(v3:T23)=>λv4=>Bd (v3.2.2.1<(v2.1.length:Int)) (av (λ(v5:(Unit×U12×Unit))=>v4 ((),v5.2.1,Wi (v3.2.2.1+1),())) (λv6=>Ld v2.1 v3.2.2.1 λv7=>bif v7 then Ap 1 (List.length v3.2.1+List.length ([true]:List Bool)) (v6 ((),v3.2.1++([true]:List Bool),()))else Ld v2.2.1 v3.2.2.1 λv8=>Ap 1 (List.length v3.2.1+List.length ([v8]:List Bool)) (v6 ((),v3.2.1++([v8]:List Bool),())))) (some ((v3.2.1,()),()))) v1 ((),([]:List Bool),0,())
def F239(n:Nat):Fb 239:=fb n [] [] [] [] Tryz.func239 Tryz.results239 Tryz.ntmps239 (sn_ (sn_ (.seq (sn_ (bk_ ⟨[],[.hdr 5 47 eD mo_,.val 6 y2],[0,1]⟩ (sn_ (.seq (.block none (rs_ ⟨[],[.hdr 5 47 eD mo_],[0,1,6]⟩ [])) .nop)))) .nop))) [(eD,.ro),(eD,.ro)] A15 [] [] (JJ n)
abbrev NH:=Qt A1 A15 []
abbrev Rh(q:NH):Callee:=⟨_,_,[],_,q⟩
theorem Ri:Plain Tryz.prog 218:=pl Tryz.func218
abbrev NI:=Qt A1 A15 []
abbrev Ul(q:NI):Callee:=⟨_,_,[],_,q⟩
theorem Um:Plain Tryz.prog 240:=pl Tryz.func240
abbrev Rj(yn:NH)(yo:NI):=fR Tryz.prog 218 (Rh yn)/\fR Tryz.prog 240 (Ul yo)
def lD(v1:Nat)(v2 v3:T96)(v4:T75):T37:=if 0<=(v4.2.2.1.length:Int)/\(v4.2.2.1.length:Int)<=(v4.2.2.1.length:Int)then if(v4.2.2.1.length:Int).toNat*1<=140737488355328 then ah (ym v1 (v4.1,())) (λ(v5:(((List U14)×Unit)×Unit))=>if 0<=(IntKind.wrap .i64 ((v4.1.length:Int)-1))then(match v4.1[(IntKind.wrap .i64 ((v4.1.length:Int)-1)).toNat]? with|some v6=>bif decide (v6.1=0)then some ((v4.2.2.1,()),())else bif decide (v6.1=1)then aD (λ(v7:T29)=>λv8=>bif decide (v7.2.1<(v4.2.1.length:Int))then av (λ(v9:T17)=>v8 ((v9.1.1,()),IntKind.wrap .i64 (v7.2.1+1),())) (λv10=>if 0<=v7.2.1 then(match v4.2.2.1[(v7.2.1).toNat]? with|some v11=>bif v11 then if 0<=(IntKind.wrap .i64 ((v4.1.length:Int)-1))then(match v4.1[(IntKind.wrap .i64 ((v4.1.length:Int)-1)).toNat]? with|some v12=>if 0<=v7.2.1 then(match v4.2.1[(v7.2.1).toNat]? with|some v13=>ah (G3 v1 (v12.2,IntKind.wrap .i64 v13,())) (λ(v14:T9)=>if 0<=(IntKind.wrap .i64 (v7.2.1+1))then(match v7.1.1[(IntKind.wrap .i64 (v7.2.1+1)).toNat]? with|some v15=>if 0<=(IntKind.wrap .i64 (v7.2.1+1))then(match v7.1.1[(IntKind.wrap .i64 (v7.2.1+1)).toNat]? with|some v16=>v10 ((List.set v7.1.1 (IntKind.wrap .i64 (v7.2.1+1)).toNat v14.1.1,()),())|none=>none)else none|none=>none)else none)|none=>none)else none|none=>none)else none else if 0<=(IntKind.wrap .i64 (v7.2.1+1))then(match v7.1.1[(IntKind.wrap .i64 (v7.2.1+1)).toNat]? with|some v17=>if 0<=(IntKind.wrap .i64 (v7.2.1+1))then(match v7.1.1[(IntKind.wrap .i64 (v7.2.1+1)).toNat]? with|some v18=>v10 ((List.set v7.1.1 (IntKind.wrap .i64 (v7.2.1+1)).toNat false,()),())|none=>none)else none|none=>none)else none|none=>none)else none)else some ((v7.1.1,()),())) v1 ((List.replicate (v4.2.2.1.length:Int).toNat false,()),0,())else bif decide (v6.1=2)then if(0:Int)<=(1:Int)then(match v5.1.1[(1:Int).toNat]? with|some v19=>if(0:Int)<=(0:Int)then(match v5.1.1[(0:Int).toNat]? with|some v20=>ah (v2 (v20,v4.2.1,v4.2.2.1,())) (λ(v21:T17)=>ah (v2 (v19,v4.2.1,v21.1.1,())) (λ(v22:T17)=>some ((v22.1.1,()),())))|none=>none)else none|none=>none)else none else bif decide (v6.1=3)then if(0:Int)<=(0:Int)then(match v5.1.1[(0:Int).toNat]? with|some v23=>ah (v2 (v23,v4.2.1,v4.2.2.1,())) (λ(v24:T17)=>if(0:Int)<=(1:Int)then(match v5.1.1[(1:Int).toNat]? with|some v25=>ah (v2 (v25,v4.2.1,v4.2.2.1,())) (λ(v26:T17)=>ah (JJ v1 (v24.1.1,v26.1.1,())) (λ(v27:T17)=>some ((v27.1.1,()),())))|none=>none)else none)|none=>none)else none else bif decide (v6.1=6)then if(0:Int)<=(0:Int)then(match v5.1.1[(0:Int).toNat]? with|some v28=>ah (v2 (v28,v4.2.1,v4.2.2.1,())) (λ(v29:T17)=>ah (JJ v1 (v4.2.2.1,v29.1.1,())) (λ(v30:T17)=>some ((v30.1.1,()),())))|none=>none)else none else if 0<=(IntKind.wrap .i64 ((v4.1.length:Int)-1))then(match v4.1[(IntKind.wrap .i64 ((v4.1.length:Int)-1)).toNat]? with|some v31=>bif decide (v31.1=4)then if(0:Int)<=(0:Int)then(match v5.1.1[(0:Int).toNat]? with|some v32=>ah (v3 (v32,v4.2.1,v4.2.2.1,())) (λ(v33:T17)=>some ((v33.1.1,()),()))|none=>none)else none else if(0:Int)<=(0:Int)then(match v5.1.1[(0:Int).toNat]? with|some v34=>if(0:Int)<=(0:Int)then(match v5.1.1[(0:Int).toNat]? with|some v35=>ah (v2 (v35,v4.2.1,v4.2.2.1,())) (λ(v36:T17)=>ah (v3 (v34,v4.2.1,v36.1.1,())) (λ(v37:T17)=>some ((v37.1.1,()),())))|none=>none)else none|none=>none)else none|none=>none)else none|none=>none)else none)else none else none
theorem Xp(n:Nat)(yn:NH)(yo:NI)(h:Rj yn yo):fR Tryz.prog 218 (Rh (lD n yn yo)):=(fb n [⟨_,F237 n⟩,⟨_,F238 n⟩,⟨_,F239 n⟩,⟨_,⟨_,h.1,Ri⟩⟩,⟨_,⟨_,h.2,Um⟩⟩] [14,67,68,76,82,83,92,93,107,117,118] [] [] Tryz.func218 Tryz.results218 Tryz.ntmps218 (.seq .nop (.seq .nop (.seq .nop (.seq (.seq .nop (.block none (.seq .nop (.cond none .nop (.seq .nop (.cond none (.seq (.seq .nop (.block none (.loop ⟨[(96,eD,.own .ro)],[.val 9 y2],[0,1,2,7]⟩ (.seq .nop (.seq (.block none (.reg (some ⟨[(96,eD,.own .ro)],[],[0,1,2,7,9]⟩) [])) .nop))))) .nop) .nop)))))) .nop)))) A1 A15 [] [] (lD n yn yo)).o
def AV(v1:Nat)(v2 v3:T96)(v4:T75):T37:=aD (λ(v5:T23)=>λv6=>bif decide (v5.2.2.1<=(v4.2.1.length:Int))then ah (v2 (v4.1,v4.2.1,v5.2.1,())) (λ(v7:T17)=>ah (JJ v1 (v5.2.1,v7.1.1,())) (λ(v8:T17)=>aD (λ(v9:(Unit×Bool×Int×Unit))=>λv10=>bif decide (v9.2.2.1<(v8.1.1.length:Int))then av (λ(v11:T5)=>v10 ((),v11.2.1,IntKind.wrap .i64 (v9.2.2.1+1),())) (λv12=>bif v9.2.1 then if 0<=v9.2.2.1 then(match v8.1.1[(v9.2.2.1).toNat]? with|some v13=>if 0<=v9.2.2.1 then(match v5.2.1[(v9.2.2.1).toNat]? with|some v14=>v12 ((),v13 == v14,())|none=>none)else none|none=>none)else none else v12 ((),false,()))else bif v9.2.1 then some ((v8.1.1,()),())else v6 ((),v8.1.1,IntKind.wrap .i64 (v5.2.2.1+1),())) v1 ((),true,0,())))else some ((v5.2.1,()),())) v1 ((),v4.2.2.1,0,())
theorem Xq(n:Nat)(yn:NH)(yo:NI)(h:Rj yn yo):fR Tryz.prog 240 (Ul (AV n yn yo)):=(fb n [⟨_,F239 n⟩,⟨_,⟨_,h.1,Ri⟩⟩,⟨_,⟨_,h.2,Um⟩⟩] [21,22] [] [] Tryz.func240 Tryz.results240 Tryz.ntmps240 (.seq .nop (.seq (.seq .nop (.block none (.loop ⟨[],[.val 2 eD,.val 7 y2],[0,1]⟩ (.seq .nop (.seq (.block none (.seq .nop (.seq .nop (.seq (.seq .nop (.block none (.loop ⟨[],[.val 9 y4,.val 10 y2],[0,1,2,7,8]⟩ (.seq .nop (.seq (.block none (.reg (some ⟨[],[.val 9 y4],[0,1,2,7,8,10]⟩) [])) .nop))))) .nop)))) .nop))))) .nop)) A1 A15 [] [] (AV n yn yo)).o
def gj(n:Nat):Nat->(T75->T37)×(T75->T37)
 |0=>(λ_=>none,λ_=>none)
 |d+1=>(λx=>lD n (gj n d).1 (gj n d).2 x,λx=>AV n (gj n d).1 (gj n d).2 x)
theorem Rl(n:Nat):∀ d,Rj (gj n d).1 (gj n d).2
 |0=>⟨(λx r h=>by cases h),(λx r h=>by cases h)⟩
 |d+1=>⟨Xp n _ _ (Rl n d),Xq n _ _ (Rl n d)⟩
def Rm(n:Nat)(x:T75):T37:=(gj n n).1 x
def F218(n:Nat):Fb 218:=⟨Rh (Rm n),(Rl n n).1,Ri⟩
def NJ(v1:Nat)(v2:(U14×U0×Unit)):T16:=if 0<=(Wi ((v2.2.1.length:Int)+1))/\(Wi ((v2.2.1.length:Int)+1))<=(Wi ((v2.2.1.length:Int)+1))then if(Wi ((v2.2.1.length:Int)+1)).toNat*1<=140737488355328 then if(0:Int)<=(0:Int)then(match(List.replicate (Wi ((v2.2.1.length:Int)+1)).toNat false)[(0:Int).toNat]? with|some v3=>if(0:Int)<=(0:Int)then(match(List.replicate (Wi ((v2.2.1.length:Int)+1)).toNat false)[(0:Int).toNat]? with|some v4=>ah (Rm v1 (v2.1,v2.2.1,List.set (List.replicate (Wi ((v2.2.1.length:Int)+1)).toNat false) (0:Int).toNat true,())) (λ(v5:T17)=>if 0<=(v2.2.1.length:Int)then(match v5.1.1[(v2.2.1.length:Int).toNat]? with|some v6=>some ((v6,()),())|none=>none)else none)|none=>none)else none|none=>none)else none else none else none
def F172(n:Nat):Fb 172:=fb n [⟨_,F218 n⟩] [] [] [] Tryz.func172 Tryz.results172 Tryz.ntmps172 (.nop) [(nq,.ro),(y9,.ro)] A19 [] [] (NJ n)
end
noncomputable section
def Ha(v1:Nat)(v2:T1):T14:=av (λ(v3:T2)=>some ((3,()),())) (λv4=>av (λ(v5:T2)=>v4 ((),())) (λv6=>av (λ(v7:T5)=>bif v7.2.1 then some ((1,()),())else av (λ(v8:T5)=>bif v8.2.1 then some ((2,()),())else av (λ(v9:T5)=>bif v9.2.1 then v6 ((),())else av (λ(v10:T5)=>bif v10.2.1 then v6 ((),())else Bd (v2.1=95) (v4 ((),())) (av (λ(v11:T5)=>bif v11.2.1 then some ((4,()),())else some ((0,()),())) (λv12=>Bd (32<v2.1) (v12 ((),decide (v2.1<=126),())) (v12 ((),false,()))))) (λv13=>Bd (65<=v2.1) (v13 ((),decide (v2.1<=90),())) (v13 ((),false,())))) (λv14=>Bd (97<=v2.1) (v14 ((),decide (v2.1<=122),())) (v14 ((),false,())))) (λv15=>Bd (48<=v2.1) (v15 ((),decide (v2.1<=57),())) (v15 ((),false,())))) (λv16=>Bd (v2.1=32) (v16 ((),decide (v2.1=32),())) (av (λ(v17:T5)=>v16 ((),v17.2.1,())) (λv18=>Bd (v2.1=9) (v18 ((),decide (v2.1=9),())) (av (λ(v19:T5)=>v18 ((),v19.2.1,())) (λv20=>Bd (v2.1=10) (v20 ((),decide (v2.1=10),())) (v20 ((),decide (v2.1=13),())))))))))
def F201(n:Nat):Fb 201:=fb n [] [] [] [] Tryz.func201 Tryz.results201 Tryz.ntmps201 (sn_ (.seq (.block none (.seq (.block none (.seq (.block (some ⟨[],[],[]⟩) (.block (some ⟨[],[],[]⟩) (.block none (.seq (.block none (.seq (.block none (.seq (.seq (.seq (sn_ (cs_ ⟨[],[.val 3 y4],[0]⟩ .nop (sn_ (cs_ ⟨[],[.val 3 y4],[0]⟩ .nop (sn_ (cs_ ⟨[],[.val 3 y4],[0]⟩ .nop .nop)))))) .nop) (.seq (.seq (rs_ ⟨[],[.val 12 y4],[0]⟩ []) .nop) (.seq (.seq (rs_ ⟨[],[.val 19 y4],[0]⟩ []) .nop) (.seq (.seq (rs_ ⟨[],[.val 26 y4],[0]⟩ []) .nop) (sn_ (.seq (rs_ ⟨[],[.val 36 y4],[]⟩ []) .nop)))))) .nop)) .nop)) .nop)))) .nop)) .nop)) .nop)) [(y5,.ro)] A20 [] [] (Ha n)
def Hb(v1:Nat)(v2:T6):T16:=av (λ(v3:T5)=>bif v3.2.1 then some ((false,()),())else aD (λ(v4:T4)=>λv5=>Bd (v4.2.1<(v2.1.length:Int)) (Ld v2.1 v4.2.1 λv6=>ah (Ha v1 (v6,())) (λ(v7:T7)=>av (λ(v8:T5)=>bif v8.2.1 then some ((false,()),())else v5 ((),Wi (v4.2.1+1),())) (λv9=>bif !(decide (v7.1.1=2))then v9 ((),!(decide (v7.1.1=3)),())else v9 ((),false,())))) (some ((true,()),()))) v1 ((),0,())) (λv10=>Bd (40<(v2.1.length:Int)) (v10 ((),true,())) (Bd (v2.1=([]:List Int)) (v10 ((),true,())) (if(0:Int)<=(0:Int)then(match v2.1[(0:Int).toNat]? with|some v11=>ah (Ha v1 (v11,())) (λ(v12:T7)=>v10 ((),!(decide (v12.1.1=3)),()))|none=>none)else none)))
def F158(n:Nat):Fb 158:=fb n [⟨_,F201 n⟩] [] [] [] Tryz.func158 Tryz.results158 Tryz.ntmps158 (sn_ (.seq (.seq (rs_ ⟨[],[.val 17 y4],[0]⟩ []) .nop) (.seq (sn_ (bk_ ⟨[],[.val 20 y2],[0,19]⟩ (sn_ (sn_ (.seq (.block none (sn_ (sn_ (.seq (rs_ ⟨[],[.val 32 y4],[0,19,20]⟩ []) .nop)))) .nop))))) .nop))) A21 A19 [] [] (Hb n)
def NK(v1:Nat)(v2:(U30×U19×Unit)):T14:=ah (Hb v1 (v2.1.1,())) (λ(v3:T9)=>bif !v3.1.1 then some ((8,()),())else Bd (0<(cY (λ(v4:T0)=>λ(v5:T0)=>decide (v4=v5)) v2.1.1 v2.2.1)) (some ((9,()),())) (av (λ(v6:T5)=>bif v6.2.1 then some ((1,()),())else ah (p68 v1 (v2.1.2.2,())) (λ(v7:T79)=>bif !(decide (v7.1.2.1=0))then some ((v7.1.2.1,()),())else ah (NA v1 (v7.1.1,([]:List Int),())) (λ(v8:T7)=>Bd (0<=v8.1.1) (some ((14,()),())) (some ((0,()),()))))) (λv9=>Bd (v2.1.2.1<0) (v9 ((),true,())) (v9 ((),decide (2<v2.1.2.1),())))))
def F109(n:Nat):Fb 109:=fb n [⟨_,F158 n⟩,⟨_,F68 n⟩,⟨_,F128 n⟩] [30] [] [] Tryz.func109 Tryz.results109 Tryz.ntmps109 (.seq (rn_ [2]) (.seq (.block none (sn_ (.cond none .nop (sn_ (.cond none .nop (.seq (rs_ ⟨[],[.val 18 y4],[2]⟩ []) .nop)))))) (.seq (rn_ [5]) .nop))) [(y95,.ro),(wo,.ro)] A20 [] [] (NK n)
def p59(v1:Nat)(v2:T61):T26:=Bd (60<(v2.1.length:Int)) (some (((v2.1.length:Int),6,()),())) (aD (λ(v3:((U19×Unit)×Int×Unit))=>λv4=>Bd (v3.2.1<(v2.1.length:Int)) (Ld v2.1 v3.2.1 λv5=>ah (NK v1 (v5,v3.1.1,())) (λ(v6:T7)=>bif !(decide (v6.1.1=0))then some ((v3.2.1,v6.1.1,()),())else v4 ((eW (λ(v7:T0)=>λ(v8:T0)=>decide (v7=v8)) v5.1 (Wi ((cY (λ(v9:T0)=>λ(v10:T0)=>decide (v9=v10)) v5.1 v3.1.1)+1)) v3.1.1,()),Wi (v3.2.1+1),()))) (some (((v2.1.length:Int),0,()),()))) v1 ((([]:List (U0×Int)),()),0,()))
def F59(n:Nat):Fb 59:=fb n [⟨_,F109 n⟩] [] [] [] Tryz.func59 Tryz.results59 Tryz.ntmps59 (sn_ (sn_ (sn_ (.seq (sn_ (bk_ ⟨[(104,wo,mo_)],[.val 16 y2],[0,4,14,15]⟩ (sn_ (sn_ (.seq (.block none (.seq (rn_ [6]) .nop)) .nop))))) .nop)))) [(y28,.ro)] A13 [] [] (p59 n)
def NL(v1:Nat)(v2:T42):T14:=aD (λ(v3:T4)=>λv4=>Bd (v3.2.1<(v2.1.length:Int)) (Ld v2.1 v3.2.1 λv5=>Bd (v2.2.1=v5) (some ((v3.2.1,()),())) (v4 ((),Wi (v3.2.1+1),()))) (some ((-1,()),()))) v1 ((),0,())
def F202(n:Nat):Fb 202:=fb n [] [] [] [] Tryz.func202 Tryz.results202 Tryz.ntmps202 (sn_ (.seq (sn_ (bk_ ⟨[],[.val 8 y2],[0,1,7]⟩ .nop)) .nop)) [(y29,.ro),(y9,.ro)] A20 [] [] (NL n)
def NM(v1:Nat)(v2:T42):T16:=ah (NL v1 (v2.1,v2.2.1,())) (λ(v3:T7)=>some ((decide (0<=v3.1.1),()),()))
def F159(n:Nat):Fb 159:=fb n [⟨_,F202 n⟩] [] [] [] Tryz.func159 Tryz.results159 Tryz.ntmps159 (.nop) [(y29,.ro),(y9,.ro)] A19 [] [] (NM n)
def NN(v1:Nat)(v2:((List U30)×U0×Unit)):T14:=aD (λ(v3:T4)=>λv4=>Bd (v3.2.1<(v2.1.length:Int)) (Ld v2.1 v3.2.1 λv5=>Bd (v5.1=v2.2.1) (some ((v3.2.1,()),())) (v4 ((),Wi (v3.2.1+1),()))) (some ((-1,()),()))) v1 ((),0,())
def F160(n:Nat):Fb 160:=fb n [] [] [] [] Tryz.func160 Tryz.results160 Tryz.ntmps160 (sn_ (.seq (sn_ (bk_ ⟨[],[.val 9 y2],[1,7,8]⟩ (sn_ (sn_ (.seq (.block none (.seq (rn_ [6]) .nop)) .nop))))) .nop)) [(y28,.ro),(y9,.ro)] A20 [] [] (NN n)
def p90(v1:Nat)(v2:pu):T47:=Bd (300<(v2.1.2.1.length:Int)) (some (((6,2,(v2.1.2.1.length:Int)),()),())) (aD (λ(v3:T39)=>λv4=>Bd (v3.2.1<(v2.1.2.1.length:Int)) (Ld v2.1.2.1 v3.2.1 λv5=>ah (Hb v1 (v5,())) (λ(v6:T9)=>bif !v6.1.1 then some (((8,2,v3.2.1),()),())else av (λ(v7:T43)=>bif v7.2.1 then some (((9,2,v3.2.1),()),())else v4 ((v7.1.1,()),Wi (v3.2.1+1),())) (λv8=>if(0:Int)<=(0:Int)/\(0:Int)<=v3.2.1/\v3.2.1<=(v2.1.2.1.length:Int)then ah (NM v1 (cC v2.1.2.1 (0:Int) v3.2.1,v5,())) (λ(v9:T9)=>bif v9.1.1 then v8 ((v3.1.1,()),true,())else ah (NN v1 (v2.1.1,v5,())) (λ(v10:T7)=>v8 ((v3.1.1,()),decide (0<=v10.1.1),())))else none))) (some (((0,0,0),()),()))) v1 (((0,0,0),()),0,()))
def F90(n:Nat):Fb 90:=fb n [⟨_,F158 n⟩,⟨_,F159 n⟩,⟨_,F160 n⟩] [] [] [] Tryz.func90 Tryz.results90 Tryz.ntmps90 (.seq (rn_ [1]) (sn_ (.seq (sn_ (bk_ ⟨Nc,[.val 16 y2],[1,2,14,15]⟩ (sn_ (sn_ (.seq (.block none (sn_ (.block none (sn_ (.cond none .nop (.seq (rs_ ⟨Nc,[.val 27 y4],[1,2,3,14,15,16]⟩ []) .nop)))))) .nop))))) (.seq (rn_ [2]) .nop)))) A17 [(GO,.ro)] [] [] (p90 n)
def Hc(v1:Nat)(v2:TU):T16:=bif v2.2.1.1 then av (λ(v3:T5)=>some ((v3.2.1,()),())) (λv4=>Bd (0<=v2.2.1.2) (v4 ((),decide (v2.2.1.2<(v2.1.2.1.length:Int)),())) (v4 ((),false,())))else av (λ(v5:T5)=>some ((v5.2.1,()),())) (λv6=>Bd (0<=v2.2.1.2) (Bd (v2.2.1.2<(v2.1.1.length:Int)) (Ld v2.1.1 v2.2.1.2 λv7=>v6 ((),decide (v7.2.1=0),())) (v6 ((),false,()))) (v6 ((),false,())))
def F161(n:Nat):Fb 161:=fb n [] [] [] [] Tryz.func161 Tryz.results161 Tryz.ntmps161 (.seq (rn_ [2,3]) (.seq (sn_ (.cond none (.seq (rs_ ⟨[],[.val 4 y4],[]⟩ []) .nop) .nop)) (.seq (rs_ ⟨[],[.val 4 y4],[]⟩ []) .nop))) [(y32,.ro),(y62,.ro)] A19 [] [] (Hc n)
theorem JK:xU Tryz.prog 63:=⟨by kernel_rfl,by kernel_rfl,by kernel_rfl⟩
def NO(v1:Nat)(v2:T81):T16:=av (λ(v3:T5)=>some ((v3.2.1,()),())) (λv4=>Bd ((v2.1.2.2.1.length:Int)=3) (if(0:Int)<=(0:Int)then(match v2.1.2.2.1[(0:Int).toNat]? with|some v5=>bif !v5.1 then if(0:Int)<=(1:Int)then(match v2.1.2.2.1[(1:Int).toNat]? with|some v6=>bif bif v6.1 == true then decide (v6.2=v2.1.1)else false then if(0:Int)<=(2:Int)then(match v2.1.2.2.1[(2:Int).toNat]? with|some v7=>v4 ((),!v7.1,())|none=>none)else none else v4 ((),false,())|none=>none)else none else v4 ((),false,())|none=>none)else none) (v4 ((),false,())))
def F162(n:Nat):Fb 162:=fb n [] [] [] [⟨_,JK⟩] Tryz.func162 Tryz.results162 Tryz.ntmps162 (.seq (rn_ [1]) (.seq (rs_ ⟨[],[.val 2 y4],[]⟩ []) .nop)) [(y78,.ro)] A19 [] [] (NO n)
def p91(v1:Nat)(v2:yl):T14:=Ld v2.1.2.2.1 v2.2.1 λv3=>av (λ(v4:T5)=>bif v4.2.1 then some ((11,()),())else ah (Hb v1 (v3.2.1,())) (λ(v5:T9)=>bif !v5.1.1 then some ((8,()),())else Bd (12<(v3.2.2.1.length:Int)) (some ((6,()),())) (bif !(decide ((v3.2.2.2.2.2.length:Int)=(if(Wi ((v3.2.2.1.length:Int)-1))<(0:Int)then(0:Int)else Wi ((v3.2.2.1.length:Int)-1))))then some ((1,()),())else if(0:Int)<=(0:Int)/\(0:Int)<=v2.2.1/\v2.2.1<=(v2.1.2.2.1.length:Int)then aD (λ(v6:T4)=>λv7=>Bd (v6.2.1<((List.length (cC v2.1.2.2.1 (0:Int) v2.2.1):Nat):Int)) (if 0<=v6.2.1 then(match(cC v2.1.2.2.1 (0:Int) v2.2.1)[(v6.2.1).toNat]? with|some v8=>Bd (v8.2.1=v3.2.1) (some ((9,()),())) (v7 ((),Wi (v6.2.1+1),()))|none=>none)else none) (aD (λ(v9:T4)=>λv10=>Bd (v9.2.1<(v3.2.2.1.length:Int)) (Ld v3.2.2.1 v9.2.1 λv11=>ah (Hc v1 (v2.1,v11,())) (λ(v12:T9)=>bif !v12.1.1 then some ((11,()),())else v10 ((),Wi (v9.2.1+1),()))) (aD (λ(v13:T4)=>λv14=>Bd (v13.2.1<(v3.2.2.2.2.2.length:Int)) (Ld v3.2.2.2.2.2 v13.2.1 λv15=>av (λ(v16:T5)=>bif v16.2.1 then some ((1,()),())else v14 ((),Wi (v13.2.1+1),())) (λv17=>Bd (v15<0) (v17 ((),true,())) (v17 ((),decide (3<v15),())))) (av (λ(v18:T5)=>bif v18.2.1 then some ((11,()),())else av (λ(v19:T5)=>bif v19.2.1 then some ((15,()),())else some ((0,()),())) (λv20=>bif v3.2.2.2.1 then ah (NO v1 (v3,())) (λ(v21:T9)=>v20 ((),!v21.1.1,()))else v20 ((),false,()))) (λv22=>bif !(decide (v3.2.2.2.2.1=(-1)))then Bd (v3.2.2.2.2.1<0) (v22 ((),true,())) (ah (Hc v1 (v2.1,(false,v3.2.2.2.2.1),())) (λ(v23:T9)=>v22 ((),!v23.1.1,())))else v22 ((),false,())))) v1 ((),0,()))) v1 ((),0,()))) v1 ((),0,())else none))) (λv24=>Bd (v3.1<0) (v24 ((),true,())) (v24 ((),decide ((v2.1.2.1.length:Int)<=v3.1),())))
def F91(n:Nat):Fb 91:=fb n [⟨_,F158 n⟩,⟨_,F161 n⟩,⟨_,F162 n⟩] [] [] [] Tryz.func91 Tryz.results91 Tryz.ntmps91 (.seq (rn_ [2]) (.seq (rn_ [5]) (.seq (.block none (.seq (rs_ ⟨[],[.val 17 y4],[1,2,5]⟩ []) .nop)) (.seq (sn_ (bk_ ⟨[],[.val 54 y2],[2,5,52,53]⟩ (sn_ (sn_ (.seq (.block none (.seq (rn_ [7]) .nop)) .nop))))) (.seq (sn_ (bk_ ⟨[],[.val 67 y2],[2,5,65,66]⟩ (sn_ (sn_ (.seq (.block none (.seq (rn_ [9]) .nop)) .nop))))) (.seq (sn_ (bk_ ⟨[],[.val 79 y2],[2,5,77,78]⟩ (sn_ (sn_ (.seq (.block none (sn_ (.seq (rs_ ⟨[],[.val 88 y4],[2,5,77,78,79]⟩ []) .nop))) .nop))))) (.seq (.seq (rs_ ⟨[],[.val 105 y4],[5]⟩ []) .nop) (.seq (.seq (rs_ ⟨[],[.val 112 y4],[]⟩ []) .nop) .nop)))))))) A11 A20 [] [] (p91 n)
def p92(v1:Nat)(v2:pu):T47:=aD (λ(v3:T74)=>λv4=>Bd (v3.2.1<(v2.1.2.2.2.1.length:Int)) (Ld v2.1.2.2.2.1 v3.2.1 λv5=>av (λ(v6:((U9×U11×Unit)×Bool×Unit))=>bif v6.2.1 then some (((1,4,v3.2.1),()),())else aD (λ(v7:T74)=>λv8=>Bd (v7.2.1<(v5.2.length:Int)) (Ld v5.2 v7.2.1 λv9=>ah (Hc v1 (v2.1,(false,v9),())) (λ(v10:T9)=>bif !v10.1.1 then some (((11,4,v3.2.1),()),())else Bd (0<(cY (λ(v11:Int)=>λ(v12:Int)=>decide (v11=v12)) v9 v7.1.2.1)) (some (((9,4,v3.2.1),()),())) (v8 ((v7.1.1,eW (λ(v13:Int)=>λ(v14:Int)=>decide (v13=v14)) v9 (Wi ((cY (λ(v15:Int)=>λ(v16:Int)=>decide (v15=v16)) v9 v7.1.2.1)+1)) v7.1.2.1,()),Wi (v7.2.1+1),())))) (v4 ((v7.1.1,v7.1.2.1,()),Wi (v3.2.1+1),()))) v1 ((v6.1.1,v6.1.2.1,()),0,())) (λv17=>Bd (v5.1<1) (v17 ((v3.1.1,v3.1.2.1,()),true,())) (Bd (3<v5.1) (v17 ((v3.1.1,v3.1.2.1,()),true,())) (Bd ((v5.2.length:Int)=0) (v17 ((v3.1.1,v3.1.2.1,()),true,())) (v17 ((v3.1.1,v3.1.2.1,()),decide (60<=v3.2.1),())))))) (some (((0,0,0),()),()))) v1 (((0,0,0),([]:List U23),()),0,())
def F92(n:Nat):Fb 92:=fb n [⟨_,F161 n⟩] [] [] [] Tryz.func92 Tryz.results92 Tryz.ntmps92 (.seq (rn_ [1]) (sn_ (.seq (sn_ (bk_ ⟨Q8,[.val 12 y2],[1,2,3,10,11]⟩ (sn_ (sn_ (.seq (.block none (.seq (rn_ [5]) (.seq (.seq (rs_ ⟨Q8,[.val 34 y4],[1,2,3,4,5,10,11,12]⟩ []) .nop) (sn_ (bk_ ⟨Q8,[.val 40 y2],[1,2,3,4,10,11,12,38,39]⟩ .nop))))) .nop))))) (.seq (rn_ [2]) .nop)))) A17 [(GO,.ro)] [] [] (p92 n)
def p43(v1:Nat)(v2:pu):T47:=ah (p59 v1 (v2.1.1,())) (λ(v3:T12)=>bif !(decide (v3.1.2.1=0))then some (((v3.1.2.1,1,v3.1.1),()),())else ah (p90 v1 (v2.1,())) (λ(v4:T27)=>bif !(decide (v4.1.1.1=0))then some ((v4.1.1,()),())else Bd (200<(v2.1.2.2.1.length:Int)) (some (((6,3,(v2.1.2.2.1.length:Int)),()),())) (aD (λ(v5:T39)=>λv6=>Bd (v5.2.1<(v2.1.2.2.1.length:Int)) (ah (p91 v1 (v2.1,v5.2.1,())) (λ(v7:T7)=>bif !(decide (v7.1.1=0))then some (((v7.1.1,3,v5.2.1),()),())else v6 ((v5.1.1,()),Wi (v5.2.1+1),()))) (ah (p92 v1 (v2.1,())) (λ(v8:T27)=>bif !(decide (v8.1.1.1=0))then some ((v8.1.1,()),())else av (λ(v9:T43)=>bif v9.2.1 then some (((11,5,0),()),())else some (((0,0,0),()),())) (λv10=>Bd (v2.1.2.2.2.2<0) (v10 ((v5.1.1,()),true,())) (v10 ((v5.1.1,()),decide ((v2.1.2.1.length:Int)<=v2.1.2.2.2.2),())))))) v1 (((0,0,0),()),0,()))))
def F43(n:Nat):Fb 43:=fb n [⟨_,F59 n⟩,⟨_,F90 n⟩,⟨_,F91 n⟩,⟨_,F92 n⟩] [] [] [] Tryz.func43 Tryz.results43 Tryz.ntmps43 (.seq (rn_ [1]) (sn_ (.seq (.seq (rn_ [5]) .nop) (sn_ (.seq (sn_ (bk_ ⟨Nc,[.val 37 y2],[1,2,36]⟩ .nop)) (.seq (.seq (rn_ [8]) .nop) (.seq (.seq (rs_ ⟨Nc,[.val 65 y4],[2]⟩ []) .nop) (.seq (rn_ [2]) .nop)))))))) A17 [(GO,.ro)] [] [] (p43 n)
def NP(v1:Nat)(v2:T1):T14:=ah (AQ v1 (([32,9,10,13]:List Int),v2.1,())) (λ(v3:T9)=>bif v3.1.1 then some ((1,()),())else ah (AQ v1 (([48,49,50,51,52,53,54,55,56,57]:List Int),v2.1,())) (λ(v4:T9)=>bif v4.1.1 then some ((2,()),())else av (λ(v5:T5)=>bif v5.2.1 then some ((3,()),())else av (λ(v6:T5)=>bif v6.2.1 then some ((4,()),())else some ((0,()),())) (λv7=>Bd (32<v2.1) (v7 ((),decide (v2.1<127),())) (v7 ((),false,())))) (λv8=>ah (JF v1 (v2.1,())) (λ(v9:T9)=>bif v9.1.1 then v8 ((),true,())else v8 ((),decide (v2.1=95),())))))
def F197(n:Nat):Fb 197:=fb n [⟨_,F227 n⟩,⟨_,F228 n⟩] [] [] [] Tryz.func197 Tryz.results197 Tryz.ntmps197 (sn_ (.seq (.block none (sn_ (.cond none .nop (sn_ (.cond none .nop (.seq (rs_ ⟨[],[.val 9 y4],[0]⟩ []) (.cond none .nop (.seq (rs_ ⟨[],[.val 16 y4],[]⟩ []) .nop)))))))) .nop)) [(y5,.ro)] A20 [] [] (NP n)
def Hd(v1:Nat)(v2:T6):T16:=aD (λ(v3:T4)=>λv4=>Bd (v3.2.1<(v2.1.length:Int)) (Ld v2.1 v3.2.1 λv5=>ah (NP v1 (v5,())) (λ(v6:T7)=>av (λ(v7:T5)=>bif v7.2.1 then some ((false,()),())else v4 ((),Wi (v3.2.1+1),())) (λv8=>bif !(decide (v6.1.1=3))then bif !(decide (v6.1.1=2))then v8 ((),true,())else v8 ((),decide (v3.2.1=0),())else v8 ((),false,())))) (av (λ(v9:T5)=>some ((v9.2.1,()),())) (λv10=>Bd (1<=(v2.1.length:Int)) (v10 ((),decide ((v2.1.length:Int)<=40),())) (v10 ((),false,()))))) v1 ((),0,())
def F147(n:Nat):Fb 147:=fb n [⟨_,F197 n⟩] [] [] [] Tryz.func147 Tryz.results147 Tryz.ntmps147 (sn_ (.seq (sn_ (bk_ ⟨[],[.val 3 y2],[0]⟩ (sn_ (.seq (.block none (sn_ (.seq (rs_ ⟨[],[.val 24 y4],[0,3]⟩ []) .nop))) .nop)))) (.seq (rs_ ⟨[],[.val 2 y4],[]⟩ []) .nop))) A21 A19 [] [] (Hd n)
def NQ(v1:Nat)(v2:((List U30)×Int×Unit)):T14:=Ld v2.1 v2.2.1 λv3=>ah (Hd v1 (v3.1,())) (λ(v4:T9)=>bif !v4.1.1 then some ((8,()),())else aD (λ(v5:T4)=>λv6=>Bd (v5.2.1<v2.2.1) (Ld v2.1 v5.2.1 λv7=>Bd (v7.1=v3.1) (some ((9,()),())) (v6 ((),Wi (v5.2.1+1),()))) (av (λ(v8:T5)=>bif v8.2.1 then some ((1,()),())else ah (NG v1 (v3.2.2,())) (λ(v9:T63)=>bif !(decide (v9.1.2.1=0))then some ((v9.1.2.1,()),())else ah (NJ v1 (v9.1.1,([]:List Int),())) (λ(v10:T9)=>bif v10.1.1 then some ((14,()),())else some ((0,()),())))) (λv11=>Bd (v3.2.1<0) (v11 ((),true,())) (v11 ((),decide (2<v3.2.1),()))))) v1 ((),0,()))
def F108(n:Nat):Fb 108:=fb n [⟨_,F147 n⟩,⟨_,F171 n⟩,⟨_,F172 n⟩] [41] [] [] Tryz.func108 Tryz.results108 Tryz.ntmps108 (sn_ (.seq (rn_ [5]) (sn_ (.seq (sn_ (bk_ ⟨[],[.val 6 y2],[0,1,5]⟩ .nop)) (.seq (.seq (rs_ ⟨[],[.val 37 y4],[5]⟩ []) .nop) .nop))))) [(y28,.ro),(y2,.ro)] A20 [] [] (NQ n)
def p58(v1:Nat)(v2:T61):T26:=Bd (60<(v2.1.length:Int)) (some (((v2.1.length:Int),6,()),())) (aD (λ(v3:T4)=>λv4=>Bd (v3.2.1<(v2.1.length:Int)) (ah (NQ v1 (v2.1,v3.2.1,())) (λ(v5:T7)=>bif !(decide (v5.1.1=0))then some ((v3.2.1,v5.1.1,()),())else v4 ((),Wi (v3.2.1+1),()))) (some (((v2.1.length:Int),0,()),()))) v1 ((),0,()))
def F58(n:Nat):Fb 58:=fb n [⟨_,F108 n⟩] [] [] [] Tryz.func58 Tryz.results58 Tryz.ntmps58 (sn_ (sn_ (.seq (sn_ (bk_ ⟨[],[.val 4 y2],[0]⟩ .nop)) .nop))) [(y28,.ro)] A13 [] [] (p58 n)
def p78(v1:Nat)(v2:yl):T14:=Ld v2.1.2.1 v2.2.1 λv3=>ah (Hd v1 (v3,())) (λ(v4:T9)=>bif !v4.1.1 then some ((8,()),())else aD (λ(v5:T4)=>λv6=>Bd (v5.2.1<v2.2.1) (Ld v2.1.2.1 v5.2.1 λv7=>Ld v2.1.2.1 v2.2.1 λv8=>Bd (v7=v8) (some ((9,()),())) (v6 ((),Wi (v5.2.1+1),()))) (aD (λ(v9:T4)=>λv10=>Bd (v9.2.1<(v2.1.1.length:Int)) (Ld v2.1.1 v9.2.1 λv11=>Ld v2.1.2.1 v2.2.1 λv12=>Bd (v11.1=v12) (some ((9,()),())) (v10 ((),Wi (v9.2.1+1),()))) (some ((0,()),()))) v1 ((),0,()))) v1 ((),0,()))
def F78(n:Nat):Fb 78:=fb n [⟨_,F147 n⟩] [] [] [] Tryz.func78 Tryz.results78 Tryz.ntmps78 (.seq (rn_ [2]) (sn_ (.seq (sn_ (bk_ ⟨[],[.val 5 y2],[1,2]⟩ .nop)) (.seq (sn_ (bk_ ⟨[],[.val 6 y2],[1,2]⟩ .nop)) .nop)))) A11 A20 [] [] (p78 n)
def He(v1:Nat)(v2:TU):T16:=bif v2.2.1.1 then av (λ(v3:T5)=>some ((v3.2.1,()),())) (λv4=>Bd (0<=v2.2.1.2) (v4 ((),decide (v2.2.1.2<(v2.1.2.1.length:Int)),())) (v4 ((),false,())))else av (λ(v5:T5)=>some ((v5.2.1,()),())) (λv6=>Bd (0<=v2.2.1.2) (Bd (v2.2.1.2<(v2.1.1.length:Int)) (Ld v2.1.1 v2.2.1.2 λv7=>v6 ((),decide (v7.2.1=0),())) (v6 ((),false,()))) (v6 ((),false,())))
def F148(n:Nat):Fb 148:=fb n [] [] [] [] Tryz.func148 Tryz.results148 Tryz.ntmps148 (.seq (rn_ [2,3]) (.seq (sn_ (.cond none (.seq (rs_ ⟨[],[.val 4 y4],[]⟩ []) .nop) .nop)) (.seq (rs_ ⟨[],[.val 4 y4],[]⟩ []) .nop))) [(y32,.ro),(y62,.ro)] A19 [] [] (He n)
def NR(v1:Nat)(v2:T81):T16:=av (λ(v3:T5)=>some ((v3.2.1,()),())) (λv4=>Bd ((v2.1.2.2.1.length:Int)=3) (if(0:Int)<=(0:Int)then(match v2.1.2.2.1[(0:Int).toNat]? with|some v5=>bif !v5.1 then if(0:Int)<=(1:Int)then(match v2.1.2.2.1[(1:Int).toNat]? with|some v6=>bif v6.1 then if(0:Int)<=(1:Int)then(match v2.1.2.2.1[(1:Int).toNat]? with|some v7=>Bd (v7.2=v2.1.1) (if(0:Int)<=(2:Int)then(match v2.1.2.2.1[(2:Int).toNat]? with|some v8=>v4 ((),!v8.1,())|none=>none)else none) (v4 ((),false,()))|none=>none)else none else v4 ((),false,())|none=>none)else none else v4 ((),false,())|none=>none)else none) (v4 ((),false,())))
def F149(n:Nat):Fb 149:=fb n [] [] [] [] Tryz.func149 Tryz.results149 Tryz.ntmps149 (.seq (rn_ [1]) (.seq (rs_ ⟨[],[.val 2 y4],[]⟩ []) .nop)) [(y78,.ro)] A19 [] [] (NR n)
def p79(v1:Nat)(v2:yl):T14:=Ld v2.1.2.2.1 v2.2.1 λv3=>av (λ(v4:T5)=>bif v4.2.1 then some ((11,()),())else ah (Hd v1 (v3.2.1,())) (λ(v5:T9)=>bif !v5.1.1 then some ((8,()),())else Bd (12<(v3.2.2.1.length:Int)) (some ((6,()),())) (bif !(decide ((v3.2.2.2.2.2.length:Int)=(if 0<(Wi ((v3.2.2.1.length:Int)-1))then Wi ((v3.2.2.1.length:Int)-1)else(0:Int))))then some ((1,()),())else aD (λ(v6:T4)=>λv7=>Bd (v6.2.1<v2.2.1) (Ld v2.1.2.2.1 v6.2.1 λv8=>Bd (v8.2.1=v3.2.1) (some ((9,()),())) (v7 ((),Wi (v6.2.1+1),()))) (aD (λ(v9:T4)=>λv10=>Bd (v9.2.1<(v3.2.2.1.length:Int)) (Ld v3.2.2.1 v9.2.1 λv11=>ah (He v1 (v2.1,v11,())) (λ(v12:T9)=>bif !v12.1.1 then some ((11,()),())else v10 ((),Wi (v9.2.1+1),()))) (aD (λ(v13:T4)=>λv14=>Bd (v13.2.1<(v3.2.2.2.2.2.length:Int)) (av (λ(v15:T5)=>bif v15.2.1 then some ((1,()),())else v14 ((),Wi (v13.2.1+1),())) (λv16=>Ld v3.2.2.2.2.2 v13.2.1 λv17=>Bd (v17<0) (v16 ((),true,())) (Ld v3.2.2.2.2.2 v13.2.1 λv18=>v16 ((),decide (3<v18),())))) (av (λ(v19:T5)=>bif v19.2.1 then some ((11,()),())else av (λ(v20:T5)=>bif v20.2.1 then some ((15,()),())else some ((0,()),())) (λv21=>bif v3.2.2.2.1 then ah (NR v1 (v3,())) (λ(v22:T9)=>v21 ((),!v22.1.1,()))else v21 ((),false,()))) (λv23=>bif !(decide (v3.2.2.2.2.1=(-1)))then ah (He v1 (v2.1,(false,v3.2.2.2.2.1),())) (λ(v24:T9)=>v23 ((),!v24.1.1,()))else v23 ((),false,())))) v1 ((),0,()))) v1 ((),0,()))) v1 ((),0,())))) (λv25=>Bd (v3.1<0) (v25 ((),true,())) (v25 ((),decide ((v2.1.2.1.length:Int)<=v3.1),())))
def F79(n:Nat):Fb 79:=fb n [⟨_,F147 n⟩,⟨_,F148 n⟩,⟨_,F149 n⟩] [] [] [] Tryz.func79 Tryz.results79 Tryz.ntmps79 (.seq (rn_ [2]) (.seq (rn_ [5]) (.seq (.seq (rs_ ⟨[],[.val 24 y4],[1,2,5]⟩ []) .nop) (sn_ (sn_ (sn_ (.seq (sn_ (bk_ ⟨[],[.val 6 y2],[1,2,5]⟩ .nop)) (.seq (sn_ (bk_ ⟨[],[.val 7 y2],[2,5]⟩ .nop)) (.seq (sn_ (bk_ ⟨[],[.val 8 y2],[2,5]⟩ (sn_ (.seq (.block none (.seq (rs_ ⟨[],[.val 91 y4],[2,5,8]⟩ []) .nop)) .nop)))) (.seq (.seq (rs_ ⟨[],[.val 102 y4],[5]⟩ []) .nop) (.seq (.seq (rs_ ⟨[],[.val 109 y4],[]⟩ []) .nop) .nop))))))))))) A11 A20 [] [] (p79 n)
def NS(v1:Nat)(v2:TS):T16:=aD (λ(v3:T4)=>λv4=>Bd (v3.2.1<=v2.2.1) (aD (λ(v5:T4)=>λv6=>Ld v2.1.2.2.2.1 v3.2.1 λv7=>Bd (v5.2.1<(v7.2.length:Int)) (av (λ(v8:T5)=>bif v8.2.1 then some ((false,()),())else Ld v2.1.2.2.2.1 v3.2.1 λv9=>Ld v9.2 v5.2.1 λv10=>Ld v2.1.2.2.2.1 v2.2.1 λv11=>Ld v11.2 v2.2.2.1 λv12=>Bd (v10=v12) (some ((true,()),())) (v6 ((),Wi (v5.2.1+1),()))) (λv13=>Bd (v3.2.1=v2.2.1) (v13 ((),decide (v2.2.2.1<=v5.2.1),())) (v13 ((),false,())))) (v4 ((),Wi (v3.2.1+1),()))) v1 ((),0,())) (some ((false,()),()))) v1 ((),0,())
def F150(n:Nat):Fb 150:=fb n [] [] [] [] Tryz.func150 Tryz.results150 Tryz.ntmps150 (.seq (rn_ [3]) (.seq (sn_ (bk_ ⟨[],[.val 7 y2],[1,2,3]⟩ (sn_ (.seq (.block none (sn_ (bk_ ⟨[],[.val 8 y2],[1,2,3,7]⟩ (sn_ (.seq (.block none (.seq (.seq (rs_ ⟨[],[.val 32 y4],[1,2,3,7,8]⟩ []) .nop) .nop)) .nop))))) .nop)))) .nop)) [(y32,.ro),(y2,.ro),(y2,.ro)] A19 [] [] (NS n)
def p80(v1:Nat)(v2:yl):T14:=Ld v2.1.2.2.2.1 v2.2.1 λv3=>av (λ(v4:T5)=>bif v4.2.1 then some ((1,()),())else aD (λ(v5:T4)=>λv6=>Bd (v5.2.1<(v3.2.length:Int)) (Ld v3.2 v5.2.1 λv7=>ah (He v1 (v2.1,(false,v7),())) (λ(v8:T9)=>bif !v8.1.1 then some ((11,()),())else ah (NS v1 (v2.1,v2.2.1,v5.2.1,())) (λ(v9:T9)=>bif v9.1.1 then some ((9,()),())else v6 ((),Wi (v5.2.1+1),())))) (some ((0,()),()))) v1 ((),0,())) (λv10=>Bd (v3.1<1) (v10 ((),true,())) (Bd (3<v3.1) (v10 ((),true,())) (Bd ((v3.2.length:Int)=0) (v10 ((),true,())) (v10 ((),decide (60<=v2.2.1),())))))
def F80(n:Nat):Fb 80:=fb n [⟨_,F148 n⟩,⟨_,F150 n⟩] [] [] [] Tryz.func80 Tryz.results80 Tryz.ntmps80 (.seq (rn_ [2]) (.seq (rn_ [5]) (.seq (.seq (rs_ ⟨[],[.val 29 y4],[1,2,5]⟩ []) .nop) (.seq (sn_ (bk_ ⟨[],[.val 6 y2],[1,2,5]⟩ .nop)) .nop)))) A11 A20 [] [] (p80 n)
def p37(v1:Nat)(v2:pu):Option ((Int×Int×Int×Unit)×Unit):=ah (p58 v1 (v2.1.1,())) (λ(v3:T12)=>bif !(decide (v3.1.2.1=0))then some ((v3.1.2.1,1,v3.1.1,()),())else Bd (300<(v2.1.2.1.length:Int)) (some ((6,2,(v2.1.2.1.length:Int),()),())) (aD (λ(v4:T4)=>λv5=>Bd (v4.2.1<(v2.1.2.1.length:Int)) (ah (p78 v1 (v2.1,v4.2.1,())) (λ(v6:T7)=>bif !(decide (v6.1.1=0))then some ((v6.1.1,2,v4.2.1,()),())else v5 ((),Wi (v4.2.1+1),()))) (Bd (200<(v2.1.2.2.1.length:Int)) (some ((6,3,(v2.1.2.2.1.length:Int),()),())) (aD (λ(v7:T4)=>λv8=>Bd (v7.2.1<(v2.1.2.2.1.length:Int)) (ah (p79 v1 (v2.1,v7.2.1,())) (λ(v9:T7)=>bif !(decide (v9.1.1=0))then some ((v9.1.1,3,v7.2.1,()),())else v8 ((),Wi (v7.2.1+1),()))) (aD (λ(v10:T4)=>λv11=>Bd (v10.2.1<(v2.1.2.2.2.1.length:Int)) (ah (p80 v1 (v2.1,v10.2.1,())) (λ(v12:T7)=>bif !(decide (v12.1.1=0))then some ((v12.1.1,4,v10.2.1,()),())else v11 ((),Wi (v10.2.1+1),()))) (av (λ(v13:T5)=>bif v13.2.1 then some ((11,5,0,()),())else some ((0,0,0,()),())) (λv14=>Bd (v2.1.2.2.2.2<0) (v14 ((),true,())) (v14 ((),decide ((v2.1.2.1.length:Int)<=v2.1.2.2.2.2),()))))) v1 ((),0,()))) v1 ((),0,())))) v1 ((),0,())))
def F37(n:Nat):Fb 37:=fb n [⟨_,F58 n⟩,⟨_,F78 n⟩,⟨_,F79 n⟩,⟨_,F80 n⟩] [] [] [] Tryz.func37 Tryz.results37 Tryz.ntmps37 (.seq (rn_ [1]) (sn_ (sn_ (.seq (sn_ (bk_ ⟨[],[.val 7 y2],[1]⟩ .nop)) (sn_ (.seq (sn_ (bk_ ⟨[],[.val 9 y2],[1]⟩ .nop)) (.seq (sn_ (bk_ ⟨[],[.val 11 y2],[1]⟩ .nop)) (.seq (.seq (rs_ ⟨[],[.val 89 y4],[]⟩ []) .nop) .nop)))))))) A17 [(y2,.ro),(y2,.ro),(y2,.ro)] [] [] (p37 n)
def p57(v1:Nat)(v2:T61):T16:=Bd (20<(v2.1.length:Int)) (some ((false,()),())) (aD (λ(v3:T4)=>λv4=>Bd (v3.2.1<(v2.1.length:Int)) (av (λ(v5:T5)=>bif v5.2.1 then some ((false,()),())else v4 ((),Wi (v3.2.1+1),())) (λv6=>Ld v2.1 v3.2.1 λv7=>Bd (40<(v7.2.2.length:Int)) (v6 ((),true,())) (Ld v2.1 v3.2.1 λv8=>v6 ((),decide (100<(v8.1.length:Int)),())))) (some ((true,()),()))) v1 ((),0,()))
def F57(n:Nat):Fb 57:=fb n [] [] [] [] Tryz.func57 Tryz.results57 Tryz.ntmps57 (sn_ (sn_ (.seq (sn_ (bk_ ⟨[],[.val 3 y2],[0]⟩ (sn_ (.seq (.block none (.seq (rs_ ⟨[],[.val 28 y4],[0,3]⟩ []) .nop)) .nop)))) .nop))) [(y28,.ro)] A19 [] [] (p57 n)
def p35(v1:Nat)(v2:pu):T16:=av (λ(v3:T5)=>bif v3.2.1 then some ((false,()),())else aD (λ(v4:T4)=>λv5=>Bd (v4.2.1<(v2.1.2.1.length:Int)) (Ld v2.1.2.1 v4.2.1 λv6=>Bd (100<(v6.length:Int)) (some ((false,()),())) (v5 ((),Wi (v4.2.1+1),()))) (aD (λ(v7:T4)=>λv8=>Bd (v7.2.1<(v2.1.2.2.1.length:Int)) (av (λ(v9:T5)=>bif v9.2.1 then some ((false,()),())else v8 ((),Wi (v7.2.1+1),())) (λv10=>Ld v2.1.2.2.1 v7.2.1 λv11=>Bd (20<(v11.2.2.1.length:Int)) (v10 ((),true,())) (Ld v2.1.2.2.1 v7.2.1 λv12=>Bd (20<(v12.2.2.2.2.2.length:Int)) (v10 ((),true,())) (Ld v2.1.2.2.1 v7.2.1 λv13=>v10 ((),decide (100<(v13.2.1.length:Int)),()))))) (aD (λ(v14:T4)=>λv15=>Bd (v14.2.1<(v2.1.2.2.2.1.length:Int)) (Ld v2.1.2.2.2.1 v14.2.1 λv16=>Bd (20<(v16.2.length:Int)) (some ((false,()),())) (v15 ((),Wi (v14.2.1+1),()))) (some ((true,()),()))) v1 ((),0,()))) v1 ((),0,()))) v1 ((),0,())) (λv17=>ah (p57 v1 (v2.1.1,())) (λ(v18:T9)=>bif !v18.1.1 then v17 ((),true,())else Bd (20<(v2.1.2.1.length:Int)) (v17 ((),true,())) (Bd (40<(v2.1.2.2.1.length:Int)) (v17 ((),true,())) (v17 ((),decide (20<(v2.1.2.2.2.1.length:Int)),())))))
def F35(n:Nat):Fb 35:=fb n [⟨_,F57 n⟩] [] [] [] Tryz.func35 Tryz.results35 Tryz.ntmps35 (.seq (rn_ [1]) (.seq (.seq (rs_ ⟨[],[.val 27 y4],[1]⟩ []) .nop) (.seq (sn_ (bk_ ⟨[],[.val 3 y2],[1]⟩ .nop)) (.seq (sn_ (bk_ ⟨[],[.val 4 y2],[1]⟩ (sn_ (.seq (.block none (.seq (rs_ ⟨[],[.val 76 y4],[1,4]⟩ []) .nop)) .nop)))) (.seq (sn_ (bk_ ⟨[],[.val 5 y2],[1]⟩ .nop)) .nop))))) A17 A19 [] [] (p35 n)
end
noncomputable section
def Hf(v1:Nat)(v2:T1):T14:=av (λ(v3:T5)=>bif v3.2.1 then some ((0,()),())else if(IntKind.wrap .u64 v2.1)<0 then none else some ((IntKind.wrap .u64 ((1:Int)*2 ^ (Nat.min (Int.toNat (IntKind.wrap .u64 v2.1)) (IntKind.bits .u64))),()),())) (λv4=>Bd (v2.1<0) (v4 ((),true,())) (v4 ((),decide (63<v2.1),())))
def F100(n:Nat):Fb 100:=fb n [] [] [] [] Tryz.func100 Tryz.results100 Tryz.ntmps100 (sn_ (.seq (.seq (rs_ ⟨[],[.val 8 y4],[0]⟩ []) .nop) .nop)) A20 A18 [] [] (Hf n)
def p93(v1:Nat)(v2:(U28×U17×Unit)):T31:=aD (λ(v3:T10)=>λv4=>Bd (v3.2.2.1<(v2.2.1.length:Int)) (Ld v2.2.1 v3.2.2.1 λv5=>bif !v5.1 then ah (Hf v1 (v5.2,())) (λ(v6:T7)=>some ((dK .or .u64 v3.2.1 v6.1.1,false,()),()))else av (λ(v7:T5)=>bif v7.2.1 then some ((v3.2.1,false,()),())else Ld v2.1.2 v5.2 λv8=>Ld v2.1.1 v5.2 λv9=>bif !v9 then some ((dK .or .u64 v3.2.1 v8,false,()),())else v4 ((),dK .or .u64 v3.2.1 v8,Wi (v3.2.2.1+1),())) (λv10=>Bd (v5.2<0) (v10 ((),true,())) (Bd ((v2.1.1.length:Int)<=v5.2) (v10 ((),true,())) (v10 ((),decide ((v2.1.2.length:Int)<=v5.2),()))))) (some ((v3.2.1,true,()),()))) v1 ((),0,0,())
def F93(n:Nat):Fb 93:=fb n [⟨_,F100 n⟩] [] [] [] Tryz.func93 Tryz.results93 Tryz.ntmps93 (.seq (rn_ [2]) (sn_ (.seq (sn_ (bk_ ⟨[],[.val 6 y12,.val 11 y2],[2,9,10]⟩ (sn_ (sn_ (.seq (.block none (.seq (rn_ [8]) (.seq (.block none (sn_ (.cond none .nop (.seq (rs_ ⟨[],[.val 24 y4],[2,6,8,9,10,11]⟩ []) .nop)))) .nop))) .nop))))) .nop))) [(CR,.ro),(y77,.ro)] A12 [] [] (p93 n)
def p44(v1:Nat)(v2:pu):Option ((U28×Unit)×Unit):=if 0<=(v2.1.2.1.length:Int)/\(v2.1.2.1.length:Int)<=(v2.1.2.1.length:Int)then if(v2.1.2.1.length:Int).toNat*1<=140737488355328 then if 0<=(v2.1.2.1.length:Int)/\(v2.1.2.1.length:Int)<=(v2.1.2.1.length:Int)then if(v2.1.2.1.length:Int).toNat*8<=140737488355328 then aD (λ(v3:T87)=>λv4=>bif v3.2.1 then aD (λ(v5:((U28×U28×Unit)×Bool×Int×Unit))=>λv6=>Bd (v5.2.2.1<(v2.1.2.2.1.length:Int)) (av (λ(v7:T87)=>v6 ((v7.1.1,v7.1.2.1,()),v7.2.1,Wi (v5.2.2.1+1),())) (λv8=>Ld v2.1.2.2.1 v5.2.2.1 λv9=>av (λ(v10:T87)=>bif v10.2.1 then v8 ((v10.1.1,v10.1.2.1,()),v5.2.1,())else ah (p93 v1 (v10.1.2.1,v9.2.2.1,())) (λ(v11:T13)=>av (λ(v12:T87)=>av (λ(v13:T87)=>v8 ((v13.1.1,v13.1.2.1,()),v13.2.1,())) (λv14=>bif v12.2.1 then Ld v12.1.2.1.2 v9.1 λv15=>Ld v12.1.2.1.2 v9.1 λv16=>Ld v12.1.2.1.2 v9.1 λv17=>av (λ(v18:((U28×U28×Unit)×Unit))=>v14 ((v18.1.1,v18.1.2.1,()),true,())) (λv19=>Ld v12.1.2.1.1 v9.1 λv20=>bif v20 then Ld v12.1.2.1.1 v9.1 λv21=>Ld v12.1.2.1.1 v9.1 λv22=>v19 ((v12.1.1,(List.set v12.1.2.1.1 (v9.1).toNat true,List.set v12.1.2.1.2 (v9.1).toNat (dK .or .u64 v15 v11.1.1)),()),())else Ld v12.1.2.1.1 v9.1 λv23=>Ld v12.1.2.1.1 v9.1 λv24=>v19 ((v12.1.1,(List.set v12.1.2.1.1 (v9.1).toNat v11.1.2.1,List.set v12.1.2.1.2 (v9.1).toNat (dK .or .u64 v15 v11.1.1)),()),()))else v14 ((v12.1.1,v12.1.2.1,()),v5.2.1,()))) (λv25=>Ld v10.1.2.1.2 v9.1 λv26=>Ld v10.1.2.1.2 v9.1 λv27=>bif !(decide ((dK .or .u64 v26 v11.1.1)=v27))then v25 ((v10.1.1,v10.1.2.1,()),true,())else bif v11.1.2.1 then Ld v10.1.2.1.1 v9.1 λv28=>v25 ((v10.1.1,v10.1.2.1,()),!v28,())else v25 ((v10.1.1,v10.1.2.1,()),false,())))) (λv29=>Bd (v9.1<0) (v29 ((v5.1.1,v5.1.2.1,()),true,())) (v29 ((v5.1.1,v5.1.2.1,()),decide ((v2.1.2.1.length:Int)<=v9.1),()))))) (v4 ((v5.1.1,v5.1.2.1,()),v5.2.1,()))) v1 ((v3.1.1,v3.1.2.1,()),false,0,())else some ((v3.1.2.1,()),())) v1 (((([]:List Bool),([]:List Int)),(List.replicate (v2.1.2.1.length:Int).toNat false,List.replicate (v2.1.2.1.length:Int).toNat (0:Int)),()),true,())else none else none else none else none
def F44(n:Nat):Fb 44:=fb n [⟨_,F93 n⟩] [17] [] [] Tryz.func44 Tryz.results44 Tryz.ntmps44 (.seq (rn_ [1]) (sn_ (.seq (sn_ (bk_ ⟨Q4_,[.val 4 y4],[1,2,3]⟩ (sn_ (.block none (sn_ (sn_ (bk_ ⟨Q4_,[.val 4 y4,.val 22 y2],[1,2,3,20,21]⟩ (sn_ (sn_ (.seq (.block (some ⟨Q4_,[.val 4 y4],[1,2,3,20,21,22]⟩) (.seq (rn_ [6]) (.seq (.seq (rs_ ⟨Q4_,[.val 36 y4],[1,2,3,4,6,20,21,22]⟩ []) .nop) (sn_ (.seq (rs_ ⟨Q4_,[.val 70 y4],[1,2,3,4,6,7,8,20,21,22]⟩ []) (cs_ ⟨Q4_,[.val 4 y4],[1,2,3,20,21,22]⟩ (sn_ (.seq (rs_ ⟨Q4_,[],[1,2,3,20,21,22]⟩ []) .nop)) .nop)))))) .nop)))))))))) (.seq (.rgf none [3] [2]) .nop)))) A17 [(CR,.ro)] [] [] (p44 n)
def p46(v1:Nat)(v2:T24):T33:=if(0:Int)<=(0:Int)/\(0:Int)<=(Wi ((12:Int)*(v2.1.length:Int)))then if(Wi ((12:Int)*(v2.1.length:Int))).toNat*1<=140737488355328 then aD (λ(v3:T19)=>λv4=>Bd (v3.2.2.1<(v2.1.length:Int)) (Ld v2.1 v3.2.2.1 λv5=>if(8:Int)<0 then none else if(8:Int)<0 then none else Ap 1 (List.length v3.2.1+List.length ([(IntKind.wrap .u8 (Int.fdiv v5.1 (2 ^ (Nat.min (Int.toNat (8:Int)) (IntKind.bits .i64))))),(IntKind.wrap .u8 v5.1),(IntKind.wrap .u8 (Int.fdiv v5.2.1 (2 ^ (Nat.min (Int.toNat (8:Int)) (IntKind.bits .i64))))),(IntKind.wrap .u8 v5.2.1)]:List Int)) (aD (λ(v6:T19)=>λv7=>Bd (v6.2.2.1<8) (if(IntKind.wrap .u64 (Wi ((8:Int)*v6.2.2.1)))<0 then none else Ap 1 (List.length v6.2.1+List.length ([(IntKind.wrap .u8 (Int.fdiv v5.2.2 (2 ^ (Nat.min (Int.toNat (IntKind.wrap .u64 (Wi ((8:Int)*v6.2.2.1)))) (IntKind.bits .u64)))))]:List Int)) (v7 ((),v6.2.1++([(IntKind.wrap .u8 (Int.fdiv v5.2.2 (2 ^ (Nat.min (Int.toNat (IntKind.wrap .u64 (Wi ((8:Int)*v6.2.2.1)))) (IntKind.bits .u64)))))]:List Int),Wi (v6.2.2.1+1),()))) (v4 ((),v6.2.1,Wi (v3.2.2.1+1),()))) v1 ((),v3.2.1++([(IntKind.wrap .u8 (Int.fdiv v5.1 (2 ^ (Nat.min (Int.toNat (8:Int)) (IntKind.bits .i64))))),(IntKind.wrap .u8 v5.1),(IntKind.wrap .u8 (Int.fdiv v5.2.1 (2 ^ (Nat.min (Int.toNat (8:Int)) (IntKind.bits .i64))))),(IntKind.wrap .u8 v5.2.1)]:List Int),0,()))) (some ((v3.2.1,()),()))) v1 ((),List.replicate (0:Int).toNat (0:Int),0,())else none else none
def F46(n:Nat):Fb 46:=fb n [] [] [] [] Tryz.func46 Tryz.results46 Tryz.ntmps46 (sn_ (sn_ (.seq (sn_ (bk_ ⟨[],[.hdr 3 31 wq mo_,.val 13 y2],[11,12]⟩ (sn_ (sn_ (.seq (.block none (.seq (rn_ [5]) (sn_ (sn_ (bk_ ⟨[],[.hdr 3 31 wq mo_,.val 34 y2],[5,11,12,13]⟩ .nop))))) .nop))))) .nop))) A16 A21 [] [] (p46 n)
def p45(v1:Nat)(v2:(U3×U19×U8×Unit)):Option (U24×U19×U8×Unit):=ah (p46 v1 (v2.1,())) (λ(v3:T15)=>av (λ(v4:((U19×U8×Unit)×Int×Unit))=>some ((v4.2.1,()),v4.1.1,v4.1.2.1,())) (λv5=>bif !(e7 (λ(v6:T0)=>λ(v7:T0)=>decide (v6=v7)) v3.1.1 v2.2.1)then Ap 24 (List.length v2.2.2.1.1+List.length ([v2.1]:List U3)) (v5 ((eW (λ(v8:T0)=>λ(v9:T0)=>decide (v8=v9)) v3.1.1 (v2.2.2.1.1.length:Int) v2.2.1,(v2.2.2.1.1++([v2.1]:List U3),v2.2.2.1.2),()),(v2.2.2.1.1.length:Int),()))else v5 ((v2.2.1,v2.2.2.1,()),cY (λ(v10:T0)=>λ(v11:T0)=>decide (v10=v11)) v3.1.1 v2.2.1,())))
def F45(n:Nat):Fb 45:=fb n [⟨_,F46 n⟩] [] [] [] Tryz.func45 Tryz.results45 Tryz.ntmps45 (sn_ (sn_ (sn_ (.seq (sn_ (cs_ ⟨[(14,.box wo,.own mo_),(22,.box y43,.own Q0_)],[.val 6 y2],[1,2]⟩ .nop .nop)) .nop)))) [(fx,.ro),(.box wo,.own mo_),(.box y43,.own Q0_)] A20 [1,2] [(.box wo,.own mo_),(.box y43,.own Q0_)] (p45 n)
def JL(v1:Nat)(v2:T1):T16:=some ((!(decide (v2.1=v2.1)),()),())
def F229(n:Nat):Fb 229:=fb n [] [] [] [] Tryz.func229 Tryz.results229 Tryz.ntmps229 (.nop) A20 A19 [] [] (JL n)
def JM(v1:Nat)(v2:T3):T14:=ah (JL v1 (v2.1,())) (λ(v3:T9)=>ah (JL v1 (v2.2.1,())) (λ(v4:T9)=>bif v3.1.1 then bif v4.1.1 then some ((0,()),())else some ((-1,()),())else bif v4.1.1 then some ((1,()),())else Bd (v2.1<v2.2.1) (some ((-1,()),())) (Bd (v2.2.1<v2.1) (some ((1,()),())) (some ((0,()),())))))
def F203(n:Nat):Fb 203:=fb n [⟨_,F229 n⟩] [] [] [] Tryz.func203 Tryz.results203 Tryz.ntmps203 (.nop) A13 A20 [] [] (JM n)
def JN(v1:Nat)(v2:(U9×U9×Unit)):T14:=bif !(decide (v2.1.1=v2.2.1.1))then ah (JM v1 (v2.1.1,v2.2.1.1,())) (λ(v3:T7)=>some ((v3.1.1,()),()))else ah (JM v1 (v2.1.2.1,v2.2.1.2.1,())) (λ(v4:T7)=>some ((v4.1.1,()),()))
def F164(n:Nat):Fb 164:=fb n [⟨_,F203 n⟩] [] [] [] Tryz.func164 Tryz.results164 Tryz.ntmps164 (.seq (rn_ [2,3]) .nop) [(CQ,.ro),(CQ,.ro)] A20 [] [] (JN n)
def NT(v1:Nat)(v2:(U3×U9×Unit×Unit)):T31:=aD (λ(v3:T10)=>λv4=>Bd (v3.2.1<v3.2.2.1) (if(1:Int)<0 then none else if 0<=(Wi (Int.fdiv (IntKind.wrap .u64 (Wi (v3.2.1+v3.2.2.1))) (2 ^ (Nat.min (Int.toNat (1:Int)) (IntKind.bits .u64)))))then(match v2.1[(Wi (Int.fdiv (IntKind.wrap .u64 (Wi (v3.2.1+v3.2.2.1))) (2 ^ (Nat.min (Int.toNat (1:Int)) (IntKind.bits .u64))))).toNat]? with|some v5=>ah (JN v1 (v5,v2.2.1,())) (λ(v6:T7)=>av (λ(v7:T10)=>v4 ((),v7.2.1,v7.2.2.1,())) (λv8=>Bd (v6.1.1<0) (v8 ((),Wi ((Wi (Int.fdiv (IntKind.wrap .u64 (Wi (v3.2.1+v3.2.2.1))) (2 ^ (Nat.min (Int.toNat (1:Int)) (IntKind.bits .u64)))))+1),v3.2.2.1,())) (v8 ((),v3.2.1,Wi (Int.fdiv (IntKind.wrap .u64 (Wi (v3.2.1+v3.2.2.1))) (2 ^ (Nat.min (Int.toNat (1:Int)) (IntKind.bits .u64)))),()))))|none=>none)else none) (av (λ(v9:(Unit×Int×Bool×Unit))=>some ((v9.2.1,v9.2.2.1,()),())) (λv10=>Bd (v3.2.1<(v2.1.length:Int)) (Ld v2.1 v3.2.1 λv11=>ah (JN v1 (v11,v2.2.1,())) (λ(v12:T7)=>v10 ((),v3.2.1,decide (v12.1.1=0),()))) (v10 ((),v3.2.1,false,()))))) v1 ((),0,(v2.1.length:Int),())
def F163(n:Nat):Fb 163:=fb n [⟨_,F164 n⟩] [] [] [] Tryz.func163 Tryz.results163 Tryz.ntmps163 (.seq (rn_ [4]) (sn_ (sn_ (.seq (bk_ ⟨[],[.val 9 y2,.val 10 y2],[0,2,4,8]⟩ (sn_ (.block none (sn_ (sn_ (cs_ ⟨[],[.val 9 y2,.val 10 y2],[0,2,4,8]⟩ .nop .nop)))))) (.seq (rs_ ⟨[],[.val 6 y2,.val 7 y4],[]⟩ []) .nop))))) [(fx,.ro),(CQ,.ro),(.fn 164,.ro)] [(y2,.ro),(y4,.ro)] [] [] (NT n)
def p96(v1:Nat)(v2:(U16×Int×Int×Unit)):Option (Unit×U16×Unit):=aD (λ(v3:((U16×Unit)×Int×Unit))=>λv4=>Bd (v3.2.1<(v2.1.1.2.2.1.length:Int)) (av (λ(v5:Q7)=>v4 ((v5.1.1,()),Wi (v3.2.1+1),())) (λv6=>Ld v2.1.1.2.2.1 v3.2.1 λv7=>av (λ(v8:TZ)=>bif v8.2.1 then v6 ((v8.1.1,()),())else Ld v8.1.1.2.2.1 v3.2.1 λv9=>Ld v8.1.1.2.2.1 v3.2.1 λv10=>Ld v8.1.1.2.2.2.1 v3.2.1 λv11=>Ld v8.1.1.2.2.2.1 v3.2.1 λv12=>Ld v8.1.1.2.2.2.1 v3.2.1 λv13=>if 0<=v3.2.1 then(match(List.set v8.1.1.2.2.2.1 (v3.2.1).toNat (dK .or .u64 v11 v2.2.2.1))[(v3.2.1).toNat]? with|some v14=>Ap 24 (List.length v8.1.1.2.2.2.2+List.length ([(v3.2.1,0,v14)]:List U9)) (v6 (((v8.1.1.1,v8.1.1.2.1,List.set v8.1.1.2.2.1 (v3.2.1).toNat true,List.set v8.1.1.2.2.2.1 (v3.2.1).toNat (dK .or .u64 v11 v2.2.2.1),v8.1.1.2.2.2.2++([(v3.2.1,0,v14)]:List U9)),()),()))|none=>none)else none) (λv15=>bif !(decide (v7.1=v2.2.1))then v15 ((v3.1.1,()),true,())else Ld v3.1.1.2.2.1 v3.2.1 λv16=>bif v16 then Ld v3.1.1.2.2.2.1 v3.2.1 λv17=>Ld v3.1.1.2.2.2.1 v3.2.1 λv18=>v15 ((v3.1.1,()),decide ((dK .or .u64 v17 v2.2.2.1)=v18),())else v15 ((v3.1.1,()),false,())))) (some ((),v3.1.1,()))) v1 ((v2.1,()),0,())
def F96(n:Nat):Fb 96:=fb n [] [] [] [] Tryz.func96 Tryz.results96 Tryz.ntmps96 (sn_ (bk_ ⟨[(6,.box CS,.own Q6_)],[.val 14 y2],[0,1,2,12,13]⟩ (sn_ (sn_ (.seq (.block (some ⟨[(6,.box CS,.own Q6_)],[],[0,1,2,12,13,14]⟩) (.seq (rn_ [7]) (.seq (.seq (rs_ ⟨[(6,.box CS,.own Q6_)],[.val 50 y4],[0,1,2,6,12,13,14]⟩ []) .nop) .nop))) .nop))))) [(.box CS,.own Q6_),(y2,.ro),(y12,.ro)] [] [0] [(.box CS,.own Q6_)] (p96 n)
def p97(v1:Nat)(v2:(U28×U17×Int×Unit)):T14:=ah (p93 v1 (v2.1,v2.2.1,())) (λ(v3:T13)=>bif v3.1.2.1 then some ((dK .or .u64 v3.1.1 v2.2.2.1,()),())else some ((v3.1.1,()),()))
def F97(n:Nat):Fb 97:=fb n [⟨_,F93 n⟩] [] [] [] Tryz.func97 Tryz.results97 Tryz.ntmps97 (.seq (rn_ [3]) .nop) [(CR,.ro),(y77,.ro),(y12,.ro)] A18 [] [] (p97 n)
def Hg(v1:Nat)(v2:yl):T66:=av (λ(v3:T5)=>bif v3.2.1 then Ld v2.1.2.2.1 v2.2.1 λv4=>some ((v4.2.2.1,true,()),())else Bd (v2.2.1=(v2.1.2.2.1.length:Int)) (some ((([(true,v2.1.2.2.2.2)]:List U5),true,()),())) (some ((([]:List U5),false,()),()))) (λv5=>Bd (0<=v2.2.1) (v5 ((),decide (v2.2.1<(v2.1.2.2.1.length:Int)),())) (v5 ((),false,())))
def F106(n:Nat):Fb 106:=fb n [] [] [] [] Tryz.func106 Tryz.results106 Tryz.ntmps106 (.seq (rn_ [2]) (.seq (.block none (.seq (rs_ ⟨[],[.val 6 y4],[1,2]⟩ []) .nop)) .nop)) A11 [(y77,.ro),(y4,.ro)] [] [] (Hg n)
def p98(v1:Nat)(v2:M9):T55:=ah (Hg v1 (v2.1,v2.2.1.1,())) (λ(v3:T53)=>av (λ(v4:T5)=>bif v4.2.1 then some ((([]:List U5),()),())else if 0<=(Wi (v2.2.1.2.1+1))/\(Wi (v2.2.1.2.1+1))<=(v3.1.1.length:Int)/\(v3.1.1.length:Int)<=(v3.1.1.length:Int)then some ((cC v3.1.1 (Wi (v2.2.1.2.1+1)) (v3.1.1.length:Int),()),())else none) (λv5=>Bd (v2.2.1.2.1<0) (v5 ((),true,())) (v5 ((),decide ((Wi ((v3.1.1.length:Int)-1))<=v2.2.1.2.1),()))))
def F98(n:Nat):Fb 98:=fb n [⟨_,F106 n⟩] [11] [] [] Tryz.func98 Tryz.results98 Tryz.ntmps98 (.seq (rn_ [2,3]) (sn_ (.seq (.seq (rs_ ⟨[],[.val 24 y4],[3,5]⟩ []) .nop) .nop))) A6 [(y77,.ro)] [] [] (p98 n)
def p48(v1:Nat)(v2:pu):T64:=ah (Hf v1 (63,())) (λ(v3:T7)=>some ((([((v2.1.2.2.1.length:Int),0,v3.1.1)]:List U9),()),()))
def F48(n:Nat):Fb 48:=fb n [⟨_,F100 n⟩] [] [] [] Tryz.func48 Tryz.results48 Tryz.ntmps48 (.seq (rn_ [1]) .nop) A17 A16 [] [] (p48 n)
def p94(v1:Nat)(v2:T24):T64:=MH (List.isEmpty v2.1) (λ(v3:Bool)=>bif v3 then some ((([]:List U9),()),())else Ap 24 (List.length ([]:List U9)+List.length v2.1) (some ((([]:List U9)++v2.1,()),())))
def F94(n:Nat):Fb 94:=fb n [] [] [] [] Tryz.func94 Tryz.results94 Tryz.ntmps94 (.nop) A16 [(fx,mo_)] [] [] (p94 n)
def NU(v1:Nat)(v2:T50):T14:=aD (λ(v3:T4)=>λv4=>Bd (v3.2.1<(v2.1.length:Int)) (Ld v2.1 v3.2.1 λv5=>bif bif v2.2.1.1 == v5.1 then decide (v2.2.1.2=v5.2)else false then some ((v3.2.1,()),())else v4 ((),Wi (v3.2.1+1),())) (some ((-1,()),()))) v1 ((),0,())
def F166(n:Nat):Fb 166:=fb n [] [] [] [⟨_,JK⟩] Tryz.func166 Tryz.results166 Tryz.ntmps166 (.seq (rn_ [3]) (.seq (sn_ (bk_ ⟨[],[.val 8 y2],[0,3,7]⟩ .nop)) .nop)) [(y77,.ro),(y62,.ro)] A20 [] [] (NU n)
def NV(v1:Nat)(v2:T50):T16:=ah (NU v1 (v2.1,v2.2.1,())) (λ(v3:T7)=>some ((decide (0<=v3.1.1),()),()))
def F101(n:Nat):Fb 101:=fb n [⟨_,F166 n⟩] [] [] [] Tryz.func101 Tryz.results101 Tryz.ntmps101 (.seq (rn_ [3]) .nop) [(y77,.ro),(y62,.ro)] A19 [] [] (NV n)
end
end Go.Proofs.YtphipehmbefejaaGreat.Rf
namespace Go.Proofs.YtphipehmbefejaaGreat.Rf
open Go Go.RowKit
noncomputable section
theorem ma{P:Program}(w:World)(dT sT ty elem:TypeId)(z b o Rn Xr:Nat)(a:Addr)(Ro Xs:Nat)(cs:List Value)
 (hu:P.underlying dT=some (.slice elem)) (hs:(P.info? elem).map (·.size)=some z) (hn:cs.length=Nat.min Ro Rn*z)
 (Qk:∀ j v,cs[j]?=some v->w.cell? (a.add j)=some v) (hc:∀ j,j<cs.length->(w.cell? ⟨b,o+j,none⟩).isSome=true) (hf:∀ j,j<cs.length->w.frozen? ⟨b,o+j,none⟩=false) (h1:∀ v∈cs,v.oneCell'=true):
 (Builtin.copy_ #[dT,sT] ty #[.slice (some ⟨b,o,none⟩) Rn Xr,.slice (some a) Ro Xs]).run P w=.ok (goInt (Nat.min Ro Rn)) (w.setCells b o cs):=by
 have hl:=run_loadCells_list (P:=P) w a cs Qk
 have hst:=run_storeCells_cells (P:=P) b o cs 0 w (by simpa using hc) (by simpa using hf) h1
 cases hq:P.info? elem with
 |none=>simp[hq]at hs
 |some i=>
  have hi:i.size=z:=by simpa [hq]using hs
  rw[hn]at hl
  simp[Builtin.copy_,run_underlying hu,Builtin.lenOf,Builtin.firstCells,sizeOf,typeInfo,hq,hi,hl,hst]
theorem gr{P:Program}(w:World){ops:Array Oper}{rest:List Oper}{o:Oper}{a:Act}{Q:Exit->Act->World->Prop}
 (hg:o.guard=none) (s x:Operand) (t tx:TypeId) (hop:o.op=Op.call {callee:=Callee.builtin Builtin.append,args:=#[s,x],argTypes:=#[t,tx]})
 (v1 v2:Value) (hs:a.eval s=v1) (hx:a.eval x=v2) (z:Value) (w':World) (bV:(Builtin.append_ #[t,tx] o.type #[v1,v2]).run P w=.ok z w')
 (hK:wpList P ops Q rest (a.put o.dst z) w'):wpList P ops Q (o::rest) a w:=by
 refine wpList_plain hg λK hK'=>?_
 unfold Oper.wp
 simp[execOp,hop,Go.resolve,invoke,builtin,hs,hx,bV,Result.andThen]
 exact hK' _ _ hK
set_option maxRecDepth 100000 in
theorem NW(ao:Option Addr)(n cap:Nat)(ad:Addr)(vc:Nat)(w:World)(hnc:n<=cap)(hn:(cap:Int)<=9223372036854775807)(hvc:1<=vc)(v:Value)(w1:World)
 (Un:(Builtin.append_ #[117,117] 117 #[.slice ao n cap,.slice (some ad) 1 vc]).run Tryz.prog w=.ok v w1):
 Calls Tryz.prog 165 #[.slice ao n cap,.int .i64 n,.slice (some ad) 1 vc] w λe w'=>e=.returned v/\w'=w1:=by
 have H:=Lib.hid Un
 clear Un
 go_enter Tryz.func165,Tryz.ntmps165
 cases ao with
 |none=>
  go_wp2_with (at_builtin;refine gr _ rfl _ _ 117 117 rfl _ _ rfl rfl _ _ H.out ?_)
  go_ret
  exact⟨rfl,rfl⟩
 |some a=>
  obtain⟨ab,aof,asp⟩:=a
  go_wp2_with (at_builtin;refine gr _ rfl _ _ 117 117 rfl _ _ rfl rfl _ _ H.out ?_)
  all_goals (go_ret;exact⟨rfl,rfl⟩)
theorem nB{P:Program}{ops:Array Oper}{o:Oper}{a:Act}{w:World}{K:Act->World->Prop}{Q:Exit->Act->World->Prop}{E:Prop}
 (hg:o.guard=none) (d x:Operand) (dT sT:TypeId) (hop:o.op=Op.call {callee:=Callee.builtin Builtin.copy,args:=#[d,x],argTypes:=#[dT,sT]})
 (v u:Value) (hd:a.eval d=v) (hx:a.eval x=u) {v':Value} {w':World} (hr:(Builtin.copy_ #[dT,sT] o.type #[v,u]).run P w=.ok v' w') (hK:K (a.put o.dst v') w'):
 if Region.wanted o (yielded ops a.tmps)=true then Oper.wp P o a w K Q else E:=by
 have hw:Region.wanted o (yielded ops a.tmps)=true:=by simp[Region.wanted,hg]
 rw[if_pos hw]
 unfold Oper.wp
 simp[execOp,hop,Go.resolve,invoke,builtin,hd,hx,hr,Result.andThen]
 exact hK
theorem iG{P:Program}(w:World){ops:Array Oper}{rest:List Oper}{o:Oper}{a:Act}{Q:Exit->Act->World->Prop}(hgd:o.guard=none)(d s:Operand)(t t':TypeId)
 (ho:o.op=.call {callee:=.builtin .copy,args:=#[d,s],argTypes:=#[t,t']}) (v u:Value) (hd:a.eval d=v) (hs:a.eval s=u) {v':Value} {w':World}
 (hr:(Builtin.copy_ #[t,t'] o.type #[v,u]).run P w=.ok v' w') (h:wpList P ops Q rest (a.put o.dst v') w'):wpList P ops Q (o::rest) a w:=
 wpList_plain hgd λ_ hK=>by
  unfold Oper.wp
  simp[execOp,ho,Go.resolve,invoke,builtin,hd,hs,hr,Result.andThen]
  exact hK _ _ h
theorem sO(b:Nat)(vs:List Value)(o:Nat)(w:World)(h:∀ j,j<vs.length->(w.cell? ⟨b,o+j,none⟩).isSome=true)(k:Nat)(hk:(w.cell? ⟨b,k,none⟩).isSome=true):((w.setCells b o vs).cell? ⟨b,k,none⟩).isSome=true:=by
 by_cases hin:o<=k/\k<o+vs.length
 ·have:=World.cell?_setCells_in b vs o w h (k-o) (by omega)
  rw[show o+(k-o)=k by omega]at this
  rw[this];rfl
 ·rw[World.cell?_setCells_out b vs o w ⟨b,k,none⟩ (λ_ _=>by show k<o\/o+vs.length<=k;omega)]
  exact hk
set_option maxHeartbeats 4000000 in
set_option maxRecDepth 100000 in
theorem Hh(b off n c i vb kG vc:Nat)(cs vs:List Value)(w:World)(hi:i<n)(o3:n+1<=c)(SS:(c:Int)<=9223372036854775807)(hvb:vb≠b)
 (hcl:cs.length=n*3) (hvl:vs.length=3)
 (hcs:∀ j v,cs[j]?=some v->w.cell? ⟨b,off+j,none⟩=some v) (hsp:∀ j,j<(n+1)*3->(w.cell? ⟨b,off+j,none⟩).isSome=true) (hfz:∀ j,j<(n+1)*3->w.frozen? ⟨b,off+j,none⟩=false)
 (hvs:∀ j v,vs[j]?=some v->w.cell? ⟨vb,kG+j,none⟩=some v) (h1c:∀ v∈cs,v.oneCell'=true) (h1v:∀ v∈vs,v.oneCell'=true)
 (tA tB:TypeId) (kA kB:Nat) (hsa:w.shape? vb=some (tA,kA)) (hsb:w.shape? b=some (tB,kB)) (hkB:kB≠0) (hfa:w.frozen? ⟨vb,kG,none⟩=false) (hfe:w.frozen? ⟨vb,kA,none⟩=false)
 (hsz:(Tryz.prog.info? 131).map (·.size)=some 3):
 Calls Tryz.prog 165 #[.slice (some ⟨b,off,none⟩) n c,.int .i64 i,.slice (some ⟨vb,kG,none⟩) 1 vc] w λe w'=>
  e=.returned (.slice (some ⟨b,off,none⟩) (n+1) c)/\w'=(w.drew.setCells b (off+(i+1)*3) (cs.drop (i*3))).setCells b (off+i*3) vs:=by
 have mixed:Tryz.prog.follows .mixedOrders=true:=by kernel_rfl
 have hz2:¬((i:Int)=(n:Int)):=by omega
 have Xt:∀ w,(Go.sizeOf 131).run Tryz.prog w=.ok 3 w:=λw=>by
  cases hq:Tryz.prog.info? 131 with
  |none=>simp[hq]at hsz
  |some q=>
   have:q.size=3:=by simpa [hq]using hsz
   simp[Go.sizeOf,typeInfo,hq,this]
 have hov:∀ lb cb,(callFunc 204 #[.slice (some ⟨vb,kG,none⟩) 1 vc,.slice (some ⟨b,off+(i+1)*3,none⟩) lb cb]).run Tryz.prog w=.ok (.value (.bool false)) w:=λlb cb=>by
  rw[run_callFunc_extern Tryz.func204 (by kernel_rfl) (by kernel_rfl) (by kernel_rfl) (e:=Extern.SlicesOverlaps.overlaps #[117,117] #[4]) (by kernel_rfl),
   Lib.run_overlaps_apart w 117 4 131 Tryz.underlying117 3 Xt ⟨vb,kG,none⟩ ⟨b,off+(i+1)*3,none⟩ 1 vc lb cb hvb tA tB kA kB hsa hsb hkB hfa hfe]
  rfl
 have hdl:(cs.drop (i*3)).length=(n-i)*3:=by rw[bB,hcl,oj]
 have hw1:IntKind.i64.wrap ((i:Int)+1)=(i:Int)+1:=by rw[IntKind.wrap_i64];omega
 have hb1:(0:Int)<=(i:Int)+1:=by omega
 have hin:i<=n:=by omega
 have htn:((i:Int)+1).toNat=i+1:=by omega
 have hb2:¬(c=i+1):=by omega
 have hb3:(i:Int)<=(n:Int)+1:=by omega
 have hb4:¬(c=i):=by omega
 have Uo:∀ ty dc sc,(Builtin.copy_ #[117,117] ty #[.slice (some ⟨b,off+(i+1)*3,none⟩) (n-i) dc,.slice (some ⟨b,off+i*3,none⟩) (n+1-i) sc]).run Tryz.prog w.drew=.ok (goInt (Nat.min (n+1-i) (n-i))) (w.drew.setCells b (off+(i+1)*3) (cs.drop (i*3))):=λty dc sc=>
  ma w.drew _ _ ty 131 3 b (off+(i+1)*3) (n-i) dc ⟨b,off+i*3,none⟩ (n+1-i) sc (cs.drop (i*3)) Tryz.underlying117 hsz (by rw[hdl];congr 1;simp only[Nat.min_def];split <;> omega)
   (λj v hj=>by rw[cW,cG];exact hcs (i*3+j) v (by rwa [List.getElem?_drop]at hj))
   (λj hj=>by rw[cG];exact hsp _ (by omega)) (λj hj=>by rw[cG];exact hfz _ (by omega)) (λv hv=>h1c v (ir hv))
 obtain⟨W1,hW1⟩:∃ W1,W1=w.drew.setCells b (off+(i+1)*3) (cs.drop (i*3)):=⟨_,rfl⟩
 have Xu:∀ k,k<(n+1)*3->(W1.cell? ⟨b,off+k,none⟩).isSome=true:=λk hk=>by
  rw[hW1]
  exact sO b _ _ _ (λj hj=>by rw[cG];exact hsp _ (by omega)) _ (hsp k hk)
 have Xv:∀ (W:World),(∀ x,W.cell? x=W1.cell? x)->(∀ x,W.frozen? x=W1.frozen? x)->∀ ty dc,(Builtin.copy_ #[117,117] ty #[.slice (some ⟨b,off+i*3,none⟩) (n+1-i) dc,.slice (some ⟨vb,kG,none⟩) 1 vc]).run Tryz.prog W=.ok (goInt (Nat.min 1 (n+1-i))) (W.setCells b (off+i*3) vs):=λW hWc hWf ty dc=>
  ma W _ _ ty 131 3 b (off+i*3) (n+1-i) dc ⟨vb,kG,none⟩ 1 vc vs Tryz.underlying117 hsz (by rw[hvl];have:Nat.min 1 (n+1-i)=1:=cS (by omega);rw[this])
   (λj v hj=>by
    rw[cW,hWc,hW1,World.cell?_setCells_out b _ _ _ _ (λh _=>absurd h hvb)]
    exact hvs j v hj)
   (λj hj=>by rw[hWc,cG];exact Xu _ (by omega)) (λj hj=>by rw[hWf,hW1,World.frozen?_setCells,cG];exact hfz _ (by omega)) h1v
 rw[<-hW1]at Uo
 go_enter Tryz.func165,Tryz.ntmps165
 go_wp2_with (simp only[hov])
 go_region_law_o (refine nB rfl _ _ 117 117 rfl _ _ (by simp[Act.eval,Act.put]) (by simp[Act.eval,Act.put]) (Uo _ _ _) ?_)
 go_wp2_with (at_builtin;refine iG _ rfl _ _ 117 117 rfl _ _ rfl rfl (Xv _ (λ_=>rfl) (λ_=>rfl) _ _) ?_)
 go_ret
 first|exact⟨rfl,rfl⟩|exact⟨rfl,by rw[hW1]⟩
set_option maxHeartbeats 4000000 in
set_option maxRecDepth 100000 in
theorem JO(b off n c i vb kG vc:Nat)(cs vs:List Value)(w:World)(hi:i<n)(hnc:n<=c)(o3:c<n+1)(yp:(n+1)*24<=140737488355328)
 (hcl:cs.length=n*3) (hvl:vs.length=3)
 (hcs:∀ j v,cs[j]?=some v->w.cell? ⟨b,off+j,none⟩=some v)
 (hvs:∀ j v,vs[j]?=some v->w.cell? ⟨vb,kG+j,none⟩=some v) (h1c:∀ v∈cs,v.oneCell'=true) (h1v:∀ v∈vs,v.oneCell'=true)
 (hbw:b<w.heap.size) (hvw:vb<w.heap.size) (i0:TypeInfo) (z:Value) (hi0:Tryz.prog.info? 131=some i0) (hz0:i0.zero=some z) (hzs:i0.size=3) (hzb:i0.bytes=24) (hzc:z.cells.size=3):
 Calls Tryz.prog 165 #[.slice (some ⟨b,off,none⟩) n c,.int .i64 i,.slice (some ⟨vb,kG,none⟩) 1 vc] w λe w'=>
  e=.returned (.slice (some ⟨w.heap.size,0,none⟩) (n+1) (grownCap w (n+1) c 131))/\
  w'=(((w.alloc (.cells ((cs.take (i*3)).toArray++Builtin.zeroCells z.cells (n+1-i)++Builtin.zeroCells z.cells (grownCap w (n+1) c 131-(n+1))) 131)).drew.setCells w.heap.size (i*3) vs).drew).setCells w.heap.size ((i+1)*3) (cs.drop (i*3)):=by
 have mixed:Tryz.prog.follows .mixedOrders=true:=by kernel_rfl
 have hz2:¬((i:Int)=(n:Int)):=by omega
 have hz3:(c:Int)<(n:Int)+1:=by omega
 have hsz:(Tryz.prog.info? 131).map (·.size)=some 3:=by rw[hi0];simp[hzs]
 have hkk:(n:Int)+1-(i:Int)=((n+1-i:Nat):Int):=by omega
 have hik:i+(n+1-i)=n+1:=by omega
 have hold:(Builtin.firstCells i0.size i (.slice (some ⟨b,off,none⟩) i c)).run Tryz.prog w.drew=.ok (cs.take (i*3)).toArray w.drew:=by
  rw[hzs]
  exact run_firstCells_some w.drew 3 i ⟨b,off,none⟩ i c (cs.take (i*3)) (by rw[aN];omega) (λj v hj=>by
   rw[cW]
   rw[List.getElem?_take]at hj
   split at hj
   ·exact hcs j v hj
   ·cases hj)
 have hrz:∀ ty,(Builtin.append_ #[117,3] ty #[.slice (some ⟨b,off,none⟩) i c,.int .i64 ((n:Int)+1-(i:Int))]).run Tryz.prog w=
  .ok (.slice (some ⟨w.heap.size,0,none⟩) (n+1) (grownCap w (n+1) c 131)) (w.drew.alloc (.cells ((cs.take (i*3)).toArray++Builtin.zeroCells z.cells (n+1-i)++Builtin.zeroCells z.cells (grownCap w (n+1) c 131-(n+1))) 131)):=λty=>by
  have h:=Lib.run_append_grow_zeros (P:=Tryz.prog) w 117 3 ty 131 i0 z .i64 .i64 Tryz.underlying117 Tryz.underlying3 hi0 hz0 (some ⟨b,off,none⟩) i c (cs.take (i*3)) hold (n+1-i) (by omega) (by omega) (by omega) (by omega) (by rw[hzb];omega) (by rw[hzb,hik];exact growslice_fits o3 yp)
  rw[hik]at h
  rw[hkk]
  exact h
 obtain⟨G,hG⟩:∃ G,G=grownCap w (n+1) c 131:=⟨_,rfl⟩
 obtain⟨ROW,AW⟩:∃ ROW:Array Value,ROW=(cs.take (i*3)).toArray++Builtin.zeroCells z.cells (n+1-i)++Builtin.zeroCells z.cells (G-(n+1)):=⟨_,rfl⟩
 rw[<-hG]at hrz |-
 rw[<-AW]at hrz |-
 have hRl:(n+1)*3<=ROW.size:=by
  rw[AW]
  simp only[nV,size_zeroCells,hzc,qV,aN,hcl]
  have:min (i*3) (n*3)=i*3:=cS (by omega)
  omega
 obtain⟨W1,hW1⟩:∃ W1,W1=w.drew.alloc (.cells ROW 131):=⟨_,rfl⟩
 rw[<-hW1]at hrz
 have hN:∀ j,j<(n+1)*3->(W1.cell? ⟨w.heap.size,j,none⟩).isSome=true:=λj hj=>by
  rw[hW1,World.cell?_alloc_at (w:=w.drew) ROW _ w.heap.size j rfl,Array.getElem?_eq_getElem (by omega)];rfl
 have hNf:∀ j,W1.frozen? ⟨w.heap.size,j,none⟩=false:=λj=>by rw[hW1];exact World.frozen?_alloc_at (w:=w.drew) ROW _ w.heap.size j rfl
 have hOb:∀ j v,w.cell? ⟨b,j,none⟩=some v->W1.cell? ⟨b,j,none⟩=some v:=λj v h=>by rw[hW1,World.cell?_alloc_past (w:=w.drew) _ b j hbw];exact h
 have hOv:∀ j v,w.cell? ⟨vb,j,none⟩=some v->W1.cell? ⟨vb,j,none⟩=some v:=λj v h=>by rw[hW1,World.cell?_alloc_past (w:=w.drew) _ vb j hvw];exact h
 have Xw:∀ (W:World),(∀ x,W.cell? x=W1.cell? x)->(∀ x,W.frozen? x=W1.frozen? x)->∀ ty dc,(Builtin.copy_ #[117,117] ty #[.slice (some ⟨w.heap.size,i*3,none⟩) (n+1-i) dc,.slice (some ⟨vb,kG,none⟩) 1 vc]).run Tryz.prog W=.ok (goInt (Nat.min 1 (n+1-i))) (W.setCells w.heap.size (i*3) vs):=λW hWc hWf ty dc=>
  ma W _ _ ty 131 3 w.heap.size (i*3) (n+1-i) dc ⟨vb,kG,none⟩ 1 vc vs Tryz.underlying117 hsz (by rw[hvl];have:Nat.min 1 (n+1-i)=1:=cS (by omega);rw[this])
   (λj v hj=>by rw[cW,hWc];exact hOv _ v (hvs j v hj))
   (λj hj=>by rw[hWc];exact hN _ (by omega)) (λj hj=>by rw[hWf];exact hNf _) h1v
 have hGn:n+1<=G:=by rw[hG];exact grownCap_ge w _ _ _
 have X9:G<=9223372036854775807:=by
  have:=grownCap_le_maxLen w (n+1) c 131 (by unfold maxLen;omega)
  rw[<-hG]at this
  unfold maxLen at this
  omega
 have hGi:¬(G=i):=by omega
 have Ya:¬(G=i+1):=by omega
 have hci:¬(c=i):=by omega
 have hbN:b≠w.heap.size:=by omega
 have hdl:(cs.drop (i*3)).length=(n-i)*3:=by rw[bB,hcl,oj]
 have Up:∀ (W:World),(∀ x,W.cell? x=(W1.setCells w.heap.size (i*3) vs).cell? x)->(∀ x,W.frozen? x=(W1.setCells w.heap.size (i*3) vs).frozen? x)->∀ ty dc sc,(Builtin.copy_ #[117,117] ty #[.slice (some ⟨w.heap.size,(i+1)*3,none⟩) (n-i) dc,.slice (some ⟨b,off+i*3,none⟩) (n-i) sc]).run Tryz.prog W=.ok (goInt (Nat.min (n-i) (n-i))) (W.setCells w.heap.size ((i+1)*3) (cs.drop (i*3))):=λW hWc hWf ty dc sc=>
  ma W _ _ ty 131 3 w.heap.size ((i+1)*3) (n-i) dc ⟨b,off+i*3,none⟩ (n-i) sc (cs.drop (i*3)) Tryz.underlying117 hsz (by rw[hdl];congr 1;exact(Nat.min_self _).symm)
   (λj v hj=>by
    rw[cW,hWc,World.cell?_setCells_out _ _ _ _ _ (λh _=>absurd h hbN),cG]
    exact hOb _ v (hcs (i*3+j) v (by rwa [List.getElem?_drop]at hj)))
   (λj hj=>by rw[hWc];exact sO _ _ _ _ (λt ht=>hN _ (by omega)) _ (hN _ (by omega)))
   (λj hj=>by rw[hWf,World.frozen?_setCells];exact hNf _) (λv hv=>h1c v (ir hv))
 subst hW1
 have hE1:∀ x,((w.alloc (.cells ROW 131)).drew).cell? x=(w.drew.alloc (.cells ROW 131)).cell? x:=λx=>rfl
 have hE2:∀ x,((w.alloc (.cells ROW 131)).drew).frozen? x=(w.drew.alloc (.cells ROW 131)).frozen? x:=λx=>rfl
 have hF1:∀ x,(((w.alloc (.cells ROW 131)).drew.setCells w.heap.size (i*3) vs).drew).cell? x=((w.drew.alloc (.cells ROW 131)).setCells w.heap.size (i*3) vs).cell? x:=λx=>rfl
 have hF2:∀ x,(((w.alloc (.cells ROW 131)).drew.setCells w.heap.size (i*3) vs).drew).frozen? x=((w.drew.alloc (.cells ROW 131)).setCells w.heap.size (i*3) vs).frozen? x:=λx=>rfl
 have hw1:IntKind.i64.wrap ((i:Int)+1)=(i:Int)+1:=by rw[IntKind.wrap_i64];omega
 have hb1:(0:Int)<=(i:Int)+1:=by omega
 have hin:i<=n:=by omega
 have htn:((i:Int)+1).toNat=i+1:=by omega
 have hb3:(i:Int)<=(n:Int):=by omega
 clear hkk hik hold AW hG hRl
 go_enter Tryz.func165,Tryz.ntmps165
 go_wp2_with (first
  |(at_builtin;refine gr _ rfl _ _ 117 3 rfl _ _ rfl rfl _ _ (hrz _) ?_)
  |(at_builtin;refine iG _ rfl _ _ 117 117 rfl _ _ rfl rfl (Xw _ hE1 hE2 _ _) ?_)
  |(at_builtin;refine iG _ rfl _ _ 117 117 rfl _ _ rfl rfl (Up _ (λ_=>rfl) (λ_=>rfl) _ _ _) ?_))
 go_region_law_o (refine nB rfl _ _ 117 117 rfl (.slice (some ⟨w.heap.size,(i+1)*3,none⟩) (n-i) (G-(i+1))) (.slice (some ⟨b,off+i*3,none⟩) (n-i) (c-i)) (by simp[Act.eval,Act.put]) (by simp[Act.eval,Act.put]) (Up _ hF1 hF2 3 (G-(i+1)) (c-i)) ?_)
 go_wp2
 go_ret
 exact⟨rfl,rfl⟩
end
noncomputable section
abbrev It:=Int×(Int×Int)
def itC(x:It):List Value:=[.int .i64 x.1,.int .i64 x.2.1,.int .u64 x.2.2]
def C0(x:It):Prop:=inK .i64 x.1/\inK .i64 x.2.1/\inK .u64 x.2.2
def itL(xs:List It):List Value:=xs.flatMap itC
theorem yq:∀ xs,(itL xs).length=xs.length*3
 |[]=>rfl
 |x::xs=>by
  show(itC x++itL xs).length=_
  rw[aj,yq xs,aM]
  show 3+_=_
  omega
theorem uO(xs ys:List It):itL (xs++ys)=itL xs++itL ys:=gD
theorem AX:∀ (i:Nat) (xs:List It),itL (xs.take i)=(itL xs).take (i*3)
 |0,xs=>by simp[itL]
 |i+1,[]=>by simp[itL]
 |i+1,x::xs=>by
  show itC x++itL (xs.take i)=(itC x++itL xs).take ((i+1)*3)
  rw[AX i xs,show(i+1)*3=(itC x).length+i*3 by show _=3+_;omega,List.take_length_add_append]
theorem AY:∀ (i:Nat) (xs:List It),itL (xs.drop i)=(itL xs).drop (i*3)
 |0,xs=>by simp
 |i+1,[]=>by simp[itL]
 |i+1,x::xs=>by
  show itL (xs.drop i)=(itC x++itL xs).drop ((i+1)*3)
  rw[AY i xs,show(i+1)*3=(itC x).length+i*3 by show _=3+_;omega,List.drop_length_add_append]
theorem oC:∀ (xs:List It),∀ v∈itL xs,v.oneCell'=true
 |[],v,h=>by cases h
 |x::xs,v,h=>by
  rcases au.1 (show v∈itC x++itL xs from h)with h|h
  ·simp only[itC,ay,bX,or_false]at h
   rcases h with rfl|rfl|rfl <;> rfl
  ·exact oC xs v h
theorem Rp{F:af}{w:World}{m:Md}{x:It}{cs:List Value}{S:af}(h:Rep F w kf m x cs S):cs=itC x/\C0 x:=by
 obtain⟨c1,c2,S1,S2,rfl,⟨rfl,k1⟩,⟨c3,c4,S3,S4,rfl,⟨rfl,k2⟩,⟨rfl,k3⟩,_⟩,_⟩:=h
 exact⟨rfl,k1,k2,k3⟩
theorem Rq{F:af}{w:World}{m:Md}{x:It}(h:C0 x):Rep F w kf m x (itC x) af.none:=
 ⟨[_],_,af.none,af.none,rfl,⟨rfl,h.1⟩,⟨[_],[_],af.none,af.none,rfl,⟨rfl,h.2.1⟩,⟨rfl,h.2.2⟩,Sub.refl _,Sub.refl _,λ_ h=>h.elim⟩,Sub.refl _,Sub.refl _,λ_ h=>h.elim⟩
theorem Ef{F:af}{w:World}{m:Md}:∀ {xs:List It} {cs:List Value} {S:af},bp (Rep F w kf m) xs cs S->cs=itL xs/\∀ x∈xs,C0 x
 |[],cs,S,h=>⟨h,λx hx=>by cases hx⟩
 |x::xs,cs,S,h=>by
  obtain⟨c1,c2,S1,S2,rfl,h1,h2,_⟩:=h
  obtain⟨rfl,k1⟩:=Rp h1
  obtain⟨rfl,k2⟩:=Ef h2
  exact⟨rfl,λy hy=>by rcases ay.1 hy with rfl|hy;exact k1;exact k2 y hy⟩
theorem yr{F:af}{w:World}{m:Md}:∀ {xs:List It},(∀ x∈xs,C0 x)->bp (Rep F w kf m) xs (itL xs) af.none
 |[],_=>rfl
 |x::xs,h=>⟨_,_,af.none,af.none,rfl,Rq (h x bm),yr (λy hy=>h y (bw _ hy)),Sub.refl _,Sub.refl _,λ_ h=>h.elim⟩
theorem C1(L A Y vs:List Value)(o1 o2:Nat)(h1:L.take o1=A)(h2:o1<=L.length)(hv:vs.length=3)(ho:o2=o1+3)(h3:o2<=L.length):
 ∀ L1,L1=L.take o2++Y++L.drop (o2+Y.length)->L1.take o1++vs++L1.drop (o1+vs.length)=A++vs++Y++L.drop (o2+Y.length):=by
 rintro L1 rfl
 have e1:(L.take o2++Y++L.drop (o2+Y.length)).take o1=A:=by
  rw[aO,fJ (by rw[aN];omega),kV,show min o1 o2=o1 by omega,h1]
 have e2:(L.take o2++Y++L.drop (o2+Y.length)).drop (o1+vs.length)=Y++L.drop (o2+Y.length):=by
  rw[aO,hv,<-ho]
  exact List.drop_left' (by rw[aN];omega)
 rw[e1,e2]
 simp
end
noncomputable section
def AZ(n:Nat)(x:List It×(Int×(List It×Unit))):Option ((List It×Unit)×Unit):=
 if x.2.2.1.length=1/\0<=x.2.1/\x.2.1.toNat<=x.1.length/\(x.1.length+1)*24<=140737488355328 then some ((x.1.take x.2.1.toNat++x.2.2.1++x.1.drop x.2.1.toNat,()),())else none
theorem JP:Plain Tryz.prog 165:=⟨_,Tryz.func165,by kernel_rfl,by kernel_rfl⟩
theorem wY{F:af}{w:World}{xs:List It}{ao:Option Addr}{cap:Nat}{S:af}(h:Rep F w (.sl kf) (.own .ro) xs [.slice ao xs.length cap] S)(hp:0<cap):
 xs.length<=cap/\cap<=maxLen/\(∀ x∈xs,C0 x)/\∃ (b off:Nat) (c:Array Value) (e:Mark c.size 3),ao=some ⟨b,off,none⟩/\w.heap[b]?=some (.cells c e.t (e.a,e.b))/\off+cap*3<=c.size/\S b/\(c.toList.drop off).take (xs.length*3)=itL xs:=by
 obtain⟨a,cp,e0,h1,h2,h3⟩:=h
 injection e0 with e0 _
 injection e0 with q1 q2 q3
 subst q1 q3
 rcases h3 with rfl|⟨b,off,c,e,rfl,hb,hc,hS,S0,hr,_,_⟩
 ·omega
 ·obtain⟨k1,k2⟩:=Ef hr
  exact⟨h1,h2,k2,b,off,c,e,rfl,hb,hc,hS,k1⟩
theorem JQ{F:af}{w:World}{xs:List It}{b off cap:Nat}{c:Array Value}(e:Mark c.size 3){S:af}(h1:xs.length<=cap)(h2:cap<=maxLen)(hb:w.heap[b]?=some (.cells c e.t (e.a,e.b)))(hc:off+cap*3<=c.size)(hS:S b)(hk:∀ x∈xs,C0 x)
 (hr:(c.toList.drop off).take (xs.length*3)=itL xs):Rep F w (.sl kf) (.own .ro) xs [.slice (some ⟨b,off,none⟩) xs.length cap] S:=
 ⟨_,cap,rfl,h1,h2,.inr ⟨b,off,c,e,rfl,hb,hc,hS,af.none,by
  show bp _ _ ((c.toList.drop off).take (xs.length*3)) _
  rw[hr];exact yr hk,λ_ h=>h.elim,λh=>h⟩⟩
theorem JR{F:af}{w:World}{xs:List It}{ao:Option Addr}{cap:Nat}{S:af}(h:Rep F w (.sl kf) (.own .ro) xs [.slice ao xs.length cap] S):xs.length<=cap/\cap<=maxLen:=by
 obtain⟨a,cp,e0,h1,h2,h3⟩:=h
 injection e0 with e0 _
 injection e0 with q1 q2 q3
 subst q1 q3
 exact⟨h1,h2⟩
set_option maxHeartbeats 1000000 in
theorem JS(N:Nat)(xs ys:List It)(i:Nat){F:af}{w:World}{S S1 S5:af}{ao ao3:Option Addr}{cap uP:Nat}(hSF:Dis S F)(hF:∀ k,F k->k<w.heap.size)(hS:∀ k,S k->k<w.heap.size)
 (hy1:ys.length=1) (hin:i<=xs.length) (yp:(xs.length+1)*24<=140737488355328) (hx1:Rep F w (.sl kf) (.own .ro) xs [.slice ao xs.length cap] S1) (hx3:Rep F w (.sl kf) (.own .ro) ys [.slice ao3 ys.length uP] S5)
 (s1:Sub S1 S) (hS5:Sub S5 S) (Xx:Dis S1 S5):
 Calls Tryz.prog 165 #[.slice ao xs.length cap,.int .i64 i,.slice ao3 ys.length uP] w (ul ⟨[(.sl kf,.own .ro),(y3,.ro),(.sl kf,.own .ro)],[(.sl kf,.own .ro)],[],[],AZ N⟩ ((xs.take i++ys++xs.drop i,()),()) F w S [.slice ao xs.length cap,.int .i64 i,.slice ao3 ys.length uP]):=by
 obtain⟨hle,hcm⟩:=JR hx1
 obtain⟨Yb,Yc⟩:=JR hx3
 obtain⟨_,_,hyk,vb,kG,c3,e3,rfl,hb3,hc3,Uq,PP⟩:=wY hx3 (by omega)
 rw[hy1]at PP |-
 have hl3:(itL ys).length=3:=by rw[yq,hy1]
 have Rr:∀ j v,(itL ys)[j]?=some v->w.cell? ⟨vb,kG+j,none⟩=some v:=by
  intro j v hj
  rw[<-PP,List.getElem?_take]at hj
  split at hj
  ·rw[List.getElem?_drop]at hj
   simp only[World.cell?,hb3]
   simpa using hj
  ·cases hj
 -- the end
 have fin:∀ (v':Value) (w':World) (Sr:af),w'.os=w.os->w'.tape=w.tape->w'.output=w.output->w.heap.size<=w'.heap.size->(∀ k,k<w.heap.size->¬S k->w'.heap[k]?=w.heap[k]?)->
  Rep F w' (.sl kf) (.own .ro) (xs.take i++ys++xs.drop i) [v'] Sr->(∀ k,Sr k->S k\/(w.heap.size<=k/\k<w'.heap.size))->
  ul ⟨[(.sl kf,.own .ro),(y3,.ro),(.sl kf,.own .ro)],[(.sl kf,.own .ro)],[],[],AZ N⟩ ((xs.take i++ys++xs.drop i,()),()) F w S [.slice ao xs.length cap,.int .i64 i,.slice (some ⟨vb,kG,none⟩) 1 uP] (.returned v') w':=by
  intro v' w' Sr q1 q2 q3 q4 q5 bF hsr
  have hvr:VR (.sl kf) [v'] v':=by
   obtain⟨a,cp,e0,_⟩:=bF
   injection e0 with e0 _
   subst e0
   simp[VR,Ty.agg,Value.oneCell']
  refine⟨[v'],F,Sr,af.none,rfl,⟨_,[],[v'],Sr,af.none,rfl,bF,hvr,rfl,Sub.refl _,λ_ h=>h.elim,λ_ _ h=>h.elim⟩,rfl,λ_ _ h=>h.elim,⟨q1,q2,q3,q4,q5⟩,Sub.refl _,λk hk=>bA (hF k hk) q4,λk hk _ _=>hk,?_⟩
  rintro k (hk|hk)
  ·rcases hsr k hk with h|⟨h,h'⟩
   ·exact⟨bA (hS k h) q4,λhf=>hSF k h hf,λ_=>h⟩
   ·exact⟨h',λhf=>by have:=hF k hf;omega,λhl=>by omega⟩
  ·exact hk.elim
 have hrl:(xs.take i++ys++xs.drop i).length=xs.length+1:=by
  rw[aj,aj,aN,bB,hy1];omega
 by_cases mb:i=xs.length
 ·subst mb
  obtain⟨v',w',bV,q1,q2,q3,q4,q5,q6⟩:=sG (P:=Tryz.prog) (F:=F) (w:=w) hF (t:=117) (tx:=117) (ty:=117) Q0 Tryz.underlying117 (me:=.ro) (x1:=xs) (x2:=ys) (v1:=.slice ao xs.length cap) (v2:=.slice (some ⟨vb,kG,none⟩) 1 uP) (S1:=S1) (S2:=af.none) hx1 (news:=itL ys)
   (by
    have:=Src.ofSlice (P:=Tryz.prog) (w:=w) (size:=3) Tryz.underlying117 ⟨vb,kG,none⟩ 1 uP (itL ys) (by rw[hl3]) (λj v hj=>by rw[cW];exact Rr j v hj) (oC ys)
    show Src Tryz.prog 3 117 _ ys.length _ w
    rw[hy1];exact this)
   (yr hyk) (λ_ _ h=>h.elim) (λk hk hf=>hSF k (s1 k hk) hf) (λk hk=>hS k (s1 k hk)) (λ_ h=>h.elim) (by show(xs.length+ys.length)*24<=_;rw[hy1];exact yp) (by show xs.length+ys.length<=_;rw[hy1];unfold maxLen;omega)
  refine(NW ao xs.length cap ⟨vb,kG,none⟩ uP w hle (by unfold maxLen at hcm;omega) (by omega) v' w' bV).mono λe W he=>?_
  obtain⟨rfl,rfl⟩:=he
  refine fin _ _ (λk=>S1 k\/af.none k\/(w.heap.size<=k/\k<W.heap.size)) q1 q2 q3 q4 (λk hk hs=>q5 k hk (λh=>hs (s1 k h))) ?_ ?_
  ·rw[cE,ff,b9];exact q6
  ·rintro k (h|h|h)
   ·exact .inl (s1 k h)
   ·exact h.elim
   ·exact .inr h
 ·have hi:i<xs.length:=by omega
  obtain⟨_,_,hxk,b,off,c,e,rfl,hb,hcc,hSb,fB⟩:=wY hx1 (by omega)
  have hvb:vb≠b:=λh=>Xx b hSb (h ▸ Uq)
  have hbw:b<w.heap.size:=hS b (s1 b hSb)
  have hvw:vb<w.heap.size:=hS vb (hS5 vb Uq)
  have hlx:=yq xs
  have hcl:c.toList.length=c.size:=aW
  have hat:∀ j v,(itL xs)[j]?=some v->w.cell? ⟨b,off+j,none⟩=some v:=by
   intro j v hj
   rw[<-fB,List.getElem?_take]at hj
   split at hj
   ·rw[List.getElem?_drop]at hj
    simp only[World.cell?,hb]
    simpa using hj
   ·cases hj
  have fu:∀ x∈xs.take i++ys++xs.drop i,C0 x:=by
   intro x hx
   rcases au.1 hx with hx|hx
   ·rcases au.1 hx with hx|hx
    ·exact hxk x (qP hx)
    ·exact hyk x hx
   ·exact hxk x (ir hx)
  have x8:itL (xs.take i++ys++xs.drop i)=(itL xs).take (i*3)++itL ys++(itL xs).drop (i*3):=by
   rw[uO,uO,AX,AY]
  obtain⟨ti,z,hti,ht1,ht2,ht3,ht4⟩:=Q0.vU
  have hz:z.cells.size=3:=by rw[<-aW,ht4];rfl
  have hsz:(Tryz.prog.info? 131).map (·.size)=some 3:=by rw[hti];exact congrArg some ht1
  have hdl:((itL xs).drop (i*3)).length=(xs.length-i)*3:=by rw[bB,hlx,oj]
  by_cases o3:xs.length+1<=cap
  ·have X4:(xs.length+1)*3<=cap*3:=fL _ o3
   refine(Hh b off xs.length cap i vb kG uP (itL xs) (itL ys) w hi o3 (by unfold maxLen at hcm;omega) hvb hlx hl3 hat (λj hj=>by simp only[World.cell?,hb];simp;omega) (λj hj=>Mark.frz (e:=e) hb rfl (by show off+j<c.size;omega)) Rr (oC xs) (oC ys)
    e3.t e.t c3.size c.size (by simp[World.shape?,hb3]) (by simp[World.shape?,hb]) (by omega) (Mark.frz (e:=e3) hb3 rfl (by show kG<c3.size;omega)) (by
     have h:=e3.en (by decide)
     simp only[World.frozen?,hb3]
     rcases ak c3.size e3.a with h1|h1
     ·have:decide (e3.a<=c3.size)=false:=decide_eq_false (by omega)
      simp[this]
     ·have:decide (c3.size<e3.b)=false:=decide_eq_false (λh2=>h ⟨h1,h2⟩)
      simp[this]) hsz).mono λe' W he=>?_
   obtain⟨rfl,rfl⟩:=he
   obtain⟨a1,⟨cA,a2,a3⟩,a4,a5,a6,a7⟩:=dM b ((itL xs).drop (i*3)) (off+(i+1)*3) w.drew c e.t (e.a,e.b) hb (by rw[hdl];omega)
   have hcA:cA.size=c.size:=by
    rw[<-aW,<-aW,a3]
    simp only[aj,aN,bB,hcl,hlx]
    omega
   obtain⟨b1,⟨cB,b2,b3⟩,b4,b5,b6,b7⟩:=dM b (itL ys) (off+i*3) _ cA e.t (e.a,e.b) a2 (by rw[hl3,hcA];omega)
   have hcB:cB.size=c.size:=by
    rw[<-hcA,<-aW,<-aW (xs:=cA),b3]
    simp only[aj,aN,bB,aW,hl3]
    omega
   have Ur:cB.toList=c.toList.take off++(itL xs).take (i*3)++itL ys++(itL xs).drop (i*3)++c.toList.drop (off+(i+1)*3+((itL xs).drop (i*3)).length):=by
    rw[b3]
    exact C1 c.toList _ _ _ (off+i*3) (off+(i+1)*3) (by
     rw[<-fB,kV,show min (i*3) (xs.length*3)=i*3 by omega,List.take_add]) (by omega) hl3 (by omega) (by omega) cA.toList a3
   refine fin _ _ S1 (b5.trans a5) (b6.trans a6) (b7.trans a7) (by rw[b4,a4];exact ar _) (λk hk hs=>by
    have hkb:k≠b:=λh=>hs (h ▸ s1 b hSb)
    rw[b1 k hkb,a1 k hkb];rfl) ?_ (λk hk=>.inl (s1 k hk))
   have e':Mark cB.size 3:=e.to (iy hcB)
   have:=JQ (F:=F) (w:=((w.drew.setCells b (off+(i+1)*3) ((itL xs).drop (i*3))).setCells b (off+i*3) (itL ys))) (xs:=xs.take i++ys++xs.drop i) (b:=b) (off:=off) (cap:=cap) (c:=cB) (e.to (iy hcB)) (S:=S1) (by rw[hrl];exact o3) hcm b2 (by rw[hcB];exact hcc) hSb fu (by
    rw[hrl,x8,Ur]
    rw[show c.toList.take off++(itL xs).take (i*3)++itL ys++(itL xs).drop (i*3)++c.toList.drop (off+(i+1)*3+((itL xs).drop (i*3)).length)=c.toList.take off++(((itL xs).take (i*3)++itL ys++(itL xs).drop (i*3))++c.toList.drop (off+(i+1)*3+((itL xs).drop (i*3)).length)) by simp]
    rw[List.drop_left' (by rw[aN];omega)]
    exact n9 (by
     simp only[aj,aN,bB,hlx,hl3];omega))
   rw[hrl]at this
   exact this
  ·refine(JO b off xs.length cap i vb kG uP (itL xs) (itL ys) w hi hle (by omega) (by omega) hlx hl3 hat Rr (oC xs) (oC ys) hbw hvw ti z hti ht3 ht1 ht2 hz).mono λe' W he=>?_
   obtain⟨rfl,rfl⟩:=he
   obtain⟨ROW,AW⟩:∃ ROW:Array Value,ROW=((itL xs).take (i*3)).toArray++Builtin.zeroCells z.cells (xs.length+1-i)++Builtin.zeroCells z.cells (grownCap w (xs.length+1) cap 131-(xs.length+1)):=⟨_,rfl⟩
   rw[<-AW]
   have hG:=grownCap_ge w (xs.length+1) cap 131
   have hG2:=grownCap_le_maxLen w (xs.length+1) cap 131 (by unfold maxLen;omega)
   obtain⟨G,hGG⟩:∃ G,G=grownCap w (xs.length+1) cap 131:=⟨_,rfl⟩
   rw[<-hGG]at hG hG2 AW |-
   have hRs:ROW.size=G*3:=by
    rw[AW]
    simp only[nV,size_zeroCells,hz,qV,aN,hlx]
    have:min (i*3) (xs.length*3)=i*3:=cS (by omega)
    omega
   have hRt:ROW.toList.take (i*3)=(itL xs).take (i*3):=by
    rw[AW]
    simp only[qQ,aO]
    exact n9 (by rw[aN];omega)
   have s8:(w.alloc (.cells ROW 131)).drew.heap[w.heap.size]?=some (.cells ROW 131 (0,0)):=lm w _
   obtain⟨a1,⟨cA,a2,a3⟩,a4,a5,a6,a7⟩:=dM w.heap.size (itL ys) (i*3) (w.alloc (.cells ROW 131)).drew ROW 131 (0,0) s8 (by rw[hl3,hRs];omega)
   have hRl:ROW.toList.length=G*3:=by rw[aW];exact hRs
   have hcA:cA.size=G*3:=by
    rw[<-aW,a3]
    simp only[aj,aN,bB,hRl,hl3]
    omega
   have Xy:cA.toList.length=G*3:=by rw[aW];exact hcA
   obtain⟨b1,⟨cB,b2,b3⟩,b4,b5,b6,b7⟩:=dM w.heap.size ((itL xs).drop (i*3)) ((i+1)*3) ((w.alloc (.cells ROW 131)).drew.setCells w.heap.size (i*3) (itL ys)).drew cA 131 (0,0) a2 (by rw[hdl,hcA];omega)
   have hcB:cB.size=G*3:=by
    rw[<-aW,b3]
    simp only[aj,aN,bB,Xy,hlx]
    omega
   have hAt:cA.toList.take ((i+1)*3)=(itL xs).take (i*3)++itL ys:=by
    rw[a3,hRt]
    exact n9 (by rw[aj,aN,hl3,hlx];omega)
   have DF:(cB.toList.drop 0).take ((xs.take i++ys++xs.drop i).length*3)=itL (xs.take i++ys++xs.drop i):=by
    rw[hrl,x8,cU,b3,hAt]
    exact n9 (by simp only[aj,aN,bB,hlx,hl3];omega)
   have yu:=JQ (F:=F) (w:=(((w.alloc (.cells ROW 131)).drew.setCells w.heap.size (i*3) (itL ys)).drew).setCells w.heap.size ((i+1)*3) ((itL xs).drop (i*3))) (xs:=xs.take i++ys++xs.drop i) (b:=w.heap.size) (off:=0) (cap:=G) (c:=cB) (Mark.free _ 131) (S:=λk=>k=w.heap.size) (by rw[hrl];exact hG) hG2 b2 (by rw[hcB];omega) rfl fu DF
   rw[hrl]at yu
   have hws:((((w.alloc (.cells ROW 131)).drew.setCells w.heap.size (i*3) (itL ys)).drew).setCells w.heap.size ((i+1)*3) ((itL xs).drop (i*3))).heap.size=w.heap.size+1:=by
    rw[b4]
    exact a4.trans (dS w _)
   refine fin _ _ (λk=>k=w.heap.size) (b5.trans a5) (b6.trans a6) (b7.trans a7) (by rw[hws];omega) (λk hk hs=>?_) yu (λk hk=>.inr ⟨by omega,by omega⟩)
   rw[b1 k (by omega)]
   exact(a1 k (by omega)).trans (eM w _ hk)
theorem Us(N:Nat):fR Tryz.prog 165 ⟨[(.sl kf,.own .ro),(y3,.ro),(.sl kf,.own .ro)],[(.sl kf,.own .ro)],[],[],AZ N⟩:=by
 rintro⟨xs,i0,ys,u⟩ r hd F w S args jW hSF hF hS _
 have hd2:AZ N (xs,i0,ys,u)=some r:=hd
 clear hd
 unfold AZ at hd2
 split at hd2
 case isFalse=>cases hd2
 rename_i hc
 obtain⟨hy1,h0,hin,yp⟩:=hc
 have hd3:=cu hd2
 subst hd3
 clear hd2
 obtain⟨v1,vs1,cs1,S1,S2,rfl,hr1,hv1,⟨v2,vs2,cs2,S3,S4,rfl,hr2,hv2,⟨v3,vs3,cs3,S5,S6,rfl,hr3,hv3,h4,s5,s6,d5⟩,s3,s4,d3⟩,s1,s2,d⟩:=jW
 cases h4
 have Xz:=(pc (k:=.i64) hr2 hv2).1
 have e0:i0=((Int.toNat i0:Nat):Int):=(dl h0).symm
 obtain⟨ao,cap,hc1,_⟩:=id hr1
 obtain⟨ao3,uP,hc3,_⟩:=id hr3
 subst hc1 hc3
 have Rs:v1=.slice ao (List.length (xs:List It)) cap:=by simp[VR,Ty.agg]at hv1;exact hv1.1.symm
 have XA:v3=.slice ao3 (List.length (ys:List It)) uP:=by simp[VR,Ty.agg]at hv3;exact hv3.1.symm
 have:=JS N xs ys (Int.toNat i0) hSF hF hS hy1 hin yp (S1:=S1) (S5:=S5) hr1 hr3 s1 (λk hk=>s2 k (s4 k (s5 k hk))) (λk h1 h5=>d k h1 (s4 k (s5 k h5)))
 rw[<-e0]at this
 rw[Rs,Xz,XA]
 exact this
def F165(n:Nat):Fb 165:=⟨_,Us n,JP⟩
end
end Go.Proofs.YtphipehmbefejaaGreat.Rf
namespace Go.Proofs
open Go.Shelf
noncomputable section
def Tryz.sort_ren:Go.Shelf.Ren:=⟨λ|6=>102|14=>167|15=>168|20=>206|21=>207|22=>208|23=>209|24=>210|25=>211|26=>212|27=>213|28=>214|29=>215|46=>231|47=>232|48=>233|49=>234|50=>235|57=>243|n=>n,λ|0=>0|3=>3|4=>4|5=>5|9=>9|22=>77|24=>63|25=>196|39=>60|45=>296|46=>297|50=>119|53=>303|55=>59|66=>314|70=>318|76=>324|77=>104|n=>n,λn=>n⟩
theorem Tryz.sort_lays:Go.Proofs.SlLaysF0.n6 Tryz.prog Tryz.sort_ren:={
 mixed:=by kernel_rfl
 f6 := ⟨"slices.SortFunc[[]bosket/api.Sym,bosket/api.Sym]", by decide, Tryz.func102.trans (congrArg some (by kernel_rfl))⟩
 f14 := ⟨"slices.pdqsortCmpFunc[bosket/api.Sym]", by decide, Tryz.func167.trans (congrArg some (by kernel_rfl))⟩
 f15:=Tryz.func168.trans (congrArg some (by kernel_rfl))
 f20 := ⟨"slices.insertionSortCmpFunc[bosket/api.Sym]", by decide, Tryz.func206.trans (congrArg some (by kernel_rfl))⟩
 f21 := ⟨"slices.heapSortCmpFunc[bosket/api.Sym]", by decide, Tryz.func207.trans (congrArg some (by kernel_rfl))⟩
 f22 := ⟨"slices.breakPatternsCmpFunc[bosket/api.Sym]", by decide, Tryz.func208.trans (congrArg some (by kernel_rfl))⟩
 f23 := ⟨"slices.choosePivotCmpFunc[bosket/api.Sym]", by decide, Tryz.func209.trans (congrArg some (by kernel_rfl))⟩
 f24 := ⟨"slices.reverseRangeCmpFunc[bosket/api.Sym]", by decide, Tryz.func210.trans (congrArg some (by kernel_rfl))⟩
 f25 := ⟨"slices.partialInsertionSortCmpFunc[bosket/api.Sym]", by decide, Tryz.func211.trans (congrArg some (by kernel_rfl))⟩
 f26 := ⟨"slices.partitionEqualCmpFunc[bosket/api.Sym]", by decide, Tryz.func212.trans (congrArg some (by kernel_rfl))⟩
 f27 := ⟨"slices.partitionCmpFunc[bosket/api.Sym]", by decide, Tryz.func213.trans (congrArg some (by kernel_rfl))⟩
 f28:=Tryz.func214.trans (congrArg some (by kernel_rfl))
 f29:=Tryz.func215.trans (congrArg some (by kernel_rfl))
 f46 := ⟨"slices.siftDownCmpFunc[bosket/api.Sym]", by decide, Tryz.func231.trans (congrArg some (by kernel_rfl))⟩
 f47:=Tryz.func232.trans (congrArg some (by kernel_rfl))
 f48:=Tryz.func233.trans (congrArg some (by kernel_rfl))
 f49 := ⟨"slices.medianAdjacentCmpFunc[bosket/api.Sym]", by decide, Tryz.func234.trans (congrArg some (by kernel_rfl))⟩
 f50 := ⟨"slices.medianCmpFunc[bosket/api.Sym]", by decide, Tryz.func235.trans (congrArg some (by kernel_rfl))⟩
 f57 := ⟨"slices.order2CmpFunc[bosket/api.Sym]", by decide, Tryz.func243.trans (congrArg some (by kernel_rfl))⟩
 t0:=Tryz.underlying0
 a0:=Tryz.isAgg0
 z0:=Tryz.sizeOf0
 v0:=Tryz.zeroValue0
 t3:=Tryz.underlying3
 a3:=Tryz.isAgg3
 z3:=Tryz.sizeOf3
 v3:=Tryz.zeroValue3
 t4:=Tryz.underlying4
 a4:=Tryz.isAgg4
 z4:=Tryz.sizeOf4
 v4:=Tryz.zeroValue4
 t5:=Tryz.underlying5
 a5:=Tryz.isAgg5
 z5:=Tryz.sizeOf5
 v5:=Tryz.zeroValue5
 t9:=Tryz.underlying9
 a9:=Tryz.isAgg9
 z9:=Tryz.sizeOf9
 v9:=Tryz.zeroValue9
 t22:=Tryz.underlying77
 a22:=Tryz.isAgg77
 z22:=Tryz.sizeOf77
 v22:=Tryz.zeroValue77
 t25:=Tryz.underlying196
 a25:=Tryz.isAgg196
 z25:=Tryz.sizeOf196
 v25:=Tryz.zeroValue196
 t39:=Tryz.underlying60
 a39:=Tryz.isAgg60
 z39:=Tryz.sizeOf60
 v39:=Tryz.zeroValue60
 t45:=Tryz.underlying296
 a45:=Tryz.isAgg296
 z45:=Tryz.sizeOf296
 v45:=Tryz.zeroValue296
 t46:=Tryz.underlying297
 a46:=Tryz.isAgg297
 z46:=Tryz.sizeOf297
 v46:=Tryz.zeroValue297
 t50:=Tryz.underlying119
 a50:=Tryz.isAgg119
 z50:=Tryz.sizeOf119
 v50:=Tryz.zeroValue119
 t53:=Tryz.underlying303
 a53:=Tryz.isAgg303
 z53:=Tryz.sizeOf303
 v53:=Tryz.zeroValue303
 t55:=Tryz.underlying59
 a55:=Tryz.isAgg59
 z55:=Tryz.sizeOf59
 v55:=Tryz.zeroValue59
 t66:=Tryz.underlying314
 a66:=Tryz.isAgg314
 z66:=Tryz.sizeOf314
 v66:=Tryz.zeroValue314
 t70:=Tryz.underlying318
 a70:=Tryz.isAgg318
 z70:=Tryz.sizeOf318
 v70:=Tryz.zeroValue318
 t76:=Tryz.underlying324
 a76:=Tryz.isAgg324
 z76:=Tryz.sizeOf324
 v76:=Tryz.zeroValue324
 t77:=Tryz.underlying104
 a77:=Tryz.isAgg104
 z77:=Tryz.sizeOf104
 v77:=Tryz.zeroValue104}
end
end Go.Proofs
namespace Go.Proofs.YtphipehmbefejaaGreat.Rf
open Go Go.RowKit Go.Lib Go.Sort
noncomputable section
abbrev Sy:=Bool×Int
def qd(x y:Sy):Int:=if x.1≠y.1/\y.1=true then -1 else if x.1≠y.1\/y.2<x.2 then 1 else if x.2<y.2 then -1 else 0
def kH(x:Sy):List Value:=[.bool x.1,.int .i64 x.2]
def ltS(x y:Sy):Bool:=decide (x.1=false/\y.1=true\/x.1=y.1/\x.2<y.2)
def C2(x:Sy):List Sy->List Sy
 |[]=>[x]
 |y::l=>bif ltS y x then y::C2 x l else x::y::l
def gS:List Sy->List Sy
 |[]=>[]
 |x::l=>C2 x (gS l)
theorem mc{x y:Sy}:ltS x y=true↔(x.1=false/\y.1=true\/x.1=y.1/\x.2<y.2):=by unfold ltS;simp
theorem uQ(x y:Sy):ltS x y=true\/x=y\/ltS y x=true:=by
 obtain⟨a,b⟩:=x
 obtain⟨c,d⟩:=y
 rw[mc,mc]
 cases a <;> cases c <;> simp <;> omega
theorem mf(x:Sy):ltS x x=false:=by
 cases h:ltS x x
 ·rfl
 ·rw[mc]at h
  rcases h with⟨h1,h2⟩|⟨_,h⟩
  ·rw[h1]at h2;cases h2
  ·omega
theorem yv{x y z:Sy}(h1:ltS x y=true)(h2:ltS y z=true):ltS x z=true:=by
 obtain⟨a,b⟩:=x
 obtain⟨c,d⟩:=y
 obtain⟨e,f⟩:=z
 rw[mc]at *
 cases a <;> cases c <;> cases e <;> simp at * <;> omega
theorem yw{x y:Sy}(h1:ltS x y=true)(h2:ltS y x=true):False:=by
 have:=yv h1 h2
 rw[mf]at this
 cases this
theorem mg(x y:Sy):ltOf qd x y=ltS x y:=by
 obtain⟨a,b⟩:=x
 obtain⟨c,d⟩:=y
 unfold ltOf qd ltS
 cases a <;> cases c <;> simp
 all_goals (by_cases h1:d<b <;> by_cases h2:b<d <;> simp[h1,h2] <;> omega)
theorem Rt:SWO (ltOf qd) where
 irrefl x:=by rw[mg];exact mf x
 trans x y z h1 h2:=by rw[mg]at *;exact yv h1 h2
 ntrans x y z h1 h2:=by
  rw[mg]at *
  cases h:ltS x z
  ·rfl
  ·rcases uQ x y with h3|rfl|h3
   ·rw[h3]at h1;cases h1
   ·rw[h]at h2;cases h2
   ·have:=yv h3 h
    rw[this]at h2;cases h2
theorem XB(x y:Sy)(h1:ltOf qd x y=false)(h2:ltOf qd y x=false):x=y:=by
 rw[mg]at *
 rcases uQ x y with h|h|h
 ·rw[h]at h1;cases h1
 ·exact h
 ·rw[h]at h2;cases h2
def leS(x y:Sy):Prop:=ltS y x=false
theorem Ru{x y z:Sy}(h1:leS x y)(h2:leS y z):leS x z:=by
 have:=Rt.ntrans z y x
 rw[mg,mg,mg]at this
 exact this h2 h1
theorem rO(x:Sy):∀ l,(C2 x l).Perm (x::l)
 |[]=>.refl _
 |y::l=>by
  unfold C2
  cases ltS y x
  ·exact .refl _
  ·exact((rO x l).cons y).trans (.swap x y l)
theorem gu:∀ l,(gS l).Perm l
 |[]=>.refl _
 |x::l=>(rO x _).trans ((gu l).cons x)
theorem sP(x:Sy):∀ l,l.Pairwise leS->(C2 x l).Pairwise leS
 |[],_=>by simp[C2]
 |y::l,h=>by
  obtain⟨h1,h2⟩:=dC.1 h
  unfold C2
  cases hy:ltS y x
  ·refine dC.2 ⟨λz hz=>?_,h⟩
   rcases ay.1 hz with rfl|hz
   ·exact hy
   ·exact Ru hy (h1 z hz)
  ·refine dC.2 ⟨λz hz=>?_,sP x l h2⟩
   rcases ay.1 ((rO x l).mem_iff.1 hz)with rfl|hz
   ·show ltS z y=false
    cases h':ltS z y
    ·rfl
    ·exact(yw hy h').elim
   ·exact h1 z hz
theorem mh:∀ l,(gS l).Pairwise leS
 |[]=>.nil
 |x::l=>sP x _ (mh l)
theorem Ry(l:List Sy):(l.mergeSort λx y=>!(ltOf qd) y x)=gS l:=by
 have hp:=List.pairwise_mergeSort (le:=λx y=>!(ltOf qd) y x) (λa b c h1 h2=>by
  simp only[bx]at *
  exact Rt.ntrans _ _ _ h2 h1) (λa b=>by
  simp only[mg]
  rcases uQ a b with h|rfl|h
  ·have:ltS b a=false:=by
    cases h':ltS b a
    ·rfl
    ·exact(yw h h').elim
   simp[this]
  ·simp[mf]
  ·have:ltS a b=false:=by
    cases h':ltS a b
    ·rfl
    ·exact(yw h h').elim
   simp[this]) l
 refine List.Perm.eq_of_pairwise (le:=leS) (λa b _ _ h1 h2=>?_) (hp.imp λ{a b} h=>?_) (mh l) ((List.mergeSort_perm l _).trans (gu l).symm)
 ·unfold leS at h1 h2
  rcases uQ a b with h|h|h
  ·rw[h]at h2;cases h2
  ·exact h
  ·rw[h]at h1;cases h1
 ·simp only[mg,bx]at h
  exact h
set_option maxHeartbeats 1000000 in
theorem Ut(x y:Sy)(W:World):Calls Tryz.prog 103 #[.agg #[.bool x.1,.int .i64 x.2],.agg #[.bool y.1,.int .i64 y.2]] W λe w'=>e=.returned (.int .i64 (qd x y))/\∃ q os',w'=grow (W.drewN q) os':=by
 have mixed:Tryz.prog.follows .mixedOrders=true:=by kernel_rfl
 obtain⟨a,b⟩:=x
 obtain⟨c,d⟩:=y
 have fin:∀ (v:Int),v=qd (a,b) (c,d)->∀ W',(∃ q os',W'=grow (W.drewN q) os')->(Ending.returned (Value.int .i64 v)=.returned (.int .i64 (qd (a,b) (c,d)))/\∃ q os',W'=grow (W.drewN q) os'):=λv hv W' hw=>⟨by rw[hv],hw⟩
 have two:∀ o1 o2:Obj,∃ q os',(W.alloc o1).alloc o2=grow (W.drewN q) os':=λo1 o2=>⟨0,_,by rw[alloc_eq_grow,alloc_eq_grow,grow_grow];rfl⟩
 rcases Int.lt_trichotomy b d with h1|rfl|h1
 ·have h2:¬d<b:=by omega
  cases a <;> cases c
  all_goals (go_enter Tryz.func103,Tryz.ntmps103)
  all_goals go_wp2
  all_goals go_ret
  all_goals (refine fin _ ?_ _ (two _ _))
  all_goals (simp[qd,h1,h2])
 ·cases a <;> cases c
  all_goals (go_enter Tryz.func103,Tryz.ntmps103)
  all_goals go_wp2
  all_goals go_ret
  all_goals (refine fin _ ?_ _ (two _ _))
  all_goals (simp[qd])
 ·have h2:¬b<d:=by omega
  cases a <;> cases c
  all_goals (go_enter Tryz.func103,Tryz.ntmps103)
  all_goals go_wp2
  all_goals go_ret
  all_goals (refine fin _ ?_ _ (two _ _))
  all_goals (simp[qd,h1,h2])
def syL(xs:List Sy):List Value:=xs.flatMap kH
theorem Eg:∀ xs,(syL xs).length=xs.length*2
 |[]=>rfl
 |x::xs=>by
  show(kH x++syL xs).length=_
  rw[aj,Eg xs,aM]
  show 2+_=_
  omega
theorem JT(x:Sy):∀ v∈kH x,v.oneCell'=true:=λv h=>by
 simp only[kH,ay,bX,or_false]at h
 rcases h with rfl|rfl <;> rfl
theorem Eh:∀ (xs:List Sy) (t:Nat),t<xs.length*2->(syL xs)[t]?=some ((kH xs[t / 2]!)[t % 2]!)
 |[],t,h=>by simp at h
 |x::xs,0,h=>rfl
 |x::xs,1,h=>rfl
 |x::xs,t+2,h=>by
  show(kH x++syL xs)[t+2]?=_
  rw[List.getElem?_append_right (by show 2<=_;omega),show t+2-(kH x).length=t by show t+2-2=t;omega,Eh xs t (by rw[aM]at h;omega),show(t+2) / 2=t / 2+1 by omega,show(t+2) % 2=t % 2 by omega]
  rfl
theorem A2(xs:List Sy)(t:Nat)(h:t<xs.length*2):(syL xs)[t]?=some ((flatK kH 2 xs.toArray)[t]!):=by
 rw[get_flatK kH 2 xs.toArray t (by simpa using h),Eh xs t h]
 simp
theorem Rz{F:af}{w:World}{m:Md}{x:Sy}{cs:List Value}{S:af}(h:Rep F w y62 m x cs S):cs=kH x/\inK .i64 x.2:=by
 obtain⟨c1,c2,S1,S2,rfl,rfl,⟨rfl,k⟩,_⟩:=h
 exact⟨rfl,k⟩
theorem RA{F:af}{w:World}{m:Md}{x:Sy}(h:inK .i64 x.2):Rep F w y62 m x (kH x) af.none:=
 ⟨[_],[_],af.none,af.none,rfl,rfl,⟨rfl,h⟩,Sub.refl _,Sub.refl _,λ_ h=>h.elim⟩
theorem Ei{F:af}{w:World}{m:Md}:∀ {xs:List Sy} {cs:List Value} {S:af},bp (Rep F w y62 m) xs cs S->cs=syL xs/\∀ x∈xs,inK .i64 x.2
 |[],cs,S,h=>⟨h,λx hx=>by cases hx⟩
 |x::xs,cs,S,h=>by
  obtain⟨c1,c2,S1,S2,rfl,h1,h2,_⟩:=h
  obtain⟨rfl,k1⟩:=Rz h1
  obtain⟨rfl,k2⟩:=Ei h2
  exact⟨rfl,λy hy=>by rcases ay.1 hy with rfl|hy;exact k1;exact k2 y hy⟩
theorem Ej{F:af}{w:World}{m:Md}:∀ {xs:List Sy},(∀ x∈xs,inK .i64 x.2)->bp (Rep F w y62 m) xs (syL xs) af.none
 |[],_=>rfl
 |x::xs,h=>⟨_,_,af.none,af.none,rfl,RA (h x bm),Ej (λy hy=>h y (bw _ hy)),Sub.refl _,Sub.refl _,λ_ h=>h.elim⟩
def C3(n:Nat)(x:List Sy×(Unit×Unit)):Option (Unit×(List Sy×Unit)):=if x.1.length<4611686018427387904 then some ((),(gS x.1,()))else none
theorem JU:Plain Tryz.prog 102:=⟨_,Tryz.func102,by kernel_rfl,by kernel_rfl⟩
theorem XC(x:Sy):(kH x).length=2:=rfl
theorem NX(xs:List Sy)(off:Nat)(c:Array Value)(h:off+xs.length*2<=c.size):((putCells id off (flatK kH 2 xs.toArray) c).toList.drop off).take (xs.length*2)=syL xs:=by
 apply List.ext_getElem?
 intro t
 rw[List.getElem?_take]
 split
 ·rename_i ht
  rw[List.getElem?_drop,Array.getElem?_toList,A2 xs t ht]
  unfold putCells
  rw[Array.getElem?_mapIdx,Array.getElem?_eq_getElem (by omega)]
  simp only[cT,id]
  rw[if_pos ⟨by omega,by simp;omega⟩,show off+t-off=t by omega]
 ·rename_i ht
  exact(List.getElem?_eq_none (by rw[Eg];omega)).symm
set_option maxRecDepth 100000 in
set_option maxHeartbeats 1000000 in
theorem Uu(N:Nat):fR Tryz.prog 102 ⟨[(y77,.own .ro),(.fn 103,.ro)],[],[0],[(y77,.own .ro)],C3 N⟩:=by
 rintro⟨xs,z,u⟩ r hd F w S args jW hSF hF hS _
 have hd2:C3 N (xs,z,u)=some r:=hd
 unfold C3 at hd2
 split at hd2
 case isFalse=>cases hd2
 rename_i yp
 have yp:List.length (xs:List Sy)<4611686018427387904:=yp
 have hd3:((),(gS xs,()))=r:=cu hd2
 subst hd3
 obtain⟨v1,vs1,cs1,S1,S2,rfl,hr1,hv1,⟨v2,vs2,cs2,S3,S4,rfl,hr2,hv2,h4,s3,s4,d3⟩,s1,s2,d⟩:=jW
 cases h4
 have XD:cs2=[.func (.func 103) #[] #[]]:=hr2
 subst XD
 have XE:v2=.func (.func 103) #[] #[]:=by simp[VR,Ty.agg]at hv2;exact hv2.1.symm
 subst XE
 obtain⟨a,cp,e0,h1,h2,h3⟩:=hr1
 subst e0
 have Rs:v1=.slice a (List.length (xs:List Sy)) cp:=by simp[VR,Ty.agg]at hv1;exact hv1.1.symm
 subst Rs
 have h1:List.length (xs:List Sy)<=cp:=h1
 have hlen:(gS xs).length=(xs:List Sy).length:=(gu xs).length_eq
 have fin:∀ (w':World),w'.os=w.os->w'.tape=w.tape->w'.output=w.output->w.heap.size<=w'.heap.size->(∀ k,k<w.heap.size->¬S k->w'.heap[k]?=w.heap[k]?)->
  Rep F w' (.sl y62) (.own .ro) (gS xs) [.slice a (List.length (xs:List Sy)) cp] S1->
  ul ⟨[(y77,.own .ro),(.fn 103,.ro)],[],[0],[(y77,.own .ro)],C3 N⟩ ((),(gS xs,())) F w S [.slice a (List.length (xs:List Sy)) cp,.func (.func 103) #[] #[]] (.returned (.tuple #[])) w':=by
  intro w' q1 q2 q3 q4 q5 bF
  refine⟨[],F,af.none,S1,rfl,rfl,⟨_,[],_,S1,af.none,rfl,bF,by simp[VR,Ty.agg,Value.oneCell'],rfl,Sub.refl _,λ_ h=>h.elim,λ_ _ h=>h.elim⟩,λ_ h=>h.elim,⟨q1,q2,q3,q4,q5⟩,Sub.refl _,λk hk=>bA (hF k hk) q4,λk hk _ _=>hk,?_⟩
  rintro k (hk|hk)
  ·exact hk.elim
  ·exact⟨bA (hS k (s1 k hk)) q4,λhf=>hSF k (s1 k hk) hf,λ_=>s1 k hk⟩
 rcases h3 with rfl|⟨b,off,c,e,rfl,hb,hc,hSb,S0,hr,hS0,hnb⟩
 ·have e0:(xs:List Sy)=[]:=kM.1 (by omega)
  subst e0
  refine(AnyF.slices_SortFunc_none Tryz.sort_lays a 0 (.func (.func 103) #[] #[]) w).mono λe W he=>?_
  obtain⟨rfl,rfl⟩:=he
  exact fin W rfl rfl rfl (ar _) (λ_ _ _=>rfl) ⟨a,0,rfl,ar _,h2,.inl rfl⟩
 ·obtain⟨fB,hxk⟩:=Ei (F:=F) (w:=w) (m:=.ro) hr
  have fB:(c.toList.drop off).take ((xs:List Sy).length*2)=syL xs:=fB
  have hc:off+cp*2<=c.size:=hc
  have hxc:off+(xs:List Sy).length*2<=c.size:=by omega
  have hbw:b<w.heap.size:=hS b (s1 b hSb)
  have hH:HoldsK kH 2 w b off (xs:List Sy).toArray:=by
   intro j hj
   have hj:j<(xs:List Sy).length*2:=by simpa using hj
   refine⟨?_,Mark.frz (e:=e) hb rfl (by show off+j<c.size;omega)⟩
   have:=A2 xs j hj
   rw[<-fB,List.getElem?_take,if_pos hj,List.getElem?_drop,Array.getElem?_toList]at this
   simp only[World.cell?,hb,id]
   exact this
  have eg:∀ args w,(callFunc 103 args).run Tryz.prog w=.ok (.enter 103 args) w:=enters_of Tryz.func103 (by kernel_rfl) rfl
  have XF:=AnyQ.slices_SortFunc_total Tryz.sort_lays 2 Tryz.isAgg63 Tryz.sizeOf63 kH XC JT qd Rt 103 #[] b off cp (xs:List Sy).toArray w eg (λ_ _ _ _ x y=>Ut x y _) hH hbw (by simpa using yp) XB
  refine XF.mono λe' W he=>?_
  obtain⟨rfl,n,os,rfl⟩:=he
  rw[show(xs:List Sy).toArray.toList=xs by simp,Ry]
  have hh:∀ k:Nat,(sortWorldK kH 2 w b off n (gS xs).toArray os).heap[k]?=((w.heap.modify b (onCells (putCells id off (flatK kH 2 (gS xs).toArray))))++os)[k]?:=λk=>rfl
  refine fin _ rfl rfl rfl ?_ (λk hk hs=>?_) ?_
  ·show w.heap.size<=((w.heap.modify b _)++os).size
   simp
  ·have hkb:b≠k:=λh=>hs (h ▸ s1 b hSb)
   rw[hh,Array.getElem?_append_left (by simpa using hk),Array.getElem?_modify,if_neg hkb]
  ·have s8:(sortWorldK kH 2 w b off n (gS xs).toArray os).heap[b]?=some (.cells (putCells id off (flatK kH 2 (gS xs).toArray) c) e.t (e.a,e.b)):=by
    rw[hh,Array.getElem?_append_left (by simpa using hbw),Array.getElem?_modify,if_pos rfl,hb]
    rfl
   have hcs:(putCells id off (flatK kH 2 (gS xs).toArray) c).size=c.size:=by unfold putCells;simp
   refine⟨_,cp,by rw[hlen],by rw[hlen];exact h1,h2,.inr ⟨b,off,_,e.to (iy hcs),rfl,s8,by rw[hcs];exact hc,hSb,af.none,?_,λ_ h=>h.elim,λh=>h⟩⟩
   show bp _ _ (((putCells id off (flatK kH 2 (gS xs).toArray) c).toList.drop off).take ((gS xs).length*2)) _
   rw[NX (gS xs) off c (by rw[hlen];exact hxc)]
   exact Ej λx hx=>hxk x ((gu xs).mem_iff.1 hx)
def F102(n:Nat):Fb 102:=⟨_,Uu n,JU⟩
end
end Go.Proofs.YtphipehmbefejaaGreat.Rf
namespace Go.Proofs.YtphipehmbefejaaGreat.Rf
open Go
noncomputable section
def p95(v1:Nat)(v2:M9):T54:=ah (Hg v1 (v2.1,v2.2.1.1,())) (λ(v3:T53)=>av (λ(v4:T35)=>bif v4.2.1 then some (((false,0),false,()),())else Ld v3.1.1 v2.2.1.2.1 λv5=>some ((v5,true,()),())) (λv6=>bif !v3.1.2.1 then v6 (((false,0),()),true,())else Bd (v2.2.1.2.1<0) (v6 (((false,0),()),true,())) (v6 (((false,0),()),decide ((v3.1.1.length:Int)<=v2.2.1.2.1),()))))
def F95(n:Nat):Fb 95:=fb n [⟨_,F106 n⟩] [12] [] [] Tryz.func95 Tryz.results95 Tryz.ntmps95 (.seq (rn_ [2,3]) (sn_ (.seq (.seq (rs_ ⟨[(32,.box y62,.own Q1_)],[.val 28 y4],[3,4,6]⟩ []) .nop) (.seq (rn_ [4]) .nop)))) A6 [(y62,.ro),(y4,.ro)] [] [] (p95 n)
def p99(v1:Nat)(v2:T24):T64:=aD (λ(v3:T56)=>λv4=>Bd (v3.2.2.1<(v2.1.length:Int)) (av (λ(v5:T40)=>v4 ((),v5.2.1,Wi (v3.2.2.1+1),())) (λv6=>Ld v2.1 v3.2.2.1 λv7=>ah (NT v1 (v3.2.1,v7,(),())) (λ(v8:T13)=>bif v8.1.2.1 then Ld v3.2.1 v8.1.1 λv9=>Ld v3.2.1 v8.1.1 λv10=>Ld v3.2.1 v8.1.1 λv11=>v6 ((),List.set v3.2.1 (v8.1.1).toNat (v11.1,v11.2.1,dK .or .u64 v9.2.2 v7.2.2),())else ah (AZ v1 (v3.2.1,v8.1.1,([v7]:List U9),())) (λ(v12:T48)=>v6 ((),v12.1.1,()))))) (some ((v3.2.1,()),()))) v1 ((),([]:List U9),0,())
def F99(n:Nat):Fb 99:=fb n [⟨_,F163 n⟩,⟨_,F164 n⟩,⟨_,F165 n⟩] [] [] [] Tryz.func99 Tryz.results99 Tryz.ntmps99 (sn_ (sn_ (.seq (sn_ (bk_ ⟨[],[.hdr 3 31 fx mo_,.val 10 y2],[8,9]⟩ (sn_ (sn_ (.seq (.block (some ⟨[],[.hdr 3 31 fx mo_],[8,9,10]⟩) (.seq (rn_ [5]) .nop)) .nop))))) .nop))) A16 A16 [] [] (p99 n)
def p47(v1:Nat)(v2:(U1×U28×U3×Unit)):T64:=if 0<=(v2.1.2.2.1.length:Int)/\(v2.1.2.2.1.length:Int)<=(v2.1.2.2.1.length:Int)then if(v2.1.2.2.1.length:Int).toNat*1<=140737488355328 then if 0<=(v2.1.2.2.1.length:Int)/\(v2.1.2.2.1.length:Int)<=(v2.1.2.2.1.length:Int)then if(v2.1.2.2.1.length:Int).toNat*8<=140737488355328 then ah (p94 v1 (v2.2.2.1,())) (λ(v3:T48)=>aD (λ(v4:Q7)=>λv5=>Bd (0<(v4.1.1.2.2.2.2.length:Int)) (if(0:Int)<=(0:Int)then(match v4.1.1.2.2.2.2[(0:Int).toNat]? with|some v6=>if(0:Int)<=(1:Int)/\(1:Int)<=(v4.1.1.2.2.2.2.length:Int)/\(v4.1.1.2.2.2.2.length:Int)<=(v4.1.1.2.2.2.2.length:Int)then ah (p95 v1 (v2.1,v6,())) (λ(v7:T36)=>av (λ(v8:TZ)=>av (λ(v9:Q7)=>v5 ((v9.1.1,()),())) (λv10=>bif v8.2.1 then ah (p98 v1 (v2.1,v6,())) (λ(v11:T38)=>ah (p97 v1 (v2.2.1,v11.1.1,v6.2.2,())) (λ(v12:T7)=>ah (p96 v1 (v8.1.1,v7.1.1.2,v12.1.1,())) (λ(v13:(Unit×U16×Unit))=>v10 ((v13.2.1,()),()))))else v10 ((v8.1.1,()),()))) (λv14=>bif v7.1.2.1 then v14 (((v4.1.1.1,v4.1.1.2.1,v4.1.1.2.2.1,v4.1.1.2.2.2.1,cC v4.1.1.2.2.2.2 (1:Int) (v4.1.1.2.2.2.2.length:Int)),()),v7.1.1.1,())else v14 (((v4.1.1.1,v4.1.1.2.1,v4.1.1.2.2.1,v4.1.1.2.2.2.1,cC v4.1.1.2.2.2.2 (1:Int) (v4.1.1.2.2.2.2.length:Int)),()),false,())))else none|none=>none)else none) (ah (p94 v1 (v2.2.2.1,())) (λ(v15:T48)=>aD (λ(v16:T56)=>λv17=>Bd (v16.2.2.1<(v4.1.1.2.2.1.length:Int)) (Ld v4.1.1.2.2.1 v16.2.2.1 λv18=>av (λ(v19:T40)=>v17 ((),v19.2.1,Wi (v16.2.2.1+1),())) (λv20=>bif v18 then Ld v4.1.1.2.2.2.1 v16.2.2.1 λv21=>Ap 24 (List.length v16.2.1+List.length ([(v16.2.2.1,0,v21)]:List U9)) (v20 ((),v16.2.1++([(v16.2.2.1,0,v21)]:List U9),()))else v20 ((),v16.2.1,()))) (ah (p99 v1 (v16.2.1,())) (λ(v22:T48)=>some ((v22.1.1,()),())))) v1 ((),v15.1.1,0,())))) v1 (((v2.1,v2.2.1,List.replicate (v2.1.2.2.1.length:Int).toNat false,List.replicate (v2.1.2.2.1.length:Int).toNat (0:Int),v3.1.1),()),()))else none else none else none else none
def F47(n:Nat):Fb 47:=fb n [⟨_,F94 n⟩,⟨_,F95 n⟩,⟨_,F98 n⟩,⟨_,F97 n⟩,⟨_,F96 n⟩,⟨_,F99 n⟩] [26,65,69] [] [] Tryz.func47 Tryz.results47 Tryz.ntmps47 (.seq (rn_ [3,4]) (sn_ (.seq (bk_ ⟨Ra,[],[2,3,4,7]⟩ (sn_ (.block none (.seq (rn_ [8]) (sn_ (.seq (rn_ [9]) (.seq (rs_ ⟨Ra,[.val 58 y4],[2,3,4,7,8,9]⟩ []) (cs_ ⟨Ra,[],[2,3,4,7]⟩ .nop .nop)))))))) (.seq (rn_ [7]) (.seq (sn_ (bk_ ⟨[],[.hdr 11 95 fx mo_,.val 77 y2],[7,75,76]⟩ (sn_ (sn_ (.seq (.block none (sn_ (sn_ (cs_ ⟨[],[.hdr 11 95 fx mo_],[7,75,76,77]⟩ .nop .nop)))) .nop))))) .nop))))) [(y32,.ro),(CR,.ro),(fx,.ro)] A16 [] [] (p47 n)
def XG(v1:Nat)(v2:(U5×U5×Unit)):T14:=av (λ(v3:T5)=>bif v3.2.1 then some ((-1,()),())else av (λ(v4:T5)=>bif v4.2.1 then some ((1,()),())else Bd (v2.1.2<v2.2.1.2) (some ((-1,()),())) (some ((0,()),()))) (λv5=>bif !(v2.1.1 == v2.2.1.1)then v5 ((),true,())else v5 ((),decide (v2.2.1.2<v2.1.2),()))) (λv6=>bif !(v2.1.1 == v2.2.1.1)then v6 ((),v2.2.1.1,())else v6 ((),false,()))
def F103(n:Nat):Fb 103:=fb n [] [] [] [] Tryz.func103 Tryz.results103 Tryz.ntmps103 (.seq (rn_ [2,3]) (.seq (.block none (.seq (rs_ ⟨[],[.val 5 y4],[2,3]⟩ []) (.cond none .nop (.seq (rs_ ⟨[],[.val 15 y4],[2,3]⟩ []) .nop)))) .nop)) [(y62,.ro),(y62,.ro)] A20 [] [] (XG n)
def p49(v1:Nat)(v2:Q6):T55:=aD (λ(v3:T44)=>λv4=>Bd (v3.2.2.1<(v2.2.1.length:Int)) (Ld v2.2.1 v3.2.2.1 λv5=>ah (p95 v1 (v2.1,v5,())) (λ(v6:T36)=>av (λ(v7:((U17×Unit)×Bool×Unit))=>av (λ(v8:T32)=>v4 ((),v8.2.1,Wi (v3.2.2.1+1),())) (λv9=>bif v7.2.1 then Ap 16 (List.length v7.1.1+List.length ([v6.1.1]:List U5)) (v9 ((),v7.1.1++([v6.1.1]:List U5),()))else v9 ((),v7.1.1,()))) (λv10=>bif v6.1.2.1 then ah (NV v1 (v3.2.1,v6.1.1,())) (λ(v11:T9)=>v10 ((v3.2.1,()),!v11.1.1,()))else v10 ((v3.2.1,()),false,())))) (ah (C3 v1 (v3.2.1,(),())) (λ(v12:T32)=>some ((v12.2.1,()),())))) v1 ((),([]:List U5),0,())
def F49(n:Nat):Fb 49:=fb n [⟨_,F95 n⟩,⟨_,F101 n⟩,⟨_,F102 n⟩,⟨_,F103 n⟩] [] [] [] Tryz.func49 Tryz.results49 Tryz.ntmps49 (.seq (rn_ [2]) (sn_ (.seq (sn_ (bk_ ⟨[],[.hdr 5 47 y77 mo_,.val 12 y2],[2,10,11]⟩ (sn_ (sn_ (.seq (.block none (.seq (rn_ [7]) (.seq (rn_ [8]) (.seq (rs_ ⟨[(47,y77,mo_)],[.val 28 y4],[2,5,8,10,11,12]⟩ []) (cs_ ⟨[],[.hdr 5 47 y77 mo_],[2,10,11,12]⟩ .nop .nop))))) .nop))))) .nop))) A7 [(y77,.ro)] [] [] (p49 n)
def p50(v1:Nat)(v2:TX):T64:=aD (λ(v3:T56)=>λv4=>Bd (v3.2.2.1<(v2.2.1.length:Int)) (Ld v2.2.1 v3.2.2.1 λv5=>ah (p95 v1 (v2.1,v5,())) (λ(v6:T36)=>av (λ(v7:T77)=>av (λ(v8:T40)=>v4 ((),v8.2.1,Wi (v3.2.2.1+1),())) (λv9=>bif v7.2.1 then Ap 24 (List.length v7.1.1+List.length ([(v7.1.2.1.1,Wi (v7.1.2.1.2.1+1),v7.1.2.1.2.2)]:List U9)) (v9 ((),v7.1.1++([(v7.1.2.1.1,Wi (v7.1.2.1.2.1+1),v7.1.2.1.2.2)]:List U9),()))else v9 ((),v7.1.1,()))) (λv10=>bif v6.1.2.1 then v10 ((v3.2.1,v5,()),bif v6.1.1.1 == v2.2.2.1.1 then decide (v6.1.1.2=v2.2.2.1.2)else false,())else v10 ((v3.2.1,v5,()),false,())))) (ah (p99 v1 (v3.2.1,())) (λ(v11:T48)=>some ((v11.1.1,()),())))) v1 ((),([]:List U9),0,())
def F50(n:Nat):Fb 50:=fb n [⟨_,F95 n⟩,⟨_,F99 n⟩] [] [] [⟨_,JK⟩] Tryz.func50 Tryz.results50 Tryz.ntmps50 (.seq (rn_ [3,5]) (sn_ (.seq (sn_ (bk_ ⟨[],[.hdr 7 63 fx mo_,.val 14 y2],[3,5,12,13]⟩ (sn_ (sn_ (.seq (.block none (sn_ (.seq (rn_ [10]) (.seq (rs_ ⟨[(63,fx,mo_),(72,.box CQ,.own Js)],[.val 29 y4],[3,5,7,9,12,13,14]⟩ []) (cs_ ⟨[],[.hdr 7 63 fx mo_],[3,5,12,13,14]⟩ (sn_ (.rgf none [9] [])) .nop))))) .nop))))) .nop))) [(y32,.ro),(fx,.ro),(y62,.ro)] A16 [] [] (p50 n)
def p12(v1:Nat)(v2:pu):Option ((U8×Int×Unit)×Unit):=ah (p43 v1 (v2.1,())) (λ(v3:T27)=>bif !(decide (v3.1.1.1=0))then some (((([]:List U3),([]:List U22)),v3.1.1.1,()),())else ah (p44 v1 (v2.1,())) (λ(v4:((U28×Unit)×Unit))=>ah (p48 v1 (v2.1,())) (λ(v5:T48)=>ah (p47 v1 (v2.1,v4.1.1,v5.1.1,())) (λ(v6:T48)=>ah (p45 v1 (v6.1.1,([]:List (U0×Int)),(([]:List U3),([]:List U22)),())) (λ(v7:TP)=>aD (λ(v8:((U8×U8×U19×Unit)×Int×Unit))=>λv9=>Bd (v8.2.1<(v8.1.2.1.1.length:Int)) (Bd (2000<(v8.1.2.1.1.length:Int)) (some (((([]:List U3),([]:List U22)),6,()),())) (Ld v8.1.2.1.1 v8.2.1 λv10=>ah (p49 v1 (v2.1,v10,())) (λ(v11:T38)=>aD (λ(v12:((U8×U8×U19×Unit)×U22×Int×Unit))=>λv13=>Bd (v12.2.2.1<(v11.1.1.length:Int)) (Ld v11.1.1 v12.2.2.1 λv14=>Ld v12.1.2.1.1 v8.2.1 λv15=>ah (p50 v1 (v2.1,v15,v14,())) (λ(v16:T48)=>ah (p47 v1 (v2.1,v4.1.1,v16.1.1,())) (λ(v17:T48)=>ah (p45 v1 (v17.1.1,v12.1.2.2.1,v12.1.2.1,())) (λ(v18:TP)=>Ap 24 (List.length v12.2.1+List.length ([(v14,v18.1.1)]:List (U5×Int))) (v13 ((v12.1.1,v18.2.2.1,v18.2.1,()),v12.2.1++([(v14,v18.1.1)]:List (U5×Int)),Wi (v12.2.2.1+1),())))))) (Ap 24 (List.length v12.1.2.1.2+List.length ([v12.2.1]:List U22)) (v9 ((v12.1.1,(v12.1.2.1.1,v12.1.2.1.2++([v12.2.1]:List U22)),v12.1.2.2.1,()),Wi (v8.2.1+1),())))) v1 ((v8.1.1,v8.1.2.1,v8.1.2.2.1,()),([]:List (U5×Int)),0,())))) (some ((v8.1.2.1,0,()),()))) v1 (((([]:List U3),([]:List U22)),v7.2.2.1,v7.2.1,()),0,()))))))
def F12(n:Nat):Fb 12:=fb n [⟨_,F43 n⟩,⟨_,F44 n⟩,⟨_,F45 n⟩,⟨_,F48 n⟩,⟨_,F47 n⟩,⟨_,F49 n⟩,⟨_,F50 n⟩] [18,22,29,30,31,43,50,68,69,70] [] [] Tryz.func12 Tryz.results12 Tryz.ntmps12 (.seq (rn_ [1]) (.seq (.seq (rn_ [4]) .nop) (.seq (rn_ [5]) (sn_ (sn_ (sn_ (sn_ (.seq (sn_ (bk_ ⟨Ua,[.val 9 y2],[1,2,5,6,8]⟩ (sn_ (.seq (.block none (sn_ (sn_ (.seq (sn_ (bk_ ⟨Ua,[.hdr 10 87 Q4 mo_,.val 52 y2],[1,2,5,6,8,9,50,51]⟩ (sn_ (sn_ (.seq (.block none (.seq (rn_ [12]) .nop)) .nop))))) (.rgf none [10] []))))) .nop)))) (.seq (.rgf none [6] [2]) .nop))))))))) A17 [(y43,.ro),(y2,.ro)] [] [] (p12 n)
def p14(v1:Nat)(v2:(U8×Unit)):T14:=some (((v2.1.1.length:Int),()),())
def F14(n:Nat):Fb 14:=fb n [] [] [] [] Tryz.func14 Tryz.results14 Tryz.ntmps14 (.seq (rn_ [1]) .nop) [(y43,.ro)] A20 [] [] (p14 n)
def p52(v1:Nat)(v2:M9):T16:=ah (Hg v1 (v2.1,v2.2.1.1,())) (λ(v3:T53)=>av (λ(v4:T5)=>some ((v4.2.1,()),())) (λv5=>bif v3.1.2.1 then v5 ((),decide (v2.2.1.2.1=(v3.1.1.length:Int)),())else v5 ((),false,())))
def F52(n:Nat):Fb 52:=fb n [⟨_,F106 n⟩] [11] [] [] Tryz.func52 Tryz.results52 Tryz.ntmps52 (.seq (rn_ [2,3]) (sn_ (.seq (rs_ ⟨[],[.val 4 y4],[]⟩ []) .nop))) A6 A19 [] [] (p52 n)
def p15(v1:Nat)(v2:(U8×U1×Int×Unit)):Option (U33×Unit):=av (λ(v3:T5)=>bif v3.2.1 then some ((([]:List Int),([]:List Int),()),())else Ld v2.1.1 v2.2.2.1 λv4=>aD (λ(v5:(Unit×U0×U0×Int×Unit))=>λv6=>Bd (v5.2.2.2.1<(v4.length:Int)) (Ld v4 v5.2.2.2.1 λv7=>ah (p52 v1 (v2.2.1,v7,())) (λ(v8:T9)=>av (λ(v9:(Unit×U0×U0×Unit))=>v6 ((),v9.2.1,v9.2.2.1,Wi (v5.2.2.2.1+1),())) (λv10=>bif v8.1.1 then Ap 8 (List.length v5.2.1+List.length ([v7.1]:List Int)) (Ap 8 (List.length v5.2.2.1+List.length ([v7.2.2]:List Int)) (v10 ((),v5.2.1++([v7.1]:List Int),v5.2.2.1++([v7.2.2]:List Int),())))else v10 ((),v5.2.1,v5.2.2.1,())))) (some ((v5.2.1,v5.2.2.1,()),()))) v1 ((),([]:List Int),([]:List Int),0,())) (λv11=>Bd (v2.2.2.1<0) (v11 ((),true,())) (v11 ((),decide ((v2.1.1.length:Int)<=v2.2.2.1),())))
def F15(n:Nat):Fb 15:=fb n [⟨_,F52 n⟩] [] [] [] Tryz.func15 Tryz.results15 Tryz.ntmps15 (.seq (rn_ [3,4]) (sn_ (sn_ (.seq (.seq (rs_ ⟨[],[.val 20 y4],[2,3,4,8,9]⟩ []) .nop) (.seq (sn_ (bk_ ⟨[],[.hdr 8 71 y53 mo_,.hdr 9 79 y54 mo_,.val 27 y2],[4,25,26]⟩ (sn_ (sn_ (.seq (.block none (.seq (rn_ [11]) (sn_ (cs_ ⟨[],[.hdr 8 71 y53 mo_,.hdr 9 79 y54 mo_],[4,25,26,27]⟩ .nop .nop)))) .nop))))) .nop))))) [(y43,.ro),(y32,.ro),(y2,.ro)] [(y53,.ro),(y54,.ro)] [] [] (p15 n)
def NY(v1:Nat)(v2:T3):T16:=ah (Hf v1 (v2.2.1,())) (λ(v3:T7)=>some ((!(decide ((dK .and .u64 v2.1 v3.1.1)=0)),()),()))
def F169(n:Nat):Fb 169:=fb n [⟨_,F100 n⟩] [] [] [] Tryz.func169 Tryz.results169 Tryz.ntmps169 (.nop) [(y12,.ro),(y2,.ro)] A19 [] [] (NY n)
def NZ(v1:Nat)(v2:T1):T33:=aD (λ(v3:T19)=>λv4=>Bd (v3.2.2.1<=63) (ah (NY v1 (v2.1,v3.2.2.1,())) (λ(v5:T9)=>av (λ(v6:(Unit×U0×Unit))=>v4 ((),v6.2.1,Wi (v3.2.2.1+1),())) (λv7=>bif v5.1.1 then Ap 8 (List.length v3.2.1+List.length ([v3.2.2.1]:List Int)) (v7 ((),v3.2.1++([v3.2.2.1]:List Int),()))else v7 ((),v3.2.1,())))) (some ((v3.2.1,()),()))) v1 ((),([]:List Int),0,())
def F104(n:Nat):Fb 104:=fb n [⟨_,F169 n⟩] [] [] [] Tryz.func104 Tryz.results104 Tryz.ntmps104 (sn_ (sn_ (.seq (sn_ (bk_ ⟨[],[.hdr 3 31 y53 mo_,.val 4 y2],[0]⟩ (sn_ (.seq (.block none (sn_ (cs_ ⟨[],[.hdr 3 31 y53 mo_],[0,4]⟩ .nop .nop))) .nop)))) .nop))) A18 [(y53,.ro)] [] [] (NZ n)
def Hi(v1:Nat)(v2:yl):T26:=aD (λ(v3:T4)=>λv4=>Bd (v3.2.1<(v2.1.2.2.2.1.length:Int)) (Ld v2.1.2.2.2.1 v3.2.1 λv5=>aD (λ(v6:T4)=>λv7=>Bd (v6.2.1<(v5.2.length:Int)) (Ld v5.2 v6.2.1 λv8=>Bd (v8=v2.2.1) (some ((Wi (v3.2.1+1),v5.1,()),())) (v7 ((),Wi (v6.2.1+1),()))) (v4 ((),Wi (v3.2.1+1),()))) v1 ((),0,())) (some ((0,0,()),()))) v1 ((),0,())
def F216(n:Nat):Fb 216:=fb n [] [] [] [] Tryz.func216 Tryz.results216 Tryz.ntmps216 (.seq (rn_ [2]) (.seq (sn_ (bk_ ⟨[],[.val 13 y2],[1,11,12]⟩ (sn_ (sn_ (.seq (.block none (.seq (rn_ [7]) (sn_ (bk_ ⟨[],[.val 21 y2],[1,6,7,11,12,13,19,20]⟩ .nop)))) .nop))))) .nop)) A11 A13 [] [] (Hi n)
def N2(v1:Nat)(v2:yl):T26:=av (λ(v3:T5)=>bif v3.2.1 then some ((0,0,()),())else Ld v2.1.2.2.1 v2.2.1 λv4=>Bd (0<=v4.2.2.2.2.1) (ah (Hi v1 (v2.1,v4.2.2.2.2.1,())) (λ(v5:T12)=>some ((v5.1.1,v5.1.2.1,()),()))) (aD (λ(v6:T4)=>λv7=>Bd (0<=v6.2.1) (av (λ(v8:T2)=>v7 ((),Wi (v6.2.1-1),())) (λv9=>Ld v4.2.2.1 v6.2.1 λv10=>bif v10.1 then v9 ((),())else Ld v4.2.2.1 v6.2.1 λv11=>ah (Hi v1 (v2.1,v11.2,())) (λ(v12:T12)=>Bd (0<v12.1.1) (some ((v12.1.1,v12.1.2.1,()),())) (v9 ((),()))))) (some ((0,0,()),()))) v1 ((),Wi ((v4.2.2.1.length:Int)-1),()))) (λv13=>Bd (v2.2.1<0) (v13 ((),true,())) (v13 ((),decide ((v2.1.2.2.1.length:Int)<=v2.2.1),())))
def F195(n:Nat):Fb 195:=fb n [⟨_,F216 n⟩] [] [] [] Tryz.func195 Tryz.results195 Tryz.ntmps195 (.seq (rn_ [2]) (.seq (.seq (rs_ ⟨[],[.val 18 y4],[1,2]⟩ []) .nop) (.seq (rn_ [6]) (sn_ (.seq (sn_ (bk_ ⟨[],[.val 7 y2],[2,6]⟩ (sn_ (.seq (.block (some ⟨[],[],[2,6,7]⟩) .nop) .nop)))) .nop))))) A11 A13 [] [] (N2 n)
def N3(v1:Nat)(v2:TS):T14:=ah (N2 v1 (v2.1,v2.2.1,())) (λ(v3:T12)=>ah (Hi v1 (v2.1,v2.2.2.1,())) (λ(v4:T12)=>av (λ(v5:T5)=>bif v5.2.1 then some ((3,()),())else Bd (v4.1.1<v3.1.1) (some ((1,()),())) (Bd (v3.1.1<v4.1.1) (some ((0,()),())) (Bd (v4.1.2.1=1) (some ((1,()),())) (Bd (v4.1.2.1=2) (some ((0,()),())) (some ((2,()),())))))) (λv6=>Bd (v3.1.1=0) (v6 ((),true,())) (v6 ((),decide (v4.1.1=0),())))))
def F170(n:Nat):Fb 170:=fb n [⟨_,F195 n⟩,⟨_,F216 n⟩] [] [] [] Tryz.func170 Tryz.results170 Tryz.ntmps170 (.seq (rn_ [3]) (sn_ (sn_ (.seq (.block none (.seq (rs_ ⟨[],[.val 23 y4],[7,9,10]⟩ []) .nop)) .nop)))) [(y32,.ro),(y2,.ro),(y2,.ro)] A20 [] [] (N3 n)
def N4(v1:Nat)(v2:(U1×Int×Int×U23×U23×Unit)):Option ((U23×U21×Unit)×Unit):=Bd (v2.2.2.2.1.1=0) (some ((v2.2.2.2.2.1,([]:List U4),()),())) (av (λ(v3:((U23×U4×Unit)×Unit))=>some ((v2.2.2.2.1,([(v3.1.2.1.1,v3.1.2.1.2.1,v3.1.2.1.2.2.1,v3.1.2.1.2.2.2.1,v3.1.2.1.2.2.2.2.1,true)]:List U4),()),())) (λv4=>Bd (v2.2.2.2.1.1=1) (ah (N3 v1 (v2.1,v2.2.2.2.2.1.2,v2.2.2.1,())) (λ(v5:T7)=>Bd (v5.1.1=1) (some ((v2.2.2.2.2.1,([(v2.2.1,v2.2.2.1,v2.2.2.2.2.1.2,-1,2,false)]:List U4),()),())) (Bd (v5.1.1=2) (some (((0,0),([(v2.2.1,v2.2.2.1,v2.2.2.2.2.1.2,-1,0,false)]:List U4),()),())) (Bd (v5.1.1=0) (some ((v2.2.2.2.1,([(v2.2.1,v2.2.2.1,v2.2.2.2.2.1.2,-1,v2.2.2.2.1.1,false)]:List U4),()),())) (v4 (((0,0),(v2.2.1,v2.2.2.1,v2.2.2.2.2.1.2,-1,v2.2.2.2.1.1,false),()),())))))) (v4 (((0,0),(v2.2.1,v2.2.2.1,v2.2.2.2.1.2,v2.2.2.2.2.1.2,v2.2.2.2.1.1,false),()),()))))
def F105(n:Nat):Fb 105:=fb n [⟨_,F170 n⟩] [] [] [] Tryz.func105 Tryz.results105 Tryz.ntmps105 (.seq (rn_ [5,8,9]) (sn_ (.seq (sn_ (.block none (sn_ (.cond none .nop (sn_ (cs_ ⟨[(80,.box y57,.own Q1_),(96,.box y25,.own (.pr .ro (.pr .ro (.pr .ro Js))))],[],[8,10,12]⟩ .nop .nop)))))) (.seq (rn_ [12]) (.seq (rn_ [10]) .nop))))) [(y32,.ro),(y2,.ro),(y2,.ro),(y57,.ro),(y57,.ro)] [(y57,.ro),(y22,.ro)] [] [] (N4 n)
def p51(v1:Nat)(v2:(U1×U8×Int×Unit)):Option ((U11×U21×Unit)×Unit):=if 0<=(Wi ((v2.1.1.length:Int)+1))/\(Wi ((v2.1.1.length:Int)+1))<=(Wi ((v2.1.1.length:Int)+1))then if(Wi ((v2.1.1.length:Int)+1)).toNat*16<=140737488355328 then av (λ(v3:T51)=>bif v3.2.1 then some ((v3.1.1,([]:List U4),()),())else Ld v2.2.1.2 v2.2.2.1 λv4=>aD (λ(v5:(U32×Int×Unit))=>λv6=>Bd (v5.2.1<(v4.length:Int)) (Ld v4 v5.2.1 λv7=>av (λ(v8:T51)=>av (λ(v9:(U32×Unit))=>v6 ((v9.1.1,()),Wi (v5.2.1+1),())) (λv10=>bif v8.2.1 then Ld v8.1.1 v7.1.2 λv11=>Ld v8.1.1 v7.1.2 λv12=>v10 ((List.set v8.1.1 (v7.1.2).toNat (1,v7.2),()),())else v10 ((v8.1.1,()),()))) (λv13=>bif !v7.1.1 then v13 ((v5.1.1,()),decide (v7.1.2<(v2.1.1.length:Int)),())else v13 ((v5.1.1,()),false,()))) (ah (p15 v1 (v2.2.1,v2.1,v2.2.2.1,())) (λ(v14:T46)=>aD (λ(v15:T90)=>λv16=>Bd (v15.2.2.1<(v14.1.1.length:Int)) (Ld v14.1.1 v15.2.2.1 λv17=>av (λ(v18:((U21×U23×U11×Unit)×Unit))=>Ld v14.1.2.1 v15.2.2.1 λv19=>ah (NZ v1 (v19,())) (λ(v20:T15)=>aD (λ(v21:T90)=>λv22=>Bd (v21.2.2.1<(v20.1.1.length:Int)) (av (λ(v23:(U32×U21×Unit))=>v22 ((v23.1.1,()),v23.2.1,Wi (v21.2.2.1+1),())) (λv24=>Ld v20.1.1 v21.2.2.1 λv25=>av (λ(v26:((U21×U11×Unit)×Int×Unit))=>Bd ((v26.1.2.1.length:Int)<=v26.2.1) (v24 ((v26.1.2.1,()),v26.1.1,())) (Ld v26.1.2.1 v26.2.1 λv27=>ah (N4 v1 (v2.1,v2.2.2.1,v26.2.1,v27,v18.1.2.1,())) (λ(v28:((U23×U21×Unit)×Unit))=>Ld v26.1.2.1 v26.2.1 λv29=>Ld v26.1.2.1 v26.2.1 λv30=>Ap 48 (List.length v26.1.1+List.length v28.1.2.1) (v24 ((List.set v26.1.2.1 (v26.2.1).toNat v28.1.1,()),v26.1.1++v28.1.2.1,()))))) (λv31=>Bd (v25=63) (v31 ((v21.2.1,v21.1.1,()),(v2.1.1.length:Int),())) (v31 ((v21.2.1,v21.1.1,()),v25,()))))) (v16 ((v21.1.1,()),v21.2.1,Wi (v15.2.2.1+1),()))) v1 ((v18.1.2.2.1,()),v18.1.1,0,()))) (λv32=>Bd (v17=(v2.1.2.2.1.length:Int)) (v32 ((v15.2.1,(3,v17),v15.1.1,()),())) (v32 ((v15.2.1,(2,v17),v15.1.1,()),())))) (some ((v15.1.1,v15.2.1,()),()))) v1 ((v5.1.1,()),([]:List U4),0,())))) v1 ((v3.1.1,()),0,())) (λv33=>Bd (v2.2.2.1<0) (v33 ((List.replicate (Wi ((v2.1.1.length:Int)+1)).toNat (0,0),()),true,())) (ah (p14 v1 (v2.2.1,())) (λ(v34:T7)=>v33 ((List.replicate (Wi ((v2.1.1.length:Int)+1)).toNat (0,0),()),decide (v34.1.1<=v2.2.2.1),()))))else none else none
def F51(n:Nat):Fb 51:=fb n [⟨_,F14 n⟩,⟨_,F15 n⟩,⟨_,F104 n⟩,⟨_,F105 n⟩] [72,94,119] [] [] Tryz.func51 Tryz.results51 Tryz.ntmps51 (.seq (rn_ [3,4]) (sn_ (.seq (.seq (rs_ ⟨CV,[.val 34 y4],[2,3,4,8]⟩ []) .nop) (.seq (sn_ (bk_ ⟨CV,[.val 42 y2],[2,3,4,8,40,41]⟩ (sn_ (sn_ (.seq (.block none (.seq (rn_ [10]) (.seq (rs_ ⟨CV,[.val 58 y4],[2,3,4,8,10,40,41,42]⟩ []) (cs_ ⟨CV,[],[2,3,4,8,40,41,42]⟩ .nop .nop)))) .nop))))) (sn_ (sn_ (.seq (sn_ (bk_ ⟨CV,[.hdr 11 95 y22 mo_,.val 77 y2],[2,3,8,13,75,76]⟩ (sn_ (sn_ (.seq (.block none (sn_ (sn_ (.seq (sn_ (cs_ ⟨[(95,y22,mo_),(128,.box y57,.own Q1_),(208,yj,.own Q1_)],[],[2,3,8,11,13,14,16,75,76,77]⟩ .nop .nop)) (.seq (rn_ [16]) (bk_ ⟨CV,[.hdr 11 95 y22 mo_,.val 96 y2],[2,3,8,13,16,75,76,77,94,95]⟩ (sn_ (sn_ (.seq (.block (some ⟨CV,[.hdr 11 95 y22 mo_],[2,3,8,13,16,75,76,77,94,95,96]⟩) (sn_ (sn_ (.seq (sn_ (cs_ ⟨[(95,y22,mo_),(208,yj,.own Q1_)],[.val 19 y2],[2,3,8,11,13,16,75,76,77,94,95,96]⟩ .nop .nop)) (sn_ (.seq (rn_ [20]) .nop)))))) .nop))))))))) .nop))))) .nop))))))) [(y32,.ro),(y43,.ro),(y2,.ro)] [(yj,.ro),(y22,.ro)] [] [] (p51 n)
def p13(v1:Nat)(v2:(U1×U8×Unit)):Option (((List U11)×U21×Unit)×Unit):=ah (p14 v1 (v2.2.1,())) (λ(v3:T7)=>aD (λ(v4:(Unit×(List U11)×U21×Int×Unit))=>λv5=>Bd (v4.2.2.2.1<v3.1.1) (ah (p51 v1 (v2.1,v2.2.1,v4.2.2.2.1,())) (λ(v6:((U11×U21×Unit)×Unit))=>Ap 24 (List.length v4.2.1+List.length ([v6.1.1]:List U11)) (Ap 48 (List.length v4.2.2.1+List.length v6.1.2.1) (v5 ((),v4.2.1++([v6.1.1]:List U11),v4.2.2.1++v6.1.2.1,Wi (v4.2.2.2.1+1),()))))) (some ((v4.2.1,v4.2.2.1,()),()))) v1 ((),([]:List U11),([]:List U4),0,()))
def F13(n:Nat):Fb 13:=fb n [⟨_,F14 n⟩,⟨_,F51 n⟩] [20] [] [] Tryz.func13 Tryz.results13 Tryz.ntmps13 (.seq (rn_ [2,3]) (sn_ (sn_ (.seq (sn_ (bk_ ⟨[],[.hdr 6 55 y82 mo_,.hdr 7 63 y22 mo_,.val 13 y2],[2,3,12]⟩ .nop)) .nop)))) [(y32,.ro),(y43,.ro)] [(y82,.ro),(y22,.ro)] [] [] (p13 n)
def p10(v1:Nat)(v2:T65):Option ((U21×Unit)×Unit):=aD (λ(v3:(Unit×U21×Int×Unit))=>λv4=>Bd (v3.2.2.1<(v2.1.length:Int)) (Ld v2.1 v3.2.2.1 λv5=>av (λ(v6:(Unit×U21×Unit))=>v4 ((),v6.2.1,Wi (v3.2.2.1+1),())) (λv7=>bif v5.2.2.2.2.2 then Ap 48 (List.length v3.2.1+List.length ([v5]:List U4)) (v7 ((),v3.2.1++([v5]:List U4),()))else v7 ((),v3.2.1,()))) (some ((v3.2.1,()),()))) v1 ((),([]:List U4),0,())
def F10(n:Nat):Fb 10:=fb n [] [] [] [] Tryz.func10 Tryz.results10 Tryz.ntmps10 (sn_ (sn_ (.seq (sn_ (bk_ ⟨[],[.hdr 3 31 y22 mo_,.val 8 y2],[6,7]⟩ (sn_ (sn_ (.seq (.block none (.seq (rn_ [5]) (sn_ (cs_ ⟨[],[.hdr 3 31 y22 mo_],[6,7,8]⟩ .nop .nop)))) .nop))))) .nop))) [(y22,.ro)] [(y22,.ro)] [] [] (p10 n)
def p9(v1:Nat)(v2:Unit):T16:=ah (p12 v1 ((([(([80,76,85,83]:List Int),0,([112]:List Int)),(([88]:List Int),0,([120]:List Int))]:List U30),([([69]:List Int)]:List U0),([(0,([65,100,100]:List Int),([(true,0),(false,0),(true,0)]:List U5),false,-1,([0,0]:List Int)),(0,([79,110,101]:List Int),([(false,1)]:List U5),false,-1,([]:List Int))]:List U27),([]:List U7),0),())) (λ(v3:T93)=>ah (p13 v1 ((([(([80,76,85,83]:List Int),0,([112]:List Int)),(([88]:List Int),0,([120]:List Int))]:List U30),([([69]:List Int)]:List U0),([(0,([65,100,100]:List Int),([(true,0),(false,0),(true,0)]:List U5),false,-1,([0,0]:List Int)),(0,([79,110,101]:List Int),([(false,1)]:List U5),false,-1,([]:List Int))]:List U27),([]:List U7),0),v3.1.1,())) (λ(v4:T91)=>av (λ(v5:T5)=>some ((v5.2.1,()),())) (λv6=>Bd (v3.1.2.1=0) (Bd ((v4.1.2.1.length:Int)=1) (if(0:Int)<=(0:Int)then(match v4.1.2.1[(0:Int).toNat]? with|some v7=>bif v7.2.2.2.2.2 then if(0:Int)<=(0:Int)then(match v4.1.2.1[(0:Int).toNat]? with|some v8=>Bd (v8.2.2.2.2.1=1) (if(0:Int)<=(0:Int)then(match v4.1.2.1[(0:Int).toNat]? with|some v9=>Bd (v9.2.1=0) (if(0:Int)<=(0:Int)then(match v4.1.2.1[(0:Int).toNat]? with|some v10=>Bd (v10.2.2.2.1=(-1)) (ah (p10 v1 (v4.1.2.1,())) (λ(v11:T73)=>v6 ((),decide ((v11.1.1.length:Int)=1),()))) (v6 ((),false,()))|none=>none)else none) (v6 ((),false,()))|none=>none)else none) (v6 ((),false,()))|none=>none)else none else v6 ((),false,())|none=>none)else none) (v6 ((),false,()))) (v6 ((),false,())))))
def F9(n:Nat):Fb 9:=fb n [⟨_,F12 n⟩,⟨_,F13 n⟩,⟨_,F10 n⟩] [17,20,22,25,31,70] [] [] Tryz.func9 Tryz.results9 Tryz.ntmps9 (sn_ (.seq (rn_ [1]) (.seq (rn_ [2]) (.seq (rn_ [3]) (sn_ (.seq (rs_ ⟨[],[.val 0 y4],[]⟩ []) .nop)))))) [] A19 [] [] (p9 n)
def p3(v1:Nat)(v2:T65):T16:=ah (p9 v1 ()) (λ(v3:T9)=>bif !v3.1.1 then some ((false,()),())else Bd (100<(v2.1.length:Int)) (some ((true,()),())) (ah (p10 v1 (v2.1,())) (λ(v4:T73)=>aD (λ(v5:T10)=>λv6=>Bd (v5.2.2.1<(v2.1.length:Int)) (av (λ(v7:T4)=>v6 ((),v7.2.1,Wi (v5.2.2.1+1),())) (λv8=>Ld v2.1 v5.2.2.1 λv9=>bif !v9.2.2.2.2.2 then v8 ((),v5.2.1,())else av (λ(v10:T5)=>bif v10.2.1 then some ((false,()),())else v8 ((),Wi (v5.2.1+1),())) (λv11=>Bd ((v4.1.1.length:Int)<=v5.2.1) (v11 ((),true,())) (Ld v4.1.1 v5.2.1 λv12=>Ld v2.1 v5.2.2.1 λv13=>v11 ((),bif Bd (v12.1=v13.1) (Bd (v12.2.1=v13.2.1) (Bd (v12.2.2.1=v13.2.2.1) (Bd (v12.2.2.2.1=v13.2.2.2.1) (Bd (v12.2.2.2.2.1=v13.2.2.2.2.1) (v12.2.2.2.2.2 == v13.2.2.2.2.2) false) false) false) false) false then false else true,()))))) (some ((decide (v5.2.1=(v4.1.1.length:Int)),()),()))) v1 ((),0,0,()))))
end
noncomputable section
def p16(v1:Nat)(v2:(U8×Int×U5×Unit)):T14:=av (λ(v3:T5)=>bif v3.2.1 then some ((-1,()),())else Ld v2.1.2 v2.2.1 λv4=>aD (λ(v5:T4)=>λv6=>Bd (v5.2.1<(v4.length:Int)) (Ld v4 v5.2.1 λv7=>bif bif v7.1.1 == v2.2.2.1.1 then decide (v7.1.2=v2.2.2.1.2)else false then some ((v7.2,()),())else v6 ((),Wi (v5.2.1+1),())) (some ((-1,()),()))) v1 ((),0,())) (λv8=>Bd (v2.2.1<0) (v8 ((),true,())) (v8 ((),decide ((v2.1.2.length:Int)<=v2.2.1),())))
def F16(n:Nat):Fb 16:=fb n [] [] [] [⟨_,JK⟩] Tryz.func16 Tryz.results16 Tryz.ntmps16 (.seq (rn_ [3,5]) (.seq (.seq (rs_ ⟨[],[.val 17 y4],[1,3,5]⟩ []) .nop) (.seq (sn_ (bk_ ⟨[],[.val 24 y2],[5,22,23]⟩ (sn_ (sn_ (.seq (.block none (.seq (rn_ [8]) .nop)) .nop))))) .nop))) [(y43,.ro),(y2,.ro),(y62,.ro)] A20 [] [] (p16 n)
def p18(v1:Nat)(v2:pu):Option ((U18×U21×Int×Unit)×Unit):=ah (p12 v1 (v2.1,())) (λ(v3:T93)=>bif !(decide (v3.1.2.1=0))then some (((([]:List U11),([]:List U0),([]:List Int),([]:List Int)),([]:List U4),v3.1.2.1,()),())else ah (p13 v1 (v2.1,v3.1.1,())) (λ(v4:T91)=>ah (p10 v1 (v4.1.2.1,())) (λ(v5:T73)=>Bd (0<(v5.1.1.length:Int)) (some (((([]:List U11),([]:List U0),([]:List Int),([]:List Int)),v4.1.2.1,18,()),())) (ah (p14 v1 (v3.1.1,())) (λ(v6:T7)=>aD (λ(v7:TQ)=>λv8=>Bd (v7.2.1<v6.1.1) (aD (λ(v9:((U18×U18×Unit)×U0×Int×Unit))=>λv10=>Bd (v9.2.2.1<(v2.1.2.1.length:Int)) (ah (p16 v1 (v3.1.1,v7.2.1,(true,v9.2.2.1),())) (λ(v11:T7)=>Ap 8 (List.length v9.2.1+List.length ([v11.1.1]:List Int)) (v10 ((v9.1.1,v9.1.2.1,()),v9.2.1++([v11.1.1]:List Int),Wi (v9.2.2.1+1),())))) (Ap 24 (List.length v9.1.2.1.2.1+List.length ([v9.2.1]:List U0)) (v8 ((v9.1.1,(v9.1.2.1.1,v9.1.2.1.2.1++([v9.2.1]:List U0),v9.1.2.1.2.2),()),Wi (v7.2.1+1),())))) v1 ((v7.1.1,v7.1.2.1,()),([]:List Int),0,())) (aD (λ(v12:TQ)=>λv13=>Bd (v12.2.1<(v2.1.2.2.1.length:Int)) (Ld v2.1.2.2.1 v12.2.1 λv14=>Ap 8 (List.length v12.1.2.1.2.2.1+List.length ([v14.1]:List Int)) (Ap 8 (List.length v12.1.2.1.2.2.2+List.length ([(v14.2.2.1.length:Int)]:List Int)) (v13 ((v12.1.1,(v12.1.2.1.1,v12.1.2.1.2.1,v12.1.2.1.2.2.1++([v14.1]:List Int),v12.1.2.1.2.2.2++([(v14.2.2.1.length:Int)]:List Int)),()),Wi (v12.2.1+1),())))) (some ((v12.1.2.1,v4.1.2.1,0,()),()))) v1 ((v7.1.1,v7.1.2.1,()),0,()))) v1 (((([]:List U11),([]:List U0),([]:List Int),([]:List Int)),(v4.1.1,([]:List U0),([]:List Int),([]:List Int)),()),0,()))))))
end
noncomputable section
def p41(v1:Nat)(v2:pu):T16:=av (λ(v3:T5)=>bif v3.2.1 then some ((false,()),())else aD (λ(v4:T4)=>λv5=>Bd (v4.2.1<(v2.1.1.length:Int)) (Ld v2.1.1 v4.2.1 λv6=>Bd (12<(v6.2.2.length:Int)) (some ((false,()),())) (v5 ((),Wi (v4.2.1+1),()))) (ah (p37 v1 (v2.1,())) (λ(v7:((Int×Int×Int×Unit)×Unit))=>some ((decide (v7.1.1=0),()),())))) v1 ((),0,())) (λv8=>ah (p35 v1 (v2.1,())) (λ(v9:T9)=>bif !v9.1.1 then v8 ((),true,())else v8 ((),decide (12<(v2.1.2.2.1.length:Int)),())))
def F41(n:Nat):Fb 41:=fb n [⟨_,F35 n⟩,⟨_,F37 n⟩] [] [] [] Tryz.func41 Tryz.results41 Tryz.ntmps41 (.seq (rn_ [1]) (.seq (.seq (rs_ ⟨[],[.val 15 y4],[1]⟩ []) .nop) (.seq (sn_ (bk_ ⟨[],[.val 3 y2],[1]⟩ .nop)) .nop))) A17 A19 [] [] (p41 n)
def JV(v1:Nat)(v2:T8):T14:=aD (λ(v3:(Unit×Int×Int×Int×Unit))=>λv4=>av (λ(v5:T5)=>bif v5.2.1 then Ld v2.1 v3.2.2.2.1 λv6=>av (λ(v7:T4)=>v4 ((),v7.2.1,IntKind.wrap .u64 (v3.2.2.1*2),Wi (v3.2.2.2.1+1),())) (λv8=>bif v6 then v8 ((),IntKind.wrap .u64 (v3.2.1+v3.2.2.1),())else v8 ((),v3.2.1,()))else some ((v3.2.1,()),())) (λv9=>Bd (v3.2.2.2.1<(v2.1.length:Int)) (v9 ((),decide (v3.2.2.2.1<64),())) (v9 ((),false,())))) v1 ((),0,1,0,())
def F200(n:Nat):Fb 200:=fb n [] [] [] [] Tryz.func200 Tryz.results200 Tryz.ntmps200 (sn_ (sn_ (.seq (sn_ (bk_ ⟨[],[.val 3 y12,.val 4 y12,.val 5 y2],[0]⟩ (.seq (.seq (rs_ ⟨[],[.val 13 y4],[0,3,4,5]⟩ []) .nop) (.seq (.block none (.seq (sn_ (cs_ ⟨[],[.val 3 y12],[0,4,5]⟩ .nop .nop)) .nop)) .nop)))) .nop))) A15 A18 [] [] (JV n)
def JW(v1:Nat)(v2:T1):T14:=if(0:Int)<=(64:Int)/\(64:Int)<=(64:Int)then if(64:Int).toNat*1<=140737488355328 then av (λ(v3:T34)=>av (λ(v4:T17)=>ah (JV v1 (v4.1.1,())) (λ(v5:T7)=>some ((v5.1.1,()),()))) (λv6=>bif v3.2.1 then Ld v3.1.1 v2.1 λv7=>Ld v3.1.1 v2.1 λv8=>v6 ((List.set v3.1.1 (v2.1).toNat true,()),())else v6 ((v3.1.1,()),()))) (λv9=>Bd (0<=v2.1) (v9 ((List.replicate (64:Int).toNat false,()),decide (v2.1<64),())) (v9 ((List.replicate (64:Int).toNat false,()),false,())))else none else none
def F157(n:Nat):Fb 157:=fb n [⟨_,F200 n⟩] [] [] [] Tryz.func157 Tryz.results157 Tryz.ntmps157 (sn_ (sn_ (.seq (.seq (rs_ ⟨[(32,eD,mo_)],[.val 10 y4],[0,3]⟩ []) (cs_ ⟨[(32,eD,mo_)],[],[3]⟩ .nop .nop)) .nop))) A20 A18 [] [] (JW n)
def p86(v1:Nat)(v2:pu):T64:=ah (JW v1 (63,())) (λ(v3:T7)=>some ((([((v2.1.2.2.1.length:Int),0,v3.1.1)]:List U9),()),()))
def F86(n:Nat):Fb 86:=fb n [⟨_,F157 n⟩] [] [] [] Tryz.func86 Tryz.results86 Tryz.ntmps86 (.seq (rn_ [1]) .nop) A17 A16 [] [] (p86 n)
def Hj(v1:Nat)(v2:pu):T37:=if 0<=(v2.1.2.1.length:Int)/\(v2.1.2.1.length:Int)<=(v2.1.2.1.length:Int)then if(v2.1.2.1.length:Int).toNat*1<=140737488355328 then aD (λ(v3:T29)=>λv4=>Bd (v3.2.1<=(v3.1.1.length:Int)) (aD (λ(v5:T29)=>λv6=>Bd (v5.2.1<(v2.1.2.2.1.length:Int)) (Ld v2.1.2.2.1 v5.2.1 λv7=>aD (λ(v8:T45)=>λv9=>Bd (v8.2.2.1<(v7.2.2.1.length:Int)) (Ld v7.2.2.1 v8.2.2.1 λv10=>av (λ(v11:T34)=>v9 ((v11.1.1,()),v11.2.1,Wi (v8.2.2.1+1),())) (λv12=>bif v8.2.1 then bif v10.1 then Bd (0<=v10.2) (Bd (v10.2<(v8.1.1.length:Int)) (Ld v8.1.1 v10.2 λv13=>v12 ((v8.1.1,()),v13,())) (v12 ((v8.1.1,()),false,()))) (v12 ((v8.1.1,()),false,()))else v12 ((v8.1.1,()),false,())else v12 ((v8.1.1,()),false,()))) (av (λ(v14:T34)=>av (λ(v15:T17)=>v6 ((v15.1.1,()),Wi (v5.2.1+1),())) (λv16=>bif v14.2.1 then Ld v14.1.1 v7.1 λv17=>Ld v14.1.1 v7.1 λv18=>v16 ((List.set v14.1.1 (v7.1).toNat true,()),())else v16 ((v14.1.1,()),()))) (λv19=>bif v8.2.1 then Bd (0<=v7.1) (v19 ((v8.1.1,()),decide (v7.1<(v8.1.1.length:Int)),())) (v19 ((v8.1.1,()),false,()))else v19 ((v8.1.1,()),false,())))) v1 ((v5.1.1,()),true,0,())) (v4 ((v5.1.1,()),Wi (v3.2.1+1),()))) v1 ((v3.1.1,()),0,())) (some ((v3.1.1,()),()))) v1 ((List.replicate (v2.1.2.1.length:Int).toNat false,()),0,())else none else none
def F152(n:Nat):Fb 152:=fb n [] [] [] [] Tryz.func152 Tryz.results152 Tryz.ntmps152 (.seq (rn_ [1]) (sn_ (.seq (sn_ (bk_ ⟨GV,[.val 4 y2],[1,3]⟩ (sn_ (.seq (.block none (sn_ (bk_ ⟨GV,[.val 5 y2],[1,3,4]⟩ (sn_ (.seq (.block none (.seq (rn_ [6]) (.seq (sn_ (bk_ ⟨GV,[.val 7 y4,.val 8 y2],[1,3,4,5,6]⟩ (sn_ (.seq (.block none (.seq (rn_ [9]) (rs_ ⟨GV,[.val 7 y4],[1,3,4,5,6,8]⟩ []))) .nop)))) (.seq (rs_ ⟨GV,[.val 80 y4],[1,3,4,5,6]⟩ []) (cs_ ⟨GV,[],[1,3,4,5]⟩ .nop .nop))))) .nop))))) .nop)))) .nop))) A17 A15 [] [] (Hj n)
def p54(v1:Nat)(v2:T3):T16:=av (λ(v3:T5)=>bif v3.2.1 then some ((false,()),())else aD (λ(v4:T10)=>λv5=>Bd (v4.2.2.1<v2.2.1) (if(2:Int)=0 then none else v5 ((),IntKind.wrap .u64 (Int.tdiv v4.2.1 2),Wi (v4.2.2.1+1),())) (if(2:Int)=0 then none else some ((decide ((Int.tmod v4.2.1 2)=1),()),()))) v1 ((),v2.1,0,())) (λv6=>Bd (v2.2.1<0) (v6 ((),true,())) (v6 ((),decide (63<v2.2.1),())))
def F54(n:Nat):Fb 54:=fb n [] [] [] [] Tryz.func54 Tryz.results54 Tryz.ntmps54 (sn_ (.seq (.seq (rs_ ⟨[],[.val 11 y4],[0,1]⟩ []) .nop) (.seq (sn_ (bk_ ⟨[],[.val 0 y12,.val 5 y2],[1]⟩ .nop)) .nop))) [(y12,.ro),(y2,.ro)] A19 [] [] (p54 n)
def C4(v1:Nat)(v2:T3):T14:=if(0:Int)<=(64:Int)/\(64:Int)<=(64:Int)then if(64:Int).toNat*1<=140737488355328 then aD (λ(v3:T29)=>λv4=>Bd (v3.2.1<64) (av (λ(v5:T17)=>v4 ((v5.1.1,()),Wi (v3.2.1+1),())) (λv6=>ah (p54 v1 (v2.1,v3.2.1,())) (λ(v7:T9)=>bif v7.1.1 then Ld v3.1.1 v3.2.1 λv8=>Ld v3.1.1 v3.2.1 λv9=>v6 ((List.set v3.1.1 (v3.2.1).toNat true,()),())else ah (p54 v1 (v2.2.1,v3.2.1,())) (λ(v10:T9)=>Ld v3.1.1 v3.2.1 λv11=>Ld v3.1.1 v3.2.1 λv12=>v6 ((List.set v3.1.1 (v3.2.1).toNat v10.1.1,()),()))))) (ah (JV v1 (v3.1.1,())) (λ(v13:T7)=>some ((v13.1.1,()),())))) v1 ((List.replicate (64:Int).toNat false,()),0,())else none else none
def F199(n:Nat):Fb 199:=fb n [⟨_,F54 n⟩,⟨_,F200 n⟩] [] [] [] Tryz.func199 Tryz.results199 Tryz.ntmps199 (sn_ (sn_ (.seq (sn_ (bk_ ⟨[(56,eD,mo_)],[.val 6 y2],[0,1,5]⟩ (sn_ (.seq (.block none (rs_ ⟨[(56,eD,mo_)],[],[0,1,5,6]⟩ [])) .nop)))) .nop))) [(y12,.ro),(y12,.ro)] A18 [] [] (C4 n)
abbrev RB:=Qt [(eD,.ro),(y54,.ro),(y77,.ro)] A12 []
abbrev RC(q:RB):Callee:=⟨_,_,[],_,q⟩
theorem Uv:Plain Tryz.prog 198:=pl Tryz.func198
abbrev Uw(JX:RB):=fR Tryz.prog 198 (RC JX)
def Ek(v1:Nat)(v2:(U12×U0×U17×Unit)->Option (U25×Unit))(v3:T70):T31:=bif decide ((v3.2.2.1.length:Int)=0)then some ((0,true,()),())else if(0:Int)<=(0:Int)then(match v3.2.2.1[(0:Int).toNat]? with|some v4=>bif !v4.1 then ah (JW v1 (v4.2,())) (λ(v5:T7)=>some ((v5.1.1,false,()),()))else av (λ(v6:T5)=>bif v6.2.1 then some ((0,false,()),())else if 0<=v4.2 then(match v3.1[(v4.2).toNat]? with|some v7=>bif !v7 then if 0<=v4.2 then(match v3.2.1[(v4.2).toNat]? with|some v8=>some ((v8,false,()),())|none=>none)else none else if(0:Int)<=(1:Int)/\(1:Int)<=(v3.2.2.1.length:Int)/\(v3.2.2.1.length:Int)<=(v3.2.2.1.length:Int)then ah (v2 (v3.1,v3.2.1,cC v3.2.2.1 (1:Int) (v3.2.2.1.length:Int),())) (λ(v9:T13)=>if 0<=v4.2 then(match v3.2.1[(v4.2).toNat]? with|some v10=>ah (C4 v1 (v10,v9.1.1,())) (λ(v11:T7)=>some ((v11.1.1,v9.1.2.1,()),()))|none=>none)else none)else none|none=>none)else none) (λv12=>bif decide (v4.2<0)then v12 ((),true,())else bif decide ((v3.1.length:Int)<=v4.2)then v12 ((),true,())else v12 ((),decide ((v3.2.1.length:Int)<=v4.2),()))|none=>none)else none
theorem XH(n:Nat)(JX:RB)(h:Uw JX):fR Tryz.prog 198 (RC (Ek n JX)):=(fb n [⟨_,F157 n⟩,⟨_,F199 n⟩,⟨_,⟨_,h,Uv⟩⟩] [] [] [] Tryz.func198 Tryz.results198 Tryz.ntmps198 (.seq .nop (.seq .nop (.seq (.reg none [8]) (.seq .nop (.seq (.seq (.reg (some ⟨[],[.val 39 y4],[0,1,2,8]⟩) []) .nop) .nop))))) [(eD,.ro),(y54,.ro),(y77,.ro)] A12 [] [] (Ek n JX)).o
def Ba(n:Nat):Nat->T70->T31
 |0,_=>none
 |d+1,x=>Ek n (Ba n d) x
theorem Ux(n:Nat):∀ d,Uw (Ba n d)
 |0=>(λx r h=>by cases h)
 |d+1=>XH n _ (Ux n d)
def JY(n:Nat)(x:T70):T31:=Ba n n x
def F198(n:Nat):Fb 198:=⟨RC (JY n),Ux n n,Uv⟩
def N5(v1:Nat)(v2:pu):T33:=ah (Hj v1 (v2.1,())) (λ(v3:T17)=>if 0<=(v2.1.2.1.length:Int)/\(v2.1.2.1.length:Int)<=(v2.1.2.1.length:Int)then if(v2.1.2.1.length:Int).toNat*8<=140737488355328 then aD (λ(v4:T25)=>λv5=>Bd (v4.2.1<=(Wi ((64:Int)*(v4.1.1.length:Int)))) (aD (λ(v6:(U31×Bool×Int×Unit))=>λv7=>Bd (v6.2.2.1<(v2.1.2.2.1.length:Int)) (av (λ(v8:T30)=>v7 ((v8.1.1,()),v8.2.1,Wi (v6.2.2.1+1),())) (λv9=>Ld v2.1.2.2.1 v6.2.2.1 λv10=>av (λ(v11:T30)=>bif v11.2.1 then v9 ((v11.1.1,()),v6.2.1,())else ah (JY v1 (v3.1.1,v11.1.1,v10.2.2.1,())) (λ(v12:T13)=>Ld v11.1.1 v10.1 λv13=>ah (C4 v1 (v12.1.1,v13,())) (λ(v14:T7)=>av (λ(v15:T30)=>Ld v15.1.1 v10.1 λv16=>Ld v15.1.1 v10.1 λv17=>v9 ((List.set v15.1.1 (v10.1).toNat v14.1.1,()),v15.2.1,())) (λv18=>bif v6.2.1 then v18 ((v11.1.1,()),true,())else Ld v11.1.1 v10.1 λv19=>v18 ((v11.1.1,()),!(decide (v14.1.1=v19)),()))))) (λv20=>Bd (v10.1<0) (v20 ((v6.1.1,()),true,())) (v20 ((v6.1.1,()),decide ((v6.1.1.length:Int)<=v10.1),()))))) (bif !v6.2.1 then some ((v6.1.1,()),())else v5 ((v6.1.1,()),Wi (v4.2.1+1),()))) v1 ((v4.1.1,()),false,0,())) (some ((v4.1.1,()),()))) v1 ((List.replicate (v2.1.2.1.length:Int).toNat (0:Int),()),0,())else none else none)
def F153(n:Nat):Fb 153:=fb n [⟨_,F152 n⟩,⟨_,F198 n⟩,⟨_,F199 n⟩] [12] [] [] Tryz.func153 Tryz.results153 Tryz.ntmps153 (.seq (rn_ [1]) (sn_ (sn_ (.seq (sn_ (bk_ ⟨Jt,[.val 5 y2],[1,3,4]⟩ (sn_ (.seq (.block none (sn_ (.seq (sn_ (bk_ ⟨Jt,[.val 6 y4,.val 7 y2],[1,3,4,5]⟩ (sn_ (.seq (.block (some ⟨Jt,[.val 6 y4],[1,3,4,5,7]⟩) (.seq (rn_ [8]) (.seq (.seq (rs_ ⟨Jt,[.val 45 y4],[1,3,4,5,6,7,8]⟩ []) .nop) (sn_ (sn_ (.seq (rs_ ⟨Jt,[.val 6 y4],[1,3,4,5,7,8,9]⟩ []) .nop)))))) .nop)))) .nop))) .nop)))) .nop)))) A17 [(y54,.ro)] [] [] (N5 n)
def Hk(v1:Nat)(v2:T24):T64:=aD (λ(v3:T56)=>λv4=>Bd (v3.2.2.1<(v2.1.length:Int)) (aD (λ(v5:((U3×Unit)×Int×Int×Unit))=>λv6=>Bd (v5.2.2.1<(v2.1.length:Int)) (av (λ(v7:T62)=>av (λ(v8:T62)=>av (λ(v9:((U3×Unit)×Int×Unit))=>v6 ((v9.1.1,()),v9.2.1,Wi (v5.2.2.1+1),())) (λv10=>bif v8.2.1 then v10 ((v8.1.1,()),v5.2.2.1,())else v10 ((v8.1.1,()),v5.2.1,()))) (λv11=>bif v7.2.1 then Bd (v5.2.1<0) (v11 ((v7.1.1,()),true,())) (Ld v2.1 v5.2.2.1 λv12=>Ld v2.1 v5.2.1 λv13=>Bd (v12.1<v13.1) (v11 ((v7.1.1,()),true,())) (Ld v2.1 v5.2.2.1 λv14=>Ld v2.1 v5.2.1 λv15=>Bd (v14.1=v15.1) (Ld v2.1 v5.2.2.1 λv16=>Ld v2.1 v5.2.1 λv17=>v11 ((v7.1.1,()),decide (v16.2.1<v17.2.1),())) (v11 ((v7.1.1,()),false,()))))else v11 ((v7.1.1,()),false,()))) (λv18=>Bd ((v5.1.1.length:Int)=0) (v18 ((v5.1.1,()),true,())) (Ld v2.1 v5.2.2.1 λv19=>if 0<=(Wi ((v5.1.1.length:Int)-1))then(match v5.1.1[(Wi ((v5.1.1.length:Int)-1)).toNat]? with|some v20=>Bd (v20.1<v19.1) (v18 ((v5.1.1,()),true,())) (Ld v2.1 v5.2.2.1 λv21=>if 0<=(Wi ((v5.1.1.length:Int)-1))then(match v5.1.1[(Wi ((v5.1.1.length:Int)-1)).toNat]? with|some v22=>Bd (v21.1=v22.1) (Ld v2.1 v5.2.2.1 λv23=>if 0<=(Wi ((v5.1.1.length:Int)-1))then(match v5.1.1[(Wi ((v5.1.1.length:Int)-1)).toNat]? with|some v24=>v18 ((v5.1.1,()),decide (v24.2.1<v23.2.1),())|none=>none)else none) (v18 ((v5.1.1,()),false,()))|none=>none)else none)|none=>none)else none))) (Bd (v5.2.1<0) (some ((v5.1.1,()),())) (Ld v2.1 v5.2.1 λv25=>Ld v2.1 v5.2.1 λv26=>aD (λ(v27:((U3×U9×Unit)×Int×Unit))=>λv28=>Bd (v27.2.1<(v2.1.length:Int)) (av (λ(v29:T77)=>av (λ(v30:((U3×U9×Unit)×Unit))=>v28 ((v30.1.1,v30.1.2.1,()),Wi (v27.2.1+1),())) (λv31=>bif v29.2.1 then Ld v2.1 v27.2.1 λv32=>ah (C4 v1 (v29.1.2.1.2.2,v32.2.2,())) (λ(v33:T7)=>v31 ((v29.1.1,(v29.1.2.1.1,v29.1.2.1.2.1,v33.1.1),()),()))else v31 ((v29.1.1,v29.1.2.1,()),()))) (λv34=>Ld v2.1 v27.2.1 λv35=>Bd (v35.1=v27.1.2.1.1) (Ld v2.1 v27.2.1 λv36=>v34 ((v27.1.1,v27.1.2.1,()),decide (v36.2.1=v27.1.2.1.2.1),())) (v34 ((v27.1.1,v27.1.2.1,()),false,())))) (Ap 24 (List.length v27.1.1+List.length ([v27.1.2.1]:List U9)) (v4 ((),v27.1.1++([v27.1.2.1]:List U9),Wi (v3.2.2.1+1),())))) v1 ((v5.1.1,(v25.1,v26.2.1,0),()),0,())))) v1 ((v3.2.1,()),-1,0,())) (some ((v3.2.1,()),()))) v1 ((),([]:List U9),0,())
def F154(n:Nat):Fb 154:=fb n [⟨_,F199 n⟩] [] [] [] Tryz.func154 Tryz.results154 Tryz.ntmps154 (sn_ (sn_ (.seq (sn_ (bk_ ⟨[],[.hdr 3 31 fx mo_,.val 4 y2],[0]⟩ (sn_ (.seq (.block none (sn_ (.seq (sn_ (bk_ ⟨[(31,fx,mo_)],[.val 5 y2,.val 6 y2],[0,3,4]⟩ (sn_ (.seq (.block none (.seq (rs_ ⟨[(31,fx,mo_)],[.val 7 y4],[0,3,4,5,6]⟩ []) (.seq (rs_ ⟨[(31,fx,mo_)],[.val 113 y4],[0,3,4,5,6]⟩ []) (cs_ ⟨[(31,fx,mo_)],[.val 5 y2],[0,3,4,6]⟩ .nop .nop)))) .nop)))) (sn_ (sn_ (.seq (sn_ (bk_ ⟨Q9,[.val 9 y2],[0,3,4,8]⟩ (sn_ (.seq (.block none (.seq (rs_ ⟨Q9,[.val 152 y4],[0,3,4,8,9]⟩ []) (cs_ ⟨Q9,[],[0,3,4,8,9]⟩ .nop .nop))) .nop)))) (.rgf none [8] []))))))) .nop)))) .nop))) A16 A16 [] [] (Hk n)
def p53(v1:Nat)(v2:yl):T66:=av (λ(v3:T5)=>bif v3.2.1 then some ((([]:List U5),false,()),())else Bd (v2.2.1=(v2.1.2.2.1.length:Int)) (some ((([(true,v2.1.2.2.2.2)]:List U5),true,()),())) (Ld v2.1.2.2.1 v2.2.1 λv4=>some ((v4.2.2.1,true,()),()))) (λv5=>Bd (v2.2.1<0) (v5 ((),true,())) (v5 ((),decide ((v2.1.2.2.1.length:Int)<v2.2.1),())))
def F53(n:Nat):Fb 53:=fb n [] [] [] [] Tryz.func53 Tryz.results53 Tryz.ntmps53 (.seq (rn_ [2]) (.seq (.seq (rs_ ⟨[],[.val 14 y4],[1,2]⟩ []) .nop) .nop)) A11 [(y77,.ro),(y4,.ro)] [] [] (p53 n)
def Hl(v1:Nat)(v2:M9):T54:=ah (p53 v1 (v2.1,v2.2.1.1,())) (λ(v3:T53)=>av (λ(v4:T35)=>bif v4.2.1 then some (((false,0),false,()),())else Ld v3.1.1 v2.2.1.2.1 λv5=>some ((v5,true,()),())) (λv6=>Bd (v2.2.1.2.1<0) (v6 (((false,0),()),true,())) (v6 (((false,0),()),decide ((v3.1.1.length:Int)<=v2.2.1.2.1),()))))
def F155(n:Nat):Fb 155:=fb n [⟨_,F53 n⟩] [12] [] [] Tryz.func155 Tryz.results155 Tryz.ntmps155 (.seq (rn_ [2,3]) (sn_ (.seq (.seq (rs_ ⟨[(32,.box y62,.own Q1_)],[.val 24 y4],[3,4,6]⟩ []) .nop) (.seq (rn_ [4]) .nop)))) A6 [(y62,.ro),(y4,.ro)] [] [] (Hl n)
def JZ(v1:Nat)(v2:(U12×U0×U17×Int×Unit)):T14:=ah (JY v1 (v2.1,v2.2.1,v2.2.2.1,())) (λ(v3:T13)=>bif v3.1.2.1 then ah (C4 v1 (v3.1.1,v2.2.2.2.1,())) (λ(v4:T7)=>some ((v4.1.1,()),()))else some ((v3.1.1,()),()))
def F156(n:Nat):Fb 156:=fb n [⟨_,F198 n⟩,⟨_,F199 n⟩] [] [] [] Tryz.func156 Tryz.results156 Tryz.ntmps156 (.nop) [(eD,.ro),(y54,.ro),(y77,.ro),(y12,.ro)] A18 [] [] (JZ n)
theorem Uy:xU Tryz.prog 134:=⟨by kernel_rfl,by kernel_rfl,by kernel_rfl⟩
def p89(v1:Nat)(v2:(U3×U3×Unit)):T16:=bif !(decide ((v2.1.length:Int)=(v2.2.1.length:Int)))then some ((false,()),())else aD (λ(v3:T4)=>λv4=>Bd (v3.2.1<(v2.1.length:Int)) (Ld v2.1 v3.2.1 λv5=>Ld v2.2.1 v3.2.1 λv6=>bif bif Bd (v5.1=v6.1) (Bd (v5.2.1=v6.2.1) (decide (v5.2.2=v6.2.2)) false) false then false else true then some ((false,()),())else v4 ((),Wi (v3.2.1+1),())) (some ((true,()),()))) v1 ((),0,())
def F89(n:Nat):Fb 89:=fb n [] [] [] [⟨_,Uy⟩] Tryz.func89 Tryz.results89 Tryz.ntmps89 (sn_ (sn_ (.seq (sn_ (bk_ ⟨[],[.val 5 y2],[0,1]⟩ .nop)) .nop))) [(fx,.ro),(fx,.ro)] A19 [] [] (p89 n)
def p85(v1:Nat)(v2:Q6):T64:=ah (Hj v1 (v2.1,())) (λ(v3:T17)=>ah (N5 v1 (v2.1,())) (λ(v4:T15)=>ah (Hk v1 (v2.2.1,())) (λ(v5:T48)=>aD (λ(v6:T40)=>λv7=>Ap 24 (List.length ([]:List U9)+List.length v6.2.1) (aD (λ(v8:T56)=>λv9=>Bd (v8.2.2.1<(v6.2.1.length:Int)) (av (λ(v10:T40)=>v9 ((),v10.2.1,Wi (v8.2.2.1+1),())) (λv11=>Ld v6.2.1 v8.2.2.1 λv12=>ah (Hl v1 (v2.1,v12,())) (λ(v13:T36)=>av (λ(v14:T62)=>bif v14.2.1 then v11 ((),v14.1.1,())else Ld v6.2.1 v8.2.2.1 λv15=>ah (p53 v1 (v2.1,v15.1,())) (λ(v16:T53)=>Ld v6.2.1 v8.2.2.1 λv17=>if 0<=(Wi (v17.2.1+1))/\(Wi (v17.2.1+1))<=(v16.1.1.length:Int)/\(v16.1.1.length:Int)<=(v16.1.1.length:Int)then Ld v6.2.1 v8.2.2.1 λv18=>ah (JZ v1 (v3.1.1,v4.1.1,cC v16.1.1 (Wi (v17.2.1+1)) (v16.1.1.length:Int),v18.2.2,())) (λ(v19:T7)=>aD (λ(v20:T56)=>λv21=>Bd (v20.2.2.1<(v2.1.2.2.1.length:Int)) (Ld v2.1.2.2.1 v20.2.2.1 λv22=>av (λ(v23:T40)=>v21 ((),v23.2.1,Wi (v20.2.2.1+1),())) (λv24=>Bd (v22.1=v13.1.1.2) (Ap 24 (List.length v20.2.1+List.length ([(v20.2.2.1,0,v19.1.1)]:List U9)) (v24 ((),v20.2.1++([(v20.2.2.1,0,v19.1.1)]:List U9),()))) (v24 ((),v20.2.1,())))) (v11 ((),v20.2.1,()))) v1 ((),v14.1.1,0,()))else none)) (λv25=>bif !v13.1.2.1 then v25 ((v8.2.1,()),true,())else v25 ((v8.2.1,()),!v13.1.1.1,()))))) (ah (Hk v1 (v8.2.1,())) (λ(v26:T48)=>ah (p89 v1 (v26.1.1,v6.2.1,())) (λ(v27:T9)=>bif v27.1.1 then some ((v6.2.1,()),())else v7 ((),v26.1.1,()))))) v1 ((),([]:List U9)++v6.2.1,0,()))) v1 ((),v5.1.1,()))))
def F85(n:Nat):Fb 85:=fb n [⟨_,F152 n⟩,⟨_,F153 n⟩,⟨_,F154 n⟩,⟨_,F155 n⟩,⟨_,F53 n⟩,⟨_,F156 n⟩,⟨_,F89 n⟩] [17,19,21,54] [] [] Tryz.func85 Tryz.results85 Tryz.ntmps85 (.seq (rn_ [2]) (sn_ (sn_ (bk_ ⟨[],[.val 7 fx],[2,5,6]⟩ (.block none (sn_ (.seq (sn_ (bk_ ⟨[],[.hdr 8 71 fx mo_,.val 9 y2],[2,5,6,7]⟩ (sn_ (.seq (.block (some ⟨[],[.hdr 8 71 fx mo_],[2,5,6,7,9]⟩) (.seq (rn_ [10]) (.seq (.seq (rs_ ⟨[(71,fx,mo_)],[.val 46 y4],[2,5,6,7,8,9,10]⟩ []) .nop) (sn_ (sn_ (sn_ (bk_ ⟨[],[.hdr 8 71 fx mo_,.val 15 y2],[2,5,6,7,9,10,14]⟩ (sn_ (.seq (.block none (sn_ (cs_ ⟨[],[.hdr 8 71 fx mo_],[2,5,6,7,9,10,14,15]⟩ .nop .nop))) .nop))))))))) .nop)))) .nop))))))) A7 A16 [] [] (p85 n)
def p87(v1:Nat)(v2:Q6):T55:=aD (λ(v3:T44)=>λv4=>Bd (v3.2.2.1<2) (aD (λ(v5:(Unit×U17×Bool×Unit))=>λv6=>bif v5.2.2.1 then aD (λ(v7:((U17×U5×Unit)×Bool×Int×Unit))=>λv8=>Bd (v7.2.2.1<(v2.2.1.length:Int)) (av (λ(v9:T72)=>v8 ((v9.1.1,v9.1.2.1,()),v9.2.1,Wi (v7.2.2.1+1),())) (λv10=>Ld v2.2.1 v7.2.2.1 λv11=>ah (Hl v1 (v2.1,v11,())) (λ(v12:T36)=>av (λ(v13:T72)=>av (λ(v14:T72)=>bif v14.2.1 then v10 ((v14.1.1,v14.1.2.1,()),v7.2.1,())else av (λ(v15:T72)=>av (λ(v16:T72)=>v10 ((v16.1.1,v16.1.2.1,()),v16.2.1,())) (λv17=>bif v15.2.1 then v17 ((v15.1.1,v12.1.1,()),true,())else v17 ((v15.1.1,v15.1.2.1,()),v7.2.1,()))) (λv18=>bif !v7.2.1 then v18 ((v14.1.1,v14.1.2.1,()),true,())else v18 ((v14.1.1,v14.1.2.1,()),decide (v12.1.1.2<v14.1.2.1.2),()))) (λv19=>bif !v12.1.2.1 then v19 ((v13.1.1,v13.1.2.1,()),true,())else bif !(v12.1.1.1 == (decide (v3.2.2.1=1)))then v19 ((v13.1.1,v13.1.2.1,()),true,())else bif v13.2.1 then if 0<=(Wi ((v13.1.1.length:Int)-1))then(match v13.1.1[(Wi ((v13.1.1.length:Int)-1)).toNat]? with|some v20=>v19 ((v13.1.1,v13.1.2.1,()),decide (v12.1.1.2<=v20.2),())|none=>none)else none else v19 ((v13.1.1,v13.1.2.1,()),false,()))) (λv21=>Bd (0<(v7.1.1.length:Int)) (if 0<=(Wi ((v7.1.1.length:Int)-1))then(match v7.1.1[(Wi ((v7.1.1.length:Int)-1)).toNat]? with|some v22=>v21 ((v7.1.1,v7.1.2.1,()),v22.1 == (decide (v3.2.2.1=1)),())|none=>none)else none) (v21 ((v7.1.1,v7.1.2.1,()),false,())))))) (av (λ(v23:T32)=>v6 ((),v23.2.1,v7.2.1,())) (λv24=>bif v7.2.1 then Ap 16 (List.length v7.1.1+List.length ([v7.1.2.1]:List U5)) (v24 ((),v7.1.1++([v7.1.2.1]:List U5),()))else v24 ((),v7.1.1,())))) v1 ((v5.2.1,(false,0),()),false,0,())else v4 ((),v5.2.1,Wi (v3.2.2.1+1),())) v1 ((),v3.2.1,true,())) (some ((v3.2.1,()),()))) v1 ((),([]:List U5),0,())
def F87(n:Nat):Fb 87:=fb n [⟨_,F155 n⟩] [] [] [] Tryz.func87 Tryz.results87 Tryz.ntmps87 (.seq (rn_ [2]) (sn_ (.seq (sn_ (bk_ ⟨[],[.hdr 5 47 y77 mo_,.val 6 y2],[1,2]⟩ (sn_ (.seq (.block none (sn_ (bk_ ⟨[],[.hdr 5 47 y77 mo_,.val 7 y4],[1,2,6]⟩ (sn_ (.block none (sn_ (sn_ (.seq (sn_ (bk_ ⟨Q7_,[.val 7 y4,.val 9 y2],[1,2,5,6,8]⟩ (sn_ (.seq (.block (some ⟨Q7_,[.val 7 y4],[1,2,5,6,8,9]⟩) (.seq (rn_ [10]) (.seq (rs_ ⟨Q7_,[.val 12 y4],[1,2,5,6,7,8,9,10,11]⟩ []) (.seq (.seq (rs_ ⟨Q7_,[.val 72 y4],[1,2,5,6,7,8,9,10]⟩ []) .nop) (.seq (rs_ ⟨Q7_,[.val 81 y4],[1,2,5,6,7,8,9,10]⟩ []) (cs_ ⟨Q7_,[.val 7 y4],[1,2,5,6,8,9]⟩ .nop .nop)))))) .nop)))) (.seq (rn_ [8]) (cs_ ⟨[],[.hdr 5 47 y77 mo_],[1,2,6,7]⟩ .nop .nop)))))))))) .nop)))) .nop))) A7 [(y77,.ro)] [] [] (p87 n)
def p88(v1:Nat)(v2:TX):T64:=aD (λ(v3:T56)=>λv4=>Bd (v3.2.2.1<(v2.2.1.length:Int)) (Ld v2.2.1 v3.2.2.1 λv5=>ah (Hl v1 (v2.1,v5,())) (λ(v6:T36)=>av (λ(v7:T62)=>av (λ(v8:T40)=>v4 ((),v8.2.1,Wi (v3.2.2.1+1),())) (λv9=>bif v7.2.1 then Ld v2.2.1 v3.2.2.1 λv10=>Ld v2.2.1 v3.2.2.1 λv11=>Ld v2.2.1 v3.2.2.1 λv12=>Ap 24 (List.length v7.1.1+List.length ([(v10.1,Wi (v11.2.1+1),v12.2.2)]:List U9)) (v9 ((),v7.1.1++([(v10.1,Wi (v11.2.1+1),v12.2.2)]:List U9),()))else v9 ((),v7.1.1,()))) (λv13=>bif v6.1.2.1 then v13 ((v3.2.1,()),bif v6.1.1.1 == v2.2.2.1.1 then decide (v6.1.1.2=v2.2.2.1.2)else false,())else v13 ((v3.2.1,()),false,())))) (ah (Hk v1 (v3.2.1,())) (λ(v14:T48)=>some ((v14.1.1,()),())))) v1 ((),([]:List U9),0,())
def F88(n:Nat):Fb 88:=fb n [⟨_,F155 n⟩,⟨_,F154 n⟩] [] [] [⟨_,JK⟩] Tryz.func88 Tryz.results88 Tryz.ntmps88 (.seq (rn_ [3,5]) (sn_ (.seq (sn_ (bk_ ⟨[],[.hdr 7 63 fx mo_,.val 8 y2],[1,3,5]⟩ (sn_ (.seq (.block none (.seq (rn_ [9]) (.seq (rs_ ⟨[(63,fx,mo_)],[.val 31 y4],[1,3,5,7,8]⟩ []) (cs_ ⟨[],[.hdr 7 63 fx mo_],[1,3,5,8]⟩ .nop .nop)))) .nop)))) .nop))) [(y32,.ro),(fx,.ro),(y62,.ro)] A16 [] [] (p88 n)
def p42(v1:Nat)(v2:yl):T98:=ah (p86 v1 (v2.1,())) (λ(v3:T48)=>ah (p85 v1 (v2.1,v3.1.1,())) (λ(v4:T48)=>aD (λ(v5:((U10×U10×Unit)×Int×Unit))=>λv6=>Bd (v5.2.1<(v5.1.2.1.1.length:Int)) (Bd (v2.2.1<(v5.1.2.1.1.length:Int)) (some ((v5.1.2.1,false,()),())) (Ld v5.1.2.1.1 v5.2.1 λv7=>ah (p87 v1 (v2.1,v7,())) (λ(v8:T38)=>aD (λ(v9:((U10×U10×Unit)×U0×Int×Unit))=>λv10=>Bd (v9.2.2.1<(v8.1.1.length:Int)) (Ld v9.1.2.1.1 v5.2.1 λv11=>Ld v8.1.1 v9.2.2.1 λv12=>ah (p88 v1 (v2.1,v11,v12,())) (λ(v13:T48)=>ah (p85 v1 (v2.1,v13.1.1,())) (λ(v14:T48)=>aD (λ(v15:((U10×U10×U0×Unit)×Int×Int×Unit))=>λv16=>av (λ(v17:((U10×U10×U0×Unit)×Bool×Unit))=>bif v17.2.1 then Ld v17.1.2.1.1 v15.2.2.1 λv18=>ah (p89 v1 (v18,v14.1.1,())) (λ(v19:T9)=>av (λ(v20:TW)=>v16 ((v20.1.1,v20.1.2.1,v20.1.2.2.1,()),v20.2.1,Wi (v15.2.2.1+1),())) (λv21=>bif v19.1.1 then v21 ((v17.1.1,v17.1.2.1,v17.1.2.2.1,()),v15.2.2.1,())else v21 ((v17.1.1,v17.1.2.1,v17.1.2.2.1,()),v15.2.1,())))else av (λ(v22:TW)=>Ap 8 (List.length v22.1.2.2.1+List.length ([v22.2.1]:List Int)) (v10 ((v22.1.1,v22.1.2.1,()),v22.1.2.2.1++([v22.2.1]:List Int),Wi (v9.2.2.1+1),()))) (λv23=>Bd (v15.2.1<0) (Ap 24 (List.length v17.1.2.1.1+List.length ([v14.1.1]:List U3)) (v23 ((v17.1.1,(v17.1.2.1.1++([v14.1.1]:List U3),v17.1.2.1.2),v17.1.2.2.1,()),(v17.1.2.1.1.length:Int),()))) (v23 ((v17.1.1,v17.1.2.1,v17.1.2.2.1,()),v15.2.1,())))) (λv24=>Bd (v15.2.2.1<(v15.1.2.1.1.length:Int)) (v24 ((v15.1.1,v15.1.2.1,v15.1.2.2.1,()),decide (v15.2.1<0),())) (v24 ((v15.1.1,v15.1.2.1,v15.1.2.2.1,()),false,())))) v1 ((v9.1.1,v9.1.2.1,v9.2.1,()),-1,0,())))) (Ap 24 (List.length v9.1.2.1.2.1+List.length ([v8.1.1]:List U17)) (Ap 24 (List.length v9.1.2.1.2.2+List.length ([v9.2.1]:List U0)) (v6 ((v9.1.1,(v9.1.2.1.1,v9.1.2.1.2.1++([v8.1.1]:List U17),v9.1.2.1.2.2++([v9.2.1]:List U0)),()),Wi (v5.2.1+1),()))))) v1 ((v5.1.1,v5.1.2.1,()),([]:List Int),0,())))) (some ((v5.1.2.1,true,()),()))) v1 (((([]:List U3),([]:List U17),([]:List U0)),(([v4.1.1]:List U3),([]:List U17),([]:List U0)),()),0,())))
def F42(n:Nat):Fb 42:=fb n [⟨_,F86 n⟩,⟨_,F85 n⟩,⟨_,F87 n⟩,⟨_,F88 n⟩,⟨_,F89 n⟩] [16,17,19,39,57,58] [] [] Tryz.func42 Tryz.results42 Tryz.ntmps42 (.seq (rn_ [2]) (sn_ (.seq (sn_ (bk_ ⟨Ub,[.val 7 y2],[1,2,4,6]⟩ (sn_ (.seq (.block none (.seq (sn_ (.cond none (.seq (.rgf none [6] []) .nop) .nop)) (sn_ (sn_ (.seq (sn_ (bk_ ⟨Ub,[.hdr 9 79 y53 mo_,.val 10 y2],[1,2,4,6,7,8]⟩ (sn_ (.seq (.block none (sn_ (sn_ (.seq (sn_ (bk_ ⟨Q5_,[.val 12 y2,.val 13 y2],[1,2,4,6,7,8,9,10,11]⟩ (.seq (.seq (rs_ ⟨Q5_,[.val 67 y4],[1,2,4,6,7,8,9,10,11,12,13]⟩ []) .nop) (.seq (.block none (sn_ (cs_ ⟨Q5_,[.val 12 y2],[1,2,4,6,7,8,9,10,11,13]⟩ .nop .nop))) .nop)))) (.seq (sn_ (cs_ ⟨Q5_,[.val 12 y2],[1,2,4,6,7,8,9,10]⟩ .nop .nop)) .nop))))) .nop)))) (sn_ (.rgf none [9] []))))))) .nop)))) (.seq (.rgf none [6] [4]) .nop)))) A11 [(y37,.ro),(y4,.ro)] [] [] (p42 n)
def p11(v1:Nat)(v2:pu):T98:=ah (p41 v1 (v2.1,())) (λ(v3:T9)=>bif !v3.1.1 then some (((([]:List U3),([]:List U17),([]:List U0)),false,()),())else ah (p42 v1 (v2.1,60,())) (λ(v4:T97)=>some ((v4.1.1,v4.1.2.1,()),())))
def F11(n:Nat):Fb 11:=fb n [⟨_,F41 n⟩,⟨_,F42 n⟩] [7,9] [] [] Tryz.func11 Tryz.results11 Tryz.ntmps11 (.seq (rn_ [1]) (sn_ (.seq (rn_ [2]) .nop))) A17 [(y37,.ro),(y4,.ro)] [] [] (p11 n)
def p4(v1:Nat)(v2:pu):T16:=ah (p9 v1 ()) (λ(v3:T9)=>bif !v3.1.1 then some ((false,()),())else ah (p11 v1 (v2.1,())) (λ(v4:T97)=>bif !v4.1.2.1 then some ((true,()),())else ah (p12 v1 (v2.1,())) (λ(v5:T93)=>bif !(decide (v5.1.2.1=0))then some ((false,()),())else ah (p13 v1 (v2.1,v5.1.1,())) (λ(v6:T91)=>av (λ(v7:T5)=>bif v7.2.1 then ah (p14 v1 (v5.1.1,())) (λ(v8:T7)=>some ((decide ((v6.1.1.length:Int)=v8.1.1),()),()))else aD (λ(v9:T4)=>λv10=>Bd (v9.2.1<(v6.1.1.length:Int)) (Ld v6.1.1 v9.2.1 λv11=>bif !(decide ((v11.length:Int)=(Wi ((v2.1.1.length:Int)+1))))then some ((false,()),())else ah (p15 v1 (v5.1.1,v2.1,v9.2.1,())) (λ(v12:T46)=>aD (λ(v13:T4)=>λv14=>Ld v6.1.1 v9.2.1 λv15=>Bd (v13.2.1<(v15.length:Int)) (Ld v6.1.1 v9.2.1 λv16=>Ld v16 v13.2.1 λv17=>av (λ(v18:T4)=>aD (λ(v19:T10)=>λv20=>av (λ(v21:T5)=>bif v21.2.1 then Ld v12.1.2.1 v19.2.2.1 λv22=>av (λ(v23:T4)=>v20 ((),v23.2.1,Wi (v19.2.2.1+1),())) (λv24=>bif !(decide ((dK .and .u64 v22 v18.2.1)=0))then av (λ(v25:T5)=>bif v25.2.1 then some ((false,()),())else v24 ((),Wi (v19.2.1+1),())) (λv26=>Bd (v17.1<2) (v26 ((),true,())) (Ld v12.1.1 v19.2.2.1 λv27=>v26 ((),!(decide (v17.2=v27)),())))else v24 ((),v19.2.1,()))else ah (p16 v1 (v5.1.1,v9.2.1,(false,v13.2.1),())) (λ(v28:T7)=>av (λ(v29:T5)=>bif v29.2.1 then some ((false,()),())else v14 ((),Wi (v13.2.1+1),())) (λv30=>Bd (1<v19.2.1) (v30 ((),true,())) (Bd (v19.2.1=0) (bif !((decide (0<=v28.1.1)) == (decide (v17.1=1)))then v30 ((),true,())else Bd (v19.2.1=0) (Bd (2<=v17.1) (v30 ((),true,())) (Bd (v17.1=1) (v30 ((),!(decide (v17.2=v28.1.1)),())) (v30 ((),false,())))) (Bd (v17.1=1) (v30 ((),!(decide (v17.2=v28.1.1)),())) (v30 ((),false,())))) (Bd (v19.2.1=0) (Bd (2<=v17.1) (v30 ((),true,())) (Bd (v17.1=1) (v30 ((),!(decide (v17.2=v28.1.1)),())) (v30 ((),false,())))) (Bd (v17.1=1) (v30 ((),!(decide (v17.2=v28.1.1)),())) (v30 ((),false,())))))))) (λv31=>Bd (v19.2.2.1<(v12.1.1.length:Int)) (v31 ((),decide (v19.2.2.1<(v12.1.2.1.length:Int)),())) (v31 ((),false,())))) v1 ((),0,0,())) (λv32=>Bd (v13.2.1<(v2.1.1.length:Int)) (if(IntKind.wrap .u64 v13.2.1)<0 then none else v32 ((),IntKind.wrap .u64 ((1:Int)*2 ^ (Nat.min (Int.toNat (IntKind.wrap .u64 v13.2.1)) (IntKind.bits .u64))),())) (v32 ((),9223372036854775808,())))) (v10 ((),Wi (v9.2.1+1),()))) v1 ((),0,()))) (some ((true,()),()))) v1 ((),0,())) (λv33=>Bd (0<(v6.1.2.1.length:Int)) (v33 ((),true,())) (ah (p14 v1 (v5.1.1,())) (λ(v34:T7)=>v33 ((),!(decide ((v6.1.1.length:Int)=v34.1.1)),()))))))))
def F4(n:Nat):Fb 4:=fb n [⟨_,F9 n⟩,⟨_,F11 n⟩,⟨_,F12 n⟩,⟨_,F13 n⟩,⟨_,F14 n⟩,⟨_,F15 n⟩,⟨_,F16 n⟩] [22,29,37,75] [] [] Tryz.func4 Tryz.results4 Tryz.ntmps4 (.seq (rn_ [1]) (sn_ (.seq (.seq (rn_ [3]) .nop) (.seq (rn_ [5]) (sn_ (sn_ (.seq (.seq (rs_ ⟨[],[.val 49 y4],[1,5,7]⟩ []) .nop) (.seq (sn_ (bk_ ⟨[],[.val 9 y2],[1,5,7]⟩ (sn_ (.seq (.block none (sn_ (sn_ (sn_ (bk_ ⟨[],[.val 12 y2],[1,5,7,9,10,11]⟩ (sn_ (.seq (.block none (.seq (rn_ [13]) (sn_ (.seq (sn_ (cs_ ⟨[],[.val 14 y12],[1,5,7,9,10,11,12,13,15]⟩ .nop .nop)) (.seq (sn_ (bk_ ⟨[],[.val 15 y2,.val 16 y2],[1,5,7,9,10,11,12,13,14]⟩ (.seq (.seq (rs_ ⟨[],[.val 111 y4],[1,5,7,9,10,11,12,13,14,15,16]⟩ []) .nop) (.seq (.block none (sn_ (cs_ ⟨[],[.val 15 y2],[1,5,7,9,10,11,12,13,14,16]⟩ (sn_ (.seq (rs_ ⟨[],[.val 134 y4],[1,5,7,9,10,11,12,13,14,15,16]⟩ []) .nop)) .nop))) .nop)))) (sn_ (.seq (rs_ ⟨[],[.val 173 y4],[1,5,7,9,10,11,12]⟩ []) .nop))))))) .nop))))))) .nop)))) .nop)))))))) A17 A19 [] [] (p4 n)
abbrev ok4(n:Nat):=(F4 n).o
end
noncomputable section
theorem dU{A R:Type}(body:A->(A->Option R)->Option R)(n:Nat)(x:A):aD body (n+1) x=body x (aD body n):=rfl
theorem bE{A R:Type}{body:A->(A->Option R)->Option R}(f:Nat->A)(spec:Nat->Option R)(len:Nat)
 (step:∀ j,j<=len->∀ k,(j<len->k (f (j+1))=spec (j+1))->body (f j) k=spec j):∀ n j,j<=len->len-j<n->aD body n (f j)=spec j:=by
 intro n
 induction n with
 |zero=>intro j _ h;omega
 |succ n ih=>
  intro j hj hn
  rw[dU]
  exact step j hj _ (λhlt=>ih (j+1) hlt (by omega))
theorem fH{α A R:Type}{body:A->(A->Option R)->Option R}(l:List α)(ok:α->Bool)(bad after:Option R)(f:Nat->A)
 (step:∀ j,(h:j<l.length)->∀ k,body (f j) k=if ok l[j]=true then k (f (j+1))else bad) (fin:∀ k,body (f l.length) k=after) (n:Nat) (hn:l.length<n):aD body n (f 0)=if l.all ok=true then after else bad:=by
 have:=bE (body:=body) f (λj=>if(l.drop j).all ok=true then after else bad) l.length (λj hj k hk=>by
  rcases ak j l.length with hi|hi
  ·rw[step j hi,hk hi,cL hi,oh]
   cases ok l[j] <;> simp
  ·have e:j=l.length:=by omega
   rw[e,fin];simp) n 0 (aC _) (by omega)
 rwa [cU]at this
theorem Hm{A R:Type}{body:A->(A->Option R)->Option R}(f:Nat->A)(spec:Nat->Option R)(len:Nat)
 (step:∀ j,j<=len->∀ k,(∀ i,j=i+1->k (f i)=spec i)->body (f j) k=spec j):∀ n j,j<=len->j<n->aD body n (f j)=spec j:=by
 intro n
 induction n with
 |zero=>intro j _ h;omega
 |succ n ih=>
  intro j hj hn
  rw[dU]
  exact step j hj _ (λi e=>ih i (by omega) (by omega))
theorem aZ{A R:Type}{body:A->(A->Option R)->Option R}(I:Nat->A->Option R->Prop)
 (step:∀ m x r,I m x r->∀ k,(∀ m' y r',m' < m->I m' y r'->k y=r')->body x k=r):∀ n m x r,m<n->I m x r->aD body n x=r:=by
 intro n
 induction n with
 |zero=>intro m x r h;omega
 |succ n ih=>
  intro m x r h hi
  rw[dU]
  exact step m x r hi _ (λm' y r' hm hi'=>ih m' y r' (by omega) hi')
def N0:Nat:=18446744073709551616
theorem ic{n:Nat}(h:n<=maxLen):n+1<N0:=by unfold maxLen at h;unfold N0;omega
theorem bz{n:Int}(h1:-9223372036854775808<=n)(h2:n<=9223372036854775807):IntKind.wrap .i64 n=n:=jN ⟨h1,h2⟩
theorem bc{j n:Nat}(h:j<n)(hn:n<=maxLen):IntKind.wrap .i64 ((j:Int)+1)=((j+1:Nat):Int):=by
 unfold maxLen at hn
 rw[bz (by omega) (by omega)];simp
@[simp] theorem aH {A R:Type} (J:A->Option R) (body:(A->Option R)->Option R):av J body=body J:=rfl
@[simp] theorem aB {A R:Type} (a:A) (k:A->Option R):ah (some a) k=k a:=rfl
theorem ae{A R:Type}{o:Option A}{a:A}(h:o=some a)(k:A->Option R):ah o k=k a:=by rw[h];rfl
theorem bM{α:Type}(c:Bool)(a b:α):(bif c then a else b)=if c=true then a else b:=by cases c <;> rfl
end
noncomputable section
theorem yx:∀ (n:Nat) (l:List Nat),l.Nodup->(∀ x∈l,x<n)->l.length<=n:=by
 intro n
 induction n with
 |zero=>
  intro l _ h
  cases l with
  |nil=>simp
  |cons x xs=>have:=h x (by simp);omega
 |succ n ih=>
  intro l hn h
  by_cases hm:n∈l
  ·have h1:(l.erase n).length<=n:=by
    refine ih _ (hn.erase n) (λx hx=>?_)
    have hx1:x∈l:=List.mem_of_mem_erase hx
    have hx2:x≠n:=by
     rintro rfl
     exact(List.Nodup.not_mem_erase hn) hx
    have:=h x hx1
    omega
   rw[List.length_erase_of_mem hm]at h1
   omega
  ·refine Nat.le_succ_of_le (ih l hn (λx hx=>?_))
   have:=h x hx
   have hne:x≠n:=by rintro rfl;exact hm hx
   omega
theorem rP{α:Type}(R:α->Nat->Prop)(hf:∀ x y c,R x c->R y c->x=y)(n:Nat)(l:List α)(hn:l.Nodup)(h:∀ x∈l,∃ c,c<n/\R x c):l.length<=n:=by
 have key:∀ l:List α,l.Nodup->(∀ x∈l,∃ c,c<n/\R x c)->∃ cs:List Nat,cs.length=l.length/\cs.Nodup/\∀ c∈cs,c<n/\∃ x∈l,R x c:=by
  intro l
  induction l with
  |nil=>intro _ _;exact⟨[],rfl,List.nodup_nil,λc hc=>by simp at hc⟩
  |cons x xs ih=>
   intro hn h
   obtain⟨h1,h2⟩:=n5.1 hn
   obtain⟨cs,e1,e2,e3⟩:=ih h2 (λy hy=>h y (by simp[hy]))
   obtain⟨c,hc,hr⟩:=h x (by simp)
   refine⟨c::cs,by simp[e1],n5.2 ⟨λhm=>?_,e2⟩,λd hd=>?_⟩
   ·obtain⟨_,y,hy,hry⟩:=e3 c hm
    exact h1 (hf x y c hr hry ▸ hy)
   ·rcases ay.1 hd with rfl|hd
    ·exact⟨hc,x,by simp,hr⟩
    ·obtain⟨q1,y,hy,q2⟩:=e3 d hd
     exact⟨q1,y,by simp[hy],q2⟩
 obtain⟨cs,e1,e2,e3⟩:=key l hn h
 rw[<-e1]
 exact yx n cs e2 (λc hc=>(e3 c hc).1)
def dG:List Bool->Nat
 |[]=>0
 |b::r=>(if b then 1 else 0)+2*dG r
theorem lE:∀ (l:List Bool),dG l<2 ^ l.length:=by
 intro l
 induction l with
 |nil=>simp[dG]
 |cons b r ih=>
  simp only[dG,aM,iz]
  split <;> omega
theorem oD:∀ (l m:List Bool),l.length=m.length->dG l=dG m->l=m:=by
 intro l
 induction l with
 |nil=>intro m hl _;cases m with
  |nil=>rfl
  |cons _ _=>simp at hl
 |cons b r ih=>
  intro m hl h
  cases m with
  |nil=>simp at hl
  |cons c s=>
   simp only[dG]at h
   have hbc:b=c:=by cases b <;> cases c <;> simp at h |- <;> omega
   subst hbc
   rw[ih s (by simpa using hl) (by omega)]
end
noncomputable section
inductive Rx where
 |eps
 |set (S:List Int)
 |cat (a b:Rx)
 |alt (a b:Rx)
 |rep (k:Int) (a:Rx)
abbrev Pc:=Int×List Int
def zS:List Int:=[0,0,0,0]
def Rx.post:Rx->List Pc
 |.eps=>[(0,zS)]
 |.set S=>[(1,S)]
 |.cat a b=>a.post++b.post++[(2,zS)]
 |.alt a b=>a.post++b.post++[(3,zS)]
 |.rep k a=>a.post++[(k,zS)]
def Rx.len:Rx->Nat
 |.eps=>1
 |.set _=>1
 |.cat a b=>a.len+b.len+1
 |.alt a b=>a.len+b.len+1
 |.rep _ a=>a.len+1
def Rx.null:Rx->Bool
 |.eps=>true
 |.set _=>false
 |.cat a b=>a.null&&b.null
 |.alt a b=>a.null||b.null
 |.rep k a=>!decide (k=5)||a.null
def Rx.ok:Rx->Prop
 |.eps=>True
 |.set S=>S.length=4/\S≠zS/\∀ x∈S,0<=x/\x<=18446744073709551615
 |.cat a b=>a.ok/\b.ok
 |.alt a b=>a.ok/\b.ok
 |.rep k a=>(k=4\/k=5\/k=6)/\a.ok
theorem Rx.bK:∀ t:Rx,0<t.len:=by intro t;cases t <;> simp[Rx.len]
theorem Rx.aV:∀ t:Rx,t.post.length=t.len:=by
 intro t
 induction t with
 |eps=>rfl
 |set S=>rfl
 |cat a b iha ihb=>simp[Rx.post,Rx.len,iha,ihb];omega
 |alt a b iha ihb=>simp[Rx.post,Rx.len,iha,ihb];omega
 |rep k a ih=>simp[Rx.post,Rx.len,ih]
abbrev Ed:=Nat×Nat×List Int×Bool
def fE(p q:Nat):Ed:=(p,q,zS,true)
def Rx.fst(t:Rx)(n:Nat):Nat:=n+2*t.len-2
def Rx.lst(t:Rx)(n:Nat):Nat:=n+2*t.len-1
def Rx.az:Rx->Nat->List Ed
 |.eps,n=>[fE n (n+1)]
 |.set S,n=>[(n,n+1,S,false)]
 |.cat a b,n=>a.az n++b.az (n+2*a.len)++[fE (n+2*(a.len+b.len)) (a.fst n),fE (a.lst n) (b.fst (n+2*a.len)),fE (b.lst (n+2*a.len)) (n+2*(a.len+b.len)+1)]
 |.alt a b,n=>a.az n++b.az (n+2*a.len)++[fE (n+2*(a.len+b.len)) (a.fst n),fE (a.lst n) (n+2*(a.len+b.len)+1),fE (n+2*(a.len+b.len)) (b.fst (n+2*a.len)),fE (b.lst (n+2*a.len)) (n+2*(a.len+b.len)+1)]
 |.rep k a,n=>a.az n++[fE (n+2*a.len) (a.fst n),fE (a.lst n) (n+2*a.len+1)]++(if k=6 then []else [fE (a.lst n) (a.fst n)])++(if k=5 then []else [fE (n+2*a.len) (n+2*a.len+1)])
theorem Rx.dJ:∀ (t:Rx) (n:Nat),∀ e∈t.az n,n<=e.1/\e.1<n+2*t.len/\n<=e.2.1/\e.2.1<n+2*t.len:=by
 intro t
 induction t with
 |eps=>intro n e he;simp[Rx.az,fE]at he;subst he;simp[Rx.len]
 |set S=>intro n e he;simp[Rx.az]at he;subst he;simp[Rx.len]
 |cat a b iha ihb=>
  intro n e he
  have ha:=a.bK
  have hb:=b.bK
  simp only[Rx.az,au,ay,bX,or_false]at he
  simp only[Rx.len]
  rcases he with(he|he)|he|he|he
  ·have:=iha n e he;omega
  ·have:=ihb _ e he;omega
  all_goals (subst he;simp only[fE,Rx.fst,Rx.lst];omega)
 |alt a b iha ihb=>
  intro n e he
  have ha:=a.bK
  have hb:=b.bK
  simp only[Rx.az,au,ay,bX,or_false]at he
  simp only[Rx.len]
  rcases he with(he|he)|he|he|he|he
  ·have:=iha n e he;omega
  ·have:=ihb _ e he;omega
  all_goals (subst he;simp only[fE,Rx.fst,Rx.lst];omega)
 |rep k a ih=>
  intro n e he
  have ha:=a.bK
  simp only[Rx.az,au,ay,bX,or_false]at he
  simp only[Rx.len]
  rcases he with((he|he|he)|he)|he
  ·have:=ih n e he;omega
  ·subst he;simp only[fE,Rx.fst,Rx.lst];omega
  ·subst he;simp only[fE,Rx.fst,Rx.lst];omega
  ·split at he
   ·simp at he
   ·simp only[aL]at he;subst he;simp only[fE,Rx.fst,Rx.lst];omega
  ·split at he
   ·simp at he
   ·simp only[aL]at he;subst he;simp only[fE,Rx.fst,Rx.lst];omega
def Rx.cl:Rx->Nat->Nat->Bool
 |.eps,n,q=>decide (q=n)||decide (q=n+1)
 |.set _,n,q=>decide (q=n)
 |.cat a b,n,q=>decide (q=n+2*(a.len+b.len))||a.cl n q||(a.null&&b.cl (n+2*a.len) q)||(a.null&&b.null&&decide (q=n+2*(a.len+b.len)+1))
 |.alt a b,n,q=>decide (q=n+2*(a.len+b.len))||a.cl n q||b.cl (n+2*a.len) q||((a.null||b.null)&&decide (q=n+2*(a.len+b.len)+1))
 |.rep k a,n,q=>decide (q=n+2*a.len)||a.cl n q||((!decide (k=5)||a.null)&&decide (q=n+2*a.len+1))
theorem Rx.sQ:∀ (t:Rx) (n q:Nat),t.cl n q=true->n<=q/\q<n+2*t.len:=by
 intro t
 induction t with
 |eps=>intro n q h;simp only[Rx.cl,aG,decide_eq_true_eq]at h;simp only[Rx.len];omega
 |set S=>intro n q h;simp only[Rx.cl,decide_eq_true_eq]at h;simp only[Rx.len];omega
 |cat a b iha ihb=>
  intro n q h
  simp only[Rx.cl,aG,ag,decide_eq_true_eq]at h
  simp only[Rx.len]
  rcases h with((h|h)|h)|h
  ·omega
  ·have:=iha n q h;omega
  ·have:=ihb _ q h.2;omega
  ·omega
 |alt a b iha ihb=>
  intro n q h
  simp only[Rx.cl,aG,ag,decide_eq_true_eq]at h
  simp only[Rx.len]
  rcases h with((h|h)|h)|h
  ·omega
  ·have:=iha n q h;omega
  ·have:=ihb _ q h;omega
  ·omega
 |rep k a ih=>
  intro n q h
  simp only[Rx.cl,aG,ag,decide_eq_true_eq]at h
  simp only[Rx.len]
  rcases h with(h|h)|h
  ·omega
  ·have:=ih n q h;omega
  ·omega
theorem Rx.uR(t:Rx){n q:Nat}(h:q<n\/n+2*t.len<=q):t.cl n q=false:=by
 cases hc:t.cl n q
 ·rfl
 ·have:=t.sQ n q hc;omega
theorem Rx.nC:∀ (t:Rx) (n:Nat),t.cl n (t.fst n)=true:=by
 intro t n
 have:=t.bK
 cases t with
 |eps=>simp[Rx.cl,Rx.fst,Rx.len]
 |set S=>simp[Rx.cl,Rx.fst,Rx.len]
 |cat a b=>
  have e:(Rx.cat a b).fst n=n+2*(a.len+b.len):=by simp only[Rx.fst,Rx.len];omega
  rw[e];simp[Rx.cl]
 |alt a b=>
  have e:(Rx.alt a b).fst n=n+2*(a.len+b.len):=by simp only[Rx.fst,Rx.len];omega
  rw[e];simp[Rx.cl]
 |rep k a=>
  have e:(Rx.rep k a).fst n=n+2*a.len:=by simp only[Rx.fst,Rx.len];omega
  rw[e];simp[Rx.cl]
theorem Rx.rQ:∀ (t:Rx) (n:Nat),t.cl n (t.lst n)=t.null:=by
 intro t n
 have:=t.bK
 cases t with
 |eps=>simp[Rx.cl,Rx.lst,Rx.len,Rx.null]
 |set S=>simp[Rx.cl,Rx.lst,Rx.len,Rx.null]
 |cat a b=>
  have e:(Rx.cat a b).lst n=n+2*(a.len+b.len)+1:=by simp only[Rx.lst,Rx.len];omega
  rw[e]
  simp only[Rx.cl,a.uR (n:=n) (q:=n+2*(a.len+b.len)+1) (by omega),b.uR (n:=n+2*a.len) (q:=n+2*(a.len+b.len)+1) (by omega),Rx.null]
  simp
 |alt a b=>
  have e:(Rx.alt a b).lst n=n+2*(a.len+b.len)+1:=by simp only[Rx.lst,Rx.len];omega
  rw[e]
  simp only[Rx.cl,a.uR (n:=n) (q:=n+2*(a.len+b.len)+1) (by omega),b.uR (n:=n+2*a.len) (q:=n+2*(a.len+b.len)+1) (by omega),Rx.null]
  simp
 |rep k a=>
  have e:(Rx.rep k a).lst n=n+2*a.len+1:=by simp only[Rx.lst,Rx.len];omega
  rw[e]
  simp only[Rx.cl,a.uR (n:=n) (q:=n+2*a.len+1) (by omega),Rx.null]
  simp
theorem Rx.pv(t:Rx)(n:Nat):n<=t.fst n/\t.fst n<n+2*t.len:=by have:=t.bK;simp only[Rx.fst];omega
theorem Rx.kI(t:Rx)(n:Nat):n<=t.lst n/\t.lst n<n+2*t.len:=by have:=t.bK;simp only[Rx.lst];omega
theorem Rx.El:∀ (t:Rx) (n:Nat),∀ e∈t.az n,e.2.2.2=true->t.cl n e.1=true->t.cl n e.2.1=true:=by
 intro t
 induction t with
 |eps=>intro n e he _ h;simp[Rx.az,fE]at he;subst he;simp[Rx.cl]
 |set S=>intro n e he hf h;simp[Rx.az]at he;subst he;cases hf
 |cat a b iha ihb=>
  intro n e he hf h
  have ha:=a.bK
  have hb:=b.bK
  simp only[Rx.az,au,ay,bX,or_false]at he
  simp only[Rx.cl,aG,ag,decide_eq_true_eq]at h |-
  rcases he with(he|he)|he|he|he
  ·have hr:=a.dJ n e he
   have:a.cl n e.1=true:=by
    rcases h with((h|h)|h)|h
    ·omega
    ·exact h
    ·have:=b.sQ _ _ h.2;omega
    ·omega
   exact .inl (.inl (.inr (iha n e he hf this)))
  ·have hr:=b.dJ _ e he
   have:a.null=true/\b.cl (n+2*a.len) e.1=true:=by
    rcases h with((h|h)|h)|h
    ·omega
    ·have:=a.sQ _ _ h;omega
    ·exact h
    ·omega
   exact .inl (.inr ⟨this.1,ihb _ e he hf this.2⟩)
  ·subst he;exact .inl (.inl (.inr (a.nC n)))
  ·subst he
   simp only[fE]at h |-
   have hi:=a.kI n
   have:a.null=true:=by
    rcases h with((h|h)|h)|h
    ·omega
    ·rw[a.rQ]at h;exact h
    ·exact h.1
    ·omega
   exact .inl (.inr ⟨this,b.nC _⟩)
  ·subst he
   simp only[fE]at h |-
   have hi:=b.kI (n+2*a.len)
   have:a.null=true/\b.null=true:=by
    rcases h with((h|h)|h)|h
    ·omega
    ·have:=a.sQ _ _ h;omega
    ·rw[b.rQ]at h;exact h
    ·exact h.1
   exact .inr ⟨this,trivial⟩
 |alt a b iha ihb=>
  intro n e he hf h
  have ha:=a.bK
  have hb:=b.bK
  simp only[Rx.az,au,ay,bX,or_false]at he
  simp only[Rx.cl,aG,ag,decide_eq_true_eq]at h |-
  rcases he with(he|he)|he|he|he|he
  ·have hr:=a.dJ n e he
   have:a.cl n e.1=true:=by
    rcases h with((h|h)|h)|h
    ·omega
    ·exact h
    ·have:=b.sQ _ _ h;omega
    ·omega
   exact .inl (.inl (.inr (iha n e he hf this)))
  ·have hr:=b.dJ _ e he
   have:b.cl (n+2*a.len) e.1=true:=by
    rcases h with((h|h)|h)|h
    ·omega
    ·have:=a.sQ _ _ h;omega
    ·exact h
    ·omega
   exact .inl (.inr (ihb _ e he hf this))
  ·subst he;exact .inl (.inl (.inr (a.nC n)))
  ·subst he
   simp only[fE]at h |-
   have hi:=a.kI n
   have:a.null=true:=by
    rcases h with((h|h)|h)|h
    ·omega
    ·rw[a.rQ]at h;exact h
    ·have:=b.sQ _ _ h;omega
    ·omega
   exact .inr ⟨.inl this,trivial⟩
  ·subst he;exact .inl (.inr (b.nC _))
  ·subst he
   simp only[fE]at h |-
   have hi:=b.kI (n+2*a.len)
   have:b.null=true:=by
    rcases h with((h|h)|h)|h
    ·omega
    ·have:=a.sQ _ _ h;omega
    ·rw[b.rQ]at h;exact h
    ·omega
   exact .inr ⟨.inr this,trivial⟩
 |rep k a ih=>
  intro n e he hf h
  have ha:=a.bK
  simp only[Rx.az,au,ay,bX,or_false]at he
  simp only[Rx.cl,aG,ag,bx,decide_eq_true_eq,decide_eq_false_iff_not]at h |-
  have hi:=a.kI n
  have hj:=a.pv n
  rcases he with((he|he|he)|he)|he
  ·have hr:=a.dJ n e he
   have:a.cl n e.1=true:=by
    rcases h with(h|h)|h
    ·omega
    ·exact h
    ·omega
   exact .inl (.inr (ih n e he hf this))
  ·subst he;exact .inl (.inr (a.nC n))
  ·subst he
   simp only[fE]at h |-
   have:a.null=true:=by
    rcases h with(h|h)|h
    ·omega
    ·rw[a.rQ]at h;exact h
    ·omega
   exact .inr ⟨.inr this,trivial⟩
  ·split at he
   ·simp at he
   ·simp only[aL]at he;subst he;exact .inl (.inr (a.nC n))
  ·split at he
   ·simp at he
   ·rename_i h5
    simp only[aL]at he;subst he
    exact .inr ⟨.inl h5,rfl⟩
inductive Fr0(E:List Ed):Nat->Nat->Prop where
 |refl (p:Nat):Fr0 E p p
 |step {p q r:Nat}:Fr0 E p q->(q,r,zS,true)∈E->Fr0 E p r
theorem Fr0.mono{E E':List Ed}(h:∀ e∈E,e∈E'){p q:Nat}(hp:Fr0 E p q):Fr0 E' p q:=by
 induction hp with
 |refl=>exact .refl _
 |step _ he ih=>exact .step ih (h _ he)
theorem Fr0.trans{E:List Ed}{p q r:Nat}(h1:Fr0 E p q)(h2:Fr0 E q r):Fr0 E p r:=by
 induction h2 with
 |refl=>exact h1
 |step _ he ih=>exact .step ih he
theorem Rx.J0:∀ (t:Rx) (n:Nat),t.null=true->Fr0 (t.az n) (t.fst n) (t.lst n):=by
 intro t
 induction t with
 |eps=>
  intro n _
  have e1:Rx.eps.fst n=n:=by simp[Rx.fst,Rx.len]
  have e2:Rx.eps.lst n=n+1:=by simp[Rx.lst,Rx.len]
  rw[e1,e2]
  exact .step (.refl _) (by simp[Rx.az,fE])
 |set S=>intro n h;cases h
 |cat a b iha ihb=>
  intro n h
  simp only[Rx.null,ag]at h
  have e1:(Rx.cat a b).fst n=n+2*(a.len+b.len):=by simp only[Rx.fst,Rx.len];omega
  have e2:(Rx.cat a b).lst n=n+2*(a.len+b.len)+1:=by simp only[Rx.lst,Rx.len];omega
  rw[e1,e2]
  have w1:Fr0 ((Rx.cat a b).az n) (n+2*(a.len+b.len)) (a.fst n):=.step (.refl _) (by simp[Rx.az,fE])
  have w2:=(iha n h.1).mono (E':=(Rx.cat a b).az n) (λe he=>by simp only[Rx.az,au];exact .inl (.inl he))
  have w3:=(ihb (n+2*a.len) h.2).mono (E':=(Rx.cat a b).az n) (λe he=>by simp only[Rx.az,au];exact .inl (.inr he))
  exact .step ((Fr0.step (w1.trans w2) (by simp[Rx.az,fE])).trans w3) (by simp[Rx.az,fE])
 |alt a b iha ihb=>
  intro n h
  simp only[Rx.null,aG]at h
  have e1:(Rx.alt a b).fst n=n+2*(a.len+b.len):=by simp only[Rx.fst,Rx.len];omega
  have e2:(Rx.alt a b).lst n=n+2*(a.len+b.len)+1:=by simp only[Rx.lst,Rx.len];omega
  rw[e1,e2]
  rcases h with h|h
  ·have w1:Fr0 ((Rx.alt a b).az n) (n+2*(a.len+b.len)) (a.fst n):=.step (.refl _) (by simp[Rx.az,fE])
   have w2:=(iha n h).mono (E':=(Rx.alt a b).az n) (λe he=>by simp only[Rx.az,au];exact .inl (.inl he))
   exact .step (w1.trans w2) (by simp[Rx.az,fE])
  ·have w1:Fr0 ((Rx.alt a b).az n) (n+2*(a.len+b.len)) (b.fst (n+2*a.len)):=.step (.refl _) (by simp[Rx.az,fE])
   have w2:=(ihb _ h).mono (E':=(Rx.alt a b).az n) (λe he=>by simp only[Rx.az,au];exact .inl (.inr he))
   exact .step (w1.trans w2) (by simp[Rx.az,fE])
 |rep k a ih=>
  intro n h
  have e1:(Rx.rep k a).fst n=n+2*a.len:=by simp only[Rx.fst,Rx.len];omega
  have e2:(Rx.rep k a).lst n=n+2*a.len+1:=by simp only[Rx.lst,Rx.len];omega
  rw[e1,e2]
  by_cases h5:k=5
  ·simp only[Rx.null,h5,decide_true,aA,cV]at h
   have w1:Fr0 ((Rx.rep k a).az n) (n+2*a.len) (a.fst n):=.step (.refl _) (by simp[Rx.az,fE])
   have w2:=(ih n h).mono (E':=(Rx.rep k a).az n) (λe he=>by simp only[Rx.az,au];exact .inl (.inl (.inl he)))
   exact .step (w1.trans w2) (by simp[Rx.az,fE])
  ·exact .step (.refl _) (by simp[Rx.az,fE,h5])
end
noncomputable section
def qe(c:Int):Option Int:=if 48<=c/\c<=57 then some (c-48)else if 97<=c/\c<=102 then some (c-87)else none
def mG(c:Int):Bool:=(decide (48<=c)&&decide (c<=57))||(decide (97<=c)&&decide (c<=122))||(decide (65<=c)&&decide (c<=90))
def rdS:List Int->Option (Int×Nat)
 |[]=>none
 |c::r=>if c≠92 then some (c,1)else match r with
  |[]=>none
  |d::r2=>if d=110 then some (10,2)else if d=116 then some (9,2)else if d=114 then some (13,2)else
   if d=120 then(match r2 with
    |h::l::_=>(match qe h,qe l with
     |some a,some b=>some (16*a+b,4)
     |_,_=>none)
    |_=>none)
   else if mG d=true\/d<32\/126<d then none else some (d,2)
def mH(l:Nat->Bool):Nat->Nat
 |0=>0
 |n+1=>(if l n then 2 ^ n else 0)+mH l n
theorem wZ(l:Nat->Bool)(w:Nat):∃ n,n=mH (λi=>l (64*w+i)) 64:=⟨_,rfl⟩
def br(l:Nat->Bool)(w:Nat):Nat:=Classical.choose (wZ l w)
theorem mj(l:Nat->Bool)(w:Nat):br l w=mH (λi=>l (64*w+i)) 64:=Classical.choose_spec (wZ l w)
def ofB(l:Nat->Bool):List Int:=[(br l 0:Nat),(br l 1:Nat),(br l 2:Nat),(br l 3:Nat)]
def rR(c:Int):Nat->Bool:=λi=>decide (c=(i:Int))
def uS(a b:Int):Nat->Bool:=λi=>decide (a<=(i:Int))&&decide ((i:Int)<=b)
def dY(l:Nat->Bool):Bool:=(List.range 256).all λi=>!l i
def ch(s:List Int)(at_:Nat):Int:=(s[at_]?).getD (-1)
def brL(s:List Int):Nat->Nat->(Nat->Bool)->Option ((Nat->Bool)×Nat)
 |0,_,_=>none
 |m+1,i,l=>if s.length<=i\/ch s i=93 then some (l,i)else
  if ch s i∈[94,45,47,34]then none else match rdS (s.drop i)with
   |none=>none
   |some (a,n)=>if i+n<s.length/\ch s (i+n)=45 then
    (if s.length<=i+n+1\/ch s (i+n+1)∈[93,94,45,47,34]then none else match rdS (s.drop (i+n+1))with
     |none=>none
     |some (b,n2)=>if b<a then none else brL s m (i+n+1+n2) λx=>l x||uS a b x)
    else brL s m (i+n) λx=>l x||uS a a x
def brS(s:List Int)(i:Nat):Option (Rx×Nat):=
 let nt:=decide (i<s.length)&&decide (ch s i=94)
 match brL s s.length.succ (if nt then i+1 else i) (λ_=>false)with
 |none=>none
 |some (l,j)=>
  let l':=if nt then λx=>!l x else l
  if s.length<=j\/dY l'=true then none else some (.set (ofB l'),j+1)
def mM(inner:Nat->Nat->Option (Rx×Nat))(s:List Int)(i d:Nat):Option (Rx×Nat):=
 if s.length<=i\/ch s i∈[124,41,42,43,63,93,47,34]then none
 else if ch s i=46 then some (.set (ofB λ_=>true),i+1)
 else if ch s i=126 then some (.eps,i+1)
 else if ch s i=91 then brS s (i+1)
 else if ch s i=40 then(if 99<=d then none else match inner (i+1) (d+1)with
  |none=>none
  |some (t,j)=>if j<s.length/\ch s j=41 then some (t,j+1)else none)
 else match rdS (s.drop i)with
  |none=>none
  |some (c,n)=>some (.set (ofB (rR c)),i+n)
def iH(c:Int):Int:=if c=42 then 4 else if c=43 then 5 else 6
def rS(s:List Int):Nat->Nat->Rx->Option (Rx×Nat)
 |0,_,_=>none
 |m+1,i,t=>if i<s.length/\ch s i∈[42,43,63]then rS s m (i+1) (.rep (iH (ch s i)) t)else some (t,i)
def kJ(inner:Nat->Nat->Option (Rx×Nat))(s:List Int)(i d:Nat):Option (Rx×Nat):=
 match mM inner s i d with
 |none=>none
 |some (t,j)=>rS s s.length.succ j t
def th(inner:Nat->Nat->Option (Rx×Nat))(s:List Int)(d:Nat):Nat->Nat->Rx->Option (Rx×Nat)
 |0,_,_=>none
 |m+1,i,t=>if i<s.length/\ch s i∉[124,41]then(match kJ inner s i d with
  |none=>none
  |some (t2,j)=>th inner s d m j (.cat t t2))else some (t,i)
def lF(inner:Nat->Nat->Option (Rx×Nat))(s:List Int)(i d:Nat):Option (Rx×Nat):=
 match kJ inner s i d with
 |none=>none
 |some (t,j)=>th inner s d s.length.succ j t
def tj(inner:Nat->Nat->Option (Rx×Nat))(s:List Int)(d:Nat):Nat->Nat->Rx->Option (Rx×Nat)
 |0,_,_=>none
 |m+1,i,t=>if i<s.length/\ch s i=124 then(match lF inner s (i+1) d with
  |none=>none
  |some (t2,j)=>tj inner s d m j (.alt t t2))else some (t,i)
def C5(inner:Nat->Nat->Option (Rx×Nat))(s:List Int)(i d:Nat):Option (Rx×Nat):=
 match lF inner s i d with
 |none=>none
 |some (t,j)=>tj inner s d s.length.succ j t
def kh(s:List Int):Nat->Nat->Nat->Option (Rx×Nat)
 |0,_,_=>none
 |n+1,i,d=>C5 (kh s n) s i d
def gb(s:List Int):Except Int Rx:=
 if 1600<s.length then .error 6 else match kh s s.length.succ 0 0 with
  |none=>.error 5
  |some (t,i)=>if i<s.length then .error 5 else if 400<t.len then .error 6 else .ok t
end
noncomputable section
theorem uT(l:Nat->Bool):∀ n,mH l n<2 ^ n:=by
 intro n
 induction n with
 |zero=>simp[mH]
 |succ n ih=>simp only[mH,iz];split <;> omega
theorem w5(l:Nat->Bool):∀ n i,(mH l n).testBit i=(decide (i<n)&&l i):=by
 intro n
 induction n with
 |zero=>intro i;simp[mH]
 |succ n ih=>
  intro i
  have hlt:=uT l n
  simp only[mH]
  by_cases hl:l n=true
  ·rw[if_pos hl]
   rcases Nat.lt_trichotomy i n with h|h|h
   ·rw[Nat.testBit_two_pow_add_gt h,ih]
    simp[h,fe h]
   ·subst h
    rw[Nat.testBit_two_pow_add_eq,jB hlt]
    simp[hl]
   ·rw[jB (bA (show 2 ^ n+mH l n<2 ^ (n+1) by rw[iz];omega) (iu (by omega) h))]
    have:¬i<n+1:=by omega
    simp[this]
  ·rw[if_neg hl,et,ih]
   have hl:l n=false:=by simpa using hl
   by_cases h:i=n
   ·subst h;simp[hl]
   ·have:(i<n)↔(i<n+1):=by omega
    simp[this]
theorem dQ(l:Nat->Bool)(w:Nat):br l w<18446744073709551616:=by rw[mj];exact uT _ 64
theorem dw(l:Nat->Bool)(w i:Nat):(br l w).testBit i=(decide (i<64)&&l (64*w+i)):=by rw[mj];exact w5 _ 64 i
theorem gw{l m:Nat->Bool}{w:Nat}(h:∀ i,i<64->l (64*w+i)=m (64*w+i)):br l w=br m w:=by
 apply fK
 intro i
 rw[dw,dw]
 by_cases hi:i<64
 ·rw[h i hi]
 ·simp[hi]
theorem oE{l:Nat->Bool}{w n:Nat}(h:∀ i,n.testBit i=(decide (i<64)&&l (64*w+i))):n=br l w:=by
 apply fK
 intro i
 rw[h,dw]
theorem iT{l m:Nat->Bool}(h:∀ i,i<256->l i=m i):ofB l=ofB m:=by
 unfold ofB
 rw[gw (w:=0) (λi hi=>h _ (by omega)),gw (w:=1) (λi hi=>h _ (by omega)),gw (w:=2) (λi hi=>h _ (by omega)),gw (w:=3) (λi hi=>h _ (by omega))]
theorem jw{l:Nat->Bool}{w:Nat}(h:w<4):(ofB l)[w]?=some ((br l w:Nat):Int):=by
 unfold ofB
 match w,h with
 |0,_=>rfl
 |1,_=>rfl
 |2,_=>rfl
 |3,_=>rfl
theorem XI{a b c d n a' b' c' d':Int}{w:Nat}(h:w<4)(h0:if w=0 then a'=n else a'=a)(h1:if w=1 then b'=n else b'=b)(h2:if w=2 then c'=n else c'=c)(h3:if w=3 then d'=n else d'=d):[a,b,c,d].set w n=[a',b',c',d']:=by
 have:w=0\/w=1\/w=2\/w=3:=by omega
 rcases this with rfl|rfl|rfl|rfl <;> simp at h0 h1 h2 h3 <;> subst h0 h1 h2 h3 <;> rfl
theorem yy{l m:Nat->Bool}{w n:Nat}(h:w<4)(hn:n=br m w)(hm:∀ v i,v<4->v≠w->i<64->l (64*v+i)=m (64*v+i)):(ofB l).set w (n:Int)=ofB m:=by
 have key:∀ v,v<4->(if w=v then((br m v:Nat):Int)=(n:Int)else((br m v:Nat):Int)=((br l v:Nat):Int)):=by
  intro v hv
  split
  ·rename_i e;rw[hn,e]
  ·rename_i e
   rw[gw (l:=l) (m:=m) (w:=v) (λi hi=>hm v i hv (λe2=>e e2.symm) hi)]
 exact XI h (key 0 (by omega)) (key 1 (by omega)) (key 2 (by omega)) (key 3 (by omega))
theorem RD(l:Nat->Bool):∀ x∈ofB l,0<=x/\x<=18446744073709551615:=by
 intro x hx
 simp only[ofB,ay,bX,or_false]at hx
 have h0:=dQ l 0
 have h1:=dQ l 1
 have h2:=dQ l 2
 have h3:=dQ l 3
 generalize br l 0=a0 at *
 generalize br l 1=a1 at *
 generalize br l 2=a2 at *
 generalize br l 3=a3 at *
 omega
theorem sR{l:Nat->Bool}{w:Nat}:br l w=0↔∀ i,i<64->l (64*w+i)=false:=by
 constructor
 ·intro h i hi
  have:=dw l w i
  rw[h]at this
  simpa [hi]using this.symm
 ·intro h
  apply fK
  intro i
  rw[dw]
  by_cases hi:i<64
  ·simp[h i hi]
  ·simp[hi]
theorem gT{l:Nat->Bool}:ofB l=zS↔dY l=true:=by
 unfold dY
 rw[cD]
 constructor
 ·intro h i hi
  have hi:=cz.1 hi
  simp only[ofB,zS,eG,and_true]at h
  have hw:∀ w,w<4->br l w=0:=by
   intro w hw
   match w,hw with
   |0,_=>omega
   |1,_=>omega
   |2,_=>omega
   |3,_=>omega
  have:=sR.1 (hw (i / 64) (by omega)) (i % 64) (by omega)
  rw[show 64*(i / 64)+i % 64=i by omega]at this
  simp[this]
 ·intro h
  have hz:∀ w,w<4->br l w=0:=λw hw=>sR.2 λi hi=>by
   have:=h (64*w+i) (cz.2 (by omega))
   simpa using this
  simp[ofB,zS,hz]
theorem rT{n:Nat}(h:n<18446744073709551616):(BitVec.ofInt (IntKind.bits .u64) (n:Int)).toNat=n:=by
 have:IntKind.bits .u64=64:=rfl
 rw[this,nT]
 omega
theorem wrap_u64{n:Nat}(h:n<18446744073709551616):IntKind.wrap .u64 (n:Int)=n:=jN ⟨by simp[kLo],by simp[kHi];omega⟩
theorem J1{a b:Nat}(ha:a<18446744073709551616)(hb:b<18446744073709551616):dK .or .u64 (a:Int) (b:Int)=((a|||b:Nat):Int):=by
 have hlt:a|||b<2 ^ 64:=qW ha hb
 simp only[dK,rc,rT ha,rT hb]
 exact wrap_u64 hlt
theorem C6{a b:Nat}(ha:a<18446744073709551616)(hb:b<18446744073709551616):dK .andNot .u64 (a:Int) (b:Int)=((a&&& (18446744073709551615-b):Nat):Int):=by
 have hlt:a&&& (18446744073709551615-b)<2 ^ 64:=Nat.and_lt_two_pow _ (by omega)
 simp only[dK,qY,BitVec.toNat_not,rT ha,rT hb]
 exact wrap_u64 hlt
theorem Bb{i:Nat}(h:i<64):2 ^ i<18446744073709551616:=bA (nS (by omega) h) (by decide)
theorem yz{i:Nat}(h:i<64):IntKind.wrap .u64 ((1:Int)*2 ^ (Nat.min (Int.toNat (i:Int)) (IntKind.bits .u64)))=((2 ^ i:Nat):Int):=by
 have e:Nat.min (Int.toNat (i:Int)) (IntKind.bits .u64)=i:=by
  rw[aa];exact cS (by show i<=64;omega)
 rw[e,Int.one_mul]
 have:=wrap_u64 (Bb h)
 rw[<-this]
 congr 1
theorem J2{l:Nat->Bool}{w i:Nat}(hi:i<64):br l w|||2 ^ i=br (λx=>l x||decide (x=64*w+i)) w:=by
 apply oE
 intro j
 rw[kW,dw,kP]
 by_cases hj:j<64
 ·simp only[hj,decide_true,bG]
  congr 1
  rw[decide_eq_decide];omega
 ·simp only[hj,decide_false,dE,cV,decide_eq_false_iff_not];omega
theorem N6{l m:Nat->Bool}{w:Nat}:br l w|||br m w=br (λx=>l x||m x) w:=by
 apply oE
 intro j
 rw[kW,dw,dw]
 cases decide (j<64) <;> simp
theorem J3{l:Nat->Bool}{w:Nat}:18446744073709551615&&& (18446744073709551615-br l w)=br (λx=>!l x) w:=by
 apply oE
 intro j
 have h:=dQ l w
 rw[Nat.testBit_and,show(18446744073709551615:Nat)=2 ^ 64-1 by rfl,Nat.testBit_two_pow_sub_one,show 2 ^ 64-1-br l w=2 ^ 64-(br l w+1) by omega,Nat.testBit_two_pow_sub_succ h,dw]
 cases decide (j<64) <;> simp
end
noncomputable section
theorem J4(i:Nat):Int.tdiv (i:Int) 64=((i / 64:Nat):Int):=by
 rw[show(64:Int)=((64:Nat):Int) by rfl];exact kT i 64 |>.symm
theorem J5(i:Nat):Int.tmod (i:Int) 64=((i % 64:Nat):Int):=by
 rw[show(64:Int)=((64:Nat):Int) by rfl];exact oc i 64 |>.symm
theorem bH{n:Nat}(h:n<9223372036854775808):IntKind.wrap .i64 (n:Int)=n:=bz (by omega) (by omega)
theorem j4{n:Nat}(h:n<256):IntKind.wrap .u8 (n:Int)=n:=jN ⟨by simp[kLo],by simp[kHi];omega⟩
theorem Em{f:Nat->Bool}{i:Nat}(h:i<256):(ofB f).set (i / 64) (dK .or .u64 ((br f (i / 64):Nat):Int) ((2 ^ (i % 64):Nat):Int))=ofB (λx=>f x||decide (x=i)):=by
 have hi:i % 64<64:=eI _ (by omega)
 rw[J1 (dQ _ _) (Bb hi),J2 hi]
 have e:64*(i / 64)+i % 64=i:=by omega
 rw[e]
 refine yy (by omega) rfl (λv j hv hne hj=>?_)
 have:¬(64*v+j=i):=by omega
 simp[this]
theorem En:Nd N0 ()=some ((ofB (λ_=>true),()),()):=by
 have h:∀ w,br (λ_=>true) w=18446744073709551615:=λw=>by rw[mj];rfl
 have:ofB (λ_=>true)=[18446744073709551615,18446744073709551615,18446744073709551615,18446744073709551615]:=by unfold ofB;simp only[h];rfl
 rw[this]
 rfl
theorem N7{a b:Int}(ha:0<=a/\a<=255)(hb:0<=b/\b<=255):Ju N0 (a,(b,()))=some ((ofB (uS a b),()),()):=by
 delta Ju Bd Wi
 have wa:IntKind.wrap .i64 a=a:=bz (by omega) (by omega)
 have wb:IntKind.wrap .i64 b=b:=bz (by omega) (by omega)
 have z:([0,0,0,0]:List Int)=ofB (λx=>decide (a<=(x:Int))&&decide ((x:Int)<a)):=by
  rw[show([0,0,0,0]:List Int)=zS by rfl]
  refine(gT.2 ?_).symm
  unfold dY
  rw[cD]
  intro x _
  by_cases h:a<=(x:Int) <;> simp[h]
 simp only[wa,wb]
 refine aZ (λm x r=>∃ i:Nat,x=(([0,0,0,0],(ofB (λx=>decide (a<=(x:Int))&&decide ((x:Int)<(i:Int))),())),((i:Int),()))/\m=(b+1-i).toNat/\a<=i/\i<=256/\(a<=b->(i:Int)<=b+1)/\(b<a->(i:Int)=a)/\r=some ((ofB (uS a b),()),())) ?_ N0 ((b+1-a).toNat) _ _ (by unfold N0;omega) ⟨a.toNat,by rw[dl ha.1,<-z],by rw[dl ha.1],by omega,by omega,by omega,by omega,rfl⟩
 rintro m x r ⟨i,rfl,hm,h1,h2,h3,h4,rfl⟩ k hk
 simp only
 by_cases hib:(i:Int)<=b
 ·have hi:i<256:=by omega
  have hw:i / 64<4:=by omega
  have hl:i % 64<64:=eI _ (by omega)
  have w1:IntKind.wrap .i64 (Int.tdiv (i:Int) 64)=((i / 64:Nat):Int):=by rw[J4];exact bH (by omega)
  have w2:IntKind.wrap .u64 (Int.tmod (i:Int) 64)=((i % 64:Nat):Int):=by rw[J5];exact wrap_u64 (by omega)
  have w3:IntKind.wrap .i64 ((i:Int)+1)=((i+1:Nat):Int):=by rw[<-bH (n:=i+1) (by omega)];rfl
  have g:(ofB (λx=>decide (a<=(x:Int))&&decide ((x:Int)<(i:Int))))[((i / 64:Nat):Int).toNat]?=some ((br (λx=>decide (a<=(x:Int))&&decide ((x:Int)<(i:Int))) (i / 64):Nat):Int):=by rw[aa];exact jw hw
  have n1:¬((64:Int)=0):=by omega
  have n2:¬(((i % 64:Nat):Int)<0):=by omega
  have n3:(0:Int)<=((i / 64:Nat):Int):=by omega
  rw[decide_eq_true hib,cond_true,w1,w2,w3,if_neg n1,if_pos n3,g]
  simp only[if_neg n1,if_neg n2,if_pos n3,g,yz hl]
  refine hk _ _ _ (show(b+1-((i+1:Nat):Int)).toNat<m by omega) ⟨i+1,?_,rfl,by omega,by omega,by omega,by omega,rfl⟩
  rw[aa,Em hi]
  have ef:ofB (λx=>(decide (a<=(x:Int))&&decide ((x:Int)<(i:Int)))||decide (x=i))=ofB (λx=>decide (a<=(x:Int))&&decide ((x:Int)<((i+1:Nat):Int))):=by
   refine iT (λx hx=>?_)
   have e1:(decide ((x:Int)<((i+1:Nat):Int)))=(decide ((x:Int)<(i:Int))||decide (x=i)):=by
    rw[<-Bool.decide_or,decide_eq_decide];omega
   rw[e1]
   by_cases hax:a<=(x:Int)
   ·simp[hax]
   ·have:¬x=i:=by omega
    simp[hax,this]
  rw[ef]
 ·rw[decide_eq_false hib,cond_false]
  have ef:ofB (λx=>decide (a<=(x:Int))&&decide ((x:Int)<(i:Int)))=ofB (uS a b):=?_
  ·rw[ef]
  refine iT (λx hx=>?_)
  unfold uS
  rcases Int.lt_or_le b a with hlt|hle
  ·have e:=h4 hlt
   by_cases hax:a<=(x:Int)
   ·have:¬((x:Int)<=b):=by omega
    have:¬((x:Int)<(i:Int)):=by omega
    simp[*]
   ·simp[hax]
  ·have e:=h3 hle
   have:((x:Int)<(i:Int))↔((x:Int)<=b):=by omega
   simp[this]
theorem w6{l m:Nat->Bool}{i n:Nat}(hi:i<4)(hn:n=br m i):(ofB (λx=>bif decide (x<64*i)then m x else l x)).set i (n:Int)=ofB (λx=>bif decide (x<64*(i+1))then m x else l x):=by
 refine yy hi ?_ (λv j hv hne hj=>?_)
 ·rw[hn]
  refine gw (λj hj=>?_)
  rw[decide_eq_true (by omega)];rfl
 ·have:(64*v+j<64*i)↔(64*v+j<64*(i+1)):=by omega
  simp only[this]
theorem w7{l m:Nat->Bool}:ofB (λx=>bif decide (x<64*4)then m x else l x)=ofB m:=iT λx hx=>by rw[decide_eq_true (by omega)];rfl
theorem Ep{l m:Nat->Bool}:ofB l=ofB (λx=>bif decide (x<64*0)then m x else l x):=iT λx hx=>by rw[decide_eq_false (by omega)];rfl
theorem w9{l m:Nat->Bool}{i:Nat}(hi:i<4):(ofB (λx=>bif decide (x<64*i)then m x else l x))[i]?=some ((br l i:Nat):Int):=by
 have e:br (λx=>bif decide (x<64*i)then m x else l x) i=br l i:=gw (λj hj=>by rw[decide_eq_false (by omega)];rfl)
 rw[jw hi,e]
theorem N8(l m:Nat->Bool):Jv N0 (ofB l,(ofB m,()))=some ((ofB (λx=>l x||m x),()),()):=by
 delta Jv Ld Bd Wi
 refine aZ (λmm x r=>∃ (i:Nat) (z:List Int),x=((ofB (λx=>bif decide (x<64*i)then(l x||m x)else l x),(z,())),((i:Int),()))/\mm+i=4/\r=some ((ofB (λx=>l x||m x),()),())) ?_ N0 4 _ _ (by unfold N0;omega) ⟨0,_,by rw[<-Ep];rfl,rfl,rfl⟩
 rintro mm x r ⟨i,z,rfl,hm,rfl⟩ k hk
 simp only
 rcases ak i 4 with h|h
 ·have g1:=w9 (l:=l) (m:=λx=>l x||m x) h
  have g2:=jw (l:=m) h
  have n0:(0:Int)<=(i:Int):=by omega
  have w3:IntKind.wrap .i64 ((i:Int)+1)=((i+1:Nat):Int):=by rw[<-bH (n:=i+1) (by omega)];rfl
  rw[decide_eq_true (show(i:Int)<4 by omega),cond_true,if_pos n0,aa,g1]
  simp only[if_pos n0,g1,g2,w3]
  refine hk (mm-1) _ _ (by omega) ⟨i+1,z,?_,by omega,rfl⟩
  rw[J1 (dQ _ _) (dQ _ _),w6 h N6]
 ·have e:i=4:=by omega
  subst e
  rw[decide_eq_false (show ¬(((4:Nat):Int)<4) by omega),cond_false,w7]
theorem N9(m:Nat->Bool):Ng N0 (ofB (λ_=>true),(ofB m,()))=some ((ofB (λx=>!m x),()),()):=by
 delta Ng Ld Bd Wi
 refine aZ (λmm x r=>∃ (i:Nat) (z:List Int),x=((ofB (λx=>bif decide (x<64*i)then(!m x)else true),(z,())),((i:Int),()))/\mm+i=4/\r=some ((ofB (λx=>!m x),()),())) ?_ N0 4 _ _ (by unfold N0;omega) ⟨0,_,by rw[<-Ep];rfl,rfl,rfl⟩
 rintro mm x r ⟨i,z,rfl,hm,rfl⟩ k hk
 simp only
 rcases ak i 4 with h|h
 ·have g1:=w9 (l:=λ_=>true) (m:=λx=>!m x) h
  have g2:=jw (l:=m) h
  have n0:(0:Int)<=(i:Int):=by omega
  have w3:IntKind.wrap .i64 ((i:Int)+1)=((i+1:Nat):Int):=by rw[<-bH (n:=i+1) (by omega)];rfl
  have hf:br (λ_=>true) i=18446744073709551615:=by rw[mj];rfl
  rw[decide_eq_true (show(i:Int)<4 by omega),cond_true,if_pos n0,aa,g1]
  simp only[if_pos n0,g1,g2,w3]
  refine hk (mm-1) _ _ (by omega) ⟨i+1,z,?_,by omega,rfl⟩
  rw[C6 (dQ _ _) (dQ _ _),hf,w6 h J3]
 ·have e:i=4:=by omega
  subst e
  rw[decide_eq_false (show ¬(((4:Nat):Int)<4) by omega),cond_false,w7]
theorem Oa(m:Nat->Bool):Nh N0 (ofB m,())=some ((ofB (λx=>!m x),()),()):=by
 unfold Nh
 simp only[En,aB,N9]
theorem Er(m:Nat->Bool):tf N0 (ofB m,())=some ((dY m,()),()):=by
 unfold tf
 have:(decide (ofB m=[0,0,0,0]))=dY m:=by
  rw[bZ,decide_eq_true_eq]
  exact gT
 simp only[this]
theorem Es{c:Int}(h:0<=c/\c<=255):Nj N0 ([c],())=some ((ofB (rR c),()),()):=by
 obtain⟨i,rfl⟩:∃ i:Nat,c=i:=⟨c.toNat,by omega⟩
 have hi:i<256:=by omega
 have hw:i / 64<4:=by omega
 have hl:i % 64<64:=eI _ (by omega)
 have z:([0,0,0,0]:List Int)=ofB (λ_=>false):=by
  rw[show([0,0,0,0]:List Int)=zS by rfl]
  exact(gT.2 (by unfold dY;rw[cD];intro x _;rfl)).symm
 have w1:IntKind.wrap .u8 (Int.tdiv (i:Int) 64)=((i / 64:Nat):Int):=by rw[J4];exact j4 (by omega)
 have w3:IntKind.wrap .i64 ((0:Int)+1)=1:=bz (by omega) (by omega)
 have g:=jw (l:=λ_=>false) hw
 have n1:¬((64:Int)=0):=by omega
 have n2:¬(((i % 64:Nat):Int)<0):=by omega
 have n3:(0:Int)<=((i / 64:Nat):Int):=by omega
 delta Nj Ld Bd Wi
 refine aZ (λm x r=>((m=1/\x=(([0,0,0,0],(ofB (λ_=>false),())),((0:Int),())))\/(m=0/\x=(([0,0,0,0],(ofB (rR (i:Int)),())),((1:Int),()))))/\r=some ((ofB (rR (i:Int)),()),())) ?_ N0 1 _ _ (by unfold N0;omega) ⟨.inl ⟨rfl,by rw[<-z]⟩,rfl⟩
 rintro m x r ⟨hx,rfl⟩ k hk
 rcases hx with⟨rfl,rfl⟩|⟨rfl,rfl⟩
 ·have l1:decide ((0:Int)<(([(i:Int)]:List Int).length:Nat))=true:=rfl
  have g0:([(i:Int)]:List Int)[((0:Int)).toNat]?=some (i:Int):=rfl
  have n0:(0:Int)<=0:=by omega
  have tn:(((i / 64:Nat):Int)).toNat=i / 64:=aa _
  have hs:=Em (f:=λ_=>false) hi
  have ef:ofB (λx=>false||decide (x=i))=ofB (rR (i:Int)):=iT λx hx=>by
   unfold rR
   rw[cV,decide_eq_decide];omega
  have sh:=yz hl
  rw[l1,cond_true,if_pos n0,g0]
  simp only[if_neg n1,w1,if_pos n3,tn,g]
  simp only[J5,if_neg n2,if_pos n3,tn,g,sh,w3,hs,ef]
  exact hk 0 _ _ (by omega) ⟨.inr ⟨rfl,rfl⟩,rfl⟩
 ·have l1:decide ((1:Int)<(([(i:Int)]:List Int).length:Nat))=false:=rfl
  rw[l1,cond_false]
end
noncomputable section
def Bytes(s:List Int):Prop:=∀ c∈s,0<=c/\c<=255
theorem Bytes.get{s:List Int}(h:Bytes s){i:Nat}{c:Int}(hc:s[i]?=some c):0<=c/\c<=255:=h c (List.mem_of_getElem? hc)
theorem Bytes.drop{s:List Int}(h:Bytes s)(i:Nat):Bytes (s.drop i):=λc hc=>h c (ir hc)
theorem Et{c:Int}(h:0<=c/\c<=255):CX N0 (c,())=some (((qe c).getD (-1),()),()):=by
 delta CX Bd Wi;unfold qe
 simp only[aH]
 by_cases h1:(48:Int)<=c
 ·by_cases h2:c<=(57:Int)
  ·have w1:IntKind.wrap .u8 (c-48)=c-48:=jN ⟨by simp[kLo];omega,by simp[kHi];omega⟩
   have w2:IntKind.wrap .i64 (c-48)=c-48:=bz (by omega) (by omega)
   simp[h1,h2,w1,w2]
  ·by_cases h3:(97:Int)<=c
   ·by_cases h4:c<=(102:Int)
    ·have w1:IntKind.wrap .u8 (c-97)=c-97:=jN ⟨by simp[kLo];omega,by simp[kHi];omega⟩
     have w2:IntKind.wrap .i64 (c-97)=c-97:=bz (by omega) (by omega)
     have w3:IntKind.wrap .i64 (c-97+10)=c-97+10:=bz (by omega) (by omega)
     have e:c-97+10=c-87:=by omega
     rw[e]at w3
     simp[h1,h2,h3,h4,w1,w2,w3,e]
    ·simp[h1,h2,h3,h4]
   ·simp[h1,h2,h3]
 ·have h3:¬(97:Int)<=c:=by omega
  simp[h1,h3]
theorem oF{c v:Int}(h:qe c=some v):0<=v/\v<=15:=by
 unfold qe at h
 split at h
 ·injection h with h;omega
 ·split at h
  ·injection h with h;omega
  ·cases h
theorem XJ:∀ a b:Fin 16,IntKind.wrap .u8 (dK .or .i64 (IntKind.wrap .i64 (((a.val:Nat):Int)*2 ^ (Nat.min (Int.toNat (4:Int)) (IntKind.bits .i64)))) ((b.val:Nat):Int))=16*((a.val:Nat):Int)+((b.val:Nat):Int):=by decide
theorem J6{a b:Int}(ha:0<=a/\a<=15)(hb:0<=b/\b<=15):IntKind.wrap .u8 (dK .or .i64 (IntKind.wrap .i64 (a*2 ^ (Nat.min (Int.toNat (4:Int)) (IntKind.bits .i64)))) b)=16*a+b:=by
 have:=XJ ⟨a.toNat,by omega⟩ ⟨b.toNat,by omega⟩
 simp only[dl ha.1,dl hb.1]at this
 exact this
def rdR(o:Option (Int×Nat)):Int×(Int×(Bool×Unit)):=match o with
 |some (c,n)=>(c,((n:Int),(true,())))
 |none=>(0,(0,(false,())))
theorem Ob{t:List Int}(hb:Bytes t):Nf N0 (t,())=some (rdR (rdS t),()):=by
 delta Nf Bd Wi
 simp only[aH]
 cases t with
 |nil=>rfl
 |cons c r=>
  have e0:decide ((c::r:List Int)=[])=false:=rfl
  have n0:(0:Int)<=0:=by omega
  have g0:(c::r)[((0:Int)).toNat]?=some c:=rfl
  rw[e0,cond_false,if_pos n0,g0]
  simp only[if_pos n0]
  by_cases hc:c=92
  ·subst hc
   simp only[decide_true,aA,cond_false]
   cases r with
   |nil=>rfl
   |cons d r2=>
    have hd:=hb d (by simp)
    have el:decide ((((92::d::r2:List Int).length:Nat):Int)<2)=false:=by
     rw[decide_eq_false_iff_not];simp;omega
    have g1:(92::d::r2:List Int)[((1:Int)).toNat]?=some d:=rfl
    have n1:(0:Int)<=1:=by omega
    rw[el,cond_false,if_pos n1,g1]
    simp only[rdS,ne_eq,not_true_eq_false,if_false]
    by_cases h1:d=110
    ·subst h1;rfl
    by_cases h2:d=116
    ·subst h2;rfl
    by_cases h3:d=114
    ·subst h3;rfl
    simp only[h1,h2,h3,decide_false,cond_false,if_false]
    by_cases h4:d=120
    ·subst h4
     simp only[decide_true,cond_true,if_true]
     cases r2 with
     |nil=>rfl
     |cons x r3=>
      cases r3 with
      |nil=>rfl
      |cons y r4=>
       have hx:=hb x (by simp)
       have hy:=hb y (by simp)
       have l4:decide ((4:Int)<=(((92::120::x::y::r4:List Int).length:Nat):Int))=true:=by
        rw[decide_eq_true_eq];simp;omega
       have n2:(0:Int)<=2:=by omega
       have n3:(0:Int)<=3:=by omega
       have g2:(92::120::x::y::r4:List Int)[((2:Int)).toNat]?=some x:=rfl
       have g3:(92::120::x::y::r4:List Int)[((3:Int)).toNat]?=some y:=rfl
       have n4:¬((4:Int)<0):=by omega
       rw[l4,cond_true,if_pos n2,g2]
       simp only[if_pos n2,if_pos n3,g3,Et hx,Et hy,aB,if_neg n4]
       cases hvx:qe x with
       |none=>
        have:decide ((0:Int)<=(none:Option Int).getD (-1))=false:=rfl
        rw[this]
        rfl
       |some a=>
        have ha:=oF hvx
        have:decide ((0:Int)<=(some a).getD (-1))=true:=by simpa using ha.1
        rw[this]
        simp only[cond_true]
        cases hvy:qe y with
        |none=>
         have:decide ((0:Int)<=(none:Option Int).getD (-1))=false:=rfl
         rw[this]
         rfl
        |some b=>
         have hb2:=oF hvy
         have:decide ((0:Int)<=(some b).getD (-1))=true:=by simpa using hb2.1
         rw[this]
         simp only[cond_true,jF,J6 ha hb2]
         rfl
    ·simp only[h4,decide_false,cond_false,if_false]
     by_cases h5:d=0
     ·subst h5;rfl
     simp only[h5,decide_false,cond_false]
     have hif:(mG d=true\/d<32\/126<d)↔((mG d||(decide (d<32)||decide (126<d)))=true):=by simp
     simp only[hif]
     unfold mG
     generalize decide ((48:Int)<=d)=b1
     generalize decide (d<=(57:Int))=b2
     generalize decide ((97:Int)<=d)=b3
     generalize decide (d<=(122:Int))=b4
     generalize decide ((65:Int)<=d)=b5
     generalize decide (d<=(90:Int))=b6
     generalize decide (d<(32:Int))=b7
     generalize decide ((126:Int)<d)=b8
     revert b1 b2 b3 b4 b5 b6 b7 b8
     intro b1 b2 b3 b4 b5 b6 b7 b8
     cases b1 <;> cases b2 <;> cases b3 <;> cases b4 <;> cases b5 <;> cases b6 <;> cases b7 <;> cases b8 <;> rfl
  ·have hc2:decide (c=92)=false:=decide_eq_false hc
   rw[hc2]
   simp only[aI,cond_true,rdS,ne_eq,hc,not_false_eq_true,if_true]
   rfl
theorem kK{t:List Int}(hb:Bytes t){c:Int}{n:Nat}(h:rdS t=some (c,n)):(0<=c/\c<=255)/\0<n/\n<=t.length:=by
 unfold rdS at h
 cases t with
 |nil=>cases h
 |cons a r=>
  have ha:=hb a (by simp)
  simp only at h
  split at h
  ·injection h with h;injection h with h1 h2;subst h1;subst h2;simp;omega
  ·cases r with
   |nil=>cases h
   |cons d r2=>
    have hd:=hb d (by simp)
    simp only at h
    split at h
    ·injection h with h;injection h with h1 h2;subst h1;subst h2;simp
    split at h
    ·injection h with h;injection h with h1 h2;subst h1;subst h2;simp
    split at h
    ·injection h with h;injection h with h1 h2;subst h1;subst h2;simp
    split at h
    ·split at h
     ·rename_i x y r4
      split at h
      ·rename_i u v hu hv
       have h1:=oF hu
       have h2:=oF hv
       injection h with h;injection h with h3 h4;subst h3;subst h4;simp;omega
      ·cases h
     ·cases h
    ·split at h
     ·cases h
     ·injection h with h;injection h with h1 h2;subst h1;subst h2;simp;omega
def kst(s:List Int)(i:Nat)(d:Int):List Int×(Int×Int):=(s,((i:Int),d))
def qf(s:List Int)(i:Nat)(l:List Int):Bool:=decide (s.length<=i)||l.any λb=>decide (ch s i=b)
theorem gU{s:List Int}{i:Nat}(h:i<s.length):s[i]?=some (ch s i):=by unfold ch;rw[List.getElem?_eq_getElem h];rfl
theorem qg(s:List Int)(hs:s.length<=maxLen)(i:Nat)(d:Int)(l:List Int)(hl:l.length<=maxLen):AJ N0 (kst s i d,(l,()))=some ((qf s i l,()),(kst s i d,())):=by
 delta AJ Ld Bd Wi;unfold kst qf
 simp only
 rcases ak i s.length with hi|hi
 ·have e1:decide (((s.length:Nat):Int)<=(i:Int))=false:=decide_eq_false (by omega)
  have e2:decide (s.length<=i)=false:=decide_eq_false (by omega)
  rw[e1,cond_false,e2,cV]
  refine aZ (λm x r=>∃ j:Nat,x=(((s,((i:Int),d)),()),((j:Int),()))/\m+j=l.length/\r=some (((l.drop j).any (λb=>decide (ch s i=b)),()),((s,((i:Int),d)),()))) ?_ N0 l.length _ _ (by have:=ic hl;omega) ⟨0,rfl,rfl,by rw[cU]⟩
  rintro m x r ⟨j,rfl,hm,rfl⟩ k hk
  simp only
  rcases ak j l.length with hj|hj
  ·have n0:(0:Int)<=(i:Int):=by omega
   have n1:(0:Int)<=(j:Int):=by omega
   rw[decide_eq_true (show(j:Int)<((l.length:Nat):Int) by omega),cond_true,if_pos n0,aa,gU hi]
   simp only[if_pos n1,aa,List.getElem?_eq_getElem hj,bc hj hl]
   rw[cL hj,List.any_cons]
   cases hd:decide (ch s i=l[j])
   ·rw[cond_false,cV]
    exact hk (m-1) _ _ (by omega) ⟨j+1,rfl,by omega,rfl⟩
   ·rw[cond_true,dP]
  ·rw[decide_eq_false (show ¬(j:Int)<((l.length:Nat):Int) by omega),cond_false,kN hj]
   rfl
 ·have e1:decide (((s.length:Nat):Int)<=(i:Int))=true:=decide_eq_true (by omega)
  have e2:decide (s.length<=i)=true:=decide_eq_true hi
  rw[e1,e2]
  rfl
def e8(s:List Int)(i:Nat)(c:Int):Bool:=decide (i<s.length)&&decide (ch s i=c)
theorem oG(s:List Int)(hs:s.length<=maxLen)(i:Nat)(d:Int)(c:Int):oW N0 (kst s i d,(c,()))=some ((e8 s i c,()),(kst s (if e8 s i c=true then i+1 else i) d,())):=by
 delta oW Ld Bd Wi;unfold kst e8
 simp only[aH]
 rcases ak i s.length with hi|hi
 ·have n0:(0:Int)<=(i:Int):=by omega
  rw[decide_eq_true (show(i:Int)<((s.length:Nat):Int) by omega),cond_true,if_pos n0,aa,gU hi,decide_eq_true hi]
  simp only[bG,decide_eq_true_eq]
  by_cases h:ch s i=c
  ·simp only[h,decide_true,cond_true,if_true,bc hi hs]
  ·simp only[h,decide_false,cond_false,if_false]
 ·rw[decide_eq_false (show ¬(i:Int)<((s.length:Nat):Int) by omega),cond_false,decide_eq_false (by omega)]
  simp
def rdK(s:List Int)(i:Nat)(d:Int):(Int×(Bool×Unit))×((List Int×(Int×Int))×Unit):=match rdS (s.drop i)with
 |some (c,n)=>((c,(true,())),(kst s (i+n) d,()))
 |none=>((0,(false,())),(kst s i d,()))
theorem yA{s:List Int}(hb:Bytes s)(hs:s.length<=maxLen){i:Nat}(hi:i<=s.length)(d:Int):GW N0 (kst s i d,())=some (rdK s i d):=by
 delta GW Wi;unfold kst
 simp only
 have hc:(0:Int)<=(i:Int)/\(i:Int)<=((s.length:Nat):Int)/\((s.length:Nat):Int)<=((s.length:Nat):Int):=⟨by omega,by omega,by omega⟩
 have rU:cC s (i:Int) ((s.length:Nat):Int)=s.drop i:=by
  unfold cC
  simp only[aa]
  exact bP (by simp)
 rw[if_pos hc,rU,ae (Ob (hb.drop i))]
 unfold rdK rdR kst
 cases hr:rdS (s.drop i)with
 |none=>
  simp only[Int.add_zero]
  rw[bH (by unfold maxLen at hs;omega)]
 |some p=>
  obtain⟨c,n⟩:=p
  obtain⟨_,h1,h2⟩:=kK (hb.drop i) hr
  rw[bB]at h2
  simp only
  have:((i:Int)+(n:Int))=((i+n:Nat):Int):=by omega
  rw[this,bH (by unfold maxLen at hs;omega)]
end
noncomputable section
theorem dZ{A R:Type}{body:A->(A->Option R)->Option R}(I:Nat->A->Prop)(Q:Option R->Prop)
 (step:∀ m x,I m x->∀ k,(∀ m' y,m' < m->I m' y->Q (k y))->Q (body x k)):∀ n m x,m<n->I m x->Q (aD body n x):=by
 intro n
 induction n with
 |zero=>intro m x h;omega
 |succ n ih=>
  intro m x h hi
  rw[dU]
  exact step m x hi _ (λm' y hm hi'=>ih m' y (by omega) hi')
def OkP(s:List Int)(d:Int)(B:Nat)(o:Option (Rx×Nat))(z:Option ((List Pc×(Bool×Unit))×((List Int×(Int×Int))×Unit))):Prop:=
 match o with
 |some (t,j)=>z=some ((t.post,(true,())),(kst s j d,()))
 |none=>∃ r k,z=some ((r,(false,())),(k,()))/\r.length<=B
def nD(s:List Int)(nt:Bool)(o:Option ((Nat->Bool)×Nat)):Option (Rx×Nat):=
 match o with
 |none=>none
 |some (l,j)=>if s.length<=j\/dY (if nt=true then λx=>!l x else l)=true then none else some (.set (ofB (if nt=true then λx=>!l x else l)),j+1)
theorem yB(s:List Int)(i:Nat):brS s i=nD s (e8 s i 94) (brL s s.length.succ (if e8 s i 94=true then i+1 else i) (λ_=>false)):=by
 unfold brS nD e8
 rfl
theorem Oc{s:List Int}(hb:Bytes s)(hs:s.length<=maxLen){i:Nat}(hi:i<=s.length)(d:Int):OkP s d 1 (brS s i) (Ni N0 (kst s i d,())):=by
 rw[yB]
 unfold Ni
 simp only[aH]
 rw[ae (oG s hs i d 94)]
 simp only
 generalize hnt:e8 s i 94=nt
 have hi1:(if nt=true then i+1 else i)<=s.length:=by
  split
  ·rename_i h
   rw[<-hnt]at h
   unfold e8 at h
   simp at h
   omega
  ·exact hi
 generalize (if nt=true then i+1 else i)=i1 at hi1
 have hz:([0,0,0,0]:List Int)=ofB (λ_=>false):=by
  rw[show([0,0,0,0]:List Int)=zS by rfl]
  exact(gT.2 (by unfold dY;rw[cD];intro x _;rfl)).symm
 generalize cq:brL s s.length.succ i1 (λ_=>false)=res
 refine dZ (λm x=>∃ (i:Nat) (f:Nat->Bool) (cd:Nat),x=((kst s i d,(ofB f,())),())/\i<=s.length/\s.length-i<cd/\m=s.length-i/\brL s cd i f=res) (OkP s d 1 (nD s nt res)) ?_ N0 (s.length-i1) _ (by have:=ic hs;omega) ⟨i1,_,s.length.succ,by rw[<-hz],hi1,by omega,rfl,cq⟩
 rintro m x ⟨i,f,cd,rfl,hi,hf,hm,hr⟩ k hk
 obtain⟨cd,rfl⟩:∃ q,cd=q+1:=⟨cd-1,by omega⟩
 simp only[brL]at hr
 rw[ae (qg s hs i d [93] (by simp[maxLen]))]
 simp only
 by_cases mb:s.length<=i\/ch s i=93
 ·-- the end
  rw[if_pos mb]at hr
  have hc:qf s i [93]=true:=by
   unfold qf
   rcases mb with h|h
   ·simp[h]
   ·simp[h]
  rw[hc]
  simp only[aA,cond_false]
  subst hr
  have dv:∀ g:Nat->Bool,OkP s d 1 (if s.length<=i\/dY g=true then none else some (.set (ofB g),i+1)) (ah (oW N0 (kst s i d,(93,()))) λv21=>bif v21.1.1 then ah (tf N0 (ofB g,())) λv22=>some (([((1:Int),ofB g)],(!v22.1.1,())),(v21.2.1,()))else some (([((1:Int),ofB g)],(false,())),(v21.2.1,()))):=by
   intro g
   rw[ae (oG s hs i d 93)]
   simp only
   rcases ak i s.length with h|h
   ·have h93:ch s i=93:=mb.resolve_left (by omega)
    have he:e8 s i 93=true:=by unfold e8;simp[h,h93]
    rw[he]
    simp only[cond_true,if_true,Er,aB]
    cases hem:dY g
    ·have:¬(s.length<=i\/(false=true)):=by simp;omega
     rw[if_neg this]
     rfl
    ·rw[if_pos (.inr rfl)]
     exact⟨_,_,rfl,by simp⟩
   ·have he:e8 s i 93=false:=by unfold e8;simp;omega
    rw[he,if_pos (.inl h)]
    exact⟨_,_,rfl,by simp⟩
  unfold nD
  cases nt
  ·exact dv f
  ·simp only[cond_true,Oa,aB,if_true]
   exact dv λx=>!f x
 ·rw[if_neg mb]at hr
  have hlt:i<s.length:=by omega
  have hc:qf s i [93]=false:=by
   unfold qf
   have h1:¬s.length<=i:=by omega
   have h2:¬ch s i=93:=λh=>mb (.inr h)
   simp[h1,h2]
  rw[hc]
  simp only[aI,cond_true]
  rw[ae (qg s hs i d [94,45,47,34] (by simp[maxLen]))]
  simp only
  have hc2:qf s i [94,45,47,34]=decide (ch s i∈([94,45,47,34]:List Int)):=by
   unfold qf
   have h1:¬s.length<=i:=by omega
   rw[decide_eq_false h1,cV,bZ,decide_eq_true_eq,gE]
   simp
  rw[hc2]
  by_cases hin:ch s i∈([94,45,47,34]:List Int)
  ·rw[if_pos hin]at hr
   rw[decide_eq_true hin,cond_true]
   subst hr
   exact⟨_,_,rfl,by simp⟩
  rw[if_neg hin]at hr
  rw[decide_eq_false hin,cond_false,ae (yA hb hs hi d)]
  unfold rdK
  cases hrd:rdS (s.drop i)with
  |none=>
   rw[hrd]at hr
   simp only at hr
   subst hr
   exact⟨_,_,rfl,by simp⟩
  |some p=>
   obtain⟨a,n⟩:=p
   rw[hrd]at hr
   simp only at hr
   simp only[aA,cond_false]
   obtain⟨ha,hn1,hn2⟩:=kK (hb.drop i) hrd
   rw[bB]at hn2
   rw[ae (oG s hs (i+n) d 45)]
   simp only
   -- Mk goes on with a range
   have go:∀ (j:Nat) (b:Int),j<=s.length->i<j->(0<=b/\b<=255)->brL s cd j (λx=>f x||uS a b x)=res->
    OkP s d 1 (nD s nt res) (ah (Ju N0 (a,(b,()))) λv11=>ah (Jv N0 (ofB f,(v11.1.1,()))) λv12=>k ((kst s j d,(v12.1.1,())),())):=by
    intro j b hj hij hbb cq
    rw[ae (N7 ha hbb)]
    simp only
    rw[ae (N8 f (uS a b))]
    exact hk (s.length-j) _ (by omega) ⟨j,_,cd,rfl,hj,by omega,rfl,cq⟩
   by_cases hd:i+n<s.length/\ch s (i+n)=45
   ·rw[if_pos hd]at hr
    have he:e8 s (i+n) 45=true:=by unfold e8;simp[hd.1,hd.2]
    rw[he]
    simp only[cond_true,if_true]
    rw[ae (qg s hs (i+n+1) d [93,94,45,47,34] (by simp[maxLen]))]
    simp only
    have hc3:qf s (i+n+1) [93,94,45,47,34]=decide (s.length<=i+n+1\/ch s (i+n+1)∈([93,94,45,47,34]:List Int)):=by
     unfold qf
     rw[bZ,aG,decide_eq_true_eq,decide_eq_true_eq,gE]
     simp
    rw[hc3]
    by_cases h4:s.length<=i+n+1\/ch s (i+n+1)∈([93,94,45,47,34]:List Int)
    ·rw[if_pos h4]at hr
     rw[decide_eq_true h4,cond_true]
     subst hr
     exact⟨_,_,rfl,by simp⟩
    rw[if_neg h4]at hr
    rw[decide_eq_false h4,cond_false,ae (yA hb hs (show i+n+1<=s.length by omega) d)]
    unfold rdK
    cases Bc:rdS (s.drop (i+n+1))with
    |none=>
     rw[Bc]at hr
     simp only at hr
     subst hr
     exact⟨_,_,rfl,by simp⟩
    |some p2=>
     obtain⟨b,n2⟩:=p2
     rw[Bc]at hr
     simp only at hr
     simp only[aA,cond_false]
     obtain⟨hbb,hn3,hn4⟩:=kK (hb.drop _) Bc
     rw[bB]at hn4
     by_cases hba:b<a
     ·rw[if_pos hba]at hr
      rw[decide_eq_true hba,cond_true]
      subst hr
      exact⟨_,_,rfl,by simp⟩
     ·rw[if_neg hba]at hr
      rw[decide_eq_false hba,cond_false]
      exact go (i+n+1+n2) b (by omega) (by omega) hbb hr
   ·rw[if_neg hd]at hr
    have he:e8 s (i+n) 45=false:=by
     unfold e8
     rw[ik,decide_eq_false_iff_not,decide_eq_false_iff_not]
     by_cases h:i+n<s.length
     ·exact .inr λh2=>hd ⟨h,h2⟩
     ·exact .inl h
    rw[he]
    simp only[cond_false,ap,if_false]
    exact go (i+n) a (by omega) (by omega) ha hr
end
noncomputable section
def Res(s:List Int)(i:Nat)(t:Rx)(j:Nat):Prop:=i<j/\j<=s.length/\t.len+1<=2*(j-i)/\t.ok
def ki(s:List Int)(i:Nat)(o:Option (Rx×Nat)):Prop:=∀ t j,o=some (t,j)->Res s i t j
theorem C7{l:Nat->Bool}(h:dY l=false):(Rx.set (ofB l)).ok:=⟨rfl,(λe=>by rw[gT.1 e]at h;cases h),RD l⟩
theorem C8:dY (λ_=>true)=false:=by
 unfold dY
 rw[List.all_eq_false]
 exact⟨0,by simp,by simp⟩
theorem Hn{c:Int}(h:0<=c/\c<=255):dY (rR c)=false:=by
 unfold dY
 rw[List.all_eq_false]
 refine⟨c.toNat,cz.2 (by omega),?_⟩
 unfold rR
 simp
 omega
theorem Eu{s:List Int}(hb:Bytes s):∀ (m i:Nat) (l:Nat->Bool) (r:Nat->Bool) (j:Nat),brL s m i l=some (r,j)->i<=j:=by
 intro m
 induction m with
 |zero=>intro i l r j h;cases h
 |succ m ih=>
  intro i l r j h
  simp only[brL]at h
  split at h
  ·injection h with h;injection h with h1 h2;omega
  split at h
  ·cases h
  split at h
  ·cases h
  rename_i a n hrd
  have hn:=(kK (hb.drop i) hrd).2.1
  split at h
  ·split at h
   ·cases h
   split at h
   ·cases h
   rename_i b n2 Bc
   split at h
   ·cases h
   have:=ih _ _ _ _ h
   omega
  ·have:=ih _ _ _ _ h
   omega
theorem Ev{s:List Int}(hb:Bytes s){i0 i:Nat}(hi:i0<i):ki s i0 (brS s i):=by
 intro t j h
 rw[yB]at h
 unfold nD at h
 split at h
 ·cases h
 rename_i l k hl
 generalize (if e8 s i 94=true then λx=>!l x else l)=l' at h
 split at h
 ·cases h
 rename_i hn
 injection h with h
 injection h with h1 h2
 subst h1;subst h2
 have h1:=Eu hb _ _ _ _ _ hl
 have h2:i<=k:=by
  refine bu ?_ h1
  split <;> omega
 have hne:¬s.length<=k:=λe=>hn (.inl e)
 have hem:=λe=>hn (.inr e)
 refine⟨by omega,by omega,by simp only[Rx.len];omega,C7 ?_⟩
 simpa using hem
theorem uU{s:List Int}(hb:Bytes s){inner:Nat->Nat->Option (Rx×Nat)}{i d:Nat}(hin:ki s (i+1) (inner (i+1) (d+1))):ki s i (mM inner s i d):=by
 intro t j h
 unfold mM at h
 split at h
 ·cases h
 rename_i mb
 have hlt:i<s.length:=by
  rcases ak i s.length with h|h
  ·exact h
  ·exact absurd (.inl h) mb
 split at h
 ·injection h with h;injection h with h1 h2;subst h1;subst h2
  exact⟨by omega,by omega,by simp only[Rx.len];omega,C7 C8⟩
 split at h
 ·injection h with h;injection h with h1 h2;subst h1;subst h2
  exact⟨by omega,by omega,by simp only[Rx.len];omega,trivial⟩
 split at h
 ·exact Ev hb (by omega) t j h
 split at h
 ·split at h
  ·cases h
  split at h
  ·cases h
  rename_i t2 j2 hi2
  obtain⟨q1,q2,q3,q4⟩:=hin _ _ hi2
  split at h
  ·rename_i hj
   injection h with h;injection h with h1 h2;subst h1;subst h2
   exact⟨by omega,by omega,by omega,q4⟩
  ·cases h
 split at h
 ·cases h
 rename_i c n hrd
 obtain⟨h1,h2,h3⟩:=kK (hb.drop i) hrd
 rw[bB]at h3
 injection h with h;injection h with h4 h5;subst h4;subst h5
 exact⟨by omega,by omega,by simp only[Rx.len];omega,C7 (Hn h1)⟩
theorem rV(c:Int):iH c=4\/iH c=5\/iH c=6:=by unfold iH;split;exact .inl rfl;split;exact .inr (.inl rfl);exact .inr (.inr rfl)
theorem J7{s:List Int}:∀ (m i0 i:Nat) (t0 t:Rx) (j:Nat),Res s i0 t0 i->rS s m i t0=some (t,j)->Res s i0 t j:=by
 intro m
 induction m with
 |zero=>intro i0 i t0 t j _ h;cases h
 |succ m ih=>
  intro i0 i t0 t j hr h
  simp only[rS]at h
  split at h
  ·rename_i hc
   refine ih i0 (i+1) _ t j ?_ h
   obtain⟨q1,q2,q3,q4⟩:=hr
   exact⟨by omega,by omega,by simp only[Rx.len];omega,rV _,q4⟩
  ·injection h with h;injection h with h1 h2;subst h1;subst h2;exact hr
theorem qh{s:List Int}(hb:Bytes s){inner:Nat->Nat->Option (Rx×Nat)}{i d:Nat}(hin:ki s (i+1) (inner (i+1) (d+1))):ki s i (kJ inner s i d):=by
 intro t j h
 unfold kJ at h
 split at h
 ·cases h
 rename_i t0 i0 h0
 exact J7 _ i i0 t0 t j (uU hb hin _ _ h0) h
theorem J8{s:List Int}(hb:Bytes s){inner:Nat->Nat->Option (Rx×Nat)}{d:Nat}(n:Nat)(hin:∀ i d,s.length-i<n->ki s i (inner i d)):∀ (m i0 i:Nat) (t0 t:Rx) (j:Nat),Res s i0 t0 i->s.length-i0<=n->th inner s d m i t0=some (t,j)->Res s i0 t j:=by
 intro m
 induction m with
 |zero=>intro i0 i t0 t j _ _ h;cases h
 |succ m ih=>
  intro i0 i t0 t j hr hn h
  simp only[th]at h
  split at h
  ·rename_i hc
   split at h
   ·cases h
   rename_i t2 j2 h2
   obtain⟨q1,q2,q3,q4⟩:=hr
   obtain⟨p1,p2,p3,p4⟩:=qh hb (hin (i+1) (d+1) (by omega)) _ _ h2
   refine ih i0 j2 _ t j ?_ hn h
   exact⟨by omega,p2,by simp only[Rx.len];omega,q4,p4⟩
  ·injection h with h;injection h with h1 h2;subst h1;subst h2;exact hr
theorem qi{s:List Int}(hb:Bytes s){inner:Nat->Nat->Option (Rx×Nat)}{i d:Nat}(n:Nat)(hin:∀ i d,s.length-i<n->ki s i (inner i d))(hn:s.length-i<=n):ki s i (lF inner s i d):=by
 intro t j h
 unfold lF at h
 split at h
 ·cases h
 rename_i t0 i0 h0
 rcases ak i s.length with hlt|hge
 ·exact J8 hb n hin _ i i0 t0 t j (qh hb (hin (i+1) (d+1) (by omega)) _ _ h0) hn h
 ·exfalso
  unfold kJ mM at h0
  rw[if_pos (.inl hge)]at h0
  cases h0
theorem J9{s:List Int}(hb:Bytes s){inner:Nat->Nat->Option (Rx×Nat)}{d:Nat}(n:Nat)(hin:∀ i d,s.length-i<n->ki s i (inner i d)):∀ (m i0 i:Nat) (t0 t:Rx) (j:Nat),Res s i0 t0 i->s.length-i0<=n->tj inner s d m i t0=some (t,j)->Res s i0 t j:=by
 intro m
 induction m with
 |zero=>intro i0 i t0 t j _ _ h;cases h
 |succ m ih=>
  intro i0 i t0 t j hr hn h
  simp only[tj]at h
  split at h
  ·rename_i hc
   split at h
   ·cases h
   rename_i t2 j2 h2
   obtain⟨q1,q2,q3,q4⟩:=hr
   obtain⟨p1,p2,p3,p4⟩:=qi hb n hin (by omega) _ _ h2
   refine ih i0 j2 _ t j ?_ hn h
   exact⟨by omega,p2,by simp only[Rx.len];omega,q4,p4⟩
  ·injection h with h;injection h with h1 h2;subst h1;subst h2;exact hr
theorem j5{s:List Int}(hb:Bytes s):∀ (n i d:Nat),s.length-i<n->ki s i (kh s n i d):=by
 intro n
 induction n with
 |zero=>intro i d h;omega
 |succ n ih=>
  intro i d hn t j h
  simp only[kh,C5]at h
  split at h
  ·cases h
  rename_i t0 i0 h0
  exact J9 hb n ih _ i i0 t0 t j (qi hb n ih (by omega) _ _ h0) (by omega) h
end
noncomputable section
theorem yC(k:Int):AK N0 (k,())=some ((if k=0\/k=1 then 0 else if k=4\/k=5\/k=6 then 1 else if k=2\/k=3 then 2 else -1,()),()):=by
 delta AK Bd
 simp only[aH]
 by_cases h0:k=0
 ·subst h0;rfl
 by_cases h1:k=1
 ·subst h1;rfl
 by_cases h2:k=2
 ·subst h2;rfl
 by_cases h3:k=3
 ·subst h3;rfl
 by_cases h4:k=4
 ·subst h4;rfl
 by_cases h5:k=5
 ·subst h5;rfl
 by_cases h6:k=6
 ·subst h6;rfl
 simp[h0,h1,h2,h3,h4,h5,h6]
theorem Be{a b:Nat}(ha:a<=1000000)(hb:b<=1000000):((a+b)*40<=140737488355328)/\(a+b<=9223372036854775807):=by omega
theorem Ka{k:Int}(hk:k=4\/k=5\/k=6){l:List Pc}(hl:l.length<=1000000):uN N0 (k,([l],()))=some ((l++[(k,zS)],()),()):=by
 have ht:(if k=0\/k=1 then(0:Int)else if k=4\/k=5\/k=6 then 1 else if k=2\/k=3 then 2 else -1)=1:=by
  have:¬(k=0\/k=1):=by omega
  rw[if_neg this,if_pos hk]
 delta uN Ld Ap Bd Wi
 simp only[aH,yC,ht,aB]
 have e1:(!(decide ((1:Int)=(([l]:List (List Pc)).length:Nat))))=false:=rfl
 have e2:decide (((([l]:List (List Pc)).length:Nat):Int)=0)=false:=rfl
 rw[e1,cond_false,e2,cond_false]
 refine aZ (λm x r=>((m=1/\x=((),(([]:List Pc),((0:Int),()))))\/(m=0/\x=((),(l,((1:Int),())))))/\r=some ((l++[(k,zS)],()),())) ?_ N0 1 _ _ (by unfold N0;omega) ⟨.inl ⟨rfl,rfl⟩,rfl⟩
 rintro m x r ⟨hx,rfl⟩ kk hkk
 rcases hx with⟨rfl,rfl⟩|⟨rfl,rfl⟩
 ·have l1:decide ((0:Int)<(([l]:List (List Pc)).length:Nat))=true:=rfl
  have g0:([l]:List (List Pc))[((0:Int)).toNat]?=some l:=rfl
  have n0:(0:Int)<=0:=by omega
  obtain⟨f1,f2⟩:=Be (a:=([]:List Pc).length) (b:=l.length) (by simp) hl
  have w3:IntKind.wrap .i64 ((0:Int)+1)=1:=bz (by omega) (by omega)
  rw[l1,cond_true,if_pos n0,g0]
  simp only[if_pos f1,if_pos f2,w3,bL]
  exact hkk 0 _ _ (by omega) ⟨.inr ⟨rfl,rfl⟩,rfl⟩
 ·have l1:decide ((1:Int)<(([l]:List (List Pc)).length:Nat))=false:=rfl
  obtain⟨f1,f2⟩:=Be (a:=l.length) (b:=([(k,[0,0,0,0])]:List Pc).length) hl (by simp)
  rw[l1,cond_false,if_pos f1,if_pos f2]
  rfl
theorem qj{k:Int}(hk:k=2\/k=3){l l2:List Pc}(hl:l.length<=100000)(hl2:l2.length<=100000):uN N0 (k,([l,l2],()))=some ((l++l2++[(k,zS)],()),()):=by
 have ht:(if k=0\/k=1 then(0:Int)else if k=4\/k=5\/k=6 then 1 else if k=2\/k=3 then 2 else -1)=2:=by
  have h1:¬(k=0\/k=1):=by omega
  have h2:¬(k=4\/k=5\/k=6):=by omega
  rw[if_neg h1,if_neg h2,if_pos hk]
 delta uN Ld Ap Bd Wi
 simp only[aH,yC,ht,aB]
 have e1:(!(decide ((2:Int)=(([l,l2]:List (List Pc)).length:Nat))))=false:=rfl
 have e2:decide (((([l,l2]:List (List Pc)).length:Nat):Int)=0)=false:=rfl
 rw[e1,cond_false,e2,cond_false]
 refine aZ (λm x r=>((m=2/\x=((),(([]:List Pc),((0:Int),()))))\/(m=1/\x=((),(l,((1:Int),()))))\/(m=0/\x=((),(l++l2,((2:Int),())))))/\r=some ((l++l2++[(k,zS)],()),())) ?_ N0 2 _ _ (by unfold N0;omega) ⟨.inl ⟨rfl,rfl⟩,rfl⟩
 rintro m x r ⟨hx,rfl⟩ kk hkk
 rcases hx with⟨rfl,rfl⟩|⟨rfl,rfl⟩|⟨rfl,rfl⟩
 ·have l1:decide ((0:Int)<(([l,l2]:List (List Pc)).length:Nat))=true:=rfl
  have g0:([l,l2]:List (List Pc))[((0:Int)).toNat]?=some l:=rfl
  have n0:(0:Int)<=0:=by omega
  obtain⟨f1,f2⟩:=Be (a:=([]:List Pc).length) (b:=l.length) (by simp) (by omega)
  have w3:IntKind.wrap .i64 ((0:Int)+1)=1:=bz (by omega) (by omega)
  rw[l1,cond_true,if_pos n0,g0]
  simp only[if_pos f1,if_pos f2,w3,bL]
  exact hkk 1 _ _ (by omega) ⟨.inr (.inl ⟨rfl,rfl⟩),rfl⟩
 ·have l1:decide ((1:Int)<(([l,l2]:List (List Pc)).length:Nat))=true:=rfl
  have g0:([l,l2]:List (List Pc))[((1:Int)).toNat]?=some l2:=rfl
  have n0:(0:Int)<=1:=by omega
  obtain⟨f1,f2⟩:=Be (a:=l.length) (b:=l2.length) (by omega) (by omega)
  have w3:IntKind.wrap .i64 ((1:Int)+1)=2:=bz (by omega) (by omega)
  rw[l1,cond_true,if_pos n0,g0]
  simp only[if_pos f1,if_pos f2,w3]
  exact hkk 0 _ _ (by omega) ⟨.inr (.inr ⟨rfl,rfl⟩),rfl⟩
 ·have l1:decide ((2:Int)<(([l,l2]:List (List Pc)).length:Nat))=false:=rfl
  obtain⟨f1,f2⟩:=Be (a:=(l++l2).length) (b:=([(k,[0,0,0,0])]:List Pc).length) (by simp;omega) (by simp)
  rw[l1,cond_false,if_pos f1,if_pos f2]
  rfl
abbrev RdF:=(List Int×(Int×Int))×Unit->Option ((List Pc×(Bool×Unit))×((List Int×(Int×Int))×Unit))
theorem fT{s:List Int}{i:Nat}{c:Int}(h1:i<s.length)(h2:ch s i=c):e8 s i c=true:=by unfold e8;simp[h1,h2]
theorem iI{s:List Int}{i:Nat}{c:Int}(h2:¬ch s i=c):e8 s i c=false:=by unfold e8;simp[h2]
theorem RE{s:List Int}(hb:Bytes s)(hs:s.length<=1600){q2 q3 q4 q5:RdF}{inner:Nat->Nat->Option (Rx×Nat)}{i d:Nat}(hd:d<=i)
 (hin:i<s.length->OkP s ((d+1:Nat):Int) (2*(s.length-(i+1))) (inner (i+1) (d+1)) (q2 (kst s (i+1) ((d+1:Nat):Int),()))) (cq:ki s (i+1) (inner (i+1) (d+1))):
 OkP s d (2*(s.length-i)) (mM inner s i d) (AO N0 q2 q3 q4 q5 (kst s i d,())):=by
 have hsm:s.length<=maxLen:=by unfold maxLen;omega
 have rW:=oG s hsm
 unfold AO
 dsimp only
 rw[ae (qg s hsm i d [124,41,42,43,63,93,47,34] (by simp[maxLen]))]
 simp only
 have hc:qf s i [124,41,42,43,63,93,47,34]=decide (s.length<=i\/ch s i∈([124,41,42,43,63,93,47,34]:List Int)):=by
  unfold qf
  rw[bZ,aG,decide_eq_true_eq,decide_eq_true_eq,gE]
  simp
 rw[hc]
 unfold mM
 by_cases h0:s.length<=i\/ch s i∈([124,41,42,43,63,93,47,34]:List Int)
 ·rw[if_pos h0,decide_eq_true h0,cond_true]
  exact⟨_,_,rfl,by simp⟩
 rw[if_neg h0,decide_eq_false h0,cond_false]
 have hlt:i<s.length:=by
  rcases ak i s.length with h|h
  ·exact h
  ·exact absurd (.inl h) h0
 rw[ae (rW i d 46)]
 simp only
 by_cases h1:ch s i=46
 ·rw[if_pos h1,fT hlt h1]
  simp only[cond_true,if_true,En,aB]
  rfl
 rw[if_neg h1,iI h1]
 simp only[cond_false,ap,if_false]
 rw[ae (rW i d 126)]
 simp only
 by_cases h2:ch s i=126
 ·rw[if_pos h2,fT hlt h2]
  simp only[cond_true,if_true]
  rfl
 rw[if_neg h2,iI h2]
 simp only[cond_false,ap,if_false]
 rw[ae (rW i d 40)]
 simp only
 by_cases h3:ch s i=40
 ·have h4:¬ch s i=91:=by omega
  rw[if_neg h4,if_pos h3,fT hlt h3]
  simp only[cond_true,if_true]
  have w1:IntKind.wrap .i64 ((d:Int)+1)=((d+1:Nat):Int):=bc (n:=1601) (by omega) (by simp[maxLen])
  have RF:((kst s (i+1) (d:Int)).1,((kst s (i+1) (d:Int)).2.1,IntKind.wrap .i64 ((kst s (i+1) (d:Int)).2.2+1)))=kst s (i+1) ((d+1:Nat):Int):=by
   show(s,(((i+1:Nat):Int),IntKind.wrap .i64 ((d:Int)+1)))=_
   rw[w1];rfl
  rw[RF]
  have hq:=hin hlt
  unfold OkP at hq
  cases hi2:inner (i+1) (d+1)with
  |none=>
   rw[hi2]at hq
   obtain⟨r,k,hq,hrl⟩:=hq
   rw[ae hq]
   simp only[aH,cond_false,ite_self]
   exact⟨_,_,rfl,by omega⟩
  |some p=>
   obtain⟨t,j⟩:=p
   rw[hi2]at hq
   obtain⟨r1,r2,r3,r4⟩:=cq t j hi2
   have hpl:=t.aV
   rw[ae hq]
   simp only[aH,cond_true]
   have w2:IntKind.wrap .i64 ((kst s j ((d+1:Nat):Int)).2.2-1)=(d:Int):=by
    show IntKind.wrap .i64 (((d+1:Nat):Int)-1)=_
    rw[bz (by omega) (by omega)];omega
   simp only[w2]
   have XK:((kst s j ((d+1:Nat):Int)).1,((kst s j ((d+1:Nat):Int)).2.1,(d:Int)))=kst s j (d:Int):=rfl
   rw[XK]
   by_cases h99:99<=d
   ·rw[if_pos h99,decide_eq_false (by omega),cond_false]
    exact⟨_,_,rfl,by omega⟩
   ·rw[if_neg h99,decide_eq_true (by omega),cond_true,ae (rW j d 41)]
    simp only
    by_cases h41:j<s.length/\ch s j=41
    ·rw[if_pos h41,fT h41.1 h41.2]
     rfl
    ·rw[if_neg h41]
     have:e8 s j 41=false:=by
      unfold e8
      rw[ik,decide_eq_false_iff_not,decide_eq_false_iff_not]
      by_cases h:j<s.length
      ·exact .inr λh2=>h41 ⟨h,h2⟩
      ·exact .inl h
     rw[this]
     exact⟨_,_,rfl,by omega⟩
 rw[iI h3]
 simp only[cond_false,ap,if_false]
 rw[ae (rW i d 91)]
 simp only
 by_cases h4:ch s i=91
 ·rw[if_pos h4,fT hlt h4]
  simp only[cond_true,if_true]
  have hq:=Oc hb hsm (show i+1<=s.length by omega) (d:Int)
  unfold OkP at hq
  cases hbr:brS s (i+1)with
  |none=>
   rw[hbr]at hq
   obtain⟨r,k,hq,hrl⟩:=hq
   rw[ae hq]
   exact⟨_,_,rfl,by show r.length<=_;omega⟩
  |some p=>
   obtain⟨t,j⟩:=p
   rw[hbr]at hq
   simp only at hq
   rw[ae hq]
   rfl
 rw[if_neg h4,if_neg h3,iI h4]
 simp only[cond_false,ap,if_false]
 rw[ae (yA hb hsm (oi hlt) d)]
 unfold rdK
 cases hrd:rdS (s.drop i)with
 |none=>
  simp only
  rw[ae (Es (c:=0) ⟨by omega,by omega⟩)]
  exact⟨_,_,rfl,by simp;omega⟩
 |some p=>
  obtain⟨c,n⟩:=p
  obtain⟨r1,_,_⟩:=kK (hb.drop i) hrd
  simp only
  rw[ae (Es r1)]
  rfl
end
noncomputable section
theorem Ho{s:List Int}(hb:Bytes s)(hs:s.length<=1600){q2 q3 q4 q5:RdF}{inner:Nat->Nat->Option (Rx×Nat)}{i d:Nat}{B:Nat}
 (ek:OkP s d B (mM inner s i d) (q5 (kst s i d,()))) (cq:ki s i (mM inner s i d)):
 OkP s d 0 (kJ inner s i d) (AN N0 q2 q3 q4 q5 (kst s i d,())):=by
 have hsm:s.length<=maxLen:=by unfold maxLen;omega
 have rW:=oG s hsm
 unfold AN
 dsimp only
 unfold kJ
 unfold OkP at ek
 cases ho:mM inner s i d with
 |none=>
  rw[ho]at ek
  obtain⟨r,k,hq,hrl⟩:=ek
  rw[ae hq]
  refine dZ (λm x=>m=0) (OkP s d 0 none) ?_ N0 0 _ (by unfold N0;omega) rfl
  rintro m x hm k hk
  exact⟨_,_,rfl,by simp⟩
 |some p=>
  obtain⟨t0,j0⟩:=p
  rw[ho]at ek
  simp only at ek
  have hr0:=cq t0 j0 ho
  rw[ae ek]
  simp only
  generalize hrs:rS s s.length.succ j0 t0=res
  refine dZ (λm x=>∃ (j:Nat) (t:Rx) (cd:Nat),x=((kst s j d,()),(t.post,()))/\Res s i t j/\s.length-j<cd/\m=s.length-j/\rS s cd j t=res) (OkP s d 0 res) ?_ N0 (s.length-j0) _ (by unfold N0;omega) ⟨j0,t0,_,rfl,hr0,by omega,rfl,hrs⟩
  rintro m x ⟨j,t,cd,rfl,hr,hf,hm,hl⟩ k hk
  obtain⟨cd,rfl⟩:∃ q,cd=q+1:=⟨cd-1,by omega⟩
  simp only[rS]at hl
  simp only[aH,cond_true]
  have Kb:∀ kk:Int,(kk=4\/kk=5\/kk=6)->uN N0 (kk,([t.post],()))=some (((Rx.rep kk t).post,()),()):=λkk hkk=>by
   rw[Ka hkk (by rw[t.aV];obtain⟨_,h1,h2,_⟩:=hr;omega)]
   rfl
  have go:j<s.length->∀ kk:Int,kk=iH (ch s j)->rS s cd (j+1) (.rep (iH (ch s j)) t)=res->OkP s d 0 res (k ((kst s (j+1) d,()),((Rx.rep kk t).post,()))):=by
   intro hlt kk hkk hl
   obtain⟨h1,h2,h3,h4⟩:=hr
   exact hk (s.length-(j+1)) _ (by omega) ⟨j+1,.rep kk t,cd,rfl,⟨by omega,by omega,by simp only[Rx.len];omega,by rw[hkk];exact rV _,h4⟩,by omega,rfl,by rw[hkk];exact hl⟩
  rw[ae (rW j d 42)]
  simp only
  by_cases hc:j<s.length/\ch s j∈([42,43,63]:List Int)
  ·rw[if_pos hc]at hl
   obtain⟨hlt,iZ⟩:=hc
   by_cases h1:ch s j=42
   ·rw[fT hlt h1]
    simp only[cond_true,if_true]
    rw[ae (Kb 4 (by omega))]
    exact go hlt 4 (by rw[h1];rfl) hl
   ·rw[iI h1]
    simp only[cond_false,ap,if_false]
    rw[ae (rW j d 43)]
    simp only
    by_cases h2:ch s j=43
    ·rw[fT hlt h2]
     simp only[cond_true,if_true]
     rw[ae (Kb 5 (by omega))]
     exact go hlt 5 (by rw[h2];rfl) hl
    ·rw[iI h2]
     simp only[cond_false,ap,if_false]
     rw[ae (rW j d 63)]
     simp only
     have h3:ch s j=63:=by simpa [h1,h2]using iZ
     rw[fT hlt h3]
     simp only[cond_true,if_true]
     rw[ae (Kb 6 (by omega))]
     exact go hlt 6 (by rw[h3];rfl) hl
  ·rw[if_neg hc]at hl
   have hno:∀ c:Int,c∈([42,43,63]:List Int)->e8 s j c=false:=by
    intro c hcm
    unfold e8
    rw[ik,decide_eq_false_iff_not,decide_eq_false_iff_not]
    by_cases h:j<s.length
    ·exact .inr λh2=>hc ⟨h,h2 ▸ hcm⟩
    ·exact .inl h
   rw[hno 42 (by simp)]
   simp only[cond_false,ap,if_false]
   rw[ae (rW j d 43)]
   simp only
   rw[hno 43 (by simp)]
   simp only[cond_false,ap,if_false]
   rw[ae (rW j d 63)]
   simp only
   rw[hno 63 (by simp)]
   simp only[cond_false,ap,if_false]
   subst hl
   rfl
theorem RG{s:List Int}(hb:Bytes s)(hs:s.length<=1600){q2 q3 q4 q5:RdF}{inner:Nat->Nat->Option (Rx×Nat)}{i d:Nat}(hi:i<=s.length)
 (bF:∀ j,i<=j->j<=s.length->OkP s d 0 (kJ inner s j d) (q4 (kst s j d,()))) (cq:∀ j,i<=j->ki s j (kJ inner s j d)):
 OkP s d (2*(s.length-i)) (lF inner s i d) (AM N0 q2 q3 q4 q5 (kst s i d,())):=by
 have hsm:s.length<=maxLen:=by unfold maxLen;omega
 unfold AM
 dsimp only
 unfold lF
 have ek:=bF i (ar _) hi
 unfold OkP at ek
 cases ho:kJ inner s i d with
 |none=>
  rw[ho]at ek
  obtain⟨r,k,hq,hrl⟩:=ek
  rw[ae hq]
  refine dZ (λm x=>m=0/\x=((k,()),(r,(false,())))) (OkP s d (2*(s.length-i)) none) ?_ N0 0 _ (by unfold N0;omega) ⟨rfl,rfl⟩
  rintro m x ⟨_,rfl⟩ k hk
  simp only[aH,cond_false]
  exact⟨_,_,rfl,by omega⟩
 |some p=>
  obtain⟨t0,j0⟩:=p
  rw[ho]at ek
  simp only at ek
  have hr0:=cq i (ar _) t0 j0 ho
  rw[ae ek]
  simp only
  generalize hrs:th inner s d s.length.succ j0 t0=res
  refine dZ (λm x=>(∃ (j:Nat) (t:Rx) (cd:Nat),x=((kst s j d,()),(t.post,(true,())))/\Res s i t j/\s.length-j<cd/\m=s.length-j+1/\th inner s d cd j t=res)\/(∃ r k,x=((k,()),(r,(false,())))/\r.length<=2*(s.length-i)/\res=none/\m=0)) (OkP s d (2*(s.length-i)) res) ?_ N0 (s.length-j0+1) _ (by unfold N0;omega) (.inl ⟨j0,t0,_,rfl,hr0,by omega,rfl,hrs⟩)
  rintro m x (⟨j,t,cd,rfl,hr,hf,hm,hl⟩|⟨r,kk,rfl,hrl,rfl,rfl⟩) k hk
  ·obtain⟨cd,rfl⟩:∃ q,cd=q+1:=⟨cd-1,by omega⟩
   simp only[th]at hl
   simp only[aH,cond_true]
   rw[ae (qg s hsm j d [124,41] (by simp[maxLen]))]
   simp only
   have hc:qf s j [124,41]=decide (¬(j<s.length/\ch s j∉([124,41]:List Int))):=by
    unfold qf
    rw[bZ,aG,decide_eq_true_eq,decide_eq_true_eq,gE]
    simp only[ay,bX,or_false,decide_eq_true_eq]
    constructor
    ·rintro(h|⟨c,hc,h⟩)
     ·omega
     ·rintro⟨_,h2⟩;exact h2 (by rw[h];exact hc)
    ·intro h
     by_cases hj:j<s.length
     ·right
      refine⟨ch s j,?_,rfl⟩
      by_cases h2:ch s j=124\/ch s j=41
      ·exact h2
      ·exact absurd ⟨hj,h2⟩ h
     ·left;omega
   rw[hc]
   by_cases hgo:j<s.length/\ch s j∉([124,41]:List Int)
   ·rw[if_pos hgo]at hl
    rw[decide_eq_false (by simpa using hgo)]
    simp only[aI,cond_true]
    obtain⟨g1,g2,g3,g4⟩:=hr
    have hq:=bF j (by omega) (by omega)
    unfold OkP at hq
    cases h2:kJ inner s j d with
    |none=>
     rw[h2]at hq hl
     obtain⟨r,kx,hq,hrl⟩:=hq
     rw[ae hq]
     simp only
     have hr0:r=[]:=dB (by omega)
     subst hr0
     rw[ae (qj (.inl rfl) (by rw[t.aV];omega) (by simp))]
     exact hk 0 _ (by omega) (.inr ⟨_,_,rfl,by simp[t.aV];omega,hl.symm,rfl⟩)
    |some p=>
     obtain⟨t2,j2⟩:=p
     rw[h2]at hq hl
     simp only at hq hl
     obtain⟨f1,f2,f3,f4⟩:=cq j (by omega) t2 j2 h2
     rw[ae hq]
     simp only
     rw[ae (qj (.inl rfl) (by rw[t.aV];omega) (by rw[t2.aV];omega))]
     exact hk (s.length-j2+1) _ (by omega) (.inl ⟨j2,.cat t t2,cd,rfl,⟨by omega,by omega,by simp only[Rx.len];omega,g4,f4⟩,by omega,rfl,hl⟩)
   ·rw[if_neg hgo]at hl
    rw[decide_eq_true hgo]
    simp only[aA,cond_false]
    subst hl
    rfl
  ·simp only[aH,cond_false]
   exact⟨_,_,rfl,hrl⟩
theorem RH{s:List Int}(hb:Bytes s)(hs:s.length<=1600){q2 q3 q4 q5:RdF}{inner:Nat->Nat->Option (Rx×Nat)}{i d:Nat}(hi:i<=s.length)
 (yD:∀ j,i<=j->j<=s.length->OkP s d (2*(s.length-j)) (lF inner s j d) (q3 (kst s j d,()))) (cq:∀ j,i<=j->ki s j (lF inner s j d)):
 OkP s d (2*(s.length-i)) (C5 inner s i d) (AL N0 q2 q3 q4 q5 (kst s i d,())):=by
 have hsm:s.length<=maxLen:=by unfold maxLen;omega
 have rW:=oG s hsm
 unfold AL
 dsimp only
 unfold C5
 have ek:=yD i (ar _) hi
 unfold OkP at ek
 cases ho:lF inner s i d with
 |none=>
  rw[ho]at ek
  obtain⟨r,k,hq,hrl⟩:=ek
  rw[ae hq]
  refine dZ (λm x=>m=0/\x=((k,()),(r,(false,())))) (OkP s d (2*(s.length-i)) none) ?_ N0 0 _ (by unfold N0;omega) ⟨rfl,rfl⟩
  rintro m x ⟨_,rfl⟩ k hk
  simp only[aH,cond_false]
  exact⟨_,_,rfl,by omega⟩
 |some p=>
  obtain⟨t0,j0⟩:=p
  rw[ho]at ek
  simp only at ek
  have hr0:=cq i (ar _) t0 j0 ho
  rw[ae ek]
  simp only
  generalize hrs:tj inner s d s.length.succ j0 t0=res
  refine dZ (λm x=>(∃ (j:Nat) (t:Rx) (cd:Nat),x=((kst s j d,()),(t.post,(true,())))/\Res s i t j/\s.length-j<cd/\m=s.length-j+1/\tj inner s d cd j t=res)\/(∃ r k,x=((k,()),(r,(false,())))/\r.length<=2*(s.length-i)/\res=none/\m=0)) (OkP s d (2*(s.length-i)) res) ?_ N0 (s.length-j0+1) _ (by unfold N0;omega) (.inl ⟨j0,t0,_,rfl,hr0,by omega,rfl,hrs⟩)
  rintro m x (⟨j,t,cd,rfl,hr,hf,hm,hl⟩|⟨r,kk,rfl,hrl,rfl,rfl⟩) k hk
  ·obtain⟨cd,rfl⟩:∃ q,cd=q+1:=⟨cd-1,by omega⟩
   simp only[tj]at hl
   simp only[aH,cond_true]
   rw[ae (rW j d 124)]
   simp only
   by_cases hgo:j<s.length/\ch s j=124
   ·rw[if_pos hgo]at hl
    rw[fT hgo.1 hgo.2]
    simp only[if_true,cond_true]
    obtain⟨g1,g2,g3,g4⟩:=hr
    have hq:=yD (j+1) (by omega) (by omega)
    unfold OkP at hq
    cases h2:lF inner s (j+1) d with
    |none=>
     rw[h2]at hq hl
     obtain⟨r,kx,hq,hrl⟩:=hq
     rw[ae hq]
     simp only
     rw[ae (qj (.inr rfl) (by rw[t.aV];omega) (by omega))]
     exact hk 0 _ (by omega) (.inr ⟨_,_,rfl,by simp[t.aV];omega,hl.symm,rfl⟩)
    |some p=>
     obtain⟨t2,j2⟩:=p
     rw[h2]at hq hl
     simp only at hq hl
     obtain⟨f1,f2,f3,f4⟩:=cq (j+1) (by omega) t2 j2 h2
     rw[ae hq]
     simp only
     rw[ae (qj (.inr rfl) (by rw[t.aV];omega) (by rw[t2.aV];omega))]
     exact hk (s.length-j2+1) _ (by omega) (.inl ⟨j2,.alt t t2,cd,rfl,⟨by omega,by omega,by simp only[Rx.len];omega,g4,f4⟩,by omega,rfl,hl⟩)
   ·rw[if_neg hgo]at hl
    have:e8 s j 124=false:=by
     unfold e8
     rw[ik,decide_eq_false_iff_not,decide_eq_false_iff_not]
     by_cases h:j<s.length
     ·exact .inr λh2=>hgo ⟨h,h2⟩
     ·exact .inl h
    rw[this]
    simp only[ap,if_false,cond_false]
    subst hl
    rfl
  ·simp only[aH,cond_false]
   exact⟨_,_,rfl,hrl⟩
end
noncomputable section
theorem RI{s:List Int}(hb:Bytes s)(hs:s.length<=1600):∀ (n D i d:Nat),4*n<=D->s.length-i<n->i<=s.length->d<=i->OkP s d (2*(s.length-i)) (kh s n i d) ((da N0 D).1 (kst s i d,())):=by
 intro n
 induction n with
 |zero=>intro D i d _ h;omega
 |succ n ih=>
  intro D i d hD hn hi hd
  obtain⟨D,rfl⟩:∃ q,D=q+1+1+1+1:=⟨D-4,by omega⟩
  have cq:∀ i d,s.length-i<n->ki s i (kh s n i d):=λi d h=>j5 hb n i d h
  have ek:∀ j,i<=j->j<=s.length->OkP s d (2*(s.length-j)) (mM (kh s n) s j d) ((da N0 (D+1)).2.2.2 (kst s j d,())):=λj hij hj=>
   RE (q2:=(da N0 (D)).1) (q3:=(da N0 (D)).2.1) (q4:=(da N0 (D)).2.2.1) (q5:=(da N0 (D)).2.2.2) hb hs (bu hd hij) (λhlt=>ih D (j+1) (d+1) (by omega) (by omega) (by omega) (by omega)) (λt j2 h=>by
    rcases ak j s.length with hlt|hge
    ·exact cq (j+1) (d+1) (by omega) t j2 h
    ·cases n with
     |zero=>cases h
     |succ n=>exact j5 hb (n+1) (j+1) (d+1) (by omega) t j2 h)
  have Hp:∀ j,i<=j->ki s (j+1) (kh s n (j+1) (d+1)):=λj hij t j2 h=>by
   rcases ak j s.length with hlt|hge
   ·exact cq (j+1) (d+1) (by omega) t j2 h
   ·cases n with
    |zero=>cases h
    |succ n=>exact j5 hb (n+1) (j+1) (d+1) (by omega) t j2 h
  have bF:∀ j,i<=j->j<=s.length->OkP s d 0 (kJ (kh s n) s j d) ((da N0 (D+1+1)).2.2.1 (kst s j d,())):=λj hij hj=>
   Ho (q2:=(da N0 (D+1)).1) (q3:=(da N0 (D+1)).2.1) (q4:=(da N0 (D+1)).2.2.1) (q5:=(da N0 (D+1)).2.2.2) hb hs (ek j hij hj) (uU hb (Hp j hij))
  have yD:∀ j,i<=j->j<=s.length->OkP s d (2*(s.length-j)) (lF (kh s n) s j d) ((da N0 (D+1+1+1)).2.1 (kst s j d,())):=λj hij hj=>
   RG (q2:=(da N0 (D+1+1)).1) (q3:=(da N0 (D+1+1)).2.1) (q4:=(da N0 (D+1+1)).2.2.1) (q5:=(da N0 (D+1+1)).2.2.2) hb hs hj (λj2 hj2 hj3=>bF j2 (bu hij hj2) hj3) (λj2 hj2=>qh hb (Hp j2 (bu hij hj2)))
  exact RH (q2:=(da N0 (D+1+1+1)).1) (q3:=(da N0 (D+1+1+1)).2.1) (q4:=(da N0 (D+1+1+1)).2.2.1) (q5:=(da N0 (D+1+1+1)).2.2.2) hb hs hi yD (λj hij t j2 h=>qi hb n cq (by omega) t j2 h)
def Kc(o:Except Int Rx):(List Pc×(Int×Unit))×Unit:=match o with
 |.ok t=>((t.post,(0,())),())
 |.error e=>(([],(e,())),())
theorem Kd{s:List Int}(hb:Bytes s)(hsm:s.length<=maxLen):p60 N0 (s,())=some (Kc (gb s)):=by
 delta p60 Bd;unfold gb
 dsimp only
 by_cases hs:1600<s.length
 ·rw[if_pos hs,decide_eq_true (show(1600:Int)<((s.length:Nat):Int) by omega),cond_true]
  rfl
 rw[if_neg hs,decide_eq_false (show ¬(1600:Int)<((s.length:Nat):Int) by omega),cond_false]
 have hq:OkP s ((0:Nat):Int) (2*(s.length-0)) (kh s s.length.succ 0 0) (Rc N0 (kst s 0 ((0:Nat):Int),())):=RI hb (by omega) s.length.succ N0 0 0 (by unfold N0;omega) (by omega) (aC _) (ar _)
 have hk:kst s 0 ((0:Nat):Int)=(s,((0:Int),(0:Int))):=rfl
 rw[hk]at hq
 unfold OkP at hq
 cases ho:kh s s.length.succ 0 0 with
 |none=>
  rw[ho]at hq
  obtain⟨r,k,hq,_⟩:=hq
  rw[ae hq]
  rfl
 |some p=>
  obtain⟨t,i⟩:=p
  rw[ho]at hq
  simp only at hq
  rw[ae hq]
  simp only[aH,aA,cond_false]
  have h1:decide ((kst s i ((0:Nat):Int)).2.1<((s.length:Nat):Int))=decide (i<s.length):=by
   rw[decide_eq_decide];show(i:Int)<_↔_;omega
  rw[h1]
  by_cases h2:i<s.length
  ·rw[if_pos h2,decide_eq_true h2];rfl
  rw[if_neg h2,decide_eq_false h2,cond_false]
  rw[t.aV]
  by_cases h3:400<t.len
  ·rw[if_pos h3,decide_eq_true (show(400:Int)<((t.len:Nat):Int) by omega)];rfl
  ·rw[if_neg h3,decide_eq_false (show ¬(400:Int)<((t.len:Nat):Int) by omega)];rfl
theorem rX{s:List Int}(hb:Bytes s){t:Rx}(h:gb s=.ok t):t.ok/\t.len<=400/\t.len+1<=2*s.length:=by
 unfold gb at h
 split at h
 ·cases h
 split at h
 ·cases h
 rename_i t2 i ho
 obtain⟨h1,h2,h3,h4⟩:=j5 hb _ _ _ (by omega) _ _ ho
 split at h
 ·cases h
 split at h
 ·cases h
 injection h with h
 subst h
 exact⟨h4,by omega,by omega⟩
end
noncomputable section
theorem aY{A R:Type}{J:A->Option R}{body:(A->Option R)->Option R}(x:A)(h:∀ K,body K=K x){r:Option R}(hr:J x=r):av J body=r:=(h J).trans hr
theorem dW{A R:Type}{P:Option R->Prop}{J:A->Option R}{body:(A->Option R)->Option R}(x:A)(h:∀ K,body K=K x)(hr:P (J x)):P (av J body):=by
 show P (body J)
 rw[h J];exact hr
def Od(l:List Int)(c:Int):Bool:=l.any λb=>decide (b=c)
theorem Ke(l:List Int)(c:Int):Od l c=decide (c∈l):=by
 unfold Od
 rw[bZ,gE,decide_eq_true_eq]
 constructor
 ·rintro⟨b,hb,h⟩
  rw[decide_eq_true_eq]at h
  exact h ▸ hb
 ·intro h
  exact⟨c,h,by simp⟩
theorem Oe(l:List Int)(hl:l.length<=maxLen)(c:Int):AQ N0 (l,(c,()))=some ((decide (c∈l),()),()):=by
 delta AQ Ld Bd Wi
 simp only
 rw[<-Ke]
 refine aZ (λm x r=>∃ j:Nat,x=((),((j:Int),()))/\m+j=l.length/\r=some ((Od (l.drop j) c,()),())) ?_ N0 l.length _ _ (by have:=ic hl;omega) ⟨0,rfl,rfl,by rw[cU]⟩
 rintro m x r ⟨j,rfl,hm,rfl⟩ k hk
 simp only
 rcases ak j l.length with hj|hj
 ·have n1:(0:Int)<=(j:Int):=by omega
  rw[decide_eq_true (show(j:Int)<((l.length:Nat):Int) by omega),cond_true,if_pos n1,aa,List.getElem?_eq_getElem hj]
  simp only[bc hj hl]
  unfold Od
  rw[cL hj,List.any_cons]
  cases hd:decide (l[j]=c)
  ·rw[cond_false,cV]
   exact hk (m-1) _ _ (by omega) ⟨j+1,rfl,by omega,rfl⟩
  ·rw[cond_true,dP]
 ·rw[decide_eq_false (show ¬(j:Int)<((l.length:Nat):Int) by omega),cond_false,kN hj]
  rfl
theorem qk(l:List Int)(hl:l.length<=maxLen)(c:Int):AP N0 (l,(c,()))=some ((decide (c∈l),()),()):=by
 have:AP=AQ:=rfl
 rw[this];exact Oe l hl c
def rY(n:Nat):Int:=if n<10 then 48+(n:Int)else 87+(n:Int)
def Kf(c:Nat):List Int:=if c=10 then [92,110]else if c=9 then [92,116]else if c=13 then [92,114]else
 if c<32\/126<c then [92,120,rY (c / 16),rY (c % 16)]else if c=92 then [92,92]else [(c:Int)]
theorem Kg:∀ c:Fin 256,NB N0 (((c.val:Nat):Int),(([]:List Int),()))=some ((Kf c.val,()),()):=by decide +kernel
theorem Kh{c:Nat}(h:c<256):NB N0 ((c:Int),(([]:List Int),()))=some ((Kf c,()),()):=Kg ⟨c,h⟩
theorem Ki:∀ c:Fin 256,JF N0 (((c.val:Nat):Int),())=some ((mG ((c.val:Nat):Int),()),()):=by decide +kernel
theorem Of{c:Int}(h:0<=c/\c<=255):JF N0 (c,())=some ((mG c,()),()):=by
 have:=Ki ⟨c.toNat,by omega⟩
 simp only[dl h.1]at this
 exact this
def Uz:List Int:=[48,49,50,51,52,53,54,55,56,57,97,98,99,100,101,102]
theorem Bf:∀ q:Fin 16,cC Uz ((q.val:Nat):Int) (((q.val+1:Nat)):Int)=[rY q.val]:=by decide +kernel
theorem Kj:∀ q:Fin 16,qe (rY q.val)=some ((q.val:Nat):Int):=by decide +kernel
theorem xa{q:Nat}(h:q<16):qe (rY q)=some (q:Int):=Kj ⟨q,h⟩
theorem xb{h v:Int}(e:qe h=some v):rY v.toNat=h:=by
 unfold qe at e
 unfold rY
 split at e
 ·injection e with e
  rw[if_pos (by omega)];omega
 ·split at e
  ·injection e with e
   rw[if_neg (by omega)];omega
  ·cases e
def mA(s:List Int)(c:Nat):Bool:=(decide (c=10)&&decide (s[1]?=some 110))||(decide (c=9)&&decide (s[1]?=some 116))||(decide (c=13)&&decide (s[1]?=some 114))
def mB(s:List Int)(c:Nat):Bool:=decide (s[1]?=some 120)&&(decide (s[2]?=some (rY (c / 16)))&&decide (s[3]?=some (rY (c % 16))))
theorem UA{r:List Int}{c:Nat}(h:mA (92::r) c=true):rdS (92::r)=some ((c:Int),2):=by
 unfold mA at h
 cases r with
 |nil=>simp at h
 |cons d r2=>
  simp only[List.getElem?_cons_succ,List.getElem?_cons_zero,bn,aG,ag,decide_eq_true_eq]at h
  rcases h with(⟨rfl,rfl⟩|⟨rfl,rfl⟩)|⟨rfl,rfl⟩ <;> rfl
theorem UB{r:List Int}{c:Nat}(hc:c<256)(h:mB (92::r) c=true):rdS (92::r)=some ((c:Int),4):=by
 unfold mB at h
 match r with
 |[]=>simp at h
 |[d]=>simp at h
 |[d,x]=>simp at h
 |d::x::y::r4=>
  simp only[List.getElem?_cons_succ,List.getElem?_cons_zero,bn,ag,decide_eq_true_eq]at h
  obtain⟨rfl,rfl,rfl⟩:=h
  have e1:=xa (q:=c / 16) (by omega)
  have e2:=xa (q:=c % 16) (by omega)
  simp only[rdS]
  rw[e1,e2]
  have:(16:Int)*((c / 16:Nat):Int)+((c % 16:Nat):Int)=(c:Int):=by omega
  simp
  omega
def Kk(s:List Int):Option (Int×Nat):=match s[1]? with
 |some d=>if 32<=d/\d<=126/\mG d=false then some (d,2)else none
 |none=>none
theorem Og{r:List Int}(hA:∀ c,c<256->mA (92::r) c=false)(hB:∀ c,c<256->mB (92::r) c=false):rdS (92::r)=Kk (92::r):=by
 match r with
 |[]=>rfl
 |d::r2=>
  have a1:=hA 10 (by omega)
  have a2:=hA 9 (by omega)
  have a3:=hA 13 (by omega)
  simp only[mA,List.getElem?_cons_succ,List.getElem?_cons_zero,bn]at a1 a2 a3
  have d1:¬d=110:=by simpa using a1
  have d2:¬d=116:=by simpa using a2
  have d3:¬d=114:=by simpa using a3
  simp only[rdS,Kk,List.getElem?_cons_succ,List.getElem?_cons_zero,ne_eq,not_true_eq_false,if_false,d1,d2,d3]
  by_cases d4:d=120
  ·subst d4
   rw[if_pos rfl]
   have hw:¬((32:Int)<=120/\(120:Int)<=126/\mG 120=false):=by decide
   rw[if_neg hw]
   match r2 with
   |[]=>rfl
   |[x]=>rfl
   |x::y::r4=>
    simp only
    cases hx:qe x with
    |none=>rfl
    |some a=>
     cases hy:qe y with
     |none=>rfl
     |some b=>
      exfalso
      have ha:=oF hx
      have hb:=oF hy
      have:=hB (16*a+b).toNat (by omega)
      have e1:(16*a+b).toNat / 16=a.toNat:=by omega
      have e2:(16*a+b).toNat % 16=b.toNat:=by omega
      simp[mB,e1,e2,xb hx,xb hy]at this
  ·rw[if_neg d4]
   cases hw:mG d
   ·by_cases h1:32<=d/\d<=126
    ·rw[if_neg (by simp;omega),if_pos ⟨h1.1,h1.2,rfl⟩]
    ·rw[if_pos (by simp;omega),if_neg (λh=>h1 ⟨h.1,h.2.1⟩)]
   ·rw[if_pos (.inl rfl),if_neg (λh=>by cases h.2.2)]
theorem yE{s:List Int}(hb:Bytes s)(hs:s.length<=maxLen):G4 N0 (s,())=some (rdR (rdS s),()):=by
 delta G4 Bd Wi
 dsimp only
 cases s with
 |nil=>rfl
 |cons c r=>
  have e0:decide ((c::r:List Int)=[])=false:=rfl
  have n0:(0:Int)<=0:=by omega
  have g0:(c::r)[((0:Int)).toNat]?=some c:=rfl
  rw[e0,cond_false,if_pos n0,g0]
  simp only[if_pos n0]
  by_cases hc:c=92
  ·subst hc
   simp only[decide_true,aA,cond_false]
   refine aZ (λm x q=>∃ c:Nat,x=((),((c:Int),()))/\m+c=256/\(∀ c',c' < c->mA (92::r) c'=false/\mB (92::r) c'=false)/\q=some (rdR (rdS (92::r)),())) ?_ N0 256 _ _ (by unfold N0;omega) ⟨0,rfl,rfl,λc' h=>by omega,rfl⟩
   rintro m x q ⟨c,rfl,hm,fu,rfl⟩ k hk
   dsimp only
   rcases ak c 256 with hc|hc
   ·have w8:IntKind.wrap .u8 (c:Int)=(c:Int):=j4 hc
    rw[decide_eq_true (show(c:Int)<256 by omega),cond_true,w8,ae (Kh hc)]
    dsimp only
    refine aY ((),(mA (92::r) c,())) (λK=>?_) ?_
    ·have Bg:decide (cC (92::r) 0 2=[92,110])=decide ((92::r:List Int)[1]?=some 110)/\decide (cC (92::r) 0 2=[92,116])=decide ((92::r:List Int)[1]?=some 116)/\decide (cC (92::r) 0 2=[92,114])=decide ((92::r:List Int)[1]?=some 114):=by
      unfold cC
      cases r with
      |nil=>exact⟨rfl,rfl,rfl⟩
      |cons d r2=>simp
     have hlen:∀ v:Int,decide (1<(((92::r:List Int).length:Nat):Int))=false->decide ((92::r:List Int)[1]?=some v)=false:=by
      intro v h
      cases r with
      |nil=>rfl
      |cons d r2=>simp at h;omega
     have Ew:decide (1<(((92::r:List Int).length:Nat):Int))=true->(0:Int)<=0/\(0:Int)<=2/\(2:Int)<=(((92::r:List Int).length:Nat):Int):=by
      intro h
      rw[decide_eq_true_eq]at h
      omega
     have h12:∀ (v:Int) (b:Bool),v≠92->b=decide ((92::r:List Int)[1]?=some v)->decide (cC (92::r) 0 2=[92,v])=decide ((92::r:List Int)[1]?=some v)->
      (bif decide ((([92,v]:List Int).length:Int)=2)then(if(0:Int)<=1 then(match([92,v]:List Int)[((1:Int)).toNat]? with|some v12=>(bif(!decide (v12=92))then(bif decide (1<(((92::r:List Int).length:Nat):Int))then(if(0:Int)<=0/\(0:Int)<=2/\(2:Int)<=(((92::r:List Int).length:Nat):Int)then K ((),(decide (cC (92::r) 0 2=[92,v]),()))else none)else K ((),(false,())))else K ((),(false,())))|none=>none)else none)else K ((),(false,())))=K ((),(b,())):=by
      intro v b hv hb hcu
      have e1:decide ((([92,v]:List Int).length:Int)=2)=true:=rfl
      have e2:([92,v]:List Int)[((1:Int)).toNat]?=some v:=rfl
      have e3:(!decide (v=92))=true:=by simp[hv]
      rw[e1,cond_true,if_pos (show(0:Int)<=1 by omega),e2]
      dsimp only
      rw[e3,cond_true]
      cases hl:decide (1<(((92::r:List Int).length:Nat):Int))
      ·rw[cond_false,hb,hlen v hl]
      ·rw[cond_true,if_pos (Ew hl),hcu,hb]
     unfold Kf mA
     by_cases h1:c=10
     ·rw[if_pos h1]
      refine h12 110 _ (by decide) ?_ Bg.1
      simp[h1]
     rw[if_neg h1]
     by_cases h2:c=9
     ·rw[if_pos h2]
      refine h12 116 _ (by decide) ?_ Bg.2.1
      simp[h2]
     rw[if_neg h2]
     by_cases h3:c=13
     ·rw[if_pos h3]
      refine h12 114 _ (by decide) ?_ Bg.2.2
      simp[h3]
     rw[if_neg h3]
     have e:((decide (c=10)&&decide ((92::r:List Int)[1]?=some 110))||(decide (c=9)&&decide ((92::r:List Int)[1]?=some 116))||(decide (c=13)&&decide ((92::r:List Int)[1]?=some 114)))=false:=by simp[h1,h2,h3]
     rw[e]
     split
     ·rfl
     split
     ·rfl
     ·rfl
    ·dsimp only
     cases hA:mA (92::r) c
     ·rw[cond_false]
      have w16:IntKind.wrap .i64 (Int.tdiv (c:Int) 16)=((c / 16:Nat):Int):=by
       have:Int.tdiv (c:Int) 16=((c / 16:Nat):Int):=by
        rw[show(16:Int)=((16:Nat):Int) by rfl];exact kT c 16 |>.symm
       rw[this];exact bH (by omega)
      have t16:Int.tmod (c:Int) 16=((c % 16:Nat):Int):=by
       rw[show(16:Int)=((16:Nat):Int) by rfl];exact oc c 16 |>.symm
      have w17:IntKind.wrap .i64 (((c / 16:Nat):Int)+1)=((c / 16+1:Nat):Int):=by rw[<-bH (n:=c / 16+1) (by omega)];rfl
      have w18:IntKind.wrap .i64 (((c % 16:Nat):Int)+1)=((c % 16+1:Nat):Int):=by rw[<-bH (n:=c % 16+1) (by omega)];rfl
      have w19:IntKind.wrap .i64 ((c:Int)+1)=((c+1:Nat):Int):=by rw[<-bH (n:=c+1) (by omega)];rfl
      have c1:=Bf ⟨c / 16,by omega⟩
      have c2:=Bf ⟨c % 16,by omega⟩
      unfold Uz at c1 c2
      dsimp only at c1 c2
      have n16:¬((16:Int)=0):=by omega
      rw[w16,t16,w17,w18,w19,if_neg n16,if_neg n16,if_pos (⟨by omega,by omega,by simp;omega⟩),c1,if_pos (by simp),if_neg n16,if_neg n16,if_pos (⟨by omega,by omega,by simp;omega⟩),c2,if_pos (by simp)]
      refine aY ((),(mB (92::r) c,())) (λK=>?_) ?_
      ·unfold mB
       match r with
       |[]=>rfl
       |[d]=>simp
       |[d,x]=>simp
       |d::x::y::r4=>
        have l3:decide ((3:Int)<(((92::d::x::y::r4:List Int).length:Nat):Int))=true:=by
         rw[decide_eq_true_eq];simp;omega
        rw[l3,cond_true,if_pos ⟨by omega,by omega,by simp;omega⟩]
        have e:decide (cC (92::d::x::y::r4) 0 4=[92,120]++[rY (c / 16)]++[rY (c % 16)])=(decide (d=120)&&(decide (x=rY (c / 16))&&decide (y=rY (c % 16)))):=by
         rw[<-Bool.decide_and,<-Bool.decide_and,decide_eq_decide]
         unfold cC
         simp
        rw[e]
        simp
      ·dsimp only
       cases hB:mB (92::r) c
       ·rw[cond_false]
        refine hk (m-1) _ _ (by omega) ⟨c+1,rfl,by omega,λc' hc'=>?_,rfl⟩
        by_cases e:c'=c
        ·subst e;exact⟨hA,hB⟩
        ·exact fu c' (by omega)
       ·rw[cond_true,UB hc hB]
        rfl
     ·rw[cond_true,UA hA]
      rfl
   ·have hc2:c=256:=by omega
    subst hc2
    rw[decide_eq_false (by omega),cond_false,Og (λc hc=>(fu c hc).1) (λc hc=>(fu c hc).2)]
    unfold Kk
    match r with
    |[]=>rfl
    |d::r2=>
     have hd:=hb d (by simp)
     have l1:decide ((1:Int)<(((92::d::r2:List Int).length:Nat):Int))=true:=by
      rw[decide_eq_true_eq];simp;omega
     have n1:(0:Int)<=1:=by omega
     have g1:(92::d::r2:List Int)[((1:Int)).toNat]?=some d:=rfl
     have g2:(92::d::r2:List Int)[1]?=some d:=rfl
     rw[g2]
     dsimp only
     refine aY ((),(decide (32<=d/\d<=126/\mG d=false),())) (λK=>?_) ?_
     ·rw[l1,cond_true,if_pos n1,g1]
      dsimp only
      by_cases h1:32<=d
      ·rw[decide_eq_true h1,cond_true]
       by_cases h2:d<=126
       ·rw[decide_eq_true h2,cond_true,ae (Of hd)]
        cases mG d <;> simp[h1,h2]
       ·rw[decide_eq_false h2,cond_false]
        simp[h2]
      ·rw[decide_eq_false h1,cond_false]
       simp[h1]
     ·dsimp only
      by_cases h:32<=d/\d<=126/\mG d=false
      ·rw[decide_eq_true h,cond_true,if_pos h,if_pos n1,g1]
       rfl
      ·rw[decide_eq_false h,cond_false,if_neg h]
       rfl
  ·have hc2:decide (c=92)=false:=decide_eq_false hc
   rw[hc2]
   simp only[aI,cond_true,rdS,ne_eq,hc,not_false_eq_true,if_true]
   rfl
end
noncomputable section
theorem Ex(f:Nat->Bool){i:Nat}(h:i<256):G3 N0 (ofB f,((i:Int),()))=some ((f i,()),()):=by
 delta G3 Bd Wi
 dsimp only
 have hw:i / 64<4:=by omega
 have hl:i % 64<64:=eI _ (by omega)
 have w1:IntKind.wrap .i64 (Int.tdiv (i:Int) 64)=((i / 64:Nat):Int):=by rw[J4];exact bH (by omega)
 have g:=jw (l:=f) hw
 have n1:¬((64:Int)=0):=by omega
 have n2:¬((2:Int)=0):=by omega
 have n3:(0:Int)<=((i / 64:Nat):Int):=by omega
 rw[if_neg n1,w1,if_pos n3,aa,g]
 simp only[if_neg n1,if_neg n2,J5]
 refine aZ (λm x q=>∃ j:Nat,x=((),(((br f (i / 64) / 2 ^ j:Nat):Int),((j:Int),())))/\m+j=i % 64/\q=some ((f i,()),())) ?_ N0 (i % 64) _ _ (by unfold N0;omega) ⟨0,by simp,by omega,rfl⟩
 rintro m x q ⟨j,rfl,hm,rfl⟩ k hk
 dsimp only
 have hlt:=dQ f (i / 64)
 by_cases hj:j<i % 64
 ·have w2:IntKind.wrap .u64 (Int.tdiv ((br f (i / 64) / 2 ^ j:Nat):Int) 2)=((br f (i / 64) / 2 ^ (j+1):Nat):Int):=by
   have e:Int.tdiv ((br f (i / 64) / 2 ^ j:Nat):Int) 2=((br f (i / 64) / 2 ^ j / 2:Nat):Int):=by
    rw[show(2:Int)=((2:Nat):Int) by rfl];exact kT _ 2 |>.symm
   rw[e,nQ,<-iz]
   exact wrap_u64 (nU (rf _ _) hlt)
  have w3:IntKind.wrap .i64 ((j:Int)+1)=((j+1:Nat):Int):=by rw[<-bH (n:=j+1) (by omega)];rfl
  rw[decide_eq_true (show(j:Int)<((i % 64:Nat):Int) by omega),cond_true,w2,w3]
  exact hk (m-1) _ _ (by omega) ⟨j+1,rfl,by omega,rfl⟩
 ·have hj2:j=i % 64:=by omega
  rw[decide_eq_false (show ¬(j:Int)<((i % 64:Nat):Int) by omega),cond_false]
  have hb:=dw f (i / 64) (i % 64)
  rw[qL,<-hj2]at hb
  have e2:64*(i / 64)+j=i:=by omega
  rw[e2,decide_eq_true (show j<64 by omega),bG]at hb
  have e:Int.tmod ((br f (i / 64) / 2 ^ j:Nat):Int) 2=((br f (i / 64) / 2 ^ j % 2:Nat):Int):=by
   rw[show(2:Int)=((2:Nat):Int) by rfl];exact oc _ 2 |>.symm
  have e3:decide (Int.tmod ((br f (i / 64) / 2 ^ j:Nat):Int) 2=1)=f i:=by
   rw[<-hb,e,decide_eq_decide];omega
  rw[e3]
def bits(f:Nat->Bool):List Bool:=(List.range 256).map f
theorem ql(f:Nat->Bool):(bits f).length=256:=by simp[bits]
theorem nE(f:Nat->Bool){i:Nat}(h:i<256):(bits f)[i]?=some (f i):=by
 unfold bits
 rw[List.getElem?_map,List.getElem?_range h]
 rfl
theorem uV{f g:Nat->Bool}(h:∀ i,i<256->f i=g i):bits f=bits g:=by
 unfold bits
 exact kO λi hi=>h i (cz.1 hi)
theorem xc:List.replicate ((256:Int)).toNat false=bits (λ_=>false):=by decide +kernel
theorem Bh(f:Nat->Bool){i:Nat}(h:i<256):(bits f).set i true=bits (λx=>f x||decide (x=i)):=by
 apply List.ext_getElem?
 intro j
 rw[List.getElem?_set]
 by_cases hj:j<256
 ·have g1:=nE (λx=>f x||decide (x=i)) hj
  have g2:=nE f hj
  rw[g1,g2]
  by_cases e:i=j
  ·subst e
   rw[if_pos rfl,if_pos (by rw[ql];exact h)]
   simp
  ·rw[if_neg e]
   have:¬j=i:=λh=>e h.symm
   simp[this]
 ·have e1:(bits λx=>f x||decide (x=i))[j]?=none:=List.getElem?_eq_none (by rw[ql];omega)
  have e2:(bits f)[j]?=none:=List.getElem?_eq_none (by rw[ql];omega)
  rw[e1,e2,if_neg (by omega)]
theorem Oh{f:Nat->Bool}{c:Nat}(hz:∀ x,c<=x->f x=false):br f (c / 64)+2 ^ (c % 64)=br (λx=>f x||decide (x=c)) (c / 64):=by
 have hi:c % 64<64:=eI _ (by omega)
 have hlt:br f (c / 64)<2 ^ (c % 64):=by
  apply Nat.lt_pow_two_of_testBit
  intro j hj
  rw[dw,hz _ (by omega),Bool.and_false]
 have e:=J2 (l:=f) (w:=c / 64) hi
 have e2:64*(c / 64)+c % 64=c:=by omega
 rw[e2]at e
 rw[<-e,Nat.or_comm,kX]
 have:=wz hlt 1
 rw[gI]at this
 exact this
theorem Oi(l:List Bool)(hl:l.length<=maxLen):CY N0 (l,())=some ((ofB (λx=>(l[x]?).getD false),()),()):=by
 delta CY Ld Bd Wi
 dsimp only
 have z:([0,0,0,0]:List Int)=ofB (λx=>decide (x<0)&&(l[x]?).getD false):=by
  rw[show([0,0,0,0]:List Int)=zS by rfl]
  refine(gT.2 ?_).symm
  unfold dY
  rw[cD]
  intro x _
  simp
 refine aZ (λm x q=>∃ c:Nat,x=(([0,0,0,0],(ofB (λx=>decide (x<c)&&(l[x]?).getD false),())),((c:Int),()))/\m+c=256/\q=some ((ofB (λx=>(l[x]?).getD false),()),())) ?_ N0 256 _ _ (by unfold N0;omega) ⟨0,by rw[<-z];rfl,rfl,rfl⟩
 rintro m x q ⟨c,rfl,hm,rfl⟩ k hk
 dsimp only
 refine aY (([0,0,0,0],(ofB (λx=>decide (x<c)&&(l[x]?).getD false),())),(decide (c<256)&&decide (c<l.length),())) (λK=>?_) ?_
 ·by_cases h:c<256
  ·rw[decide_eq_true (show(c:Int)<256 by omega),cond_true,decide_eq_true h,bG]
   have:decide ((c:Int)<((l.length:Nat):Int))=decide (c<l.length):=by rw[decide_eq_decide];omega
   rw[this]
  ·rw[decide_eq_false (show ¬(c:Int)<256 by omega),cond_false,decide_eq_false h,dE]
 dsimp only
 by_cases h:c<256/\c<l.length
 ·obtain⟨hc,hcl⟩:=h
  have n0:(0:Int)<=(c:Int):=by omega
  have UC:l[c]?=some l[c]:=List.getElem?_eq_getElem hcl
  rw[decide_eq_true hc,decide_eq_true hcl,bG,cond_true,if_pos n0,aa,UC]
  dsimp only
  have w3:IntKind.wrap .i64 ((c:Int)+1)=((c+1:Nat):Int):=by rw[<-bH (n:=c+1) (by omega)];rfl
  refine aY (([0,0,0,0],(ofB (λx=>decide (x<c+1)&&(l[x]?).getD false),())),()) (λK=>?_) ?_
  ·have PQ:∀ x:Nat,(decide (x<c+1)&&(l[x]?).getD false)=((decide (x<c)&&(l[x]?).getD false)||(decide (x=c)&&l[c])):=by
    intro x
    by_cases hx:x=c
    ·subst hx
     have h1:¬x<x:=by omega
     have h2:x<x+1:=by omega
     simp[h1,h2,UC]
    ·have:(x<c+1)↔(x<c):=by omega
     simp[this,hx]
   cases hb:l[c]
   ·rw[cond_false]
    have:ofB (λx=>decide (x<c+1)&&(l[x]?).getD false)=ofB (λx=>decide (x<c)&&(l[x]?).getD false):=iT λx hx=>by rw[PQ x,hb];simp
    rw[this]
   ·rw[cond_true]
    have hw:c / 64<4:=by omega
    have hl6:c % 64<64:=eI _ (by omega)
    have w1:IntKind.wrap .i64 (Int.tdiv (c:Int) 64)=((c / 64:Nat):Int):=by rw[J4];exact bH (by omega)
    have w2:IntKind.wrap .u64 (Int.tmod (c:Int) 64)=((c % 64:Nat):Int):=by rw[J5];exact wrap_u64 (by omega)
    have n1:¬((64:Int)=0):=by omega
    have n2:¬(((c % 64:Nat):Int)<0):=by omega
    have n3:(0:Int)<=((c / 64:Nat):Int):=by omega
    have g:(ofB (λx=>decide (x<c)&&(l[x]?).getD false))[((c / 64:Nat):Int).toNat]?=some ((br (λx=>decide (x<c)&&(l[x]?).getD false) (c / 64):Nat):Int):=by rw[aa];exact jw hw
    rw[if_neg n1,if_neg n1,w1,if_pos n3,g]
    simp only[if_neg n1,w2,if_neg n2,if_pos n3,g,yz hl6]
    have hab:=Oh (f:=λx=>decide (x<c)&&(l[x]?).getD false) (c:=c) (λx hx=>by
     have:¬x<c:=by omega
     simp[this])
    have hlt:=dQ (λx=>(decide (x<c)&&(l[x]?).getD false)||decide (x=c)) (c / 64)
    have w4:IntKind.wrap .u64 (((br (λx=>decide (x<c)&&(l[x]?).getD false) (c / 64):Nat):Int)+((2 ^ (c % 64):Nat):Int))=((br (λx=>(decide (x<c)&&(l[x]?).getD false)||decide (x=c)) (c / 64):Nat):Int):=by
     rw[<-hab,<-Int.natCast_add]
     exact wrap_u64 (by rw[hab];exact hlt)
    rw[w4,aa]
    have dv:(ofB (λx=>decide (x<c)&&(l[x]?).getD false)).set (c / 64) ((br (λx=>(decide (x<c)&&(l[x]?).getD false)||decide (x=c)) (c / 64):Nat):Int)=ofB (λx=>(decide (x<c)&&(l[x]?).getD false)||decide (x=c)):=
     yy hw rfl (λv j hv hne hj=>by
      have:¬(64*v+j=c):=by omega
      simp[this])
    rw[dv]
    have:ofB (λx=>decide (x<c+1)&&(l[x]?).getD false)=ofB (λx=>(decide (x<c)&&(l[x]?).getD false)||decide (x=c)):=iT λx hx=>by rw[PQ x,hb];simp
    rw[this]
  ·dsimp only
   rw[w3]
   exact hk (m-1) _ _ (by omega) ⟨c+1,rfl,by omega,rfl⟩
 ·have hf:(decide (c<256)&&decide (c<l.length))=false:=by
   rw[ik,decide_eq_false_iff_not,decide_eq_false_iff_not]
   omega
  rw[hf,cond_false]
  have:ofB (λx=>decide (x<c)&&(l[x]?).getD false)=ofB (λx=>(l[x]?).getD false):=iT λx hx=>by
   by_cases hxc:x<c
   ·simp[hxc]
   ·have:l[x]?=none:=List.getElem?_eq_none (by omega)
    simp[this]
  rw[this]
theorem rZ(f:Nat->Bool):CY N0 (bits f,())=some ((ofB f,()),()):=by
 rw[Oi _ (by rw[ql];simp[maxLen])]
 have:ofB (λx=>((bits f)[x]?).getD false)=ofB f:=iT λx hx=>by rw[nE _ hx];rfl
 rw[this]
theorem Bi(f g:Nat->Bool):JD N0 (3,(ofB f,(ofB g,())))=some ((ofB (λx=>!f x),()),()):=by
 delta JD Ap Bd Wi
 dsimp only
 refine aZ (λm x q=>∃ c:Nat,x=(([0,0,0,0],()),((List.range c).map (λx=>!f x),((c:Int),())))/\m+c=256/\q=some ((ofB (λx=>!f x),()),())) ?_ N0 256 _ _ (by unfold N0;omega) ⟨0,rfl,rfl,rfl⟩
 rintro m x q ⟨c,rfl,hm,rfl⟩ k hk
 dsimp only
 rcases ak c 256 with hc|hc
 ·have w3:IntKind.wrap .i64 ((c:Int)+1)=((c+1:Nat):Int):=by rw[<-bH (n:=c+1) (by omega)];rfl
  rw[decide_eq_true (show(c:Int)<256 by omega),cond_true,ae (Ex f hc)]
  dsimp only
  rw[ae (Ex g hc)]
  dsimp only
  have f1:(((List.range c).map (λx=>!f x)).length+([!f c]:List Bool).length)*1<=140737488355328:=by simp;omega
  have f2:((List.range c).map (λx=>!f x)).length+([!f c]:List Bool).length<=9223372036854775807:=by simp;omega
  simp only[aH,show decide ((3:Int)=0)=false from rfl,show decide ((3:Int)=1)=false from rfl,show decide ((3:Int)=2)=false from rfl,cond_false]
  rw[if_pos f1,if_pos f2,w3]
  refine hk (m-1) _ _ (by omega) ⟨c+1,?_,by omega,rfl⟩
  rw[gG,dO]
  rfl
 ·have hc2:c=256:=by omega
  subst hc2
  rw[decide_eq_false (by omega),cond_false]
  exact ae (rZ _) _
end
noncomputable section
theorem qm{A R:Type}{P:Option R->Prop}{J:A->Option R}{body:(A->Option R)->Option R}(h:∀ K,(∀ x,K x=J x)->P (body K)):P (av J body):=h J λ_=>rfl
def OkQ(o:Option (Rx×Nat))(z:Option ((List Pc×(Int×Unit))×Unit)):Prop:=
 match o with
 |some (t,j)=>z=some ((t.post,((j:Int),())),())
 |none=>∃ k:Int,z=some (([],(k,())),())
theorem uW(s:List Int){i:Nat}(hi:i<=s.length):((0:Int)<=(i:Int)/\(i:Int)<=((s.length:Nat):Int)/\((s.length:Nat):Int)<=((s.length:Nat):Int))/\cC s (i:Int) ((s.length:Nat):Int)=s.drop i:=by
 refine⟨⟨by omega,by omega,by omega⟩,?_⟩
 unfold cC
 simp only[aa]
 exact bP (by simp)
theorem uX{s:List Int}(hs:s.length<=maxLen)(i:Nat):(s.drop i).length<=maxLen:=by rw[bB];omega
theorem Oj{s:List Int}(hb:Bytes s)(hs0:s.length<=1600){i:Nat}(hi:i<=s.length):OkQ (brS s i) (NC N0 (s,((i:Int),()))):=by
 have hs:s.length<=maxLen:=by unfold maxLen;omega
 rw[yB]
 delta NC Ld Bd Wi
 dsimp only
 rw[if_pos (show(0:Int)<=256/\(256:Int)<=256 by omega),if_pos (show((256:Int)).toNat*1<=140737488355328 by decide),xc]
 refine dW (P:=OkQ _) ((bits (λ_=>false),()),(e8 s i 94,())) (λK=>?_) ?_
 ·unfold e8
  rcases ak i s.length with h|h
  ·have n0:(0:Int)<=(i:Int):=by omega
   rw[decide_eq_true (show(i:Int)<((s.length:Nat):Int) by omega),cond_true,if_pos n0,aa,gU h,decide_eq_true h,bG]
  ·rw[decide_eq_false (show ¬(i:Int)<((s.length:Nat):Int) by omega),cond_false,decide_eq_false (show ¬i<s.length by omega),dE]
 dsimp only
 generalize hnt:e8 s i 94=nt
 have hlt:nt=true->i<s.length:=λh=>by
  rw[<-hnt]at h
  unfold e8 at h
  simp at h
  exact h.1
 have hi1:(if nt=true then i+1 else i)<=s.length:=by
  split
  ·rename_i h;exact hlt h
  ·exact hi
 refine dW (P:=OkQ _) ((bits (λ_=>false),()),(((if nt=true then i+1 else i:Nat):Int),())) (λK=>?_) ?_
 ·cases nt
  ·rfl
  ·rw[cond_true,if_pos rfl,bc (hlt rfl) hs]
 dsimp only
 generalize (if nt=true then i+1 else i)=i1 at hi1 |-
 generalize cq:brL s s.length.succ i1 (λ_=>false)=res
 refine dZ (λm x=>∃ (i:Nat) (f:Nat->Bool) (cd:Nat),x=((bits f,()),((i:Int),()))/\i<=s.length/\s.length-i<cd/\m=s.length-i/\brL s cd i f=res) (OkQ (nD s nt res)) ?_ N0 (s.length-i1) _ (by have:=ic hs;omega) ⟨i1,_,s.length.succ,rfl,hi1,by omega,rfl,cq⟩
 rintro m x ⟨i,f,cd,rfl,hi,hf,hm,hr⟩ k hk
 obtain⟨cd,rfl⟩:∃ q,cd=q+1:=⟨cd-1,by omega⟩
 simp only[brL]at hr
 dsimp only
 have n0:(0:Int)<=(i:Int):=by omega
 refine dW (P:=OkQ _) ((bits f,()),(decide (¬(s.length<=i\/ch s i=93)),())) (λK=>?_) ?_
 ·rcases ak i s.length with h|h
  ·have e:decide (¬(s.length<=i\/ch s i=93))=!decide (ch s i=93):=by
    have:¬s.length<=i:=by omega
    simp[this]
   rw[decide_eq_true (show(i:Int)<((s.length:Nat):Int) by omega),cond_true,if_pos n0,aa,gU h,e]
  ·have e:decide (¬(s.length<=i\/ch s i=93))=false:=by simp[h]
   rw[decide_eq_false (show ¬(i:Int)<((s.length:Nat):Int) by omega),cond_false,e]
 dsimp only
 by_cases mb:s.length<=i\/ch s i=93
 ·-- the end
  rw[if_pos mb]at hr
  rw[decide_eq_false (λh=>h mb),cond_false,ae (rZ f)]
  dsimp only
  subst hr
  unfold nD
  dsimp only
  generalize hg:(if nt=true then λx=>!f x else f)=g
  refine dW (P:=OkQ _) ((ofB g,()),()) (λK=>?_) ?_
  ·cases nt
   ·rw[cond_false]
    have:f=g:=hg
    rw[this]
   ·rw[cond_true,ae (Bi f f)]
    have:(λx=>!f x)=g:=hg
    rw[this]
  dsimp only
  refine dW (P:=OkQ _) ((ofB g,()),(decide (s.length<=i\/dY g=true),())) (λK=>?_) ?_
  ·rcases ak i s.length with h|h
   ·have e:decide (s.length<=i\/dY g=true)=decide (ofB g=[0,0,0,0]):=by
     have:¬s.length<=i:=by omega
     rw[decide_eq_decide,show([0,0,0,0]:List Int)=zS by rfl,gT]
     simp[this]
    rw[decide_eq_false (show ¬((s.length:Nat):Int)<=(i:Int) by omega),cond_false,e]
   ·rw[decide_eq_true (show((s.length:Nat):Int)<=(i:Int) by omega),cond_true,decide_eq_true (.inl h)]
  dsimp only
  by_cases hem:s.length<=i\/dY g=true
  ·rw[if_pos hem,decide_eq_true hem,cond_true]
   exact⟨_,rfl⟩
  ·rw[if_neg hem,decide_eq_false hem,cond_false,bc (show i<s.length by omega) hs]
   rfl
 ·rw[if_neg mb]at hr
  have hlt:i<s.length:=by omega
  obtain⟨hc,rU⟩:=uW s hi
  rw[decide_eq_true mb,cond_true,if_pos hc,rU,ae (yE (hb.drop i) (uX hs i))]
  dsimp only
  cases hrd:rdS (s.drop i)with
  |none=>
   have:res=none:=by
    rw[hrd]at hr
    split at hr
    ·exact hr.symm
    ·exact hr.symm
   subst this
   exact⟨_,rfl⟩
  |some p=>
   obtain⟨a,n⟩:=p
   rw[hrd]at hr
   obtain⟨ha,hn1,hn2⟩:=kK (hb.drop i) hrd
   rw[bB]at hn2
   dsimp only[rdR]
   dsimp only at hr
   refine dW (P:=OkQ _) ((bits f,()),(decide (ch s i∈([94,45,47,34]:List Int)),())) (λK=>?_) ?_
   ·rw[aA,cond_false,if_pos n0,aa,gU hlt]
    dsimp only
    rw[ae (qk _ (by simp[maxLen]) _)]
   dsimp only
   by_cases hin:ch s i∈([94,45,47,34]:List Int)
   ·rw[if_pos hin]at hr
    rw[decide_eq_true hin,cond_true]
    subst hr
    exact⟨_,rfl⟩
   rw[if_neg hin]at hr
   rw[decide_eq_false hin,cond_false]
   have w1:IntKind.wrap .i64 ((i:Int)+(n:Int))=((i+n:Nat):Int):=by
    rw[<-bH (n:=i+n) (by omega)];rfl
   have w2:IntKind.wrap .i64 (((i+n:Nat):Int)+1)=((i+n+1:Nat):Int):=by
    rw[<-bH (n:=i+n+1) (by omega)];rfl
   simp only[w1]
   refine dW (P:=OkQ _) ((bits f,()),(e8 s (i+n) 45,())) (λK=>?_) ?_
   ·unfold e8
    rcases ak (i+n) s.length with h|h
    ·have n0:(0:Int)<=((i+n:Nat):Int):=by omega
     rw[decide_eq_true (show((i+n:Nat):Int)<((s.length:Nat):Int) by omega),cond_true,if_pos n0,aa,gU h,decide_eq_true h,bG]
    ·rw[decide_eq_false (show ¬((i+n:Nat):Int)<((s.length:Nat):Int) by omega),cond_false,decide_eq_false (show ¬i+n<s.length by omega),dE]
   dsimp only
   simp only[w2]
   refine qm (P:=OkQ _) λK hK=>?_
   -- Mk goes on with a range
   have go:∀ (j:Nat) (b:Int),j<=s.length->i<j->(0<=b/\b<=255)->brL s cd j (λx=>f x||uS a b x)=res->
    OkQ (nD s nt res) (K ((bits f,()),((j:Int),(b,())))):=by
    intro j b hj hij hbb cq
    rw[hK]
    dsimp only
    have wa:IntKind.wrap .i64 a=a:=bz (by omega) (by omega)
    have wb:IntKind.wrap .i64 b=b:=bz (by omega) (by omega)
    rw[wa,wb]
    have e0:bits f=bits (λx=>f x||(decide (a<=(x:Int))&&decide ((x:Int)<((a.toNat:Nat):Int)))):=uV λx hx=>by
     rw[dl ha.1]
     by_cases h:a<=(x:Int)
     ·have:¬(x:Int)<a:=by omega
      simp[this]
     ·simp[h]
    refine dZ (λm x=>∃ c:Nat,x=((bits (λx=>f x||(decide (a<=(x:Int))&&decide ((x:Int)<(c:Int)))),()),((c:Int),()))/\m+c=256/\a<=(c:Int)/\(a<=b->(c:Int)<=b+1)/\(b<a->(c:Int)=a)) (OkQ (nD s nt res)) ?_ N0 (256-a.toNat) _ (by unfold N0;omega) ⟨a.toNat,by rw[<-e0,dl ha.1],by omega,by omega,by omega,by omega⟩
    rintro m x ⟨c,rfl,hm,h1,h2,h3⟩ k2 hk2
    dsimp only
    by_cases hcb:(c:Int)<=b
    ·have hc:c<256:=by omega
     have n1:(0:Int)<=(c:Int):=by omega
     have w3:IntKind.wrap .i64 ((c:Int)+1)=((c+1:Nat):Int):=by rw[<-bH (n:=c+1) (by omega)];rfl
     rw[decide_eq_true hcb,cond_true,if_pos n1,aa,nE _ hc]
     dsimp only
     rw[if_pos n1]
     rw[Bh _ hc,w3]
     refine hk2 (m-1) _ (by omega) ⟨c+1,?_,by omega,by omega,by omega,by omega⟩
     have:bits (λx=>(f x||(decide (a<=(x:Int))&&decide ((x:Int)<(c:Int))))||decide (x=c))=bits (λx=>f x||(decide (a<=(x:Int))&&decide ((x:Int)<((c+1:Nat):Int)))):=uV λx hx=>by
      have e3:decide ((x:Int)<((c+1:Nat):Int))=(decide ((x:Int)<(c:Int))||decide (x=c)):=by rw[<-Bool.decide_or,decide_eq_decide];omega
      rw[e3]
      by_cases hax:a<=(x:Int)
      ·simp[hax,Bool.or_assoc]
      ·have:¬x=c:=by omega
       simp[hax,this]
     rw[this]
    ·rw[decide_eq_false hcb,cond_false]
     refine hk (s.length-j) _ (by omega) ⟨j,_,cd,?_,hj,by omega,rfl,cq⟩
     have:bits (λx=>f x||(decide (a<=(x:Int))&&decide ((x:Int)<(c:Int))))=bits (λx=>f x||uS a b x):=uV λx hx=>by
      unfold uS
      rcases Int.lt_or_le b a with hl|hl
      ·have e:=h3 hl
       by_cases hax:a<=(x:Int)
       ·have q1:¬((x:Int)<=b):=by omega
        have q2:¬((x:Int)<(c:Int)):=by omega
        simp[q1,q2]
       ·simp[hax]
      ·have e:=h2 hl
       have:((x:Int)<(c:Int))↔((x:Int)<=b):=by omega
       simp[this]
     rw[this]
   clear hK
   by_cases hd:i+n<s.length/\ch s (i+n)=45
   ·rw[if_pos hd]at hr
    have he:e8 s (i+n) 45=true:=by unfold e8;simp[hd.1,hd.2]
    rw[he,cond_true]
    refine dW (P:=OkQ _) ((bits f,()),(decide (s.length<=i+n+1\/ch s (i+n+1)∈([93,94,45,47,34]:List Int)),())) (λK=>?_) ?_
    ·rcases ak (i+n+1) s.length with h|h
     ·have n0:(0:Int)<=((i+n+1:Nat):Int):=by omega
      rw[decide_eq_false (show ¬((s.length:Nat):Int)<=((i+n+1:Nat):Int) by omega),cond_false,if_pos n0,aa,gU h]
      dsimp only
      rw[ae (qk _ (by simp[maxLen]) _)]
      have e:decide (s.length<=i+n+1\/ch s (i+n+1)∈([93,94,45,47,34]:List Int))=decide (ch s (i+n+1)∈([93,94,45,47,34]:List Int)):=by
       have:¬s.length<=i+n+1:=by omega
       rw[decide_eq_decide];exact⟨λh=>h.resolve_left this,.inr⟩
      rw[e]
     ·rw[decide_eq_true (show((s.length:Nat):Int)<=((i+n+1:Nat):Int) by omega),cond_true,decide_eq_true (.inl h)]
    dsimp only
    by_cases h4:s.length<=i+n+1\/ch s (i+n+1)∈([93,94,45,47,34]:List Int)
    ·rw[if_pos h4]at hr
     rw[decide_eq_true h4,cond_true]
     subst hr
     exact⟨_,rfl⟩
    rw[if_neg h4]at hr
    obtain⟨hc2,Bg⟩:=uW s (show i+n+1<=s.length by omega)
    rw[decide_eq_false h4,cond_false,if_pos hc2,Bg,ae (yE (hb.drop _) (uX hs _))]
    dsimp only
    cases Bc:rdS (s.drop (i+n+1))with
    |none=>
     rw[Bc]at hr
     dsimp only at hr
     subst hr
     exact⟨_,rfl⟩
    |some p2=>
     obtain⟨b,n2⟩:=p2
     rw[Bc]at hr
     dsimp only at hr
     dsimp only[rdR]
     obtain⟨hbb,hn3,hn4⟩:=kK (hb.drop _) Bc
     rw[bB]at hn4
     have w3:IntKind.wrap .i64 (((i+n+1:Nat):Int)+(n2:Int))=((i+n+1+n2:Nat):Int):=by
      rw[<-bH (n:=i+n+1+n2) (by omega)];rfl
     simp only[w3]
     refine dW (P:=OkQ _) ((bits f,()),(decide (b<a),())) (λK=>?_) ?_
     ·rw[aA,cond_false]
      rfl
     dsimp only
     by_cases hba:b<a
     ·rw[if_pos hba]at hr
      rw[decide_eq_true hba,cond_true]
      subst hr
      exact⟨_,rfl⟩
     ·rw[if_neg hba]at hr
      rw[decide_eq_false hba,cond_false]
      exact go (i+n+1+n2) b (by omega) (by omega) hbb hr
   ·rw[if_neg hd]at hr
    have he:e8 s (i+n) 45=false:=by
     unfold e8
     rw[ik,decide_eq_false_iff_not,decide_eq_false_iff_not]
     by_cases h:i+n<s.length
     ·exact .inr λh2=>hd ⟨h,h2⟩
     ·exact .inl h
    rw[he,cond_false]
    exact go (i+n) a (by omega) (by omega) ha hr
end
end Go.Proofs.YtphipehmbefejaaGreat.Rf
