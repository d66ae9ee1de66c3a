/- A part of a proof that the given statement of this claim is true of the program. No conditions. Printed by pack2.py. -/
import Derived.Test.YtphipehmbefejaaGreatU3
set_option linter.unusedVariables false
set_option linter.unusedSimpArgs false
namespace Go.Proofs.YtphipehmbefejaaGreat.Rf
open Go
noncomputable section
def AS(v1:Nat)(v2:T11):T17:=aC (λ(v3:T4)=>λv4=>Bd (v3.2.1<(v2.1.length:Int)) (Ld v2.1 v3.2.1 λv5=>Bd (v5=v2.2.1) (some ((true,()),())) (v4 ((),Wi (v3.2.1+1),()))) (some ((false,()),()))) v1 ((),0,())
def F245(n:Nat):Fb 245:=fb n [] [] [] [] Tryz.func245 Tryz.results245 Tryz.ntmps245 (sn_ (.seq (sn_ (bk_ ⟨[],[.val 5 y2],[0,1]⟩ .nop)) .nop)) [(y9,.ro),(y5,.ro)] A20 [] [] (AS n)
def Hn(v1:Nat)(v2:T11):T17:=if(64:Int)=0 then none else if 0<=(Wi (Int.tdiv v2.2.1 64))then(match v2.1[(Wi (Int.tdiv v2.2.1 64)).toNat]? with|some v3=>aC (λ(v4:T10)=>λv5=>if(64:Int)=0 then none else Bd (v4.2.2.1<(Int.tmod v2.2.1 64)) (if(2:Int)=0 then none else v5 ((),IntKind.wrap .u64 (Int.tdiv v4.2.1 2),Wi (v4.2.2.1+1),())) (if(2:Int)=0 then none else some ((decide ((Int.tmod v4.2.1 2)=1),()),()))) v1 ((),v3,0,())|none=>none)else none
def F238(n:Nat):Fb 238:=fb n [] [] [] [] Tryz.func238 Tryz.results238 Tryz.ntmps238 (.seq (rn_ [2]) (sn_ (.seq (sn_ (bk_ ⟨[],[.val 5 y12,.val 6 y2],[1]⟩ .nop)) .nop))) [(ka,.ro),(y2,.ro)] A20 [] [] (Hn n)
def Da(v1:Nat)(v2:T8):T35:=aC (λ(v3:T61)=>λv4=>aq (λ(v5:(U32×Bool×Unit))=>bif v5.2.1 then Ld v2.1 v3.2.1 λv6=>aq (λ(v7:T49)=>v4 ((v7.1.1,v7.1.2.1,()),Wi (v3.2.1+1),())) (λv8=>bif v6 then if(64:Int)=0 then none else if(64:Int)=0 then none else if 0<=(Wi (Int.tdiv v3.2.1 64))then(match v5.1.2.1[(Wi (Int.tdiv v3.2.1 64)).toNat]? with|some v9=>if(64:Int)=0 then none else if(IntKind.wrap .u64 (Int.tmod v3.2.1 64))<0 then none else if 0<=(Wi (Int.tdiv v3.2.1 64))then(match v5.1.2.1[(Wi (Int.tdiv v3.2.1 64)).toNat]? with|some v10=>if 0<=(Wi (Int.tdiv v3.2.1 64))then(match v5.1.2.1[(Wi (Int.tdiv v3.2.1 64)).toNat]? with|some v11=>v8 ((v5.1.1,List.set v5.1.2.1 (Wi (Int.tdiv v3.2.1 64)).toNat (IntKind.wrap .u64 (v9+(IntKind.wrap .u64 ((1:Int)*2 ^ (Nat.min (Int.toNat (IntKind.wrap .u64 (Int.tmod v3.2.1 64))) (IntKind.bits .u64)))))),()),())|none=>none)else none|none=>none)else none|none=>none)else none else v8 ((v5.1.1,v5.1.2.1,()),()))else some ((v5.1.2.1,()),())) (λv12=>Bd (v3.2.1<256) (v12 ((v3.1.1,v3.1.2.1,()),decide (v3.2.1<(v2.1.length:Int)),())) (v12 ((v3.1.1,v3.1.2.1,()),false,())))) v1 ((([0,0,0,0]:List Int),([0,0,0,0]:List Int),()),0,())
def F260(n:Nat):Fb 260:=fb n [] [] [] [] Tryz.func260 Tryz.results260 Tryz.ntmps260 (sn_ (sn_ (.seq (sn_ (bk_ ⟨NG,[.val 4 y2],[0,2,3]⟩ (.seq (.seq (rs_ ⟨NG,[.val 12 y4],[0,2,3,4]⟩ []) .nop) (.seq (.block none (sn_ (cs_ ⟨NG,[],[0,2,3,4]⟩ .nop .nop))) .nop)))) (.seq (.rgf none [3] [2]) .nop)))) A16 A15 [] [] (Da n)
def J5(v1:Nat)(v2:(Int×U0×U0×Unit)):T35:=aC (λ(v3:(U31×U12×Int×Unit))=>λv4=>Bd (v3.2.2.1<256) (ah (Hn v1 (v2.2.1,v3.2.2.1,())) (λ(v5:T9)=>ah (Hn v1 (v2.2.2.1,v3.2.2.1,())) (λ(v6:T9)=>aq (λ(v7:T53)=>v4 ((v7.1.1,()),v7.2.1,Wi (v3.2.2.1+1),())) (λv8=>Bd (v2.1=0) (aq (λ(v9:T53)=>v8 ((v9.1.1,()),v9.2.1,())) (λv10=>bif v5.1.1 then Ap 1 (List.length v3.2.1+List.length ([true]:List Bool)) (v10 ((v3.1.1,()),v3.2.1++([true]:List Bool),()))else Ap 1 (List.length v3.2.1+List.length ([v6.1.1]:List Bool)) (v10 ((v3.1.1,()),v3.2.1++([v6.1.1]:List Bool),())))) (aq (λ(v11:T53)=>v8 ((v11.1.1,()),v11.2.1,())) (λv12=>Bd (v2.1=1) (aq (λ(v13:T53)=>v12 ((v13.1.1,()),v13.2.1,())) (λv14=>bif v5.1.1 then Ap 1 (List.length v3.2.1+List.length ([v6.1.1]:List Bool)) (v14 ((v3.1.1,()),v3.2.1++([v6.1.1]:List Bool),()))else Ap 1 (List.length v3.2.1+List.length ([false]:List Bool)) (v14 ((v3.1.1,()),v3.2.1++([false]:List Bool),())))) (aq (λ(v15:T53)=>v12 ((v15.1.1,()),v15.2.1,())) (λv16=>Bd (v2.1=2) (aq (λ(v17:T53)=>v16 ((v17.1.1,()),v17.2.1,())) (λv18=>bif v5.1.1 then Ap 1 (List.length v3.2.1+List.length ([(!v6.1.1)]:List Bool)) (v18 ((v3.1.1,()),v3.2.1++([(!v6.1.1)]:List Bool),()))else Ap 1 (List.length v3.2.1+List.length ([false]:List Bool)) (v18 ((v3.1.1,()),v3.2.1++([false]:List Bool),())))) (Ap 1 (List.length v3.2.1+List.length ([(!v5.1.1)]:List Bool)) (v16 ((v3.1.1,()),v3.2.1++([(!v5.1.1)]:List Bool),()))))))))))) (ah (Da v1 (v3.2.1,())) (λ(v19:T16)=>some ((v19.1.1,()),())))) v1 ((([0,0,0,0]:List Int),()),([]:List Bool),0,())
def F257(n:Nat):Fb 257:=fb n [⟨_,F238 n⟩,⟨_,F260 n⟩] [] [] [] Tryz.func257 Tryz.results257 Tryz.ntmps257 (.seq (rn_ [4,5]) (sn_ (.seq (sn_ (bk_ ⟨C8,[.hdr 7 63 eC mo_,.val 8 y2],[0,4,5,6]⟩ (sn_ (.seq (.block none (sn_ (sn_ (.block none (sn_ (cs_ ⟨C8,[.hdr 7 63 eC mo_],[0,4,5,6,8]⟩ (rs_ ⟨C8,[.hdr 7 63 eC mo_],[0,4,5,6,8]⟩ []) (sn_ (cs_ ⟨C8,[.hdr 7 63 eC mo_],[0,4,5,6,8]⟩ (rs_ ⟨C8,[.hdr 7 63 eC mo_],[0,4,5,6,8]⟩ []) (sn_ (cs_ ⟨C8,[.hdr 7 63 eC mo_],[0,4,5,6,8]⟩ (rs_ ⟨C8,[.hdr 7 63 eC mo_],[0,4,5,6,8]⟩ []) .nop)))))))))) .nop)))) (.seq (rn_ [6]) .nop)))) [(y2,.ro),(ka,.ro),(ka,.ro)] A15 [] [] (J5 n)
def AT(v1:Nat)(v2:T11):T17:=aC (λ(v3:T4)=>λv4=>Bd (v3.2.1<(v2.1.length:Int)) (Ld v2.1 v3.2.1 λv5=>Bd (v5=v2.2.1) (some ((true,()),())) (v4 ((),Wi (v3.2.1+1),()))) (some ((false,()),()))) v1 ((),0,())
def F227(n:Nat):Fb 227:=fb n [] [] [] [] Tryz.func227 Tryz.results227 Tryz.ntmps227 (sn_ (.seq (sn_ (bk_ ⟨[],[.val 5 y2],[0,1]⟩ .nop)) .nop)) [(y9,.ro),(y5,.ro)] A20 [] [] (AT n)
def N6(v1:Nat)(v2:(Int×U0×Unit)):T35:=Bd (v2.1=10) (some ((([92,110]:List Int),()),())) (Bd (v2.1=9) (some ((([92,116]:List Int),()),())) (Bd (v2.1=13) (some ((([92,114]:List Int),()),())) (aq (λ(v3:T5)=>bif v3.2.1 then if(16:Int)=0 then none else if(16:Int)=0 then none else if 0<=(IntKind.wrap .u8 (Int.tdiv v2.1 16))/\(IntKind.wrap .u8 (Int.tdiv v2.1 16))<=(IntKind.wrap .u8 ((IntKind.wrap .u8 (Int.tdiv v2.1 16))+1))/\(IntKind.wrap .u8 ((IntKind.wrap .u8 (Int.tdiv v2.1 16))+1))<=((List.length ([48,49,50,51,52,53,54,55,56,57,97,98,99,100,101,102]:List Int):Nat):Int)then if List.length ([92,120]:List Int)+List.length (cn ([48,49,50,51,52,53,54,55,56,57,97,98,99,100,101,102]:List Int) (IntKind.wrap .u8 (Int.tdiv v2.1 16)) (IntKind.wrap .u8 ((IntKind.wrap .u8 (Int.tdiv v2.1 16))+1)))<=9223372036854775807 then if(16:Int)=0 then none else if(16:Int)=0 then none else if 0<=(Int.tmod v2.1 16)/\(Int.tmod v2.1 16)<=(IntKind.wrap .u8 ((Int.tmod v2.1 16)+1))/\(IntKind.wrap .u8 ((Int.tmod v2.1 16)+1))<=((List.length ([48,49,50,51,52,53,54,55,56,57,97,98,99,100,101,102]:List Int):Nat):Int)then if List.length (([92,120]:List Int)++(cn ([48,49,50,51,52,53,54,55,56,57,97,98,99,100,101,102]:List Int) (IntKind.wrap .u8 (Int.tdiv v2.1 16)) (IntKind.wrap .u8 ((IntKind.wrap .u8 (Int.tdiv v2.1 16))+1))))+List.length (cn ([48,49,50,51,52,53,54,55,56,57,97,98,99,100,101,102]:List Int) (Int.tmod v2.1 16) (IntKind.wrap .u8 ((Int.tmod v2.1 16)+1)))<=9223372036854775807 then some (((([92,120]:List Int)++(cn ([48,49,50,51,52,53,54,55,56,57,97,98,99,100,101,102]:List Int) (IntKind.wrap .u8 (Int.tdiv v2.1 16)) (IntKind.wrap .u8 ((IntKind.wrap .u8 (Int.tdiv v2.1 16))+1))))++(cn ([48,49,50,51,52,53,54,55,56,57,97,98,99,100,101,102]:List Int) (Int.tmod v2.1 16) (IntKind.wrap .u8 ((Int.tmod v2.1 16)+1))),()),())else none else none else none else none else aq (λ(v4:T5)=>bif v4.2.1 then if List.length ([92]:List Int)+List.length ([v2.1]:List Int)<=9223372036854775807 then some ((([92]:List Int)++([v2.1]:List Int),()),())else none else some ((([v2.1]:List Int),()),())) (λv5=>Bd (v2.1=92) (v5 ((),true,())) (ah (AT v1 (v2.2.1,v2.1,())) (λ(v6:T9)=>v5 ((),v6.1.1,()))))) (λv7=>Bd (v2.1<32) (v7 ((),true,())) (v7 ((),decide (126<v2.1),()))))))
def F263(n:Nat):Fb 263:=fb n [⟨_,F227 n⟩] [] [] [] Tryz.func263 Tryz.results263 Tryz.ntmps263 (sn_ (sn_ (.seq (.block none (sn_ (.cond none .nop (sn_ (.cond none .nop (sn_ (.cond none .nop (.seq (rs_ ⟨[],[.val 15 y4],[0,1,5]⟩ []) (.cond none .nop (.seq (rs_ ⟨[],[.val 38 y4],[0]⟩ []) .nop)))))))))) .nop))) [(y5,.ro),(y9,.ro)] A22 [] [] (N6 n)
def J6(v1:Nat)(v2:T1):T17:=ah (AT v1 (([48,49,50,51,52,53,54,55,56,57,97,98,99,100,101,102,103,104,105,106,107,108,109,110,111,112,113,114,115,116,117,118,119,120,121,122,65,66,67,68,69,70,71,72,73,74,75,76,77,78,79,80,81,82,83,84,85,86,87,88,89,90]:List Int),v2.1,())) (λ(v3:T9)=>some ((v3.1.1,()),()))
def F228(n:Nat):Fb 228:=fb n [⟨_,F227 n⟩] [] [] [] Tryz.func228 Tryz.results228 Tryz.ntmps228 (.nop) [(y5,.ro)] A20 [] [] (J6 n)
def Ho(v1:Nat)(v2:T6):T44:=Bd (v2.1=([]:List Int)) (some ((0,0,false,()),())) (if(0:Int)<=(0:Int)then(match v2.1[(0:Int).toNat]? with|some v3=>bif !(decide (v3=92))then if(0:Int)<=(0:Int)then(match v2.1[(0:Int).toNat]? with|some v4=>some ((v4,1,true,()),())|none=>none)else none else aC (λ(v5:T4)=>λv6=>Bd (v5.2.1<256) (ah (N6 v1 (IntKind.wrap .u8 v5.2.1,([]:List Int),())) (λ(v7:T16)=>aq (λ(v8:T5)=>bif v8.2.1 then some ((IntKind.wrap .u8 v5.2.1,2,true,()),())else if(16:Int)=0 then none else if(16:Int)=0 then none else if 0<=(Wi (Int.tdiv v5.2.1 16))/\(Wi (Int.tdiv v5.2.1 16))<=(Wi ((Wi (Int.tdiv v5.2.1 16))+1))/\(Wi ((Wi (Int.tdiv v5.2.1 16))+1))<=((List.length ([48,49,50,51,52,53,54,55,56,57,97,98,99,100,101,102]:List Int):Nat):Int)then if List.length ([92,120]:List Int)+List.length (cn ([48,49,50,51,52,53,54,55,56,57,97,98,99,100,101,102]:List Int) (Wi (Int.tdiv v5.2.1 16)) (Wi ((Wi (Int.tdiv v5.2.1 16))+1)))<=9223372036854775807 then if(16:Int)=0 then none else if(16:Int)=0 then none else if 0<=(Int.tmod v5.2.1 16)/\(Int.tmod v5.2.1 16)<=(Wi ((Int.tmod v5.2.1 16)+1))/\(Wi ((Int.tmod v5.2.1 16)+1))<=((List.length ([48,49,50,51,52,53,54,55,56,57,97,98,99,100,101,102]:List Int):Nat):Int)then if List.length (([92,120]:List Int)++(cn ([48,49,50,51,52,53,54,55,56,57,97,98,99,100,101,102]:List Int) (Wi (Int.tdiv v5.2.1 16)) (Wi ((Wi (Int.tdiv v5.2.1 16))+1))))+List.length (cn ([48,49,50,51,52,53,54,55,56,57,97,98,99,100,101,102]:List Int) (Int.tmod v5.2.1 16) (Wi ((Int.tmod v5.2.1 16)+1)))<=9223372036854775807 then aq (λ(v9:T5)=>bif v9.2.1 then some ((IntKind.wrap .u8 v5.2.1,4,true,()),())else v6 ((),Wi (v5.2.1+1),())) (λv10=>Bd (3<(v2.1.length:Int)) (if(0:Int)<=(0:Int)/\(0:Int)<=(4:Int)/\(4:Int)<=(v2.1.length:Int)then v10 ((),decide ((cn v2.1 (0:Int) (4:Int))=((([92,120]:List Int)++(cn ([48,49,50,51,52,53,54,55,56,57,97,98,99,100,101,102]:List Int) (Wi (Int.tdiv v5.2.1 16)) (Wi ((Wi (Int.tdiv v5.2.1 16))+1))))++(cn ([48,49,50,51,52,53,54,55,56,57,97,98,99,100,101,102]:List Int) (Int.tmod v5.2.1 16) (Wi ((Int.tmod v5.2.1 16)+1))))),())else none) (v10 ((),false,())))else none else none else none else none) (λv11=>Bd ((v7.1.1.length:Int)=2) (if(0:Int)<=(1:Int)then(match v7.1.1[(1:Int).toNat]? with|some v12=>bif !(decide (v12=92))then Bd (1<(v2.1.length:Int)) (if(0:Int)<=(0:Int)/\(0:Int)<=(2:Int)/\(2:Int)<=(v2.1.length:Int)then v11 ((),decide ((cn v2.1 (0:Int) (2:Int))=v7.1.1),())else none) (v11 ((),false,()))else v11 ((),false,())|none=>none)else none) (v11 ((),false,()))))) (aq (λ(v13:T5)=>bif v13.2.1 then if(0:Int)<=(1:Int)then(match v2.1[(1:Int).toNat]? with|some v14=>some ((v14,2,true,()),())|none=>none)else none else some ((0,0,false,()),())) (λv15=>Bd (1<(v2.1.length:Int)) (if(0:Int)<=(1:Int)then(match v2.1[(1:Int).toNat]? with|some v16=>Bd (32<=v16) (if(0:Int)<=(1:Int)then(match v2.1[(1:Int).toNat]? with|some v17=>Bd (v17<=126) (if(0:Int)<=(1:Int)then(match v2.1[(1:Int).toNat]? with|some v18=>ah (J6 v1 (v18,())) (λ(v19:T9)=>v15 ((),!v19.1.1,()))|none=>none)else none) (v15 ((),false,()))|none=>none)else none) (v15 ((),false,()))|none=>none)else none) (v15 ((),false,()))))) v1 ((),0,())|none=>none)else none)
def F259(n:Nat):Fb 259:=fb n [⟨_,F263 n⟩,⟨_,F228 n⟩] [] [] [] Tryz.func259 Tryz.results259 Tryz.ntmps259 (sn_ (sn_ (sn_ (.seq (sn_ (bk_ ⟨[],[.val 5 y2],[0]⟩ (sn_ (.seq (.block none (sn_ (.seq (.seq (rs_ ⟨[],[.val 40 y4],[0,5]⟩ []) .nop) (sn_ (.seq (rs_ ⟨[],[.val 65 y4],[0,5]⟩ []) .nop))))) .nop)))) (.seq (.seq (rs_ ⟨[],[.val 86 y4],[0]⟩ []) .nop) .nop))))) A22 [(y5,.ro),(y2,.ro),(y4,.ro)] [] [] (Ho n)
def N7(v1:Nat)(v2:T11):T75:=if(0:Int)<=(256:Int)/\(256:Int)<=(256:Int)then if(256:Int).toNat*1<=140737488355328 then aq (λ(v3:T36)=>aq (λ(v4:T31)=>aC (λ(v5:T31)=>λv6=>aq (λ(v7:T36)=>bif v7.2.1 then if 0<=v5.2.1/\v5.2.1<=(v2.1.length:Int)/\(v2.1.length:Int)<=(v2.1.length:Int)then ah (Ho v1 (cn v2.1 v5.2.1 (v2.1.length:Int),())) (λ(v8:T22)=>aq (λ(v9:T36)=>bif v9.2.1 then some ((([]:List U7),v5.2.1,()),())else aq (λ(v10:T36)=>aq (λ(v11:(U30×Int×Int×Unit))=>aC (λ(v12:T31)=>λv13=>Bd (v12.2.1<=(Wi v11.2.2.1)) (Ld v12.1.1 v12.2.1 λv14=>Ld v12.1.1 v12.2.1 λv15=>v13 ((List.set v12.1.1 (v12.2.1).toNat true,()),Wi (v12.2.1+1),())) (v6 ((v12.1.1,()),v11.2.1,()))) v1 ((v11.1.1,()),Wi v8.1.1,())) (λv16=>bif v10.2.1 then aq (λ(v17:T36)=>bif v17.2.1 then some ((([]:List U7),Wi ((Wi (v5.2.1+v8.1.2.1))+1),()),())else if 0<=(Wi ((Wi (v5.2.1+v8.1.2.1))+1))/\(Wi ((Wi (v5.2.1+v8.1.2.1))+1))<=(v2.1.length:Int)/\(v2.1.length:Int)<=(v2.1.length:Int)then ah (Ho v1 (cn v2.1 (Wi ((Wi (v5.2.1+v8.1.2.1))+1)) (v2.1.length:Int),())) (λ(v18:T22)=>aq (λ(v19:T36)=>bif v19.2.1 then some ((([]:List U7),Wi ((Wi (v5.2.1+v8.1.2.1))+1),()),())else v16 ((v19.1.1,()),Wi ((Wi ((Wi (v5.2.1+v8.1.2.1))+1))+v18.1.2.1),v18.1.1,())) (λv20=>bif !v18.1.2.2.1 then v20 ((v17.1.1,()),true,())else v20 ((v17.1.1,()),decide (v18.1.1<v8.1.1),())))else none) (λv21=>Bd ((v2.1.length:Int)<=(Wi ((Wi (v5.2.1+v8.1.2.1))+1))) (v21 ((v10.1.1,()),true,())) (if 0<=(Wi ((Wi (v5.2.1+v8.1.2.1))+1))then(match v2.1[(Wi ((Wi (v5.2.1+v8.1.2.1))+1)).toNat]? with|some v22=>ah (AS v1 (([93,94,45,47,34]:List Int),v22,())) (λ(v23:T9)=>v21 ((v10.1.1,()),v23.1.1,()))|none=>none)else none))else v16 ((v10.1.1,()),Wi (v5.2.1+v8.1.2.1),v8.1.1,()))) (λv24=>Bd ((Wi (v5.2.1+v8.1.2.1))<(v2.1.length:Int)) (if 0<=(Wi (v5.2.1+v8.1.2.1))then(match v2.1[(Wi (v5.2.1+v8.1.2.1)).toNat]? with|some v25=>v24 ((v9.1.1,()),decide (v25=45),())|none=>none)else none) (v24 ((v9.1.1,()),false,())))) (λv26=>bif !v8.1.2.2.1 then v26 ((v7.1.1,()),true,())else Ld v2.1 v5.2.1 λv27=>ah (AS v1 (([94,45,47,34]:List Int),v27,())) (λ(v28:T9)=>v26 ((v7.1.1,()),v28.1.1,()))))else none else ah (Da v1 (v7.1.1,())) (λ(v29:T16)=>aq (λ(v30:T16)=>aq (λ(v31:T32)=>bif v31.2.1 then some ((([]:List U7),v5.2.1,()),())else some ((([(1,v31.1.1)]:List U7),Wi (v5.2.1+1),()),())) (λv32=>Bd ((v2.1.length:Int)<=v5.2.1) (v32 ((v30.1.1,()),true,())) (v32 ((v30.1.1,()),decide (v30.1.1=([0,0,0,0]:List Int)),())))) (λv33=>bif v3.2.1 then ah (J5 v1 (3,v29.1.1,v29.1.1,())) (λ(v34:T16)=>v33 ((v34.1.1,()),()))else v33 ((v29.1.1,()),())))) (λv35=>Bd (v5.2.1<(v2.1.length:Int)) (Ld v2.1 v5.2.1 λv36=>v35 ((v5.1.1,()),!(decide (v36=93)),())) (v35 ((v5.1.1,()),false,())))) v1 ((v4.1.1,()),v4.2.1,())) (λv37=>bif v3.2.1 then v37 ((v3.1.1,()),Wi (v2.2.1+1),())else v37 ((v3.1.1,()),v2.2.1,()))) (λv38=>Bd (v2.2.1<(v2.1.length:Int)) (Ld v2.1 v2.2.1 λv39=>v38 ((List.replicate (256:Int).toNat false,()),decide (v39=94),())) (v38 ((List.replicate (256:Int).toNat false,()),false,())))else none else none
def F258(n:Nat):Fb 258:=fb n [⟨_,F259 n⟩,⟨_,F245 n⟩,⟨_,F260 n⟩,⟨_,F257 n⟩] [] [] [⟨_,Qi⟩] Tryz.func258 Tryz.results258 Tryz.ntmps258 (sn_ (sn_ (.seq (rs_ ⟨wu,[.val 7 y4],[0,1,6]⟩ []) (.seq (sn_ (cs_ ⟨wu,[.val 1 y2],[0,6,7]⟩ .nop .nop)) (.seq (bk_ ⟨wu,[.val 1 y2],[0,6,7]⟩ (.seq (.seq (rs_ ⟨wu,[.val 37 y4],[0,1,6,7]⟩ []) .nop) (.block none (sn_ (.seq (.seq (rs_ ⟨wu,[.val 53 y4],[0,1,6,7,8,9]⟩ []) .nop) (sn_ (sn_ (.seq (.seq (rs_ ⟨wu,[.val 68 y4],[0,1,6,7,8,11]⟩ []) (cs_ ⟨wu,[.val 1 y2,.val 11 y5],[0,6,7,8]⟩ (sn_ (.seq (.seq (rs_ ⟨wu,[.val 80 y4],[0,1,6,7,8]⟩ []) .nop) (sn_ (.seq (.seq (rs_ ⟨wu,[.val 96 y4],[0,1,6,7,8,9,11]⟩ []) .nop) .nop)))) .nop)) (sn_ (bk_ ⟨wu,[.val 12 y2],[0,1,6,7,11]⟩ .nop)))))))))) (sn_ (.seq (sn_ (cs_ ⟨[(104,.box ka,mo_)],[],[0,1,13]⟩ .nop .nop)) (.seq (.seq (rs_ ⟨[(104,.box ka,mo_)],[.val 126 y4],[1,13]⟩ []) .nop) (.seq (.rgf none [13] []) .nop))))))))) [(y9,.ro),(y2,.ro)] A5 [] [] (N7 n)
abbrev Hp:=Qt A4 A5 []
abbrev RS(q:Hp):Callee:=⟨_,_,[],_,q⟩
theorem J7:Plain Tryz.prog 217:=pl Tryz.func217
abbrev Hq:=Qt A4 A5 []
abbrev Vf(q:Hq):Callee:=⟨_,_,[],_,q⟩
theorem N8:Plain Tryz.prog 236:=pl Tryz.func236
abbrev Hr:=Qt A4 A5 []
abbrev Vg(q:Hr):Callee:=⟨_,_,[],_,q⟩
theorem N9:Plain Tryz.prog 244:=pl Tryz.func244
abbrev Hs:=Qt A4 A5 []
abbrev Vh(q:Hs):Callee:=⟨_,_,[],_,q⟩
theorem Oa:Plain Tryz.prog 252:=pl Tryz.func252
abbrev J8(nw:Hp)(nx:Hq)(ny:Hr)(nz:Hs):=fL Tryz.prog 217 (RS nw)/\fL Tryz.prog 236 (Vf nx)/\fL Tryz.prog 244 (Vg ny)/\fL Tryz.prog 252 (Vh nz)
def AU(v1:Nat)(v2 v3 v4 v5:ND)(v6:T20):T75:=ah (v3 (v6.1,v6.2.1,v6.2.2.1,())) (λ(v7:T67)=>aC (λ(v8:T62)=>λv9=>aq (λ(v10:T5)=>bif v10.2.1 then ah (v3 (v6.1,IntKind.wrap .i64 (v8.2.1+1),v6.2.2.1,())) (λ(v11:T67)=>bif List.isEmpty v11.1.1 then some ((([]:List U7),v11.1.2.1,()),())else if(List.length ([]:List U7)+List.length v8.2.2.1)*40<=140737488355328 then if List.length ([]:List U7)+List.length v8.2.2.1<=9223372036854775807 then if(List.length (([]:List U7)++v8.2.2.1)+List.length v11.1.1)*40<=140737488355328 then if List.length (([]:List U7)++v8.2.2.1)+List.length v11.1.1<=9223372036854775807 then if(List.length ((([]:List U7)++v8.2.2.1)++v11.1.1)+List.length ([(3,([0,0,0,0]:List Int))]:List U7))*40<=140737488355328 then if List.length ((([]:List U7)++v8.2.2.1)++v11.1.1)+List.length ([(3,([0,0,0,0]:List Int))]:List U7)<=9223372036854775807 then bif List.isEmpty (((([]:List U7)++v8.2.2.1)++v11.1.1)++([(3,([0,0,0,0]:List Int))]:List U7))then none else v9 ((),v11.1.2.1,((([]:List U7)++v8.2.2.1)++v11.1.1)++([(3,([0,0,0,0]:List Int))]:List U7),())else none else none else none else none else none else none)else some ((v8.2.2.1,v8.2.1,()),())) (λv12=>bif !(List.isEmpty v8.2.2.1)then bif decide (v8.2.1<(v6.1.length:Int))then if 0<=v8.2.1 then(match v6.1[(v8.2.1).toNat]? with|some v13=>v12 ((),decide (v13=124),())|none=>none)else none else v12 ((),false,())else v12 ((),false,()))) v1 ((),v7.1.2.1,v7.1.1,()))
theorem Ya(n:Nat)(nw:Hp)(nx:Hq)(ny:Hr)(nz:Hs)(h:J8 nw nx ny nz):fL Tryz.prog 217 (RS (AU n nw nx ny nz)):=(fb n [⟨_,⟨_,h.1,J7⟩⟩,⟨_,⟨_,h.2.1,N8⟩⟩,⟨_,⟨_,h.2.2.1,N9⟩⟩,⟨_,⟨_,h.2.2.2,Oa⟩⟩] [14,36] [] [] Tryz.func217 Tryz.results217 Tryz.ntmps217 (.seq .nop (.seq .nop (.seq (.block none (.loop ⟨[],[.val 1 y2,.val 8 (.nl G9)],[0,2]⟩ (.seq (.seq (.reg (some ⟨[],[.val 30 y4],[0,1,2,8]⟩) []) .nop) (.block none (.seq .nop (.seq .nop (.seq .nop (.reg none [8])))))))) .nop))) A4 A5 [] [] (AU n nw nx ny nz)).o
def AV(v1:Nat)(v2 v3 v4 v5:ND)(v6:T20):T75:=ah (v4 (v6.1,v6.2.1,v6.2.2.1,())) (λ(v7:T67)=>aC (λ(v8:T62)=>λv9=>aq (λ(v10:T5)=>bif v10.2.1 then ah (v4 (v6.1,v8.2.1,v6.2.2.1,())) (λ(v11:T67)=>bif List.isEmpty v11.1.1 then some ((([]:List U7),v11.1.2.1,()),())else if(List.length ([]:List U7)+List.length v8.2.2.1)*40<=140737488355328 then if List.length ([]:List U7)+List.length v8.2.2.1<=9223372036854775807 then if(List.length (([]:List U7)++v8.2.2.1)+List.length v11.1.1)*40<=140737488355328 then if List.length (([]:List U7)++v8.2.2.1)+List.length v11.1.1<=9223372036854775807 then if(List.length ((([]:List U7)++v8.2.2.1)++v11.1.1)+List.length ([(2,([0,0,0,0]:List Int))]:List U7))*40<=140737488355328 then if List.length ((([]:List U7)++v8.2.2.1)++v11.1.1)+List.length ([(2,([0,0,0,0]:List Int))]:List U7)<=9223372036854775807 then bif List.isEmpty (((([]:List U7)++v8.2.2.1)++v11.1.1)++([(2,([0,0,0,0]:List Int))]:List U7))then none else v9 ((),v11.1.2.1,((([]:List U7)++v8.2.2.1)++v11.1.1)++([(2,([0,0,0,0]:List Int))]:List U7),())else none else none else none else none else none else none)else some ((v8.2.2.1,v8.2.1,()),())) (λv12=>bif !(List.isEmpty v8.2.2.1)then bif decide (v8.2.1<(v6.1.length:Int))then if 0<=v8.2.1 then(match v6.1[(v8.2.1).toNat]? with|some v13=>ah (AS v1 (([124,41]:List Int),v13,())) (λ(v14:T9)=>v12 ((),!v14.1.1,()))|none=>none)else none else v12 ((),false,())else v12 ((),false,()))) v1 ((),v7.1.2.1,v7.1.1,()))
theorem Yb(n:Nat)(nw:Hp)(nx:Hq)(ny:Hr)(nz:Hs)(h:J8 nw nx ny nz):fL Tryz.prog 236 (Vf (AV n nw nx ny nz)):=(fb n [⟨_,F245 n⟩,⟨_,⟨_,h.1,J7⟩⟩,⟨_,⟨_,h.2.1,N8⟩⟩,⟨_,⟨_,h.2.2.1,N9⟩⟩,⟨_,⟨_,h.2.2.2,Oa⟩⟩] [14,36] [] [] Tryz.func236 Tryz.results236 Tryz.ntmps236 (.seq .nop (.seq .nop (.seq (.block none (.loop ⟨[],[.val 1 y2,.val 8 (.nl G9)],[0,2]⟩ (.seq (.seq (.reg (some ⟨[],[.val 31 y4],[0,1,2,8]⟩) []) .nop) (.block none (.seq .nop (.seq .nop (.seq .nop (.reg none [8])))))))) .nop))) A4 A5 [] [] (AV n nw nx ny nz)).o
def AW(v1:Nat)(v2 v3 v4 v5:ND)(v6:T20):T75:=ah (v5 (v6.1,v6.2.1,v6.2.2.1,())) (λ(v7:T67)=>aC (λ(v8:T62)=>λv9=>aq (λ(v10:T5)=>bif v10.2.1 then if 0<=v8.2.1 then(match v6.1[(v8.2.1).toNat]? with|some v11=>aq (λ(v12:T4)=>if 0<=v8.2.1 then(match v6.1[(v8.2.1).toNat]? with|some v13=>aq (λ(v14:T4)=>if(List.length ([]:List U7)+List.length v8.2.2.1)*40<=140737488355328 then if List.length ([]:List U7)+List.length v8.2.2.1<=9223372036854775807 then if(List.length (([]:List U7)++v8.2.2.1)+List.length ([(v14.2.1,([0,0,0,0]:List Int))]:List U7))*40<=140737488355328 then if List.length (([]:List U7)++v8.2.2.1)+List.length ([(v14.2.1,([0,0,0,0]:List Int))]:List U7)<=9223372036854775807 then bif List.isEmpty ((([]:List U7)++v8.2.2.1)++([(v14.2.1,([0,0,0,0]:List Int))]:List U7))then none else v9 ((),IntKind.wrap .i64 (v8.2.1+1),(([]:List U7)++v8.2.2.1)++([(v14.2.1,([0,0,0,0]:List Int))]:List U7),())else none else none else none else none) (λv15=>bif decide (v13=63)then v15 ((),6,())else v15 ((),v12.2.1,()))|none=>none)else none) (λv16=>bif decide (v11=43)then v16 ((),5,())else v16 ((),4,()))|none=>none)else none else some ((v8.2.2.1,v8.2.1,()),())) (λv17=>bif !(List.isEmpty v8.2.2.1)then bif decide (v8.2.1<(v6.1.length:Int))then if 0<=v8.2.1 then(match v6.1[(v8.2.1).toNat]? with|some v18=>ah (AS v1 (([42,43,63]:List Int),v18,())) (λ(v19:T9)=>v17 ((),v19.1.1,()))|none=>none)else none else v17 ((),false,())else v17 ((),false,()))) v1 ((),v7.1.2.1,v7.1.1,()))
theorem Yc(n:Nat)(nw:Hp)(nx:Hq)(ny:Hr)(nz:Hs)(h:J8 nw nx ny nz):fL Tryz.prog 244 (Vg (AW n nw nx ny nz)):=(fb n [⟨_,F245 n⟩,⟨_,⟨_,h.1,J7⟩⟩,⟨_,⟨_,h.2.1,N8⟩⟩,⟨_,⟨_,h.2.2.1,N9⟩⟩,⟨_,⟨_,h.2.2.2,Oa⟩⟩] [14] [] [] Tryz.func244 Tryz.results244 Tryz.ntmps244 (.seq .nop (.seq .nop (.seq (.block none (.loop ⟨[],[.val 1 y2,.val 8 (.nl G9)],[0]⟩ (.seq (.seq (.reg (some ⟨[],[.val 30 y4],[0,1,8]⟩) []) .nop) (.block none (.seq .nop (.seq (.seq .nop (.cond (some ⟨[],[.val 9 y2],[0,1,8]⟩) .nop .nop)) (.seq (.seq .nop (.cond (some ⟨[],[.val 9 y2],[0,1,8]⟩) .nop .nop)) (.seq (.reg none [8]) .nop)))))))) .nop))) A4 A5 [] [] (AW n nw nx ny nz)).o
def AX(v1:Nat)(v2 v3 v4 v5:ND)(v6:T20):T75:=aq (λ(v7:T5)=>bif v7.2.1 then some ((([]:List U7),v6.2.1,()),())else if 0<=v6.2.1 then(match v6.1[(v6.2.1).toNat]? with|some v8=>bif decide (v8=46)then ah (J5 v1 (3,([0,0,0,0]:List Int),([0,0,0,0]:List Int),())) (λ(v9:T16)=>some ((([(1,v9.1.1)]:List U7),IntKind.wrap .i64 (v6.2.1+1),()),()))else if 0<=v6.2.1 then(match v6.1[(v6.2.1).toNat]? with|some v10=>bif decide (v10=126)then some ((([(0,([0,0,0,0]:List Int))]:List U7),IntKind.wrap .i64 (v6.2.1+1),()),())else if 0<=v6.2.1 then(match v6.1[(v6.2.1).toNat]? with|some v11=>bif decide (v11=91)then ah (N7 v1 (v6.1,IntKind.wrap .i64 (v6.2.1+1),())) (λ(v12:T67)=>some ((v12.1.1,v12.1.2.1,()),()))else if 0<=v6.2.1 then(match v6.1[(v6.2.1).toNat]? with|some v13=>bif decide (v13=40)then bif decide (99<=v6.2.2.1)then some ((([]:List U7),v6.2.1,()),())else ah (v2 (v6.1,IntKind.wrap .i64 (v6.2.1+1),IntKind.wrap .i64 (v6.2.2.1+1),())) (λ(v14:T67)=>aq (λ(v15:T5)=>bif v15.2.1 then some ((([]:List U7),v14.1.2.1,()),())else some ((v14.1.1,IntKind.wrap .i64 (v14.1.2.1+1),()),())) (λv16=>bif List.isEmpty v14.1.1 then v16 ((),true,())else bif decide ((v6.1.length:Int)<=v14.1.2.1)then v16 ((),true,())else if 0<=v14.1.2.1 then(match v6.1[(v14.1.2.1).toNat]? with|some v17=>v16 ((),!(decide (v17=41)),())|none=>none)else none))else if 0<=v6.2.1/\v6.2.1<=(v6.1.length:Int)/\(v6.1.length:Int)<=(v6.1.length:Int)then ah (Ho v1 (cn v6.1 v6.2.1 (v6.1.length:Int),())) (λ(v18:T22)=>bif !v18.1.2.2.1 then some ((([]:List U7),v6.2.1,()),())else if(0:Int)<=(256:Int)/\(256:Int)<=(256:Int)then if(256:Int).toNat*1<=140737488355328 then if 0<=v18.1.1 then(match(List.replicate (256:Int).toNat false)[(v18.1.1).toNat]? with|some v19=>if 0<=v18.1.1 then(match(List.replicate (256:Int).toNat false)[(v18.1.1).toNat]? with|some v20=>ah (Da v1 (List.set (List.replicate (256:Int).toNat false) (v18.1.1).toNat true,())) (λ(v21:T16)=>some ((([(1,v21.1.1)]:List U7),IntKind.wrap .i64 (v6.2.1+v18.1.2.1),()),()))|none=>none)else none|none=>none)else none else none else none)else none|none=>none)else none|none=>none)else none|none=>none)else none|none=>none)else none) (λv22=>bif decide ((v6.1.length:Int)<=v6.2.1)then v22 ((),true,())else if 0<=v6.2.1 then(match v6.1[(v6.2.1).toNat]? with|some v23=>ah (AS v1 (([124,41,42,43,63,93,47,34]:List Int),v23,())) (λ(v24:T9)=>v22 ((),v24.1.1,()))|none=>none)else none)
theorem Yd(n:Nat)(nw:Hp)(nx:Hq)(ny:Hr)(nz:Hs)(h:J8 nw nx ny nz):fL Tryz.prog 252 (Vh (AX n nw nx ny nz)):=(fb n [⟨_,F245 n⟩,⟨_,F257 n⟩,⟨_,F258 n⟩,⟨_,F259 n⟩,⟨_,F260 n⟩,⟨_,⟨_,h.1,J7⟩⟩,⟨_,⟨_,h.2.1,N8⟩⟩,⟨_,⟨_,h.2.2.1,N9⟩⟩,⟨_,⟨_,h.2.2.2,Oa⟩⟩] [55,72] [] [] Tryz.func252 Tryz.results252 Tryz.ntmps252 (.seq .nop (.seq (.block none (.seq (.reg (some ⟨[],[.val 14 y4],[0,1,2]⟩) []) (.cond none .nop (.seq .nop (.cond none .nop (.seq .nop (.cond none .nop (.seq .nop (.cond none .nop (.seq .nop (.cond none (.seq .nop (.seq .nop (.seq (.seq (.reg (some ⟨[],[.val 88 y4],[8,9]⟩) []) .nop) .nop))) .nop))))))))))) .nop)) A4 A5 [] [] (AX n nw nx ny nz)).o
def cU(n:Nat):Nat->(T20->T75)×(T20->T75)×(T20->T75)×(T20->T75)
 |0=>(λ_=>none,λ_=>none,λ_=>none,λ_=>none)
 |d+1=>(λx=>AU n (cU n d).1 (cU n d).2.1 (cU n d).2.2.1 (cU n d).2.2.2 x,λx=>AV n (cU n d).1 (cU n d).2.1 (cU n d).2.2.1 (cU n d).2.2.2 x,λx=>AW n (cU n d).1 (cU n d).2.1 (cU n d).2.2.1 (cU n d).2.2.2 x,λx=>AX n (cU n d).1 (cU n d).2.1 (cU n d).2.2.1 (cU n d).2.2.2 x)
theorem J9(n:Nat):∀ d,J8 (cU n d).1 (cU n d).2.1 (cU n d).2.2.1 (cU n d).2.2.2
 |0=>⟨(λx r h=>by cases h),(λx r h=>by cases h),(λx r h=>by cases h),(λx r h=>by cases h)⟩
 |d+1=>⟨Ya n _ _ _ _ (J9 n d),Yb n _ _ _ _ (J9 n d),Yc n _ _ _ _ (J9 n d),Yd n _ _ _ _ (J9 n d)⟩
def RT(n:Nat)(x:T20):T75:=(cU n n).1 x
def F217(n:Nat):Fb 217:=⟨RS (RT n),(J9 n n).1,J7⟩
def Ob(v1:Nat)(v2:T6):T75:=Bd (1600<(v2.1.length:Int)) (some ((([]:List U7),6,()),())) (ah (RT v1 (v2.1,0,0,())) (λ(v3:T67)=>aq (λ(v4:T5)=>bif v4.2.1 then some ((([]:List U7),5,()),())else Bd (400<(v3.1.1.length:Int)) (some ((([]:List U7),6,()),())) (some ((v3.1.1,0,()),()))) (λv5=>bif List.isEmpty v3.1.1 then v5 ((),true,())else v5 ((),decide (v3.1.2.1<(v2.1.length:Int)),()))))
def F171(n:Nat):Fb 171:=fb n [⟨_,F217 n⟩] [11] [] [] Tryz.func171 Tryz.results171 Tryz.ntmps171 (sn_ (sn_ (sn_ (.seq (.seq (rs_ ⟨[],[.val 21 y4],[4]⟩ []) .nop) .nop)))) A22 A10 [] [] (Ob n)
def Ht(v1:Nat)(v2:T1):T15:=aq (λ(v3:T32)=>bif v3.2.1 then some ((-1,()),())else Ld v3.1.1 v2.1 λv4=>some ((v4,()),())) (λv5=>Bd (v2.1<0) (v5 ((([0,0,2,2,1,1,1]:List Int),()),true,())) (v5 ((([0,0,2,2,1,1,1]:List Int),()),decide (6<v2.1),())))
def F246(n:Nat):Fb 246:=fb n [] [] [] [] Tryz.func246 Tryz.results246 Tryz.ntmps246 (sn_ (sn_ (.seq (.seq (rs_ ⟨[(32,y53,mo_)],[.val 10 y4],[0,3]⟩ []) .nop) .nop))) A21 A21 [] [] (Ht n)
def Db(v1:Nat)(v2:(U15×Int×Unit)):T15:=aC (λ(v3:T10)=>λv4=>bif decide (0<=v3.2.2.1)then if 0<=v3.2.2.1 then(match v2.1[(v3.2.2.1).toNat]? with|some v5=>ah (Ht v1 (v5.1,())) (λ(v6:T7)=>bif decide ((IntKind.wrap .i64 ((IntKind.wrap .i64 (v3.2.1-1))+v6.1.1))=0)then some ((v3.2.2.1,()),())else v4 ((),IntKind.wrap .i64 ((IntKind.wrap .i64 (v3.2.1-1))+v6.1.1),IntKind.wrap .i64 (v3.2.2.1-1),()))|none=>none)else none else some ((0,()),())) v1 ((),1,v2.2.1,())
def F247(n:Nat):Fb 247:=fb n [⟨_,F246 n⟩] [] [] [] Tryz.func247 Tryz.results247 Tryz.ntmps247 (sn_ (sn_ (.seq (sn_ (bk_ ⟨[],[.val 5 y2,.val 6 y2],[0]⟩ .nop)) .nop))) A10 A21 [] [] (Db n)
def yo(v1:Nat)(v2:T30):Option (((List U15)×Unit)×Unit):=if 0<=(Wi ((v2.1.length:Int)-1))then(match v2.1[(Wi ((v2.1.length:Int)-1)).toNat]? with|some v3=>ah (Ht v1 (v3.1,())) (λ(v4:T7)=>aC (λ(v5:(Unit×(List U15)×Int×Int×Unit))=>λv6=>Bd (0<v5.2.2.2.1) (ah (Db v1 (v2.1,Wi (v5.2.2.1-1),())) (λ(v7:T7)=>if 0<=v7.1.1/\v7.1.1<=v5.2.2.1/\v5.2.2.1<=(v2.1.length:Int)then Ap 24 (List.length ([(cn v2.1 v7.1.1 v5.2.2.1)]:List U15)+List.length v5.2.1) (v6 ((),([(cn v2.1 v7.1.1 v5.2.2.1)]:List U15)++v5.2.1,v7.1.1,Wi (v5.2.2.2.1-1),()))else none)) (some ((v5.2.1,()),()))) v1 ((),([]:List U15),Wi ((v2.1.length:Int)-1),v4.1.1,()))|none=>none)else none
def F237(n:Nat):Fb 237:=fb n [⟨_,F246 n⟩,⟨_,F247 n⟩] [] [] [] Tryz.func237 Tryz.results237 Tryz.ntmps237 (sn_ (sn_ (sn_ (sn_ (.seq (sn_ (bk_ ⟨[],[.hdr 4 39 NC mo_,.val 5 y2,.val 6 y2],[0]⟩ .nop)) .nop))))) [(nn,.ro)] [(NC,.ro)] [] [] (yo n)
def Ka(v1:Nat)(v2:(U12×U12×Unit)):T40:=aC (λ(v3:T25)=>λv4=>Bd (v3.2.2.1<(v2.1.length:Int)) (aq (λ(v5:(Unit×U12×Unit))=>v4 ((),v5.2.1,Wi (v3.2.2.1+1),())) (λv6=>Ld v2.1 v3.2.2.1 λv7=>bif v7 then Ap 1 (List.length v3.2.1+List.length ([true]:List Bool)) (v6 ((),v3.2.1++([true]:List Bool),()))else Ld v2.2.1 v3.2.2.1 λv8=>Ap 1 (List.length v3.2.1+List.length ([v8]:List Bool)) (v6 ((),v3.2.1++([v8]:List Bool),())))) (some ((v3.2.1,()),()))) v1 ((),([]:List Bool),0,())
def F239(n:Nat):Fb 239:=fb n [] [] [] [] Tryz.func239 Tryz.results239 Tryz.ntmps239 (sn_ (sn_ (.seq (sn_ (bk_ ⟨[],[.hdr 5 47 eC mo_,.val 6 y2],[0,1]⟩ (sn_ (.seq (.block none (rs_ ⟨[],[.hdr 5 47 eC mo_],[0,1,6]⟩ [])) .nop)))) .nop))) [(eC,.ro),(eC,.ro)] A16 [] [] (Ka n)
abbrev Oc:=Qt A1 A16 []
abbrev RU(q:Oc):Callee:=⟨_,_,[],_,q⟩
theorem RW:Plain Tryz.prog 218:=pl Tryz.func218
abbrev Od:=Qt A1 A16 []
abbrev Vi(q:Od):Callee:=⟨_,_,[],_,q⟩
theorem Vj:Plain Tryz.prog 240:=pl Tryz.func240
abbrev RX(yp:Oc)(yq:Od):=fL Tryz.prog 218 (RU yp)/\fL Tryz.prog 240 (Vi yq)
def lm(v1:Nat)(v2 v3:UK)(v4:T79):T40:=if 0<=(v4.2.2.1.length:Int)/\(v4.2.2.1.length:Int)<=(v4.2.2.1.length:Int)then if(v4.2.2.1.length:Int).toNat*1<=140737488355328 then ah (yo v1 (v4.1,())) (λ(v5:(((List U15)×Unit)×Unit))=>if 0<=(IntKind.wrap .i64 ((v4.1.length:Int)-1))then(match v4.1[(IntKind.wrap .i64 ((v4.1.length:Int)-1)).toNat]? with|some v6=>bif decide (v6.1=0)then some ((v4.2.2.1,()),())else bif decide (v6.1=1)then aC (λ(v7:T31)=>λv8=>bif decide (v7.2.1<(v4.2.1.length:Int))then aq (λ(v9:T18)=>v8 ((v9.1.1,()),IntKind.wrap .i64 (v7.2.1+1),())) (λv10=>if 0<=v7.2.1 then(match v4.2.2.1[(v7.2.1).toNat]? with|some v11=>bif v11 then if 0<=(IntKind.wrap .i64 ((v4.1.length:Int)-1))then(match v4.1[(IntKind.wrap .i64 ((v4.1.length:Int)-1)).toNat]? with|some v12=>if 0<=v7.2.1 then(match v4.2.1[(v7.2.1).toNat]? with|some v13=>ah (Hn v1 (v12.2,IntKind.wrap .i64 v13,())) (λ(v14:T9)=>if 0<=(IntKind.wrap .i64 (v7.2.1+1))then(match v7.1.1[(IntKind.wrap .i64 (v7.2.1+1)).toNat]? with|some v15=>if 0<=(IntKind.wrap .i64 (v7.2.1+1))then(match v7.1.1[(IntKind.wrap .i64 (v7.2.1+1)).toNat]? with|some v16=>v10 ((List.set v7.1.1 (IntKind.wrap .i64 (v7.2.1+1)).toNat v14.1.1,()),())|none=>none)else none|none=>none)else none)|none=>none)else none|none=>none)else none else if 0<=(IntKind.wrap .i64 (v7.2.1+1))then(match v7.1.1[(IntKind.wrap .i64 (v7.2.1+1)).toNat]? with|some v17=>if 0<=(IntKind.wrap .i64 (v7.2.1+1))then(match v7.1.1[(IntKind.wrap .i64 (v7.2.1+1)).toNat]? with|some v18=>v10 ((List.set v7.1.1 (IntKind.wrap .i64 (v7.2.1+1)).toNat false,()),())|none=>none)else none|none=>none)else none|none=>none)else none)else some ((v7.1.1,()),())) v1 ((List.replicate (v4.2.2.1.length:Int).toNat false,()),0,())else bif decide (v6.1=2)then if(0:Int)<=(1:Int)then(match v5.1.1[(1:Int).toNat]? with|some v19=>if(0:Int)<=(0:Int)then(match v5.1.1[(0:Int).toNat]? with|some v20=>ah (v2 (v20,v4.2.1,v4.2.2.1,())) (λ(v21:T18)=>ah (v2 (v19,v4.2.1,v21.1.1,())) (λ(v22:T18)=>some ((v22.1.1,()),())))|none=>none)else none|none=>none)else none else bif decide (v6.1=3)then if(0:Int)<=(0:Int)then(match v5.1.1[(0:Int).toNat]? with|some v23=>ah (v2 (v23,v4.2.1,v4.2.2.1,())) (λ(v24:T18)=>if(0:Int)<=(1:Int)then(match v5.1.1[(1:Int).toNat]? with|some v25=>ah (v2 (v25,v4.2.1,v4.2.2.1,())) (λ(v26:T18)=>ah (Ka v1 (v24.1.1,v26.1.1,())) (λ(v27:T18)=>some ((v27.1.1,()),())))|none=>none)else none)|none=>none)else none else bif decide (v6.1=6)then if(0:Int)<=(0:Int)then(match v5.1.1[(0:Int).toNat]? with|some v28=>ah (v2 (v28,v4.2.1,v4.2.2.1,())) (λ(v29:T18)=>ah (Ka v1 (v4.2.2.1,v29.1.1,())) (λ(v30:T18)=>some ((v30.1.1,()),())))|none=>none)else none else if 0<=(IntKind.wrap .i64 ((v4.1.length:Int)-1))then(match v4.1[(IntKind.wrap .i64 ((v4.1.length:Int)-1)).toNat]? with|some v31=>bif decide (v31.1=4)then if(0:Int)<=(0:Int)then(match v5.1.1[(0:Int).toNat]? with|some v32=>ah (v3 (v32,v4.2.1,v4.2.2.1,())) (λ(v33:T18)=>some ((v33.1.1,()),()))|none=>none)else none else if(0:Int)<=(0:Int)then(match v5.1.1[(0:Int).toNat]? with|some v34=>if(0:Int)<=(0:Int)then(match v5.1.1[(0:Int).toNat]? with|some v35=>ah (v2 (v35,v4.2.1,v4.2.2.1,())) (λ(v36:T18)=>ah (v3 (v34,v4.2.1,v36.1.1,())) (λ(v37:T18)=>some ((v37.1.1,()),())))|none=>none)else none|none=>none)else none|none=>none)else none|none=>none)else none)else none else none
theorem Ye(n:Nat)(yp:Oc)(yq:Od)(h:RX yp yq):fL Tryz.prog 218 (RU (lm n yp yq)):=(fb n [⟨_,F237 n⟩,⟨_,F238 n⟩,⟨_,F239 n⟩,⟨_,⟨_,h.1,RW⟩⟩,⟨_,⟨_,h.2,Vj⟩⟩] [14,67,68,76,82,83,92,93,107,117,118] [] [] Tryz.func218 Tryz.results218 Tryz.ntmps218 (.seq .nop (.seq .nop (.seq .nop (.seq (.seq .nop (.block none (.seq .nop (.cond none .nop (.seq .nop (.cond none (.seq (.seq .nop (.block none (.loop ⟨[(96,eC,.own .ro)],[.val 9 y2],[0,1,2,7]⟩ (.seq .nop (.seq (.block none (.reg (some ⟨[(96,eC,.own .ro)],[],[0,1,2,7,9]⟩) [])) .nop))))) .nop) .nop)))))) .nop)))) A1 A16 [] [] (lm n yp yq)).o
def AY(v1:Nat)(v2 v3:UK)(v4:T79):T40:=aC (λ(v5:T25)=>λv6=>bif decide (v5.2.2.1<=(v4.2.1.length:Int))then ah (v2 (v4.1,v4.2.1,v5.2.1,())) (λ(v7:T18)=>ah (Ka v1 (v5.2.1,v7.1.1,())) (λ(v8:T18)=>aC (λ(v9:T12)=>λv10=>bif decide (v9.2.2.1<(v8.1.1.length:Int))then aq (λ(v11:T5)=>v10 ((),v11.2.1,IntKind.wrap .i64 (v9.2.2.1+1),())) (λv12=>bif v9.2.1 then if 0<=v9.2.2.1 then(match v8.1.1[(v9.2.2.1).toNat]? with|some v13=>if 0<=v9.2.2.1 then(match v5.2.1[(v9.2.2.1).toNat]? with|some v14=>v12 ((),v13 == v14,())|none=>none)else none|none=>none)else none else v12 ((),false,()))else bif v9.2.1 then some ((v8.1.1,()),())else v6 ((),v8.1.1,IntKind.wrap .i64 (v5.2.2.1+1),())) v1 ((),true,0,())))else some ((v5.2.1,()),())) v1 ((),v4.2.2.1,0,())
theorem Yf(n:Nat)(yp:Oc)(yq:Od)(h:RX yp yq):fL Tryz.prog 240 (Vi (AY n yp yq)):=(fb n [⟨_,F239 n⟩,⟨_,⟨_,h.1,RW⟩⟩,⟨_,⟨_,h.2,Vj⟩⟩] [21,22] [] [] Tryz.func240 Tryz.results240 Tryz.ntmps240 (.seq .nop (.seq (.seq .nop (.block none (.loop ⟨[],[.val 2 eC,.val 7 y2],[0,1]⟩ (.seq .nop (.seq (.block none (.seq .nop (.seq .nop (.seq (.seq .nop (.block none (.loop ⟨[],[.val 9 y4,.val 10 y2],[0,1,2,7,8]⟩ (.seq .nop (.seq (.block none (.reg (some ⟨[],[.val 9 y4],[0,1,2,7,8,10]⟩) [])) .nop))))) .nop)))) .nop))))) .nop)) A1 A16 [] [] (AY n yp yq)).o
def gb(n:Nat):Nat->(T79->T40)×(T79->T40)
 |0=>(λ_=>none,λ_=>none)
 |d+1=>(λx=>lm n (gb n d).1 (gb n d).2 x,λx=>AY n (gb n d).1 (gb n d).2 x)
theorem RY(n:Nat):∀ d,RX (gb n d).1 (gb n d).2
 |0=>⟨(λx r h=>by cases h),(λx r h=>by cases h)⟩
 |d+1=>⟨Ye n _ _ (RY n d),Yf n _ _ (RY n d)⟩
def RZ(n:Nat)(x:T79):T40:=(gb n n).1 x
def F218(n:Nat):Fb 218:=⟨RU (RZ n),(RY n n).1,RW⟩
def Oe(v1:Nat)(v2:(U15×U0×Unit)):T17:=if 0<=(Wi ((v2.2.1.length:Int)+1))/\(Wi ((v2.2.1.length:Int)+1))<=(Wi ((v2.2.1.length:Int)+1))then if(Wi ((v2.2.1.length:Int)+1)).toNat*1<=140737488355328 then if(0:Int)<=(0:Int)then(match(List.replicate (Wi ((v2.2.1.length:Int)+1)).toNat false)[(0:Int).toNat]? with|some v3=>if(0:Int)<=(0:Int)then(match(List.replicate (Wi ((v2.2.1.length:Int)+1)).toNat false)[(0:Int).toNat]? with|some v4=>ah (RZ v1 (v2.1,v2.2.1,List.set (List.replicate (Wi ((v2.2.1.length:Int)+1)).toNat false) (0:Int).toNat true,())) (λ(v5:T18)=>if 0<=(v2.2.1.length:Int)then(match v5.1.1[(v2.2.1.length:Int).toNat]? with|some v6=>some ((v6,()),())|none=>none)else none)|none=>none)else none|none=>none)else none else none else none
def F172(n:Nat):Fb 172:=fb n [⟨_,F218 n⟩] [] [] [] Tryz.func172 Tryz.results172 Tryz.ntmps172 (.nop) [(nn,.ro),(y9,.ro)] A20 [] [] (Oe n)
end
noncomputable section
def Hu(v1:Nat)(v2:T1):T15:=aq (λ(v3:T2)=>some ((3,()),())) (λv4=>aq (λ(v5:T2)=>v4 ((),())) (λv6=>aq (λ(v7:T5)=>bif v7.2.1 then some ((1,()),())else aq (λ(v8:T5)=>bif v8.2.1 then some ((2,()),())else aq (λ(v9:T5)=>bif v9.2.1 then v6 ((),())else aq (λ(v10:T5)=>bif v10.2.1 then v6 ((),())else Bd (v2.1=95) (v4 ((),())) (aq (λ(v11:T5)=>bif v11.2.1 then some ((4,()),())else some ((0,()),())) (λv12=>Bd (32<v2.1) (v12 ((),decide (v2.1<=126),())) (v12 ((),false,()))))) (λv13=>Bd (65<=v2.1) (v13 ((),decide (v2.1<=90),())) (v13 ((),false,())))) (λv14=>Bd (97<=v2.1) (v14 ((),decide (v2.1<=122),())) (v14 ((),false,())))) (λv15=>Bd (48<=v2.1) (v15 ((),decide (v2.1<=57),())) (v15 ((),false,())))) (λv16=>Bd (v2.1=32) (v16 ((),decide (v2.1=32),())) (aq (λ(v17:T5)=>v16 ((),v17.2.1,())) (λv18=>Bd (v2.1=9) (v18 ((),decide (v2.1=9),())) (aq (λ(v19:T5)=>v18 ((),v19.2.1,())) (λv20=>Bd (v2.1=10) (v20 ((),decide (v2.1=10),())) (v20 ((),decide (v2.1=13),())))))))))
def F201(n:Nat):Fb 201:=fb n [] [] [] [] Tryz.func201 Tryz.results201 Tryz.ntmps201 (sn_ (.seq (.block none (.seq (.block none (.seq (.block (some ⟨[],[],[]⟩) (.block (some ⟨[],[],[]⟩) (.block none (.seq (.block none (.seq (.block none (.seq (.seq (.seq (sn_ (cs_ ⟨[],[.val 3 y4],[0]⟩ .nop (sn_ (cs_ ⟨[],[.val 3 y4],[0]⟩ .nop (sn_ (cs_ ⟨[],[.val 3 y4],[0]⟩ .nop .nop)))))) .nop) (.seq (.seq (rs_ ⟨[],[.val 12 y4],[0]⟩ []) .nop) (.seq (.seq (rs_ ⟨[],[.val 19 y4],[0]⟩ []) .nop) (.seq (.seq (rs_ ⟨[],[.val 26 y4],[0]⟩ []) .nop) (sn_ (.seq (rs_ ⟨[],[.val 36 y4],[]⟩ []) .nop)))))) .nop)) .nop)) .nop)))) .nop)) .nop)) .nop)) [(y5,.ro)] A21 [] [] (Hu n)
def Hv(v1:Nat)(v2:T6):T17:=aq (λ(v3:T5)=>bif v3.2.1 then some ((false,()),())else aC (λ(v4:T4)=>λv5=>Bd (v4.2.1<(v2.1.length:Int)) (Ld v2.1 v4.2.1 λv6=>ah (Hu v1 (v6,())) (λ(v7:T7)=>aq (λ(v8:T5)=>bif v8.2.1 then some ((false,()),())else v5 ((),Wi (v4.2.1+1),())) (λv9=>bif !(decide (v7.1.1=2))then v9 ((),!(decide (v7.1.1=3)),())else v9 ((),false,())))) (some ((true,()),()))) v1 ((),0,())) (λv10=>Bd (40<(v2.1.length:Int)) (v10 ((),true,())) (Bd (v2.1=([]:List Int)) (v10 ((),true,())) (if(0:Int)<=(0:Int)then(match v2.1[(0:Int).toNat]? with|some v11=>ah (Hu v1 (v11,())) (λ(v12:T7)=>v10 ((),!(decide (v12.1.1=3)),()))|none=>none)else none)))
def F158(n:Nat):Fb 158:=fb n [⟨_,F201 n⟩] [] [] [] Tryz.func158 Tryz.results158 Tryz.ntmps158 (sn_ (.seq (.seq (rs_ ⟨[],[.val 17 y4],[0]⟩ []) .nop) (.seq (sn_ (bk_ ⟨[],[.val 20 y2],[0,19]⟩ (sn_ (sn_ (.seq (.block none (sn_ (sn_ (.seq (rs_ ⟨[],[.val 32 y4],[0,19,20]⟩ []) .nop)))) .nop))))) .nop))) A22 A20 [] [] (Hv n)
def Of(v1:Nat)(v2:(U26×U19×Unit)):T15:=ah (Hv v1 (v2.1.1,())) (λ(v3:T9)=>bif !v3.1.1 then some ((8,()),())else Bd (0<(cR (λ(v4:T0)=>λ(v5:T0)=>decide (v4=v5)) v2.1.1 v2.2.1)) (some ((9,()),())) (aq (λ(v6:T5)=>bif v6.2.1 then some ((1,()),())else ah (p68 v1 (v2.1.2.2,())) (λ(v7:T83)=>bif !(decide (v7.1.2.1=0))then some ((v7.1.2.1,()),())else ah (N5 v1 (v7.1.1,([]:List Int),())) (λ(v8:T7)=>Bd (0<=v8.1.1) (some ((14,()),())) (some ((0,()),()))))) (λv9=>Bd (v2.1.2.1<0) (v9 ((),true,())) (v9 ((),decide (2<v2.1.2.1),())))))
def F109(n:Nat):Fb 109:=fb n [⟨_,F158 n⟩,⟨_,F68 n⟩,⟨_,F128 n⟩] [30] [] [] Tryz.func109 Tryz.results109 Tryz.ntmps109 (.seq (rn_ [2]) (.seq (.block none (sn_ (.cond none .nop (sn_ (.cond none .nop (.seq (rs_ ⟨[],[.val 18 y4],[2]⟩ []) .nop)))))) (.seq (rn_ [5]) .nop))) [(y95,.ro),(wo,.ro)] A21 [] [] (Of n)
def p59(v1:Nat)(v2:T65):T28:=Bd (60<(v2.1.length:Int)) (some (((v2.1.length:Int),6,()),())) (aC (λ(v3:((U19×Unit)×Int×Unit))=>λv4=>Bd (v3.2.1<(v2.1.length:Int)) (Ld v2.1 v3.2.1 λv5=>ah (Of v1 (v5,v3.1.1,())) (λ(v6:T7)=>bif !(decide (v6.1.1=0))then some ((v3.2.1,v6.1.1,()),())else v4 ((eY (λ(v7:T0)=>λ(v8:T0)=>decide (v7=v8)) v5.1 (Wi ((cR (λ(v9:T0)=>λ(v10:T0)=>decide (v9=v10)) v5.1 v3.1.1)+1)) v3.1.1,()),Wi (v3.2.1+1),()))) (some (((v2.1.length:Int),0,()),()))) v1 ((([]:List (U0×Int)),()),0,()))
def F59(n:Nat):Fb 59:=fb n [⟨_,F109 n⟩] [] [] [] Tryz.func59 Tryz.results59 Tryz.ntmps59 (sn_ (sn_ (sn_ (.seq (sn_ (bk_ ⟨[(104,wo,mo_)],[.val 16 y2],[0,4,14,15]⟩ (sn_ (sn_ (.seq (.block none (.seq (rn_ [6]) .nop)) .nop))))) .nop)))) [(y28,.ro)] A14 [] [] (p59 n)
def Og(v1:Nat)(v2:T45):T15:=aC (λ(v3:T4)=>λv4=>Bd (v3.2.1<(v2.1.length:Int)) (Ld v2.1 v3.2.1 λv5=>Bd (v2.2.1=v5) (some ((v3.2.1,()),())) (v4 ((),Wi (v3.2.1+1),()))) (some ((-1,()),()))) v1 ((),0,())
def F202(n:Nat):Fb 202:=fb n [] [] [] [] Tryz.func202 Tryz.results202 Tryz.ntmps202 (sn_ (.seq (sn_ (bk_ ⟨[],[.val 8 y2],[0,1,7]⟩ .nop)) .nop)) [(y29,.ro),(y9,.ro)] A21 [] [] (Og n)
def Oh(v1:Nat)(v2:T45):T17:=ah (Og v1 (v2.1,v2.2.1,())) (λ(v3:T7)=>some ((decide (0<=v3.1.1),()),()))
def F159(n:Nat):Fb 159:=fb n [⟨_,F202 n⟩] [] [] [] Tryz.func159 Tryz.results159 Tryz.ntmps159 (.nop) [(y29,.ro),(y9,.ro)] A20 [] [] (Oh n)
def Oi(v1:Nat)(v2:((List U26)×U0×Unit)):T15:=aC (λ(v3:T4)=>λv4=>Bd (v3.2.1<(v2.1.length:Int)) (Ld v2.1 v3.2.1 λv5=>Bd (v5.1=v2.2.1) (some ((v3.2.1,()),())) (v4 ((),Wi (v3.2.1+1),()))) (some ((-1,()),()))) v1 ((),0,())
def F160(n:Nat):Fb 160:=fb n [] [] [] [] Tryz.func160 Tryz.results160 Tryz.ntmps160 (sn_ (.seq (sn_ (bk_ ⟨[],[.val 9 y2],[1,7,8]⟩ (sn_ (sn_ (.seq (.block none (.seq (rn_ [6]) .nop)) .nop))))) .nop)) [(y28,.ro),(y9,.ro)] A21 [] [] (Oi n)
def p90(v1:Nat)(v2:o4):T50:=Bd (300<(v2.1.2.1.length:Int)) (some (((6,2,(v2.1.2.1.length:Int)),()),())) (aC (λ(v3:T42)=>λv4=>Bd (v3.2.1<(v2.1.2.1.length:Int)) (Ld v2.1.2.1 v3.2.1 λv5=>ah (Hv v1 (v5,())) (λ(v6:T9)=>bif !v6.1.1 then some (((8,2,v3.2.1),()),())else aq (λ(v7:T46)=>bif v7.2.1 then some (((9,2,v3.2.1),()),())else v4 ((v7.1.1,()),Wi (v3.2.1+1),())) (λv8=>if(0:Int)<=(0:Int)/\(0:Int)<=v3.2.1/\v3.2.1<=(v2.1.2.1.length:Int)then ah (Oh v1 (cn v2.1.2.1 (0:Int) v3.2.1,v5,())) (λ(v9:T9)=>bif v9.1.1 then v8 ((v3.1.1,()),true,())else ah (Oi v1 (v2.1.1,v5,())) (λ(v10:T7)=>v8 ((v3.1.1,()),decide (0<=v10.1.1),())))else none))) (some (((0,0,0),()),()))) v1 (((0,0,0),()),0,()))
def F90(n:Nat):Fb 90:=fb n [⟨_,F158 n⟩,⟨_,F159 n⟩,⟨_,F160 n⟩] [] [] [] Tryz.func90 Tryz.results90 Tryz.ntmps90 (.seq (rn_ [1]) (sn_ (.seq (sn_ (bk_ ⟨NI,[.val 16 y2],[1,2,14,15]⟩ (sn_ (sn_ (.seq (.block none (sn_ (.block none (sn_ (.cond none .nop (.seq (rs_ ⟨NI,[.val 27 y4],[1,2,3,14,15,16]⟩ []) .nop)))))) .nop))))) (.seq (rn_ [2]) .nop)))) A18 [(G7,.ro)] [] [] (p90 n)
def Hw(v1:Nat)(v2:UP):T17:=bif v2.2.1.1 then aq (λ(v3:T5)=>some ((v3.2.1,()),())) (λv4=>Bd (0<=v2.2.1.2) (v4 ((),decide (v2.2.1.2<(v2.1.2.1.length:Int)),())) (v4 ((),false,())))else aq (λ(v5:T5)=>some ((v5.2.1,()),())) (λv6=>Bd (0<=v2.2.1.2) (Bd (v2.2.1.2<(v2.1.1.length:Int)) (Ld v2.1.1 v2.2.1.2 λv7=>v6 ((),decide (v7.2.1=0),())) (v6 ((),false,()))) (v6 ((),false,())))
def F161(n:Nat):Fb 161:=fb n [] [] [] [] Tryz.func161 Tryz.results161 Tryz.ntmps161 (.seq (rn_ [2,3]) (.seq (sn_ (.cond none (.seq (rs_ ⟨[],[.val 4 y4],[]⟩ []) .nop) .nop)) (.seq (rs_ ⟨[],[.val 4 y4],[]⟩ []) .nop))) [(y32,.ro),(y62,.ro)] A20 [] [] (Hw n)
theorem Hx:xZ Tryz.prog 63:=⟨by kernel_rfl,by kernel_rfl,by kernel_rfl⟩
def Oj(v1:Nat)(v2:T85):T17:=aq (λ(v3:T5)=>some ((v3.2.1,()),())) (λv4=>Bd ((v2.1.2.2.1.length:Int)=3) (if(0:Int)<=(0:Int)then(match v2.1.2.2.1[(0:Int).toNat]? with|some v5=>bif !v5.1 then if(0:Int)<=(1:Int)then(match v2.1.2.2.1[(1:Int).toNat]? with|some v6=>bif bif v6.1 == true then decide (v6.2=v2.1.1)else false then if(0:Int)<=(2:Int)then(match v2.1.2.2.1[(2:Int).toNat]? with|some v7=>v4 ((),!v7.1,())|none=>none)else none else v4 ((),false,())|none=>none)else none else v4 ((),false,())|none=>none)else none) (v4 ((),false,())))
def F162(n:Nat):Fb 162:=fb n [] [] [] [⟨_,Hx⟩] Tryz.func162 Tryz.results162 Tryz.ntmps162 (.seq (rn_ [1]) (.seq (rs_ ⟨[],[.val 2 y4],[]⟩ []) .nop)) [(y78,.ro)] A20 [] [] (Oj n)
def p91(v1:Nat)(v2:uN):T15:=Ld v2.1.2.2.1 v2.2.1 λv3=>aq (λ(v4:T5)=>bif v4.2.1 then some ((11,()),())else ah (Hv v1 (v3.2.1,())) (λ(v5:T9)=>bif !v5.1.1 then some ((8,()),())else Bd (12<(v3.2.2.1.length:Int)) (some ((6,()),())) (bif !(decide ((v3.2.2.2.2.2.length:Int)=(if(Wi ((v3.2.2.1.length:Int)-1))<(0:Int)then(0:Int)else Wi ((v3.2.2.1.length:Int)-1))))then some ((1,()),())else if(0:Int)<=(0:Int)/\(0:Int)<=v2.2.1/\v2.2.1<=(v2.1.2.2.1.length:Int)then aC (λ(v6:T4)=>λv7=>Bd (v6.2.1<((List.length (cn v2.1.2.2.1 (0:Int) v2.2.1):Nat):Int)) (if 0<=v6.2.1 then(match(cn v2.1.2.2.1 (0:Int) v2.2.1)[(v6.2.1).toNat]? with|some v8=>Bd (v8.2.1=v3.2.1) (some ((9,()),())) (v7 ((),Wi (v6.2.1+1),()))|none=>none)else none) (aC (λ(v9:T4)=>λv10=>Bd (v9.2.1<(v3.2.2.1.length:Int)) (Ld v3.2.2.1 v9.2.1 λv11=>ah (Hw v1 (v2.1,v11,())) (λ(v12:T9)=>bif !v12.1.1 then some ((11,()),())else v10 ((),Wi (v9.2.1+1),()))) (aC (λ(v13:T4)=>λv14=>Bd (v13.2.1<(v3.2.2.2.2.2.length:Int)) (Ld v3.2.2.2.2.2 v13.2.1 λv15=>aq (λ(v16:T5)=>bif v16.2.1 then some ((1,()),())else v14 ((),Wi (v13.2.1+1),())) (λv17=>Bd (v15<0) (v17 ((),true,())) (v17 ((),decide (3<v15),())))) (aq (λ(v18:T5)=>bif v18.2.1 then some ((11,()),())else aq (λ(v19:T5)=>bif v19.2.1 then some ((15,()),())else some ((0,()),())) (λv20=>bif v3.2.2.2.1 then ah (Oj v1 (v3,())) (λ(v21:T9)=>v20 ((),!v21.1.1,()))else v20 ((),false,()))) (λv22=>bif !(decide (v3.2.2.2.2.1=(-1)))then Bd (v3.2.2.2.2.1<0) (v22 ((),true,())) (ah (Hw v1 (v2.1,(false,v3.2.2.2.2.1),())) (λ(v23:T9)=>v22 ((),!v23.1.1,())))else v22 ((),false,())))) v1 ((),0,()))) v1 ((),0,()))) v1 ((),0,())else none))) (λv24=>Bd (v3.1<0) (v24 ((),true,())) (v24 ((),decide ((v2.1.2.1.length:Int)<=v3.1),())))
def F91(n:Nat):Fb 91:=fb n [⟨_,F158 n⟩,⟨_,F161 n⟩,⟨_,F162 n⟩] [] [] [] Tryz.func91 Tryz.results91 Tryz.ntmps91 (.seq (rn_ [2]) (.seq (rn_ [5]) (.seq (.block none (.seq (rs_ ⟨[],[.val 17 y4],[1,2,5]⟩ []) .nop)) (.seq (sn_ (bk_ ⟨[],[.val 54 y2],[2,5,52,53]⟩ (sn_ (sn_ (.seq (.block none (.seq (rn_ [7]) .nop)) .nop))))) (.seq (sn_ (bk_ ⟨[],[.val 67 y2],[2,5,65,66]⟩ (sn_ (sn_ (.seq (.block none (.seq (rn_ [9]) .nop)) .nop))))) (.seq (sn_ (bk_ ⟨[],[.val 79 y2],[2,5,77,78]⟩ (sn_ (sn_ (.seq (.block none (sn_ (.seq (rs_ ⟨[],[.val 88 y4],[2,5,77,78,79]⟩ []) .nop))) .nop))))) (.seq (.seq (rs_ ⟨[],[.val 105 y4],[5]⟩ []) .nop) (.seq (.seq (rs_ ⟨[],[.val 112 y4],[]⟩ []) .nop) .nop)))))))) A12 A21 [] [] (p91 n)
def p92(v1:Nat)(v2:o4):T50:=aC (λ(v3:T78)=>λv4=>Bd (v3.2.1<(v2.1.2.2.2.1.length:Int)) (Ld v2.1.2.2.2.1 v3.2.1 λv5=>aq (λ(v6:((U11×U8×Unit)×Bool×Unit))=>bif v6.2.1 then some (((1,4,v3.2.1),()),())else aC (λ(v7:T78)=>λv8=>Bd (v7.2.1<(v5.2.length:Int)) (Ld v5.2 v7.2.1 λv9=>ah (Hw v1 (v2.1,(false,v9),())) (λ(v10:T9)=>bif !v10.1.1 then some (((11,4,v3.2.1),()),())else Bd (0<(cR (λ(v11:Int)=>λ(v12:Int)=>decide (v11=v12)) v9 v7.1.2.1)) (some (((9,4,v3.2.1),()),())) (v8 ((v7.1.1,eY (λ(v13:Int)=>λ(v14:Int)=>decide (v13=v14)) v9 (Wi ((cR (λ(v15:Int)=>λ(v16:Int)=>decide (v15=v16)) v9 v7.1.2.1)+1)) v7.1.2.1,()),Wi (v7.2.1+1),())))) (v4 ((v7.1.1,v7.1.2.1,()),Wi (v3.2.1+1),()))) v1 ((v6.1.1,v6.1.2.1,()),0,())) (λv17=>Bd (v5.1<1) (v17 ((v3.1.1,v3.1.2.1,()),true,())) (Bd (3<v5.1) (v17 ((v3.1.1,v3.1.2.1,()),true,())) (Bd ((v5.2.length:Int)=0) (v17 ((v3.1.1,v3.1.2.1,()),true,())) (v17 ((v3.1.1,v3.1.2.1,()),decide (60<=v3.2.1),())))))) (some (((0,0,0),()),()))) v1 (((0,0,0),([]:List U24),()),0,())
def F92(n:Nat):Fb 92:=fb n [⟨_,F161 n⟩] [] [] [] Tryz.func92 Tryz.results92 Tryz.ntmps92 (.seq (rn_ [1]) (sn_ (.seq (sn_ (bk_ ⟨RN,[.val 12 y2],[1,2,3,10,11]⟩ (sn_ (sn_ (.seq (.block none (.seq (rn_ [5]) (.seq (.seq (rs_ ⟨RN,[.val 34 y4],[1,2,3,4,5,10,11,12]⟩ []) .nop) (sn_ (bk_ ⟨RN,[.val 40 y2],[1,2,3,4,10,11,12,38,39]⟩ .nop))))) .nop))))) (.seq (rn_ [2]) .nop)))) A18 [(G7,.ro)] [] [] (p92 n)
def p43(v1:Nat)(v2:o4):T50:=ah (p59 v1 (v2.1.1,())) (λ(v3:T13)=>bif !(decide (v3.1.2.1=0))then some (((v3.1.2.1,1,v3.1.1),()),())else ah (p90 v1 (v2.1,())) (λ(v4:T29)=>bif !(decide (v4.1.1.1=0))then some ((v4.1.1,()),())else Bd (200<(v2.1.2.2.1.length:Int)) (some (((6,3,(v2.1.2.2.1.length:Int)),()),())) (aC (λ(v5:T42)=>λv6=>Bd (v5.2.1<(v2.1.2.2.1.length:Int)) (ah (p91 v1 (v2.1,v5.2.1,())) (λ(v7:T7)=>bif !(decide (v7.1.1=0))then some (((v7.1.1,3,v5.2.1),()),())else v6 ((v5.1.1,()),Wi (v5.2.1+1),()))) (ah (p92 v1 (v2.1,())) (λ(v8:T29)=>bif !(decide (v8.1.1.1=0))then some ((v8.1.1,()),())else aq (λ(v9:T46)=>bif v9.2.1 then some (((11,5,0),()),())else some (((0,0,0),()),())) (λv10=>Bd (v2.1.2.2.2.2<0) (v10 ((v5.1.1,()),true,())) (v10 ((v5.1.1,()),decide ((v2.1.2.1.length:Int)<=v2.1.2.2.2.2),())))))) v1 (((0,0,0),()),0,()))))
def F43(n:Nat):Fb 43:=fb n [⟨_,F59 n⟩,⟨_,F90 n⟩,⟨_,F91 n⟩,⟨_,F92 n⟩] [] [] [] Tryz.func43 Tryz.results43 Tryz.ntmps43 (.seq (rn_ [1]) (sn_ (.seq (.seq (rn_ [5]) .nop) (sn_ (.seq (sn_ (bk_ ⟨NI,[.val 37 y2],[1,2,36]⟩ .nop)) (.seq (.seq (rn_ [8]) .nop) (.seq (.seq (rs_ ⟨NI,[.val 65 y4],[2]⟩ []) .nop) (.seq (rn_ [2]) .nop)))))))) A18 [(G7,.ro)] [] [] (p43 n)
def Ol(v1:Nat)(v2:T1):T15:=ah (AT v1 (([32,9,10,13]:List Int),v2.1,())) (λ(v3:T9)=>bif v3.1.1 then some ((1,()),())else ah (AT v1 (([48,49,50,51,52,53,54,55,56,57]:List Int),v2.1,())) (λ(v4:T9)=>bif v4.1.1 then some ((2,()),())else aq (λ(v5:T5)=>bif v5.2.1 then some ((3,()),())else aq (λ(v6:T5)=>bif v6.2.1 then some ((4,()),())else some ((0,()),())) (λv7=>Bd (32<v2.1) (v7 ((),decide (v2.1<127),())) (v7 ((),false,())))) (λv8=>ah (J6 v1 (v2.1,())) (λ(v9:T9)=>bif v9.1.1 then v8 ((),true,())else v8 ((),decide (v2.1=95),())))))
def F197(n:Nat):Fb 197:=fb n [⟨_,F227 n⟩,⟨_,F228 n⟩] [] [] [] Tryz.func197 Tryz.results197 Tryz.ntmps197 (sn_ (.seq (.block none (sn_ (.cond none .nop (sn_ (.cond none .nop (.seq (rs_ ⟨[],[.val 9 y4],[0]⟩ []) (.cond none .nop (.seq (rs_ ⟨[],[.val 16 y4],[]⟩ []) .nop)))))))) .nop)) [(y5,.ro)] A21 [] [] (Ol n)
def Hy(v1:Nat)(v2:T6):T17:=aC (λ(v3:T4)=>λv4=>Bd (v3.2.1<(v2.1.length:Int)) (Ld v2.1 v3.2.1 λv5=>ah (Ol v1 (v5,())) (λ(v6:T7)=>aq (λ(v7:T5)=>bif v7.2.1 then some ((false,()),())else v4 ((),Wi (v3.2.1+1),())) (λv8=>bif !(decide (v6.1.1=3))then bif !(decide (v6.1.1=2))then v8 ((),true,())else v8 ((),decide (v3.2.1=0),())else v8 ((),false,())))) (aq (λ(v9:T5)=>some ((v9.2.1,()),())) (λv10=>Bd (1<=(v2.1.length:Int)) (v10 ((),decide ((v2.1.length:Int)<=40),())) (v10 ((),false,()))))) v1 ((),0,())
def F147(n:Nat):Fb 147:=fb n [⟨_,F197 n⟩] [] [] [] Tryz.func147 Tryz.results147 Tryz.ntmps147 (sn_ (.seq (sn_ (bk_ ⟨[],[.val 3 y2],[0]⟩ (sn_ (.seq (.block none (sn_ (.seq (rs_ ⟨[],[.val 24 y4],[0,3]⟩ []) .nop))) .nop)))) (.seq (rs_ ⟨[],[.val 2 y4],[]⟩ []) .nop))) A22 A20 [] [] (Hy n)
def Om(v1:Nat)(v2:((List U26)×Int×Unit)):T15:=Ld v2.1 v2.2.1 λv3=>ah (Hy v1 (v3.1,())) (λ(v4:T9)=>bif !v4.1.1 then some ((8,()),())else aC (λ(v5:T4)=>λv6=>Bd (v5.2.1<v2.2.1) (Ld v2.1 v5.2.1 λv7=>Bd (v7.1=v3.1) (some ((9,()),())) (v6 ((),Wi (v5.2.1+1),()))) (aq (λ(v8:T5)=>bif v8.2.1 then some ((1,()),())else ah (Ob v1 (v3.2.2,())) (λ(v9:T67)=>bif !(decide (v9.1.2.1=0))then some ((v9.1.2.1,()),())else ah (Oe v1 (v9.1.1,([]:List Int),())) (λ(v10:T9)=>bif v10.1.1 then some ((14,()),())else some ((0,()),())))) (λv11=>Bd (v3.2.1<0) (v11 ((),true,())) (v11 ((),decide (2<v3.2.1),()))))) v1 ((),0,()))
def F108(n:Nat):Fb 108:=fb n [⟨_,F147 n⟩,⟨_,F171 n⟩,⟨_,F172 n⟩] [41] [] [] Tryz.func108 Tryz.results108 Tryz.ntmps108 (sn_ (.seq (rn_ [5]) (sn_ (.seq (sn_ (bk_ ⟨[],[.val 6 y2],[0,1,5]⟩ .nop)) (.seq (.seq (rs_ ⟨[],[.val 37 y4],[5]⟩ []) .nop) .nop))))) [(y28,.ro),(y2,.ro)] A21 [] [] (Om n)
def p58(v1:Nat)(v2:T65):T28:=Bd (60<(v2.1.length:Int)) (some (((v2.1.length:Int),6,()),())) (aC (λ(v3:T4)=>λv4=>Bd (v3.2.1<(v2.1.length:Int)) (ah (Om v1 (v2.1,v3.2.1,())) (λ(v5:T7)=>bif !(decide (v5.1.1=0))then some ((v3.2.1,v5.1.1,()),())else v4 ((),Wi (v3.2.1+1),()))) (some (((v2.1.length:Int),0,()),()))) v1 ((),0,()))
def F58(n:Nat):Fb 58:=fb n [⟨_,F108 n⟩] [] [] [] Tryz.func58 Tryz.results58 Tryz.ntmps58 (sn_ (sn_ (.seq (sn_ (bk_ ⟨[],[.val 4 y2],[0]⟩ .nop)) .nop))) [(y28,.ro)] A14 [] [] (p58 n)
def p78(v1:Nat)(v2:uN):T15:=Ld v2.1.2.1 v2.2.1 λv3=>ah (Hy v1 (v3,())) (λ(v4:T9)=>bif !v4.1.1 then some ((8,()),())else aC (λ(v5:T4)=>λv6=>Bd (v5.2.1<v2.2.1) (Ld v2.1.2.1 v5.2.1 λv7=>Ld v2.1.2.1 v2.2.1 λv8=>Bd (v7=v8) (some ((9,()),())) (v6 ((),Wi (v5.2.1+1),()))) (aC (λ(v9:T4)=>λv10=>Bd (v9.2.1<(v2.1.1.length:Int)) (Ld v2.1.1 v9.2.1 λv11=>Ld v2.1.2.1 v2.2.1 λv12=>Bd (v11.1=v12) (some ((9,()),())) (v10 ((),Wi (v9.2.1+1),()))) (some ((0,()),()))) v1 ((),0,()))) v1 ((),0,()))
def F78(n:Nat):Fb 78:=fb n [⟨_,F147 n⟩] [] [] [] Tryz.func78 Tryz.results78 Tryz.ntmps78 (.seq (rn_ [2]) (sn_ (.seq (sn_ (bk_ ⟨[],[.val 5 y2],[1,2]⟩ .nop)) (.seq (sn_ (bk_ ⟨[],[.val 6 y2],[1,2]⟩ .nop)) .nop)))) A12 A21 [] [] (p78 n)
def Hz(v1:Nat)(v2:UP):T17:=bif v2.2.1.1 then aq (λ(v3:T5)=>some ((v3.2.1,()),())) (λv4=>Bd (0<=v2.2.1.2) (v4 ((),decide (v2.2.1.2<(v2.1.2.1.length:Int)),())) (v4 ((),false,())))else aq (λ(v5:T5)=>some ((v5.2.1,()),())) (λv6=>Bd (0<=v2.2.1.2) (Bd (v2.2.1.2<(v2.1.1.length:Int)) (Ld v2.1.1 v2.2.1.2 λv7=>v6 ((),decide (v7.2.1=0),())) (v6 ((),false,()))) (v6 ((),false,())))
def F148(n:Nat):Fb 148:=fb n [] [] [] [] Tryz.func148 Tryz.results148 Tryz.ntmps148 (.seq (rn_ [2,3]) (.seq (sn_ (.cond none (.seq (rs_ ⟨[],[.val 4 y4],[]⟩ []) .nop) .nop)) (.seq (rs_ ⟨[],[.val 4 y4],[]⟩ []) .nop))) [(y32,.ro),(y62,.ro)] A20 [] [] (Hz n)
def On(v1:Nat)(v2:T85):T17:=aq (λ(v3:T5)=>some ((v3.2.1,()),())) (λv4=>Bd ((v2.1.2.2.1.length:Int)=3) (if(0:Int)<=(0:Int)then(match v2.1.2.2.1[(0:Int).toNat]? with|some v5=>bif !v5.1 then if(0:Int)<=(1:Int)then(match v2.1.2.2.1[(1:Int).toNat]? with|some v6=>bif v6.1 then if(0:Int)<=(1:Int)then(match v2.1.2.2.1[(1:Int).toNat]? with|some v7=>Bd (v7.2=v2.1.1) (if(0:Int)<=(2:Int)then(match v2.1.2.2.1[(2:Int).toNat]? with|some v8=>v4 ((),!v8.1,())|none=>none)else none) (v4 ((),false,()))|none=>none)else none else v4 ((),false,())|none=>none)else none else v4 ((),false,())|none=>none)else none) (v4 ((),false,())))
def F149(n:Nat):Fb 149:=fb n [] [] [] [] Tryz.func149 Tryz.results149 Tryz.ntmps149 (.seq (rn_ [1]) (.seq (rs_ ⟨[],[.val 2 y4],[]⟩ []) .nop)) [(y78,.ro)] A20 [] [] (On n)
def p79(v1:Nat)(v2:uN):T15:=Ld v2.1.2.2.1 v2.2.1 λv3=>aq (λ(v4:T5)=>bif v4.2.1 then some ((11,()),())else ah (Hy v1 (v3.2.1,())) (λ(v5:T9)=>bif !v5.1.1 then some ((8,()),())else Bd (12<(v3.2.2.1.length:Int)) (some ((6,()),())) (bif !(decide ((v3.2.2.2.2.2.length:Int)=(if 0<(Wi ((v3.2.2.1.length:Int)-1))then Wi ((v3.2.2.1.length:Int)-1)else(0:Int))))then some ((1,()),())else aC (λ(v6:T4)=>λv7=>Bd (v6.2.1<v2.2.1) (Ld v2.1.2.2.1 v6.2.1 λv8=>Bd (v8.2.1=v3.2.1) (some ((9,()),())) (v7 ((),Wi (v6.2.1+1),()))) (aC (λ(v9:T4)=>λv10=>Bd (v9.2.1<(v3.2.2.1.length:Int)) (Ld v3.2.2.1 v9.2.1 λv11=>ah (Hz v1 (v2.1,v11,())) (λ(v12:T9)=>bif !v12.1.1 then some ((11,()),())else v10 ((),Wi (v9.2.1+1),()))) (aC (λ(v13:T4)=>λv14=>Bd (v13.2.1<(v3.2.2.2.2.2.length:Int)) (aq (λ(v15:T5)=>bif v15.2.1 then some ((1,()),())else v14 ((),Wi (v13.2.1+1),())) (λv16=>Ld v3.2.2.2.2.2 v13.2.1 λv17=>Bd (v17<0) (v16 ((),true,())) (Ld v3.2.2.2.2.2 v13.2.1 λv18=>v16 ((),decide (3<v18),())))) (aq (λ(v19:T5)=>bif v19.2.1 then some ((11,()),())else aq (λ(v20:T5)=>bif v20.2.1 then some ((15,()),())else some ((0,()),())) (λv21=>bif v3.2.2.2.1 then ah (On v1 (v3,())) (λ(v22:T9)=>v21 ((),!v22.1.1,()))else v21 ((),false,()))) (λv23=>bif !(decide (v3.2.2.2.2.1=(-1)))then ah (Hz v1 (v2.1,(false,v3.2.2.2.2.1),())) (λ(v24:T9)=>v23 ((),!v24.1.1,()))else v23 ((),false,())))) v1 ((),0,()))) v1 ((),0,()))) v1 ((),0,())))) (λv25=>Bd (v3.1<0) (v25 ((),true,())) (v25 ((),decide ((v2.1.2.1.length:Int)<=v3.1),())))
def F79(n:Nat):Fb 79:=fb n [⟨_,F147 n⟩,⟨_,F148 n⟩,⟨_,F149 n⟩] [] [] [] Tryz.func79 Tryz.results79 Tryz.ntmps79 (.seq (rn_ [2]) (.seq (rn_ [5]) (.seq (.seq (rs_ ⟨[],[.val 24 y4],[1,2,5]⟩ []) .nop) (sn_ (sn_ (sn_ (.seq (sn_ (bk_ ⟨[],[.val 6 y2],[1,2,5]⟩ .nop)) (.seq (sn_ (bk_ ⟨[],[.val 7 y2],[2,5]⟩ .nop)) (.seq (sn_ (bk_ ⟨[],[.val 8 y2],[2,5]⟩ (sn_ (.seq (.block none (.seq (rs_ ⟨[],[.val 91 y4],[2,5,8]⟩ []) .nop)) .nop)))) (.seq (.seq (rs_ ⟨[],[.val 102 y4],[5]⟩ []) .nop) (.seq (.seq (rs_ ⟨[],[.val 109 y4],[]⟩ []) .nop) .nop))))))))))) A12 A21 [] [] (p79 n)
def Oo(v1:Nat)(v2:RJ):T17:=aC (λ(v3:T4)=>λv4=>Bd (v3.2.1<=v2.2.1) (aC (λ(v5:T4)=>λv6=>Ld v2.1.2.2.2.1 v3.2.1 λv7=>Bd (v5.2.1<(v7.2.length:Int)) (aq (λ(v8:T5)=>bif v8.2.1 then some ((false,()),())else Ld v2.1.2.2.2.1 v3.2.1 λv9=>Ld v9.2 v5.2.1 λv10=>Ld v2.1.2.2.2.1 v2.2.1 λv11=>Ld v11.2 v2.2.2.1 λv12=>Bd (v10=v12) (some ((true,()),())) (v6 ((),Wi (v5.2.1+1),()))) (λv13=>Bd (v3.2.1=v2.2.1) (v13 ((),decide (v2.2.2.1<=v5.2.1),())) (v13 ((),false,())))) (v4 ((),Wi (v3.2.1+1),()))) v1 ((),0,())) (some ((false,()),()))) v1 ((),0,())
def F150(n:Nat):Fb 150:=fb n [] [] [] [] Tryz.func150 Tryz.results150 Tryz.ntmps150 (.seq (rn_ [3]) (.seq (sn_ (bk_ ⟨[],[.val 7 y2],[1,2,3]⟩ (sn_ (.seq (.block none (sn_ (bk_ ⟨[],[.val 8 y2],[1,2,3,7]⟩ (sn_ (.seq (.block none (.seq (.seq (rs_ ⟨[],[.val 32 y4],[1,2,3,7,8]⟩ []) .nop) .nop)) .nop))))) .nop)))) .nop)) A2 A20 [] [] (Oo n)
def p80(v1:Nat)(v2:uN):T15:=Ld v2.1.2.2.2.1 v2.2.1 λv3=>aq (λ(v4:T5)=>bif v4.2.1 then some ((1,()),())else aC (λ(v5:T4)=>λv6=>Bd (v5.2.1<(v3.2.length:Int)) (Ld v3.2 v5.2.1 λv7=>ah (Hz v1 (v2.1,(false,v7),())) (λ(v8:T9)=>bif !v8.1.1 then some ((11,()),())else ah (Oo v1 (v2.1,v2.2.1,v5.2.1,())) (λ(v9:T9)=>bif v9.1.1 then some ((9,()),())else v6 ((),Wi (v5.2.1+1),())))) (some ((0,()),()))) v1 ((),0,())) (λv10=>Bd (v3.1<1) (v10 ((),true,())) (Bd (3<v3.1) (v10 ((),true,())) (Bd ((v3.2.length:Int)=0) (v10 ((),true,())) (v10 ((),decide (60<=v2.2.1),())))))
def F80(n:Nat):Fb 80:=fb n [⟨_,F148 n⟩,⟨_,F150 n⟩] [] [] [] Tryz.func80 Tryz.results80 Tryz.ntmps80 (.seq (rn_ [2]) (.seq (rn_ [5]) (.seq (.seq (rs_ ⟨[],[.val 29 y4],[1,2,5]⟩ []) .nop) (.seq (sn_ (bk_ ⟨[],[.val 6 y2],[1,2,5]⟩ .nop)) .nop)))) A12 A21 [] [] (p80 n)
def p37(v1:Nat)(v2:o4):Option ((Int×Int×Int×Unit)×Unit):=ah (p58 v1 (v2.1.1,())) (λ(v3:T13)=>bif !(decide (v3.1.2.1=0))then some ((v3.1.2.1,1,v3.1.1,()),())else Bd (300<(v2.1.2.1.length:Int)) (some ((6,2,(v2.1.2.1.length:Int),()),())) (aC (λ(v4:T4)=>λv5=>Bd (v4.2.1<(v2.1.2.1.length:Int)) (ah (p78 v1 (v2.1,v4.2.1,())) (λ(v6:T7)=>bif !(decide (v6.1.1=0))then some ((v6.1.1,2,v4.2.1,()),())else v5 ((),Wi (v4.2.1+1),()))) (Bd (200<(v2.1.2.2.1.length:Int)) (some ((6,3,(v2.1.2.2.1.length:Int),()),())) (aC (λ(v7:T4)=>λv8=>Bd (v7.2.1<(v2.1.2.2.1.length:Int)) (ah (p79 v1 (v2.1,v7.2.1,())) (λ(v9:T7)=>bif !(decide (v9.1.1=0))then some ((v9.1.1,3,v7.2.1,()),())else v8 ((),Wi (v7.2.1+1),()))) (aC (λ(v10:T4)=>λv11=>Bd (v10.2.1<(v2.1.2.2.2.1.length:Int)) (ah (p80 v1 (v2.1,v10.2.1,())) (λ(v12:T7)=>bif !(decide (v12.1.1=0))then some ((v12.1.1,4,v10.2.1,()),())else v11 ((),Wi (v10.2.1+1),()))) (aq (λ(v13:T5)=>bif v13.2.1 then some ((11,5,0,()),())else some ((0,0,0,()),())) (λv14=>Bd (v2.1.2.2.2.2<0) (v14 ((),true,())) (v14 ((),decide ((v2.1.2.1.length:Int)<=v2.1.2.2.2.2),()))))) v1 ((),0,()))) v1 ((),0,())))) v1 ((),0,())))
def F37(n:Nat):Fb 37:=fb n [⟨_,F58 n⟩,⟨_,F78 n⟩,⟨_,F79 n⟩,⟨_,F80 n⟩] [] [] [] Tryz.func37 Tryz.results37 Tryz.ntmps37 (.seq (rn_ [1]) (sn_ (sn_ (.seq (sn_ (bk_ ⟨[],[.val 7 y2],[1]⟩ .nop)) (sn_ (.seq (sn_ (bk_ ⟨[],[.val 9 y2],[1]⟩ .nop)) (.seq (sn_ (bk_ ⟨[],[.val 11 y2],[1]⟩ .nop)) (.seq (.seq (rs_ ⟨[],[.val 89 y4],[]⟩ []) .nop) .nop)))))))) A18 [(y2,.ro),(y2,.ro),(y2,.ro)] [] [] (p37 n)
def p57(v1:Nat)(v2:T65):T17:=Bd (20<(v2.1.length:Int)) (some ((false,()),())) (aC (λ(v3:T4)=>λv4=>Bd (v3.2.1<(v2.1.length:Int)) (aq (λ(v5:T5)=>bif v5.2.1 then some ((false,()),())else v4 ((),Wi (v3.2.1+1),())) (λv6=>Ld v2.1 v3.2.1 λv7=>Bd (40<(v7.2.2.length:Int)) (v6 ((),true,())) (Ld v2.1 v3.2.1 λv8=>v6 ((),decide (100<(v8.1.length:Int)),())))) (some ((true,()),()))) v1 ((),0,()))
def F57(n:Nat):Fb 57:=fb n [] [] [] [] Tryz.func57 Tryz.results57 Tryz.ntmps57 (sn_ (sn_ (.seq (sn_ (bk_ ⟨[],[.val 3 y2],[0]⟩ (sn_ (.seq (.block none (.seq (rs_ ⟨[],[.val 28 y4],[0,3]⟩ []) .nop)) .nop)))) .nop))) [(y28,.ro)] A20 [] [] (p57 n)
def p35(v1:Nat)(v2:o4):T17:=aq (λ(v3:T5)=>bif v3.2.1 then some ((false,()),())else aC (λ(v4:T4)=>λv5=>Bd (v4.2.1<(v2.1.2.1.length:Int)) (Ld v2.1.2.1 v4.2.1 λv6=>Bd (100<(v6.length:Int)) (some ((false,()),())) (v5 ((),Wi (v4.2.1+1),()))) (aC (λ(v7:T4)=>λv8=>Bd (v7.2.1<(v2.1.2.2.1.length:Int)) (aq (λ(v9:T5)=>bif v9.2.1 then some ((false,()),())else v8 ((),Wi (v7.2.1+1),())) (λv10=>Ld v2.1.2.2.1 v7.2.1 λv11=>Bd (20<(v11.2.2.1.length:Int)) (v10 ((),true,())) (Ld v2.1.2.2.1 v7.2.1 λv12=>Bd (20<(v12.2.2.2.2.2.length:Int)) (v10 ((),true,())) (Ld v2.1.2.2.1 v7.2.1 λv13=>v10 ((),decide (100<(v13.2.1.length:Int)),()))))) (aC (λ(v14:T4)=>λv15=>Bd (v14.2.1<(v2.1.2.2.2.1.length:Int)) (Ld v2.1.2.2.2.1 v14.2.1 λv16=>Bd (20<(v16.2.length:Int)) (some ((false,()),())) (v15 ((),Wi (v14.2.1+1),()))) (some ((true,()),()))) v1 ((),0,()))) v1 ((),0,()))) v1 ((),0,())) (λv17=>ah (p57 v1 (v2.1.1,())) (λ(v18:T9)=>bif !v18.1.1 then v17 ((),true,())else Bd (20<(v2.1.2.1.length:Int)) (v17 ((),true,())) (Bd (40<(v2.1.2.2.1.length:Int)) (v17 ((),true,())) (v17 ((),decide (20<(v2.1.2.2.2.1.length:Int)),())))))
def F35(n:Nat):Fb 35:=fb n [⟨_,F57 n⟩] [] [] [] Tryz.func35 Tryz.results35 Tryz.ntmps35 (.seq (rn_ [1]) (.seq (.seq (rs_ ⟨[],[.val 27 y4],[1]⟩ []) .nop) (.seq (sn_ (bk_ ⟨[],[.val 3 y2],[1]⟩ .nop)) (.seq (sn_ (bk_ ⟨[],[.val 4 y2],[1]⟩ (sn_ (.seq (.block none (.seq (rs_ ⟨[],[.val 76 y4],[1,4]⟩ []) .nop)) .nop)))) (.seq (sn_ (bk_ ⟨[],[.val 5 y2],[1]⟩ .nop)) .nop))))) A18 A20 [] [] (p35 n)
end
noncomputable section
def HA(v1:Nat)(v2:T1):T15:=aq (λ(v3:T5)=>bif v3.2.1 then some ((0,()),())else if(IntKind.wrap .u64 v2.1)<0 then none else some ((IntKind.wrap .u64 ((1:Int)*2 ^ (Nat.min (Int.toNat (IntKind.wrap .u64 v2.1)) (IntKind.bits .u64))),()),())) (λv4=>Bd (v2.1<0) (v4 ((),true,())) (v4 ((),decide (63<v2.1),())))
def F100(n:Nat):Fb 100:=fb n [] [] [] [] Tryz.func100 Tryz.results100 Tryz.ntmps100 (sn_ (.seq (.seq (rs_ ⟨[],[.val 8 y4],[0]⟩ []) .nop) .nop)) A21 A19 [] [] (HA n)
def p93(v1:Nat)(v2:(U29×U17×Unit)):T33:=aC (λ(v3:T10)=>λv4=>Bd (v3.2.2.1<(v2.2.1.length:Int)) (Ld v2.2.1 v3.2.2.1 λv5=>bif !v5.1 then ah (HA v1 (v5.2,())) (λ(v6:T7)=>some ((dL .or .u64 v3.2.1 v6.1.1,false,()),()))else aq (λ(v7:T5)=>bif v7.2.1 then some ((v3.2.1,false,()),())else Ld v2.1.2 v5.2 λv8=>Ld v2.1.1 v5.2 λv9=>bif !v9 then some ((dL .or .u64 v3.2.1 v8,false,()),())else v4 ((),dL .or .u64 v3.2.1 v8,Wi (v3.2.2.1+1),())) (λv10=>Bd (v5.2<0) (v10 ((),true,())) (Bd ((v2.1.1.length:Int)<=v5.2) (v10 ((),true,())) (v10 ((),decide ((v2.1.2.length:Int)<=v5.2),()))))) (some ((v3.2.1,true,()),()))) v1 ((),0,0,())
def F93(n:Nat):Fb 93:=fb n [⟨_,F100 n⟩] [] [] [] Tryz.func93 Tryz.results93 Tryz.ntmps93 (.seq (rn_ [2]) (sn_ (.seq (sn_ (bk_ ⟨[],[.val 6 y12,.val 11 y2],[2,9,10]⟩ (sn_ (sn_ (.seq (.block none (.seq (rn_ [8]) (.seq (.block none (sn_ (.cond none .nop (.seq (rs_ ⟨[],[.val 24 y4],[2,6,8,9,10,11]⟩ []) .nop)))) .nop))) .nop))))) .nop))) [(C3,.ro),(y77,.ro)] A13 [] [] (p93 n)
def p44(v1:Nat)(v2:o4):Option ((U29×Unit)×Unit):=if 0<=(v2.1.2.1.length:Int)/\(v2.1.2.1.length:Int)<=(v2.1.2.1.length:Int)then if(v2.1.2.1.length:Int).toNat*1<=140737488355328 then if 0<=(v2.1.2.1.length:Int)/\(v2.1.2.1.length:Int)<=(v2.1.2.1.length:Int)then if(v2.1.2.1.length:Int).toNat*8<=140737488355328 then aC (λ(v3:T93)=>λv4=>bif v3.2.1 then aC (λ(v5:((U29×U29×Unit)×Bool×Int×Unit))=>λv6=>Bd (v5.2.2.1<(v2.1.2.2.1.length:Int)) (aq (λ(v7:T93)=>v6 ((v7.1.1,v7.1.2.1,()),v7.2.1,Wi (v5.2.2.1+1),())) (λv8=>Ld v2.1.2.2.1 v5.2.2.1 λv9=>aq (λ(v10:T93)=>bif v10.2.1 then v8 ((v10.1.1,v10.1.2.1,()),v5.2.1,())else ah (p93 v1 (v10.1.2.1,v9.2.2.1,())) (λ(v11:T14)=>aq (λ(v12:T93)=>aq (λ(v13:T93)=>v8 ((v13.1.1,v13.1.2.1,()),v13.2.1,())) (λv14=>bif v12.2.1 then Ld v12.1.2.1.2 v9.1 λv15=>Ld v12.1.2.1.2 v9.1 λv16=>Ld v12.1.2.1.2 v9.1 λv17=>aq (λ(v18:((U29×U29×Unit)×Unit))=>v14 ((v18.1.1,v18.1.2.1,()),true,())) (λv19=>Ld v12.1.2.1.1 v9.1 λv20=>bif v20 then Ld v12.1.2.1.1 v9.1 λv21=>Ld v12.1.2.1.1 v9.1 λv22=>v19 ((v12.1.1,(List.set v12.1.2.1.1 (v9.1).toNat true,List.set v12.1.2.1.2 (v9.1).toNat (dL .or .u64 v15 v11.1.1)),()),())else Ld v12.1.2.1.1 v9.1 λv23=>Ld v12.1.2.1.1 v9.1 λv24=>v19 ((v12.1.1,(List.set v12.1.2.1.1 (v9.1).toNat v11.1.2.1,List.set v12.1.2.1.2 (v9.1).toNat (dL .or .u64 v15 v11.1.1)),()),()))else v14 ((v12.1.1,v12.1.2.1,()),v5.2.1,()))) (λv25=>Ld v10.1.2.1.2 v9.1 λv26=>Ld v10.1.2.1.2 v9.1 λv27=>bif !(decide ((dL .or .u64 v26 v11.1.1)=v27))then v25 ((v10.1.1,v10.1.2.1,()),true,())else bif v11.1.2.1 then Ld v10.1.2.1.1 v9.1 λv28=>v25 ((v10.1.1,v10.1.2.1,()),!v28,())else v25 ((v10.1.1,v10.1.2.1,()),false,())))) (λv29=>Bd (v9.1<0) (v29 ((v5.1.1,v5.1.2.1,()),true,())) (v29 ((v5.1.1,v5.1.2.1,()),decide ((v2.1.2.1.length:Int)<=v9.1),()))))) (v4 ((v5.1.1,v5.1.2.1,()),v5.2.1,()))) v1 ((v3.1.1,v3.1.2.1,()),false,0,())else some ((v3.1.2.1,()),())) v1 (((([]:List Bool),([]:List Int)),(List.replicate (v2.1.2.1.length:Int).toNat false,List.replicate (v2.1.2.1.length:Int).toNat (0:Int)),()),true,())else none else none else none else none
def F44(n:Nat):Fb 44:=fb n [⟨_,F93 n⟩] [17] [] [] Tryz.func44 Tryz.results44 Tryz.ntmps44 (.seq (rn_ [1]) (sn_ (.seq (sn_ (bk_ ⟨Q4_,[.val 4 y4],[1,2,3]⟩ (sn_ (.block none (sn_ (sn_ (bk_ ⟨Q4_,[.val 4 y4,.val 22 y2],[1,2,3,20,21]⟩ (sn_ (sn_ (.seq (.block (some ⟨Q4_,[.val 4 y4],[1,2,3,20,21,22]⟩) (.seq (rn_ [6]) (.seq (.seq (rs_ ⟨Q4_,[.val 36 y4],[1,2,3,4,6,20,21,22]⟩ []) .nop) (sn_ (.seq (rs_ ⟨Q4_,[.val 70 y4],[1,2,3,4,6,7,8,20,21,22]⟩ []) (cs_ ⟨Q4_,[.val 4 y4],[1,2,3,20,21,22]⟩ (sn_ (.seq (rs_ ⟨Q4_,[],[1,2,3,20,21,22]⟩ []) .nop)) .nop)))))) .nop)))))))))) (.seq (.rgf none [3] [2]) .nop)))) A18 [(C3,.ro)] [] [] (p44 n)
def p46(v1:Nat)(v2:T26):T35:=if(0:Int)<=(0:Int)/\(0:Int)<=(Wi ((12:Int)*(v2.1.length:Int)))then if(Wi ((12:Int)*(v2.1.length:Int))).toNat*1<=140737488355328 then aC (λ(v3:T21)=>λv4=>Bd (v3.2.2.1<(v2.1.length:Int)) (Ld v2.1 v3.2.2.1 λv5=>if(8:Int)<0 then none else if(8:Int)<0 then none else Ap 1 (List.length v3.2.1+List.length ([(IntKind.wrap .u8 (Int.fdiv v5.1 (2 ^ (Nat.min (Int.toNat (8:Int)) (IntKind.bits .i64))))),(IntKind.wrap .u8 v5.1),(IntKind.wrap .u8 (Int.fdiv v5.2.1 (2 ^ (Nat.min (Int.toNat (8:Int)) (IntKind.bits .i64))))),(IntKind.wrap .u8 v5.2.1)]:List Int)) (aC (λ(v6:T21)=>λv7=>Bd (v6.2.2.1<8) (if(IntKind.wrap .u64 (Wi ((8:Int)*v6.2.2.1)))<0 then none else Ap 1 (List.length v6.2.1+List.length ([(IntKind.wrap .u8 (Int.fdiv v5.2.2 (2 ^ (Nat.min (Int.toNat (IntKind.wrap .u64 (Wi ((8:Int)*v6.2.2.1)))) (IntKind.bits .u64)))))]:List Int)) (v7 ((),v6.2.1++([(IntKind.wrap .u8 (Int.fdiv v5.2.2 (2 ^ (Nat.min (Int.toNat (IntKind.wrap .u64 (Wi ((8:Int)*v6.2.2.1)))) (IntKind.bits .u64)))))]:List Int),Wi (v6.2.2.1+1),()))) (v4 ((),v6.2.1,Wi (v3.2.2.1+1),()))) v1 ((),v3.2.1++([(IntKind.wrap .u8 (Int.fdiv v5.1 (2 ^ (Nat.min (Int.toNat (8:Int)) (IntKind.bits .i64))))),(IntKind.wrap .u8 v5.1),(IntKind.wrap .u8 (Int.fdiv v5.2.1 (2 ^ (Nat.min (Int.toNat (8:Int)) (IntKind.bits .i64))))),(IntKind.wrap .u8 v5.2.1)]:List Int),0,()))) (some ((v3.2.1,()),()))) v1 ((),List.replicate (0:Int).toNat (0:Int),0,())else none else none
def F46(n:Nat):Fb 46:=fb n [] [] [] [] Tryz.func46 Tryz.results46 Tryz.ntmps46 (sn_ (sn_ (.seq (sn_ (bk_ ⟨[],[.hdr 3 31 wq mo_,.val 13 y2],[11,12]⟩ (sn_ (sn_ (.seq (.block none (.seq (rn_ [5]) (sn_ (sn_ (bk_ ⟨[],[.hdr 3 31 wq mo_,.val 34 y2],[5,11,12,13]⟩ .nop))))) .nop))))) .nop))) A17 A22 [] [] (p46 n)
def p45(v1:Nat)(v2:(U2×U19×U10×Unit)):Option (U25×U19×U10×Unit):=ah (p46 v1 (v2.1,())) (λ(v3:T16)=>aq (λ(v4:((U19×U10×Unit)×Int×Unit))=>some ((v4.2.1,()),v4.1.1,v4.1.2.1,())) (λv5=>bif !(eX (λ(v6:T0)=>λ(v7:T0)=>decide (v6=v7)) v3.1.1 v2.2.1)then Ap 24 (List.length v2.2.2.1.1+List.length ([v2.1]:List U2)) (v5 ((eY (λ(v8:T0)=>λ(v9:T0)=>decide (v8=v9)) v3.1.1 (v2.2.2.1.1.length:Int) v2.2.1,(v2.2.2.1.1++([v2.1]:List U2),v2.2.2.1.2),()),(v2.2.2.1.1.length:Int),()))else v5 ((v2.2.1,v2.2.2.1,()),cR (λ(v10:T0)=>λ(v11:T0)=>decide (v10=v11)) v3.1.1 v2.2.1,())))
def F45(n:Nat):Fb 45:=fb n [⟨_,F46 n⟩] [] [] [] Tryz.func45 Tryz.results45 Tryz.ntmps45 (sn_ (sn_ (sn_ (.seq (sn_ (cs_ ⟨[(14,.box wo,.own mo_),(22,.box y43,.own Q0_)],[.val 6 y2],[1,2]⟩ .nop .nop)) .nop)))) [(fm,.ro),(.box wo,.own mo_),(.box y43,.own Q0_)] A21 [1,2] [(.box wo,.own mo_),(.box y43,.own Q0_)] (p45 n)
def Kb(v1:Nat)(v2:T1):T17:=some ((!(decide (v2.1=v2.1)),()),())
def F229(n:Nat):Fb 229:=fb n [] [] [] [] Tryz.func229 Tryz.results229 Tryz.ntmps229 (.nop) A21 A20 [] [] (Kb n)
def Kc(v1:Nat)(v2:T3):T15:=ah (Kb v1 (v2.1,())) (λ(v3:T9)=>ah (Kb v1 (v2.2.1,())) (λ(v4:T9)=>bif v3.1.1 then bif v4.1.1 then some ((0,()),())else some ((-1,()),())else bif v4.1.1 then some ((1,()),())else Bd (v2.1<v2.2.1) (some ((-1,()),())) (Bd (v2.2.1<v2.1) (some ((1,()),())) (some ((0,()),())))))
def F203(n:Nat):Fb 203:=fb n [⟨_,F229 n⟩] [] [] [] Tryz.func203 Tryz.results203 Tryz.ntmps203 (.nop) A14 A21 [] [] (Kc n)
def Kd(v1:Nat)(v2:(U11×U11×Unit)):T15:=bif !(decide (v2.1.1=v2.2.1.1))then ah (Kc v1 (v2.1.1,v2.2.1.1,())) (λ(v3:T7)=>some ((v3.1.1,()),()))else ah (Kc v1 (v2.1.2.1,v2.2.1.2.1,())) (λ(v4:T7)=>some ((v4.1.1,()),()))
def F164(n:Nat):Fb 164:=fb n [⟨_,F203 n⟩] [] [] [] Tryz.func164 Tryz.results164 Tryz.ntmps164 (.seq (rn_ [2,3]) .nop) [(C2,.ro),(C2,.ro)] A21 [] [] (Kd n)
def Oq(v1:Nat)(v2:(U2×U11×Unit×Unit)):T33:=aC (λ(v3:T10)=>λv4=>Bd (v3.2.1<v3.2.2.1) (if(1:Int)<0 then none else if 0<=(Wi (Int.fdiv (IntKind.wrap .u64 (Wi (v3.2.1+v3.2.2.1))) (2 ^ (Nat.min (Int.toNat (1:Int)) (IntKind.bits .u64)))))then(match v2.1[(Wi (Int.fdiv (IntKind.wrap .u64 (Wi (v3.2.1+v3.2.2.1))) (2 ^ (Nat.min (Int.toNat (1:Int)) (IntKind.bits .u64))))).toNat]? with|some v5=>ah (Kd v1 (v5,v2.2.1,())) (λ(v6:T7)=>aq (λ(v7:T10)=>v4 ((),v7.2.1,v7.2.2.1,())) (λv8=>Bd (v6.1.1<0) (v8 ((),Wi ((Wi (Int.fdiv (IntKind.wrap .u64 (Wi (v3.2.1+v3.2.2.1))) (2 ^ (Nat.min (Int.toNat (1:Int)) (IntKind.bits .u64)))))+1),v3.2.2.1,())) (v8 ((),v3.2.1,Wi (Int.fdiv (IntKind.wrap .u64 (Wi (v3.2.1+v3.2.2.1))) (2 ^ (Nat.min (Int.toNat (1:Int)) (IntKind.bits .u64)))),()))))|none=>none)else none) (aq (λ(v9:(Unit×Int×Bool×Unit))=>some ((v9.2.1,v9.2.2.1,()),())) (λv10=>Bd (v3.2.1<(v2.1.length:Int)) (Ld v2.1 v3.2.1 λv11=>ah (Kd v1 (v11,v2.2.1,())) (λ(v12:T7)=>v10 ((),v3.2.1,decide (v12.1.1=0),()))) (v10 ((),v3.2.1,false,()))))) v1 ((),0,(v2.1.length:Int),())
def F163(n:Nat):Fb 163:=fb n [⟨_,F164 n⟩] [] [] [] Tryz.func163 Tryz.results163 Tryz.ntmps163 (.seq (rn_ [4]) (sn_ (sn_ (.seq (bk_ ⟨[],[.val 9 y2,.val 10 y2],[0,2,4,8]⟩ (sn_ (.block none (sn_ (sn_ (cs_ ⟨[],[.val 9 y2,.val 10 y2],[0,2,4,8]⟩ .nop .nop)))))) (.seq (rs_ ⟨[],[.val 6 y2,.val 7 y4],[]⟩ []) .nop))))) [(fm,.ro),(C2,.ro),(.fn 164,.ro)] [(y2,.ro),(y4,.ro)] [] [] (Oq n)
def p96(v1:Nat)(v2:(U18×Int×Int×Unit)):Option (Unit×U18×Unit):=aC (λ(v3:((U18×Unit)×Int×Unit))=>λv4=>Bd (v3.2.1<(v2.1.1.2.2.1.length:Int)) (aq (λ(v5:RL)=>v4 ((v5.1.1,()),Wi (v3.2.1+1),())) (λv6=>Ld v2.1.1.2.2.1 v3.2.1 λv7=>aq (λ(v8:UU)=>bif v8.2.1 then v6 ((v8.1.1,()),())else Ld v8.1.1.2.2.1 v3.2.1 λv9=>Ld v8.1.1.2.2.1 v3.2.1 λv10=>Ld v8.1.1.2.2.2.1 v3.2.1 λv11=>Ld v8.1.1.2.2.2.1 v3.2.1 λv12=>Ld v8.1.1.2.2.2.1 v3.2.1 λv13=>if 0<=v3.2.1 then(match(List.set v8.1.1.2.2.2.1 (v3.2.1).toNat (dL .or .u64 v11 v2.2.2.1))[(v3.2.1).toNat]? with|some v14=>Ap 24 (List.length v8.1.1.2.2.2.2+List.length ([(v3.2.1,0,v14)]:List U11)) (v6 (((v8.1.1.1,v8.1.1.2.1,List.set v8.1.1.2.2.1 (v3.2.1).toNat true,List.set v8.1.1.2.2.2.1 (v3.2.1).toNat (dL .or .u64 v11 v2.2.2.1),v8.1.1.2.2.2.2++([(v3.2.1,0,v14)]:List U11)),()),()))|none=>none)else none) (λv15=>bif !(decide (v7.1=v2.2.1))then v15 ((v3.1.1,()),true,())else Ld v3.1.1.2.2.1 v3.2.1 λv16=>bif v16 then Ld v3.1.1.2.2.2.1 v3.2.1 λv17=>Ld v3.1.1.2.2.2.1 v3.2.1 λv18=>v15 ((v3.1.1,()),decide ((dL .or .u64 v17 v2.2.2.1)=v18),())else v15 ((v3.1.1,()),false,())))) (some ((),v3.1.1,()))) v1 ((v2.1,()),0,())
def F96(n:Nat):Fb 96:=fb n [] [] [] [] Tryz.func96 Tryz.results96 Tryz.ntmps96 (sn_ (bk_ ⟨[(6,.box C4,.own Q9_)],[.val 14 y2],[0,1,2,12,13]⟩ (sn_ (sn_ (.seq (.block (some ⟨[(6,.box C4,.own Q9_)],[],[0,1,2,12,13,14]⟩) (.seq (rn_ [7]) (.seq (.seq (rs_ ⟨[(6,.box C4,.own Q9_)],[.val 50 y4],[0,1,2,6,12,13,14]⟩ []) .nop) .nop))) .nop))))) [(.box C4,.own Q9_),(y2,.ro),(y12,.ro)] [] [0] [(.box C4,.own Q9_)] (p96 n)
def p97(v1:Nat)(v2:(U29×U17×Int×Unit)):T15:=ah (p93 v1 (v2.1,v2.2.1,())) (λ(v3:T14)=>bif v3.1.2.1 then some ((dL .or .u64 v3.1.1 v2.2.2.1,()),())else some ((v3.1.1,()),()))
def F97(n:Nat):Fb 97:=fb n [⟨_,F93 n⟩] [] [] [] Tryz.func97 Tryz.results97 Tryz.ntmps97 (.seq (rn_ [3]) .nop) [(C3,.ro),(y77,.ro),(y12,.ro)] A19 [] [] (p97 n)
def HB(v1:Nat)(v2:uN):T70:=aq (λ(v3:T5)=>bif v3.2.1 then Ld v2.1.2.2.1 v2.2.1 λv4=>some ((v4.2.2.1,true,()),())else Bd (v2.2.1=(v2.1.2.2.1.length:Int)) (some ((([(true,v2.1.2.2.2.2)]:List U5),true,()),())) (some ((([]:List U5),false,()),()))) (λv5=>Bd (0<=v2.2.1) (v5 ((),decide (v2.2.1<(v2.1.2.2.1.length:Int)),())) (v5 ((),false,())))
def F106(n:Nat):Fb 106:=fb n [] [] [] [] Tryz.func106 Tryz.results106 Tryz.ntmps106 (.seq (rn_ [2]) (.seq (.block none (.seq (rs_ ⟨[],[.val 6 y4],[1,2]⟩ []) .nop)) .nop)) A12 [(y77,.ro),(y4,.ro)] [] [] (HB n)
def p98(v1:Nat)(v2:NF):T59:=ah (HB v1 (v2.1,v2.2.1.1,())) (λ(v3:T57)=>aq (λ(v4:T5)=>bif v4.2.1 then some ((([]:List U5),()),())else if 0<=(Wi (v2.2.1.2.1+1))/\(Wi (v2.2.1.2.1+1))<=(v3.1.1.length:Int)/\(v3.1.1.length:Int)<=(v3.1.1.length:Int)then some ((cn v3.1.1 (Wi (v2.2.1.2.1+1)) (v3.1.1.length:Int),()),())else none) (λv5=>Bd (v2.2.1.2.1<0) (v5 ((),true,())) (v5 ((),decide ((Wi ((v3.1.1.length:Int)-1))<=v2.2.1.2.1),()))))
def F98(n:Nat):Fb 98:=fb n [⟨_,F106 n⟩] [11] [] [] Tryz.func98 Tryz.results98 Tryz.ntmps98 (.seq (rn_ [2,3]) (sn_ (.seq (.seq (rs_ ⟨[],[.val 24 y4],[3,5]⟩ []) .nop) .nop))) A7 [(y77,.ro)] [] [] (p98 n)
def p48(v1:Nat)(v2:o4):T68:=ah (HA v1 (63,())) (λ(v3:T7)=>some ((([((v2.1.2.2.1.length:Int),0,v3.1.1)]:List U11),()),()))
def F48(n:Nat):Fb 48:=fb n [⟨_,F100 n⟩] [] [] [] Tryz.func48 Tryz.results48 Tryz.ntmps48 (.seq (rn_ [1]) .nop) A18 A17 [] [] (p48 n)
def p94(v1:Nat)(v2:T26):T68:=M8 (List.isEmpty v2.1) (λ(v3:Bool)=>bif v3 then some ((([]:List U11),()),())else Ap 24 (List.length ([]:List U11)+List.length v2.1) (some ((([]:List U11)++v2.1,()),())))
def F94(n:Nat):Fb 94:=fb n [] [] [] [] Tryz.func94 Tryz.results94 Tryz.ntmps94 (.nop) A17 [(fm,mo_)] [] [] (p94 n)
def Ot(v1:Nat)(v2:T54):T15:=aC (λ(v3:T4)=>λv4=>Bd (v3.2.1<(v2.1.length:Int)) (Ld v2.1 v3.2.1 λv5=>bif bif v2.2.1.1 == v5.1 then decide (v2.2.1.2=v5.2)else false then some ((v3.2.1,()),())else v4 ((),Wi (v3.2.1+1),())) (some ((-1,()),()))) v1 ((),0,())
def F166(n:Nat):Fb 166:=fb n [] [] [] [⟨_,Hx⟩] Tryz.func166 Tryz.results166 Tryz.ntmps166 (.seq (rn_ [3]) (.seq (sn_ (bk_ ⟨[],[.val 8 y2],[0,3,7]⟩ .nop)) .nop)) [(y77,.ro),(y62,.ro)] A21 [] [] (Ot n)
def Ou(v1:Nat)(v2:T54):T17:=ah (Ot v1 (v2.1,v2.2.1,())) (λ(v3:T7)=>some ((decide (0<=v3.1.1),()),()))
def F101(n:Nat):Fb 101:=fb n [⟨_,F166 n⟩] [] [] [] Tryz.func101 Tryz.results101 Tryz.ntmps101 (.seq (rn_ [3]) .nop) [(y77,.ro),(y62,.ro)] A20 [] [] (Ou n)
end
end Go.Proofs.YtphipehmbefejaaGreat.Rf
namespace Go.Proofs.YtphipehmbefejaaGreat.Rf
open Go Go.RowKit
noncomputable section
theorem lZ{P:Program}(w:World)(dT sT ty elem:TypeId)(z b o R0 Yg:Nat)(a:Addr)(R1 Yh:Nat)(cs:List Value)
 (hu:P.underlying dT=some (.slice elem)) (hs:(P.info? elem).map (·.size)=some z) (hn:cs.length=Nat.min R1 R0*z)
 (QQ:∀ j v,cs[j]?=some v->w.cell? (a.add j)=some v) (hc:∀ j,j<cs.length->(w.cell? ⟨b,o+j,none⟩).isSome=true) (hf:∀ j,j<cs.length->w.frozen? ⟨b,o+j,none⟩=false) (h1:∀ v∈cs,v.oneCell'=true):
 (Builtin.copy_ #[dT,sT] ty #[.slice (some ⟨b,o,none⟩) R0 Yg,.slice (some a) R1 Yh]).run P w=.ok (goInt (Nat.min R1 R0)) (w.setCells b o cs):=by
 have hl:=run_loadCells_list (P:=P) w a cs QQ
 have hst:=run_storeCells_cells (P:=P) b o cs 0 w (by simpa using hc) (by simpa using hf) h1
 cases hq:P.info? elem with
 |none=>simp[hq]at hs
 |some i=>
  have hi:i.size=z:=by simpa [hq]using hs
  rw[hn]at hl
  simp[Builtin.copy_,run_underlying hu,Builtin.lenOf,Builtin.firstCells,sizeOf,typeInfo,hq,hi,hl,hst]
theorem gm{P:Program}(w:World){ops:Array Oper}{rest:List Oper}{o:Oper}{a:Act}{Q:Exit->Act->World->Prop}
 (hg:o.guard=none) (s x:Operand) (t tx:TypeId) (hop:o.op=Op.call {callee:=Callee.builtin Builtin.append,args:=#[s,x],argTypes:=#[t,tx]})
 (v1 v2:Value) (hs:a.eval s=v1) (hx:a.eval x=v2) (z:Value) (w':World) (bX:(Builtin.append_ #[t,tx] o.type #[v1,v2]).run P w=.ok z w')
 (hK:wpList P ops Q rest (a.put o.dst z) w'):wpList P ops Q (o::rest) a w:=by
 refine wpList_plain hg λK hK'=>?_
 unfold Oper.wp
 simp[execOp,hop,Go.resolve,invoke,builtin,hs,hx,bX,Result.andThen]
 exact hK' _ _ hK
set_option maxRecDepth 100000 in
theorem Ov(ao:Option Addr)(n cap:Nat)(ad:Addr)(vc:Nat)(w:World)(hnc:n<=cap)(hn:(cap:Int)<=9223372036854775807)(hvc:1<=vc)(v:Value)(w1:World)
 (Vk:(Builtin.append_ #[117,117] 117 #[.slice ao n cap,.slice (some ad) 1 vc]).run Tryz.prog w=.ok v w1):
 Calls Tryz.prog 165 #[.slice ao n cap,.int .i64 n,.slice (some ad) 1 vc] w λe w'=>e=.returned v/\w'=w1:=by
 have H:=Lib.hid Vk
 clear Vk
 go_enter Tryz.func165,Tryz.ntmps165
 cases ao with
 |none=>
  go_wp2_with (at_builtin;refine gm _ rfl _ _ 117 117 rfl _ _ rfl rfl _ _ H.out ?_)
  go_ret
  exact⟨rfl,rfl⟩
 |some a=>
  obtain⟨ab,aof,asp⟩:=a
  go_wp2_with (at_builtin;refine gm _ rfl _ _ 117 117 rfl _ _ rfl rfl _ _ H.out ?_)
  all_goals (go_ret;exact⟨rfl,rfl⟩)
theorem nA{P:Program}{ops:Array Oper}{o:Oper}{a:Act}{w:World}{K:Act->World->Prop}{Q:Exit->Act->World->Prop}{E:Prop}
 (hg:o.guard=none) (d x:Operand) (dT sT:TypeId) (hop:o.op=Op.call {callee:=Callee.builtin Builtin.copy,args:=#[d,x],argTypes:=#[dT,sT]})
 (v u:Value) (hd:a.eval d=v) (hx:a.eval x=u) {v':Value} {w':World} (hr:(Builtin.copy_ #[dT,sT] o.type #[v,u]).run P w=.ok v' w') (hK:K (a.put o.dst v') w'):
 if Region.wanted o (yielded ops a.tmps)=true then Oper.wp P o a w K Q else E:=by
 have hw:Region.wanted o (yielded ops a.tmps)=true:=by simp[Region.wanted,hg]
 rw[if_pos hw]
 unfold Oper.wp
 simp[execOp,hop,Go.resolve,invoke,builtin,hd,hx,hr,Result.andThen]
 exact hK
theorem iB{P:Program}(w:World){ops:Array Oper}{rest:List Oper}{o:Oper}{a:Act}{Q:Exit->Act->World->Prop}(hgd:o.guard=none)(d s:Operand)(t t':TypeId)
 (ho:o.op=.call {callee:=.builtin .copy,args:=#[d,s],argTypes:=#[t,t']}) (v u:Value) (hd:a.eval d=v) (hs:a.eval s=u) {v':Value} {w':World}
 (hr:(Builtin.copy_ #[t,t'] o.type #[v,u]).run P w=.ok v' w') (h:wpList P ops Q rest (a.put o.dst v') w'):wpList P ops Q (o::rest) a w:=
 wpList_plain hgd λ_ hK=>by
  unfold Oper.wp
  simp[execOp,ho,Go.resolve,invoke,builtin,hd,hs,hr,Result.andThen]
  exact hK _ _ h
theorem sV(b:Nat)(vs:List Value)(o:Nat)(w:World)(h:∀ j,j<vs.length->(w.cell? ⟨b,o+j,none⟩).isSome=true)(k:Nat)(hk:(w.cell? ⟨b,k,none⟩).isSome=true):((w.setCells b o vs).cell? ⟨b,k,none⟩).isSome=true:=by
 by_cases hin:o<=k/\k<o+vs.length
 ·have:=World.cell?_setCells_in b vs o w h (k-o) (by omega)
  rw[show o+(k-o)=k by omega]at this
  rw[this];rfl
 ·rw[World.cell?_setCells_out b vs o w ⟨b,k,none⟩ (λ_ _=>by show k<o\/o+vs.length<=k;omega)]
  exact hk
set_option maxHeartbeats 4000000 in
set_option maxRecDepth 100000 in
theorem HC(b off n c i vb ky vc:Nat)(cs vs:List Value)(w:World)(hi:i<n)(pc:n+1<=c)(TM:(c:Int)<=9223372036854775807)(hvb:vb≠b)
 (hcl:cs.length=n*3) (hvl:vs.length=3)
 (hcs:∀ j v,cs[j]?=some v->w.cell? ⟨b,off+j,none⟩=some v) (hsp:∀ j,j<(n+1)*3->(w.cell? ⟨b,off+j,none⟩).isSome=true) (hfz:∀ j,j<(n+1)*3->w.frozen? ⟨b,off+j,none⟩=false)
 (hvs:∀ j v,vs[j]?=some v->w.cell? ⟨vb,ky+j,none⟩=some v) (h1c:∀ v∈cs,v.oneCell'=true) (h1v:∀ v∈vs,v.oneCell'=true)
 (tA tB:TypeId) (kA kB:Nat) (hsa:w.shape? vb=some (tA,kA)) (hsb:w.shape? b=some (tB,kB)) (hkB:kB≠0) (hfa:w.frozen? ⟨vb,ky,none⟩=false) (hfe:w.frozen? ⟨vb,kA,none⟩=false)
 (hsz:(Tryz.prog.info? 131).map (·.size)=some 3):
 Calls Tryz.prog 165 #[.slice (some ⟨b,off,none⟩) n c,.int .i64 i,.slice (some ⟨vb,ky,none⟩) 1 vc] w λe w'=>
  e=.returned (.slice (some ⟨b,off,none⟩) (n+1) c)/\w'=(w.drew.setCells b (off+(i+1)*3) (cs.drop (i*3))).setCells b (off+i*3) vs:=by
 have mixed:Tryz.prog.follows .mixedOrders=true:=by kernel_rfl
 have hz2:¬((i:Int)=(n:Int)):=by omega
 have Yi:∀ w,(Go.sizeOf 131).run Tryz.prog w=.ok 3 w:=λw=>by
  cases hq:Tryz.prog.info? 131 with
  |none=>simp[hq]at hsz
  |some q=>
   have:q.size=3:=by simpa [hq]using hsz
   simp[Go.sizeOf,typeInfo,hq,this]
 have hov:∀ lb cb,(callFunc 204 #[.slice (some ⟨vb,ky,none⟩) 1 vc,.slice (some ⟨b,off+(i+1)*3,none⟩) lb cb]).run Tryz.prog w=.ok (.value (.bool false)) w:=λlb cb=>by
  rw[run_callFunc_extern Tryz.func204 (by kernel_rfl) (by kernel_rfl) (by kernel_rfl) (e:=Extern.SlicesOverlaps.overlaps #[117,117] #[4]) (by kernel_rfl),
   Lib.run_overlaps_apart w 117 4 131 Tryz.underlying117 3 Yi ⟨vb,ky,none⟩ ⟨b,off+(i+1)*3,none⟩ 1 vc lb cb hvb tA tB kA kB hsa hsb hkB hfa hfe]
  rfl
 have hdl:(cs.drop (i*3)).length=(n-i)*3:=by rw[bD,hcl,ou]
 have hw1:IntKind.i64.wrap ((i:Int)+1)=(i:Int)+1:=by rw[IntKind.wrap_i64];omega
 have hb1:(0:Int)<=(i:Int)+1:=by omega
 have hin:i<=n:=by omega
 have htn:((i:Int)+1).toNat=i+1:=by omega
 have hb2:¬(c=i+1):=by omega
 have hb3:(i:Int)<=(n:Int)+1:=by omega
 have hb4:¬(c=i):=by omega
 have Vl:∀ ty dc sc,(Builtin.copy_ #[117,117] ty #[.slice (some ⟨b,off+(i+1)*3,none⟩) (n-i) dc,.slice (some ⟨b,off+i*3,none⟩) (n+1-i) sc]).run Tryz.prog w.drew=.ok (goInt (Nat.min (n+1-i) (n-i))) (w.drew.setCells b (off+(i+1)*3) (cs.drop (i*3))):=λty dc sc=>
  lZ w.drew _ _ ty 131 3 b (off+(i+1)*3) (n-i) dc ⟨b,off+i*3,none⟩ (n+1-i) sc (cs.drop (i*3)) Tryz.underlying117 hsz (by rw[hdl];congr 1;simp only[Nat.min_def];split <;> omega)
   (λj v hj=>by rw[cQ,cX];exact hcs (i*3+j) v (by rwa [List.getElem?_drop]at hj))
   (λj hj=>by rw[cX];exact hsp _ (by omega)) (λj hj=>by rw[cX];exact hfz _ (by omega)) (λv hv=>h1c v (hC hv))
 obtain⟨W1,hW1⟩:∃ W1,W1=w.drew.setCells b (off+(i+1)*3) (cs.drop (i*3)):=⟨_,rfl⟩
 have Yj:∀ k,k<(n+1)*3->(W1.cell? ⟨b,off+k,none⟩).isSome=true:=λk hk=>by
  rw[hW1]
  exact sV b _ _ _ (λj hj=>by rw[cX];exact hsp _ (by omega)) _ (hsp k hk)
 have Yk:∀ (W:World),(∀ x,W.cell? x=W1.cell? x)->(∀ x,W.frozen? x=W1.frozen? x)->∀ ty dc,(Builtin.copy_ #[117,117] ty #[.slice (some ⟨b,off+i*3,none⟩) (n+1-i) dc,.slice (some ⟨vb,ky,none⟩) 1 vc]).run Tryz.prog W=.ok (goInt (Nat.min 1 (n+1-i))) (W.setCells b (off+i*3) vs):=λW hWc hWf ty dc=>
  lZ W _ _ ty 131 3 b (off+i*3) (n+1-i) dc ⟨vb,ky,none⟩ 1 vc vs Tryz.underlying117 hsz (by rw[hvl];have:Nat.min 1 (n+1-i)=1:=dl (by omega);rw[this])
   (λj v hj=>by
    rw[cQ,hWc,hW1,World.cell?_setCells_out b _ _ _ _ (λh _=>absurd h hvb)]
    exact hvs j v hj)
   (λj hj=>by rw[hWc,cX];exact Yj _ (by omega)) (λj hj=>by rw[hWf,hW1,World.frozen?_setCells,cX];exact hfz _ (by omega)) h1v
 rw[<-hW1]at Vl
 go_enter Tryz.func165,Tryz.ntmps165
 go_wp2_with (simp only[hov])
 go_region_law_o (refine nA rfl _ _ 117 117 rfl _ _ (by simp[Act.eval,Act.put]) (by simp[Act.eval,Act.put]) (Vl _ _ _) ?_)
 go_wp2_with (at_builtin;refine iB _ rfl _ _ 117 117 rfl _ _ rfl rfl (Yk _ (λ_=>rfl) (λ_=>rfl) _ _) ?_)
 go_ret
 first|exact⟨rfl,rfl⟩|exact⟨rfl,by rw[hW1]⟩
set_option maxHeartbeats 4000000 in
set_option maxRecDepth 100000 in
theorem Ke(b off n c i vb ky vc:Nat)(cs vs:List Value)(w:World)(hi:i<n)(hnc:n<=c)(pc:c<n+1)(yr:(n+1)*24<=140737488355328)
 (hcl:cs.length=n*3) (hvl:vs.length=3)
 (hcs:∀ j v,cs[j]?=some v->w.cell? ⟨b,off+j,none⟩=some v)
 (hvs:∀ j v,vs[j]?=some v->w.cell? ⟨vb,ky+j,none⟩=some v) (h1c:∀ v∈cs,v.oneCell'=true) (h1v:∀ v∈vs,v.oneCell'=true)
 (hbw:b<w.heap.size) (hvw:vb<w.heap.size) (i0:TypeInfo) (z:Value) (hi0:Tryz.prog.info? 131=some i0) (hz0:i0.zero=some z) (hzs:i0.size=3) (hzb:i0.bytes=24) (hzc:z.cells.size=3):
 Calls Tryz.prog 165 #[.slice (some ⟨b,off,none⟩) n c,.int .i64 i,.slice (some ⟨vb,ky,none⟩) 1 vc] w λe w'=>
  e=.returned (.slice (some ⟨w.heap.size,0,none⟩) (n+1) (grownCap w (n+1) c 131))/\
  w'=(((w.alloc (.cells ((cs.take (i*3)).toArray++Builtin.zeroCells z.cells (n+1-i)++Builtin.zeroCells z.cells (grownCap w (n+1) c 131-(n+1))) 131)).drew.setCells w.heap.size (i*3) vs).drew).setCells w.heap.size ((i+1)*3) (cs.drop (i*3)):=by
 have mixed:Tryz.prog.follows .mixedOrders=true:=by kernel_rfl
 have hz2:¬((i:Int)=(n:Int)):=by omega
 have hz3:(c:Int)<(n:Int)+1:=by omega
 have hsz:(Tryz.prog.info? 131).map (·.size)=some 3:=by rw[hi0];simp[hzs]
 have hkk:(n:Int)+1-(i:Int)=((n+1-i:Nat):Int):=by omega
 have hik:i+(n+1-i)=n+1:=by omega
 have hold:(Builtin.firstCells i0.size i (.slice (some ⟨b,off,none⟩) i c)).run Tryz.prog w.drew=.ok (cs.take (i*3)).toArray w.drew:=by
  rw[hzs]
  exact run_firstCells_some w.drew 3 i ⟨b,off,none⟩ i c (cs.take (i*3)) (by rw[aL];omega) (λj v hj=>by
   rw[cQ]
   rw[List.getElem?_take]at hj
   split at hj
   ·exact hcs j v hj
   ·cases hj)
 have hrz:∀ ty,(Builtin.append_ #[117,3] ty #[.slice (some ⟨b,off,none⟩) i c,.int .i64 ((n:Int)+1-(i:Int))]).run Tryz.prog w=
  .ok (.slice (some ⟨w.heap.size,0,none⟩) (n+1) (grownCap w (n+1) c 131)) (w.drew.alloc (.cells ((cs.take (i*3)).toArray++Builtin.zeroCells z.cells (n+1-i)++Builtin.zeroCells z.cells (grownCap w (n+1) c 131-(n+1))) 131)):=λty=>by
  have h:=Lib.run_append_grow_zeros (P:=Tryz.prog) w 117 3 ty 131 i0 z .i64 .i64 Tryz.underlying117 Tryz.underlying3 hi0 hz0 (some ⟨b,off,none⟩) i c (cs.take (i*3)) hold (n+1-i) (by omega) (by omega) (by omega) (by omega) (by rw[hzb];omega) (by rw[hzb,hik];exact growslice_fits pc yr)
  rw[hik]at h
  rw[hkk]
  exact h
 obtain⟨G,hG⟩:∃ G,G=grownCap w (n+1) c 131:=⟨_,rfl⟩
 obtain⟨ROW,AZ⟩:∃ ROW:Array Value,ROW=(cs.take (i*3)).toArray++Builtin.zeroCells z.cells (n+1-i)++Builtin.zeroCells z.cells (G-(n+1)):=⟨_,rfl⟩
 rw[<-hG]at hrz |-
 rw[<-AZ]at hrz |-
 have hRl:(n+1)*3<=ROW.size:=by
  rw[AZ]
  simp only[q8,size_zeroCells,hzc,q9,aL,hcl]
  have:min (i*3) (n*3)=i*3:=dl (by omega)
  omega
 obtain⟨W1,hW1⟩:∃ W1,W1=w.drew.alloc (.cells ROW 131):=⟨_,rfl⟩
 rw[<-hW1]at hrz
 have hN:∀ j,j<(n+1)*3->(W1.cell? ⟨w.heap.size,j,none⟩).isSome=true:=λj hj=>by
  rw[hW1,World.cell?_alloc_at (w:=w.drew) ROW _ w.heap.size j rfl,Array.getElem?_eq_getElem (by omega)];rfl
 have hNf:∀ j,W1.frozen? ⟨w.heap.size,j,none⟩=false:=λj=>by rw[hW1];exact World.frozen?_alloc_at (w:=w.drew) ROW _ w.heap.size j rfl
 have hOb:∀ j v,w.cell? ⟨b,j,none⟩=some v->W1.cell? ⟨b,j,none⟩=some v:=λj v h=>by rw[hW1,World.cell?_alloc_past (w:=w.drew) _ b j hbw];exact h
 have hOv:∀ j v,w.cell? ⟨vb,j,none⟩=some v->W1.cell? ⟨vb,j,none⟩=some v:=λj v h=>by rw[hW1,World.cell?_alloc_past (w:=w.drew) _ vb j hvw];exact h
 have Yl:∀ (W:World),(∀ x,W.cell? x=W1.cell? x)->(∀ x,W.frozen? x=W1.frozen? x)->∀ ty dc,(Builtin.copy_ #[117,117] ty #[.slice (some ⟨w.heap.size,i*3,none⟩) (n+1-i) dc,.slice (some ⟨vb,ky,none⟩) 1 vc]).run Tryz.prog W=.ok (goInt (Nat.min 1 (n+1-i))) (W.setCells w.heap.size (i*3) vs):=λW hWc hWf ty dc=>
  lZ W _ _ ty 131 3 w.heap.size (i*3) (n+1-i) dc ⟨vb,ky,none⟩ 1 vc vs Tryz.underlying117 hsz (by rw[hvl];have:Nat.min 1 (n+1-i)=1:=dl (by omega);rw[this])
   (λj v hj=>by rw[cQ,hWc];exact hOv _ v (hvs j v hj))
   (λj hj=>by rw[hWc];exact hN _ (by omega)) (λj hj=>by rw[hWf];exact hNf _) h1v
 have hGn:n+1<=G:=by rw[hG];exact grownCap_ge w _ _ _
 have Y2:G<=9223372036854775807:=by
  have:=grownCap_le_maxLen w (n+1) c 131 (by unfold maxLen;omega)
  rw[<-hG]at this
  unfold maxLen at this
  omega
 have hGi:¬(G=i):=by omega
 have Y3:¬(G=i+1):=by omega
 have hci:¬(c=i):=by omega
 have hbN:b≠w.heap.size:=by omega
 have hdl:(cs.drop (i*3)).length=(n-i)*3:=by rw[bD,hcl,ou]
 have Vm:∀ (W:World),(∀ x,W.cell? x=(W1.setCells w.heap.size (i*3) vs).cell? x)->(∀ x,W.frozen? x=(W1.setCells w.heap.size (i*3) vs).frozen? x)->∀ ty dc sc,(Builtin.copy_ #[117,117] ty #[.slice (some ⟨w.heap.size,(i+1)*3,none⟩) (n-i) dc,.slice (some ⟨b,off+i*3,none⟩) (n-i) sc]).run Tryz.prog W=.ok (goInt (Nat.min (n-i) (n-i))) (W.setCells w.heap.size ((i+1)*3) (cs.drop (i*3))):=λW hWc hWf ty dc sc=>
  lZ W _ _ ty 131 3 w.heap.size ((i+1)*3) (n-i) dc ⟨b,off+i*3,none⟩ (n-i) sc (cs.drop (i*3)) Tryz.underlying117 hsz (by rw[hdl];congr 1;exact(Nat.min_self _).symm)
   (λj v hj=>by
    rw[cQ,hWc,World.cell?_setCells_out _ _ _ _ _ (λh _=>absurd h hbN),cX]
    exact hOb _ v (hcs (i*3+j) v (by rwa [List.getElem?_drop]at hj)))
   (λj hj=>by rw[hWc];exact sV _ _ _ _ (λt ht=>hN _ (by omega)) _ (hN _ (by omega)))
   (λj hj=>by rw[hWf,World.frozen?_setCells];exact hNf _) (λv hv=>h1c v (hC hv))
 subst hW1
 have hE1:∀ x,((w.alloc (.cells ROW 131)).drew).cell? x=(w.drew.alloc (.cells ROW 131)).cell? x:=λx=>rfl
 have hE2:∀ x,((w.alloc (.cells ROW 131)).drew).frozen? x=(w.drew.alloc (.cells ROW 131)).frozen? x:=λx=>rfl
 have hF1:∀ x,(((w.alloc (.cells ROW 131)).drew.setCells w.heap.size (i*3) vs).drew).cell? x=((w.drew.alloc (.cells ROW 131)).setCells w.heap.size (i*3) vs).cell? x:=λx=>rfl
 have hF2:∀ x,(((w.alloc (.cells ROW 131)).drew.setCells w.heap.size (i*3) vs).drew).frozen? x=((w.drew.alloc (.cells ROW 131)).setCells w.heap.size (i*3) vs).frozen? x:=λx=>rfl
 have hw1:IntKind.i64.wrap ((i:Int)+1)=(i:Int)+1:=by rw[IntKind.wrap_i64];omega
 have hb1:(0:Int)<=(i:Int)+1:=by omega
 have hin:i<=n:=by omega
 have htn:((i:Int)+1).toNat=i+1:=by omega
 have hb3:(i:Int)<=(n:Int):=by omega
 clear hkk hik hold AZ hG hRl
 go_enter Tryz.func165,Tryz.ntmps165
 go_wp2_with (first
  |(at_builtin;refine gm _ rfl _ _ 117 3 rfl _ _ rfl rfl _ _ (hrz _) ?_)
  |(at_builtin;refine iB _ rfl _ _ 117 117 rfl _ _ rfl rfl (Yl _ hE1 hE2 _ _) ?_)
  |(at_builtin;refine iB _ rfl _ _ 117 117 rfl _ _ rfl rfl (Vm _ (λ_=>rfl) (λ_=>rfl) _ _ _) ?_))
 go_region_law_o (refine nA rfl _ _ 117 117 rfl (.slice (some ⟨w.heap.size,(i+1)*3,none⟩) (n-i) (G-(i+1))) (.slice (some ⟨b,off+i*3,none⟩) (n-i) (c-i)) (by simp[Act.eval,Act.put]) (by simp[Act.eval,Act.put]) (Vm _ hF1 hF2 3 (G-(i+1)) (c-i)) ?_)
 go_wp2
 go_ret
 exact⟨rfl,rfl⟩
end
noncomputable section
abbrev It:=Int×(Int×Int)
def itC(x:It):List Value:=[.int .i64 x.1,.int .i64 x.2.1,.int .u64 x.2.2]
def Dc(x:It):Prop:=inK .i64 x.1/\inK .i64 x.2.1/\inK .u64 x.2.2
def itL(xs:List It):List Value:=xs.flatMap itC
theorem yu:∀ xs,(itL xs).length=xs.length*3
 |[]=>rfl
 |x::xs=>by
  show(itC x++itL xs).length=_
  rw[ak,yu xs,aO]
  show 3+_=_
  omega
theorem uP(xs ys:List It):itL (xs++ys)=itL xs++itL ys:=gw
theorem Ba:∀ (i:Nat) (xs:List It),itL (xs.take i)=(itL xs).take (i*3)
 |0,xs=>by simp[itL]
 |i+1,[]=>by simp[itL]
 |i+1,x::xs=>by
  show itC x++itL (xs.take i)=(itC x++itL xs).take ((i+1)*3)
  rw[Ba i xs,show(i+1)*3=(itC x).length+i*3 by show _=3+_;omega,List.take_length_add_append]
theorem Bb:∀ (i:Nat) (xs:List It),itL (xs.drop i)=(itL xs).drop (i*3)
 |0,xs=>by simp
 |i+1,[]=>by simp[itL]
 |i+1,x::xs=>by
  show itL (xs.drop i)=(itC x++itL xs).drop ((i+1)*3)
  rw[Bb i xs,show(i+1)*3=(itC x).length+i*3 by show _=3+_;omega,List.drop_length_add_append]
theorem oH:∀ (xs:List It),∀ v∈itL xs,v.oneCell'=true
 |[],v,h=>by cases h
 |x::xs,v,h=>by
  rcases au.1 (show v∈itC x++itL xs from h)with h|h
  ·simp only[itC,aI,bU,or_false]at h
   rcases h with rfl|rfl|rfl <;> rfl
  ·exact oH xs v h
theorem R2{F:af}{w:World}{m:Md}{x:It}{cs:List Value}{S:af}(h:Rep F w j9 m x cs S):cs=itC x/\Dc x:=by
 obtain⟨c1,c2,S1,S2,rfl,⟨rfl,k1⟩,⟨c3,c4,S3,S4,rfl,⟨rfl,k2⟩,⟨rfl,k3⟩,_⟩,_⟩:=h
 exact⟨rfl,k1,k2,k3⟩
theorem R3{F:af}{w:World}{m:Md}{x:It}(h:Dc x):Rep F w j9 m x (itC x) af.none:=
 ⟨[_],_,af.none,af.none,rfl,⟨rfl,h.1⟩,⟨[_],[_],af.none,af.none,rfl,⟨rfl,h.2.1⟩,⟨rfl,h.2.2⟩,Sub.refl _,Sub.refl _,λ_ h=>h.elim⟩,Sub.refl _,Sub.refl _,λ_ h=>h.elim⟩
theorem EA{F:af}{w:World}{m:Md}:∀ {xs:List It} {cs:List Value} {S:af},bm (Rep F w j9 m) xs cs S->cs=itL xs/\∀ x∈xs,Dc x
 |[],cs,S,h=>⟨h,λx hx=>by cases hx⟩
 |x::xs,cs,S,h=>by
  obtain⟨c1,c2,S1,S2,rfl,h1,h2,_⟩:=h
  obtain⟨rfl,k1⟩:=R2 h1
  obtain⟨rfl,k2⟩:=EA h2
  exact⟨rfl,λy hy=>by rcases aI.1 hy with rfl|hy;exact k1;exact k2 y hy⟩
theorem yv{F:af}{w:World}{m:Md}:∀ {xs:List It},(∀ x∈xs,Dc x)->bm (Rep F w j9 m) xs (itL xs) af.none
 |[],_=>rfl
 |x::xs,h=>⟨_,_,af.none,af.none,rfl,R3 (h x bu),yv (λy hy=>h y (bB _ hy)),Sub.refl _,Sub.refl _,λ_ h=>h.elim⟩
theorem Dd(L A Y vs:List Value)(o1 o2:Nat)(h1:L.take o1=A)(h2:o1<=L.length)(hv:vs.length=3)(ho:o2=o1+3)(h3:o2<=L.length):
 ∀ L1,L1=L.take o2++Y++L.drop (o2+Y.length)->L1.take o1++vs++L1.drop (o1+vs.length)=A++vs++Y++L.drop (o2+Y.length):=by
 rintro L1 rfl
 have e1:(L.take o2++Y++L.drop (o2+Y.length)).take o1=A:=by
  rw[aT,kG (by rw[aL];omega),oq,show min o1 o2=o1 by omega,h1]
 have e2:(L.take o2++Y++L.drop (o2+Y.length)).drop (o1+vs.length)=Y++L.drop (o2+Y.length):=by
  rw[aT,hv,<-ho]
  exact List.drop_left' (by rw[aL];omega)
 rw[e1,e2]
 simp
end
noncomputable section
def Bc(n:Nat)(x:List It×(Int×(List It×Unit))):Option ((List It×Unit)×Unit):=
 if x.2.2.1.length=1/\0<=x.2.1/\x.2.1.toNat<=x.1.length/\(x.1.length+1)*24<=140737488355328 then some ((x.1.take x.2.1.toNat++x.2.2.1++x.1.drop x.2.1.toNat,()),())else none
theorem Kf:Plain Tryz.prog 165:=⟨_,Tryz.func165,by kernel_rfl,by kernel_rfl⟩
theorem w5{F:af}{w:World}{xs:List It}{ao:Option Addr}{cap:Nat}{S:af}(h:Rep F w (.sl j9) (.own .ro) xs [.slice ao xs.length cap] S)(hp:0<cap):
 xs.length<=cap/\cap<=maxLen/\(∀ x∈xs,Dc x)/\∃ (b off:Nat) (c:Array Value) (e:Mark c.size 3),ao=some ⟨b,off,none⟩/\w.heap[b]?=some (.cells c e.t (e.a,e.b))/\off+cap*3<=c.size/\S b/\(c.toList.drop off).take (xs.length*3)=itL xs:=by
 obtain⟨a,cp,e0,h1,h2,h3⟩:=h
 injection e0 with e0 _
 injection e0 with q1 q2 q3
 subst q1 q3
 rcases h3 with rfl|⟨b,off,c,e,rfl,hb,hc,hS,S0,hr,_,_⟩
 ·omega
 ·obtain⟨k1,k2⟩:=EA hr
  exact⟨h1,h2,k2,b,off,c,e,rfl,hb,hc,hS,k1⟩
theorem Kg{F:af}{w:World}{xs:List It}{b off cap:Nat}{c:Array Value}(e:Mark c.size 3){S:af}(h1:xs.length<=cap)(h2:cap<=maxLen)(hb:w.heap[b]?=some (.cells c e.t (e.a,e.b)))(hc:off+cap*3<=c.size)(hS:S b)(hk:∀ x∈xs,Dc x)
 (hr:(c.toList.drop off).take (xs.length*3)=itL xs):Rep F w (.sl j9) (.own .ro) xs [.slice (some ⟨b,off,none⟩) xs.length cap] S:=
 ⟨_,cap,rfl,h1,h2,.inr ⟨b,off,c,e,rfl,hb,hc,hS,af.none,by
  show bm _ _ ((c.toList.drop off).take (xs.length*3)) _
  rw[hr];exact yv hk,λ_ h=>h.elim,λh=>h⟩⟩
theorem Kh{F:af}{w:World}{xs:List It}{ao:Option Addr}{cap:Nat}{S:af}(h:Rep F w (.sl j9) (.own .ro) xs [.slice ao xs.length cap] S):xs.length<=cap/\cap<=maxLen:=by
 obtain⟨a,cp,e0,h1,h2,h3⟩:=h
 injection e0 with e0 _
 injection e0 with q1 q2 q3
 subst q1 q3
 exact⟨h1,h2⟩
set_option maxHeartbeats 1000000 in
theorem Ki(N:Nat)(xs ys:List It)(i:Nat){F:af}{w:World}{S S1 S5:af}{ao ao3:Option Addr}{cap uQ:Nat}(hSF:Dis S F)(hF:∀ k,F k->k<w.heap.size)(hS:∀ k,S k->k<w.heap.size)
 (hy1:ys.length=1) (hin:i<=xs.length) (yr:(xs.length+1)*24<=140737488355328) (hx1:Rep F w (.sl j9) (.own .ro) xs [.slice ao xs.length cap] S1) (hx3:Rep F w (.sl j9) (.own .ro) ys [.slice ao3 ys.length uQ] S5)
 (s1:Sub S1 S) (hS5:Sub S5 S) (Ym:Dis S1 S5):
 Calls Tryz.prog 165 #[.slice ao xs.length cap,.int .i64 i,.slice ao3 ys.length uQ] w (us ⟨[(.sl j9,.own .ro),(y3,.ro),(.sl j9,.own .ro)],[(.sl j9,.own .ro)],[],[],Bc N⟩ ((xs.take i++ys++xs.drop i,()),()) F w S [.slice ao xs.length cap,.int .i64 i,.slice ao3 ys.length uQ]):=by
 obtain⟨hle,hcm⟩:=Kh hx1
 obtain⟨Y4,Y5⟩:=Kh hx3
 obtain⟨_,_,hyk,vb,ky,c3,e3,rfl,hb3,hc3,Vn,Qj⟩:=w5 hx3 (by omega)
 rw[hy1]at Qj |-
 have hl3:(itL ys).length=3:=by rw[yu,hy1]
 have R4:∀ j v,(itL ys)[j]?=some v->w.cell? ⟨vb,ky+j,none⟩=some v:=by
  intro j v hj
  rw[<-Qj,List.getElem?_take]at hj
  split at hj
  ·rw[List.getElem?_drop]at hj
   simp only[World.cell?,hb3]
   simpa using hj
  ·cases hj
 -- the end
 have fin:∀ (v':Value) (w':World) (Sr:af),w'.os=w.os->w'.tape=w.tape->w'.output=w.output->w.heap.size<=w'.heap.size->(∀ k,k<w.heap.size->¬S k->w'.heap[k]?=w.heap[k]?)->
  Rep F w' (.sl j9) (.own .ro) (xs.take i++ys++xs.drop i) [v'] Sr->(∀ k,Sr k->S k\/(w.heap.size<=k/\k<w'.heap.size))->
  us ⟨[(.sl j9,.own .ro),(y3,.ro),(.sl j9,.own .ro)],[(.sl j9,.own .ro)],[],[],Bc N⟩ ((xs.take i++ys++xs.drop i,()),()) F w S [.slice ao xs.length cap,.int .i64 i,.slice (some ⟨vb,ky,none⟩) 1 uQ] (.returned v') w':=by
  intro v' w' Sr q1 q2 q3 q4 q5 bF hsr
  have hvr:VR (.sl j9) [v'] v':=by
   obtain⟨a,cp,e0,_⟩:=bF
   injection e0 with e0 _
   subst e0
   simp[VR,Ty.agg,Value.oneCell']
  refine⟨[v'],F,Sr,af.none,rfl,⟨_,[],[v'],Sr,af.none,rfl,bF,hvr,rfl,Sub.refl _,λ_ h=>h.elim,λ_ _ h=>h.elim⟩,rfl,λ_ _ h=>h.elim,⟨q1,q2,q3,q4,q5⟩,Sub.refl _,λk hk=>bz (hF k hk) q4,λk hk _ _=>hk,?_⟩
  rintro k (hk|hk)
  ·rcases hsr k hk with h|⟨h,h'⟩
   ·exact⟨bz (hS k h) q4,λhf=>hSF k h hf,λ_=>h⟩
   ·exact⟨h',λhf=>by have:=hF k hf;omega,λhl=>by omega⟩
  ·exact hk.elim
 have hrl:(xs.take i++ys++xs.drop i).length=xs.length+1:=by
  rw[ak,ak,aL,bD,hy1];omega
 by_cases mH:i=xs.length
 ·subst mH
  obtain⟨v',w',bX,q1,q2,q3,q4,q5,q6⟩:=sK (P:=Tryz.prog) (F:=F) (w:=w) hF (t:=117) (tx:=117) (ty:=117) RA Tryz.underlying117 (me:=.ro) (x1:=xs) (x2:=ys) (v1:=.slice ao xs.length cap) (v2:=.slice (some ⟨vb,ky,none⟩) 1 uQ) (S1:=S1) (S2:=af.none) hx1 (news:=itL ys)
   (by
    have:=Src.ofSlice (P:=Tryz.prog) (w:=w) (size:=3) Tryz.underlying117 ⟨vb,ky,none⟩ 1 uQ (itL ys) (by rw[hl3]) (λj v hj=>by rw[cQ];exact R4 j v hj) (oH ys)
    show Src Tryz.prog 3 117 _ ys.length _ w
    rw[hy1];exact this)
   (yv hyk) (λ_ _ h=>h.elim) (λk hk hf=>hSF k (s1 k hk) hf) (λk hk=>hS k (s1 k hk)) (λ_ h=>h.elim) (by show(xs.length+ys.length)*24<=_;rw[hy1];exact yr) (by show xs.length+ys.length<=_;rw[hy1];unfold maxLen;omega)
  refine(Ov ao xs.length cap ⟨vb,ky,none⟩ uQ w hle (by unfold maxLen at hcm;omega) (by omega) v' w' bX).mono λe W he=>?_
  obtain⟨rfl,rfl⟩:=he
  refine fin _ _ (λk=>S1 k\/af.none k\/(w.heap.size<=k/\k<W.heap.size)) q1 q2 q3 q4 (λk hk hs=>q5 k hk (λh=>hs (s1 k h))) ?_ ?_
  ·rw[dj,ie,bV];exact q6
  ·rintro k (h|h|h)
   ·exact .inl (s1 k h)
   ·exact h.elim
   ·exact .inr h
 ·have hi:i<xs.length:=by omega
  obtain⟨_,_,hxk,b,off,c,e,rfl,hb,hcc,hSb,eR⟩:=w5 hx1 (by omega)
  have hvb:vb≠b:=λh=>Ym b hSb (h ▸ Vn)
  have hbw:b<w.heap.size:=hS b (s1 b hSb)
  have hvw:vb<w.heap.size:=hS vb (hS5 vb Vn)
  have hlx:=yu xs
  have hcl:c.toList.length=c.size:=bg
  have hat:∀ j v,(itL xs)[j]?=some v->w.cell? ⟨b,off+j,none⟩=some v:=by
   intro j v hj
   rw[<-eR,List.getElem?_take]at hj
   split at hj
   ·rw[List.getElem?_drop]at hj
    simp only[World.cell?,hb]
    simpa using hj
   ·cases hj
  have fK:∀ x∈xs.take i++ys++xs.drop i,Dc x:=by
   intro x hx
   rcases au.1 hx with hx|hx
   ·rcases au.1 hx with hx|hx
    ·exact hxk x (nY hx)
    ·exact hyk x hx
   ·exact hxk x (hC hx)
  have yd:itL (xs.take i++ys++xs.drop i)=(itL xs).take (i*3)++itL ys++(itL xs).drop (i*3):=by
   rw[uP,uP,Ba,Bb]
  obtain⟨ti,z,hti,ht1,ht2,ht3,ht4⟩:=RA.vS
  have hz:z.cells.size=3:=by rw[<-bg,ht4];rfl
  have hsz:(Tryz.prog.info? 131).map (·.size)=some 3:=by rw[hti];exact congrArg some ht1
  have hdl:((itL xs).drop (i*3)).length=(xs.length-i)*3:=by rw[bD,hlx,ou]
  by_cases pc:xs.length+1<=cap
  ·have YW:(xs.length+1)*3<=cap*3:=hJ _ pc
   refine(HC b off xs.length cap i vb ky uQ (itL xs) (itL ys) w hi pc (by unfold maxLen at hcm;omega) hvb hlx hl3 hat (λj hj=>by simp only[World.cell?,hb];simp;omega) (λj hj=>Mark.frz (e:=e) hb rfl (by show off+j<c.size;omega)) R4 (oH xs) (oH ys)
    e3.t e.t c3.size c.size (by simp[World.shape?,hb3]) (by simp[World.shape?,hb]) (by omega) (Mark.frz (e:=e3) hb3 rfl (by show ky<c3.size;omega)) (by
     have h:=e3.en (by decide)
     simp only[World.frozen?,hb3]
     rcases aj c3.size e3.a with h1|h1
     ·have:decide (e3.a<=c3.size)=false:=decide_eq_false (by omega)
      simp[this]
     ·have:decide (c3.size<e3.b)=false:=decide_eq_false (λh2=>h ⟨h1,h2⟩)
      simp[this]) hsz).mono λe' W he=>?_
   obtain⟨rfl,rfl⟩:=he
   obtain⟨a1,⟨cA,a2,a3⟩,a4,a5,a6,a7⟩:=dH b ((itL xs).drop (i*3)) (off+(i+1)*3) w.drew c e.t (e.a,e.b) hb (by rw[hdl];omega)
   have hcA:cA.size=c.size:=by
    rw[<-bg,<-bg,a3]
    simp only[ak,aL,bD,hcl,hlx]
    omega
   obtain⟨b1,⟨cB,b2,b3⟩,b4,b5,b6,b7⟩:=dH b (itL ys) (off+i*3) _ cA e.t (e.a,e.b) a2 (by rw[hl3,hcA];omega)
   have hcB:cB.size=c.size:=by
    rw[<-hcA,<-bg,<-bg (xs:=cA),b3]
    simp only[ak,aL,bD,bg,hl3]
    omega
   have Vo:cB.toList=c.toList.take off++(itL xs).take (i*3)++itL ys++(itL xs).drop (i*3)++c.toList.drop (off+(i+1)*3+((itL xs).drop (i*3)).length):=by
    rw[b3]
    exact Dd c.toList _ _ _ (off+i*3) (off+(i+1)*3) (by
     rw[<-eR,oq,show min (i*3) (xs.length*3)=i*3 by omega,List.take_add]) (by omega) hl3 (by omega) (by omega) cA.toList a3
   refine fin _ _ S1 (b5.trans a5) (b6.trans a6) (b7.trans a7) (by rw[b4,a4];exact aw _) (λk hk hs=>by
    have hkb:k≠b:=λh=>hs (h ▸ s1 b hSb)
    rw[b1 k hkb,a1 k hkb];rfl) ?_ (λk hk=>.inl (s1 k hk))
   have e':Mark cB.size 3:=e.to (il hcB)
   have:=Kg (F:=F) (w:=((w.drew.setCells b (off+(i+1)*3) ((itL xs).drop (i*3))).setCells b (off+i*3) (itL ys))) (xs:=xs.take i++ys++xs.drop i) (b:=b) (off:=off) (cap:=cap) (c:=cB) (e.to (il hcB)) (S:=S1) (by rw[hrl];exact pc) hcm b2 (by rw[hcB];exact hcc) hSb fK (by
    rw[hrl,yd,Vo]
    rw[show c.toList.take off++(itL xs).take (i*3)++itL ys++(itL xs).drop (i*3)++c.toList.drop (off+(i+1)*3+((itL xs).drop (i*3)).length)=c.toList.take off++(((itL xs).take (i*3)++itL ys++(itL xs).drop (i*3))++c.toList.drop (off+(i+1)*3+((itL xs).drop (i*3)).length)) by simp]
    rw[List.drop_left' (by rw[aL];omega)]
    exact oi (by
     simp only[ak,aL,bD,hlx,hl3];omega))
   rw[hrl]at this
   exact this
  ·refine(Ke b off xs.length cap i vb ky uQ (itL xs) (itL ys) w hi hle (by omega) (by omega) hlx hl3 hat R4 (oH xs) (oH ys) hbw hvw ti z hti ht3 ht1 ht2 hz).mono λe' W he=>?_
   obtain⟨rfl,rfl⟩:=he
   obtain⟨ROW,AZ⟩:∃ ROW:Array Value,ROW=((itL xs).take (i*3)).toArray++Builtin.zeroCells z.cells (xs.length+1-i)++Builtin.zeroCells z.cells (grownCap w (xs.length+1) cap 131-(xs.length+1)):=⟨_,rfl⟩
   rw[<-AZ]
   have hG:=grownCap_ge w (xs.length+1) cap 131
   have hG2:=grownCap_le_maxLen w (xs.length+1) cap 131 (by unfold maxLen;omega)
   obtain⟨G,hGG⟩:∃ G,G=grownCap w (xs.length+1) cap 131:=⟨_,rfl⟩
   rw[<-hGG]at hG hG2 AZ |-
   have hRs:ROW.size=G*3:=by
    rw[AZ]
    simp only[q8,size_zeroCells,hz,q9,aL,hlx]
    have:min (i*3) (xs.length*3)=i*3:=dl (by omega)
    omega
   have hRt:ROW.toList.take (i*3)=(itL xs).take (i*3):=by
    rw[AZ]
    simp only[qX,aT]
    exact oi (by rw[aL];omega)
   have th:(w.alloc (.cells ROW 131)).drew.heap[w.heap.size]?=some (.cells ROW 131 (0,0)):=kW w _
   obtain⟨a1,⟨cA,a2,a3⟩,a4,a5,a6,a7⟩:=dH w.heap.size (itL ys) (i*3) (w.alloc (.cells ROW 131)).drew ROW 131 (0,0) th (by rw[hl3,hRs];omega)
   have hRl:ROW.toList.length=G*3:=by rw[bg];exact hRs
   have hcA:cA.size=G*3:=by
    rw[<-bg,a3]
    simp only[ak,aL,bD,hRl,hl3]
    omega
   have Yn:cA.toList.length=G*3:=by rw[bg];exact hcA
   obtain⟨b1,⟨cB,b2,b3⟩,b4,b5,b6,b7⟩:=dH w.heap.size ((itL xs).drop (i*3)) ((i+1)*3) ((w.alloc (.cells ROW 131)).drew.setCells w.heap.size (i*3) (itL ys)).drew cA 131 (0,0) a2 (by rw[hdl,hcA];omega)
   have hcB:cB.size=G*3:=by
    rw[<-bg,b3]
    simp only[ak,aL,bD,Yn,hlx]
    omega
   have hAt:cA.toList.take ((i+1)*3)=(itL xs).take (i*3)++itL ys:=by
    rw[a3,hRt]
    exact oi (by rw[ak,aL,hl3,hlx];omega)
   have D1:(cB.toList.drop 0).take ((xs.take i++ys++xs.drop i).length*3)=itL (xs.take i++ys++xs.drop i):=by
    rw[hrl,yd,dm,b3,hAt]
    exact oi (by simp only[ak,aL,bD,hlx,hl3];omega)
   have yw:=Kg (F:=F) (w:=(((w.alloc (.cells ROW 131)).drew.setCells w.heap.size (i*3) (itL ys)).drew).setCells w.heap.size ((i+1)*3) ((itL xs).drop (i*3))) (xs:=xs.take i++ys++xs.drop i) (b:=w.heap.size) (off:=0) (cap:=G) (c:=cB) (Mark.free _ 131) (S:=λk=>k=w.heap.size) (by rw[hrl];exact hG) hG2 b2 (by rw[hcB];omega) rfl fK D1
   rw[hrl]at yw
   have hws:((((w.alloc (.cells ROW 131)).drew.setCells w.heap.size (i*3) (itL ys)).drew).setCells w.heap.size ((i+1)*3) ((itL xs).drop (i*3))).heap.size=w.heap.size+1:=by
    rw[b4]
    exact a4.trans (dO w _)
   refine fin _ _ (λk=>k=w.heap.size) (b5.trans a5) (b6.trans a6) (b7.trans a7) (by rw[hws];omega) (λk hk hs=>?_) yw (λk hk=>.inr ⟨by omega,by omega⟩)
   rw[b1 k (by omega)]
   exact(a1 k (by omega)).trans (eK w _ hk)
theorem Vp(N:Nat):fL Tryz.prog 165 ⟨[(.sl j9,.own .ro),(y3,.ro),(.sl j9,.own .ro)],[(.sl j9,.own .ro)],[],[],Bc N⟩:=by
 rintro⟨xs,i0,ys,u⟩ r hd F w S args jS hSF hF hS _
 have hd2:Bc N (xs,i0,ys,u)=some r:=hd
 clear hd
 unfold Bc at hd2
 split at hd2
 case isFalse=>cases hd2
 rename_i hc
 obtain⟨hy1,h0,hin,yr⟩:=hc
 have hd3:=dz hd2
 subst hd3
 clear hd2
 obtain⟨v1,vs1,cs1,S1,S2,rfl,hr1,hv1,⟨v2,vs2,cs2,S3,S4,rfl,hr2,hv2,⟨v3,vs3,cs3,S5,S6,rfl,hr3,hv3,h4,s5,s6,d5⟩,s3,s4,d3⟩,s1,s2,d⟩:=jS
 cases h4
 have Yo:=(pk (k:=.i64) hr2 hv2).1
 have e0:i0=((Int.toNat i0:Nat):Int):=(fF h0).symm
 obtain⟨ao,cap,hc1,_⟩:=id hr1
 obtain⟨ao3,uQ,hc3,_⟩:=id hr3
 subst hc1 hc3
 have R5:v1=.slice ao (List.length (xs:List It)) cap:=by simp[VR,Ty.agg]at hv1;exact hv1.1.symm
 have Yp:v3=.slice ao3 (List.length (ys:List It)) uQ:=by simp[VR,Ty.agg]at hv3;exact hv3.1.symm
 have:=Ki N xs ys (Int.toNat i0) hSF hF hS hy1 hin yr (S1:=S1) (S5:=S5) hr1 hr3 s1 (λk hk=>s2 k (s4 k (s5 k hk))) (λk h1 h5=>d k h1 (s4 k (s5 k h5)))
 rw[<-e0]at this
 rw[R5,Yo,Yp]
 exact this
def F165(n:Nat):Fb 165:=⟨_,Vp n,Kf⟩
end
end Go.Proofs.YtphipehmbefejaaGreat.Rf
namespace Go.Proofs
open Go.Shelf
noncomputable section
def Tryz.sort_ren:Go.Shelf.Ren:=⟨λ|6=>102|14=>167|15=>168|20=>206|21=>207|22=>208|23=>209|24=>210|25=>211|26=>212|27=>213|28=>214|29=>215|46=>231|47=>232|48=>233|49=>234|50=>235|57=>243|n=>n,λ|0=>0|3=>3|4=>4|5=>5|9=>9|22=>77|24=>63|25=>196|39=>60|45=>296|46=>297|50=>119|53=>303|55=>59|66=>314|70=>318|76=>324|77=>104|n=>n,λn=>n⟩
theorem Tryz.sort_lays:Go.Proofs.SlLaysF0.n6 Tryz.prog Tryz.sort_ren:={
 mixed:=by kernel_rfl
 f6 := ⟨"slices.SortFunc[[]bosket/api.Sym,bosket/api.Sym]", by decide, Tryz.func102.trans (congrArg some (by kernel_rfl))⟩
 f14 := ⟨"slices.pdqsortCmpFunc[bosket/api.Sym]", by decide, Tryz.func167.trans (congrArg some (by kernel_rfl))⟩
 f15:=Tryz.func168.trans (congrArg some (by kernel_rfl))
 f20 := ⟨"slices.insertionSortCmpFunc[bosket/api.Sym]", by decide, Tryz.func206.trans (congrArg some (by kernel_rfl))⟩
 f21 := ⟨"slices.heapSortCmpFunc[bosket/api.Sym]", by decide, Tryz.func207.trans (congrArg some (by kernel_rfl))⟩
 f22 := ⟨"slices.breakPatternsCmpFunc[bosket/api.Sym]", by decide, Tryz.func208.trans (congrArg some (by kernel_rfl))⟩
 f23 := ⟨"slices.choosePivotCmpFunc[bosket/api.Sym]", by decide, Tryz.func209.trans (congrArg some (by kernel_rfl))⟩
 f24 := ⟨"slices.reverseRangeCmpFunc[bosket/api.Sym]", by decide, Tryz.func210.trans (congrArg some (by kernel_rfl))⟩
 f25 := ⟨"slices.partialInsertionSortCmpFunc[bosket/api.Sym]", by decide, Tryz.func211.trans (congrArg some (by kernel_rfl))⟩
 f26 := ⟨"slices.partitionEqualCmpFunc[bosket/api.Sym]", by decide, Tryz.func212.trans (congrArg some (by kernel_rfl))⟩
 f27 := ⟨"slices.partitionCmpFunc[bosket/api.Sym]", by decide, Tryz.func213.trans (congrArg some (by kernel_rfl))⟩
 f28:=Tryz.func214.trans (congrArg some (by kernel_rfl))
 f29:=Tryz.func215.trans (congrArg some (by kernel_rfl))
 f46 := ⟨"slices.siftDownCmpFunc[bosket/api.Sym]", by decide, Tryz.func231.trans (congrArg some (by kernel_rfl))⟩
 f47:=Tryz.func232.trans (congrArg some (by kernel_rfl))
 f48:=Tryz.func233.trans (congrArg some (by kernel_rfl))
 f49 := ⟨"slices.medianAdjacentCmpFunc[bosket/api.Sym]", by decide, Tryz.func234.trans (congrArg some (by kernel_rfl))⟩
 f50 := ⟨"slices.medianCmpFunc[bosket/api.Sym]", by decide, Tryz.func235.trans (congrArg some (by kernel_rfl))⟩
 f57 := ⟨"slices.order2CmpFunc[bosket/api.Sym]", by decide, Tryz.func243.trans (congrArg some (by kernel_rfl))⟩
 t0:=Tryz.underlying0
 a0:=Tryz.isAgg0
 z0:=Tryz.sizeOf0
 v0:=Tryz.zeroValue0
 t3:=Tryz.underlying3
 a3:=Tryz.isAgg3
 z3:=Tryz.sizeOf3
 v3:=Tryz.zeroValue3
 t4:=Tryz.underlying4
 a4:=Tryz.isAgg4
 z4:=Tryz.sizeOf4
 v4:=Tryz.zeroValue4
 t5:=Tryz.underlying5
 a5:=Tryz.isAgg5
 z5:=Tryz.sizeOf5
 v5:=Tryz.zeroValue5
 t9:=Tryz.underlying9
 a9:=Tryz.isAgg9
 z9:=Tryz.sizeOf9
 v9:=Tryz.zeroValue9
 t22:=Tryz.underlying77
 a22:=Tryz.isAgg77
 z22:=Tryz.sizeOf77
 v22:=Tryz.zeroValue77
 t25:=Tryz.underlying196
 a25:=Tryz.isAgg196
 z25:=Tryz.sizeOf196
 v25:=Tryz.zeroValue196
 t39:=Tryz.underlying60
 a39:=Tryz.isAgg60
 z39:=Tryz.sizeOf60
 v39:=Tryz.zeroValue60
 t45:=Tryz.underlying296
 a45:=Tryz.isAgg296
 z45:=Tryz.sizeOf296
 v45:=Tryz.zeroValue296
 t46:=Tryz.underlying297
 a46:=Tryz.isAgg297
 z46:=Tryz.sizeOf297
 v46:=Tryz.zeroValue297
 t50:=Tryz.underlying119
 a50:=Tryz.isAgg119
 z50:=Tryz.sizeOf119
 v50:=Tryz.zeroValue119
 t53:=Tryz.underlying303
 a53:=Tryz.isAgg303
 z53:=Tryz.sizeOf303
 v53:=Tryz.zeroValue303
 t55:=Tryz.underlying59
 a55:=Tryz.isAgg59
 z55:=Tryz.sizeOf59
 v55:=Tryz.zeroValue59
 t66:=Tryz.underlying314
 a66:=Tryz.isAgg314
 z66:=Tryz.sizeOf314
 v66:=Tryz.zeroValue314
 t70:=Tryz.underlying318
 a70:=Tryz.isAgg318
 z70:=Tryz.sizeOf318
 v70:=Tryz.zeroValue318
 t76:=Tryz.underlying324
 a76:=Tryz.isAgg324
 z76:=Tryz.sizeOf324
 v76:=Tryz.zeroValue324
 t77:=Tryz.underlying104
 a77:=Tryz.isAgg104
 z77:=Tryz.sizeOf104
 v77:=Tryz.zeroValue104}
end
end Go.Proofs
namespace Go.Proofs.YtphipehmbefejaaGreat.Rf
open Go Go.RowKit Go.Lib Go.Sort
noncomputable section
abbrev Sy:=Bool×Int
def qi(x y:Sy):Int:=if x.1≠y.1/\y.1=true then -1 else if x.1≠y.1\/y.2<x.2 then 1 else if x.2<y.2 then -1 else 0
def kz(x:Sy):List Value:=[.bool x.1,.int .i64 x.2]
def ltS(x y:Sy):Bool:=decide (x.1=false/\y.1=true\/x.1=y.1/\x.2<y.2)
def De(x:Sy):List Sy->List Sy
 |[]=>[x]
 |y::l=>bif ltS y x then y::De x l else x::y::l
def gJ:List Sy->List Sy
 |[]=>[]
 |x::l=>De x (gJ l)
theorem l5{x y:Sy}:ltS x y=true↔(x.1=false/\y.1=true\/x.1=y.1/\x.2<y.2):=by unfold ltS;simp
theorem uR(x y:Sy):ltS x y=true\/x=y\/ltS y x=true:=by
 obtain⟨a,b⟩:=x
 obtain⟨c,d⟩:=y
 rw[l5,l5]
 cases a <;> cases c <;> simp <;> omega
theorem l6(x:Sy):ltS x x=false:=by
 cases h:ltS x x
 ·rfl
 ·rw[l5]at h
  rcases h with⟨h1,h2⟩|⟨_,h⟩
  ·rw[h1]at h2;cases h2
  ·omega
theorem yx{x y z:Sy}(h1:ltS x y=true)(h2:ltS y z=true):ltS x z=true:=by
 obtain⟨a,b⟩:=x
 obtain⟨c,d⟩:=y
 obtain⟨e,f⟩:=z
 rw[l5]at *
 cases a <;> cases c <;> cases e <;> simp at * <;> omega
theorem yy{x y:Sy}(h1:ltS x y=true)(h2:ltS y x=true):False:=by
 have:=yx h1 h2
 rw[l6]at this
 cases this
theorem l7(x y:Sy):ltOf qi x y=ltS x y:=by
 obtain⟨a,b⟩:=x
 obtain⟨c,d⟩:=y
 unfold ltOf qi ltS
 cases a <;> cases c <;> simp
 all_goals (by_cases h1:d<b <;> by_cases h2:b<d <;> simp[h1,h2] <;> omega)
theorem R6:SWO (ltOf qi) where
 irrefl x:=by rw[l7];exact l6 x
 trans x y z h1 h2:=by rw[l7]at *;exact yx h1 h2
 ntrans x y z h1 h2:=by
  rw[l7]at *
  cases h:ltS x z
  ·rfl
  ·rcases uR x y with h3|rfl|h3
   ·rw[h3]at h1;cases h1
   ·rw[h]at h2;cases h2
   ·have:=yx h3 h
    rw[this]at h2;cases h2
theorem Yq(x y:Sy)(h1:ltOf qi x y=false)(h2:ltOf qi y x=false):x=y:=by
 rw[l7]at *
 rcases uR x y with h|h|h
 ·rw[h]at h1;cases h1
 ·exact h
 ·rw[h]at h2;cases h2
def leS(x y:Sy):Prop:=ltS y x=false
theorem R7{x y z:Sy}(h1:leS x y)(h2:leS y z):leS x z:=by
 have:=R6.ntrans z y x
 rw[l7,l7,l7]at this
 exact this h2 h1
theorem rT(x:Sy):∀ l,(De x l).Perm (x::l)
 |[]=>.refl _
 |y::l=>by
  unfold De
  cases ltS y x
  ·exact .refl _
  ·exact((rT x l).cons y).trans (.swap x y l)
theorem gn:∀ l,(gJ l).Perm l
 |[]=>.refl _
 |x::l=>(rT x _).trans ((gn l).cons x)
theorem sW(x:Sy):∀ l,l.Pairwise leS->(De x l).Pairwise leS
 |[],_=>by simp[De]
 |y::l,h=>by
  obtain⟨h1,h2⟩:=dx.1 h
  unfold De
  cases hy:ltS y x
  ·refine dx.2 ⟨λz hz=>?_,h⟩
   rcases aI.1 hz with rfl|hz
   ·exact hy
   ·exact R7 hy (h1 z hz)
  ·refine dx.2 ⟨λz hz=>?_,sW x l h2⟩
   rcases aI.1 ((rT x l).mem_iff.1 hz)with rfl|hz
   ·show ltS z y=false
    cases h':ltS z y
    ·rfl
    ·exact(yy hy h').elim
   ·exact h1 z hz
theorem l8:∀ l,(gJ l).Pairwise leS
 |[]=>.nil
 |x::l=>sW x _ (l8 l)
theorem R8(l:List Sy):(l.mergeSort λx y=>!(ltOf qi) y x)=gJ l:=by
 have hp:=List.pairwise_mergeSort (le:=λx y=>!(ltOf qi) y x) (λa b c h1 h2=>by
  simp only[bC]at *
  exact R6.ntrans _ _ _ h2 h1) (λa b=>by
  simp only[l7]
  rcases uR a b with h|rfl|h
  ·have:ltS b a=false:=by
    cases h':ltS b a
    ·rfl
    ·exact(yy h h').elim
   simp[this]
  ·simp[l6]
  ·have:ltS a b=false:=by
    cases h':ltS a b
    ·rfl
    ·exact(yy h h').elim
   simp[this]) l
 refine List.Perm.eq_of_pairwise (le:=leS) (λa b _ _ h1 h2=>?_) (hp.imp λ{a b} h=>?_) (l8 l) ((List.mergeSort_perm l _).trans (gn l).symm)
 ·unfold leS at h1 h2
  rcases uR a b with h|h|h
  ·rw[h]at h2;cases h2
  ·exact h
  ·rw[h]at h1;cases h1
 ·simp only[l7,bC]at h
  exact h
set_option maxHeartbeats 1000000 in
theorem Vq(x y:Sy)(W:World):Calls Tryz.prog 103 #[.agg #[.bool x.1,.int .i64 x.2],.agg #[.bool y.1,.int .i64 y.2]] W λe w'=>e=.returned (.int .i64 (qi x y))/\∃ q os',w'=grow (W.drewN q) os':=by
 have mixed:Tryz.prog.follows .mixedOrders=true:=by kernel_rfl
 obtain⟨a,b⟩:=x
 obtain⟨c,d⟩:=y
 have fin:∀ (v:Int),v=qi (a,b) (c,d)->∀ W',(∃ q os',W'=grow (W.drewN q) os')->(Ending.returned (Value.int .i64 v)=.returned (.int .i64 (qi (a,b) (c,d)))/\∃ q os',W'=grow (W.drewN q) os'):=λv hv W' hw=>⟨by rw[hv],hw⟩
 have two:∀ o1 o2:Obj,∃ q os',(W.alloc o1).alloc o2=grow (W.drewN q) os':=λo1 o2=>⟨0,_,by rw[alloc_eq_grow,alloc_eq_grow,grow_grow];rfl⟩
 rcases Int.lt_trichotomy b d with h1|rfl|h1
 ·have h2:¬d<b:=by omega
  cases a <;> cases c
  all_goals (go_enter Tryz.func103,Tryz.ntmps103)
  all_goals go_wp2
  all_goals go_ret
  all_goals (refine fin _ ?_ _ (two _ _))
  all_goals (simp[qi,h1,h2])
 ·cases a <;> cases c
  all_goals (go_enter Tryz.func103,Tryz.ntmps103)
  all_goals go_wp2
  all_goals go_ret
  all_goals (refine fin _ ?_ _ (two _ _))
  all_goals (simp[qi])
 ·have h2:¬b<d:=by omega
  cases a <;> cases c
  all_goals (go_enter Tryz.func103,Tryz.ntmps103)
  all_goals go_wp2
  all_goals go_ret
  all_goals (refine fin _ ?_ _ (two _ _))
  all_goals (simp[qi,h1,h2])
def syL(xs:List Sy):List Value:=xs.flatMap kz
theorem EB:∀ xs,(syL xs).length=xs.length*2
 |[]=>rfl
 |x::xs=>by
  show(kz x++syL xs).length=_
  rw[ak,EB xs,aO]
  show 2+_=_
  omega
theorem Kj(x:Sy):∀ v∈kz x,v.oneCell'=true:=λv h=>by
 simp only[kz,aI,bU,or_false]at h
 rcases h with rfl|rfl <;> rfl
theorem EC:∀ (xs:List Sy) (t:Nat),t<xs.length*2->(syL xs)[t]?=some ((kz xs[t / 2]!)[t % 2]!)
 |[],t,h=>by simp at h
 |x::xs,0,h=>rfl
 |x::xs,1,h=>rfl
 |x::xs,t+2,h=>by
  show(kz x++syL xs)[t+2]?=_
  rw[List.getElem?_append_right (by show 2<=_;omega),show t+2-(kz x).length=t by show t+2-2=t;omega,EC xs t (by rw[aO]at h;omega),show(t+2) / 2=t / 2+1 by omega,show(t+2) % 2=t % 2 by omega]
  rfl
theorem Be(xs:List Sy)(t:Nat)(h:t<xs.length*2):(syL xs)[t]?=some ((flatK kz 2 xs.toArray)[t]!):=by
 rw[get_flatK kz 2 xs.toArray t (by simpa using h),EC xs t h]
 simp
theorem R9{F:af}{w:World}{m:Md}{x:Sy}{cs:List Value}{S:af}(h:Rep F w y62 m x cs S):cs=kz x/\inK .i64 x.2:=by
 obtain⟨c1,c2,S1,S2,rfl,rfl,⟨rfl,k⟩,_⟩:=h
 exact⟨rfl,k⟩
theorem Sa{F:af}{w:World}{m:Md}{x:Sy}(h:inK .i64 x.2):Rep F w y62 m x (kz x) af.none:=
 ⟨[_],[_],af.none,af.none,rfl,rfl,⟨rfl,h⟩,Sub.refl _,Sub.refl _,λ_ h=>h.elim⟩
theorem ED{F:af}{w:World}{m:Md}:∀ {xs:List Sy} {cs:List Value} {S:af},bm (Rep F w y62 m) xs cs S->cs=syL xs/\∀ x∈xs,inK .i64 x.2
 |[],cs,S,h=>⟨h,λx hx=>by cases hx⟩
 |x::xs,cs,S,h=>by
  obtain⟨c1,c2,S1,S2,rfl,h1,h2,_⟩:=h
  obtain⟨rfl,k1⟩:=R9 h1
  obtain⟨rfl,k2⟩:=ED h2
  exact⟨rfl,λy hy=>by rcases aI.1 hy with rfl|hy;exact k1;exact k2 y hy⟩
theorem EE{F:af}{w:World}{m:Md}:∀ {xs:List Sy},(∀ x∈xs,inK .i64 x.2)->bm (Rep F w y62 m) xs (syL xs) af.none
 |[],_=>rfl
 |x::xs,h=>⟨_,_,af.none,af.none,rfl,Sa (h x bu),EE (λy hy=>h y (bB _ hy)),Sub.refl _,Sub.refl _,λ_ h=>h.elim⟩
def Df(n:Nat)(x:List Sy×(Unit×Unit)):Option (Unit×(List Sy×Unit)):=if x.1.length<4611686018427387904 then some ((),(gJ x.1,()))else none
theorem Kk:Plain Tryz.prog 102:=⟨_,Tryz.func102,by kernel_rfl,by kernel_rfl⟩
theorem Yr(x:Sy):(kz x).length=2:=rfl
theorem Ow(xs:List Sy)(off:Nat)(c:Array Value)(h:off+xs.length*2<=c.size):((putCells id off (flatK kz 2 xs.toArray) c).toList.drop off).take (xs.length*2)=syL xs:=by
 apply List.ext_getElem?
 intro t
 rw[List.getElem?_take]
 split
 ·rename_i ht
  rw[List.getElem?_drop,Array.getElem?_toList,Be xs t ht]
  unfold putCells
  rw[Array.getElem?_mapIdx,Array.getElem?_eq_getElem (by omega)]
  simp only[dy,id]
  rw[if_pos ⟨by omega,by simp;omega⟩,show off+t-off=t by omega]
 ·rename_i ht
  exact(List.getElem?_eq_none (by rw[EB];omega)).symm
set_option maxRecDepth 100000 in
set_option maxHeartbeats 1000000 in
theorem Vr(N:Nat):fL Tryz.prog 102 ⟨[(y77,.own .ro),(.fn 103,.ro)],[],[0],[(y77,.own .ro)],Df N⟩:=by
 rintro⟨xs,z,u⟩ r hd F w S args jS hSF hF hS _
 have hd2:Df N (xs,z,u)=some r:=hd
 unfold Df at hd2
 split at hd2
 case isFalse=>cases hd2
 rename_i yr
 have yr:List.length (xs:List Sy)<4611686018427387904:=yr
 have hd3:((),(gJ xs,()))=r:=dz hd2
 subst hd3
 obtain⟨v1,vs1,cs1,S1,S2,rfl,hr1,hv1,⟨v2,vs2,cs2,S3,S4,rfl,hr2,hv2,h4,s3,s4,d3⟩,s1,s2,d⟩:=jS
 cases h4
 have Ys:cs2=[.func (.func 103) #[] #[]]:=hr2
 subst Ys
 have Yt:v2=.func (.func 103) #[] #[]:=by simp[VR,Ty.agg]at hv2;exact hv2.1.symm
 subst Yt
 obtain⟨a,cp,e0,h1,h2,h3⟩:=hr1
 subst e0
 have R5:v1=.slice a (List.length (xs:List Sy)) cp:=by simp[VR,Ty.agg]at hv1;exact hv1.1.symm
 subst R5
 have h1:List.length (xs:List Sy)<=cp:=h1
 have hlen:(gJ xs).length=(xs:List Sy).length:=(gn xs).length_eq
 have fin:∀ (w':World),w'.os=w.os->w'.tape=w.tape->w'.output=w.output->w.heap.size<=w'.heap.size->(∀ k,k<w.heap.size->¬S k->w'.heap[k]?=w.heap[k]?)->
  Rep F w' (.sl y62) (.own .ro) (gJ xs) [.slice a (List.length (xs:List Sy)) cp] S1->
  us ⟨[(y77,.own .ro),(.fn 103,.ro)],[],[0],[(y77,.own .ro)],Df N⟩ ((),(gJ xs,())) F w S [.slice a (List.length (xs:List Sy)) cp,.func (.func 103) #[] #[]] (.returned (.tuple #[])) w':=by
  intro w' q1 q2 q3 q4 q5 bF
  refine⟨[],F,af.none,S1,rfl,rfl,⟨_,[],_,S1,af.none,rfl,bF,by simp[VR,Ty.agg,Value.oneCell'],rfl,Sub.refl _,λ_ h=>h.elim,λ_ _ h=>h.elim⟩,λ_ h=>h.elim,⟨q1,q2,q3,q4,q5⟩,Sub.refl _,λk hk=>bz (hF k hk) q4,λk hk _ _=>hk,?_⟩
  rintro k (hk|hk)
  ·exact hk.elim
  ·exact⟨bz (hS k (s1 k hk)) q4,λhf=>hSF k (s1 k hk) hf,λ_=>s1 k hk⟩
 rcases h3 with rfl|⟨b,off,c,e,rfl,hb,hc,hSb,S0,hr,hS0,hnb⟩
 ·have e0:(xs:List Sy)=[]:=qU.1 (by omega)
  subst e0
  refine(AnyF.slices_SortFunc_none Tryz.sort_lays a 0 (.func (.func 103) #[] #[]) w).mono λe W he=>?_
  obtain⟨rfl,rfl⟩:=he
  exact fin W rfl rfl rfl (aw _) (λ_ _ _=>rfl) ⟨a,0,rfl,aw _,h2,.inl rfl⟩
 ·obtain⟨eR,hxk⟩:=ED (F:=F) (w:=w) (m:=.ro) hr
  have eR:(c.toList.drop off).take ((xs:List Sy).length*2)=syL xs:=eR
  have hc:off+cp*2<=c.size:=hc
  have hxc:off+(xs:List Sy).length*2<=c.size:=by omega
  have hbw:b<w.heap.size:=hS b (s1 b hSb)
  have hH:HoldsK kz 2 w b off (xs:List Sy).toArray:=by
   intro j hj
   have hj:j<(xs:List Sy).length*2:=by simpa using hj
   refine⟨?_,Mark.frz (e:=e) hb rfl (by show off+j<c.size;omega)⟩
   have:=Be xs j hj
   rw[<-eR,List.getElem?_take,if_pos hj,List.getElem?_drop,Array.getElem?_toList]at this
   simp only[World.cell?,hb,id]
   exact this
  have eg:∀ args w,(callFunc 103 args).run Tryz.prog w=.ok (.enter 103 args) w:=enters_of Tryz.func103 (by kernel_rfl) rfl
  have Yu:=AnyQ.slices_SortFunc_total Tryz.sort_lays 2 Tryz.isAgg63 Tryz.sizeOf63 kz Yr Kj qi R6 103 #[] b off cp (xs:List Sy).toArray w eg (λ_ _ _ _ x y=>Vq x y _) hH hbw (by simpa using yr) Yq
  refine Yu.mono λe' W he=>?_
  obtain⟨rfl,n,os,rfl⟩:=he
  rw[show(xs:List Sy).toArray.toList=xs by simp,R8]
  have hh:∀ k:Nat,(sortWorldK kz 2 w b off n (gJ xs).toArray os).heap[k]?=((w.heap.modify b (onCells (putCells id off (flatK kz 2 (gJ xs).toArray))))++os)[k]?:=λk=>rfl
  refine fin _ rfl rfl rfl ?_ (λk hk hs=>?_) ?_
  ·show w.heap.size<=((w.heap.modify b _)++os).size
   simp
  ·have hkb:b≠k:=λh=>hs (h ▸ s1 b hSb)
   rw[hh,Array.getElem?_append_left (by simpa using hk),Array.getElem?_modify,if_neg hkb]
  ·have th:(sortWorldK kz 2 w b off n (gJ xs).toArray os).heap[b]?=some (.cells (putCells id off (flatK kz 2 (gJ xs).toArray) c) e.t (e.a,e.b)):=by
    rw[hh,Array.getElem?_append_left (by simpa using hbw),Array.getElem?_modify,if_pos rfl,hb]
    rfl
   have hcs:(putCells id off (flatK kz 2 (gJ xs).toArray) c).size=c.size:=by unfold putCells;simp
   refine⟨_,cp,by rw[hlen],by rw[hlen];exact h1,h2,.inr ⟨b,off,_,e.to (il hcs),rfl,th,by rw[hcs];exact hc,hSb,af.none,?_,λ_ h=>h.elim,λh=>h⟩⟩
   show bm _ _ (((putCells id off (flatK kz 2 (gJ xs).toArray) c).toList.drop off).take ((gJ xs).length*2)) _
   rw[Ow (gJ xs) off c (by rw[hlen];exact hxc)]
   exact EE λx hx=>hxk x ((gn xs).mem_iff.1 hx)
def F102(n:Nat):Fb 102:=⟨_,Vr n,Kk⟩
end
end Go.Proofs.YtphipehmbefejaaGreat.Rf
namespace Go.Proofs.YtphipehmbefejaaGreat.Rf
open Go
noncomputable section
def p95(v1:Nat)(v2:NF):T58:=ah (HB v1 (v2.1,v2.2.1.1,())) (λ(v3:T57)=>aq (λ(v4:T37)=>bif v4.2.1 then some (((false,0),false,()),())else Ld v3.1.1 v2.2.1.2.1 λv5=>some ((v5,true,()),())) (λv6=>bif !v3.1.2.1 then v6 (((false,0),()),true,())else Bd (v2.2.1.2.1<0) (v6 (((false,0),()),true,())) (v6 (((false,0),()),decide ((v3.1.1.length:Int)<=v2.2.1.2.1),()))))
def F95(n:Nat):Fb 95:=fb n [⟨_,F106 n⟩] [12] [] [] Tryz.func95 Tryz.results95 Tryz.ntmps95 (.seq (rn_ [2,3]) (sn_ (.seq (.seq (rs_ ⟨[(32,.box y62,.own Q1_)],[.val 28 y4],[3,4,6]⟩ []) .nop) (.seq (rn_ [4]) .nop)))) A7 [(y62,.ro),(y4,.ro)] [] [] (p95 n)
def p99(v1:Nat)(v2:T26):T68:=aC (λ(v3:T60)=>λv4=>Bd (v3.2.2.1<(v2.1.length:Int)) (aq (λ(v5:T43)=>v4 ((),v5.2.1,Wi (v3.2.2.1+1),())) (λv6=>Ld v2.1 v3.2.2.1 λv7=>ah (Oq v1 (v3.2.1,v7,(),())) (λ(v8:T14)=>bif v8.1.2.1 then Ld v3.2.1 v8.1.1 λv9=>Ld v3.2.1 v8.1.1 λv10=>Ld v3.2.1 v8.1.1 λv11=>v6 ((),List.set v3.2.1 (v8.1.1).toNat (v11.1,v11.2.1,dL .or .u64 v9.2.2 v7.2.2),())else ah (Bc v1 (v3.2.1,v8.1.1,([v7]:List U11),())) (λ(v12:T51)=>v6 ((),v12.1.1,()))))) (some ((v3.2.1,()),()))) v1 ((),([]:List U11),0,())
def F99(n:Nat):Fb 99:=fb n [⟨_,F163 n⟩,⟨_,F164 n⟩,⟨_,F165 n⟩] [] [] [] Tryz.func99 Tryz.results99 Tryz.ntmps99 (sn_ (sn_ (.seq (sn_ (bk_ ⟨[],[.hdr 3 31 fm mo_,.val 10 y2],[8,9]⟩ (sn_ (sn_ (.seq (.block (some ⟨[],[.hdr 3 31 fm mo_],[8,9,10]⟩) (.seq (rn_ [5]) .nop)) .nop))))) .nop))) A17 A17 [] [] (p99 n)
def p47(v1:Nat)(v2:(U1×U29×U2×Unit)):T68:=if 0<=(v2.1.2.2.1.length:Int)/\(v2.1.2.2.1.length:Int)<=(v2.1.2.2.1.length:Int)then if(v2.1.2.2.1.length:Int).toNat*1<=140737488355328 then if 0<=(v2.1.2.2.1.length:Int)/\(v2.1.2.2.1.length:Int)<=(v2.1.2.2.1.length:Int)then if(v2.1.2.2.1.length:Int).toNat*8<=140737488355328 then ah (p94 v1 (v2.2.2.1,())) (λ(v3:T51)=>aC (λ(v4:RL)=>λv5=>Bd (0<(v4.1.1.2.2.2.2.length:Int)) (if(0:Int)<=(0:Int)then(match v4.1.1.2.2.2.2[(0:Int).toNat]? with|some v6=>if(0:Int)<=(1:Int)/\(1:Int)<=(v4.1.1.2.2.2.2.length:Int)/\(v4.1.1.2.2.2.2.length:Int)<=(v4.1.1.2.2.2.2.length:Int)then ah (p95 v1 (v2.1,v6,())) (λ(v7:T38)=>aq (λ(v8:UU)=>aq (λ(v9:RL)=>v5 ((v9.1.1,()),())) (λv10=>bif v8.2.1 then ah (p98 v1 (v2.1,v6,())) (λ(v11:T41)=>ah (p97 v1 (v2.2.1,v11.1.1,v6.2.2,())) (λ(v12:T7)=>ah (p96 v1 (v8.1.1,v7.1.1.2,v12.1.1,())) (λ(v13:(Unit×U18×Unit))=>v10 ((v13.2.1,()),()))))else v10 ((v8.1.1,()),()))) (λv14=>bif v7.1.2.1 then v14 (((v4.1.1.1,v4.1.1.2.1,v4.1.1.2.2.1,v4.1.1.2.2.2.1,cn v4.1.1.2.2.2.2 (1:Int) (v4.1.1.2.2.2.2.length:Int)),()),v7.1.1.1,())else v14 (((v4.1.1.1,v4.1.1.2.1,v4.1.1.2.2.1,v4.1.1.2.2.2.1,cn v4.1.1.2.2.2.2 (1:Int) (v4.1.1.2.2.2.2.length:Int)),()),false,())))else none|none=>none)else none) (ah (p94 v1 (v2.2.2.1,())) (λ(v15:T51)=>aC (λ(v16:T60)=>λv17=>Bd (v16.2.2.1<(v4.1.1.2.2.1.length:Int)) (Ld v4.1.1.2.2.1 v16.2.2.1 λv18=>aq (λ(v19:T43)=>v17 ((),v19.2.1,Wi (v16.2.2.1+1),())) (λv20=>bif v18 then Ld v4.1.1.2.2.2.1 v16.2.2.1 λv21=>Ap 24 (List.length v16.2.1+List.length ([(v16.2.2.1,0,v21)]:List U11)) (v20 ((),v16.2.1++([(v16.2.2.1,0,v21)]:List U11),()))else v20 ((),v16.2.1,()))) (ah (p99 v1 (v16.2.1,())) (λ(v22:T51)=>some ((v22.1.1,()),())))) v1 ((),v15.1.1,0,())))) v1 (((v2.1,v2.2.1,List.replicate (v2.1.2.2.1.length:Int).toNat false,List.replicate (v2.1.2.2.1.length:Int).toNat (0:Int),v3.1.1),()),()))else none else none else none else none
def F47(n:Nat):Fb 47:=fb n [⟨_,F94 n⟩,⟨_,F95 n⟩,⟨_,F98 n⟩,⟨_,F97 n⟩,⟨_,F96 n⟩,⟨_,F99 n⟩] [26,65,69] [] [] Tryz.func47 Tryz.results47 Tryz.ntmps47 (.seq (rn_ [3,4]) (sn_ (.seq (bk_ ⟨RP,[],[2,3,4,7]⟩ (sn_ (.block none (.seq (rn_ [8]) (sn_ (.seq (rn_ [9]) (.seq (rs_ ⟨RP,[.val 58 y4],[2,3,4,7,8,9]⟩ []) (cs_ ⟨RP,[],[2,3,4,7]⟩ .nop .nop)))))))) (.seq (rn_ [7]) (.seq (sn_ (bk_ ⟨[],[.hdr 11 95 fm mo_,.val 77 y2],[7,75,76]⟩ (sn_ (sn_ (.seq (.block none (sn_ (sn_ (cs_ ⟨[],[.hdr 11 95 fm mo_],[7,75,76,77]⟩ .nop .nop)))) .nop))))) .nop))))) [(y32,.ro),(C3,.ro),(fm,.ro)] A17 [] [] (p47 n)
def Yv(v1:Nat)(v2:(U5×U5×Unit)):T15:=aq (λ(v3:T5)=>bif v3.2.1 then some ((-1,()),())else aq (λ(v4:T5)=>bif v4.2.1 then some ((1,()),())else Bd (v2.1.2<v2.2.1.2) (some ((-1,()),())) (some ((0,()),()))) (λv5=>bif !(v2.1.1 == v2.2.1.1)then v5 ((),true,())else v5 ((),decide (v2.2.1.2<v2.1.2),()))) (λv6=>bif !(v2.1.1 == v2.2.1.1)then v6 ((),v2.2.1.1,())else v6 ((),false,()))
def F103(n:Nat):Fb 103:=fb n [] [] [] [] Tryz.func103 Tryz.results103 Tryz.ntmps103 (.seq (rn_ [2,3]) (.seq (.block none (.seq (rs_ ⟨[],[.val 5 y4],[2,3]⟩ []) (.cond none .nop (.seq (rs_ ⟨[],[.val 15 y4],[2,3]⟩ []) .nop)))) .nop)) [(y62,.ro),(y62,.ro)] A21 [] [] (Yv n)
def p49(v1:Nat)(v2:RK):T59:=aC (λ(v3:T47)=>λv4=>Bd (v3.2.2.1<(v2.2.1.length:Int)) (Ld v2.2.1 v3.2.2.1 λv5=>ah (p95 v1 (v2.1,v5,())) (λ(v6:T38)=>aq (λ(v7:((U17×Unit)×Bool×Unit))=>aq (λ(v8:T34)=>v4 ((),v8.2.1,Wi (v3.2.2.1+1),())) (λv9=>bif v7.2.1 then Ap 16 (List.length v7.1.1+List.length ([v6.1.1]:List U5)) (v9 ((),v7.1.1++([v6.1.1]:List U5),()))else v9 ((),v7.1.1,()))) (λv10=>bif v6.1.2.1 then ah (Ou v1 (v3.2.1,v6.1.1,())) (λ(v11:T9)=>v10 ((v3.2.1,()),!v11.1.1,()))else v10 ((v3.2.1,()),false,())))) (ah (Df v1 (v3.2.1,(),())) (λ(v12:T34)=>some ((v12.2.1,()),())))) v1 ((),([]:List U5),0,())
def F49(n:Nat):Fb 49:=fb n [⟨_,F95 n⟩,⟨_,F101 n⟩,⟨_,F102 n⟩,⟨_,F103 n⟩] [] [] [] Tryz.func49 Tryz.results49 Tryz.ntmps49 (.seq (rn_ [2]) (sn_ (.seq (sn_ (bk_ ⟨[],[.hdr 5 47 y77 mo_,.val 12 y2],[2,10,11]⟩ (sn_ (sn_ (.seq (.block none (.seq (rn_ [7]) (.seq (rn_ [8]) (.seq (rs_ ⟨[(47,y77,mo_)],[.val 28 y4],[2,5,8,10,11,12]⟩ []) (cs_ ⟨[],[.hdr 5 47 y77 mo_],[2,10,11,12]⟩ .nop .nop))))) .nop))))) .nop))) A8 [(y77,.ro)] [] [] (p49 n)
def p50(v1:Nat)(v2:US):T68:=aC (λ(v3:T60)=>λv4=>Bd (v3.2.2.1<(v2.2.1.length:Int)) (Ld v2.2.1 v3.2.2.1 λv5=>ah (p95 v1 (v2.1,v5,())) (λ(v6:T38)=>aq (λ(v7:T81)=>aq (λ(v8:T43)=>v4 ((),v8.2.1,Wi (v3.2.2.1+1),())) (λv9=>bif v7.2.1 then Ap 24 (List.length v7.1.1+List.length ([(v7.1.2.1.1,Wi (v7.1.2.1.2.1+1),v7.1.2.1.2.2)]:List U11)) (v9 ((),v7.1.1++([(v7.1.2.1.1,Wi (v7.1.2.1.2.1+1),v7.1.2.1.2.2)]:List U11),()))else v9 ((),v7.1.1,()))) (λv10=>bif v6.1.2.1 then v10 ((v3.2.1,v5,()),bif v6.1.1.1 == v2.2.2.1.1 then decide (v6.1.1.2=v2.2.2.1.2)else false,())else v10 ((v3.2.1,v5,()),false,())))) (ah (p99 v1 (v3.2.1,())) (λ(v11:T51)=>some ((v11.1.1,()),())))) v1 ((),([]:List U11),0,())
def F50(n:Nat):Fb 50:=fb n [⟨_,F95 n⟩,⟨_,F99 n⟩] [] [] [⟨_,Hx⟩] Tryz.func50 Tryz.results50 Tryz.ntmps50 (.seq (rn_ [3,5]) (sn_ (.seq (sn_ (bk_ ⟨[],[.hdr 7 63 fm mo_,.val 14 y2],[3,5,12,13]⟩ (sn_ (sn_ (.seq (.block none (sn_ (.seq (rn_ [10]) (.seq (rs_ ⟨[(63,fm,mo_),(72,.box C2,.own He)],[.val 29 y4],[3,5,7,9,12,13,14]⟩ []) (cs_ ⟨[],[.hdr 7 63 fm mo_],[3,5,12,13,14]⟩ (sn_ (.rgf none [9] [])) .nop))))) .nop))))) .nop))) [(y32,.ro),(fm,.ro),(y62,.ro)] A17 [] [] (p50 n)
def p12(v1:Nat)(v2:o4):Option ((U10×Int×Unit)×Unit):=ah (p43 v1 (v2.1,())) (λ(v3:T29)=>bif !(decide (v3.1.1.1=0))then some (((([]:List U2),([]:List U23)),v3.1.1.1,()),())else ah (p44 v1 (v2.1,())) (λ(v4:((U29×Unit)×Unit))=>ah (p48 v1 (v2.1,())) (λ(v5:T51)=>ah (p47 v1 (v2.1,v4.1.1,v5.1.1,())) (λ(v6:T51)=>ah (p45 v1 (v6.1.1,([]:List (U0×Int)),(([]:List U2),([]:List U23)),())) (λ(v7:UM)=>aC (λ(v8:((U10×U10×U19×Unit)×Int×Unit))=>λv9=>Bd (v8.2.1<(v8.1.2.1.1.length:Int)) (Bd (2000<(v8.1.2.1.1.length:Int)) (some (((([]:List U2),([]:List U23)),6,()),())) (Ld v8.1.2.1.1 v8.2.1 λv10=>ah (p49 v1 (v2.1,v10,())) (λ(v11:T41)=>aC (λ(v12:((U10×U10×U19×Unit)×U23×Int×Unit))=>λv13=>Bd (v12.2.2.1<(v11.1.1.length:Int)) (Ld v11.1.1 v12.2.2.1 λv14=>Ld v12.1.2.1.1 v8.2.1 λv15=>ah (p50 v1 (v2.1,v15,v14,())) (λ(v16:T51)=>ah (p47 v1 (v2.1,v4.1.1,v16.1.1,())) (λ(v17:T51)=>ah (p45 v1 (v17.1.1,v12.1.2.2.1,v12.1.2.1,())) (λ(v18:UM)=>Ap 24 (List.length v12.2.1+List.length ([(v14,v18.1.1)]:List (U5×Int))) (v13 ((v12.1.1,v18.2.2.1,v18.2.1,()),v12.2.1++([(v14,v18.1.1)]:List (U5×Int)),Wi (v12.2.2.1+1),())))))) (Ap 24 (List.length v12.1.2.1.2+List.length ([v12.2.1]:List U23)) (v9 ((v12.1.1,(v12.1.2.1.1,v12.1.2.1.2++([v12.2.1]:List U23)),v12.1.2.2.1,()),Wi (v8.2.1+1),())))) v1 ((v8.1.1,v8.1.2.1,v8.1.2.2.1,()),([]:List (U5×Int)),0,())))) (some ((v8.1.2.1,0,()),()))) v1 (((([]:List U2),([]:List U23)),v7.2.2.1,v7.2.1,()),0,()))))))
def F12(n:Nat):Fb 12:=fb n [⟨_,F43 n⟩,⟨_,F44 n⟩,⟨_,F45 n⟩,⟨_,F48 n⟩,⟨_,F47 n⟩,⟨_,F49 n⟩,⟨_,F50 n⟩] [18,22,29,30,31,43,50,68,69,70] [] [] Tryz.func12 Tryz.results12 Tryz.ntmps12 (.seq (rn_ [1]) (.seq (.seq (rn_ [4]) .nop) (.seq (rn_ [5]) (sn_ (sn_ (sn_ (sn_ (.seq (sn_ (bk_ ⟨UX,[.val 9 y2],[1,2,5,6,8]⟩ (sn_ (.seq (.block none (sn_ (sn_ (.seq (sn_ (bk_ ⟨UX,[.hdr 10 87 RE mo_,.val 52 y2],[1,2,5,6,8,9,50,51]⟩ (sn_ (sn_ (.seq (.block none (.seq (rn_ [12]) .nop)) .nop))))) (.rgf none [10] []))))) .nop)))) (.seq (.rgf none [6] [2]) .nop))))))))) A18 [(y43,.ro),(y2,.ro)] [] [] (p12 n)
def p14(v1:Nat)(v2:(U10×Unit)):T15:=some (((v2.1.1.length:Int),()),())
def F14(n:Nat):Fb 14:=fb n [] [] [] [] Tryz.func14 Tryz.results14 Tryz.ntmps14 (.seq (rn_ [1]) .nop) [(y43,.ro)] A21 [] [] (p14 n)
def p52(v1:Nat)(v2:NF):T17:=ah (HB v1 (v2.1,v2.2.1.1,())) (λ(v3:T57)=>aq (λ(v4:T5)=>some ((v4.2.1,()),())) (λv5=>bif v3.1.2.1 then v5 ((),decide (v2.2.1.2.1=(v3.1.1.length:Int)),())else v5 ((),false,())))
def F52(n:Nat):Fb 52:=fb n [⟨_,F106 n⟩] [11] [] [] Tryz.func52 Tryz.results52 Tryz.ntmps52 (.seq (rn_ [2,3]) (sn_ (.seq (rs_ ⟨[],[.val 4 y4],[]⟩ []) .nop))) A7 A20 [] [] (p52 n)
def p15(v1:Nat)(v2:(U10×U1×Int×Unit)):Option (U32×Unit):=aq (λ(v3:T5)=>bif v3.2.1 then some ((([]:List Int),([]:List Int),()),())else Ld v2.1.1 v2.2.2.1 λv4=>aC (λ(v5:(Unit×U0×U0×Int×Unit))=>λv6=>Bd (v5.2.2.2.1<(v4.length:Int)) (Ld v4 v5.2.2.2.1 λv7=>ah (p52 v1 (v2.2.1,v7,())) (λ(v8:T9)=>aq (λ(v9:(Unit×U0×U0×Unit))=>v6 ((),v9.2.1,v9.2.2.1,Wi (v5.2.2.2.1+1),())) (λv10=>bif v8.1.1 then Ap 8 (List.length v5.2.1+List.length ([v7.1]:List Int)) (Ap 8 (List.length v5.2.2.1+List.length ([v7.2.2]:List Int)) (v10 ((),v5.2.1++([v7.1]:List Int),v5.2.2.1++([v7.2.2]:List Int),())))else v10 ((),v5.2.1,v5.2.2.1,())))) (some ((v5.2.1,v5.2.2.1,()),()))) v1 ((),([]:List Int),([]:List Int),0,())) (λv11=>Bd (v2.2.2.1<0) (v11 ((),true,())) (v11 ((),decide ((v2.1.1.length:Int)<=v2.2.2.1),())))
def F15(n:Nat):Fb 15:=fb n [⟨_,F52 n⟩] [] [] [] Tryz.func15 Tryz.results15 Tryz.ntmps15 (.seq (rn_ [3,4]) (sn_ (sn_ (.seq (.seq (rs_ ⟨[],[.val 20 y4],[2,3,4,8,9]⟩ []) .nop) (.seq (sn_ (bk_ ⟨[],[.hdr 8 71 y53 mo_,.hdr 9 79 y54 mo_,.val 27 y2],[4,25,26]⟩ (sn_ (sn_ (.seq (.block none (.seq (rn_ [11]) (sn_ (cs_ ⟨[],[.hdr 8 71 y53 mo_,.hdr 9 79 y54 mo_],[4,25,26,27]⟩ .nop .nop)))) .nop))))) .nop))))) [(y43,.ro),(y32,.ro),(y2,.ro)] [(y53,.ro),(y54,.ro)] [] [] (p15 n)
def Ox(v1:Nat)(v2:T3):T17:=ah (HA v1 (v2.2.1,())) (λ(v3:T7)=>some ((!(decide ((dL .and .u64 v2.1 v3.1.1)=0)),()),()))
def F169(n:Nat):Fb 169:=fb n [⟨_,F100 n⟩] [] [] [] Tryz.func169 Tryz.results169 Tryz.ntmps169 (.nop) [(y12,.ro),(y2,.ro)] A20 [] [] (Ox n)
def Oy(v1:Nat)(v2:T1):T35:=aC (λ(v3:T21)=>λv4=>Bd (v3.2.2.1<=63) (ah (Ox v1 (v2.1,v3.2.2.1,())) (λ(v5:T9)=>aq (λ(v6:(Unit×U0×Unit))=>v4 ((),v6.2.1,Wi (v3.2.2.1+1),())) (λv7=>bif v5.1.1 then Ap 8 (List.length v3.2.1+List.length ([v3.2.2.1]:List Int)) (v7 ((),v3.2.1++([v3.2.2.1]:List Int),()))else v7 ((),v3.2.1,())))) (some ((v3.2.1,()),()))) v1 ((),([]:List Int),0,())
def F104(n:Nat):Fb 104:=fb n [⟨_,F169 n⟩] [] [] [] Tryz.func104 Tryz.results104 Tryz.ntmps104 (sn_ (sn_ (.seq (sn_ (bk_ ⟨[],[.hdr 3 31 y53 mo_,.val 4 y2],[0]⟩ (sn_ (.seq (.block none (sn_ (cs_ ⟨[],[.hdr 3 31 y53 mo_],[0,4]⟩ .nop .nop))) .nop)))) .nop))) A19 [(y53,.ro)] [] [] (Oy n)
def HD(v1:Nat)(v2:uN):T28:=aC (λ(v3:T4)=>λv4=>Bd (v3.2.1<(v2.1.2.2.2.1.length:Int)) (Ld v2.1.2.2.2.1 v3.2.1 λv5=>aC (λ(v6:T4)=>λv7=>Bd (v6.2.1<(v5.2.length:Int)) (Ld v5.2 v6.2.1 λv8=>Bd (v8=v2.2.1) (some ((Wi (v3.2.1+1),v5.1,()),())) (v7 ((),Wi (v6.2.1+1),()))) (v4 ((),Wi (v3.2.1+1),()))) v1 ((),0,())) (some ((0,0,()),()))) v1 ((),0,())
def F216(n:Nat):Fb 216:=fb n [] [] [] [] Tryz.func216 Tryz.results216 Tryz.ntmps216 (.seq (rn_ [2]) (.seq (sn_ (bk_ ⟨[],[.val 13 y2],[1,11,12]⟩ (sn_ (sn_ (.seq (.block none (.seq (rn_ [7]) (sn_ (bk_ ⟨[],[.val 21 y2],[1,6,7,11,12,13,19,20]⟩ .nop)))) .nop))))) .nop)) A12 A14 [] [] (HD n)
def Oz(v1:Nat)(v2:uN):T28:=aq (λ(v3:T5)=>bif v3.2.1 then some ((0,0,()),())else Ld v2.1.2.2.1 v2.2.1 λv4=>Bd (0<=v4.2.2.2.2.1) (ah (HD v1 (v2.1,v4.2.2.2.2.1,())) (λ(v5:T13)=>some ((v5.1.1,v5.1.2.1,()),()))) (aC (λ(v6:T4)=>λv7=>Bd (0<=v6.2.1) (aq (λ(v8:T2)=>v7 ((),Wi (v6.2.1-1),())) (λv9=>Ld v4.2.2.1 v6.2.1 λv10=>bif v10.1 then v9 ((),())else Ld v4.2.2.1 v6.2.1 λv11=>ah (HD v1 (v2.1,v11.2,())) (λ(v12:T13)=>Bd (0<v12.1.1) (some ((v12.1.1,v12.1.2.1,()),())) (v9 ((),()))))) (some ((0,0,()),()))) v1 ((),Wi ((v4.2.2.1.length:Int)-1),()))) (λv13=>Bd (v2.2.1<0) (v13 ((),true,())) (v13 ((),decide ((v2.1.2.2.1.length:Int)<=v2.2.1),())))
def F195(n:Nat):Fb 195:=fb n [⟨_,F216 n⟩] [] [] [] Tryz.func195 Tryz.results195 Tryz.ntmps195 (.seq (rn_ [2]) (.seq (.seq (rs_ ⟨[],[.val 18 y4],[1,2]⟩ []) .nop) (.seq (rn_ [6]) (sn_ (.seq (sn_ (bk_ ⟨[],[.val 7 y2],[2,6]⟩ (sn_ (.seq (.block (some ⟨[],[],[2,6,7]⟩) .nop) .nop)))) .nop))))) A12 A14 [] [] (Oz n)
def OA(v1:Nat)(v2:RJ):T15:=ah (Oz v1 (v2.1,v2.2.1,())) (λ(v3:T13)=>ah (HD v1 (v2.1,v2.2.2.1,())) (λ(v4:T13)=>aq (λ(v5:T5)=>bif v5.2.1 then some ((3,()),())else Bd (v4.1.1<v3.1.1) (some ((1,()),())) (Bd (v3.1.1<v4.1.1) (some ((0,()),())) (Bd (v4.1.2.1=1) (some ((1,()),())) (Bd (v4.1.2.1=2) (some ((0,()),())) (some ((2,()),())))))) (λv6=>Bd (v3.1.1=0) (v6 ((),true,())) (v6 ((),decide (v4.1.1=0),())))))
def F170(n:Nat):Fb 170:=fb n [⟨_,F195 n⟩,⟨_,F216 n⟩] [] [] [] Tryz.func170 Tryz.results170 Tryz.ntmps170 (.seq (rn_ [3]) (sn_ (sn_ (.seq (.block none (.seq (rs_ ⟨[],[.val 23 y4],[7,9,10]⟩ []) .nop)) .nop)))) A2 A21 [] [] (OA n)
def OB(v1:Nat)(v2:(U1×Int×Int×U24×U24×Unit)):Option ((U24×U21×Unit)×Unit):=Bd (v2.2.2.2.1.1=0) (some ((v2.2.2.2.2.1,([]:List U4),()),())) (aq (λ(v3:((U24×U4×Unit)×Unit))=>some ((v2.2.2.2.1,([(v3.1.2.1.1,v3.1.2.1.2.1,v3.1.2.1.2.2.1,v3.1.2.1.2.2.2.1,v3.1.2.1.2.2.2.2.1,true)]:List U4),()),())) (λv4=>Bd (v2.2.2.2.1.1=1) (ah (OA v1 (v2.1,v2.2.2.2.2.1.2,v2.2.2.1,())) (λ(v5:T7)=>Bd (v5.1.1=1) (some ((v2.2.2.2.2.1,([(v2.2.1,v2.2.2.1,v2.2.2.2.2.1.2,-1,2,false)]:List U4),()),())) (Bd (v5.1.1=2) (some (((0,0),([(v2.2.1,v2.2.2.1,v2.2.2.2.2.1.2,-1,0,false)]:List U4),()),())) (Bd (v5.1.1=0) (some ((v2.2.2.2.1,([(v2.2.1,v2.2.2.1,v2.2.2.2.2.1.2,-1,v2.2.2.2.1.1,false)]:List U4),()),())) (v4 (((0,0),(v2.2.1,v2.2.2.1,v2.2.2.2.2.1.2,-1,v2.2.2.2.1.1,false),()),())))))) (v4 (((0,0),(v2.2.1,v2.2.2.1,v2.2.2.2.1.2,v2.2.2.2.2.1.2,v2.2.2.2.1.1,false),()),()))))
def F105(n:Nat):Fb 105:=fb n [⟨_,F170 n⟩] [] [] [] Tryz.func105 Tryz.results105 Tryz.ntmps105 (.seq (rn_ [5,8,9]) (sn_ (.seq (sn_ (.block none (sn_ (.cond none .nop (sn_ (cs_ ⟨[(80,.box y57,.own Q1_),(96,.box y25,.own (.pr .ro (.pr .ro (.pr .ro He))))],[],[8,10,12]⟩ .nop .nop)))))) (.seq (rn_ [12]) (.seq (rn_ [10]) .nop))))) [(y32,.ro),(y2,.ro),(y2,.ro),(y57,.ro),(y57,.ro)] [(y57,.ro),(y22,.ro)] [] [] (OB n)
def p51(v1:Nat)(v2:(U1×U10×Int×Unit)):T98:=if 0<=(Wi ((v2.1.1.length:Int)+1))/\(Wi ((v2.1.1.length:Int)+1))<=(Wi ((v2.1.1.length:Int)+1))then if(Wi ((v2.1.1.length:Int)+1)).toNat*16<=140737488355328 then aq (λ(v3:T55)=>bif v3.2.1 then some ((v3.1.1,([]:List U4),()),())else Ld v2.2.1.2 v2.2.2.1 λv4=>aC (λ(v5:T52)=>λv6=>Bd (v5.2.1<(v4.length:Int)) (Ld v4 v5.2.1 λv7=>aq (λ(v8:T55)=>aq (λ(v9:T39)=>v6 ((v9.1.1,()),Wi (v5.2.1+1),())) (λv10=>bif v8.2.1 then Ld v8.1.1 v7.1.2 λv11=>Ld v8.1.1 v7.1.2 λv12=>v10 ((List.set v8.1.1 (v7.1.2).toNat (1,v7.2),()),())else v10 ((v8.1.1,()),()))) (λv13=>bif !v7.1.1 then v13 ((v5.1.1,()),decide (v7.1.2<(v2.1.1.length:Int)),())else v13 ((v5.1.1,()),false,()))) (ah (p15 v1 (v2.2.1,v2.1,v2.2.2.1,())) (λ(v14:T49)=>aC (λ(v15:T96)=>λv16=>Bd (v15.2.2.1<(v14.1.1.length:Int)) (Ld v14.1.1 v15.2.2.1 λv17=>aq (λ(v18:UJ)=>Ld v14.1.2.1 v15.2.2.1 λv19=>ah (Oy v1 (v19,())) (λ(v20:T16)=>aC (λ(v21:T96)=>λv22=>Bd (v21.2.2.1<(v20.1.1.length:Int)) (aq (λ(v23:T91)=>v22 ((v23.1.1,()),v23.2.1,Wi (v21.2.2.1+1),())) (λv24=>Ld v20.1.1 v21.2.2.1 λv25=>aq (λ(v26:T97)=>Bd ((v26.1.2.1.length:Int)<=v26.2.1) (v24 ((v26.1.2.1,()),v26.1.1,())) (Ld v26.1.2.1 v26.2.1 λv27=>ah (OB v1 (v2.1,v2.2.2.1,v26.2.1,v27,v18.1.2.1,())) (λ(v28:((U24×U21×Unit)×Unit))=>Ld v26.1.2.1 v26.2.1 λv29=>Ld v26.1.2.1 v26.2.1 λv30=>Ap 48 (List.length v26.1.1+List.length v28.1.2.1) (v24 ((List.set v26.1.2.1 (v26.2.1).toNat v28.1.1,()),v26.1.1++v28.1.2.1,()))))) (λv31=>Bd (v25=63) (v31 ((v21.2.1,v21.1.1,()),(v2.1.1.length:Int),())) (v31 ((v21.2.1,v21.1.1,()),v25,()))))) (v16 ((v21.1.1,()),v21.2.1,Wi (v15.2.2.1+1),()))) v1 ((v18.1.2.2.1,()),v18.1.1,0,()))) (λv32=>Bd (v17=(v2.1.2.2.1.length:Int)) (v32 ((v15.2.1,(3,v17),v15.1.1,()),())) (v32 ((v15.2.1,(2,v17),v15.1.1,()),())))) (some ((v15.1.1,v15.2.1,()),()))) v1 ((v5.1.1,()),([]:List U4),0,())))) v1 ((v3.1.1,()),0,())) (λv33=>Bd (v2.2.2.1<0) (v33 ((List.replicate (Wi ((v2.1.1.length:Int)+1)).toNat (0,0),()),true,())) (ah (p14 v1 (v2.2.1,())) (λ(v34:T7)=>v33 ((List.replicate (Wi ((v2.1.1.length:Int)+1)).toNat (0,0),()),decide (v34.1.1<=v2.2.2.1),()))))else none else none
def F51(n:Nat):Fb 51:=fb n [⟨_,F14 n⟩,⟨_,F15 n⟩,⟨_,F104 n⟩,⟨_,F105 n⟩] [72,94,119] [] [] Tryz.func51 Tryz.results51 Tryz.ntmps51 (.seq (rn_ [3,4]) (sn_ (.seq (.seq (rs_ ⟨C6,[.val 34 y4],[2,3,4,8]⟩ []) .nop) (.seq (sn_ (bk_ ⟨C6,[.val 42 y2],[2,3,4,8,40,41]⟩ (sn_ (sn_ (.seq (.block none (.seq (rn_ [10]) (.seq (rs_ ⟨C6,[.val 58 y4],[2,3,4,8,10,40,41,42]⟩ []) (cs_ ⟨C6,[],[2,3,4,8,40,41,42]⟩ .nop .nop)))) .nop))))) (sn_ (sn_ (.seq (sn_ (bk_ ⟨C6,[.hdr 11 95 y22 mo_,.val 77 y2],[2,3,8,13,75,76]⟩ (sn_ (sn_ (.seq (.block none (sn_ (sn_ (.seq (sn_ (cs_ ⟨[(95,y22,mo_),(128,.box y57,.own Q1_),(208,pA,.own Q1_)],[],[2,3,8,11,13,14,16,75,76,77]⟩ .nop .nop)) (.seq (rn_ [16]) (bk_ ⟨C6,[.hdr 11 95 y22 mo_,.val 96 y2],[2,3,8,13,16,75,76,77,94,95]⟩ (sn_ (sn_ (.seq (.block (some ⟨C6,[.hdr 11 95 y22 mo_],[2,3,8,13,16,75,76,77,94,95,96]⟩) (sn_ (sn_ (.seq (sn_ (cs_ ⟨[(95,y22,mo_),(208,pA,.own Q1_)],[.val 19 y2],[2,3,8,11,13,16,75,76,77,94,95,96]⟩ .nop .nop)) (sn_ (.seq (rn_ [20]) .nop)))))) .nop))))))))) .nop))))) .nop))))))) [(y32,.ro),(y43,.ro),(y2,.ro)] [(pA,.ro),(y22,.ro)] [] [] (p51 n)
def p13(v1:Nat)(v2:(U1×U10×Unit)):Option (((List U8)×U21×Unit)×Unit):=ah (p14 v1 (v2.2.1,())) (λ(v3:T7)=>aC (λ(v4:(Unit×(List U8)×U21×Int×Unit))=>λv5=>Bd (v4.2.2.2.1<v3.1.1) (ah (p51 v1 (v2.1,v2.2.1,v4.2.2.2.1,())) (λ(v6:T92)=>Ap 24 (List.length v4.2.1+List.length ([v6.1.1]:List U8)) (Ap 48 (List.length v4.2.2.1+List.length v6.1.2.1) (v5 ((),v4.2.1++([v6.1.1]:List U8),v4.2.2.1++v6.1.2.1,Wi (v4.2.2.2.1+1),()))))) (some ((v4.2.1,v4.2.2.1,()),()))) v1 ((),([]:List U8),([]:List U4),0,()))
def F13(n:Nat):Fb 13:=fb n [⟨_,F14 n⟩,⟨_,F51 n⟩] [20] [] [] Tryz.func13 Tryz.results13 Tryz.ntmps13 (.seq (rn_ [2,3]) (sn_ (sn_ (.seq (sn_ (bk_ ⟨[],[.hdr 6 55 y82 mo_,.hdr 7 63 y22 mo_,.val 13 y2],[2,3,12]⟩ .nop)) .nop)))) [(y32,.ro),(y43,.ro)] [(y82,.ro),(y22,.ro)] [] [] (p13 n)
def p10(v1:Nat)(v2:T69):Option ((U21×Unit)×Unit):=aC (λ(v3:(Unit×U21×Int×Unit))=>λv4=>Bd (v3.2.2.1<(v2.1.length:Int)) (Ld v2.1 v3.2.2.1 λv5=>aq (λ(v6:(Unit×U21×Unit))=>v4 ((),v6.2.1,Wi (v3.2.2.1+1),())) (λv7=>bif v5.2.2.2.2.2 then Ap 48 (List.length v3.2.1+List.length ([v5]:List U4)) (v7 ((),v3.2.1++([v5]:List U4),()))else v7 ((),v3.2.1,()))) (some ((v3.2.1,()),()))) v1 ((),([]:List U4),0,())
def F10(n:Nat):Fb 10:=fb n [] [] [] [] Tryz.func10 Tryz.results10 Tryz.ntmps10 (sn_ (sn_ (.seq (sn_ (bk_ ⟨[],[.hdr 3 31 y22 mo_,.val 8 y2],[6,7]⟩ (sn_ (sn_ (.seq (.block none (.seq (rn_ [5]) (sn_ (cs_ ⟨[],[.hdr 3 31 y22 mo_],[6,7,8]⟩ .nop .nop)))) .nop))))) .nop))) [(y22,.ro)] [(y22,.ro)] [] [] (p10 n)
def p9(v1:Nat)(v2:Unit):T17:=ah (p12 v1 ((([(([80,76,85,83]:List Int),0,([112]:List Int)),(([88]:List Int),0,([120]:List Int))]:List U26),([([69]:List Int)]:List U0),([(0,([65,100,100]:List Int),([(true,0),(false,0),(true,0)]:List U5),false,-1,([0,0]:List Int)),(0,([79,110,101]:List Int),([(false,1)]:List U5),false,-1,([]:List Int))]:List U22),([]:List U7),0),())) (λ(v3:RG)=>ah (p13 v1 ((([(([80,76,85,83]:List Int),0,([112]:List Int)),(([88]:List Int),0,([120]:List Int))]:List U26),([([69]:List Int)]:List U0),([(0,([65,100,100]:List Int),([(true,0),(false,0),(true,0)]:List U5),false,-1,([0,0]:List Int)),(0,([79,110,101]:List Int),([(false,1)]:List U5),false,-1,([]:List Int))]:List U22),([]:List U7),0),v3.1.1,())) (λ(v4:T99)=>aq (λ(v5:T5)=>some ((v5.2.1,()),())) (λv6=>Bd (v3.1.2.1=0) (Bd ((v4.1.2.1.length:Int)=1) (if(0:Int)<=(0:Int)then(match v4.1.2.1[(0:Int).toNat]? with|some v7=>bif v7.2.2.2.2.2 then if(0:Int)<=(0:Int)then(match v4.1.2.1[(0:Int).toNat]? with|some v8=>Bd (v8.2.2.2.2.1=1) (if(0:Int)<=(0:Int)then(match v4.1.2.1[(0:Int).toNat]? with|some v9=>Bd (v9.2.1=0) (if(0:Int)<=(0:Int)then(match v4.1.2.1[(0:Int).toNat]? with|some v10=>Bd (v10.2.2.2.1=(-1)) (ah (p10 v1 (v4.1.2.1,())) (λ(v11:T77)=>v6 ((),decide ((v11.1.1.length:Int)=1),()))) (v6 ((),false,()))|none=>none)else none) (v6 ((),false,()))|none=>none)else none) (v6 ((),false,()))|none=>none)else none else v6 ((),false,())|none=>none)else none) (v6 ((),false,()))) (v6 ((),false,())))))
def p3(v1:Nat)(v2:T69):T17:=ah (p9 v1 ()) (λ(v3:T9)=>bif !v3.1.1 then some ((false,()),())else Bd (100<(v2.1.length:Int)) (some ((true,()),())) (ah (p10 v1 (v2.1,())) (λ(v4:T77)=>aC (λ(v5:T10)=>λv6=>Bd (v5.2.2.1<(v2.1.length:Int)) (aq (λ(v7:T4)=>v6 ((),v7.2.1,Wi (v5.2.2.1+1),())) (λv8=>Ld v2.1 v5.2.2.1 λv9=>bif !v9.2.2.2.2.2 then v8 ((),v5.2.1,())else aq (λ(v10:T5)=>bif v10.2.1 then some ((false,()),())else v8 ((),Wi (v5.2.1+1),())) (λv11=>Bd ((v4.1.1.length:Int)<=v5.2.1) (v11 ((),true,())) (Ld v4.1.1 v5.2.1 λv12=>Ld v2.1 v5.2.2.1 λv13=>v11 ((),bif Bd (v12.1=v13.1) (Bd (v12.2.1=v13.2.1) (Bd (v12.2.2.1=v13.2.2.1) (Bd (v12.2.2.2.1=v13.2.2.2.1) (Bd (v12.2.2.2.2.1=v13.2.2.2.2.1) (v12.2.2.2.2.2 == v13.2.2.2.2.2) false) false) false) false) false then false else true,()))))) (some ((decide (v5.2.1=(v4.1.1.length:Int)),()),()))) v1 ((),0,0,()))))
end
noncomputable section
def p16(v1:Nat)(v2:(U10×Int×U5×Unit)):T15:=aq (λ(v3:T5)=>bif v3.2.1 then some ((-1,()),())else Ld v2.1.2 v2.2.1 λv4=>aC (λ(v5:T4)=>λv6=>Bd (v5.2.1<(v4.length:Int)) (Ld v4 v5.2.1 λv7=>bif bif v7.1.1 == v2.2.2.1.1 then decide (v7.1.2=v2.2.2.1.2)else false then some ((v7.2,()),())else v6 ((),Wi (v5.2.1+1),())) (some ((-1,()),()))) v1 ((),0,())) (λv8=>Bd (v2.2.1<0) (v8 ((),true,())) (v8 ((),decide ((v2.1.2.length:Int)<=v2.2.1),())))
def F16(n:Nat):Fb 16:=fb n [] [] [] [⟨_,Hx⟩] Tryz.func16 Tryz.results16 Tryz.ntmps16 (.seq (rn_ [3,5]) (.seq (.seq (rs_ ⟨[],[.val 17 y4],[1,3,5]⟩ []) .nop) (.seq (sn_ (bk_ ⟨[],[.val 24 y2],[5,22,23]⟩ (sn_ (sn_ (.seq (.block none (.seq (rn_ [8]) .nop)) .nop))))) .nop))) [(y43,.ro),(y2,.ro),(y62,.ro)] A21 [] [] (p16 n)
def p18(v1:Nat)(v2:o4):Option ((U13×U21×Int×Unit)×Unit):=ah (p12 v1 (v2.1,())) (λ(v3:RG)=>bif !(decide (v3.1.2.1=0))then some (((([]:List U8),([]:List U0),([]:List Int),([]:List Int)),([]:List U4),v3.1.2.1,()),())else ah (p13 v1 (v2.1,v3.1.1,())) (λ(v4:T99)=>ah (p10 v1 (v4.1.2.1,())) (λ(v5:T77)=>Bd (0<(v5.1.1.length:Int)) (some (((([]:List U8),([]:List U0),([]:List Int),([]:List Int)),v4.1.2.1,18,()),())) (ah (p14 v1 (v3.1.1,())) (λ(v6:T7)=>aC (λ(v7:UO)=>λv8=>Bd (v7.2.1<v6.1.1) (aC (λ(v9:((U13×U13×Unit)×U0×Int×Unit))=>λv10=>Bd (v9.2.2.1<(v2.1.2.1.length:Int)) (ah (p16 v1 (v3.1.1,v7.2.1,(true,v9.2.2.1),())) (λ(v11:T7)=>Ap 8 (List.length v9.2.1+List.length ([v11.1.1]:List Int)) (v10 ((v9.1.1,v9.1.2.1,()),v9.2.1++([v11.1.1]:List Int),Wi (v9.2.2.1+1),())))) (Ap 24 (List.length v9.1.2.1.2.1+List.length ([v9.2.1]:List U0)) (v8 ((v9.1.1,(v9.1.2.1.1,v9.1.2.1.2.1++([v9.2.1]:List U0),v9.1.2.1.2.2),()),Wi (v7.2.1+1),())))) v1 ((v7.1.1,v7.1.2.1,()),([]:List Int),0,())) (aC (λ(v12:UO)=>λv13=>Bd (v12.2.1<(v2.1.2.2.1.length:Int)) (Ld v2.1.2.2.1 v12.2.1 λv14=>Ap 8 (List.length v12.1.2.1.2.2.1+List.length ([v14.1]:List Int)) (Ap 8 (List.length v12.1.2.1.2.2.2+List.length ([(v14.2.2.1.length:Int)]:List Int)) (v13 ((v12.1.1,(v12.1.2.1.1,v12.1.2.1.2.1,v12.1.2.1.2.2.1++([v14.1]:List Int),v12.1.2.1.2.2.2++([(v14.2.2.1.length:Int)]:List Int)),()),Wi (v12.2.1+1),())))) (some ((v12.1.2.1,v4.1.2.1,0,()),()))) v1 ((v7.1.1,v7.1.2.1,()),0,()))) v1 (((([]:List U8),([]:List U0),([]:List Int),([]:List Int)),(v4.1.1,([]:List U0),([]:List Int),([]:List Int)),()),0,()))))))
def F18(n:Nat):Fb 18:=fb n [⟨_,F12 n⟩,⟨_,F13 n⟩,⟨_,F10 n⟩,⟨_,F14 n⟩,⟨_,F16 n⟩] [17,22,27,31,34,37] [] [] Tryz.func18 Tryz.results18 Tryz.ntmps18 (.seq (rn_ [1]) (.seq (rn_ [5]) (sn_ (sn_ (sn_ (sn_ (.seq (sn_ (bk_ ⟨RM,[.val 40 y2],[1,2,5,8,9,39]⟩ (sn_ (sn_ (.seq (.block none (sn_ (sn_ (.seq (sn_ (bk_ ⟨RM,[.hdr 11 95 y53 mo_,.val 46 y2],[1,2,5,8,9,10,39,40,45]⟩ .nop)) (.rgf none [11] []))))) .nop))))) (.seq (sn_ (bk_ ⟨RM,[.val 68 y2],[2,8,9,66,67]⟩ (sn_ (sn_ (.seq (.block none (.seq (rn_ [14]) .nop)) .nop))))) (.seq (.rgf none [9] [2]) .nop))))))))) A18 [(y83,.ro),(y22,.ro),(y2,.ro)] [] [] (p18 n)
def p20(v1:Nat)(v2:T95):T15:=some (((v2.1.1.length:Int),()),())
def F20(n:Nat):Fb 20:=fb n [] [] [] [] Tryz.func20 Tryz.results20 Tryz.ntmps20 (.seq (rn_ [1]) .nop) [(y83,.ro)] A21 [] [] (p20 n)
def p17(v1:Nat)(v2:Unit):T17:=ah (p18 v1 ((([(([88]:List Int),0,([120]:List Int))]:List U26),([([69]:List Int)]:List U0),([(0,([84,119,111]:List Int),([(true,0),(true,0)]:List U5),false,-1,([0]:List Int)),(0,([79,110,101]:List Int),([(false,0)]:List U5),false,-1,([]:List Int))]:List U22),([]:List U7),0),())) (λ(v3:UN)=>aq (λ(v4:T5)=>some ((v4.2.1,()),())) (λv5=>Bd (v3.1.2.2.1=18) (Bd (0<(v3.1.2.1.length:Int)) (ah (p20 v1 (v3.1.1,())) (λ(v6:T7)=>v5 ((),decide (v6.1.1=0),()))) (v5 ((),false,()))) (v5 ((),false,()))))
def F17(n:Nat):Fb 17:=fb n [⟨_,F18 n⟩,⟨_,F20 n⟩] [14,17,19,22] [] [] Tryz.func17 Tryz.results17 Tryz.ntmps17 (sn_ (.seq (rn_ [1]) (.seq (rn_ [2]) (.seq (rn_ [3]) (.seq (rs_ ⟨[],[.val 0 y4],[]⟩ []) .nop))))) [] A20 [] [] (p17 n)
def p56(v1:Nat)(v2:(U13×U8×Unit)):T17:=aC (λ(v3:T4)=>λv4=>Bd (v3.2.1<(v2.2.1.length:Int)) (Ld v2.2.1 v3.2.1 λv5=>aq (λ(v6:T2)=>v4 ((),Wi (v3.2.1+1),())) (λv7=>Bd (v5.1=1) (aq (λ(v8:T5)=>bif v8.2.1 then some ((false,()),())else v7 ((),())) (λv9=>Bd (v5.2<0) (v9 ((),true,())) (v9 ((),decide ((v2.1.1.length:Int)<=v5.2),())))) (aq (λ(v10:T2)=>v7 ((),())) (λv11=>Bd (v5.1=2) (aq (λ(v12:T5)=>bif v12.2.1 then some ((false,()),())else v11 ((),())) (λv13=>Bd (v5.2<0) (v13 ((),true,())) (v13 ((),decide ((v2.1.2.2.1.length:Int)<=v5.2),())))) (aq (λ(v14:T5)=>bif v14.2.1 then v11 ((),())else some ((false,()),())) (λv15=>Bd (v5.1=0) (v15 ((),decide (v5.1=0),())) (v15 ((),decide (v5.1=3),())))))))) (some ((true,()),()))) v1 ((),0,())
def F56(n:Nat):Fb 56:=fb n [] [] [] [] Tryz.func56 Tryz.results56 Tryz.ntmps56 (.seq (rn_ [2]) (.seq (sn_ (bk_ ⟨[],[.val 9 y2],[2,7,8]⟩ (sn_ (sn_ (.seq (.block none (.seq (rn_ [6]) (sn_ (.block none (sn_ (cs_ ⟨[],[],[2,7,8,9]⟩ (.seq (rs_ ⟨[],[.val 27 y4],[2,7,8,9]⟩ []) .nop) (sn_ (cs_ ⟨[],[],[2,7,8,9]⟩ (.seq (rs_ ⟨[],[.val 40 y4],[2,7,8,9]⟩ []) .nop) (.seq (sn_ (cs_ ⟨[],[.val 41 y4],[2,7,8,9]⟩ .nop .nop)) .nop))))))))) .nop))))) .nop)) [(y83,.ro),(pA,.ro)] A20 [] [] (p56 n)
def p22(v1:Nat)(v2:X5):T15:=aq (λ(v3:T5)=>bif v3.2.1 then some ((23,()),())else aC (λ(v4:T4)=>λv5=>Bd (v4.2.1<(v2.1.1.length:Int)) (Ld v2.1.1 v4.2.1 λv6=>aq (λ(v7:T5)=>bif v7.2.1 then some ((23,()),())else Ld v2.1.2.1 v4.2.1 λv8=>aC (λ(v9:T4)=>λv10=>Bd (v9.2.1<(v8.length:Int)) (Ld v8 v9.2.1 λv11=>aq (λ(v12:T5)=>bif v12.2.1 then some ((23,()),())else v10 ((),Wi (v9.2.1+1),())) (λv13=>Bd (v11<(-1)) (v13 ((),true,())) (v13 ((),decide ((v2.1.1.length:Int)<=v11),())))) (v5 ((),Wi (v4.2.1+1),()))) v1 ((),0,())) (λv14=>bif !(decide ((v6.length:Int)=(Wi (v2.2.1+1))))then v14 ((),true,())else Ld v2.1.2.1 v4.2.1 λv15=>bif !(decide ((v15.length:Int)=v2.2.2.1))then v14 ((),true,())else ah (p56 v1 (v2.1,v6,())) (λ(v16:T9)=>v14 ((),!v16.1.1,())))) (aC (λ(v17:T4)=>λv18=>Bd (v17.2.1<(v2.1.2.2.1.length:Int)) (Ld v2.1.2.2.1 v17.2.1 λv19=>aq (λ(v20:T5)=>bif v20.2.1 then some ((23,()),())else v18 ((),Wi (v17.2.1+1),())) (λv21=>Bd (v19<0) (v21 ((),true,())) (Bd (v2.2.2.1<=v19) (v21 ((),true,())) (Ld v2.1.2.2.2 v17.2.1 λv22=>Bd (v22<0) (v21 ((),true,())) (Ld v2.1.2.2.2 v17.2.1 λv23=>v21 ((),decide (12<v23),())))))) (some ((0,()),()))) v1 ((),0,()))) v1 ((),0,())) (λv24=>Bd ((v2.1.1.length:Int)=0) (v24 ((),true,())) (bif !(decide ((v2.1.2.1.length:Int)=(v2.1.1.length:Int)))then v24 ((),true,())else v24 ((),!(decide ((v2.1.2.2.2.length:Int)=(v2.1.2.2.1.length:Int))),())))
def F22(n:Nat):Fb 22:=fb n [⟨_,F56 n⟩] [] [] [] Tryz.func22 Tryz.results22 Tryz.ntmps22 (.seq (rn_ [3]) (.seq (.seq (rs_ ⟨[],[.val 34 y4],[1,2,3]⟩ []) .nop) (.seq (sn_ (bk_ ⟨[],[.val 38 y2],[1,2,3,36,37]⟩ (sn_ (sn_ (.seq (.block none (sn_ (.seq (.seq (rs_ ⟨[],[.val 63 y4],[1,2,3,7,36,37,38]⟩ []) .nop) (sn_ (bk_ ⟨[],[.val 70 y2],[1,2,3,36,37,38,68,69]⟩ (sn_ (sn_ (.seq (.block none (sn_ (.seq (rs_ ⟨[],[.val 82 y4],[1,2,3,36,37,38,68,69,70]⟩ []) .nop))) .nop)))))))) .nop))))) (.seq (sn_ (bk_ ⟨[],[.val 88 y2],[2,3,86,87]⟩ (sn_ (sn_ (.seq (.block none (sn_ (.seq (rs_ ⟨[],[.val 115 y4],[2,3,86,87,88]⟩ []) .nop))) .nop))))) .nop)))) A3 A21 [] [] (p22 n)
end
noncomputable section
def p41(v1:Nat)(v2:o4):T17:=aq (λ(v3:T5)=>bif v3.2.1 then some ((false,()),())else aC (λ(v4:T4)=>λv5=>Bd (v4.2.1<(v2.1.1.length:Int)) (Ld v2.1.1 v4.2.1 λv6=>Bd (12<(v6.2.2.length:Int)) (some ((false,()),())) (v5 ((),Wi (v4.2.1+1),()))) (ah (p37 v1 (v2.1,())) (λ(v7:((Int×Int×Int×Unit)×Unit))=>some ((decide (v7.1.1=0),()),())))) v1 ((),0,())) (λv8=>ah (p35 v1 (v2.1,())) (λ(v9:T9)=>bif !v9.1.1 then v8 ((),true,())else v8 ((),decide (12<(v2.1.2.2.1.length:Int)),())))
def F41(n:Nat):Fb 41:=fb n [⟨_,F35 n⟩,⟨_,F37 n⟩] [] [] [] Tryz.func41 Tryz.results41 Tryz.ntmps41 (.seq (rn_ [1]) (.seq (.seq (rs_ ⟨[],[.val 15 y4],[1]⟩ []) .nop) (.seq (sn_ (bk_ ⟨[],[.val 3 y2],[1]⟩ .nop)) .nop))) A18 A20 [] [] (p41 n)
def Kl(v1:Nat)(v2:T8):T15:=aC (λ(v3:T19)=>λv4=>aq (λ(v5:T5)=>bif v5.2.1 then Ld v2.1 v3.2.2.2.1 λv6=>aq (λ(v7:T4)=>v4 ((),v7.2.1,IntKind.wrap .u64 (v3.2.2.1*2),Wi (v3.2.2.2.1+1),())) (λv8=>bif v6 then v8 ((),IntKind.wrap .u64 (v3.2.1+v3.2.2.1),())else v8 ((),v3.2.1,()))else some ((v3.2.1,()),())) (λv9=>Bd (v3.2.2.2.1<(v2.1.length:Int)) (v9 ((),decide (v3.2.2.2.1<64),())) (v9 ((),false,())))) v1 ((),0,1,0,())
def F200(n:Nat):Fb 200:=fb n [] [] [] [] Tryz.func200 Tryz.results200 Tryz.ntmps200 (sn_ (sn_ (.seq (sn_ (bk_ ⟨[],[.val 3 y12,.val 4 y12,.val 5 y2],[0]⟩ (.seq (.seq (rs_ ⟨[],[.val 13 y4],[0,3,4,5]⟩ []) .nop) (.seq (.block none (.seq (sn_ (cs_ ⟨[],[.val 3 y12],[0,4,5]⟩ .nop .nop)) .nop)) .nop)))) .nop))) A16 A19 [] [] (Kl n)
def Km(v1:Nat)(v2:T1):T15:=if(0:Int)<=(64:Int)/\(64:Int)<=(64:Int)then if(64:Int).toNat*1<=140737488355328 then aq (λ(v3:T36)=>aq (λ(v4:T18)=>ah (Kl v1 (v4.1.1,())) (λ(v5:T7)=>some ((v5.1.1,()),()))) (λv6=>bif v3.2.1 then Ld v3.1.1 v2.1 λv7=>Ld v3.1.1 v2.1 λv8=>v6 ((List.set v3.1.1 (v2.1).toNat true,()),())else v6 ((v3.1.1,()),()))) (λv9=>Bd (0<=v2.1) (v9 ((List.replicate (64:Int).toNat false,()),decide (v2.1<64),())) (v9 ((List.replicate (64:Int).toNat false,()),false,())))else none else none
def F157(n:Nat):Fb 157:=fb n [⟨_,F200 n⟩] [] [] [] Tryz.func157 Tryz.results157 Tryz.ntmps157 (sn_ (sn_ (.seq (.seq (rs_ ⟨[(32,eC,mo_)],[.val 10 y4],[0,3]⟩ []) (cs_ ⟨[(32,eC,mo_)],[],[3]⟩ .nop .nop)) .nop))) A21 A19 [] [] (Km n)
def p86(v1:Nat)(v2:o4):T68:=ah (Km v1 (63,())) (λ(v3:T7)=>some ((([((v2.1.2.2.1.length:Int),0,v3.1.1)]:List U11),()),()))
def F86(n:Nat):Fb 86:=fb n [⟨_,F157 n⟩] [] [] [] Tryz.func86 Tryz.results86 Tryz.ntmps86 (.seq (rn_ [1]) .nop) A18 A17 [] [] (p86 n)
def HE(v1:Nat)(v2:o4):T40:=if 0<=(v2.1.2.1.length:Int)/\(v2.1.2.1.length:Int)<=(v2.1.2.1.length:Int)then if(v2.1.2.1.length:Int).toNat*1<=140737488355328 then aC (λ(v3:T31)=>λv4=>Bd (v3.2.1<=(v3.1.1.length:Int)) (aC (λ(v5:T31)=>λv6=>Bd (v5.2.1<(v2.1.2.2.1.length:Int)) (Ld v2.1.2.2.1 v5.2.1 λv7=>aC (λ(v8:T48)=>λv9=>Bd (v8.2.2.1<(v7.2.2.1.length:Int)) (Ld v7.2.2.1 v8.2.2.1 λv10=>aq (λ(v11:T36)=>v9 ((v11.1.1,()),v11.2.1,Wi (v8.2.2.1+1),())) (λv12=>bif v8.2.1 then bif v10.1 then Bd (0<=v10.2) (Bd (v10.2<(v8.1.1.length:Int)) (Ld v8.1.1 v10.2 λv13=>v12 ((v8.1.1,()),v13,())) (v12 ((v8.1.1,()),false,()))) (v12 ((v8.1.1,()),false,()))else v12 ((v8.1.1,()),false,())else v12 ((v8.1.1,()),false,()))) (aq (λ(v14:T36)=>aq (λ(v15:T18)=>v6 ((v15.1.1,()),Wi (v5.2.1+1),())) (λv16=>bif v14.2.1 then Ld v14.1.1 v7.1 λv17=>Ld v14.1.1 v7.1 λv18=>v16 ((List.set v14.1.1 (v7.1).toNat true,()),())else v16 ((v14.1.1,()),()))) (λv19=>bif v8.2.1 then Bd (0<=v7.1) (v19 ((v8.1.1,()),decide (v7.1<(v8.1.1.length:Int)),())) (v19 ((v8.1.1,()),false,()))else v19 ((v8.1.1,()),false,())))) v1 ((v5.1.1,()),true,0,())) (v4 ((v5.1.1,()),Wi (v3.2.1+1),()))) v1 ((v3.1.1,()),0,())) (some ((v3.1.1,()),()))) v1 ((List.replicate (v2.1.2.1.length:Int).toNat false,()),0,())else none else none
def F152(n:Nat):Fb 152:=fb n [] [] [] [] Tryz.func152 Tryz.results152 Tryz.ntmps152 (.seq (rn_ [1]) (sn_ (.seq (sn_ (bk_ ⟨Hf,[.val 4 y2],[1,3]⟩ (sn_ (.seq (.block none (sn_ (bk_ ⟨Hf,[.val 5 y2],[1,3,4]⟩ (sn_ (.seq (.block none (.seq (rn_ [6]) (.seq (sn_ (bk_ ⟨Hf,[.val 7 y4,.val 8 y2],[1,3,4,5,6]⟩ (sn_ (.seq (.block none (.seq (rn_ [9]) (rs_ ⟨Hf,[.val 7 y4],[1,3,4,5,6,8]⟩ []))) .nop)))) (.seq (rs_ ⟨Hf,[.val 80 y4],[1,3,4,5,6]⟩ []) (cs_ ⟨Hf,[],[1,3,4,5]⟩ .nop .nop))))) .nop))))) .nop)))) .nop))) A18 A16 [] [] (HE n)
def p54(v1:Nat)(v2:T3):T17:=aq (λ(v3:T5)=>bif v3.2.1 then some ((false,()),())else aC (λ(v4:T10)=>λv5=>Bd (v4.2.2.1<v2.2.1) (if(2:Int)=0 then none else v5 ((),IntKind.wrap .u64 (Int.tdiv v4.2.1 2),Wi (v4.2.2.1+1),())) (if(2:Int)=0 then none else some ((decide ((Int.tmod v4.2.1 2)=1),()),()))) v1 ((),v2.1,0,())) (λv6=>Bd (v2.2.1<0) (v6 ((),true,())) (v6 ((),decide (63<v2.2.1),())))
def F54(n:Nat):Fb 54:=fb n [] [] [] [] Tryz.func54 Tryz.results54 Tryz.ntmps54 (sn_ (.seq (.seq (rs_ ⟨[],[.val 11 y4],[0,1]⟩ []) .nop) (.seq (sn_ (bk_ ⟨[],[.val 0 y12,.val 5 y2],[1]⟩ .nop)) .nop))) [(y12,.ro),(y2,.ro)] A20 [] [] (p54 n)
def Dg(v1:Nat)(v2:T3):T15:=if(0:Int)<=(64:Int)/\(64:Int)<=(64:Int)then if(64:Int).toNat*1<=140737488355328 then aC (λ(v3:T31)=>λv4=>Bd (v3.2.1<64) (aq (λ(v5:T18)=>v4 ((v5.1.1,()),Wi (v3.2.1+1),())) (λv6=>ah (p54 v1 (v2.1,v3.2.1,())) (λ(v7:T9)=>bif v7.1.1 then Ld v3.1.1 v3.2.1 λv8=>Ld v3.1.1 v3.2.1 λv9=>v6 ((List.set v3.1.1 (v3.2.1).toNat true,()),())else ah (p54 v1 (v2.2.1,v3.2.1,())) (λ(v10:T9)=>Ld v3.1.1 v3.2.1 λv11=>Ld v3.1.1 v3.2.1 λv12=>v6 ((List.set v3.1.1 (v3.2.1).toNat v10.1.1,()),()))))) (ah (Kl v1 (v3.1.1,())) (λ(v13:T7)=>some ((v13.1.1,()),())))) v1 ((List.replicate (64:Int).toNat false,()),0,())else none else none
def F199(n:Nat):Fb 199:=fb n [⟨_,F54 n⟩,⟨_,F200 n⟩] [] [] [] Tryz.func199 Tryz.results199 Tryz.ntmps199 (sn_ (sn_ (.seq (sn_ (bk_ ⟨[(56,eC,mo_)],[.val 6 y2],[0,1,5]⟩ (sn_ (.seq (.block none (rs_ ⟨[(56,eC,mo_)],[],[0,1,5,6]⟩ [])) .nop)))) .nop))) [(y12,.ro),(y12,.ro)] A19 [] [] (Dg n)
abbrev Sb:=Qt [(eC,.ro),(y54,.ro),(y77,.ro)] A13 []
abbrev Sc(q:Sb):Callee:=⟨_,_,[],_,q⟩
theorem Vs:Plain Tryz.prog 198:=pl Tryz.func198
abbrev Vt(Ko:Sb):=fL Tryz.prog 198 (Sc Ko)
def EG(v1:Nat)(v2:(U12×U0×U17×Unit)->Option (U27×Unit))(v3:T74):T33:=bif decide ((v3.2.2.1.length:Int)=0)then some ((0,true,()),())else if(0:Int)<=(0:Int)then(match v3.2.2.1[(0:Int).toNat]? with|some v4=>bif !v4.1 then ah (Km v1 (v4.2,())) (λ(v5:T7)=>some ((v5.1.1,false,()),()))else aq (λ(v6:T5)=>bif v6.2.1 then some ((0,false,()),())else if 0<=v4.2 then(match v3.1[(v4.2).toNat]? with|some v7=>bif !v7 then if 0<=v4.2 then(match v3.2.1[(v4.2).toNat]? with|some v8=>some ((v8,false,()),())|none=>none)else none else if(0:Int)<=(1:Int)/\(1:Int)<=(v3.2.2.1.length:Int)/\(v3.2.2.1.length:Int)<=(v3.2.2.1.length:Int)then ah (v2 (v3.1,v3.2.1,cn v3.2.2.1 (1:Int) (v3.2.2.1.length:Int),())) (λ(v9:T14)=>if 0<=v4.2 then(match v3.2.1[(v4.2).toNat]? with|some v10=>ah (Dg v1 (v10,v9.1.1,())) (λ(v11:T7)=>some ((v11.1.1,v9.1.2.1,()),()))|none=>none)else none)else none|none=>none)else none) (λv12=>bif decide (v4.2<0)then v12 ((),true,())else bif decide ((v3.1.length:Int)<=v4.2)then v12 ((),true,())else v12 ((),decide ((v3.2.1.length:Int)<=v4.2),()))|none=>none)else none
theorem Yw(n:Nat)(Ko:Sb)(h:Vt Ko):fL Tryz.prog 198 (Sc (EG n Ko)):=(fb n [⟨_,F157 n⟩,⟨_,F199 n⟩,⟨_,⟨_,h,Vs⟩⟩] [] [] [] Tryz.func198 Tryz.results198 Tryz.ntmps198 (.seq .nop (.seq .nop (.seq (.reg none [8]) (.seq .nop (.seq (.seq (.reg (some ⟨[],[.val 39 y4],[0,1,2,8]⟩) []) .nop) .nop))))) [(eC,.ro),(y54,.ro),(y77,.ro)] A13 [] [] (EG n Ko)).o
def Bf(n:Nat):Nat->T74->T33
 |0,_=>none
 |d+1,x=>EG n (Bf n d) x
theorem Vu(n:Nat):∀ d,Vt (Bf n d)
 |0=>(λx r h=>by cases h)
 |d+1=>Yw n _ (Vu n d)
def Kp(n:Nat)(x:T74):T33:=Bf n n x
def F198(n:Nat):Fb 198:=⟨Sc (Kp n),Vu n n,Vs⟩
def OC(v1:Nat)(v2:o4):T35:=ah (HE v1 (v2.1,())) (λ(v3:T18)=>if 0<=(v2.1.2.1.length:Int)/\(v2.1.2.1.length:Int)<=(v2.1.2.1.length:Int)then if(v2.1.2.1.length:Int).toNat*8<=140737488355328 then aC (λ(v4:T27)=>λv5=>Bd (v4.2.1<=(Wi ((64:Int)*(v4.1.1.length:Int)))) (aC (λ(v6:(U31×Bool×Int×Unit))=>λv7=>Bd (v6.2.2.1<(v2.1.2.2.1.length:Int)) (aq (λ(v8:T32)=>v7 ((v8.1.1,()),v8.2.1,Wi (v6.2.2.1+1),())) (λv9=>Ld v2.1.2.2.1 v6.2.2.1 λv10=>aq (λ(v11:T32)=>bif v11.2.1 then v9 ((v11.1.1,()),v6.2.1,())else ah (Kp v1 (v3.1.1,v11.1.1,v10.2.2.1,())) (λ(v12:T14)=>Ld v11.1.1 v10.1 λv13=>ah (Dg v1 (v12.1.1,v13,())) (λ(v14:T7)=>aq (λ(v15:T32)=>Ld v15.1.1 v10.1 λv16=>Ld v15.1.1 v10.1 λv17=>v9 ((List.set v15.1.1 (v10.1).toNat v14.1.1,()),v15.2.1,())) (λv18=>bif v6.2.1 then v18 ((v11.1.1,()),true,())else Ld v11.1.1 v10.1 λv19=>v18 ((v11.1.1,()),!(decide (v14.1.1=v19)),()))))) (λv20=>Bd (v10.1<0) (v20 ((v6.1.1,()),true,())) (v20 ((v6.1.1,()),decide ((v6.1.1.length:Int)<=v10.1),()))))) (bif !v6.2.1 then some ((v6.1.1,()),())else v5 ((v6.1.1,()),Wi (v4.2.1+1),()))) v1 ((v4.1.1,()),false,0,())) (some ((v4.1.1,()),()))) v1 ((List.replicate (v2.1.2.1.length:Int).toNat (0:Int),()),0,())else none else none)
def F153(n:Nat):Fb 153:=fb n [⟨_,F152 n⟩,⟨_,F198 n⟩,⟨_,F199 n⟩] [12] [] [] Tryz.func153 Tryz.results153 Tryz.ntmps153 (.seq (rn_ [1]) (sn_ (sn_ (.seq (sn_ (bk_ ⟨JV,[.val 5 y2],[1,3,4]⟩ (sn_ (.seq (.block none (sn_ (.seq (sn_ (bk_ ⟨JV,[.val 6 y4,.val 7 y2],[1,3,4,5]⟩ (sn_ (.seq (.block (some ⟨JV,[.val 6 y4],[1,3,4,5,7]⟩) (.seq (rn_ [8]) (.seq (.seq (rs_ ⟨JV,[.val 45 y4],[1,3,4,5,6,7,8]⟩ []) .nop) (sn_ (sn_ (.seq (rs_ ⟨JV,[.val 6 y4],[1,3,4,5,7,8,9]⟩ []) .nop)))))) .nop)))) .nop))) .nop)))) .nop)))) A18 [(y54,.ro)] [] [] (OC n)
def HF(v1:Nat)(v2:T26):T68:=aC (λ(v3:T60)=>λv4=>Bd (v3.2.2.1<(v2.1.length:Int)) (aC (λ(v5:((U2×Unit)×Int×Int×Unit))=>λv6=>Bd (v5.2.2.1<(v2.1.length:Int)) (aq (λ(v7:T66)=>aq (λ(v8:T66)=>aq (λ(v9:((U2×Unit)×Int×Unit))=>v6 ((v9.1.1,()),v9.2.1,Wi (v5.2.2.1+1),())) (λv10=>bif v8.2.1 then v10 ((v8.1.1,()),v5.2.2.1,())else v10 ((v8.1.1,()),v5.2.1,()))) (λv11=>bif v7.2.1 then Bd (v5.2.1<0) (v11 ((v7.1.1,()),true,())) (Ld v2.1 v5.2.2.1 λv12=>Ld v2.1 v5.2.1 λv13=>Bd (v12.1<v13.1) (v11 ((v7.1.1,()),true,())) (Ld v2.1 v5.2.2.1 λv14=>Ld v2.1 v5.2.1 λv15=>Bd (v14.1=v15.1) (Ld v2.1 v5.2.2.1 λv16=>Ld v2.1 v5.2.1 λv17=>v11 ((v7.1.1,()),decide (v16.2.1<v17.2.1),())) (v11 ((v7.1.1,()),false,()))))else v11 ((v7.1.1,()),false,()))) (λv18=>Bd ((v5.1.1.length:Int)=0) (v18 ((v5.1.1,()),true,())) (Ld v2.1 v5.2.2.1 λv19=>if 0<=(Wi ((v5.1.1.length:Int)-1))then(match v5.1.1[(Wi ((v5.1.1.length:Int)-1)).toNat]? with|some v20=>Bd (v20.1<v19.1) (v18 ((v5.1.1,()),true,())) (Ld v2.1 v5.2.2.1 λv21=>if 0<=(Wi ((v5.1.1.length:Int)-1))then(match v5.1.1[(Wi ((v5.1.1.length:Int)-1)).toNat]? with|some v22=>Bd (v21.1=v22.1) (Ld v2.1 v5.2.2.1 λv23=>if 0<=(Wi ((v5.1.1.length:Int)-1))then(match v5.1.1[(Wi ((v5.1.1.length:Int)-1)).toNat]? with|some v24=>v18 ((v5.1.1,()),decide (v24.2.1<v23.2.1),())|none=>none)else none) (v18 ((v5.1.1,()),false,()))|none=>none)else none)|none=>none)else none))) (Bd (v5.2.1<0) (some ((v5.1.1,()),())) (Ld v2.1 v5.2.1 λv25=>Ld v2.1 v5.2.1 λv26=>aC (λ(v27:((U2×U11×Unit)×Int×Unit))=>λv28=>Bd (v27.2.1<(v2.1.length:Int)) (aq (λ(v29:T81)=>aq (λ(v30:((U2×U11×Unit)×Unit))=>v28 ((v30.1.1,v30.1.2.1,()),Wi (v27.2.1+1),())) (λv31=>bif v29.2.1 then Ld v2.1 v27.2.1 λv32=>ah (Dg v1 (v29.1.2.1.2.2,v32.2.2,())) (λ(v33:T7)=>v31 ((v29.1.1,(v29.1.2.1.1,v29.1.2.1.2.1,v33.1.1),()),()))else v31 ((v29.1.1,v29.1.2.1,()),()))) (λv34=>Ld v2.1 v27.2.1 λv35=>Bd (v35.1=v27.1.2.1.1) (Ld v2.1 v27.2.1 λv36=>v34 ((v27.1.1,v27.1.2.1,()),decide (v36.2.1=v27.1.2.1.2.1),())) (v34 ((v27.1.1,v27.1.2.1,()),false,())))) (Ap 24 (List.length v27.1.1+List.length ([v27.1.2.1]:List U11)) (v4 ((),v27.1.1++([v27.1.2.1]:List U11),Wi (v3.2.2.1+1),())))) v1 ((v5.1.1,(v25.1,v26.2.1,0),()),0,())))) v1 ((v3.2.1,()),-1,0,())) (some ((v3.2.1,()),()))) v1 ((),([]:List U11),0,())
def F154(n:Nat):Fb 154:=fb n [⟨_,F199 n⟩] [] [] [] Tryz.func154 Tryz.results154 Tryz.ntmps154 (sn_ (sn_ (.seq (sn_ (bk_ ⟨[],[.hdr 3 31 fm mo_,.val 4 y2],[0]⟩ (sn_ (.seq (.block none (sn_ (.seq (sn_ (bk_ ⟨[(31,fm,mo_)],[.val 5 y2,.val 6 y2],[0,3,4]⟩ (sn_ (.seq (.block none (.seq (rs_ ⟨[(31,fm,mo_)],[.val 7 y4],[0,3,4,5,6]⟩ []) (.seq (rs_ ⟨[(31,fm,mo_)],[.val 113 y4],[0,3,4,5,6]⟩ []) (cs_ ⟨[(31,fm,mo_)],[.val 5 y2],[0,3,4,6]⟩ .nop .nop)))) .nop)))) (sn_ (sn_ (.seq (sn_ (bk_ ⟨RO,[.val 9 y2],[0,3,4,8]⟩ (sn_ (.seq (.block none (.seq (rs_ ⟨RO,[.val 152 y4],[0,3,4,8,9]⟩ []) (cs_ ⟨RO,[],[0,3,4,8,9]⟩ .nop .nop))) .nop)))) (.rgf none [8] []))))))) .nop)))) .nop))) A17 A17 [] [] (HF n)
def p53(v1:Nat)(v2:uN):T70:=aq (λ(v3:T5)=>bif v3.2.1 then some ((([]:List U5),false,()),())else Bd (v2.2.1=(v2.1.2.2.1.length:Int)) (some ((([(true,v2.1.2.2.2.2)]:List U5),true,()),())) (Ld v2.1.2.2.1 v2.2.1 λv4=>some ((v4.2.2.1,true,()),()))) (λv5=>Bd (v2.2.1<0) (v5 ((),true,())) (v5 ((),decide ((v2.1.2.2.1.length:Int)<v2.2.1),())))
def F53(n:Nat):Fb 53:=fb n [] [] [] [] Tryz.func53 Tryz.results53 Tryz.ntmps53 (.seq (rn_ [2]) (.seq (.seq (rs_ ⟨[],[.val 14 y4],[1,2]⟩ []) .nop) .nop)) A12 [(y77,.ro),(y4,.ro)] [] [] (p53 n)
def HG(v1:Nat)(v2:NF):T58:=ah (p53 v1 (v2.1,v2.2.1.1,())) (λ(v3:T57)=>aq (λ(v4:T37)=>bif v4.2.1 then some (((false,0),false,()),())else Ld v3.1.1 v2.2.1.2.1 λv5=>some ((v5,true,()),())) (λv6=>Bd (v2.2.1.2.1<0) (v6 (((false,0),()),true,())) (v6 (((false,0),()),decide ((v3.1.1.length:Int)<=v2.2.1.2.1),()))))
def F155(n:Nat):Fb 155:=fb n [⟨_,F53 n⟩] [12] [] [] Tryz.func155 Tryz.results155 Tryz.ntmps155 (.seq (rn_ [2,3]) (sn_ (.seq (.seq (rs_ ⟨[(32,.box y62,.own Q1_)],[.val 24 y4],[3,4,6]⟩ []) .nop) (.seq (rn_ [4]) .nop)))) A7 [(y62,.ro),(y4,.ro)] [] [] (HG n)
def Kq(v1:Nat)(v2:(U12×U0×U17×Int×Unit)):T15:=ah (Kp v1 (v2.1,v2.2.1,v2.2.2.1,())) (λ(v3:T14)=>bif v3.1.2.1 then ah (Dg v1 (v3.1.1,v2.2.2.2.1,())) (λ(v4:T7)=>some ((v4.1.1,()),()))else some ((v3.1.1,()),()))
def F156(n:Nat):Fb 156:=fb n [⟨_,F198 n⟩,⟨_,F199 n⟩] [] [] [] Tryz.func156 Tryz.results156 Tryz.ntmps156 (.nop) [(eC,.ro),(y54,.ro),(y77,.ro),(y12,.ro)] A19 [] [] (Kq n)
theorem Vv:xZ Tryz.prog 134:=⟨by kernel_rfl,by kernel_rfl,by kernel_rfl⟩
def p89(v1:Nat)(v2:(U2×U2×Unit)):T17:=bif !(decide ((v2.1.length:Int)=(v2.2.1.length:Int)))then some ((false,()),())else aC (λ(v3:T4)=>λv4=>Bd (v3.2.1<(v2.1.length:Int)) (Ld v2.1 v3.2.1 λv5=>Ld v2.2.1 v3.2.1 λv6=>bif bif Bd (v5.1=v6.1) (Bd (v5.2.1=v6.2.1) (decide (v5.2.2=v6.2.2)) false) false then false else true then some ((false,()),())else v4 ((),Wi (v3.2.1+1),())) (some ((true,()),()))) v1 ((),0,())
def F89(n:Nat):Fb 89:=fb n [] [] [] [⟨_,Vv⟩] Tryz.func89 Tryz.results89 Tryz.ntmps89 (sn_ (sn_ (.seq (sn_ (bk_ ⟨[],[.val 5 y2],[0,1]⟩ .nop)) .nop))) [(fm,.ro),(fm,.ro)] A20 [] [] (p89 n)
def p85(v1:Nat)(v2:RK):T68:=ah (HE v1 (v2.1,())) (λ(v3:T18)=>ah (OC v1 (v2.1,())) (λ(v4:T16)=>ah (HF v1 (v2.2.1,())) (λ(v5:T51)=>aC (λ(v6:T43)=>λv7=>Ap 24 (List.length ([]:List U11)+List.length v6.2.1) (aC (λ(v8:T60)=>λv9=>Bd (v8.2.2.1<(v6.2.1.length:Int)) (aq (λ(v10:T43)=>v9 ((),v10.2.1,Wi (v8.2.2.1+1),())) (λv11=>Ld v6.2.1 v8.2.2.1 λv12=>ah (HG v1 (v2.1,v12,())) (λ(v13:T38)=>aq (λ(v14:T66)=>bif v14.2.1 then v11 ((),v14.1.1,())else Ld v6.2.1 v8.2.2.1 λv15=>ah (p53 v1 (v2.1,v15.1,())) (λ(v16:T57)=>Ld v6.2.1 v8.2.2.1 λv17=>if 0<=(Wi (v17.2.1+1))/\(Wi (v17.2.1+1))<=(v16.1.1.length:Int)/\(v16.1.1.length:Int)<=(v16.1.1.length:Int)then Ld v6.2.1 v8.2.2.1 λv18=>ah (Kq v1 (v3.1.1,v4.1.1,cn v16.1.1 (Wi (v17.2.1+1)) (v16.1.1.length:Int),v18.2.2,())) (λ(v19:T7)=>aC (λ(v20:T60)=>λv21=>Bd (v20.2.2.1<(v2.1.2.2.1.length:Int)) (Ld v2.1.2.2.1 v20.2.2.1 λv22=>aq (λ(v23:T43)=>v21 ((),v23.2.1,Wi (v20.2.2.1+1),())) (λv24=>Bd (v22.1=v13.1.1.2) (Ap 24 (List.length v20.2.1+List.length ([(v20.2.2.1,0,v19.1.1)]:List U11)) (v24 ((),v20.2.1++([(v20.2.2.1,0,v19.1.1)]:List U11),()))) (v24 ((),v20.2.1,())))) (v11 ((),v20.2.1,()))) v1 ((),v14.1.1,0,()))else none)) (λv25=>bif !v13.1.2.1 then v25 ((v8.2.1,()),true,())else v25 ((v8.2.1,()),!v13.1.1.1,()))))) (ah (HF v1 (v8.2.1,())) (λ(v26:T51)=>ah (p89 v1 (v26.1.1,v6.2.1,())) (λ(v27:T9)=>bif v27.1.1 then some ((v6.2.1,()),())else v7 ((),v26.1.1,()))))) v1 ((),([]:List U11)++v6.2.1,0,()))) v1 ((),v5.1.1,()))))
def F85(n:Nat):Fb 85:=fb n [⟨_,F152 n⟩,⟨_,F153 n⟩,⟨_,F154 n⟩,⟨_,F155 n⟩,⟨_,F53 n⟩,⟨_,F156 n⟩,⟨_,F89 n⟩] [17,19,21,54] [] [] Tryz.func85 Tryz.results85 Tryz.ntmps85 (.seq (rn_ [2]) (sn_ (sn_ (bk_ ⟨[],[.val 7 fm],[2,5,6]⟩ (.block none (sn_ (.seq (sn_ (bk_ ⟨[],[.hdr 8 71 fm mo_,.val 9 y2],[2,5,6,7]⟩ (sn_ (.seq (.block (some ⟨[],[.hdr 8 71 fm mo_],[2,5,6,7,9]⟩) (.seq (rn_ [10]) (.seq (.seq (rs_ ⟨[(71,fm,mo_)],[.val 46 y4],[2,5,6,7,8,9,10]⟩ []) .nop) (sn_ (sn_ (sn_ (bk_ ⟨[],[.hdr 8 71 fm mo_,.val 15 y2],[2,5,6,7,9,10,14]⟩ (sn_ (.seq (.block none (sn_ (cs_ ⟨[],[.hdr 8 71 fm mo_],[2,5,6,7,9,10,14,15]⟩ .nop .nop))) .nop))))))))) .nop)))) .nop))))))) A8 A17 [] [] (p85 n)
def p87(v1:Nat)(v2:RK):T59:=aC (λ(v3:T47)=>λv4=>Bd (v3.2.2.1<2) (aC (λ(v5:(Unit×U17×Bool×Unit))=>λv6=>bif v5.2.2.1 then aC (λ(v7:((U17×U5×Unit)×Bool×Int×Unit))=>λv8=>Bd (v7.2.2.1<(v2.2.1.length:Int)) (aq (λ(v9:T76)=>v8 ((v9.1.1,v9.1.2.1,()),v9.2.1,Wi (v7.2.2.1+1),())) (λv10=>Ld v2.2.1 v7.2.2.1 λv11=>ah (HG v1 (v2.1,v11,())) (λ(v12:T38)=>aq (λ(v13:T76)=>aq (λ(v14:T76)=>bif v14.2.1 then v10 ((v14.1.1,v14.1.2.1,()),v7.2.1,())else aq (λ(v15:T76)=>aq (λ(v16:T76)=>v10 ((v16.1.1,v16.1.2.1,()),v16.2.1,())) (λv17=>bif v15.2.1 then v17 ((v15.1.1,v12.1.1,()),true,())else v17 ((v15.1.1,v15.1.2.1,()),v7.2.1,()))) (λv18=>bif !v7.2.1 then v18 ((v14.1.1,v14.1.2.1,()),true,())else v18 ((v14.1.1,v14.1.2.1,()),decide (v12.1.1.2<v14.1.2.1.2),()))) (λv19=>bif !v12.1.2.1 then v19 ((v13.1.1,v13.1.2.1,()),true,())else bif !(v12.1.1.1 == (decide (v3.2.2.1=1)))then v19 ((v13.1.1,v13.1.2.1,()),true,())else bif v13.2.1 then if 0<=(Wi ((v13.1.1.length:Int)-1))then(match v13.1.1[(Wi ((v13.1.1.length:Int)-1)).toNat]? with|some v20=>v19 ((v13.1.1,v13.1.2.1,()),decide (v12.1.1.2<=v20.2),())|none=>none)else none else v19 ((v13.1.1,v13.1.2.1,()),false,()))) (λv21=>Bd (0<(v7.1.1.length:Int)) (if 0<=(Wi ((v7.1.1.length:Int)-1))then(match v7.1.1[(Wi ((v7.1.1.length:Int)-1)).toNat]? with|some v22=>v21 ((v7.1.1,v7.1.2.1,()),v22.1 == (decide (v3.2.2.1=1)),())|none=>none)else none) (v21 ((v7.1.1,v7.1.2.1,()),false,())))))) (aq (λ(v23:T34)=>v6 ((),v23.2.1,v7.2.1,())) (λv24=>bif v7.2.1 then Ap 16 (List.length v7.1.1+List.length ([v7.1.2.1]:List U5)) (v24 ((),v7.1.1++([v7.1.2.1]:List U5),()))else v24 ((),v7.1.1,())))) v1 ((v5.2.1,(false,0),()),false,0,())else v4 ((),v5.2.1,Wi (v3.2.2.1+1),())) v1 ((),v3.2.1,true,())) (some ((v3.2.1,()),()))) v1 ((),([]:List U5),0,())
def F87(n:Nat):Fb 87:=fb n [⟨_,F155 n⟩] [] [] [] Tryz.func87 Tryz.results87 Tryz.ntmps87 (.seq (rn_ [2]) (sn_ (.seq (sn_ (bk_ ⟨[],[.hdr 5 47 y77 mo_,.val 6 y2],[1,2]⟩ (sn_ (.seq (.block none (sn_ (bk_ ⟨[],[.hdr 5 47 y77 mo_,.val 7 y4],[1,2,6]⟩ (sn_ (.block none (sn_ (sn_ (.seq (sn_ (bk_ ⟨Q8_,[.val 7 y4,.val 9 y2],[1,2,5,6,8]⟩ (sn_ (.seq (.block (some ⟨Q8_,[.val 7 y4],[1,2,5,6,8,9]⟩) (.seq (rn_ [10]) (.seq (rs_ ⟨Q8_,[.val 12 y4],[1,2,5,6,7,8,9,10,11]⟩ []) (.seq (.seq (rs_ ⟨Q8_,[.val 72 y4],[1,2,5,6,7,8,9,10]⟩ []) .nop) (.seq (rs_ ⟨Q8_,[.val 81 y4],[1,2,5,6,7,8,9,10]⟩ []) (cs_ ⟨Q8_,[.val 7 y4],[1,2,5,6,8,9]⟩ .nop .nop)))))) .nop)))) (.seq (rn_ [8]) (cs_ ⟨[],[.hdr 5 47 y77 mo_],[1,2,6,7]⟩ .nop .nop)))))))))) .nop)))) .nop))) A8 [(y77,.ro)] [] [] (p87 n)
def p88(v1:Nat)(v2:US):T68:=aC (λ(v3:T60)=>λv4=>Bd (v3.2.2.1<(v2.2.1.length:Int)) (Ld v2.2.1 v3.2.2.1 λv5=>ah (HG v1 (v2.1,v5,())) (λ(v6:T38)=>aq (λ(v7:T66)=>aq (λ(v8:T43)=>v4 ((),v8.2.1,Wi (v3.2.2.1+1),())) (λv9=>bif v7.2.1 then Ld v2.2.1 v3.2.2.1 λv10=>Ld v2.2.1 v3.2.2.1 λv11=>Ld v2.2.1 v3.2.2.1 λv12=>Ap 24 (List.length v7.1.1+List.length ([(v10.1,Wi (v11.2.1+1),v12.2.2)]:List U11)) (v9 ((),v7.1.1++([(v10.1,Wi (v11.2.1+1),v12.2.2)]:List U11),()))else v9 ((),v7.1.1,()))) (λv13=>bif v6.1.2.1 then v13 ((v3.2.1,()),bif v6.1.1.1 == v2.2.2.1.1 then decide (v6.1.1.2=v2.2.2.1.2)else false,())else v13 ((v3.2.1,()),false,())))) (ah (HF v1 (v3.2.1,())) (λ(v14:T51)=>some ((v14.1.1,()),())))) v1 ((),([]:List U11),0,())
def F88(n:Nat):Fb 88:=fb n [⟨_,F155 n⟩,⟨_,F154 n⟩] [] [] [⟨_,Hx⟩] Tryz.func88 Tryz.results88 Tryz.ntmps88 (.seq (rn_ [3,5]) (sn_ (.seq (sn_ (bk_ ⟨[],[.hdr 7 63 fm mo_,.val 8 y2],[1,3,5]⟩ (sn_ (.seq (.block none (.seq (rn_ [9]) (.seq (rs_ ⟨[(63,fm,mo_)],[.val 31 y4],[1,3,5,7,8]⟩ []) (cs_ ⟨[],[.hdr 7 63 fm mo_],[1,3,5,8]⟩ .nop .nop)))) .nop)))) .nop))) [(y32,.ro),(fm,.ro),(y62,.ro)] A17 [] [] (p88 n)
def p42(v1:Nat)(v2:uN):UL:=ah (p86 v1 (v2.1,())) (λ(v3:T51)=>ah (p85 v1 (v2.1,v3.1.1,())) (λ(v4:T51)=>aC (λ(v5:((U9×U9×Unit)×Int×Unit))=>λv6=>Bd (v5.2.1<(v5.1.2.1.1.length:Int)) (Bd (v2.2.1<(v5.1.2.1.1.length:Int)) (some ((v5.1.2.1,false,()),())) (Ld v5.1.2.1.1 v5.2.1 λv7=>ah (p87 v1 (v2.1,v7,())) (λ(v8:T41)=>aC (λ(v9:((U9×U9×Unit)×U0×Int×Unit))=>λv10=>Bd (v9.2.2.1<(v8.1.1.length:Int)) (Ld v9.1.2.1.1 v5.2.1 λv11=>Ld v8.1.1 v9.2.2.1 λv12=>ah (p88 v1 (v2.1,v11,v12,())) (λ(v13:T51)=>ah (p85 v1 (v2.1,v13.1.1,())) (λ(v14:T51)=>aC (λ(v15:((U9×U9×U0×Unit)×Int×Int×Unit))=>λv16=>aq (λ(v17:((U9×U9×U0×Unit)×Bool×Unit))=>bif v17.2.1 then Ld v17.1.2.1.1 v15.2.2.1 λv18=>ah (p89 v1 (v18,v14.1.1,())) (λ(v19:T9)=>aq (λ(v20:UR)=>v16 ((v20.1.1,v20.1.2.1,v20.1.2.2.1,()),v20.2.1,Wi (v15.2.2.1+1),())) (λv21=>bif v19.1.1 then v21 ((v17.1.1,v17.1.2.1,v17.1.2.2.1,()),v15.2.2.1,())else v21 ((v17.1.1,v17.1.2.1,v17.1.2.2.1,()),v15.2.1,())))else aq (λ(v22:UR)=>Ap 8 (List.length v22.1.2.2.1+List.length ([v22.2.1]:List Int)) (v10 ((v22.1.1,v22.1.2.1,()),v22.1.2.2.1++([v22.2.1]:List Int),Wi (v9.2.2.1+1),()))) (λv23=>Bd (v15.2.1<0) (Ap 24 (List.length v17.1.2.1.1+List.length ([v14.1.1]:List U2)) (v23 ((v17.1.1,(v17.1.2.1.1++([v14.1.1]:List U2),v17.1.2.1.2),v17.1.2.2.1,()),(v17.1.2.1.1.length:Int),()))) (v23 ((v17.1.1,v17.1.2.1,v17.1.2.2.1,()),v15.2.1,())))) (λv24=>Bd (v15.2.2.1<(v15.1.2.1.1.length:Int)) (v24 ((v15.1.1,v15.1.2.1,v15.1.2.2.1,()),decide (v15.2.1<0),())) (v24 ((v15.1.1,v15.1.2.1,v15.1.2.2.1,()),false,())))) v1 ((v9.1.1,v9.1.2.1,v9.2.1,()),-1,0,())))) (Ap 24 (List.length v9.1.2.1.2.1+List.length ([v8.1.1]:List U17)) (Ap 24 (List.length v9.1.2.1.2.2+List.length ([v9.2.1]:List U0)) (v6 ((v9.1.1,(v9.1.2.1.1,v9.1.2.1.2.1++([v8.1.1]:List U17),v9.1.2.1.2.2++([v9.2.1]:List U0)),()),Wi (v5.2.1+1),()))))) v1 ((v5.1.1,v5.1.2.1,()),([]:List Int),0,())))) (some ((v5.1.2.1,true,()),()))) v1 (((([]:List U2),([]:List U17),([]:List U0)),(([v4.1.1]:List U2),([]:List U17),([]:List U0)),()),0,())))
def F42(n:Nat):Fb 42:=fb n [⟨_,F86 n⟩,⟨_,F85 n⟩,⟨_,F87 n⟩,⟨_,F88 n⟩,⟨_,F89 n⟩] [16,17,19,39,57,58] [] [] Tryz.func42 Tryz.results42 Tryz.ntmps42 (.seq (rn_ [2]) (sn_ (.seq (sn_ (bk_ ⟨Va,[.val 7 y2],[1,2,4,6]⟩ (sn_ (.seq (.block none (.seq (sn_ (.cond none (.seq (.rgf none [6] []) .nop) .nop)) (sn_ (sn_ (.seq (sn_ (bk_ ⟨Va,[.hdr 9 79 y53 mo_,.val 10 y2],[1,2,4,6,7,8]⟩ (sn_ (.seq (.block none (sn_ (sn_ (.seq (sn_ (bk_ ⟨Q7_,[.val 12 y2,.val 13 y2],[1,2,4,6,7,8,9,10,11]⟩ (.seq (.seq (rs_ ⟨Q7_,[.val 67 y4],[1,2,4,6,7,8,9,10,11,12,13]⟩ []) .nop) (.seq (.block none (sn_ (cs_ ⟨Q7_,[.val 12 y2],[1,2,4,6,7,8,9,10,11,13]⟩ .nop .nop))) .nop)))) (.seq (sn_ (cs_ ⟨Q7_,[.val 12 y2],[1,2,4,6,7,8,9,10]⟩ .nop .nop)) .nop))))) .nop)))) (sn_ (.rgf none [9] []))))))) .nop)))) (.seq (.rgf none [6] [4]) .nop)))) A12 [(y37,.ro),(y4,.ro)] [] [] (p42 n)
def p11(v1:Nat)(v2:o4):UL:=ah (p41 v1 (v2.1,())) (λ(v3:T9)=>bif !v3.1.1 then some (((([]:List U2),([]:List U17),([]:List U0)),false,()),())else ah (p42 v1 (v2.1,60,())) (λ(v4:RH)=>some ((v4.1.1,v4.1.2.1,()),())))
def F11(n:Nat):Fb 11:=fb n [⟨_,F41 n⟩,⟨_,F42 n⟩] [7,9] [] [] Tryz.func11 Tryz.results11 Tryz.ntmps11 (.seq (rn_ [1]) (sn_ (.seq (rn_ [2]) .nop))) A18 [(y37,.ro),(y4,.ro)] [] [] (p11 n)
def p4(v1:Nat)(v2:o4):T17:=ah (p9 v1 ()) (λ(v3:T9)=>bif !v3.1.1 then some ((false,()),())else ah (p11 v1 (v2.1,())) (λ(v4:RH)=>bif !v4.1.2.1 then some ((true,()),())else ah (p12 v1 (v2.1,())) (λ(v5:RG)=>bif !(decide (v5.1.2.1=0))then some ((false,()),())else ah (p13 v1 (v2.1,v5.1.1,())) (λ(v6:T99)=>aq (λ(v7:T5)=>bif v7.2.1 then ah (p14 v1 (v5.1.1,())) (λ(v8:T7)=>some ((decide ((v6.1.1.length:Int)=v8.1.1),()),()))else aC (λ(v9:T4)=>λv10=>Bd (v9.2.1<(v6.1.1.length:Int)) (Ld v6.1.1 v9.2.1 λv11=>bif !(decide ((v11.length:Int)=(Wi ((v2.1.1.length:Int)+1))))then some ((false,()),())else ah (p15 v1 (v5.1.1,v2.1,v9.2.1,())) (λ(v12:T49)=>aC (λ(v13:T4)=>λv14=>Ld v6.1.1 v9.2.1 λv15=>Bd (v13.2.1<(v15.length:Int)) (Ld v6.1.1 v9.2.1 λv16=>Ld v16 v13.2.1 λv17=>aq (λ(v18:T4)=>aC (λ(v19:T10)=>λv20=>aq (λ(v21:T5)=>bif v21.2.1 then Ld v12.1.2.1 v19.2.2.1 λv22=>aq (λ(v23:T4)=>v20 ((),v23.2.1,Wi (v19.2.2.1+1),())) (λv24=>bif !(decide ((dL .and .u64 v22 v18.2.1)=0))then aq (λ(v25:T5)=>bif v25.2.1 then some ((false,()),())else v24 ((),Wi (v19.2.1+1),())) (λv26=>Bd (v17.1<2) (v26 ((),true,())) (Ld v12.1.1 v19.2.2.1 λv27=>v26 ((),!(decide (v17.2=v27)),())))else v24 ((),v19.2.1,()))else ah (p16 v1 (v5.1.1,v9.2.1,(false,v13.2.1),())) (λ(v28:T7)=>aq (λ(v29:T5)=>bif v29.2.1 then some ((false,()),())else v14 ((),Wi (v13.2.1+1),())) (λv30=>Bd (1<v19.2.1) (v30 ((),true,())) (Bd (v19.2.1=0) (bif !((decide (0<=v28.1.1)) == (decide (v17.1=1)))then v30 ((),true,())else Bd (v19.2.1=0) (Bd (2<=v17.1) (v30 ((),true,())) (Bd (v17.1=1) (v30 ((),!(decide (v17.2=v28.1.1)),())) (v30 ((),false,())))) (Bd (v17.1=1) (v30 ((),!(decide (v17.2=v28.1.1)),())) (v30 ((),false,())))) (Bd (v19.2.1=0) (Bd (2<=v17.1) (v30 ((),true,())) (Bd (v17.1=1) (v30 ((),!(decide (v17.2=v28.1.1)),())) (v30 ((),false,())))) (Bd (v17.1=1) (v30 ((),!(decide (v17.2=v28.1.1)),())) (v30 ((),false,())))))))) (λv31=>Bd (v19.2.2.1<(v12.1.1.length:Int)) (v31 ((),decide (v19.2.2.1<(v12.1.2.1.length:Int)),())) (v31 ((),false,())))) v1 ((),0,0,())) (λv32=>Bd (v13.2.1<(v2.1.1.length:Int)) (if(IntKind.wrap .u64 v13.2.1)<0 then none else v32 ((),IntKind.wrap .u64 ((1:Int)*2 ^ (Nat.min (Int.toNat (IntKind.wrap .u64 v13.2.1)) (IntKind.bits .u64))),())) (v32 ((),9223372036854775808,())))) (v10 ((),Wi (v9.2.1+1),()))) v1 ((),0,()))) (some ((true,()),()))) v1 ((),0,())) (λv33=>Bd (0<(v6.1.2.1.length:Int)) (v33 ((),true,())) (ah (p14 v1 (v5.1.1,())) (λ(v34:T7)=>v33 ((),!(decide ((v6.1.1.length:Int)=v34.1.1)),()))))))))
end
noncomputable section
def p21(v1:Nat)(v2:(U9×Int×U5×Unit)):T15:=aq (λ(v3:T5)=>bif v3.2.1 then some ((-1,()),())else aC (λ(v4:T4)=>λv5=>Ld v2.1.2.1 v2.2.1 λv6=>Bd (v4.2.1<(v6.length:Int)) (Ld v2.1.2.1 v2.2.1 λv7=>Ld v7 v4.2.1 λv8=>bif bif v8.1 == v2.2.2.1.1 then decide (v8.2=v2.2.2.1.2)else false then Ld v2.1.2.2 v2.2.1 λv9=>Ld v9 v4.2.1 λv10=>some ((v10,()),())else v5 ((),Wi (v4.2.1+1),())) (some ((-1,()),()))) v1 ((),0,())) (λv11=>Bd (v2.2.1<0) (v11 ((),true,())) (v11 ((),decide ((v2.1.2.1.length:Int)<=v2.2.1),())))
def F21(n:Nat):Fb 21:=fb n [] [] [] [⟨_,Hx⟩] Tryz.func21 Tryz.results21 Tryz.ntmps21 (.seq (rn_ [3,5]) (.seq (.seq (rs_ ⟨[],[.val 16 y4],[1,3,5]⟩ []) .nop) (.seq (sn_ (bk_ ⟨[],[.val 7 y2],[1,3,5]⟩ .nop)) .nop))) [(y37,.ro),(y2,.ro),(y62,.ro)] A21 [] [] (p21 n)
def HH(v1:Nat)(v2:uN):T28:=aC (λ(v3:T4)=>λv4=>Bd (v3.2.1<(v2.1.2.2.2.1.length:Int)) (aC (λ(v5:T4)=>λv6=>Ld v2.1.2.2.2.1 v3.2.1 λv7=>Bd (v5.2.1<(v7.2.length:Int)) (Ld v2.1.2.2.2.1 v3.2.1 λv8=>Ld v8.2 v5.2.1 λv9=>Bd (v9=v2.2.1) (Ld v2.1.2.2.2.1 v3.2.1 λv10=>some ((Wi (v3.2.1+1),v10.1,()),())) (v6 ((),Wi (v5.2.1+1),()))) (v4 ((),Wi (v3.2.1+1),()))) v1 ((),0,())) (some ((0,0,()),()))) v1 ((),0,())
def F107(n:Nat):Fb 107:=fb n [] [] [] [] Tryz.func107 Tryz.results107 Tryz.ntmps107 (.seq (rn_ [2]) (.seq (sn_ (bk_ ⟨[],[.val 6 y2],[1,2]⟩ (sn_ (.seq (.block none (sn_ (bk_ ⟨[],[.val 7 y2],[1,2,6]⟩ .nop))) .nop)))) .nop)) A12 A14 [] [] (HH n)
def p84(v1:Nat)(v2:uN):T28:=aq (λ(v3:T5)=>bif v3.2.1 then some ((0,0,()),())else Ld v2.1.2.2.1 v2.2.1 λv4=>Bd (0<=v4.2.2.2.2.1) (ah (HH v1 (v2.1,v4.2.2.2.2.1,())) (λ(v5:T13)=>some ((v5.1.1,v5.1.2.1,()),()))) (aC (λ(v6:T19)=>λv7=>Bd (v6.2.2.2.1<(v4.2.2.1.length:Int)) (aq (λ(v8:T10)=>v7 ((),v8.2.1,v8.2.2.1,Wi (v6.2.2.2.1+1),())) (λv9=>Ld v4.2.2.1 v6.2.2.2.1 λv10=>bif v10.1 then v9 ((),v6.2.1,v6.2.2.1,())else Ld v4.2.2.1 v6.2.2.2.1 λv11=>ah (HH v1 (v2.1,v11.2,())) (λ(v12:T13)=>aq (λ(v13:T10)=>v9 ((),v13.2.1,v13.2.2.1,())) (λv14=>Bd (0<v12.1.1) (v14 ((),v12.1.1,v12.1.2.1,())) (v14 ((),v6.2.1,v6.2.2.1,())))))) (some ((v6.2.1,v6.2.2.1,()),()))) v1 ((),0,0,0,()))) (λv15=>Bd (v2.2.1<0) (v15 ((),true,())) (v15 ((),decide ((v2.1.2.2.1.length:Int)<=v2.2.1),())))
def F84(n:Nat):Fb 84:=fb n [⟨_,F107 n⟩] [] [] [] Tryz.func84 Tryz.results84 Tryz.ntmps84 (.seq (rn_ [2]) (.seq (.seq (rs_ ⟨[],[.val 20 y4],[1,2]⟩ []) .nop) (.seq (rn_ [6]) (sn_ (sn_ (.seq (sn_ (bk_ ⟨[],[.val 7 y2,.val 8 y2,.val 9 y2],[2,6]⟩ (sn_ (.seq (.block (some ⟨[],[.val 7 y2,.val 8 y2],[2,6,9]⟩) (sn_ (sn_ (sn_ (cs_ ⟨[],[.val 7 y2,.val 8 y2],[2,6,9]⟩ .nop .nop))))) .nop)))) .nop)))))) A12 A14 [] [] (p84 n)
def p55(v1:Nat)(v2:RJ):T15:=ah (p84 v1 (v2.1,v2.2.1,())) (λ(v3:T13)=>ah (HH v1 (v2.1,v2.2.2.1,())) (λ(v4:T13)=>aq (λ(v5:T5)=>bif v5.2.1 then some ((3,()),())else bif !(decide (v3.1.1=v4.1.1))then Bd (v4.1.1<v3.1.1) (some ((1,()),())) (some ((0,()),()))else Bd (v4.1.2.1=1) (some ((1,()),())) (Bd (v4.1.2.1=2) (some ((0,()),())) (some ((2,()),())))) (λv6=>Bd (v3.1.1=0) (v6 ((),true,())) (v6 ((),decide (v4.1.1=0),())))))
def F55(n:Nat):Fb 55:=fb n [⟨_,F84 n⟩,⟨_,F107 n⟩] [] [] [] Tryz.func55 Tryz.results55 Tryz.ntmps55 (.seq (rn_ [3]) (sn_ (sn_ (.seq (.seq (rs_ ⟨[],[.val 28 y4],[7,9,10]⟩ []) .nop) .nop)))) A2 A21 [] [] (p55 n)
def p19(v1:Nat)(v2:(U1×U9×Int×Unit)):T98:=if 0<=(Wi ((v2.1.1.length:Int)+1))/\(Wi ((v2.1.1.length:Int)+1))<=(Wi ((v2.1.1.length:Int)+1))then if(Wi ((v2.1.1.length:Int)+1)).toNat*16<=140737488355328 then aq (λ(v3:T55)=>bif v3.2.1 then some ((v3.1.1,([]:List U4),()),())else aC (λ(v4:T52)=>λv5=>Bd (v4.2.1<(v2.1.1.length:Int)) (ah (p21 v1 (v2.2.1,v2.2.2.1,(false,v4.2.1),())) (λ(v6:T7)=>aq (λ(v7:T39)=>v5 ((v7.1.1,()),Wi (v4.2.1+1),())) (λv8=>Bd (0<=v6.1.1) (Ld v4.1.1 v4.2.1 λv9=>Ld v4.1.1 v4.2.1 λv10=>v8 ((List.set v4.1.1 (v4.2.1).toNat (1,v6.1.1),()),())) (v8 ((v4.1.1,()),()))))) (aC (λ(v11:T96)=>λv12=>Ld v2.2.1.1 v2.2.2.1 λv13=>Bd (v11.2.2.1<(v13.length:Int)) (aq (λ(v14:T91)=>v12 ((v14.1.1,()),v14.2.1,Wi (v11.2.2.1+1),())) (λv15=>Ld v2.2.1.1 v2.2.2.1 λv16=>Ld v16 v11.2.2.1 λv17=>ah (p53 v1 (v2.1,v17.1,())) (λ(v18:T57)=>bif !(decide (v17.2.1=(v18.1.1.length:Int)))then v15 ((v11.1.1,()),v11.2.1,())else aC (λ(v19:T96)=>λv20=>Bd (v19.2.2.1<=63) (aq (λ(v21:T91)=>v20 ((v21.1.1,()),v21.2.1,Wi (v19.2.2.1+1),())) (λv22=>aq (λ(v23:T97)=>ah (p54 v1 (v17.2.2,v19.2.2.1,())) (λ(v24:T9)=>bif !v24.1.1 then v22 ((v23.1.2.1,()),v23.1.1,())else aq (λ(v25:UJ)=>Ld v25.1.2.2.1 v23.2.1 λv26=>Ld v25.1.2.2.1 v23.2.1 λv27=>Bd (v27.1=0) (Ld v25.1.2.2.1 v23.2.1 λv28=>Ld v25.1.2.2.1 v23.2.1 λv29=>v22 ((List.set v25.1.2.2.1 (v23.2.1).toNat v25.1.2.1,()),v25.1.1,())) (Ld v25.1.2.2.1 v23.2.1 λv30=>aq (λ(v31:RI)=>Ap 48 (List.length v31.1.1+List.length ([v31.1.2.1]:List U4)) (v22 ((v31.1.2.2.1,()),v31.1.1++([v31.1.2.1]:List U4),()))) (λv32=>Bd (1<v30.1) (Ld v25.1.2.2.1 v23.2.1 λv33=>v32 ((v25.1.1,(v2.2.2.1,v23.2.1,v33.2,v17.1,v26.1,true),v25.1.2.2.1,()),())) (ah (p55 v1 (v2.1,v17.1,v23.2.1,())) (λ(v34:T7)=>aq (λ(v35:RI)=>aq (λ(v36:RI)=>v32 ((v36.1.1,v36.1.2.1,v36.1.2.2.1,()),())) (λv37=>Bd (v34.1.1=2) (Ld v35.1.2.2.1 v23.2.1 λv38=>Ld v35.1.2.2.1 v23.2.1 λv39=>v37 ((v35.1.1,(v35.1.2.1.1,v35.1.2.1.2.1,v35.1.2.1.2.2.1,v35.1.2.1.2.2.2.1,0,v35.1.2.1.2.2.2.2.2),List.set v35.1.2.2.1 (v23.2.1).toNat (0,0),()),())) (v37 ((v35.1.1,v35.1.2.1,v35.1.2.2.1,()),())))) (λv40=>Bd (v34.1.1=1) (Ld v25.1.2.2.1 v23.2.1 λv41=>Ld v25.1.2.2.1 v23.2.1 λv42=>v40 ((v25.1.1,(v2.2.2.1,v23.2.1,v17.1,-1,2,decide (v34.1.1=3)),List.set v25.1.2.2.1 (v23.2.1).toNat v25.1.2.1,()),())) (v40 ((v25.1.1,(v2.2.2.1,v23.2.1,v17.1,-1,v26.1,decide (v34.1.1=3)),v25.1.2.2.1,()),())))))))) (λv43=>Bd (v17.1=(v2.1.2.2.1.length:Int)) (v43 ((v23.1.1,(3,v17.1),v23.1.2.1,()),())) (v43 ((v23.1.1,(2,v17.1),v23.1.2.1,()),()))))) (λv44=>Bd (v19.2.2.1=63) (v44 ((v19.2.1,v19.1.1,()),(v2.1.1.length:Int),())) (Bd ((v2.1.1.length:Int)<=v19.2.2.1) (v22 ((v19.1.1,()),v19.2.1,())) (v44 ((v19.2.1,v19.1.1,()),v19.2.2.1,())))))) (v15 ((v19.1.1,()),v19.2.1,()))) v1 ((v11.1.1,()),v11.2.1,0,())))) (some ((v11.1.1,v11.2.1,()),()))) v1 ((v4.1.1,()),([]:List U4),0,()))) v1 ((v3.1.1,()),0,())) (λv45=>Bd (v2.2.2.1<0) (v45 ((List.replicate (Wi ((v2.1.1.length:Int)+1)).toNat (0,0),()),true,())) (v45 ((List.replicate (Wi ((v2.1.1.length:Int)+1)).toNat (0,0),()),decide ((v2.2.1.1.length:Int)<=v2.2.2.1),())))else none else none
def F19(n:Nat):Fb 19:=fb n [⟨_,F21 n⟩,⟨_,F53 n⟩,⟨_,F54 n⟩,⟨_,F55 n⟩] [77] [] [] Tryz.func19 Tryz.results19 Tryz.ntmps19 (.seq (rn_ [3,4]) (sn_ (sn_ (.seq (.seq (rs_ ⟨C7,[.val 34 y4],[2,3,4,8,9]⟩ []) .nop) (.seq (sn_ (bk_ ⟨C7,[.val 10 y2],[2,3,4,8,9]⟩ (sn_ (.seq (.block none (sn_ (sn_ (cs_ ⟨C7,[],[2,3,4,8,9,10]⟩ .nop .nop)))) .nop)))) (.seq (sn_ (bk_ ⟨C7,[.hdr 9 79 y22 mo_,.val 12 y2],[2,3,4,8]⟩ (sn_ (.seq (.block (some ⟨C7,[.hdr 9 79 y22 mo_],[2,3,4,8,12]⟩) (.seq (rn_ [13]) (sn_ (sn_ (sn_ (bk_ ⟨C7,[.hdr 9 79 y22 mo_,.val 16 y2],[2,3,4,8,12,13]⟩ (sn_ (.seq (.block (some ⟨C7,[.hdr 9 79 y22 mo_],[2,3,4,8,12,13,16]⟩) (sn_ (.seq (sn_ (cs_ ⟨[(79,y22,mo_),(200,pA,.own Q1_)],[.val 17 y2],[2,3,4,8,9,12,13,16]⟩ .nop .nop)) (sn_ (sn_ (.seq (sn_ (cs_ ⟨[(79,y22,mo_),(144,.box y57,.own Q1_),(200,pA,.own Q1_)],[],[2,3,4,8,9,12,13,16,17,18]⟩ .nop .nop)) (.seq (rn_ [18]) (.seq (.block none (sn_ (.cond none .nop (sn_ (cs_ ⟨Q6_,[],[2,3,4,8,9,12,13,16,19]⟩ .nop (sn_ (sn_ (.seq (sn_ (cs_ ⟨Q6_,[],[2,3,4,8,9,12,13,16,17,19,20]⟩ .nop .nop)) (sn_ (cs_ ⟨Q6_,[],[2,3,4,8,9,12,13,16,19]⟩ .nop .nop)))))))))) (.rgf none [19] []))))))))) .nop)))))))) .nop)))) .nop)))))) [(y32,.ro),(y37,.ro),(y2,.ro)] [(pA,.ro),(y22,.ro)] [] [] (p19 n)
def p5(v1:Nat)(v2:o4):T17:=ah (p17 v1 ()) (λ(v3:T9)=>bif !v3.1.1 then some ((false,()),())else ah (p11 v1 (v2.1,())) (λ(v4:RH)=>bif !v4.1.2.1 then some ((true,()),())else ah (p18 v1 (v2.1,())) (λ(v5:UN)=>aC (λ(v6:(Unit×Bool×Int×Int×Unit))=>λv7=>Bd (v6.2.2.2.1<(v4.1.1.1.length:Int)) (aq (λ(v8:T12)=>v7 ((),v8.2.1,v8.2.2.1,Wi (v6.2.2.2.1+1),())) (λv9=>ah (p19 v1 (v2.1,v4.1.1,v6.2.2.2.1,())) (λ(v10:T92)=>aC (λ(v11:T12)=>λv12=>Bd (v11.2.2.1<(v10.1.2.1.length:Int)) (aq (λ(v13:T5)=>v12 ((),v13.2.1,Wi (v11.2.2.1+1),())) (λv14=>bif v11.2.1 then v14 ((),true,())else Ld v10.1.2.1 v11.2.2.1 λv15=>v14 ((),v15.2.2.2.2.2,()))) (bif !(decide (v5.1.2.2.1=0))then v9 ((),v11.2.1,Wi (v6.2.2.1+(v10.1.2.1.length:Int)),())else aq (λ(v16:T5)=>bif v16.2.1 then some ((false,()),())else aC (λ(v17:T4)=>λv18=>Bd (v17.2.1<(v10.1.1.length:Int)) (aq (λ(v19:T5)=>bif v19.2.1 then some ((false,()),())else v18 ((),Wi (v17.2.1+1),())) (λv20=>Ld v5.1.1.1 v6.2.2.2.1 λv21=>Ld v21 v17.2.1 λv22=>Ld v10.1.1 v17.2.1 λv23=>bif !(decide (v22.1=v23.1))then v20 ((),true,())else Ld v5.1.1.1 v6.2.2.2.1 λv24=>Ld v24 v17.2.1 λv25=>Ld v10.1.1 v17.2.1 λv26=>v20 ((),!(decide (v25.2=v26.2)),()))) (aC (λ(v27:T4)=>λv28=>Bd (v27.2.1<(v2.1.2.1.length:Int)) (Ld v5.1.1.2.1 v6.2.2.2.1 λv29=>Ld v29 v27.2.1 λv30=>ah (p21 v1 (v4.1.1,v6.2.2.2.1,(true,v27.2.1),())) (λ(v31:T7)=>bif !(decide (v30=v31.1.1))then some ((false,()),())else v28 ((),Wi (v27.2.1+1),()))) (v9 ((),v11.2.1,Wi (v6.2.2.1+(v10.1.2.1.length:Int)),()))) v1 ((),0,()))) v1 ((),0,())) (λv32=>ah (p20 v1 (v5.1.1,())) (λ(v33:T7)=>bif !(decide (v33.1.1=(v4.1.1.1.length:Int)))then v32 ((),true,())else bif !(decide ((v5.1.1.1.length:Int)=(v4.1.1.1.length:Int)))then v32 ((),true,())else bif !(decide ((v5.1.1.2.1.length:Int)=(v4.1.1.1.length:Int)))then v32 ((),true,())else Ld v5.1.1.1 v6.2.2.2.1 λv34=>bif !(decide ((v34.length:Int)=(v10.1.1.length:Int)))then v32 ((),true,())else Ld v5.1.1.2.1 v6.2.2.2.1 λv35=>v32 ((),!(decide ((v35.length:Int)=(v2.1.2.1.length:Int))),()))))) v1 ((),v6.2.1,0,())))) (bif v6.2.1 then aq (λ(v36:T5)=>some ((v36.2.1,()),())) (λv37=>Bd (v5.1.2.2.1=18) (Bd ((v5.1.2.1.length:Int)=v6.2.2.1) (ah (p20 v1 (v5.1.1,())) (λ(v38:T7)=>v37 ((),decide (v38.1.1=0),()))) (v37 ((),false,()))) (v37 ((),false,())))else aq (λ(v39:T5)=>bif v39.2.1 then some ((false,()),())else aC (λ(v40:T4)=>λv41=>Bd (v40.2.1<(v2.1.2.2.1.length:Int)) (aq (λ(v42:T5)=>bif v42.2.1 then some ((false,()),())else v41 ((),Wi (v40.2.1+1),())) (λv43=>Ld v5.1.1.2.2.1 v40.2.1 λv44=>Ld v2.1.2.2.1 v40.2.1 λv45=>bif !(decide (v44=v45.1))then v43 ((),true,())else Ld v5.1.1.2.2.2 v40.2.1 λv46=>Ld v2.1.2.2.1 v40.2.1 λv47=>v43 ((),!(decide (v46=(v47.2.2.1.length:Int))),()))) (some ((true,()),()))) v1 ((),0,())) (λv48=>bif !(decide (v5.1.2.2.1=0))then v48 ((),true,())else bif !(decide ((v5.1.2.1.length:Int)=v6.2.2.1))then v48 ((),true,())else bif !(decide ((v5.1.1.2.2.1.length:Int)=(v2.1.2.2.1.length:Int)))then v48 ((),true,())else bif !(decide ((v5.1.1.2.2.2.length:Int)=(v2.1.2.2.1.length:Int)))then v48 ((),true,())else ah (p22 v1 (v5.1.1,(v2.1.1.length:Int),(v2.1.2.1.length:Int),())) (λ(v49:T7)=>v48 ((),!(decide (v49.1.1=0)),()))))) v1 ((),false,0,0,()))))
def F5(n:Nat):Fb 5:=fb n [⟨_,F17 n⟩,⟨_,F11 n⟩,⟨_,F18 n⟩,⟨_,F19 n⟩,⟨_,F20 n⟩,⟨_,F21 n⟩,⟨_,F22 n⟩] [21,28,43] [] [] Tryz.func5 Tryz.results5 Tryz.ntmps5 (.seq (rn_ [1]) (sn_ (.seq (rn_ [3]) (sn_ (.seq (rn_ [5]) (sn_ (.seq (sn_ (bk_ ⟨[],[.val 8 y4,.val 9 y2,.val 10 y2],[1,3,5,6,7]⟩ (sn_ (.seq (.block (some ⟨[],[.val 8 y4,.val 9 y2],[1,3,5,6,7,10]⟩) (sn_ (.seq (sn_ (bk_ ⟨[],[.val 8 y4,.val 13 y2],[1,3,5,6,7,9,10,11,12]⟩ (sn_ (.seq (.block none (rs_ ⟨[],[.val 8 y4],[1,3,5,6,7,9,10,11,12,13]⟩ [])) .nop)))) (sn_ (sn_ (.seq (.seq (rs_ ⟨[],[.val 112 y4],[1,3,5,6,7,8,9,10,11]⟩ []) .nop) (.seq (sn_ (bk_ ⟨[],[.val 14 y2],[1,3,5,6,7,8,9,10,11]⟩ (sn_ (.seq (.block none (.seq (rs_ ⟨[],[.val 150 y4],[1,3,5,6,7,8,9,10,11,14]⟩ []) .nop)) .nop)))) (sn_ (bk_ ⟨[],[.val 15 y2],[1,3,5,6,7,8,9,10]⟩ .nop))))))))) .nop)))) (.seq (sn_ (.cond none (.seq (rs_ ⟨[],[.val 2 y4],[]⟩ []) .nop) .nop)) (.seq (.seq (rs_ ⟨[],[.val 222 y4],[1,5]⟩ []) .nop) (.seq (sn_ (bk_ ⟨[],[.val 16 y2],[1,5]⟩ (sn_ (.seq (.block none (.seq (rs_ ⟨[],[.val 256 y4],[1,5,16]⟩ []) .nop)) .nop)))) .nop)))))))))) A18 A20 [] [] (p5 n)
abbrev ok5(n:Nat):=(F5 n).o
end
noncomputable section
theorem dP{A R:Type}(body:A->(A->Option R)->Option R)(n:Nat)(x:A):aC body (n+1) x=body x (aC body n):=rfl
theorem a8{A R:Type}{body:A->(A->Option R)->Option R}(f:Nat->A)(spec:Nat->Option R)(len:Nat)
 (step:∀ j,j<=len->∀ k,(j<len->k (f (j+1))=spec (j+1))->body (f j) k=spec j):∀ n j,j<=len->len-j<n->aC body n (f j)=spec j:=by
 intro n
 induction n with
 |zero=>intro j _ h;omega
 |succ n ih=>grind [dP]
theorem eo{α A R:Type}{body:A->(A->Option R)->Option R}(l:List α)(ok:α->Bool)(bad after:Option R)(f:Nat->A)
 (step:∀ j,(h:j<l.length)->∀ k,body (f j) k=if ok l[j]=true then k (f (j+1))else bad) (fin:∀ k,body (f l.length) k=after) (n:Nat) (hn:l.length<n):aC body n (f 0)=if l.all ok=true then after else bad:=by
 have:=a8 (body:=body) f (λj=>if(l.drop j).all ok=true then after else bad) l.length (λj hj k hk=>by
  rcases aj j l.length with hi|hi
  ·grind [List.drop_eq_getElem_cons]
  ·have e:j=l.length:=by omega
   rw[e,fin];simp) n 0 (az _) (by omega)
 simp_all
theorem HI{A R:Type}{body:A->(A->Option R)->Option R}(f:Nat->A)(spec:Nat->Option R)(len:Nat)
 (step:∀ j,j<=len->∀ k,(∀ i,j=i+1->k (f i)=spec i)->body (f j) k=spec j):∀ n j,j<=len->j<n->aC body n (f j)=spec j:=by
 intro n
 induction n with
 |zero=>intro j _ h;omega
 |succ n ih=>grind [dP]
theorem aZ{A R:Type}{body:A->(A->Option R)->Option R}(I:Nat->A->Option R->Prop)
 (step:∀ m x r,I m x r->∀ k,(∀ m' y r',m' < m->I m' y r'->k y=r')->body x k=r):∀ n m x r,m<n->I m x r->aC body n x=r:=by
 intro n
 induction n with
 |zero=>intro m x r h;omega
 |succ n ih=>grind [dP]
def N0:Nat:=18446744073709551616
theorem gd{n:Nat}(h:n<=maxLen):n+1<N0:=by unfold maxLen at h;unfold N0;omega
theorem bp{n:Int}(h1:-9223372036854775808<=n)(h2:n<=9223372036854775807):IntKind.wrap .i64 n=n:=jJ ⟨h1,h2⟩
theorem aX{j n:Nat}(h:j<n)(hn:n<=maxLen):IntKind.wrap .i64 ((j:Int)+1)=((j+1:Nat):Int):=by grind [maxLen,bp]
@[simp] theorem aE {A R:Type} (J:A->Option R) (body:(A->Option R)->Option R):aq J body=body J:=rfl
@[simp] theorem aD {A R:Type} (a:A) (k:A->Option R):ah (some a) k=k a:=rfl
theorem ae{A R:Type}{o:Option A}{a:A}(h:o=some a)(k:A->Option R):ah o k=k a:=by rw[h];rfl
theorem bx{α:Type}(c:Bool)(a b:α):(bif c then a else b)=if c=true then a else b:=by cases c <;> rfl
end
noncomputable section
theorem yz:∀ (n:Nat) (l:List Nat),l.Nodup->(∀ x∈l,x<n)->l.length<=n:=by
 intro n
 induction n with
 |zero=>
  intro l _ h
  cases l with
  |nil=>simp
  |cons x xs=>have:=h x (by simp);omega
 |succ n ih=>
  intro l hn h
  by_cases hm:n∈l
  ·have h1:(l.erase n).length<=n:=by grind
   simp_all
  grind
theorem rU{α:Type}(R:α->Nat->Prop)(hf:∀ x y c,R x c->R y c->x=y)(n:Nat)(l:List α)(hn:l.Nodup)(h:∀ x∈l,∃ c,c<n/\R x c):l.length<=n:=by
 have key:∀ l:List α,l.Nodup->(∀ x∈l,∃ c,c<n/\R x c)->∃ cs:List Nat,cs.length=l.length/\cs.Nodup/\∀ c∈cs,c<n/\∃ x∈l,R x c:=by
  intro l
  induction l with
  |nil=>intro _ _;exact⟨[],rfl,List.nodup_nil,λc hc=>by simp at hc⟩
  |cons x xs ih=>
   intro hn h
   obtain⟨h1,h2⟩:=oh.1 hn
   obtain⟨cs,e1,e2,e3⟩:=ih h2 (λy hy=>h y (by simp[hy]))
   obtain⟨c,hc,hr⟩:=h x (by simp)
   refine⟨c::cs,by simp[e1],oh.2 ⟨λhm=>?_,e2⟩,λd hd=>?_⟩
   all_goals grind
 obtain⟨cs,e1,e2,e3⟩:=key l hn h
 rw[<-e1]
 exact yz n cs e2 (λc hc=>(e3 c hc).1)
def dC:List Bool->Nat
 |[]=>0
 |b::r=>(if b then 1 else 0)+2*dC r
theorem lp:∀ (l:List Bool),dC l<2 ^ l.length:=by
 intro l
 induction l with
 |nil=>simp[dC]
 |cons b r ih=>grind [dC]
theorem oI:∀ (l m:List Bool),l.length=m.length->dC l=dC m->l=m:=by
 intro l
 induction l with
 |nil=>intro m hl _;cases m with
  |nil=>rfl
  |cons _ _=>simp at hl
 |cons b r ih=>
  intro m hl h
  cases m with
  |nil=>simp at hl
  |cons c s=>grind [dC]
end
noncomputable section
inductive Rx where
 |eps
 |set (S:List Int)
 |cat (a b:Rx)
 |alt (a b:Rx)
 |rep (k:Int) (a:Rx)
abbrev Pc:=Int×List Int
def zS:List Int:=[0,0,0,0]
def Rx.post:Rx->List Pc
 |.eps=>[(0,zS)]
 |.set S=>[(1,S)]
 |.cat a b=>a.post++b.post++[(2,zS)]
 |.alt a b=>a.post++b.post++[(3,zS)]
 |.rep k a=>a.post++[(k,zS)]
def Rx.len:Rx->Nat
 |.eps=>1
 |.set _=>1
 |.cat a b=>a.len+b.len+1
 |.alt a b=>a.len+b.len+1
 |.rep _ a=>a.len+1
def Rx.null:Rx->Bool
 |.eps=>true
 |.set _=>false
 |.cat a b=>a.null&&b.null
 |.alt a b=>a.null||b.null
 |.rep k a=>!decide (k=5)||a.null
def Rx.ok:Rx->Prop
 |.eps=>True
 |.set S=>S.length=4/\S≠zS/\∀ x∈S,0<=x/\x<=18446744073709551615
 |.cat a b=>a.ok/\b.ok
 |.alt a b=>a.ok/\b.ok
 |.rep k a=>(k=4\/k=5\/k=6)/\a.ok
theorem Rx.bL:∀ t:Rx,0<t.len:=by intro t;cases t <;> simp[Rx.len]
theorem Rx.aS:∀ t:Rx,t.post.length=t.len:=by
 intro t
 induction t with
 |eps=>rfl
 |set S=>rfl
 |cat a b iha ihb=>simp[Rx.post,Rx.len,iha,ihb];omega
 |alt a b iha ihb=>simp[Rx.post,Rx.len,iha,ihb];omega
 |rep k a ih=>simp[Rx.post,Rx.len,ih]
abbrev Ed:=Nat×Nat×List Int×Bool
def fE(p q:Nat):Ed:=(p,q,zS,true)
def Rx.fst(t:Rx)(n:Nat):Nat:=n+2*t.len-2
def Rx.lst(t:Rx)(n:Nat):Nat:=n+2*t.len-1
def Rx.aA:Rx->Nat->List Ed
 |.eps,n=>[fE n (n+1)]
 |.set S,n=>[(n,n+1,S,false)]
 |.cat a b,n=>a.aA n++b.aA (n+2*a.len)++[fE (n+2*(a.len+b.len)) (a.fst n),fE (a.lst n) (b.fst (n+2*a.len)),fE (b.lst (n+2*a.len)) (n+2*(a.len+b.len)+1)]
 |.alt a b,n=>a.aA n++b.aA (n+2*a.len)++[fE (n+2*(a.len+b.len)) (a.fst n),fE (a.lst n) (n+2*(a.len+b.len)+1),fE (n+2*(a.len+b.len)) (b.fst (n+2*a.len)),fE (b.lst (n+2*a.len)) (n+2*(a.len+b.len)+1)]
 |.rep k a,n=>a.aA n++[fE (n+2*a.len) (a.fst n),fE (a.lst n) (n+2*a.len+1)]++(if k=6 then []else [fE (a.lst n) (a.fst n)])++(if k=5 then []else [fE (n+2*a.len) (n+2*a.len+1)])
theorem Rx.dF:∀ (t:Rx) (n:Nat),∀ e∈t.aA n,n<=e.1/\e.1<n+2*t.len/\n<=e.2.1/\e.2.1<n+2*t.len:=by
 intro t
 induction t with
 |eps=>intro n e he;simp[Rx.aA,fE]at he;subst he;simp[Rx.len]
 |set S=>intro n e he;simp[Rx.aA]at he;subst he;simp[Rx.len]
 |cat a b iha ihb=>
  intro n e he
  have ha:=a.bL
  have hb:=b.bL
  simp only[Rx.aA,au,aI,bU,or_false]at he
  simp only[Rx.len]
  rcases he with(he|he)|he|he|he
  ·grind
  ·grind
  all_goals (subst he;simp only[fE,Rx.fst,Rx.lst];omega)
 |alt a b iha ihb=>
  intro n e he
  have ha:=a.bL
  have hb:=b.bL
  simp only[Rx.aA,au,aI,bU,or_false]at he
  simp only[Rx.len]
  rcases he with(he|he)|he|he|he|he
  ·have:=iha n e he;omega
  ·have:=ihb _ e he;omega
  all_goals (subst he;simp only[fE,Rx.fst,Rx.lst];omega)
 |rep k a ih=>
  intro n e he
  have ha:=a.bL
  simp only[Rx.aA,au,aI,bU,or_false]at he
  simp only[Rx.len]
  rcases he with((he|he|he)|he)|he
  ·have:=ih n e he;omega
  ·subst he;simp only[fE,Rx.fst,Rx.lst];omega
  ·subst he;simp only[fE,Rx.fst,Rx.lst];omega
  ·split at he
   ·simp at he
   ·simp only[aK]at he;subst he;simp only[fE,Rx.fst,Rx.lst];omega
  ·split at he
   ·simp at he
   ·simp only[aK]at he;subst he;simp only[fE,Rx.fst,Rx.lst];omega
def Rx.cl:Rx->Nat->Nat->Bool
 |.eps,n,q=>decide (q=n)||decide (q=n+1)
 |.set _,n,q=>decide (q=n)
 |.cat a b,n,q=>decide (q=n+2*(a.len+b.len))||a.cl n q||(a.null&&b.cl (n+2*a.len) q)||(a.null&&b.null&&decide (q=n+2*(a.len+b.len)+1))
 |.alt a b,n,q=>decide (q=n+2*(a.len+b.len))||a.cl n q||b.cl (n+2*a.len) q||((a.null||b.null)&&decide (q=n+2*(a.len+b.len)+1))
 |.rep k a,n,q=>decide (q=n+2*a.len)||a.cl n q||((!decide (k=5)||a.null)&&decide (q=n+2*a.len+1))
theorem Rx.sX:∀ (t:Rx) (n q:Nat),t.cl n q=true->n<=q/\q<n+2*t.len:=by
 intro t
 induction t with
 |eps=>intro n q h;simp only[Rx.cl,aJ,decide_eq_true_eq]at h;simp only[Rx.len];omega
 |set S=>intro n q h;simp only[Rx.cl,decide_eq_true_eq]at h;simp only[Rx.len];omega
 |cat a b iha ihb=>
  intro n q h
  simp only[Rx.cl,aJ,ag,decide_eq_true_eq]at h
  grind [Rx.len]
 |alt a b iha ihb=>
  intro n q h
  simp only[Rx.cl,aJ,ag,decide_eq_true_eq]at h
  grind [Rx.len]
 |rep k a ih=>
  intro n q h
  simp only[Rx.cl,aJ,ag,decide_eq_true_eq]at h
  grind [Rx.len]
theorem Rx.uS(t:Rx){n q:Nat}(h:q<n\/n+2*t.len<=q):t.cl n q=false:=by
 cases hc:t.cl n q
 ·rfl
 ·have:=t.sX n q hc;omega
theorem Rx.nB:∀ (t:Rx) (n:Nat),t.cl n (t.fst n)=true:=by
 intro t n
 have:=t.bL
 cases t with
 |eps=>simp[Rx.cl,Rx.fst,Rx.len]
 |set S=>simp[Rx.cl,Rx.fst,Rx.len]
 |cat a b=>grind [Rx.fst,Rx.len,Rx.cl]
 |alt a b=>grind [Rx.fst,Rx.len,Rx.cl]
 |rep k a=>grind [Rx.fst,Rx.len,Rx.cl]
theorem Rx.rV:∀ (t:Rx) (n:Nat),t.cl n (t.lst n)=t.null:=by
 intro t n
 have:=t.bL
 cases t with
 |eps=>simp[Rx.cl,Rx.lst,Rx.len,Rx.null]
 |set S=>simp[Rx.cl,Rx.lst,Rx.len,Rx.null]
 |cat a b=>
  have e:(Rx.cat a b).lst n=n+2*(a.len+b.len)+1:=by simp only[Rx.lst,Rx.len];omega
  rw[e]
  simp only[Rx.cl,a.uS (n:=n) (q:=n+2*(a.len+b.len)+1) (by omega),b.uS (n:=n+2*a.len) (q:=n+2*(a.len+b.len)+1) (by omega),Rx.null]
  simp
 |alt a b=>
  have e:(Rx.alt a b).lst n=n+2*(a.len+b.len)+1:=by simp only[Rx.lst,Rx.len];omega
  rw[e]
  simp only[Rx.cl,a.uS (n:=n) (q:=n+2*(a.len+b.len)+1) (by omega),b.uS (n:=n+2*a.len) (q:=n+2*(a.len+b.len)+1) (by omega),Rx.null]
  simp
 |rep k a=>
  have e:(Rx.rep k a).lst n=n+2*a.len+1:=by simp only[Rx.lst,Rx.len];omega
  rw[e]
  simp only[Rx.cl,a.uS (n:=n) (q:=n+2*a.len+1) (by omega),Rx.null]
  simp
theorem Rx.pB(t:Rx)(n:Nat):n<=t.fst n/\t.fst n<n+2*t.len:=by have:=t.bL;simp only[Rx.fst];omega
theorem Rx.kC(t:Rx)(n:Nat):n<=t.lst n/\t.lst n<n+2*t.len:=by have:=t.bL;simp only[Rx.lst];omega
theorem Rx.EH:∀ (t:Rx) (n:Nat),∀ e∈t.aA n,e.2.2.2=true->t.cl n e.1=true->t.cl n e.2.1=true:=by
 intro t
 induction t with
 |eps=>intro n e he _ h;simp[Rx.aA,fE]at he;subst he;simp[Rx.cl]
 |set S=>intro n e he hf h;simp[Rx.aA]at he;subst he;cases hf
 |cat a b iha ihb=>
  intro n e he hf h
  have ha:=a.bL
  have hb:=b.bL
  simp only[Rx.aA,au,aI,bU,or_false]at he
  simp only[Rx.cl,aJ,ag,decide_eq_true_eq]at h |-
  rcases he with(he|he)|he|he|he
  ·have hr:=a.dF n e he
   have:a.cl n e.1=true:=by
    rcases h with((h|h)|h)|h
    ·omega
    ·exact h
    ·have:=b.sX _ _ h.2;omega
    ·omega
   grind
  ·have hr:=b.dF _ e he
   have:a.null=true/\b.cl (n+2*a.len) e.1=true:=by
    rcases h with((h|h)|h)|h
    ·omega
    ·have:=a.sX _ _ h;omega
    all_goals omega
   grind
  ·subst he;exact .inl (.inl (.inr (a.nB n)))
  ·subst he
   simp only[fE]at h |-
   have hi:=a.kC n
   have:a.null=true:=by
    rcases h with((h|h)|h)|h
    ·omega
    ·rw[a.rV]at h;exact h
    all_goals simp_all
   exact .inl (.inr ⟨this,b.nB _⟩)
  ·subst he
   simp only[fE]at h |-
   have hi:=b.kC (n+2*a.len)
   have:a.null=true/\b.null=true:=by
    rcases h with((h|h)|h)|h
    ·omega
    ·have:=a.sX _ _ h;omega
    ·rw[b.rV]at h;exact h
    ·exact h.1
   simp_all
 |alt a b iha ihb=>
  intro n e he hf h
  have ha:=a.bL
  have hb:=b.bL
  simp only[Rx.aA,au,aI,bU,or_false]at he
  simp only[Rx.cl,aJ,ag,decide_eq_true_eq]at h |-
  rcases he with(he|he)|he|he|he|he
  ·have hr:=a.dF n e he
   have:a.cl n e.1=true:=by
    rcases h with((h|h)|h)|h
    ·omega
    ·exact h
    ·have:=b.sX _ _ h;omega
    ·omega
   exact .inl (.inl (.inr (iha n e he hf this)))
  ·have hr:=b.dF _ e he
   have:b.cl (n+2*a.len) e.1=true:=by
    rcases h with((h|h)|h)|h
    ·omega
    ·have:=a.sX _ _ h;omega
    ·exact h
    ·omega
   exact .inl (.inr (ihb _ e he hf this))
  ·subst he;exact .inl (.inl (.inr (a.nB n)))
  ·subst he
   simp only[fE]at h |-
   have hi:=a.kC n
   have:a.null=true:=by
    rcases h with((h|h)|h)|h
    ·omega
    ·rw[a.rV]at h;exact h
    ·have:=b.sX _ _ h;omega
    ·omega
   exact .inr ⟨.inl this,trivial⟩
  ·subst he;exact .inl (.inr (b.nB _))
  ·subst he
   simp only[fE]at h |-
   have hi:=b.kC (n+2*a.len)
   have:b.null=true:=by
    rcases h with((h|h)|h)|h
    ·omega
    ·have:=a.sX _ _ h;omega
    ·rw[b.rV]at h;exact h
    ·omega
   exact .inr ⟨.inr this,trivial⟩
 |rep k a ih=>
  intro n e he hf h
  have ha:=a.bL
  simp only[Rx.aA,au,aI,bU,or_false]at he
  simp only[Rx.cl,aJ,ag,bC,decide_eq_true_eq,decide_eq_false_iff_not]at h |-
  have hi:=a.kC n
  have hj:=a.pB n
  rcases he with((he|he|he)|he)|he
  ·have hr:=a.dF n e he
   have:a.cl n e.1=true:=by
    rcases h with(h|h)|h
    ·omega
    ·exact h
    ·omega
   exact .inl (.inr (ih n e he hf this))
  ·subst he;exact .inl (.inr (a.nB n))
  ·subst he
   simp only[fE]at h |-
   have:a.null=true:=by
    rcases h with(h|h)|h
    ·omega
    ·rw[a.rV]at h;exact h
    ·omega
   exact .inr ⟨.inr this,trivial⟩
  ·split at he
   ·simp at he
   ·simp only[aK]at he;subst he;exact .inl (.inr (a.nB n))
  ·split at he
   ·simp at he
   ·rename_i h5
    simp only[aK]at he;subst he
    exact .inr ⟨.inl h5,rfl⟩
inductive Fr0(E:List Ed):Nat->Nat->Prop where
 |refl (p:Nat):Fr0 E p p
 |step {p q r:Nat}:Fr0 E p q->(q,r,zS,true)∈E->Fr0 E p r
theorem Fr0.mono{E E':List Ed}(h:∀ e∈E,e∈E'){p q:Nat}(hp:Fr0 E p q):Fr0 E' p q:=by
 induction hp with
 |refl=>exact .refl _
 |step _ he ih=>exact .step ih (h _ he)
theorem Fr0.trans{E:List Ed}{p q r:Nat}(h1:Fr0 E p q)(h2:Fr0 E q r):Fr0 E p r:=by
 induction h2 with
 |refl=>exact h1
 |step _ he ih=>exact .step ih he
theorem Rx.Kr:∀ (t:Rx) (n:Nat),t.null=true->Fr0 (t.aA n) (t.fst n) (t.lst n):=by
 intro t
 induction t with
 |eps=>
  intro n _
  have e1:Rx.eps.fst n=n:=by simp[Rx.fst,Rx.len]
  have e2:Rx.eps.lst n=n+1:=by simp[Rx.lst,Rx.len]
  rw[e1,e2]
  exact .step (.refl _) (by simp[Rx.aA,fE])
 |set S=>intro n h;cases h
 |cat a b iha ihb=>
  intro n h
  simp only[Rx.null,ag]at h
  have e1:(Rx.cat a b).fst n=n+2*(a.len+b.len):=by simp only[Rx.fst,Rx.len];omega
  have e2:(Rx.cat a b).lst n=n+2*(a.len+b.len)+1:=by simp only[Rx.lst,Rx.len];omega
  rw[e1,e2]
  have w1:Fr0 ((Rx.cat a b).aA n) (n+2*(a.len+b.len)) (a.fst n):=.step (.refl _) (by simp[Rx.aA,fE])
  have w2:=(iha n h.1).mono (E':=(Rx.cat a b).aA n) (λe he=>by simp only[Rx.aA,au];exact .inl (.inl he))
  have w3:=(ihb (n+2*a.len) h.2).mono (E':=(Rx.cat a b).aA n) (λe he=>by simp only[Rx.aA,au];exact .inl (.inr he))
  exact .step ((Fr0.step (w1.trans w2) (by simp[Rx.aA,fE])).trans w3) (by simp[Rx.aA,fE])
 |alt a b iha ihb=>
  intro n h
  simp only[Rx.null,aJ]at h
  have e1:(Rx.alt a b).fst n=n+2*(a.len+b.len):=by simp only[Rx.fst,Rx.len];omega
  have e2:(Rx.alt a b).lst n=n+2*(a.len+b.len)+1:=by simp only[Rx.lst,Rx.len];omega
  rw[e1,e2]
  rcases h with h|h
  ·have w1:Fr0 ((Rx.alt a b).aA n) (n+2*(a.len+b.len)) (a.fst n):=.step (.refl _) (by simp[Rx.aA,fE])
   have w2:=(iha n h).mono (E':=(Rx.alt a b).aA n) (λe he=>by simp only[Rx.aA,au];exact .inl (.inl he))
   exact .step (w1.trans w2) (by simp[Rx.aA,fE])
  ·have w1:Fr0 ((Rx.alt a b).aA n) (n+2*(a.len+b.len)) (b.fst (n+2*a.len)):=.step (.refl _) (by simp[Rx.aA,fE])
   have w2:=(ihb _ h).mono (E':=(Rx.alt a b).aA n) (λe he=>by simp only[Rx.aA,au];exact .inl (.inr he))
   exact .step (w1.trans w2) (by simp[Rx.aA,fE])
 |rep k a ih=>
  intro n h
  have e1:(Rx.rep k a).fst n=n+2*a.len:=by simp only[Rx.fst,Rx.len];omega
  have e2:(Rx.rep k a).lst n=n+2*a.len+1:=by simp only[Rx.lst,Rx.len];omega
  rw[e1,e2]
  by_cases h5:k=5
  ·simp only[Rx.null,h5,decide_true,ay,cP]at h
   have w1:Fr0 ((Rx.rep k a).aA n) (n+2*a.len) (a.fst n):=.step (.refl _) (by simp[Rx.aA,fE])
   have w2:=(ih n h).mono (E':=(Rx.rep k a).aA n) (λe he=>by simp only[Rx.aA,au];exact .inl (.inl (.inl he)))
   exact .step (w1.trans w2) (by simp[Rx.aA,fE])
  ·exact .step (.refl _) (by simp[Rx.aA,fE,h5])
end
noncomputable section
def qj(c:Int):Option Int:=if 48<=c/\c<=57 then some (c-48)else if 97<=c/\c<=102 then some (c-87)else none
def mC(c:Int):Bool:=(decide (48<=c)&&decide (c<=57))||(decide (97<=c)&&decide (c<=122))||(decide (65<=c)&&decide (c<=90))
def rdS:List Int->Option (Int×Nat)
 |[]=>none
 |c::r=>if c≠92 then some (c,1)else match r with
  |[]=>none
  |d::r2=>if d=110 then some (10,2)else if d=116 then some (9,2)else if d=114 then some (13,2)else
   if d=120 then(match r2 with
    |h::l::_=>(match qj h,qj l with
     |some a,some b=>some (16*a+b,4)
     |_,_=>none)
    |_=>none)
   else if mC d=true\/d<32\/126<d then none else some (d,2)
def mD(l:Nat->Bool):Nat->Nat
 |0=>0
 |n+1=>(if l n then 2 ^ n else 0)+mD l n
theorem w6(l:Nat->Bool)(w:Nat):∃ n,n=mD (λi=>l (64*w+i)) 64:=⟨_,rfl⟩
def br(l:Nat->Bool)(w:Nat):Nat:=Classical.choose (w6 l w)
theorem l9(l:Nat->Bool)(w:Nat):br l w=mD (λi=>l (64*w+i)) 64:=Classical.choose_spec (w6 l w)
def ofB(l:Nat->Bool):List Int:=[(br l 0:Nat),(br l 1:Nat),(br l 2:Nat),(br l 3:Nat)]
def rW(c:Int):Nat->Bool:=λi=>decide (c=(i:Int))
def uT(a b:Int):Nat->Bool:=λi=>decide (a<=(i:Int))&&decide ((i:Int)<=b)
def ew(l:Nat->Bool):Bool:=(List.range 256).all λi=>!l i
def ch(s:List Int)(at_:Nat):Int:=(s[at_]?).getD (-1)
def brL(s:List Int):Nat->Nat->(Nat->Bool)->Option ((Nat->Bool)×Nat)
 |0,_,_=>none
 |m+1,i,l=>if s.length<=i\/ch s i=93 then some (l,i)else
  if ch s i∈[94,45,47,34]then none else match rdS (s.drop i)with
   |none=>none
   |some (a,n)=>if i+n<s.length/\ch s (i+n)=45 then
    (if s.length<=i+n+1\/ch s (i+n+1)∈[93,94,45,47,34]then none else match rdS (s.drop (i+n+1))with
     |none=>none
     |some (b,n2)=>if b<a then none else brL s m (i+n+1+n2) λx=>l x||uT a b x)
    else brL s m (i+n) λx=>l x||uT a a x
def brS(s:List Int)(i:Nat):Option (Rx×Nat):=
 let nt:=decide (i<s.length)&&decide (ch s i=94)
 match brL s s.length.succ (if nt then i+1 else i) (λ_=>false)with
 |none=>none
 |some (l,j)=>
  let l':=if nt then λx=>!l x else l
  if s.length<=j\/ew l'=true then none else some (.set (ofB l'),j+1)
def mI(inner:Nat->Nat->Option (Rx×Nat))(s:List Int)(i d:Nat):Option (Rx×Nat):=
 if s.length<=i\/ch s i∈[124,41,42,43,63,93,47,34]then none
 else if ch s i=46 then some (.set (ofB λ_=>true),i+1)
 else if ch s i=126 then some (.eps,i+1)
 else if ch s i=91 then brS s (i+1)
 else if ch s i=40 then(if 99<=d then none else match inner (i+1) (d+1)with
  |none=>none
  |some (t,j)=>if j<s.length/\ch s j=41 then some (t,j+1)else none)
 else match rdS (s.drop i)with
  |none=>none
  |some (c,n)=>some (.set (ofB (rW c)),i+n)
def iC(c:Int):Int:=if c=42 then 4 else if c=43 then 5 else 6
def rX(s:List Int):Nat->Nat->Rx->Option (Rx×Nat)
 |0,_,_=>none
 |m+1,i,t=>if i<s.length/\ch s i∈[42,43,63]then rX s m (i+1) (.rep (iC (ch s i)) t)else some (t,i)
def kD(inner:Nat->Nat->Option (Rx×Nat))(s:List Int)(i d:Nat):Option (Rx×Nat):=
 match mI inner s i d with
 |none=>none
 |some (t,j)=>rX s s.length.succ j t
def tt(inner:Nat->Nat->Option (Rx×Nat))(s:List Int)(d:Nat):Nat->Nat->Rx->Option (Rx×Nat)
 |0,_,_=>none
 |m+1,i,t=>if i<s.length/\ch s i∉[124,41]then(match kD inner s i d with
  |none=>none
  |some (t2,j)=>tt inner s d m j (.cat t t2))else some (t,i)
def lq(inner:Nat->Nat->Option (Rx×Nat))(s:List Int)(i d:Nat):Option (Rx×Nat):=
 match kD inner s i d with
 |none=>none
 |some (t,j)=>tt inner s d s.length.succ j t
def tu(inner:Nat->Nat->Option (Rx×Nat))(s:List Int)(d:Nat):Nat->Nat->Rx->Option (Rx×Nat)
 |0,_,_=>none
 |m+1,i,t=>if i<s.length/\ch s i=124 then(match lq inner s (i+1) d with
  |none=>none
  |some (t2,j)=>tu inner s d m j (.alt t t2))else some (t,i)
def Dh(inner:Nat->Nat->Option (Rx×Nat))(s:List Int)(i d:Nat):Option (Rx×Nat):=
 match lq inner s i d with
 |none=>none
 |some (t,j)=>tu inner s d s.length.succ j t
def kc(s:List Int):Nat->Nat->Nat->Option (Rx×Nat)
 |0,_,_=>none
 |n+1,i,d=>Dh (kc s n) s i d
def fX(s:List Int):Except Int Rx:=
 if 1600<s.length then .error 6 else match kc s s.length.succ 0 0 with
  |none=>.error 5
  |some (t,i)=>if i<s.length then .error 5 else if 400<t.len then .error 6 else .ok t
end
noncomputable section
theorem uU(l:Nat->Bool):∀ n,mD l n<2 ^ n:=by
 intro n
 induction n with
 |zero=>simp[mD]
 |succ n ih=>simp only[mD,jB];split <;> omega
theorem w7(l:Nat->Bool):∀ n i,(mD l n).testBit i=(decide (i<n)&&l i):=by
 intro n
 induction n with
 |zero=>intro i;simp[mD]
 |succ n ih=>
  intro i
  have hlt:=uU l n
  simp only[mD]
  by_cases hl:l n=true
  ·rw[if_pos hl]
   rcases Nat.lt_trichotomy i n with h|h|h
   ·rw[Nat.testBit_two_pow_add_gt h,ih]
    simp[h,e7 h]
   ·subst h
    rw[Nat.testBit_two_pow_add_eq,qW hlt]
    simp[hl]
   ·rw[qW (bz (show 2 ^ n+mD l n<2 ^ (n+1) by rw[jB];omega) (hY (by omega) h))]
    have:¬i<n+1:=by omega
    simp[this]
  ·rw[if_neg hl,eF,ih]
   have hl:l n=false:=by simpa using hl
   by_cases h:i=n
   ·subst h;simp[hl]
   ·have:(i<n)↔(i<n+1):=by omega
    simp[this]
theorem dM(l:Nat->Bool)(w:Nat):br l w<18446744073709551616:=by rw[l9];exact uU _ 64
theorem dn(l:Nat->Bool)(w i:Nat):(br l w).testBit i=(decide (i<64)&&l (64*w+i)):=by rw[l9];exact w7 _ 64 i
theorem iD{l m:Nat->Bool}{w:Nat}(h:∀ i,i<64->l (64*w+i)=m (64*w+i)):br l w=br m w:=by
 apply fD
 intro i
 rw[dn,dn]
 by_cases hi:i<64
 ·rw[h i hi]
 ·simp[hi]
theorem oJ{l:Nat->Bool}{w n:Nat}(h:∀ i,n.testBit i=(decide (i<64)&&l (64*w+i))):n=br l w:=by
 apply fD
 intro i
 rw[h,dn]
theorem iO{l m:Nat->Bool}(h:∀ i,i<256->l i=m i):ofB l=ofB m:=by
 unfold ofB
 rw[iD (w:=0) (λi hi=>h _ (by omega)),iD (w:=1) (λi hi=>h _ (by omega)),iD (w:=2) (λi hi=>h _ (by omega)),iD (w:=3) (λi hi=>h _ (by omega))]
theorem jm{l:Nat->Bool}{w:Nat}(h:w<4):(ofB l)[w]?=some ((br l w:Nat):Int):=by
 unfold ofB
 match w,h with
 |0,_=>rfl
 |1,_=>rfl
 |2,_=>rfl
 |3,_=>rfl
theorem Yx{a b c d n a' b' c' d':Int}{w:Nat}(h:w<4)(h0:if w=0 then a'=n else a'=a)(h1:if w=1 then b'=n else b'=b)(h2:if w=2 then c'=n else c'=c)(h3:if w=3 then d'=n else d'=d):[a,b,c,d].set w n=[a',b',c',d']:=by
 have:w=0\/w=1\/w=2\/w=3:=by omega
 rcases this with rfl|rfl|rfl|rfl <;> simp at h0 h1 h2 h3 <;> subst h0 h1 h2 h3 <;> rfl
theorem yA{l m:Nat->Bool}{w n:Nat}(h:w<4)(hn:n=br m w)(hm:∀ v i,v<4->v≠w->i<64->l (64*v+i)=m (64*v+i)):(ofB l).set w (n:Int)=ofB m:=by
 have key:∀ v,v<4->(if w=v then((br m v:Nat):Int)=(n:Int)else((br m v:Nat):Int)=((br l v:Nat):Int)):=by
  intro v hv
  split
  ·rename_i e;rw[hn,e]
  ·rename_i e
   rw[iD (l:=l) (m:=m) (w:=v) (λi hi=>hm v i hv (λe2=>e e2.symm) hi)]
 exact Yx h (key 0 (by omega)) (key 1 (by omega)) (key 2 (by omega)) (key 3 (by omega))
theorem Sd(l:Nat->Bool):∀ x∈ofB l,0<=x/\x<=18446744073709551615:=by
 intro x hx
 simp only[ofB,aI,bU,or_false]at hx
 have h0:=dM l 0
 have h1:=dM l 1
 have h2:=dM l 2
 have h3:=dM l 3
 generalize br l 0=a0 at *
 generalize br l 1=a1 at *
 generalize br l 2=a2 at *
 generalize br l 3=a3 at *
 omega
theorem sY{l:Nat->Bool}{w:Nat}:br l w=0↔∀ i,i<64->l (64*w+i)=false:=by
 constructor
 ·intro h i hi
  have:=dn l w i
  rw[h]at this
  simpa [hi]using this.symm
 ·intro h
  apply fD
  intro i
  rw[dn]
  by_cases hi:i<64
  ·simp[h i hi]
  ·simp[hi]
theorem gK{l:Nat->Bool}:ofB l=zS↔ew l=true:=by
 unfold ew
 rw[cG]
 constructor
 ·intro h i hi
  have hi:=cr.1 hi
  simp only[ofB,zS,e8,and_true]at h
  have hw:∀ w,w<4->br l w=0:=by
   intro w hw
   match w,hw with
   |0,_=>omega
   |1,_=>omega
   |2,_=>omega
   |3,_=>omega
  have:=sY.1 (hw (i / 64) (by omega)) (i % 64) (by omega)
  rw[show 64*(i / 64)+i % 64=i by omega]at this
  simp[this]
 ·intro h
  have hz:∀ w,w<4->br l w=0:=λw hw=>sY.2 λi hi=>by
   have:=h (64*w+i) (cr.2 (by omega))
   simpa using this
  simp[ofB,zS,hz]
theorem rY{n:Nat}(h:n<18446744073709551616):(BitVec.ofInt (IntKind.bits .u64) (n:Int)).toNat=n:=by
 have:IntKind.bits .u64=64:=rfl
 rw[this,n5]
 omega
theorem wrap_u64{n:Nat}(h:n<18446744073709551616):IntKind.wrap .u64 (n:Int)=n:=jJ ⟨by simp[kLo],by simp[kHi];omega⟩
theorem Kt{a b:Nat}(ha:a<18446744073709551616)(hb:b<18446744073709551616):dL .or .u64 (a:Int) (b:Int)=((a|||b:Nat):Int):=by
 have hlt:a|||b<2 ^ 64:=rc ha hb
 simp only[dL,rj,rY ha,rY hb]
 exact wrap_u64 hlt
theorem Di{a b:Nat}(ha:a<18446744073709551616)(hb:b<18446744073709551616):dL .andNot .u64 (a:Int) (b:Int)=((a&&& (18446744073709551615-b):Nat):Int):=by
 have hlt:a&&& (18446744073709551615-b)<2 ^ 64:=Nat.and_lt_two_pow _ (by omega)
 simp only[dL,rf,BitVec.toNat_not,rY ha,rY hb]
 exact wrap_u64 hlt
theorem Bg{i:Nat}(h:i<64):2 ^ i<18446744073709551616:=bz (nZ (by omega) h) (by decide)
theorem yB{i:Nat}(h:i<64):IntKind.wrap .u64 ((1:Int)*2 ^ (Nat.min (Int.toNat (i:Int)) (IntKind.bits .u64)))=((2 ^ i:Nat):Int):=by
 have e:Nat.min (Int.toNat (i:Int)) (IntKind.bits .u64)=i:=by
  rw[aa];exact dl (by show i<=64;omega)
 rw[e,Int.one_mul]
 have:=wrap_u64 (Bg h)
 rw[<-this]
 congr 1
theorem Ku{l:Nat->Bool}{w i:Nat}(hi:i<64):br l w|||2 ^ i=br (λx=>l x||decide (x=64*w+i)) w:=by
 apply oJ
 intro j
 rw[ot,dn,kK]
 by_cases hj:j<64
 ·simp only[hj,decide_true,bG]
  congr 1
  rw[decide_eq_decide];omega
 ·simp only[hj,decide_false,dA,cP,decide_eq_false_iff_not];omega
theorem OD{l m:Nat->Bool}{w:Nat}:br l w|||br m w=br (λx=>l x||m x) w:=by
 apply oJ
 intro j
 rw[ot,dn,dn]
 cases decide (j<64) <;> simp
theorem Kv{l:Nat->Bool}{w:Nat}:18446744073709551615&&& (18446744073709551615-br l w)=br (λx=>!l x) w:=by
 apply oJ
 intro j
 have h:=dM l w
 rw[Nat.testBit_and,show(18446744073709551615:Nat)=2 ^ 64-1 by rfl,Nat.testBit_two_pow_sub_one,show 2 ^ 64-1-br l w=2 ^ 64-(br l w+1) by omega,Nat.testBit_two_pow_sub_succ h,dn]
 cases decide (j<64) <;> simp
end
noncomputable section
theorem Kw(i:Nat):Int.tdiv (i:Int) 64=((i / 64:Nat):Int):=by rfl
theorem Kx(i:Nat):Int.tmod (i:Int) 64=((i % 64:Nat):Int):=by rfl
theorem bH{n:Nat}(h:n<9223372036854775808):IntKind.wrap .i64 (n:Int)=n:=bp (by omega) (by omega)
theorem jW{n:Nat}(h:n<256):IntKind.wrap .u8 (n:Int)=n:=jJ ⟨by simp[kLo],by simp[kHi];omega⟩
theorem EI{f:Nat->Bool}{i:Nat}(h:i<256):(ofB f).set (i / 64) (dL .or .u64 ((br f (i / 64):Nat):Int) ((2 ^ (i % 64):Nat):Int))=ofB (λx=>f x||decide (x=i)):=by
 have hi:i % 64<64:=eG _ (by omega)
 rw[Kt (dM _ _) (Bg hi),Ku hi]
 have e:64*(i / 64)+i % 64=i:=by omega
 rw[e]
 refine yA (by omega) rfl (λv j hv hne hj=>?_)
 have:¬(64*v+j=i):=by omega
 simp[this]
theorem EJ:NJ N0 ()=some ((ofB (λ_=>true),()),()):=by
 have h:∀ w,br (λ_=>true) w=18446744073709551615:=λw=>by rw[l9];rfl
 have:ofB (λ_=>true)=[18446744073709551615,18446744073709551615,18446744073709551615,18446744073709551615]:=by unfold ofB;simp only[h];rfl
 rw[this]
 rfl
theorem OE{a b:Int}(ha:0<=a/\a<=255)(hb:0<=b/\b<=255):JW N0 (a,(b,()))=some ((ofB (uT a b),()),()):=by
 delta JW Bd Wi
 have wa:IntKind.wrap .i64 a=a:=bp (by omega) (by omega)
 have wb:IntKind.wrap .i64 b=b:=bp (by omega) (by omega)
 have z:([0,0,0,0]:List Int)=ofB (λx=>decide (a<=(x:Int))&&decide ((x:Int)<a)):=by
  rw[show([0,0,0,0]:List Int)=zS by rfl]
  refine(gK.2 ?_).symm
  unfold ew
  grind
 simp only[wa,wb]
 refine aZ (λm x r=>∃ i:Nat,x=(([0,0,0,0],(ofB (λx=>decide (a<=(x:Int))&&decide ((x:Int)<(i:Int))),())),((i:Int),()))/\m=(b+1-i).toNat/\a<=i/\i<=256/\(a<=b->(i:Int)<=b+1)/\(b<a->(i:Int)=a)/\r=some ((ofB (uT a b),()),())) ?_ N0 ((b+1-a).toNat) _ _ (by unfold N0;omega) ⟨a.toNat,by rw[fF ha.1,<-z],by rw[fF ha.1],by omega,by omega,by omega,by omega,rfl⟩
 rintro m x r ⟨i,rfl,hm,h1,h2,h3,h4,rfl⟩ k hk
 simp only
 by_cases hib:(i:Int)<=b
 ·have hi:i<256:=by omega
  have hw:i / 64<4:=by omega
  have hl:i % 64<64:=eG _ (by omega)
  have w1:IntKind.wrap .i64 (Int.tdiv (i:Int) 64)=((i / 64:Nat):Int):=by rw[Kw];exact bH (by omega)
  have w2:IntKind.wrap .u64 (Int.tmod (i:Int) 64)=((i % 64:Nat):Int):=by rw[Kx];exact wrap_u64 (by omega)
  have w3:IntKind.wrap .i64 ((i:Int)+1)=((i+1:Nat):Int):=by rw[<-bH (n:=i+1) (by omega)];rfl
  have g:(ofB (λx=>decide (a<=(x:Int))&&decide ((x:Int)<(i:Int))))[((i / 64:Nat):Int).toNat]?=some ((br (λx=>decide (a<=(x:Int))&&decide ((x:Int)<(i:Int))) (i / 64):Nat):Int):=by rw[aa];exact jm hw
  have n1:¬((64:Int)=0):=by omega
  have n2:¬(((i % 64:Nat):Int)<0):=by omega
  have n3:(0:Int)<=((i / 64:Nat):Int):=by omega
  rw[decide_eq_true hib,cond_true,w1,w2,w3,if_neg n1,if_pos n3,g]
  simp only[if_neg n1,if_neg n2,if_pos n3,g,yB hl]
  refine hk _ _ _ (show(b+1-((i+1:Nat):Int)).toNat<m by omega) ⟨i+1,?_,rfl,by omega,by omega,by omega,by omega,rfl⟩
  rw[aa,EI hi]
  have ef:ofB (λx=>(decide (a<=(x:Int))&&decide ((x:Int)<(i:Int)))||decide (x=i))=ofB (λx=>decide (a<=(x:Int))&&decide ((x:Int)<((i+1:Nat):Int))):=by
   refine iO (λx hx=>?_)
   have e1:(decide ((x:Int)<((i+1:Nat):Int)))=(decide ((x:Int)<(i:Int))||decide (x=i)):=by
    rw[<-Bool.decide_or,decide_eq_decide];omega
   rw[e1]
   by_cases hax:a<=(x:Int)
   ·simp[hax]
   ·have:¬x=i:=by omega
    simp[hax,this]
  rw[ef]
 ·rw[decide_eq_false hib,cond_false]
  have ef:ofB (λx=>decide (a<=(x:Int))&&decide ((x:Int)<(i:Int)))=ofB (uT a b):=?_
  ·rw[ef]
  refine iO (λx hx=>?_)
  unfold uT
  rcases Int.lt_or_le b a with hlt|hle
  ·have e:=h4 hlt
   by_cases hax:a<=(x:Int)
   ·have:¬((x:Int)<=b):=by omega
    have:¬((x:Int)<(i:Int)):=by omega
    simp[*]
   ·simp[hax]
  ·have e:=h3 hle
   have:((x:Int)<(i:Int))↔((x:Int)<=b):=by omega
   simp[this]
theorem w9{l m:Nat->Bool}{i n:Nat}(hi:i<4)(hn:n=br m i):(ofB (λx=>bif decide (x<64*i)then m x else l x)).set i (n:Int)=ofB (λx=>bif decide (x<64*(i+1))then m x else l x):=by grind [yA,iD]
theorem xa{l m:Nat->Bool}:ofB (λx=>bif decide (x<64*4)then m x else l x)=ofB m:=iO λx hx=>by rw[decide_eq_true (by omega)];rfl
theorem EK{l m:Nat->Bool}:ofB l=ofB (λx=>bif decide (x<64*0)then m x else l x):=iO λx hx=>by rw[decide_eq_false (by omega)];rfl
theorem xb{l m:Nat->Bool}{i:Nat}(hi:i<4):(ofB (λx=>bif decide (x<64*i)then m x else l x))[i]?=some ((br l i:Nat):Int):=by grind [br,jm]
theorem OF(l m:Nat->Bool):JX N0 (ofB l,(ofB m,()))=some ((ofB (λx=>l x||m x),()),()):=by
 delta JX Ld Bd Wi
 refine aZ (λmm x r=>∃ (i:Nat) (z:List Int),x=((ofB (λx=>bif decide (x<64*i)then(l x||m x)else l x),(z,())),((i:Int),()))/\mm+i=4/\r=some ((ofB (λx=>l x||m x),()),())) ?_ N0 4 _ _ (by unfold N0;omega) ⟨0,_,by rw[<-EK];rfl,rfl,rfl⟩
 rintro mm x r ⟨i,z,rfl,hm,rfl⟩ k hk
 simp only
 rcases aj i 4 with h|h
 ·have g1:=xb (l:=l) (m:=λx=>l x||m x) h
  have g2:=jm (l:=m) h
  have n0:(0:Int)<=(i:Int):=by omega
  have w3:IntKind.wrap .i64 ((i:Int)+1)=((i+1:Nat):Int):=by rw[<-bH (n:=i+1) (by omega)];rfl
  rw[decide_eq_true (show(i:Int)<4 by omega),cond_true,if_pos n0,aa,g1]
  simp only[if_pos n0,g1,g2,w3]
  refine hk (mm-1) _ _ (by omega) ⟨i+1,z,?_,by omega,rfl⟩
  rw[Kt (dM _ _) (dM _ _),w9 h OD]
 ·have e:i=4:=by omega
  subst e
  rw[decide_eq_false (show ¬(((4:Nat):Int)<4) by omega),cond_false,xa]
theorem OG(m:Nat->Bool):NL N0 (ofB (λ_=>true),(ofB m,()))=some ((ofB (λx=>!m x),()),()):=by
 delta NL Ld Bd Wi
 refine aZ (λmm x r=>∃ (i:Nat) (z:List Int),x=((ofB (λx=>bif decide (x<64*i)then(!m x)else true),(z,())),((i:Int),()))/\mm+i=4/\r=some ((ofB (λx=>!m x),()),())) ?_ N0 4 _ _ (by unfold N0;omega) ⟨0,_,by rw[<-EK];rfl,rfl,rfl⟩
 rintro mm x r ⟨i,z,rfl,hm,rfl⟩ k hk
 simp only
 rcases aj i 4 with h|h
 ·have g1:=xb (l:=λ_=>true) (m:=λx=>!m x) h
  have g2:=jm (l:=m) h
  have n0:(0:Int)<=(i:Int):=by omega
  have w3:IntKind.wrap .i64 ((i:Int)+1)=((i+1:Nat):Int):=by rw[<-bH (n:=i+1) (by omega)];rfl
  have hf:br (λ_=>true) i=18446744073709551615:=by rw[l9];rfl
  rw[decide_eq_true (show(i:Int)<4 by omega),cond_true,if_pos n0,aa,g1]
  simp only[if_pos n0,g1,g2,w3]
  refine hk (mm-1) _ _ (by omega) ⟨i+1,z,?_,by omega,rfl⟩
  rw[Di (dM _ _) (dM _ _),hf,w9 h Kv]
 ·have e:i=4:=by omega
  subst e
  rw[decide_eq_false (show ¬(((4:Nat):Int)<4) by omega),cond_false,xa]
theorem OH(m:Nat->Bool):NM N0 (ofB m,())=some ((ofB (λx=>!m x),()),()):=by simp[NM,EJ,OG]
theorem EL(m:Nat->Bool):tq N0 (ofB m,())=some ((ew m,()),()):=by
 unfold tq
 have:(decide (ofB m=[0,0,0,0]))=ew m:=by
  rw[cI,decide_eq_true_eq]
  exact gK
 simp only[this]
theorem EM{c:Int}(h:0<=c/\c<=255):NO N0 ([c],())=some ((ofB (rW c),()),()):=by
 obtain⟨i,rfl⟩:∃ i:Nat,c=i:=⟨c.toNat,by omega⟩
 have hi:i<256:=by omega
 have hw:i / 64<4:=by omega
 have hl:i % 64<64:=eG _ (by omega)
 have z:([0,0,0,0]:List Int)=ofB (λ_=>false):=by
  rw[show([0,0,0,0]:List Int)=zS by rfl]
  exact(gK.2 (by unfold ew;rw[cG];intro x _;rfl)).symm
 have w1:IntKind.wrap .u8 (Int.tdiv (i:Int) 64)=((i / 64:Nat):Int):=by rw[Kw];exact jW (by omega)
 have w3:IntKind.wrap .i64 ((0:Int)+1)=1:=bp (by omega) (by omega)
 have g:=jm (l:=λ_=>false) hw
 have n1:¬((64:Int)=0):=by omega
 have n2:¬(((i % 64:Nat):Int)<0):=by omega
 have n3:(0:Int)<=((i / 64:Nat):Int):=by omega
 delta NO Ld Bd Wi
 refine aZ (λm x r=>((m=1/\x=(([0,0,0,0],(ofB (λ_=>false),())),((0:Int),())))\/(m=0/\x=(([0,0,0,0],(ofB (rW (i:Int)),())),((1:Int),()))))/\r=some ((ofB (rW (i:Int)),()),())) ?_ N0 1 _ _ (by unfold N0;omega) ⟨.inl ⟨rfl,by rw[<-z]⟩,rfl⟩
 rintro m x r ⟨hx,rfl⟩ k hk
 rcases hx with⟨rfl,rfl⟩|⟨rfl,rfl⟩
 ·have l1:decide ((0:Int)<(([(i:Int)]:List Int).length:Nat))=true:=rfl
  have g0:([(i:Int)]:List Int)[((0:Int)).toNat]?=some (i:Int):=rfl
  have n0:(0:Int)<=0:=by omega
  have tn:(((i / 64:Nat):Int)).toNat=i / 64:=aa _
  have hs:=EI (f:=λ_=>false) hi
  have ef:ofB (λx=>false||decide (x=i))=ofB (rW (i:Int)):=iO λx hx=>by
   unfold rW
   rw[cP,decide_eq_decide];omega
  have sh:=yB hl
  rw[l1,cond_true,if_pos n0,g0]
  simp only[if_neg n1,w1,if_pos n3,tn,g]
  simp only[Kx,if_neg n2,if_pos n3,tn,g,sh,w3,hs,ef]
  exact hk 0 _ _ (by omega) ⟨.inr ⟨rfl,rfl⟩,rfl⟩
 ·have l1:decide ((1:Int)<(([(i:Int)]:List Int).length:Nat))=false:=rfl
  rw[l1,cond_false]
end
noncomputable section
def Bytes(s:List Int):Prop:=∀ c∈s,0<=c/\c<=255
theorem Bytes.get{s:List Int}(h:Bytes s){i:Nat}{c:Int}(hc:s[i]?=some c):0<=c/\c<=255:=h c (List.mem_of_getElem? hc)
theorem Bytes.drop{s:List Int}(h:Bytes s)(i:Nat):Bytes (s.drop i):=λc hc=>h c (hC hc)
theorem EN{c:Int}(h:0<=c/\c<=255):C9 N0 (c,())=some (((qj c).getD (-1),()),()):=by
 delta C9 Bd Wi;unfold qj
 simp only[aE]
 by_cases h1:(48:Int)<=c
 ·by_cases h2:c<=(57:Int)
  ·have w1:IntKind.wrap .u8 (c-48)=c-48:=jJ ⟨by simp[kLo];omega,by simp[kHi];omega⟩
   grind [bp]
  ·by_cases h3:(97:Int)<=c
   ·by_cases h4:c<=(102:Int)
    ·have w1:IntKind.wrap .u8 (c-97)=c-97:=jJ ⟨by simp[kLo];omega,by simp[kHi];omega⟩
     grind [bp]
    ·simp[h1,h2,h3,h4]
   ·simp[h1,h2,h3]
 ·have h3:¬(97:Int)<=c:=by omega
  simp[h1,h3]
theorem oK{c v:Int}(h:qj c=some v):0<=v/\v<=15:=by grind [qj]
theorem Yy:∀ a b:Fin 16,IntKind.wrap .u8 (dL .or .i64 (IntKind.wrap .i64 (((a.val:Nat):Int)*2 ^ (Nat.min (Int.toNat (4:Int)) (IntKind.bits .i64)))) ((b.val:Nat):Int))=16*((a.val:Nat):Int)+((b.val:Nat):Int):=by decide
theorem Kz{a b:Int}(ha:0<=a/\a<=15)(hb:0<=b/\b<=15):IntKind.wrap .u8 (dL .or .i64 (IntKind.wrap .i64 (a*2 ^ (Nat.min (Int.toNat (4:Int)) (IntKind.bits .i64)))) b)=16*a+b:=by
 have:=Yy ⟨a.toNat,by omega⟩ ⟨b.toNat,by omega⟩
 grind
def rdR(o:Option (Int×Nat)):Int×(Int×(Bool×Unit)):=match o with
 |some (c,n)=>(c,((n:Int),(true,())))
 |none=>(0,(0,(false,())))
theorem OI{t:List Int}(hb:Bytes t):NK N0 (t,())=some (rdR (rdS t),()):=by
 delta NK Bd Wi
 simp only[aE]
 cases t with
 |nil=>rfl
 |cons c r=>
  have e0:decide ((c::r:List Int)=[])=false:=rfl
  have n0:(0:Int)<=0:=by omega
  have g0:(c::r)[((0:Int)).toNat]?=some c:=rfl
  rw[e0,cond_false,if_pos n0,g0]
  simp only[if_pos n0]
  by_cases hc:c=92
  ·subst hc
   simp only[decide_true,ay,cond_false]
   cases r with
   |nil=>rfl
   |cons d r2=>
    have hd:=hb d (by simp)
    have el:decide ((((92::d::r2:List Int).length:Nat):Int)<2)=false:=by
     rw[decide_eq_false_iff_not];simp;omega
    have g1:(92::d::r2:List Int)[((1:Int)).toNat]?=some d:=rfl
    have n1:(0:Int)<=1:=by omega
    rw[el,cond_false,if_pos n1,g1]
    simp only[rdS,ne_eq,not_true_eq_false,if_false]
    by_cases h1:d=110
    ·subst h1;rfl
    by_cases h2:d=116
    ·subst h2;rfl
    by_cases h3:d=114
    ·subst h3;rfl
    simp only[h1,h2,h3,decide_false,cond_false,if_false]
    by_cases h4:d=120
    ·subst h4
     simp only[decide_true,cond_true,if_true]
     cases r2 with
     |nil=>rfl
     |cons x r3=>
      cases r3 with
      |nil=>rfl
      |cons y r4=>
       have hx:=hb x (by simp)
       have hy:=hb y (by simp)
       have l4:decide ((4:Int)<=(((92::120::x::y::r4:List Int).length:Nat):Int))=true:=by
        rw[decide_eq_true_eq];simp;omega
       have n2:(0:Int)<=2:=by omega
       have n3:(0:Int)<=3:=by omega
       have g2:(92::120::x::y::r4:List Int)[((2:Int)).toNat]?=some x:=rfl
       have g3:(92::120::x::y::r4:List Int)[((3:Int)).toNat]?=some y:=rfl
       have n4:¬((4:Int)<0):=by omega
       rw[l4,cond_true,if_pos n2,g2]
       simp only[if_pos n2,if_pos n3,g3,EN hx,EN hy,aD,if_neg n4]
       cases hvx:qj x with
       |none=>
        have:decide ((0:Int)<=(none:Option Int).getD (-1))=false:=rfl
        rw[this]
        rfl
       |some a=>
        have ha:=oK hvx
        have:decide ((0:Int)<=(some a).getD (-1))=true:=by simpa using ha.1
        rw[this]
        simp only[cond_true]
        cases hvy:qj y with
        |none=>
         have:decide ((0:Int)<=(none:Option Int).getD (-1))=false:=rfl
         rw[this]
         rfl
        |some b=>
         have hb2:=oK hvy
         have:decide ((0:Int)<=(some b).getD (-1))=true:=by simpa using hb2.1
         rw[this]
         simp only[cond_true,oc,Kz ha hb2]
         rfl
    ·simp only[h4,decide_false,cond_false,if_false]
     by_cases h5:d=0
     ·subst h5;rfl
     simp only[h5,decide_false,cond_false]
     have hif:(mC d=true\/d<32\/126<d)↔((mC d||(decide (d<32)||decide (126<d)))=true):=by simp
     simp only[hif]
     unfold mC
     generalize decide ((48:Int)<=d)=b1
     generalize decide (d<=(57:Int))=b2
     generalize decide ((97:Int)<=d)=b3
     generalize decide (d<=(122:Int))=b4
     generalize decide ((65:Int)<=d)=b5
     generalize decide (d<=(90:Int))=b6
     generalize decide (d<(32:Int))=b7
     generalize decide ((126:Int)<d)=b8
     revert b1 b2 b3 b4 b5 b6 b7 b8
     intro b1 b2 b3 b4 b5 b6 b7 b8
     cases b1 <;> cases b2 <;> cases b3 <;> cases b4 <;> cases b5 <;> cases b6 <;> cases b7 <;> cases b8 <;> rfl
  ·have hc2:decide (c=92)=false:=decide_eq_false hc
   rw[hc2]
   simp only[aH,cond_true,rdS,ne_eq,hc,not_false_eq_true,if_true]
   rfl
theorem ma{t:List Int}(hb:Bytes t){c:Int}{n:Nat}(h:rdS t=some (c,n)):(0<=c/\c<=255)/\0<n/\n<=t.length:=by
 unfold rdS at h
 cases t with
 |nil=>cases h
 |cons a r=>
  have ha:=hb a (by simp)
  simp only at h
  split at h
  ·grind
  ·cases r with
   |nil=>cases h
   |cons d r2=>
    have hd:=hb d (by simp)
    simp only at h
    split at h
    ·injection h with h;injection h with h1 h2;subst h1;subst h2;simp
    split at h
    ·injection h with h;injection h with h1 h2;subst h1;subst h2;simp
    split at h
    ·injection h with h;injection h with h1 h2;subst h1;subst h2;simp
    split at h
    ·split at h
     ·rename_i x y r4
      split at h
      ·rename_i u v hu hv
       have h1:=oK hu
       have h2:=oK hv
       injection h with h;injection h with h3 h4;subst h3;subst h4;simp;omega
      ·cases h
     ·cases h
    ·split at h
     ·cases h
     ·injection h with h;injection h with h1 h2;subst h1;subst h2;simp;omega
def kst(s:List Int)(i:Nat)(d:Int):List Int×(Int×Int):=(s,((i:Int),d))
def qk(s:List Int)(i:Nat)(l:List Int):Bool:=decide (s.length<=i)||l.any λb=>decide (ch s i=b)
theorem gL{s:List Int}{i:Nat}(h:i<s.length):s[i]?=some (ch s i):=by unfold ch;rw[List.getElem?_eq_getElem h];rfl
theorem ql(s:List Int)(hs:s.length<=maxLen)(i:Nat)(d:Int)(l:List Int)(hl:l.length<=maxLen):AM N0 (kst s i d,(l,()))=some ((qk s i l,()),(kst s i d,())):=by
 delta AM Ld Bd Wi;unfold kst qk
 simp only
 rcases aj i s.length with hi|hi
 ·have e1:decide (((s.length:Nat):Int)<=(i:Int))=false:=decide_eq_false (by omega)
  have e2:decide (s.length<=i)=false:=decide_eq_false (by omega)
  rw[e1,cond_false,e2,cP]
  refine aZ (λm x r=>∃ j:Nat,x=(((s,((i:Int),d)),()),((j:Int),()))/\m+j=l.length/\r=some (((l.drop j).any (λb=>decide (ch s i=b)),()),((s,((i:Int),d)),()))) ?_ N0 l.length _ _ (by have:=gd hl;omega) ⟨0,rfl,rfl,by rw[dm]⟩
  rintro m x r ⟨j,rfl,hm,rfl⟩ k hk
  simp only
  rcases aj j l.length with hj|hj
  ·have n0:(0:Int)<=(i:Int):=by omega
   have n1:(0:Int)<=(j:Int):=by omega
   rw[decide_eq_true (show(j:Int)<((l.length:Nat):Int) by omega),cond_true,if_pos n0,aa,gL hi]
   simp only[if_pos n1,aa,List.getElem?_eq_getElem hj,aX hj hl]
   rw[cq hj,List.any_cons]
   cases hd:decide (ch s i=l[j])
   ·rw[cond_false,cP]
    exact hk (m-1) _ _ (by omega) ⟨j+1,rfl,by omega,rfl⟩
   ·rw[cond_true,gz]
  ·rw[decide_eq_false (show ¬(j:Int)<((l.length:Nat):Int) by omega),cond_false,kH hj]
   rfl
 ·have e1:decide (((s.length:Nat):Int)<=(i:Int))=true:=decide_eq_true (by omega)
  have e2:decide (s.length<=i)=true:=decide_eq_true hi
  rw[e1,e2]
  rfl
def fg(s:List Int)(i:Nat)(c:Int):Bool:=decide (i<s.length)&&decide (ch s i=c)
theorem oL(s:List Int)(hs:s.length<=maxLen)(i:Nat)(d:Int)(c:Int):o5 N0 (kst s i d,(c,()))=some ((fg s i c,()),(kst s (if fg s i c=true then i+1 else i) d,())):=by
 delta o5 Ld Bd Wi;unfold kst fg
 simp only[aE]
 rcases aj i s.length with hi|hi
 ·have n0:(0:Int)<=(i:Int):=by omega
  rw[decide_eq_true (show(i:Int)<((s.length:Nat):Int) by omega),cond_true,if_pos n0,aa,gL hi,decide_eq_true hi]
  simp only[bG,decide_eq_true_eq]
  by_cases h:ch s i=c
  ·simp only[h,decide_true,cond_true,if_true,aX hi hs]
  simp_all
 grind
def rdK(s:List Int)(i:Nat)(d:Int):(Int×(Bool×Unit))×((List Int×(Int×Int))×Unit):=match rdS (s.drop i)with
 |some (c,n)=>((c,(true,())),(kst s (i+n) d,()))
 |none=>((0,(false,())),(kst s i d,()))
theorem yC{s:List Int}(hb:Bytes s)(hs:s.length<=maxLen){i:Nat}(hi:i<=s.length)(d:Int):Hg N0 (kst s i d,())=some (rdK s i d):=by
 delta Hg Wi;unfold kst
 simp only
 have hc:(0:Int)<=(i:Int)/\(i:Int)<=((s.length:Nat):Int)/\((s.length:Nat):Int)<=((s.length:Nat):Int):=⟨by omega,by omega,by omega⟩
 have rZ:cn s (i:Int) ((s.length:Nat):Int)=s.drop i:=by simp[cn,bK]
 rw[if_pos hc,rZ,ae (OI (hb.drop i))]
 unfold rdK rdR kst
 cases hr:rdS (s.drop i)with
 |none=>
  simp only[Int.add_zero]
  grind [bH,maxLen]
 |some p=>
  obtain⟨c,n⟩:=p
  obtain⟨_,h1,h2⟩:=ma (hb.drop i) hr
  rw[bD]at h2
  simp only
  have:((i:Int)+(n:Int))=((i+n:Nat):Int):=by omega
  rw[this,bH (by unfold maxLen at hs;omega)]
end
noncomputable section
theorem dU{A R:Type}{body:A->(A->Option R)->Option R}(I:Nat->A->Prop)(Q:Option R->Prop)
 (step:∀ m x,I m x->∀ k,(∀ m' y,m' < m->I m' y->Q (k y))->Q (body x k)):∀ n m x,m<n->I m x->Q (aC body n x):=by
 intro n
 induction n with
 |zero=>intro m x h;omega
 |succ n ih=>grind [dP]
def OkP(s:List Int)(d:Int)(B:Nat)(o:Option (Rx×Nat))(z:Option ((List Pc×(Bool×Unit))×((List Int×(Int×Int))×Unit))):Prop:=
 match o with
 |some (t,j)=>z=some ((t.post,(true,())),(kst s j d,()))
 |none=>∃ r k,z=some ((r,(false,())),(k,()))/\r.length<=B
def pg(s:List Int)(nt:Bool)(o:Option ((Nat->Bool)×Nat)):Option (Rx×Nat):=
 match o with
 |none=>none
 |some (l,j)=>if s.length<=j\/ew (if nt=true then λx=>!l x else l)=true then none else some (.set (ofB (if nt=true then λx=>!l x else l)),j+1)
theorem yD(s:List Int)(i:Nat):brS s i=pg s (fg s i 94) (brL s s.length.succ (if fg s i 94=true then i+1 else i) (λ_=>false)):=by rfl
theorem OJ{s:List Int}(hb:Bytes s)(hs:s.length<=maxLen){i:Nat}(hi:i<=s.length)(d:Int):OkP s d 1 (brS s i) (NN N0 (kst s i d,())):=by
 rw[yD]
 unfold NN
 simp only[aE]
 rw[ae (oL s hs i d 94)]
 simp only
 generalize hnt:fg s i 94=nt
 have hi1:(if nt=true then i+1 else i)<=s.length:=by grind [fg]
 generalize (if nt=true then i+1 else i)=i1 at hi1
 have hz:([0,0,0,0]:List Int)=ofB (λ_=>false):=by
  rw[show([0,0,0,0]:List Int)=zS by rfl]
  exact(gK.2 (by unfold ew;rw[cG];intro x _;rfl)).symm
 generalize cf:brL s s.length.succ i1 (λ_=>false)=res
 refine dU (λm x=>∃ (i:Nat) (f:Nat->Bool) (bZ:Nat),x=((kst s i d,(ofB f,())),())/\i<=s.length/\s.length-i<bZ/\m=s.length-i/\brL s bZ i f=res) (OkP s d 1 (pg s nt res)) ?_ N0 (s.length-i1) _ (by have:=gd hs;omega) ⟨i1,_,s.length.succ,by rw[<-hz],hi1,by omega,rfl,cf⟩
 rintro m x ⟨i,f,bZ,rfl,hi,hf,hm,hr⟩ k hk
 obtain⟨bZ,rfl⟩:∃ q,bZ=q+1:=⟨bZ-1,by omega⟩
 simp only[brL]at hr
 rw[ae (ql s hs i d [93] (by simp[maxLen]))]
 simp only
 by_cases mH:s.length<=i\/ch s i=93
 ·-- the end
  rw[if_pos mH]at hr
  have hc:qk s i [93]=true:=by
   unfold qk
   rcases mH with h|h
   ·simp[h]
   ·simp[h]
  rw[hc]
  simp only[ay,cond_false]
  subst hr
  have db:∀ g:Nat->Bool,OkP s d 1 (if s.length<=i\/ew g=true then none else some (.set (ofB g),i+1)) (ah (o5 N0 (kst s i d,(93,()))) λv21=>bif v21.1.1 then ah (tq N0 (ofB g,())) λv22=>some (([((1:Int),ofB g)],(!v22.1.1,())),(v21.2.1,()))else some (([((1:Int),ofB g)],(false,())),(v21.2.1,()))):=by
   intro g
   rw[ae (oL s hs i d 93)]
   simp only
   rcases aj i s.length with h|h
   ·have h93:ch s i=93:=mH.resolve_left (by omega)
    have he:fg s i 93=true:=by unfold fg;simp[h,h93]
    rw[he]
    simp only[cond_true,if_true,EL,aD]
    cases hem:ew g
    ·have:¬(s.length<=i\/(false=true)):=by simp;omega
     rw[if_neg this]
     rfl
    ·rw[if_pos (.inr rfl)]
     exact⟨_,_,rfl,by simp⟩
   ·have he:fg s i 93=false:=by unfold fg;simp;omega
    rw[he,if_pos (.inl h)]
    exact⟨_,_,rfl,by simp⟩
  unfold pg
  cases nt
  ·exact db f
  ·simp only[cond_true,OH,aD,if_true]
   exact db λx=>!f x
 ·rw[if_neg mH]at hr
  have hlt:i<s.length:=by omega
  have hc:qk s i [93]=false:=by
   unfold qk
   have h1:¬s.length<=i:=by omega
   have h2:¬ch s i=93:=λh=>mH (.inr h)
   simp[h1,h2]
  rw[hc]
  simp only[aH,cond_true]
  rw[ae (ql s hs i d [94,45,47,34] (by simp[maxLen]))]
  simp only
  have hc2:qk s i [94,45,47,34]=decide (ch s i∈([94,45,47,34]:List Int)):=by
   unfold qk
   have h1:¬s.length<=i:=by omega
   rw[decide_eq_false h1,cP,cI,decide_eq_true_eq,ic]
   simp
  rw[hc2]
  by_cases hin:ch s i∈([94,45,47,34]:List Int)
  ·rw[if_pos hin]at hr
   rw[decide_eq_true hin,cond_true]
   subst hr
   exact⟨_,_,rfl,by simp⟩
  rw[if_neg hin]at hr
  rw[decide_eq_false hin,cond_false,ae (yC hb hs hi d)]
  unfold rdK
  cases hrd:rdS (s.drop i)with
  |none=>
   rw[hrd]at hr
   simp only at hr
   subst hr
   exact⟨_,_,rfl,by simp⟩
  |some p=>
   obtain⟨a,n⟩:=p
   rw[hrd]at hr
   simp only at hr
   simp only[ay,cond_false]
   obtain⟨ha,hn1,hn2⟩:=ma (hb.drop i) hrd
   rw[bD]at hn2
   rw[ae (oL s hs (i+n) d 45)]
   simp only
   -- MM goes on with a range
   have go:∀ (j:Nat) (b:Int),j<=s.length->i<j->(0<=b/\b<=255)->brL s bZ j (λx=>f x||uT a b x)=res->
    OkP s d 1 (pg s nt res) (ah (JW N0 (a,(b,()))) λv11=>ah (JX N0 (ofB f,(v11.1.1,()))) λv12=>k ((kst s j d,(v12.1.1,())),())):=by
    intro j b hj hij hbb cf
    rw[ae (OE ha hbb)]
    simp only
    rw[ae (OF f (uT a b))]
    exact hk (s.length-j) _ (by omega) ⟨j,_,bZ,rfl,hj,by omega,rfl,cf⟩
   by_cases hd:i+n<s.length/\ch s (i+n)=45
   ·rw[if_pos hd]at hr
    have he:fg s (i+n) 45=true:=by unfold fg;simp[hd.1,hd.2]
    rw[he]
    simp only[cond_true,if_true]
    rw[ae (ql s hs (i+n+1) d [93,94,45,47,34] (by simp[maxLen]))]
    simp only
    have hc3:qk s (i+n+1) [93,94,45,47,34]=decide (s.length<=i+n+1\/ch s (i+n+1)∈([93,94,45,47,34]:List Int)):=by
     unfold qk
     rw[cI,aJ,decide_eq_true_eq,decide_eq_true_eq,ic]
     simp
    rw[hc3]
    by_cases h4:s.length<=i+n+1\/ch s (i+n+1)∈([93,94,45,47,34]:List Int)
    ·rw[if_pos h4]at hr
     rw[decide_eq_true h4,cond_true]
     subst hr
     exact⟨_,_,rfl,by simp⟩
    rw[if_neg h4]at hr
    rw[decide_eq_false h4,cond_false,ae (yC hb hs (show i+n+1<=s.length by omega) d)]
    unfold rdK
    cases Dj:rdS (s.drop (i+n+1))with
    |none=>
     rw[Dj]at hr
     simp only at hr
     subst hr
     exact⟨_,_,rfl,by simp⟩
    |some p2=>
     obtain⟨b,n2⟩:=p2
     rw[Dj]at hr
     simp only at hr
     simp only[ay,cond_false]
     obtain⟨hbb,hn3,hn4⟩:=ma (hb.drop _) Dj
     rw[bD]at hn4
     by_cases hba:b<a
     ·rw[if_pos hba]at hr
      rw[decide_eq_true hba,cond_true]
      subst hr
      exact⟨_,_,rfl,by simp⟩
     ·rw[if_neg hba]at hr
      rw[decide_eq_false hba,cond_false]
      exact go (i+n+1+n2) b (by omega) (by omega) hbb hr
   ·rw[if_neg hd]at hr
    have he:fg s (i+n) 45=false:=by
     unfold fg
     rw[gY,decide_eq_false_iff_not,decide_eq_false_iff_not]
     by_cases h:i+n<s.length
     ·exact .inr λh2=>hd ⟨h,h2⟩
     ·exact .inl h
    rw[he]
    simp only[cond_false,ap,if_false]
    exact go (i+n) a (by omega) (by omega) ha hr
end
noncomputable section
def Res(s:List Int)(i:Nat)(t:Rx)(j:Nat):Prop:=i<j/\j<=s.length/\t.len+1<=2*(j-i)/\t.ok
def ke(s:List Int)(i:Nat)(o:Option (Rx×Nat)):Prop:=∀ t j,o=some (t,j)->Res s i t j
theorem Dk{l:Nat->Bool}(h:ew l=false):(Rx.set (ofB l)).ok:=⟨rfl,(λe=>by rw[gK.1 e]at h;cases h),Sd l⟩
theorem Dl:ew (λ_=>true)=false:=by rfl
theorem HJ{c:Int}(h:0<=c/\c<=255):ew (rW c)=false:=by
 unfold ew
 rw[List.all_eq_false]
 refine⟨c.toNat,cr.2 (by omega),?_⟩
 grind [rW]
theorem EO{s:List Int}(hb:Bytes s):∀ (m i:Nat) (l:Nat->Bool) (r:Nat->Bool) (j:Nat),brL s m i l=some (r,j)->i<=j:=by
 intro m
 induction m with
 |zero=>intro i l r j h;cases h
 |succ m ih=>grind [brL]
theorem EP{s:List Int}(hb:Bytes s){i0 i:Nat}(hi:i0<i):ke s i0 (brS s i):=by
 intro t j h
 rw[yD]at h
 unfold pg at h
 split at h
 ·cases h
 rename_i l k hl
 generalize (if fg s i 94=true then λx=>!l x else l)=l' at h
 split at h
 ·cases h
 rename_i hn
 injection h with h
 injection h with h1 h2
 subst h1;subst h2
 have h1:=EO hb _ _ _ _ _ hl
 have h2:i<=k:=by grind
 have hne:¬s.length<=k:=λe=>hn (.inl e)
 have hem:=λe=>hn (.inr e)
 refine⟨by omega,by omega,by simp only[Rx.len];omega,Dk ?_⟩
 simpa using hem
theorem uV{s:List Int}(hb:Bytes s){inner:Nat->Nat->Option (Rx×Nat)}{i d:Nat}(hin:ke s (i+1) (inner (i+1) (d+1))):ke s i (mI inner s i d):=by
 intro t j h
 unfold mI at h
 split at h
 ·cases h
 rename_i mH
 have hlt:i<s.length:=by omega
 split at h
 ·injection h with h;injection h with h1 h2;subst h1;subst h2
  exact⟨by omega,by omega,by simp only[Rx.len];omega,Dk Dl⟩
 split at h
 ·injection h with h;injection h with h1 h2;subst h1;subst h2
  exact⟨by omega,by omega,by simp only[Rx.len];omega,trivial⟩
 split at h
 ·exact EP hb (by omega) t j h
 split at h
 ·split at h
  ·cases h
  split at h
  ·cases h
  rename_i t2 j2 hi2
  obtain⟨q1,q2,q3,q4⟩:=hin _ _ hi2
  split at h
  ·rename_i hj
   injection h with h;injection h with h1 h2;subst h1;subst h2
   exact⟨by omega,by omega,by omega,q4⟩
  ·cases h
 split at h
 ·cases h
 rename_i c n hrd
 obtain⟨h1,h2,h3⟩:=ma (hb.drop i) hrd
 rw[bD]at h3
 injection h with h;injection h with h4 h5;subst h4;subst h5
 exact⟨by omega,by omega,by simp only[Rx.len];omega,Dk (HJ h1)⟩
theorem r9(c:Int):iC c=4\/iC c=5\/iC c=6:=by unfold iC;split;exact .inl rfl;split;exact .inr (.inl rfl);exact .inr (.inr rfl)
theorem KA{s:List Int}:∀ (m i0 i:Nat) (t0 t:Rx) (j:Nat),Res s i0 t0 i->rX s m i t0=some (t,j)->Res s i0 t j:=by
 intro m
 induction m with
 |zero=>intro i0 i t0 t j _ h;cases h
 |succ m ih=>
  intro i0 i t0 t j hr h
  simp only[rX]at h
  split at h
  ·rename_i hc
   refine ih i0 (i+1) _ t j ?_ h
   obtain⟨q1,q2,q3,q4⟩:=hr
   exact⟨by omega,by omega,by simp only[Rx.len];omega,r9 _,q4⟩
  simp_all
theorem qm{s:List Int}(hb:Bytes s){inner:Nat->Nat->Option (Rx×Nat)}{i d:Nat}(hin:ke s (i+1) (inner (i+1) (d+1))):ke s i (kD inner s i d):=by
 intro t j h
 unfold kD at h
 split at h
 ·cases h
 rename_i t0 i0 h0
 exact KA _ i i0 t0 t j (uV hb hin _ _ h0) h
theorem KB{s:List Int}(hb:Bytes s){inner:Nat->Nat->Option (Rx×Nat)}{d:Nat}(n:Nat)(hin:∀ i d,s.length-i<n->ke s i (inner i d)):∀ (m i0 i:Nat) (t0 t:Rx) (j:Nat),Res s i0 t0 i->s.length-i0<=n->tt inner s d m i t0=some (t,j)->Res s i0 t j:=by
 intro m
 induction m with
 |zero=>intro i0 i t0 t j _ _ h;cases h
 |succ m ih=>
  intro i0 i t0 t j hr hn h
  simp only[tt]at h
  split at h
  ·rename_i hc
   split at h
   ·cases h
   rename_i t2 j2 h2
   obtain⟨q1,q2,q3,q4⟩:=hr
   obtain⟨p1,p2,p3,p4⟩:=qm hb (hin (i+1) (d+1) (by omega)) _ _ h2
   refine ih i0 j2 _ t j ?_ hn h
   exact⟨by omega,p2,by simp only[Rx.len];omega,q4,p4⟩
  simp_all
theorem qn{s:List Int}(hb:Bytes s){inner:Nat->Nat->Option (Rx×Nat)}{i d:Nat}(n:Nat)(hin:∀ i d,s.length-i<n->ke s i (inner i d))(hn:s.length-i<=n):ke s i (lq inner s i d):=by
 intro t j h
 unfold lq at h
 split at h
 ·cases h
 rename_i t0 i0 h0
 rcases aj i s.length with hlt|hge
 ·exact KB hb n hin _ i i0 t0 t j (qm hb (hin (i+1) (d+1) (by omega)) _ _ h0) hn h
 simp_all [kD,mI]
theorem KC{s:List Int}(hb:Bytes s){inner:Nat->Nat->Option (Rx×Nat)}{d:Nat}(n:Nat)(hin:∀ i d,s.length-i<n->ke s i (inner i d)):∀ (m i0 i:Nat) (t0 t:Rx) (j:Nat),Res s i0 t0 i->s.length-i0<=n->tu inner s d m i t0=some (t,j)->Res s i0 t j:=by
 intro m
 induction m with
 |zero=>intro i0 i t0 t j _ _ h;cases h
 |succ m ih=>
  intro i0 i t0 t j hr hn h
  simp only[tu]at h
  split at h
  ·rename_i hc
   split at h
   ·cases h
   rename_i t2 j2 h2
   obtain⟨q1,q2,q3,q4⟩:=hr
   obtain⟨p1,p2,p3,p4⟩:=qn hb n hin (by omega) _ _ h2
   refine ih i0 j2 _ t j ?_ hn h
   exact⟨by omega,p2,by simp only[Rx.len];omega,q4,p4⟩
  simp_all
theorem jX{s:List Int}(hb:Bytes s):∀ (n i d:Nat),s.length-i<n->ke s i (kc s n i d):=by
 intro n
 induction n with
 |zero=>intro i d h;omega
 |succ n ih=>
  intro i d hn t j h
  simp only[kc,Dh]at h
  split at h
  ·cases h
  rename_i t0 i0 h0
  exact KC hb n ih _ i i0 t0 t j (qn hb n ih (by omega) _ _ h0) (by omega) h
end
noncomputable section
theorem yE(k:Int):AN N0 (k,())=some ((if k=0\/k=1 then 0 else if k=4\/k=5\/k=6 then 1 else if k=2\/k=3 then 2 else -1,()),()):=by grind [AN,aE]
theorem Bh{a b:Nat}(ha:a<=1000000)(hb:b<=1000000):((a+b)*40<=140737488355328)/\(a+b<=9223372036854775807):=by omega
theorem KD{k:Int}(hk:k=4\/k=5\/k=6){l:List Pc}(hl:l.length<=1000000):uO N0 (k,([l],()))=some ((l++[(k,zS)],()),()):=by
 have ht:(if k=0\/k=1 then(0:Int)else if k=4\/k=5\/k=6 then 1 else if k=2\/k=3 then 2 else -1)=1:=by omega
 delta uO Ld Ap Bd Wi
 simp only[aE,yE,ht,aD]
 have e1:(!(decide ((1:Int)=(([l]:List (List Pc)).length:Nat))))=false:=rfl
 have e2:decide (((([l]:List (List Pc)).length:Nat):Int)=0)=false:=rfl
 rw[e1,cond_false,e2,cond_false]
 refine aZ (λm x r=>((m=1/\x=((),(([]:List Pc),((0:Int),()))))\/(m=0/\x=((),(l,((1:Int),())))))/\r=some ((l++[(k,zS)],()),())) ?_ N0 1 _ _ (by unfold N0;omega) ⟨.inl ⟨rfl,rfl⟩,rfl⟩
 rintro m x r ⟨hx,rfl⟩ kk hkk
 rcases hx with⟨rfl,rfl⟩|⟨rfl,rfl⟩
 ·have l1:decide ((0:Int)<(([l]:List (List Pc)).length:Nat))=true:=rfl
  have g0:([l]:List (List Pc))[((0:Int)).toNat]?=some l:=rfl
  have n0:(0:Int)<=0:=by omega
  obtain⟨f1,f2⟩:=Bh (a:=([]:List Pc).length) (b:=l.length) (by simp) hl
  have w3:IntKind.wrap .i64 ((0:Int)+1)=1:=bp (by omega) (by omega)
  rw[l1,cond_true,if_pos n0,g0]
  simp only[if_pos f1,if_pos f2,w3,cm]
  exact hkk 0 _ _ (by omega) ⟨.inr ⟨rfl,rfl⟩,rfl⟩
 ·have l1:decide ((1:Int)<(([l]:List (List Pc)).length:Nat))=false:=rfl
  obtain⟨f1,f2⟩:=Bh (a:=l.length) (b:=([(k,[0,0,0,0])]:List Pc).length) hl (by simp)
  rw[l1,cond_false,if_pos f1,if_pos f2]
  rfl
theorem qo{k:Int}(hk:k=2\/k=3){l l2:List Pc}(hl:l.length<=100000)(hl2:l2.length<=100000):uO N0 (k,([l,l2],()))=some ((l++l2++[(k,zS)],()),()):=by
 have ht:(if k=0\/k=1 then(0:Int)else if k=4\/k=5\/k=6 then 1 else if k=2\/k=3 then 2 else -1)=2:=by omega
 delta uO Ld Ap Bd Wi
 simp only[aE,yE,ht,aD]
 have e1:(!(decide ((2:Int)=(([l,l2]:List (List Pc)).length:Nat))))=false:=rfl
 have e2:decide (((([l,l2]:List (List Pc)).length:Nat):Int)=0)=false:=rfl
 rw[e1,cond_false,e2,cond_false]
 refine aZ (λm x r=>((m=2/\x=((),(([]:List Pc),((0:Int),()))))\/(m=1/\x=((),(l,((1:Int),()))))\/(m=0/\x=((),(l++l2,((2:Int),())))))/\r=some ((l++l2++[(k,zS)],()),())) ?_ N0 2 _ _ (by unfold N0;omega) ⟨.inl ⟨rfl,rfl⟩,rfl⟩
 rintro m x r ⟨hx,rfl⟩ kk hkk
 rcases hx with⟨rfl,rfl⟩|⟨rfl,rfl⟩|⟨rfl,rfl⟩
 ·have l1:decide ((0:Int)<(([l,l2]:List (List Pc)).length:Nat))=true:=rfl
  have g0:([l,l2]:List (List Pc))[((0:Int)).toNat]?=some l:=rfl
  have n0:(0:Int)<=0:=by omega
  obtain⟨f1,f2⟩:=Bh (a:=([]:List Pc).length) (b:=l.length) (by simp) (by omega)
  have w3:IntKind.wrap .i64 ((0:Int)+1)=1:=bp (by omega) (by omega)
  rw[l1,cond_true,if_pos n0,g0]
  simp only[if_pos f1,if_pos f2,w3,cm]
  exact hkk 1 _ _ (by omega) ⟨.inr (.inl ⟨rfl,rfl⟩),rfl⟩
 ·have l1:decide ((1:Int)<(([l,l2]:List (List Pc)).length:Nat))=true:=rfl
  have g0:([l,l2]:List (List Pc))[((1:Int)).toNat]?=some l2:=rfl
  have n0:(0:Int)<=1:=by omega
  obtain⟨f1,f2⟩:=Bh (a:=l.length) (b:=l2.length) (by omega) (by omega)
  have w3:IntKind.wrap .i64 ((1:Int)+1)=2:=bp (by omega) (by omega)
  rw[l1,cond_true,if_pos n0,g0]
  simp only[if_pos f1,if_pos f2,w3]
  exact hkk 0 _ _ (by omega) ⟨.inr (.inr ⟨rfl,rfl⟩),rfl⟩
 ·have l1:decide ((2:Int)<(([l,l2]:List (List Pc)).length:Nat))=false:=rfl
  obtain⟨f1,f2⟩:=Bh (a:=(l++l2).length) (b:=([(k,[0,0,0,0])]:List Pc).length) (by simp;omega) (by simp)
  rw[l1,cond_false,if_pos f1,if_pos f2]
  rfl
abbrev RdF:=(List Int×(Int×Int))×Unit->Option ((List Pc×(Bool×Unit))×((List Int×(Int×Int))×Unit))
theorem fO{s:List Int}{i:Nat}{c:Int}(h1:i<s.length)(h2:ch s i=c):fg s i c=true:=by unfold fg;simp[h1,h2]
theorem iE{s:List Int}{i:Nat}{c:Int}(h2:¬ch s i=c):fg s i c=false:=by unfold fg;simp[h2]
theorem Se{s:List Int}(hb:Bytes s)(hs:s.length<=1600){q2 q3 q4 q5:RdF}{inner:Nat->Nat->Option (Rx×Nat)}{i d:Nat}(hd:d<=i)
 (hin:i<s.length->OkP s ((d+1:Nat):Int) (2*(s.length-(i+1))) (inner (i+1) (d+1)) (q2 (kst s (i+1) ((d+1:Nat):Int),()))) (cf:ke s (i+1) (inner (i+1) (d+1))):
 OkP s d (2*(s.length-i)) (mI inner s i d) (AR N0 q2 q3 q4 q5 (kst s i d,())):=by
 have hsm:s.length<=maxLen:=by unfold maxLen;omega
 have sa:=oL s hsm
 unfold AR
 dsimp only
 rw[ae (ql s hsm i d [124,41,42,43,63,93,47,34] (by simp[maxLen]))]
 simp only
 have hc:qk s i [124,41,42,43,63,93,47,34]=decide (s.length<=i\/ch s i∈([124,41,42,43,63,93,47,34]:List Int)):=by
  unfold qk
  simp_all
 rw[hc]
 unfold mI
 by_cases h0:s.length<=i\/ch s i∈([124,41,42,43,63,93,47,34]:List Int)
 ·rw[if_pos h0,decide_eq_true h0,cond_true]
  exact⟨_,_,rfl,by simp⟩
 rw[if_neg h0,decide_eq_false h0,cond_false]
 have hlt:i<s.length:=by
  rcases aj i s.length with h|h
  ·exact h
  ·exact absurd (.inl h) h0
 rw[ae (sa i d 46)]
 simp only
 by_cases h1:ch s i=46
 ·rw[if_pos h1,fO hlt h1]
  simp only[cond_true,if_true,EJ,aD]
  rfl
 rw[if_neg h1,iE h1]
 simp only[cond_false,ap,if_false]
 rw[ae (sa i d 126)]
 simp only
 by_cases h2:ch s i=126
 ·rw[if_pos h2,fO hlt h2]
  simp only[cond_true,if_true]
  rfl
 rw[if_neg h2,iE h2]
 simp only[cond_false,ap,if_false]
 rw[ae (sa i d 40)]
 simp only
 by_cases h3:ch s i=40
 ·have h4:¬ch s i=91:=by omega
  rw[if_neg h4,if_pos h3,fO hlt h3]
  simp only[cond_true,if_true]
  have w1:IntKind.wrap .i64 ((d:Int)+1)=((d+1:Nat):Int):=aX (n:=1601) (by omega) (by simp[maxLen])
  have Sf:((kst s (i+1) (d:Int)).1,((kst s (i+1) (d:Int)).2.1,IntKind.wrap .i64 ((kst s (i+1) (d:Int)).2.2+1)))=kst s (i+1) ((d+1:Nat):Int):=by
   show(s,(((i+1:Nat):Int),IntKind.wrap .i64 ((d:Int)+1)))=_
   rw[w1];rfl
  rw[Sf]
  have hq:=hin hlt
  unfold OkP at hq
  cases hi2:inner (i+1) (d+1)with
  |none=>
   rw[hi2]at hq
   obtain⟨r,k,hq,hrl⟩:=hq
   rw[ae hq]
   simp only[aE,cond_false,ite_self]
   exact⟨_,_,rfl,by omega⟩
  |some p=>
   obtain⟨t,j⟩:=p
   rw[hi2]at hq
   obtain⟨r1,r2,r3,r4⟩:=cf t j hi2
   have hpl:=t.aS
   rw[ae hq]
   simp only[aE,cond_true]
   have w2:IntKind.wrap .i64 ((kst s j ((d+1:Nat):Int)).2.2-1)=(d:Int):=by
    show IntKind.wrap .i64 (((d+1:Nat):Int)-1)=_
    rw[bp (by omega) (by omega)];omega
   simp only[w2]
   have Yz:((kst s j ((d+1:Nat):Int)).1,((kst s j ((d+1:Nat):Int)).2.1,(d:Int)))=kst s j (d:Int):=rfl
   rw[Yz]
   by_cases h99:99<=d
   ·rw[if_pos h99,decide_eq_false (by omega),cond_false]
    exact⟨_,_,rfl,by omega⟩
   ·rw[if_neg h99,decide_eq_true (by omega),cond_true,ae (sa j d 41)]
    simp only
    by_cases h41:j<s.length/\ch s j=41
    ·rw[if_pos h41,fO h41.1 h41.2]
     rfl
    ·rw[if_neg h41]
     have:fg s j 41=false:=by
      unfold fg
      rw[gY,decide_eq_false_iff_not,decide_eq_false_iff_not]
      by_cases h:j<s.length
      ·exact .inr λh2=>h41 ⟨h,h2⟩
      ·exact .inl h
     rw[this]
     exact⟨_,_,rfl,by omega⟩
 rw[iE h3]
 simp only[cond_false,ap,if_false]
 rw[ae (sa i d 91)]
 simp only
 by_cases h4:ch s i=91
 ·rw[if_pos h4,fO hlt h4]
  simp only[cond_true,if_true]
  have hq:=OJ hb hsm (show i+1<=s.length by omega) (d:Int)
  unfold OkP at hq
  cases hbr:brS s (i+1)with
  |none=>
   rw[hbr]at hq
   obtain⟨r,k,hq,hrl⟩:=hq
   rw[ae hq]
   exact⟨_,_,rfl,by show r.length<=_;omega⟩
  |some p=>
   obtain⟨t,j⟩:=p
   rw[hbr]at hq
   simp only at hq
   rw[ae hq]
   rfl
 rw[if_neg h4,if_neg h3,iE h4]
 simp only[cond_false,ap,if_false]
 rw[ae (yC hb hsm (Nat.le_of_lt hlt) d)]
 unfold rdK
 cases hrd:rdS (s.drop i)with
 |none=>
  simp only
  rw[ae (EM (c:=0) ⟨by omega,by omega⟩)]
  exact⟨_,_,rfl,by simp;omega⟩
 |some p=>
  obtain⟨c,n⟩:=p
  obtain⟨r1,_,_⟩:=ma (hb.drop i) hrd
  simp only
  rw[ae (EM r1)]
  rfl
end
noncomputable section
theorem HK{s:List Int}(hb:Bytes s)(hs:s.length<=1600){q2 q3 q4 q5:RdF}{inner:Nat->Nat->Option (Rx×Nat)}{i d:Nat}{B:Nat}
 (dV:OkP s d B (mI inner s i d) (q5 (kst s i d,()))) (cf:ke s i (mI inner s i d)):
 OkP s d 0 (kD inner s i d) (AQ N0 q2 q3 q4 q5 (kst s i d,())):=by
 have hsm:s.length<=maxLen:=by unfold maxLen;omega
 have sa:=oL s hsm
 unfold AQ
 dsimp only
 unfold kD
 unfold OkP at dV
 cases ho:mI inner s i d with
 |none=>
  rw[ho]at dV
  obtain⟨r,k,hq,hrl⟩:=dV
  rw[ae hq]
  refine dU (λm x=>m=0) (OkP s d 0 none) ?_ N0 0 _ (by unfold N0;omega) rfl
  rintro m x hm k hk
  exact⟨_,_,rfl,by simp⟩
 |some p=>
  obtain⟨t0,j0⟩:=p
  rw[ho]at dV
  simp only at dV
  have hr0:=cf t0 j0 ho
  rw[ae dV]
  simp only
  generalize hrs:rX s s.length.succ j0 t0=res
  refine dU (λm x=>∃ (j:Nat) (t:Rx) (bZ:Nat),x=((kst s j d,()),(t.post,()))/\Res s i t j/\s.length-j<bZ/\m=s.length-j/\rX s bZ j t=res) (OkP s d 0 res) ?_ N0 (s.length-j0) _ (by unfold N0;omega) ⟨j0,t0,_,rfl,hr0,by omega,rfl,hrs⟩
  rintro m x ⟨j,t,bZ,rfl,hr,hf,hm,hl⟩ k hk
  obtain⟨bZ,rfl⟩:∃ q,bZ=q+1:=⟨bZ-1,by omega⟩
  simp only[rX]at hl
  simp only[aE,cond_true]
  have KE:∀ kk:Int,(kk=4\/kk=5\/kk=6)->uO N0 (kk,([t.post],()))=some (((Rx.rep kk t).post,()),()):=λkk hkk=>by
   rw[KD hkk (by rw[t.aS];obtain⟨_,h1,h2,_⟩:=hr;omega)]
   rfl
  have go:j<s.length->∀ kk:Int,kk=iC (ch s j)->rX s bZ (j+1) (.rep (iC (ch s j)) t)=res->OkP s d 0 res (k ((kst s (j+1) d,()),((Rx.rep kk t).post,()))):=by
   intro hlt kk hkk hl
   obtain⟨h1,h2,h3,h4⟩:=hr
   exact hk (s.length-(j+1)) _ (by omega) ⟨j+1,.rep kk t,bZ,rfl,⟨by omega,by omega,by simp only[Rx.len];omega,by rw[hkk];exact r9 _,h4⟩,by omega,rfl,by rw[hkk];exact hl⟩
  rw[ae (sa j d 42)]
  simp only
  by_cases hc:j<s.length/\ch s j∈([42,43,63]:List Int)
  ·rw[if_pos hc]at hl
   obtain⟨hlt,lV⟩:=hc
   by_cases h1:ch s j=42
   ·rw[fO hlt h1]
    simp only[cond_true,if_true]
    rw[ae (KE 4 (by omega))]
    exact go hlt 4 (by rw[h1];rfl) hl
   ·rw[iE h1]
    simp only[cond_false,ap,if_false]
    rw[ae (sa j d 43)]
    simp only
    by_cases h2:ch s j=43
    ·rw[fO hlt h2]
     simp only[cond_true,if_true]
     rw[ae (KE 5 (by omega))]
     exact go hlt 5 (by rw[h2];rfl) hl
    ·rw[iE h2]
     simp only[cond_false,ap,if_false]
     rw[ae (sa j d 63)]
     simp only
     have h3:ch s j=63:=by simpa [h1,h2]using lV
     rw[fO hlt h3]
     simp only[cond_true,if_true]
     rw[ae (KE 6 (by omega))]
     exact go hlt 6 (by rw[h3];rfl) hl
  ·rw[if_neg hc]at hl
   have hno:∀ c:Int,c∈([42,43,63]:List Int)->fg s j c=false:=by
    intro c hcm
    unfold fg
    rw[gY,decide_eq_false_iff_not,decide_eq_false_iff_not]
    by_cases h:j<s.length
    ·exact .inr λh2=>hc ⟨h,h2 ▸ hcm⟩
    ·exact .inl h
   rw[hno 42 (by simp)]
   simp only[cond_false,ap,if_false]
   rw[ae (sa j d 43)]
   simp only
   rw[hno 43 (by simp)]
   simp only[cond_false,ap,if_false]
   rw[ae (sa j d 63)]
   simp only
   rw[hno 63 (by simp)]
   simp only[cond_false,ap,if_false]
   subst hl
   rfl
theorem Sh{s:List Int}(hb:Bytes s)(hs:s.length<=1600){q2 q3 q4 q5:RdF}{inner:Nat->Nat->Option (Rx×Nat)}{i d:Nat}(hi:i<=s.length)
 (bF:∀ j,i<=j->j<=s.length->OkP s d 0 (kD inner s j d) (q4 (kst s j d,()))) (cf:∀ j,i<=j->ke s j (kD inner s j d)):
 OkP s d (2*(s.length-i)) (lq inner s i d) (AP N0 q2 q3 q4 q5 (kst s i d,())):=by
 have hsm:s.length<=maxLen:=by unfold maxLen;omega
 unfold AP
 dsimp only
 unfold lq
 have dV:=bF i (aw _) hi
 unfold OkP at dV
 cases ho:kD inner s i d with
 |none=>
  rw[ho]at dV
  obtain⟨r,k,hq,hrl⟩:=dV
  rw[ae hq]
  refine dU (λm x=>m=0/\x=((k,()),(r,(false,())))) (OkP s d (2*(s.length-i)) none) ?_ N0 0 _ (by unfold N0;omega) ⟨rfl,rfl⟩
  rintro m x ⟨_,rfl⟩ k hk
  simp only[aE,cond_false]
  exact⟨_,_,rfl,by omega⟩
 |some p=>
  obtain⟨t0,j0⟩:=p
  rw[ho]at dV
  simp only at dV
  have hr0:=cf i (aw _) t0 j0 ho
  rw[ae dV]
  simp only
  generalize hrs:tt inner s d s.length.succ j0 t0=res
  refine dU (λm x=>(∃ (j:Nat) (t:Rx) (bZ:Nat),x=((kst s j d,()),(t.post,(true,())))/\Res s i t j/\s.length-j<bZ/\m=s.length-j+1/\tt inner s d bZ j t=res)\/(∃ r k,x=((k,()),(r,(false,())))/\r.length<=2*(s.length-i)/\res=none/\m=0)) (OkP s d (2*(s.length-i)) res) ?_ N0 (s.length-j0+1) _ (by unfold N0;omega) (.inl ⟨j0,t0,_,rfl,hr0,by omega,rfl,hrs⟩)
  rintro m x (⟨j,t,bZ,rfl,hr,hf,hm,hl⟩|⟨r,kk,rfl,hrl,rfl,rfl⟩) k hk
  ·obtain⟨bZ,rfl⟩:∃ q,bZ=q+1:=⟨bZ-1,by omega⟩
   simp only[tt]at hl
   simp only[aE,cond_true]
   rw[ae (ql s hsm j d [124,41] (by simp[maxLen]))]
   simp only
   have hc:qk s j [124,41]=decide (¬(j<s.length/\ch s j∉([124,41]:List Int))):=by
    unfold qk
    rw[cI,aJ,decide_eq_true_eq,decide_eq_true_eq,ic]
    simp only[aI,bU,or_false,decide_eq_true_eq]
    constructor
    ·rintro(h|⟨c,hc,h⟩)
     ·omega
     ·rintro⟨_,h2⟩;exact h2 (by rw[h];exact hc)
    ·intro h
     by_cases hj:j<s.length
     ·right
      refine⟨ch s j,?_,rfl⟩
      by_cases h2:ch s j=124\/ch s j=41
      ·exact h2
      ·exact absurd ⟨hj,h2⟩ h
     ·left;omega
   rw[hc]
   by_cases hgo:j<s.length/\ch s j∉([124,41]:List Int)
   ·rw[if_pos hgo]at hl
    rw[decide_eq_false (by simpa using hgo)]
    simp only[aH,cond_true]
    obtain⟨g1,g2,g3,g4⟩:=hr
    have hq:=bF j (by omega) (by omega)
    unfold OkP at hq
    cases h2:kD inner s j d with
    |none=>
     rw[h2]at hq hl
     obtain⟨r,kx,hq,hrl⟩:=hq
     rw[ae hq]
     simp only
     have hr0:r=[]:=dW (by omega)
     subst hr0
     rw[ae (qo (.inl rfl) (by rw[t.aS];omega) (by simp))]
     exact hk 0 _ (by omega) (.inr ⟨_,_,rfl,by simp[t.aS];omega,hl.symm,rfl⟩)
    |some p=>
     obtain⟨t2,j2⟩:=p
     rw[h2]at hq hl
     simp only at hq hl
     obtain⟨f1,f2,f3,f4⟩:=cf j (by omega) t2 j2 h2
     rw[ae hq]
     simp only
     rw[ae (qo (.inl rfl) (by rw[t.aS];omega) (by rw[t2.aS];omega))]
     exact hk (s.length-j2+1) _ (by omega) (.inl ⟨j2,.cat t t2,bZ,rfl,⟨by omega,by omega,by simp only[Rx.len];omega,g4,f4⟩,by omega,rfl,hl⟩)
   ·rw[if_neg hgo]at hl
    rw[decide_eq_true hgo]
    simp only[ay,cond_false]
    subst hl
    rfl
  ·simp only[aE,cond_false]
   exact⟨_,_,rfl,hrl⟩
theorem Si{s:List Int}(hb:Bytes s)(hs:s.length<=1600){q2 q3 q4 q5:RdF}{inner:Nat->Nat->Option (Rx×Nat)}{i d:Nat}(hi:i<=s.length)
 (yF:∀ j,i<=j->j<=s.length->OkP s d (2*(s.length-j)) (lq inner s j d) (q3 (kst s j d,()))) (cf:∀ j,i<=j->ke s j (lq inner s j d)):
 OkP s d (2*(s.length-i)) (Dh inner s i d) (AO N0 q2 q3 q4 q5 (kst s i d,())):=by
 have hsm:s.length<=maxLen:=by unfold maxLen;omega
 have sa:=oL s hsm
 unfold AO
 dsimp only
 unfold Dh
 have dV:=yF i (aw _) hi
 unfold OkP at dV
 cases ho:lq inner s i d with
 |none=>
  rw[ho]at dV
  obtain⟨r,k,hq,hrl⟩:=dV
  rw[ae hq]
  refine dU (λm x=>m=0/\x=((k,()),(r,(false,())))) (OkP s d (2*(s.length-i)) none) ?_ N0 0 _ (by unfold N0;omega) ⟨rfl,rfl⟩
  rintro m x ⟨_,rfl⟩ k hk
  simp only[aE,cond_false]
  grind
 |some p=>
  obtain⟨t0,j0⟩:=p
  rw[ho]at dV
  simp only at dV
  have hr0:=cf i (aw _) t0 j0 ho
  rw[ae dV]
  simp only
  generalize hrs:tu inner s d s.length.succ j0 t0=res
  refine dU (λm x=>(∃ (j:Nat) (t:Rx) (bZ:Nat),x=((kst s j d,()),(t.post,(true,())))/\Res s i t j/\s.length-j<bZ/\m=s.length-j+1/\tu inner s d bZ j t=res)\/(∃ r k,x=((k,()),(r,(false,())))/\r.length<=2*(s.length-i)/\res=none/\m=0)) (OkP s d (2*(s.length-i)) res) ?_ N0 (s.length-j0+1) _ (by unfold N0;omega) (.inl ⟨j0,t0,_,rfl,hr0,by omega,rfl,hrs⟩)
  rintro m x (⟨j,t,bZ,rfl,hr,hf,hm,hl⟩|⟨r,kk,rfl,hrl,rfl,rfl⟩) k hk
  ·obtain⟨bZ,rfl⟩:∃ q,bZ=q+1:=⟨bZ-1,by omega⟩
   simp only[tu]at hl
   simp only[aE,cond_true]
   rw[ae (sa j d 124)]
   simp only
   by_cases hgo:j<s.length/\ch s j=124
   ·rw[if_pos hgo]at hl
    rw[fO hgo.1 hgo.2]
    simp only[if_true,cond_true]
    obtain⟨g1,g2,g3,g4⟩:=hr
    have hq:=yF (j+1) (by omega) (by omega)
    unfold OkP at hq
    cases h2:lq inner s (j+1) d with
    |none=>
     rw[h2]at hq hl
     obtain⟨r,kx,hq,hrl⟩:=hq
     rw[ae hq]
     simp only
     rw[ae (qo (.inr rfl) (by rw[t.aS];omega) (by omega))]
     exact hk 0 _ (by omega) (.inr ⟨_,_,rfl,by simp[t.aS];omega,hl.symm,rfl⟩)
    |some p=>
     obtain⟨t2,j2⟩:=p
     rw[h2]at hq hl
     simp only at hq hl
     obtain⟨f1,f2,f3,f4⟩:=cf (j+1) (by omega) t2 j2 h2
     rw[ae hq]
     simp only
     rw[ae (qo (.inr rfl) (by rw[t.aS];omega) (by rw[t2.aS];omega))]
     exact hk (s.length-j2+1) _ (by omega) (.inl ⟨j2,.alt t t2,bZ,rfl,⟨by omega,by omega,by simp only[Rx.len];omega,g4,f4⟩,by omega,rfl,hl⟩)
   ·rw[if_neg hgo]at hl
    have:fg s j 124=false:=by
     unfold fg
     rw[gY,decide_eq_false_iff_not,decide_eq_false_iff_not]
     by_cases h:j<s.length
     ·exact .inr λh2=>hgo ⟨h,h2⟩
     ·exact .inl h
    rw[this]
    simp only[ap,if_false,cond_false]
    subst hl
    rfl
  ·simp only[aE,cond_false]
   exact⟨_,_,rfl,hrl⟩
end
noncomputable section
theorem Sj{s:List Int}(hb:Bytes s)(hs:s.length<=1600):∀ (n D i d:Nat),4*n<=D->s.length-i<n->i<=s.length->d<=i->OkP s d (2*(s.length-i)) (kc s n i d) ((cT N0 D).1 (kst s i d,())):=by
 intro n
 induction n with
 |zero=>intro D i d _ h;omega
 |succ n ih=>
  intro D i d hD hn hi hd
  obtain⟨D,rfl⟩:∃ q,D=q+1+1+1+1:=⟨D-4,by omega⟩
  have cf:∀ i d,s.length-i<n->ke s i (kc s n i d):=λi d h=>jX hb n i d h
  have dV:∀ j,i<=j->j<=s.length->OkP s d (2*(s.length-j)) (mI (kc s n) s j d) ((cT N0 (D+1)).2.2.2 (kst s j d,())):=λj hij hj=>
   Se (q2:=(cT N0 (D)).1) (q3:=(cT N0 (D)).2.1) (q4:=(cT N0 (D)).2.2.1) (q5:=(cT N0 (D)).2.2.2) hb hs (bE hd hij) (λhlt=>ih D (j+1) (d+1) (by omega) (by omega) (by omega) (by omega)) (λt j2 h=>by
    rcases aj j s.length with hlt|hge
    ·exact cf (j+1) (d+1) (by omega) t j2 h
    ·cases n with
     |zero=>cases h
     |succ n=>exact jX hb (n+1) (j+1) (d+1) (by omega) t j2 h)
  have HL:∀ j,i<=j->ke s (j+1) (kc s n (j+1) (d+1)):=λj hij t j2 h=>by
   rcases aj j s.length with hlt|hge
   ·exact cf (j+1) (d+1) (by omega) t j2 h
   ·cases n with
    |zero=>cases h
    |succ n=>exact jX hb (n+1) (j+1) (d+1) (by omega) t j2 h
  have bF:∀ j,i<=j->j<=s.length->OkP s d 0 (kD (kc s n) s j d) ((cT N0 (D+1+1)).2.2.1 (kst s j d,())):=λj hij hj=>
   HK (q2:=(cT N0 (D+1)).1) (q3:=(cT N0 (D+1)).2.1) (q4:=(cT N0 (D+1)).2.2.1) (q5:=(cT N0 (D+1)).2.2.2) hb hs (dV j hij hj) (uV hb (HL j hij))
  have yF:∀ j,i<=j->j<=s.length->OkP s d (2*(s.length-j)) (lq (kc s n) s j d) ((cT N0 (D+1+1+1)).2.1 (kst s j d,())):=λj hij hj=>
   Sh (q2:=(cT N0 (D+1+1)).1) (q3:=(cT N0 (D+1+1)).2.1) (q4:=(cT N0 (D+1+1)).2.2.1) (q5:=(cT N0 (D+1+1)).2.2.2) hb hs hj (λj2 hj2 hj3=>bF j2 (bE hij hj2) hj3) (λj2 hj2=>qm hb (HL j2 (bE hij hj2)))
  exact Si (q2:=(cT N0 (D+1+1+1)).1) (q3:=(cT N0 (D+1+1+1)).2.1) (q4:=(cT N0 (D+1+1+1)).2.2.1) (q5:=(cT N0 (D+1+1+1)).2.2.2) hb hs hi yF (λj hij t j2 h=>qn hb n cf (by omega) t j2 h)
def KF(o:Except Int Rx):(List Pc×(Int×Unit))×Unit:=match o with
 |.ok t=>((t.post,(0,())),())
 |.error e=>(([],(e,())),())
theorem KG{s:List Int}(hb:Bytes s)(hsm:s.length<=maxLen):p60 N0 (s,())=some (KF (fX s)):=by
 delta p60 Bd;unfold fX
 dsimp only
 by_cases hs:1600<s.length
 ·rw[if_pos hs,decide_eq_true (show(1600:Int)<((s.length:Nat):Int) by omega),cond_true]
  rfl
 rw[if_neg hs,decide_eq_false (show ¬(1600:Int)<((s.length:Nat):Int) by omega),cond_false]
 have hq:OkP s ((0:Nat):Int) (2*(s.length-0)) (kc s s.length.succ 0 0) (RR N0 (kst s 0 ((0:Nat):Int),())):=Sj hb (by omega) s.length.succ N0 0 0 (by unfold N0;omega) (by omega) (az _) (aw _)
 have hk:kst s 0 ((0:Nat):Int)=(s,((0:Int),(0:Int))):=rfl
 rw[hk]at hq
 unfold OkP at hq
 cases ho:kc s s.length.succ 0 0 with
 |none=>
  rw[ho]at hq
  obtain⟨r,k,hq,_⟩:=hq
  rw[ae hq]
  rfl
 |some p=>
  obtain⟨t,i⟩:=p
  rw[ho]at hq
  simp only at hq
  rw[ae hq]
  simp only[aE,ay,cond_false]
  have h1:decide ((kst s i ((0:Nat):Int)).2.1<((s.length:Nat):Int))=decide (i<s.length):=by
   rw[decide_eq_decide];show(i:Int)<_↔_;omega
  rw[h1]
  by_cases h2:i<s.length
  ·rw[if_pos h2,decide_eq_true h2];rfl
  rw[if_neg h2,decide_eq_false h2,cond_false]
  rw[t.aS]
  by_cases h3:400<t.len
  ·rw[if_pos h3,decide_eq_true (show(400:Int)<((t.len:Nat):Int) by omega)];rfl
  ·rw[if_neg h3,decide_eq_false (show ¬(400:Int)<((t.len:Nat):Int) by omega)];rfl
theorem sb{s:List Int}(hb:Bytes s){t:Rx}(h:fX s=.ok t):t.ok/\t.len<=400/\t.len+1<=2*s.length:=by
 unfold fX at h
 split at h
 ·cases h
 split at h
 ·cases h
 rename_i t2 i ho
 obtain⟨h1,h2,h3,h4⟩:=jX hb _ _ _ (by omega) _ _ ho
 grind
end
noncomputable section
theorem aV{A R:Type}{J:A->Option R}{body:(A->Option R)->Option R}(x:A)(h:∀ K,body K=K x){r:Option R}(hr:J x=r):aq J body=r:=(h J).trans hr
theorem dR{A R:Type}{P:Option R->Prop}{J:A->Option R}{body:(A->Option R)->Option R}(x:A)(h:∀ K,body K=K x)(hr:P (J x)):P (aq J body):=by simp_all
def OK(l:List Int)(c:Int):Bool:=l.any λb=>decide (b=c)
theorem KH(l:List Int)(c:Int):OK l c=decide (c∈l):=by
 unfold OK
 grind
theorem OL(l:List Int)(hl:l.length<=maxLen)(c:Int):AT N0 (l,(c,()))=some ((decide (c∈l),()),()):=by
 delta AT Ld Bd Wi
 simp only
 rw[<-KH]
 refine aZ (λm x r=>∃ j:Nat,x=((),((j:Int),()))/\m+j=l.length/\r=some ((OK (l.drop j) c,()),())) ?_ N0 l.length _ _ (by have:=gd hl;omega) ⟨0,rfl,rfl,by rw[dm]⟩
 rintro m x r ⟨j,rfl,hm,rfl⟩ k hk
 simp only
 rcases aj j l.length with hj|hj
 ·have n1:(0:Int)<=(j:Int):=by omega
  rw[decide_eq_true (show(j:Int)<((l.length:Nat):Int) by omega),cond_true,if_pos n1,aa,List.getElem?_eq_getElem hj]
  simp only[aX hj hl]
  unfold OK
  rw[cq hj,List.any_cons]
  cases hd:decide (l[j]=c)
  ·rw[cond_false,cP]
   exact hk (m-1) _ _ (by omega) ⟨j+1,rfl,by omega,rfl⟩
  rfl
 ·rw[decide_eq_false (show ¬(j:Int)<((l.length:Nat):Int) by omega),cond_false,kH hj]
  rfl
theorem qp(l:List Int)(hl:l.length<=maxLen)(c:Int):AS N0 (l,(c,()))=some ((decide (c∈l),()),()):=by grind [AS,AT,OL]
def sd(n:Nat):Int:=if n<10 then 48+(n:Int)else 87+(n:Int)
def KI(c:Nat):List Int:=if c=10 then [92,110]else if c=9 then [92,116]else if c=13 then [92,114]else
 if c<32\/126<c then [92,120,sd (c / 16),sd (c % 16)]else if c=92 then [92,92]else [(c:Int)]
theorem KJ:∀ c:Fin 256,N6 N0 (((c.val:Nat):Int),(([]:List Int),()))=some ((KI c.val,()),()):=by decide +kernel
theorem KK{c:Nat}(h:c<256):N6 N0 ((c:Int),(([]:List Int),()))=some ((KI c,()),()):=KJ ⟨c,h⟩
theorem KL:∀ c:Fin 256,J6 N0 (((c.val:Nat):Int),())=some ((mC ((c.val:Nat):Int),()),()):=by decide +kernel
theorem OM{c:Int}(h:0<=c/\c<=255):J6 N0 (c,())=some ((mC c,()),()):=by
 have:=KL ⟨c.toNat,by omega⟩
 grind
def Vw:List Int:=[48,49,50,51,52,53,54,55,56,57,97,98,99,100,101,102]
theorem Bi:∀ q:Fin 16,cn Vw ((q.val:Nat):Int) (((q.val+1:Nat)):Int)=[sd q.val]:=by decide +kernel
theorem KN:∀ q:Fin 16,qj (sd q.val)=some ((q.val:Nat):Int):=by decide +kernel
theorem HM{q:Nat}(h:q<16):qj (sd q)=some (q:Int):=KN ⟨q,h⟩
theorem xc{h v:Int}(e:qj h=some v):sd v.toNat=h:=by
 unfold qj at e
 unfold sd
 grind
def mA(s:List Int)(c:Nat):Bool:=(decide (c=10)&&decide (s[1]?=some 110))||(decide (c=9)&&decide (s[1]?=some 116))||(decide (c=13)&&decide (s[1]?=some 114))
def mB(s:List Int)(c:Nat):Bool:=decide (s[1]?=some 120)&&(decide (s[2]?=some (sd (c / 16)))&&decide (s[3]?=some (sd (c % 16))))
theorem Vx{r:List Int}{c:Nat}(h:mA (92::r) c=true):rdS (92::r)=some ((c:Int),2):=by
 unfold mA at h
 cases r with
 |nil=>simp at h
 |cons d r2=>
  simp only[List.getElem?_cons_succ,List.getElem?_cons_zero,bh,aJ,ag,decide_eq_true_eq]at h
  rcases h with(⟨rfl,rfl⟩|⟨rfl,rfl⟩)|⟨rfl,rfl⟩ <;> rfl
theorem Vy{r:List Int}{c:Nat}(hc:c<256)(h:mB (92::r) c=true):rdS (92::r)=some ((c:Int),4):=by
 unfold mB at h
 match r with
 |[]=>simp at h
 |[d]=>simp at h
 |[d,x]=>simp at h
 |d::x::y::r4=>
  simp only[List.getElem?_cons_succ,List.getElem?_cons_zero,bh,ag,decide_eq_true_eq]at h
  grind [HM,rdS]
def KO(s:List Int):Option (Int×Nat):=match s[1]? with
 |some d=>if 32<=d/\d<=126/\mC d=false then some (d,2)else none
 |none=>none
theorem ON{r:List Int}(hA:∀ c,c<256->mA (92::r) c=false)(hB:∀ c,c<256->mB (92::r) c=false):rdS (92::r)=KO (92::r):=by
 match r with
 |[]=>rfl
 |d::r2=>
  have a1:=hA 10 (by omega)
  have a2:=hA 9 (by omega)
  have a3:=hA 13 (by omega)
  simp only[mA,List.getElem?_cons_succ,List.getElem?_cons_zero,bh]at a1 a2 a3
  have d1:¬d=110:=by simpa using a1
  have d2:¬d=116:=by simpa using a2
  have d3:¬d=114:=by simpa using a3
  simp only[rdS,KO,List.getElem?_cons_succ,List.getElem?_cons_zero,ne_eq,not_true_eq_false,if_false,d1,d2,d3]
  by_cases d4:d=120
  ·subst d4
   rw[if_pos rfl]
   have hw:¬((32:Int)<=120/\(120:Int)<=126/\mC 120=false):=by decide
   rw[if_neg hw]
   match r2 with
   |[]=>rfl
   |[x]=>rfl
   |x::y::r4=>
    simp only
    cases hx:qj x with
    |none=>rfl
    |some a=>
     cases hy:qj y with
     |none=>rfl
     |some b=>
      exfalso
      have ha:=oK hx
      have hb:=oK hy
      have:=hB (16*a+b).toNat (by omega)
      have e1:(16*a+b).toNat / 16=a.toNat:=by omega
      have e2:(16*a+b).toNat % 16=b.toNat:=by omega
      simp[mB,e1,e2,xc hx,xc hy]at this
  ·rw[if_neg d4]
   cases hw:mC d
   ·by_cases h1:32<=d/\d<=126
    ·rw[if_neg (by simp;omega),if_pos ⟨h1.1,h1.2,rfl⟩]
    ·rw[if_pos (by simp;omega),if_neg (λh=>h1 ⟨h.1,h.2.1⟩)]
   ·rw[if_pos (.inl rfl),if_neg (λh=>by cases h.2.2)]
theorem yG{s:List Int}(hb:Bytes s)(hs:s.length<=maxLen):Ho N0 (s,())=some (rdR (rdS s),()):=by
 delta Ho Bd Wi
 dsimp only
 cases s with
 |nil=>rfl
 |cons c r=>
  have e0:decide ((c::r:List Int)=[])=false:=rfl
  have n0:(0:Int)<=0:=by omega
  have g0:(c::r)[((0:Int)).toNat]?=some c:=rfl
  rw[e0,cond_false,if_pos n0,g0]
  simp only[if_pos n0]
  by_cases hc:c=92
  ·subst hc
   simp only[decide_true,ay,cond_false]
   refine aZ (λm x q=>∃ c:Nat,x=((),((c:Int),()))/\m+c=256/\(∀ c',c' < c->mA (92::r) c'=false/\mB (92::r) c'=false)/\q=some (rdR (rdS (92::r)),())) ?_ N0 256 _ _ (by unfold N0;omega) ⟨0,rfl,rfl,λc' h=>by omega,rfl⟩
   rintro m x q ⟨c,rfl,hm,fK,rfl⟩ k hk
   dsimp only
   rcases aj c 256 with hc|hc
   ·have w8:IntKind.wrap .u8 (c:Int)=(c:Int):=jW hc
    rw[decide_eq_true (show(c:Int)<256 by omega),cond_true,w8,ae (KK hc)]
    dsimp only
    refine aV ((),(mA (92::r) c,())) (λK=>?_) ?_
    ·have Bj:decide (cn (92::r) 0 2=[92,110])=decide ((92::r:List Int)[1]?=some 110)/\decide (cn (92::r) 0 2=[92,116])=decide ((92::r:List Int)[1]?=some 116)/\decide (cn (92::r) 0 2=[92,114])=decide ((92::r:List Int)[1]?=some 114):=by
      unfold cn
      cases r with
      |nil=>exact⟨rfl,rfl,rfl⟩
      |cons d r2=>simp
     have hlen:∀ v:Int,decide (1<(((92::r:List Int).length:Nat):Int))=false->decide ((92::r:List Int)[1]?=some v)=false:=by
      intro v h
      cases r with
      |nil=>rfl
      |cons d r2=>simp at h;omega
     have ET:decide (1<(((92::r:List Int).length:Nat):Int))=true->(0:Int)<=0/\(0:Int)<=2/\(2:Int)<=(((92::r:List Int).length:Nat):Int):=by
      intro h
      rw[decide_eq_true_eq]at h
      omega
     have h12:∀ (v:Int) (b:Bool),v≠92->b=decide ((92::r:List Int)[1]?=some v)->decide (cn (92::r) 0 2=[92,v])=decide ((92::r:List Int)[1]?=some v)->
      (bif decide ((([92,v]:List Int).length:Int)=2)then(if(0:Int)<=1 then(match([92,v]:List Int)[((1:Int)).toNat]? with|some v12=>(bif(!decide (v12=92))then(bif decide (1<(((92::r:List Int).length:Nat):Int))then(if(0:Int)<=0/\(0:Int)<=2/\(2:Int)<=(((92::r:List Int).length:Nat):Int)then K ((),(decide (cn (92::r) 0 2=[92,v]),()))else none)else K ((),(false,())))else K ((),(false,())))|none=>none)else none)else K ((),(false,())))=K ((),(b,())):=by
      intro v b hv hb hcu
      have e1:decide ((([92,v]:List Int).length:Int)=2)=true:=rfl
      have e2:([92,v]:List Int)[((1:Int)).toNat]?=some v:=rfl
      have e3:(!decide (v=92))=true:=by simp[hv]
      rw[e1,cond_true,if_pos (show(0:Int)<=1 by omega),e2]
      dsimp only
      rw[e3,cond_true]
      cases hl:decide (1<(((92::r:List Int).length:Nat):Int))
      ·rw[cond_false,hb,hlen v hl]
      ·rw[cond_true,if_pos (ET hl),hcu,hb]
     unfold KI mA
     by_cases h1:c=10
     ·rw[if_pos h1]
      refine h12 110 _ (by decide) ?_ Bj.1
      simp[h1]
     rw[if_neg h1]
     by_cases h2:c=9
     ·rw[if_pos h2]
      refine h12 116 _ (by decide) ?_ Bj.2.1
      simp[h2]
     rw[if_neg h2]
     by_cases h3:c=13
     ·rw[if_pos h3]
      refine h12 114 _ (by decide) ?_ Bj.2.2
      simp[h3]
     rw[if_neg h3]
     have e:((decide (c=10)&&decide ((92::r:List Int)[1]?=some 110))||(decide (c=9)&&decide ((92::r:List Int)[1]?=some 116))||(decide (c=13)&&decide ((92::r:List Int)[1]?=some 114)))=false:=by simp[h1,h2,h3]
     rw[e]
     split
     ·rfl
     split
     ·rfl
     ·rfl
    ·dsimp only
     cases hA:mA (92::r) c
     ·rw[cond_false]
      have w16:IntKind.wrap .i64 (Int.tdiv (c:Int) 16)=((c / 16:Nat):Int):=by
       have:Int.tdiv (c:Int) 16=((c / 16:Nat):Int):=by
        rw[show(16:Int)=((16:Nat):Int) by rfl];exact ol c 16 |>.symm
       rw[this];exact bH (by omega)
      have t16:Int.tmod (c:Int) 16=((c % 16:Nat):Int):=by
       rw[show(16:Int)=((16:Nat):Int) by rfl];exact Int.ofNat_tmod c 16 |>.symm
      have w17:IntKind.wrap .i64 (((c / 16:Nat):Int)+1)=((c / 16+1:Nat):Int):=by rw[<-bH (n:=c / 16+1) (by omega)];rfl
      have w18:IntKind.wrap .i64 (((c % 16:Nat):Int)+1)=((c % 16+1:Nat):Int):=by rw[<-bH (n:=c % 16+1) (by omega)];rfl
      have w19:IntKind.wrap .i64 ((c:Int)+1)=((c+1:Nat):Int):=by rw[<-bH (n:=c+1) (by omega)];rfl
      have c1:=Bi ⟨c / 16,by omega⟩
      have c2:=Bi ⟨c % 16,by omega⟩
      unfold Vw at c1 c2
      dsimp only at c1 c2
      have n16:¬((16:Int)=0):=by omega
      rw[w16,t16,w17,w18,w19,if_neg n16,if_neg n16,if_pos (⟨by omega,by omega,by simp;omega⟩),c1,if_pos (by simp),if_neg n16,if_neg n16,if_pos (⟨by omega,by omega,by simp;omega⟩),c2,if_pos (by simp)]
      refine aV ((),(mB (92::r) c,())) (λK=>?_) ?_
      ·unfold mB
       match r with
       |[]=>rfl
       |[d]=>simp
       |[d,x]=>simp
       |d::x::y::r4=>
        have l3:decide ((3:Int)<(((92::d::x::y::r4:List Int).length:Nat):Int))=true:=by
         rw[decide_eq_true_eq];simp;omega
        rw[l3,cond_true,if_pos ⟨by omega,by omega,by simp;omega⟩]
        have e:decide (cn (92::d::x::y::r4) 0 4=[92,120]++[sd (c / 16)]++[sd (c % 16)])=(decide (d=120)&&(decide (x=sd (c / 16))&&decide (y=sd (c % 16)))):=by
         rw[<-Bool.decide_and,<-Bool.decide_and,decide_eq_decide]
         unfold cn
         simp
        rw[e]
        simp
      ·dsimp only
       cases hB:mB (92::r) c
       ·rw[cond_false]
        refine hk (m-1) _ _ (by omega) ⟨c+1,rfl,by omega,λc' hc'=>?_,rfl⟩
        by_cases e:c'=c
        ·subst e;exact⟨hA,hB⟩
        ·exact fK c' (by omega)
       ·rw[cond_true,Vy hc hB]
        rfl
     ·rw[cond_true,Vx hA]
      rfl
   ·have hc2:c=256:=by omega
    subst hc2
    rw[decide_eq_false (by omega),cond_false,ON (λc hc=>(fK c hc).1) (λc hc=>(fK c hc).2)]
    unfold KO
    match r with
    |[]=>rfl
    |d::r2=>
     have hd:=hb d (by simp)
     have l1:decide ((1:Int)<(((92::d::r2:List Int).length:Nat):Int))=true:=by
      rw[decide_eq_true_eq];simp;omega
     have n1:(0:Int)<=1:=by omega
     have g1:(92::d::r2:List Int)[((1:Int)).toNat]?=some d:=rfl
     have g2:(92::d::r2:List Int)[1]?=some d:=rfl
     rw[g2]
     dsimp only
     refine aV ((),(decide (32<=d/\d<=126/\mC d=false),())) (λK=>?_) ?_
     ·rw[l1,cond_true,if_pos n1,g1]
      dsimp only
      by_cases h1:32<=d
      ·rw[decide_eq_true h1,cond_true]
       by_cases h2:d<=126
       ·rw[decide_eq_true h2,cond_true,ae (OM hd)]
        cases mC d <;> simp[h1,h2]
       ·rw[decide_eq_false h2,cond_false]
        simp[h2]
      ·rw[decide_eq_false h1,cond_false]
       simp[h1]
     ·dsimp only
      by_cases h:32<=d/\d<=126/\mC d=false
      ·rw[decide_eq_true h,cond_true,if_pos h,if_pos n1,g1]
       rfl
      ·rw[decide_eq_false h,cond_false,if_neg h]
       rfl
  ·have hc2:decide (c=92)=false:=decide_eq_false hc
   rw[hc2]
   simp only[aH,cond_true,rdS,ne_eq,hc,not_false_eq_true,if_true]
   rfl
end
noncomputable section
theorem EU(f:Nat->Bool){i:Nat}(h:i<256):Hn N0 (ofB f,((i:Int),()))=some ((f i,()),()):=by
 delta Hn Bd Wi
 dsimp only
 have hw:i / 64<4:=by omega
 have hl:i % 64<64:=eG _ (by omega)
 have w1:IntKind.wrap .i64 (Int.tdiv (i:Int) 64)=((i / 64:Nat):Int):=by rw[Kw];exact bH (by omega)
 have g:=jm (l:=f) hw
 have n1:¬((64:Int)=0):=by omega
 have n2:¬((2:Int)=0):=by omega
 have n3:(0:Int)<=((i / 64:Nat):Int):=by omega
 rw[if_neg n1,w1,if_pos n3,aa,g]
 simp only[if_neg n1,if_neg n2,Kx]
 refine aZ (λm x q=>∃ j:Nat,x=((),(((br f (i / 64) / 2 ^ j:Nat):Int),((j:Int),())))/\m+j=i % 64/\q=some ((f i,()),())) ?_ N0 (i % 64) _ _ (by unfold N0;omega) ⟨0,by simp,by omega,rfl⟩
 rintro m x q ⟨j,rfl,hm,rfl⟩ k hk
 dsimp only
 have hlt:=dM f (i / 64)
 by_cases hj:j<i % 64
 ·have w2:IntKind.wrap .u64 (Int.tdiv ((br f (i / 64) / 2 ^ j:Nat):Int) 2)=((br f (i / 64) / 2 ^ (j+1):Nat):Int):=by
   have e:Int.tdiv ((br f (i / 64) / 2 ^ j:Nat):Int) 2=((br f (i / 64) / 2 ^ j / 2:Nat):Int):=by
    rw[show(2:Int)=((2:Nat):Int) by rfl];exact ol _ 2 |>.symm
   rw[e,nX,<-jB]
   exact wrap_u64 (n9 (rm _ _) hlt)
  have w3:IntKind.wrap .i64 ((j:Int)+1)=((j+1:Nat):Int):=by rw[<-bH (n:=j+1) (by omega)];rfl
  rw[decide_eq_true (show(j:Int)<((i % 64:Nat):Int) by omega),cond_true,w2,w3]
  exact hk (m-1) _ _ (by omega) ⟨j+1,rfl,by omega,rfl⟩
 ·have hj2:j=i % 64:=by omega
  rw[decide_eq_false (show ¬(j:Int)<((i % 64:Nat):Int) by omega),cond_false]
  have hb:=dn f (i / 64) (i % 64)
  rw[qS,<-hj2]at hb
  have e2:64*(i / 64)+j=i:=by omega
  rw[e2,decide_eq_true (show j<64 by omega),bG]at hb
  have e:Int.tmod ((br f (i / 64) / 2 ^ j:Nat):Int) 2=((br f (i / 64) / 2 ^ j % 2:Nat):Int):=by
   rw[show(2:Int)=((2:Nat):Int) by rfl];exact Int.ofNat_tmod _ 2 |>.symm
  have e3:decide (Int.tmod ((br f (i / 64) / 2 ^ j:Nat):Int) 2=1)=f i:=by
   rw[<-hb,e,decide_eq_decide];omega
  rw[e3]
def bits(f:Nat->Bool):List Bool:=(List.range 256).map f
theorem Bk(f:Nat->Bool):(bits f).length=256:=by simp[bits]
theorem nC(f:Nat->Bool){i:Nat}(h:i<256):(bits f)[i]?=some (f i):=by simp_all [bits]
theorem uW{f g:Nat->Bool}(h:∀ i,i<256->f i=g i):bits f=bits g:=by
 unfold bits
 simp_all
theorem xd:List.replicate ((256:Int)).toNat false=bits (λ_=>false):=by decide +kernel
theorem Bl(f:Nat->Bool){i:Nat}(h:i<256):(bits f).set i true=bits (λx=>f x||decide (x=i)):=by
 apply List.ext_getElem?
 intro j
 rw[List.getElem?_set]
 by_cases hj:j<256
 ·have g1:=nC (λx=>f x||decide (x=i)) hj
  have g2:=nC f hj
  rw[g1,g2]
  by_cases e:i=j
  all_goals grind
 ·have e1:(bits λx=>f x||decide (x=i))[j]?=none:=List.getElem?_eq_none (by rw[Bk];omega)
  have e2:(bits f)[j]?=none:=List.getElem?_eq_none (by rw[Bk];omega)
  simp_all
theorem OO{f:Nat->Bool}{c:Nat}(hz:∀ x,c<=x->f x=false):br f (c / 64)+2 ^ (c % 64)=br (λx=>f x||decide (x=c)) (c / 64):=by
 have hi:c % 64<64:=eG _ (by omega)
 have hlt:br f (c / 64)<2 ^ (c % 64):=by
  apply Nat.lt_pow_two_of_testBit
  intro j hj
  rw[dn,hz _ (by omega),Bool.and_false]
 have e:=Ku (l:=f) (w:=c / 64) hi
 have e2:64*(c / 64)+c % 64=c:=by omega
 rw[e2]at e
 rw[<-e,Nat.or_comm,Nat.add_comm]
 have:=wA hlt 1
 simp_all
theorem OP(l:List Bool)(hl:l.length<=maxLen):Da N0 (l,())=some ((ofB (λx=>(l[x]?).getD false),()),()):=by
 delta Da Ld Bd Wi
 dsimp only
 have z:([0,0,0,0]:List Int)=ofB (λx=>decide (x<0)&&(l[x]?).getD false):=by
  rw[show([0,0,0,0]:List Int)=zS by rfl]
  refine(gK.2 ?_).symm
  simp[ew]
 refine aZ (λm x q=>∃ c:Nat,x=(([0,0,0,0],(ofB (λx=>decide (x<c)&&(l[x]?).getD false),())),((c:Int),()))/\m+c=256/\q=some ((ofB (λx=>(l[x]?).getD false),()),())) ?_ N0 256 _ _ (by unfold N0;omega) ⟨0,by rw[<-z];rfl,rfl,rfl⟩
 rintro m x q ⟨c,rfl,hm,rfl⟩ k hk
 dsimp only
 refine aV (([0,0,0,0],(ofB (λx=>decide (x<c)&&(l[x]?).getD false),())),(decide (c<256)&&decide (c<l.length),())) (λK=>?_) ?_
 ·by_cases h:c<256
  ·rw[decide_eq_true (show(c:Int)<256 by omega),cond_true,decide_eq_true h,bG]
   have:decide ((c:Int)<((l.length:Nat):Int))=decide (c<l.length):=by rw[decide_eq_decide];omega
   rw[this]
  ·rw[decide_eq_false (show ¬(c:Int)<256 by omega),cond_false,decide_eq_false h,dA]
 dsimp only
 by_cases h:c<256/\c<l.length
 ·obtain⟨hc,hcl⟩:=h
  have n0:(0:Int)<=(c:Int):=by omega
  have Vz:l[c]?=some l[c]:=List.getElem?_eq_getElem hcl
  rw[decide_eq_true hc,decide_eq_true hcl,bG,cond_true,if_pos n0,aa,Vz]
  dsimp only
  have w3:IntKind.wrap .i64 ((c:Int)+1)=((c+1:Nat):Int):=by rw[<-bH (n:=c+1) (by omega)];rfl
  refine aV (([0,0,0,0],(ofB (λx=>decide (x<c+1)&&(l[x]?).getD false),())),()) (λK=>?_) ?_
  ·have Qk:∀ x:Nat,(decide (x<c+1)&&(l[x]?).getD false)=((decide (x<c)&&(l[x]?).getD false)||(decide (x=c)&&l[c])):=by
    intro x
    by_cases hx:x=c
    ·subst hx
     have h1:¬x<x:=by omega
     have h2:x<x+1:=by omega
     simp[h1,h2,Vz]
    ·have:(x<c+1)↔(x<c):=by omega
     simp[this,hx]
   cases hb:l[c]
   ·rw[cond_false]
    have:ofB (λx=>decide (x<c+1)&&(l[x]?).getD false)=ofB (λx=>decide (x<c)&&(l[x]?).getD false):=iO λx hx=>by rw[Qk x,hb];simp
    rw[this]
   ·rw[cond_true]
    have hw:c / 64<4:=by omega
    have hl6:c % 64<64:=eG _ (by omega)
    have w1:IntKind.wrap .i64 (Int.tdiv (c:Int) 64)=((c / 64:Nat):Int):=by rw[Kw];exact bH (by omega)
    have w2:IntKind.wrap .u64 (Int.tmod (c:Int) 64)=((c % 64:Nat):Int):=by rw[Kx];exact wrap_u64 (by omega)
    have n1:¬((64:Int)=0):=by omega
    have n2:¬(((c % 64:Nat):Int)<0):=by omega
    have n3:(0:Int)<=((c / 64:Nat):Int):=by omega
    have g:(ofB (λx=>decide (x<c)&&(l[x]?).getD false))[((c / 64:Nat):Int).toNat]?=some ((br (λx=>decide (x<c)&&(l[x]?).getD false) (c / 64):Nat):Int):=by rw[aa];exact jm hw
    rw[if_neg n1,if_neg n1,w1,if_pos n3,g]
    simp only[if_neg n1,w2,if_neg n2,if_pos n3,g,yB hl6]
    have hab:=OO (f:=λx=>decide (x<c)&&(l[x]?).getD false) (c:=c) (λx hx=>by
     have:¬x<c:=by omega
     simp[this])
    have hlt:=dM (λx=>(decide (x<c)&&(l[x]?).getD false)||decide (x=c)) (c / 64)
    have w4:IntKind.wrap .u64 (((br (λx=>decide (x<c)&&(l[x]?).getD false) (c / 64):Nat):Int)+((2 ^ (c % 64):Nat):Int))=((br (λx=>(decide (x<c)&&(l[x]?).getD false)||decide (x=c)) (c / 64):Nat):Int):=by
     rw[<-hab,<-rk]
     exact wrap_u64 (by rw[hab];exact hlt)
    rw[w4,aa]
    have db:(ofB (λx=>decide (x<c)&&(l[x]?).getD false)).set (c / 64) ((br (λx=>(decide (x<c)&&(l[x]?).getD false)||decide (x=c)) (c / 64):Nat):Int)=ofB (λx=>(decide (x<c)&&(l[x]?).getD false)||decide (x=c)):=
     yA hw rfl (λv j hv hne hj=>by
      have:¬(64*v+j=c):=by omega
      simp[this])
    rw[db]
    have:ofB (λx=>decide (x<c+1)&&(l[x]?).getD false)=ofB (λx=>(decide (x<c)&&(l[x]?).getD false)||decide (x=c)):=iO λx hx=>by rw[Qk x,hb];simp
    rw[this]
  ·dsimp only
   rw[w3]
   exact hk (m-1) _ _ (by omega) ⟨c+1,rfl,by omega,rfl⟩
 ·have hf:(decide (c<256)&&decide (c<l.length))=false:=by
   rw[gY,decide_eq_false_iff_not,decide_eq_false_iff_not]
   omega
  rw[hf,cond_false]
  have:ofB (λx=>decide (x<c)&&(l[x]?).getD false)=ofB (λx=>(l[x]?).getD false):=iO λx hx=>by
   by_cases hxc:x<c
   ·simp[hxc]
   ·have:l[x]?=none:=List.getElem?_eq_none (by omega)
    simp[this]
  rw[this]
theorem se(f:Nat->Bool):Da N0 (bits f,())=some ((ofB f,()),()):=by grind [OP,maxLen,bits,iO,nC]
theorem Bm(f g:Nat->Bool):J5 N0 (3,(ofB f,(ofB g,())))=some ((ofB (λx=>!f x),()),()):=by
 delta J5 Ap Bd Wi
 dsimp only
 refine aZ (λm x q=>∃ c:Nat,x=(([0,0,0,0],()),((List.range c).map (λx=>!f x),((c:Int),())))/\m+c=256/\q=some ((ofB (λx=>!f x),()),())) ?_ N0 256 _ _ (by unfold N0;omega) ⟨0,rfl,rfl,rfl⟩
 rintro m x q ⟨c,rfl,hm,rfl⟩ k hk
 dsimp only
 rcases aj c 256 with hc|hc
 ·have w3:IntKind.wrap .i64 ((c:Int)+1)=((c+1:Nat):Int):=by rw[<-bH (n:=c+1) (by omega)];rfl
  rw[decide_eq_true (show(c:Int)<256 by omega),cond_true,ae (EU f hc)]
  dsimp only
  rw[ae (EU g hc)]
  dsimp only
  have f1:(((List.range c).map (λx=>!f x)).length+([!f c]:List Bool).length)*1<=140737488355328:=by simp;omega
  have f2:((List.range c).map (λx=>!f x)).length+([!f c]:List Bool).length<=9223372036854775807:=by simp;omega
  simp only[aE,show decide ((3:Int)=0)=false from rfl,show decide ((3:Int)=1)=false from rfl,show decide ((3:Int)=2)=false from rfl,cond_false]
  rw[if_pos f1,if_pos f2,w3]
  refine hk (m-1) _ _ (by omega) ⟨c+1,?_,by omega,rfl⟩
  rw[dY,cO]
  rfl
 ·have hc2:c=256:=by omega
  subst hc2
  rw[decide_eq_false (by omega),cond_false]
  exact ae (se _) _
end
end Go.Proofs.YtphipehmbefejaaGreat.Rf
