/- A part of a proof that the given statement of this claim is true of the program. No conditions. Printed by pack2.py. -/
import Derived.Test.YtphipehmbefejaaGreatU4
set_option linter.unusedVariables false
set_option linter.unusedSimpArgs false
namespace Go.Proofs.YtphipehmbefejaaGreat.Rf
open Go
noncomputable section
theorem qq{A R:Type}{P:Option R->Prop}{J:A->Option R}{body:(A->Option R)->Option R}(h:∀ K,(∀ x,K x=J x)->P (body K)):P (aq J body):=h J λ_=>rfl
def OkQ(o:Option (Rx×Nat))(z:Option ((List Pc×(Int×Unit))×Unit)):Prop:=
 match o with
 |some (t,j)=>z=some ((t.post,((j:Int),())),())
 |none=>∃ k:Int,z=some (([],(k,())),())
theorem uX(s:List Int){i:Nat}(hi:i<=s.length):((0:Int)<=(i:Int)/\(i:Int)<=((s.length:Nat):Int)/\((s.length:Nat):Int)<=((s.length:Nat):Int))/\cn s (i:Int) ((s.length:Nat):Int)=s.drop i:=by grind [cn,List.take_of_length_le]
theorem uY{s:List Int}(hs:s.length<=maxLen)(i:Nat):(s.drop i).length<=maxLen:=by rw[bD];omega
theorem OQ{s:List Int}(hb:Bytes s)(hs0:s.length<=1600){i:Nat}(hi:i<=s.length):OkQ (brS s i) (N7 N0 (s,((i:Int),()))):=by
 have hs:s.length<=maxLen:=by unfold maxLen;omega
 rw[yD]
 delta N7 Ld Bd Wi
 dsimp only
 rw[if_pos (show(0:Int)<=256/\(256:Int)<=256 by omega),if_pos (show((256:Int)).toNat*1<=140737488355328 by decide),xd]
 refine dR (P:=OkQ _) ((bits (λ_=>false),()),(fg s i 94,())) (λK=>?_) ?_
 ·unfold fg
  rcases aj i s.length with h|h
  ·have n0:(0:Int)<=(i:Int):=by omega
   rw[decide_eq_true (show(i:Int)<((s.length:Nat):Int) by omega),cond_true,if_pos n0,aa,gL h,decide_eq_true h,bG]
  ·rw[decide_eq_false (show ¬(i:Int)<((s.length:Nat):Int) by omega),cond_false,decide_eq_false (show ¬i<s.length by omega),dA]
 dsimp only
 generalize hnt:fg s i 94=nt
 have hlt:nt=true->i<s.length:=λh=>by
  rw[<-hnt]at h
  unfold fg at h
  simp at h
  exact h.1
 have hi1:(if nt=true then i+1 else i)<=s.length:=by
  split
  ·rename_i h;exact hlt h
  ·exact hi
 refine dR (P:=OkQ _) ((bits (λ_=>false),()),(((if nt=true then i+1 else i:Nat):Int),())) (λK=>?_) ?_
 ·cases nt
  ·rfl
  ·rw[cond_true,if_pos rfl,aX (hlt rfl) hs]
 dsimp only
 generalize (if nt=true then i+1 else i)=i1 at hi1 |-
 generalize cf:brL s s.length.succ i1 (λ_=>false)=res
 refine dU (λm x=>∃ (i:Nat) (f:Nat->Bool) (bZ:Nat),x=((bits f,()),((i:Int),()))/\i<=s.length/\s.length-i<bZ/\m=s.length-i/\brL s bZ i f=res) (OkQ (pg s nt res)) ?_ N0 (s.length-i1) _ (by have:=gd hs;omega) ⟨i1,_,s.length.succ,rfl,hi1,by omega,rfl,cf⟩
 rintro m x ⟨i,f,bZ,rfl,hi,hf,hm,hr⟩ k hk
 obtain⟨bZ,rfl⟩:∃ q,bZ=q+1:=⟨bZ-1,by omega⟩
 simp only[brL]at hr
 dsimp only
 have n0:(0:Int)<=(i:Int):=by omega
 refine dR (P:=OkQ _) ((bits f,()),(decide (¬(s.length<=i\/ch s i=93)),())) (λK=>?_) ?_
 ·rcases aj i s.length with h|h
  ·have e:decide (¬(s.length<=i\/ch s i=93))=!decide (ch s i=93):=by
    have:¬s.length<=i:=by omega
    simp[this]
   rw[decide_eq_true (show(i:Int)<((s.length:Nat):Int) by omega),cond_true,if_pos n0,aa,gL h,e]
  ·have e:decide (¬(s.length<=i\/ch s i=93))=false:=by simp[h]
   rw[decide_eq_false (show ¬(i:Int)<((s.length:Nat):Int) by omega),cond_false,e]
 dsimp only
 by_cases mH:s.length<=i\/ch s i=93
 ·-- the end
  rw[if_pos mH]at hr
  rw[decide_eq_false (λh=>h mH),cond_false,ae (se f)]
  dsimp only
  subst hr
  unfold pg
  dsimp only
  generalize hg:(if nt=true then λx=>!f x else f)=g
  refine dR (P:=OkQ _) ((ofB g,()),()) (λK=>?_) ?_
  ·cases nt
   ·rw[cond_false]
    have:f=g:=hg
    rw[this]
   ·rw[cond_true,ae (Bm f f)]
    have:(λx=>!f x)=g:=hg
    rw[this]
  dsimp only
  refine dR (P:=OkQ _) ((ofB g,()),(decide (s.length<=i\/ew g=true),())) (λK=>?_) ?_
  ·rcases aj i s.length with h|h
   ·have e:decide (s.length<=i\/ew g=true)=decide (ofB g=[0,0,0,0]):=by
     have:¬s.length<=i:=by omega
     rw[decide_eq_decide,show([0,0,0,0]:List Int)=zS by rfl,gK]
     simp[this]
    rw[decide_eq_false (show ¬((s.length:Nat):Int)<=(i:Int) by omega),cond_false,e]
   ·rw[decide_eq_true (show((s.length:Nat):Int)<=(i:Int) by omega),cond_true,decide_eq_true (.inl h)]
  dsimp only
  by_cases hem:s.length<=i\/ew g=true
  ·rw[if_pos hem,decide_eq_true hem,cond_true]
   exact⟨_,rfl⟩
  ·rw[if_neg hem,decide_eq_false hem,cond_false,aX (show i<s.length by omega) hs]
   rfl
 ·rw[if_neg mH]at hr
  have hlt:i<s.length:=by omega
  obtain⟨hc,rZ⟩:=uX s hi
  rw[decide_eq_true mH,cond_true,if_pos hc,rZ,ae (yG (hb.drop i) (uY hs i))]
  dsimp only
  cases hrd:rdS (s.drop i)with
  |none=>
   have:res=none:=by
    rw[hrd]at hr
    split at hr
    ·exact hr.symm
    ·exact hr.symm
   subst this
   exact⟨_,rfl⟩
  |some p=>
   obtain⟨a,n⟩:=p
   rw[hrd]at hr
   obtain⟨ha,hn1,hn2⟩:=ma (hb.drop i) hrd
   rw[bD]at hn2
   dsimp only[rdR]
   dsimp only at hr
   refine dR (P:=OkQ _) ((bits f,()),(decide (ch s i∈([94,45,47,34]:List Int)),())) (λK=>?_) ?_
   ·rw[ay,cond_false,if_pos n0,aa,gL hlt]
    dsimp only
    rw[ae (qp _ (by simp[maxLen]) _)]
   dsimp only
   by_cases hin:ch s i∈([94,45,47,34]:List Int)
   ·rw[if_pos hin]at hr
    rw[decide_eq_true hin,cond_true]
    subst hr
    exact⟨_,rfl⟩
   rw[if_neg hin]at hr
   rw[decide_eq_false hin,cond_false]
   have w1:IntKind.wrap .i64 ((i:Int)+(n:Int))=((i+n:Nat):Int):=by
    rw[<-bH (n:=i+n) (by omega)];rfl
   have w2:IntKind.wrap .i64 (((i+n:Nat):Int)+1)=((i+n+1:Nat):Int):=by
    rw[<-bH (n:=i+n+1) (by omega)];rfl
   simp only[w1]
   refine dR (P:=OkQ _) ((bits f,()),(fg s (i+n) 45,())) (λK=>?_) ?_
   ·unfold fg
    rcases aj (i+n) s.length with h|h
    ·have n0:(0:Int)<=((i+n:Nat):Int):=by omega
     rw[decide_eq_true (show((i+n:Nat):Int)<((s.length:Nat):Int) by omega),cond_true,if_pos n0,aa,gL h,decide_eq_true h,bG]
    ·rw[decide_eq_false (show ¬((i+n:Nat):Int)<((s.length:Nat):Int) by omega),cond_false,decide_eq_false (show ¬i+n<s.length by omega),dA]
   dsimp only
   simp only[w2]
   refine qq (P:=OkQ _) λK hK=>?_
   -- MM goes on with a range
   have go:∀ (j:Nat) (b:Int),j<=s.length->i<j->(0<=b/\b<=255)->brL s bZ j (λx=>f x||uT a b x)=res->
    OkQ (pg s nt res) (K ((bits f,()),((j:Int),(b,())))):=by
    intro j b hj hij hbb cf
    rw[hK]
    dsimp only
    have wa:IntKind.wrap .i64 a=a:=bp (by omega) (by omega)
    have wb:IntKind.wrap .i64 b=b:=bp (by omega) (by omega)
    rw[wa,wb]
    have e0:bits f=bits (λx=>f x||(decide (a<=(x:Int))&&decide ((x:Int)<((a.toNat:Nat):Int)))):=uW λx hx=>by
     rw[fF ha.1]
     by_cases h:a<=(x:Int)
     ·have:¬(x:Int)<a:=by omega
      simp[this]
     ·simp[h]
    refine dU (λm x=>∃ c:Nat,x=((bits (λx=>f x||(decide (a<=(x:Int))&&decide ((x:Int)<(c:Int)))),()),((c:Int),()))/\m+c=256/\a<=(c:Int)/\(a<=b->(c:Int)<=b+1)/\(b<a->(c:Int)=a)) (OkQ (pg s nt res)) ?_ N0 (256-a.toNat) _ (by unfold N0;omega) ⟨a.toNat,by rw[<-e0,fF ha.1],by omega,by omega,by omega,by omega⟩
    rintro m x ⟨c,rfl,hm,h1,h2,h3⟩ k2 hk2
    dsimp only
    by_cases hcb:(c:Int)<=b
    ·have hc:c<256:=by omega
     have n1:(0:Int)<=(c:Int):=by omega
     have w3:IntKind.wrap .i64 ((c:Int)+1)=((c+1:Nat):Int):=by rw[<-bH (n:=c+1) (by omega)];rfl
     rw[decide_eq_true hcb,cond_true,if_pos n1,aa,nC _ hc]
     dsimp only
     rw[if_pos n1]
     rw[Bl _ hc,w3]
     refine hk2 (m-1) _ (by omega) ⟨c+1,?_,by omega,by omega,by omega,by omega⟩
     have:bits (λx=>(f x||(decide (a<=(x:Int))&&decide ((x:Int)<(c:Int))))||decide (x=c))=bits (λx=>f x||(decide (a<=(x:Int))&&decide ((x:Int)<((c+1:Nat):Int)))):=uW λx hx=>by
      have e3:decide ((x:Int)<((c+1:Nat):Int))=(decide ((x:Int)<(c:Int))||decide (x=c)):=by rw[<-Bool.decide_or,decide_eq_decide];omega
      rw[e3]
      by_cases hax:a<=(x:Int)
      ·simp[hax,Bool.or_assoc]
      ·have:¬x=c:=by omega
       simp[hax,this]
     rw[this]
    ·rw[decide_eq_false hcb,cond_false]
     refine hk (s.length-j) _ (by omega) ⟨j,_,bZ,?_,hj,by omega,rfl,cf⟩
     have:bits (λx=>f x||(decide (a<=(x:Int))&&decide ((x:Int)<(c:Int))))=bits (λx=>f x||uT a b x):=uW λx hx=>by
      unfold uT
      rcases Int.lt_or_le b a with hl|hl
      ·have e:=h3 hl
       by_cases hax:a<=(x:Int)
       ·have q1:¬((x:Int)<=b):=by omega
        have q2:¬((x:Int)<(c:Int)):=by omega
        simp[q1,q2]
       ·simp[hax]
      ·have e:=h2 hl
       have:((x:Int)<(c:Int))↔((x:Int)<=b):=by omega
       simp[this]
     rw[this]
   clear hK
   by_cases hd:i+n<s.length/\ch s (i+n)=45
   ·rw[if_pos hd]at hr
    have he:fg s (i+n) 45=true:=by unfold fg;simp[hd.1,hd.2]
    rw[he,cond_true]
    refine dR (P:=OkQ _) ((bits f,()),(decide (s.length<=i+n+1\/ch s (i+n+1)∈([93,94,45,47,34]:List Int)),())) (λK=>?_) ?_
    ·rcases aj (i+n+1) s.length with h|h
     ·have n0:(0:Int)<=((i+n+1:Nat):Int):=by omega
      rw[decide_eq_false (show ¬((s.length:Nat):Int)<=((i+n+1:Nat):Int) by omega),cond_false,if_pos n0,aa,gL h]
      dsimp only
      rw[ae (qp _ (by simp[maxLen]) _)]
      have e:decide (s.length<=i+n+1\/ch s (i+n+1)∈([93,94,45,47,34]:List Int))=decide (ch s (i+n+1)∈([93,94,45,47,34]:List Int)):=by
       have:¬s.length<=i+n+1:=by omega
       rw[decide_eq_decide];exact⟨λh=>h.resolve_left this,.inr⟩
      rw[e]
     ·rw[decide_eq_true (show((s.length:Nat):Int)<=((i+n+1:Nat):Int) by omega),cond_true,decide_eq_true (.inl h)]
    dsimp only
    by_cases h4:s.length<=i+n+1\/ch s (i+n+1)∈([93,94,45,47,34]:List Int)
    ·rw[if_pos h4]at hr
     rw[decide_eq_true h4,cond_true]
     subst hr
     exact⟨_,rfl⟩
    rw[if_neg h4]at hr
    obtain⟨hc2,Bj⟩:=uX s (show i+n+1<=s.length by omega)
    rw[decide_eq_false h4,cond_false,if_pos hc2,Bj,ae (yG (hb.drop _) (uY hs _))]
    dsimp only
    cases Dj:rdS (s.drop (i+n+1))with
    |none=>
     rw[Dj]at hr
     dsimp only at hr
     subst hr
     exact⟨_,rfl⟩
    |some p2=>
     obtain⟨b,n2⟩:=p2
     rw[Dj]at hr
     dsimp only at hr
     dsimp only[rdR]
     obtain⟨hbb,hn3,hn4⟩:=ma (hb.drop _) Dj
     rw[bD]at hn4
     have w3:IntKind.wrap .i64 (((i+n+1:Nat):Int)+(n2:Int))=((i+n+1+n2:Nat):Int):=by
      rw[<-bH (n:=i+n+1+n2) (by omega)];rfl
     simp only[w3]
     refine dR (P:=OkQ _) ((bits f,()),(decide (b<a),())) (λK=>?_) ?_
     ·rw[ay,cond_false]
      rfl
     dsimp only
     by_cases hba:b<a
     ·rw[if_pos hba]at hr
      rw[decide_eq_true hba,cond_true]
      subst hr
      exact⟨_,rfl⟩
     ·rw[if_neg hba]at hr
      rw[decide_eq_false hba,cond_false]
      exact go (i+n+1+n2) b (by omega) (by omega) hbb hr
   ·rw[if_neg hd]at hr
    have he:fg s (i+n) 45=false:=by
     unfold fg
     rw[gY,decide_eq_false_iff_not,decide_eq_false_iff_not]
     by_cases h:i+n<s.length
     ·exact .inr λh2=>hd ⟨h,h2⟩
     ·exact .inl h
    rw[he,cond_false]
    exact go (i+n) a (by omega) (by omega) ha hr
end
noncomputable section
abbrev RfF:=(List Int×(Int×(Int×Unit)))->Option ((List Pc×(Int×Unit))×Unit)
theorem iP(t:Rx):List.isEmpty t.post=false:=by
 have h1:=t.aS
 have h2:=t.bL
 grind
theorem OR{i n:Nat}(h:i+n<9223372036854775808):IntKind.wrap .i64 ((i:Int)+(n:Int))=((i+n:Nat):Int):=by rw[<-bH h];rfl
theorem cV{i:Nat}(h:i+1<9223372036854775808):IntKind.wrap .i64 ((i:Int)+1)=((i+1:Nat):Int):=by rw[<-bH h];rfl
theorem OS{s:List Int}(hb:Bytes s)(hs:s.length<=1600){q2 q3 q4 q5:RfF}{inner:Nat->Nat->Option (Rx×Nat)}{i d:Nat}(hd:d<=i)
 (hin:i<s.length->OkQ (inner (i+1) (d+1)) (q2 (s,(((i+1:Nat):Int),(((d+1:Nat):Int),()))))) (cf:ke s (i+1) (inner (i+1) (d+1))):
 OkQ (mI inner s i d) (AX N0 q2 q3 q4 q5 (s,((i:Int),((d:Int),())))):=by
 have hsm:s.length<=maxLen:=by unfold maxLen;omega
 unfold AX mI
 dsimp only
 have n0:(0:Int)<=(i:Int):=by omega
 refine dR (P:=OkQ _) ((),(decide (s.length<=i\/ch s i∈([124,41,42,43,63,93,47,34]:List Int)),())) (λK=>?_) ?_
 ·rcases aj i s.length with h|h
  ·rw[decide_eq_false (show ¬((s.length:Nat):Int)<=(i:Int) by omega),cond_false,if_pos n0,aa,gL h]
   dsimp only
   rw[ae (qp _ (by simp[maxLen]) _)]
   grind
  simp_all
 dsimp only
 by_cases mH:s.length<=i\/ch s i∈([124,41,42,43,63,93,47,34]:List Int)
 ·rw[if_pos mH,decide_eq_true mH,cond_true]
  exact⟨_,rfl⟩
 rw[if_neg mH,decide_eq_false mH,cond_false]
 have hlt:i<s.length:=by omega
 have w1:IntKind.wrap .i64 ((i:Int)+1)=((i+1:Nat):Int):=cV (by omega)
 simp only[if_pos n0,aa,gL hlt,w1]
 have hz:([0,0,0,0]:List Int)=ofB (λ_=>false):=by
  rw[show([0,0,0,0]:List Int)=zS by rfl]
  exact(gK.2 (by unfold ew;rw[cG];intro x _;rfl)).symm
 by_cases h46:ch s i=46
 ·rw[decide_eq_true h46,cond_true,if_pos h46,hz,ae (Bm _ _)]
  rfl
 rw[decide_eq_false h46,cond_false,if_neg h46]
 by_cases h126:ch s i=126
 ·rw[decide_eq_true h126,cond_true,if_pos h126]
  rfl
 rw[decide_eq_false h126,cond_false,if_neg h126]
 by_cases h91:ch s i=91
 ·rw[decide_eq_true h91,cond_true,if_pos h91]
  have hq:=OQ hb hs (show i+1<=s.length by omega)
  unfold OkQ at hq
  cases ho:brS s (i+1)with
  |none=>
   rw[ho]at hq
   obtain⟨k,hq⟩:=hq
   rw[ae hq]
   exact⟨_,rfl⟩
  |some p=>
   obtain⟨t,j⟩:=p
   rw[ho]at hq
   dsimp only at hq
   rw[ae hq]
   rfl
 rw[decide_eq_false h91,cond_false,if_neg h91]
 by_cases h40:ch s i=40
 ·rw[decide_eq_true h40,cond_true,if_pos h40]
  by_cases h99:99<=d
  ·rw[if_pos h99,decide_eq_true (show(99:Int)<=(d:Int) by omega),cond_true]
   exact⟨_,rfl⟩
  rw[if_neg h99,decide_eq_false (show ¬(99:Int)<=(d:Int) by omega),cond_false]
  have wd:IntKind.wrap .i64 ((d:Int)+1)=((d+1:Nat):Int):=cV (by omega)
  rw[wd]
  have hq:=hin hlt
  unfold OkQ at hq
  cases ho:inner (i+1) (d+1)with
  |none=>
   rw[ho]at hq
   obtain⟨k,hq⟩:=hq
   rw[ae hq]
   exact⟨_,rfl⟩
  |some p=>
   obtain⟨t,j⟩:=p
   rw[ho]at hq
   dsimp only at hq
   obtain⟨r1,r2,r3,r4⟩:=cf t j ho
   rw[ae hq]
   dsimp only
   refine dR (P:=OkQ _) ((),(decide (¬(j<s.length/\ch s j=41)),())) (λK=>?_) ?_
   ·rw[iP t,cond_false]
    rcases aj j s.length with h|h
    ·have n1:(0:Int)<=(j:Int):=by omega
     have e:decide (¬(j<s.length/\ch s j=41))=!decide (ch s j=41):=by simp[h]
     rw[decide_eq_false (show ¬((s.length:Nat):Int)<=(j:Int) by omega),cond_false,if_pos n1,aa,gL h,e]
    ·have e:decide (¬(j<s.length/\ch s j=41))=true:=by simp;omega
     rw[decide_eq_true (show((s.length:Nat):Int)<=(j:Int) by omega),cond_true,e]
   dsimp only
   by_cases hj:j<s.length/\ch s j=41
   ·rw[if_pos hj,decide_eq_false (λh=>h hj),cond_false,cV (by omega)]
    rfl
   ·rw[if_neg hj,decide_eq_true hj,cond_true]
    exact⟨_,rfl⟩
 rw[decide_eq_false h40,cond_false,if_neg h40]
 obtain⟨hc,rZ⟩:=uX s (show i<=s.length by omega)
 rw[if_pos hc,rZ,ae (yG (hb.drop i) (uY hsm i))]
 dsimp only
 cases hrd:rdS (s.drop i)with
 |none=>exact⟨_,rfl⟩
 |some p=>
  obtain⟨c,n⟩:=p
  obtain⟨hcb,hn1,hn2⟩:=ma (hb.drop i) hrd
  rw[bD]at hn2
  dsimp only[rdR]
  obtain⟨c,rfl⟩:∃ q:Nat,c=(q:Int):=⟨c.toNat,by omega⟩
  have n1:(0:Int)<=(c:Int):=by omega
  have Ql:c<256:=by omega
  rw[ay,cond_false,if_pos (show(0:Int)<=256/\(256:Int)<=256 by omega),if_pos (show((256:Int)).toNat*1<=140737488355328 by decide)]
  simp only[if_pos n1,xd,aa,nC _ Ql,Bl _ Ql]
  rw[ae (se _)]
  simp only[OR (show i+n<9223372036854775808 by omega)]
  have e:ofB (λx=>false||decide (x=c))=ofB (rW (c:Int)):=iO λx hx=>by
   unfold rW
   rw[cP,decide_eq_decide];omega
  rw[e]
  rfl
theorem Dm{s:List Int}(hb:Bytes s)(hs:s.length<=1600){q2 q3 q4 q5:RfF}{inner:Nat->Nat->Option (Rx×Nat)}{i d:Nat}
 (dV:OkQ (mI inner s i d) (q5 (s,((i:Int),((d:Int),()))))) (cf:ke s i (mI inner s i d)):
 OkQ (kD inner s i d) (AW N0 q2 q3 q4 q5 (s,((i:Int),((d:Int),())))):=by
 have hsm:s.length<=maxLen:=by unfold maxLen;omega
 unfold AW
 dsimp only
 unfold kD
 unfold OkQ at dV
 cases ho:mI inner s i d with
 |none=>
  rw[ho]at dV
  obtain⟨k0,hq⟩:=dV
  rw[ae hq]
  refine dU (λm x=>x=((),(k0,([],())))) (OkQ none) ?_ N0 0 _ (by unfold N0;omega) rfl
  rintro m x rfl k hk
  exact⟨_,rfl⟩
 |some p=>
  obtain⟨t0,j0⟩:=p
  rw[ho]at dV
  dsimp only at dV
  have hr0:=cf t0 j0 ho
  rw[ae dV]
  dsimp only
  generalize hrs:rX s s.length.succ j0 t0=res
  refine dU (λm x=>∃ (j:Nat) (t:Rx) (bZ:Nat),x=((),((j:Int),(t.post,())))/\Res s i t j/\s.length-j<bZ/\m=s.length-j/\rX s bZ j t=res) (OkQ res) ?_ N0 (s.length-j0) _ (by unfold N0;omega) ⟨j0,t0,_,rfl,hr0,by omega,rfl,hrs⟩
  rintro m x ⟨j,t,bZ,rfl,hr,hf,hm,hl⟩ k hk
  obtain⟨bZ,rfl⟩:∃ q,bZ=q+1:=⟨bZ-1,by omega⟩
  simp only[rX]at hl
  dsimp only
  have n1:(0:Int)<=(j:Int):=by omega
  refine dR (P:=OkQ _) ((),(decide (j<s.length/\ch s j∈([42,43,63]:List Int)),())) (λK=>?_) ?_
  ·rw[iP t,aH,cond_true]
   rcases aj j s.length with h|h
   ·rw[decide_eq_true (show(j:Int)<((s.length:Nat):Int) by omega),cond_true,if_pos n1,aa,gL h]
    dsimp only
    rw[ae (qp _ (by simp[maxLen]) _)]
    have e:decide (j<s.length/\ch s j∈([42,43,63]:List Int))=decide (ch s j∈([42,43,63]:List Int)):=by
     rw[decide_eq_decide];exact⟨λh=>h.2,λh2=>⟨h,h2⟩⟩
    rw[e]
   ·have e:decide (j<s.length/\ch s j∈([42,43,63]:List Int))=false:=decide_eq_false (λh2=>by omega)
    rw[decide_eq_false (show ¬(j:Int)<((s.length:Nat):Int) by omega),cond_false,e]
  dsimp only
  by_cases hc:j<s.length/\ch s j∈([42,43,63]:List Int)
  ·rw[if_pos hc]at hl
   obtain⟨g1,g2,g3,g4⟩:=hr
   have tl:=t.aS
   rw[decide_eq_true hc,cond_true,if_pos n1,aa,gL hc.1]
   dsimp only
   refine dR (P:=OkQ _) ((),((if ch s j=43 then 5 else 4),())) (λK=>?_) ?_
   ·by_cases h:ch s j=43
    ·rw[decide_eq_true h,cond_true,if_pos h]
    ·rw[decide_eq_false h,cond_false,if_neg h]
   dsimp only
   rw[if_pos n1]
   refine dR (P:=OkQ _) ((),(iC (ch s j),())) (λK=>?_) ?_
   ·unfold iC
    by_cases h:ch s j=63
    ·rw[decide_eq_true h,cond_true,h];rfl
    ·rw[decide_eq_false h,cond_false]
     have h3:ch s j=42\/ch s j=43:=by
      have:=hc.2
      simp[h]at this
      exact this
     rcases h3 with h3|h3 <;> rw[h3] <;> rfl
   dsimp only
   have c1:(([]:List Pc).length+t.post.length)*40<=140737488355328:=by simp;omega
   have c2:([]:List Pc).length+t.post.length<=9223372036854775807:=by simp;omega
   have c3:((([]:List Pc)++t.post).length+([(iC (ch s j),[0,0,0,0])]:List Pc).length)*40<=140737488355328:=by simp;omega
   have c4:(([]:List Pc)++t.post).length+([(iC (ch s j),[0,0,0,0])]:List Pc).length<=9223372036854775807:=by simp;omega
   have e:([]:List Pc)++t.post++[(iC (ch s j),[0,0,0,0])]=(Rx.rep (iC (ch s j)) t).post:=rfl
   rw[if_pos c1,if_pos c2,if_pos c3,if_pos c4,e,iP,cond_false,cV (by omega)]
   exact hk (s.length-(j+1)) _ (by omega) ⟨j+1,_,bZ,rfl,⟨by omega,by omega,by simp only[Rx.len];omega,r9 _,g4⟩,by omega,rfl,hl⟩
  ·rw[if_neg hc]at hl
   rw[decide_eq_false hc,cond_false]
   subst hl
   rfl
end
noncomputable section
theorem OT{s:List Int}(hb:Bytes s)(hs:s.length<=1600){q2 q3 q4 q5:RfF}{inner:Nat->Nat->Option (Rx×Nat)}{i d:Nat}(hi:i<=s.length)
 (bF:∀ j,i<=j->j<=s.length->OkQ (kD inner s j d) (q4 (s,((j:Int),((d:Int),()))))) (cf:∀ j,i<=j->ke s j (kD inner s j d)):
 OkQ (lq inner s i d) (AV N0 q2 q3 q4 q5 (s,((i:Int),((d:Int),())))):=by
 have hsm:s.length<=maxLen:=by unfold maxLen;omega
 unfold AV
 dsimp only
 unfold lq
 have dV:=bF i (aw _) hi
 unfold OkQ at dV
 cases ho:kD inner s i d with
 |none=>
  rw[ho]at dV
  obtain⟨k0,hq⟩:=dV
  rw[ae hq]
  refine dU (λm x=>x=((),(k0,([],())))) (OkQ none) ?_ N0 0 _ (by unfold N0;omega) rfl
  rintro m x rfl k hk
  exact⟨_,rfl⟩
 |some p=>
  obtain⟨t0,j0⟩:=p
  rw[ho]at dV
  dsimp only at dV
  have hr0:=cf i (aw _) t0 j0 ho
  rw[ae dV]
  dsimp only
  generalize hrs:tt inner s d s.length.succ j0 t0=res
  refine dU (λm x=>∃ (j:Nat) (t:Rx) (bZ:Nat),x=((),((j:Int),(t.post,())))/\Res s i t j/\s.length-j<bZ/\m=s.length-j/\tt inner s d bZ j t=res) (OkQ res) ?_ N0 (s.length-j0) _ (by unfold N0;omega) ⟨j0,t0,_,rfl,hr0,by omega,rfl,hrs⟩
  rintro m x ⟨j,t,bZ,rfl,hr,hf,hm,hl⟩ k hk
  obtain⟨bZ,rfl⟩:∃ q,bZ=q+1:=⟨bZ-1,by omega⟩
  simp only[tt]at hl
  dsimp only
  have n1:(0:Int)<=(j:Int):=by omega
  refine dR (P:=OkQ _) ((),(decide (j<s.length/\ch s j∉([124,41]:List Int)),())) (λK=>?_) ?_
  ·rw[iP t,aH,cond_true]
   rcases aj j s.length with h|h
   ·rw[decide_eq_true (show(j:Int)<((s.length:Nat):Int) by omega),cond_true,if_pos n1,aa,gL h]
    dsimp only
    rw[ae (qp _ (by simp[maxLen]) _)]
    have e:decide (j<s.length/\ch s j∉([124,41]:List Int))=!decide (ch s j∈([124,41]:List Int)):=by
     rw[<-decide_not,decide_eq_decide];exact⟨λh=>h.2,λh2=>⟨h,h2⟩⟩
    rw[e]
   ·have e:decide (j<s.length/\ch s j∉([124,41]:List Int))=false:=decide_eq_false (λh2=>by omega)
    rw[decide_eq_false (show ¬(j:Int)<((s.length:Nat):Int) by omega),cond_false,e]
  dsimp only
  by_cases hc:j<s.length/\ch s j∉([124,41]:List Int)
  ·rw[if_pos hc]at hl
   obtain⟨g1,g2,g3,g4⟩:=hr
   have tl:=t.aS
   rw[decide_eq_true hc,cond_true]
   have hq:=bF j (by omega) (by omega)
   unfold OkQ at hq
   cases h2:kD inner s j d with
   |none=>
    rw[h2]at hq hl
    obtain⟨k0,hq⟩:=hq
    rw[ae hq]
    subst hl
    exact⟨_,rfl⟩
   |some p=>
    obtain⟨t2,j2⟩:=p
    rw[h2]at hq hl
    dsimp only at hq hl
    obtain⟨f1,f2,f3,f4⟩:=cf j (by omega) t2 j2 h2
    have tl2:=t2.aS
    rw[ae hq]
    dsimp only
    have c1:(([]:List Pc).length+t.post.length)*40<=140737488355328:=by simp;omega
    have c2:([]:List Pc).length+t.post.length<=9223372036854775807:=by simp;omega
    have c3:((([]:List Pc)++t.post).length+t2.post.length)*40<=140737488355328:=by simp;omega
    have c4:(([]:List Pc)++t.post).length+t2.post.length<=9223372036854775807:=by simp;omega
    have c5:((([]:List Pc)++t.post++t2.post).length+([(2,[0,0,0,0])]:List Pc).length)*40<=140737488355328:=by simp;omega
    have c6:(([]:List Pc)++t.post++t2.post).length+([(2,[0,0,0,0])]:List Pc).length<=9223372036854775807:=by simp;omega
    have e:([]:List Pc)++t.post++t2.post++[(2,[0,0,0,0])]=(Rx.cat t t2).post:=rfl
    rw[iP t2,cond_false,if_pos c1,if_pos c2,if_pos c3,if_pos c4,if_pos c5,if_pos c6,e,iP,cond_false]
    exact hk (s.length-j2) _ (by omega) ⟨j2,.cat t t2,bZ,rfl,⟨by omega,by omega,by simp only[Rx.len];omega,g4,f4⟩,by omega,rfl,hl⟩
  ·rw[if_neg hc]at hl
   rw[decide_eq_false hc,cond_false]
   subst hl
   rfl
theorem Dn{s:List Int}(hb:Bytes s)(hs:s.length<=1600){q2 q3 q4 q5:RfF}{inner:Nat->Nat->Option (Rx×Nat)}{i d:Nat}(hi:i<=s.length)
 (yF:∀ j,i<=j->j<=s.length->OkQ (lq inner s j d) (q3 (s,((j:Int),((d:Int),()))))) (cf:∀ j,i<=j->ke s j (lq inner s j d)):
 OkQ (Dh inner s i d) (AU N0 q2 q3 q4 q5 (s,((i:Int),((d:Int),())))):=by
 have hsm:s.length<=maxLen:=by unfold maxLen;omega
 unfold AU
 dsimp only
 unfold Dh
 have dV:=yF i (aw _) hi
 unfold OkQ at dV
 cases ho:lq inner s i d with
 |none=>
  rw[ho]at dV
  obtain⟨k0,hq⟩:=dV
  rw[ae hq]
  refine dU (λm x=>x=((),(k0,([],())))) (OkQ none) ?_ N0 0 _ (by unfold N0;omega) rfl
  rintro m x rfl k hk
  exact⟨_,rfl⟩
 |some p=>
  obtain⟨t0,j0⟩:=p
  rw[ho]at dV
  dsimp only at dV
  have hr0:=cf i (aw _) t0 j0 ho
  rw[ae dV]
  dsimp only
  generalize hrs:tu inner s d s.length.succ j0 t0=res
  refine dU (λm x=>∃ (j:Nat) (t:Rx) (bZ:Nat),x=((),((j:Int),(t.post,())))/\Res s i t j/\s.length-j<bZ/\m=s.length-j/\tu inner s d bZ j t=res) (OkQ res) ?_ N0 (s.length-j0) _ (by unfold N0;omega) ⟨j0,t0,_,rfl,hr0,by omega,rfl,hrs⟩
  rintro m x ⟨j,t,bZ,rfl,hr,hf,hm,hl⟩ k hk
  obtain⟨bZ,rfl⟩:∃ q,bZ=q+1:=⟨bZ-1,by omega⟩
  simp only[tu]at hl
  dsimp only
  have n1:(0:Int)<=(j:Int):=by omega
  refine dR (P:=OkQ _) ((),(decide (j<s.length/\ch s j=124),())) (λK=>?_) ?_
  ·rw[iP t,aH,cond_true]
   rcases aj j s.length with h|h
   ·rw[decide_eq_true (show(j:Int)<((s.length:Nat):Int) by omega),cond_true,if_pos n1,aa,gL h]
    have e:decide (j<s.length/\ch s j=124)=decide (ch s j=124):=by
     rw[decide_eq_decide];exact⟨λh=>h.2,λh2=>⟨h,h2⟩⟩
    rw[e]
   ·have e:decide (j<s.length/\ch s j=124)=false:=decide_eq_false (λh2=>by omega)
    rw[decide_eq_false (show ¬(j:Int)<((s.length:Nat):Int) by omega),cond_false,e]
  dsimp only
  by_cases hc:j<s.length/\ch s j=124
  ·rw[if_pos hc]at hl
   obtain⟨g1,g2,g3,g4⟩:=hr
   have tl:=t.aS
   rw[decide_eq_true hc,cond_true,cV (by omega)]
   have hq:=yF (j+1) (by omega) (by omega)
   unfold OkQ at hq
   cases h2:lq inner s (j+1) d with
   |none=>
    rw[h2]at hq hl
    obtain⟨k0,hq⟩:=hq
    rw[ae hq]
    subst hl
    exact⟨_,rfl⟩
   |some p=>
    obtain⟨t2,j2⟩:=p
    rw[h2]at hq hl
    dsimp only at hq hl
    obtain⟨f1,f2,f3,f4⟩:=cf (j+1) (by omega) t2 j2 h2
    have tl2:=t2.aS
    rw[ae hq]
    dsimp only
    have c1:(([]:List Pc).length+t.post.length)*40<=140737488355328:=by simp;omega
    have c2:([]:List Pc).length+t.post.length<=9223372036854775807:=by simp;omega
    have c3:((([]:List Pc)++t.post).length+t2.post.length)*40<=140737488355328:=by simp;omega
    have c4:(([]:List Pc)++t.post).length+t2.post.length<=9223372036854775807:=by simp;omega
    have c5:((([]:List Pc)++t.post++t2.post).length+([(3,[0,0,0,0])]:List Pc).length)*40<=140737488355328:=by simp;omega
    have c6:(([]:List Pc)++t.post++t2.post).length+([(3,[0,0,0,0])]:List Pc).length<=9223372036854775807:=by simp;omega
    have e:([]:List Pc)++t.post++t2.post++[(3,[0,0,0,0])]=(Rx.alt t t2).post:=rfl
    rw[iP t2,cond_false,if_pos c1,if_pos c2,if_pos c3,if_pos c4,if_pos c5,if_pos c6,e,iP,cond_false]
    exact hk (s.length-j2) _ (by omega) ⟨j2,.alt t t2,bZ,rfl,⟨by omega,by omega,by simp only[Rx.len];omega,g4,f4⟩,by omega,rfl,hl⟩
  ·rw[if_neg hc]at hl
   rw[decide_eq_false hc,cond_false]
   subst hl
   rfl
theorem OU{s:List Int}(hb:Bytes s)(hs:s.length<=1600):∀ (n D i d:Nat),4*n<=D->s.length-i<n->i<=s.length->d<=i->OkQ (kc s n i d) ((cU N0 D).1 (s,((i:Int),((d:Int),())))):=by
 intro n
 induction n with
 |zero=>intro D i d _ h;omega
 |succ n ih=>
  intro D i d hD hn hi hd
  obtain⟨D,rfl⟩:∃ q,D=q+1+1+1+1:=⟨D-4,by omega⟩
  have cf:∀ i d,s.length-i<n->ke s i (kc s n i d):=λi d h=>jX hb n i d h
  have HL:∀ j,i<=j->ke s (j+1) (kc s n (j+1) (d+1)):=λj hij t j2 h=>by
   rcases aj j s.length with hlt|hge
   ·exact cf (j+1) (d+1) (by omega) t j2 h
   ·cases n with
    |zero=>cases h
    |succ n=>exact jX hb (n+1) (j+1) (d+1) (by omega) t j2 h
  have dV:∀ j,i<=j->j<=s.length->OkQ (mI (kc s n) s j d) ((cU N0 (D+1)).2.2.2 (s,((j:Int),((d:Int),())))):=λj hij hj=>
   OS (q2:=(cU N0 (D)).1) (q3:=(cU N0 (D)).2.1) (q4:=(cU N0 (D)).2.2.1) (q5:=(cU N0 (D)).2.2.2) hb hs (bE hd hij) (λhlt=>ih D (j+1) (d+1) (by omega) (by omega) (by omega) (by omega)) (HL j hij)
  have bF:∀ j,i<=j->j<=s.length->OkQ (kD (kc s n) s j d) ((cU N0 (D+1+1)).2.2.1 (s,((j:Int),((d:Int),())))):=λj hij hj=>
   Dm (q2:=(cU N0 (D+1)).1) (q3:=(cU N0 (D+1)).2.1) (q4:=(cU N0 (D+1)).2.2.1) (q5:=(cU N0 (D+1)).2.2.2) hb hs (dV j hij hj) (uV hb (HL j hij))
  have yF:∀ j,i<=j->j<=s.length->OkQ (lq (kc s n) s j d) ((cU N0 (D+1+1+1)).2.1 (s,((j:Int),((d:Int),())))):=λj hij hj=>
   OT (q2:=(cU N0 (D+1+1)).1) (q3:=(cU N0 (D+1+1)).2.1) (q4:=(cU N0 (D+1+1)).2.2.1) (q5:=(cU N0 (D+1+1)).2.2.2) hb hs hj (λj2 hj2 hj3=>bF j2 (bE hij hj2) hj3) (λj2 hj2=>qm hb (HL j2 (bE hij hj2)))
  exact Dn (q2:=(cU N0 (D+1+1+1)).1) (q3:=(cU N0 (D+1+1+1)).2.1) (q4:=(cU N0 (D+1+1+1)).2.2.1) (q5:=(cU N0 (D+1+1+1)).2.2.2) hb hs hi yF (λj hij t j2 h=>qn hb n cf (by omega) t j2 h)
theorem OV{s:List Int}(hb:Bytes s):Ob N0 (s,())=some (KF (fX s)):=by
 delta Ob Bd;unfold fX
 dsimp only
 by_cases hs:1600<s.length
 ·rw[if_pos hs,decide_eq_true (show(1600:Int)<((s.length:Nat):Int) by omega),cond_true]
  rfl
 rw[if_neg hs,decide_eq_false (show ¬(1600:Int)<((s.length:Nat):Int) by omega),cond_false]
 have hq:OkQ (kc s s.length.succ 0 0) (RT N0 (s,(((0:Nat):Int),(((0:Nat):Int),())))):=OU hb (by omega) s.length.succ N0 0 0 (by unfold N0;omega) (by omega) (az _) (aw _)
 have e0:(s,(((0:Nat):Int),(((0:Nat):Int),())))=(s,((0:Int),((0:Int),()))):=rfl
 rw[e0]at hq
 unfold OkQ at hq
 cases ho:kc s s.length.succ 0 0 with
 |none=>
  rw[ho]at hq
  obtain⟨k,hq⟩:=hq
  rw[ae hq]
  rfl
 |some p=>
  obtain⟨t,i⟩:=p
  rw[ho]at hq
  dsimp only at hq
  rw[ae hq]
  dsimp only
  refine aV ((),(decide (i<s.length),())) (λK=>?_) ?_
  ·simp[iP]
  dsimp only
  by_cases h2:i<s.length
  ·rw[if_pos h2,decide_eq_true h2];rfl
  rw[if_neg h2,decide_eq_false h2,cond_false]
  rw[t.aS]
  by_cases h3:400<t.len
  ·rw[if_pos h3,decide_eq_true (show(400:Int)<((t.len:Nat):Int) by omega)];rfl
  ·rw[if_neg h3,decide_eq_false (show ¬(400:Int)<((t.len:Nat):Int) by omega)];rfl
end
noncomputable section
def cF(k:Int):Int:=if k=0\/k=1 then 0 else if k=2\/k=3 then 2 else 1
theorem KP:∀ k:Fin 7,Ht N0 (((k.val:Nat):Int),())=some ((cF ((k.val:Nat):Int),()),()):=by decide +kernel
theorem tH{k:Int}(h:0<=k/\k<=6):Ht N0 (k,())=some ((cF k,()),()):=by
 have:=KP ⟨k.toNat,by omega⟩
 grind
theorem Dp{k:Int}{a:Rx}(h:(Rx.rep k a).ok):0<=k/\k<=6/\cF k=1:=by
 rcases h.1 with rfl|rfl|rfl <;> decide
theorem Dq{r:List Pc}(hr:r.length<=100000)(body)(VA:body=(λ(v3:Unit×(Int×(Int×Unit)))=>(λ(v4:(Unit×(Int×(Int×Unit)))->Option ((Int×Unit)×Unit))=>
 (bif decide (0<=v3.2.2.1)then(if 0<=v3.2.2.1 then(match r[(v3.2.2.1).toNat]? with|some v5=>(ah (Ht N0 (v5.1,())) (λv6=>(bif decide ((IntKind.wrap .i64 ((IntKind.wrap .i64 (v3.2.1-1))+v6.1.1))=0)then(some ((v3.2.2.1,()),()))else(v4 ((),((IntKind.wrap .i64 ((IntKind.wrap .i64 (v3.2.1-1))+v6.1.1)),((IntKind.wrap .i64 (v3.2.2.1-1)),())))))))|none=>none)else none)else(some ((0,()),())))))):
 ∀ (t:Rx) (F n:Nat) (l rest:List Pc),t.ok->r=l++t.post++rest->1<=n->n+t.len<=1000000->aC body (F+t.len) ((),((n:Int),(((l.length+t.len:Nat):Int)-1,())))=if n=1 then some ((((l.length:Nat):Int),()),())else aC body F ((),((n:Int)-1,(((l.length:Nat):Int)-1,()))):=by
 -- one step
 have step:∀ (F:Nat) (n i:Nat) (p:Pc),r[i]?=some p->0<=p.1/\p.1<=6->1<=n->n<=1000000->
  aC body (F+1) ((),((n:Int),((i:Int),())))=if(n:Int)-1+cF p.1=0 then some ((((i:Nat):Int),()),())else aC body F ((),((n:Int)-1+cF p.1,((i:Int)-1,()))):=by
  intro F n i p hp hk hn1 hn2
  have hi:i<r.length:=by grind
  have ht:0<=cF p.1/\cF p.1<=2:=by grind [cF]
  rw[dP,VA]
  simp only
  have n0:(0:Int)<=(i:Int):=by omega
  have w1:IntKind.wrap .i64 ((n:Int)-1)=(n:Int)-1:=bp (by omega) (by omega)
  have w2:IntKind.wrap .i64 ((n:Int)-1+cF p.1)=(n:Int)-1+cF p.1:=bp (by omega) (by omega)
  have w3:IntKind.wrap .i64 ((i:Int)-1)=(i:Int)-1:=bp (by omega) (by omega)
  simp only[decide_eq_true n0,cond_true,if_pos n0,aa,hp,tH hk,aD,w1,w2,w3]
  by_cases h:(n:Int)-1+cF p.1=0
  ·rw[if_pos h,decide_eq_true h,cond_true]
  ·rw[if_neg h,decide_eq_false h,cond_false]
 intro t
 induction t with
 |eps=>
  intro F n l rest _ hr2 hn1 hn2
  simp only[Rx.len]
  have hp:r[l.length]?=some (0,zS):=by rw[hr2];simp[Rx.post]
  have e:((l.length+1:Nat):Int)-1=((l.length:Nat):Int):=by omega
  rw[e,step F n l.length _ hp (by decide) hn1 (by omega)]
  have e2:cF ((0,zS):Pc).1=0:=rfl
  rw[e2,Int.add_zero]
  by_cases h:n=1
  ·rw[if_pos h,if_pos (by omega)]
  ·rw[if_neg h,if_neg (by omega)]
 |set S=>
  intro F n l rest _ hr2 hn1 hn2
  simp only[Rx.len]
  have hp:r[l.length]?=some (1,S):=by rw[hr2];simp[Rx.post]
  have e:((l.length+1:Nat):Int)-1=((l.length:Nat):Int):=by omega
  rw[e,step F n l.length _ hp ⟨(by decide:(0:Int)<=1),(by decide:(1:Int)<=6)⟩ hn1 (by omega)]
  have e2:cF ((1,S):Pc).1=0:=rfl
  rw[e2,Int.add_zero]
  by_cases h:n=1
  ·rw[if_pos h,if_pos (by omega)]
  ·rw[if_neg h,if_neg (by omega)]
 |cat a b iha ihb=>
  intro F n l rest hok hr2 hn1 hn2
  simp only[Rx.len]at hn2 |-
  have hp:r[l.length+(a.len+b.len)]?=some (2,zS):=by
   rw[hr2]
   simp[Rx.post,<-a.aS,<-b.aS,cX]
  have e:((l.length+(a.len+b.len+1):Nat):Int)-1=((l.length+(a.len+b.len):Nat):Int):=by omega
  rw[e,show F+(a.len+b.len+1)=(F+a.len+b.len)+1 by omega,step _ n _ _ hp (by decide) hn1 (by omega)]
  have e2:cF ((2,zS):Pc).1=2:=rfl
  rw[e2,if_neg (by omega)]
  have hb:=ihb (F+a.len) (n+1) (l++a.post) ([(2,zS)]++rest) hok.2 (by rw[hr2];simp[Rx.post]) (by omega) (by omega)
  rw[if_neg (by omega)]at hb
  have e3:(n:Int)-1+2=((n+1:Nat):Int):=by omega
  have e4:((l.length+(a.len+b.len):Nat):Int)-1=(((l++a.post).length+b.len:Nat):Int)-1:=by rw[ak,a.aS];omega
  rw[e3,e4,hb]
  have ha:=iha F n l (b.post++[(2,zS)]++rest) hok.1 (by rw[hr2];simp[Rx.post]) hn1 (by omega)
  have e5:((n+1:Nat):Int)-1=(n:Int):=by omega
  rw[e5,ak,a.aS,ha]
 |alt a b iha ihb=>
  intro F n l rest hok hr2 hn1 hn2
  simp only[Rx.len]at hn2 |-
  have hp:r[l.length+(a.len+b.len)]?=some (3,zS):=by
   rw[hr2]
   simp[Rx.post,<-a.aS,<-b.aS,cX]
  have e:((l.length+(a.len+b.len+1):Nat):Int)-1=((l.length+(a.len+b.len):Nat):Int):=by omega
  rw[e,show F+(a.len+b.len+1)=(F+a.len+b.len)+1 by omega,step _ n _ _ hp (by decide) hn1 (by omega)]
  have e2:cF ((3,zS):Pc).1=2:=rfl
  rw[e2,if_neg (by omega)]
  have hb:=ihb (F+a.len) (n+1) (l++a.post) ([(3,zS)]++rest) hok.2 (by rw[hr2];simp[Rx.post]) (by omega) (by omega)
  rw[if_neg (by omega)]at hb
  have e3:(n:Int)-1+2=((n+1:Nat):Int):=by omega
  have e4:((l.length+(a.len+b.len):Nat):Int)-1=(((l++a.post).length+b.len:Nat):Int)-1:=by rw[ak,a.aS];omega
  rw[e3,e4,hb]
  have ha:=iha F n l (b.post++[(3,zS)]++rest) hok.1 (by rw[hr2];simp[Rx.post]) hn1 (by omega)
  have e5:((n+1:Nat):Int)-1=(n:Int):=by omega
  rw[e5,ak,a.aS,ha]
 |rep k a iha=>
  intro F n l rest hok hr2 hn1 hn2
  simp only[Rx.len]at hn2 |-
  obtain⟨k1,k2,k3⟩:=Dp hok
  have hp:r[l.length+a.len]?=some (k,zS):=by
   rw[hr2]
   simp[Rx.post,<-a.aS]
  have e:((l.length+(a.len+1):Nat):Int)-1=((l.length+a.len:Nat):Int):=by omega
  rw[e,show F+(a.len+1)=(F+a.len)+1 by omega,step _ n _ _ hp ⟨k1,k2⟩ hn1 (by omega)]
  have e2:cF ((k,zS):Pc).1=1:=k3
  rw[e2,if_neg (by omega)]
  have ha:=iha F n l ([(k,zS)]++rest) hok.2 (by rw[hr2];simp[Rx.post]) hn1 (by omega)
  have e5:(n:Int)-1+1=(n:Int):=by omega
  rw[e5,ha]
theorem EV{l rest:List Pc}{t:Rx}(hok:t.ok)(hl:(l++t.post++rest).length<=100000):Db N0 (l++t.post++rest,(((l.length+t.len:Nat):Int)-1,()))=some ((((l.length:Nat):Int),()),()):=by
 have hlen:t.len<=100000:=by
  have:=t.aS
  grind
 have h:=Dq hl _ rfl t (N0-t.len) 1 l rest hok rfl (by omega) (by omega)
 rw[if_pos rfl,show N0-t.len+t.len=N0 by unfold N0;omega]at h
 exact h
end
noncomputable section
theorem qs{α:Type}(l m rest:List α):cn (l++m++rest) ((l.length:Nat):Int) ((l.length+m.length:Nat):Int)=m:=by
 unfold cn
 rw[aa,aa,Nat.add_sub_cancel_left,aT,om,List.take_left]
theorem kq{r0:List Pc}{p:Pc}(h:r0.length<=100000):IntKind.wrap .i64 ((((r0++[p]).length:Nat):Int)-1)=((r0.length:Nat):Int)/\(r0++[p])[r0.length]?=some p:=by grind [bH]
theorem HN{p:Pc}(hk:0<=p.1/\p.1<=6)(ht:cF p.1=0):yo N0 ([p],())=some (([],()),()):=by
 obtain⟨h1,h2⟩:=kq (r0:=[]) (p:=p) (by simp)
 delta yo Ap Bd Wi
 have n0:(0:Int)<=((([]:List Pc).length:Nat):Int):=by omega
 rw[cm]at h1 h2
 simp only[h1,if_pos n0,aa,h2,tH hk,aD,ht]
 rfl
theorem xe{rest:List Pc}{t:Rx}(hok:t.ok)(hl:(t.post++rest).length<=100000):Db N0 (t.post++rest,(((t.post.length:Nat):Int)-1,()))=some (((0:Int),()),()):=by
 have e1:([]:List Pc)++t.post=t.post:=cm _
 have:=EV (l:=[]) (rest:=rest) (t:=t) hok (by rw[e1];exact hl)
 have e2:([]:List Pc).length+t.len=t.post.length:=by rw[t.aS,bn,eF]
 simp_all
theorem KQ{a:Rx}{p:Pc}(ha:a.ok)(hl:a.len<=10000)(hk:0<=p.1/\p.1<=6)(ht:cF p.1=1):yo N0 (a.post++[p],())=some (([a.post],()),()):=by
 have pl:=a.aS
 obtain⟨h1,h2⟩:=kq (r0:=a.post) (p:=p) (by omega)
 have n0:(0:Int)<=((a.post.length:Nat):Int):=by omega
 have q1:Db N0 (a.post++[p],(((a.post.length:Nat):Int)-1,()))=some (((0:Int),()),()):=by grind [xe]
 delta yo Ap Bd Wi
 simp only[h1]
 rw[if_pos n0,aa,h2]
 simp only
 rw[ae (tH hk),ht]
 simp only
 refine aZ (λm x r=>((m=1/\x=((),([],(((a.post.length:Nat):Int),((1:Int),())))))\/(m=0/\x=((),([a.post],((0:Int),((0:Int),()))))))/\r=some (([a.post],()),())) ?_ N0 1 _ _ (by unfold N0;omega) ⟨.inl ⟨rfl,rfl⟩,rfl⟩
 rintro m x r ⟨hx,rfl⟩ k hk
 rcases hx with⟨rfl,rfl⟩|⟨rfl,rfl⟩
 ·have w1:IntKind.wrap .i64 (((a.post.length:Nat):Int)-1)=((a.post.length:Nat):Int)-1:=bp (by omega) (by omega)
  have c0:(0:Int)<=0/\(0:Int)<=((a.post.length:Nat):Int)/\((a.post.length:Nat):Int)<=(((a.post++[p]).length:Nat):Int):=⟨by omega,by omega,by rw[ak];omega⟩
  have rZ:cn (a.post++[p]) 0 ((a.post.length:Nat):Int)=a.post:=by
   have:=qs ([]:List Pc) a.post [p]
   simpa using this
  have f1:(([a.post]:List (List Pc)).length+([]:List (List Pc)).length)*24<=140737488355328:=by simp
  have f2:([a.post]:List (List Pc)).length+([]:List (List Pc)).length<=9223372036854775807:=by simp
  have w2:IntKind.wrap .i64 ((1:Int)-1)=0:=bp (by omega) (by omega)
  simp only[show decide ((0:Int)<1)=true from rfl,cond_true,w1,q1,aD,if_pos c0,rZ,if_pos f1,if_pos f2,w2,bV]
  exact hk 0 _ _ (by omega) ⟨.inr ⟨rfl,rfl⟩,rfl⟩
 ·simp only[show decide ((0:Int)<0)=false from rfl,cond_false]
theorem Bn{a b:Rx}{p:Pc}(ha:a.ok)(hb:b.ok)(hl:a.len+b.len<=10000)(hk:0<=p.1/\p.1<=6)(ht:cF p.1=2):yo N0 (a.post++b.post++[p],())=some (([a.post,b.post],()),()):=by
 have pl:=a.aS
 have pl2:=b.aS
 have Y6:(a.post++b.post++[p]).length=(a.post++b.post).length+1:=by rw[ak];rfl
 have lab:(a.post++b.post).length=a.post.length+b.post.length:=ak
 obtain⟨h1,h2⟩:=kq (r0:=a.post++b.post) (p:=p) (by rw[ak];omega)
 have n0:(0:Int)<=(((a.post++b.post).length:Nat):Int):=by omega
 have q1:Db N0 (a.post++b.post++[p],((((a.post++b.post).length:Nat):Int)-1,()))=some ((((a.post.length:Nat):Int),()),()):=by grind [EV]
 have q2:Db N0 (a.post++b.post++[p],(((a.post.length:Nat):Int)-1,()))=some (((0:Int),()),()):=by grind [xe]
 delta yo Ap Bd Wi
 simp only[h1]
 rw[if_pos n0,aa,h2]
 simp only
 rw[ae (tH hk),ht]
 simp only
 refine aZ (λm x r=>((m=2/\x=((),([],((((a.post++b.post).length:Nat):Int),((2:Int),())))))\/(m=1/\x=((),([b.post],(((a.post.length:Nat):Int),((1:Int),())))))\/(m=0/\x=((),([a.post,b.post],((0:Int),((0:Int),()))))))/\r=some (([a.post,b.post],()),())) ?_ N0 2 _ _ (by unfold N0;omega) ⟨.inl ⟨rfl,rfl⟩,rfl⟩
 rintro m x r ⟨hx,rfl⟩ k hk
 rcases hx with⟨rfl,rfl⟩|⟨rfl,rfl⟩|⟨rfl,rfl⟩
 ·have w1:IntKind.wrap .i64 ((((a.post++b.post).length:Nat):Int)-1)=(((a.post++b.post).length:Nat):Int)-1:=bp (by omega) (by rw[ak];omega)
  have c0:(0:Int)<=((a.post.length:Nat):Int)/\((a.post.length:Nat):Int)<=(((a.post++b.post).length:Nat):Int)/\(((a.post++b.post).length:Nat):Int)<=(((a.post++b.post++[p]).length:Nat):Int):=⟨by omega,by omega,by omega⟩
  have rZ:cn (a.post++b.post++[p]) ((a.post.length:Nat):Int) (((a.post++b.post).length:Nat):Int)=b.post:=by
   rw[lab]
   exact qs a.post b.post [p]
  have f1:(([b.post]:List (List Pc)).length+([]:List (List Pc)).length)*24<=140737488355328:=by simp
  have f2:([b.post]:List (List Pc)).length+([]:List (List Pc)).length<=9223372036854775807:=by simp
  have w2:IntKind.wrap .i64 ((2:Int)-1)=1:=bp (by omega) (by omega)
  simp only[show decide ((0:Int)<2)=true from rfl,cond_true,w1,q1,aD,if_pos c0,rZ,if_pos f1,if_pos f2,w2,bV]
  exact hk 1 _ _ (by omega) ⟨.inr (.inl ⟨rfl,rfl⟩),rfl⟩
 ·have w1:IntKind.wrap .i64 (((a.post.length:Nat):Int)-1)=((a.post.length:Nat):Int)-1:=bp (by omega) (by omega)
  have c0:(0:Int)<=0/\(0:Int)<=((a.post.length:Nat):Int)/\((a.post.length:Nat):Int)<=(((a.post++b.post++[p]).length:Nat):Int):=⟨by omega,by omega,by rw[ak,ak];omega⟩
  have rZ:cn (a.post++b.post++[p]) 0 ((a.post.length:Nat):Int)=a.post:=by
   have:=qs ([]:List Pc) a.post (b.post++[p])
   simpa using this
  have f1:(([a.post]:List (List Pc)).length+([b.post]:List (List Pc)).length)*24<=140737488355328:=by simp
  have f2:([a.post]:List (List Pc)).length+([b.post]:List (List Pc)).length<=9223372036854775807:=by simp
  have w2:IntKind.wrap .i64 ((1:Int)-1)=0:=bp (by omega) (by omega)
  simp only[show decide ((0:Int)<1)=true from rfl,cond_true,w1,q2,aD,if_pos c0,rZ,if_pos f1,if_pos f2,w2]
  exact hk 0 _ _ (by omega) ⟨.inr (.inr ⟨rfl,rfl⟩),rfl⟩
 ·simp only[show decide ((0:Int)<0)=false from rfl,cond_false]
theorem yH(a b:Bool):Ka N0 ([a],([b],()))=some (([a||b],()),()):=by
 revert a b
 decide +kernel
abbrev EnF:=(List Pc×(List Int×(List Bool×Unit)))->Option ((List Bool×Unit)×Unit)
theorem KR{q2 q3:EnF}{r:List Pc}{n:Bool}(h:∀ b,q2 (r,([],([b],())))=some (([b&&n],()),()))(b:Bool):AY N0 q2 q3 (r,([],([b],())))=some (([b],()),()):=by
 unfold AY
 dsimp only
 refine aZ (λm x q=>x=((),([b],((0:Int),())))/\q=some (([b],()),())) ?_ N0 0 _ _ (by unfold N0;omega) ⟨rfl,rfl⟩
 rintro m x q ⟨rfl,rfl⟩ k hk
 have e1:decide ((0:Int)<=((([]:List Int).length:Nat):Int))=true:=rfl
 have e2:(b||(b&&n))=b:=by cases b <;> rfl
 simp only[e1,cond_true,h b,aD,yH,e2]
 refine aZ (λm x q=>((m=1/\x=((),(true,((0:Int),()))))\/(m=0/\x=((),(true,((1:Int),())))))/\q=some (([b],()),())) ?_ N0 1 _ _ (by unfold N0;omega) ⟨.inl ⟨rfl,rfl⟩,rfl⟩
 rintro m x q ⟨hx,rfl⟩ k2 hk2
 rcases hx with⟨rfl,rfl⟩|⟨rfl,rfl⟩
 ·have g0:([b]:List Bool)[((0:Int)).toNat]?=some b:=rfl
  have e3:decide ((0:Int)<(([b]:List Bool).length:Nat))=true:=rfl
  have n0:(0:Int)<=0:=by omega
  simp only[e3,cond_true,aE,if_pos n0,g0,beq_self_eq_true]
  exact hk2 0 _ _ (by omega) ⟨.inr ⟨rfl,rfl⟩,rfl⟩
 ·rfl
end
noncomputable section
theorem Bo{α:Type}(x:α)(l:List α):(x::l)[((0:Int)).toNat]?=some x:=rfl
theorem VB{α:Type}(x y:α)(l:List α):(x::y::l)[((1:Int)).toNat]?=some y:=rfl
theorem Bp{p:Pc}(hk:0<=p.1/\p.1<=6)(ht:cF p.1=0):yo N0 ([]++[p],())=some (([],()),()):=by
 rw[cm];exact HN hk ht
theorem z0:(0:Int)<=0:=by omega
theorem z1:(0:Int)<=1:=by omega
theorem OW:∀ (t:Rx),t.ok->t.len<=10000->∀ (D:Nat) (b:Bool),2*t.len<=D->(gb N0 D).1 (t.post,([],([b],())))=some (([b&&t.null],()),()):=by
 have c0:∀ b:Bool,(0:Int)<=(([b]:List Bool).length:Nat)/\((([b]:List Bool).length:Nat):Int)<=(([b]:List Bool).length:Nat):=λb=>⟨by omega,by omega⟩
 have c1:∀ b:Bool,(((([b]:List Bool).length:Nat):Int)).toNat*1<=140737488355328:=λb=>by rw[aa,kI];omega
 intro t
 induction t with
 |eps=>
  intro _ _ D b hD
  obtain⟨D,rfl⟩:∃ q,D=q+1:=⟨D-1,by simp only[Rx.len]at hD;omega⟩
  obtain⟨h1,h2⟩:=kq (r0:=[]) (p:=(0,zS)) (by simp)
  have n0:(0:Int)<=((([]:List Pc).length:Nat):Int):=by omega
  show lm N0 (gb N0 D).1 (gb N0 D).2 ([]++[(0,zS)],([],([b],())))=_
  unfold lm
  simp only[h1]
  rw[if_pos (c0 b),if_pos (c1 b),ae (Bp (p:=(0,zS)) (by decide) rfl)]
  simp only
  rw[if_pos n0,aa,h2]
  simp only
  rw[decide_true,cond_true,Rx.null,Bool.and_true]
 |set S=>
  intro _ _ D b hD
  obtain⟨D,rfl⟩:∃ q,D=q+1:=⟨D-1,by simp only[Rx.len]at hD;omega⟩
  obtain⟨h1,h2⟩:=kq (r0:=[]) (p:=(1,S)) (by simp)
  have n0:(0:Int)<=((([]:List Pc).length:Nat):Int):=by omega
  show lm N0 (gb N0 D).1 (gb N0 D).2 ([]++[(1,S)],([],([b],())))=_
  unfold lm
  simp only[h1]
  rw[if_pos (c0 b),if_pos (c1 b),ae (Bp (p:=(1,S)) ⟨z1,(by decide:(1:Int)<=6)⟩ rfl)]
  simp only
  rw[if_pos n0,aa,h2]
  simp only
  rw[show decide ((1:Int)=0)=false from rfl,cond_false,decide_true,cond_true,Rx.null,Bool.and_false]
  refine aZ (λm x q=>x=(([false],()),((0:Int),()))/\q=some (([false],()),())) ?_ N0 0 _ _ (by unfold N0;omega) ⟨rfl,rfl⟩
  rintro m x q ⟨rfl,rfl⟩ k hk
  simp only
  rw[show decide ((0:Int)<((([]:List Int).length:Nat):Int))=false from rfl,cond_false]
 |cat u v ihu ihv=>
  intro hok hl D b hD
  simp only[Rx.len]at hl hD
  obtain⟨D,rfl⟩:∃ q,D=q+1:=⟨D-1,by omega⟩
  obtain⟨h1,h2⟩:=kq (r0:=u.post++v.post) (p:=(2,zS)) (by rw[ak,u.aS,v.aS];omega)
  have n0:(0:Int)<=(((u.post++v.post).length:Nat):Int):=by omega
  show lm N0 (gb N0 D).1 (gb N0 D).2 (u.post++v.post++[(2,zS)],([],([b],())))=_
  unfold lm
  simp only[h1]
  rw[if_pos (c0 b),if_pos (c1 b),ae (Bn (p:=(2,zS)) hok.1 hok.2 (by omega) (by decide) rfl)]
  simp only
  rw[if_pos n0,aa,h2]
  simp only
  rw[show decide ((2:Int)=0)=false from rfl,cond_false,show decide ((2:Int)=1)=false from rfl,cond_false,decide_true,cond_true,if_pos z1,VB]
  simp only
  rw[if_pos z0,Bo]
  simp only
  rw[ae (ihu hok.1 (by omega) D b (by omega))]
  simp only
  rw[ae (ihv hok.2 (by omega) D (b&&u.null) (by omega))]
  simp only
  rw[Rx.null,oj]
 |alt u v ihu ihv=>
  intro hok hl D b hD
  simp only[Rx.len]at hl hD
  obtain⟨D,rfl⟩:∃ q,D=q+1:=⟨D-1,by omega⟩
  obtain⟨h1,h2⟩:=kq (r0:=u.post++v.post) (p:=(3,zS)) (by rw[ak,u.aS,v.aS];omega)
  have n0:(0:Int)<=(((u.post++v.post).length:Nat):Int):=by omega
  show lm N0 (gb N0 D).1 (gb N0 D).2 (u.post++v.post++[(3,zS)],([],([b],())))=_
  unfold lm
  simp only[h1]
  rw[if_pos (c0 b),if_pos (c1 b),ae (Bn (p:=(3,zS)) hok.1 hok.2 (by omega) (by decide) rfl)]
  simp only
  rw[if_pos n0,aa,h2]
  simp only
  rw[show decide ((3:Int)=0)=false from rfl,cond_false,show decide ((3:Int)=1)=false from rfl,cond_false,show decide ((3:Int)=2)=false from rfl,cond_false,decide_true,cond_true,if_pos z0,Bo]
  simp only
  rw[ae (ihu hok.1 (by omega) D b (by omega))]
  simp only
  rw[if_pos z1,VB]
  simp only
  rw[ae (ihv hok.2 (by omega) D b (by omega))]
  simp only
  rw[ae (yH _ _),Rx.null]
  have e:((b&&u.null)||(b&&v.null))=(b&&(u.null||v.null)):=by cases b <;> simp
  simp only
  rw[e]
 |rep kd u ihu=>
  intro hok hl D b hD
  simp only[Rx.len]at hl hD
  have hup:=u.bL
  obtain⟨D,rfl⟩:∃ q,D=q+1+1:=⟨D-2,by omega⟩
  obtain⟨k1,k2,k3⟩:=Dp hok
  obtain⟨h1,h2⟩:=kq (r0:=u.post) (p:=(kd,zS)) (by rw[u.aS];omega)
  have n0:(0:Int)<=((u.post.length:Nat):Int):=by omega
  show lm N0 (gb N0 (D+1)).1 (gb N0 (D+1)).2 (u.post++[(kd,zS)],([],([b],())))=_
  unfold lm
  simp only[h1]
  rw[if_pos (c0 b),if_pos (c1 b),ae (KQ (p:=(kd,zS)) hok.2 (by omega) ⟨k1,k2⟩ k3)]
  simp only
  rw[if_pos n0,aa,h2]
  simp only
  have hag:∀ b:Bool,(gb N0 (D+1)).2 (u.post,([],([b],())))=some (([b],()),()):=λb=>
   KR (q2:=(gb N0 D).1) (q3:=(gb N0 D).2) (n:=u.null) (λb=>ihu hok.2 (by omega) D b (by omega)) b
  have hu:=λb=>ihu hok.2 (by omega) (D+1) b (by omega)
  rcases hok.1 with rfl|rfl|rfl
  ·rw[show decide ((4:Int)=0)=false from rfl,cond_false,show decide ((4:Int)=1)=false from rfl,cond_false,show decide ((4:Int)=2)=false from rfl,cond_false,show decide ((4:Int)=3)=false from rfl,cond_false,show decide ((4:Int)=6)=false from rfl,cond_false,if_pos n0]
   rw[show decide ((4:Int)=4)=true from rfl,cond_true,if_pos z0,Bo]
   simp only
   rw[ae (hag b)]
   simp only
   have e:(b&&(Rx.rep 4 u).null)=b:=by simp[Rx.null]
   rw[e]
  ·rw[show decide ((5:Int)=0)=false from rfl,cond_false,show decide ((5:Int)=1)=false from rfl,cond_false,show decide ((5:Int)=2)=false from rfl,cond_false,show decide ((5:Int)=3)=false from rfl,cond_false,show decide ((5:Int)=6)=false from rfl,cond_false,if_pos n0]
   rw[show decide ((5:Int)=4)=false from rfl,cond_false,if_pos z0,Bo]
   simp only
   rw[if_pos z0]
   rw[ae (hu b)]
   simp only
   rw[ae (hag _)]
   simp only
   have e:(Rx.rep 5 u).null=u.null:=by simp[Rx.null]
   rw[e]
  ·rw[show decide ((6:Int)=0)=false from rfl,cond_false,show decide ((6:Int)=1)=false from rfl,cond_false,show decide ((6:Int)=2)=false from rfl,cond_false,show decide ((6:Int)=3)=false from rfl,cond_false,show decide ((6:Int)=6)=true from rfl,cond_true,if_pos z0,Bo]
   simp only
   rw[ae (hu b)]
   simp only
   rw[ae (yH _ _)]
   simp only
   have e:(b||(b&&u.null))=(b&&(Rx.rep 6 u).null):=by cases b <;> simp[Rx.null]
   rw[e]
theorem OX{t:Rx}(hok:t.ok)(hl:t.len<=10000):Oe N0 (t.post,([],()))=some ((t.null,()),()):=by
 have h:=OW t hok hl N0 true (by unfold N0;omega)
 delta Oe Wi
 have w:IntKind.wrap .i64 ((((([]:List Int).length:Nat):Int))+1)=1:=bp (by simp) (by simp)
 simp only[w]
 rw[if_pos (show(0:Int)<=1/\(1:Int)<=1 by omega),if_pos (show((1:Int)).toNat*1<=140737488355328 by decide),if_pos z0,show(List.replicate ((1:Int)).toNat false)[((0:Int)).toNat]?=some false from rfl]
 simp only
 rw[if_pos z0,show(List.replicate ((1:Int)).toNat false).set ((0:Int)).toNat true=[true]from rfl]
 have h2:RZ N0 (t.post,([],([true],())))=some (([true&&t.null],()),()):=h
 rw[ae h2]
 simp only
 rw[show(((([]:List Int).length:Nat):Int))=0 from rfl,if_pos z0,Bo]
 simp only
 rw[bG]
end
noncomputable section
theorem tI{S:List Int}{w:Nat}{x:Int}(hx:S[w]?=some x)(h:0<=x/\x<=18446744073709551615):x=((br (λi=>((S[i / 64]?).getD 0).toNat.testBit (i % 64)) w:Nat):Int):=by
 have:x.toNat=br (λi=>((S[i / 64]?).getD 0).toNat.testBit (i % 64)) w:=by
  apply oJ
  intro i
  by_cases hi:i<64
  ·have e1:(64*w+i) / 64=w:=by omega
   have e2:(64*w+i) % 64=i:=by omega
   rw[e1,e2,hx,decide_eq_true hi,bG]
   rfl
  ·rw[decide_eq_false hi,dA]
   apply qW
   have:x.toNat<2 ^ 64:=by omega
   exact bz this (hY (by omega) (by omega))
 omega
theorem EW{S:List Int}(h1:S.length=4)(h2:∀ x∈S,0<=x/\x<=18446744073709551615):∃ l,S=ofB l:=by
 match S,h1 with
 |[a,b,c,d],_=>
  refine⟨λi=>((([a,b,c,d]:List Int)[i / 64]?).getD 0).toNat.testBit (i % 64),?_⟩
  have e0:=tI (S:=[a,b,c,d]) (w:=0) rfl (h2 a (by simp))
  have e1:=tI (S:=[a,b,c,d]) (w:=1) rfl (h2 b (by simp))
  have e2:=tI (S:=[a,b,c,d]) (w:=2) rfl (h2 c (by simp))
  have e3:=tI (S:=[a,b,c,d]) (w:=3) rfl (h2 d (by simp))
  unfold ofB
  rw[<-e0,<-e1,<-e2,<-e3]
theorem Br{S:List Int}(h1:S.length=4)(h2:∀ x∈S,0<=x/\x<=18446744073709551615):tq N0 (S,())=some ((decide (S=zS),()),()):=by
 obtain⟨l,rfl⟩:=EW h1 h2
 rw[EL]
 have:ew l=decide (ofB l=zS):=by
  rw[cI,decide_eq_true_eq,gK]
 rw[this]
theorem tJ:tq N0 (zS,())=some ((true,()),()):=by
 rw[Br rfl (by decide)]
 rfl
theorem iF{k:Int}(h:0<=k/\k<=6):AN N0 (k,())=some ((cF k,()),()):=by
 rw[yE]
 have:(if k=0\/k=1 then(0:Int)else if k=4\/k=5\/k=6 then 1 else if k=2\/k=3 then 2 else -1)=cF k:=by
  unfold cF
  by_cases h0:k=0\/k=1
  ·rw[if_pos h0,if_pos h0]
  ·rw[if_neg h0,if_neg h0]
   by_cases h1:k=2\/k=3
   ·rw[if_neg (by omega),if_pos h1,if_pos h1]
   ·rw[if_pos (by omega),if_neg h1]
 rw[this]
abbrev ChS:=Unit×(Int×(Int×Unit))
def chB(r:List Pc):ChS->(ChS->Option ((Int×Unit)×Unit))->Option ((Int×Unit)×Unit):=λv3 v4=>
 (bif decide (v3.2.2.1<((r.length:Nat):Int))then(if 0<=v3.2.2.1 then(match r[(v3.2.2.1).toNat]? with|some v5=>(ah (AN N0 (v5.1,())) λv6=>(aq (λ(v7:Unit×(Bool×Unit))=>(bif v7.2.1 then some ((5,()),())else v4 ((),(IntKind.wrap .i64 (v3.2.1+IntKind.wrap .i64 (1-v6.1.1)),(IntKind.wrap .i64 (v3.2.2.1+1),()))))) λv8=>(bif decide (v6.1.1<0)then v8 ((),(true,()))else(bif decide (v3.2.1<v6.1.1)then v8 ((),(true,()))else(ah (tq N0 (v5.2,())) λv9=>v8 ((),((decide (v5.1=1) == v9.1.1),())))))))|none=>none)else none)else(bif !decide (v3.2.1=1)then some ((5,()),())else some ((0,()),())))
theorem qt{r:List Pc}(hr:r.length<=100000)(F d i:Nat)(p:Pc)(hp:r[i]?=some p)(hk:0<=p.1/\p.1<=6)(hd:cF p.1<=(d:Int))(hd2:d<=1000000)(hs:tq N0 (p.2,())=some ((!decide (p.1=1),()),())):
 aC (chB r) (F+1) ((),((d:Int),((i:Int),())))=aC (chB r) F ((),((d:Int)+(1-cF p.1),(((i+1:Nat):Int),()))):=by
 have hi:i<r.length:=by
  rcases aj i r.length with h|h
  ·exact h
  ·rw[List.getElem?_eq_none h]at hp;cases hp
 have ht:0<=cF p.1/\cF p.1<=2:=by
  unfold cF
  split
  ·omega
  ·split <;> omega
 rw[dP]
 unfold chB
 simp only
 have n0:(0:Int)<=(i:Int):=by omega
 have w1:IntKind.wrap .i64 (1-cF p.1)=1-cF p.1:=bp (by omega) (by omega)
 have w2:IntKind.wrap .i64 ((d:Int)+(1-cF p.1))=(d:Int)+(1-cF p.1):=bp (by omega) (by omega)
 rw[decide_eq_true (show(i:Int)<((r.length:Nat):Int) by omega),cond_true,if_pos n0,aa,hp]
 simp only
 rw[ae (iF hk)]
 simp only
 refine aV ((),(false,())) (λK=>?_) ?_
 ·rw[decide_eq_false (show ¬cF p.1<0 by omega),cond_false,decide_eq_false (show ¬(d:Int)<cF p.1 by omega),cond_false,ae hs]
  cases decide (p.1=1) <;> rfl
 ·simp only
  rw[cond_false,w1,w2,cV (by omega)]
theorem OY{r:List Pc}(hr:r.length<=100000):∀ (t:Rx) (F d:Nat) (l rest:List Pc),t.ok->r=l++t.post++rest->d+t.len<=1000000->
 aC (chB r) (F+t.len) ((),((d:Int),((l.length:Int),())))=aC (chB r) F ((),(((d+1:Nat):Int),(((l.length+t.len:Nat):Int),()))):=by
 intro t
 induction t with
 |eps=>
  intro F d l rest _ hr2 hd
  simp only[Rx.len]
  have hp:r[l.length]?=some (0,zS):=by rw[hr2];simp[Rx.post]
  rw[qt hr F d l.length _ hp (by decide) (by show(0:Int)<=_;omega) (by omega) tJ]
  rfl
 |set S=>
  intro F d l rest hok hr2 hd
  simp only[Rx.len]
  have hp:r[l.length]?=some (1,S):=by rw[hr2];simp[Rx.post]
  have hs:=Br hok.1 hok.2.2
  rw[decide_eq_false hok.2.1]at hs
  rw[qt hr F d l.length _ hp ⟨z1,(by decide:(1:Int)<=6)⟩ (by show(0:Int)<=_;omega) (by omega) hs]
  rfl
 |cat a b iha ihb=>
  intro F d l rest hok hr2 hd
  simp only[Rx.len]at hd |-
  have pa:=a.bL
  have pb:=b.bL
  have hp:r[l.length+a.len+b.len]?=some (2,zS):=by
   rw[hr2]
   simp[Rx.post,<-a.aS,<-b.aS,cX]
  rw[show F+(a.len+b.len+1)=(F+1+b.len)+a.len by omega,iha (F+1+b.len) d l (b.post++[(2,zS)]++rest) hok.1 (by rw[hr2];simp[Rx.post]) (by omega)]
  have hb:=ihb (F+1) (d+1) (l++a.post) ([(2,zS)]++rest) hok.2 (by rw[hr2];simp[Rx.post]) (by omega)
  rw[ak,a.aS]at hb
  rw[hb,qt hr F (d+1+1) _ _ hp (by decide) (by show(2:Int)<=_;omega) (by omega) tJ]
  have e1:((d+1+1:Nat):Int)+(1-cF ((2,zS):Pc).1)=((d+1:Nat):Int):=by
   show _+(1-2:Int)=_
   omega
  have e2:l.length+a.len+b.len+1=l.length+(a.len+b.len+1):=by omega
  rw[e1,e2]
 |alt a b iha ihb=>
  intro F d l rest hok hr2 hd
  simp only[Rx.len]at hd |-
  have pa:=a.bL
  have pb:=b.bL
  have hp:r[l.length+a.len+b.len]?=some (3,zS):=by
   rw[hr2]
   simp[Rx.post,<-a.aS,<-b.aS,cX]
  rw[show F+(a.len+b.len+1)=(F+1+b.len)+a.len by omega,iha (F+1+b.len) d l (b.post++[(3,zS)]++rest) hok.1 (by rw[hr2];simp[Rx.post]) (by omega)]
  have hb:=ihb (F+1) (d+1) (l++a.post) ([(3,zS)]++rest) hok.2 (by rw[hr2];simp[Rx.post]) (by omega)
  rw[ak,a.aS]at hb
  rw[hb,qt hr F (d+1+1) _ _ hp (by decide) (by show(2:Int)<=_;omega) (by omega) tJ]
  have e1:((d+1+1:Nat):Int)+(1-cF ((3,zS):Pc).1)=((d+1:Nat):Int):=by
   show _+(1-2:Int)=_
   omega
  have e2:l.length+a.len+b.len+1=l.length+(a.len+b.len+1):=by omega
  rw[e1,e2]
 |rep k a iha=>
  intro F d l rest hok hr2 hd
  simp only[Rx.len]at hd |-
  obtain⟨k1,k2,k3⟩:=Dp hok
  have hp:r[l.length+a.len]?=some (k,zS):=by
   rw[hr2]
   simp[Rx.post,<-a.aS]
  have hk1:decide (k=1)=false:=by
   rcases hok.1 with rfl|rfl|rfl <;> rfl
  have hs:tq N0 (((k,zS):Pc).2,())=some ((!decide (((k,zS):Pc).1=1),()),()):=by
   show tq N0 (zS,())=some ((!decide (k=1),()),())
   rw[tJ,hk1];rfl
  rw[show F+(a.len+1)=(F+1)+a.len by omega,iha (F+1) d l ([(k,zS)]++rest) hok.2 (by rw[hr2];simp[Rx.post]) (by omega),
   qt hr F (d+1) _ _ hp ⟨k1,k2⟩ (by show cF k<=_;rw[k3];omega) (by omega) hs]
  have e1:((d+1:Nat):Int)+(1-cF ((k,zS):Pc).1)=((d+1:Nat):Int):=by
   show _+(1-cF k)=_
   rw[k3];omega
  have e2:l.length+a.len+1=l.length+(a.len+1):=by omega
  rw[e1,e2]
theorem OZ{t:Rx}(hok:t.ok)(hl:t.len<=400):NS N0 (t.post,())=some ((0,()),()):=by
 have tl:=t.aS
 have h:=OY (r:=t.post) (by omega) t (N0-t.len) 0 [] [] hok (by simp) (by omega)
 rw[show N0-t.len+t.len=N0 by unfold N0;omega]at h
 unfold NS
 simp only
 rw[decide_eq_false (show ¬(400:Int)<((t.post.length:Nat):Int) by omega),cond_false]
 refine Eq.trans h ?_
 obtain⟨q,hq⟩:∃ q,N0-t.len=q+1:=⟨N0-t.len-1,by unfold N0;omega⟩
 rw[hq,dP]
 unfold chB
 simp only
 have e:((([]:List Pc).length+t.len:Nat):Int)=((t.post.length:Nat):Int):=by rw[tl];simp
 rw[e,decide_eq_false (show ¬((t.post.length:Nat):Int)<((t.post.length:Nat):Int) by omega),cond_false]
 rfl
end
noncomputable section
abbrev EdI:=Int×(Int×(List Int×Bool))
abbrev edI(e:Ed):EdI:=((e.1:Int),((e.2.1:Int),(e.2.2.1,e.2.2.2)))
abbrev NfI:=Int×(List EdI×(Int×Int))
def nf(n:Nat)(E:List Ed):NfI:=((n:Int),(E.map edI,(0,0)))
theorem qu{n:Nat}(hn:n<=100000)(E:List Ed):NT N0 (nf n E,())=some ((((n:Int),((n+1:Nat):Int)),()),(nf (n+2) E,())):=by
 have h:∀ m:Nat,m<=100001->J1 N0 (nf m E,())=some (((m:Int),()),(nf (m+1) E,())):=by
  intro m hm
  have w:IntKind.wrap .i64 (((m+1:Nat):Int)-1)=(m:Int):=by
   have:((m+1:Nat):Int)-1=(m:Int):=by omega
   rw[this];exact bH (by omega)
  delta J1 Wi;unfold nf
  simp only[cV (show m+1<9223372036854775808 by omega),w]
 unfold NT
 simp only[h n (by omega),h (n+1) (by omega),aD]
theorem fj{E:List Ed}(hE:E.length<=100000)(n f l:Nat):rS N0 (nf n E,((f:Int),((l:Int),())))=some ((),(nf n (E++[fE f l]),())):=by
 delta rS Ap;unfold nf
 have c1:((E.map edI).length+([((f:Int),((l:Int),([0,0,0,0],true)))]:List EdI).length)*56<=140737488355328:=by simp;omega
 have c2:(E.map edI).length+([((f:Int),((l:Int),([0,0,0,0],true)))]:List EdI).length<=9223372036854775807:=by simp;omega
 simp only
 rw[if_pos c1,if_pos c2,cO]
 rfl
theorem uZ{st0 ch:List (Int×Int)}(hl:(st0++ch).length<=100000){k:Int}(hk:k=((ch.length:Nat):Int))(X:Int×Int):
 IntKind.wrap .i64 ((((st0++ch).length:Nat):Int)-k)=((st0.length:Nat):Int)/\((0:Int)<=0/\(0:Int)<=((st0.length:Nat):Int)/\((st0.length:Nat):Int)<=(((st0++ch).length:Nat):Int))/\cn (st0++ch) 0 ((st0.length:Nat):Int)=st0/\(st0.length+([X]:List (Int×Int)).length)*16<=140737488355328/\st0.length+([X]:List (Int×Int)).length<=9223372036854775807:=by
 rw[ak]at hl
 subst hk
 refine⟨?_,⟨by omega,by omega,by rw[ak];omega⟩,?_,by rw[kI];omega,by rw[kI];omega⟩
 ·have:((((st0++ch).length:Nat):Int)-((ch.length:Nat):Int))=((st0.length:Nat):Int):=by rw[ak];omega
  rw[this];exact bH (by omega)
 ·have:=qs ([]:List (Int×Int)) st0 ch
  rw[cm,bn,eF]at this
  exact this
theorem KS{n:Nat}(hn:n<=100000){E:List Ed}(hE:E.length<=10000)(S:List Int){st:List (Int×Int)}(hst:st.length<=100000):
 qh N0 (nf n E,((1,S),(st,())))=some ((st++[((n:Int),((n+1:Nat):Int))],()),(nf (n+2) (E++[(n,n+1,S,false)]),())):=by
 delta qh Ap Bd Wi
 simp only[qu hn,aD]
 refine aV ((nf (n+2) (E++[(n,n+1,S,false)]),(st,())),()) (λK=>?_) ?_
 ·simp only[aE,show decide ((1:Int)=0)=false from rfl,show decide ((1:Int)=1)=true from rfl,decide_true,cond_false,cond_true]
  unfold nf
  have c1:((E.map edI).length+([((n:Int),(((n+1:Nat):Int),(S,false)))]:List EdI).length)*56<=140737488355328:=by simp;omega
  have c2:(E.map edI).length+([((n:Int),(((n+1:Nat):Int),(S,false)))]:List EdI).length<=9223372036854775807:=by simp;omega
  simp only
  rw[if_pos c1,if_pos c2,cO]
  rfl
 ·obtain⟨h1,h2,h3,h4,h5⟩:=uZ (st0:=st) (ch:=[]) (by rw[bV];exact hst) (k:=0) rfl ((n:Int),((n+1:Nat):Int))
  rw[bV]at h1 h2 h3
  simp only
  rw[ae (iF (k:=1) (by decide))]
  have e:cF 1=0:=rfl
  simp only[e,h1]
  rw[if_pos h2,h3,if_pos h4,if_pos h5]
theorem KT{n:Nat}(hn:n<=100000){E:List Ed}(hE:E.length<=10000){st:List (Int×Int)}(hst:st.length<=100000):
 qh N0 (nf n E,((0,zS),(st,())))=some ((st++[((n:Int),((n+1:Nat):Int))],()),(nf (n+2) (E++[fE n (n+1)]),())):=by
 delta qh Ap Bd Wi
 simp only[qu hn,aD]
 refine aV ((nf (n+2) (E++[fE n (n+1)]),(st,())),()) (λK=>?_) ?_
 ·rw[decide_true,cond_true,ae (fj (by omega) _ _ _)]
 ·obtain⟨h1,h2,h3,h4,h5⟩:=uZ (st0:=st) (ch:=[]) (by rw[bV];exact hst) (k:=0) rfl ((n:Int),((n+1:Nat):Int))
  rw[bV]at h1 h2 h3
  simp only
  rw[ae (iF (k:=0) (by decide))]
  have e:cF 0=0:=rfl
  simp only[e,h1]
  rw[if_pos h2,h3,if_pos h4,if_pos h5]
theorem Bs{st0:List (Int×Int)}{a b:Int×Int}(h:st0.length<=100000):IntKind.wrap .i64 ((((st0++[a,b]).length:Nat):Int)-2)=((st0.length:Nat):Int)/\IntKind.wrap .i64 ((((st0++[a,b]).length:Nat):Int)-1)=((st0.length+1:Nat):Int)/\(st0++[a,b])[st0.length]?=some a/\(st0++[a,b])[st0.length+1]?=some b:=by
 have hl:(st0++[a,b]).length=st0.length+2:=by rw[ak];rfl
 refine⟨?_,?_,by simp,by simp⟩
 ·have:((((st0++[a,b]).length:Nat):Int)-2)=((st0.length:Nat):Int):=by omega
  rw[this];exact bH (by omega)
 ·have:((((st0++[a,b]).length:Nat):Int)-1)=((st0.length+1:Nat):Int):=by omega
  rw[this];exact bH (by omega)
theorem KU{n:Nat}(hn:n<=100000){E:List Ed}(hE:E.length<=10000){st0:List (Int×Int)}(hst:st0.length<=90000)(f1 l1 f2 l2:Nat):
 qh N0 (nf n E,((2,zS),(st0++[((f1:Int),(l1:Int)),((f2:Int),(l2:Int))],())))=some ((st0++[((n:Int),((n+1:Nat):Int))],()),(nf (n+2) (E++[fE n f1,fE l1 f2,fE l2 (n+1)]),())):=by
 obtain⟨g1,g2,g3,g4⟩:=Bs (st0:=st0) (a:=((f1:Int),(l1:Int))) (b:=((f2:Int),(l2:Int))) (by omega)
 delta qh Ap Bd Wi
 simp only[qu hn,aD]
 refine aV ((nf (n+2) (E++[fE n f1,fE l1 f2,fE l2 (n+1)]),(st0++[((f1:Int),(l1:Int)),((f2:Int),(l2:Int))],())),()) (λK=>?_) ?_
 ·have n0:(0:Int)<=((st0.length:Nat):Int):=by omega
  have n1:(0:Int)<=((st0.length+1:Nat):Int):=by omega
  simp only[aE,show decide ((2:Int)=0)=false from rfl,show decide ((2:Int)=1)=false from rfl,decide_true,cond_false,cond_true,g1,g2]
  rw[if_pos n0,aa,g3]
  simp only
  rw[if_pos n1,aa,g4]
  simp only
  rw[ae (fj (by omega) _ _ _)]
  simp only
  rw[ae (fj (by simp;omega) _ _ _)]
  simp only
  rw[ae (fj (by simp;omega) _ _ _)]
  simp only[aT,gx,cm]
 ·obtain⟨h1,h2,h3,h4,h5⟩:=uZ (st0:=st0) (ch:=[((f1:Int),(l1:Int)),((f2:Int),(l2:Int))]) (by rw[ak];show st0.length+2<=_;omega) (k:=2) rfl ((n:Int),((n+1:Nat):Int))
  simp only
  rw[ae (iF (k:=2) (by decide))]
  have e:cF 2=2:=rfl
  simp only[e,h1]
  rw[if_pos h2,h3,if_pos h4,if_pos h5]
theorem KW{n:Nat}(hn:n<=100000){E:List Ed}(hE:E.length<=10000){st0:List (Int×Int)}(hst:st0.length<=90000)(f1 l1 f2 l2:Nat):
 qh N0 (nf n E,((3,zS),(st0++[((f1:Int),(l1:Int)),((f2:Int),(l2:Int))],())))=some ((st0++[((n:Int),((n+1:Nat):Int))],()),(nf (n+2) (E++[fE n f1,fE l1 (n+1),fE n f2,fE l2 (n+1)]),())):=by
 obtain⟨g1,g2,g3,g4⟩:=Bs (st0:=st0) (a:=((f1:Int),(l1:Int))) (b:=((f2:Int),(l2:Int))) (by omega)
 have hl:(st0++[((f1:Int),(l1:Int)),((f2:Int),(l2:Int))]).length=st0.length+2:=by rw[ak];rfl
 delta qh Ap Bd Wi
 simp only[qu hn,aD]
 refine aV ((nf (n+2) (E++[fE n f1,fE l1 (n+1),fE n f2,fE l2 (n+1)]),(st0++[((f1:Int),(l1:Int)),((f2:Int),(l2:Int))],())),()) (λK=>?_) ?_
 ·simp only[aE,show decide ((3:Int)=0)=false from rfl,show decide ((3:Int)=1)=false from rfl,show decide ((3:Int)=2)=false from rfl,decide_true,cond_false,cond_true,g1]
  rw[if_pos ⟨by omega,by omega,by omega⟩]
  refine aZ (λm x q=>((m=2/\x=((nf (n+2) E,(st0++[((f1:Int),(l1:Int)),((f2:Int),(l2:Int))],())),((0:Int),())))\/(m=1/\x=((nf (n+2) (E++[fE n f1,fE l1 (n+1)]),(st0++[((f1:Int),(l1:Int)),((f2:Int),(l2:Int))],())),((1:Int),())))\/(m=0/\x=((nf (n+2) (E++[fE n f1,fE l1 (n+1),fE n f2,fE l2 (n+1)]),(st0++[((f1:Int),(l1:Int)),((f2:Int),(l2:Int))],())),((2:Int),()))))/\q=K ((nf (n+2) (E++[fE n f1,fE l1 (n+1),fE n f2,fE l2 (n+1)]),(st0++[((f1:Int),(l1:Int)),((f2:Int),(l2:Int))],())),())) ?_ N0 2 _ _ (by unfold N0;omega) ⟨.inl ⟨rfl,rfl⟩,rfl⟩
  have evL:sN ((st0.length:Nat):Int) (((st0++[((f1:Int),(l1:Int)),((f2:Int),(l2:Int))]).length:Nat):Int)=2:=by unfold sN;omega
  rintro m x q ⟨hx,rfl⟩ k hk
  rcases hx with⟨rfl,rfl⟩|⟨rfl,rfl⟩|⟨rfl,rfl⟩
  ·have e1:zZ 0 ((st0.length:Nat):Int) (((st0++[((f1:Int),(l1:Int)),((f2:Int),(l2:Int))]).length:Nat):Int)=true:=by unfold zZ;simp;omega
   have e2:mG ((st0.length:Nat):Int) 0=((st0.length:Nat):Int):=by unfold mG;simp
   have n0:(0:Int)<=((st0.length:Nat):Int):=by omega
   have w1:IntKind.wrap .i64 ((0:Int)+1)=1:=bp (by omega) (by omega)
   simp only[evL,e1,e2,show decide ((0:Int)<2)=true from rfl,cond_true]
   rw[if_pos n0,aa,g3]
   simp only
   rw[ae (fj (by omega) _ _ _)]
   simp only
   rw[ae (fj (by simp;omega) _ _ _),w1,aT]
   exact hk 1 _ _ (by omega) ⟨.inr (.inl ⟨rfl,rfl⟩),rfl⟩
  ·have e1:zZ 1 ((st0.length:Nat):Int) (((st0++[((f1:Int),(l1:Int)),((f2:Int),(l2:Int))]).length:Nat):Int)=true:=by unfold zZ;simp;omega
   have e2:mG ((st0.length:Nat):Int) 1=((st0.length+1:Nat):Int):=by unfold mG;simp
   have n0:(0:Int)<=((st0.length+1:Nat):Int):=by omega
   have w1:IntKind.wrap .i64 ((1:Int)+1)=2:=bp (by omega) (by omega)
   simp only[evL,e1,e2,show decide ((1:Int)<2)=true from rfl,cond_true]
   rw[if_pos n0,aa,g4]
   simp only
   rw[ae (fj (by simp;omega) _ _ _)]
   simp only
   rw[ae (fj (by simp;omega) _ _ _),w1]
   simp only[aT,gx,cm]
   exact hk 0 _ _ (by omega) ⟨.inr (.inr ⟨rfl,rfl⟩),rfl⟩
  ·simp only[evL,show decide ((2:Int)<2)=false from rfl,cond_false]
 ·obtain⟨h1,h2,h3,h4,h5⟩:=uZ (st0:=st0) (ch:=[((f1:Int),(l1:Int)),((f2:Int),(l2:Int))]) (by rw[ak];show st0.length+2<=_;omega) (k:=2) rfl ((n:Int),((n+1:Nat):Int))
  simp only
  rw[ae (iF (k:=3) (by decide))]
  have e:cF 3=2:=rfl
  simp only[e,h1]
  rw[if_pos h2,h3,if_pos h4,if_pos h5]
theorem KX{n:Nat}(hn:n<=100000){E:List Ed}(hE:E.length<=10000){st0:List (Int×Int)}(hst:st0.length<=90000){k:Int}(hk:k=4\/k=5\/k=6)(f1 l1:Nat):
 qh N0 (nf n E,((k,zS),(st0++[((f1:Int),(l1:Int))],())))=some ((st0++[((n:Int),((n+1:Nat):Int))],()),(nf (n+2) (E++([fE n f1,fE l1 (n+1)]++(if k=6 then []else [fE l1 f1])++(if k=5 then []else [fE n (n+1)]))),())):=by
 have hl:(st0++[((f1:Int),(l1:Int))]).length=st0.length+1:=by rw[ak];rfl
 have g1:IntKind.wrap .i64 ((((st0++[((f1:Int),(l1:Int))]).length:Nat):Int)-1)=((st0.length:Nat):Int):=by
  have:((((st0++[((f1:Int),(l1:Int))]).length:Nat):Int)-1)=((st0.length:Nat):Int):=by omega
  rw[this];exact bH (by omega)
 have g2:(st0++[((f1:Int),(l1:Int))])[st0.length]?=some ((f1:Int),(l1:Int)):=by simp
 have n0:(0:Int)<=((st0.length:Nat):Int):=by omega
 delta qh Ap Bd Wi
 simp only[qu hn,aD]
 refine aV ((nf (n+2) (E++([fE n f1,fE l1 (n+1)]++(if k=6 then []else [fE l1 f1])++(if k=5 then []else [fE n (n+1)]))),(st0++[((f1:Int),(l1:Int))],())),()) (λK=>?_) ?_
 ·have q0:decide (k=0)=false:=decide_eq_false (by omega)
  have q1:decide (k=1)=false:=decide_eq_false (by omega)
  have q2:decide (k=2)=false:=decide_eq_false (by omega)
  have q3:decide (k=3)=false:=decide_eq_false (by omega)
  simp only[aE,q0,q1,q2,q3,cond_false,g1]
  rw[if_pos n0,aa,g2]
  simp only
  rw[ae (fj (by omega) _ _ _)]
  simp only
  rw[ae (fj (by simp;omega) _ _ _)]
  simp only
  rcases hk with rfl|rfl|rfl
  ·simp only[show decide ((4:Int)=6)=false from rfl,show decide ((4:Int)=5)=false from rfl,aH,cond_true]
   rw[ae (fj (by simp;omega) _ _ _)]
   simp only
   rw[ae (fj (by simp;omega) _ _ _)]
   simp
  ·simp only[show decide ((5:Int)=6)=false from rfl,decide_true,aH,ay,cond_true,cond_false]
   rw[ae (fj (by simp;omega) _ _ _)]
   simp
  ·simp only[show decide ((6:Int)=5)=false from rfl,decide_true,aH,ay,cond_true,cond_false]
   rw[ae (fj (by simp;omega) _ _ _)]
   simp
 ·obtain⟨h1,h2,h3,h4,h5⟩:=uZ (st0:=st0) (ch:=[((f1:Int),(l1:Int))]) (by omega) (k:=1) rfl ((n:Int),((n+1:Nat):Int))
  simp only
  have e:cF k=1:=by rcases hk with rfl|rfl|rfl <;> rfl
  rw[ae (iF (k:=k) (by omega))]
  simp only[e,h1]
  rw[if_pos h2,h3,if_pos h4,if_pos h5]
end
noncomputable section
theorem iG:∀ (t:Rx) (n:Nat),(t.aA n).length<=4*t.len:=by
 intro t
 induction t with
 |eps=>intro n;simp[Rx.aA,Rx.len]
 |set S=>intro n;simp[Rx.aA,Rx.len]
 |cat a b iha ihb=>
  intro n
  have h1:=iha n
  have h2:=ihb (n+2*a.len)
  simp only[Rx.aA,Rx.len,ak,aO,bn]
  omega
 |alt a b iha ihb=>
  intro n
  have h1:=iha n
  have h2:=ihb (n+2*a.len)
  simp only[Rx.aA,Rx.len,ak,aO,bn]
  omega
 |rep k a ih=>
  intro n
  have h1:=ih n
  simp only[Rx.aA,Rx.len,ak,aO,bn]
  split <;> split <;> simp <;> omega
abbrev OfS:=(NfI×(NfI×Unit))×(List (Int×Int)×(Int×Unit))
abbrev OfR:=(NfI×(Int×Unit))×Unit
def stB(r:List Pc):OfS->(OfS->Option OfR)->Option OfR:=λv4 v5=>
 (bif decide (v4.2.2.1<((r.length:Nat):Int))then(if 0<=v4.2.2.1 then(match r[(v4.2.2.1).toNat]? with|some v6=>(ah (qh N0 (v4.1.2.1,(v6,(v4.2.1,())))) λv7=>v5 ((v4.1.1,(v7.2.1,())),(v7.1.1,(IntKind.wrap .i64 (v4.2.2.1+1),()))))|none=>none)else none)
 else(if(0:Int)<=0 then(match v4.2.1[((0:Int)).toNat]? with|some v8=>(if(0:Int)<=0 then(match v4.2.1[((0:Int)).toNat]? with|some v9=>some (((v4.1.2.1.1,(v4.1.2.1.2.1,(v8.1,v9.2))),(0,())),())|none=>none)else none)|none=>none)else none))
def pr(f l:Nat):Int×Int:=((f:Int),(l:Int))
theorem qv{r:List Pc}(hr:r.length<=100000)(F i:Nat)(p:Pc)(hp:r[i]?=some p){Z M M':NfI}{st st':List (Int×Int)}(h:qh N0 (M,(p,(st,())))=some ((st',()),(M',()))):
 aC (stB r) (F+1) ((Z,(M,())),(st,((i:Int),())))=aC (stB r) F ((Z,(M',())),(st',(((i+1:Nat):Int),()))):=by
 have hi:i<r.length:=by
  rcases aj i r.length with h|h
  ·exact h
  ·rw[List.getElem?_eq_none h]at hp;cases hp
 rw[dP]
 unfold stB
 simp only
 have n0:(0:Int)<=(i:Int):=by omega
 rw[decide_eq_true (show(i:Int)<((r.length:Nat):Int) by omega),cond_true,if_pos n0,aa,hp]
 simp only
 rw[ae h]
 simp only[cV (show i+1<9223372036854775808 by omega)]
theorem O0{r:List Pc}(hr:r.length<=100000){Z:NfI}:∀ (t:Rx) (F n:Nat) (E:List Ed) (st:List (Int×Int)) (l rest:List Pc),t.ok->r=l++t.post++rest->n+2*t.len<=100000->E.length+4*t.len<=10000->st.length+t.len<=90000->
 aC (stB r) (F+t.len) ((Z,(nf n E,())),(st,((l.length:Int),())))=aC (stB r) F ((Z,(nf (n+2*t.len) (E++t.aA n),())),(st++[pr (t.fst n) (t.lst n)],(((l.length+t.len:Nat):Int),()))):=by
 intro t
 induction t with
 |eps=>
  intro F n E st l rest _ hr2 hn hE hst
  simp only[Rx.len]at hn hE hst |-
  have hp:r[l.length]?=some (0,zS):=by rw[hr2];simp[Rx.post]
  rw[qv hr F l.length _ hp (KT (by omega) (by omega) (by omega))]
  have e1:Rx.fst .eps n=n:=by simp only[Rx.fst,Rx.len];omega
  have e2:Rx.lst .eps n=n+1:=by simp only[Rx.lst,Rx.len];omega
  rw[e1,e2]
  rfl
 |set S=>
  intro F n E st l rest _ hr2 hn hE hst
  simp only[Rx.len]at hn hE hst |-
  have hp:r[l.length]?=some (1,S):=by rw[hr2];simp[Rx.post]
  rw[qv hr F l.length _ hp (KS (by omega) (by omega) S (by omega))]
  have e1:Rx.fst (.set S) n=n:=by simp only[Rx.fst,Rx.len];omega
  have e2:Rx.lst (.set S) n=n+1:=by simp only[Rx.lst,Rx.len];omega
  rw[e1,e2]
  rfl
 |cat a b iha ihb=>
  intro F n E st l rest hok hr2 hn hE hst
  simp only[Rx.len]at hn hE hst |-
  have pa:=a.bL
  have pb:=b.bL
  have la:=iG a n
  have lb:=iG b (n+2*a.len)
  have hp:r[l.length+a.len+b.len]?=some (2,zS):=by
   rw[hr2]
   simp[Rx.post,<-a.aS,<-b.aS,cX]
  rw[show F+(a.len+b.len+1)=(F+1+b.len)+a.len by omega,iha (F+1+b.len) n E st l (b.post++[(2,zS)]++rest) hok.1 (by rw[hr2];simp[Rx.post]) (by omega) (by omega) (by omega)]
  have hb:=ihb (F+1) (n+2*a.len) (E++a.aA n) (st++[pr (a.fst n) (a.lst n)]) (l++a.post) ([(2,zS)]++rest) hok.2 (by rw[hr2];simp[Rx.post]) (by omega) (by rw[ak];omega) (by rw[ak,kI];omega)
  rw[ak,a.aS]at hb
  have e0:st++[pr (a.fst n) (a.lst n)]++[pr (b.fst (n+2*a.len)) (b.lst (n+2*a.len))]=st++[(((a.fst n:Nat):Int),((a.lst n:Nat):Int)),(((b.fst (n+2*a.len):Nat):Int),((b.lst (n+2*a.len):Nat):Int))]:=by
   rw[aT];rfl
  rw[e0]at hb
  rw[hb,qv hr F _ _ hp (KU (by omega) (by rw[ak,ak];omega) (by omega) _ _ _ _)]
  have e1:(Rx.cat a b).fst n=n+2*a.len+2*b.len:=by simp only[Rx.fst,Rx.len];omega
  have e2:(Rx.cat a b).lst n=n+2*a.len+2*b.len+1:=by simp only[Rx.lst,Rx.len];omega
  have e3:E++a.aA n++b.aA (n+2*a.len)++[fE (n+2*a.len+2*b.len) (a.fst n),fE (a.lst n) (b.fst (n+2*a.len)),fE (b.lst (n+2*a.len)) (n+2*a.len+2*b.len+1)]=E++(Rx.cat a b).aA n:=by
   simp only[Rx.aA,aT]
   rw[show n+2*(a.len+b.len)=n+2*a.len+2*b.len by omega]
  rw[e1,e2,e3,show n+2*a.len+2*b.len+2=n+2*(a.len+b.len+1) by omega,show l.length+a.len+b.len+1=l.length+(a.len+b.len+1) by omega]
  rfl
 |alt a b iha ihb=>
  intro F n E st l rest hok hr2 hn hE hst
  simp only[Rx.len]at hn hE hst |-
  have pa:=a.bL
  have pb:=b.bL
  have la:=iG a n
  have lb:=iG b (n+2*a.len)
  have hp:r[l.length+a.len+b.len]?=some (3,zS):=by
   rw[hr2]
   simp[Rx.post,<-a.aS,<-b.aS,cX]
  rw[show F+(a.len+b.len+1)=(F+1+b.len)+a.len by omega,iha (F+1+b.len) n E st l (b.post++[(3,zS)]++rest) hok.1 (by rw[hr2];simp[Rx.post]) (by omega) (by omega) (by omega)]
  have hb:=ihb (F+1) (n+2*a.len) (E++a.aA n) (st++[pr (a.fst n) (a.lst n)]) (l++a.post) ([(3,zS)]++rest) hok.2 (by rw[hr2];simp[Rx.post]) (by omega) (by rw[ak];omega) (by rw[ak,kI];omega)
  rw[ak,a.aS]at hb
  have e0:st++[pr (a.fst n) (a.lst n)]++[pr (b.fst (n+2*a.len)) (b.lst (n+2*a.len))]=st++[(((a.fst n:Nat):Int),((a.lst n:Nat):Int)),(((b.fst (n+2*a.len):Nat):Int),((b.lst (n+2*a.len):Nat):Int))]:=by
   rw[aT];rfl
  rw[e0]at hb
  rw[hb,qv hr F _ _ hp (KW (by omega) (by rw[ak,ak];omega) (by omega) _ _ _ _)]
  have e1:(Rx.alt a b).fst n=n+2*a.len+2*b.len:=by simp only[Rx.fst,Rx.len];omega
  have e2:(Rx.alt a b).lst n=n+2*a.len+2*b.len+1:=by simp only[Rx.lst,Rx.len];omega
  have e3:E++a.aA n++b.aA (n+2*a.len)++[fE (n+2*a.len+2*b.len) (a.fst n),fE (a.lst n) (n+2*a.len+2*b.len+1),fE (n+2*a.len+2*b.len) (b.fst (n+2*a.len)),fE (b.lst (n+2*a.len)) (n+2*a.len+2*b.len+1)]=E++(Rx.alt a b).aA n:=by
   simp only[Rx.aA,aT]
   rw[show n+2*(a.len+b.len)=n+2*a.len+2*b.len by omega]
  rw[e1,e2,e3,show n+2*a.len+2*b.len+2=n+2*(a.len+b.len+1) by omega,show l.length+a.len+b.len+1=l.length+(a.len+b.len+1) by omega]
  rfl
 |rep k a iha=>
  intro F n E st l rest hok hr2 hn hE hst
  simp only[Rx.len]at hn hE hst |-
  have la:=iG a n
  have hp:r[l.length+a.len]?=some (k,zS):=by
   rw[hr2]
   simp[Rx.post,<-a.aS]
  rw[show F+(a.len+1)=(F+1)+a.len by omega,iha (F+1) n E st l ([(k,zS)]++rest) hok.2 (by rw[hr2];simp[Rx.post]) (by omega) (by omega) (by omega),show st++[pr (a.fst n) (a.lst n)]=st++[(((a.fst n:Nat):Int),((a.lst n:Nat):Int))]from rfl,
   qv hr F _ _ hp (KX (by omega) (by rw[ak];omega) (by omega) hok.1 _ _)]
  have e1:(Rx.rep k a).fst n=n+2*a.len:=by simp only[Rx.fst,Rx.len];omega
  have e2:(Rx.rep k a).lst n=n+2*a.len+1:=by simp only[Rx.lst,Rx.len];omega
  have e3:E++a.aA n++([fE (n+2*a.len) (a.fst n),fE (a.lst n) (n+2*a.len+1)]++(if k=6 then []else [fE (a.lst n) (a.fst n)])++(if k=5 then []else [fE (n+2*a.len) (n+2*a.len+1)]))=E++(Rx.rep k a).aA n:=by
   simp only[Rx.aA,aT]
  rw[e1,e2,e3,show n+2*a.len+2=n+2*(a.len+1) by omega,show l.length+a.len+1=l.length+(a.len+1) by omega]
  rfl
def nfT(t:Rx):NfI:=(((2*t.len:Nat):Int),((t.aA 0).map edI,(((t.fst 0:Nat):Int),((t.lst 0:Nat):Int))))
theorem Sk{t:Rx}(hok:t.ok)(hl:t.len<=400):p61 N0 (t.post,())=some ((nfT t,(0,())),()):=by
 have tl:=t.aS
 have h:=O0 (r:=t.post) (by omega) (Z:=nf 0 []) t (N0-t.len) 0 [] [] [] [] hok (by simp) (by omega) (by simp;omega) (by simp;omega)
 rw[show N0-t.len+t.len=N0 by unfold N0;omega]at h
 unfold p61
 simp only
 rw[ae (OZ hok hl)]
 simp only
 rw[decide_true,ay,cond_false]
 refine Eq.trans h ?_
 obtain⟨q,hq⟩:∃ q,N0-t.len=q+1:=⟨N0-t.len-1,by unfold N0;omega⟩
 rw[hq,dP]
 unfold stB
 simp only
 have e:((([]:List Pc).length+t.len:Nat):Int)=((t.post.length:Nat):Int):=by rw[tl];simp
 rw[e,decide_eq_false (show ¬((t.post.length:Nat):Int)<((t.post.length:Nat):Int) by omega),cond_false,if_pos z0,cm,Bo]
 simp only
 rw[if_pos z0,cm,eF]
 rfl
end
noncomputable section
def bsN(n:Nat)(f:Nat->Bool):List Bool:=(List.range n).map f
theorem gM(n:Nat)(f:Nat->Bool):(bsN n f).length=n:=by simp[bsN]
theorem gN{n:Nat}(f:Nat->Bool){i:Nat}(h:i<n):(bsN n f)[i]?=some (f i):=by
 unfold bsN
 rw[List.getElem?_map,List.getElem?_range h]
 rfl
theorem yI{n:Nat}(f:Nat->Bool){i:Nat}(h:i<n):(bsN n f).set i true=bsN n (λx=>f x||decide (x=i)):=by
 apply List.ext_getElem?
 intro j
 rw[List.getElem?_set]
 by_cases hj:j<n
 ·have g1:=gN (n:=n) (λx=>f x||decide (x=i)) hj
  have g2:=gN (n:=n) f hj
  rw[g1,g2]
  by_cases e:i=j
  ·subst e
   rw[if_pos rfl,if_pos (by rw[gM];exact h)]
   simp
  ·rw[if_neg e]
   have:¬j=i:=λh=>e h.symm
   simp[this]
 ·have e1:(bsN n λx=>f x||decide (x=i))[j]?=none:=List.getElem?_eq_none (by rw[gM];omega)
  have e2:(bsN n f)[j]?=none:=List.getElem?_eq_none (by rw[gM];omega)
  rw[e1,e2,if_neg (by omega)]
def cnt(f:Nat->Bool):Nat->Nat
 |0=>0
 |n+1=>(if f n then 0 else 1)+cnt f n
theorem cnt_mono{f g:Nat->Bool}:∀ n,(∀ i,i<n->f i=true->g i=true)->cnt g n<=cnt f n:=by
 intro n
 induction n with
 |zero=>intro _;exact aw _
 |succ n ih=>
  intro h
  have h1:=ih λi hi=>h i (by omega)
  have h2:=h n (by omega)
  simp only[cnt]
  cases hf:f n
  ·cases hg:g n <;> simp <;> omega
  ·rw[h2 hf];simp;exact h1
theorem cnt_lt{f g:Nat->Bool}{q:Nat}:∀ n,(∀ i,i<n->f i=true->g i=true)->q<n->f q=false->g q=true->cnt g n<cnt f n:=by
 intro n
 induction n with
 |zero=>intro _ h;omega
 |succ n ih=>
  intro h hq hf hg
  simp only[cnt]
  by_cases e:q=n
  ·subst e
   have h1:=cnt_mono q λi hi=>h i (by omega)
   rw[hf,hg]
   simp
   omega
  ·have h1:=ih (λi hi=>h i (by omega)) (by omega) hf hg
   have h2:=h n (by omega)
   cases hf2:f n
   ·cases hg2:g n <;> simp <;> omega
   ·rw[h2 hf2];simp;exact h1
def mb(E:List Ed)(f:Nat->Bool):Prop:=∀ e∈E,e.2.2.2=true->f e.1=true->f e.2.1=true
def InE(n:Nat)(E:List Ed):Prop:=∀ e∈E,e.1<n/\e.2.1<n
def leB(f g:Nat->Bool):Prop:=∀ i,f i=true->g i=true
def gC(E:List Ed)(f g:Nat->Bool):Prop:=leB f g/\mb E g/\∀ D,mb E D->leB f D->leB g D
theorem EX{n:Nat}(hn:n<=100000){E:List Ed}(hE:E.length<=100000)(hin:InE n E)(X:Int×Int)(f0:Nat->Bool):
 ∃ g,J2 N0 (((n:Int),(E.map edI,X)),(bsN n f0,()))=some ((bsN n g,()),())/\gC E f0 g:=by
 delta J2 Ld Bd Wi
 simp only
 have hcp:cpL (List.replicate ((n:Int)).toNat false) (bsN n f0)=bsN n f0:=by
  unfold cpL
  simp[gM]
  exact bK (by rw[gM];exact aw _)
 rw[if_pos (show(0:Int)<=(n:Int)/\(n:Int)<=(n:Int) by omega),if_pos (show((n:Int)).toNat*1<=140737488355328 by rw[aa];omega),hcp]
 refine dU (λm x=>∃ (f:Nat->Bool) (c:Bool),x=((bsN n f,()),(c,()))/\leB f0 f/\(∀ D,mb E D->leB f0 D->leB f D)/\(c=false->mb E f)/\m=cnt f n+(if c=true then 1 else 0)) (λz=>∃ g,z=some ((bsN n g,()),())/\gC E f0 g) ?_ N0 (cnt f0 n+1) _ ?_ ⟨f0,true,rfl,λi h=>h,λD _ h=>h,(λh=>by cases h),rfl⟩
 ·rintro m x ⟨f,c,rfl,h1,h2,h3,hm⟩ k hk
  simp only
  cases c
  ·rw[cond_false]
   exact⟨f,rfl,h1,h3 rfl,h2⟩
  ·rw[cond_true]
   simp only[if_true]at hm
   refine dU (λm2 x=>∃ (j:Nat) (g:Nat->Bool) (c:Bool),x=((bsN n g,()),(c,((j:Int),())))/\m2+j=E.length/\leB f g/\(∀ D,mb E D->leB f0 D->leB g D)/\(c=false->g=f/\∀ (i:Nat) e,i<j->E[i]?=some e->e.2.2.2=true->f e.1=true->f e.2.1=true)/\(c=true->cnt g n<cnt f n)) (λz=>∃ g,z=some ((bsN n g,()),())/\gC E f0 g) ?_ N0 E.length _ (by unfold N0;omega) ⟨0,f,false,rfl,rfl,λi h=>h,h2,λ_=>⟨rfl,λi e hi=>by omega⟩,(λh=>by cases h)⟩
   rintro m2 x ⟨j,g,c,rfl,hmj,q1,q2,q3,q4⟩ k2 hk2
   simp only
   rcases aj j E.length with hj|hj
   ·have n0:(0:Int)<=(j:Int):=by omega
    have hj2:(E.map edI)[j]?=some (edI E[j]):=by rw[List.getElem?_map,List.getElem?_eq_getElem hj];rfl
    have lV:E[j]∈E:=aN hj
    obtain⟨r1,r2⟩:=hin _ lV
    have eg:E[j]?=some E[j]:=List.getElem?_eq_getElem hj
    generalize E[j]=e at hj2 lV r1 r2 eg
    rw[decide_eq_true (show(j:Int)<(((E.map edI).length:Nat):Int) by rw[bq];omega),cond_true,if_pos n0,aa,hj2]
    have n1:(0:Int)<=(e.1:Int):=by omega
    have n2:(0:Int)<=(e.2.1:Int):=by omega
    have w1:IntKind.wrap .i64 ((j:Int)+1)=((j+1:Nat):Int):=cV (by omega)
    simp only[edI,w1]
    refine dR (P:=λz=>∃ g,z=some ((bsN n g,()),())/\gC E f0 g) ((bsN n g,()),(e.2.2.2&&(g e.1&&!g e.2.1),())) (λK=>?_) ?_
    ·cases e.2.2.2
     ·rfl
     ·rw[cond_true,if_pos n1,aa,gN g r1]
      simp only
      cases g e.1
      ·rfl
      ·rw[cond_true,if_pos n2,aa,gN g r2]
       rfl
    ·simp only
     refine dR (P:=λz=>∃ g,z=some ((bsN n g,()),())/\gC E f0 g) ((bsN n (λx=>g x||(decide (x=e.2.1)&&(e.2.2.2&&(g e.1&&!g e.2.1)))),()),((c||(e.2.2.2&&(g e.1&&!g e.2.1))),())) (λK=>?_) ?_
     ·cases hb:(e.2.2.2&&(g e.1&&!g e.2.1))
      ·rw[cond_false]
       simp
      ·rw[cond_true,if_pos n2,aa,gN g r2]
       simp only
       rw[if_pos n2]
       rw[yI g r2]
       simp
     ·simp only
      refine hk2 (m2-1) _ (by omega) ⟨j+1,_,_,rfl,by omega,?_,?_,?_,?_⟩
      ·intro i hi
       show(g i||_)=true
       rw[q1 i hi];rfl
      ·intro D hD1 hD2 i hi
       rw[aJ,ag,decide_eq_true_eq,ag,ag]at hi
       rcases hi with hi|⟨rfl,h4,h5,_⟩
       ·exact q2 D hD1 hD2 i hi
       ·exact hD1 e lV h4 (q2 D hD1 hD2 _ h5)
      ·intro hc
       rw[gr]at hc
       obtain⟨hc1,hc2⟩:=hc
       obtain⟨rfl,q6⟩:=q3 hc1
       refine⟨?_,?_⟩
       ·funext x
        rw[hc2];simp
       ·intro i e2 hi he2 EY hp
        by_cases hij:i=j
        ·subst hij
         rw[eg]at he2
         injection he2 with he2
         subst he2
         rw[EY,hp]at hc2
         simpa using hc2
        ·exact q6 i e2 (by omega) he2 EY hp
      ·intro hc
       cases hb:(e.2.2.2&&(g e.1&&!g e.2.1))
       ·rw[hb,jz]at hc
        refine n9 (cnt_mono n λi _ h=>?_) (q4 hc)
        rw[h];rfl
       ·have hb2:=hb
        rw[ag,ag,bC]at hb2
        have hlt:cnt (λx=>g x||(decide (x=e.2.1)&&true)) n<cnt g n:=cnt_lt (q:=e.2.1) n (λi _ h=>by simp[h]) r2 hb2.2.2 (by simp)
        have:cnt g n<=cnt f n:=cnt_mono n λi _ h=>q1 i h
        omega
   ·rw[decide_eq_false (show ¬(j:Int)<(((E.map edI).length:Nat):Int) by rw[bq];omega),cond_false]
    refine hk (cnt g n+(if c=true then 1 else 0)) _ ?_ ⟨g,c,rfl,λi h=>q1 i (h1 i h),q2,?_,rfl⟩
    ·have:cnt g n<=cnt f n:=cnt_mono n λi _ h=>q1 i h
     cases c
     ·simp;omega
     ·have:=q4 rfl
      simp;omega
    ·intro hc
     obtain⟨rfl,q6⟩:=q3 hc
     intro e he EY hp
     obtain⟨i,hi,hie⟩:=List.getElem_of_mem he
     exact q6 i e (by omega) (by rw[List.getElem?_eq_getElem hi,hie]) EY hp
 ·have:∀ n,cnt f0 n<=n:=by
   intro n
   induction n with
   |zero=>exact aw _
   |succ n ih=>simp only[cnt];split <;> omega
  have:=this n
  unfold N0
  omega
end
noncomputable section
theorem xf(t:Rx):InE (2*t.len) (t.aA 0):=by
 intro e he
 obtain⟨h1,h2,h3,h4⟩:=t.dF 0 e he
 omega
theorem O1{n:Nat}(hn:n<=100000){E:List Ed}(hE:E.length<=100000)(hin:InE n E){a b:Nat}(ha:a<n)(hb:b<n):
 Hl N0 (((n:Int),(E.map edI,((a:Int),(b:Int)))),())=some ((true,()),()):=by
 delta Hl Ld Bd Wi
 simp only
 refine aV ((),(false,())) (λK=>?_) ?_
 ·rw[decide_eq_false (show ¬(a:Int)<0 by omega),cond_false,decide_eq_false (show ¬(n:Int)<=(a:Int) by omega),cond_false,decide_eq_false (show ¬(b:Int)<0 by omega),cond_false,decide_eq_false (show ¬(n:Int)<=(b:Int) by omega)]
 ·simp only
  rw[cond_false]
  refine aZ (λm x q=>∃ j:Nat,x=((),((j:Int),()))/\m+j=E.length/\q=some ((true,()),())) ?_ N0 E.length _ _ (by unfold N0;omega) ⟨0,rfl,rfl,rfl⟩
  rintro m x q ⟨j,rfl,hm,rfl⟩ k hk
  simp only
  rcases aj j E.length with hj|hj
  ·have n0:(0:Int)<=(j:Int):=by omega
   have hj2:(E.map edI)[j]?=some (edI E[j]):=by rw[List.getElem?_map,List.getElem?_eq_getElem hj];rfl
   obtain⟨r1,r2⟩:=hin _ (aN hj)
   generalize E[j]=e at hj2 r1 r2
   rw[decide_eq_true (show(j:Int)<(((E.map edI).length:Nat):Int) by rw[bq];omega),cond_true,if_pos n0,aa,hj2]
   simp only
   refine aV ((),(false,())) (λK=>?_) ?_
   ·rw[decide_eq_false (show ¬(e.1:Int)<0 by omega),cond_false,decide_eq_false (show ¬(n:Int)<=(e.1:Int) by omega),cond_false,decide_eq_false (show ¬(e.2.1:Int)<0 by omega),cond_false,decide_eq_false (show ¬(n:Int)<=(e.2.1:Int) by omega)]
   ·simp only
    rw[cond_false,cV (by omega)]
    exact hk (m-1) _ _ (by omega) ⟨j+1,rfl,by omega,rfl⟩
  ·rw[decide_eq_false (show ¬(j:Int)<(((E.map edI).length:Nat):Int) by rw[bq];omega),cond_false]
theorem Bt{t:Rx}(hl:t.len<=400):Hl N0 (nfT t,())=some ((true,()),()):=by
 have h1:=t.pB 0
 have h2:=t.kC 0
 have h3:=iG t 0
 exact O1 (n:=2*t.len) (by omega) (by omega) (xf t) (by omega) (by omega)
def gO(E:List Ed):List (List Int):=(E.filter λe=>!e.2.2.2).map λe=>e.2.2.1
theorem xg(E:List Ed):(gO E).length<=E.length:=by
 unfold gO
 rw[bq]
 exact fB _ _
theorem O2{n:Nat}{E:List Ed}(hE:E.length<=100000)(X:Int×Int):NU N0 (((n:Int),(E.map edI,X)),())=some ((gO E,()),()):=by
 delta NU Ld Ap Bd Wi
 simp only
 refine aZ (λm x q=>∃ j:Nat,x=((),(gO (E.take j),((j:Int),())))/\m+j=E.length/\q=some ((gO E,()),())) ?_ N0 E.length _ _ (by unfold N0;omega) ⟨0,rfl,rfl,rfl⟩
 rintro m x q ⟨j,rfl,hm,rfl⟩ k hk
 simp only
 rcases aj j E.length with hj|hj
 ·have n0:(0:Int)<=(j:Int):=by omega
  have hj2:(E.map edI)[j]?=some (edI E[j]):=by rw[List.getElem?_map,List.getElem?_eq_getElem hj];rfl
  have htk:E.take (j+1)=E.take j++[E[j]]:=by rw[jy,List.getElem?_eq_getElem hj];rfl
  have hse:gO (E.take (j+1))=gO (E.take j)++gO [E[j]]:=by
   rw[htk];unfold gO;rw[jx,cO]
  have hlen:(gO (E.take j)).length<=j:=bE (xg _) (by rw[aL];omega)
  generalize E[j]=e at hj2 hse
  rw[decide_eq_true (show(j:Int)<(((E.map edI).length:Nat):Int) by rw[bq];omega),cond_true,if_pos n0,aa,hj2]
  simp only
  refine aV ((),(gO (E.take (j+1)),())) (λK=>?_) ?_
  ·rw[hse]
   cases hb:e.2.2.2
   ·have es:gO [e]=[e.2.2.1]:=by unfold gO;simp[hb]
    have c1:((gO (E.take j)).length+([e.2.2.1]:List (List Int)).length)*32<=140737488355328:=by simp;omega
    have c2:(gO (E.take j)).length+([e.2.2.1]:List (List Int)).length<=9223372036854775807:=by simp;omega
    rw[aH,cond_true,if_pos c1,if_pos c2,es]
   ·have es:gO [e]=[]:=by unfold gO;simp[hb]
    rw[ay,cond_false,es,bV]
  ·simp only
   rw[cV (by omega)]
   exact hk (m-1) _ _ (by omega) ⟨j+1,rfl,by omega,rfl⟩
 ·have hj2:j=E.length:=by omega
  rw[decide_eq_false (show ¬(j:Int)<(((E.map edI).length:Nat):Int) by rw[bq];omega),cond_false,hj2,dj]
end
noncomputable section
theorem O3{a b:Nat}(ha:a<18446744073709551616)(hb:b<18446744073709551616):dL .and .u64 (a:Int) (b:Int)=((a&&& b:Nat):Int):=by
 have hlt:a&&& b<2 ^ 64:=Nat.and_lt_two_pow _ hb
 simp only[dL,rf,rY ha,rY hb]
 exact wrap_u64 hlt
theorem O4(l:Nat->Bool){c:Nat}(h:c<256):Hm N0 (ofB l,((c:Int),()))=some ((l c,()),()):=by
 unfold Hm
 have hw:c / 64<4:=by omega
 have hl:c % 64<64:=eG _ (by omega)
 have w1:IntKind.wrap .u8 (Int.tdiv (c:Int) 64)=((c / 64:Nat):Int):=by rw[Kw];exact jW (by omega)
 have g:=jm (l:=l) hw
 have n1:¬((64:Int)=0):=by omega
 have n2:¬(((c % 64:Nat):Int)<0):=by omega
 have n3:(0:Int)<=((c / 64:Nat):Int):=by omega
 simp only[w1,Kx]
 rw[if_neg n1,if_pos n3,aa,g]
 simp only
 rw[if_neg n1,if_neg n2]
 have e1:Nat.min (Int.toNat ((c % 64:Nat):Int)) (IntKind.bits .u64)=c % 64:=by
  rw[aa];exact dl (by show c % 64<=64;omega)
 have hlt:=dM l (c / 64)
 have e2:Int.fdiv ((br l (c / 64):Nat):Int) (2 ^ (c % 64))=((br l (c / 64) / 2 ^ (c % 64):Nat):Int):=by
  rw[show(2:Int) ^ (c % 64)=((2 ^ (c % 64):Nat):Int) by simp]
  rw[nT _ (aB (2 ^ (c % 64)))]
  exact(Int.natCast_ediv _ _).symm
 have e3:dL .and .u64 ((br l (c / 64) / 2 ^ (c % 64):Nat):Int) 1=((br l (c / 64) / 2 ^ (c % 64) % 2:Nat):Int):=by
  have:=O3 (a:=br l (c / 64) / 2 ^ (c % 64)) (b:=1) (n9 (rm _ _) hlt) (by omega)
  rw[Nat.and_one_is_mod]at this
  exact this
 have hb:=dn l (c / 64) (c % 64)
 rw[qS,show 64*(c / 64)+c % 64=c by omega,decide_eq_true hl,bG]at hb
 have e4:decide (((br l (c / 64) / 2 ^ (c % 64) % 2:Nat):Int)=1)=l c:=by
  rw[<-hb,decide_eq_decide];omega
 rw[e1,e2,e3,e4]
def hasB(S:List Int)(c:Nat):Bool:=((S[c / 64]?).getD 0).toNat.testBit (c % 64)
theorem qw(l:Nat->Bool){c:Nat}(h:c<256):hasB (ofB l) c=l c:=by
 unfold hasB
 rw[jm (l:=l) (show c / 64<4 by omega)]
 show(((br l (c / 64):Nat):Int).toNat).testBit (c % 64)=l c
 rw[aa,dn,show 64*(c / 64)+c % 64=c by omega,decide_eq_true (show c % 64<64 by omega),bG]
def xh(S:List Int):Prop:=S.length=4/\∀ x∈S,0<=x/\x<=18446744073709551615
theorem Bu{S:List Int}(h:xh S){c:Nat}(hc:c<256):Hm N0 (S,((c:Int),()))=some ((hasB S c,()),()):=by
 obtain⟨l,rfl⟩:=EW h.1 h.2
 rw[O4 l hc,qw l hc]
def aY(E:List Ed)(f:Nat->Bool)(c:Nat):Nat->Bool:=λx=>E.any λe=>!e.2.2.2&&(f e.1&&(hasB e.2.2.1 c&&decide (x=e.2.1)))
theorem Sl(t:Rx)(hok:t.ok):∀ (n:Nat),∀ e∈t.aA n,xh e.2.2.1:=by
 have hz:xh zS:=⟨rfl,by decide⟩
 induction t with
 |eps=>intro n e he;simp[Rx.aA,fE]at he;subst he;exact hz
 |set S=>intro n e he;simp[Rx.aA]at he;subst he;exact⟨hok.1,hok.2.2⟩
 |cat a b iha ihb=>
  intro n e he
  simp only[Rx.aA,au,aI,bU,or_false]at he
  rcases he with(he|he)|he|he|he
  ·exact iha hok.1 n e he
  ·exact ihb hok.2 _ e he
  all_goals subst he;exact hz
 |alt a b iha ihb=>
  intro n e he
  simp only[Rx.aA,au,aI,bU,or_false]at he
  rcases he with(he|he)|he|he|he|he
  ·exact iha hok.1 n e he
  ·exact ihb hok.2 _ e he
  all_goals subst he;exact hz
 |rep k a ih=>
  intro n e he
  simp only[Rx.aA,au,aI,bU,or_false]at he
  rcases he with((he|he|he)|he)|he
  ·exact ih hok.2 n e he
  ·subst he;exact hz
  ·subst he;exact hz
  ·split at he
   ·simp at he
   ·simp only[aK]at he;subst he;exact hz
  ·split at he
   ·simp at he
   ·simp only[aK]at he;subst he;exact hz
theorem O5{n:Nat}(hn:n<=100000){E:List Ed}(hE:E.length<=100000)(hin:InE n E)(hS:∀ e∈E,xh e.2.2.1)(X:Int×Int)(f:Nat->Bool){c:Nat}(hc:c<256):
 N2 N0 (((n:Int),(E.map edI,X)),(bsN n f,((c:Int),())))=some ((bsN n (aY E f c),()),()):=by
 delta N2 Ld Bd Wi
 simp only
 have bF:List.replicate ((n:Int)).toNat false=bsN n (aY [] f c):=by
  rw[aa]
  unfold bsN aY
  apply List.ext_getElem?
  intro i
  rw[List.getElem?_map]
  by_cases hi:i<n
  ·rw[List.getElem?_range hi,List.getElem?_replicate,if_pos hi];rfl
  ·rw[List.getElem?_eq_none (by rw[jv];omega),List.getElem?_eq_none (by rw[ia];omega)];rfl
 rw[if_pos (show(0:Int)<=(n:Int)/\(n:Int)<=(n:Int) by omega),if_pos (show((n:Int)).toNat*1<=140737488355328 by rw[aa];omega),bF]
 refine aZ (λm x q=>∃ j:Nat,x=((bsN n (aY (E.take j) f c),()),((j:Int),()))/\m+j=E.length/\q=some ((bsN n (aY E f c),()),())) ?_ N0 E.length _ _ (by unfold N0;omega) ⟨0,rfl,rfl,rfl⟩
 rintro m x q ⟨j,rfl,hm,rfl⟩ k hk
 simp only
 rcases aj j E.length with hj|hj
 ·have n0:(0:Int)<=(j:Int):=by omega
  have hj2:(E.map edI)[j]?=some (edI E[j]):=by rw[List.getElem?_map,List.getElem?_eq_getElem hj];rfl
  have htk:E.take (j+1)=E.take j++[E[j]]:=by rw[jy,List.getElem?_eq_getElem hj];rfl
  obtain⟨r1,r2⟩:=hin _ (aN hj)
  have hse:=hS _ (aN hj)
  generalize E[j]=e at hj2 htk r1 r2 hse
  have hst:∀ x,aY (E.take (j+1)) f c x=(aY (E.take j) f c x||(!e.2.2.2&&(f e.1&&(hasB e.2.2.1 c&&decide (x=e.2.1))))):=by
   intro x
   rw[htk]
   unfold aY
   rw[rl]
   simp
  have n1:(0:Int)<=(e.1:Int):=by omega
  have n2:(0:Int)<=(e.2.1:Int):=by omega
  rw[decide_eq_true (show(j:Int)<(((E.map edI).length:Nat):Int) by rw[bq];omega),cond_true,if_pos n0,aa,hj2]
  simp only
  refine aV ((bsN n (aY (E.take j) f c),()),((!e.2.2.2&&(f e.1&&hasB e.2.2.1 c)),())) (λK=>?_) ?_
  ·cases e.2.2.2
   ·rw[aH,cond_true,decide_eq_true (show(e.1:Int)<(((bsN n f).length:Nat):Int) by rw[gM];omega),cond_true,if_pos n1,aa,gN f r1]
    simp only
    cases f e.1
    ·rfl
    ·rw[cond_true,ae (Bu hse hc)]
     rfl
   ·rfl
  ·simp only
   have w1:IntKind.wrap .i64 ((j:Int)+1)=((j+1:Nat):Int):=cV (by omega)
   rw[w1]
   refine aV ((bsN n (aY (E.take (j+1)) f c),()),()) (λK=>?_) ?_
   ·cases hb:(!e.2.2.2&&(f e.1&&hasB e.2.2.1 c))
    ·rw[cond_false]
     have:aY (E.take (j+1)) f c=aY (E.take j) f c:=by
      funext x
      rw[hst x]
      have:(!e.2.2.2&&(f e.1&&(hasB e.2.2.1 c&&decide (x=e.2.1))))=((!e.2.2.2&&(f e.1&&hasB e.2.2.1 c))&&decide (x=e.2.1)):=by simp[oj]
      rw[this,hb];simp
     rw[this]
    ·rw[cond_true,if_pos n2,aa,gN _ r2]
     simp only
     rw[if_pos n2,yI _ r2]
     have:aY (E.take (j+1)) f c=λx=>aY (E.take j) f c x||decide (x=e.2.1):=by
      funext x
      rw[hst x]
      have:(!e.2.2.2&&(f e.1&&(hasB e.2.2.1 c&&decide (x=e.2.1))))=((!e.2.2.2&&(f e.1&&hasB e.2.2.1 c))&&decide (x=e.2.1)):=by simp[oj]
      rw[this,hb];simp
     rw[this]
   ·simp only
    exact hk (m-1) _ _ (by omega) ⟨j+1,rfl,by omega,rfl⟩
 ·have hj2:j=E.length:=by omega
  rw[decide_eq_false (show ¬(j:Int)<(((E.map edI).length:Nat):Int) by rw[bq];omega),cond_false,hj2,dj]
end
noncomputable section
theorem Bv(l:Nat->Bool)(w:Nat):∃ n,n=mD (λi=>l (8*w+i)) 8:=⟨_,rfl⟩
def lu(l:Nat->Bool)(w:Nat):Nat:=Classical.choose (Bv l w)
theorem xi(l:Nat->Bool)(w:Nat):lu l w=mD (λi=>l (8*w+i)) 8:=Classical.choose_spec (Bv l w)
theorem KY(l:Nat->Bool)(w:Nat):lu l w<256:=by rw[xi];exact uU _ 8
theorem iH(l:Nat->Bool)(w i:Nat):(lu l w).testBit i=(decide (i<8)&&l (8*w+i)):=by rw[xi];exact w7 _ 8 i
theorem HO{l m:Nat->Bool}{w:Nat}(h:∀ i,i<8->l (8*w+i)=m (8*w+i)):lu l w=lu m w:=by
 apply fD
 intro i
 rw[iH,iH]
 by_cases hi:i<8
 ·rw[h i hi]
 ·simp[hi]
theorem O6{l:Nat->Bool}{w i:Nat}(hi:i<8):lu l w|||2 ^ i=lu (λx=>l x||decide (x=8*w+i)) w:=by
 apply fD
 intro j
 rw[ot,iH,iH,kK]
 by_cases hj:j<8
 ·simp only[hj,decide_true,bG]
  congr 1
  rw[decide_eq_decide];omega
 ·simp only[hj,decide_false,dA,cP,decide_eq_false_iff_not];omega
theorem EZ{n:Nat}(h:n<256):(BitVec.ofInt (IntKind.bits .u8) (n:Int)).toNat=n:=by
 have:IntKind.bits .u8=8:=rfl
 rw[this,n5]
 omega
theorem O7{a b:Nat}(ha:a<256)(hb:b<256):dL .or .u8 (a:Int) (b:Int)=((a|||b:Nat):Int):=by
 have hlt:a|||b<2 ^ 8:=rc ha hb
 simp only[dL,rj,EZ ha,EZ hb]
 exact jW hlt
theorem E0{i:Nat}(h:i<8):2 ^ i<256:=bz (nZ (by omega) h) (by decide)
theorem Bw{i:Nat}(h:i<8):IntKind.wrap .u8 ((1:Int)*2 ^ (Nat.min (Int.toNat (i:Int)) (IntKind.bits .u8)))=((2 ^ i:Nat):Int):=by
 have e:Nat.min (Int.toNat (i:Int)) (IntKind.bits .u8)=i:=by
  rw[aa];exact dl (by show i<=8;omega)
 rw[e,Int.one_mul]
 have:=jW (E0 h)
 rw[<-this]
 congr 1
def cW(n:Nat)(l:Nat->Bool):List Int:=(List.range ((n+7) / 8)).map λw=>((lu l w:Nat):Int)
theorem lv(n:Nat)(l:Nat->Bool):(cW n l).length=(n+7) / 8:=by simp[cW]
theorem jY{n:Nat}(l:Nat->Bool){w:Nat}(h:w<(n+7) / 8):(cW n l)[w]?=some ((lu l w:Nat):Int):=by
 unfold cW
 rw[List.getElem?_map,List.getElem?_range h]
 rfl
theorem Bx{n:Nat}(l:Nat->Bool){i:Nat}(h:i<n):(cW n l).set (i / 8) (dL .or .u8 ((lu l (i / 8):Nat):Int) ((2 ^ (i % 8):Nat):Int))=cW n (λx=>l x||decide (x=i)):=by
 have hi:i % 8<8:=eG _ (by omega)
 rw[O7 (KY _ _) (E0 hi),O6 hi,show 8*(i / 8)+i % 8=i by omega]
 apply List.ext_getElem?
 intro j
 rw[List.getElem?_set]
 by_cases hj:j<(n+7) / 8
 ·have g1:=jY (n:=n) (λx=>l x||decide (x=i)) hj
  have g2:=jY (n:=n) l hj
  rw[g1,g2]
  by_cases e:i / 8=j
  ·subst e
   rw[if_pos rfl,if_pos (by rw[lv];omega)]
  ·rw[if_neg e,HO (l:=l) (m:=λx=>l x||decide (x=i)) (w:=j) λk hk=>by
    have:¬8*j+k=i:=by omega
    simp[this]]
 ·have e1:(cW n λx=>l x||decide (x=i))[j]?=none:=List.getElem?_eq_none (by rw[lv];omega)
  have e2:(cW n l)[j]?=none:=List.getElem?_eq_none (by rw[lv];omega)
  rw[e1,e2,if_neg (by omega)]
theorem xj(n:Nat):List.replicate ((n+7) / 8) (0:Int)=cW n (λ_=>false):=by
 apply List.ext_getElem?
 intro j
 by_cases hj:j<(n+7) / 8
 ·rw[jY _ hj,List.getElem?_replicate,if_pos hj]
  have:lu (λ_=>false) j=0:=by
   apply fD
   intro i
   rw[iH]
   simp
  rw[this];rfl
 ·rw[List.getElem?_eq_none (by rw[jv];omega),List.getElem?_eq_none (by rw[lv];omega)]
theorem nD{n:Nat}{l m:Nat->Bool}(h:cW n l=cW n m):∀ i,i<n->l i=m i:=by
 intro i hi
 have hw:i / 8<(n+7) / 8:=by omega
 have g:(cW n l)[i / 8]?=(cW n m)[i / 8]?:=by rw[h]
 rw[jY _ hw,jY _ hw]at g
 injection g with g
 have g:lu l (i / 8)=lu m (i / 8):=by omega
 have b1:=iH l (i / 8) (i % 8)
 have b2:=iH m (i / 8) (i % 8)
 rw[g,b2,show 8*(i / 8)+i % 8=i by omega,decide_eq_true (show i % 8<8 by omega),bG,bG]at b1
 exact b1.symm
theorem lx{n:Nat}{l m:Nat->Bool}(h:∀ i,l i=m i):cW n l=cW n m:=by
 have:l=m:=funext h
 rw[this]
theorem VC{n:Nat}(hn:n<=100000):IntKind.wrap .i64 (Int.tdiv (IntKind.wrap .i64 ((n:Int)+7)) 8)=(((n+7) / 8:Nat):Int):=by
 have e:(n:Int)+7=((n+7:Nat):Int):=by omega
 rw[e,bH (by omega),show(8:Int)=((8:Nat):Int) by rfl,<-ol]
 exact bH (by omega)
theorem td8(i:Nat)(h:i<=100000):IntKind.wrap .i64 (Int.tdiv (i:Int) 8)=((i / 8:Nat):Int):=by
 rw[show(8:Int)=((8:Nat):Int) by rfl,<-ol]
 exact bH (by omega)
theorem tm8(i:Nat):IntKind.wrap .u64 (Int.tmod (i:Int) 8)=((i % 8:Nat):Int):=by
 rw[show(8:Int)=((8:Nat):Int) by rfl,<-Int.ofNat_tmod]
 exact wrap_u64 (by omega)
def Dr(n:Nat)(f:Nat->Bool):Nat->Bool:=λx=>decide (x<n)&&f x
theorem O8{n:Nat}(hn:n<=100000)(f:Nat->Bool):NX N0 (bsN n f,())=some ((cW n (Dr n f),()),()):=by
 delta NX Ld Bd Wi
 have n8:¬((8:Int)=0):=by omega
 simp only[gM,VC hn]
 rw[if_neg n8,if_pos ⟨by omega,by omega⟩,if_pos (by rw[aa];omega),aa,xj]
 have e0:cW n (λ_=>false)=cW n (λx=>decide (x<0)&&f x):=lx λi=>by simp
 rw[e0]
 refine aZ (λm x q=>∃ j:Nat,x=((cW n (λx=>decide (x<j)&&f x),()),((j:Int),()))/\m+j=n/\q=some ((cW n (Dr n f),()),())) ?_ N0 n _ _ (by unfold N0;omega) ⟨0,rfl,rfl,rfl⟩
 rintro m x q ⟨j,rfl,hm,rfl⟩ k hk
 simp only
 rcases aj j n with hj|hj
 ·have n0:(0:Int)<=(j:Int):=by omega
  have n1:(0:Int)<=((j / 8:Nat):Int):=by omega
  have n2:¬(((j % 8:Nat):Int)<0):=by omega
  have hw:j / 8<(n+7) / 8:=by omega
  have h8:j % 8<8:=eG _ (by omega)
  rw[decide_eq_true (show(j:Int)<(n:Int) by omega),cond_true,if_pos n0,aa,gN f hj]
  simp only
  refine aV ((cW n (λx=>decide (x<j+1)&&f x),()),()) (λK=>?_) ?_
  ·have est:∀ x,(decide (x<j+1)&&f x)=((decide (x<j)&&f x)||(decide (x=j)&&f j)):=by
    intro x
    by_cases hx:x=j
    ·subst hx
     have h1:¬x<x:=by omega
     have h2:x<x+1:=by omega
     simp[h1,h2]
    ·have:(x<j+1)↔(x<j):=by omega
     simp[this,hx]
   cases hb:f j
   ·rw[cond_false,lx (n:=n) (l:=λx=>decide (x<j+1)&&f x) (m:=λx=>decide (x<j)&&f x) λx=>by rw[est x,hb];simp]
   ·rw[cond_true,if_neg n8,td8 j (by omega),if_pos n1,aa,jY _ hw]
    simp only
    rw[if_neg n8,tm8,if_neg n2,if_pos n1]
    simp only[if_pos n1,Bw h8]
    rw[Bx _ hj,lx (n:=n) (l:=λx=>decide (x<j+1)&&f x) (m:=λx=>(decide (x<j)&&f x)||decide (x=j)) λx=>by rw[est x,hb];simp]
  ·simp only
   rw[cV (by omega)]
   exact hk (m-1) _ _ (by omega) ⟨j+1,rfl,by omega,rfl⟩
 ·have:j=n:=by omega
  subst this
  rw[decide_eq_false (show ¬(j:Int)<(j:Int) by omega),cond_false]
  rfl
end
noncomputable section
def inS(dq:List (List Int))(c:Nat)(x:Nat):Bool:=hasB ((dq[x]?).getD []) c
theorem O9{dq:List (List Int)}(hn:dq.length<=100000)(hS:∀ S∈dq,xh S){c:Nat}(hc:c<256):NV N0 (dq,((c:Int),()))=some ((cW dq.length (Dr dq.length (inS dq c)),()),()):=by
 delta NV Ld Bd Wi
 have n8:¬((8:Int)=0):=by omega
 simp only[VC hn]
 rw[if_neg n8,if_pos ⟨by omega,by omega⟩,if_pos (by rw[aa];omega),aa,xj]
 have e0:cW dq.length (λ_=>false)=cW dq.length (λx=>decide (x<0)&&inS dq c x):=lx λi=>by simp
 rw[e0]
 refine aZ (λm x q=>∃ j:Nat,x=((cW dq.length (λx=>decide (x<j)&&inS dq c x),()),((j:Int),()))/\m+j=dq.length/\q=some ((cW dq.length (Dr dq.length (inS dq c)),()),())) ?_ N0 dq.length _ _ (by unfold N0;omega) ⟨0,rfl,rfl,rfl⟩
 rintro m x q ⟨j,rfl,hm,rfl⟩ k hk
 simp only
 rcases aj j dq.length with hj|hj
 ·have n0:(0:Int)<=(j:Int):=by omega
  have n1:(0:Int)<=((j / 8:Nat):Int):=by omega
  have n2:¬(((j % 8:Nat):Int)<0):=by omega
  have hw:j / 8<(dq.length+7) / 8:=by omega
  have h8:j % 8<8:=eG _ (by omega)
  have hj2:dq[j]?=some dq[j]:=List.getElem?_eq_getElem hj
  have hin:inS dq c j=hasB dq[j] c:=by unfold inS;rw[hj2];rfl
  have hok:=hS _ (aN hj)
  generalize dq[j]=S at hj2 hin hok
  rw[decide_eq_true (show(j:Int)<((dq.length:Nat):Int) by omega),cond_true,if_pos n0,aa,hj2]
  simp only
  rw[ae (Bu hok hc),<-hin]
  simp only
  refine aV ((cW dq.length (λx=>decide (x<j+1)&&inS dq c x),()),()) (λK=>?_) ?_
  ·have est:∀ x,(decide (x<j+1)&&inS dq c x)=((decide (x<j)&&inS dq c x)||(decide (x=j)&&inS dq c j)):=by
    intro x
    by_cases hx:x=j
    ·subst hx
     have h1:¬x<x:=by omega
     have h2:x<x+1:=by omega
     simp[h1,h2]
    ·have:(x<j+1)↔(x<j):=by omega
     simp[this,hx]
   cases hb:inS dq c j
   ·rw[cond_false,lx (n:=dq.length) (l:=λx=>decide (x<j+1)&&inS dq c x) (m:=λx=>decide (x<j)&&inS dq c x) λx=>by rw[est x,hb];simp]
   ·rw[cond_true,if_neg n8,td8 j (by omega),if_pos n1,aa,jY _ hw]
    simp only
    rw[if_neg n8,tm8,if_neg n2,if_pos n1]
    simp only[if_pos n1,Bw h8]
    rw[Bx _ hj,lx (n:=dq.length) (l:=λx=>decide (x<j+1)&&inS dq c x) (m:=λx=>(decide (x<j)&&inS dq c x)||decide (x=j)) λx=>by rw[est x,hb];simp]
  ·simp only
   rw[cV (by omega)]
   exact hk (m-1) _ _ (by omega) ⟨j+1,rfl,by omega,rfl⟩
 ·have:j=dq.length:=by omega
  subst this
  rw[decide_eq_false (show ¬((dq.length:Nat):Int)<((dq.length:Nat):Int) by omega),cond_false]
  rfl
end
noncomputable section
theorem KZ{α β:Type}(eq:α->α->Bool)(k:α)(v:β):∀ x:List (α×β),(eY eq k v x).length<=x.length+1:=by
 intro x
 induction x with
 |nil=>simp[eY]
 |cons p r ih=>
  simp only[eY]
  cases eq k p.1
  ·simp;exact ih
  ·simp
theorem Ds(x:Int):0<=IntKind.wrap .u8 x/\IntKind.wrap .u8 x<=255:=by
 have h:=eH .u8 x
 exact⟨h.1,h.2⟩
def sZ(arr:List Int):Prop:=arr.length=256/\∀ v∈arr,0<=v/\v<=255
theorem HP{arr:List Int}(h:sZ arr)(i:Nat)(x:Int):sZ (arr.set i (IntKind.wrap .u8 x)):=by
 refine⟨by rw[fa];exact h.1,λv hv=>?_⟩
 rcases List.mem_or_eq_of_mem_set hv with hv|rfl
 ·exact h.2 v hv
 ·exact Ds x
theorem Pa{dq:List (List Int)}(hn:dq.length<=100000)(hS:∀ S∈dq,xh S):∃ arr,NW N0 (dq,())=some ((arr,()),())/\sZ arr:=by
 delta NW Ld Bd Wi
 simp only
 have hz:sZ (List.replicate 256 (0:Int)):=⟨jv,λv hv=>by rw[List.mem_replicate]at hv;omega⟩
 generalize List.replicate 256 (0:Int)=zs at hz |-
 refine dU (λm x=>∃ (c:Nat) (arr:List Int) (mp:List (List Int×Int)),x=((zs,(arr,(mp,()))),((c:Int),()))/\m+c=256/\sZ arr/\mp.length<=c) (λz=>∃ arr,z=some ((arr,()),())/\sZ arr) ?_ N0 256 _ (by unfold N0;omega) ⟨0,zs,[],rfl,rfl,hz,aw _⟩
 rintro m x ⟨c,arr,mp,rfl,hm,ha,hmp⟩ k hk
 simp only
 rcases aj c 256 with hc|hc
 ·have n0:(0:Int)<=(c:Int):=by omega
  obtain⟨v,hv⟩:∃ v,arr[c]?=some v:=⟨arr[c]'(by rw[ha.1];exact hc),List.getElem?_eq_getElem _⟩
  rw[decide_eq_true (show(c:Int)<256 by omega),cond_true,jW hc,ae (O9 hn hS hc)]
  simp only
  refine qq (P:=λz=>∃ arr,z=some ((arr,()),())/\sZ arr) λK hK=>?_
  have go:∀ (mp':List (List Int×Int)) (y:Int),mp'.length<=c+1->∃ r,K ((zs,(arr,(mp',()))),(y,()))=some ((r,()),())/\sZ r:=by
   intro mp' y hl
   rw[hK]
   simp only
   rw[if_pos n0,aa,hv]
   simp only
   rw[if_pos n0,cV (by omega)]
   exact hk (m-1) _ (by omega) ⟨c+1,_,mp',rfl,by omega,HP ha c y,hl⟩
  generalize cW dq.length (Dr dq.length (inS dq c))=key
  cases hh:eX (λv10 v11=>decide (v10=v11)) key mp
  ·have QP:x8 mp=true:=by
    unfold x8 maxLen
    rw[kR]
    omega
   rw[aH,cond_true,QP,cond_true]
   exact go _ _ (bE (KZ _ _ _ _) (by omega))
  ·rw[ay,cond_false]
   exact go _ _ (by omega)
 ·rw[decide_eq_false (show ¬(c:Int)<256 by omega),cond_false]
  exact⟨arr,rfl,ha⟩
end
noncomputable section
def mkL(n last:Nat):List Int:=(List.range n).map λq=>if q=last then 0 else -1
theorem E2(n last:Nat):(mkL n last).length=n:=by simp[mkL]
theorem E3{n:Nat}(last:Nat){i:Nat}(h:i<n):(mkL n last)[i]?=some (if i=last then 0 else -1):=by
 unfold mkL
 rw[List.getElem?_map,List.getElem?_range h]
 rfl
theorem Pb{n:Nat}(last:Nat){i:Nat}(h:i<n):NY N0 (mkL n last,((i:Int),()))=some ((if i=last then 0 else -1,()),()):=by
 delta NY Ld Bd
 have n0:(0:Int)<=(i:Int):=by omega
 simp only
 rw[decide_eq_false (show ¬(((mkL n last).length:Nat):Int)<=(i:Int) by rw[E2];omega),cond_false,if_pos n0,aa,E3 last h]
def gQ(f:Nat->Bool)(last i:Nat):Int:=if f last=true/\last<i then 0 else -1
theorem Pd{n:Nat}(hn:n<=100000){last:Nat}(hl:last<n)(b)(hb:b.2.1=mkL n last)(f:Nat->Bool):NZ N0 (some b,(bsN n f,()))=some ((gQ f last n,()),()):=by
 delta NZ Ld Bd Wi
 simp only[hb]
 refine aZ (λm x q=>∃ i:Nat,x=((),(gQ f last i,((i:Int),())))/\m+i=n/\q=some ((gQ f last n,()),())) ?_ N0 n _ _ (by unfold N0;omega) ⟨0,by rw[show gQ f last 0=-1 from by unfold gQ;rw[if_neg (by omega)]];rfl,rfl,rfl⟩
 rintro m x q ⟨i,rfl,hm,rfl⟩ k hk
 simp only
 rcases aj i n with hi|hi
 ·have n0:(0:Int)<=(i:Int):=by omega
  rw[decide_eq_true (show(i:Int)<(((bsN n f).length:Nat):Int) by rw[gM];omega),cond_true,if_pos n0,aa,gN f hi]
  simp only
  rw[ae (Pb last hi)]
  simp only
  refine aV ((),(f i&&decide (i=last),())) (λK=>?_) ?_
  ·cases f i
   ·rfl
   ·rw[cond_true]
    by_cases e:i=last
    ·subst e
     have h1:gQ f i i=-1:=by unfold gQ;rw[if_neg (by omega)]
     rw[if_pos rfl,h1]
     simp
    ·rw[if_neg e]
     simp[e]
  ·simp only
   refine aV ((),(gQ f last (i+1),())) (λK=>?_) ?_
   ·by_cases e:i=last
    ·subst e
     cases hf:f i
     ·have h1:gQ f i i=gQ f i (i+1):=by unfold gQ;simp[hf]
      simp[h1]
     ·have h1:gQ f i (i+1)=0:=by unfold gQ;rw[if_pos ⟨hf,by omega⟩]
      simp[h1]
    ·have h1:gQ f last i=gQ f last (i+1):=by
      unfold gQ
      have:(last<i+1)↔(last<i):=by omega
      simp[this]
     simp[e,h1]
   ·simp only
    rw[cV (by omega)]
    exact hk (m-1) _ _ (by omega) ⟨i+1,rfl,by omega,rfl⟩
 ·have:i=n:=by omega
  subst this
  rw[decide_eq_false (show ¬(i:Int)<(((bsN i f).length:Nat):Int) by rw[gM];omega),cond_false]
end
noncomputable section
theorem Dt{E:List Ed}{g:Nat->Bool}(hg:mb E g){p q:Nat}(h:Fr0 E p q)(hp:g p=true):g q=true:=by
 induction h with
 |refl=>exact hp
 |step _ he ih=>exact hg _ he rfl ih
theorem HQ(t:Rx){g:Nat->Bool}(h:gC (t.aA 0) (λx=>decide (x=t.fst 0)) g):g (t.lst 0)=t.null:=by
 obtain⟨h1,h2,h3⟩:=h
 cases hn:t.null
 ·have hle:=h3 (t.cl 0) (λe he hf hp=>t.EH 0 e he hf hp) (λx hx=>by
   rw[decide_eq_true_eq]at hx
   rw[hx];exact t.nB 0)
  cases hg:g (t.lst 0)
  ·rfl
  ·have:=hle _ hg
   rw[t.rV,hn]at this
   cases this
 ·exact Dt h2 (t.Kr 0 hn) (h1 _ (by simp))
theorem eM{E:List Ed}{f g g':Nat->Bool}(h:gC E f g)(h':gC E f g'):g=g':=by
 funext x
 cases hg:g x
 ·cases hg':g' x
  ·rfl
  ·have:=h'.2.2 g h.2.1 h.1 x hg'
   rw[hg]at this;cases this
 ·exact(h.2.2 g' h'.2.1 h'.1 x hg).symm
def fh(E:List Ed):List Nat:=(E.filter λe=>!e.2.2.2).map λe=>e.2.1
def onT(E:List Ed)(f:Nat->Bool):List Bool:=(fh E).map f
theorem oM{E:List Ed}{f:Nat->Bool}{c x:Nat}(h:aY E f c x=true):x∈fh E:=by
 unfold aY at h
 rw[ic]at h
 obtain⟨e,he,h⟩:=h
 simp only[ag,bC,decide_eq_true_eq]at h
 obtain⟨h1,_,_,h2⟩:=h
 unfold fh
 rw[eE]
 exact⟨e,fG.2 ⟨he,by simp[h1]⟩,h2.symm⟩
theorem sf{E:List Ed}{f f':Nat->Bool}{c c':Nat}(h:onT E (aY E f c)=onT E (aY E f' c')):aY E f c=aY E f' c':=by
 have key:∀ x,x∈fh E->aY E f c x=aY E f' c' x:=by
  unfold onT at h
  intro x hx
  exact List.map_inj_left.1 h x hx
 funext x
 cases h1:aY E f c x
 ·cases h2:aY E f' c' x
  ·rfl
  ·have:=key x (oM h2)
   rw[h1,h2]at this;exact this
 ·have:=key x (oM h1)
  rw[h1]at this;exact this
def VD(E:List Ed)(f0 g:Nat->Bool):Prop:=gC E f0 g\/∃ f c,gC E (aY E f c) g
theorem qx(E:List Ed)(f:Nat->Bool):(onT E f).length=(fh E).length:=by simp[onT]
theorem Pe{E:List Ed}{f0:Nat->Bool}(l:List (Nat->Bool))(hn:l.Nodup)(h:∀ g∈l,VD E f0 g):l.length<=2 ^ (fh E).length+1:=by
 refine rU (λ(g:Nat->Bool) (k:Nat)=>(k=0/\gC E f0 g)\/(0<k/\∃ f c,gC E (aY E f c) g/\k=dC (onT E (aY E f c))+1)) ?_ (2 ^ (fh E).length+1) l hn ?_
 ·rintro x y k (⟨hk,hx⟩|⟨hk,f,c,hx,e⟩) (⟨hk',hy⟩|⟨hk',f',c',hy,e'⟩)
  ·exact eM hx hy
  ·omega
  ·omega
  ·have hb:dC (onT E (aY E f c))=dC (onT E (aY E f' c')):=by omega
   have:=oI _ _ (by rw[qx,qx]) hb
   have:=sf this
   rw[this]at hx
   exact eM hx hy
 ·intro g hg
  rcases h g hg with hg|⟨f,c,hg⟩
  ·exact⟨0,Nat.succ_pos _,.inl ⟨rfl,hg⟩⟩
  ·have:=lp (onT E (aY E f c))
   rw[qx]at this
   exact⟨_,by omega,.inr ⟨by omega,f,c,hg,rfl⟩⟩
end
noncomputable section
def Rx.dh:Rx->Nat
 |.eps=>0
 |.set _=>1
 |.cat a b=>a.dh+b.dh
 |.alt a b=>a.dh+b.dh
 |.rep _ a=>a.dh
theorem gR(E E':List Ed):fh (E++E')=fh E++fh E':=by unfold fh;rw[jx,cO]
theorem u0:∀ (t:Rx) (n:Nat),(fh (t.aA n)).length=t.dh:=by
 intro t
 induction t with
 |eps=>intro n;rfl
 |set S=>intro n;rfl
 |cat a b iha ihb=>
  intro n
  simp only[Rx.aA,gR,ak,iha,ihb,Rx.dh]
  rfl
 |alt a b iha ihb=>
  intro n
  simp only[Rx.aA,gR,ak,iha,ihb,Rx.dh]
  rfl
 |rep k a ih=>
  intro n
  simp only[Rx.aA,gR,ak,ih,Rx.dh]
  split <;> split <;> rfl
end
noncomputable section
def sg(S:List Int):Prop:=S=ofB (λ_=>true)\/∃ c:Int,S=ofB (rW c)
def Rx.pw:Rx->Nat
 |.cat ..=>2
 |.alt ..=>2
 |_=>0
def Rx.cw:Rx->Nat
 |.alt ..=>2
 |_=>0
open Classical in
def Rx.wt:Rx->Nat
 |.eps=>1
 |.set S=>if sg S then 1 else 2
 |.cat a b=>a.wt+a.cw+(b.wt+b.pw)
 |.alt a b=>a.wt+(b.wt+b.cw)+1
 |.rep _ a=>a.wt+a.pw+1
theorem Rx.Sn:Rx.wt .eps=1:=by rw[Rx.wt]
theorem Rx.yJ(a b:Rx):(Rx.cat a b).wt=a.wt+a.cw+(b.wt+b.pw):=by rw[Rx.wt]
theorem Rx.u9(a b:Rx):(Rx.alt a b).wt=a.wt+(b.wt+b.cw)+1:=by rw[Rx.wt]
theorem Rx.yK(k:Int)(a:Rx):(Rx.rep k a).wt=a.wt+a.pw+1:=by rw[Rx.wt]
theorem Rx.Sq(k:Int)(a:Rx):(Rx.rep k a).pw=0:=rfl
theorem Rx.K1(a b:Rx):(Rx.cat a b).cw=0:=rfl
theorem Rx.Ss(k:Int)(a:Rx):(Rx.rep k a).cw=0:=rfl
theorem Rx.Su(a b:Rx):(Rx.alt a b).cw=2:=rfl
theorem Rx.VE:∀ t:Rx,t.pw<=2:=by intro t;cases t <;> simp[Rx.pw]
def Wo(i:Nat)(o:Option (Rx×Nat)):Prop:=∀ t j,o=some (t,j)->t.wt+i<=j
def WoP(i:Nat)(o:Option (Rx×Nat)):Prop:=∀ t j,o=some (t,j)->t.wt+t.pw+i<=j
def WoC(i:Nat)(o:Option (Rx×Nat)):Prop:=∀ t j,o=some (t,j)->t.wt+t.cw+i<=j
theorem Pf{s:List Int}(hb:Bytes s){inner:Nat->Nat->Option (Rx×Nat)}{i d:Nat}(hin:Wo (i+1) (inner (i+1) (d+1))):WoP i (mI inner s i d):=by
 intro t j h
 unfold mI at h
 split at h
 ·cases h
 split at h
 ·injection h with h;injection h with h1 h2;subst h1;subst h2;simp only[Rx.wt,Rx.pw,if_pos (show sg (ofB λ_=>true)from .inl rfl)];omega
 split at h
 ·injection h with h;injection h with h1 h2;subst h1;subst h2;simp only[Rx.wt,Rx.pw];omega
 split at h
 ·have hr:=(EP hb (show i+1-1<i+1 by omega) t j h).1
  rw[yD]at h
  unfold pg at h
  split at h
  ·cases h
  rename_i l k hl
  generalize (if fg s (i+1) 94=true then λx=>!l x else l)=l' at h
  split at h
  ·cases h
  injection h with h
  injection h with h1 h2
  subst h1
  have hk:=EO hb _ _ _ _ _ hl
  have hk2:i+1<=k:=by
   refine bE ?_ hk
   split <;> omega
  have hw:Rx.wt (.set (ofB l'))<=2:=by simp only[Rx.wt];split <;> omega
  simp only[Rx.pw]
  omega
 split at h
 ·split at h
  ·cases h
  split at h
  ·cases h
  rename_i t2 j2 hi2
  have:=hin _ _ hi2
  have:=t2.VE
  split at h
  ·injection h with h;injection h with h1 h2;subst h1;subst h2;omega
  ·cases h
 split at h
 ·cases h
 rename_i c n hrd
 obtain⟨h1,h2,h3⟩:=ma (hb.drop i) hrd
 injection h with h;injection h with h4 h5;subst h4;subst h5
 simp only[Rx.wt,Rx.pw,if_pos (show sg (ofB (rW c))from .inr ⟨c,rfl⟩)];omega
theorem Pg{s:List Int}:∀ (m i0 i:Nat) (t0 t:Rx) (j:Nat),t0.wt+t0.pw+i0<=i->rX s m i t0=some (t,j)->t.wt+t.pw+i0<=j:=by
 intro m
 induction m with
 |zero=>intro i0 i t0 t j _ h;cases h
 |succ m ih=>
  intro i0 i t0 t j hr h
  simp only[rX]at h
  split at h
  ·exact ih i0 (i+1) _ t j (by rw[Rx.yK,Rx.Sq];omega) h
  ·injection h with h;injection h with h1 h2;subst h1;subst h2;exact hr
theorem E4{s:List Int}(hb:Bytes s){inner:Nat->Nat->Option (Rx×Nat)}{i d:Nat}(hin:Wo (i+1) (inner (i+1) (d+1))):WoP i (kD inner s i d):=by
 intro t j h
 unfold kD at h
 split at h
 ·cases h
 rename_i t0 i0 h0
 exact Pg _ i i0 t0 t j (Pf hb hin _ _ h0) h
theorem VF(t:Rx):t.cw<=t.pw:=by cases t <;> simp[Rx.cw,Rx.pw]
theorem Ph{s:List Int}(hb:Bytes s){inner:Nat->Nat->Option (Rx×Nat)}{d:Nat}(hin:∀ i d,Wo i (inner i d)):∀ (m i0 i:Nat) (t0 t:Rx) (j:Nat),t0.wt+t0.cw+i0<=i->tt inner s d m i t0=some (t,j)->t.wt+t.cw+i0<=j:=by
 intro m
 induction m with
 |zero=>intro i0 i t0 t j _ h;cases h
 |succ m ih=>
  intro i0 i t0 t j hr h
  simp only[tt]at h
  split at h
  ·split at h
   ·cases h
   rename_i t2 j2 h2
   have:=E4 hb (hin (i+1) (d+1)) _ _ h2
   exact ih i0 j2 _ t j (by rw[Rx.yJ,Rx.K1];omega) h
  ·injection h with h;injection h with h1 h2;subst h1;subst h2;exact hr
theorem E5{s:List Int}(hb:Bytes s){inner:Nat->Nat->Option (Rx×Nat)}{i d:Nat}(hin:∀ i d,Wo i (inner i d)):WoC i (lq inner s i d):=by
 intro t j h
 unfold lq at h
 split at h
 ·cases h
 rename_i t0 i0 h0
 have h1:=E4 hb (hin (i+1) (d+1)) _ _ h0
 have h2:=VF t0
 exact Ph hb hin _ i i0 t0 t j (by omega) h
theorem Pj{s:List Int}(hb:Bytes s){inner:Nat->Nat->Option (Rx×Nat)}{d:Nat}(hin:∀ i d,Wo i (inner i d)):∀ (m i0 i:Nat) (t0 t:Rx) (j:Nat),t0.wt+i0<=i->tu inner s d m i t0=some (t,j)->t.wt+i0<=j:=by
 intro m
 induction m with
 |zero=>intro i0 i t0 t j _ h;cases h
 |succ m ih=>
  intro i0 i t0 t j hr h
  simp only[tu]at h
  split at h
  ·split at h
   ·cases h
   rename_i t2 j2 h2
   have:=E5 hb hin _ _ h2
   exact ih i0 j2 _ t j (by rw[Rx.u9];omega) h
  ·injection h with h;injection h with h1 h2;subst h1;subst h2;exact hr
theorem Pk{s:List Int}(hb:Bytes s):∀ (n i d:Nat),Wo i (kc s n i d):=by
 intro n
 induction n with
 |zero=>intro i d t j h;cases h
 |succ n ih=>
  intro i d t j h
  simp only[kc,Dh]at h
  split at h
  ·cases h
  rename_i t0 i0 h0
  have:=E5 hb ih _ _ h0
  exact Pj hb ih _ i i0 t0 t j (by omega) h
theorem HR{s:List Int}(hb:Bytes s){t:Rx}(h:fX s=.ok t):t.wt<=s.length:=by
 unfold fX at h
 split at h
 ·cases h
 split at h
 ·cases h
 rename_i t2 i ho
 have h1:=Pk hb _ _ _ _ _ ho
 obtain⟨_,h2,_,_⟩:=jX hb _ _ _ (by omega) _ _ ho
 split at h
 ·cases h
 split at h
 ·cases h
 injection h with h
 subst h
 omega
theorem Rx.fP:∀ t:Rx,t.dh<=t.wt:=by
 intro t
 induction t with
 |eps=>simp[Rx.dh]
 |set S=>simp only[Rx.dh,Rx.wt];split <;> omega
 |cat a b iha ihb=>rw[Rx.yJ];simp only[Rx.dh];omega
 |alt a b iha ihb=>rw[Rx.u9];simp only[Rx.dh];omega
 |rep k a ih=>rw[Rx.yK];simp only[Rx.dh];omega
end
noncomputable section
def Rx.lin:Rx->Bool
 |.eps=>true
 |.set _=>true
 |.cat a b=>a.lin&&b.lin
 |_=>false
def Rx.lf:Rx->Bool
 |.eps=>false
 |.set _=>true
 |.cat a _=>a.lf
 |.alt a _=>a.lf
 |.rep k a=>decide (k=6)&&a.lf
inductive Rx.Lq:Rx->Prop
 |rep {k:Int} {S:List Int} (hk:k≠6) (hS:sg S):Rx.Lq (.rep k (.set S))
 |cat {a:Rx} {S:List Int} (h:Rx.Lq a):Rx.Lq (.cat a (.set S))
theorem vd:∀ t:Rx,t.wt<=t.dh->t.lf=true/\t.lin=true/\(t.pw=0->∃ S,sg S/\t=.set S):=by
 intro t
 induction t with
 |eps=>intro h;rw[Rx.Sn]at h;simp[Rx.dh]at h
 |set S=>
  intro h
  simp only[Rx.wt,Rx.dh]at h
  split at h
  ·rename_i hS;exact⟨rfl,rfl,λ_=>⟨S,hS,rfl⟩⟩
  ·omega
 |cat a b iha ihb=>
  intro h
  rw[Rx.yJ]at h
  simp only[Rx.dh]at h
  have h1:=a.fP
  have h2:=b.fP
  obtain⟨i1,i2,_⟩:=iha (by omega)
  obtain⟨j1,j2,_⟩:=ihb (by omega)
  exact⟨i1,by simp[Rx.lin,i2,j2],λh=>by simp[Rx.pw]at h⟩
 |alt a b iha ihb=>
  intro h
  rw[Rx.u9]at h
  simp only[Rx.dh]at h
  have h1:=a.fP
  have h2:=b.fP
  omega
 |rep k a ih=>
  intro h
  rw[Rx.yK]at h
  simp only[Rx.dh]at h
  have h1:=a.fP
  omega
theorem tK:∀ t:Rx,t.wt+t.cw<=t.dh+1->t.lin=true\/t.lf=true\/t.Lq:=by
 intro t
 induction t with
 |eps=>intro _;exact .inl rfl
 |set S=>intro _;exact .inl rfl
 |cat a b iha ihb=>
  intro h
  rw[Rx.yJ,Rx.K1]at h
  simp only[Rx.dh]at h
  have h1:=a.fP
  have h2:=b.fP
  by_cases ha:a.wt<=a.dh
  ·exact .inr (.inl (vd a ha).1)
  ·obtain⟨_,j2,j3⟩:=vd b (by omega)
   obtain⟨S,hS,rfl⟩:=j3 (by omega)
   rcases iha (by omega)with i|i|i
   ·exact .inl (by simp[Rx.lin,i])
   ·exact .inr (.inl i)
   ·exact .inr (.inr (.cat i))
 |alt a b iha ihb=>
  intro h
  rw[Rx.u9,Rx.Su]at h
  simp only[Rx.dh]at h
  have h1:=a.fP
  have h2:=b.fP
  omega
 |rep k a ih=>
  intro h
  rw[Rx.yK,Rx.Ss]at h
  simp only[Rx.dh]at h
  have h1:=a.fP
  obtain⟨i1,_,i3⟩:=vd a (by omega)
  obtain⟨S,hS,rfl⟩:=i3 (by omega)
  by_cases hk:k=6
  ·exact .inr (.inl (by simp[Rx.lf,hk]))
  ·exact .inr (.inr (.rep hk hS))
theorem Sv(t:Rx)(h:t.wt<=t.dh+1):t.lin=true\/t.lf=true\/t.Lq:=by
 cases t with
 |alt a b=>
  rw[Rx.u9]at h
  simp only[Rx.dh]at h
  have h1:=a.fP
  have h2:=b.fP
  exact .inr (.inl (vd a (by omega)).1)
 |eps=>exact tK _ (by simpa [Rx.cw]using h)
 |set S=>exact tK _ (by simpa [Rx.cw]using h)
 |cat a b=>exact tK _ (by simpa [Rx.cw]using h)
 |rep k a=>exact tK _ (by simpa [Rx.cw]using h)
def Rx.lvl:Rx->Nat->Nat->Nat
 |.set _,n,q=>if q=n then 0 else 1
 |.cat a b,n,q=>if q<n+2*a.len then a.lvl n q else if q<n+2*(a.len+b.len)then a.dh+b.lvl (n+2*a.len) q else if q=n+2*(a.len+b.len)then 0 else a.dh+b.dh
 |_,_,_=>0
theorem Rx.yL:∀ (t:Rx) (n:Nat),t.lvl n (t.fst n)=0:=by
 intro t n
 have:=t.bL
 cases t with
 |set S=>simp[Rx.lvl,Rx.fst,Rx.len]
 |cat a b=>
  have e:(Rx.cat a b).fst n=n+2*(a.len+b.len):=by simp only[Rx.fst,Rx.len];omega
  have ha:=a.bL
  rw[e,Rx.lvl,if_neg (by omega),if_neg (by omega),if_pos rfl]
 |_=>rfl
theorem Rx.E6:∀ (t:Rx) (n:Nat),t.lin=true->t.lvl n (t.lst n)=t.dh:=by
 intro t n h
 have:=t.bL
 cases t with
 |set S=>simp[Rx.lvl,Rx.lst,Rx.len,Rx.dh]
 |eps=>rfl
 |cat a b=>
  have e:(Rx.cat a b).lst n=n+2*(a.len+b.len)+1:=by simp only[Rx.lst,Rx.len];omega
  have ha:=a.bL
  rw[e,Rx.lvl,if_neg (by omega),if_neg (by omega),if_neg (by omega),Rx.dh]
 |alt a b=>cases h
 |rep k a=>cases h
theorem Rx.By:∀ (t:Rx) (n:Nat),t.lin=true->∀ e∈t.aA n,t.lvl n e.2.1=t.lvl n e.1+(if e.2.2.2=true then 0 else 1):=by
 intro t
 induction t with
 |eps=>intro n _ e he;simp[Rx.aA,fE]at he;subst he;simp[Rx.lvl]
 |set S=>intro n _ e he;simp[Rx.aA]at he;subst he;simp[Rx.lvl]
 |alt a b=>intro n h;cases h
 |rep k a=>intro n h;cases h
 |cat a b iha ihb=>
  intro n h e he
  simp only[Rx.lin,ag]at h
  have ha:=a.bL
  have hb:=b.bL
  simp only[Rx.aA,au,aI,bU,or_false]at he
  rcases he with(he|he)|he|he|he
  ·have hi:=a.dF n e he
   simp only[Rx.lvl]
   rw[if_pos (by omega),if_pos (by omega),iha n h.1 e he]
  ·have hi:=b.dF _ e he
   simp only[Rx.lvl]
   rw[if_neg (by omega),if_pos (by omega),if_neg (by omega),if_pos (by omega),ihb _ h.2 e he]
   omega
  ·subst he
   have hi:=a.pB n
   have hz:=a.yL n
   show(Rx.cat a b).lvl n (a.fst n)=(Rx.cat a b).lvl n (n+2*(a.len+b.len))+0
   simp only[Rx.lvl]
   rw[if_pos (show a.fst n<n+2*a.len by omega),if_neg (by omega),if_neg (by omega),if_true,hz]
  ·subst he
   have hi:=a.kC n
   have hi2:=b.pB (n+2*a.len)
   have hz:=a.E6 n h.1
   have hz2:=b.yL (n+2*a.len)
   show(Rx.cat a b).lvl n (b.fst (n+2*a.len))=(Rx.cat a b).lvl n (a.lst n)+0
   simp only[Rx.lvl]
   rw[if_neg (show ¬b.fst (n+2*a.len)<n+2*a.len by omega),if_pos (by omega),if_pos (by omega),hz,hz2]
  ·subst he
   have hi2:=b.kC (n+2*a.len)
   have hz2:=b.E6 (n+2*a.len) h.2
   show(Rx.cat a b).lvl n (n+2*(a.len+b.len)+1)=(Rx.cat a b).lvl n (b.lst (n+2*a.len))+0
   simp only[Rx.lvl]
   rw[if_neg (by omega),if_neg (by omega),if_neg (by omega),if_neg (show ¬b.lst (n+2*a.len)<n+2*a.len by omega),if_pos (by omega),hz2]
   omega
theorem Rx.E7:∀ (t:Rx) (n:Nat),t.lin=true->∀ x∈fh (t.aA n),0<t.lvl n x/\t.lvl n x<=t.dh/\∀ y∈fh (t.aA n),t.lvl n x=t.lvl n y->x=y:=by
 intro t
 induction t with
 |eps=>intro n _ x hx;simp[Rx.aA,fh,fE]at hx
 |set S=>
  intro n _ x hx
  simp[Rx.aA,fh]at hx
  subst hx
  refine⟨by simp[Rx.lvl],by simp[Rx.lvl,Rx.dh],λy hy _=>?_⟩
  simp[Rx.aA,fh]at hy
  exact hy.symm
 |alt a b=>intro n h;cases h
 |rep k a=>intro n h;cases h
 |cat a b iha ihb=>
  intro n h x hx
  simp only[Rx.lin,ag]at h
  have ha:=a.bL
  have hb:=b.bL
  have hin:∀ (t:Rx) (m x:Nat),x∈fh (t.aA m)->m<=x/\x<m+2*t.len:=by
   intro t m x hx
   unfold fh at hx
   obtain⟨e,he,rfl⟩:=eE.1 hx
   have:=t.dF m e (fG.1 he).1
   omega
  have hT:fh ((Rx.cat a b).aA n)=fh (a.aA n)++fh (b.aA (n+2*a.len)):=by
   simp only[Rx.aA,gR]
   simp[fh,fE]
  have la:∀ x,x∈fh (a.aA n)->(Rx.cat a b).lvl n x=a.lvl n x:=λx hx=>by
   have:=hin a n x hx
   rw[Rx.lvl,if_pos (by omega)]
  have lb:∀ x,x∈fh (b.aA (n+2*a.len))->(Rx.cat a b).lvl n x=a.dh+b.lvl (n+2*a.len) x:=λx hx=>by
   have:=hin b _ x hx
   rw[Rx.lvl,if_neg (by omega),if_pos (by omega)]
  rw[hT]at hx |-
  simp only[Rx.dh]
  rcases au.1 hx with hx|hx
  ·obtain⟨q1,q2,q3⟩:=iha n h.1 x hx
   rw[la x hx]
   refine⟨q1,by omega,λy hy hxy=>?_⟩
   rcases au.1 hy with hy|hy
   ·rw[la y hy]at hxy;exact q3 y hy hxy
   ·rw[lb y hy]at hxy
    have:=(ihb _ h.2 y hy).1
    omega
  ·obtain⟨q1,q2,q3⟩:=ihb _ h.2 x hx
   rw[lb x hx]
   refine⟨by omega,by omega,λy hy hxy=>?_⟩
   rcases au.1 hy with hy|hy
   ·rw[la y hy]at hxy
    have:=(iha n h.1 y hy).2.1
    omega
   ·rw[lb y hy]at hxy;exact q3 y hy (by omega)
def Rx.pre:Rx->Nat->Nat->Bool
 |.eps,n,q=>decide (q=n)
 |.set _,n,q=>decide (q=n)
 |.cat a b,n,q=>decide (q=n+2*(a.len+b.len))||a.pre n q
 |.alt a b,n,q=>decide (q=n+2*(a.len+b.len))||a.pre n q
 |.rep k a,n,q=>decide (q=n+2*a.len)||(decide (k=6)&&a.pre n q)
theorem Rx.pC:∀ (t:Rx) (n q:Nat),t.pre n q=true->n<=q/\q<n+2*t.len:=by
 intro t
 induction t with
 |eps=>intro n q h;simp only[Rx.pre,decide_eq_true_eq]at h;simp only[Rx.len];omega
 |set S=>intro n q h;simp only[Rx.pre,decide_eq_true_eq]at h;simp only[Rx.len];omega
 |cat a b iha ihb=>
  intro n q h
  simp only[Rx.pre,aJ,decide_eq_true_eq]at h
  simp only[Rx.len]
  rcases h with h|h
  ·omega
  ·have:=iha n q h;omega
 |alt a b iha ihb=>
  intro n q h
  simp only[Rx.pre,aJ,decide_eq_true_eq]at h
  simp only[Rx.len]
  rcases h with h|h
  ·omega
  ·have:=iha n q h;omega
 |rep k a ih=>
  intro n q h
  simp only[Rx.pre,aJ,ag,decide_eq_true_eq]at h
  simp only[Rx.len]
  rcases h with h|h
  ·omega
  ·have:=ih n q h.2;omega
theorem Rx.K2:∀ (t:Rx) (n:Nat),∀ e∈t.aA n,t.pre n e.2.1=true->e.2.2.2=true/\t.pre n e.1=true:=by
 intro t
 induction t with
 |eps=>intro n e he h;simp[Rx.aA,fE]at he;subst he;simp[Rx.pre]at h
 |set S=>intro n e he h;simp[Rx.aA]at he;subst he;simp[Rx.pre]at h
 |cat a b iha ihb=>
  intro n e he h
  have ha:=a.bL
  have hb:=b.bL
  simp only[Rx.aA,au,aI,bU,or_false]at he
  simp only[Rx.pre,aJ,decide_eq_true_eq]at h |-
  rcases he with(he|he)|he|he|he
  ·have hi:=a.dF n e he
   obtain⟨q1,q2⟩:=iha n e he (h.resolve_left (by omega))
   exact⟨q1,.inr q2⟩
  ·have hi:=b.dF _ e he
   rcases h with h|h
   ·omega
   ·have:=a.pC n _ h;omega
  ·subst he;exact⟨rfl,.inl rfl⟩
  ·subst he
   have hi:=b.pB (n+2*a.len)
   rcases h with h|h
   ·simp only[fE]at h;omega
   ·have:=a.pC n _ h;simp only[fE]at this;omega
  ·subst he
   rcases h with h|h
   ·simp only[fE]at h;omega
   ·have:=a.pC n _ h;simp only[fE]at this;omega
 |alt a b iha ihb=>
  intro n e he h
  have ha:=a.bL
  have hb:=b.bL
  simp only[Rx.aA,au,aI,bU,or_false]at he
  simp only[Rx.pre,aJ,decide_eq_true_eq]at h |-
  rcases he with(he|he)|he|he|he|he
  ·have hi:=a.dF n e he
   obtain⟨q1,q2⟩:=iha n e he (h.resolve_left (by omega))
   exact⟨q1,.inr q2⟩
  ·have hi:=b.dF _ e he
   rcases h with h|h
   ·omega
   ·have:=a.pC n _ h;omega
  ·subst he;exact⟨rfl,.inl rfl⟩
  ·subst he
   rcases h with h|h
   ·simp only[fE]at h;omega
   ·have:=a.pC n _ h;simp only[fE]at this;omega
  ·subst he;exact⟨rfl,.inl rfl⟩
  ·subst he
   rcases h with h|h
   ·simp only[fE]at h;omega
   ·have:=a.pC n _ h;simp only[fE]at this;omega
 |rep k a ih=>
  intro n e he h
  have ha:=a.bL
  simp only[Rx.aA,au,aI,bU,or_false]at he
  simp only[Rx.pre,aJ,ag,decide_eq_true_eq]at h |-
  rcases he with((he|he|he)|he)|he
  ·have hi:=a.dF n e he
   have h:=h.resolve_left (by omega)
   obtain⟨q1,q2⟩:=ih n e he h.2
   exact⟨q1,.inr ⟨h.1,q2⟩⟩
  ·subst he;exact⟨rfl,.inl rfl⟩
  ·subst he
   rcases h with h|h
   ·simp only[fE]at h;omega
   ·have:=a.pC n _ h.2;simp only[fE]at this;omega
  ·split at he
   ·simp at he
   ·rename_i hk
    simp only[aK]at he
    subst he
    rcases h with h|h
    ·have:=a.pB n;simp only[fE]at h;omega
    ·exact absurd h.1 hk
  ·split at he
   ·simp at he
   ·simp only[aK]at he
    subst he
    exact⟨rfl,.inl rfl⟩
theorem Rx.K3:∀ (t:Rx) (n:Nat),t.lf=true->∃ r,fh (t.aA n)=(n+1)::r/\t.pre n n=true/\∀ e∈t.aA n,e.2.2.2=false->e.2.1=n+1->e.1=n:=by
 intro t
 induction t with
 |eps=>intro n h;cases h
 |set S=>intro n _;exact⟨[],rfl,by simp[Rx.pre],λe he _ _=>by simp[Rx.aA]at he;subst he;rfl⟩
 |cat a b iha ihb=>
  intro n h
  have ha:=a.bL
  obtain⟨r,q1,q2,q3⟩:=iha n h
  refine⟨r++fh (b.aA (n+2*a.len)),?_,by simp[Rx.pre,q2],λe he hf ht=>?_⟩
  ·simp only[Rx.aA,gR,q1];simp[fh,fE]
  ·simp only[Rx.aA,au,aI,bU,or_false]at he
   rcases he with(he|he)|he|he|he
   ·exact q3 e he hf ht
   ·have:=b.dF _ e he;omega
   all_goals (subst he;cases hf)
 |alt a b iha ihb=>
  intro n h
  have ha:=a.bL
  obtain⟨r,q1,q2,q3⟩:=iha n h
  refine⟨r++fh (b.aA (n+2*a.len)),?_,by simp[Rx.pre,q2],λe he hf ht=>?_⟩
  ·simp only[Rx.aA,gR,q1];simp[fh,fE]
  ·simp only[Rx.aA,au,aI,bU,or_false]at he
   rcases he with(he|he)|he|he|he|he
   ·exact q3 e he hf ht
   ·have:=b.dF _ e he;omega
   all_goals (subst he;cases hf)
 |rep k a ih=>
  intro n h
  simp only[Rx.lf,ag,decide_eq_true_eq]at h
  obtain⟨rfl,h⟩:=h
  obtain⟨r,q1,q2,q3⟩:=ih n h
  refine⟨r,?_,by simp[Rx.pre,q2],λe he hf ht=>?_⟩
  ·simp only[Rx.aA,gR,q1];simp[fh,fE]
  ·simp only[Rx.aA,au,aI,bU,or_false]at he
   rcases he with((he|he|he)|he)|he
   ·exact q3 e he hf ht
   ·subst he;cases hf
   ·subst he;cases hf
   ·simp at he
   ·simp at he;subst he;cases hf
end
noncomputable section
inductive Rch(t:Rx):(Nat->Bool)->Prop
 |ini {g:Nat->Bool} (h:gC (t.aA 0) (λx=>decide (x=t.fst 0)) g):Rch t g
 |step {f g:Nat->Bool} {c:Nat} (hc:c<256) (hf:Rch t f) (h:gC (t.aA 0) (aY (t.aA 0) f c) g):Rch t g
theorem fe{E:List Ed}{f:Nat->Bool}{c x:Nat}:aY E f c x=true↔∃ e∈E,e.2.2.2=false/\f e.1=true/\hasB e.2.2.1 c=true/\x=e.2.1:=by
 unfold aY
 rw[ic]
 simp only[ag,bC,decide_eq_true_eq]
theorem Rch.YA{t:Rx}{g:Nat->Bool}(h:Rch t g):VD (t.aA 0) (λx=>decide (x=t.fst 0)) g:=by
 cases h with
 |ini h=>exact .inl h
 |step _ _ h=>exact .inr ⟨_,_,h⟩
theorem Rch.lvl{t:Rx}(hl:t.lin=true){g:Nat->Bool}(h:Rch t g):∃ m,∀ q,g q=true->t.lvl 0 q=m:=by
 have clo:∀ m,mb (t.aA 0) (λq=>decide (t.lvl 0 q=m)):=by
  intro m e he hf h
  have:=t.By 0 hl e he
  rw[hf]at this
  simp only[decide_eq_true_eq]at h |-
  simp at this
  omega
 induction h with
 |ini h=>
  refine⟨0,λq hq=>?_⟩
  have:=h.2.2 _ (clo 0) (λx hx=>by
   rw[decide_eq_true_eq]at hx
   subst hx
   simpa using t.yL 0) q hq
  simpa using this
 |step hc hf h ih=>
  obtain⟨m,ih⟩:=ih
  refine⟨m+1,λq hq=>?_⟩
  have:=h.2.2 _ (clo (m+1)) (λx hx=>by
   obtain⟨e,he,h1,h2,_,rfl⟩:=fe.1 hx
   have:=t.By 0 hl e he
   rw[h1,ih _ h2]at this
   simpa using this) q hq
  simpa using this
theorem K4{t:Rx}(hl:t.lin=true)(l:List (Nat->Bool))(hn:l.Nodup)(h:∀ g∈l,Rch t g):l.length<=t.dh+3:=by
 refine rU (λ(g:Nat->Bool) (k:Nat)=>(k=0/\gC (t.aA 0) (λx=>decide (x=t.fst 0)) g)\/(k=1/\gC (t.aA 0) (λ_=>false) g)\/
  (∃ f x,gC (t.aA 0) f g/\x∈fh (t.aA 0)/\(∀ y,f y=true↔y=x)/\k=t.lvl 0 x+2)) ?_ (t.dh+3) l hn ?_
 ·rintro a b k (⟨rfl,h1⟩|⟨rfl,h1⟩|⟨f,x,h1,h2,h3,rfl⟩) (⟨e,g1⟩|⟨e,g1⟩|⟨f',x',g1,g2,g3,e⟩)
  ·exact eM h1 g1
  ·omega
  ·omega
  ·omega
  ·exact eM h1 g1
  ·omega
  ·omega
  ·omega
  ·have:x=x':=(t.E7 0 hl x h2).2.2 x' g2 (by omega)
   subst this
   have:f=f':=by
    funext y
    rw[cI,h3,g3]
   rw[this]at h1
   exact eM h1 g1
 ·intro g hg
  have hr:=h g hg
  cases hr with
  |ini h=>exact⟨0,by omega,.inl ⟨rfl,h⟩⟩
  | @step f g c hc hf h=>
   by_cases hx:∃ x,aY (t.aA 0) f c x=true
   ·obtain⟨x,hx⟩:=hx
    have hxt:=oM hx
    have hb:=t.E7 0 hl x hxt
    refine⟨t.lvl 0 x+2,by omega,.inr (.inr ⟨_,x,h,hxt,λy=>⟨λhy=>?_,λe=>e ▸ hx⟩,rfl⟩)⟩
    obtain⟨m,hm⟩:=(Rch.step hc hf h).lvl hl
    have e1:=hm _ (h.1 _ hx)
    have e2:=hm _ (h.1 _ hy)
    exact(hb.2.2 y (oM hy) (by omega)).symm
   ·refine⟨1,by omega,.inr (.inl ⟨rfl,?_⟩)⟩
    have:aY (t.aA 0) f c=λ_=>false:=by
     funext x
     cases hs:aY (t.aA 0) f c x
     ·rfl
     ·exact absurd ⟨x,hs⟩ hx
    rw[this]at h
    exact h
theorem Bz{t:Rx}{f g:Nat->Bool}{c:Nat}(h:gC (t.aA 0) (aY (t.aA 0) f c) g):∀ q,t.pre 0 q=true->g q=false:=by
 intro q hq
 have:=h.2.2 (λq=>!t.pre 0 q) (λe he hf hp=>by
  simp only[bC]at hp |-
  cases hc:t.pre 0 e.2.1
  ·rfl
  ·rw[(t.K2 0 e he hc).2]at hp;cases hp) (λx hx=>by
  obtain⟨e,he,h1,_,_,rfl⟩:=fe.1 hx
  simp only[bC]
  cases hc:t.pre 0 e.2.1
  ·rfl
  ·rw[(t.K2 0 e he hc).1]at h1;cases h1) q
 cases hg:g q
 ·rfl
 ·have:=this hg
  simp[hq]at this
theorem VG{t:Rx}(hl:t.lf=true)(l:List (Nat->Bool))(hn:l.Nodup)(h:∀ g∈l,Rch t g):l.length<=257+2 ^ (t.dh-1):=by
 obtain⟨r,q1,q2,q3⟩:=t.K3 0 hl
 have hrl:r.length=t.dh-1:=by
  have:=u0 t 0
  rw[q1]at this
  simp at this
  omega
 refine rU (λ(g:Nat->Bool) (k:Nat)=>(k=0/\gC (t.aA 0) (λx=>decide (x=t.fst 0)) g)\/(∃ c f,c<256/\gC (t.aA 0) (λx=>decide (x=t.fst 0)) f/\gC (t.aA 0) (aY (t.aA 0) f c) g/\k=1+c)\/
  (∃ f c,gC (t.aA 0) (aY (t.aA 0) f c) g/\aY (t.aA 0) f c 1=false/\k=257+dC (r.map (aY (t.aA 0) f c)))) ?_ (257+2 ^ (t.dh-1)) l hn ?_
 ·rintro a b k (⟨rfl,h1⟩|⟨c,f,hc,h0,h1,rfl⟩|⟨f,c,h1,h2,rfl⟩) (⟨e,g1⟩|⟨c',f',hc',g0,g1,e⟩|⟨f',c',g1,g2,e⟩)
  ·exact eM h1 g1
  ·omega
  ·omega
  ·omega
  ·have:c=c':=by omega
   subst this
   rw[eM h0 g0]at h1
   exact eM h1 g1
  ·omega
  ·omega
  ·omega
  ·have hb:=oI (r.map (aY (t.aA 0) f c)) (r.map (aY (t.aA 0) f' c')) (by simp) (by omega)
   have:onT (t.aA 0) (aY (t.aA 0) f c)=onT (t.aA 0) (aY (t.aA 0) f' c'):=by
    unfold onT
    rw[q1]
    simp only[fH,eF]
    rw[h2,g2,hb]
   rw[sf this]at h1
   exact eM h1 g1
 ·intro g hg
  have hr:=h g hg
  cases hr with
  |ini h=>exact⟨0,by have:=az (2 ^ (t.dh-1));omega,.inl ⟨rfl,h⟩⟩
  | @step f g c hc hf h=>
   cases hf with
   |ini h0=>exact⟨1+c,by have:=az (2 ^ (t.dh-1));omega,.inr (.inl ⟨c,f,hc,h0,h,rfl⟩)⟩
   | @step f0 f c0 hc0 hf0 h0=>
    have hb:=lp (r.map (aY (t.aA 0) f c))
    rw[bq,hrl]at hb
    refine⟨_,?_,.inr (.inr ⟨f,c,h,?_,rfl⟩)⟩
    ·omega
    ·cases hs:aY (t.aA 0) f c 1
     ·rfl
     ·obtain⟨e,he,h1,h2,_,h3⟩:=fe.1 hs
      rw[q3 e he h1 (by omega),Bz h0 0 q2]at h2
      cases h2
def Bq(k:Int)(S0 S1 S2:List Int):Rx:=.cat (.cat (.rep k (.set S0)) (.set S1)) (.set S2)
theorem gf{k:Int}(hk:k≠6){S0 S1 S2:List Int}{e:Ed}:e∈(Bq k S0 S1 S2).aA 0↔e=(0,1,S0,false)\/e=fE 2 0\/e=fE 1 3\/e=fE 1 0\/(k≠5/\e=fE 2 3)\/e=(4,5,S1,false)\/e=fE 6 2\/e=fE 3 4\/e=fE 5 7\/e=(8,9,S2,false)\/e=fE 10 6\/e=fE 7 8\/e=fE 9 11:=by
 by_cases h5:k=5
 ·simp[Bq,Rx.aA,Rx.len,Rx.fst,Rx.lst,hk,h5,or_assoc]
 ·simp[Bq,Rx.aA,Rx.len,Rx.fst,Rx.lst,hk,h5,or_assoc]
structure LqB(t:Rx)(k:Int)(S0 S1 S2:List Int):Prop where
 hk:k≠6
 sm:sg S0
 tg:∃ r,fh (t.aA 0)=1::5::9::r
 ed:∀ e∈t.aA 0,e.2.1<12->e.2.1≠10->e∈(Bq k S0 S1 S2).aA 0
 sub:∀ e∈(Bq k S0 S1 S2).aA 0,e∈t.aA 0
 len:6<=t.len
 p2:t.pre 0 2=true
 c8:t.cl 0 8=false
 nl:t.null=false
theorem Lq.bot{t:Rx}(h:t.Lq)(h3:3<=t.dh):∃ k S0 S1 S2,LqB t k S0 S1 S2:=by
 induction h with
 |rep hk hS=>simp[Rx.dh]at h3
 | @cat a S ha ih=>
  by_cases h3':3<=a.dh
  ·obtain⟨k,S0,S1,S2,b⟩:=ih h3'
   obtain⟨r,hr⟩:=b.tg
   have hl:=b.len
   refine⟨k,S0,S1,S2,b.hk,b.sm,⟨r++fh ((Rx.set S).aA (0+2*a.len)),?_⟩,λe he h1 h2=>?_,λe he=>?_,?_,?_,?_,?_⟩
   ·simp only[Rx.aA,gR,hr];simp[fh,fE]
   ·simp only[Rx.aA,au,aI,bU,or_false]at he
    rcases he with(he|he)|he|he|he
    ·exact b.ed e he h1 h2
    ·subst he;simp at h1;omega
    ·subst he;simp only[fE,Rx.fst]at h1 h2;omega
    ·subst he;simp only[fE,Rx.fst,Rx.len]at h1 h2;omega
    ·subst he;simp only[fE,Rx.len]at h1 h2;omega
   ·simp only[Rx.aA,au]
    exact .inl (.inl (b.sub e he))
   ·simp only[Rx.len];omega
   ·simp only[Rx.pre,b.p2,jA]
   ·simp only[Rx.cl,b.c8,b.nl,Rx.len,Rx.null]
    simp
    omega
   ·simp[Rx.null]
  ·cases ha with
   |rep hk hS=>simp[Rx.dh]at h3
   | @cat a' S' ha'=>
    cases ha' with
    | @rep k S0 hk hS=>
     refine⟨k,S0,S',S,hk,hS,⟨[],?_⟩,λe he _ _=>he,λe he=>he,by simp[Rx.len],by simp[Rx.pre,Rx.len],by simp[Rx.cl,Rx.len,Rx.null],by simp[Rx.null]⟩
     simp only[Rx.aA,gR]
     by_cases h5:k=5 <;> simp[fh,fE,Rx.len,hk,h5]
    |cat h=>
     exfalso
     cases h <;> simp[Rx.dh]at h3' h3 <;> omega
section
variable {t:Rx} {k:Int} {S0 S1 S2:List Int}
theorem LqB.at1(b:LqB t k S0 S1 S2){h:Nat->Bool}{c:Nat}(hs:aY (t.aA 0) h c 1=true):h 0=true/\hasB S0 c=true:=by
 obtain⟨e,he,h1,h2,h3,h4⟩:=fe.1 hs
 have:=b.ed e he (by omega) (by omega)
 rw[gf b.hk]at this
 rcases this with rfl|rfl|rfl|rfl|⟨_,rfl⟩|rfl|rfl|rfl|rfl|rfl|rfl|rfl|rfl <;> simp[fE]at h1 h4
 exact⟨h2,h3⟩
theorem LqB.at5(b:LqB t k S0 S1 S2){h:Nat->Bool}{c:Nat}(hs:aY (t.aA 0) h c 5=true):h 4=true/\hasB S1 c=true:=by
 obtain⟨e,he,h1,h2,h3,h4⟩:=fe.1 hs
 have:=b.ed e he (by omega) (by omega)
 rw[gf b.hk]at this
 rcases this with rfl|rfl|rfl|rfl|⟨_,rfl⟩|rfl|rfl|rfl|rfl|rfl|rfl|rfl|rfl <;> simp[fE]at h1 h4
 exact⟨h2,h3⟩
theorem LqB.at9(b:LqB t k S0 S1 S2){h:Nat->Bool}{c:Nat}(hs:aY (t.aA 0) h c 9=true):h 8=true:=by
 obtain⟨e,he,h1,h2,h3,h4⟩:=fe.1 hs
 have:=b.ed e he (by omega) (by omega)
 rw[gf b.hk]at this
 rcases this with rfl|rfl|rfl|rfl|⟨_,rfl⟩|rfl|rfl|rfl|rfl|rfl|rfl|rfl|rfl <;> simp[fE]at h1 h4
 exact h2
theorem LqB.no(b:LqB t k S0 S1 S2){h:Nat->Bool}{c q:Nat}(hq:q=0\/q=3\/q=4\/q=7\/q=8):aY (t.aA 0) h c q=false:=by
 cases hs:aY (t.aA 0) h c q
 ·rfl
 ·exfalso
  obtain⟨e,he,h1,h2,h3,h4⟩:=fe.1 hs
  have:=b.ed e he (by omega) (by omega)
  rw[gf b.hk]at this
  rcases this with rfl|rfl|rfl|rfl|⟨_,rfl⟩|rfl|rfl|rfl|rfl|rfl|rfl|rfl|rfl <;> simp[fE]at h1 h4 <;> omega
theorem LqB.free(b:LqB t k S0 S1 S2){e:Ed}(he:e∈t.aA 0)(hf:e.2.2.2=true)(hq:e.2.1<10):e.2.1=0/\(e.1=1\/e.1=2)\/e.2.1=3/\(e.1=1\/e.1=2)\/e.2.1=2\/e.2.1=6\/e.2.1=4/\e.1=3\/e.2.1=7/\e.1=5\/e.2.1=8/\e.1=7:=by
 have:=b.ed e he (by omega) (by omega)
 rw[gf b.hk]at this
 rcases this with rfl|rfl|rfl|rfl|⟨_,rfl⟩|rfl|rfl|rfl|rfl|rfl|rfl|rfl|rfl <;> simp[fE]at hf hq |-
theorem LqB.r8(b:LqB t k S0 S1 S2){h f:Nat->Bool}{c:Nat}(hc:gC (t.aA 0) (aY (t.aA 0) f c) h)(h8:h 8=true):aY (t.aA 0) f c 5=true:=by
 cases h5:aY (t.aA 0) f c 5
 ·exfalso
  have:=hc.2.2 (λq=>!(decide (q=5)||(decide (q=7)||decide (q=8)))) (λe he hf hd=>by
   cases hx:(decide (e.2.1=5)||(decide (e.2.1=7)||decide (e.2.1=8)))
   ·show(!_)=true
    rw[hx];rfl
   ·exfalso
    simp only[aJ,decide_eq_true_eq]at hx
    have:=b.free he hf (by omega)
    simp at hd
    omega) (λx hx=>by
   cases hy:(decide (x=5)||(decide (x=7)||decide (x=8)))
   ·show(!_)=true
    rw[hy];rfl
   ·exfalso
    simp only[aJ,decide_eq_true_eq]at hy
    rcases hy with rfl|rfl|rfl
    ·rw[h5]at hx;cases hx
    ·rw[b.no (by omega)]at hx;cases hx
    ·rw[b.no (by omega)]at hx;cases hx) 8 h8
  simp at this
 ·rfl
theorem LqB.r1(b:LqB t k S0 S1 S2){h f:Nat->Bool}{c:Nat}(hc:gC (t.aA 0) (aY (t.aA 0) f c) h)(h8:h 4=true\/h 0=true):aY (t.aA 0) f c 1=true:=by
 cases h5:aY (t.aA 0) f c 1
 ·exfalso
  have hp:=Bz hc 2 b.p2
  have key:=hc.2.2 (λq=>h q&&!(decide (q=1)||(decide (q=3)||(decide (q=4)||decide (q=0))))) (λe he hf hd=>by
   simp only[ag]at hd |-
   refine⟨hc.2.1 e he hf hd.1,?_⟩
   cases hx:(decide (e.2.1=1)||(decide (e.2.1=3)||(decide (e.2.1=4)||decide (e.2.1=0))))
   ·rfl
   ·exfalso
    simp only[aJ,decide_eq_true_eq]at hx
    have:=b.free he hf (by omega)
    have h2:e.1≠2:=λe2=>by have h1:=hd.1;rw[e2,hp]at h1;cases h1
    have h3:=hd.2
    simp at h3
    omega) (λx hx=>by
   simp only[ag]
   refine⟨hc.1 x hx,?_⟩
   cases hy:(decide (x=1)||(decide (x=3)||(decide (x=4)||decide (x=0))))
   ·rfl
   ·exfalso
    simp only[aJ,decide_eq_true_eq]at hy
    rcases hy with rfl|rfl|rfl|rfl
    ·rw[h5]at hx;cases hx
    ·rw[b.no (by omega)]at hx;cases hx
    ·rw[b.no (by omega)]at hx;cases hx
    ·rw[b.no (by omega)]at hx;cases hx)
  rcases h8 with h8|h8
  ·have:=key 4 h8;simp at this
  ·have:=key 0 h8;simp at this
 ·rfl
theorem LqB.E8(b:LqB t k S0 S1 S2){h:Nat->Bool}(hr:Rch t h)(h8:h 8=true):∃ f c,c<256/\gC (t.aA 0) (aY (t.aA 0) f c) h:=by
 cases hr with
 |ini hi=>
  exfalso
  have:=hi.2.2 (t.cl 0) (λe he hf hp=>t.EH 0 e he hf hp) (λx hx=>by
   rw[decide_eq_true_eq]at hx
   rw[hx];exact t.nB 0) 8 h8
  rw[b.c8]at this
  cases this
 |step hc _ hi=>exact⟨_,_,hc,hi⟩
theorem LqB.X(b:LqB t k S0 S1 S2){h:Nat->Bool}(hr:Rch t h){c:Nat}(hc:c<256)(h1:aY (t.aA 0) h c 1=false)(h5:aY (t.aA 0) h c 5=true)(h9:aY (t.aA 0) h c 9=true):hasB S0 c=false:=by
 obtain⟨f,c',hc',hi⟩:=b.E8 hr (b.at9 h9)
 have f1:=b.r1 hi (.inl (b.at5 h5).1)
 have g1:=hi.1 _ f1
 have g0:=hi.2.1 (fE 1 0) (b.sub _ ((gf b.hk).2 (by simp))) rfl g1
 cases hs:hasB S0 c
 ·rfl
 ·have:aY (t.aA 0) h c 1=true:=fe.2 ⟨(0,1,S0,false),b.sub _ ((gf b.hk).2 (by simp)),rfl,g0,hs,rfl⟩
  rw[h1]at this;cases this
theorem LqB.Y(b:LqB t k S0 S1 S2){h:Nat->Bool}(hr:Rch t h){c:Nat}(hc:c<256)(h1:aY (t.aA 0) h c 1=true)(h5:aY (t.aA 0) h c 5=false)(h9:aY (t.aA 0) h c 9=true):∃ d d',d<256/\d' < 256/\d≠d'/\hasB S0 d=true/\hasB S0 d'=true:=by
 obtain⟨f,c',hc',hi⟩:=b.E8 hr (b.at9 h9)
 have f5:=b.r8 hi (b.at9 h9)
 have f1:=b.r1 hi (.inr (b.at1 h1).1)
 have g1:=hi.1 _ f1
 have g3:=hi.2.1 (fE 1 3) (b.sub _ ((gf b.hk).2 (by simp))) rfl g1
 have g4:=hi.2.1 (fE 3 4) (b.sub _ ((gf b.hk).2 (by simp))) rfl g3
 refine⟨c,c',hc,hc',?_,(b.at1 h1).2,(b.at1 f1).2⟩
 rintro rfl
 have:aY (t.aA 0) h c 5=true:=fe.2 ⟨(4,5,S1,false),b.sub _ ((gf b.hk).2 (by simp)),rfl,g4,(b.at5 f5).2,rfl⟩
 rw[h5]at this;cases this
theorem LqB.Pl(b:LqB t k S0 S1 S2){d d' c:Nat}(hc:c<256)(hX:hasB S0 c=false)(hd:d<256)(hd':d' < 256)(hne:d≠d')(h1:hasB S0 d=true)(h2:hasB S0 d'=true):False:=by
 rcases b.sm with h|⟨v,h⟩
 ·rw[h,qw _ hc]at hX;cases hX
 ·rw[h,qw _ hd]at h1
  rw[h,qw _ hd']at h2
  unfold rW at h1 h2
  simp only[decide_eq_true_eq]at h1 h2
  omega
theorem K5{E:List Ed}{f0:Nat->Bool}{r:List Nat}(hr:fh E=1::5::9::r)(x0 x1 x2:Bool)(l:List (Nat->Bool))(hn:l.Nodup)(h:∀ g∈l,gC E f0 g\/∃ f c,gC E (aY E f c) g/\¬(aY E f c 1=x0/\aY E f c 5=x1/\aY E f c 9=x2)):l.length<=1+7*2 ^ r.length:=by
 have code:∀ (p v:Nat),v % 8≠p->p<8->(if v % 8<p then v % 8 else v % 8-1)<7:=by intro p v h1 h2;split <;> omega
 refine rU (λ(g:Nat->Bool) (k:Nat)=>(k=0/\gC E f0 g)\/(∃ f c,gC E (aY E f c) g/\dC (onT E (aY E f c)) % 8≠dC [x0,x1,x2]/\
  k=1+(7*(dC (onT E (aY E f c)) / 8)+(if dC (onT E (aY E f c)) % 8<dC [x0,x1,x2]then dC (onT E (aY E f c)) % 8 else dC (onT E (aY E f c)) % 8-1)))) ?_ (1+7*2 ^ r.length) l hn ?_
 ·have hp:dC [x0,x1,x2]<8:=lp [x0,x1,x2]
  rintro a b k (⟨rfl,h1⟩|⟨f,c,h1,h2,rfl⟩) (⟨e,g1⟩|⟨f',c',g1,g2,e⟩)
  ·exact eM h1 g1
  ·omega
  ·omega
  ·have hb:dC (onT E (aY E f c))=dC (onT E (aY E f' c')):=by
    generalize dC (onT E (aY E f c))=u at *
    generalize dC (onT E (aY E f' c'))=v at *
    generalize dC [x0,x1,x2]=p at *
    have c1:=code p u h2 hp
    have c2:=code p v g2 hp
    have e1:u / 8=v / 8:=by omega
    have e2:u % 8=v % 8:=by
     split at e <;> split at e <;> omega
    omega
   rw[sf (oI _ _ (by rw[qx,qx]) hb)]at h1
   exact eM h1 g1
 ·intro g hg
  rcases h g hg with h|⟨f,c,h1,h2⟩
  ·exact⟨0,by omega,.inl ⟨rfl,h⟩⟩
  ·have hp:dC [x0,x1,x2]<8:=lp [x0,x1,x2]
   have hv:dC (onT E (aY E f c))=dC [aY E f c 1,aY E f c 5,aY E f c 9]+8*dC (r.map (aY E f c)):=by
    unfold onT
    rw[hr]
    simp only[fH,dC]
    omega
   have h3:dC [aY E f c 1,aY E f c 5,aY E f c 9]<8:=lp [aY E f c 1,aY E f c 5,aY E f c 9]
   have hm:dC (onT E (aY E f c)) % 8≠dC [x0,x1,x2]:=by
    intro e
    have e3:dC [aY E f c 1,aY E f c 5,aY E f c 9]=dC [x0,x1,x2]:=by omega
    have:=oI [aY E f c 1,aY E f c 5,aY E f c 9] [x0,x1,x2] rfl e3
    injection this with a1 a2
    injection a2 with a2 a3
    injection a3 with a3
    exact h2 ⟨a1,a2,a3⟩
   have hrl:=lp (r.map (aY E f c))
   rw[bq]at hrl
   have hc:=code _ _ hm hp
   refine⟨_,?_,.inr ⟨f,c,h1,hm,rfl⟩⟩
   omega
theorem VH(b:LqB t k S0 S1 S2)(l:List (Nat->Bool))(hn:l.Nodup)(h:∀ g∈l,Rch t g):l.length<=1+7*2 ^ (t.dh-3):=by
 obtain⟨r,hr⟩:=b.tg
 have hrl:r.length=t.dh-3:=by
  have:=u0 t 0
  rw[hr]at this
  simp at this
  omega
 rw[<-hrl]
 by_cases hX:∃ c,c<256/\hasB S0 c=false
 ·obtain⟨c0,hc0,hX⟩:=hX
  refine K5 (f0:=λx=>decide (x=t.fst 0)) hr true false true l hn (λg hg=>?_)
  have hr:=h g hg
  cases hr with
  |ini h=>exact .inl h
  | @step f g c hc hf h=>
   refine .inr ⟨f,c,h,λ⟨a1,a2,a3⟩=>?_⟩
   obtain⟨d,d',q1,q2,q3,q4,q5⟩:=b.Y hf hc a1 a2 a3
   exact b.Pl hc0 hX q1 q2 q3 q4 q5
 ·refine K5 (f0:=λx=>decide (x=t.fst 0)) hr false true true l hn (λg hg=>?_)
  have hr:=h g hg
  cases hr with
  |ini h=>exact .inl h
  | @step f g c hc hf h=>
   refine .inr ⟨f,c,h,λ⟨a1,a2,a3⟩=>hX ⟨c,hc,b.X hf hc a1 a2 a3⟩⟩
end
theorem HS{t:Rx}(hw:t.wt<=12)(l:List (Nat->Bool))(hn:l.Nodup)(h:∀ g∈l,Rch t g):l.length<=2000:=by
 have ho:=t.fP
 rcases aj t.dh 11 with h10|h11
 ·have:=Pe (E:=t.aA 0) l hn (λg hg=>(h g hg).YA)
  rw[u0]at this
  have h2:2 ^ t.dh<=2 ^ 10:=hY (by omega) (by omega)
  omega
 ·rcases aj t.dh 12 with h12|h12
  ·have h1:t.dh=11:=by omega
   rcases Sv t (by omega)with hl|hl|hl
   ·have:=K4 hl l hn h;omega
   ·have:=VG hl l hn h
    rw[h1]at this
    omega
   ·obtain⟨k,S0,S1,S2,b⟩:=Lq.bot hl (by omega)
    have:=VH b l hn h
    rw[h1]at this
    omega
  ·have:=K4 (vd t (by omega)).2.1 l hn h
   omega
end
noncomputable section
theorem K6(d)(q:Int):N3 N0 (d,(q,([],())))=some ((q,()),()):=by
 delta N3 Ld Bd Wi
 refine aZ (λm x r=>x=((),(q,((0:Int),())))/\r=some ((q,()),())) ?_ N0 0 _ _ (by unfold N0;omega) ⟨rfl,rfl⟩
 rintro m x r ⟨rfl,rfl⟩ k hk
 rfl
theorem HT{d}{v:Int}(h:d.2.2[0]?=some v):N4 N0 (d,(0,()))=some ((v,()),()):=by
 have hl:0<d.2.2.length:=by
  rcases aj 0 d.2.2.length with h2|h2
  ·exact h2
  ·rw[List.getElem?_eq_none h2]at h;cases h
 have g:d.2.2[((0:Int)).toNat]?=some v:=h
 delta N4 Ld Bd
 simp only
 refine aV ((),(false,())) (λK=>?_) ?_
 ·rw[show decide ((0:Int)<0)=false from rfl,cond_false,decide_eq_false (show ¬((d.2.2.length:Nat):Int)<=0 by omega)]
 ·simp only
  rw[cond_false,if_pos z0,g]
theorem K7{d}{v:Int}(h:d.2.2[0]?=some v):N5 N0 (d,([],()))=some ((v,()),()):=by
 unfold N5
 simp only
 rw[ae (K6 d 0)]
 simp only
 rw[ae (HT h)]
end
noncomputable section
theorem pD{s:List Int}{e:Int}(h:fX s=.error e):e=5\/e=6:=by
 unfold fX at h
 split at h
 ·injection h with h;omega
 split at h
 ·injection h with h;omega
 split at h
 ·injection h with h;omega
 split at h
 ·injection h with h;omega
 ·cases h
def YB:List Int×(List (List Int)×List Int):=(List.replicate 256 0,([],[]))
theorem Pm{s:List Int}(hb:Bytes s)(hsm:s.length<=maxLen){e:Int}(h:fX s=.error e):p68 N0 (s,())=some ((YB,(e,())),()):=by
 have he:=pD h
 unfold p68
 simp only
 rw[ae (KG hb hsm),h]
 simp only[KF]
 rcases he with rfl|rfl <;> rfl
theorem Sw{s:List Int}(hb:Bytes s)(hsm:s.length<=maxLen){t:Rx}(h:fX s=.ok t){d}{c:Int}(hd:J4 N0 (nfT t,())=some ((d,(c,())),())):p68 N0 (s,())=some ((d,(c,())),()):=by
 obtain⟨h1,h2,h3⟩:=sb hb h
 unfold p68
 simp only
 rw[ae (KG hb hsm),h]
 simp only[KF]
 rw[decide_true,ay,cond_false,ae (Sk h1 h2)]
 simp only
 rw[decide_true,ay,cond_false,ae hd]
def mkJ(n j:Nat):List Int:=(List.range n).map λq=>if q<j then -1 else 0
theorem kr(n j:Nat):(mkJ n j).length=n:=by simp[mkJ]
theorem oN{n:Nat}(j:Nat){i:Nat}(h:i<n):(mkJ n j)[i]?=some (if i<j then -1 else 0):=by
 unfold mkJ
 rw[List.getElem?_map,List.getElem?_range h]
 rfl
theorem Pn{n j:Nat}(h:j<n):(mkJ n j).set j (-1)=mkJ n (j+1):=by
 apply List.ext_getElem?
 intro i
 rw[List.getElem?_set]
 by_cases hi:i<n
 ·rw[oN j hi,oN (j+1) hi]
  by_cases e:j=i
  ·subst e
   rw[if_pos rfl,if_pos (by rw[kr];exact h),if_pos (by omega)]
  ·rw[if_neg e]
   by_cases h2:i<j
   ·rw[if_pos h2,if_pos (by omega)]
   ·rw[if_neg h2,if_neg (by omega)]
 ·have e1:(mkJ n (j+1))[i]?=none:=List.getElem?_eq_none (by rw[kr];omega)
  have e2:(mkJ n j)[i]?=none:=List.getElem?_eq_none (by rw[kr];omega)
  rw[e1,e2,if_neg (by omega)]
theorem K8{n last:Nat}(h:last<n):(mkJ n n).set last 0=mkL n last:=by
 apply List.ext_getElem?
 intro i
 rw[List.getElem?_set]
 by_cases hi:i<n
 ·rw[oN n hi,E3 last hi]
  by_cases e:last=i
  ·subst e
   rw[if_pos rfl,if_pos (by rw[kr];exact h),if_pos rfl]
  ·rw[if_neg e,if_pos hi,if_neg (λh=>e h.symm)]
 ·have e1:(mkL n last)[i]?=none:=List.getElem?_eq_none (by rw[E2];omega)
  have e2:(mkJ n n)[i]?=none:=List.getElem?_eq_none (by rw[kr];omega)
  rw[e1,e2,if_neg (by omega)]
theorem K9(n:Nat):List.replicate n (0:Int)=mkJ n 0:=by
 apply List.ext_getElem?
 intro i
 by_cases hi:i<n
 ·rw[oN 0 hi,List.getElem?_replicate,if_pos hi,if_neg (by omega)]
 ·rw[List.getElem?_eq_none (by rw[jv];omega),List.getElem?_eq_none (by rw[kr];omega)]
theorem Po{t:Rx}(hl:t.len<=400){d}{c:Int}(hd:p63 N0 (nfT t,(mkL (2*t.len) (t.lst 0),()))=some ((d,(c,())),())):J4 N0 (nfT t,())=some ((d,(c,())),()):=by
 have xk:=t.kC 0
 have hn8:2*t.len<=800:=by omega
 have hN:(nfT t).1=((2*t.len:Nat):Int):=rfl
 have hL:(nfT t).2.2.2=((t.lst 0:Nat):Int):=rfl
 delta J4 Ld Bd Wi
 simp only
 rw[ae (Bt hl)]
 simp only
 rw[ay,cond_false]
 simp only[hN,hL]
 generalize 2*t.len=n at *
 generalize t.lst 0=last at *
 have hln:last<n:=by omega
 rw[if_pos ⟨by omega,by omega⟩,if_pos (by rw[aa];omega),aa,K9]
 generalize (List.replicate 256 (0:Int),(([]:List (List Int)),([]:List Int)))=Z
 refine aZ (λm x q=>∃ j:Nat,x=((Z,(mkJ n j,())),((j:Int),()))/\m+j=n/\q=some ((d,(c,())),())) ?_ N0 n _ _ (by unfold N0;omega) ⟨0,rfl,rfl,rfl⟩
 rintro m x q ⟨j,rfl,hm,rfl⟩ k hk
 simp only
 rcases aj j n with hj|hj
 ·have n0:(0:Int)<=(j:Int):=by omega
  rw[decide_eq_true (show(j:Int)<(((mkJ n 0).length:Nat):Int) by rw[kr];omega),cond_true,if_pos n0,aa,oN j hj]
  simp only
  rw[if_pos n0]
  rw[Pn hj,cV (by omega)]
  exact hk (m-1) _ _ (by omega) ⟨j+1,rfl,by omega,rfl⟩
 ·have:j=n:=by omega
  subst this
  have n0:(0:Int)<=(last:Int):=by omega
  rw[decide_eq_false (show ¬(j:Int)<(((mkJ j 0).length:Nat):Int) by rw[kr];omega),cond_false,if_pos n0,aa,oN j hln]
  simp only
  rw[if_pos n0]
  rw[K8 hln,ae hd]
end
noncomputable section
abbrev KM:=List (List Int×Int)
def eqK:List Int->List Int->Bool:=λa b=>decide (a=b)
theorem La(k k':List Int)(v:Int):∀ x:KM,eX eqK k (eY eqK k' v x)=(decide (k=k')||eX eqK k x):=by
 intro x
 induction x with
 |nil=>simp[eY,eX,eqK]
 |cons p r ih=>
  simp only[eY]
  by_cases e:k'=p.1
  ·have:eqK k' p.1=true:=decide_eq_true e
   rw[this,cond_true]
   simp only[eX]
   rw[<-e]
   by_cases e2:k=k'
   ·rw[show eqK k k'=true from decide_eq_true e2,decide_eq_true e2];rfl
   ·rw[show eqK k k'=false from decide_eq_false e2,decide_eq_false e2];rfl
  ·have:eqK k' p.1=false:=decide_eq_false e
   rw[this,cond_false]
   simp only[eX]
   by_cases e2:k=p.1
   ·rw[show eqK k p.1=true from decide_eq_true e2,cond_true,cond_true,jA]
   ·rw[show eqK k p.1=false from decide_eq_false e2,cond_false,cond_false,ih]
def Sup(n:Nat)(g:Nat->Bool):Prop:=∀ q,g q=true->q<n
theorem Sup.ext{n:Nat}{g g':Nat->Bool}(h:Sup n g)(h':Sup n g')(he:∀ i,i<n->g i=g' i):g=g':=by
 funext q
 by_cases hq:q<n
 ·exact he q hq
 ·cases h1:g q
  ·cases h2:g' q
   ·rfl
   ·exact absurd (h' q h2) hq
  ·exact absurd (h q h1) hq
theorem Sup.cut{n:Nat}{g:Nat->Bool}(h:Sup n g):Dr n g=g:=by
 funext q
 unfold Dr
 cases hg:g q
 ·simp
 ·simp[h q hg]
abbrev BI:=NfI×(List Int×(List Int×(KM×(List (List Bool)×(List Int×(List (List Int)×List Int))))))
structure BOk(N:NfI)(n last:Nat)(jn cls:List Int)(b:BI)(gs:List (Nat->Bool)):Prop where
 nf:b.1=N
 mks:b.2.1=mkL n last
 rp:b.2.2.1=jn
 key:∀ k,eX eqK k b.2.2.2.1=true↔∃ g∈gs,k=cW n g
 dq:b.2.2.2.2.1=gs.map (bsN n)
 cl:b.2.2.2.2.2.1=cls
 mark:b.2.2.2.2.2.2.2=gs.map λg=>gQ g last n
 sup:∀ g∈gs,Sup n g
def yM(g:Nat->Bool):Nat->Bool
 |0=>false
 |i+1=>yM g i||g i
theorem Lb{g:Nat->Bool}:∀ {i:Nat},yM g i=true↔∃ q,q<i/\g q=true:=by
 intro i
 induction i with
 |zero=>
  constructor
  ·intro h;cases h
  ·rintro⟨q,h,_⟩;omega
 |succ i ih=>
  simp only[yM,aJ,ih]
  constructor
  ·rintro(⟨q,h1,h2⟩|h)
   ·exact⟨q,by omega,h2⟩
   ·exact⟨i,by omega,h⟩
  ·rintro⟨q,h1,h2⟩
   by_cases e:q=i
   ·subst e;exact .inr h2
   ·exact .inl ⟨q,by omega,h2⟩
theorem E9{N:NfI}{n last:Nat}{jn cls:List Int}(hn:n<=100000)(hl:last<n){b:BI}{gs:List (Nat->Bool)}(hb:BOk N n last jn cls b gs)(hg:gs.length<=100000){g:Nat->Bool}(hs:Sup n g):
 ∃ (r:Int) (b':BI) (gs':List (Nat->Bool)),J3 N0 (b,(bsN n g,()))=some ((r,()),(b',()))/\BOk N n last jn cls b' gs'/\b'.2.2.2.2.2.2.1=b.2.2.2.2.2.2.1/\(((gs'=gs)/\((∀ q,g q=false)\/g∈gs))\/(gs'=gs++[g]/\g∉gs)):=by
 delta J3 Ld Ap Bd Wi
 simp only
 refine dU (λm x=>∃ i:Nat,x=((b,()),(yM g i,((i:Int),())))/\m+i=n) (λz=>∃ (r:Int) (b':BI) (gs':List (Nat->Bool)),z=some ((r,()),(b',()))/\BOk N n last jn cls b' gs'/\b'.2.2.2.2.2.2.1=b.2.2.2.2.2.2.1/\(((gs'=gs)/\((∀ q,g q=false)\/g∈gs))\/(gs'=gs++[g]/\g∉gs))) ?_ N0 n _ (by unfold N0;omega) ⟨0,?_,rfl⟩
 ·rintro m x ⟨i,rfl,hm⟩ k hk
  simp only[gM]
  rcases aj i n with hi|hi
  ·have n0:(0:Int)<=(i:Int):=by omega
   rw[decide_eq_true (show(i:Int)<((n:Nat):Int) by omega),cond_true,if_pos n0,aa,gN g hi]
   simp only
   refine qq (P:=λz=>∃ (r:Int) (b':BI) (gs':List (Nat->Bool)),z=some ((r,()),(b',()))/\BOk N n last jn cls b' gs'/\b'.2.2.2.2.2.2.1=b.2.2.2.2.2.2.1/\(((gs'=gs)/\((∀ q,g q=false)\/g∈gs))\/(gs'=gs++[g]/\g∉gs))) λK hK=>?_
   have hor:yM g (i+1)=(yM g i||g i):=rfl
   have fin:=hk (m-1) ((b,()),(yM g (i+1),(((i+1:Nat):Int),()))) (by omega) ⟨i+1,rfl,by omega⟩
   cases hd:yM g i
   ·rw[cond_false,hK]
    simp only
    rw[cV (by omega)]
    rw[hor,hd,cP]at fin
    exact fin
   ·rw[cond_true,hK]
    simp only
    rw[cV (by omega)]
    rw[hor,hd,gz]at fin
    exact fin
  ·have:i=n:=by omega
   subst this
   rw[decide_eq_false (show ¬(i:Int)<((i:Nat):Int) by omega),cond_false]
   cases hd:yM g i
   ·rw[aH,cond_true]
    refine⟨-1,b,gs,rfl,hb,rfl,.inl ⟨rfl,.inl λq=>?_⟩⟩
    cases hq:g q
    ·rfl
    ·rw[Lb.2 ⟨q,hs q hq,hq⟩]at hd;cases hd
   ·rw[ay,cond_false,ae (O8 hn g)]
    simp only[hs.cut]
    show ∃ (r:Int) (b':BI) (gs':List (Nat->Bool)),(bif eX eqK (cW i g) b.2.2.2.1 then _ else _)=some ((r,()),(b',()))/\_
    cases hh:eX eqK (cW i g) b.2.2.2.1
    ·rw[cond_false]
     have hlen:b.2.2.2.2.1.length=gs.length:=by rw[hb.dq,bq]
     have ET:b.2.2.2.2.2.2.2.length=gs.length:=by rw[hb.mark,bq]
     rw[if_pos (by rw[hlen];simp;omega),if_pos (by rw[hlen];simp;omega)]
     rw[show(λ(a b:List Int)=>decide (a=b))=eqK from rfl]
     rw[ae (Pd hn hl (b.1,(b.2.1,(b.2.2.1,(eY eqK (cW i g) (b.2.2.2.2.1.length:Int) b.2.2.2.1,(b.2.2.2.2.1++[bsN i g],b.2.2.2.2.2))))) hb.mks g)]
     simp only
     rw[if_pos (by rw[ET];simp;omega),if_pos (by rw[ET];simp;omega)]
     refine⟨_,_,gs++[g],rfl,⟨hb.nf,hb.mks,hb.rp,λk'=>?_,?_,hb.cl,?_,?_⟩,rfl,.inr ⟨rfl,λhm=>?_⟩⟩
     ·show eX eqK k' (eY eqK (cW i g) _ _)=true↔_
      rw[La,aJ,decide_eq_true_eq,hb.key]
      constructor
      ·rintro(h|⟨g',h1,h2⟩)
       ·exact⟨g,by simp,h⟩
       ·exact⟨g',by simp[h1],h2⟩
      ·rintro⟨g',h1,h2⟩
       rcases au.1 h1 with h1|h1
       ·exact .inr ⟨g',h1,h2⟩
       ·simp at h1;subst h1;exact .inl h2
     ·show b.2.2.2.2.1++[bsN i g]=_
      rw[hb.dq];simp
     ·show b.2.2.2.2.2.2.2++[gQ g last i]=_
      rw[hb.mark];simp
     ·intro g' hg'
      rcases au.1 hg' with h1|h1
      ·exact hb.sup g' h1
      ·simp at h1;subst h1;exact hs
     ·have:=(hb.key (cW i g)).2 ⟨g,hm,rfl⟩
      rw[hh]at this;cases this
    ·rw[cond_true]
     refine⟨_,b,gs,rfl,hb,rfl,.inl ⟨rfl,.inr ?_⟩⟩
     obtain⟨g',h1,h2⟩:=(hb.key _).1 hh
     have:=hs.ext (hb.sup g' h1) (nD h2)
     rw[this];exact h1
 ·rfl
end
noncomputable section
theorem Pp{n x:Nat}(h:x<n):(List.replicate n false).set x true=bsN n (λq=>decide (q=x)):=by
 have h0:List.replicate n false=bsN n (λ_=>false):=by
  apply List.ext_getElem?
  intro i
  by_cases hi:i<n
  ·rw[gN (n:=n) (λ_=>false) hi,List.getElem?_replicate,if_pos hi]
  ·rw[List.getElem?_eq_none (by rw[jv];omega),List.getElem?_eq_none (by rw[gM];omega)]
 rw[h0,yI _ h]
 congr 1
theorem Pq{n x:Nat}(h:x<n):(List.replicate n false)[x]?=some false:=by
 rw[List.getElem?_replicate,if_pos h]
theorem BA{E:List Ed}{n:Nat}(hin:InE n E){f g:Nat->Bool}(hf:∀ q,f q=true->q<n)(h:gC E f g):Sup n g:=by
 intro q hq
 have:=h.2.2 (λq=>decide (q<n)) (λe he _ _=>by simpa using(hin e he).2) (λx hx=>by simpa using hf x hx) q hq
 simpa using this
theorem HU{E:List Ed}{n:Nat}(hin:InE n E)(f:Nat->Bool)(c:Nat):∀ q,aY E f c q=true->q<n:=by
 intro q hq
 obtain⟨e,he,_,_,_,rfl⟩:=fe.1 hq
 exact(hin e he).2
structure BB(t:Rx)(g0:Nat->Bool)(gs:List (Nat->Bool)):Prop where
 nd:gs.Nodup
 rch:∀ g∈gs,Rch t g
 hd:gs[0]?=some g0
theorem BB.le{t:Rx}{g0:Nat->Bool}{gs:List (Nat->Bool)}(h:BB t g0 gs)(hw:t.wt<=12):gs.length<=2000:=HS hw gs h.nd h.rch
theorem BB.push{t:Rx}{g0 g:Nat->Bool}{gs:List (Nat->Bool)}(h:BB t g0 gs)(hr:Rch t g)(hn:g∉gs):BB t g0 (gs++[g]) where
 nd:=by
  rw[List.nodup_append]
  refine⟨h.nd,by simp,λa ha b hb=>?_⟩
  simp at hb
  subst hb
  rintro rfl
  exact hn ha
 rch:=λg' hg'=>by
  rcases au.1 hg' with h1|h1
  ·exact h.rch g' h1
  ·simp at h1;subst h1;exact hr
 hd:=by
  have:=h.hd
  rw[List.getElem?_append_left (List.getElem?_eq_some_iff.1 this).1]
  exact this
def Qm(l:List Int):Prop:=l.length<=256/\∀ v∈l,∃ c:Nat,c<256/\v=(c:Int)
abbrev DfI:=List Int×(List (List Int)×List Int)
def DQ(t:Rx)(z:Option ((DfI×(Int×Unit))×Unit)):Prop:=∃ d:DfI,z=some ((d,((0:Int),())),())/\d.2.2[0]?=some (if t.null=true then 0 else -1)
theorem Sx{t:Rx}(hok:t.ok)(hlen:t.len<=400)(hw:t.wt<=12):
 DQ t (p63 N0 (nfT t,(mkL (2*t.len) (t.lst 0),()))):=by
 have hin:=xf t
 have hE:=iG t 0
 have hS:=Sl t hok 0
 have Y7:=t.kC 0
 have Y8:=t.pB 0
 have hn:2*t.len<=100000:=by omega
 delta p63 Ld Ap Bd Wi
 simp only
 rw[ae (Bt hlen)]
 simp only
 rw[ay,cond_false,show nfT t=(((2*t.len:Nat):Int),((t.aA 0).map edI,(((t.fst 0:Nat):Int),((t.lst 0:Nat):Int))))from rfl]
 rw[ae (O2 (by omega) _)]
 simp only
 obtain⟨arr,YC,hao⟩:=Pa (dq:=gO (t.aA 0)) (by have:=xg (t.aA 0);omega) (λS hS'=>by
  unfold gO at hS'
  obtain⟨e,he,rfl⟩:=eE.1 hS'
  exact hS e (fG.1 he).1)
 rw[ae YC]
 simp only
 generalize hNf:(((2*t.len:Nat):Int),((t.aA 0).map edI,(((t.fst 0:Nat):Int),((t.lst 0:Nat):Int))))=N
 have hN1:N.1=((2*t.len:Nat):Int):=by rw[<-hNf]
 have hN2:N.2.2.1=((t.fst 0:Nat):Int):=by rw[<-hNf]
 generalize hZ:(List.replicate 256 (0:Int),(([]:List (List Int)),([]:List Int)))=Z
 generalize hnn:2*t.len=n at *
 generalize hll:t.lst 0=last at *
 -- the bytes Y9 YX for Wc
 refine dU (λm x=>∃ (c:Nat) (jn:List Int),x=((Z,((N,(mkL n last,(jn,(([]:KM),(([]:List (List Bool)),(arr,(([]:List (List Int)),([]:List Int)))))))),())),((c:Int),()))/\m+c=256/\jn.length<=c/\Qm jn) (DQ t) ?_ N0 256 _ (by unfold N0;omega) ⟨0,[],rfl,rfl,by simp,by simp[Qm]⟩
 rintro m x ⟨c,jn,rfl,hm,hrl,hro⟩ k hk
 simp only
 rcases aj c 256 with hc|hc
 ·have n0:(0:Int)<=(c:Int):=by omega
  obtain⟨v,hv⟩:∃ v,arr[c]?=some v:=⟨arr[c]'(by rw[hao.1];exact hc),List.getElem?_eq_getElem _⟩
  rw[decide_eq_true (show(c:Int)<256 by omega),cond_true,if_pos n0,aa,hv]
  simp only
  refine qq (P:=DQ t) λK hK=>?_
  cases hd:decide (IntKind.wrap .i64 v=((jn.length:Nat):Int))
  ·rw[cond_false,hK]
   simp only
   rw[cV (by omega)]
   exact hk (m-1) _ (by omega) ⟨c+1,jn,rfl,by omega,by omega,hro⟩
  ·rw[cond_true,if_pos (by simp;omega),if_pos (by simp;omega),hK]
   simp only
   rw[cV (by omega),jW hc]
   refine hk (m-1) _ (by omega) ⟨c+1,jn++[(c:Int)],rfl,by omega,by simp;omega,by simp;omega,λv' hv'=>?_⟩
   rcases au.1 hv' with h1|h1
   ·exact hro.2 v' h1
   ·simp at h1;exact⟨c,hc,h1⟩
 ·rw[decide_eq_false (show ¬(c:Int)<256 by omega),cond_false]
  rw[if_pos ⟨by omega,by omega⟩,if_pos (by rw[aa];omega),if_pos (by omega),aa,aa,Pq (show t.fst 0<n by omega)]
  simp only
  rw[if_pos (by omega)]
  have hbs:=Pp (n:=n) (x:=t.fst 0) (by omega)
  rw[hbs]
  obtain⟨g0,hg0,hc0⟩:=EX (n:=n) hn (E:=t.aA 0) (by omega) hin (((t.fst 0:Nat):Int),((last:Nat):Int)) (λq=>decide (q=t.fst 0))
  rw[hNf]at hg0
  rw[ae hg0]
  simp only
  have hs0:Sup n g0:=BA hin (λq hq=>by rw[decide_eq_true_eq]at hq;omega) hc0
  have hb0:BOk N n last jn arr (N,(mkL n last,(jn,(([]:KM),(([]:List (List Bool)),(arr,(([]:List (List Int)),([]:List Int)))))))) []:=
   ⟨rfl,rfl,rfl,λk=>⟨λh=>(by cases h),λ⟨g,h,_⟩=>(by simp at h)⟩,rfl,rfl,rfl,λg h=>(by simp at h)⟩
  obtain⟨r,b1,gs1,e1,ob1,nx1,YD⟩:=E9 hn (by omega) hb0 (by simp) hs0
  rw[ae e1]
  simp only
  have YE:BB t g0 gs1:=by
   rcases YD with⟨_,h|h⟩|⟨rfl,_⟩
   ·have:=hc0.1 (t.fst 0) (by simp)
    rw[h]at this;cases this
   ·simp at h
   ·exact⟨by simp,λg hg=>by simp at hg;subst hg;exact .ini hc0,rfl⟩
  refine dU (λm x=>∃ (i:Nat) (b:BI) (gs:List (Nat->Bool)),x=((Z,(b,())),((i:Int),()))/\BOk N n last jn arr b gs/\BB t g0 gs/\m+i=2000/\i<=gs.length/\b.2.2.2.2.2.2.1.length=i) (DQ t) ?_ N0 2000 _ (by unfold N0;omega) ⟨0,b1,gs1,rfl,ob1,YE,rfl,az _,by rw[nx1];rfl⟩
  rintro m x ⟨i,b,gs,rfl,ob,og,hm,hi,hnx⟩ k hk
  have hle:=og.le hw
  have hsl:b.2.2.2.2.1.length=gs.length:=by rw[ob.dq,bq]
  simp only[hsl]
  rcases aj i gs.length with hil|hil
  ·rw[decide_eq_true (show(i:Int)<((gs.length:Nat):Int) by omega),cond_true,decide_eq_false (show ¬(2000:Int)<((gs.length:Nat):Int) by omega),cond_false]
   refine dU (λm x=>∃ (j:Nat) (b':BI) (gs':List (Nat->Bool)) (row:List Int),x=((Z,(b',())),(row,((j:Int),())))/\BOk N n last jn arr b' gs'/\BB t g0 gs'/\m+j=jn.length/\i<gs'.length/\b'.2.2.2.2.2.2.1.length=i/\row.length=j) (DQ t) ?_ N0 jn.length _ (by have:=hro.1;unfold N0;omega) ⟨0,b,gs,[],rfl,ob,og,rfl,hil,hnx,rfl⟩
   rintro m' x ⟨j,b',gs',row,rfl,ob',og',hm',Sz,YF,eR⟩ k' hk'
   simp only[ob.rp]
   have Za:=og'.le hw
   rcases aj j jn.length with hj|hj
   ·obtain⟨cc,hcc,hcv⟩:=hro.2 _ (aN hj)
    have hgj:jn[j]?=some (cc:Int):=by rw[List.getElem?_eq_getElem hj,hcv]
    have hgi:gs'[i]?=some gs'[i]:=List.getElem?_eq_getElem Sz
    have hmi:gs'[i]∈gs':=aN Sz
    have db:b'.2.2.2.2.1[i]?=some (bsN n gs'[i]):=by rw[ob'.dq,List.getElem?_map,hgi];rfl
    generalize gs'[i]=gi at hmi db
    have D1:=hro.1
    rw[decide_eq_true (show(j:Int)<((jn.length:Nat):Int) by omega),cond_true,if_pos (by omega),aa,hgj]
    simp only
    rw[if_pos (by omega),aa,db]
    simp only
    have h168:=O5 (n:=n) hn (E:=t.aA 0) (by omega) hin hS (((t.fst 0:Nat):Int),((last:Nat):Int)) gi hcc
    rw[hNf]at h168
    rw[ae h168]
    simp only
    obtain⟨g2,hg2,hc2⟩:=EX (n:=n) hn (E:=t.aA 0) (by omega) hin (((t.fst 0:Nat):Int),((last:Nat):Int)) (aY (t.aA 0) gi cc)
    rw[hNf]at hg2
    rw[ae hg2]
    simp only
    have hs2:Sup n g2:=BA hin (HU hin gi cc) hc2
    obtain⟨r2,b2,gs2,e2,ob2,nx2,VI⟩:=E9 hn (by omega) ob' (by omega) hs2
    rw[ae e2]
    simp only
    rw[if_pos (by simp;omega),if_pos (by simp;omega),cV (by omega)]
    refine hk' (m' - 1) _ (by omega) ⟨j+1,b2,gs2,row++[r2],rfl,ob2,?_,by omega,?_,by rw[nx2];exact YF,by simp;omega⟩
    ·rcases VI with⟨rfl,_⟩|⟨rfl,hnm⟩
     ·exact og'
     ·exact og'.push (.step hcc (og'.rch gi hmi) hc2) hnm
    ·rcases VI with⟨rfl,_⟩|⟨rfl,_⟩
     ·exact Sz
     ·simp;omega
   ·rw[decide_eq_false (show ¬(j:Int)<((jn.length:Nat):Int) by omega),cond_false]
    rw[if_pos (by simp;omega),if_pos (by simp;omega),cV (by omega)]
    exact hk (m-1) _ (by omega) ⟨i+1,_,gs',rfl,⟨ob'.nf,ob'.mks,ob'.rp,ob'.key,ob'.dq,ob'.cl,ob'.mark,ob'.sup⟩,og',by omega,by omega,by simp;omega⟩
  ·rw[decide_eq_false (show ¬(i:Int)<((gs.length:Nat):Int) by omega),cond_false]
   refine⟨_,rfl,?_⟩
   show b.2.2.2.2.2.2.2[0]?=_
   rw[ob.mark,List.getElem?_map,og.hd]
   have hmn:=HQ t hc0
   rw[hll]at hmn
   have hln:last<n:=by omega
   simp only[dy,gQ,hmn]
   simp[hln]
end
noncomputable section
def cls(c:Nat):Int:=if c=32\/c=9\/c=10\/c=13 then 1 else if 48<=c/\c<=57 then 2 else if(97<=c/\c<=122)\/(65<=c/\c<=90)\/c=95 then 3 else if 32<c/\c<127 then 4 else 0
theorem Lc:∀ c:Fin 256,Hu N0 (((c.val:Nat):Int),())=some ((cls c.val,()),()):=by decide +kernel
theorem Le:∀ c:Fin 256,Ol N0 (((c.val:Nat):Int),())=some ((cls c.val,()),()):=by decide +kernel
theorem Fa{c:Int}(h:0<=c/\c<=255):Hu N0 (c,())=some ((cls c.toNat,()),()):=by
 have:=Lc ⟨c.toNat,by omega⟩
 simp only[fF h.1]at this
 exact this
theorem Pr{c:Int}(h:0<=c/\c<=255):Ol N0 (c,())=some ((cls c.toNat,()),()):=by
 have:=Le ⟨c.toNat,by omega⟩
 simp only[fF h.1]at this
 exact this
def HV(k:Nat)(c:Int):Prop:=cls c.toNat=3\/(cls c.toNat=2/\k≠0)
def Lf(s:List Int):Prop:=1<=s.length/\s.length<=40/\∀ k c,s[k]?=some c->HV k c
def gS(s:List Int):Bool:=@decide (Lf s) (Classical.propDecidable _)
theorem Fc{s:List Int}(h:Lf s):gS s=true:=@decide_eq_true _ (Classical.propDecidable _) h
theorem mc{s:List Int}(h:¬Lf s):gS s=false:=@decide_eq_false _ (Classical.propDecidable _) h
theorem yN{s:List Int}(hb:Bytes s)(hs:s.length<=maxLen):Hy N0 (s,())=some ((gS s,()),()):=by
 delta Hy Ld Bd Wi
 simp only
 refine aZ (λm x r=>∃ j:Nat,x=((),((j:Int),()))/\m+j=s.length/\(∀ k c,k<j->s[k]?=some c->HV k c)/\r=some ((gS s,()),())) ?_ N0 s.length _ _ (by have:=gd hs;omega) ⟨0,rfl,rfl,λk c h=>by omega,rfl⟩
 rintro m x r ⟨j,rfl,hm,fK,rfl⟩ k hk
 simp only
 rcases aj j s.length with hj|hj
 ·have n0:(0:Int)<=(j:Int):=by omega
  have hg:s[j]?=some s[j]:=List.getElem?_eq_getElem hj
  generalize s[j]=c at hg
  rw[decide_eq_true (show(j:Int)<((s.length:Nat):Int) by omega),cond_true,if_pos n0,aa,hg]
  simp only
  rw[ae (Pr (hb.get hg))]
  simp only
  by_cases hok:HV j c
  ·refine aV ((),(false,())) (λK=>?_) ?_
   ·rcases hok with h|⟨h,h0⟩
    ·rw[h];rfl
    ·rw[h,show(!decide ((2:Int)=3))=true from rfl,cond_true,show(!decide ((2:Int)=2))=false from rfl,cond_false,decide_eq_false (show ¬(j:Int)=0 by omega)]
   ·simp only
    rw[cond_false,aX hj hs]
    refine hk (m-1) _ _ (by omega) ⟨j+1,rfl,by omega,λk c' hk' hc'=>?_,rfl⟩
    by_cases e:k=j
    ·subst e
     rw[hg]at hc'
     injection hc' with hc'
     subst hc'
     exact hok
    ·exact fK k c' (by omega) hc'
  ·refine aV ((),(true,())) (λK=>?_) ?_
   ·unfold HV at hok
    have h3:¬cls c.toNat=3:=λh=>hok (.inl h)
    rw[decide_eq_false h3,aH,cond_true]
    by_cases h2:cls c.toNat=2
    ·have h0:j=0:=by
      rcases dI j with h|h
      ·exact h
      ·exact absurd (.inr ⟨h2,by omega⟩) hok
     rw[decide_eq_true h2,ay,cond_false,decide_eq_true (show(j:Int)=0 by omega)]
    ·rw[decide_eq_false h2,aH,cond_true]
   ·simp only
    rw[cond_true,mc λh=>hok (h.2.2 j c hg)]
 ·rw[decide_eq_false (show ¬(j:Int)<((s.length:Nat):Int) by omega),cond_false]
  refine aV ((),(gS s,())) (λK=>?_) rfl
  have VJ:∀ k c,s[k]?=some c->HV k c:=λk c hc=>fK k c (bz (List.getElem?_eq_some_iff.1 hc).1 hj) hc
  by_cases h1:1<=s.length
  ·rw[decide_eq_true (show(1:Int)<=((s.length:Nat):Int) by omega),cond_true]
   by_cases h2:s.length<=40
   ·rw[decide_eq_true (show((s.length:Nat):Int)<=40 by omega),Fc ⟨h1,h2,VJ⟩]
   ·rw[decide_eq_false (show ¬((s.length:Nat):Int)<=40 by omega),mc λh=>h2 h.2.1]
  ·rw[decide_eq_false (show ¬(1:Int)<=((s.length:Nat):Int) by omega),cond_false,mc λh=>h1 h.1]
end
noncomputable section
theorem yO{s:List Int}(hb:Bytes s)(hs:s.length<=maxLen):Hv N0 (s,())=some ((gS s,()),()):=by
 delta Hv Ld Bd Wi
 simp only
 by_cases h40:40<s.length
 ·refine aV ((),(true,())) (λK=>?_) ?_
  ·rw[decide_eq_true (show(40:Int)<((s.length:Nat):Int) by omega),cond_true]
  ·simp only
   rw[cond_true,mc λh=>by have:=h.2.1;omega]
 cases s with
 |nil=>
  refine aV ((),(true,())) (λK=>?_) ?_
  ·rfl
  ·simp only
   rw[cond_true,mc λh=>by have:=h.1;simp at this]
 |cons c r=>
  have hc:=hb c (by simp)
  have n0:(0:Int)<=0:=by omega
  have xU:∀ K:Unit×(Bool×Unit)->Option ((Bool×Unit)×Unit),(bif decide ((40:Int)<(((c::r:List Int).length:Nat):Int))then K ((),(true,()))else(bif decide ((c::r:List Int)=[])then K ((),(true,()))else(if(0:Int)<=0 then(match(c::r:List Int)[((0:Int)).toNat]? with|some v11=>(ah (Hu N0 (v11,())) λv12=>K ((),((!decide (v12.1.1=3)),())))|none=>none)else none)))=K ((),((!decide (cls c.toNat=3)),())):=by
   intro K
   rw[decide_eq_false (show ¬(40:Int)<(((c::r:List Int).length:Nat):Int) by omega),cond_false,show decide ((c::r:List Int)=[])=false from rfl,cond_false,if_pos n0,Bo]
   simp only
   rw[ae (Fa hc)]
  refine aV ((),((!decide (cls c.toNat=3)),())) (λK=>xU K) ?_
  simp only
  by_cases h3:cls c.toNat=3
  ·rw[decide_eq_true h3,ay,cond_false]
   refine aZ (λm x q=>∃ j:Nat,x=((),((j:Int),()))/\m+j=(c::r).length/\(∀ k d,k<j->(c::r)[k]?=some d->HV k d)/\q=some ((gS (c::r),()),())) ?_ N0 (c::r).length _ _ (by have:=gd hs;omega) ⟨0,rfl,rfl,λk d h=>by omega,rfl⟩
   rintro m x q ⟨j,rfl,hm,fK,rfl⟩ k hk
   simp only
   rcases aj j (c::r).length with hj|hj
   ·have n1:(0:Int)<=(j:Int):=by omega
    have hg:(c::r)[j]?=some (c::r)[j]:=List.getElem?_eq_getElem hj
    generalize (c::r)[j]=d at hg
    rw[decide_eq_true (show(j:Int)<(((c::r:List Int).length:Nat):Int) by omega),cond_true,if_pos n1,aa,hg]
    simp only
    rw[ae (Fa (hb.get hg))]
    simp only
    by_cases hok:cls d.toNat=2\/cls d.toNat=3
    ·refine aV ((),(false,())) (λK=>?_) ?_
     ·rcases hok with h|h <;> rw[h] <;> rfl
     ·simp only
      rw[cond_false,aX hj hs]
      refine hk (m-1) _ _ (by omega) ⟨j+1,rfl,by omega,λk d' hk' hd'=>?_,rfl⟩
      by_cases e:k=j
      ·subst e
       rw[hg]at hd'
       injection hd' with hd'
       subst hd'
       rcases hok with h|h
       ·right
        refine⟨h,λhk0=>?_⟩
        subst hk0
        have:c=d:=by simpa using hg
        rw[<-this,h3]at h
        cases h
       ·exact .inl h
      ·exact fK k d' (by omega) hd'
    ·have h2:¬cls d.toNat=2:=λh=>hok (.inl h)
     have h3':¬cls d.toNat=3:=λh=>hok (.inr h)
     refine aV ((),(true,())) (λK=>?_) ?_
     ·rw[decide_eq_false h2,aH,cond_true,decide_eq_false h3',aH]
     ·simp only
      rw[cond_true,mc λh=>by
       rcases h.2.2 j d hg with h|h
       ·exact h3' h
       ·exact h2 h.1]
   ·rw[decide_eq_false (show ¬(j:Int)<(((c::r:List Int).length:Nat):Int) by omega),cond_false]
    rw[Fc ⟨by simp,by omega,λk d hd=>fK k d (bz (List.getElem?_eq_some_iff.1 hd).1 hj) hd⟩]
  ·rw[decide_eq_false h3,aH,cond_true,mc λh=>by
    rcases h.2.2 0 c rfl with h|h
    ·exact h3 h
    ·exact h.2 rfl]
end
noncomputable section
abbrev RuI:=List Int×(Int×List Int)
def Lg(r:RuI):Prop:=Bytes r.1/\r.1.length<=maxLen/\Bytes r.2.2/\r.2.2.length<=maxLen
def Fe(s:List Int):Int:=match fX s with
 |.error e=>e
 |.ok t=>if t.null=true then 14 else 0
def HW(rs:List RuI)(i:Nat)(nm:List Int):Prop:=∃ j r,j<i/\rs[j]?=some r/\r.1=nm
noncomputable instance (rs:List RuI) (i:Nat) (nm:List Int):Decidable (HW rs i nm):=Classical.propDecidable _
def s7(rs:List RuI)(i:Nat)(r:RuI):Int:=
 if gS r.1=false then 8 else if HW rs i r.1 then 9 else if r.2.1<0\/2<r.2.1 then 1 else Fe r.2.2
theorem Ps{rs:List RuI}(hs:rs.length<=maxLen){i:Nat}{r:RuI}(hr:rs[i]?=some r)(hok:Lg r):Om N0 (rs,((i:Int),()))=some ((s7 rs i r,()),()):=by
 obtain⟨h1,h2,h3,h4⟩:=hok
 have hi:i<rs.length:=(List.getElem?_eq_some_iff.1 hr).1
 have n0:(0:Int)<=(i:Int):=by omega
 delta Om Ld Bd Wi
 simp only
 rw[if_pos n0,aa,hr]
 simp only
 rw[ae (yN h1 h2)]
 simp only
 unfold s7
 cases hn:gS r.1
 ·rw[aH,cond_true,if_pos rfl]
 rw[ay,cond_false,if_neg (by simp)]
 refine aZ (λm x q=>∃ j:Nat,x=((),((j:Int),()))/\m+j=i/\(∀ k r',k<j->rs[k]?=some r'->¬r'.1=r.1)/\q=some ((if HW rs i r.1 then 9 else if r.2.1<0\/2<r.2.1 then 1 else Fe r.2.2,()),())) ?_ N0 i _ _ (by unfold N0;unfold maxLen at hs;omega) ⟨0,rfl,rfl,λk r' h=>by omega,rfl⟩
 rintro m x q ⟨j,rfl,hm,fK,rfl⟩ k hk
 simp only
 rcases aj j i with hj|hj
 ·have n1:(0:Int)<=(j:Int):=by omega
  have hg:rs[j]?=some (rs[j]'(by omega)):=List.getElem?_eq_getElem _
  generalize rs[j]'(by omega)=r' at hg
  rw[decide_eq_true (show(j:Int)<(i:Int) by omega),cond_true,if_pos n1,aa,hg]
  simp only
  by_cases e:r'.1=r.1
  ·rw[decide_eq_true e,cond_true,if_pos ⟨j,r',hj,hg,e⟩]
  ·rw[decide_eq_false e,cond_false,aX (show j<rs.length by omega) hs]
   refine hk (m-1) _ _ (by omega) ⟨j+1,rfl,by omega,λk' r2 hk' hr2=>?_,rfl⟩
   by_cases e2:k'=j
   ·subst e2
    rw[hg]at hr2
    injection hr2 with hr2
    subst hr2
    exact e
   ·exact fK k' r2 (by omega) hr2
 ·rw[decide_eq_false (show ¬(j:Int)<(i:Int) by omega),cond_false]
  have hnd:¬HW rs i r.1:=by
   rintro⟨k',r2,hk',hr2,e⟩
   exact fK k' r2 (by omega) hr2 e
  rw[if_neg hnd]
  refine aV ((),(decide (r.2.1<0\/2<r.2.1),())) (λK=>?_) ?_
  ·by_cases q1:r.2.1<0
   ·rw[decide_eq_true q1,cond_true,decide_eq_true (.inl q1)]
   ·rw[decide_eq_false q1,cond_false]
    have:decide (r.2.1<0\/2<r.2.1)=decide (2<r.2.1):=by rw[decide_eq_decide];exact⟨λh=>h.resolve_left q1,.inr⟩
    rw[this]
  ·simp only
   by_cases hk2:r.2.1<0\/2<r.2.1
   ·rw[if_pos hk2,decide_eq_true hk2,cond_true]
   ·rw[if_neg hk2,decide_eq_false hk2,cond_false,ae (OV h3)]
    unfold Fe
    cases hp:fX r.2.2 with
    |error e=>
     rcases pD hp with rfl|rfl <;> rfl
    |ok t=>
     obtain⟨q1,q2,q3⟩:=sb h3 hp
     simp only[KF]
     rw[decide_true,ay,cond_false,ae (OX q1 (by omega))]
     simp only
     cases t.null <;> rfl
end
noncomputable section
def chk(rs:List RuI):Nat->List RuI->Nat×Int
 |i,[]=>(i,0)
 |i,r::rest=>if s7 rs i r=0 then chk rs (i+1) rest else(i,s7 rs i r)
def ly(rs:List RuI):Nat×Int:=if 60<rs.length then(rs.length,6)else chk rs 0 rs
theorem SA{rs:List RuI}(hs:rs.length<=maxLen)(hok:∀ r∈rs,Lg r):p58 N0 (rs,())=some ((((ly rs).1:Int),((ly rs).2,())),()):=by
 delta p58 Bd Wi;unfold ly
 simp only
 by_cases h60:60<rs.length
 ·rw[if_pos h60,decide_eq_true (show(60:Int)<((rs.length:Nat):Int) by omega),cond_true]
 rw[if_neg h60,decide_eq_false (show ¬(60:Int)<((rs.length:Nat):Int) by omega),cond_false]
 refine aZ (λm x q=>∃ j:Nat,x=((),((j:Int),()))/\m+j=rs.length/\chk rs j (rs.drop j)=chk rs 0 rs/\q=some ((((chk rs 0 rs).1:Int),((chk rs 0 rs).2,())),())) ?_ N0 rs.length _ _ (by have:=gd hs;omega) ⟨0,rfl,rfl,by rw[dm],rfl⟩
 rintro m x q ⟨j,rfl,hm,hch,rfl⟩ k hk
 simp only
 rcases aj j rs.length with hj|hj
 ·have hg:rs[j]?=some rs[j]:=List.getElem?_eq_getElem hj
  have lV:=hok _ (aN hj)
  rw[cq hj]at hch
  generalize rs[j]=r at hg lV hch
  rw[decide_eq_true (show(j:Int)<((rs.length:Nat):Int) by omega),cond_true,ae (Ps hs hg lV)]
  simp only
  simp only[chk]at hch
  by_cases he:s7 rs j r=0
  ·rw[if_pos he]at hch
   rw[decide_eq_true he,ay,cond_false,aX hj hs]
   exact hk (m-1) _ _ (by omega) ⟨j+1,rfl,by omega,hch,rfl⟩
  ·rw[if_neg he]at hch
   rw[decide_eq_false he,aH,cond_true,<-hch]
 ·have:j=rs.length:=by omega
  subst this
  rw[decide_eq_false (show ¬((rs.length:Nat):Int)<((rs.length:Nat):Int) by omega),cond_false]
  rw[ie]at hch
  rw[<-hch]
  rfl
end
noncomputable section
theorem HX{s:List Int}(hb:Bytes s)(h12:s.length<=12){t:Rx}(h:fX s=.ok t):∃ d,p68 N0 (s,())=some ((d,((0:Int),())),())/\d.2.2[0]?=some (if t.null=true then 0 else -1):=by
 obtain⟨h1,h2,h3⟩:=sb hb h
 have hw:=HR hb h
 obtain⟨d,hd,hm⟩:=Sx h1 h2 (by omega)
 exact⟨d,Sw hb (by unfold maxLen;omega) h (Po h2 hd),hm⟩
theorem Lh(k k':List Int)(v:Int):∀ x:KM,cR eqK k (eY eqK k' v x)=if k=k' then v else cR eqK k x:=by
 intro x
 induction x with
 |nil=>
  simp only[eY,cR,eqK]
  by_cases e:k=k' <;> simp[e]
 |cons p r ih=>
  simp only[eY]
  by_cases e:k'=p.1
  ·have:eqK k' p.1=true:=decide_eq_true e
   rw[this,cond_true]
   simp only[cR]
   rw[<-e]
   by_cases e2:k=k'
   ·rw[show eqK k k'=true from decide_eq_true e2,if_pos e2];rfl
   ·rw[show eqK k k'=false from decide_eq_false e2,if_neg e2];rfl
  ·have:eqK k' p.1=false:=decide_eq_false e
   rw[this,cond_false]
   simp only[cR]
   by_cases e2:k=p.1
   ·rw[show eqK k p.1=true from decide_eq_true e2,cond_true,cond_true]
    rw[if_neg]
    rintro rfl
    exact e e2
   ·rw[show eqK k p.1=false from decide_eq_false e2,cond_false,cond_false,ih]
def ve(rs:List RuI)(i:Nat)(m:KM):Prop:=∀ k,(0<cR eqK k m↔HW rs i k)/\0<=cR eqK k m/\cR eqK k m<=(i:Int)
theorem ve.next{rs:List RuI}{i:Nat}{m:KM}(h:ve rs i m){r:RuI}(hr:rs[i]?=some r):ve rs (i+1) (eY eqK r.1 (cR eqK r.1 m+1) m):=by
 intro k
 rw[Lh]
 obtain⟨h1,h2,h3⟩:=h k
 by_cases e:k=r.1
 ·subst e
  rw[if_pos rfl]
  refine⟨⟨λ_=>⟨i,r,by omega,hr,rfl⟩,λ_=>by omega⟩,by omega,by omega⟩
 ·rw[if_neg e,h1]
  refine⟨⟨λ⟨j,r',a1,a2,a3⟩=>⟨j,r',by omega,a2,a3⟩,λ⟨j,r',a1,a2,a3⟩=>?_⟩,by omega,by omega⟩
  by_cases e2:j=i
  ·subst e2
   rw[hr]at a2
   injection a2 with a2
   subst a2
   exact absurd a3.symm e
  ·exact⟨j,r',by omega,a2,a3⟩
theorem Pt{rs:List RuI}{i:Nat}{r:RuI}(hr:rs[i]?=some r)(hok:Lg r)(h12:r.2.2.length<=12){m:KM}(hm:ve rs i m):Of N0 (r,(m,()))=some ((s7 rs i r,()),()):=by
 obtain⟨h1,h2,h3,h4⟩:=hok
 delta Of Bd
 simp only
 rw[ae (yO h1 h2)]
 simp only
 unfold s7
 cases hn:gS r.1
 ·rw[aH,cond_true,if_pos rfl]
 rw[ay,cond_false,if_neg (by simp)]
 show(bif decide ((0:Int)<cR eqK r.1 m)then _ else _)=_
 by_cases hd:HW rs i r.1
 ·rw[decide_eq_true ((hm r.1).1.2 hd),cond_true,if_pos hd]
 rw[decide_eq_false (λh=>hd ((hm r.1).1.1 h)),cond_false,if_neg hd]
 refine aV ((),(decide (r.2.1<0\/2<r.2.1),())) (λK=>?_) ?_
 ·by_cases q1:r.2.1<0
  ·rw[decide_eq_true q1,cond_true,decide_eq_true (.inl q1)]
  ·rw[decide_eq_false q1,cond_false]
   have:decide (r.2.1<0\/2<r.2.1)=decide (2<r.2.1):=by rw[decide_eq_decide];exact⟨λh=>h.resolve_left q1,.inr⟩
   rw[this]
 ·simp only
  by_cases hk2:r.2.1<0\/2<r.2.1
  ·rw[if_pos hk2,decide_eq_true hk2,cond_true]
  ·rw[if_neg hk2,decide_eq_false hk2,cond_false]
   unfold Fe
   cases hp:fX r.2.2 with
   |error e=>
    rw[ae (Pm h3 h4 hp)]
    rcases pD hp with rfl|rfl <;> rfl
   |ok t=>
    obtain⟨d,hd2,hd3⟩:=HX h3 h12 hp
    rw[ae hd2]
    simp only
    rw[decide_true,ay,cond_false,ae (K7 hd3)]
    simp only
    cases t.null <;> rfl
theorem SB{rs:List RuI}(hs:rs.length<=maxLen)(hok:∀ r∈rs,Lg r)(h12:∀ r∈rs,r.2.2.length<=12):p59 N0 (rs,())=some ((((ly rs).1:Int),((ly rs).2,())),()):=by
 delta p59 Ld Bd Wi;unfold ly
 simp only
 by_cases h60:60<rs.length
 ·rw[if_pos h60,decide_eq_true (show(60:Int)<((rs.length:Nat):Int) by omega),cond_true]
 rw[if_neg h60,decide_eq_false (show ¬(60:Int)<((rs.length:Nat):Int) by omega),cond_false]
 refine aZ (λm x q=>∃ (j:Nat) (mp:KM),x=((mp,()),((j:Int),()))/\m+j=rs.length/\ve rs j mp/\chk rs j (rs.drop j)=chk rs 0 rs/\q=some ((((chk rs 0 rs).1:Int),((chk rs 0 rs).2,())),())) ?_ N0 rs.length _ _ (by have:=gd hs;omega) ⟨0,[],rfl,rfl,λk=>⟨⟨λh=>absurd h (by simp[cR]),λ⟨j,_,h,_⟩=>by omega⟩,by simp[cR],by simp[cR]⟩,by rw[dm],rfl⟩
 rintro m x q ⟨j,mp,rfl,hm,hsn,hch,rfl⟩ k hk
 simp only
 rcases aj j rs.length with hj|hj
 ·have hg:rs[j]?=some rs[j]:=List.getElem?_eq_getElem hj
  have lV:=hok _ (aN hj)
  have Qn:=h12 _ (aN hj)
  rw[cq hj]at hch
  generalize rs[j]=r at hg lV Qn hch
  have n0:(0:Int)<=(j:Int):=by omega
  rw[decide_eq_true (show(j:Int)<((rs.length:Nat):Int) by omega),cond_true,if_pos n0,aa,hg]
  simp only
  rw[ae (Pt hg lV Qn hsn)]
  simp only
  simp only[chk]at hch
  by_cases he:s7 rs j r=0
  ·rw[if_pos he]at hch
   rw[decide_eq_true he,ay,cond_false,aX hj hs]
   show k (((eY eqK r.1 (IntKind.wrap .i64 (cR eqK r.1 mp+1)) mp),()),_)=_
   have e1:IntKind.wrap .i64 (cR eqK r.1 mp+1)=cR eqK r.1 mp+1:=by
    obtain⟨_,q1,q2⟩:=hsn r.1
    obtain⟨u,hu⟩:∃ u:Nat,cR eqK r.1 mp=(u:Int):=⟨_,(fF q1).symm⟩
    rw[hu]at q2 |-
    rw[cV (by omega)]
    rfl
   rw[e1]
   exact hk (m-1) _ _ (by omega) ⟨j+1,_,rfl,by omega,hsn.next hg,hch,rfl⟩
  ·rw[if_neg he]at hch
   rw[decide_eq_false he,aH,cond_true,<-hch]
 ·have:j=rs.length:=by omega
  subst this
  rw[decide_eq_false (show ¬((rs.length:Nat):Int)<((rs.length:Nat):Int) by omega),cond_false]
  rw[ie]at hch
  rw[<-hch]
  rfl
end
noncomputable section
abbrev Pu:=Bool×Int
abbrev PrI:=Int×(List Int×(List Pu×(Bool×(Int×List Int))))
abbrev LvI:=Int×List Int
abbrev GrI:=List RuI×(List (List Int)×(List PrI×(List LvI×Int)))
structure tv(g:GrI):Prop where
 r0:g.1.length<=100000
 r1:∀ r∈g.1,Lg r
 s0:g.2.1.length<=100000
 s1:∀ s∈g.2.1,Bytes s/\s.length<=maxLen
 p0:g.2.2.1.length<=100000
 p1:∀ p∈g.2.2.1,Bytes p.2.1/\p.2.1.length<=maxLen
 p2:∀ p∈g.2.2.1,p.2.2.1.length<=100000
 p3:∀ p∈g.2.2.1,p.2.2.2.2.2.length<=100000
 l0:g.2.2.2.1.length<=100000
 l1:∀ l∈g.2.2.2.1,l.2.length<=100000
theorem le_max{n:Nat}(h:n<=100000):n<=maxLen:=by unfold maxLen;omega
theorem gX{n:Nat}(h:n<=100000):n<N0:=by unfold N0;omega
theorem Ff{α A R:Type}{body:A->(A->Option R)->Option R}(l:List α)(f:Nat->A)(bad:α->Bool)(found:Nat->Option R)(after:Option R)
 (step:∀ j,(h:j<l.length)->∀ k,body (f j) k=if bad l[j]=true then found j else k (f (j+1))) (fin:∀ k,body (f l.length) k=after) (n:Nat) (hn:l.length<n):
 aC body n (f 0)=match l.findIdx? bad with|some j=>found j|none=>after:=by
 have:=a8 (body:=body) f (λj=>match(l.drop j).findIdx? bad with|some i=>found (j+i)|none=>after) l.length (λj hj k hk=>by
  rcases aj j l.length with hi|hi
  ·rw[step j hi,cq hi,List.findIdx?_cons]
   cases hb:bad l[j]
   ·simp only[ap,if_false]
    rw[hk hi]
    cases(l.drop (j+1)).findIdx? bad with
    |none=>rfl
    |some i=>simp only[dy];congr 1;omega
   ·simp
  ·have e:j=l.length:=by omega
   rw[e,fin];simp) n 0 (az _) (by omega)
 rw[this,dm]
 cases l.findIdx? bad with
 |none=>rfl
 |some i=>simp
def cE{α:Type}(E:Nat->α->Int):Nat->List α->Option (Int×Nat)
 |_,[]=>none
 |i,a::r=>if E i a=0 then cE E (i+1) r else some (E i a,i)
theorem si{α A R:Type}{body:A->(A->Option R)->Option R}(l:List α)(f:Nat->A)(E:Nat->α->Int)(found:Int->Nat->Option R)(after:Option R)
 (step:∀ j,(h:j<l.length)->∀ k,body (f j) k=if E j l[j]=0 then k (f (j+1))else found (E j l[j]) j) (fin:∀ k,body (f l.length) k=after) (n:Nat) (hn:l.length<n):
 aC body n (f 0)=match cE E 0 l with|some p=>found p.1 p.2|none=>after:=by
 have:=a8 (body:=body) f (λj=>match cE E j (l.drop j)with|some p=>found p.1 p.2|none=>after) l.length (λj hj k hk=>by
  rcases aj j l.length with hi|hi
  ·rw[step j hi,cq hi]
   simp only[cE]
   by_cases hb:E j l[j]=0
   ·rw[if_pos hb,if_pos hb,hk hi]
   ·rw[if_neg hb,if_neg hb]
  ·have e:j=l.length:=by omega
   rw[e,fin];simp[cE]) n 0 (az _) (by omega)
 rw[this,dm]
theorem xl{α:Type}(l:List α)(i:Nat)(h:i<=l.length):cn l 0 (i:Int)=l.take i:=by
 unfold cn
 simp
def fU(g:GrI)(s:Pu):Bool:=
 if s.1=true then decide (0<=s.2)&&decide (s.2<(g.2.1.length:Int))else decide (0<=s.2)&&(match g.1[s.2.toNat]? with|some r=>decide (r.2.1=0)|none=>false)
theorem yP(g:GrI)(s:Pu):Hw N0 (g,(s,()))=some ((fU g s,()),()):=by
 obtain⟨b,n⟩:=s
 delta Hw Ld Bd;unfold fU
 simp only
 cases b
 ·simp only[ap,if_false,cond_false]
  refine aV ((),(decide (0<=n)&&(match g.1[n.toNat]? with|some r=>decide (r.2.1=0)|none=>false),())) (λK=>?_) rfl
  by_cases h0:0<=n
  ·rw[decide_eq_true h0,cond_true,bG]
   by_cases h1:n<((g.1.length:Nat):Int)
   ·rw[decide_eq_true h1,cond_true,if_pos h0,List.getElem?_eq_getElem (show n.toNat<g.1.length by omega)]
   ·rw[decide_eq_false h1,cond_false,List.getElem?_eq_none (show g.1.length<=n.toNat by omega)]
  ·rw[decide_eq_false h0,cond_false,dA]
 ·simp only[if_true,cond_true]
  refine aV ((),(decide (0<=n)&&decide (n<(g.2.1.length:Int)),())) (λK=>?_) rfl
  by_cases h0:0<=n
  ·rw[decide_eq_true h0,cond_true,bG]
  ·rw[decide_eq_false h0,cond_false,dA]
theorem yQ(g:GrI)(s:Pu):Hz N0 (g,(s,()))=some ((fU g s,()),()):=by
 obtain⟨b,n⟩:=s
 delta Hz Ld Bd;unfold fU
 simp only
 cases b
 ·simp only[ap,if_false,cond_false]
  refine aV ((),(decide (0<=n)&&(match g.1[n.toNat]? with|some r=>decide (r.2.1=0)|none=>false),())) (λK=>?_) rfl
  by_cases h0:0<=n
  ·rw[decide_eq_true h0,cond_true,bG]
   by_cases h1:n<((g.1.length:Nat):Int)
   ·rw[decide_eq_true h1,cond_true,if_pos h0,List.getElem?_eq_getElem (show n.toNat<g.1.length by omega)]
   ·rw[decide_eq_false h1,cond_false,List.getElem?_eq_none (show g.1.length<=n.toNat by omega)]
  ·rw[decide_eq_false h0,cond_false,dA]
 ·simp only[if_true,cond_true]
  refine aV ((),(decide (0<=n)&&decide (n<(g.2.1.length:Int)),())) (λK=>?_) rfl
  by_cases h0:0<=n
  ·rw[decide_eq_true h0,cond_true,bG]
  ·rw[decide_eq_false h0,cond_false,dA]
def nE(p:PrI):Bool:=match p.2.2.1 with
 |[a,b,c]=>!a.1&&((b.1&&decide (b.2=p.1))&&!c.1)
 |_=>false
theorem Qo{p:PrI}(h:¬p.2.2.1.length=3):nE p=false:=by
 unfold nE
 split
 ·rename_i e;rw[e]at h;simp at h
 ·rfl
theorem Pv(p:PrI):Oj N0 (p,())=some ((nE p,()),()):=by
 obtain⟨s,c,body,par,pr,hi⟩:=p
 delta Oj Bd
 simp only
 refine aV ((),(nE (s,(c,(body,(par,(pr,hi))))),())) (λK=>?_) rfl
 by_cases h3:body.length=3
 ·rw[decide_eq_true (show((body.length:Nat):Int)=3 by omega),cond_true]
  match body,h3 with
  |[(a1,a2),(b1,b2),(c1,c2)],_=>
   show(if(0:Int)<=0 then _ else _)=_
   rw[if_pos (by omega)]
   show(bif !a1 then _ else _)=_
   cases a1
   ·rw[aH,cond_true]
    rw[if_pos (by omega)]
    show(bif(bif(b1 == true)then decide (b2=s)else false)then _ else _)=_
    cases b1
    ·rfl
    ·show(bif decide (b2=s)then _ else _)=_
     by_cases e:b2=s
     ·rw[decide_eq_true e,cond_true,if_pos (by omega)]
      show K ((),(!c1,()))=_
      simp[nE,e]
     ·rw[decide_eq_false e,cond_false]
      simp[nE,e]
   ·rfl
 ·rw[decide_eq_false (show ¬((body.length:Nat):Int)=3 by omega),cond_false,Qo h3]
theorem Pw(p:PrI):On N0 (p,())=some ((nE p,()),()):=by
 obtain⟨s,c,body,par,pr,hi⟩:=p
 delta On Bd
 simp only
 refine aV ((),(nE (s,(c,(body,(par,(pr,hi))))),())) (λK=>?_) rfl
 by_cases h3:body.length=3
 ·rw[decide_eq_true (show((body.length:Nat):Int)=3 by omega),cond_true]
  match body,h3 with
  |[(a1,a2),(b1,b2),(c1,c2)],_=>
   show(if(0:Int)<=0 then _ else _)=_
   rw[if_pos (by omega)]
   show(bif !a1 then _ else _)=_
   cases a1
   ·rw[aH,cond_true]
    rw[if_pos (by omega)]
    show(bif b1 then _ else _)=_
    cases b1
    ·rfl
    ·rw[cond_true,if_pos (by omega)]
     show(bif decide (b2=s)then _ else _)=_
     by_cases e:b2=s
     ·rw[decide_eq_true e,cond_true,if_pos (by omega)]
      show K ((),(!c1,()))=_
      simp[nE,e]
     ·rw[decide_eq_false e,cond_false]
      simp[nE,e]
   ·rfl
 ·rw[decide_eq_false (show ¬((body.length:Nat):Int)=3 by omega),cond_false,Qo h3]
def jZ(g:GrI)(i:Nat)(s:List Int):Int:=
 if gS s=false then 8 else if(g.2.1.take i).any (λx=>decide (x=s))||g.1.any (λr=>decide (r.1=s))then 9 else 0
theorem Fg{g:GrI}{i:Nat}{s:List Int}(h:gS s=false):jZ g i s=8:=by unfold jZ;rw[if_pos h]
theorem yR{g:GrI}{i:Nat}{s:List Int}(h:gS s=true)(h2:((g.2.1.take i).any (λx=>decide (x=s))||g.1.any (λr=>decide (r.1=s)))=true):jZ g i s=9:=by unfold jZ;rw[if_neg (by rw[h];simp),if_pos h2]
theorem Fh{g:GrI}{i:Nat}{s:List Int}(h:gS s=true)(h2:((g.2.1.take i).any (λx=>decide (x=s))||g.1.any (λr=>decide (r.1=s)))=false):jZ g i s=0:=by unfold jZ;rw[if_neg (by rw[h];simp),if_neg (by rw[h2];simp)]
theorem Px{l:List (List Int)}(hl:l.length<=100000)(s:List Int):Og N0 (l,(s,()))=some ((match l.findIdx? (λx=>decide (x=s))with|some j=>(j:Int)|none=>-1,()),()):=by
 delta Og Ld Bd Wi
 simp only
 refine(Ff l (λj=>((),((j:Int),()))) (λx=>decide (x=s)) (λj=>some (((j:Int),()),())) (some ((-1,()),())) (λj h k=>?_) (λk=>?_) N0 (gX hl)).trans ?_
 ·simp only
  rw[decide_eq_true (show(j:Int)<((l.length:Nat):Int) by omega),cond_true,if_pos (by omega),aa,List.getElem?_eq_getElem h]
  simp only
  by_cases e:l[j]=s
  ·rw[decide_eq_true e.symm,cond_true,decide_eq_true e,if_pos rfl]
  ·rw[decide_eq_false (λh=>e h.symm),cond_false,decide_eq_false e,if_neg (by simp),aX h (le_max hl)]
 ·simp only
  rw[decide_eq_false (by omega),cond_false]
 ·cases l.findIdx? (λx=>decide (x=s)) <;> rfl
theorem Li{α:Type}(l:List α)(f:α->Bool):decide ((0:Int)<=match l.findIdx? f with|some j=>(j:Int)|none=>-1)=l.any f:=by
 cases h:l.findIdx? f with
 |none=>
  rw[List.findIdx?_eq_none_iff]at h
  have:l.any f=false:=by
   rw[List.any_eq_false]
   intro x hx
   simpa using h x hx
  rw[this]
  rfl
 |some j=>
  obtain⟨h1,h2,_⟩:=List.findIdx?_eq_some_iff_getElem.1 h
  have:l.any f=true:=ic.2 ⟨_,aN h1,h2⟩
  rw[this]
  exact decide_eq_true (by simp)
theorem Py{l:List (List Int)}(hl:l.length<=100000)(s:List Int):Oh N0 (l,(s,()))=some ((l.any (λx=>decide (x=s)),()),()):=by
 unfold Oh
 simp only
 rw[ae (Px hl s)]
 simp only
 rw[Li]
theorem Pz{l:List RuI}(hl:l.length<=100000)(s:List Int):Oi N0 (l,(s,()))=some ((match l.findIdx? (λr=>decide (r.1=s))with|some j=>(j:Int)|none=>-1,()),()):=by
 delta Oi Ld Bd Wi
 simp only
 refine(Ff l (λj=>((),((j:Int),()))) (λr=>decide (r.1=s)) (λj=>some (((j:Int),()),())) (some ((-1,()),())) (λj h k=>?_) (λk=>?_) N0 (gX hl)).trans ?_
 ·simp only
  rw[decide_eq_true (show(j:Int)<((l.length:Nat):Int) by omega),cond_true,if_pos (by omega),aa,List.getElem?_eq_getElem h]
  simp only
  by_cases e:l[j].1=s
  ·rw[decide_eq_true e,cond_true,if_pos rfl]
  ·rw[decide_eq_false e,cond_false,if_neg (by simp),aX h (le_max hl)]
 ·simp only
  rw[decide_eq_false (by omega),cond_false]
 ·cases l.findIdx? (λr=>decide (r.1=s)) <;> rfl
abbrev Flt:=Int×(Int×Int)
theorem SC{g:GrI}(ok:tv g):p90 N0 (g,())=some (((if 300<g.2.1.length then((6:Int),((2:Int),(g.2.1.length:Int)))else match cE (jZ g) 0 g.2.1 with|some p=>(p.1,((2:Int),(p.2:Int)))|none=>((0:Int),((0:Int),(0:Int)))),()),()):=by
 delta p90 Ld Bd Wi
 simp only
 by_cases h3:300<g.2.1.length
 ·rw[decide_eq_true (show(300:Int)<((g.2.1.length:Nat):Int) by omega),cond_true,if_pos h3]
 rw[decide_eq_false (show ¬(300:Int)<((g.2.1.length:Nat):Int) by omega),cond_false,if_neg h3]
 refine(si g.2.1 (λj=>((((0:Int),((0:Int),(0:Int))),()),((j:Int),()))) (jZ g) (λe j=>some (((e,(2,(j:Int))),()),())) (some (((0,(0,0)),()),())) (λj h k=>?_) (λk=>?_) N0 (gX ok.s0)).trans ?_
 ·simp only
  have hs:=ok.s1 _ (aN h)
  rw[decide_eq_true (show(j:Int)<((g.2.1.length:Nat):Int) by omega),cond_true,if_pos (by omega),aa,List.getElem?_eq_getElem h]
  simp only
  generalize g.2.1[j]=s at hs
  rw[ae (yO hs.1 hs.2)]
  simp only
  cases hn:gS s
  ·rw[Fg hn,aH,cond_true,if_neg (by omega)]
  rw[ay,cond_false]
  refine aV ((((0:Int),((0:Int),(0:Int))),()),((g.2.1.take j).any (λx=>decide (x=s))||g.1.any (λr=>decide (r.1=s)),())) (λK=>?_) ?_
  ·rw[if_pos ⟨by omega,by omega,by omega⟩,xl _ _ (by omega),ae (Py (by rw[aL];have:=ok.s0;omega) s)]
   simp only
   cases(g.2.1.take j).any (λx=>decide (x=s))
   ·rw[cond_false,ae (Pz ok.r0 s)]
    simp only
    rw[Li,cP]
   ·rw[cond_true,gz]
  ·simp only
   cases h2:((g.2.1.take j).any (λx=>decide (x=s))||g.1.any (λr=>decide (r.1=s)))
   ·rw[Fh hn h2,cond_false,if_pos rfl,aX h (le_max ok.s0)]
   ·rw[yR hn h2,cond_true,if_neg (by omega)]
 ·simp only
  rw[decide_eq_false (by omega),cond_false]
 ·cases cE (jZ g) 0 g.2.1 <;> rfl
theorem SD{g:GrI}(ok:tv g){i:Nat}{s:List Int}(hi:g.2.1[i]?=some s):p78 N0 (g,((i:Int),()))=some ((jZ g i s,()),()):=by
 have hlt:i<g.2.1.length:=(List.getElem?_eq_some_iff.1 hi).1
 have hs:=ok.s1 _ (List.mem_of_getElem? hi)
 have h0:=ok.s0
 delta p78 Ld Bd Wi
 simp only
 rw[if_pos (by omega),aa,hi]
 simp only
 rw[ae (yN hs.1 hs.2)]
 simp only
 cases hn:gS s
 ·rw[Fg hn,aH,cond_true]
 rw[ay,cond_false]
 have hlen:(g.2.1.take i).length=i:=by rw[aL];omega
 refine(eo (g.2.1.take i) (λx=>!decide (x=s)) (some ((9,()),())) (if g.1.any (λr=>decide (r.1=s))=true then some ((9,()),())else some ((0,()),())) (λj=>((),((j:Int),()))) (λj h k=>?_) (λk=>?_) N0 (by rw[hlen];exact gX (by omega))).trans ?_
 ·simp only
  rw[decide_eq_true (show(j:Int)<(i:Int) by omega),cond_true,if_pos (by omega),aa,List.getElem?_eq_getElem (show j<g.2.1.length by omega)]
  simp only
  rw[if_pos (show(0:Int)<=(i:Int) by omega)]
  rw[List.getElem_take]
  by_cases e:g.2.1[j]=s
  ·rw[decide_eq_true e,cond_true,if_neg (by simp)]
  ·rw[decide_eq_false e,cond_false,if_pos (by simp),aX (show j<g.2.1.length by omega) (le_max h0)]
 ·simp only
  rw[hlen,decide_eq_false (by omega),cond_false]
  refine(eo g.1 (λr=>!decide (r.1=s)) (some ((9,()),())) (some ((0,()),())) (λj=>((),((j:Int),()))) (λj h k=>?_) (λk=>?_) N0 (gX ok.r0)).trans ?_
  ·simp only
   rw[decide_eq_true (show(j:Int)<((g.1.length:Nat):Int) by omega),cond_true,if_pos (by omega),aa,List.getElem?_eq_getElem h]
   simp only
   rw[if_pos (show(0:Int)<=(i:Int) by omega)]
   by_cases e:g.1[j].1=s
   ·rw[decide_eq_true e,cond_true,if_neg (by simp)]
   ·rw[decide_eq_false e,cond_false,if_pos (by simp),aX h (le_max ok.r0)]
  ·simp only
   rw[decide_eq_false (by omega),cond_false]
  ·have:g.1.all (λr=>!decide (r.1=s))=!g.1.any (λr=>decide (r.1=s)):=by rw[List.not_any_eq_all_not]
   rw[this]
   cases g.1.any (λr=>decide (r.1=s)) <;> rfl
 ·have h1:(g.2.1.take i).all (λr=>!decide (r=s))=!(g.2.1.take i).any (λr=>decide (r=s)):=by rw[List.not_any_eq_all_not]
  rw[h1]
  cases h2:(g.2.1.take i).any (λr=>decide (r=s))
  ·rw[aH,if_pos rfl]
   cases h3:g.1.any (λr=>decide (r.1=s))
   ·rw[Fh hn (by rw[h2,h3];rfl),if_neg (by simp)]
   ·rw[yR hn (by rw[h2,h3];rfl),if_pos rfl]
  ·rw[yR hn (by rw[h2];rfl),ay,if_neg (by simp)]
end
noncomputable section
def qy(h:Int):Bool:=decide (0<=h/\h<=3)
def BC(g:GrI)(p:PrI):Int:=if ¬p.2.2.2.2.1=-1/\fU g (false,p.2.2.2.2.1)=false then 11 else if p.2.2.2.1=true/\nE p=false then 15 else 0
def BD(g:GrI)(p:PrI):Int:=if p.2.2.2.2.2.all qy=true then BC g p else 1
def xm(g:GrI)(p:PrI):Int:=if p.2.2.1.all (fU g)=true then BD g p else 11
def lz(g:GrI)(i:Nat)(p:PrI):Int:=
 if p.1<0\/(g.2.1.length:Int)<=p.1 then 11 else if gS p.2.1=false then 8 else if 12<p.2.2.1.length then 6 else if ¬p.2.2.2.2.2.length=p.2.2.1.length-1 then 1
 else if(g.2.2.1.take i).all (λq=>!decide (q.2.1=p.2.1))=true then xm g p else 9
theorem HY{g:GrI}{n:Int}(h:n<0):fU g (false,n)=false:=by
 unfold fU
 rw[if_neg (by simp),decide_eq_false (by omega),dA]
theorem xn{n:Nat}(h:n<=100000):IntKind.wrap .i64 ((n:Int)-1)=(n:Int)-1:=bp (by omega) (by omega)
theorem SE{g:GrI}(ok:tv g){i:Nat}{p:PrI}(hi:g.2.2.1[i]?=some p):p91 N0 (g,((i:Int),()))=some ((lz g i p,()),()):=by
 have hlt:i<g.2.2.1.length:=(List.getElem?_eq_some_iff.1 hi).1
 have hm:=List.mem_of_getElem? hi
 have hs:=ok.p1 _ hm
 have hb:=ok.p2 _ hm
 have hh:=ok.p3 _ hm
 have h0:=ok.p0
 have hlen:(g.2.2.1.take i).length=i:=by rw[aL];omega
 delta p91 Ld Bd Wi
 simp only
 rw[if_pos (by omega),aa,hi]
 simp only
 refine aV ((),(decide (p.1<0\/(g.2.1.length:Int)<=p.1),())) (λK=>?_) ?_
 ·by_cases q1:p.1<0
  ·rw[decide_eq_true q1,cond_true,decide_eq_true (.inl q1)]
  ·rw[decide_eq_false q1,cond_false]
   have:decide (p.1<0\/(g.2.1.length:Int)<=p.1)=decide ((g.2.1.length:Int)<=p.1):=by rw[decide_eq_decide];exact⟨λh=>h.resolve_left q1,.inr⟩
   rw[this]
 simp only
 unfold lz
 by_cases e1:p.1<0\/(g.2.1.length:Int)<=p.1
 ·rw[decide_eq_true e1,cond_true,if_pos e1]
 rw[decide_eq_false e1,cond_false,if_neg e1,ae (yO hs.1 hs.2)]
 simp only
 cases e2:gS p.2.1
 ·rw[aH,cond_true,if_pos rfl]
 rw[ay,cond_false,if_neg (show ¬(true=false) by simp)]
 by_cases e3:12<p.2.2.1.length
 ·rw[decide_eq_true (show(12:Int)<((p.2.2.1.length:Nat):Int) by omega),cond_true,if_pos e3]
 rw[decide_eq_false (show ¬(12:Int)<((p.2.2.1.length:Nat):Int) by omega),cond_false,if_neg e3,xn hb]
 have hw:(if((p.2.2.1.length:Nat):Int)-1<0 then(0:Int)else((p.2.2.1.length:Nat):Int)-1)=((p.2.2.1.length-1:Nat):Int):=by split <;> omega
 rw[hw]
 by_cases e4:p.2.2.2.2.2.length=p.2.2.1.length-1
 case neg=>rw[decide_eq_false (show ¬((p.2.2.2.2.2.length:Nat):Int)=((p.2.2.1.length-1:Nat):Int) by omega),aH,cond_true,if_pos e4]
 rw[decide_eq_true (show((p.2.2.2.2.2.length:Nat):Int)=((p.2.2.1.length-1:Nat):Int) by omega),ay,cond_false,if_neg (show ¬¬p.2.2.2.2.2.length=p.2.2.1.length-1 from λh=>h e4)]
 rw[if_pos ⟨by omega,by omega,by omega⟩,xl _ _ (by omega)]
 refine eo (g.2.2.1.take i) (λq=>!decide (q.2.1=p.2.1)) (some ((9,()),())) (some ((xm g p,()),())) (λj=>((),((j:Int),()))) (λj h k=>?_) (λk=>?_) N0 (by rw[hlen];exact gX (by omega)) |>.trans ?_
 ·simp only
  rw[decide_eq_true (show(j:Int)<(((g.2.2.1.take i).length:Nat):Int) by omega),cond_true,if_pos (by omega),aa,List.getElem?_eq_getElem h]
  simp only
  by_cases e:(g.2.2.1.take i)[j].2.1=p.2.1
  ·rw[decide_eq_true e,cond_true,if_neg (by simp)]
  ·rw[decide_eq_false e,cond_false,if_pos (by simp),aX h (le_max (by omega))]
 ·simp only
  rw[decide_eq_false (by omega),cond_false]
  refine eo p.2.2.1 (fU g) (some ((11,()),())) (some ((BD g p,()),())) (λj=>((),((j:Int),()))) (λj h k=>?_) (λk=>?_) N0 (gX hb) |>.trans ?_
  ·simp only
   rw[decide_eq_true (show(j:Int)<((p.2.2.1.length:Nat):Int) by omega),cond_true,if_pos (by omega),aa,List.getElem?_eq_getElem h]
   simp only
   rw[ae (yP g _)]
   simp only
   cases fU g p.2.2.1[j]
   ·rw[aH,cond_true,if_neg (by simp)]
   ·rw[ay,cond_false,if_pos rfl,aX h (le_max hb)]
  ·simp only
   rw[decide_eq_false (by omega),cond_false]
   refine eo p.2.2.2.2.2 qy (some ((1,()),())) (some ((BC g p,()),())) (λj=>((),((j:Int),()))) (λj h k=>?_) (λk=>?_) N0 (gX hh) |>.trans ?_
   ·simp only
    rw[decide_eq_true (show(j:Int)<((p.2.2.2.2.2.length:Nat):Int) by omega),cond_true,if_pos (by omega),aa,List.getElem?_eq_getElem h]
    simp only
    generalize p.2.2.2.2.2[j]=v
    refine aV ((),(!qy v,())) (λK=>?_) ?_
    ·unfold qy
     by_cases q1:v<0
     ·rw[decide_eq_true q1,cond_true,decide_eq_false (by omega)];rfl
     ·rw[decide_eq_false q1,cond_false]
      have:(!decide (0<=v/\v<=3))=decide (3<v):=by
       rw[<-decide_not,decide_eq_decide];omega
      rw[this]
    ·simp only
     cases qy v
     ·rw[aH,cond_true,if_neg (by simp)]
     ·rw[ay,cond_false,if_pos rfl,aX h (le_max hh)]
   ·simp only
    rw[decide_eq_false (by omega),cond_false]
    unfold BC
    refine aV ((),(decide (¬p.2.2.2.2.1=-1/\fU g (false,p.2.2.2.2.1)=false),())) (λK=>?_) ?_
    ·by_cases q1:p.2.2.2.2.1=-1
     ·rw[decide_eq_true q1,ay,cond_false,decide_eq_false (λh=>h.1 q1)]
     ·rw[decide_eq_false q1,aH,cond_true]
      by_cases q2:p.2.2.2.2.1<0
      ·rw[decide_eq_true q2,cond_true,decide_eq_true ⟨q1,HY q2⟩]
      ·rw[decide_eq_false q2,cond_false,ae (yP g _)]
       simp only
       cases fU g (false,p.2.2.2.2.1)
       ·rw[decide_eq_true ⟨q1,rfl⟩];rfl
       ·rw[decide_eq_false (λh=>by cases h.2)];rfl
    ·simp only
     by_cases q1:¬p.2.2.2.2.1=-1/\fU g (false,p.2.2.2.2.1)=false
     ·rw[decide_eq_true q1,cond_true,if_pos q1]
     rw[decide_eq_false q1,cond_false,if_neg q1]
     refine aV ((),(decide (p.2.2.2.1=true/\nE p=false),())) (λK=>?_) ?_
     ·cases hp:p.2.2.2.1
      ·rw[cond_false,decide_eq_false (λh=>by cases h.1)]
      ·rw[cond_true,ae (Pv p)]
       simp only
       cases nE p <;> simp
     ·simp only
      by_cases q2:p.2.2.2.1=true/\nE p=false
      ·rw[decide_eq_true q2,cond_true,if_pos q2]
      ·rw[decide_eq_false q2,cond_false,if_neg q2]
   ·unfold BD;split <;> rfl
  ·unfold xm;split <;> rfl
 ·split <;> rfl
theorem SF{g:GrI}(ok:tv g){i:Nat}{p:PrI}(hi:g.2.2.1[i]?=some p):p79 N0 (g,((i:Int),()))=some ((lz g i p,()),()):=by
 have hlt:i<g.2.2.1.length:=(List.getElem?_eq_some_iff.1 hi).1
 have hm:=List.mem_of_getElem? hi
 have hs:=ok.p1 _ hm
 have hb:=ok.p2 _ hm
 have hh:=ok.p3 _ hm
 have h0:=ok.p0
 have hlen:(g.2.2.1.take i).length=i:=by rw[aL];omega
 delta p79 Ld Bd Wi
 simp only
 rw[if_pos (by omega),aa,hi]
 simp only
 refine aV ((),(decide (p.1<0\/(g.2.1.length:Int)<=p.1),())) (λK=>?_) ?_
 ·by_cases q1:p.1<0
  ·rw[decide_eq_true q1,cond_true,decide_eq_true (.inl q1)]
  ·rw[decide_eq_false q1,cond_false]
   have:decide (p.1<0\/(g.2.1.length:Int)<=p.1)=decide ((g.2.1.length:Int)<=p.1):=by rw[decide_eq_decide];exact⟨λh=>h.resolve_left q1,.inr⟩
   rw[this]
 simp only
 unfold lz
 by_cases e1:p.1<0\/(g.2.1.length:Int)<=p.1
 ·rw[decide_eq_true e1,cond_true,if_pos e1]
 rw[decide_eq_false e1,cond_false,if_neg e1,ae (yN hs.1 hs.2)]
 simp only
 cases e2:gS p.2.1
 ·rw[aH,cond_true,if_pos rfl]
 rw[ay,cond_false,if_neg (show ¬(true=false) by simp)]
 by_cases e3:12<p.2.2.1.length
 ·rw[decide_eq_true (show(12:Int)<((p.2.2.1.length:Nat):Int) by omega),cond_true,if_pos e3]
 rw[decide_eq_false (show ¬(12:Int)<((p.2.2.1.length:Nat):Int) by omega),cond_false,if_neg e3,xn hb]
 have hw:(if(0:Int)<((p.2.2.1.length:Nat):Int)-1 then((p.2.2.1.length:Nat):Int)-1 else(0:Int))=((p.2.2.1.length-1:Nat):Int):=by split <;> omega
 rw[hw]
 by_cases e4:p.2.2.2.2.2.length=p.2.2.1.length-1
 case neg=>rw[decide_eq_false (show ¬((p.2.2.2.2.2.length:Nat):Int)=((p.2.2.1.length-1:Nat):Int) by omega),aH,cond_true,if_pos e4]
 rw[decide_eq_true (show((p.2.2.2.2.2.length:Nat):Int)=((p.2.2.1.length-1:Nat):Int) by omega),ay,cond_false,if_neg (show ¬¬p.2.2.2.2.2.length=p.2.2.1.length-1 from λh=>h e4)]
 refine eo (g.2.2.1.take i) (λq=>!decide (q.2.1=p.2.1)) (some ((9,()),())) (some ((xm g p,()),())) (λj=>((),((j:Int),()))) (λj h k=>?_) (λk=>?_) N0 (by rw[hlen];exact gX (by omega)) |>.trans ?_
 ·simp only
  rw[decide_eq_true (show(j:Int)<(i:Int) by omega),cond_true,if_pos (by omega),aa,List.getElem?_eq_getElem (show j<g.2.2.1.length by omega)]
  simp only
  rw[List.getElem_take]
  by_cases e:g.2.2.1[j].2.1=p.2.1
  ·rw[decide_eq_true e,cond_true,if_neg (by simp)]
  ·rw[decide_eq_false e,cond_false,if_pos (by simp),aX h (le_max (by omega))]
 ·simp only
  rw[hlen,decide_eq_false (by omega),cond_false]
  refine eo p.2.2.1 (fU g) (some ((11,()),())) (some ((BD g p,()),())) (λj=>((),((j:Int),()))) (λj h k=>?_) (λk=>?_) N0 (gX hb) |>.trans ?_
  ·simp only
   rw[decide_eq_true (show(j:Int)<((p.2.2.1.length:Nat):Int) by omega),cond_true,if_pos (by omega),aa,List.getElem?_eq_getElem h]
   simp only
   rw[ae (yQ g _)]
   simp only
   cases fU g p.2.2.1[j]
   ·rw[aH,cond_true,if_neg (by simp)]
   ·rw[ay,cond_false,if_pos rfl,aX h (le_max hb)]
  ·simp only
   rw[decide_eq_false (by omega),cond_false]
   refine eo p.2.2.2.2.2 qy (some ((1,()),())) (some ((BC g p,()),())) (λj=>((),((j:Int),()))) (λj h k=>?_) (λk=>?_) N0 (gX hh) |>.trans ?_
   ·simp only
    rw[decide_eq_true (show(j:Int)<((p.2.2.2.2.2.length:Nat):Int) by omega),cond_true]
    have hg:p.2.2.2.2.2[((j:Int)).toNat]?=some p.2.2.2.2.2[j]:=by rw[aa];exact List.getElem?_eq_getElem h
    rw[hg]
    generalize p.2.2.2.2.2[j]=v
    simp only
    refine aV ((),(!qy v,())) (λK=>?_) ?_
    ·rw[if_pos (by omega)]
     unfold qy
     by_cases q1:v<0
     ·rw[decide_eq_true q1,cond_true,decide_eq_false (by omega)];rfl
     ·rw[decide_eq_false q1,cond_false]
      have:(!decide (0<=v/\v<=3))=decide (3<v):=by
       rw[<-decide_not,decide_eq_decide];omega
      rw[this,if_pos (by omega)]
    ·simp only
     cases qy v
     ·rw[aH,cond_true,if_neg (by simp)]
     ·rw[ay,cond_false,if_pos rfl,aX h (le_max hh)]
   ·simp only
    rw[decide_eq_false (by omega),cond_false]
    unfold BC
    refine aV ((),(decide (¬p.2.2.2.2.1=-1/\fU g (false,p.2.2.2.2.1)=false),())) (λK=>?_) ?_
    ·by_cases q1:p.2.2.2.2.1=-1
     ·rw[decide_eq_true q1,ay,cond_false,decide_eq_false (λh=>h.1 q1)]
     ·rw[decide_eq_false q1,aH,cond_true,ae (yQ g _)]
      simp only
      cases fU g (false,p.2.2.2.2.1)
      ·rw[decide_eq_true ⟨q1,rfl⟩];rfl
      ·rw[decide_eq_false (λh=>by cases h.2)];rfl
    ·simp only
     by_cases q1:¬p.2.2.2.2.1=-1/\fU g (false,p.2.2.2.2.1)=false
     ·rw[decide_eq_true q1,cond_true,if_pos q1]
     rw[decide_eq_false q1,cond_false,if_neg q1]
     refine aV ((),(decide (p.2.2.2.1=true/\nE p=false),())) (λK=>?_) ?_
     ·cases hp:p.2.2.2.1
      ·rw[cond_false,decide_eq_false (λh=>by cases h.1)]
      ·rw[cond_true,ae (Pw p)]
       simp only
       cases nE p <;> simp
     ·simp only
      by_cases q2:p.2.2.2.1=true/\nE p=false
      ·rw[decide_eq_true q2,cond_true,if_pos q2]
      ·rw[decide_eq_false q2,cond_false,if_neg q2]
   ·unfold BD;split <;> rfl
  ·unfold xm;split <;> rfl
 ·split <;> rfl
end
noncomputable section
def ahead(g:GrI)(i:Nat):List Int:=(g.2.2.2.1.take i).flatMap λl=>l.2
theorem vf{g:GrI}{i:Nat}{l:LvI}(h:g.2.2.2.1[i]?=some l):ahead g (i+1)=ahead g i++l.2:=by
 unfold ahead
 rw[jy,h]
 simp
def vg(g:GrI)(i:Nat)(l:LvI)(k:Nat)(r:Int):Int:=
 if fU g (false,r)=false then 11 else if r∈ahead g i++l.2.take k then 9 else 0
def qz(g:GrI)(i:Nat)(l:LvI):Int:=
 if l.1<1\/3<l.1\/l.2.length=0\/60<=i then 1 else match cE (vg g i l) 0 l.2 with|some p=>p.1|none=>0
abbrev IM:=List (Int×Int)
def eqZ:Int->Int->Bool:=λa b=>decide (a=b)
theorem HZ(k k' v:Int):∀ x:IM,cR eqZ k (eY eqZ k' v x)=if k=k' then v else cR eqZ k x:=by
 intro x
 induction x with
 |nil=>
  simp only[eY,cR,eqZ]
  by_cases e:k=k' <;> simp[e]
 |cons p r ih=>
  simp only[eY]
  by_cases e:k'=p.1
  ·have:eqZ k' p.1=true:=decide_eq_true e
   rw[this,cond_true]
   simp only[cR]
   rw[<-e]
   by_cases e2:k=k'
   ·rw[show eqZ k k'=true from decide_eq_true e2,if_pos e2];rfl
   ·rw[show eqZ k k'=false from decide_eq_false e2,if_neg e2];rfl
  ·have:eqZ k' p.1=false:=decide_eq_false e
   rw[this,cond_false]
   simp only[cR]
   by_cases e2:k=p.1
   ·rw[show eqZ k p.1=true from decide_eq_true e2,cond_true,cond_true]
    rw[if_neg]
    rintro rfl
    exact e e2
   ·rw[show eqZ k p.1=false from decide_eq_false e2,cond_false,cond_false,ih]
def BE(L:List Int)(m:IM):Prop:=∀ k,cR eqZ k m=if k∈L then 1 else 0
theorem BE.next{L:List Int}{m:IM}(h:BE L m){r:Int}(hr:¬r∈L):BE (L++[r]) (eY eqZ r (IntKind.wrap .i64 (cR eqZ r m+1)) m):=by
 intro k
 rw[HZ,h r,if_neg hr]
 by_cases e:k=r
 ·subst e;simp;rfl
 ·rw[if_neg e,h k];simp[e]
theorem Fi{α A R:Type}{body:A->(A->Option R)->Option R}(l:List α)(I:Nat->A->Prop)(spec:Nat->Option R)
 (step:∀ j,(h:j<l.length)->∀ x,I j x->∀ k,(∀ y,I (j+1) y->k y=spec (j+1))->body x k=spec j) (fin:∀ x,I l.length x->∀ k,body x k=spec l.length):
 ∀ n j x,j<=l.length->l.length-j<n->I j x->aC body n x=spec j:=by
 intro n
 induction n with
 |zero=>intro j x _ h;omega
 |succ n ih=>
  intro j x hj hn hi
  rw[dP]
  rcases aj j l.length with h|h
  ·exact step j h x hi _ (λy hy=>ih (j+1) y h (by omega) hy)
  ·have:j=l.length:=by omega
   subst this
   exact fin x hi _
theorem SG{g:GrI}(ok:tv g):p92 N0 (g,())=some (((match cE (qz g) 0 g.2.2.2.1 with|some p=>(p.1,((4:Int),(p.2:Int)))|none=>((0:Int),((0:Int),(0:Int)))),()),()):=by
 delta p92 Ld Bd Wi
 simp only
 rw[show(λ(a b:Int)=>decide (a=b))=eqZ from rfl]
 refine(Fi g.2.2.2.1 (λj x=>∃ m:IM,x=((((0:Int),((0:Int),(0:Int))),(m,())),((j:Int),()))/\BE (ahead g j) m) (λj=>some (((match cE (qz g) j (g.2.2.2.1.drop j)with|some p=>(p.1,((4:Int),(p.2:Int)))|none=>((0:Int),((0:Int),(0:Int)))),()),())) (λj h x hx k hk=>?_) (λx hx k=>?_) N0 0 _ (az _) (by rw[Nat.sub_zero];exact gX ok.l0) ⟨[],rfl,λk=>by simp[cR,ahead]⟩).trans (by rw[dm])
 ·obtain⟨m,rfl,hm⟩:=hx
  simp only
  have hl:=ok.l1 _ (aN h)
  have hg:g.2.2.2.1[j]?=some g.2.2.2.1[j]:=List.getElem?_eq_getElem h
  rw[decide_eq_true (show(j:Int)<((g.2.2.2.1.length:Nat):Int) by omega),cond_true,if_pos (by omega),aa,hg,cq h]
  generalize g.2.2.2.1[j]=l at hl hg
  simp only
  refine aV ((((0:Int),((0:Int),(0:Int))),(m,())),(decide (l.1<1\/3<l.1\/l.2.length=0\/60<=j),())) (λK=>?_) ?_
  ·by_cases q1:l.1<1
   ·rw[decide_eq_true q1,cond_true,decide_eq_true (.inl q1)]
   rw[decide_eq_false q1,cond_false]
   by_cases q2:3<l.1
   ·rw[decide_eq_true q2,cond_true,decide_eq_true (.inr (.inl q2))]
   rw[decide_eq_false q2,cond_false]
   by_cases q3:l.2.length=0
   ·rw[decide_eq_true (show((l.2.length:Nat):Int)=0 by omega),cond_true,decide_eq_true (.inr (.inr (.inl q3)))]
   rw[decide_eq_false (show ¬((l.2.length:Nat):Int)=0 by omega),cond_false]
   have:decide ((60:Int)<=(j:Int))=decide (l.1<1\/3<l.1\/l.2.length=0\/60<=j):=by rw[decide_eq_decide];omega
   rw[this]
  ·simp only
   simp only[cE]
   by_cases q:l.1<1\/3<l.1\/l.2.length=0\/60<=j
   ·have e1:qz g j l=1:=by unfold qz;rw[if_pos q]
    rw[decide_eq_true q,cond_true,e1,if_neg (by omega)]
   have e1:qz g j l=match cE (vg g j l) 0 l.2 with|some p=>p.1|none=>0:=by unfold qz;rw[if_neg q]
   rw[decide_eq_false q,cond_false]
   have hz:∀ k,vg g j l k=λr=>vg g j l k r:=λ_=>rfl
   refine(Fi l.2 (λi x=>∃ m:IM,x=((((0:Int),((0:Int),(0:Int))),(m,())),((i:Int),()))/\BE (ahead g j++l.2.take i) m) (λi=>match cE (vg g j l) i (l.2.drop i)with|some p=>some (((p.1,((4:Int),(j:Int))),()),())|none=>some (((match cE (qz g) (j+1) (g.2.2.2.1.drop (j+1))with|some p=>(p.1,((4:Int),(p.2:Int)))|none=>((0:Int),((0:Int),(0:Int)))),()),())) (λi hi x hx k2 hk2=>?_) (λx hx k2=>?_) N0 0 _ (az _) (by rw[Nat.sub_zero];exact gX hl) ⟨m,rfl,by rw[List.take_zero,bV];exact hm⟩).trans ?_
   ·obtain⟨m,rfl,hm⟩:=hx
    simp only
    have hgi:l.2[i]?=some l.2[i]:=List.getElem?_eq_getElem hi
    have htk:l.2.take (i+1)=l.2.take i++[l.2[i]]:=by rw[jy,hgi];rfl
    rw[decide_eq_true (show(i:Int)<((l.2.length:Nat):Int) by omega),cond_true,if_pos (by omega),aa,hgi,cq hi]
    generalize l.2[i]=r at htk
    simp only
    rw[ae (yP g _)]
    simp only[cE]
    unfold vg
    cases hs:fU g (false,r)
    ·rw[aH,cond_true,if_pos rfl,if_neg (by omega)]
    rw[ay,cond_false,if_neg (show ¬(true=false) by simp),hm r]
    by_cases hr:r∈ahead g j++l.2.take i
    ·rw[if_pos hr,if_pos hr,show decide ((0:Int)<1)=true from rfl,cond_true,if_neg (by omega)]
    ·rw[if_neg hr,if_neg hr,show decide ((0:Int)<0)=false from rfl,cond_false,if_pos rfl,aX hi (le_max hl)]
     have hn:=hm.next hr
     rw[hm r,if_neg hr]at hn
     exact hk2 _ ⟨_,rfl,by rw[htk,<-aT];exact hn⟩
   ·obtain⟨m,rfl,hm⟩:=hx
    simp only
    rw[decide_eq_false (by omega),cond_false,aX h (le_max ok.l0),ie]
    simp only[cE]
    rw[dj]at hm
    exact hk _ ⟨m,rfl,by rw[vf hg];exact hm⟩
   ·rw[dm]
    rw[e1]
    have hne:∀ (l':List Int) (i:Nat) (p:Int×Nat),cE (vg g j l) i l'=some p->¬p.1=0:=by
     intro l'
     induction l' with
     |nil=>intro i p h;cases h
     |cons a r ih=>
      intro i p h
      simp only[cE]at h
      split at h
      ·exact ih _ _ h
      ·rename_i hn;injection h with h;rw[<-h];exact hn
    cases hf:cE (vg g j l) 0 l.2 with
    |none=>simp only[if_true]
    |some p=>
     simp only
     rw[if_neg (hne _ _ _ hf)]
 ·obtain⟨m,rfl,hm⟩:=hx
  simp only
  rw[decide_eq_false (by omega),cond_false,ie]
  rfl
end
noncomputable section
theorem H0{g:GrI}{i:Nat}{r:Int}:r∈ahead g i↔∃ a l,a<i/\g.2.2.2.1[a]?=some l/\r∈l.2:=by
 unfold ahead
 rw[dK]
 constructor
 ·rintro⟨l,h1,h2⟩
  obtain⟨a,ha⟩:=List.mem_iff_getElem?.1 h1
  rw[List.getElem?_take]at ha
  split at ha
  ·exact⟨a,l,by assumption,ha,h2⟩
  ·cases ha
 ·rintro⟨a,l,h1,h2,h3⟩
  refine⟨l,List.mem_iff_getElem?.2 ⟨a,?_⟩,h3⟩
  rw[List.getElem?_take,if_pos h1,h2]
theorem PA{g:GrI}(ok:tv g){i:Nat}{l:LvI}(hi:g.2.2.2.1[i]?=some l){k:Nat}{r:Int}(hk:l.2[k]?=some r):Oo N0 (g,((i:Int),((k:Int),())))=some ((decide (r∈ahead g i++l.2.take k),()),()):=by
 have hlt:i<g.2.2.2.1.length:=(List.getElem?_eq_some_iff.1 hi).1
 have hkt:k<l.2.length:=(List.getElem?_eq_some_iff.1 hk).1
 have h0:=ok.l0
 delta Oo Ld Bd Wi
 simp only
 refine aZ (λm x q=>∃ a:Nat,x=((),((a:Int),()))/\m+a=i+1/\a<=i/\¬r∈ahead g a/\q=some ((decide (r∈ahead g i++l.2.take k),()),())) ?_ N0 (i+1) _ _ (by unfold N0;omega) ⟨0,rfl,rfl,az _,by simp[ahead],rfl⟩
 rintro m x q ⟨a,rfl,hm,hai,hna,rfl⟩ kk hkk
 simp only
 rw[decide_eq_true (show(a:Int)<=(i:Int) by omega),cond_true]
 have ha:g.2.2.2.1[a]?=some (g.2.2.2.1[a]'(by omega)):=List.getElem?_eq_getElem _
 have hla:=ok.l1 _ (aN (show a<g.2.2.2.1.length by omega))
 generalize g.2.2.2.1[a]'(by omega)=la at ha hla
 simp only[aa,ha,hi]
 refine aZ (λm x q=>∃ b:Nat,x=((),((b:Int),()))/\m+b=la.2.length/\¬r∈la.2.take b/\(a=i->b<=k)/\q=some ((decide (r∈ahead g i++l.2.take k),()),())) ?_ N0 la.2.length _ _ (by unfold N0;omega) ⟨0,rfl,rfl,by simp,λ_=>az _,rfl⟩
 rintro m2 x q ⟨b,rfl,hm2,hnb,hbk,rfl⟩ k2 hk2
 simp only[aa]
 rw[if_pos (by omega)]
 rcases aj b la.2.length with hb|hb
 ·rw[decide_eq_true (show(b:Int)<((la.2.length:Nat):Int) by omega),cond_true]
  have hgb:la.2[b]?=some la.2[b]:=List.getElem?_eq_getElem hb
  have htk:la.2.take (b+1)=la.2.take b++[la.2[b]]:=by rw[jy,hgb];rfl
  have hin:la.2[b]∈la.2:=aN hb
  simp only[hgb,hk]
  generalize la.2[b]=rb at htk hin hgb
  refine aV ((),(decide (a=i/\k<=b),())) (λK=>?_) ?_
  ·by_cases e:a=i
   ·rw[decide_eq_true (show(a:Int)=(i:Int) by omega),cond_true]
    have:decide ((k:Int)<=(b:Int))=decide (a=i/\k<=b):=by rw[decide_eq_decide];omega
    rw[this]
   ·rw[decide_eq_false (show ¬(a:Int)=(i:Int) by omega),cond_false,decide_eq_false (λh=>e h.1)]
  ·simp only
   by_cases e:a=i/\k<=b
   ·rw[decide_eq_true e,cond_true]
    obtain⟨rfl,hkb⟩:=e
    have hbk:=hbk rfl
    have:b=k:=by omega
    subst this
    rw[hi]at ha
    injection ha with ha
    subst ha
    rw[decide_eq_false (λh=>(au.1 h).elim hna hnb)]
   ·rw[decide_eq_false e,cond_false,if_pos (by omega),if_pos (by omega),if_pos (by omega),if_pos (by omega)]
    by_cases er:rb=r
    ·subst er
     rw[decide_eq_true rfl,cond_true,decide_eq_true]
     by_cases eai:a=i
     ·subst eai
      rw[hi]at ha
      injection ha with ha
      subst ha
      refine au.2 (.inr (List.mem_iff_getElem?.2 ⟨b,?_⟩))
      rw[List.getElem?_take,if_pos (by omega),hgb]
     ·exact au.2 (.inl (H0.2 ⟨a,la,by omega,ha,hin⟩))
    ·rw[decide_eq_false er,cond_false,aX hb (le_max hla)]
     refine hk2 (m2-1) _ _ (by omega) ⟨b+1,rfl,by omega,?_,λh=>by omega,rfl⟩
     rw[htk]
     intro h
     rcases au.1 h with h|h
     ·exact hnb h
     ·simp at h;exact er h.symm
 ·rw[decide_eq_false (show ¬(b:Int)<((la.2.length:Nat):Int) by omega),cond_false,aX (show a<g.2.2.2.1.length by omega) (le_max h0)]
  have:b=la.2.length:=by omega
  subst this
  rw[dj]at hnb
  have wZ:¬r∈ahead g (a+1):=by
   rw[vf ha]
   intro h
   exact(au.1 h).elim hna hnb
  have Zb:a<i:=by
   rcases aj a i with h|h
   ·exact h
   ·exfalso
    have:a=i:=by omega
    subst this
    rw[hi]at ha
    injection ha with ha
    subst ha
    have:=hbk rfl
    omega
  exact hkk (m-1) _ _ (by omega) ⟨a+1,rfl,by omega,by omega,wZ,rfl⟩
theorem SH{g:GrI}(ok:tv g){i:Nat}{l:LvI}(hi:g.2.2.2.1[i]?=some l):p80 N0 (g,((i:Int),()))=some ((qz g i l,()),()):=by
 have hl:=ok.l1 _ (List.mem_of_getElem? hi)
 delta p80 Ld Bd Wi
 simp only
 rw[if_pos (by omega),aa,hi]
 simp only
 refine aV ((),(decide (l.1<1\/3<l.1\/l.2.length=0\/60<=i),())) (λK=>?_) ?_
 ·by_cases q1:l.1<1
  ·rw[decide_eq_true q1,cond_true,decide_eq_true (.inl q1)]
  rw[decide_eq_false q1,cond_false]
  by_cases q2:3<l.1
  ·rw[decide_eq_true q2,cond_true,decide_eq_true (.inr (.inl q2))]
  rw[decide_eq_false q2,cond_false]
  by_cases q3:l.2.length=0
  ·rw[decide_eq_true (show((l.2.length:Nat):Int)=0 by omega),cond_true,decide_eq_true (.inr (.inr (.inl q3)))]
  rw[decide_eq_false (show ¬((l.2.length:Nat):Int)=0 by omega),cond_false]
  have:decide ((60:Int)<=(i:Int))=decide (l.1<1\/3<l.1\/l.2.length=0\/60<=i):=by rw[decide_eq_decide];omega
  rw[this]
 ·simp only
  unfold qz
  by_cases q:l.1<1\/3<l.1\/l.2.length=0\/60<=i
  ·rw[decide_eq_true q,cond_true,if_pos q]
  rw[decide_eq_false q,cond_false,if_neg q]
  refine(si l.2 (λj=>((),((j:Int),()))) (vg g i l) (λe _=>some ((e,()),())) (some ((0,()),())) (λj h k=>?_) (λk=>?_) N0 (gX hl)).trans ?_
  ·simp only
   have hg:l.2[j]?=some l.2[j]:=List.getElem?_eq_getElem h
   rw[decide_eq_true (show(j:Int)<((l.2.length:Nat):Int) by omega),cond_true,if_pos (by omega),aa,hg]
   generalize l.2[j]=r at hg
   simp only
   rw[ae (yQ g _)]
   simp only
   unfold vg
   cases hs:fU g (false,r)
   ·rw[aH,cond_true,if_pos rfl,if_neg (by omega)]
   rw[ay,cond_false,if_neg (show ¬(true=false) by simp),ae (PA ok hi hg)]
   simp only
   by_cases hr:r∈ahead g i++l.2.take j
   ·rw[if_pos hr,decide_eq_true hr,cond_true,if_neg (by omega)]
   ·rw[if_neg hr,decide_eq_false hr,cond_false,if_pos rfl,aX h (le_max hl)]
  ·simp only
   rw[decide_eq_false (by omega),cond_false]
  ·cases cE (vg g i l) 0 l.2 <;> rfl
def Fj(g:GrI):Flt:=if g.2.2.2.2<0\/(g.2.1.length:Int)<=g.2.2.2.2 then(11,(5,0))else(0,(0,0))
def BF(g:GrI):Flt:=match cE (qz g) 0 g.2.2.2.1 with
 |some p=>(p.1,(4,(p.2:Int)))
 |none=>Fj g
def xo(g:GrI):Flt:=if 200<g.2.2.1.length then(6,(3,(g.2.2.1.length:Int)))else match cE (lz g) 0 g.2.2.1 with
 |some p=>(p.1,(3,(p.2:Int)))
 |none=>BF g
def xp(g:GrI):Flt:=if 300<g.2.1.length then(6,(2,(g.2.1.length:Int)))else match cE (jZ g) 0 g.2.1 with
 |some p=>(p.1,(2,(p.2:Int)))
 |none=>xo g
def eA(g:GrI):Flt:=
 if ¬(ly g.1).2=0 then((ly g.1).2,(1,((ly g.1).1:Int)))else xp g
def gP(v:Flt):Option ((Int×(Int×(Int×Unit)))×Unit):=some ((v.1,(v.2.1,(v.2.2,()))),())
theorem jH{α:Type}{E:Nat->α->Int}:∀ {l:List α} {i:Nat} {p:Int×Nat},cE E i l=some p->¬p.1=0:=by
 intro l
 induction l with
 |nil=>intro i p h;cases h
 |cons a r ih=>
  intro i p h
  simp only[cE]at h
  split at h
  ·exact ih h
  ·rename_i hn;injection h with h;rw[<-h];exact hn
theorem Lj{g:GrI}(ok:tv g)(h12:∀ r∈g.1,r.2.2.length<=12):p43 N0 (g,())=some ((eA g,()),()):=by
 delta p43 Bd Wi;unfold eA
 simp only
 rw[ae (SB (le_max ok.r0) ok.r1 h12)]
 simp only
 by_cases e1:(ly g.1).2=0
 case neg=>rw[decide_eq_false e1,aH,cond_true,if_pos e1]
 rw[decide_eq_true e1,ay,cond_false,if_neg (show ¬¬(ly g.1).2=0 from λh=>h e1),ae (SC ok)]
 simp only
 unfold xp
 by_cases e2:300<g.2.1.length
 ·rw[if_pos e2,if_pos e2];rfl
 rw[if_neg e2,if_neg e2]
 cases e3:cE (jZ g) 0 g.2.1 with
 |some p=>
  simp only
  rw[decide_eq_false (jH e3),aH,cond_true]
 |none=>
 simp only
 rw[decide_true,ay,cond_false]
 unfold xo
 by_cases e4:200<g.2.2.1.length
 ·rw[decide_eq_true (show(200:Int)<((g.2.2.1.length:Nat):Int) by omega),cond_true,if_pos e4]
 rw[decide_eq_false (show ¬(200:Int)<((g.2.2.1.length:Nat):Int) by omega),cond_false,if_neg e4]
 refine(si g.2.2.1 (λj=>((((0:Int),((0:Int),(0:Int))),()),((j:Int),()))) (lz g) (λe j=>some (((e,(3,(j:Int))),()),())) (some ((BF g,()),())) (λj h k=>?_) (λk=>?_) N0 (gX ok.p0)).trans ?_
 ·simp only
  rw[decide_eq_true (show(j:Int)<((g.2.2.1.length:Nat):Int) by omega),cond_true,ae (SE ok (List.getElem?_eq_getElem h))]
  simp only
  by_cases e:lz g j g.2.2.1[j]=0
  ·rw[decide_eq_true e,ay,cond_false,if_pos e,aX h (le_max ok.p0)]
  ·rw[decide_eq_false e,aH,cond_true,if_neg e]
 ·simp only
  rw[decide_eq_false (by omega),cond_false,ae (SG ok)]
  simp only
  unfold BF
  cases e5:cE (qz g) 0 g.2.2.2.1 with
  |some p=>
   simp only
   rw[decide_eq_false (jH e5),aH,cond_true]
  |none=>
   simp only
   rw[decide_true,ay,cond_false]
   refine aV ((((0:Int),((0:Int),(0:Int))),()),(decide (g.2.2.2.2<0\/(g.2.1.length:Int)<=g.2.2.2.2),())) (λK=>?_) ?_
   ·by_cases q1:g.2.2.2.2<0
    ·rw[decide_eq_true q1,cond_true,decide_eq_true (.inl q1)]
    ·rw[decide_eq_false q1,cond_false]
     have:decide (g.2.2.2.2<0\/(g.2.1.length:Int)<=g.2.2.2.2)=decide ((g.2.1.length:Int)<=g.2.2.2.2):=by rw[decide_eq_decide];exact⟨λh=>h.resolve_left q1,.inr⟩
     rw[this]
   ·simp only
    unfold Fj
    by_cases q:g.2.2.2.2<0\/(g.2.1.length:Int)<=g.2.2.2.2
    ·rw[decide_eq_true q,cond_true,if_pos q]
    ·rw[decide_eq_false q,cond_false,if_neg q]
 ·cases cE (lz g) 0 g.2.2.1 <;> rfl
theorem Lk{g:GrI}(ok:tv g):p37 N0 (g,())=some (((eA g).1,((eA g).2.1,((eA g).2.2,()))),()):=by
 delta p37 Bd Wi;unfold eA
 simp only
 rw[ae (SA (le_max ok.r0) ok.r1)]
 simp only
 by_cases e1:(ly g.1).2=0
 case neg=>rw[decide_eq_false e1,aH,cond_true,if_pos e1]
 rw[decide_eq_true e1,ay,cond_false,if_neg (show ¬¬(ly g.1).2=0 from λh=>h e1)]
 show _=gP (xp g)
 unfold xp
 by_cases e2:300<g.2.1.length
 ·rw[decide_eq_true (show(300:Int)<((g.2.1.length:Nat):Int) by omega),cond_true,if_pos e2];rfl
 rw[decide_eq_false (show ¬(300:Int)<((g.2.1.length:Nat):Int) by omega),cond_false,if_neg e2]
 refine(si g.2.1 (λj=>((),((j:Int),()))) (jZ g) (λe j=>gP (e,(2,(j:Int)))) (gP (xo g)) (λj h k=>?_) (λk=>?_) N0 (gX ok.s0)).trans ?_
 ·simp only
  rw[decide_eq_true (show(j:Int)<((g.2.1.length:Nat):Int) by omega),cond_true,ae (SD ok (List.getElem?_eq_getElem h))]
  simp only
  by_cases e:jZ g j g.2.1[j]=0
  ·rw[decide_eq_true e,ay,cond_false,if_pos e,aX h (le_max ok.s0)]
  ·rw[decide_eq_false e,aH,cond_true,if_neg e];rfl
 ·simp only
  rw[decide_eq_false (by omega),cond_false]
  unfold xo
  by_cases e4:200<g.2.2.1.length
  ·rw[decide_eq_true (show(200:Int)<((g.2.2.1.length:Nat):Int) by omega),cond_true,if_pos e4];rfl
  rw[decide_eq_false (show ¬(200:Int)<((g.2.2.1.length:Nat):Int) by omega),cond_false,if_neg e4]
  refine(si g.2.2.1 (λj=>((),((j:Int),()))) (lz g) (λe j=>gP (e,(3,(j:Int)))) (gP (BF g)) (λj h k=>?_) (λk=>?_) N0 (gX ok.p0)).trans ?_
  ·simp only
   rw[decide_eq_true (show(j:Int)<((g.2.2.1.length:Nat):Int) by omega),cond_true,ae (SF ok (List.getElem?_eq_getElem h))]
   simp only
   by_cases e:lz g j g.2.2.1[j]=0
   ·rw[decide_eq_true e,ay,cond_false,if_pos e,aX h (le_max ok.p0)]
   ·rw[decide_eq_false e,aH,cond_true,if_neg e];rfl
  ·simp only
   rw[decide_eq_false (by omega),cond_false]
   unfold BF
   refine(si g.2.2.2.1 (λj=>((),((j:Int),()))) (qz g) (λe j=>gP (e,(4,(j:Int)))) (gP (Fj g)) (λj h k=>?_) (λk=>?_) N0 (gX ok.l0)).trans ?_
   ·simp only
    rw[decide_eq_true (show(j:Int)<((g.2.2.2.1.length:Nat):Int) by omega),cond_true,ae (SH ok (List.getElem?_eq_getElem h))]
    simp only
    by_cases e:qz g j g.2.2.2.1[j]=0
    ·rw[decide_eq_true e,ay,cond_false,if_pos e,aX h (le_max ok.l0)]
    ·rw[decide_eq_false e,aH,cond_true,if_neg e];rfl
   ·simp only
    rw[decide_eq_false (by omega),cond_false]
    refine aV ((),(decide (g.2.2.2.2<0\/(g.2.1.length:Int)<=g.2.2.2.2),())) (λK=>?_) ?_
    ·by_cases q1:g.2.2.2.2<0
     ·rw[decide_eq_true q1,cond_true,decide_eq_true (.inl q1)]
     ·rw[decide_eq_false q1,cond_false]
      have:decide (g.2.2.2.2<0\/(g.2.1.length:Int)<=g.2.2.2.2)=decide ((g.2.1.length:Int)<=g.2.2.2.2):=by rw[decide_eq_decide];exact⟨λh=>h.resolve_left q1,.inr⟩
      rw[this]
    ·simp only
     unfold Fj
     by_cases q:g.2.2.2.2<0\/(g.2.1.length:Int)<=g.2.2.2.2
     ·rw[decide_eq_true q,cond_true,if_pos q];rfl
     ·rw[decide_eq_false q,cond_false,if_neg q];rfl
   ·cases cE (qz g) 0 g.2.2.2.1 <;> rfl
  ·cases cE (lz g) 0 g.2.2.1 <;> rfl
 ·cases cE (jZ g) 0 g.2.1 <;> rfl
end
end Go.Proofs.YtphipehmbefejaaGreat.Rf
namespace Go.Proofs.YtphipehmbefejaaGreat.Rf.Rk
open Go Go.Proofs.YtphipehmbefejaaGreat.Rf
noncomputable section
abbrev Lvl:=Int×List Int
abbrev Prd:=Int×(List Int×(List (Bool×Int)×(Bool×(Int×List Int))))
abbrev Grm:=List (List Int×(Int×List Int))×(List (List Int)×(List Prd×(List Lvl×Int)))
structure GOk(g:Grm):Prop where
 ls:g.2.2.2.1.length<=maxLen
 lr:∀ l∈g.2.2.2.1,l.2.length<=maxLen
 ps:g.2.2.1.length<=maxLen
 pb:∀ p∈g.2.2.1,p.2.2.1.length<=maxLen
 rs:g.1.length<=maxLen
 so:g.2.1.length<=maxLen
def Du(r:List Int×(Int×List Int)):Bool:=decide (r.2.2.length<=40)&&decide (r.1.length<=100)
def vj(l:List (List Int×(Int×List Int))):Bool:=decide (l.length<=20)&&l.all Du
theorem SI(l:List (List Int×(Int×List Int)))(hl:l.length<=maxLen):p57 N0 (l,())=some ((vj l,()),()):=by
 delta p57 Ld Bd Wi;unfold vj
 simp only[aE,bx,decide_eq_true_eq]
 by_cases h1:(20:Int)<(l.length:Int)
 ·have:¬l.length<=20:=by omega
  simp[h1,this]
 ·have h2:l.length<=20:=by omega
  simp only[h1,h2,if_false,decide_true,bG]
  refine a8 (λj=>((),((j:Int),()))) (λj=>some (((l.drop j).all Du,()),())) l.length (λj hj k hk=>?_) N0 0 (az _) (by have:=gd hl;omega)
  rcases aj j l.length with hi|hi
  ·have hk:=hk hi
   have hc:(j:Int)<(l.length:Int):=by omega
   simp only[hc,if_true,aa,aB,List.getElem?_eq_getElem hi,aX hi hl,cq hi,List.all_cons,hk]
   generalize l[j]=r
   unfold Du
   by_cases h3:(40:Int)<(r.2.2.length:Int)
   ·have:¬r.2.2.length<=40:=by omega
    simp[h3,this]
   ·have h4:r.2.2.length<=40:=by omega
    by_cases h5:(100:Int)<(r.1.length:Int)
    ·have:¬r.1.length<=100:=by omega
     simp[h3,h5,this]
    ·have:r.1.length<=100:=by omega
     simp[h3,h4,h5,this]
  ·have hc:¬(j:Int)<(l.length:Int):=by omega
   simp[hc,dX hi]
def vk(p:Prd):Bool:=decide (p.2.2.1.length<=20)&&(decide (p.2.2.2.2.2.length<=20)&&decide (p.2.1.length<=100))
def few(g:Grm):Bool:=vj g.1&&(decide (g.2.1.length<=20)&&(decide (g.2.2.1.length<=40)&&(decide (g.2.2.2.1.length<=20)&&(g.2.1.all (λs=>decide (s.length<=100))&&(g.2.2.1.all vk&&g.2.2.2.1.all (λl=>decide (l.2.length<=20)))))))
theorem SJ(g:Grm)(hg:GOk g):p35 N0 (g,())=some ((few g,()),()):=by
 delta p35 Ld Bd Wi;unfold few
 simp only[aE,SI g.1 hg.rs,aD,bx,decide_eq_true_eq]
 have e20:∀ a:Nat,((20:Int)<(a:Int))↔¬a<=20:=λa=>by omega
 have e40:∀ a:Nat,((40:Int)<(a:Int))↔¬a<=40:=λa=>by omega
 have YG:∀ a:Nat,((100:Int)<(a:Int))↔¬a<=100:=λa=>by omega
 simp only[e20,e40,YG]
 cases h1:vj g.1
 ·simp
 by_cases h2:g.2.1.length<=20
 case neg=>simp[h2]
 by_cases h3:g.2.2.1.length<=40
 case neg=>simp[h2,h3]
 by_cases h4:g.2.2.2.1.length<=20
 case neg=>simp[h2,h3,h4]
 simp only[h2,h3,h4,ay,not_true,ap,if_false,decide_false,decide_true,bG]
 refine(eo (after:=?a1) g.2.1 (λs=>decide (s.length<=100)) (some ((false,()),())) (λj=>((),(j:Int),())) ?s1 ?f1 N0 ?n1).trans ?_
 case f1=>intro k;simp only[gy,if_false];exact rfl
 case n1=>have:=gd hg.so;omega
 case s1=>
  intro j hj k
  have hc:(j:Int)<(g.2.1.length:Int):=by omega
  simp only[hc,if_true,aa,aB,List.getElem?_eq_getElem hj,aX hj hg.so,e20,decide_eq_true_eq]
  split <;> simp_all
 split
 case isFalse h=>simp[h]
 case isTrue h5=>
 simp only[h5,bG]
 refine(eo (after:=?a2) g.2.2.1 vk (some ((false,()),())) (λj=>((),(j:Int),())) ?s2 ?f2 N0 ?n2).trans ?_
 case f2=>intro k;simp only[gy,if_false];exact rfl
 case n2=>have:=gd hg.ps;omega
 case s2=>
  intro j hj k
  have hc:(j:Int)<(g.2.2.1.length:Int):=by omega
  simp only[hc,if_true,aa,aB,List.getElem?_eq_getElem hj,aX hj hg.ps,e20,vk]
  generalize g.2.2.1[j]=p
  by_cases a1:p.2.2.1.length<=20 <;> by_cases a2:p.2.2.2.2.2.length<=20 <;> by_cases a3:p.2.1.length<=100 <;> simp[a1,a2,a3]
 split
 case isFalse h=>simp[h]
 case isTrue h6=>
 simp only[h6,bG]
 refine(eo (after:=some ((true,()),())) g.2.2.2.1 (λl=>decide (l.2.length<=20)) (some ((false,()),())) (λj=>((),(j:Int),())) ?s3 ?f3 N0 ?n3).trans ?_
 case f3=>intro k;simp only[gy,if_false]
 case n3=>have:=gd hg.ls;omega
 case s3=>
  intro j hj k
  have hc:(j:Int)<(g.2.2.2.1.length:Int):=by omega
  simp only[hc,if_true,aa,aB,List.getElem?_eq_getElem hj,aX hj hg.ls,e20,decide_eq_true_eq]
  split <;> simp_all
 split
 case isFalse h=>simp[h]
 case isTrue h7=>simp[h7]
end
noncomputable section
abbrev ItS:=Int×(Int×Int)
def ltK(x y:ItS):Prop:=x.1<y.1\/x.1=y.1/\x.2.1<y.2.1
def je(x:ItS):Prop:=0<=x.2.2/\x.2.2<18446744073709551616
theorem pE{x y z:ItS}(h1:ltK x y)(h2:ltK y z):ltK x z:=by unfold ltK at *;omega
theorem qA{x:ItS}(h:ltK x x):False:=by unfold ltK at h;omega
theorem Ll(x y:ItS):ltK x y\/(x.1=y.1/\x.2.1=y.2.1)\/ltK y x:=by unfold ltK;omega
def At(l:List ItS)(p d:Int):Option Nat->Prop
 |none=>∃ x∈l,x.1=p/\x.2.1=d
 |some b=>∃ x∈l,x.1=p/\x.2.1=d/\x.2.2.toNat.testBit b=true
theorem At.there{l:List ItS}{p d:Int}{o:Option Nat}(h:At l p d o):At l p d none:=by
 cases o with
 |none=>exact h
 |some b=>obtain⟨x,h1,h2,h3,_⟩:=h;exact⟨x,h1,h2,h3⟩
theorem jf{l m:List ItS}{p d:Int}{o:Option Nat}:At (l++m) p d o↔At l p d o\/At m p d o:=by
 cases o with
 |none=>
  constructor
  ·rintro⟨x,h1,h2⟩
   rcases au.1 h1 with h|h
   ·exact .inl ⟨x,h,h2⟩
   ·exact .inr ⟨x,h,h2⟩
  ·rintro(⟨x,h1,h2⟩|⟨x,h1,h2⟩)
   ·exact⟨x,au.2 (.inl h1),h2⟩
   ·exact⟨x,au.2 (.inr h1),h2⟩
 |some b=>
  constructor
  ·rintro⟨x,h1,h2⟩
   rcases au.1 h1 with h|h
   ·exact .inl ⟨x,h,h2⟩
   ·exact .inr ⟨x,h,h2⟩
  ·rintro(⟨x,h1,h2⟩|⟨x,h1,h2⟩)
   ·exact⟨x,au.2 (.inl h1),h2⟩
   ·exact⟨x,au.2 (.inr h1),h2⟩
theorem Dv{p d:Int}{o:Option Nat}:¬At [] p d o:=by
 cases o with
 |none=>rintro⟨x,h,_⟩;cases h
 |some b=>rintro⟨x,h,_⟩;cases h
structure Can(A:Int->Int->Option Nat->Prop)(l:List ItS):Prop where
 st:l.Pairwise ltK
 bd:∀ x∈l,je x
 at':∀ p d o,At l p d o↔A p d o
theorem pF{l:List ItS}(h:l.Pairwise ltK):∀ x∈l,∀ y∈l,x.1=y.1->x.2.1=y.2.1->x=y:=by
 induction l with
 |nil=>intro x hx;cases hx
 |cons a l ih=>
  obtain⟨h1,h2⟩:=dx.1 h
  grind [ltK]
theorem vm:∀ {l m:List ItS},l.Pairwise ltK->m.Pairwise ltK->(∀ x,x∈l↔x∈m)->l=m
 |[],[],_,_,_=>rfl
 |[],b::m,_,_,h=>by have:=(h b).2 bu;cases this
 |a::l,[],_,_,h=>by have:=(h a).1 bu;cases this
 |a::l,b::m,h1,h2,h=>by
  obtain⟨p1,p2⟩:=dx.1 h1
  obtain⟨q1,q2⟩:=dx.1 h2
  have e:a=b:=by grind [List.mem_cons_self,qA,pE]
  subst e
  have:=vm p2 q2 (λx=>by
   constructor
   ·intro hx
    rcases aI.1 ((h x).1 (bB _ hx))with rfl|hm
    ·exact(qA (p1 x hx)).elim
    ·exact hm
   ·intro hx
    rcases aI.1 ((h x).2 (bB _ hx))with rfl|hm
    ·exact(qA (q1 x hx)).elim
    ·exact hm)
  rw[this]
theorem Can.BG{A:Int->Int->Option Nat->Prop}{l m:List ItS}(h:Can A l)(k:Can A m):l=m:=by
 have half:∀ {l m:List ItS},Can A l->Can A m->∀ x∈l,x∈m:=by
  intro l m h k x hx
  obtain⟨y,hy,e1,e2⟩:=(k.at' x.1 x.2.1 none).2 ((h.at' _ _ _).1 ⟨x,hx,rfl,rfl⟩)
  have YY:x.2.2.toNat=y.2.2.toNat:=by
   refine fD λb=>?_
   rw[cI]
   constructor
   ·intro hb
    obtain⟨z,hz,f1,f2,f3⟩:=(k.at' x.1 x.2.1 (some b)).2 ((h.at' _ _ _).1 ⟨x,hx,rfl,rfl,hb⟩)
    rw[<-pF k.st z hz y hy (by omega) (by omega)];exact f3
   ·intro hb
    obtain⟨z,hz,f1,f2,f3⟩:=(h.at' x.1 x.2.1 (some b)).2 ((k.at' _ _ _).1 ⟨y,hy,e1,e2,hb⟩)
    rw[<-pF h.st z hz x hx (by omega) (by omega)];exact f3
  have b1:=h.bd x hx
  have b2:=k.bd y hy
  grind [je]
 exact vm h.st k.st λx=>⟨half h k x,half k h x⟩
theorem Can.congr{A B:Int->Int->Option Nat->Prop}{l:List ItS}(h:Can A l)(e:∀ p d o,A p d o↔B p d o):Can B l:=⟨h.st,h.bd,λp d o=>(h.at' p d o).trans (e p d o)⟩
def orI(a b:Int):Int:=((a.toNat|||b.toNat:Nat):Int)
def U64(a:Int):Prop:=0<=a/\a<18446744073709551616
theorem mE{a b:Int}(ha:U64 a)(hb:U64 b):U64 (orI a b):=by
 unfold orI U64 at *
 have:=rc (x:=a.toNat) (y:=b.toNat) (n:=64) (by omega) (by omega)
 omega
theorem dG(a b:Int)(n:Nat):(orI a b).toNat.testBit n=(a.toNat.testBit n||b.toNat.testBit n):=by
 unfold orI
 simp_all
theorem vn{a:Int}(h:0<=a):orI a 0=a:=by unfold orI;simp;omega
theorem Lm{a:Int}(h:0<=a):orI 0 a=a:=by unfold orI;simp;omega
theorem BH{a b:Int}(ha:U64 a)(hb:U64 b)(h:∀ n,n<64->a.toNat.testBit n=b.toNat.testBit n):a=b:=by
 unfold U64 at *
 have e:(2:Nat) ^ 64=18446744073709551616:=by decide
 have:a.toNat=b.toNat:=by
  refine fD λn=>?_
  rcases aj n 64 with h1|h1
  ·exact h n h1
  ·have hp:18446744073709551616<=2 ^ n:=by rw[<-e];exact hY (by omega) h1
   grind [Nat.testBit_lt_two_pow]
 omega
theorem Qp{a:Int}(ha:U64 a){n:Nat}(h:a.toNat.testBit n=true):n<64:=by
 unfold U64 at ha
 rcases aj n 64 with h1|h1
 ·exact h1
 ·have e:(2:Nat) ^ 64=18446744073709551616:=by decide
  have hp:18446744073709551616<=2 ^ n:=by rw[<-e];exact hY (by omega) h1
  grind [Nat.testBit_lt_two_pow]
theorem Fk{A:Int->Int->Option Nat->Prop}{X Y:List ItS}{x:ItS}(h:Can A (X++Y))(hx:je x)(h1:∀ a∈X,ltK a x)(h2:∀ b∈Y,ltK x b):
 Can (λp d o=>A p d o\/At [x] p d o) (X++x::Y):=by
 refine⟨?_,?_,λp d o=>?_⟩
 ·have:=gu.1 h.st
  refine gu.2 ⟨this.1,dx.2 ⟨h2,this.2.1⟩,λa ha b hb=>?_⟩
  grind
 ·intro y hy
  rcases au.1 hy with hy|hy
  ·exact h.bd y (au.2 (.inl hy))
  ·rcases aI.1 hy with rfl|hy
   ·exact hx
   ·exact h.bd y (au.2 (.inr hy))
 ·rw[<-h.at',show X++x::Y=X++([x]++Y)from rfl,jf,jf,jf]
  grind
theorem SK{A:Int->Int->Option Nat->Prop}{X Y:List ItS}{x y:ItS}(h:Can A (X++y::Y))(hx:je x)(e1:y.1=x.1)(e2:y.2.1=x.2.1):
 Can (λp d o=>A p d o\/At [x] p d o) (X++(y.1,(y.2.1,orI y.2.2 x.2.2))::Y):=by
 have hy:=h.bd y (by simp)
 have hs:=gu.1 h.st
 have hs2:=dx.1 hs.2.1
 refine⟨?_,?_,λp d o=>?_⟩
 ·refine gu.2 ⟨hs.1,dx.2 ⟨λb hb=>hs2.1 b hb,hs2.2⟩,λa ha b hb=>?_⟩
  rcases aI.1 hb with rfl|hb
  ·exact hs.2.2 a ha y bu
  simp_all
 ·intro z hz
  rcases au.1 hz with hz|hz
  ·exact h.bd z (au.2 (.inl hz))
  ·rcases aI.1 hz with rfl|hz
   ·exact mE hy hx
   ·exact h.bd z (by simp[hz])
 ·have key:At [(y.1,(y.2.1,orI y.2.2 x.2.2))] p d o↔At [y] p d o\/At [x] p d o:=by
   cases o with
   |none=>simp[At,e1,e2]
   |some b=>
    simp only[At,aK,exists_eq_left,dG,aJ,e1,e2]
    grind
  rw[<-h.at',show X++(y.1,(y.2.1,orI y.2.2 x.2.2))::Y=X++([(y.1,(y.2.1,orI y.2.2 x.2.2))]++Y)from rfl,show X++y::Y=X++([y]++Y)from rfl,jf,jf,jf,jf,key]
  grind
theorem Fl:Can (λ_ _ _=>False) []:=⟨.nil,(λx h=>by cases h),λp d o=>⟨λh=>Dv h,λh=>h.elim⟩⟩
end
noncomputable section
abbrev Ato:=Int->Int->Option Nat->Prop
section
variable (st:Int->Int->Int->Prop) (fs:Int->Int->Nat->Prop) (nl:Int->Int->Prop)
def Stp(A:Ato):Ato:=λq d' o=>d'=0/\match o with
 |none=>∃ p d,A p d none/\st p d q
 |some b=>∃ p d,st p d q/\(A p d none/\fs p d b\/A p d (some b)/\nl p d)
inductive Cl(B:Ato):Int->Int->Option Nat->Prop
 |base {p d o}:B p d o->Cl B p d o
 |there {p d q}:Cl B p d none->st p d q->Cl B q 0 none
 |first {p d q b}:Cl B p d none->st p d q->fs p d b->Cl B q 0 (some b)
 |look {p d q b}:Cl B p d (some b)->st p d q->nl p d->Cl B q 0 (some b)
variable {st fs nl}
theorem Cl.stp{B:Ato}{p d:Int}{o:Option Nat}(h:Stp st fs nl (Cl st fs nl B) p d o):Cl st fs nl B p d o:=by
 obtain⟨rfl,h⟩:=h
 cases o with
 |none=>obtain⟨p',d',h1,h2⟩:=h;exact .there h1 h2
 |some b=>
  obtain⟨p',d',h1,h2|h2⟩:=h
  ·exact .first h2.1 h1 h2.2
  ·exact .look h2.1 h1 h2.2
theorem Cl.least{B A:Ato}(hB:∀ p d o,B p d o->A p d o)(hA:∀ p d o,Stp st fs nl A p d o->A p d o){p d:Int}{o:Option Nat}(h:Cl st fs nl B p d o):A p d o:=by
 induction h with
 |base h=>exact hB _ _ _ h
 |there _ h2 ih=>exact hA _ _ _ ⟨rfl,_,_,ih,h2⟩
 |first _ h2 h3 ih=>exact hA _ _ _ ⟨rfl,_,_,h2,.inl ⟨ih,h3⟩⟩
 |look _ h2 h3 ih=>exact hA _ _ _ ⟨rfl,_,_,h2,.inr ⟨ih,h3⟩⟩
theorem Stp.mono{A A':Ato}(h:∀ p d o,A p d o->A' p d o){p d:Int}{o:Option Nat}(k:Stp st fs nl A p d o):Stp st fs nl A' p d o:=by
 obtain⟨rfl,k⟩:=k
 refine⟨rfl,?_⟩
 grind
theorem Cl.mono{B B':Ato}(h:∀ p d o,B p d o->B' p d o){p d:Int}{o:Option Nat}(k:Cl st fs nl B p d o):Cl st fs nl B' p d o:=
 Cl.least (λp d o hb=>.base (h p d o hb)) (λp d o hs=>Cl.stp hs) k
end
def gT{α:Type}(U:List α)(P:α->Prop):Nat:=by
 classical exact U.countP λu=>!decide (P u)
theorem qB{α:Type}{U:List α}{P Q:α->Prop}(h:∀ u∈U,P u->Q u):gT U Q<=gT U P:=by
 classical
 unfold gT
 refine List.countP_mono_left λu hu hq=>?_
 grind
theorem iX{α:Type}(U:List α)(P:α->Prop):gT U P<=U.length:=by simp[gT,List.countP_le_length]
theorem oO{α:Type}{U:List α}{P Q:α->Prop}(h:∀ u∈U,P u->Q u){a:α}(ha:a∈U)(hp:¬P a)(hq:Q a):gT U Q<gT U P:=by
 classical
 induction U with
 |nil=>cases ha
 |cons b U ih=>
  have hle:gT U Q<=gT U P:=qB λu hu=>h u (bB _ hu)
  have e:∀ R:α->Prop,gT (b::U) R=gT U R+(if R b then 0 else 1):=λR=>by
   unfold gT
   grind
  grind
structure InU(k:Nat)(p d:Int)(o:Option Nat):Prop where
 p0:0<=p
 p1:p<=k
 d0:0<=d
 d1:d<=20
 b:∀ b,o=some b->b<64
def wv(k:Nat):List (Nat×Nat×Nat):=(List.range (k+1)).flatMap λp=>(List.range 21).flatMap λd=>(List.range 65).map λb=>(p,d,b)
def ofB:Nat->Option Nat
 |0=>none
 |b+1=>some b
def onU(A:Ato)(u:Nat×Nat×Nat):Prop:=A u.1 u.2.1 (ofB u.2.2)
theorem Ln{k:Nat}{p d:Int}{o:Option Nat}(h:InU k p d o):∃ u∈wv k,(u.1:Int)=p/\(u.2.1:Int)=d/\ofB u.2.2=o:=by
 have h1:=h.p0
 have h2:=h.p1
 have h3:=h.d0
 have h4:=h.d1
 refine⟨(p.toNat,d.toNat,match o with|none=>0|some b=>b+1),?_,by show(p.toNat:Int)=p;omega,by show(d.toNat:Int)=d;omega,by cases o <;> rfl⟩
 unfold wv
 refine dK.2 ⟨p.toNat,cr.2 (by omega),dK.2 ⟨d.toNat,cr.2 (by omega),eE.2 ⟨_,cr.2 ?_,rfl⟩⟩⟩
 cases o with
 |none=>simp
 |some b=>have:=h.b b rfl;show b+1<65;omega
theorem Lo(k:Nat):(wv k).length=(k+1)*1365:=by simp[wv,oe]
theorem Lp{k:Nat}{A A':Ato}{l l':List ItS}(h:Can A l)(h':Can A' l')(hs:∀ p d o,A p d o->A' p d o)(hU:∀ p d o,A' p d o->InU k p d o)(hne:l≠l'):gT (wv k) (onU A')<gT (wv k) (onU A):=by
 have:∃ p d o,A' p d o/\¬A p d o:=by
  apply ju
  intro hn
  refine hne ((h.congr λp d o=>⟨hs p d o,λha=>?_⟩).BG h')
  simp_all
 obtain⟨p,d,o,h1,h2⟩:=this
 obtain⟨u,hu,rfl,rfl,rfl⟩:=Ln (hU _ _ _ h1)
 exact oO (λv _ hv=>hs _ _ _ hv) hu h2 h1
theorem PB{k:Nat}{A:Ato}{l:List ItS}(h:Can A l)(hU:∀ p d o,A p d o->InU k p d o):l.length<=(k+1)*21:=by
 have hp:∀ x∈l,0<=x.1/\x.1<=k/\0<=x.2.1/\x.2.1<=20:=λx hx=>by
  have:=hU _ _ _ ((h.at' x.1 x.2.1 none).1 ⟨x,hx,rfl,rfl⟩)
  exact⟨this.p0,this.p1,this.d0,this.d1⟩
 have key:∀ (l:List ItS),l.Pairwise ltK->(∀ x∈l,0<=x.1/\x.1<=k/\0<=x.2.1/\x.2.1<=20)->∀ n:Nat,(∀ x∈l,(n:Int)<=x.1*21+x.2.1)->l.length+n<=(k+1)*21\/l=[]:=by
  intro l
  induction l with
  |nil=>intro _ _ n _;exact .inr rfl
  |cons x l ih=>
   intro hs hp n hn
   obtain⟨s1,s2⟩:=dx.1 hs
   have hx:=hp x bu
   have hnx:=hn x bu
   refine .inl ?_
   rcases ih s2 (λy hy=>hp y (bB _ hy)) (n+1) (λy hy=>by
    have h1:=s1 y hy
    have h2:=hp y (bB _ hy)
    unfold ltK at h1
    omega)with h|h
   all_goals grind
 rcases key l h.st hp 0 (λx hx=>by have:=hp x hx;omega)with h|h
 ·omega
 simp_all
end
noncomputable section
abbrev SyS:=Bool×Int
abbrev PrS:=Int×(List Int×(List SyS×(Bool×(Int×List Int))))
def inR(n:Nat)(s:Int):Bool:=decide (0<=s)&&decide (s<n)
theorem iQ{n:Nat}{s:Int}:inR n s=true↔0<=s/\s<n:=by unfold inR;simp
inductive Emp(ps:List PrS)(n:Nat):Int->Prop
 |mk (p:PrS):p∈ps->inR n p.1=true->(∀ y∈p.2.2.1,y.1=true)->(∀ y∈p.2.2.1,Emp ps n y.2)->Emp ps n p.1
inductive Fst(ps:List PrS)(n:Nat):Int->Nat->Prop
 |tok (p:PrS) (pre:List SyS) (y:SyS) (post:List SyS) (b:Nat):p∈ps->inR n p.1=true->p.2.2.1=pre++y::post->(∀ z∈pre,z.1=true/\Emp ps n z.2)->y.1=false->y.2=(b:Int)->b<=63->Fst ps n p.1 b
 |sort (p:PrS) (pre:List SyS) (y:SyS) (post:List SyS) (b:Nat):p∈ps->inR n p.1=true->p.2.2.1=pre++y::post->(∀ z∈pre,z.1=true/\Emp ps n z.2)->y.1=true->Fst ps n y.2 b->Fst ps n p.1 b
theorem Emp.inR{ps:List PrS}{n:Nat}{s:Int}(h:Emp ps n s):inR n s=true:=by cases h;assumption
theorem Fst.inR{ps:List PrS}{n:Nat}{s:Int}{b:Nat}(h:Fst ps n s b):Rk.inR n s=true:=by cases h <;> assumption
theorem Fst.lt{ps:List PrS}{n:Nat}{s:Int}{b:Nat}(h:Fst ps n s b):b<64:=by
 induction h with
 |tok=>omega
 |sort=>assumption
def pG(k:Int):Int:=if 0<=k/\k<=63 then((2 ^ k.toNat:Nat):Int)else 0
theorem sj(k:Int):U64 (pG k):=by
 unfold pG U64
 split
 ·have h1:(2:Nat) ^ k.toNat<=2 ^ 63:=hY (by omega) (by omega)
  grind
 ·omega
theorem qC(k:Int)(b:Nat):(pG k).toNat.testBit b=true↔k=(b:Int)/\b<=63:=by
 unfold pG
 split
 ·rw[aa,kK]
  grind
 ·simp
  omega
def eT(n:Nat)(f:Nat->Bool)(F:Nat->Int):List SyS->Int×Bool
 |[]=>(0,true)
 |y::r=>if y.1=false then(pG y.2,false)else if inR n y.2=true then(if f y.2.toNat=true then(orI (F y.2.toNat) (eT n f F r).1,(eT n f F r).2)else(F y.2.toNat,false))else(0,false)
def emR(n:Nat)(f:Nat->Bool)(b:List SyS):Bool:=b.all λy=>y.1&&inR n y.2&&f y.2.toNat
variable {n:Nat} {f:Nat->Bool} {F:Nat->Int}
theorem jg(h:∀ i,U64 (F i)):∀ b,U64 (eT n f F b).1
 |[]=>⟨by show(0:Int)<=0;omega,by show(0:Int)<_;omega⟩
 |y::r=>by
  unfold eT
  split
  ·exact sj _
  ·split
   ·split
    ·exact mE (h _) (jg h r)
    ·exact h _
   ·exact⟨by show(0:Int)<=0;omega,by show(0:Int)<_;omega⟩
theorem yS:∀ b,(eT n f F b).2=emR n f b
 |[]=>rfl
 |y::r=>by
  unfold eT emR
  rw[List.all_cons]
  cases hy:y.1
  ·simp
  ·cases hr:inR n y.2
   ·simp
   ·cases hf:f y.2.toNat
    ·simp
    ·simp[yS r,emR]
theorem Fm{b:List SyS}:emR n f b=true↔∀ y∈b,y.1=true/\inR n y.2=true/\f y.2.toNat=true:=by
 unfold emR
 simp_all
def Beg(n:Nat)(f:Nat->Bool)(F:Nat->Int)(body:List SyS)(b:Nat):Prop:=
 ∃ pre y post,body=pre++y::post/\(∀ z∈pre,z.1=true/\inR n z.2=true/\f z.2.toNat=true)/\(y.1=false/\y.2=(b:Int)/\b<=63\/y.1=true/\inR n y.2=true/\(F y.2.toNat).toNat.testBit b=true)
theorem lA:∀ (body:List SyS) (b:Nat),(eT n f F body).1.toNat.testBit b=true↔Beg n f F body b
 |[],b=>by
  constructor
  ·simp[eT]
  ·rintro⟨pre,y,post,h,_⟩;simp at h
 |y::r,b=>by
  have ih:=lA r b
  constructor
  ·intro h
   unfold eT at h
   split at h
   ·rename_i hy
    rw[qC]at h
    exact⟨[],y,r,rfl,(λz hz=>by cases hz),.inl ⟨hy,h⟩⟩
   ·rename_i hy
    have hy:y.1=true:=by simpa using hy
    split at h
    ·rename_i hr
     split at h
     ·rename_i hf
      rw[dG,aJ]at h
      rcases h with h|h
      ·exact⟨[],y,r,rfl,(λz hz=>by cases hz),.inr ⟨hy,hr,h⟩⟩
      ·obtain⟨pre,x,post,rfl,h1,h2⟩:=ih.1 h
       refine⟨y::pre,x,post,rfl,λz hz=>?_,h2⟩
       grind
     ·exact⟨[],y,r,rfl,(λz hz=>by cases hz),.inr ⟨hy,hr,h⟩⟩
    ·simp at h
  ·rintro⟨pre,x,post,he,h1,h2⟩
   cases pre with
   |nil=>
    simp only[cm,e8]at he
    obtain⟨rfl,rfl⟩:=he
    unfold eT
    rcases h2 with⟨hy,h2⟩|⟨hy,hr,h2⟩
    ·simp_all [qC]
    ·rw[if_neg (by simp[hy]),if_pos hr]
     split
     all_goals simp_all [dG]
   |cons z pre=>
    simp only[gx,e8]at he
    obtain⟨rfl,rfl⟩:=he
    obtain⟨k1,k2,k3⟩:=h1 y bu
    unfold eT
    rw[if_neg (by simp[k1]),if_pos k2,if_pos k3,dG,ih.2 ⟨pre,x,post,rfl,λz hz=>h1 z (bB _ hz),h2⟩,jA]
def yT(n:Nat)(f:Nat->Bool)(F:Nat->Int)(b:List SyS)(look:Int):Int:=if(eT n f F b).2=true then orI (eT n f F b).1 look else(eT n f F b).1
theorem SL(h:∀ i,U64 (F i)){b:List SyS}{look:Int}(hl:U64 look):U64 (yT n f F b look):=by grind [yT,mE,jg]
theorem Lr{b:List SyS}{look:Int}{t:Nat}:(yT n f F b look).toNat.testBit t=true↔Beg n f F b t\/emR n f b=true/\look.toNat.testBit t=true:=by
 unfold yT
 rw[yS]
 split
 all_goals simp_all [dG,lA]
structure IsT(ps:List PrS)(n:Nat)(f:Nat->Bool)(F:Nat->Int):Prop where
 e:∀ i,i<n->(f i=true↔Emp ps n (i:Int))
 u:∀ i,U64 (F i)
 b:∀ i,i<n->∀ b,(F i).toNat.testBit b=true↔Fst ps n (i:Int) b
def inN(n:Nat)(F:Nat->Int):List Int:=(List.range n).map F
def bsS(n:Nat)(f:Nat->Bool):List Bool:=(List.range n).map f
theorem Ls{ps:List PrS}{n:Nat}{f g:Nat->Bool}{F G:Nat->Int}(h:IsT ps n f F)(k:IsT ps n g G):bsS n f=bsS n g/\inN n F=inN n G:=by
 constructor
 ·refine qZ λi hi=>?_
  have hi:=cr.1 hi
  rw[cI,h.e i hi,k.e i hi]
 ·refine qZ λi hi=>?_
  have hi:=cr.1 hi
  refine BH (h.u i) (k.u i) λb _=>?_
  rw[cI,h.b i hi,k.b i hi]
structure PC(ps:List PrS)(n:Nat)(f:Nat->Bool)(F:Nat->Int):Prop where
 e:∀ i,f i=true->Emp ps n (i:Int)
 u:∀ i,U64 (F i)
 b:∀ i b,(F i).toNat.testBit b=true->Fst ps n (i:Int) b
theorem iY{n:Nat}{s:Int}(h:inR n s=true):((s.toNat:Nat):Int)=s:=by rw[iQ]at h;omega
theorem yU{ps:List PrS}{p:PrS}(hp:p∈ps)(hr:inR n p.1=true)(he:∀ i,f i=true->Emp ps n (i:Int))(h:emR n f p.2.2.1=true):Emp ps n p.1:=by
 rw[Fm]at h
 refine .mk p hp hr (λy hy=>(h y hy).1) λy hy=>?_
 grind [iY]
theorem BJ{ps:List PrS}{p:PrS}(hp:p∈ps)(hr:inR n p.1=true)(he:∀ i,f i=true->Emp ps n (i:Int))(hb:∀ i b,(F i).toNat.testBit b=true->Fst ps n (i:Int) b){b:Nat}(h:Beg n f F p.2.2.1 b):Fst ps n p.1 b:=by
 obtain⟨pre,y,post,e,h1,h2⟩:=h
 have xU:∀ z∈pre,z.1=true/\Emp ps n z.2:=λz hz=>by grind [iY]
 rcases h2 with⟨k1,k2,k3⟩|⟨k1,k2,k3⟩
 ·exact .tok p pre y post b hp hr e xU k1 k2 k3
 ·have:=hb _ _ k3
  rw[iY k2]at this
  exact .sort p pre y post b hp hr e xU k1 this
theorem Lt{ps:List PrS}(hc:∀ p∈ps,inR n p.1=true->emR n f p.2.2.1=true->f p.1.toNat=true){s:Int}(h:Emp ps n s):f s.toNat=true:=by
 induction h with
 |mk p hp hr h1 h2 ih=>exact hc p hp hr (Fm.2 λy hy=>⟨h1 y hy,(h2 y hy).inR,ih y hy⟩)
theorem SM{ps:List PrS}(he:∀ s,Emp ps n s->f s.toNat=true)(hc:∀ p∈ps,inR n p.1=true->∀ b,Beg n f F p.2.2.1 b->(F p.1.toNat).toNat.testBit b=true){s:Int}{b:Nat}(h:Fst ps n s b):(F s.toNat).toNat.testBit b=true:=by
 induction h with
 |tok p pre y post b hp hr e h1 k1 k2 k3=>exact hc p hp hr b ⟨pre,y,post,e,λz hz=>⟨(h1 z hz).1,(h1 z hz).2.inR,he _ (h1 z hz).2⟩,.inl ⟨k1,k2,k3⟩⟩
 |sort p pre y post b hp hr e h1 k1 k2 ih=>exact hc p hp hr b ⟨pre,y,post,e,λz hz=>⟨(h1 z hz).1,(h1 z hz).2.inR,he _ (h1 z hz).2⟩,.inr ⟨k1,k2.inR,ih⟩⟩
theorem PC.isT{ps:List PrS}(h:PC ps n f F)(hE:∀ p∈ps,inR n p.1=true->emR n f p.2.2.1=true->f p.1.toNat=true)(hF:∀ p∈ps,inR n p.1=true->∀ b,Beg n f F p.2.2.1 b->(F p.1.toNat).toNat.testBit b=true):IsT ps n f F:=by
 have he:∀ s,Emp ps n s->f s.toNat=true:=λs hs=>Lt hE hs
 exact⟨λi _=>⟨h.e i,λhs=>he _ hs⟩,h.u,λi _ b=>⟨h.b i b,λhs=>SM he hF hs⟩⟩
end
noncomputable section
theorem wrap_u64{n:Int}(h:U64 n):IntKind.wrap .u64 n=n:=by
 unfold U64 at h
 simp[IntKind.wrap,IntKind.bits,IntKind.signed]
 omega
theorem mf{a b:Int}(ha:U64 a)(hb:U64 b):dL .or .u64 a b=orI a b:=by
 have h:=mE ha hb
 unfold dL orI
 simp only
 have e:(BitVec.ofInt (IntKind.bits .u64) a|||BitVec.ofInt (IntKind.bits .u64) b).toNat=a.toNat|||b.toNat:=by
  rw[rj]
  have k:∀ x:Int,U64 x->(BitVec.ofInt (IntKind.bits .u64) x).toNat=x.toNat:=λx hx=>by
   unfold U64 at hx
   rw[n5]
   show(x % ((2 ^ 64:Nat):Int)).toNat=x.toNat
   rw[Int.emod_eq_of_lt hx.1 (by
    have:((2 ^ 64:Nat):Int)=18446744073709551616:=by decide
    omega)]
  rw[k a ha,k b hb]
 rw[e]
 exact wrap_u64 h
theorem yV(k:Int)(h1:-9223372036854775808<=k)(h2:k<=9223372036854775807):HA N0 (k,())=some ((pG k,()),()):=by
 delta HA Bd
 simp only[aE,bx,decide_eq_true_eq]
 have hb:=sj k
 unfold pG at hb |-
 by_cases a:k<0
 ·rw[if_pos a,if_pos trivial,if_neg (by omega)]
 rw[if_neg a]
 by_cases b:63<k
 ·rw[if_pos (by simpa using b),if_neg (by omega)]
 rw[if_neg (by simpa using b)]
 have hw:IntKind.wrap .u64 k=k:=wrap_u64 ⟨by omega,by omega⟩
 have hm:Nat.min k.toNat (IntKind.bits .u64)=k.toNat:=dl (by show k.toNat<=64;omega)
 rw[hw,if_neg a,hm]
 rw[if_pos (by omega)]at hb |-
 rw[show(1:Int)*2 ^ k.toNat=((2 ^ k.toNat:Nat):Int) by simp,wrap_u64 hb]
def kf(f:Nat->Bool):Nat->Nat
 |0=>0
 |n+1=>kf f n+if f n=true then 2 ^ n else 0
theorem tL(f:Nat->Bool):∀ n,kf f n<2 ^ n
 |0=>by show 0<1;omega
 |n+1=>by
  have:=tL f n
  simp only[kf,jB]
  split <;> omega
theorem iZ(f:Nat->Bool):∀ n i,(kf f n).testBit i=(decide (i<n)&&f i)
 |0,i=>by simp[kf]
 |n+1,i=>by
  have ih:=iZ f n
  have hlt:=tL f n
  simp only[kf]
  cases hf:f n
  ·simp only[ap,if_false,ik,ih]
   by_cases e:i=n
   ·subst e;simp[hf]
   ·by_cases h:i<n
    ·simp[h,e7 h]
    ·have:¬i<n+1:=by omega
     simp[h,this]
  ·simp only[if_true]
   have h2:=wA hlt 1
   rw[iq]at h2
   rw[Nat.add_comm,h2,ot,kK,ih]
   by_cases e:i=n
   ·subst e;simp[hf]
   ·have e':¬n=i:=λh=>e h.symm
    by_cases h:i<n
    ·simp[h,e7 h,e']
    ·have:¬i<n+1:=by omega
     simp[h,this,e']
theorem tM(f:Nat->Bool):Kl N0 (bsS 64 f,())=some ((((kf f 64:Nat):Int),()),()):=by
 have hl:(bsS 64 f).length=64:=by simp[bsS]
 delta Kl Ld Bd Wi
 simp only[aE,bx,decide_eq_true_eq]
 have e64:(2:Nat) ^ 64=18446744073709551616:=by decide
 refine a8 (λj=>((),(((kf f j:Nat):Int),((IntKind.wrap .u64 ((2 ^ j:Nat):Int)),((j:Int),()))))) (λj=>some ((((kf f 64:Nat):Int),()),())) 64 (λj hj k hk=>?_) N0 0 (az _) (by unfold N0;omega)
 simp only[hl]
 rcases aj j 64 with h|h
 ·have c1:(j:Int)<((64:Nat):Int):=by omega
  have c2:(j:Int)<64:=by omega
  have hg:(bsS 64 f)[j]?=some (f j):=by unfold bsS;rw[List.getElem?_map,List.getElem?_range h];rfl
  have hp:(2:Nat) ^ j<2 ^ 64:=nZ (by omega) h
  have hU:U64 ((2 ^ j:Nat):Int):=by
   rw[e64]at hp
   generalize (2:Nat) ^ j=z at hp |-
   exact⟨by omega,by omega⟩
  have hv:=tL f (j+1)
  have hv2:(2:Nat) ^ (j+1)<=2 ^ 64:=hY (by omega) h
  have hk:=hk h
  have hdb:IntKind.wrap .u64 (((2 ^ j:Nat):Int)*2)=IntKind.wrap .u64 ((2 ^ (j+1):Nat):Int):=by rw[jB];simp
  have hj1:IntKind.wrap .i64 ((j:Int)+1)=((j+1:Nat):Int):=by rw[bp (by omega) (by omega)];simp
  simp only[c1,if_true,c2,decide_true,aB,aa,hg,wrap_u64 hU,hdb,hj1]
  rw[<-hk]
  cases hf:f j
  ·simp[kf,hf]
  ·have:IntKind.wrap .u64 (((kf f j:Nat):Int)+((2 ^ j:Nat):Int))=((kf f (j+1):Nat):Int):=by
    simp only[kf,hf,if_true]at hv |-
    rw[e64]at hv2
    generalize (2:Nat) ^ j=z at hv |-
    generalize (2:Nat) ^ (j+1)=z2 at hv hv2
    rw[wrap_u64 ⟨by omega,by omega⟩];simp
   simp only[if_true,this]
 ·have e:j=64:=by omega
  subst e
  simp
theorem pH(f:Nat->Bool):U64 ((kf f 64:Nat):Int):=by
 have:=tL f 64
 have e64:(2:Nat) ^ 64=18446744073709551616:=by decide
 exact⟨by omega,by omega⟩
theorem qD(n:Nat):List.replicate n false=bsS n λ_=>false:=by
 unfold bsS;rw[oe];simp
theorem oP(n:Nat)(f:Nat->Bool):(bsS n f).length=n:=by simp[bsS]
theorem jo{n:Nat}(f:Nat->Bool){i:Nat}(h:i<n):(bsS n f)[i]?=some (f i):=by
 unfold bsS;rw[List.getElem?_map,List.getElem?_range h];rfl
def c7{α:Type}(f:Nat->α)(i:Nat)(v:α):Nat->α:=λj=>if j=i then v else f j
theorem map_set{α:Type}(n:Nat)(f:Nat->α)(i:Nat)(v:α):((List.range n).map f).set i v=(List.range n).map (c7 f i v):=by
 apply List.ext_getElem?
 intro j
 rw[List.getElem?_set]
 by_cases hj:j<n
 ·rw[List.getElem?_map,List.getElem?_range hj,List.getElem?_map,List.getElem?_range hj]
  by_cases e:i=j
  ·subst e
   rw[if_pos rfl,if_pos (by simpa using hj)]
   simp[c7]
  ·have e':¬j=i:=λh=>e h.symm
   rw[if_neg e]
   simp[c7,e']
 ·have e1:((List.range n).map f)[j]?=none:=List.getElem?_eq_none (by simp;omega)
  have e2:((List.range n).map (c7 f i v))[j]?=none:=List.getElem?_eq_none (by simp;omega)
  rw[e1,e2]
  simp
  omega
theorem oQ{n:Nat}(f:Nat->Bool)(i:Nat)(v:Bool):(bsS n f).set i v=bsS n (c7 f i v):=map_set n f i v
theorem Fo(k:Int):Km N0 (k,())=some ((pG k,()),()):=by
 delta Km Ld Bd
 have key:∀ f:Nat->Bool,(∀ i,f i=true↔k=(i:Int)/\i<=63)->((kf f 64:Nat):Int)=pG k:=λf hf=>by
  refine BH (pH f) (sj k) λi hi=>?_
  rw[aa,iZ,cI,qC,ag,hf]
  simp[hi]
 simp only[aE,bx,decide_eq_true_eq,show Int.toNat 64=64 from rfl,qD]
 rw[if_pos (by decide),if_pos (by decide)]
 by_cases h1:0<=k
 ·by_cases h2:k<64
  ·have hk:k.toNat<64:=by omega
   simp only[h1,h2,if_true,decide_true,jo _ hk,oQ,tM,aD]
   rw[key _ (λi=>by simp[c7];omega)]
  ·simp only[h1,h2,if_true,decide_false,ap,if_false,tM,aD]
   rw[key _ (λi=>by simp;omega)]
 ·simp only[h1,if_false,ap,tM,aD]
  rw[key _ (λi=>by simp;omega)]
def sk(A:Nat):Nat->Nat
 |0=>A
 |j+1=>sk A j / 2
theorem yW(A:Nat):∀ j,sk A j=A / 2 ^ j
 |0=>by simp[sk]
 |j+1=>by rw[sk,yW A j,jB,nX]
theorem PD(A j:Nat):sk A j<=A:=by rw[yW];exact rm _ _
theorem Dw{a:Int}(ha:U64 a){n:Nat}(hn:n<64):p54 N0 (a,((n:Int),()))=some ((a.toNat.testBit n,()),()):=by
 obtain⟨A,rfl⟩:∃ A:Nat,a=(A:Int):=⟨a.toNat,by unfold U64 at ha;omega⟩
 delta p54 Bd Wi
 have h1:¬(n:Int)<0:=by omega
 have h2:¬(63:Int)<(n:Int):=by omega
 simp only[aE,bx,decide_eq_true_eq,h1,if_false,h2,decide_false,ap,aa]
 have hU:∀ j,U64 ((sk A j:Nat):Int):=λj=>by
  have:=PD A j
  unfold U64 at *
  omega
 refine a8 (λj=>((),(((sk A j:Nat):Int),((j:Int),())))) (λj=>some ((A.testBit n,()),())) n (λj hj k hk=>?_) N0 0 (az _) (by unfold N0;omega)
 simp only[show ¬(2:Int)=0 by omega,if_false]
 rcases aj j n with h|h
 ·have c:(j:Int)<(n:Int):=by omega
  have hd:Int.tdiv ((sk A j:Nat):Int) 2=((sk A (j+1):Nat):Int):=rfl
  have hj1:IntKind.wrap .i64 ((j:Int)+1)=((j+1:Nat):Int):=by rw[bp (by omega) (by omega)];simp
  simp only[c,if_true,hd,wrap_u64 (hU _),hj1]
  exact hk h
 ·have e:j=n:=by omega
  subst e
  simp only[gy,if_false]
  congr 3
  rw[qS,<-yW]
  have:Int.tmod ((sk A j:Nat):Int) 2=((sk A j % 2:Nat):Int):=rfl
  rw[this]
  by_cases hz:sk A j % 2=1
  ·simp[hz]
  ·have:¬((sk A j % 2:Nat):Int)=1:=by omega
   simp only[hz,this,decide_false]
theorem tN{a b:Int}(ha:U64 a)(hb:U64 b):Dg N0 (a,(b,()))=some ((orI a b,()),()):=by
 delta Dg Ld Bd Wi
 simp only[aE,bx,decide_eq_true_eq,show Int.toNat 64=64 from rfl,qD]
 rw[if_pos (by decide),if_pos (by decide)]
 refine a8 (λj=>((bsS 64 (λi=>decide (i<j)&&(a.toNat.testBit i||b.toNat.testBit i)),()),((j:Int),()))) (λj=>some ((orI a b,()),())) 64 (λj hj k hk=>?_) N0 0 (az _) (by unfold N0;omega)
 rcases aj j 64 with h|h
 ·have c:(j:Int)<64:=by omega
  have hj1:IntKind.wrap .i64 ((j:Int)+1)=((j+1:Nat):Int):=by rw[bp (by omega) (by omega)];simp
  have hu:∀ v,v=(a.toNat.testBit j||b.toNat.testBit j)->c7 (λi=>decide (i<j)&&(a.toNat.testBit i||b.toNat.testBit i)) j v=λi=>decide (i<j+1)&&(a.toNat.testBit i||b.toNat.testBit i):=λv hv=>by
   funext i
   unfold c7
   by_cases e:i=j
   ·subst e;simp[hv]
   ·rw[if_neg e]
    by_cases h:i<j
    ·simp[h,e7 h]
    ·have:¬i<j+1:=by omega
     simp[h,this]
  have hk:=hk h
  simp only[c,if_true,Dw ha h,Dw hb h,aD,aB,aa,jo _ h,oQ,hj1]
  rw[<-hk]
  cases h1:a.toNat.testBit j
  ·simp only[ap,if_false]
   rw[hu _ (by rw[h1,cP])]
  ·simp only[if_true]
   rw[hu _ (by rw[h1,gz])]
 ·have e:j=64:=by omega
  subst e
  simp only[show ¬((64:Nat):Int)<64 by omega,if_false,tM,aD]
  congr 3
  refine BH (pH _) (mE ha hb) λi hi=>?_
  rw[aa,iZ,dG]
  simp[hi]
end
noncomputable section
theorem H2(a b c:Int):orI (orI a b) c=orI a (orI b c):=by simp[orI,Nat.or_assoc]
theorem xq:U64 0:=⟨by omega,by omega⟩
theorem kt{n:Nat}(F:Nat->Int){i:Nat}(h:i<n):(inN n F)[i]?=some (F i):=by grind [inN]
theorem qE(n:Nat)(F:Nat->Int):(inN n F).length=n:=by simp[inN]
theorem tO{n:Nat}(F:Nat->Int)(i:Nat)(v:Int):(inN n F).set i v=inN n (c7 F i v):=map_set n F i v
theorem yX(n:Nat):List.replicate n (0:Int)=inN n λ_=>0:=by simp[inN,oe]
def H3(b:List SyS):Prop:=∀ y∈b,-9223372036854775808<=y.2/\y.2<=9223372036854775807
variable {n:Nat} {f:Nat->Bool} {F:Nat->Int}
theorem Lu(hF:∀ i,U64 (F i)){body:List SyS}(hb:H3 body)(hl:body.length<=maxLen):p93 N0 ((bsS n f,inN n F),(body,()))=some (((eT n f F body).1,((eT n f F body).2,())),()):=by
 delta p93 Ld Bd Wi
 simp only[aE,bx,decide_eq_true_eq,oP,qE]
 refine(aZ (λm x r=>∃ (j:Nat) (out:Int),x=((),(out,((j:Int),())))/\j<=body.length/\m=body.length-j/\U64 out/\r=some (((orI out (eT n f F (body.drop j)).1,((eT n f F (body.drop j)).2,())),()):(Int×(Bool×Unit))×Unit)) ?_ N0 body.length _ _ (by have:=gd hl;omega) ⟨0,0,rfl,az _,rfl,xq,rfl⟩).trans (by rw[dm,Lm (jg hF body).1])
 rintro m x r ⟨j,out,rfl,hjl,rfl,tm,rfl⟩ k hk
 rcases aj j body.length with h|h
 ·have c:(j:Int)<(body.length:Int):=by omega
  have hy:=hb _ (aN h)
  simp only[c,if_true,aB,aa,List.getElem?_eq_getElem h,aX h hl]
  rw[cq h]
  generalize body[j]=y at hy |-
  unfold eT
  cases h1:y.1
  ·simp only[aH,if_true,yV y.2 hy.1 hy.2,aD,mf tm (sj _)]
  ·simp only[ay,ap,if_false,reduceCtorEq]
   by_cases h2:y.2<0
   ·have:inR n y.2=false:=by unfold inR;simp;omega
    simp only[h2,if_true,this,ap,if_false,vn tm.1]
   ·by_cases h3:(n:Int)<=y.2
    ·have:inR n y.2=false:=by unfold inR;simp;omega
     simp only[h2,if_false,h3,if_true,this,ap,vn tm.1]
    ·have hr:inR n y.2=true:=by rw[iQ];omega
     have hi:y.2.toNat<n:=by omega
     have h0:0<=y.2:=by omega
     simp only[h2,if_false,h3,decide_false,ap,hr,if_true,h0,kt F hi,jo f hi]
     cases hf:f y.2.toNat
     ·simp only[aH,if_true,mf tm (hF _),ap,if_false]
     ·simp only[ay,ap,if_false,if_true,mf tm (hF _)]
      rw[<-H2]
      exact hk _ _ _ (by omega) ⟨j+1,_,rfl,by omega,rfl,mE tm (hF _),rfl⟩
 ·have c:¬(j:Int)<(body.length:Int):=by omega
  simp only[c,if_false]
  rw[dX h]
  show _=some (((orI out 0,(true,())),()))
  rw[vn tm.1]
theorem SN(hF:∀ i,U64 (F i)){body:List SyS}(hb:H3 body)(hl:body.length<=maxLen){look:Int}(hk:U64 look):p97 N0 ((bsS n f,inN n F),(body,(look,())))=some ((yT n f F body look,()),()):=by
 unfold p97 yT
 simp only[Lu hF hb hl,aD,bx]
 grind [mf,jg]
theorem yY(hF:∀ i,U64 (F i)):∀ (d:Nat) (body:List SyS),H3 body->body.length<d->Bf N0 d (bsS n f,(inN n F,(body,())))=some (((eT n f F body).1,((eT n f F body).2,())),())
 |0,body,_,h=>by omega
 |d+1,body,hb,hd=>by
  rw[Bf]
  unfold EG
  simp only[aE,bx,decide_eq_true_eq,oP,qE]
  cases body with
  |nil=>simp[eT]
  |cons y r=>
   have c:¬(((y::r).length:Nat):Int)=0:=by simp;omega
   have ih:=yY hF d r (λz hz=>hb z (bB _ hz)) (by rw[aO]at hd;omega)
   simp only[c,if_false,im,if_true,Int.toNat_zero,List.getElem?_cons_zero]
   unfold eT
   cases h1:y.1
   ·simp only[aH,if_true,Fo,aD]
   ·simp only[ay,ap,if_false,reduceCtorEq]
    by_cases h2:y.2<0
    ·have:inR n y.2=false:=by unfold inR;simp;omega
     simp only[h2,if_true,this,ap,if_false]
    ·by_cases h3:(n:Int)<=y.2
     ·have:inR n y.2=false:=by unfold inR;simp;omega
      simp only[h2,if_false,h3,if_true,this,ap]
     ·have hr:inR n y.2=true:=by rw[iQ];omega
      have hi:y.2.toNat<n:=by omega
      have h0:0<=y.2:=by omega
      simp only[h2,if_false,h3,decide_false,ap,hr,if_true,h0,kt F hi,jo f hi]
      cases hf:f y.2.toNat
      ·simp only[aH,if_true,ap,if_false]
      ·have rZ:cn (y::r) 1 (((y::r).length:Nat):Int)=r:=by simp[cn]
       have c2:(0:Int)<=1/\(1:Int)<=(((y::r).length:Nat):Int)/\True:=⟨by omega,by simp;omega,trivial⟩
       simp only[ay,ap,if_false,if_true]
       rw[if_pos c2,rZ,ih]
       simp only[aD,tN (hF _) (jg hF r)]
theorem PE(hF:∀ i,U64 (F i)){body:List SyS}(hb:H3 body)(hl:body.length<=maxLen){look:Int}(hk:U64 look):Kq N0 (bsS n f,(inN n F,(body,(look,()))))=some ((yT n f F body look,()),()):=by
 unfold Kq yT Kp
 simp only[yY hF N0 body hb (by have:=gd hl;omega),aD,bx,tN (jg hF body) hk]
 split <;> rfl
end
noncomputable section
abbrev GrS:=List (List Int×(Int×List Int))×(List (List Int)×(List PrS×(List (Int×List Int)×Int)))
structure Gs(g:GrS):Prop where
 ns:g.2.1.length<=20
 ps:g.2.2.1.length<=12
 pb:∀ p∈g.2.2.1,p.2.2.1.length<=20
 py:∀ p∈g.2.2.1,H3 p.2.2.1
 st:-9223372036854775808<=g.2.2.2.2/\g.2.2.2.2<=9223372036854775807
theorem cJ{α:Type}:∀ (l:List α) (j:Nat) (h:j<l.length),l.take (j+1)=l.take j++[l[j]]
 |[],j,h=>by simp at h
 |a::l,0,h=>by simp
 |a::l,j+1,h=>by simp_all
theorem bJ{j n:Nat}(h:j<n)(hn:n<=1000000):IntKind.wrap .i64 ((j:Int)+1)=((j+1:Nat):Int):=by grind [bp]
def stE(n:Nat)(f:Nat->Bool)(p:PrS):Nat->Bool:=if(emR n f p.2.2.1&&inR n p.1)=true then c7 f p.1.toNat true else f
def rdE(n:Nat)(ps:List PrS)(f:Nat->Bool):Nat->Bool:=ps.foldl (stE n) f
def itE(n:Nat)(ps:List PrS):Nat->Nat->Bool
 |0=>λ_=>false
 |k+1=>rdE n ps (itE n ps k)
theorem Lv{n:Nat}{f:Nat->Bool}(b:List SyS)(y:SyS):emR n f (b++[y])=(emR n f b&&(y.1&&inR n y.2&&f y.2.toNat)):=by simp[emR]
set_option maxHeartbeats 1000000 in
theorem Lw{g:GrS}(hg:Gs g):HE N0 (g,())=some ((bsS g.2.1.length (itE g.2.1.length g.2.2.1 (g.2.1.length+1)),()),()):=by
 have hns:=hg.ns
 have hps:=hg.ps
 obtain⟨n,hn⟩:∃ n,n=g.2.1.length:=⟨_,rfl⟩
 delta HE Ld Bd Wi
 simp only[aE,bx,decide_eq_true_eq,<-hn,qD,aa]
 rw[<-hn]at hns
 rw[if_pos ⟨by omega,by omega⟩,if_pos (by omega)]
 refine a8 (λj=>((bsS n (itE n g.2.2.1 j),()),((j:Int),()))) (λ_=>some ((bsS n (itE n g.2.2.1 (n+1)),()),())) (n+1) (λk hk K hK=>?_) N0 0 (az _) (by unfold N0;omega)
 simp only[oP]
 rcases aj k (n+1)with h|h
 ·have c:(k:Int)<=(n:Int):=by omega
  have hK:=hK h
  have hk1:IntKind.wrap .i64 ((k:Int)+1)=((k+1:Nat):Int):=bJ h (by omega)
  simp only[c,if_true,hk1]
  rw[<-hK,show itE n g.2.2.1 (k+1)=rdE n g.2.2.1 (itE n g.2.2.1 k)from rfl]
  generalize itE n g.2.2.1 k=f0 at *
  refine a8 (λi=>((bsS n (rdE n (g.2.2.1.take i) f0),()),((i:Int),()))) (λ_=>K ((bsS n (rdE n g.2.2.1 f0),()),(((k+1:Nat):Int),()))) g.2.2.1.length (λi hi L hL=>?_) N0 0 (az _) (by unfold N0;omega)
  rcases aj i g.2.2.1.length with hil|hil
  ·have ci:(i:Int)<(g.2.2.1.length:Int):=by omega
   have hL:=hL hil
   have hi1:IntKind.wrap .i64 ((i:Int)+1)=((i+1:Nat):Int):=bJ hil (by omega)
   have s8:rdE n (g.2.2.1.take (i+1)) f0=stE n (rdE n (g.2.2.1.take i) f0) g.2.2.1[i]:=by grind [rdE,cJ]
   have hp:=aN hil
   have hbl:=hg.pb _ hp
   simp only[ci,if_true,aB,aa,List.getElem?_eq_getElem hil,hi1]
   rw[s8]at hL
   generalize rdE n (g.2.2.1.take i) f0=f at *
   generalize g.2.2.1[i]=p at *
   refine a8 (λj=>((bsS n f,()),(emR n f (p.2.2.1.take j),((j:Int),())))) (λ_=>K ((bsS n (rdE n g.2.2.1 f0),()),(((k+1:Nat):Int),()))) p.2.2.1.length (λj hj M hM=>?_) N0 0 (az _) (by unfold N0;omega)
   rcases aj j p.2.2.1.length with hjl|hjl
   ·have cj:(j:Int)<(p.2.2.1.length:Int):=by omega
    have hM:=hM hjl
    rw[cJ _ _ hjl,Lv]at hM
    have hj1:IntKind.wrap .i64 ((j:Int)+1)=((j+1:Nat):Int):=bJ hjl (by omega)
    simp only[cj,if_true,aB,aa,List.getElem?_eq_getElem hjl,hj1,oP]
    generalize p.2.2.1[j]=y at *
    rw[<-hM]
    cases h1:emR n f (p.2.2.1.take j)
    ·simp
    ·cases h2:y.1
     ·simp
     ·by_cases h3:0<=y.2
      ·by_cases h4:y.2<(n:Int)
       ·have hr:inR n y.2=true:=iQ.2 ⟨h3,h4⟩
        have hyl:y.2.toNat<n:=by omega
        simp only[if_true,h3,h4,jo f hyl,hr,bG]
       ·have hr:inR n y.2=false:=by unfold inR;simp[h4]
        simp only[if_true,h3,h4,if_false,hr,bG,dA]
      ·have hr:inR n y.2=false:=by unfold inR;simp[h3]
       simp only[if_true,h3,if_false,hr,bG,dA]
   ·have cj:¬(j:Int)<(p.2.2.1.length:Int):=by omega
    rw[bK hjl]
    simp only[cj,if_false,oP]
    rw[<-hL]
    unfold stE
    cases h1:emR n f p.2.2.1
    ·simp
    ·by_cases h3:0<=p.1
     ·by_cases h4:p.1<(n:Int)
      ·have hr:inR n p.1=true:=iQ.2 ⟨h3,h4⟩
       have hyl:p.1.toNat<n:=by omega
       simp only[if_true,h3,h4,decide_true,jo f hyl,hr,bG,oQ]
      ·have hr:inR n p.1=false:=by unfold inR;simp[h4]
       simp[h3,h4,hr]
     ·have hr:inR n p.1=false:=by unfold inR;simp[h3]
      simp[h3,hr]
  ·have ci:¬(i:Int)<(g.2.2.1.length:Int):=by omega
   simp only[ci,if_false]
   rw[bK hil]
 ·have e:k=n+1:=by omega
  subst e
  have c:¬((n+1:Nat):Int)<=(n:Int):=by omega
  simp only[c,if_false]
theorem BK{n:Nat}{f:Nat->Bool}{p:PrS}{i:Nat}(h:f i=true):stE n f p i=true:=by
 unfold stE
 grind [c7]
theorem vo{n:Nat}:∀ (ps:List PrS) {f:Nat->Bool} {i:Nat},f i=true->rdE n ps f i=true
 |[],f,i,h=>h
 |p::ps,f,i,h=>vo (f:=stE n f p) ps (BK h)
def ClE(n:Nat)(ps:List PrS)(f:Nat->Bool):Prop:=∀ p∈ps,inR n p.1=true->emR n f p.2.2.1=true->f p.1.toNat=true
theorem Lx{n:Nat}:∀ (ps:List PrS) {f:Nat->Bool},(∀ i,i<n->rdE n ps f i=true->f i=true)->ClE n ps f
 |[],f,h=>λp hp=>by cases hp
 |p::ps,f,h=>by
  have e:stE n f p=f:=by
   funext i
   rw[cI]
   constructor
   ·intro hi
    unfold stE at hi
    split at hi
    ·rename_i hc
     simp only[ag]at hc
     unfold c7 at hi
     split at hi
     ·rename_i e
      subst e
      have hr:=iQ.1 hc.2
      refine h _ (by omega) (vo (f:=stE n f p) ps ?_)
      simp_all [stE,c7]
     ·exact hi
    ·exact hi
   ·exact BK
  have ih:=Lx ps (f:=f) (λi hi hr=>h i hi (by show rdE n ps (stE n f p) i=true;rw[e];exact hr))
  intro q hq h1 h2
  rcases aI.1 hq with rfl|hq
  ·have:stE n f q q.1.toNat=true:=by simp_all [stE,c7]
   rwa [e]at this
  ·exact ih q hq h1 h2
theorem vq{n:Nat}{f:Nat->Bool}:∀ (ps:List PrS),ClE n ps f->rdE n ps f=f
 |[],_=>rfl
 |p::ps,h=>by
  have e:stE n f p=f:=by
   unfold stE
   split
   ·rename_i hc
    simp only[ag]at hc
    funext i
    unfold c7
    split
    ·rename_i e
     rw[e,h p bu hc.2 hc.1]
    ·rfl
   ·rfl
  show rdE n ps (stE n f p)=f
  rw[e]
  exact vq ps (λq hq=>h q (bB _ hq))
theorem PF{n:Nat}{ps:List PrS}:∀ k i,itE n ps k i=true->Emp ps n (i:Int):=by
 have hs:∀ (l:List PrS),(∀ p∈l,p∈ps)->∀ f:Nat->Bool,(∀ i,f i=true->Emp ps n (i:Int))->∀ i,rdE n l f i=true->Emp ps n (i:Int):=by
  intro l
  induction l with
  |nil=>intro _ f hf;exact hf
  |cons p l ih=>
   intro hl f hf
   refine ih (λq hq=>hl q (bB _ hq)) (stE n f p) λi hi=>?_
   unfold stE at hi
   split at hi
   ·rename_i hc
    simp only[ag]at hc
    grind [c7,iY,yU]
   ·exact hf i hi
 intro k
 induction k with
 |zero=>intro i h;cases h
 |succ k ih=>exact hs ps (λ_ h=>h) _ ih
theorem SO{n:Nat}{ps:List PrS}:ClE n ps (itE n ps (n+1)):=by
 have key:∀ k,ClE n ps (itE n ps k)\/gT (List.range n) (λi=>itE n ps k i=true)+k<=n:=by
  intro k
  induction k with
  |zero=>grind [iX]
  |succ k ih=>
   rcases ih with h|h
   ·grind [itE,vq]
   ·by_cases hc:∀ i,i<n->rdE n ps (itE n ps k) i=true->itE n ps k i=true
    ·grind [Lx,itE,vq]
    ·right
     have:∃ i,i<n/\rdE n ps (itE n ps k) i=true/\¬itE n ps k i=true:=by
      apply ju
      intro hn
      refine hc λi h1 h2=>?_
      apply ju
      intro h3
      exact hn ⟨i,h1,h2,h3⟩
     obtain⟨i,h1,h2,h3⟩:=this
     have:=oO (U:=List.range n) (P:=λi=>itE n ps k i=true) (Q:=λi=>itE n ps (k+1) i=true) (λj _ hj=>vo ps hj) (cr.2 h1) h3 h2
     omega
 rcases key (n+1)with h|h
 ·exact h
 ·omega
theorem PG{n:Nat}{ps:List PrS}(i:Nat):itE n ps (n+1) i=true↔Emp ps n (i:Int):=
 ⟨PF _ i,λh=>Lt SO h⟩
end
noncomputable section
open Classical in
def tE(ps:List PrS)(n:Nat):Nat->Bool:=λi=>decide (Emp ps n (i:Int))
open Classical in
def tF(ps:List PrS)(n:Nat):Nat->Int:=λi=>((kf (λb=>decide (Fst ps n (i:Int) b)) 64:Nat):Int)
theorem sq{ps:List PrS}{n i:Nat}:tE ps n i=true↔Emp ps n (i:Int):=by unfold tE;simp
theorem Ly{ps:List PrS}{n:Nat}(i:Nat):U64 (tF ps n i):=pH _
theorem Lz{ps:List PrS}{n i b:Nat}:(tF ps n i).toNat.testBit b=true↔Fst ps n (i:Int) b:=by
 unfold tF
 rw[aa,iZ,ag]
 simp only[decide_eq_true_eq]
 exact⟨λh=>h.2,λh=>⟨h.lt,h⟩⟩
theorem tT{ps:List PrS}{n:Nat}:IsT ps n (tE ps n) (tF ps n):=⟨λi _=>sq,Ly,λi _ b=>Lz⟩
theorem Fq{g:GrS}(hg:Gs g):HE N0 (g,())=some ((bsS g.2.1.length (tE g.2.2.1 g.2.1.length),()),()):=by
 rw[Lw hg]
 congr 3
 refine qZ λi _=>?_
 rw[cI,PG,sq]
def stF(n:Nat)(e:Nat->Bool)(s:(Nat->Int)×Bool)(p:PrS):(Nat->Int)×Bool:=
 if inR n p.1=true then(c7 s.1 p.1.toNat (orI (eT n e s.1 p.2.2.1).1 (s.1 p.1.toNat)),s.2||!decide (orI (eT n e s.1 p.2.2.1).1 (s.1 p.1.toNat)=s.1 p.1.toNat))else s
def rdF(n:Nat)(e:Nat->Bool)(ps:List PrS)(s:(Nat->Int)×Bool):(Nat->Int)×Bool:=ps.foldl (stF n e) s
def leF(F G:Nat->Int):Prop:=∀ i b,(F i).toNat.testBit b=true->(G i).toNat.testBit b=true
def j4(F:Nat->Int):Prop:=∀ i,U64 (F i)
theorem BL{F:Nat->Int}(h:j4 F){i:Nat}{v:Int}(hv:U64 v):j4 (c7 F i v):=λj=>by
 unfold c7;split
 ·exact hv
 ·exact h j
theorem Qq{n:Nat}{e:Nat->Bool}{s:(Nat->Int)×Bool}{p:PrS}(h:j4 s.1):j4 (stF n e s p).1:=by
 unfold stF;split
 ·exact BL h (mE (jg h _) (h _))
 ·exact h
theorem LA{n:Nat}{e:Nat->Bool}{s:(Nat->Int)×Bool}{p:PrS}:leF s.1 (stF n e s p).1:=by
 intro i b hb
 unfold stF;split
 ·show(c7 s.1 p.1.toNat _ i).toNat.testBit b=true
  unfold c7;split
  all_goals simp_all [dG]
 ·exact hb
theorem Qr{n:Nat}{e:Nat->Bool}:∀ (ps:List PrS) {s:(Nat->Int)×Bool},j4 s.1->j4 (rdF n e ps s).1
 |[],s,h=>h
 |p::ps,s,h=>Qr (s:=stF n e s p) ps (Qq h)
theorem Dx{n:Nat}{e:Nat->Bool}:∀ (ps:List PrS) {s:(Nat->Int)×Bool},leF s.1 (rdF n e ps s).1
 |[],s=>λ_ _ h=>h
 |p::ps,s=>λi b h=>Dx (s:=stF n e s p) ps i b (LA i b h)
theorem LB{a c:Int}(ha:U64 a)(hc:U64 c)(h:orI a c≠c):∃ b,b<64/\c.toNat.testBit b=false/\(orI a c).toNat.testBit b=true:=by
 apply ju
 intro hn
 refine h (BH (mE ha hc) hc λb hb=>?_)
 rw[cI]
 constructor
 ·grind
 simp_all [dG]
theorem Fs{n:Nat}{e:Nat->Bool}:∀ (ps:List PrS) {s:(Nat->Int)×Bool},j4 s.1->(rdF n e ps s).2=true->s.2=true\/∃ i b,i<n/\b<64/\(s.1 i).toNat.testBit b=false/\((rdF n e ps s).1 i).toNat.testBit b=true
 |[],s,_,h=>.inl h
 |p::ps,s,hU,h=>by
  rcases Fs (s:=stF n e s p) ps (Qq hU) h with h1|⟨i,b,h1,h2,h3,h4⟩
  ·by_cases hs:s.2=true
   ·exact .inl hs
   ·right
    unfold stF at h1
    split at h1
    ·rename_i hr
     simp only[aJ,bC,decide_eq_false_iff_not]at h1
     rcases h1 with h1|h1
     ·simp_all
     ·obtain⟨b,hb,hb1,hb2⟩:=LB (jg hU _) (hU _) h1
      have hr':=iQ.1 hr
      refine⟨p.1.toNat,b,by omega,hb,hb1,Dx (s:=stF n e s p) ps _ _ ?_⟩
      simp_all [stF,c7]
    simp_all
  ·refine .inr ⟨i,b,h1,h2,?_,h4⟩
   cases hb:(s.1 i).toNat.testBit b
   ·rfl
   ·rw[LA i b hb]at h3;cases h3
theorem BM{n:Nat}{e:Nat->Bool}:∀ (ps:List PrS) {s:(Nat->Int)×Bool},(rdF n e ps s).2=false->(rdF n e ps s)=s/\s.2=false/\∀ p∈ps,inR n p.1=true->orI (eT n e s.1 p.2.2.1).1 (s.1 p.1.toNat)=s.1 p.1.toNat
 |[],s,h=>⟨rfl,h,λp hp=>by cases hp⟩
 |p::ps,s,h=>by
  obtain⟨h1,h2,h3⟩:=BM (s:=stF n e s p) ps h
  have e1:stF n e s p=s/\(inR n p.1=true->orI (eT n e s.1 p.2.2.1).1 (s.1 p.1.toNat)=s.1 p.1.toNat):=by
   unfold stF at h2 |-
   by_cases hr:inR n p.1=true
   ·rw[if_pos hr]at h2
    simp only[gr,Bool.not_eq_false',decide_eq_true_eq]at h2
    refine⟨?_,λ_=>h2.2⟩
    rw[if_pos hr,h2.2]
    have:c7 s.1 p.1.toNat (s.1 p.1.toNat)=s.1:=by grind [c7]
    rw[this]
    simp
   simp_all
  grind [rdF]
def LC(ps:List PrS)(n:Nat)(F:Nat->Int):Prop:=∀ i b,(F i).toNat.testBit b=true->Fst ps n (i:Int) b
theorem Ft{n:Nat}{ps:List PrS}:∀ (l:List PrS),(∀ p∈l,p∈ps)->∀ {s:(Nat->Int)×Bool},LC ps n s.1->LC ps n (rdF n (tE ps n) l s).1
 |[],_,s,h=>h
 |p::l,hl,s,h=>by
  refine Ft (s:=stF n (tE ps n) s p) l (λq hq=>hl q (bB _ hq)) λi b hb=>?_
  unfold stF at hb
  split at hb
  ·rename_i hr
   change(c7 s.1 p.1.toNat _ i).toNat.testBit b=true at hb
   unfold c7 at hb
   split at hb
   ·rename_i e
    rw[e]
    rw[dG,aJ]at hb
    rcases hb with hb|hb
    ·rw[lA]at hb
     rw[iY hr]
     exact BJ (hl p bu) hr (λi hi=>sq.1 hi) h hb
    ·exact h _ _ hb
   ·exact h _ _ hb
  ·exact h _ _ hb
def Dy(n:Nat):List (Nat×Nat):=(List.range n).flatMap λi=>(List.range 64).map λb=>(i,b)
theorem vt(n:Nat):(Dy n).length=n*64:=by simp[Dy,oe]
theorem LD{n i b:Nat}(h1:i<n)(h2:b<64):(i,b)∈Dy n:=dK.2 ⟨i,cr.2 h1,eE.2 ⟨b,cr.2 h2,rfl⟩⟩
def nF(n:Nat)(F:Nat->Int):Nat:=gT (Dy n) λu=>(F u.1).toNat.testBit u.2=true
theorem vu{n:Nat}{F G:Nat->Int}(h:leF F G){i b:Nat}(h1:i<n)(h2:b<64)(h3:(F i).toNat.testBit b=false)(h4:(G i).toNat.testBit b=true):nF n G<nF n F:=
 oO (λu _ hu=>h _ _ hu) (LD h1 h2) (by show ¬(F i).toNat.testBit b=true;rw[h3];exact jw) h4
theorem PH{n:Nat}{ps:List PrS}{F:Nat->Int}(hU:j4 F)(hs:LC ps n F)(hc:∀ p∈ps,inR n p.1=true->orI (eT n (tE ps n) F p.2.2.1).1 (F p.1.toNat)=F p.1.toNat):inN n F=inN n (tF ps n):=by
 have:IsT ps n (tE ps n) F:=by
  refine PC.isT ⟨λi hi=>sq.1 hi,hU,hs⟩ (λp hp hr he=>?_) (λp hp hr b hb=>?_)
  ·refine sq.2 ?_
   rw[iY hr]
   exact yU hp hr (λi hi=>sq.1 hi) he
  ·rw[<-hc p hp hr,dG,(lA _ _).2 hb,gz]
 exact(Ls this tT).2
set_option maxHeartbeats 1000000 in
theorem PI{g:GrS}(hg:Gs g):OC N0 (g,())=some ((inN g.2.1.length (tF g.2.2.1 g.2.1.length),()),()):=by
 have hns:=hg.ns
 have hps:=hg.ps
 have h51:=Fq hg
 obtain⟨n,hn⟩:∃ n,n=g.2.1.length:=⟨_,rfl⟩
 delta OC Ld Bd Wi
 simp only[h51]
 simp only[aE,bx,decide_eq_true_eq,<-hn,yX,aa,aD]
 rw[<-hn]at hns
 rw[if_pos ⟨by omega,by omega⟩,if_pos (by omega)]
 refine aZ (λm x r=>∃ (k:Nat) (F:Nat->Int),x=((inN n F,()),((k:Int),()))/\j4 F/\LC g.2.2.1 n F/\nF n F+k<=n*64/\m=n*64-k/\r=some ((inN n (tF g.2.2.1 n),()),())) ?_ N0 (n*64) _ _ (by unfold N0;omega) ⟨0,_,rfl,λ_=>xq,λi b h=>by simp at h,by
  have:=iX (Dy n) (λu=>((0:Int)).toNat.testBit u.2=true)
  rw[vt]at this
  exact this,rfl,rfl⟩
 rintro m x r ⟨k,F,rfl,hU,fy,hm,rfl,rfl⟩ K hK
 have hw:IntKind.wrap .i64 (64*(n:Int))=64*(n:Int):=bp (by omega) (by omega)
 have hk1:IntKind.wrap .i64 ((k:Int)+1)=((k+1:Nat):Int):=bJ (Nat.lt_succ_of_le (by omega:k<=n*64)) (by omega)
 have c:(k:Int)<=64*(n:Int):=by omega
 simp only[qE,hw,c,if_true,hk1]
 refine a8 (λi=>((inN n (rdF n (tE g.2.2.1 n) (g.2.2.1.take i) (F,false)).1,()),((rdF n (tE g.2.2.1 n) (g.2.2.1.take i) (F,false)).2,((i:Int),())))) (λ_=>some ((inN n (tF g.2.2.1 n),()),())) g.2.2.1.length (λi hi L hL=>?_) N0 0 (az _) (by unfold N0;omega)
 have hUi:j4 (rdF n (tE g.2.2.1 n) (g.2.2.1.take i) (F,false)).1:=Qr (s:=(F,false)) _ hU
 rcases aj i g.2.2.1.length with hil|hil
 ·have ci:(i:Int)<(g.2.2.1.length:Int):=by omega
  have hL:=hL hil
  have hi1:IntKind.wrap .i64 ((i:Int)+1)=((i+1:Nat):Int):=bJ hil (by omega)
  have s8:rdF n (tE g.2.2.1 n) (g.2.2.1.take (i+1)) (F,false)=stF n (tE g.2.2.1 n) (rdF n (tE g.2.2.1 n) (g.2.2.1.take i) (F,false)) g.2.2.1[i]:=by
   unfold rdF
   rw[cJ _ _ hil,eD];rfl
  have hp:=aN hil
  have hbl:=hg.pb _ hp
  have hby:=hg.py _ hp
  simp only[ci,if_true,aB,aa,List.getElem?_eq_getElem hil,hi1]
  rw[s8]at hL
  generalize rdF n (tE g.2.2.1 n) (g.2.2.1.take i) (F,false)=s at *
  generalize g.2.2.1[i]=p at *
  rw[<-hL]
  unfold stF
  by_cases h3:p.1<0
  ·have hr:inR n p.1=false:=by unfold inR;simp;omega
   simp[h3,hr]
  ·by_cases h4:(n:Int)<=p.1
   ·have hr:inR n p.1=false:=by unfold inR;simp;omega
    simp[h3,h4,hr,qE]
   ·have hr:inR n p.1=true:=iQ.2 ⟨by omega,by omega⟩
    have hpl:p.1.toNat<n:=by omega
    have h0:0<=p.1:=by omega
    have e84:Kp N0 (bsS n (tE g.2.2.1 n),(inN n s.1,(p.2.2.1,())))=some (((eT n (tE g.2.2.1 n) s.1 p.2.2.1).1,((eT n (tE g.2.2.1 n) s.1 p.2.2.1).2,())),()):=yY hUi N0 p.2.2.1 hby (by unfold N0;omega)
    simp only[h3,if_false,qE,h4,decide_false,ap,e84,aD,h0,if_true,kt s.1 hpl,tN (jg hUi _) (hUi _),hr,tO]
    cases hs2:s.2
    ·simp
    ·simp
 ·have ci:¬(i:Int)<(g.2.2.1.length:Int):=by omega
  rw[bK hil]at hUi |-
  simp only[ci,if_false]
  have hle:leF F (rdF n (tE g.2.2.1 n) g.2.2.1 (F,false)).1:=Dx (s:=(F,false)) _
  have LF:=Ft (n:=n) (ps:=g.2.2.1) g.2.2.1 (λ_ h=>h) (s:=(F,false)) fy
  cases hch:(rdF n (tE g.2.2.1 n) g.2.2.1 (F,false)).2
  ·obtain⟨h1,_,h3⟩:=BM _ hch
   simp only[aH,if_true,h1]
   rw[PH hU fy h3]
  ·simp only[ay,ap,if_false]
   rcases Fs (s:=(F,false)) _ hU hch with h|⟨a,b,h1,h2,h3,h4⟩
   ·cases h
   ·have hlt:=vu hle h1 h2 h3 h4
    exact hK _ _ _ (by omega) ⟨k+1,_,rfl,hUi,LF,by omega,rfl,rfl⟩
end
noncomputable section
abbrev TbP:=(Nat->Bool)×(Nat->Int)×Bool
def chP(n:Nat)(s:TbP)(p:PrS):Bool:=!decide (orI (s.2.1 p.1.toNat) (eT n s.1 s.2.1 p.2.2.1).1=s.2.1 p.1.toNat)||(emR n s.1 p.2.2.1&&!s.1 p.1.toNat)
def stP(n:Nat)(s:TbP)(p:PrS):TbP:=
 if(inR n p.1&&chP n s p)=true then(c7 s.1 p.1.toNat (s.1 p.1.toNat||emR n s.1 p.2.2.1),c7 s.2.1 p.1.toNat (orI (s.2.1 p.1.toNat) (eT n s.1 s.2.1 p.2.2.1).1),true)else s
def rdP(n:Nat)(ps:List PrS)(s:TbP):TbP:=ps.foldl (stP n) s
theorem qF(a b:Int):orI a b=orI b a:=by unfold orI;rw[Nat.or_comm]
structure LeP(s t:TbP):Prop where
 e:∀ i,s.1 i=true->t.1 i=true
 b:leF s.2.1 t.2.1
theorem LeP.tr{s t u:TbP}(h:LeP s t)(k:LeP t u):LeP s u:=⟨λi hi=>k.e i (h.e i hi),λi b hb=>k.b i b (h.b i b hb)⟩
theorem Qs{n:Nat}{s:TbP}{p:PrS}(h:j4 s.2.1):j4 (stP n s p).2.1:=by
 unfold stP;split
 ·exact BL h (mE (h _) (jg h _))
 ·exact h
theorem Dz{n:Nat}{s:TbP}{p:PrS}:LeP s (stP n s p):=by
 unfold stP;split
 ·refine⟨λi hi=>?_,λi b hb=>?_⟩
  ·show c7 s.1 p.1.toNat _ i=true
   unfold c7;split
   all_goals simp_all
  ·show(c7 s.2.1 p.1.toNat _ i).toNat.testBit b=true
   unfold c7;split
   all_goals simp_all [dG]
 ·exact⟨λ_ h=>h,λ_ _ h=>h⟩
theorem Qu{n:Nat}:∀ (ps:List PrS) {s:TbP},j4 s.2.1->j4 (rdP n ps s).2.1
 |[],s,h=>h
 |p::ps,s,h=>Qu (s:=stP n s p) ps (Qs h)
theorem DC{n:Nat}:∀ (ps:List PrS) {s:TbP},LeP s (rdP n ps s)
 |[],s=>⟨λ_ h=>h,λ_ _ h=>h⟩
 |p::ps,s=>Dz.tr (DC (s:=stP n s p) ps)
def VK(n:Nat)(s t:TbP):Prop:=(∃ i b,i<n/\b<64/\(s.2.1 i).toNat.testBit b=false/\(t.2.1 i).toNat.testBit b=true)\/∃ i,i<n/\s.1 i=false/\t.1 i=true
theorem Fu{n:Nat}:∀ (ps:List PrS) {s:TbP},j4 s.2.1->(rdP n ps s).2.2=true->s.2.2=true\/VK n s (rdP n ps s)
 |[],s,_,h=>.inl h
 |p::ps,s,hU,h=>by
  have hle:=DC (n:=n) (s:=stP n s p) ps
  rcases Fu (s:=stP n s p) ps (Qs hU) h with h1|⟨i,b,h1,h2,h3,h4⟩|⟨i,h1,h3,h4⟩
  ·by_cases hc:(inR n p.1&&chP n s p)=true
   ·right
    have hst:stP n s p=(c7 s.1 p.1.toNat (s.1 p.1.toNat||emR n s.1 p.2.2.1),c7 s.2.1 p.1.toNat (orI (s.2.1 p.1.toNat) (eT n s.1 s.2.1 p.2.2.1).1),true):=by unfold stP;rw[if_pos hc]
    rw[ag]at hc
    have hr':=iQ.1 hc.1
    have hch:=hc.2
    unfold chP at hch
    rw[aJ]at hch
    rcases hch with hch|hch
    ·have hne:orI (eT n s.1 s.2.1 p.2.2.1).1 (s.2.1 p.1.toNat)≠s.2.1 p.1.toNat:=by grind [qF]
     obtain⟨b,hb,hb1,hb2⟩:=LB (jg hU _) (hU _) hne
     refine .inl ⟨p.1.toNat,b,by omega,hb,hb1,hle.b _ _ ?_⟩
     simp_all [c7,qF]
    ·rw[ag,bC]at hch
     refine .inr ⟨p.1.toNat,by omega,hch.2,hle.e _ ?_⟩
     simp_all [c7]
   simp_all [stP]
  ·refine .inr (.inl ⟨i,b,h1,h2,?_,h4⟩)
   cases hb:(s.2.1 i).toNat.testBit b
   ·rfl
   ·rw[Dz.b i b hb]at h3;cases h3
  ·refine .inr (.inr ⟨i,h1,?_,h4⟩)
   cases hb:s.1 i
   ·rfl
   ·rw[Dz.e i hb]at h3;cases h3
theorem BN{n:Nat}:∀ (ps:List PrS) {s:TbP},(rdP n ps s).2.2=false->rdP n ps s=s/\s.2.2=false/\∀ p∈ps,inR n p.1=true->chP n s p=false
 |[],s,h=>⟨rfl,h,λp hp=>by cases hp⟩
 |p::ps,s,h=>by
  obtain⟨h1,h2,h3⟩:=BN (s:=stP n s p) ps h
  have hc:¬(inR n p.1&&chP n s p)=true:=λhc=>by simp_all [stP]
  simp_all [stP,if_neg,rdP]
structure PJ(ps:List PrS)(n:Nat)(s:TbP):Prop where
 e:∀ i,s.1 i=true->Emp ps n (i:Int)
 b:LC ps n s.2.1
theorem Fv{n:Nat}{ps:List PrS}:∀ (l:List PrS),(∀ p∈l,p∈ps)->∀ {s:TbP},PJ ps n s->PJ ps n (rdP n l s)
 |[],_,s,h=>h
 |p::l,hl,s,h=>by
  refine Fv (s:=stP n s p) l (λq hq=>hl q (bB _ hq)) ?_
  unfold stP
  split
  ·rename_i hc
   rw[ag]at hc
   refine⟨λi hi=>?_,λi b hb=>?_⟩
   ·change c7 s.1 p.1.toNat _ i=true at hi
    unfold c7 at hi
    split at hi
    ·rename_i e
     rw[aJ]at hi
     rcases hi with hi|hi
     ·rw[e];exact h.e _ hi
     ·rw[e,iY hc.1]
      exact yU (hl p bu) hc.1 h.e hi
    ·exact h.e _ hi
   ·change(c7 s.2.1 p.1.toNat _ i).toNat.testBit b=true at hb
    unfold c7 at hb
    split at hb
    ·rename_i e
     rw[e]
     rw[dG,aJ]at hb
     rcases hb with hb|hb
     ·exact h.b _ _ hb
     ·rw[lA]at hb
      rw[iY hc.1]
      exact BJ (hl p bu) hc.1 h.e h.b hb
    ·exact h.b _ _ hb
  ·exact h
theorem VL{n:Nat}{ps:List PrS}{s:TbP}(hU:j4 s.2.1)(hs:PJ ps n s)(hc:∀ p∈ps,inR n p.1=true->chP n s p=false):bsS n s.1=bsS n (tE ps n)/\inN n s.2.1=inN n (tF ps n):=by
 have hc':∀ p∈ps,inR n p.1=true->orI (s.2.1 p.1.toNat) (eT n s.1 s.2.1 p.2.2.1).1=s.2.1 p.1.toNat/\(emR n s.1 p.2.2.1=true->s.1 p.1.toNat=true):=λp hp hr=>by
  have:=hc p hp hr
  unfold chP at this
  simp_all
 refine Ls (PC.isT ⟨hs.e,hU,hs.b⟩ (λp hp hr he=>(hc' p hp hr).2 he) (λp hp hr b hb=>?_)) tT
 rw[<-(hc' p hp hr).1,dG,(lA _ _).2 hb,jA]
def pj(n:Nat)(s:TbP):Nat:=nF n s.2.1+gT (List.range n) λi=>s.1 i=true
theorem LG{n:Nat}{s t:TbP}(h:LeP s t)(k:VK n s t):pj n t<pj n s:=by
 have h1:nF n t.2.1<=nF n s.2.1:=qB λu _ hu=>h.b _ _ hu
 have h2:gT (List.range n) (λi=>t.1 i=true)<=gT (List.range n) (λi=>s.1 i=true):=qB λu _ hu=>h.e _ hu
 unfold pj
 rcases k with⟨i,b,k1,k2,k3,k4⟩|⟨i,k1,k3,k4⟩
 ·have:=vu h.b k1 k2 k3 k4
  omega
 ·have:=oO (U:=List.range n) (P:=λi=>s.1 i=true) (Q:=λi=>t.1 i=true) (λu _ hu=>h.e _ hu) (cr.2 k1) (by show ¬s.1 i=true;rw[k3];exact jw) k4
  omega
set_option maxHeartbeats 2000000 in
theorem SP{g:GrS}(hg:Gs g):p44 N0 (g,())=some (((bsS g.2.1.length (tE g.2.2.1 g.2.1.length),inN g.2.1.length (tF g.2.2.1 g.2.1.length)),()),()):=by
 have hns:=hg.ns
 have hps:=hg.ps
 obtain⟨n,hn⟩:∃ n,n=g.2.1.length:=⟨_,rfl⟩
 delta p44 Ld Bd Wi
 simp only[aE,bx,decide_eq_true_eq,<-hn,yX,qD,aa]
 rw[<-hn]at hns
 rw[if_pos ⟨by omega,by omega⟩,if_pos (by omega),if_pos ⟨by omega,by omega⟩,if_pos (by omega)]
 refine aZ (λm x r=>∃ (s:TbP),x=((([],[]),((bsS n s.1,inN n s.2.1),())),(s.2.2,()))/\j4 s.2.1/\PJ g.2.2.1 n s/\(s.2.2=false->bsS n s.1=bsS n (tE g.2.2.1 n)/\inN n s.2.1=inN n (tF g.2.2.1 n))/\m=pj n s+(if s.2.2=true then 1 else 0)/\r=some (((bsS n (tE g.2.2.1 n),inN n (tF g.2.2.1 n)),()),())) ?_ N0 (pj n (λ_=>false,λ_=>0,true)+1) _ _ (by
  have h1:=iX (Dy n) (λu=>((0:Int)).toNat.testBit u.2=true)
  have h2:=iX (List.range n) (λi=>false=true)
  rw[vt]at h1
  rw[ia]at h2
  unfold pj nF N0
  simp only at *
  omega) ⟨(λ_=>false,λ_=>0,true),rfl,λ_=>xq,⟨(λi h=>by cases h),(λi b h=>by simp at h)⟩,λh=>(by cases h),rfl,rfl⟩
 rintro m x r ⟨s0,rfl,hU,fy,yw,rfl,rfl⟩ K hK
 obtain⟨f0,F0,m0⟩:=s0
 cases m0
 ·grind
 simp only[if_true]
 simp only[if_true]at hK
 clear yw
 refine a8 (λi=>((([],[]),((bsS n (rdP n (g.2.2.1.take i) (f0,F0,false)).1,inN n (rdP n (g.2.2.1.take i) (f0,F0,false)).2.1),())),((rdP n (g.2.2.1.take i) (f0,F0,false)).2.2,((i:Int),())))) (λ_=>some (((bsS n (tE g.2.2.1 n),inN n (tF g.2.2.1 n)),()),())) g.2.2.1.length (λi hi L hL=>?_) N0 0 (az _) (by unfold N0;omega)
 have hUi:j4 (rdP n (g.2.2.1.take i) (f0,F0,false)).2.1:=Qu (s:=(f0,F0,false)) _ hU
 rcases aj i g.2.2.1.length with hil|hil
 ·have ci:(i:Int)<(g.2.2.1.length:Int):=by omega
  have hL:=hL hil
  have hi1:IntKind.wrap .i64 ((i:Int)+1)=((i+1:Nat):Int):=bJ hil (by omega)
  have s8:rdP n (g.2.2.1.take (i+1)) (f0,F0,false)=stP n (rdP n (g.2.2.1.take i) (f0,F0,false)) g.2.2.1[i]:=by grind [rdP,cJ]
  have hp:=aN hil
  have hbl:=hg.pb _ hp
  have hby:=hg.py _ hp
  simp only[ci,if_true,aB,aa,List.getElem?_eq_getElem hil,hi1]
  rw[s8]at hL
  generalize rdP n (g.2.2.1.take i) (f0,F0,false)=s at *
  generalize g.2.2.1[i]=p at *
  obtain⟨f,F,m⟩:=s
  rw[<-hL]
  clear hL hK
  unfold stP chP
  by_cases h3:p.1<0
  ·grind [inR]
  ·by_cases h4:(n:Int)<=p.1
   ·grind [inR]
   ·have hr:inR n p.1=true:=iQ.2 ⟨by omega,by omega⟩
    have hpl:p.1.toNat<n:=by omega
    have h0:0<=p.1:=by omega
    have e73:=Lu (n:=n) (f:=f) hUi hby (by unfold maxLen;omega)
    simp only[h3,if_false,h4,decide_false,ap,e73,aD,h0,if_true,kt F hpl,jo f hpl,mf (hUi _) (jg hUi _),hr,tO,oQ,yS]
    grind
 ·have ci:¬(i:Int)<(g.2.2.1.length:Int):=by omega
  rw[bK hil]at hUi |-
  simp only[ci,if_false]
  have hle:LeP (f0,F0,false) (rdP n g.2.2.1 (f0,F0,false)):=DC (s:=(f0,F0,false)) _
  have LF:=Fv (n:=n) (ps:=g.2.2.1) g.2.2.1 (λ_ h=>h) (s:=(f0,F0,false)) ⟨fy.e,fy.b⟩
  cases hch:(rdP n g.2.2.1 (f0,F0,false)).2.2
  ·obtain⟨h1,_,h3⟩:=BN _ hch
   refine hK (pj n (f0,F0,true)) _ _ (by omega) ⟨(f0,F0,false),?_,hU,⟨fy.e,fy.b⟩,λ_=>VL (s:=(f0,F0,false)) hU ⟨fy.e,fy.b⟩ h3,rfl,rfl⟩
   rw[h1]
  ·rcases Fu (s:=(f0,F0,false)) _ hU hch with h|h
   ·cases h
   ·have hlt:pj n (rdP n g.2.2.1 (f0,F0,false))<pj n (f0,F0,true):=LG (s:=(f0,F0,false)) hle h
    refine hK (pj n (rdP n g.2.2.1 (f0,F0,false))+1) _ _ (by omega) ⟨rdP n g.2.2.1 (f0,F0,false),?_,hUi,LF,λh=>?_,?_,rfl⟩
    ·rw[hch]
    ·rw[hch]at h;cases h
    ·rw[hch,if_pos rfl]
end
noncomputable section
def ltB(x y:ItS):Bool:=decide (x.1<y.1)||(decide (x.1=y.1)&&decide (x.2.1<y.2.1))
def eqB(x y:ItS):Bool:=decide (x.1=y.1)&&decide (x.2.1=y.2.1)
theorem ku{x y:ItS}:ltB x y=true↔ltK x y:=by unfold ltB ltK;simp
theorem oR{x y:ItS}:eqB x y=true↔x.1=y.1/\x.2.1=y.2.1:=by unfold eqB;simp
def mJ(x:ItS):List ItS->List ItS
 |[]=>[x]
 |y::r=>if ltB y x=true then y::mJ x r else if eqB y x=true then(y.1,(y.2.1,orI y.2.2 x.2.2))::r else x::y::r
def fo(l:List ItS):List ItS:=l.foldl (λo x=>mJ x o) []
theorem H4(l:List ItS)(x:ItS):fo (l++[x])=mJ x (fo l):=by unfold fo;rw[eD];rfl
theorem BO(x:ItS):∀ l,(mJ x l).length<=l.length+1
 |[]=>by simp[mJ]
 |y::r=>by
  have:=BO x r
  unfold mJ
  grind
theorem BP(l:List ItS):(fo l).length<=l.length:=by
 have key:∀ (l:List ItS) (o:List ItS),(l.foldl (λo x=>mJ x o) o).length<=o.length+l.length:=by
  intro l
  induction l with
  |nil=>intro o;simp
  |cons x l ih=>grind [BO]
 grind [fo]
def jq(x:ItS):List ItS->Nat
 |[]=>0
 |y::r=>if ltB y x=true then jq x r+1 else 0
theorem yZ(x:ItS):∀ l,jq x l<=l.length
 |[]=>aw _
 |y::r=>by
  have:=yZ x r
  grind [jq]
theorem Fw(x:ItS):∀ (l:List ItS) (k:Nat) (h:k<l.length),k<jq x l->ltK l[k] x
 |[],k,h,_=>by simp at h
 |y::r,k,h,hk=>by
  unfold jq at hk
  split at hk
  ·rename_i hy
   cases k with
   |zero=>exact ku.1 hy
   |succ k=>exact Fw x r k (by simpa using h) (by omega)
  ·omega
theorem Fx(x:ItS):∀ (l:List ItS),l.Pairwise ltK->∀ (k:Nat) (h:k<l.length),jq x l<=k->¬ltK l[k] x
 |[],_,k,h,_=>by simp at h
 |y::r,hs,k,h,hk=>by
  obtain⟨h1,h2⟩:=dx.1 hs
  unfold jq at hk
  split at hk
  ·rename_i hy
   cases k with
   |zero=>omega
   |succ k=>exact Fx x r h2 k (by simpa using h) (by omega)
  ·rename_i hy
   intro hlt
   cases k with
   |zero=>exact hy (ku.2 hlt)
   |succ k=>exact hy (ku.2 (pE (h1 _ (aN (by simpa using h))) hlt))
theorem Fy(x:ItS):∀ (l:List ItS),mJ x l=(match l[jq x l]? with
 |some y=>if eqB y x=true then l.set (jq x l) (y.1,(y.2.1,orI y.2.2 x.2.2))else l.take (jq x l)++[x]++l.drop (jq x l)
 |none=>l.take (jq x l)++[x]++l.drop (jq x l))
 |[]=>rfl
 |y::r=>by
  have ih:=Fy x r
  unfold mJ jq
  grind
theorem LH{A:Ato}{o:List ItS}{x:ItS}(h:Can A o)(hx:je x):Can (λp d q=>A p d q\/At [x] p d q) (mJ x o):=by
 have key:∀ (X Y:List ItS),Can A (X++Y)->(∀ a∈X,ltK a x)->Can (λp d q=>A p d q\/At [x] p d q) (X++mJ x Y):=by
  intro X Y
  induction Y generalizing X with
  |nil=>intro h h1;exact Fk h hx h1 (λb hb=>by cases hb)
  |cons y Y ih=>
   intro h h1
   unfold mJ
   by_cases hy:ltB y x=true
   ·rw[if_pos hy]
    have:=ih (X++[y]) (by simpa using h) (λa ha=>by
     rcases au.1 ha with ha|ha
     ·exact h1 a ha
     ·rw[aK.1 ha];exact ku.1 hy)
    simpa using this
   ·rw[if_neg hy]
    by_cases he:eqB y x=true
    ·rw[if_pos he]
     exact SK h hx (oR.1 he).1 (oR.1 he).2
    ·rw[if_neg he]
     have hlt:ltK x y:=by
      rcases Ll x y with h|h|h
      ·exact h
      ·exact absurd (oR.2 ⟨h.1.symm,h.2.symm⟩) he
      ·exact absurd (ku.2 h) hy
     refine Fk h hx h1 λb hb=>?_
     rcases aI.1 hb with rfl|hb
     ·exact hlt
     ·exact pE hlt ((dx.1 (gu.1 h.st).2.1).1 b hb)
 exact key [] o h (λa ha=>by cases ha)
theorem ja{l:List ItS}(h:∀ x∈l,je x):Can (At l) (fo l):=by
 have key:∀ (l:List ItS) (A:Ato) (o:List ItS),Can A o->(∀ x∈l,je x)->Can (λp d q=>A p d q\/At l p d q) (l.foldl (λo x=>mJ x o) o):=by
  intro l
  induction l with
  |nil=>intro A o h _;exact h.congr λp d q=>⟨.inl,λh=>h.elim id λh=>(Dv h).elim⟩
  |cons x l ih=>
   intro A o h hb
   refine(ih _ _ (LH h (hb x bu)) (λy hy=>hb y (bB _ hy))).congr λp d q=>?_
   rw[show x::l=[x]++l from rfl,jf]
   grind
 exact(key l _ [] Fl h).congr λp d q=>⟨λh=>h.elim (λh=>h.elim) id,.inr⟩
def H5(a b:Int):Int:=if a<b then -1 else if b<a then 1 else 0
theorem PK(a b:Int):Kc N0 (a,(b,()))=some ((H5 a b,()),()):=by
 have h138:∀ a:Int,Kb N0 (a,())=some ((false,()),()):=λa=>by unfold Kb;simp
 delta Kc Bd;unfold H5
 simp only[aE,bx,decide_eq_true_eq,h138,aD]
 grind
def xr(x y:ItS):Int:=if x.1=y.1 then H5 x.2.1 y.2.1 else H5 x.1 y.1
theorem Fz(x y:ItS):Kd N0 (x,(y,()))=some ((xr x y,()),()):=by
 unfold Kd xr
 simp only[aE,bx,PK,aD]
 grind
theorem BQ{x y:ItS}:xr x y<0↔ltK x y:=by grind [xr,H5,ltK]
theorem LI{x y:ItS}:xr x y=0↔eqB x y=true:=by grind [oR,xr,H5]
theorem PL{o:List ItS}(hs:o.Pairwise ltK)(hl:o.length<=1000000)(x:ItS):Oq N0 (o,(x,((),())))=some ((((jq x o:Nat):Int),((match o[jq x o]? with|some y=>eqB y x|none=>false),())),()):=by
 delta Oq Ld Bd Wi
 simp only[aE,bx,decide_eq_true_eq]
 refine aZ (λm z r=>∃ (i j:Nat),z=((),((i:Int),((j:Int),())))/\i<=j/\j<=o.length/\(∀ k (h:k<o.length),k<i->ltK o[k] x)/\(∀ k (h:k<o.length),j<=k->¬ltK o[k] x)/\m=j-i/\r=some ((((jq x o:Nat):Int),((match o[jq x o]? with|some y=>eqB y x|none=>false),())),())) ?_ N0 (o.length-0) _ _ (by unfold N0;omega) ⟨0,o.length,rfl,az _,aw _,λk _ h=>by omega,λk h1 h2=>by omega,rfl,rfl⟩
 rintro m z r ⟨i,j,rfl,hij,hj,h1,h2,rfl,rfl⟩ K hK
 rcases aj i j with h|h
 ·have c:(i:Int)<(j:Int):=by omega
  obtain⟨hh,hhe⟩:∃ hh,hh=(i+j) / 2:=⟨_,rfl⟩
  have hhl:hh<o.length:=by omega
  have e1:IntKind.wrap .i64 ((i:Int)+(j:Int))=((i+j:Nat):Int):=by rw[bp (by omega) (by omega)];simp
  have e2:IntKind.wrap .u64 ((i+j:Nat):Int)=((i+j:Nat):Int):=wrap_u64 ⟨by omega,by omega⟩
  have e3:Int.fdiv ((i+j:Nat):Int) (2 ^ (Nat.min (Int.toNat 1) (IntKind.bits .u64)))=(hh:Int):=by
   have:(2:Int) ^ (Nat.min (Int.toNat 1) (IntKind.bits .u64))=2:=by decide
   rw[this,nT _ (by omega),hhe]
   omega
  have e4:IntKind.wrap .i64 (hh:Int)=(hh:Int):=bp (by omega) (by omega)
  have e5:IntKind.wrap .i64 ((hh:Int)+1)=((hh+1:Nat):Int):=bJ hhl hl
  simp only[c,if_true,show ¬(1:Int)<0 by omega,if_false,e1,e2,e3,e4,aB,aa,List.getElem?_eq_getElem hhl,Fz,aD,e5]
  by_cases hlt:ltK o[hh] x
  ·rw[if_pos (BQ.2 hlt)]
   exact hK _ _ _ (by omega) ⟨hh+1,j,rfl,by omega,hj,λk hk hki=>by
    by_cases e:k=hh
    ·subst e;exact hlt
    ·exact pE (nU.1 hs k hh hk hhl (by omega)) hlt,h2,rfl,rfl⟩
  ·rw[if_neg λh=>hlt (BQ.1 h)]
   exact hK _ _ _ (by omega) ⟨i,hh,rfl,by omega,by omega,h1,λk hk hki hlk=>by
    by_cases e:k=hh
    ·subst e;exact hlt hlk
    ·exact hlt (pE (nU.1 hs hh k hhl hk (by omega)) hlk),rfl,rfl⟩
 ·have c:¬(i:Int)<(j:Int):=by omega
  have hp:jq x o=i:=by
   rcases Nat.lt_trichotomy (jq x o) i with hlt|he|hgt
   ·exact absurd (h1 _ (by omega) hlt) (Fx x o hs _ (by omega) (aw _))
   ·exact he
   ·have:=yZ x o
    exact absurd (Fw x o i (by omega) hgt) (h2 i (by omega) h)
  simp only[c,if_false,hp]
  rcases aj i o.length with hi|hi
  ·have ci:(i:Int)<(o.length:Int):=by omega
   simp only[ci,if_true,aB,aa,List.getElem?_eq_getElem hi,Fz,aD,LI]
   simp
  ·have ci:¬(i:Int)<(o.length:Int):=by omega
   rw[List.getElem?_eq_none hi]
   simp only[ci,if_false]
theorem LJ{l:List ItS}(hb:∀ x∈l,je x)(hl:l.length<=1000000):p99 N0 (l,())=some ((fo l,()),()):=by
 delta p99 Ld Bd Wi
 simp only[aE,bx,decide_eq_true_eq]
 refine a8 (λj=>((),(fo (l.take j),((j:Int),())))) (λ_=>some ((fo l,()),())) l.length (λj hj K hK=>?_) N0 0 (az _) (by unfold N0;omega)
 rcases aj j l.length with h|h
 ·have c:(j:Int)<(l.length:Int):=by omega
  have hK:=hK h
  have hj1:IntKind.wrap .i64 ((j:Int)+1)=((j+1:Nat):Int):=bJ h hl
  rw[cJ _ _ h,H4]at hK
  have LK:=ja (l:=l.take j) λx hx=>hb x (nY hx)
  have hcl:=BP (l.take j)
  rw[aL]at hcl
  have hx:=hb _ (aN h)
  simp only[c,if_true,aB,aa,List.getElem?_eq_getElem h,hj1]
  generalize l[j]=x at *
  generalize fo (l.take j)=o at *
  rw[PL LK.st (by omega) x]
  simp only[aD]
  rw[Fy]at hK
  have hpl:=yZ x o
  have h102:Bc N0 (o,(((jq x o:Nat):Int),([x],())))=some ((o.take (jq x o)++[x]++o.drop (jq x o),()),()):=by
   unfold Bc
   simp only[aa]
   rw[if_pos ⟨rfl,by omega,hpl,by omega⟩]
  rw[<-hK]
  cases hp:o[jq x o]? with
  |none=>
   simp only[ap,if_false]
   rw[h102]
   rfl
  |some y=>
   have hy:=LK.bd y (List.mem_of_getElem? hp)
   cases he:eqB y x
   ·simp only[ap,if_false,he]
    rw[h102]
    rfl
   ·simp only[if_true,he,aB,aa,hp,mf hy hx]
 ·have c:¬(j:Int)<(l.length:Int):=by omega
  simp only[c,if_false]
  rw[bK h]
end
end Go.Proofs.YtphipehmbefejaaGreat.Rf.Rk
