/- A part of a proof that a given statement (the one of this claim: the name of its theorem ends in _holds) is true of the program, with no condition ahead of it. Printed by wip/dev/pack2.py out of the texts in wip. -/
import Derived.Test.YtphipehmbefejaaGreatU4
set_option linter.unusedVariables false
set_option linter.unusedSimpArgs false
namespace Go.Proofs.YtphipehmbefejaaGreat.Rf
open Go
noncomputable section
abbrev RfF:=(List Int×(Int×(Int×Unit)))->Option ((List Pc×(Int×Unit))×Unit)
theorem iU(t:Rx):List.isEmpty t.post=false:=by
 have h1:=t.aV
 have h2:=t.bK
 cases hp:t.post with
 |nil=>rw[hp]at h1;simp at h1;omega
 |cons a b=>rfl
theorem Ol{i n:Nat}(h:i+n<9223372036854775808):IntKind.wrap .i64 ((i:Int)+(n:Int))=((i+n:Nat):Int):=by rw[<-bH h];rfl
theorem dh{i:Nat}(h:i+1<9223372036854775808):IntKind.wrap .i64 ((i:Int)+1)=((i+1:Nat):Int):=by rw[<-bH h];rfl
theorem Om{s:List Int}(hb:Bytes s)(hs:s.length<=1600){q2 q3 q4 q5:RfF}{inner:Nat->Nat->Option (Rx×Nat)}{i d:Nat}(hd:d<=i)
 (hin:i<s.length->OkQ (inner (i+1) (d+1)) (q2 (s,(((i+1:Nat):Int),(((d+1:Nat):Int),()))))) (cq:ki s (i+1) (inner (i+1) (d+1))):
 OkQ (mM inner s i d) (AU N0 q2 q3 q4 q5 (s,((i:Int),((d:Int),())))):=by
 have hsm:s.length<=maxLen:=by unfold maxLen;omega
 unfold AU mM
 dsimp only
 have n0:(0:Int)<=(i:Int):=by omega
 refine dW (P:=OkQ _) ((),(decide (s.length<=i\/ch s i∈([124,41,42,43,63,93,47,34]:List Int)),())) (λK=>?_) ?_
 ·rcases ak i s.length with h|h
  ·rw[decide_eq_false (show ¬((s.length:Nat):Int)<=(i:Int) by omega),cond_false,if_pos n0,aa,gU h]
   dsimp only
   rw[ae (qk _ (by simp[maxLen]) _)]
   have e:decide (s.length<=i\/ch s i∈([124,41,42,43,63,93,47,34]:List Int))=decide (ch s i∈([124,41,42,43,63,93,47,34]:List Int)):=by
    have:¬s.length<=i:=by omega
    rw[decide_eq_decide];exact⟨λh=>h.resolve_left this,.inr⟩
   rw[e]
  ·rw[decide_eq_true (show((s.length:Nat):Int)<=(i:Int) by omega),cond_true,decide_eq_true (.inl h)]
 dsimp only
 by_cases mb:s.length<=i\/ch s i∈([124,41,42,43,63,93,47,34]:List Int)
 ·rw[if_pos mb,decide_eq_true mb,cond_true]
  exact⟨_,rfl⟩
 rw[if_neg mb,decide_eq_false mb,cond_false]
 have hlt:i<s.length:=by omega
 have w1:IntKind.wrap .i64 ((i:Int)+1)=((i+1:Nat):Int):=dh (by omega)
 simp only[if_pos n0,aa,gU hlt,w1]
 have hz:([0,0,0,0]:List Int)=ofB (λ_=>false):=by
  rw[show([0,0,0,0]:List Int)=zS by rfl]
  exact(gT.2 (by unfold dY;rw[cD];intro x _;rfl)).symm
 by_cases h46:ch s i=46
 ·rw[decide_eq_true h46,cond_true,if_pos h46,hz,ae (Bi _ _)]
  rfl
 rw[decide_eq_false h46,cond_false,if_neg h46]
 by_cases h126:ch s i=126
 ·rw[decide_eq_true h126,cond_true,if_pos h126]
  rfl
 rw[decide_eq_false h126,cond_false,if_neg h126]
 by_cases h91:ch s i=91
 ·rw[decide_eq_true h91,cond_true,if_pos h91]
  have hq:=Oj hb hs (show i+1<=s.length by omega)
  unfold OkQ at hq
  cases ho:brS s (i+1)with
  |none=>
   rw[ho]at hq
   obtain⟨k,hq⟩:=hq
   rw[ae hq]
   exact⟨_,rfl⟩
  |some p=>
   obtain⟨t,j⟩:=p
   rw[ho]at hq
   dsimp only at hq
   rw[ae hq]
   rfl
 rw[decide_eq_false h91,cond_false,if_neg h91]
 by_cases h40:ch s i=40
 ·rw[decide_eq_true h40,cond_true,if_pos h40]
  by_cases h99:99<=d
  ·rw[if_pos h99,decide_eq_true (show(99:Int)<=(d:Int) by omega),cond_true]
   exact⟨_,rfl⟩
  rw[if_neg h99,decide_eq_false (show ¬(99:Int)<=(d:Int) by omega),cond_false]
  have wd:IntKind.wrap .i64 ((d:Int)+1)=((d+1:Nat):Int):=dh (by omega)
  rw[wd]
  have hq:=hin hlt
  unfold OkQ at hq
  cases ho:inner (i+1) (d+1)with
  |none=>
   rw[ho]at hq
   obtain⟨k,hq⟩:=hq
   rw[ae hq]
   exact⟨_,rfl⟩
  |some p=>
   obtain⟨t,j⟩:=p
   rw[ho]at hq
   dsimp only at hq
   obtain⟨r1,r2,r3,r4⟩:=cq t j ho
   rw[ae hq]
   dsimp only
   refine dW (P:=OkQ _) ((),(decide (¬(j<s.length/\ch s j=41)),())) (λK=>?_) ?_
   ·rw[iU t,cond_false]
    rcases ak j s.length with h|h
    ·have n1:(0:Int)<=(j:Int):=by omega
     have e:decide (¬(j<s.length/\ch s j=41))=!decide (ch s j=41):=by simp[h]
     rw[decide_eq_false (show ¬((s.length:Nat):Int)<=(j:Int) by omega),cond_false,if_pos n1,aa,gU h,e]
    ·have e:decide (¬(j<s.length/\ch s j=41))=true:=by simp;omega
     rw[decide_eq_true (show((s.length:Nat):Int)<=(j:Int) by omega),cond_true,e]
   dsimp only
   by_cases hj:j<s.length/\ch s j=41
   ·rw[if_pos hj,decide_eq_false (λh=>h hj),cond_false,dh (by omega)]
    rfl
   ·rw[if_neg hj,decide_eq_true hj,cond_true]
    exact⟨_,rfl⟩
 rw[decide_eq_false h40,cond_false,if_neg h40]
 obtain⟨hc,rU⟩:=uW s (show i<=s.length by omega)
 rw[if_pos hc,rU,ae (yE (hb.drop i) (uX hsm i))]
 dsimp only
 cases hrd:rdS (s.drop i)with
 |none=>exact⟨_,rfl⟩
 |some p=>
  obtain⟨c,n⟩:=p
  obtain⟨hcb,hn1,hn2⟩:=kK (hb.drop i) hrd
  rw[bB]at hn2
  dsimp only[rdR]
  obtain⟨c,rfl⟩:∃ q:Nat,c=(q:Int):=⟨c.toNat,by omega⟩
  have n1:(0:Int)<=(c:Int):=by omega
  have PR:c<256:=by omega
  rw[aA,cond_false,if_pos (show(0:Int)<=256/\(256:Int)<=256 by omega),if_pos (show((256:Int)).toNat*1<=140737488355328 by decide)]
  simp only[if_pos n1,xc,aa,nE _ PR,Bh _ PR]
  rw[ae (rZ _)]
  simp only[Ol (show i+n<9223372036854775808 by omega)]
  have e:ofB (λx=>false||decide (x=c))=ofB (rR (c:Int)):=iT λx hx=>by
   unfold rR
   rw[cV,decide_eq_decide];omega
  rw[e]
  rfl
theorem C9{s:List Int}(hb:Bytes s)(hs:s.length<=1600){q2 q3 q4 q5:RfF}{inner:Nat->Nat->Option (Rx×Nat)}{i d:Nat}
 (ek:OkQ (mM inner s i d) (q5 (s,((i:Int),((d:Int),()))))) (cq:ki s i (mM inner s i d)):
 OkQ (kJ inner s i d) (AT N0 q2 q3 q4 q5 (s,((i:Int),((d:Int),())))):=by
 have hsm:s.length<=maxLen:=by unfold maxLen;omega
 unfold AT
 dsimp only
 unfold kJ
 unfold OkQ at ek
 cases ho:mM inner s i d with
 |none=>
  rw[ho]at ek
  obtain⟨k0,hq⟩:=ek
  rw[ae hq]
  refine dZ (λm x=>x=((),(k0,([],())))) (OkQ none) ?_ N0 0 _ (by unfold N0;omega) rfl
  rintro m x rfl k hk
  exact⟨_,rfl⟩
 |some p=>
  obtain⟨t0,j0⟩:=p
  rw[ho]at ek
  dsimp only at ek
  have hr0:=cq t0 j0 ho
  rw[ae ek]
  dsimp only
  generalize hrs:rS s s.length.succ j0 t0=res
  refine dZ (λm x=>∃ (j:Nat) (t:Rx) (cd:Nat),x=((),((j:Int),(t.post,())))/\Res s i t j/\s.length-j<cd/\m=s.length-j/\rS s cd j t=res) (OkQ res) ?_ N0 (s.length-j0) _ (by unfold N0;omega) ⟨j0,t0,_,rfl,hr0,by omega,rfl,hrs⟩
  rintro m x ⟨j,t,cd,rfl,hr,hf,hm,hl⟩ k hk
  obtain⟨cd,rfl⟩:∃ q,cd=q+1:=⟨cd-1,by omega⟩
  simp only[rS]at hl
  dsimp only
  have n1:(0:Int)<=(j:Int):=by omega
  refine dW (P:=OkQ _) ((),(decide (j<s.length/\ch s j∈([42,43,63]:List Int)),())) (λK=>?_) ?_
  ·rw[iU t,aI,cond_true]
   rcases ak j s.length with h|h
   ·rw[decide_eq_true (show(j:Int)<((s.length:Nat):Int) by omega),cond_true,if_pos n1,aa,gU h]
    dsimp only
    rw[ae (qk _ (by simp[maxLen]) _)]
    have e:decide (j<s.length/\ch s j∈([42,43,63]:List Int))=decide (ch s j∈([42,43,63]:List Int)):=by
     rw[decide_eq_decide];exact⟨λh=>h.2,λh2=>⟨h,h2⟩⟩
    rw[e]
   ·have e:decide (j<s.length/\ch s j∈([42,43,63]:List Int))=false:=decide_eq_false (λh2=>by omega)
    rw[decide_eq_false (show ¬(j:Int)<((s.length:Nat):Int) by omega),cond_false,e]
  dsimp only
  by_cases hc:j<s.length/\ch s j∈([42,43,63]:List Int)
  ·rw[if_pos hc]at hl
   obtain⟨g1,g2,g3,g4⟩:=hr
   have tl:=t.aV
   rw[decide_eq_true hc,cond_true,if_pos n1,aa,gU hc.1]
   dsimp only
   refine dW (P:=OkQ _) ((),((if ch s j=43 then 5 else 4),())) (λK=>?_) ?_
   ·by_cases h:ch s j=43
    ·rw[decide_eq_true h,cond_true,if_pos h]
    ·rw[decide_eq_false h,cond_false,if_neg h]
   dsimp only
   rw[if_pos n1]
   refine dW (P:=OkQ _) ((),(iH (ch s j),())) (λK=>?_) ?_
   ·unfold iH
    by_cases h:ch s j=63
    ·rw[decide_eq_true h,cond_true,h];rfl
    ·rw[decide_eq_false h,cond_false]
     have h3:ch s j=42\/ch s j=43:=by
      have:=hc.2
      simp[h]at this
      exact this
     rcases h3 with h3|h3 <;> rw[h3] <;> rfl
   dsimp only
   have c1:(([]:List Pc).length+t.post.length)*40<=140737488355328:=by simp;omega
   have c2:([]:List Pc).length+t.post.length<=9223372036854775807:=by simp;omega
   have c3:((([]:List Pc)++t.post).length+([(iH (ch s j),[0,0,0,0])]:List Pc).length)*40<=140737488355328:=by simp;omega
   have c4:(([]:List Pc)++t.post).length+([(iH (ch s j),[0,0,0,0])]:List Pc).length<=9223372036854775807:=by simp;omega
   have e:([]:List Pc)++t.post++[(iH (ch s j),[0,0,0,0])]=(Rx.rep (iH (ch s j)) t).post:=rfl
   rw[if_pos c1,if_pos c2,if_pos c3,if_pos c4,e,iU,cond_false,dh (by omega)]
   exact hk (s.length-(j+1)) _ (by omega) ⟨j+1,_,cd,rfl,⟨by omega,by omega,by simp only[Rx.len];omega,rV _,g4⟩,by omega,rfl,hl⟩
  ·rw[if_neg hc]at hl
   rw[decide_eq_false hc,cond_false]
   subst hl
   rfl
end
noncomputable section
theorem On{s:List Int}(hb:Bytes s)(hs:s.length<=1600){q2 q3 q4 q5:RfF}{inner:Nat->Nat->Option (Rx×Nat)}{i d:Nat}(hi:i<=s.length)
 (bF:∀ j,i<=j->j<=s.length->OkQ (kJ inner s j d) (q4 (s,((j:Int),((d:Int),()))))) (cq:∀ j,i<=j->ki s j (kJ inner s j d)):
 OkQ (lF inner s i d) (AS N0 q2 q3 q4 q5 (s,((i:Int),((d:Int),())))):=by
 have hsm:s.length<=maxLen:=by unfold maxLen;omega
 unfold AS
 dsimp only
 unfold lF
 have ek:=bF i (ar _) hi
 unfold OkQ at ek
 cases ho:kJ inner s i d with
 |none=>
  rw[ho]at ek
  obtain⟨k0,hq⟩:=ek
  rw[ae hq]
  refine dZ (λm x=>x=((),(k0,([],())))) (OkQ none) ?_ N0 0 _ (by unfold N0;omega) rfl
  rintro m x rfl k hk
  exact⟨_,rfl⟩
 |some p=>
  obtain⟨t0,j0⟩:=p
  rw[ho]at ek
  dsimp only at ek
  have hr0:=cq i (ar _) t0 j0 ho
  rw[ae ek]
  dsimp only
  generalize hrs:th inner s d s.length.succ j0 t0=res
  refine dZ (λm x=>∃ (j:Nat) (t:Rx) (cd:Nat),x=((),((j:Int),(t.post,())))/\Res s i t j/\s.length-j<cd/\m=s.length-j/\th inner s d cd j t=res) (OkQ res) ?_ N0 (s.length-j0) _ (by unfold N0;omega) ⟨j0,t0,_,rfl,hr0,by omega,rfl,hrs⟩
  rintro m x ⟨j,t,cd,rfl,hr,hf,hm,hl⟩ k hk
  obtain⟨cd,rfl⟩:∃ q,cd=q+1:=⟨cd-1,by omega⟩
  simp only[th]at hl
  dsimp only
  have n1:(0:Int)<=(j:Int):=by omega
  refine dW (P:=OkQ _) ((),(decide (j<s.length/\ch s j∉([124,41]:List Int)),())) (λK=>?_) ?_
  ·rw[iU t,aI,cond_true]
   rcases ak j s.length with h|h
   ·rw[decide_eq_true (show(j:Int)<((s.length:Nat):Int) by omega),cond_true,if_pos n1,aa,gU h]
    dsimp only
    rw[ae (qk _ (by simp[maxLen]) _)]
    have e:decide (j<s.length/\ch s j∉([124,41]:List Int))=!decide (ch s j∈([124,41]:List Int)):=by
     rw[<-decide_not,decide_eq_decide];exact⟨λh=>h.2,λh2=>⟨h,h2⟩⟩
    rw[e]
   ·have e:decide (j<s.length/\ch s j∉([124,41]:List Int))=false:=decide_eq_false (λh2=>by omega)
    rw[decide_eq_false (show ¬(j:Int)<((s.length:Nat):Int) by omega),cond_false,e]
  dsimp only
  by_cases hc:j<s.length/\ch s j∉([124,41]:List Int)
  ·rw[if_pos hc]at hl
   obtain⟨g1,g2,g3,g4⟩:=hr
   have tl:=t.aV
   rw[decide_eq_true hc,cond_true]
   have hq:=bF j (by omega) (by omega)
   unfold OkQ at hq
   cases h2:kJ inner s j d with
   |none=>
    rw[h2]at hq hl
    obtain⟨k0,hq⟩:=hq
    rw[ae hq]
    subst hl
    exact⟨_,rfl⟩
   |some p=>
    obtain⟨t2,j2⟩:=p
    rw[h2]at hq hl
    dsimp only at hq hl
    obtain⟨f1,f2,f3,f4⟩:=cq j (by omega) t2 j2 h2
    have tl2:=t2.aV
    rw[ae hq]
    dsimp only
    have c1:(([]:List Pc).length+t.post.length)*40<=140737488355328:=by simp;omega
    have c2:([]:List Pc).length+t.post.length<=9223372036854775807:=by simp;omega
    have c3:((([]:List Pc)++t.post).length+t2.post.length)*40<=140737488355328:=by simp;omega
    have c4:(([]:List Pc)++t.post).length+t2.post.length<=9223372036854775807:=by simp;omega
    have c5:((([]:List Pc)++t.post++t2.post).length+([(2,[0,0,0,0])]:List Pc).length)*40<=140737488355328:=by simp;omega
    have c6:(([]:List Pc)++t.post++t2.post).length+([(2,[0,0,0,0])]:List Pc).length<=9223372036854775807:=by simp;omega
    have e:([]:List Pc)++t.post++t2.post++[(2,[0,0,0,0])]=(Rx.cat t t2).post:=rfl
    rw[iU t2,cond_false,if_pos c1,if_pos c2,if_pos c3,if_pos c4,if_pos c5,if_pos c6,e,iU,cond_false]
    exact hk (s.length-j2) _ (by omega) ⟨j2,.cat t t2,cd,rfl,⟨by omega,by omega,by simp only[Rx.len];omega,g4,f4⟩,by omega,rfl,hl⟩
  ·rw[if_neg hc]at hl
   rw[decide_eq_false hc,cond_false]
   subst hl
   rfl
theorem Da{s:List Int}(hb:Bytes s)(hs:s.length<=1600){q2 q3 q4 q5:RfF}{inner:Nat->Nat->Option (Rx×Nat)}{i d:Nat}(hi:i<=s.length)
 (yD:∀ j,i<=j->j<=s.length->OkQ (lF inner s j d) (q3 (s,((j:Int),((d:Int),()))))) (cq:∀ j,i<=j->ki s j (lF inner s j d)):
 OkQ (C5 inner s i d) (AR N0 q2 q3 q4 q5 (s,((i:Int),((d:Int),())))):=by
 have hsm:s.length<=maxLen:=by unfold maxLen;omega
 unfold AR
 dsimp only
 unfold C5
 have ek:=yD i (ar _) hi
 unfold OkQ at ek
 cases ho:lF inner s i d with
 |none=>
  rw[ho]at ek
  obtain⟨k0,hq⟩:=ek
  rw[ae hq]
  refine dZ (λm x=>x=((),(k0,([],())))) (OkQ none) ?_ N0 0 _ (by unfold N0;omega) rfl
  rintro m x rfl k hk
  exact⟨_,rfl⟩
 |some p=>
  obtain⟨t0,j0⟩:=p
  rw[ho]at ek
  dsimp only at ek
  have hr0:=cq i (ar _) t0 j0 ho
  rw[ae ek]
  dsimp only
  generalize hrs:tj inner s d s.length.succ j0 t0=res
  refine dZ (λm x=>∃ (j:Nat) (t:Rx) (cd:Nat),x=((),((j:Int),(t.post,())))/\Res s i t j/\s.length-j<cd/\m=s.length-j/\tj inner s d cd j t=res) (OkQ res) ?_ N0 (s.length-j0) _ (by unfold N0;omega) ⟨j0,t0,_,rfl,hr0,by omega,rfl,hrs⟩
  rintro m x ⟨j,t,cd,rfl,hr,hf,hm,hl⟩ k hk
  obtain⟨cd,rfl⟩:∃ q,cd=q+1:=⟨cd-1,by omega⟩
  simp only[tj]at hl
  dsimp only
  have n1:(0:Int)<=(j:Int):=by omega
  refine dW (P:=OkQ _) ((),(decide (j<s.length/\ch s j=124),())) (λK=>?_) ?_
  ·rw[iU t,aI,cond_true]
   rcases ak j s.length with h|h
   ·rw[decide_eq_true (show(j:Int)<((s.length:Nat):Int) by omega),cond_true,if_pos n1,aa,gU h]
    have e:decide (j<s.length/\ch s j=124)=decide (ch s j=124):=by
     rw[decide_eq_decide];exact⟨λh=>h.2,λh2=>⟨h,h2⟩⟩
    rw[e]
   ·have e:decide (j<s.length/\ch s j=124)=false:=decide_eq_false (λh2=>by omega)
    rw[decide_eq_false (show ¬(j:Int)<((s.length:Nat):Int) by omega),cond_false,e]
  dsimp only
  by_cases hc:j<s.length/\ch s j=124
  ·rw[if_pos hc]at hl
   obtain⟨g1,g2,g3,g4⟩:=hr
   have tl:=t.aV
   rw[decide_eq_true hc,cond_true,dh (by omega)]
   have hq:=yD (j+1) (by omega) (by omega)
   unfold OkQ at hq
   cases h2:lF inner s (j+1) d with
   |none=>
    rw[h2]at hq hl
    obtain⟨k0,hq⟩:=hq
    rw[ae hq]
    subst hl
    exact⟨_,rfl⟩
   |some p=>
    obtain⟨t2,j2⟩:=p
    rw[h2]at hq hl
    dsimp only at hq hl
    obtain⟨f1,f2,f3,f4⟩:=cq (j+1) (by omega) t2 j2 h2
    have tl2:=t2.aV
    rw[ae hq]
    dsimp only
    have c1:(([]:List Pc).length+t.post.length)*40<=140737488355328:=by simp;omega
    have c2:([]:List Pc).length+t.post.length<=9223372036854775807:=by simp;omega
    have c3:((([]:List Pc)++t.post).length+t2.post.length)*40<=140737488355328:=by simp;omega
    have c4:(([]:List Pc)++t.post).length+t2.post.length<=9223372036854775807:=by simp;omega
    have c5:((([]:List Pc)++t.post++t2.post).length+([(3,[0,0,0,0])]:List Pc).length)*40<=140737488355328:=by simp;omega
    have c6:(([]:List Pc)++t.post++t2.post).length+([(3,[0,0,0,0])]:List Pc).length<=9223372036854775807:=by simp;omega
    have e:([]:List Pc)++t.post++t2.post++[(3,[0,0,0,0])]=(Rx.alt t t2).post:=rfl
    rw[iU t2,cond_false,if_pos c1,if_pos c2,if_pos c3,if_pos c4,if_pos c5,if_pos c6,e,iU,cond_false]
    exact hk (s.length-j2) _ (by omega) ⟨j2,.alt t t2,cd,rfl,⟨by omega,by omega,by simp only[Rx.len];omega,g4,f4⟩,by omega,rfl,hl⟩
  ·rw[if_neg hc]at hl
   rw[decide_eq_false hc,cond_false]
   subst hl
   rfl
theorem Oo{s:List Int}(hb:Bytes s)(hs:s.length<=1600):∀ (n D i d:Nat),4*n<=D->s.length-i<n->i<=s.length->d<=i->OkQ (kh s n i d) ((db N0 D).1 (s,((i:Int),((d:Int),())))):=by
 intro n
 induction n with
 |zero=>intro D i d _ h;omega
 |succ n ih=>
  intro D i d hD hn hi hd
  obtain⟨D,rfl⟩:∃ q,D=q+1+1+1+1:=⟨D-4,by omega⟩
  have cq:∀ i d,s.length-i<n->ki s i (kh s n i d):=λi d h=>j5 hb n i d h
  have Hp:∀ j,i<=j->ki s (j+1) (kh s n (j+1) (d+1)):=λj hij t j2 h=>by
   rcases ak j s.length with hlt|hge
   ·exact cq (j+1) (d+1) (by omega) t j2 h
   ·cases n with
    |zero=>cases h
    |succ n=>exact j5 hb (n+1) (j+1) (d+1) (by omega) t j2 h
  have ek:∀ j,i<=j->j<=s.length->OkQ (mM (kh s n) s j d) ((db N0 (D+1)).2.2.2 (s,((j:Int),((d:Int),())))):=λj hij hj=>
   Om (q2:=(db N0 (D)).1) (q3:=(db N0 (D)).2.1) (q4:=(db N0 (D)).2.2.1) (q5:=(db N0 (D)).2.2.2) hb hs (bu hd hij) (λhlt=>ih D (j+1) (d+1) (by omega) (by omega) (by omega) (by omega)) (Hp j hij)
  have bF:∀ j,i<=j->j<=s.length->OkQ (kJ (kh s n) s j d) ((db N0 (D+1+1)).2.2.1 (s,((j:Int),((d:Int),())))):=λj hij hj=>
   C9 (q2:=(db N0 (D+1)).1) (q3:=(db N0 (D+1)).2.1) (q4:=(db N0 (D+1)).2.2.1) (q5:=(db N0 (D+1)).2.2.2) hb hs (ek j hij hj) (uU hb (Hp j hij))
  have yD:∀ j,i<=j->j<=s.length->OkQ (lF (kh s n) s j d) ((db N0 (D+1+1+1)).2.1 (s,((j:Int),((d:Int),())))):=λj hij hj=>
   On (q2:=(db N0 (D+1+1)).1) (q3:=(db N0 (D+1+1)).2.1) (q4:=(db N0 (D+1+1)).2.2.1) (q5:=(db N0 (D+1+1)).2.2.2) hb hs hj (λj2 hj2 hj3=>bF j2 (bu hij hj2) hj3) (λj2 hj2=>qh hb (Hp j2 (bu hij hj2)))
  exact Da (q2:=(db N0 (D+1+1+1)).1) (q3:=(db N0 (D+1+1+1)).2.1) (q4:=(db N0 (D+1+1+1)).2.2.1) (q5:=(db N0 (D+1+1+1)).2.2.2) hb hs hi yD (λj hij t j2 h=>qi hb n cq (by omega) t j2 h)
theorem Oq{s:List Int}(hb:Bytes s):NG N0 (s,())=some (Kc (gb s)):=by
 delta NG Bd;unfold gb
 dsimp only
 by_cases hs:1600<s.length
 ·rw[if_pos hs,decide_eq_true (show(1600:Int)<((s.length:Nat):Int) by omega),cond_true]
  rfl
 rw[if_neg hs,decide_eq_false (show ¬(1600:Int)<((s.length:Nat):Int) by omega),cond_false]
 have hq:OkQ (kh s s.length.succ 0 0) (Rg N0 (s,(((0:Nat):Int),(((0:Nat):Int),())))):=Oo hb (by omega) s.length.succ N0 0 0 (by unfold N0;omega) (by omega) (aC _) (ar _)
 have e0:(s,(((0:Nat):Int),(((0:Nat):Int),())))=(s,((0:Int),((0:Int),()))):=rfl
 rw[e0]at hq
 unfold OkQ at hq
 cases ho:kh s s.length.succ 0 0 with
 |none=>
  rw[ho]at hq
  obtain⟨k,hq⟩:=hq
  rw[ae hq]
  rfl
 |some p=>
  obtain⟨t,i⟩:=p
  rw[ho]at hq
  dsimp only at hq
  rw[ae hq]
  dsimp only
  refine aY ((),(decide (i<s.length),())) (λK=>?_) ?_
  ·have:decide (((i:Nat):Int)<((s.length:Nat):Int))=decide (i<s.length):=by rw[decide_eq_decide];omega
   rw[iU t,cond_false,this]
  dsimp only
  by_cases h2:i<s.length
  ·rw[if_pos h2,decide_eq_true h2];rfl
  rw[if_neg h2,decide_eq_false h2,cond_false]
  rw[t.aV]
  by_cases h3:400<t.len
  ·rw[if_pos h3,decide_eq_true (show(400:Int)<((t.len:Nat):Int) by omega)];rfl
  ·rw[if_neg h3,decide_eq_false (show ¬(400:Int)<((t.len:Nat):Int) by omega)];rfl
end
noncomputable section
def cK(k:Int):Int:=if k=0\/k=1 then 0 else if k=2\/k=3 then 2 else 1
theorem Kl:∀ k:Fin 7,G9 N0 (((k.val:Nat):Int),())=some ((cK ((k.val:Nat):Int),()),()):=by decide +kernel
theorem tv{k:Int}(h:0<=k/\k<=6):G9 N0 (k,())=some ((cK k,()),()):=by
 have:=Kl ⟨k.toNat,by omega⟩
 simp only[dl h.1]at this
 exact this
theorem Db{k:Int}{a:Rx}(h:(Rx.rep k a).ok):0<=k/\k<=6/\cK k=1:=by
 rcases h.1 with rfl|rfl|rfl <;> decide
theorem Dc{r:List Pc}(hr:r.length<=100000)(body)(UD:body=(λ(v3:Unit×(Int×(Int×Unit)))=>(λ(v4:(Unit×(Int×(Int×Unit)))->Option ((Int×Unit)×Unit))=>
 (bif decide (0<=v3.2.2.1)then(if 0<=v3.2.2.1 then(match r[(v3.2.2.1).toNat]? with|some v5=>(ah (G9 N0 (v5.1,())) (λv6=>(bif decide ((IntKind.wrap .i64 ((IntKind.wrap .i64 (v3.2.1-1))+v6.1.1))=0)then(some ((v3.2.2.1,()),()))else(v4 ((),((IntKind.wrap .i64 ((IntKind.wrap .i64 (v3.2.1-1))+v6.1.1)),((IntKind.wrap .i64 (v3.2.2.1-1)),())))))))|none=>none)else none)else(some ((0,()),())))))):
 ∀ (t:Rx) (F n:Nat) (l rest:List Pc),t.ok->r=l++t.post++rest->1<=n->n+t.len<=1000000->aD body (F+t.len) ((),((n:Int),(((l.length+t.len:Nat):Int)-1,())))=if n=1 then some ((((l.length:Nat):Int),()),())else aD body F ((),((n:Int)-1,(((l.length:Nat):Int)-1,()))):=by
 -- one step
 have step:∀ (F:Nat) (n i:Nat) (p:Pc),r[i]?=some p->0<=p.1/\p.1<=6->1<=n->n<=1000000->
  aD body (F+1) ((),((n:Int),((i:Int),())))=if(n:Int)-1+cK p.1=0 then some ((((i:Nat):Int),()),())else aD body F ((),((n:Int)-1+cK p.1,((i:Int)-1,()))):=by
  intro F n i p hp hk hn1 hn2
  have hi:i<r.length:=by
   rcases ak i r.length with h|h
   ·exact h
   ·rw[List.getElem?_eq_none h]at hp;cases hp
  have ht:0<=cK p.1/\cK p.1<=2:=by
   unfold cK
   split
   ·omega
   ·split <;> omega
  rw[dU,UD]
  simp only
  have n0:(0:Int)<=(i:Int):=by omega
  have w1:IntKind.wrap .i64 ((n:Int)-1)=(n:Int)-1:=bz (by omega) (by omega)
  have w2:IntKind.wrap .i64 ((n:Int)-1+cK p.1)=(n:Int)-1+cK p.1:=bz (by omega) (by omega)
  have w3:IntKind.wrap .i64 ((i:Int)-1)=(i:Int)-1:=bz (by omega) (by omega)
  simp only[decide_eq_true n0,cond_true,if_pos n0,aa,hp,tv hk,aB,w1,w2,w3]
  by_cases h:(n:Int)-1+cK p.1=0
  ·rw[if_pos h,decide_eq_true h,cond_true]
  ·rw[if_neg h,decide_eq_false h,cond_false]
 intro t
 induction t with
 |eps=>
  intro F n l rest _ hr2 hn1 hn2
  simp only[Rx.len]
  have hp:r[l.length]?=some (0,zS):=by rw[hr2];simp[Rx.post]
  have e:((l.length+1:Nat):Int)-1=((l.length:Nat):Int):=by omega
  rw[e,step F n l.length _ hp (by decide) hn1 (by omega)]
  have e2:cK ((0,zS):Pc).1=0:=rfl
  rw[e2,Int.add_zero]
  by_cases h:n=1
  ·rw[if_pos h,if_pos (by omega)]
  ·rw[if_neg h,if_neg (by omega)]
 |set S=>
  intro F n l rest _ hr2 hn1 hn2
  simp only[Rx.len]
  have hp:r[l.length]?=some (1,S):=by rw[hr2];simp[Rx.post]
  have e:((l.length+1:Nat):Int)-1=((l.length:Nat):Int):=by omega
  rw[e,step F n l.length _ hp ⟨(by decide:(0:Int)<=1),(by decide:(1:Int)<=6)⟩ hn1 (by omega)]
  have e2:cK ((1,S):Pc).1=0:=rfl
  rw[e2,Int.add_zero]
  by_cases h:n=1
  ·rw[if_pos h,if_pos (by omega)]
  ·rw[if_neg h,if_neg (by omega)]
 |cat a b iha ihb=>
  intro F n l rest hok hr2 hn1 hn2
  simp only[Rx.len]at hn2 |-
  have hp:r[l.length+(a.len+b.len)]?=some (2,zS):=by
   rw[hr2]
   simp[Rx.post,<-a.aV,<-b.aV,cG]
  have e:((l.length+(a.len+b.len+1):Nat):Int)-1=((l.length+(a.len+b.len):Nat):Int):=by omega
  rw[e,show F+(a.len+b.len+1)=(F+a.len+b.len)+1 by omega,step _ n _ _ hp (by decide) hn1 (by omega)]
  have e2:cK ((2,zS):Pc).1=2:=rfl
  rw[e2,if_neg (by omega)]
  have hb:=ihb (F+a.len) (n+1) (l++a.post) ([(2,zS)]++rest) hok.2 (by rw[hr2];simp[Rx.post]) (by omega) (by omega)
  rw[if_neg (by omega)]at hb
  have e3:(n:Int)-1+2=((n+1:Nat):Int):=by omega
  have e4:((l.length+(a.len+b.len):Nat):Int)-1=(((l++a.post).length+b.len:Nat):Int)-1:=by rw[aj,a.aV];omega
  rw[e3,e4,hb]
  have ha:=iha F n l (b.post++[(2,zS)]++rest) hok.1 (by rw[hr2];simp[Rx.post]) hn1 (by omega)
  have e5:((n+1:Nat):Int)-1=(n:Int):=by omega
  rw[e5,aj,a.aV,ha]
 |alt a b iha ihb=>
  intro F n l rest hok hr2 hn1 hn2
  simp only[Rx.len]at hn2 |-
  have hp:r[l.length+(a.len+b.len)]?=some (3,zS):=by
   rw[hr2]
   simp[Rx.post,<-a.aV,<-b.aV,cG]
  have e:((l.length+(a.len+b.len+1):Nat):Int)-1=((l.length+(a.len+b.len):Nat):Int):=by omega
  rw[e,show F+(a.len+b.len+1)=(F+a.len+b.len)+1 by omega,step _ n _ _ hp (by decide) hn1 (by omega)]
  have e2:cK ((3,zS):Pc).1=2:=rfl
  rw[e2,if_neg (by omega)]
  have hb:=ihb (F+a.len) (n+1) (l++a.post) ([(3,zS)]++rest) hok.2 (by rw[hr2];simp[Rx.post]) (by omega) (by omega)
  rw[if_neg (by omega)]at hb
  have e3:(n:Int)-1+2=((n+1:Nat):Int):=by omega
  have e4:((l.length+(a.len+b.len):Nat):Int)-1=(((l++a.post).length+b.len:Nat):Int)-1:=by rw[aj,a.aV];omega
  rw[e3,e4,hb]
  have ha:=iha F n l (b.post++[(3,zS)]++rest) hok.1 (by rw[hr2];simp[Rx.post]) hn1 (by omega)
  have e5:((n+1:Nat):Int)-1=(n:Int):=by omega
  rw[e5,aj,a.aV,ha]
 |rep k a iha=>
  intro F n l rest hok hr2 hn1 hn2
  simp only[Rx.len]at hn2 |-
  obtain⟨k1,k2,k3⟩:=Db hok
  have hp:r[l.length+a.len]?=some (k,zS):=by
   rw[hr2]
   simp[Rx.post,<-a.aV]
  have e:((l.length+(a.len+1):Nat):Int)-1=((l.length+a.len:Nat):Int):=by omega
  rw[e,show F+(a.len+1)=(F+a.len)+1 by omega,step _ n _ _ hp ⟨k1,k2⟩ hn1 (by omega)]
  have e2:cK ((k,zS):Pc).1=1:=k3
  rw[e2,if_neg (by omega)]
  have ha:=iha F n l ([(k,zS)]++rest) hok.2 (by rw[hr2];simp[Rx.post]) hn1 (by omega)
  have e5:(n:Int)-1+1=(n:Int):=by omega
  rw[e5,ha]
theorem Ey{l rest:List Pc}{t:Rx}(hok:t.ok)(hl:(l++t.post++rest).length<=100000):CZ N0 (l++t.post++rest,(((l.length+t.len:Nat):Int)-1,()))=some ((((l.length:Nat):Int),()),()):=by
 have hlen:t.len<=100000:=by
  have:=t.aV
  rw[aj,aj]at hl
  omega
 have h:=Dc hl _ rfl t (N0-t.len) 1 l rest hok rfl (by omega) (by omega)
 rw[if_pos rfl,show N0-t.len+t.len=N0 by unfold N0;omega]at h
 exact h
end
noncomputable section
theorem qn{α:Type}(l m rest:List α):cC (l++m++rest) ((l.length:Nat):Int) ((l.length+m.length:Nat):Int)=m:=by
 unfold cC
 rw[aa,aa,qN,aO,od,List.take_left]
theorem ky{r0:List Pc}{p:Pc}(h:r0.length<=100000):IntKind.wrap .i64 ((((r0++[p]).length:Nat):Int)-1)=((r0.length:Nat):Int)/\(r0++[p])[r0.length]?=some p:=by
 constructor
 ·have:((((r0++[p]).length:Nat):Int)-1)=((r0.length:Nat):Int):=by rw[aj];simp
  rw[this];exact bH (by omega)
 ·simp
theorem Hq{p:Pc}(hk:0<=p.1/\p.1<=6)(ht:cK p.1=0):ym N0 ([p],())=some (([],()),()):=by
 obtain⟨h1,h2⟩:=ky (r0:=[]) (p:=p) (by simp)
 delta ym Ap Bd Wi
 have n0:(0:Int)<=((([]:List Pc).length:Nat):Int):=by omega
 rw[bL]at h1 h2
 simp only[h1,if_pos n0,aa,h2,tv hk,aB,ht]
 refine aZ (λm x r=>x=((),([],(((([]:List Pc).length:Nat):Int),((0:Int),()))))/\r=some (([],()),())) ?_ N0 0 _ _ (by unfold N0;omega) ⟨rfl,rfl⟩
 rintro m x r ⟨rfl,rfl⟩ k hk
 rfl
theorem xd{rest:List Pc}{t:Rx}(hok:t.ok)(hl:(t.post++rest).length<=100000):CZ N0 (t.post++rest,(((t.post.length:Nat):Int)-1,()))=some (((0:Int),()),()):=by
 have e1:([]:List Pc)++t.post=t.post:=bL _
 have:=Ey (l:=[]) (rest:=rest) (t:=t) hok (by rw[e1];exact hl)
 have e2:([]:List Pc).length+t.len=t.post.length:=by rw[t.aV,bD,et]
 have e3:((([]:List Pc).length:Nat):Int)=0:=rfl
 rw[e1,e2,e3]at this
 exact this
theorem Km{a:Rx}{p:Pc}(ha:a.ok)(hl:a.len<=10000)(hk:0<=p.1/\p.1<=6)(ht:cK p.1=1):ym N0 (a.post++[p],())=some (([a.post],()),()):=by
 have pl:=a.aV
 obtain⟨h1,h2⟩:=ky (r0:=a.post) (p:=p) (by omega)
 have n0:(0:Int)<=((a.post.length:Nat):Int):=by omega
 have q1:CZ N0 (a.post++[p],(((a.post.length:Nat):Int)-1,()))=some (((0:Int),()),()):=by
  exact xd ha (by rw[aj,im];omega)
 delta ym Ap Bd Wi
 simp only[h1]
 rw[if_pos n0,aa,h2]
 simp only
 rw[ae (tv hk),ht]
 simp only
 refine aZ (λm x r=>((m=1/\x=((),([],(((a.post.length:Nat):Int),((1:Int),())))))\/(m=0/\x=((),([a.post],((0:Int),((0:Int),()))))))/\r=some (([a.post],()),())) ?_ N0 1 _ _ (by unfold N0;omega) ⟨.inl ⟨rfl,rfl⟩,rfl⟩
 rintro m x r ⟨hx,rfl⟩ k hk
 rcases hx with⟨rfl,rfl⟩|⟨rfl,rfl⟩
 ·have w1:IntKind.wrap .i64 (((a.post.length:Nat):Int)-1)=((a.post.length:Nat):Int)-1:=bz (by omega) (by omega)
  have c0:(0:Int)<=0/\(0:Int)<=((a.post.length:Nat):Int)/\((a.post.length:Nat):Int)<=(((a.post++[p]).length:Nat):Int):=⟨by omega,by omega,by rw[aj];omega⟩
  have rU:cC (a.post++[p]) 0 ((a.post.length:Nat):Int)=a.post:=by
   have:=qn ([]:List Pc) a.post [p]
   simpa using this
  have f1:(([a.post]:List (List Pc)).length+([]:List (List Pc)).length)*24<=140737488355328:=by simp
  have f2:([a.post]:List (List Pc)).length+([]:List (List Pc)).length<=9223372036854775807:=by simp
  have w2:IntKind.wrap .i64 ((1:Int)-1)=0:=bz (by omega) (by omega)
  simp only[show decide ((0:Int)<1)=true from rfl,cond_true,w1,q1,aB,if_pos c0,rU,if_pos f1,if_pos f2,w2,b9]
  exact hk 0 _ _ (by omega) ⟨.inr ⟨rfl,rfl⟩,rfl⟩
 ·simp only[show decide ((0:Int)<0)=false from rfl,cond_false]
theorem Bj{a b:Rx}{p:Pc}(ha:a.ok)(hb:b.ok)(hl:a.len+b.len<=10000)(hk:0<=p.1/\p.1<=6)(ht:cK p.1=2):ym N0 (a.post++b.post++[p],())=some (([a.post,b.post],()),()):=by
 have pl:=a.aV
 have pl2:=b.aV
 have Yd:(a.post++b.post++[p]).length=(a.post++b.post).length+1:=by rw[aj];rfl
 have lab:(a.post++b.post).length=a.post.length+b.post.length:=aj
 obtain⟨h1,h2⟩:=ky (r0:=a.post++b.post) (p:=p) (by rw[aj];omega)
 have n0:(0:Int)<=(((a.post++b.post).length:Nat):Int):=by omega
 have q1:CZ N0 (a.post++b.post++[p],((((a.post++b.post).length:Nat):Int)-1,()))=some ((((a.post.length:Nat):Int),()),()):=by
  have:=Ey (l:=a.post) (rest:=[p]) (t:=b) hb (by simp;omega)
  rw[aj,pl2]
  exact this
 have q2:CZ N0 (a.post++b.post++[p],(((a.post.length:Nat):Int)-1,()))=some (((0:Int),()),()):=by
  rw[aO]
  exact xd ha (by rw[aj,aj,im];omega)
 delta ym Ap Bd Wi
 simp only[h1]
 rw[if_pos n0,aa,h2]
 simp only
 rw[ae (tv hk),ht]
 simp only
 refine aZ (λm x r=>((m=2/\x=((),([],((((a.post++b.post).length:Nat):Int),((2:Int),())))))\/(m=1/\x=((),([b.post],(((a.post.length:Nat):Int),((1:Int),())))))\/(m=0/\x=((),([a.post,b.post],((0:Int),((0:Int),()))))))/\r=some (([a.post,b.post],()),())) ?_ N0 2 _ _ (by unfold N0;omega) ⟨.inl ⟨rfl,rfl⟩,rfl⟩
 rintro m x r ⟨hx,rfl⟩ k hk
 rcases hx with⟨rfl,rfl⟩|⟨rfl,rfl⟩|⟨rfl,rfl⟩
 ·have w1:IntKind.wrap .i64 ((((a.post++b.post).length:Nat):Int)-1)=(((a.post++b.post).length:Nat):Int)-1:=bz (by omega) (by rw[aj];omega)
  have c0:(0:Int)<=((a.post.length:Nat):Int)/\((a.post.length:Nat):Int)<=(((a.post++b.post).length:Nat):Int)/\(((a.post++b.post).length:Nat):Int)<=(((a.post++b.post++[p]).length:Nat):Int):=⟨by omega,by omega,by omega⟩
  have rU:cC (a.post++b.post++[p]) ((a.post.length:Nat):Int) (((a.post++b.post).length:Nat):Int)=b.post:=by
   rw[lab]
   exact qn a.post b.post [p]
  have f1:(([b.post]:List (List Pc)).length+([]:List (List Pc)).length)*24<=140737488355328:=by simp
  have f2:([b.post]:List (List Pc)).length+([]:List (List Pc)).length<=9223372036854775807:=by simp
  have w2:IntKind.wrap .i64 ((2:Int)-1)=1:=bz (by omega) (by omega)
  simp only[show decide ((0:Int)<2)=true from rfl,cond_true,w1,q1,aB,if_pos c0,rU,if_pos f1,if_pos f2,w2,b9]
  exact hk 1 _ _ (by omega) ⟨.inr (.inl ⟨rfl,rfl⟩),rfl⟩
 ·have w1:IntKind.wrap .i64 (((a.post.length:Nat):Int)-1)=((a.post.length:Nat):Int)-1:=bz (by omega) (by omega)
  have c0:(0:Int)<=0/\(0:Int)<=((a.post.length:Nat):Int)/\((a.post.length:Nat):Int)<=(((a.post++b.post++[p]).length:Nat):Int):=⟨by omega,by omega,by rw[aj,aj];omega⟩
  have rU:cC (a.post++b.post++[p]) 0 ((a.post.length:Nat):Int)=a.post:=by
   have:=qn ([]:List Pc) a.post (b.post++[p])
   simpa using this
  have f1:(([a.post]:List (List Pc)).length+([b.post]:List (List Pc)).length)*24<=140737488355328:=by simp
  have f2:([a.post]:List (List Pc)).length+([b.post]:List (List Pc)).length<=9223372036854775807:=by simp
  have w2:IntKind.wrap .i64 ((1:Int)-1)=0:=bz (by omega) (by omega)
  simp only[show decide ((0:Int)<1)=true from rfl,cond_true,w1,q2,aB,if_pos c0,rU,if_pos f1,if_pos f2,w2]
  exact hk 0 _ _ (by omega) ⟨.inr (.inr ⟨rfl,rfl⟩),rfl⟩
 ·simp only[show decide ((0:Int)<0)=false from rfl,cond_false]
theorem yF(a b:Bool):JJ N0 ([a],([b],()))=some (([a||b],()),()):=by
 revert a b
 decide +kernel
abbrev EnF:=(List Pc×(List Int×(List Bool×Unit)))->Option ((List Bool×Unit)×Unit)
theorem Ko{q2 q3:EnF}{r:List Pc}{n:Bool}(h:∀ b,q2 (r,([],([b],())))=some (([b&&n],()),()))(b:Bool):AV N0 q2 q3 (r,([],([b],())))=some (([b],()),()):=by
 unfold AV
 dsimp only
 refine aZ (λm x q=>x=((),([b],((0:Int),())))/\q=some (([b],()),())) ?_ N0 0 _ _ (by unfold N0;omega) ⟨rfl,rfl⟩
 rintro m x q ⟨rfl,rfl⟩ k hk
 have e1:decide ((0:Int)<=((([]:List Int).length:Nat):Int))=true:=rfl
 have e2:(b||(b&&n))=b:=by cases b <;> rfl
 simp only[e1,cond_true,h b,aB,yF,e2]
 refine aZ (λm x q=>((m=1/\x=((),(true,((0:Int),()))))\/(m=0/\x=((),(true,((1:Int),())))))/\q=some (([b],()),())) ?_ N0 1 _ _ (by unfold N0;omega) ⟨.inl ⟨rfl,rfl⟩,rfl⟩
 rintro m x q ⟨hx,rfl⟩ k2 hk2
 rcases hx with⟨rfl,rfl⟩|⟨rfl,rfl⟩
 ·have g0:([b]:List Bool)[((0:Int)).toNat]?=some b:=rfl
  have e3:decide ((0:Int)<(([b]:List Bool).length:Nat))=true:=rfl
  have n0:(0:Int)<=0:=by omega
  simp only[e3,cond_true,aH,if_pos n0,g0,beq_self_eq_true]
  exact hk2 0 _ _ (by omega) ⟨.inr ⟨rfl,rfl⟩,rfl⟩
 ·rfl
end
noncomputable section
theorem Bk{α:Type}(x:α)(l:List α):(x::l)[((0:Int)).toNat]?=some x:=rfl
theorem UE{α:Type}(x y:α)(l:List α):(x::y::l)[((1:Int)).toNat]?=some y:=rfl
theorem Bl{p:Pc}(hk:0<=p.1/\p.1<=6)(ht:cK p.1=0):ym N0 ([]++[p],())=some (([],()),()):=by
 rw[bL];exact Hq hk ht
theorem z0:(0:Int)<=0:=by omega
theorem z1:(0:Int)<=1:=by omega
theorem Ot:∀ (t:Rx),t.ok->t.len<=10000->∀ (D:Nat) (b:Bool),2*t.len<=D->(gj N0 D).1 (t.post,([],([b],())))=some (([b&&t.null],()),()):=by
 have c0:∀ b:Bool,(0:Int)<=(([b]:List Bool).length:Nat)/\((([b]:List Bool).length:Nat):Int)<=(([b]:List Bool).length:Nat):=λb=>⟨by omega,by omega⟩
 have c1:∀ b:Bool,(((([b]:List Bool).length:Nat):Int)).toNat*1<=140737488355328:=λb=>by rw[aa,im];omega
 intro t
 induction t with
 |eps=>
  intro _ _ D b hD
  obtain⟨D,rfl⟩:∃ q,D=q+1:=⟨D-1,by simp only[Rx.len]at hD;omega⟩
  obtain⟨h1,h2⟩:=ky (r0:=[]) (p:=(0,zS)) (by simp)
  have n0:(0:Int)<=((([]:List Pc).length:Nat):Int):=by omega
  show lD N0 (gj N0 D).1 (gj N0 D).2 ([]++[(0,zS)],([],([b],())))=_
  unfold lD
  simp only[h1]
  rw[if_pos (c0 b),if_pos (c1 b),ae (Bl (p:=(0,zS)) (by decide) rfl)]
  simp only
  rw[if_pos n0,aa,h2]
  simp only
  rw[decide_true,cond_true,Rx.null,Bool.and_true]
 |set S=>
  intro _ _ D b hD
  obtain⟨D,rfl⟩:∃ q,D=q+1:=⟨D-1,by simp only[Rx.len]at hD;omega⟩
  obtain⟨h1,h2⟩:=ky (r0:=[]) (p:=(1,S)) (by simp)
  have n0:(0:Int)<=((([]:List Pc).length:Nat):Int):=by omega
  show lD N0 (gj N0 D).1 (gj N0 D).2 ([]++[(1,S)],([],([b],())))=_
  unfold lD
  simp only[h1]
  rw[if_pos (c0 b),if_pos (c1 b),ae (Bl (p:=(1,S)) ⟨z1,(by decide:(1:Int)<=6)⟩ rfl)]
  simp only
  rw[if_pos n0,aa,h2]
  simp only
  rw[show decide ((1:Int)=0)=false from rfl,cond_false,decide_true,cond_true,Rx.null,Bool.and_false]
  refine aZ (λm x q=>x=(([false],()),((0:Int),()))/\q=some (([false],()),())) ?_ N0 0 _ _ (by unfold N0;omega) ⟨rfl,rfl⟩
  rintro m x q ⟨rfl,rfl⟩ k hk
  simp only
  rw[show decide ((0:Int)<((([]:List Int).length:Nat):Int))=false from rfl,cond_false]
 |cat u v ihu ihv=>
  intro hok hl D b hD
  simp only[Rx.len]at hl hD
  obtain⟨D,rfl⟩:∃ q,D=q+1:=⟨D-1,by omega⟩
  obtain⟨h1,h2⟩:=ky (r0:=u.post++v.post) (p:=(2,zS)) (by rw[aj,u.aV,v.aV];omega)
  have n0:(0:Int)<=(((u.post++v.post).length:Nat):Int):=by omega
  show lD N0 (gj N0 D).1 (gj N0 D).2 (u.post++v.post++[(2,zS)],([],([b],())))=_
  unfold lD
  simp only[h1]
  rw[if_pos (c0 b),if_pos (c1 b),ae (Bj (p:=(2,zS)) hok.1 hok.2 (by omega) (by decide) rfl)]
  simp only
  rw[if_pos n0,aa,h2]
  simp only
  rw[show decide ((2:Int)=0)=false from rfl,cond_false,show decide ((2:Int)=1)=false from rfl,cond_false,decide_true,cond_true,if_pos z1,UE]
  simp only
  rw[if_pos z0,Bk]
  simp only
  rw[ae (ihu hok.1 (by omega) D b (by omega))]
  simp only
  rw[ae (ihv hok.2 (by omega) D (b&&u.null) (by omega))]
  simp only
  rw[Rx.null,oa]
 |alt u v ihu ihv=>
  intro hok hl D b hD
  simp only[Rx.len]at hl hD
  obtain⟨D,rfl⟩:∃ q,D=q+1:=⟨D-1,by omega⟩
  obtain⟨h1,h2⟩:=ky (r0:=u.post++v.post) (p:=(3,zS)) (by rw[aj,u.aV,v.aV];omega)
  have n0:(0:Int)<=(((u.post++v.post).length:Nat):Int):=by omega
  show lD N0 (gj N0 D).1 (gj N0 D).2 (u.post++v.post++[(3,zS)],([],([b],())))=_
  unfold lD
  simp only[h1]
  rw[if_pos (c0 b),if_pos (c1 b),ae (Bj (p:=(3,zS)) hok.1 hok.2 (by omega) (by decide) rfl)]
  simp only
  rw[if_pos n0,aa,h2]
  simp only
  rw[show decide ((3:Int)=0)=false from rfl,cond_false,show decide ((3:Int)=1)=false from rfl,cond_false,show decide ((3:Int)=2)=false from rfl,cond_false,decide_true,cond_true,if_pos z0,Bk]
  simp only
  rw[ae (ihu hok.1 (by omega) D b (by omega))]
  simp only
  rw[if_pos z1,UE]
  simp only
  rw[ae (ihv hok.2 (by omega) D b (by omega))]
  simp only
  rw[ae (yF _ _),Rx.null]
  have e:((b&&u.null)||(b&&v.null))=(b&&(u.null||v.null)):=by cases b <;> simp
  simp only
  rw[e]
 |rep kd u ihu=>
  intro hok hl D b hD
  simp only[Rx.len]at hl hD
  have hup:=u.bK
  obtain⟨D,rfl⟩:∃ q,D=q+1+1:=⟨D-2,by omega⟩
  obtain⟨k1,k2,k3⟩:=Db hok
  obtain⟨h1,h2⟩:=ky (r0:=u.post) (p:=(kd,zS)) (by rw[u.aV];omega)
  have n0:(0:Int)<=((u.post.length:Nat):Int):=by omega
  show lD N0 (gj N0 (D+1)).1 (gj N0 (D+1)).2 (u.post++[(kd,zS)],([],([b],())))=_
  unfold lD
  simp only[h1]
  rw[if_pos (c0 b),if_pos (c1 b),ae (Km (p:=(kd,zS)) hok.2 (by omega) ⟨k1,k2⟩ k3)]
  simp only
  rw[if_pos n0,aa,h2]
  simp only
  have hag:∀ b:Bool,(gj N0 (D+1)).2 (u.post,([],([b],())))=some (([b],()),()):=λb=>
   Ko (q2:=(gj N0 D).1) (q3:=(gj N0 D).2) (n:=u.null) (λb=>ihu hok.2 (by omega) D b (by omega)) b
  have hu:=λb=>ihu hok.2 (by omega) (D+1) b (by omega)
  rcases hok.1 with rfl|rfl|rfl
  ·rw[show decide ((4:Int)=0)=false from rfl,cond_false,show decide ((4:Int)=1)=false from rfl,cond_false,show decide ((4:Int)=2)=false from rfl,cond_false,show decide ((4:Int)=3)=false from rfl,cond_false,show decide ((4:Int)=6)=false from rfl,cond_false,if_pos n0]
   rw[show decide ((4:Int)=4)=true from rfl,cond_true,if_pos z0,Bk]
   simp only
   rw[ae (hag b)]
   simp only
   have e:(b&&(Rx.rep 4 u).null)=b:=by simp[Rx.null]
   rw[e]
  ·rw[show decide ((5:Int)=0)=false from rfl,cond_false,show decide ((5:Int)=1)=false from rfl,cond_false,show decide ((5:Int)=2)=false from rfl,cond_false,show decide ((5:Int)=3)=false from rfl,cond_false,show decide ((5:Int)=6)=false from rfl,cond_false,if_pos n0]
   rw[show decide ((5:Int)=4)=false from rfl,cond_false,if_pos z0,Bk]
   simp only
   rw[if_pos z0]
   rw[ae (hu b)]
   simp only
   rw[ae (hag _)]
   simp only
   have e:(Rx.rep 5 u).null=u.null:=by simp[Rx.null]
   rw[e]
  ·rw[show decide ((6:Int)=0)=false from rfl,cond_false,show decide ((6:Int)=1)=false from rfl,cond_false,show decide ((6:Int)=2)=false from rfl,cond_false,show decide ((6:Int)=3)=false from rfl,cond_false,show decide ((6:Int)=6)=true from rfl,cond_true,if_pos z0,Bk]
   simp only
   rw[ae (hu b)]
   simp only
   rw[ae (yF _ _)]
   simp only
   have e:(b||(b&&u.null))=(b&&(Rx.rep 6 u).null):=by cases b <;> simp[Rx.null]
   rw[e]
theorem Ou{t:Rx}(hok:t.ok)(hl:t.len<=10000):NJ N0 (t.post,([],()))=some ((t.null,()),()):=by
 have h:=Ot t hok hl N0 true (by unfold N0;omega)
 delta NJ Wi
 have w:IntKind.wrap .i64 ((((([]:List Int).length:Nat):Int))+1)=1:=bz (by simp) (by simp)
 simp only[w]
 rw[if_pos (show(0:Int)<=1/\(1:Int)<=1 by omega),if_pos (show((1:Int)).toNat*1<=140737488355328 by decide),if_pos z0,show(List.replicate ((1:Int)).toNat false)[((0:Int)).toNat]?=some false from rfl]
 simp only
 rw[if_pos z0,show(List.replicate ((1:Int)).toNat false).set ((0:Int)).toNat true=[true]from rfl]
 have h2:Rm N0 (t.post,([],([true],())))=some (([true&&t.null],()),()):=h
 rw[ae h2]
 simp only
 rw[show(((([]:List Int).length:Nat):Int))=0 from rfl,if_pos z0,Bk]
 simp only
 rw[bG]
end
noncomputable section
theorem tw{S:List Int}{w:Nat}{x:Int}(hx:S[w]?=some x)(h:0<=x/\x<=18446744073709551615):x=((br (λi=>((S[i / 64]?).getD 0).toNat.testBit (i % 64)) w:Nat):Int):=by
 have:x.toNat=br (λi=>((S[i / 64]?).getD 0).toNat.testBit (i % 64)) w:=by
  apply oE
  intro i
  by_cases hi:i<64
  ·have e1:(64*w+i) / 64=w:=by omega
   have e2:(64*w+i) % 64=i:=by omega
   rw[e1,e2,hx,decide_eq_true hi,bG]
   rfl
  ·rw[decide_eq_false hi,dE]
   apply jB
   have:x.toNat<2 ^ 64:=by omega
   exact bA this (iu (by omega) (by omega))
 omega
theorem Ez{S:List Int}(h1:S.length=4)(h2:∀ x∈S,0<=x/\x<=18446744073709551615):∃ l,S=ofB l:=by
 match S,h1 with
 |[a,b,c,d],_=>
  refine⟨λi=>((([a,b,c,d]:List Int)[i / 64]?).getD 0).toNat.testBit (i % 64),?_⟩
  have e0:=tw (S:=[a,b,c,d]) (w:=0) rfl (h2 a (by simp))
  have e1:=tw (S:=[a,b,c,d]) (w:=1) rfl (h2 b (by simp))
  have e2:=tw (S:=[a,b,c,d]) (w:=2) rfl (h2 c (by simp))
  have e3:=tw (S:=[a,b,c,d]) (w:=3) rfl (h2 d (by simp))
  unfold ofB
  rw[<-e0,<-e1,<-e2,<-e3]
theorem Bm{S:List Int}(h1:S.length=4)(h2:∀ x∈S,0<=x/\x<=18446744073709551615):tf N0 (S,())=some ((decide (S=zS),()),()):=by
 obtain⟨l,rfl⟩:=Ez h1 h2
 rw[Er]
 have:dY l=decide (ofB l=zS):=by
  rw[bZ,decide_eq_true_eq,gT]
 rw[this]
theorem tz:tf N0 (zS,())=some ((true,()),()):=by
 rw[Bm rfl (by decide)]
 rfl
theorem iJ{k:Int}(h:0<=k/\k<=6):AK N0 (k,())=some ((cK k,()),()):=by
 rw[yC]
 have:(if k=0\/k=1 then(0:Int)else if k=4\/k=5\/k=6 then 1 else if k=2\/k=3 then 2 else -1)=cK k:=by
  unfold cK
  by_cases h0:k=0\/k=1
  ·rw[if_pos h0,if_pos h0]
  ·rw[if_neg h0,if_neg h0]
   by_cases h1:k=2\/k=3
   ·rw[if_neg (by omega),if_pos h1,if_pos h1]
   ·rw[if_pos (by omega),if_neg h1]
 rw[this]
abbrev ChS:=Unit×(Int×(Int×Unit))
def chB(r:List Pc):ChS->(ChS->Option ((Int×Unit)×Unit))->Option ((Int×Unit)×Unit):=λv3 v4=>
 (bif decide (v3.2.2.1<((r.length:Nat):Int))then(if 0<=v3.2.2.1 then(match r[(v3.2.2.1).toNat]? with|some v5=>(ah (AK N0 (v5.1,())) λv6=>(av (λ(v7:Unit×(Bool×Unit))=>(bif v7.2.1 then some ((5,()),())else v4 ((),(IntKind.wrap .i64 (v3.2.1+IntKind.wrap .i64 (1-v6.1.1)),(IntKind.wrap .i64 (v3.2.2.1+1),()))))) λv8=>(bif decide (v6.1.1<0)then v8 ((),(true,()))else(bif decide (v3.2.1<v6.1.1)then v8 ((),(true,()))else(ah (tf N0 (v5.2,())) λv9=>v8 ((),((decide (v5.1=1) == v9.1.1),())))))))|none=>none)else none)else(bif !decide (v3.2.1=1)then some ((5,()),())else some ((0,()),())))
theorem qo{r:List Pc}(hr:r.length<=100000)(F d i:Nat)(p:Pc)(hp:r[i]?=some p)(hk:0<=p.1/\p.1<=6)(hd:cK p.1<=(d:Int))(hd2:d<=1000000)(hs:tf N0 (p.2,())=some ((!decide (p.1=1),()),())):
 aD (chB r) (F+1) ((),((d:Int),((i:Int),())))=aD (chB r) F ((),((d:Int)+(1-cK p.1),(((i+1:Nat):Int),()))):=by
 have hi:i<r.length:=by
  rcases ak i r.length with h|h
  ·exact h
  ·rw[List.getElem?_eq_none h]at hp;cases hp
 have ht:0<=cK p.1/\cK p.1<=2:=by
  unfold cK
  split
  ·omega
  ·split <;> omega
 rw[dU]
 unfold chB
 simp only
 have n0:(0:Int)<=(i:Int):=by omega
 have w1:IntKind.wrap .i64 (1-cK p.1)=1-cK p.1:=bz (by omega) (by omega)
 have w2:IntKind.wrap .i64 ((d:Int)+(1-cK p.1))=(d:Int)+(1-cK p.1):=bz (by omega) (by omega)
 rw[decide_eq_true (show(i:Int)<((r.length:Nat):Int) by omega),cond_true,if_pos n0,aa,hp]
 simp only
 rw[ae (iJ hk)]
 simp only
 refine aY ((),(false,())) (λK=>?_) ?_
 ·rw[decide_eq_false (show ¬cK p.1<0 by omega),cond_false,decide_eq_false (show ¬(d:Int)<cK p.1 by omega),cond_false,ae hs]
  cases decide (p.1=1) <;> rfl
 ·simp only
  rw[cond_false,w1,w2,dh (by omega)]
theorem Ov{r:List Pc}(hr:r.length<=100000):∀ (t:Rx) (F d:Nat) (l rest:List Pc),t.ok->r=l++t.post++rest->d+t.len<=1000000->
 aD (chB r) (F+t.len) ((),((d:Int),((l.length:Int),())))=aD (chB r) F ((),(((d+1:Nat):Int),(((l.length+t.len:Nat):Int),()))):=by
 intro t
 induction t with
 |eps=>
  intro F d l rest _ hr2 hd
  simp only[Rx.len]
  have hp:r[l.length]?=some (0,zS):=by rw[hr2];simp[Rx.post]
  rw[qo hr F d l.length _ hp (by decide) (by show(0:Int)<=_;omega) (by omega) tz]
  rfl
 |set S=>
  intro F d l rest hok hr2 hd
  simp only[Rx.len]
  have hp:r[l.length]?=some (1,S):=by rw[hr2];simp[Rx.post]
  have hs:=Bm hok.1 hok.2.2
  rw[decide_eq_false hok.2.1]at hs
  rw[qo hr F d l.length _ hp ⟨z1,(by decide:(1:Int)<=6)⟩ (by show(0:Int)<=_;omega) (by omega) hs]
  rfl
 |cat a b iha ihb=>
  intro F d l rest hok hr2 hd
  simp only[Rx.len]at hd |-
  have pa:=a.bK
  have pb:=b.bK
  have hp:r[l.length+a.len+b.len]?=some (2,zS):=by
   rw[hr2]
   simp[Rx.post,<-a.aV,<-b.aV,cG]
  rw[show F+(a.len+b.len+1)=(F+1+b.len)+a.len by omega,iha (F+1+b.len) d l (b.post++[(2,zS)]++rest) hok.1 (by rw[hr2];simp[Rx.post]) (by omega)]
  have hb:=ihb (F+1) (d+1) (l++a.post) ([(2,zS)]++rest) hok.2 (by rw[hr2];simp[Rx.post]) (by omega)
  rw[aj,a.aV]at hb
  rw[hb,qo hr F (d+1+1) _ _ hp (by decide) (by show(2:Int)<=_;omega) (by omega) tz]
  have e1:((d+1+1:Nat):Int)+(1-cK ((2,zS):Pc).1)=((d+1:Nat):Int):=by
   show _+(1-2:Int)=_
   omega
  have e2:l.length+a.len+b.len+1=l.length+(a.len+b.len+1):=by omega
  rw[e1,e2]
 |alt a b iha ihb=>
  intro F d l rest hok hr2 hd
  simp only[Rx.len]at hd |-
  have pa:=a.bK
  have pb:=b.bK
  have hp:r[l.length+a.len+b.len]?=some (3,zS):=by
   rw[hr2]
   simp[Rx.post,<-a.aV,<-b.aV,cG]
  rw[show F+(a.len+b.len+1)=(F+1+b.len)+a.len by omega,iha (F+1+b.len) d l (b.post++[(3,zS)]++rest) hok.1 (by rw[hr2];simp[Rx.post]) (by omega)]
  have hb:=ihb (F+1) (d+1) (l++a.post) ([(3,zS)]++rest) hok.2 (by rw[hr2];simp[Rx.post]) (by omega)
  rw[aj,a.aV]at hb
  rw[hb,qo hr F (d+1+1) _ _ hp (by decide) (by show(2:Int)<=_;omega) (by omega) tz]
  have e1:((d+1+1:Nat):Int)+(1-cK ((3,zS):Pc).1)=((d+1:Nat):Int):=by
   show _+(1-2:Int)=_
   omega
  have e2:l.length+a.len+b.len+1=l.length+(a.len+b.len+1):=by omega
  rw[e1,e2]
 |rep k a iha=>
  intro F d l rest hok hr2 hd
  simp only[Rx.len]at hd |-
  obtain⟨k1,k2,k3⟩:=Db hok
  have hp:r[l.length+a.len]?=some (k,zS):=by
   rw[hr2]
   simp[Rx.post,<-a.aV]
  have hk1:decide (k=1)=false:=by
   rcases hok.1 with rfl|rfl|rfl <;> rfl
  have hs:tf N0 (((k,zS):Pc).2,())=some ((!decide (((k,zS):Pc).1=1),()),()):=by
   show tf N0 (zS,())=some ((!decide (k=1),()),())
   rw[tz,hk1];rfl
  rw[show F+(a.len+1)=(F+1)+a.len by omega,iha (F+1) d l ([(k,zS)]++rest) hok.2 (by rw[hr2];simp[Rx.post]) (by omega),
   qo hr F (d+1) _ _ hp ⟨k1,k2⟩ (by show cK k<=_;rw[k3];omega) (by omega) hs]
  have e1:((d+1:Nat):Int)+(1-cK ((k,zS):Pc).1)=((d+1:Nat):Int):=by
   show _+(1-cK k)=_
   rw[k3];omega
  have e2:l.length+a.len+1=l.length+(a.len+1):=by omega
  rw[e1,e2]
theorem Ow{t:Rx}(hok:t.ok)(hl:t.len<=400):No N0 (t.post,())=some ((0,()),()):=by
 have tl:=t.aV
 have h:=Ov (r:=t.post) (by omega) t (N0-t.len) 0 [] [] hok (by simp) (by omega)
 rw[show N0-t.len+t.len=N0 by unfold N0;omega]at h
 unfold No
 simp only
 rw[decide_eq_false (show ¬(400:Int)<((t.post.length:Nat):Int) by omega),cond_false]
 refine Eq.trans h ?_
 obtain⟨q,hq⟩:∃ q,N0-t.len=q+1:=⟨N0-t.len-1,by unfold N0;omega⟩
 rw[hq,dU]
 unfold chB
 simp only
 have e:((([]:List Pc).length+t.len:Nat):Int)=((t.post.length:Nat):Int):=by rw[tl];simp
 rw[e,decide_eq_false (show ¬((t.post.length:Nat):Int)<((t.post.length:Nat):Int) by omega),cond_false]
 rfl
end
noncomputable section
abbrev EdI:=Int×(Int×(List Int×Bool))
abbrev edI(e:Ed):EdI:=((e.1:Int),((e.2.1:Int),(e.2.2.1,e.2.2.2)))
abbrev NfI:=Int×(List EdI×(Int×Int))
def nf(n:Nat)(E:List Ed):NfI:=((n:Int),(E.map edI,(0,0)))
theorem qp{n:Nat}(hn:n<=100000)(E:List Ed):Np N0 (nf n E,())=some ((((n:Int),((n+1:Nat):Int)),()),(nf (n+2) E,())):=by
 have h:∀ m:Nat,m<=100001->Jz N0 (nf m E,())=some (((m:Int),()),(nf (m+1) E,())):=by
  intro m hm
  have w:IntKind.wrap .i64 (((m+1:Nat):Int)-1)=(m:Int):=by
   have:((m+1:Nat):Int)-1=(m:Int):=by omega
   rw[this];exact bH (by omega)
  delta Jz Wi;unfold nf
  simp only[dh (show m+1<9223372036854775808 by omega),w]
 unfold Np
 simp only[h n (by omega),h (n+1) (by omega),aB]
theorem fq{E:List Ed}(hE:E.length<=100000)(n f l:Nat):rN N0 (nf n E,((f:Int),((l:Int),())))=some ((),(nf n (E++[fE f l]),())):=by
 delta rN Ap;unfold nf
 have c1:((E.map edI).length+([((f:Int),((l:Int),([0,0,0,0],true)))]:List EdI).length)*56<=140737488355328:=by simp;omega
 have c2:(E.map edI).length+([((f:Int),((l:Int),([0,0,0,0],true)))]:List EdI).length<=9223372036854775807:=by simp;omega
 simp only
 rw[if_pos c1,if_pos c2,dO]
 rfl
theorem uY{st0 ch:List (Int×Int)}(hl:(st0++ch).length<=100000){k:Int}(hk:k=((ch.length:Nat):Int))(X:Int×Int):
 IntKind.wrap .i64 ((((st0++ch).length:Nat):Int)-k)=((st0.length:Nat):Int)/\((0:Int)<=0/\(0:Int)<=((st0.length:Nat):Int)/\((st0.length:Nat):Int)<=(((st0++ch).length:Nat):Int))/\cC (st0++ch) 0 ((st0.length:Nat):Int)=st0/\(st0.length+([X]:List (Int×Int)).length)*16<=140737488355328/\st0.length+([X]:List (Int×Int)).length<=9223372036854775807:=by
 rw[aj]at hl
 subst hk
 refine⟨?_,⟨by omega,by omega,by rw[aj];omega⟩,?_,by rw[im];omega,by rw[im];omega⟩
 ·have:((((st0++ch).length:Nat):Int)-((ch.length:Nat):Int))=((st0.length:Nat):Int):=by rw[aj];omega
  rw[this];exact bH (by omega)
 ·have:=qn ([]:List (Int×Int)) st0 ch
  rw[bL,bD,et]at this
  exact this
theorem Kp{n:Nat}(hn:n<=100000){E:List Ed}(hE:E.length<=10000)(S:List Int){st:List (Int×Int)}(hst:st.length<=100000):
 qc N0 (nf n E,((1,S),(st,())))=some ((st++[((n:Int),((n+1:Nat):Int))],()),(nf (n+2) (E++[(n,n+1,S,false)]),())):=by
 delta qc Ap Bd Wi
 simp only[qp hn,aB]
 refine aY ((nf (n+2) (E++[(n,n+1,S,false)]),(st,())),()) (λK=>?_) ?_
 ·simp only[aH,show decide ((1:Int)=0)=false from rfl,show decide ((1:Int)=1)=true from rfl,decide_true,cond_false,cond_true]
  unfold nf
  have c1:((E.map edI).length+([((n:Int),(((n+1:Nat):Int),(S,false)))]:List EdI).length)*56<=140737488355328:=by simp;omega
  have c2:(E.map edI).length+([((n:Int),(((n+1:Nat):Int),(S,false)))]:List EdI).length<=9223372036854775807:=by simp;omega
  simp only
  rw[if_pos c1,if_pos c2,dO]
  rfl
 ·obtain⟨h1,h2,h3,h4,h5⟩:=uY (st0:=st) (ch:=[]) (by rw[b9];exact hst) (k:=0) rfl ((n:Int),((n+1:Nat):Int))
  rw[b9]at h1 h2 h3
  simp only
  rw[ae (iJ (k:=1) (by decide))]
  have e:cK 1=0:=rfl
  simp only[e,h1]
  rw[if_pos h2,h3,if_pos h4,if_pos h5]
theorem Kq{n:Nat}(hn:n<=100000){E:List Ed}(hE:E.length<=10000){st:List (Int×Int)}(hst:st.length<=100000):
 qc N0 (nf n E,((0,zS),(st,())))=some ((st++[((n:Int),((n+1:Nat):Int))],()),(nf (n+2) (E++[fE n (n+1)]),())):=by
 delta qc Ap Bd Wi
 simp only[qp hn,aB]
 refine aY ((nf (n+2) (E++[fE n (n+1)]),(st,())),()) (λK=>?_) ?_
 ·rw[decide_true,cond_true,ae (fq (by omega) _ _ _)]
 ·obtain⟨h1,h2,h3,h4,h5⟩:=uY (st0:=st) (ch:=[]) (by rw[b9];exact hst) (k:=0) rfl ((n:Int),((n+1:Nat):Int))
  rw[b9]at h1 h2 h3
  simp only
  rw[ae (iJ (k:=0) (by decide))]
  have e:cK 0=0:=rfl
  simp only[e,h1]
  rw[if_pos h2,h3,if_pos h4,if_pos h5]
theorem Bn{st0:List (Int×Int)}{a b:Int×Int}(h:st0.length<=100000):IntKind.wrap .i64 ((((st0++[a,b]).length:Nat):Int)-2)=((st0.length:Nat):Int)/\IntKind.wrap .i64 ((((st0++[a,b]).length:Nat):Int)-1)=((st0.length+1:Nat):Int)/\(st0++[a,b])[st0.length]?=some a/\(st0++[a,b])[st0.length+1]?=some b:=by
 have hl:(st0++[a,b]).length=st0.length+2:=by rw[aj];rfl
 refine⟨?_,?_,by simp,by simp⟩
 ·have:((((st0++[a,b]).length:Nat):Int)-2)=((st0.length:Nat):Int):=by omega
  rw[this];exact bH (by omega)
 ·have:((((st0++[a,b]).length:Nat):Int)-1)=((st0.length+1:Nat):Int):=by omega
  rw[this];exact bH (by omega)
theorem Kr{n:Nat}(hn:n<=100000){E:List Ed}(hE:E.length<=10000){st0:List (Int×Int)}(hst:st0.length<=90000)(f1 l1 f2 l2:Nat):
 qc N0 (nf n E,((2,zS),(st0++[((f1:Int),(l1:Int)),((f2:Int),(l2:Int))],())))=some ((st0++[((n:Int),((n+1:Nat):Int))],()),(nf (n+2) (E++[fE n f1,fE l1 f2,fE l2 (n+1)]),())):=by
 obtain⟨g1,g2,g3,g4⟩:=Bn (st0:=st0) (a:=((f1:Int),(l1:Int))) (b:=((f2:Int),(l2:Int))) (by omega)
 delta qc Ap Bd Wi
 simp only[qp hn,aB]
 refine aY ((nf (n+2) (E++[fE n f1,fE l1 f2,fE l2 (n+1)]),(st0++[((f1:Int),(l1:Int)),((f2:Int),(l2:Int))],())),()) (λK=>?_) ?_
 ·have n0:(0:Int)<=((st0.length:Nat):Int):=by omega
  have n1:(0:Int)<=((st0.length+1:Nat):Int):=by omega
  simp only[aH,show decide ((2:Int)=0)=false from rfl,show decide ((2:Int)=1)=false from rfl,decide_true,cond_false,cond_true,g1,g2]
  rw[if_pos n0,aa,g3]
  simp only
  rw[if_pos n1,aa,g4]
  simp only
  rw[ae (fq (by omega) _ _ _)]
  simp only
  rw[ae (fq (by simp;omega) _ _ _)]
  simp only
  rw[ae (fq (by simp;omega) _ _ _)]
  simp only[aO,dN,bL]
 ·obtain⟨h1,h2,h3,h4,h5⟩:=uY (st0:=st0) (ch:=[((f1:Int),(l1:Int)),((f2:Int),(l2:Int))]) (by rw[aj];show st0.length+2<=_;omega) (k:=2) rfl ((n:Int),((n+1:Nat):Int))
  simp only
  rw[ae (iJ (k:=2) (by decide))]
  have e:cK 2=2:=rfl
  simp only[e,h1]
  rw[if_pos h2,h3,if_pos h4,if_pos h5]
theorem Kt{n:Nat}(hn:n<=100000){E:List Ed}(hE:E.length<=10000){st0:List (Int×Int)}(hst:st0.length<=90000)(f1 l1 f2 l2:Nat):
 qc N0 (nf n E,((3,zS),(st0++[((f1:Int),(l1:Int)),((f2:Int),(l2:Int))],())))=some ((st0++[((n:Int),((n+1:Nat):Int))],()),(nf (n+2) (E++[fE n f1,fE l1 (n+1),fE n f2,fE l2 (n+1)]),())):=by
 obtain⟨g1,g2,g3,g4⟩:=Bn (st0:=st0) (a:=((f1:Int),(l1:Int))) (b:=((f2:Int),(l2:Int))) (by omega)
 have hl:(st0++[((f1:Int),(l1:Int)),((f2:Int),(l2:Int))]).length=st0.length+2:=by rw[aj];rfl
 delta qc Ap Bd Wi
 simp only[qp hn,aB]
 refine aY ((nf (n+2) (E++[fE n f1,fE l1 (n+1),fE n f2,fE l2 (n+1)]),(st0++[((f1:Int),(l1:Int)),((f2:Int),(l2:Int))],())),()) (λK=>?_) ?_
 ·simp only[aH,show decide ((3:Int)=0)=false from rfl,show decide ((3:Int)=1)=false from rfl,show decide ((3:Int)=2)=false from rfl,decide_true,cond_false,cond_true,g1]
  rw[if_pos ⟨by omega,by omega,by omega⟩]
  refine aZ (λm x q=>((m=2/\x=((nf (n+2) E,(st0++[((f1:Int),(l1:Int)),((f2:Int),(l2:Int))],())),((0:Int),())))\/(m=1/\x=((nf (n+2) (E++[fE n f1,fE l1 (n+1)]),(st0++[((f1:Int),(l1:Int)),((f2:Int),(l2:Int))],())),((1:Int),())))\/(m=0/\x=((nf (n+2) (E++[fE n f1,fE l1 (n+1),fE n f2,fE l2 (n+1)]),(st0++[((f1:Int),(l1:Int)),((f2:Int),(l2:Int))],())),((2:Int),()))))/\q=K ((nf (n+2) (E++[fE n f1,fE l1 (n+1),fE n f2,fE l2 (n+1)]),(st0++[((f1:Int),(l1:Int)),((f2:Int),(l2:Int))],())),())) ?_ N0 2 _ _ (by unfold N0;omega) ⟨.inl ⟨rfl,rfl⟩,rfl⟩
  have evL:sJ ((st0.length:Nat):Int) (((st0++[((f1:Int),(l1:Int)),((f2:Int),(l2:Int))]).length:Nat):Int)=2:=by unfold sJ;omega
  rintro m x q ⟨hx,rfl⟩ k hk
  rcases hx with⟨rfl,rfl⟩|⟨rfl,rfl⟩|⟨rfl,rfl⟩
  ·have e1:zP 0 ((st0.length:Nat):Int) (((st0++[((f1:Int),(l1:Int)),((f2:Int),(l2:Int))]).length:Nat):Int)=true:=by unfold zP;simp;omega
   have e2:mL ((st0.length:Nat):Int) 0=((st0.length:Nat):Int):=by unfold mL;simp
   have n0:(0:Int)<=((st0.length:Nat):Int):=by omega
   have w1:IntKind.wrap .i64 ((0:Int)+1)=1:=bz (by omega) (by omega)
   simp only[evL,e1,e2,show decide ((0:Int)<2)=true from rfl,cond_true]
   rw[if_pos n0,aa,g3]
   simp only
   rw[ae (fq (by omega) _ _ _)]
   simp only
   rw[ae (fq (by simp;omega) _ _ _),w1,aO]
   exact hk 1 _ _ (by omega) ⟨.inr (.inl ⟨rfl,rfl⟩),rfl⟩
  ·have e1:zP 1 ((st0.length:Nat):Int) (((st0++[((f1:Int),(l1:Int)),((f2:Int),(l2:Int))]).length:Nat):Int)=true:=by unfold zP;simp;omega
   have e2:mL ((st0.length:Nat):Int) 1=((st0.length+1:Nat):Int):=by unfold mL;simp
   have n0:(0:Int)<=((st0.length+1:Nat):Int):=by omega
   have w1:IntKind.wrap .i64 ((1:Int)+1)=2:=bz (by omega) (by omega)
   simp only[evL,e1,e2,show decide ((1:Int)<2)=true from rfl,cond_true]
   rw[if_pos n0,aa,g4]
   simp only
   rw[ae (fq (by simp;omega) _ _ _)]
   simp only
   rw[ae (fq (by simp;omega) _ _ _),w1]
   simp only[aO,dN,bL]
   exact hk 0 _ _ (by omega) ⟨.inr (.inr ⟨rfl,rfl⟩),rfl⟩
  ·simp only[evL,show decide ((2:Int)<2)=false from rfl,cond_false]
 ·obtain⟨h1,h2,h3,h4,h5⟩:=uY (st0:=st0) (ch:=[((f1:Int),(l1:Int)),((f2:Int),(l2:Int))]) (by rw[aj];show st0.length+2<=_;omega) (k:=2) rfl ((n:Int),((n+1:Nat):Int))
  simp only
  rw[ae (iJ (k:=3) (by decide))]
  have e:cK 3=2:=rfl
  simp only[e,h1]
  rw[if_pos h2,h3,if_pos h4,if_pos h5]
theorem Ku{n:Nat}(hn:n<=100000){E:List Ed}(hE:E.length<=10000){st0:List (Int×Int)}(hst:st0.length<=90000){k:Int}(hk:k=4\/k=5\/k=6)(f1 l1:Nat):
 qc N0 (nf n E,((k,zS),(st0++[((f1:Int),(l1:Int))],())))=some ((st0++[((n:Int),((n+1:Nat):Int))],()),(nf (n+2) (E++([fE n f1,fE l1 (n+1)]++(if k=6 then []else [fE l1 f1])++(if k=5 then []else [fE n (n+1)]))),())):=by
 have hl:(st0++[((f1:Int),(l1:Int))]).length=st0.length+1:=by rw[aj];rfl
 have g1:IntKind.wrap .i64 ((((st0++[((f1:Int),(l1:Int))]).length:Nat):Int)-1)=((st0.length:Nat):Int):=by
  have:((((st0++[((f1:Int),(l1:Int))]).length:Nat):Int)-1)=((st0.length:Nat):Int):=by omega
  rw[this];exact bH (by omega)
 have g2:(st0++[((f1:Int),(l1:Int))])[st0.length]?=some ((f1:Int),(l1:Int)):=by simp
 have n0:(0:Int)<=((st0.length:Nat):Int):=by omega
 delta qc Ap Bd Wi
 simp only[qp hn,aB]
 refine aY ((nf (n+2) (E++([fE n f1,fE l1 (n+1)]++(if k=6 then []else [fE l1 f1])++(if k=5 then []else [fE n (n+1)]))),(st0++[((f1:Int),(l1:Int))],())),()) (λK=>?_) ?_
 ·have q0:decide (k=0)=false:=decide_eq_false (by omega)
  have q1:decide (k=1)=false:=decide_eq_false (by omega)
  have q2:decide (k=2)=false:=decide_eq_false (by omega)
  have q3:decide (k=3)=false:=decide_eq_false (by omega)
  simp only[aH,q0,q1,q2,q3,cond_false,g1]
  rw[if_pos n0,aa,g2]
  simp only
  rw[ae (fq (by omega) _ _ _)]
  simp only
  rw[ae (fq (by simp;omega) _ _ _)]
  simp only
  rcases hk with rfl|rfl|rfl
  ·simp only[show decide ((4:Int)=6)=false from rfl,show decide ((4:Int)=5)=false from rfl,aI,cond_true]
   rw[ae (fq (by simp;omega) _ _ _)]
   simp only
   rw[ae (fq (by simp;omega) _ _ _)]
   simp
  ·simp only[show decide ((5:Int)=6)=false from rfl,decide_true,aI,aA,cond_true,cond_false]
   rw[ae (fq (by simp;omega) _ _ _)]
   simp
  ·simp only[show decide ((6:Int)=5)=false from rfl,decide_true,aI,aA,cond_true,cond_false]
   rw[ae (fq (by simp;omega) _ _ _)]
   simp
 ·obtain⟨h1,h2,h3,h4,h5⟩:=uY (st0:=st0) (ch:=[((f1:Int),(l1:Int))]) (by omega) (k:=1) rfl ((n:Int),((n+1:Nat):Int))
  simp only
  have e:cK k=1:=by rcases hk with rfl|rfl|rfl <;> rfl
  rw[ae (iJ (k:=k) (by omega))]
  simp only[e,h1]
  rw[if_pos h2,h3,if_pos h4,if_pos h5]
end
noncomputable section
theorem iK:∀ (t:Rx) (n:Nat),(t.az n).length<=4*t.len:=by
 intro t
 induction t with
 |eps=>intro n;simp[Rx.az,Rx.len]
 |set S=>intro n;simp[Rx.az,Rx.len]
 |cat a b iha ihb=>
  intro n
  have h1:=iha n
  have h2:=ihb (n+2*a.len)
  simp only[Rx.az,Rx.len,aj,aM,bD]
  omega
 |alt a b iha ihb=>
  intro n
  have h1:=iha n
  have h2:=ihb (n+2*a.len)
  simp only[Rx.az,Rx.len,aj,aM,bD]
  omega
 |rep k a ih=>
  intro n
  have h1:=ih n
  simp only[Rx.az,Rx.len,aj,aM,bD]
  split <;> split <;> simp <;> omega
abbrev OfS:=(NfI×(NfI×Unit))×(List (Int×Int)×(Int×Unit))
abbrev OfR:=(NfI×(Int×Unit))×Unit
def stB(r:List Pc):OfS->(OfS->Option OfR)->Option OfR:=λv4 v5=>
 (bif decide (v4.2.2.1<((r.length:Nat):Int))then(if 0<=v4.2.2.1 then(match r[(v4.2.2.1).toNat]? with|some v6=>(ah (qc N0 (v4.1.2.1,(v6,(v4.2.1,())))) λv7=>v5 ((v4.1.1,(v7.2.1,())),(v7.1.1,(IntKind.wrap .i64 (v4.2.2.1+1),()))))|none=>none)else none)
 else(if(0:Int)<=0 then(match v4.2.1[((0:Int)).toNat]? with|some v8=>(if(0:Int)<=0 then(match v4.2.1[((0:Int)).toNat]? with|some v9=>some (((v4.1.2.1.1,(v4.1.2.1.2.1,(v8.1,v9.2))),(0,())),())|none=>none)else none)|none=>none)else none))
def pr(f l:Nat):Int×Int:=((f:Int),(l:Int))
theorem qq{r:List Pc}(hr:r.length<=100000)(F i:Nat)(p:Pc)(hp:r[i]?=some p){Z M M':NfI}{st st':List (Int×Int)}(h:qc N0 (M,(p,(st,())))=some ((st',()),(M',()))):
 aD (stB r) (F+1) ((Z,(M,())),(st,((i:Int),())))=aD (stB r) F ((Z,(M',())),(st',(((i+1:Nat):Int),()))):=by
 have hi:i<r.length:=by
  rcases ak i r.length with h|h
  ·exact h
  ·rw[List.getElem?_eq_none h]at hp;cases hp
 rw[dU]
 unfold stB
 simp only
 have n0:(0:Int)<=(i:Int):=by omega
 rw[decide_eq_true (show(i:Int)<((r.length:Nat):Int) by omega),cond_true,if_pos n0,aa,hp]
 simp only
 rw[ae h]
 simp only[dh (show i+1<9223372036854775808 by omega)]
theorem Ox{r:List Pc}(hr:r.length<=100000){Z:NfI}:∀ (t:Rx) (F n:Nat) (E:List Ed) (st:List (Int×Int)) (l rest:List Pc),t.ok->r=l++t.post++rest->n+2*t.len<=100000->E.length+4*t.len<=10000->st.length+t.len<=90000->
 aD (stB r) (F+t.len) ((Z,(nf n E,())),(st,((l.length:Int),())))=aD (stB r) F ((Z,(nf (n+2*t.len) (E++t.az n),())),(st++[pr (t.fst n) (t.lst n)],(((l.length+t.len:Nat):Int),()))):=by
 intro t
 induction t with
 |eps=>
  intro F n E st l rest _ hr2 hn hE hst
  simp only[Rx.len]at hn hE hst |-
  have hp:r[l.length]?=some (0,zS):=by rw[hr2];simp[Rx.post]
  rw[qq hr F l.length _ hp (Kq (by omega) (by omega) (by omega))]
  have e1:Rx.fst .eps n=n:=by simp only[Rx.fst,Rx.len];omega
  have e2:Rx.lst .eps n=n+1:=by simp only[Rx.lst,Rx.len];omega
  rw[e1,e2]
  rfl
 |set S=>
  intro F n E st l rest _ hr2 hn hE hst
  simp only[Rx.len]at hn hE hst |-
  have hp:r[l.length]?=some (1,S):=by rw[hr2];simp[Rx.post]
  rw[qq hr F l.length _ hp (Kp (by omega) (by omega) S (by omega))]
  have e1:Rx.fst (.set S) n=n:=by simp only[Rx.fst,Rx.len];omega
  have e2:Rx.lst (.set S) n=n+1:=by simp only[Rx.lst,Rx.len];omega
  rw[e1,e2]
  rfl
 |cat a b iha ihb=>
  intro F n E st l rest hok hr2 hn hE hst
  simp only[Rx.len]at hn hE hst |-
  have pa:=a.bK
  have pb:=b.bK
  have la:=iK a n
  have lb:=iK b (n+2*a.len)
  have hp:r[l.length+a.len+b.len]?=some (2,zS):=by
   rw[hr2]
   simp[Rx.post,<-a.aV,<-b.aV,cG]
  rw[show F+(a.len+b.len+1)=(F+1+b.len)+a.len by omega,iha (F+1+b.len) n E st l (b.post++[(2,zS)]++rest) hok.1 (by rw[hr2];simp[Rx.post]) (by omega) (by omega) (by omega)]
  have hb:=ihb (F+1) (n+2*a.len) (E++a.az n) (st++[pr (a.fst n) (a.lst n)]) (l++a.post) ([(2,zS)]++rest) hok.2 (by rw[hr2];simp[Rx.post]) (by omega) (by rw[aj];omega) (by rw[aj,im];omega)
  rw[aj,a.aV]at hb
  have e0:st++[pr (a.fst n) (a.lst n)]++[pr (b.fst (n+2*a.len)) (b.lst (n+2*a.len))]=st++[(((a.fst n:Nat):Int),((a.lst n:Nat):Int)),(((b.fst (n+2*a.len):Nat):Int),((b.lst (n+2*a.len):Nat):Int))]:=by
   rw[aO];rfl
  rw[e0]at hb
  rw[hb,qq hr F _ _ hp (Kr (by omega) (by rw[aj,aj];omega) (by omega) _ _ _ _)]
  have e1:(Rx.cat a b).fst n=n+2*a.len+2*b.len:=by simp only[Rx.fst,Rx.len];omega
  have e2:(Rx.cat a b).lst n=n+2*a.len+2*b.len+1:=by simp only[Rx.lst,Rx.len];omega
  have e3:E++a.az n++b.az (n+2*a.len)++[fE (n+2*a.len+2*b.len) (a.fst n),fE (a.lst n) (b.fst (n+2*a.len)),fE (b.lst (n+2*a.len)) (n+2*a.len+2*b.len+1)]=E++(Rx.cat a b).az n:=by
   simp only[Rx.az,aO]
   rw[show n+2*(a.len+b.len)=n+2*a.len+2*b.len by omega]
  rw[e1,e2,e3,show n+2*a.len+2*b.len+2=n+2*(a.len+b.len+1) by omega,show l.length+a.len+b.len+1=l.length+(a.len+b.len+1) by omega]
  rfl
 |alt a b iha ihb=>
  intro F n E st l rest hok hr2 hn hE hst
  simp only[Rx.len]at hn hE hst |-
  have pa:=a.bK
  have pb:=b.bK
  have la:=iK a n
  have lb:=iK b (n+2*a.len)
  have hp:r[l.length+a.len+b.len]?=some (3,zS):=by
   rw[hr2]
   simp[Rx.post,<-a.aV,<-b.aV,cG]
  rw[show F+(a.len+b.len+1)=(F+1+b.len)+a.len by omega,iha (F+1+b.len) n E st l (b.post++[(3,zS)]++rest) hok.1 (by rw[hr2];simp[Rx.post]) (by omega) (by omega) (by omega)]
  have hb:=ihb (F+1) (n+2*a.len) (E++a.az n) (st++[pr (a.fst n) (a.lst n)]) (l++a.post) ([(3,zS)]++rest) hok.2 (by rw[hr2];simp[Rx.post]) (by omega) (by rw[aj];omega) (by rw[aj,im];omega)
  rw[aj,a.aV]at hb
  have e0:st++[pr (a.fst n) (a.lst n)]++[pr (b.fst (n+2*a.len)) (b.lst (n+2*a.len))]=st++[(((a.fst n:Nat):Int),((a.lst n:Nat):Int)),(((b.fst (n+2*a.len):Nat):Int),((b.lst (n+2*a.len):Nat):Int))]:=by
   rw[aO];rfl
  rw[e0]at hb
  rw[hb,qq hr F _ _ hp (Kt (by omega) (by rw[aj,aj];omega) (by omega) _ _ _ _)]
  have e1:(Rx.alt a b).fst n=n+2*a.len+2*b.len:=by simp only[Rx.fst,Rx.len];omega
  have e2:(Rx.alt a b).lst n=n+2*a.len+2*b.len+1:=by simp only[Rx.lst,Rx.len];omega
  have e3:E++a.az n++b.az (n+2*a.len)++[fE (n+2*a.len+2*b.len) (a.fst n),fE (a.lst n) (n+2*a.len+2*b.len+1),fE (n+2*a.len+2*b.len) (b.fst (n+2*a.len)),fE (b.lst (n+2*a.len)) (n+2*a.len+2*b.len+1)]=E++(Rx.alt a b).az n:=by
   simp only[Rx.az,aO]
   rw[show n+2*(a.len+b.len)=n+2*a.len+2*b.len by omega]
  rw[e1,e2,e3,show n+2*a.len+2*b.len+2=n+2*(a.len+b.len+1) by omega,show l.length+a.len+b.len+1=l.length+(a.len+b.len+1) by omega]
  rfl
 |rep k a iha=>
  intro F n E st l rest hok hr2 hn hE hst
  simp only[Rx.len]at hn hE hst |-
  have la:=iK a n
  have hp:r[l.length+a.len]?=some (k,zS):=by
   rw[hr2]
   simp[Rx.post,<-a.aV]
  rw[show F+(a.len+1)=(F+1)+a.len by omega,iha (F+1) n E st l ([(k,zS)]++rest) hok.2 (by rw[hr2];simp[Rx.post]) (by omega) (by omega) (by omega),show st++[pr (a.fst n) (a.lst n)]=st++[(((a.fst n:Nat):Int),((a.lst n:Nat):Int))]from rfl,
   qq hr F _ _ hp (Ku (by omega) (by rw[aj];omega) (by omega) hok.1 _ _)]
  have e1:(Rx.rep k a).fst n=n+2*a.len:=by simp only[Rx.fst,Rx.len];omega
  have e2:(Rx.rep k a).lst n=n+2*a.len+1:=by simp only[Rx.lst,Rx.len];omega
  have e3:E++a.az n++([fE (n+2*a.len) (a.fst n),fE (a.lst n) (n+2*a.len+1)]++(if k=6 then []else [fE (a.lst n) (a.fst n)])++(if k=5 then []else [fE (n+2*a.len) (n+2*a.len+1)]))=E++(Rx.rep k a).az n:=by
   simp only[Rx.az,aO]
  rw[e1,e2,e3,show n+2*a.len+2=n+2*(a.len+1) by omega,show l.length+a.len+1=l.length+(a.len+1) by omega]
  rfl
def nfT(t:Rx):NfI:=(((2*t.len:Nat):Int),((t.az 0).map edI,(((t.fst 0:Nat):Int),((t.lst 0:Nat):Int))))
theorem RJ{t:Rx}(hok:t.ok)(hl:t.len<=400):p61 N0 (t.post,())=some ((nfT t,(0,())),()):=by
 have tl:=t.aV
 have h:=Ox (r:=t.post) (by omega) (Z:=nf 0 []) t (N0-t.len) 0 [] [] [] [] hok (by simp) (by omega) (by simp;omega) (by simp;omega)
 rw[show N0-t.len+t.len=N0 by unfold N0;omega]at h
 unfold p61
 simp only
 rw[ae (Ow hok hl)]
 simp only
 rw[decide_true,aA,cond_false]
 refine Eq.trans h ?_
 obtain⟨q,hq⟩:∃ q,N0-t.len=q+1:=⟨N0-t.len-1,by unfold N0;omega⟩
 rw[hq,dU]
 unfold stB
 simp only
 have e:((([]:List Pc).length+t.len:Nat):Int)=((t.post.length:Nat):Int):=by rw[tl];simp
 rw[e,decide_eq_false (show ¬((t.post.length:Nat):Int)<((t.post.length:Nat):Int) by omega),cond_false,if_pos z0,bL,Bk]
 simp only
 rw[if_pos z0,bL,et]
 rfl
end
noncomputable section
def bsN(n:Nat)(f:Nat->Bool):List Bool:=(List.range n).map f
theorem gV(n:Nat)(f:Nat->Bool):(bsN n f).length=n:=by simp[bsN]
theorem gW{n:Nat}(f:Nat->Bool){i:Nat}(h:i<n):(bsN n f)[i]?=some (f i):=by
 unfold bsN
 rw[List.getElem?_map,List.getElem?_range h]
 rfl
theorem yG{n:Nat}(f:Nat->Bool){i:Nat}(h:i<n):(bsN n f).set i true=bsN n (λx=>f x||decide (x=i)):=by
 apply List.ext_getElem?
 intro j
 rw[List.getElem?_set]
 by_cases hj:j<n
 ·have g1:=gW (n:=n) (λx=>f x||decide (x=i)) hj
  have g2:=gW (n:=n) f hj
  rw[g1,g2]
  by_cases e:i=j
  ·subst e
   rw[if_pos rfl,if_pos (by rw[gV];exact h)]
   simp
  ·rw[if_neg e]
   have:¬j=i:=λh=>e h.symm
   simp[this]
 ·have e1:(bsN n λx=>f x||decide (x=i))[j]?=none:=List.getElem?_eq_none (by rw[gV];omega)
  have e2:(bsN n f)[j]?=none:=List.getElem?_eq_none (by rw[gV];omega)
  rw[e1,e2,if_neg (by omega)]
def cnt(f:Nat->Bool):Nat->Nat
 |0=>0
 |n+1=>(if f n then 0 else 1)+cnt f n
theorem cnt_mono{f g:Nat->Bool}:∀ n,(∀ i,i<n->f i=true->g i=true)->cnt g n<=cnt f n:=by
 intro n
 induction n with
 |zero=>intro _;exact ar _
 |succ n ih=>
  intro h
  have h1:=ih λi hi=>h i (by omega)
  have h2:=h n (by omega)
  simp only[cnt]
  cases hf:f n
  ·cases hg:g n <;> simp <;> omega
  ·rw[h2 hf];simp;exact h1
theorem cnt_lt{f g:Nat->Bool}{q:Nat}:∀ n,(∀ i,i<n->f i=true->g i=true)->q<n->f q=false->g q=true->cnt g n<cnt f n:=by
 intro n
 induction n with
 |zero=>intro _ h;omega
 |succ n ih=>
  intro h hq hf hg
  simp only[cnt]
  by_cases e:q=n
  ·subst e
   have h1:=cnt_mono q λi hi=>h i (by omega)
   rw[hf,hg]
   simp
   omega
  ·have h1:=ih (λi hi=>h i (by omega)) (by omega) hf hg
   have h2:=h n (by omega)
   cases hf2:f n
   ·cases hg2:g n <;> simp <;> omega
   ·rw[h2 hf2];simp;exact h1
def ml(E:List Ed)(f:Nat->Bool):Prop:=∀ e∈E,e.2.2.2=true->f e.1=true->f e.2.1=true
def InE(n:Nat)(E:List Ed):Prop:=∀ e∈E,e.1<n/\e.2.1<n
def leB(f g:Nat->Bool):Prop:=∀ i,f i=true->g i=true
def gK(E:List Ed)(f g:Nat->Bool):Prop:=leB f g/\ml E g/\∀ D,ml E D->leB f D->leB g D
theorem EA{n:Nat}(hn:n<=100000){E:List Ed}(hE:E.length<=100000)(hin:InE n E)(X:Int×Int)(f0:Nat->Bool):
 ∃ g,JA N0 (((n:Int),(E.map edI,X)),(bsN n f0,()))=some ((bsN n g,()),())/\gK E f0 g:=by
 delta JA Ld Bd Wi
 simp only
 have hcp:cpL (List.replicate ((n:Int)).toNat false) (bsN n f0)=bsN n f0:=by
  unfold cpL
  simp[gV]
  exact bP (by rw[gV];exact ar _)
 rw[if_pos (show(0:Int)<=(n:Int)/\(n:Int)<=(n:Int) by omega),if_pos (show((n:Int)).toNat*1<=140737488355328 by rw[aa];omega),hcp]
 refine dZ (λm x=>∃ (f:Nat->Bool) (c:Bool),x=((bsN n f,()),(c,()))/\leB f0 f/\(∀ D,ml E D->leB f0 D->leB f D)/\(c=false->ml E f)/\m=cnt f n+(if c=true then 1 else 0)) (λz=>∃ g,z=some ((bsN n g,()),())/\gK E f0 g) ?_ N0 (cnt f0 n+1) _ ?_ ⟨f0,true,rfl,λi h=>h,λD _ h=>h,(λh=>by cases h),rfl⟩
 ·rintro m x ⟨f,c,rfl,h1,h2,h3,hm⟩ k hk
  simp only
  cases c
  ·rw[cond_false]
   exact⟨f,rfl,h1,h3 rfl,h2⟩
  ·rw[cond_true]
   simp only[if_true]at hm
   refine dZ (λm2 x=>∃ (j:Nat) (g:Nat->Bool) (c:Bool),x=((bsN n g,()),(c,((j:Int),())))/\m2+j=E.length/\leB f g/\(∀ D,ml E D->leB f0 D->leB g D)/\(c=false->g=f/\∀ (i:Nat) e,i<j->E[i]?=some e->e.2.2.2=true->f e.1=true->f e.2.1=true)/\(c=true->cnt g n<cnt f n)) (λz=>∃ g,z=some ((bsN n g,()),())/\gK E f0 g) ?_ N0 E.length _ (by unfold N0;omega) ⟨0,f,false,rfl,rfl,λi h=>h,h2,λ_=>⟨rfl,λi e hi=>by omega⟩,(λh=>by cases h)⟩
   rintro m2 x ⟨j,g,c,rfl,hmj,q1,q2,q3,q4⟩ k2 hk2
   simp only
   rcases ak j E.length with hj|hj
   ·have n0:(0:Int)<=(j:Int):=by omega
    have hj2:(E.map edI)[j]?=some (edI E[j]):=by rw[List.getElem?_map,List.getElem?_eq_getElem hj];rfl
    have iZ:E[j]∈E:=ba hj
    obtain⟨r1,r2⟩:=hin _ iZ
    have eg:E[j]?=some E[j]:=List.getElem?_eq_getElem hj
    generalize E[j]=e at hj2 iZ r1 r2 eg
    rw[decide_eq_true (show(j:Int)<(((E.map edI).length:Nat):Int) by rw[bJ];omega),cond_true,if_pos n0,aa,hj2]
    have n1:(0:Int)<=(e.1:Int):=by omega
    have n2:(0:Int)<=(e.2.1:Int):=by omega
    have w1:IntKind.wrap .i64 ((j:Int)+1)=((j+1:Nat):Int):=dh (by omega)
    simp only[edI,w1]
    refine dW (P:=λz=>∃ g,z=some ((bsN n g,()),())/\gK E f0 g) ((bsN n g,()),(e.2.2.2&&(g e.1&&!g e.2.1),())) (λK=>?_) ?_
    ·cases e.2.2.2
     ·rfl
     ·rw[cond_true,if_pos n1,aa,gW g r1]
      simp only
      cases g e.1
      ·rfl
      ·rw[cond_true,if_pos n2,aa,gW g r2]
       rfl
    ·simp only
     refine dW (P:=λz=>∃ g,z=some ((bsN n g,()),())/\gK E f0 g) ((bsN n (λx=>g x||(decide (x=e.2.1)&&(e.2.2.2&&(g e.1&&!g e.2.1)))),()),((c||(e.2.2.2&&(g e.1&&!g e.2.1))),())) (λK=>?_) ?_
     ·cases hb:(e.2.2.2&&(g e.1&&!g e.2.1))
      ·rw[cond_false]
       simp
      ·rw[cond_true,if_pos n2,aa,gW g r2]
       simp only
       rw[if_pos n2]
       rw[yG g r2]
       simp
     ·simp only
      refine hk2 (m2-1) _ (by omega) ⟨j+1,_,_,rfl,by omega,?_,?_,?_,?_⟩
      ·intro i hi
       show(g i||_)=true
       rw[q1 i hi];rfl
      ·intro D hD1 hD2 i hi
       rw[aG,ag,decide_eq_true_eq,ag,ag]at hi
       rcases hi with hi|⟨rfl,h4,h5,_⟩
       ·exact q2 D hD1 hD2 i hi
       ·exact hD1 e iZ h4 (q2 D hD1 hD2 _ h5)
      ·intro hc
       rw[eF]at hc
       obtain⟨hc1,hc2⟩:=hc
       obtain⟨rfl,q6⟩:=q3 hc1
       refine⟨?_,?_⟩
       ·funext x
        rw[hc2];simp
       ·intro i e2 hi he2 xe hp
        by_cases hij:i=j
        ·subst hij
         rw[eg]at he2
         injection he2 with he2
         subst he2
         rw[xe,hp]at hc2
         simpa using hc2
        ·exact q6 i e2 (by omega) he2 xe hp
      ·intro hc
       cases hb:(e.2.2.2&&(g e.1&&!g e.2.1))
       ·rw[hb,jG]at hc
        refine nU (cnt_mono n λi _ h=>?_) (q4 hc)
        rw[h];rfl
       ·have hb2:=hb
        rw[ag,ag,bx]at hb2
        have hlt:cnt (λx=>g x||(decide (x=e.2.1)&&true)) n<cnt g n:=cnt_lt (q:=e.2.1) n (λi _ h=>by simp[h]) r2 hb2.2.2 (by simp)
        have:cnt g n<=cnt f n:=cnt_mono n λi _ h=>q1 i h
        omega
   ·rw[decide_eq_false (show ¬(j:Int)<(((E.map edI).length:Nat):Int) by rw[bJ];omega),cond_false]
    refine hk (cnt g n+(if c=true then 1 else 0)) _ ?_ ⟨g,c,rfl,λi h=>q1 i (h1 i h),q2,?_,rfl⟩
    ·have:cnt g n<=cnt f n:=cnt_mono n λi _ h=>q1 i h
     cases c
     ·simp;omega
     ·have:=q4 rfl
      simp;omega
    ·intro hc
     obtain⟨rfl,q6⟩:=q3 hc
     intro e he xe hp
     obtain⟨i,hi,hie⟩:=List.getElem_of_mem he
     exact q6 i e (by omega) (by rw[List.getElem?_eq_getElem hi,hie]) xe hp
 ·have:∀ n,cnt f0 n<=n:=by
   intro n
   induction n with
   |zero=>exact ar _
   |succ n ih=>simp only[cnt];split <;> omega
  have:=this n
  unfold N0
  omega
end
noncomputable section
theorem xf(t:Rx):InE (2*t.len) (t.az 0):=by
 intro e he
 obtain⟨h1,h2,h3,h4⟩:=t.dJ 0 e he
 omega
theorem Oy{n:Nat}(hn:n<=100000){E:List Ed}(hE:E.length<=100000)(hin:InE n E){a b:Nat}(ha:a<n)(hb:b<n):
 G1 N0 (((n:Int),(E.map edI,((a:Int),(b:Int)))),())=some ((true,()),()):=by
 delta G1 Ld Bd Wi
 simp only
 refine aY ((),(false,())) (λK=>?_) ?_
 ·rw[decide_eq_false (show ¬(a:Int)<0 by omega),cond_false,decide_eq_false (show ¬(n:Int)<=(a:Int) by omega),cond_false,decide_eq_false (show ¬(b:Int)<0 by omega),cond_false,decide_eq_false (show ¬(n:Int)<=(b:Int) by omega)]
 ·simp only
  rw[cond_false]
  refine aZ (λm x q=>∃ j:Nat,x=((),((j:Int),()))/\m+j=E.length/\q=some ((true,()),())) ?_ N0 E.length _ _ (by unfold N0;omega) ⟨0,rfl,rfl,rfl⟩
  rintro m x q ⟨j,rfl,hm,rfl⟩ k hk
  simp only
  rcases ak j E.length with hj|hj
  ·have n0:(0:Int)<=(j:Int):=by omega
   have hj2:(E.map edI)[j]?=some (edI E[j]):=by rw[List.getElem?_map,List.getElem?_eq_getElem hj];rfl
   obtain⟨r1,r2⟩:=hin _ (ba hj)
   generalize E[j]=e at hj2 r1 r2
   rw[decide_eq_true (show(j:Int)<(((E.map edI).length:Nat):Int) by rw[bJ];omega),cond_true,if_pos n0,aa,hj2]
   simp only
   refine aY ((),(false,())) (λK=>?_) ?_
   ·rw[decide_eq_false (show ¬(e.1:Int)<0 by omega),cond_false,decide_eq_false (show ¬(n:Int)<=(e.1:Int) by omega),cond_false,decide_eq_false (show ¬(e.2.1:Int)<0 by omega),cond_false,decide_eq_false (show ¬(n:Int)<=(e.2.1:Int) by omega)]
   ·simp only
    rw[cond_false,dh (by omega)]
    exact hk (m-1) _ _ (by omega) ⟨j+1,rfl,by omega,rfl⟩
  ·rw[decide_eq_false (show ¬(j:Int)<(((E.map edI).length:Nat):Int) by rw[bJ];omega),cond_false]
theorem Bo{t:Rx}(hl:t.len<=400):G1 N0 (nfT t,())=some ((true,()),()):=by
 have h1:=t.pv 0
 have h2:=t.kI 0
 have h3:=iK t 0
 exact Oy (n:=2*t.len) (by omega) (by omega) (xf t) (by omega) (by omega)
def gX(E:List Ed):List (List Int):=(E.filter λe=>!e.2.2.2).map λe=>e.2.2.1
theorem xg(E:List Ed):(gX E).length<=E.length:=by
 unfold gX
 rw[bJ]
 exact gA _ _
theorem Oz{n:Nat}{E:List Ed}(hE:E.length<=100000)(X:Int×Int):Nq N0 (((n:Int),(E.map edI,X)),())=some ((gX E,()),()):=by
 delta Nq Ld Ap Bd Wi
 simp only
 refine aZ (λm x q=>∃ j:Nat,x=((),(gX (E.take j),((j:Int),())))/\m+j=E.length/\q=some ((gX E,()),())) ?_ N0 E.length _ _ (by unfold N0;omega) ⟨0,rfl,rfl,rfl⟩
 rintro m x q ⟨j,rfl,hm,rfl⟩ k hk
 simp only
 rcases ak j E.length with hj|hj
 ·have n0:(0:Int)<=(j:Int):=by omega
  have hj2:(E.map edI)[j]?=some (edI E[j]):=by rw[List.getElem?_map,List.getElem?_eq_getElem hj];rfl
  have htk:E.take (j+1)=E.take j++[E[j]]:=by rw[jE,List.getElem?_eq_getElem hj];rfl
  have hse:gX (E.take (j+1))=gX (E.take j)++gX [E[j]]:=by
   rw[htk];unfold gX;rw[kQ,dO]
  have hlen:(gX (E.take j)).length<=j:=bu (xg _) (by rw[aN];omega)
  generalize E[j]=e at hj2 hse
  rw[decide_eq_true (show(j:Int)<(((E.map edI).length:Nat):Int) by rw[bJ];omega),cond_true,if_pos n0,aa,hj2]
  simp only
  refine aY ((),(gX (E.take (j+1)),())) (λK=>?_) ?_
  ·rw[hse]
   cases hb:e.2.2.2
   ·have es:gX [e]=[e.2.2.1]:=by unfold gX;simp[hb]
    have c1:((gX (E.take j)).length+([e.2.2.1]:List (List Int)).length)*32<=140737488355328:=by simp;omega
    have c2:(gX (E.take j)).length+([e.2.2.1]:List (List Int)).length<=9223372036854775807:=by simp;omega
    rw[aI,cond_true,if_pos c1,if_pos c2,es]
   ·have es:gX [e]=[]:=by unfold gX;simp[hb]
    rw[aA,cond_false,es,b9]
  ·simp only
   rw[dh (by omega)]
   exact hk (m-1) _ _ (by omega) ⟨j+1,rfl,by omega,rfl⟩
 ·have hj2:j=E.length:=by omega
  rw[decide_eq_false (show ¬(j:Int)<(((E.map edI).length:Nat):Int) by rw[bJ];omega),cond_false,hj2,cE]
end
noncomputable section
theorem OA{a b:Nat}(ha:a<18446744073709551616)(hb:b<18446744073709551616):dK .and .u64 (a:Int) (b:Int)=((a&&& b:Nat):Int):=by
 have hlt:a&&& b<2 ^ 64:=Nat.and_lt_two_pow _ hb
 simp only[dK,qY,rT ha,rT hb]
 exact wrap_u64 hlt
theorem OB(l:Nat->Bool){c:Nat}(h:c<256):G2 N0 (ofB l,((c:Int),()))=some ((l c,()),()):=by
 unfold G2
 have hw:c / 64<4:=by omega
 have hl:c % 64<64:=eI _ (by omega)
 have w1:IntKind.wrap .u8 (Int.tdiv (c:Int) 64)=((c / 64:Nat):Int):=by rw[J4];exact j4 (by omega)
 have g:=jw (l:=l) hw
 have n1:¬((64:Int)=0):=by omega
 have n2:¬(((c % 64:Nat):Int)<0):=by omega
 have n3:(0:Int)<=((c / 64:Nat):Int):=by omega
 simp only[w1,J5]
 rw[if_neg n1,if_pos n3,aa,g]
 simp only
 rw[if_neg n1,if_neg n2]
 have e1:Nat.min (Int.toNat ((c % 64:Nat):Int)) (IntKind.bits .u64)=c % 64:=by
  rw[aa];exact cS (by show c % 64<=64;omega)
 have hlt:=dQ l (c / 64)
 have e2:Int.fdiv ((br l (c / 64):Nat):Int) (2 ^ (c % 64))=((br l (c / 64) / 2 ^ (c % 64):Nat):Int):=by
  rw[show(2:Int) ^ (c % 64)=((2 ^ (c % 64):Nat):Int) by simp]
  rw[nM _ (aJ (2 ^ (c % 64)))]
  exact(Int.natCast_ediv _ _).symm
 have e3:dK .and .u64 ((br l (c / 64) / 2 ^ (c % 64):Nat):Int) 1=((br l (c / 64) / 2 ^ (c % 64) % 2:Nat):Int):=by
  have:=OA (a:=br l (c / 64) / 2 ^ (c % 64)) (b:=1) (nU (rf _ _) hlt) (by omega)
  rw[Nat.and_one_is_mod]at this
  exact this
 have hb:=dw l (c / 64) (c % 64)
 rw[qL,show 64*(c / 64)+c % 64=c by omega,decide_eq_true hl,bG]at hb
 have e4:decide (((br l (c / 64) / 2 ^ (c % 64) % 2:Nat):Int)=1)=l c:=by
  rw[<-hb,decide_eq_decide];omega
 rw[e1,e2,e3,e4]
def hasB(S:List Int)(c:Nat):Bool:=((S[c / 64]?).getD 0).toNat.testBit (c % 64)
theorem qs(l:Nat->Bool){c:Nat}(h:c<256):hasB (ofB l) c=l c:=by
 unfold hasB
 rw[jw (l:=l) (show c / 64<4 by omega)]
 show(((br l (c / 64):Nat):Int).toNat).testBit (c % 64)=l c
 rw[aa,dw,show 64*(c / 64)+c % 64=c by omega,decide_eq_true (show c % 64<64 by omega),bG]
def xh(S:List Int):Prop:=S.length=4/\∀ x∈S,0<=x/\x<=18446744073709551615
theorem Bp{S:List Int}(h:xh S){c:Nat}(hc:c<256):G2 N0 (S,((c:Int),()))=some ((hasB S c,()),()):=by
 obtain⟨l,rfl⟩:=Ez h.1 h.2
 rw[OB l hc,qs l hc]
def a8(E:List Ed)(f:Nat->Bool)(c:Nat):Nat->Bool:=λx=>E.any λe=>!e.2.2.2&&(f e.1&&(hasB e.2.2.1 c&&decide (x=e.2.1)))
theorem RK(t:Rx)(hok:t.ok):∀ (n:Nat),∀ e∈t.az n,xh e.2.2.1:=by
 have hz:xh zS:=⟨rfl,by decide⟩
 induction t with
 |eps=>intro n e he;simp[Rx.az,fE]at he;subst he;exact hz
 |set S=>intro n e he;simp[Rx.az]at he;subst he;exact⟨hok.1,hok.2.2⟩
 |cat a b iha ihb=>
  intro n e he
  simp only[Rx.az,au,ay,bX,or_false]at he
  rcases he with(he|he)|he|he|he
  ·exact iha hok.1 n e he
  ·exact ihb hok.2 _ e he
  all_goals subst he;exact hz
 |alt a b iha ihb=>
  intro n e he
  simp only[Rx.az,au,ay,bX,or_false]at he
  rcases he with(he|he)|he|he|he|he
  ·exact iha hok.1 n e he
  ·exact ihb hok.2 _ e he
  all_goals subst he;exact hz
 |rep k a ih=>
  intro n e he
  simp only[Rx.az,au,ay,bX,or_false]at he
  rcases he with((he|he|he)|he)|he
  ·exact ih hok.2 n e he
  ·subst he;exact hz
  ·subst he;exact hz
  ·split at he
   ·simp at he
   ·simp only[aL]at he;subst he;exact hz
  ·split at he
   ·simp at he
   ·simp only[aL]at he;subst he;exact hz
theorem OC{n:Nat}(hn:n<=100000){E:List Ed}(hE:E.length<=100000)(hin:InE n E)(hS:∀ e∈E,xh e.2.2.1)(X:Int×Int)(f:Nat->Bool){c:Nat}(hc:c<256):
 Nw N0 (((n:Int),(E.map edI,X)),(bsN n f,((c:Int),())))=some ((bsN n (a8 E f c),()),()):=by
 delta Nw Ld Bd Wi
 simp only
 have bF:List.replicate ((n:Int)).toNat false=bsN n (a8 [] f c):=by
  rw[aa]
  unfold bsN a8
  apply List.ext_getElem?
  intro i
  rw[List.getElem?_map]
  by_cases hi:i<n
  ·rw[List.getElem?_range hi,List.getElem?_replicate,if_pos hi];rfl
  ·rw[List.getElem?_eq_none (by rw[il];omega),List.getElem?_eq_none (by rw[kR];omega)];rfl
 rw[if_pos (show(0:Int)<=(n:Int)/\(n:Int)<=(n:Int) by omega),if_pos (show((n:Int)).toNat*1<=140737488355328 by rw[aa];omega),bF]
 refine aZ (λm x q=>∃ j:Nat,x=((bsN n (a8 (E.take j) f c),()),((j:Int),()))/\m+j=E.length/\q=some ((bsN n (a8 E f c),()),())) ?_ N0 E.length _ _ (by unfold N0;omega) ⟨0,rfl,rfl,rfl⟩
 rintro m x q ⟨j,rfl,hm,rfl⟩ k hk
 simp only
 rcases ak j E.length with hj|hj
 ·have n0:(0:Int)<=(j:Int):=by omega
  have hj2:(E.map edI)[j]?=some (edI E[j]):=by rw[List.getElem?_map,List.getElem?_eq_getElem hj];rfl
  have htk:E.take (j+1)=E.take j++[E[j]]:=by rw[jE,List.getElem?_eq_getElem hj];rfl
  obtain⟨r1,r2⟩:=hin _ (ba hj)
  have hse:=hS _ (ba hj)
  generalize E[j]=e at hj2 htk r1 r2 hse
  have hst:∀ x,a8 (E.take (j+1)) f c x=(a8 (E.take j) f c x||(!e.2.2.2&&(f e.1&&(hasB e.2.2.1 c&&decide (x=e.2.1))))):=by
   intro x
   rw[htk]
   unfold a8
   rw[List.any_append]
   simp
  have n1:(0:Int)<=(e.1:Int):=by omega
  have n2:(0:Int)<=(e.2.1:Int):=by omega
  rw[decide_eq_true (show(j:Int)<(((E.map edI).length:Nat):Int) by rw[bJ];omega),cond_true,if_pos n0,aa,hj2]
  simp only
  refine aY ((bsN n (a8 (E.take j) f c),()),((!e.2.2.2&&(f e.1&&hasB e.2.2.1 c)),())) (λK=>?_) ?_
  ·cases e.2.2.2
   ·rw[aI,cond_true,decide_eq_true (show(e.1:Int)<(((bsN n f).length:Nat):Int) by rw[gV];omega),cond_true,if_pos n1,aa,gW f r1]
    simp only
    cases f e.1
    ·rfl
    ·rw[cond_true,ae (Bp hse hc)]
     rfl
   ·rfl
  ·simp only
   have w1:IntKind.wrap .i64 ((j:Int)+1)=((j+1:Nat):Int):=dh (by omega)
   rw[w1]
   refine aY ((bsN n (a8 (E.take (j+1)) f c),()),()) (λK=>?_) ?_
   ·cases hb:(!e.2.2.2&&(f e.1&&hasB e.2.2.1 c))
    ·rw[cond_false]
     have:a8 (E.take (j+1)) f c=a8 (E.take j) f c:=by
      funext x
      rw[hst x]
      have:(!e.2.2.2&&(f e.1&&(hasB e.2.2.1 c&&decide (x=e.2.1))))=((!e.2.2.2&&(f e.1&&hasB e.2.2.1 c))&&decide (x=e.2.1)):=by simp[oa]
      rw[this,hb];simp
     rw[this]
    ·rw[cond_true,if_pos n2,aa,gW _ r2]
     simp only
     rw[if_pos n2,yG _ r2]
     have:a8 (E.take (j+1)) f c=λx=>a8 (E.take j) f c x||decide (x=e.2.1):=by
      funext x
      rw[hst x]
      have:(!e.2.2.2&&(f e.1&&(hasB e.2.2.1 c&&decide (x=e.2.1))))=((!e.2.2.2&&(f e.1&&hasB e.2.2.1 c))&&decide (x=e.2.1)):=by simp[oa]
      rw[this,hb];simp
     rw[this]
   ·simp only
    exact hk (m-1) _ _ (by omega) ⟨j+1,rfl,by omega,rfl⟩
 ·have hj2:j=E.length:=by omega
  rw[decide_eq_false (show ¬(j:Int)<(((E.map edI).length:Nat):Int) by rw[bJ];omega),cond_false,hj2,cE]
end
noncomputable section
theorem Br(l:Nat->Bool)(w:Nat):∃ n,n=mH (λi=>l (8*w+i)) 8:=⟨_,rfl⟩
def lG(l:Nat->Bool)(w:Nat):Nat:=Classical.choose (Br l w)
theorem xi(l:Nat->Bool)(w:Nat):lG l w=mH (λi=>l (8*w+i)) 8:=Classical.choose_spec (Br l w)
theorem Kv(l:Nat->Bool)(w:Nat):lG l w<256:=by rw[xi];exact uT _ 8
theorem iL(l:Nat->Bool)(w i:Nat):(lG l w).testBit i=(decide (i<8)&&l (8*w+i)):=by rw[xi];exact w5 _ 8 i
theorem Hr{l m:Nat->Bool}{w:Nat}(h:∀ i,i<8->l (8*w+i)=m (8*w+i)):lG l w=lG m w:=by
 apply fK
 intro i
 rw[iL,iL]
 by_cases hi:i<8
 ·rw[h i hi]
 ·simp[hi]
theorem OD{l:Nat->Bool}{w i:Nat}(hi:i<8):lG l w|||2 ^ i=lG (λx=>l x||decide (x=8*w+i)) w:=by
 apply fK
 intro j
 rw[kW,iL,iL,kP]
 by_cases hj:j<8
 ·simp only[hj,decide_true,bG]
  congr 1
  rw[decide_eq_decide];omega
 ·simp only[hj,decide_false,dE,cV,decide_eq_false_iff_not];omega
theorem EB{n:Nat}(h:n<256):(BitVec.ofInt (IntKind.bits .u8) (n:Int)).toNat=n:=by
 have:IntKind.bits .u8=8:=rfl
 rw[this,nT]
 omega
theorem OE{a b:Nat}(ha:a<256)(hb:b<256):dK .or .u8 (a:Int) (b:Int)=((a|||b:Nat):Int):=by
 have hlt:a|||b<2 ^ 8:=qW ha hb
 simp only[dK,rc,EB ha,EB hb]
 exact j4 hlt
theorem EC{i:Nat}(h:i<8):2 ^ i<256:=bA (nS (by omega) h) (by decide)
theorem Bs{i:Nat}(h:i<8):IntKind.wrap .u8 ((1:Int)*2 ^ (Nat.min (Int.toNat (i:Int)) (IntKind.bits .u8)))=((2 ^ i:Nat):Int):=by
 have e:Nat.min (Int.toNat (i:Int)) (IntKind.bits .u8)=i:=by
  rw[aa];exact cS (by show i<=8;omega)
 rw[e,Int.one_mul]
 have:=j4 (EC h)
 rw[<-this]
 congr 1
def dj(n:Nat)(l:Nat->Bool):List Int:=(List.range ((n+7) / 8)).map λw=>((lG l w:Nat):Int)
theorem lH(n:Nat)(l:Nat->Bool):(dj n l).length=(n+7) / 8:=by simp[dj]
theorem j6{n:Nat}(l:Nat->Bool){w:Nat}(h:w<(n+7) / 8):(dj n l)[w]?=some ((lG l w:Nat):Int):=by
 unfold dj
 rw[List.getElem?_map,List.getElem?_range h]
 rfl
theorem Bt{n:Nat}(l:Nat->Bool){i:Nat}(h:i<n):(dj n l).set (i / 8) (dK .or .u8 ((lG l (i / 8):Nat):Int) ((2 ^ (i % 8):Nat):Int))=dj n (λx=>l x||decide (x=i)):=by
 have hi:i % 8<8:=eI _ (by omega)
 rw[OE (Kv _ _) (EC hi),OD hi,show 8*(i / 8)+i % 8=i by omega]
 apply List.ext_getElem?
 intro j
 rw[List.getElem?_set]
 by_cases hj:j<(n+7) / 8
 ·have g1:=j6 (n:=n) (λx=>l x||decide (x=i)) hj
  have g2:=j6 (n:=n) l hj
  rw[g1,g2]
  by_cases e:i / 8=j
  ·subst e
   rw[if_pos rfl,if_pos (by rw[lH];omega)]
  ·rw[if_neg e,Hr (l:=l) (m:=λx=>l x||decide (x=i)) (w:=j) λk hk=>by
    have:¬8*j+k=i:=by omega
    simp[this]]
 ·have e1:(dj n λx=>l x||decide (x=i))[j]?=none:=List.getElem?_eq_none (by rw[lH];omega)
  have e2:(dj n l)[j]?=none:=List.getElem?_eq_none (by rw[lH];omega)
  rw[e1,e2,if_neg (by omega)]
theorem xj(n:Nat):List.replicate ((n+7) / 8) (0:Int)=dj n (λ_=>false):=by
 apply List.ext_getElem?
 intro j
 by_cases hj:j<(n+7) / 8
 ·rw[j6 _ hj,List.getElem?_replicate,if_pos hj]
  have:lG (λ_=>false) j=0:=by
   apply fK
   intro i
   rw[iL]
   simp
  rw[this];rfl
 ·rw[List.getElem?_eq_none (by rw[il];omega),List.getElem?_eq_none (by rw[lH];omega)]
theorem nF{n:Nat}{l m:Nat->Bool}(h:dj n l=dj n m):∀ i,i<n->l i=m i:=by
 intro i hi
 have hw:i / 8<(n+7) / 8:=by omega
 have g:(dj n l)[i / 8]?=(dj n m)[i / 8]?:=by rw[h]
 rw[j6 _ hw,j6 _ hw]at g
 injection g with g
 have g:lG l (i / 8)=lG m (i / 8):=by omega
 have b1:=iL l (i / 8) (i % 8)
 have b2:=iL m (i / 8) (i % 8)
 rw[g,b2,show 8*(i / 8)+i % 8=i by omega,decide_eq_true (show i % 8<8 by omega),bG,bG]at b1
 exact b1.symm
theorem lI{n:Nat}{l m:Nat->Bool}(h:∀ i,l i=m i):dj n l=dj n m:=by
 have:l=m:=funext h
 rw[this]
theorem UF{n:Nat}(hn:n<=100000):IntKind.wrap .i64 (Int.tdiv (IntKind.wrap .i64 ((n:Int)+7)) 8)=(((n+7) / 8:Nat):Int):=by
 have e:(n:Int)+7=((n+7:Nat):Int):=by omega
 rw[e,bH (by omega),show(8:Int)=((8:Nat):Int) by rfl,<-kT]
 exact bH (by omega)
theorem td8(i:Nat)(h:i<=100000):IntKind.wrap .i64 (Int.tdiv (i:Int) 8)=((i / 8:Nat):Int):=by
 rw[show(8:Int)=((8:Nat):Int) by rfl,<-kT]
 exact bH (by omega)
theorem tm8(i:Nat):IntKind.wrap .u64 (Int.tmod (i:Int) 8)=((i % 8:Nat):Int):=by
 rw[show(8:Int)=((8:Nat):Int) by rfl,<-oc]
 exact wrap_u64 (by omega)
def Dd(n:Nat)(f:Nat->Bool):Nat->Bool:=λx=>decide (x<n)&&f x
theorem OF{n:Nat}(hn:n<=100000)(f:Nat->Bool):Nt N0 (bsN n f,())=some ((dj n (Dd n f),()),()):=by
 delta Nt Ld Bd Wi
 have n8:¬((8:Int)=0):=by omega
 simp only[gV,UF hn]
 rw[if_neg n8,if_pos ⟨by omega,by omega⟩,if_pos (by rw[aa];omega),aa,xj]
 have e0:dj n (λ_=>false)=dj n (λx=>decide (x<0)&&f x):=lI λi=>by simp
 rw[e0]
 refine aZ (λm x q=>∃ j:Nat,x=((dj n (λx=>decide (x<j)&&f x),()),((j:Int),()))/\m+j=n/\q=some ((dj n (Dd n f),()),())) ?_ N0 n _ _ (by unfold N0;omega) ⟨0,rfl,rfl,rfl⟩
 rintro m x q ⟨j,rfl,hm,rfl⟩ k hk
 simp only
 rcases ak j n with hj|hj
 ·have n0:(0:Int)<=(j:Int):=by omega
  have n1:(0:Int)<=((j / 8:Nat):Int):=by omega
  have n2:¬(((j % 8:Nat):Int)<0):=by omega
  have hw:j / 8<(n+7) / 8:=by omega
  have h8:j % 8<8:=eI _ (by omega)
  rw[decide_eq_true (show(j:Int)<(n:Int) by omega),cond_true,if_pos n0,aa,gW f hj]
  simp only
  refine aY ((dj n (λx=>decide (x<j+1)&&f x),()),()) (λK=>?_) ?_
  ·have est:∀ x,(decide (x<j+1)&&f x)=((decide (x<j)&&f x)||(decide (x=j)&&f j)):=by
    intro x
    by_cases hx:x=j
    ·subst hx
     have h1:¬x<x:=by omega
     have h2:x<x+1:=by omega
     simp[h1,h2]
    ·have:(x<j+1)↔(x<j):=by omega
     simp[this,hx]
   cases hb:f j
   ·rw[cond_false,lI (n:=n) (l:=λx=>decide (x<j+1)&&f x) (m:=λx=>decide (x<j)&&f x) λx=>by rw[est x,hb];simp]
   ·rw[cond_true,if_neg n8,td8 j (by omega),if_pos n1,aa,j6 _ hw]
    simp only
    rw[if_neg n8,tm8,if_neg n2,if_pos n1]
    simp only[if_pos n1,Bs h8]
    rw[Bt _ hj,lI (n:=n) (l:=λx=>decide (x<j+1)&&f x) (m:=λx=>(decide (x<j)&&f x)||decide (x=j)) λx=>by rw[est x,hb];simp]
  ·simp only
   rw[dh (by omega)]
   exact hk (m-1) _ _ (by omega) ⟨j+1,rfl,by omega,rfl⟩
 ·have:j=n:=by omega
  subst this
  rw[decide_eq_false (show ¬(j:Int)<(j:Int) by omega),cond_false]
  rfl
end
noncomputable section
def inS(dx:List (List Int))(c:Nat)(x:Nat):Bool:=hasB ((dx[x]?).getD []) c
theorem OG{dx:List (List Int)}(hn:dx.length<=100000)(hS:∀ S∈dx,xh S){c:Nat}(hc:c<256):Nr N0 (dx,((c:Int),()))=some ((dj dx.length (Dd dx.length (inS dx c)),()),()):=by
 delta Nr Ld Bd Wi
 have n8:¬((8:Int)=0):=by omega
 simp only[UF hn]
 rw[if_neg n8,if_pos ⟨by omega,by omega⟩,if_pos (by rw[aa];omega),aa,xj]
 have e0:dj dx.length (λ_=>false)=dj dx.length (λx=>decide (x<0)&&inS dx c x):=lI λi=>by simp
 rw[e0]
 refine aZ (λm x q=>∃ j:Nat,x=((dj dx.length (λx=>decide (x<j)&&inS dx c x),()),((j:Int),()))/\m+j=dx.length/\q=some ((dj dx.length (Dd dx.length (inS dx c)),()),())) ?_ N0 dx.length _ _ (by unfold N0;omega) ⟨0,rfl,rfl,rfl⟩
 rintro m x q ⟨j,rfl,hm,rfl⟩ k hk
 simp only
 rcases ak j dx.length with hj|hj
 ·have n0:(0:Int)<=(j:Int):=by omega
  have n1:(0:Int)<=((j / 8:Nat):Int):=by omega
  have n2:¬(((j % 8:Nat):Int)<0):=by omega
  have hw:j / 8<(dx.length+7) / 8:=by omega
  have h8:j % 8<8:=eI _ (by omega)
  have hj2:dx[j]?=some dx[j]:=List.getElem?_eq_getElem hj
  have hin:inS dx c j=hasB dx[j] c:=by unfold inS;rw[hj2];rfl
  have hok:=hS _ (ba hj)
  generalize dx[j]=S at hj2 hin hok
  rw[decide_eq_true (show(j:Int)<((dx.length:Nat):Int) by omega),cond_true,if_pos n0,aa,hj2]
  simp only
  rw[ae (Bp hok hc),<-hin]
  simp only
  refine aY ((dj dx.length (λx=>decide (x<j+1)&&inS dx c x),()),()) (λK=>?_) ?_
  ·have est:∀ x,(decide (x<j+1)&&inS dx c x)=((decide (x<j)&&inS dx c x)||(decide (x=j)&&inS dx c j)):=by
    intro x
    by_cases hx:x=j
    ·subst hx
     have h1:¬x<x:=by omega
     have h2:x<x+1:=by omega
     simp[h1,h2]
    ·have:(x<j+1)↔(x<j):=by omega
     simp[this,hx]
   cases hb:inS dx c j
   ·rw[cond_false,lI (n:=dx.length) (l:=λx=>decide (x<j+1)&&inS dx c x) (m:=λx=>decide (x<j)&&inS dx c x) λx=>by rw[est x,hb];simp]
   ·rw[cond_true,if_neg n8,td8 j (by omega),if_pos n1,aa,j6 _ hw]
    simp only
    rw[if_neg n8,tm8,if_neg n2,if_pos n1]
    simp only[if_pos n1,Bs h8]
    rw[Bt _ hj,lI (n:=dx.length) (l:=λx=>decide (x<j+1)&&inS dx c x) (m:=λx=>(decide (x<j)&&inS dx c x)||decide (x=j)) λx=>by rw[est x,hb];simp]
  ·simp only
   rw[dh (by omega)]
   exact hk (m-1) _ _ (by omega) ⟨j+1,rfl,by omega,rfl⟩
 ·have:j=dx.length:=by omega
  subst this
  rw[decide_eq_false (show ¬((dx.length:Nat):Int)<((dx.length:Nat):Int) by omega),cond_false]
  rfl
end
noncomputable section
theorem Kw{α β:Type}(eq:α->α->Bool)(k:α)(v:β):∀ x:List (α×β),(eW eq k v x).length<=x.length+1:=by
 intro x
 induction x with
 |nil=>simp[eW]
 |cons p r ih=>
  simp only[eW]
  cases eq k p.1
  ·simp;exact ih
  ·simp
theorem De(x:Int):0<=IntKind.wrap .u8 x/\IntKind.wrap .u8 x<=255:=by
 have h:=eJ .u8 x
 exact⟨h.1,h.2⟩
def sS(arr:List Int):Prop:=arr.length=256/\∀ v∈arr,0<=v/\v<=255
theorem Hs{arr:List Int}(h:sS arr)(i:Nat)(x:Int):sS (arr.set i (IntKind.wrap .u8 x)):=by
 refine⟨by rw[fg];exact h.1,λv hv=>?_⟩
 rcases List.mem_or_eq_of_mem_set hv with hv|rfl
 ·exact h.2 v hv
 ·exact De x
theorem OH{dx:List (List Int)}(hn:dx.length<=100000)(hS:∀ S∈dx,xh S):∃ arr,Ns N0 (dx,())=some ((arr,()),())/\sS arr:=by
 delta Ns Ld Bd Wi
 simp only
 have hz:sS (List.replicate 256 (0:Int)):=⟨il,λv hv=>by rw[List.mem_replicate]at hv;omega⟩
 generalize List.replicate 256 (0:Int)=zs at hz |-
 refine dZ (λm x=>∃ (c:Nat) (arr:List Int) (mp:List (List Int×Int)),x=((zs,(arr,(mp,()))),((c:Int),()))/\m+c=256/\sS arr/\mp.length<=c) (λz=>∃ arr,z=some ((arr,()),())/\sS arr) ?_ N0 256 _ (by unfold N0;omega) ⟨0,zs,[],rfl,rfl,hz,ar _⟩
 rintro m x ⟨c,arr,mp,rfl,hm,ha,hmp⟩ k hk
 simp only
 rcases ak c 256 with hc|hc
 ·have n0:(0:Int)<=(c:Int):=by omega
  obtain⟨v,hv⟩:∃ v,arr[c]?=some v:=⟨arr[c]'(by rw[ha.1];exact hc),List.getElem?_eq_getElem _⟩
  rw[decide_eq_true (show(c:Int)<256 by omega),cond_true,j4 hc,ae (OG hn hS hc)]
  simp only
  refine qm (P:=λz=>∃ arr,z=some ((arr,()),())/\sS arr) λK hK=>?_
  have go:∀ (mp':List (List Int×Int)) (y:Int),mp'.length<=c+1->∃ r,K ((zs,(arr,(mp',()))),(y,()))=some ((r,()),())/\sS r:=by
   intro mp' y hl
   rw[hK]
   simp only
   rw[if_pos n0,aa,hv]
   simp only
   rw[if_pos n0,dh (by omega)]
   exact hk (m-1) _ (by omega) ⟨c+1,_,mp',rfl,by omega,Hs ha c y,hl⟩
  generalize dj dx.length (Dd dx.length (inS dx c))=key
  cases hh:e7 (λv10 v11=>decide (v10=v11)) key mp
  ·have Qj:xZ mp=true:=by
    unfold xZ maxLen
    rw[lg]
    omega
   rw[aI,cond_true,Qj,cond_true]
   exact go _ _ (bu (Kw _ _ _ _) (by omega))
  ·rw[aA,cond_false]
   exact go _ _ (by omega)
 ·rw[decide_eq_false (show ¬(c:Int)<256 by omega),cond_false]
  exact⟨arr,rfl,ha⟩
end
noncomputable section
def mkL(n last:Nat):List Int:=(List.range n).map λq=>if q=last then 0 else -1
theorem ED(n last:Nat):(mkL n last).length=n:=by simp[mkL]
theorem EE{n:Nat}(last:Nat){i:Nat}(h:i<n):(mkL n last)[i]?=some (if i=last then 0 else -1):=by
 unfold mkL
 rw[List.getElem?_map,List.getElem?_range h]
 rfl
theorem OI{n:Nat}(last:Nat){i:Nat}(h:i<n):Nu N0 (mkL n last,((i:Int),()))=some ((if i=last then 0 else -1,()),()):=by
 delta Nu Ld Bd
 have n0:(0:Int)<=(i:Int):=by omega
 simp only
 rw[decide_eq_false (show ¬(((mkL n last).length:Nat):Int)<=(i:Int) by rw[ED];omega),cond_false,if_pos n0,aa,EE last h]
def gY(f:Nat->Bool)(last i:Nat):Int:=if f last=true/\last<i then 0 else -1
theorem OJ{n:Nat}(hn:n<=100000){last:Nat}(hl:last<n)(b)(hb:b.2.1=mkL n last)(f:Nat->Bool):Nv N0 (some b,(bsN n f,()))=some ((gY f last n,()),()):=by
 delta Nv Ld Bd Wi
 simp only[hb]
 refine aZ (λm x q=>∃ i:Nat,x=((),(gY f last i,((i:Int),())))/\m+i=n/\q=some ((gY f last n,()),())) ?_ N0 n _ _ (by unfold N0;omega) ⟨0,by rw[show gY f last 0=-1 from by unfold gY;rw[if_neg (by omega)]];rfl,rfl,rfl⟩
 rintro m x q ⟨i,rfl,hm,rfl⟩ k hk
 simp only
 rcases ak i n with hi|hi
 ·have n0:(0:Int)<=(i:Int):=by omega
  rw[decide_eq_true (show(i:Int)<(((bsN n f).length:Nat):Int) by rw[gV];omega),cond_true,if_pos n0,aa,gW f hi]
  simp only
  rw[ae (OI last hi)]
  simp only
  refine aY ((),(f i&&decide (i=last),())) (λK=>?_) ?_
  ·cases f i
   ·rfl
   ·rw[cond_true]
    by_cases e:i=last
    ·subst e
     have h1:gY f i i=-1:=by unfold gY;rw[if_neg (by omega)]
     rw[if_pos rfl,h1]
     simp
    ·rw[if_neg e]
     simp[e]
  ·simp only
   refine aY ((),(gY f last (i+1),())) (λK=>?_) ?_
   ·by_cases e:i=last
    ·subst e
     cases hf:f i
     ·have h1:gY f i i=gY f i (i+1):=by unfold gY;simp[hf]
      simp[h1]
     ·have h1:gY f i (i+1)=0:=by unfold gY;rw[if_pos ⟨hf,by omega⟩]
      simp[h1]
    ·have h1:gY f last i=gY f last (i+1):=by
      unfold gY
      have:(last<i+1)↔(last<i):=by omega
      simp[this]
     simp[e,h1]
   ·simp only
    rw[dh (by omega)]
    exact hk (m-1) _ _ (by omega) ⟨i+1,rfl,by omega,rfl⟩
 ·have:i=n:=by omega
  subst this
  rw[decide_eq_false (show ¬(i:Int)<(((bsN i f).length:Nat):Int) by rw[gV];omega),cond_false]
end
noncomputable section
theorem Df{E:List Ed}{g:Nat->Bool}(hg:ml E g){p q:Nat}(h:Fr0 E p q)(hp:g p=true):g q=true:=by
 induction h with
 |refl=>exact hp
 |step _ he ih=>exact hg _ he rfl ih
theorem Ht(t:Rx){g:Nat->Bool}(h:gK (t.az 0) (λx=>decide (x=t.fst 0)) g):g (t.lst 0)=t.null:=by
 obtain⟨h1,h2,h3⟩:=h
 cases hn:t.null
 ·have hle:=h3 (t.cl 0) (λe he hf hp=>t.El 0 e he hf hp) (λx hx=>by
   rw[decide_eq_true_eq]at hx
   rw[hx];exact t.nC 0)
  cases hg:g (t.lst 0)
  ·rfl
  ·have:=hle _ hg
   rw[t.rQ,hn]at this
   cases this
 ·exact Df h2 (t.J0 0 hn) (h1 _ (by simp))
theorem eO{E:List Ed}{f g g':Nat->Bool}(h:gK E f g)(h':gK E f g'):g=g':=by
 funext x
 cases hg:g x
 ·cases hg':g' x
  ·rfl
  ·have:=h'.2.2 g h.2.1 h.1 x hg'
   rw[hg]at this;cases this
 ·exact(h.2.2 g' h'.2.1 h'.1 x hg).symm
def fo(E:List Ed):List Nat:=(E.filter λe=>!e.2.2.2).map λe=>e.2.1
def onT(E:List Ed)(f:Nat->Bool):List Bool:=(fo E).map f
theorem oH{E:List Ed}{f:Nat->Bool}{c x:Nat}(h:a8 E f c x=true):x∈fo E:=by
 unfold a8 at h
 rw[gE]at h
 obtain⟨e,he,h⟩:=h
 simp only[ag,bx,decide_eq_true_eq]at h
 obtain⟨h1,_,_,h2⟩:=h
 unfold fo
 rw[fM]
 exact⟨e,fh.2 ⟨he,by simp[h1]⟩,h2.symm⟩
theorem r9{E:List Ed}{f f':Nat->Bool}{c c':Nat}(h:onT E (a8 E f c)=onT E (a8 E f' c')):a8 E f c=a8 E f' c':=by
 have key:∀ x,x∈fo E->a8 E f c x=a8 E f' c' x:=by
  unfold onT at h
  intro x hx
  exact List.map_inj_left.1 h x hx
 funext x
 cases h1:a8 E f c x
 ·cases h2:a8 E f' c' x
  ·rfl
  ·have:=key x (oH h2)
   rw[h1,h2]at this;exact this
 ·have:=key x (oH h1)
  rw[h1]at this;exact this
def UG(E:List Ed)(f0 g:Nat->Bool):Prop:=gK E f0 g\/∃ f c,gK E (a8 E f c) g
theorem qt(E:List Ed)(f:Nat->Bool):(onT E f).length=(fo E).length:=by simp[onT]
theorem OK{E:List Ed}{f0:Nat->Bool}(l:List (Nat->Bool))(hn:l.Nodup)(h:∀ g∈l,UG E f0 g):l.length<=2 ^ (fo E).length+1:=by
 refine rP (λ(g:Nat->Bool) (k:Nat)=>(k=0/\gK E f0 g)\/(0<k/\∃ f c,gK E (a8 E f c) g/\k=dG (onT E (a8 E f c))+1)) ?_ (2 ^ (fo E).length+1) l hn ?_
 ·rintro x y k (⟨hk,hx⟩|⟨hk,f,c,hx,e⟩) (⟨hk',hy⟩|⟨hk',f',c',hy,e'⟩)
  ·exact eO hx hy
  ·omega
  ·omega
  ·have hb:dG (onT E (a8 E f c))=dG (onT E (a8 E f' c')):=by omega
   have:=oD _ _ (by rw[qt,qt]) hb
   have:=r9 this
   rw[this]at hx
   exact eO hx hy
 ·intro g hg
  rcases h g hg with hg|⟨f,c,hg⟩
  ·exact⟨0,Nat.succ_pos _,.inl ⟨rfl,hg⟩⟩
  ·have:=lE (onT E (a8 E f c))
   rw[qt]at this
   exact⟨_,by omega,.inr ⟨by omega,f,c,hg,rfl⟩⟩
end
noncomputable section
def Rx.dr:Rx->Nat
 |.eps=>0
 |.set _=>1
 |.cat a b=>a.dr+b.dr
 |.alt a b=>a.dr+b.dr
 |.rep _ a=>a.dr
theorem gZ(E E':List Ed):fo (E++E')=fo E++fo E':=by unfold fo;rw[kQ,dO]
theorem uZ:∀ (t:Rx) (n:Nat),(fo (t.az n)).length=t.dr:=by
 intro t
 induction t with
 |eps=>intro n;rfl
 |set S=>intro n;rfl
 |cat a b iha ihb=>
  intro n
  simp only[Rx.az,gZ,aj,iha,ihb,Rx.dr]
  rfl
 |alt a b iha ihb=>
  intro n
  simp only[Rx.az,gZ,aj,iha,ihb,Rx.dr]
  rfl
 |rep k a ih=>
  intro n
  simp only[Rx.az,gZ,aj,ih,Rx.dr]
  split <;> split <;> rfl
end
noncomputable section
def sa(S:List Int):Prop:=S=ofB (λ_=>true)\/∃ c:Int,S=ofB (rR c)
def Rx.pw:Rx->Nat
 |.cat ..=>2
 |.alt ..=>2
 |_=>0
def Rx.cw:Rx->Nat
 |.alt ..=>2
 |_=>0
open Classical in
def Rx.wt:Rx->Nat
 |.eps=>1
 |.set S=>if sa S then 1 else 2
 |.cat a b=>a.wt+a.cw+(b.wt+b.pw)
 |.alt a b=>a.wt+(b.wt+b.cw)+1
 |.rep _ a=>a.wt+a.pw+1
theorem Rx.RL:Rx.wt .eps=1:=by rw[Rx.wt]
theorem Rx.yH(a b:Rx):(Rx.cat a b).wt=a.wt+a.cw+(b.wt+b.pw):=by rw[Rx.wt]
theorem Rx.u0(a b:Rx):(Rx.alt a b).wt=a.wt+(b.wt+b.cw)+1:=by rw[Rx.wt]
theorem Rx.yI(k:Int)(a:Rx):(Rx.rep k a).wt=a.wt+a.pw+1:=by rw[Rx.wt]
theorem Rx.RM(k:Int)(a:Rx):(Rx.rep k a).pw=0:=rfl
theorem Rx.Kx(a b:Rx):(Rx.cat a b).cw=0:=rfl
theorem Rx.RN(k:Int)(a:Rx):(Rx.rep k a).cw=0:=rfl
theorem Rx.RO(a b:Rx):(Rx.alt a b).cw=2:=rfl
theorem Rx.UH:∀ t:Rx,t.pw<=2:=by intro t;cases t <;> simp[Rx.pw]
def Wo(i:Nat)(o:Option (Rx×Nat)):Prop:=∀ t j,o=some (t,j)->t.wt+i<=j
def WoP(i:Nat)(o:Option (Rx×Nat)):Prop:=∀ t j,o=some (t,j)->t.wt+t.pw+i<=j
def WoC(i:Nat)(o:Option (Rx×Nat)):Prop:=∀ t j,o=some (t,j)->t.wt+t.cw+i<=j
theorem OL{s:List Int}(hb:Bytes s){inner:Nat->Nat->Option (Rx×Nat)}{i d:Nat}(hin:Wo (i+1) (inner (i+1) (d+1))):WoP i (mM inner s i d):=by
 intro t j h
 unfold mM at h
 split at h
 ·cases h
 split at h
 ·injection h with h;injection h with h1 h2;subst h1;subst h2;simp only[Rx.wt,Rx.pw,if_pos (show sa (ofB λ_=>true)from .inl rfl)];omega
 split at h
 ·injection h with h;injection h with h1 h2;subst h1;subst h2;simp only[Rx.wt,Rx.pw];omega
 split at h
 ·have hr:=(Ev hb (show i+1-1<i+1 by omega) t j h).1
  rw[yB]at h
  unfold nD at h
  split at h
  ·cases h
  rename_i l k hl
  generalize (if e8 s (i+1) 94=true then λx=>!l x else l)=l' at h
  split at h
  ·cases h
  injection h with h
  injection h with h1 h2
  subst h1
  have hk:=Eu hb _ _ _ _ _ hl
  have hk2:i+1<=k:=by
   refine bu ?_ hk
   split <;> omega
  have hw:Rx.wt (.set (ofB l'))<=2:=by simp only[Rx.wt];split <;> omega
  simp only[Rx.pw]
  omega
 split at h
 ·split at h
  ·cases h
  split at h
  ·cases h
  rename_i t2 j2 hi2
  have:=hin _ _ hi2
  have:=t2.UH
  split at h
  ·injection h with h;injection h with h1 h2;subst h1;subst h2;omega
  ·cases h
 split at h
 ·cases h
 rename_i c n hrd
 obtain⟨h1,h2,h3⟩:=kK (hb.drop i) hrd
 injection h with h;injection h with h4 h5;subst h4;subst h5
 simp only[Rx.wt,Rx.pw,if_pos (show sa (ofB (rR c))from .inr ⟨c,rfl⟩)];omega
theorem OM{s:List Int}:∀ (m i0 i:Nat) (t0 t:Rx) (j:Nat),t0.wt+t0.pw+i0<=i->rS s m i t0=some (t,j)->t.wt+t.pw+i0<=j:=by
 intro m
 induction m with
 |zero=>intro i0 i t0 t j _ h;cases h
 |succ m ih=>
  intro i0 i t0 t j hr h
  simp only[rS]at h
  split at h
  ·exact ih i0 (i+1) _ t j (by rw[Rx.yI,Rx.RM];omega) h
  ·injection h with h;injection h with h1 h2;subst h1;subst h2;exact hr
theorem EG{s:List Int}(hb:Bytes s){inner:Nat->Nat->Option (Rx×Nat)}{i d:Nat}(hin:Wo (i+1) (inner (i+1) (d+1))):WoP i (kJ inner s i d):=by
 intro t j h
 unfold kJ at h
 split at h
 ·cases h
 rename_i t0 i0 h0
 exact OM _ i i0 t0 t j (OL hb hin _ _ h0) h
theorem UI(t:Rx):t.cw<=t.pw:=by cases t <;> simp[Rx.cw,Rx.pw]
theorem ON{s:List Int}(hb:Bytes s){inner:Nat->Nat->Option (Rx×Nat)}{d:Nat}(hin:∀ i d,Wo i (inner i d)):∀ (m i0 i:Nat) (t0 t:Rx) (j:Nat),t0.wt+t0.cw+i0<=i->th inner s d m i t0=some (t,j)->t.wt+t.cw+i0<=j:=by
 intro m
 induction m with
 |zero=>intro i0 i t0 t j _ h;cases h
 |succ m ih=>
  intro i0 i t0 t j hr h
  simp only[th]at h
  split at h
  ·split at h
   ·cases h
   rename_i t2 j2 h2
   have:=EG hb (hin (i+1) (d+1)) _ _ h2
   exact ih i0 j2 _ t j (by rw[Rx.yH,Rx.Kx];omega) h
  ·injection h with h;injection h with h1 h2;subst h1;subst h2;exact hr
theorem EH{s:List Int}(hb:Bytes s){inner:Nat->Nat->Option (Rx×Nat)}{i d:Nat}(hin:∀ i d,Wo i (inner i d)):WoC i (lF inner s i d):=by
 intro t j h
 unfold lF at h
 split at h
 ·cases h
 rename_i t0 i0 h0
 have h1:=EG hb (hin (i+1) (d+1)) _ _ h0
 have h2:=UI t0
 exact ON hb hin _ i i0 t0 t j (by omega) h
theorem OO{s:List Int}(hb:Bytes s){inner:Nat->Nat->Option (Rx×Nat)}{d:Nat}(hin:∀ i d,Wo i (inner i d)):∀ (m i0 i:Nat) (t0 t:Rx) (j:Nat),t0.wt+i0<=i->tj inner s d m i t0=some (t,j)->t.wt+i0<=j:=by
 intro m
 induction m with
 |zero=>intro i0 i t0 t j _ h;cases h
 |succ m ih=>
  intro i0 i t0 t j hr h
  simp only[tj]at h
  split at h
  ·split at h
   ·cases h
   rename_i t2 j2 h2
   have:=EH hb hin _ _ h2
   exact ih i0 j2 _ t j (by rw[Rx.u0];omega) h
  ·injection h with h;injection h with h1 h2;subst h1;subst h2;exact hr
theorem OP{s:List Int}(hb:Bytes s):∀ (n i d:Nat),Wo i (kh s n i d):=by
 intro n
 induction n with
 |zero=>intro i d t j h;cases h
 |succ n ih=>
  intro i d t j h
  simp only[kh,C5]at h
  split at h
  ·cases h
  rename_i t0 i0 h0
  have:=EH hb ih _ _ h0
  exact OO hb ih _ i i0 t0 t j (by omega) h
theorem Hu{s:List Int}(hb:Bytes s){t:Rx}(h:gb s=.ok t):t.wt<=s.length:=by
 unfold gb at h
 split at h
 ·cases h
 split at h
 ·cases h
 rename_i t2 i ho
 have h1:=OP hb _ _ _ _ _ ho
 obtain⟨_,h2,_,_⟩:=j5 hb _ _ _ (by omega) _ _ ho
 split at h
 ·cases h
 split at h
 ·cases h
 injection h with h
 subst h
 omega
theorem Rx.fU:∀ t:Rx,t.dr<=t.wt:=by
 intro t
 induction t with
 |eps=>simp[Rx.dr]
 |set S=>simp only[Rx.dr,Rx.wt];split <;> omega
 |cat a b iha ihb=>rw[Rx.yH];simp only[Rx.dr];omega
 |alt a b iha ihb=>rw[Rx.u0];simp only[Rx.dr];omega
 |rep k a ih=>rw[Rx.yI];simp only[Rx.dr];omega
end
noncomputable section
def Rx.lin:Rx->Bool
 |.eps=>true
 |.set _=>true
 |.cat a b=>a.lin&&b.lin
 |_=>false
def Rx.lf:Rx->Bool
 |.eps=>false
 |.set _=>true
 |.cat a _=>a.lf
 |.alt a _=>a.lf
 |.rep k a=>decide (k=6)&&a.lf
inductive Rx.Lq:Rx->Prop
 |rep {k:Int} {S:List Int} (hk:k≠6) (hS:sa S):Rx.Lq (.rep k (.set S))
 |cat {a:Rx} {S:List Int} (h:Rx.Lq a):Rx.Lq (.cat a (.set S))
theorem u9:∀ t:Rx,t.wt<=t.dr->t.lf=true/\t.lin=true/\(t.pw=0->∃ S,sa S/\t=.set S):=by
 intro t
 induction t with
 |eps=>intro h;rw[Rx.RL]at h;simp[Rx.dr]at h
 |set S=>
  intro h
  simp only[Rx.wt,Rx.dr]at h
  split at h
  ·rename_i hS;exact⟨rfl,rfl,λ_=>⟨S,hS,rfl⟩⟩
  ·omega
 |cat a b iha ihb=>
  intro h
  rw[Rx.yH]at h
  simp only[Rx.dr]at h
  have h1:=a.fU
  have h2:=b.fU
  obtain⟨i1,i2,_⟩:=iha (by omega)
  obtain⟨j1,j2,_⟩:=ihb (by omega)
  exact⟨i1,by simp[Rx.lin,i2,j2],λh=>by simp[Rx.pw]at h⟩
 |alt a b iha ihb=>
  intro h
  rw[Rx.u0]at h
  simp only[Rx.dr]at h
  have h1:=a.fU
  have h2:=b.fU
  omega
 |rep k a ih=>
  intro h
  rw[Rx.yI]at h
  simp only[Rx.dr]at h
  have h1:=a.fU
  omega
theorem tC:∀ t:Rx,t.wt+t.cw<=t.dr+1->t.lin=true\/t.lf=true\/t.Lq:=by
 intro t
 induction t with
 |eps=>intro _;exact .inl rfl
 |set S=>intro _;exact .inl rfl
 |cat a b iha ihb=>
  intro h
  rw[Rx.yH,Rx.Kx]at h
  simp only[Rx.dr]at h
  have h1:=a.fU
  have h2:=b.fU
  by_cases ha:a.wt<=a.dr
  ·exact .inr (.inl (u9 a ha).1)
  ·obtain⟨_,j2,j3⟩:=u9 b (by omega)
   obtain⟨S,hS,rfl⟩:=j3 (by omega)
   rcases iha (by omega)with i|i|i
   ·exact .inl (by simp[Rx.lin,i])
   ·exact .inr (.inl i)
   ·exact .inr (.inr (.cat i))
 |alt a b iha ihb=>
  intro h
  rw[Rx.u0,Rx.RO]at h
  simp only[Rx.dr]at h
  have h1:=a.fU
  have h2:=b.fU
  omega
 |rep k a ih=>
  intro h
  rw[Rx.yI,Rx.RN]at h
  simp only[Rx.dr]at h
  have h1:=a.fU
  obtain⟨i1,_,i3⟩:=u9 a (by omega)
  obtain⟨S,hS,rfl⟩:=i3 (by omega)
  by_cases hk:k=6
  ·exact .inr (.inl (by simp[Rx.lf,hk]))
  ·exact .inr (.inr (.rep hk hS))
theorem RP(t:Rx)(h:t.wt<=t.dr+1):t.lin=true\/t.lf=true\/t.Lq:=by
 cases t with
 |alt a b=>
  rw[Rx.u0]at h
  simp only[Rx.dr]at h
  have h1:=a.fU
  have h2:=b.fU
  exact .inr (.inl (u9 a (by omega)).1)
 |eps=>exact tC _ (by simpa [Rx.cw]using h)
 |set S=>exact tC _ (by simpa [Rx.cw]using h)
 |cat a b=>exact tC _ (by simpa [Rx.cw]using h)
 |rep k a=>exact tC _ (by simpa [Rx.cw]using h)
def Rx.lvl:Rx->Nat->Nat->Nat
 |.set _,n,q=>if q=n then 0 else 1
 |.cat a b,n,q=>if q<n+2*a.len then a.lvl n q else if q<n+2*(a.len+b.len)then a.dr+b.lvl (n+2*a.len) q else if q=n+2*(a.len+b.len)then 0 else a.dr+b.dr
 |_,_,_=>0
theorem Rx.yJ:∀ (t:Rx) (n:Nat),t.lvl n (t.fst n)=0:=by
 intro t n
 have:=t.bK
 cases t with
 |set S=>simp[Rx.lvl,Rx.fst,Rx.len]
 |cat a b=>
  have e:(Rx.cat a b).fst n=n+2*(a.len+b.len):=by simp only[Rx.fst,Rx.len];omega
  have ha:=a.bK
  rw[e,Rx.lvl,if_neg (by omega),if_neg (by omega),if_pos rfl]
 |_=>rfl
theorem Rx.EI:∀ (t:Rx) (n:Nat),t.lin=true->t.lvl n (t.lst n)=t.dr:=by
 intro t n h
 have:=t.bK
 cases t with
 |set S=>simp[Rx.lvl,Rx.lst,Rx.len,Rx.dr]
 |eps=>rfl
 |cat a b=>
  have e:(Rx.cat a b).lst n=n+2*(a.len+b.len)+1:=by simp only[Rx.lst,Rx.len];omega
  have ha:=a.bK
  rw[e,Rx.lvl,if_neg (by omega),if_neg (by omega),if_neg (by omega),Rx.dr]
 |alt a b=>cases h
 |rep k a=>cases h
theorem Rx.Bu:∀ (t:Rx) (n:Nat),t.lin=true->∀ e∈t.az n,t.lvl n e.2.1=t.lvl n e.1+(if e.2.2.2=true then 0 else 1):=by
 intro t
 induction t with
 |eps=>intro n _ e he;simp[Rx.az,fE]at he;subst he;simp[Rx.lvl]
 |set S=>intro n _ e he;simp[Rx.az]at he;subst he;simp[Rx.lvl]
 |alt a b=>intro n h;cases h
 |rep k a=>intro n h;cases h
 |cat a b iha ihb=>
  intro n h e he
  simp only[Rx.lin,ag]at h
  have ha:=a.bK
  have hb:=b.bK
  simp only[Rx.az,au,ay,bX,or_false]at he
  rcases he with(he|he)|he|he|he
  ·have hi:=a.dJ n e he
   simp only[Rx.lvl]
   rw[if_pos (by omega),if_pos (by omega),iha n h.1 e he]
  ·have hi:=b.dJ _ e he
   simp only[Rx.lvl]
   rw[if_neg (by omega),if_pos (by omega),if_neg (by omega),if_pos (by omega),ihb _ h.2 e he]
   omega
  ·subst he
   have hi:=a.pv n
   have hz:=a.yJ n
   show(Rx.cat a b).lvl n (a.fst n)=(Rx.cat a b).lvl n (n+2*(a.len+b.len))+0
   simp only[Rx.lvl]
   rw[if_pos (show a.fst n<n+2*a.len by omega),if_neg (by omega),if_neg (by omega),if_true,hz]
  ·subst he
   have hi:=a.kI n
   have hi2:=b.pv (n+2*a.len)
   have hz:=a.EI n h.1
   have hz2:=b.yJ (n+2*a.len)
   show(Rx.cat a b).lvl n (b.fst (n+2*a.len))=(Rx.cat a b).lvl n (a.lst n)+0
   simp only[Rx.lvl]
   rw[if_neg (show ¬b.fst (n+2*a.len)<n+2*a.len by omega),if_pos (by omega),if_pos (by omega),hz,hz2]
  ·subst he
   have hi2:=b.kI (n+2*a.len)
   have hz2:=b.EI (n+2*a.len) h.2
   show(Rx.cat a b).lvl n (n+2*(a.len+b.len)+1)=(Rx.cat a b).lvl n (b.lst (n+2*a.len))+0
   simp only[Rx.lvl]
   rw[if_neg (by omega),if_neg (by omega),if_neg (by omega),if_neg (show ¬b.lst (n+2*a.len)<n+2*a.len by omega),if_pos (by omega),hz2]
   omega
theorem Rx.EJ:∀ (t:Rx) (n:Nat),t.lin=true->∀ x∈fo (t.az n),0<t.lvl n x/\t.lvl n x<=t.dr/\∀ y∈fo (t.az n),t.lvl n x=t.lvl n y->x=y:=by
 intro t
 induction t with
 |eps=>intro n _ x hx;simp[Rx.az,fo,fE]at hx
 |set S=>
  intro n _ x hx
  simp[Rx.az,fo]at hx
  subst hx
  refine⟨by simp[Rx.lvl],by simp[Rx.lvl,Rx.dr],λy hy _=>?_⟩
  simp[Rx.az,fo]at hy
  exact hy.symm
 |alt a b=>intro n h;cases h
 |rep k a=>intro n h;cases h
 |cat a b iha ihb=>
  intro n h x hx
  simp only[Rx.lin,ag]at h
  have ha:=a.bK
  have hb:=b.bK
  have hin:∀ (t:Rx) (m x:Nat),x∈fo (t.az m)->m<=x/\x<m+2*t.len:=by
   intro t m x hx
   unfold fo at hx
   obtain⟨e,he,rfl⟩:=fM.1 hx
   have:=t.dJ m e (fh.1 he).1
   omega
  have hT:fo ((Rx.cat a b).az n)=fo (a.az n)++fo (b.az (n+2*a.len)):=by
   simp only[Rx.az,gZ]
   simp[fo,fE]
  have la:∀ x,x∈fo (a.az n)->(Rx.cat a b).lvl n x=a.lvl n x:=λx hx=>by
   have:=hin a n x hx
   rw[Rx.lvl,if_pos (by omega)]
  have lb:∀ x,x∈fo (b.az (n+2*a.len))->(Rx.cat a b).lvl n x=a.dr+b.lvl (n+2*a.len) x:=λx hx=>by
   have:=hin b _ x hx
   rw[Rx.lvl,if_neg (by omega),if_pos (by omega)]
  rw[hT]at hx |-
  simp only[Rx.dr]
  rcases au.1 hx with hx|hx
  ·obtain⟨q1,q2,q3⟩:=iha n h.1 x hx
   rw[la x hx]
   refine⟨q1,by omega,λy hy hxy=>?_⟩
   rcases au.1 hy with hy|hy
   ·rw[la y hy]at hxy;exact q3 y hy hxy
   ·rw[lb y hy]at hxy
    have:=(ihb _ h.2 y hy).1
    omega
  ·obtain⟨q1,q2,q3⟩:=ihb _ h.2 x hx
   rw[lb x hx]
   refine⟨by omega,by omega,λy hy hxy=>?_⟩
   rcases au.1 hy with hy|hy
   ·rw[la y hy]at hxy
    have:=(iha n h.1 y hy).2.1
    omega
   ·rw[lb y hy]at hxy;exact q3 y hy (by omega)
def Rx.pre:Rx->Nat->Nat->Bool
 |.eps,n,q=>decide (q=n)
 |.set _,n,q=>decide (q=n)
 |.cat a b,n,q=>decide (q=n+2*(a.len+b.len))||a.pre n q
 |.alt a b,n,q=>decide (q=n+2*(a.len+b.len))||a.pre n q
 |.rep k a,n,q=>decide (q=n+2*a.len)||(decide (k=6)&&a.pre n q)
theorem Rx.px:∀ (t:Rx) (n q:Nat),t.pre n q=true->n<=q/\q<n+2*t.len:=by
 intro t
 induction t with
 |eps=>intro n q h;simp only[Rx.pre,decide_eq_true_eq]at h;simp only[Rx.len];omega
 |set S=>intro n q h;simp only[Rx.pre,decide_eq_true_eq]at h;simp only[Rx.len];omega
 |cat a b iha ihb=>
  intro n q h
  simp only[Rx.pre,aG,decide_eq_true_eq]at h
  simp only[Rx.len]
  rcases h with h|h
  ·omega
  ·have:=iha n q h;omega
 |alt a b iha ihb=>
  intro n q h
  simp only[Rx.pre,aG,decide_eq_true_eq]at h
  simp only[Rx.len]
  rcases h with h|h
  ·omega
  ·have:=iha n q h;omega
 |rep k a ih=>
  intro n q h
  simp only[Rx.pre,aG,ag,decide_eq_true_eq]at h
  simp only[Rx.len]
  rcases h with h|h
  ·omega
  ·have:=ih n q h.2;omega
theorem Rx.Kz:∀ (t:Rx) (n:Nat),∀ e∈t.az n,t.pre n e.2.1=true->e.2.2.2=true/\t.pre n e.1=true:=by
 intro t
 induction t with
 |eps=>intro n e he h;simp[Rx.az,fE]at he;subst he;simp[Rx.pre]at h
 |set S=>intro n e he h;simp[Rx.az]at he;subst he;simp[Rx.pre]at h
 |cat a b iha ihb=>
  intro n e he h
  have ha:=a.bK
  have hb:=b.bK
  simp only[Rx.az,au,ay,bX,or_false]at he
  simp only[Rx.pre,aG,decide_eq_true_eq]at h |-
  rcases he with(he|he)|he|he|he
  ·have hi:=a.dJ n e he
   obtain⟨q1,q2⟩:=iha n e he (h.resolve_left (by omega))
   exact⟨q1,.inr q2⟩
  ·have hi:=b.dJ _ e he
   rcases h with h|h
   ·omega
   ·have:=a.px n _ h;omega
  ·subst he;exact⟨rfl,.inl rfl⟩
  ·subst he
   have hi:=b.pv (n+2*a.len)
   rcases h with h|h
   ·simp only[fE]at h;omega
   ·have:=a.px n _ h;simp only[fE]at this;omega
  ·subst he
   rcases h with h|h
   ·simp only[fE]at h;omega
   ·have:=a.px n _ h;simp only[fE]at this;omega
 |alt a b iha ihb=>
  intro n e he h
  have ha:=a.bK
  have hb:=b.bK
  simp only[Rx.az,au,ay,bX,or_false]at he
  simp only[Rx.pre,aG,decide_eq_true_eq]at h |-
  rcases he with(he|he)|he|he|he|he
  ·have hi:=a.dJ n e he
   obtain⟨q1,q2⟩:=iha n e he (h.resolve_left (by omega))
   exact⟨q1,.inr q2⟩
  ·have hi:=b.dJ _ e he
   rcases h with h|h
   ·omega
   ·have:=a.px n _ h;omega
  ·subst he;exact⟨rfl,.inl rfl⟩
  ·subst he
   rcases h with h|h
   ·simp only[fE]at h;omega
   ·have:=a.px n _ h;simp only[fE]at this;omega
  ·subst he;exact⟨rfl,.inl rfl⟩
  ·subst he
   rcases h with h|h
   ·simp only[fE]at h;omega
   ·have:=a.px n _ h;simp only[fE]at this;omega
 |rep k a ih=>
  intro n e he h
  have ha:=a.bK
  simp only[Rx.az,au,ay,bX,or_false]at he
  simp only[Rx.pre,aG,ag,decide_eq_true_eq]at h |-
  rcases he with((he|he|he)|he)|he
  ·have hi:=a.dJ n e he
   have h:=h.resolve_left (by omega)
   obtain⟨q1,q2⟩:=ih n e he h.2
   exact⟨q1,.inr ⟨h.1,q2⟩⟩
  ·subst he;exact⟨rfl,.inl rfl⟩
  ·subst he
   rcases h with h|h
   ·simp only[fE]at h;omega
   ·have:=a.px n _ h.2;simp only[fE]at this;omega
  ·split at he
   ·simp at he
   ·rename_i hk
    simp only[aL]at he
    subst he
    rcases h with h|h
    ·have:=a.pv n;simp only[fE]at h;omega
    ·exact absurd h.1 hk
  ·split at he
   ·simp at he
   ·simp only[aL]at he
    subst he
    exact⟨rfl,.inl rfl⟩
theorem Rx.KA:∀ (t:Rx) (n:Nat),t.lf=true->∃ r,fo (t.az n)=(n+1)::r/\t.pre n n=true/\∀ e∈t.az n,e.2.2.2=false->e.2.1=n+1->e.1=n:=by
 intro t
 induction t with
 |eps=>intro n h;cases h
 |set S=>intro n _;exact⟨[],rfl,by simp[Rx.pre],λe he _ _=>by simp[Rx.az]at he;subst he;rfl⟩
 |cat a b iha ihb=>
  intro n h
  have ha:=a.bK
  obtain⟨r,q1,q2,q3⟩:=iha n h
  refine⟨r++fo (b.az (n+2*a.len)),?_,by simp[Rx.pre,q2],λe he hf ht=>?_⟩
  ·simp only[Rx.az,gZ,q1];simp[fo,fE]
  ·simp only[Rx.az,au,ay,bX,or_false]at he
   rcases he with(he|he)|he|he|he
   ·exact q3 e he hf ht
   ·have:=b.dJ _ e he;omega
   all_goals (subst he;cases hf)
 |alt a b iha ihb=>
  intro n h
  have ha:=a.bK
  obtain⟨r,q1,q2,q3⟩:=iha n h
  refine⟨r++fo (b.az (n+2*a.len)),?_,by simp[Rx.pre,q2],λe he hf ht=>?_⟩
  ·simp only[Rx.az,gZ,q1];simp[fo,fE]
  ·simp only[Rx.az,au,ay,bX,or_false]at he
   rcases he with(he|he)|he|he|he|he
   ·exact q3 e he hf ht
   ·have:=b.dJ _ e he;omega
   all_goals (subst he;cases hf)
 |rep k a ih=>
  intro n h
  simp only[Rx.lf,ag,decide_eq_true_eq]at h
  obtain⟨rfl,h⟩:=h
  obtain⟨r,q1,q2,q3⟩:=ih n h
  refine⟨r,?_,by simp[Rx.pre,q2],λe he hf ht=>?_⟩
  ·simp only[Rx.az,gZ,q1];simp[fo,fE]
  ·simp only[Rx.az,au,ay,bX,or_false]at he
   rcases he with((he|he|he)|he)|he
   ·exact q3 e he hf ht
   ·subst he;cases hf
   ·subst he;cases hf
   ·simp at he
   ·simp at he;subst he;cases hf
end
noncomputable section
inductive Rch(t:Rx):(Nat->Bool)->Prop
 |ini {g:Nat->Bool} (h:gK (t.az 0) (λx=>decide (x=t.fst 0)) g):Rch t g
 |step {f g:Nat->Bool} {c:Nat} (hc:c<256) (hf:Rch t f) (h:gK (t.az 0) (a8 (t.az 0) f c) g):Rch t g
theorem fk{E:List Ed}{f:Nat->Bool}{c x:Nat}:a8 E f c x=true↔∃ e∈E,e.2.2.2=false/\f e.1=true/\hasB e.2.2.1 c=true/\x=e.2.1:=by
 unfold a8
 rw[gE]
 simp only[ag,bx,decide_eq_true_eq]
theorem Rch.XL{t:Rx}{g:Nat->Bool}(h:Rch t g):UG (t.az 0) (λx=>decide (x=t.fst 0)) g:=by
 cases h with
 |ini h=>exact .inl h
 |step _ _ h=>exact .inr ⟨_,_,h⟩
theorem Rch.lvl{t:Rx}(hl:t.lin=true){g:Nat->Bool}(h:Rch t g):∃ m,∀ q,g q=true->t.lvl 0 q=m:=by
 have clo:∀ m,ml (t.az 0) (λq=>decide (t.lvl 0 q=m)):=by
  intro m e he hf h
  have:=t.Bu 0 hl e he
  rw[hf]at this
  simp only[decide_eq_true_eq]at h |-
  simp at this
  omega
 induction h with
 |ini h=>
  refine⟨0,λq hq=>?_⟩
  have:=h.2.2 _ (clo 0) (λx hx=>by
   rw[decide_eq_true_eq]at hx
   subst hx
   simpa using t.yJ 0) q hq
  simpa using this
 |step hc hf h ih=>
  obtain⟨m,ih⟩:=ih
  refine⟨m+1,λq hq=>?_⟩
  have:=h.2.2 _ (clo (m+1)) (λx hx=>by
   obtain⟨e,he,h1,h2,_,rfl⟩:=fk.1 hx
   have:=t.Bu 0 hl e he
   rw[h1,ih _ h2]at this
   simpa using this) q hq
  simpa using this
theorem KB{t:Rx}(hl:t.lin=true)(l:List (Nat->Bool))(hn:l.Nodup)(h:∀ g∈l,Rch t g):l.length<=t.dr+3:=by
 refine rP (λ(g:Nat->Bool) (k:Nat)=>(k=0/\gK (t.az 0) (λx=>decide (x=t.fst 0)) g)\/(k=1/\gK (t.az 0) (λ_=>false) g)\/
  (∃ f x,gK (t.az 0) f g/\x∈fo (t.az 0)/\(∀ y,f y=true↔y=x)/\k=t.lvl 0 x+2)) ?_ (t.dr+3) l hn ?_
 ·rintro a b k (⟨rfl,h1⟩|⟨rfl,h1⟩|⟨f,x,h1,h2,h3,rfl⟩) (⟨e,g1⟩|⟨e,g1⟩|⟨f',x',g1,g2,g3,e⟩)
  ·exact eO h1 g1
  ·omega
  ·omega
  ·omega
  ·exact eO h1 g1
  ·omega
  ·omega
  ·omega
  ·have:x=x':=(t.EJ 0 hl x h2).2.2 x' g2 (by omega)
   subst this
   have:f=f':=by
    funext y
    rw[bZ,h3,g3]
   rw[this]at h1
   exact eO h1 g1
 ·intro g hg
  have hr:=h g hg
  cases hr with
  |ini h=>exact⟨0,by omega,.inl ⟨rfl,h⟩⟩
  | @step f g c hc hf h=>
   by_cases hx:∃ x,a8 (t.az 0) f c x=true
   ·obtain⟨x,hx⟩:=hx
    have hxt:=oH hx
    have hb:=t.EJ 0 hl x hxt
    refine⟨t.lvl 0 x+2,by omega,.inr (.inr ⟨_,x,h,hxt,λy=>⟨λhy=>?_,λe=>e ▸ hx⟩,rfl⟩)⟩
    obtain⟨m,hm⟩:=(Rch.step hc hf h).lvl hl
    have e1:=hm _ (h.1 _ hx)
    have e2:=hm _ (h.1 _ hy)
    exact(hb.2.2 y (oH hy) (by omega)).symm
   ·refine⟨1,by omega,.inr (.inl ⟨rfl,?_⟩)⟩
    have:a8 (t.az 0) f c=λ_=>false:=by
     funext x
     cases hs:a8 (t.az 0) f c x
     ·rfl
     ·exact absurd ⟨x,hs⟩ hx
    rw[this]at h
    exact h
theorem Bv{t:Rx}{f g:Nat->Bool}{c:Nat}(h:gK (t.az 0) (a8 (t.az 0) f c) g):∀ q,t.pre 0 q=true->g q=false:=by
 intro q hq
 have:=h.2.2 (λq=>!t.pre 0 q) (λe he hf hp=>by
  simp only[bx]at hp |-
  cases hc:t.pre 0 e.2.1
  ·rfl
  ·rw[(t.Kz 0 e he hc).2]at hp;cases hp) (λx hx=>by
  obtain⟨e,he,h1,_,_,rfl⟩:=fk.1 hx
  simp only[bx]
  cases hc:t.pre 0 e.2.1
  ·rfl
  ·rw[(t.Kz 0 e he hc).1]at h1;cases h1) q
 cases hg:g q
 ·rfl
 ·have:=this hg
  simp[hq]at this
theorem UJ{t:Rx}(hl:t.lf=true)(l:List (Nat->Bool))(hn:l.Nodup)(h:∀ g∈l,Rch t g):l.length<=257+2 ^ (t.dr-1):=by
 obtain⟨r,q1,q2,q3⟩:=t.KA 0 hl
 have hrl:r.length=t.dr-1:=by
  have:=uZ t 0
  rw[q1]at this
  simp at this
  omega
 refine rP (λ(g:Nat->Bool) (k:Nat)=>(k=0/\gK (t.az 0) (λx=>decide (x=t.fst 0)) g)\/(∃ c f,c<256/\gK (t.az 0) (λx=>decide (x=t.fst 0)) f/\gK (t.az 0) (a8 (t.az 0) f c) g/\k=1+c)\/
  (∃ f c,gK (t.az 0) (a8 (t.az 0) f c) g/\a8 (t.az 0) f c 1=false/\k=257+dG (r.map (a8 (t.az 0) f c)))) ?_ (257+2 ^ (t.dr-1)) l hn ?_
 ·rintro a b k (⟨rfl,h1⟩|⟨c,f,hc,h0,h1,rfl⟩|⟨f,c,h1,h2,rfl⟩) (⟨e,g1⟩|⟨c',f',hc',g0,g1,e⟩|⟨f',c',g1,g2,e⟩)
  ·exact eO h1 g1
  ·omega
  ·omega
  ·omega
  ·have:c=c':=by omega
   subst this
   rw[eO h0 g0]at h1
   exact eO h1 g1
  ·omega
  ·omega
  ·omega
  ·have hb:=oD (r.map (a8 (t.az 0) f c)) (r.map (a8 (t.az 0) f' c')) (by simp) (by omega)
   have:onT (t.az 0) (a8 (t.az 0) f c)=onT (t.az 0) (a8 (t.az 0) f' c'):=by
    unfold onT
    rw[q1]
    simp only[fi,et]
    rw[h2,g2,hb]
   rw[r9 this]at h1
   exact eO h1 g1
 ·intro g hg
  have hr:=h g hg
  cases hr with
  |ini h=>exact⟨0,by have:=aC (2 ^ (t.dr-1));omega,.inl ⟨rfl,h⟩⟩
  | @step f g c hc hf h=>
   cases hf with
   |ini h0=>exact⟨1+c,by have:=aC (2 ^ (t.dr-1));omega,.inr (.inl ⟨c,f,hc,h0,h,rfl⟩)⟩
   | @step f0 f c0 hc0 hf0 h0=>
    have hb:=lE (r.map (a8 (t.az 0) f c))
    rw[bJ,hrl]at hb
    refine⟨_,?_,.inr (.inr ⟨f,c,h,?_,rfl⟩)⟩
    ·omega
    ·cases hs:a8 (t.az 0) f c 1
     ·rfl
     ·obtain⟨e,he,h1,h2,_,h3⟩:=fk.1 hs
      rw[q3 e he h1 (by omega),Bv h0 0 q2]at h2
      cases h2
def Bq(k:Int)(S0 S1 S2:List Int):Rx:=.cat (.cat (.rep k (.set S0)) (.set S1)) (.set S2)
theorem gk{k:Int}(hk:k≠6){S0 S1 S2:List Int}{e:Ed}:e∈(Bq k S0 S1 S2).az 0↔e=(0,1,S0,false)\/e=fE 2 0\/e=fE 1 3\/e=fE 1 0\/(k≠5/\e=fE 2 3)\/e=(4,5,S1,false)\/e=fE 6 2\/e=fE 3 4\/e=fE 5 7\/e=(8,9,S2,false)\/e=fE 10 6\/e=fE 7 8\/e=fE 9 11:=by
 by_cases h5:k=5
 ·simp[Bq,Rx.az,Rx.len,Rx.fst,Rx.lst,hk,h5,or_assoc]
 ·simp[Bq,Rx.az,Rx.len,Rx.fst,Rx.lst,hk,h5,or_assoc]
structure LqB(t:Rx)(k:Int)(S0 S1 S2:List Int):Prop where
 hk:k≠6
 sm:sa S0
 tg:∃ r,fo (t.az 0)=1::5::9::r
 ed:∀ e∈t.az 0,e.2.1<12->e.2.1≠10->e∈(Bq k S0 S1 S2).az 0
 sub:∀ e∈(Bq k S0 S1 S2).az 0,e∈t.az 0
 len:6<=t.len
 p2:t.pre 0 2=true
 c8:t.cl 0 8=false
 nl:t.null=false
theorem Lq.bot{t:Rx}(h:t.Lq)(h3:3<=t.dr):∃ k S0 S1 S2,LqB t k S0 S1 S2:=by
 induction h with
 |rep hk hS=>simp[Rx.dr]at h3
 | @cat a S ha ih=>
  by_cases h3':3<=a.dr
  ·obtain⟨k,S0,S1,S2,b⟩:=ih h3'
   obtain⟨r,hr⟩:=b.tg
   have hl:=b.len
   refine⟨k,S0,S1,S2,b.hk,b.sm,⟨r++fo ((Rx.set S).az (0+2*a.len)),?_⟩,λe he h1 h2=>?_,λe he=>?_,?_,?_,?_,?_⟩
   ·simp only[Rx.az,gZ,hr];simp[fo,fE]
   ·simp only[Rx.az,au,ay,bX,or_false]at he
    rcases he with(he|he)|he|he|he
    ·exact b.ed e he h1 h2
    ·subst he;simp at h1;omega
    ·subst he;simp only[fE,Rx.fst]at h1 h2;omega
    ·subst he;simp only[fE,Rx.fst,Rx.len]at h1 h2;omega
    ·subst he;simp only[fE,Rx.len]at h1 h2;omega
   ·simp only[Rx.az,au]
    exact .inl (.inl (b.sub e he))
   ·simp only[Rx.len];omega
   ·simp only[Rx.pre,b.p2,fj]
   ·simp only[Rx.cl,b.c8,b.nl,Rx.len,Rx.null]
    simp
    omega
   ·simp[Rx.null]
  ·cases ha with
   |rep hk hS=>simp[Rx.dr]at h3
   | @cat a' S' ha'=>
    cases ha' with
    | @rep k S0 hk hS=>
     refine⟨k,S0,S',S,hk,hS,⟨[],?_⟩,λe he _ _=>he,λe he=>he,by simp[Rx.len],by simp[Rx.pre,Rx.len],by simp[Rx.cl,Rx.len,Rx.null],by simp[Rx.null]⟩
     simp only[Rx.az,gZ]
     by_cases h5:k=5 <;> simp[fo,fE,Rx.len,hk,h5]
    |cat h=>
     exfalso
     cases h <;> simp[Rx.dr]at h3' h3 <;> omega
section
variable {t:Rx} {k:Int} {S0 S1 S2:List Int}
theorem LqB.at1(b:LqB t k S0 S1 S2){h:Nat->Bool}{c:Nat}(hs:a8 (t.az 0) h c 1=true):h 0=true/\hasB S0 c=true:=by
 obtain⟨e,he,h1,h2,h3,h4⟩:=fk.1 hs
 have:=b.ed e he (by omega) (by omega)
 rw[gk b.hk]at this
 rcases this with rfl|rfl|rfl|rfl|⟨_,rfl⟩|rfl|rfl|rfl|rfl|rfl|rfl|rfl|rfl <;> simp[fE]at h1 h4
 exact⟨h2,h3⟩
theorem LqB.at5(b:LqB t k S0 S1 S2){h:Nat->Bool}{c:Nat}(hs:a8 (t.az 0) h c 5=true):h 4=true/\hasB S1 c=true:=by
 obtain⟨e,he,h1,h2,h3,h4⟩:=fk.1 hs
 have:=b.ed e he (by omega) (by omega)
 rw[gk b.hk]at this
 rcases this with rfl|rfl|rfl|rfl|⟨_,rfl⟩|rfl|rfl|rfl|rfl|rfl|rfl|rfl|rfl <;> simp[fE]at h1 h4
 exact⟨h2,h3⟩
theorem LqB.at9(b:LqB t k S0 S1 S2){h:Nat->Bool}{c:Nat}(hs:a8 (t.az 0) h c 9=true):h 8=true:=by
 obtain⟨e,he,h1,h2,h3,h4⟩:=fk.1 hs
 have:=b.ed e he (by omega) (by omega)
 rw[gk b.hk]at this
 rcases this with rfl|rfl|rfl|rfl|⟨_,rfl⟩|rfl|rfl|rfl|rfl|rfl|rfl|rfl|rfl <;> simp[fE]at h1 h4
 exact h2
theorem LqB.no(b:LqB t k S0 S1 S2){h:Nat->Bool}{c q:Nat}(hq:q=0\/q=3\/q=4\/q=7\/q=8):a8 (t.az 0) h c q=false:=by
 cases hs:a8 (t.az 0) h c q
 ·rfl
 ·exfalso
  obtain⟨e,he,h1,h2,h3,h4⟩:=fk.1 hs
  have:=b.ed e he (by omega) (by omega)
  rw[gk b.hk]at this
  rcases this with rfl|rfl|rfl|rfl|⟨_,rfl⟩|rfl|rfl|rfl|rfl|rfl|rfl|rfl|rfl <;> simp[fE]at h1 h4 <;> omega
theorem LqB.free(b:LqB t k S0 S1 S2){e:Ed}(he:e∈t.az 0)(hf:e.2.2.2=true)(hq:e.2.1<10):e.2.1=0/\(e.1=1\/e.1=2)\/e.2.1=3/\(e.1=1\/e.1=2)\/e.2.1=2\/e.2.1=6\/e.2.1=4/\e.1=3\/e.2.1=7/\e.1=5\/e.2.1=8/\e.1=7:=by
 have:=b.ed e he (by omega) (by omega)
 rw[gk b.hk]at this
 rcases this with rfl|rfl|rfl|rfl|⟨_,rfl⟩|rfl|rfl|rfl|rfl|rfl|rfl|rfl|rfl <;> simp[fE]at hf hq |-
theorem LqB.r8(b:LqB t k S0 S1 S2){h f:Nat->Bool}{c:Nat}(hc:gK (t.az 0) (a8 (t.az 0) f c) h)(h8:h 8=true):a8 (t.az 0) f c 5=true:=by
 cases h5:a8 (t.az 0) f c 5
 ·exfalso
  have:=hc.2.2 (λq=>!(decide (q=5)||(decide (q=7)||decide (q=8)))) (λe he hf hd=>by
   cases hx:(decide (e.2.1=5)||(decide (e.2.1=7)||decide (e.2.1=8)))
   ·show(!_)=true
    rw[hx];rfl
   ·exfalso
    simp only[aG,decide_eq_true_eq]at hx
    have:=b.free he hf (by omega)
    simp at hd
    omega) (λx hx=>by
   cases hy:(decide (x=5)||(decide (x=7)||decide (x=8)))
   ·show(!_)=true
    rw[hy];rfl
   ·exfalso
    simp only[aG,decide_eq_true_eq]at hy
    rcases hy with rfl|rfl|rfl
    ·rw[h5]at hx;cases hx
    ·rw[b.no (by omega)]at hx;cases hx
    ·rw[b.no (by omega)]at hx;cases hx) 8 h8
  simp at this
 ·rfl
theorem LqB.r1(b:LqB t k S0 S1 S2){h f:Nat->Bool}{c:Nat}(hc:gK (t.az 0) (a8 (t.az 0) f c) h)(h8:h 4=true\/h 0=true):a8 (t.az 0) f c 1=true:=by
 cases h5:a8 (t.az 0) f c 1
 ·exfalso
  have hp:=Bv hc 2 b.p2
  have key:=hc.2.2 (λq=>h q&&!(decide (q=1)||(decide (q=3)||(decide (q=4)||decide (q=0))))) (λe he hf hd=>by
   simp only[ag]at hd |-
   refine⟨hc.2.1 e he hf hd.1,?_⟩
   cases hx:(decide (e.2.1=1)||(decide (e.2.1=3)||(decide (e.2.1=4)||decide (e.2.1=0))))
   ·rfl
   ·exfalso
    simp only[aG,decide_eq_true_eq]at hx
    have:=b.free he hf (by omega)
    have h2:e.1≠2:=λe2=>by have h1:=hd.1;rw[e2,hp]at h1;cases h1
    have h3:=hd.2
    simp at h3
    omega) (λx hx=>by
   simp only[ag]
   refine⟨hc.1 x hx,?_⟩
   cases hy:(decide (x=1)||(decide (x=3)||(decide (x=4)||decide (x=0))))
   ·rfl
   ·exfalso
    simp only[aG,decide_eq_true_eq]at hy
    rcases hy with rfl|rfl|rfl|rfl
    ·rw[h5]at hx;cases hx
    ·rw[b.no (by omega)]at hx;cases hx
    ·rw[b.no (by omega)]at hx;cases hx
    ·rw[b.no (by omega)]at hx;cases hx)
  rcases h8 with h8|h8
  ·have:=key 4 h8;simp at this
  ·have:=key 0 h8;simp at this
 ·rfl
theorem LqB.EK(b:LqB t k S0 S1 S2){h:Nat->Bool}(hr:Rch t h)(h8:h 8=true):∃ f c,c<256/\gK (t.az 0) (a8 (t.az 0) f c) h:=by
 cases hr with
 |ini hi=>
  exfalso
  have:=hi.2.2 (t.cl 0) (λe he hf hp=>t.El 0 e he hf hp) (λx hx=>by
   rw[decide_eq_true_eq]at hx
   rw[hx];exact t.nC 0) 8 h8
  rw[b.c8]at this
  cases this
 |step hc _ hi=>exact⟨_,_,hc,hi⟩
theorem LqB.X(b:LqB t k S0 S1 S2){h:Nat->Bool}(hr:Rch t h){c:Nat}(hc:c<256)(h1:a8 (t.az 0) h c 1=false)(h5:a8 (t.az 0) h c 5=true)(h9:a8 (t.az 0) h c 9=true):hasB S0 c=false:=by
 obtain⟨f,c',hc',hi⟩:=b.EK hr (b.at9 h9)
 have f1:=b.r1 hi (.inl (b.at5 h5).1)
 have g1:=hi.1 _ f1
 have g0:=hi.2.1 (fE 1 0) (b.sub _ ((gk b.hk).2 (by simp))) rfl g1
 cases hs:hasB S0 c
 ·rfl
 ·have:a8 (t.az 0) h c 1=true:=fk.2 ⟨(0,1,S0,false),b.sub _ ((gk b.hk).2 (by simp)),rfl,g0,hs,rfl⟩
  rw[h1]at this;cases this
theorem LqB.Y(b:LqB t k S0 S1 S2){h:Nat->Bool}(hr:Rch t h){c:Nat}(hc:c<256)(h1:a8 (t.az 0) h c 1=true)(h5:a8 (t.az 0) h c 5=false)(h9:a8 (t.az 0) h c 9=true):∃ d d',d<256/\d' < 256/\d≠d'/\hasB S0 d=true/\hasB S0 d'=true:=by
 obtain⟨f,c',hc',hi⟩:=b.EK hr (b.at9 h9)
 have f5:=b.r8 hi (b.at9 h9)
 have f1:=b.r1 hi (.inr (b.at1 h1).1)
 have g1:=hi.1 _ f1
 have g3:=hi.2.1 (fE 1 3) (b.sub _ ((gk b.hk).2 (by simp))) rfl g1
 have g4:=hi.2.1 (fE 3 4) (b.sub _ ((gk b.hk).2 (by simp))) rfl g3
 refine⟨c,c',hc,hc',?_,(b.at1 h1).2,(b.at1 f1).2⟩
 rintro rfl
 have:a8 (t.az 0) h c 5=true:=fk.2 ⟨(4,5,S1,false),b.sub _ ((gk b.hk).2 (by simp)),rfl,g4,(b.at5 f5).2,rfl⟩
 rw[h5]at this;cases this
theorem LqB.OQ(b:LqB t k S0 S1 S2){d d' c:Nat}(hc:c<256)(hX:hasB S0 c=false)(hd:d<256)(hd':d' < 256)(hne:d≠d')(h1:hasB S0 d=true)(h2:hasB S0 d'=true):False:=by
 rcases b.sm with h|⟨v,h⟩
 ·rw[h,qs _ hc]at hX;cases hX
 ·rw[h,qs _ hd]at h1
  rw[h,qs _ hd']at h2
  unfold rR at h1 h2
  simp only[decide_eq_true_eq]at h1 h2
  omega
theorem KC{E:List Ed}{f0:Nat->Bool}{r:List Nat}(hr:fo E=1::5::9::r)(x0 x1 x2:Bool)(l:List (Nat->Bool))(hn:l.Nodup)(h:∀ g∈l,gK E f0 g\/∃ f c,gK E (a8 E f c) g/\¬(a8 E f c 1=x0/\a8 E f c 5=x1/\a8 E f c 9=x2)):l.length<=1+7*2 ^ r.length:=by
 have code:∀ (p v:Nat),v % 8≠p->p<8->(if v % 8<p then v % 8 else v % 8-1)<7:=by intro p v h1 h2;split <;> omega
 refine rP (λ(g:Nat->Bool) (k:Nat)=>(k=0/\gK E f0 g)\/(∃ f c,gK E (a8 E f c) g/\dG (onT E (a8 E f c)) % 8≠dG [x0,x1,x2]/\
  k=1+(7*(dG (onT E (a8 E f c)) / 8)+(if dG (onT E (a8 E f c)) % 8<dG [x0,x1,x2]then dG (onT E (a8 E f c)) % 8 else dG (onT E (a8 E f c)) % 8-1)))) ?_ (1+7*2 ^ r.length) l hn ?_
 ·have hp:dG [x0,x1,x2]<8:=lE [x0,x1,x2]
  rintro a b k (⟨rfl,h1⟩|⟨f,c,h1,h2,rfl⟩) (⟨e,g1⟩|⟨f',c',g1,g2,e⟩)
  ·exact eO h1 g1
  ·omega
  ·omega
  ·have hb:dG (onT E (a8 E f c))=dG (onT E (a8 E f' c')):=by
    generalize dG (onT E (a8 E f c))=u at *
    generalize dG (onT E (a8 E f' c'))=v at *
    generalize dG [x0,x1,x2]=p at *
    have c1:=code p u h2 hp
    have c2:=code p v g2 hp
    have e1:u / 8=v / 8:=by omega
    have e2:u % 8=v % 8:=by
     split at e <;> split at e <;> omega
    omega
   rw[r9 (oD _ _ (by rw[qt,qt]) hb)]at h1
   exact eO h1 g1
 ·intro g hg
  rcases h g hg with h|⟨f,c,h1,h2⟩
  ·exact⟨0,by omega,.inl ⟨rfl,h⟩⟩
  ·have hp:dG [x0,x1,x2]<8:=lE [x0,x1,x2]
   have hv:dG (onT E (a8 E f c))=dG [a8 E f c 1,a8 E f c 5,a8 E f c 9]+8*dG (r.map (a8 E f c)):=by
    unfold onT
    rw[hr]
    simp only[fi,dG]
    omega
   have h3:dG [a8 E f c 1,a8 E f c 5,a8 E f c 9]<8:=lE [a8 E f c 1,a8 E f c 5,a8 E f c 9]
   have hm:dG (onT E (a8 E f c)) % 8≠dG [x0,x1,x2]:=by
    intro e
    have e3:dG [a8 E f c 1,a8 E f c 5,a8 E f c 9]=dG [x0,x1,x2]:=by omega
    have:=oD [a8 E f c 1,a8 E f c 5,a8 E f c 9] [x0,x1,x2] rfl e3
    injection this with a1 a2
    injection a2 with a2 a3
    injection a3 with a3
    exact h2 ⟨a1,a2,a3⟩
   have hrl:=lE (r.map (a8 E f c))
   rw[bJ]at hrl
   have hc:=code _ _ hm hp
   refine⟨_,?_,.inr ⟨f,c,h1,hm,rfl⟩⟩
   omega
theorem UK(b:LqB t k S0 S1 S2)(l:List (Nat->Bool))(hn:l.Nodup)(h:∀ g∈l,Rch t g):l.length<=1+7*2 ^ (t.dr-3):=by
 obtain⟨r,hr⟩:=b.tg
 have hrl:r.length=t.dr-3:=by
  have:=uZ t 0
  rw[hr]at this
  simp at this
  omega
 rw[<-hrl]
 by_cases hX:∃ c,c<256/\hasB S0 c=false
 ·obtain⟨c0,hc0,hX⟩:=hX
  refine KC (f0:=λx=>decide (x=t.fst 0)) hr true false true l hn (λg hg=>?_)
  have hr:=h g hg
  cases hr with
  |ini h=>exact .inl h
  | @step f g c hc hf h=>
   refine .inr ⟨f,c,h,λ⟨a1,a2,a3⟩=>?_⟩
   obtain⟨d,d',q1,q2,q3,q4,q5⟩:=b.Y hf hc a1 a2 a3
   exact b.OQ hc0 hX q1 q2 q3 q4 q5
 ·refine KC (f0:=λx=>decide (x=t.fst 0)) hr false true true l hn (λg hg=>?_)
  have hr:=h g hg
  cases hr with
  |ini h=>exact .inl h
  | @step f g c hc hf h=>
   refine .inr ⟨f,c,h,λ⟨a1,a2,a3⟩=>hX ⟨c,hc,b.X hf hc a1 a2 a3⟩⟩
end
theorem Hv{t:Rx}(hw:t.wt<=12)(l:List (Nat->Bool))(hn:l.Nodup)(h:∀ g∈l,Rch t g):l.length<=2000:=by
 have ho:=t.fU
 rcases ak t.dr 11 with h10|h11
 ·have:=OK (E:=t.az 0) l hn (λg hg=>(h g hg).XL)
  rw[uZ]at this
  have h2:2 ^ t.dr<=2 ^ 10:=iu (by omega) (by omega)
  omega
 ·rcases ak t.dr 12 with h12|h12
  ·have h1:t.dr=11:=by omega
   rcases RP t (by omega)with hl|hl|hl
   ·have:=KB hl l hn h;omega
   ·have:=UJ hl l hn h
    rw[h1]at this
    omega
   ·obtain⟨k,S0,S1,S2,b⟩:=Lq.bot hl (by omega)
    have:=UK b l hn h
    rw[h1]at this
    omega
  ·have:=KB (u9 t (by omega)).2.1 l hn h
   omega
end
noncomputable section
theorem KD(d)(q:Int):Ny N0 (d,(q,([],())))=some ((q,()),()):=by
 delta Ny Ld Bd Wi
 refine aZ (λm x r=>x=((),(q,((0:Int),())))/\r=some ((q,()),())) ?_ N0 0 _ _ (by unfold N0;omega) ⟨rfl,rfl⟩
 rintro m x r ⟨rfl,rfl⟩ k hk
 rfl
theorem Hw{d}{v:Int}(h:d.2.2[0]?=some v):Nz N0 (d,(0,()))=some ((v,()),()):=by
 have hl:0<d.2.2.length:=by
  rcases ak 0 d.2.2.length with h2|h2
  ·exact h2
  ·rw[List.getElem?_eq_none h2]at h;cases h
 have g:d.2.2[((0:Int)).toNat]?=some v:=h
 delta Nz Ld Bd
 simp only
 refine aY ((),(false,())) (λK=>?_) ?_
 ·rw[show decide ((0:Int)<0)=false from rfl,cond_false,decide_eq_false (show ¬((d.2.2.length:Nat):Int)<=0 by omega)]
 ·simp only
  rw[cond_false,if_pos z0,g]
theorem KE{d}{v:Int}(h:d.2.2[0]?=some v):NA N0 (d,([],()))=some ((v,()),()):=by
 unfold NA
 simp only
 rw[ae (KD d 0)]
 simp only
 rw[ae (Hw h)]
end
noncomputable section
theorem pA{s:List Int}{e:Int}(h:gb s=.error e):e=5\/e=6:=by
 unfold gb at h
 split at h
 ·injection h with h;omega
 split at h
 ·injection h with h;omega
 split at h
 ·injection h with h;omega
 split at h
 ·injection h with h;omega
 ·cases h
def XM:List Int×(List (List Int)×List Int):=(List.replicate 256 0,([],[]))
theorem OR{s:List Int}(hb:Bytes s)(hsm:s.length<=maxLen){e:Int}(h:gb s=.error e):p68 N0 (s,())=some ((XM,(e,())),()):=by
 have he:=pA h
 unfold p68
 simp only
 rw[ae (Kd hb hsm),h]
 simp only[Kc]
 rcases he with rfl|rfl <;> rfl
theorem RQ{s:List Int}(hb:Bytes s)(hsm:s.length<=maxLen){t:Rx}(h:gb s=.ok t){d}{c:Int}(hd:JC N0 (nfT t,())=some ((d,(c,())),())):p68 N0 (s,())=some ((d,(c,())),()):=by
 obtain⟨h1,h2,h3⟩:=rX hb h
 unfold p68
 simp only
 rw[ae (Kd hb hsm),h]
 simp only[Kc]
 rw[decide_true,aA,cond_false,ae (RJ h1 h2)]
 simp only
 rw[decide_true,aA,cond_false,ae hd]
def mkJ(n j:Nat):List Int:=(List.range n).map λq=>if q<j then -1 else 0
theorem kz(n j:Nat):(mkJ n j).length=n:=by simp[mkJ]
theorem oI{n:Nat}(j:Nat){i:Nat}(h:i<n):(mkJ n j)[i]?=some (if i<j then -1 else 0):=by
 unfold mkJ
 rw[List.getElem?_map,List.getElem?_range h]
 rfl
theorem OS{n j:Nat}(h:j<n):(mkJ n j).set j (-1)=mkJ n (j+1):=by
 apply List.ext_getElem?
 intro i
 rw[List.getElem?_set]
 by_cases hi:i<n
 ·rw[oI j hi,oI (j+1) hi]
  by_cases e:j=i
  ·subst e
   rw[if_pos rfl,if_pos (by rw[kz];exact h),if_pos (by omega)]
  ·rw[if_neg e]
   by_cases h2:i<j
   ·rw[if_pos h2,if_pos (by omega)]
   ·rw[if_neg h2,if_neg (by omega)]
 ·have e1:(mkJ n (j+1))[i]?=none:=List.getElem?_eq_none (by rw[kz];omega)
  have e2:(mkJ n j)[i]?=none:=List.getElem?_eq_none (by rw[kz];omega)
  rw[e1,e2,if_neg (by omega)]
theorem KF{n last:Nat}(h:last<n):(mkJ n n).set last 0=mkL n last:=by
 apply List.ext_getElem?
 intro i
 rw[List.getElem?_set]
 by_cases hi:i<n
 ·rw[oI n hi,EE last hi]
  by_cases e:last=i
  ·subst e
   rw[if_pos rfl,if_pos (by rw[kz];exact h),if_pos rfl]
  ·rw[if_neg e,if_pos hi,if_neg (λh=>e h.symm)]
 ·have e1:(mkL n last)[i]?=none:=List.getElem?_eq_none (by rw[ED];omega)
  have e2:(mkJ n n)[i]?=none:=List.getElem?_eq_none (by rw[kz];omega)
  rw[e1,e2,if_neg (by omega)]
theorem KG(n:Nat):List.replicate n (0:Int)=mkJ n 0:=by
 apply List.ext_getElem?
 intro i
 by_cases hi:i<n
 ·rw[oI 0 hi,List.getElem?_replicate,if_pos hi,if_neg (by omega)]
 ·rw[List.getElem?_eq_none (by rw[il];omega),List.getElem?_eq_none (by rw[kz];omega)]
theorem OT{t:Rx}(hl:t.len<=400){d}{c:Int}(hd:p63 N0 (nfT t,(mkL (2*t.len) (t.lst 0),()))=some ((d,(c,())),())):JC N0 (nfT t,())=some ((d,(c,())),()):=by
 have xk:=t.kI 0
 have hn8:2*t.len<=800:=by omega
 have hN:(nfT t).1=((2*t.len:Nat):Int):=rfl
 have hL:(nfT t).2.2.2=((t.lst 0:Nat):Int):=rfl
 delta JC Ld Bd Wi
 simp only
 rw[ae (Bo hl)]
 simp only
 rw[aA,cond_false]
 simp only[hN,hL]
 generalize 2*t.len=n at *
 generalize t.lst 0=last at *
 have hln:last<n:=by omega
 rw[if_pos ⟨by omega,by omega⟩,if_pos (by rw[aa];omega),aa,KG]
 generalize (List.replicate 256 (0:Int),(([]:List (List Int)),([]:List Int)))=Z
 refine aZ (λm x q=>∃ j:Nat,x=((Z,(mkJ n j,())),((j:Int),()))/\m+j=n/\q=some ((d,(c,())),())) ?_ N0 n _ _ (by unfold N0;omega) ⟨0,rfl,rfl,rfl⟩
 rintro m x q ⟨j,rfl,hm,rfl⟩ k hk
 simp only
 rcases ak j n with hj|hj
 ·have n0:(0:Int)<=(j:Int):=by omega
  rw[decide_eq_true (show(j:Int)<(((mkJ n 0).length:Nat):Int) by rw[kz];omega),cond_true,if_pos n0,aa,oI j hj]
  simp only
  rw[if_pos n0]
  rw[OS hj,dh (by omega)]
  exact hk (m-1) _ _ (by omega) ⟨j+1,rfl,by omega,rfl⟩
 ·have:j=n:=by omega
  subst this
  have n0:(0:Int)<=(last:Int):=by omega
  rw[decide_eq_false (show ¬(j:Int)<(((mkJ j 0).length:Nat):Int) by rw[kz];omega),cond_false,if_pos n0,aa,oI j hln]
  simp only
  rw[if_pos n0]
  rw[KF hln,ae hd]
end
noncomputable section
abbrev KM:=List (List Int×Int)
def eqK:List Int->List Int->Bool:=λa b=>decide (a=b)
theorem KH(k k':List Int)(v:Int):∀ x:KM,e7 eqK k (eW eqK k' v x)=(decide (k=k')||e7 eqK k x):=by
 intro x
 induction x with
 |nil=>simp[eW,e7,eqK]
 |cons p r ih=>
  simp only[eW]
  by_cases e:k'=p.1
  ·have:eqK k' p.1=true:=decide_eq_true e
   rw[this,cond_true]
   simp only[e7]
   rw[<-e]
   by_cases e2:k=k'
   ·rw[show eqK k k'=true from decide_eq_true e2,decide_eq_true e2];rfl
   ·rw[show eqK k k'=false from decide_eq_false e2,decide_eq_false e2];rfl
  ·have:eqK k' p.1=false:=decide_eq_false e
   rw[this,cond_false]
   simp only[e7]
   by_cases e2:k=p.1
   ·rw[show eqK k p.1=true from decide_eq_true e2,cond_true,cond_true,fj]
   ·rw[show eqK k p.1=false from decide_eq_false e2,cond_false,cond_false,ih]
def Sup(n:Nat)(g:Nat->Bool):Prop:=∀ q,g q=true->q<n
theorem Sup.ext{n:Nat}{g g':Nat->Bool}(h:Sup n g)(h':Sup n g')(he:∀ i,i<n->g i=g' i):g=g':=by
 funext q
 by_cases hq:q<n
 ·exact he q hq
 ·cases h1:g q
  ·cases h2:g' q
   ·rfl
   ·exact absurd (h' q h2) hq
  ·exact absurd (h q h1) hq
theorem Sup.cut{n:Nat}{g:Nat->Bool}(h:Sup n g):Dd n g=g:=by
 funext q
 unfold Dd
 cases hg:g q
 ·simp
 ·simp[h q hg]
abbrev BI:=NfI×(List Int×(List Int×(KM×(List (List Bool)×(List Int×(List (List Int)×List Int))))))
structure BOk(N:NfI)(n last:Nat)(jx cls:List Int)(b:BI)(gs:List (Nat->Bool)):Prop where
 nf:b.1=N
 mks:b.2.1=mkL n last
 rp:b.2.2.1=jx
 key:∀ k,e7 eqK k b.2.2.2.1=true↔∃ g∈gs,k=dj n g
 dx:b.2.2.2.2.1=gs.map (bsN n)
 cl:b.2.2.2.2.2.1=cls
 mark:b.2.2.2.2.2.2.2=gs.map λg=>gY g last n
 sup:∀ g∈gs,Sup n g
def yK(g:Nat->Bool):Nat->Bool
 |0=>false
 |i+1=>yK g i||g i
theorem KI{g:Nat->Bool}:∀ {i:Nat},yK g i=true↔∃ q,q<i/\g q=true:=by
 intro i
 induction i with
 |zero=>
  constructor
  ·intro h;cases h
  ·rintro⟨q,h,_⟩;omega
 |succ i ih=>
  simp only[yK,aG,ih]
  constructor
  ·rintro(⟨q,h1,h2⟩|h)
   ·exact⟨q,by omega,h2⟩
   ·exact⟨i,by omega,h⟩
  ·rintro⟨q,h1,h2⟩
   by_cases e:q=i
   ·subst e;exact .inr h2
   ·exact .inl ⟨q,by omega,h2⟩
theorem EL{N:NfI}{n last:Nat}{jx cls:List Int}(hn:n<=100000)(hl:last<n){b:BI}{gs:List (Nat->Bool)}(hb:BOk N n last jx cls b gs)(hg:gs.length<=100000){g:Nat->Bool}(hs:Sup n g):
 ∃ (r:Int) (b':BI) (gs':List (Nat->Bool)),JB N0 (b,(bsN n g,()))=some ((r,()),(b',()))/\BOk N n last jx cls b' gs'/\b'.2.2.2.2.2.2.1=b.2.2.2.2.2.2.1/\(((gs'=gs)/\((∀ q,g q=false)\/g∈gs))\/(gs'=gs++[g]/\g∉gs)):=by
 delta JB Ld Ap Bd Wi
 simp only
 refine dZ (λm x=>∃ i:Nat,x=((b,()),(yK g i,((i:Int),())))/\m+i=n) (λz=>∃ (r:Int) (b':BI) (gs':List (Nat->Bool)),z=some ((r,()),(b',()))/\BOk N n last jx cls b' gs'/\b'.2.2.2.2.2.2.1=b.2.2.2.2.2.2.1/\(((gs'=gs)/\((∀ q,g q=false)\/g∈gs))\/(gs'=gs++[g]/\g∉gs))) ?_ N0 n _ (by unfold N0;omega) ⟨0,?_,rfl⟩
 ·rintro m x ⟨i,rfl,hm⟩ k hk
  simp only[gV]
  rcases ak i n with hi|hi
  ·have n0:(0:Int)<=(i:Int):=by omega
   rw[decide_eq_true (show(i:Int)<((n:Nat):Int) by omega),cond_true,if_pos n0,aa,gW g hi]
   simp only
   refine qm (P:=λz=>∃ (r:Int) (b':BI) (gs':List (Nat->Bool)),z=some ((r,()),(b',()))/\BOk N n last jx cls b' gs'/\b'.2.2.2.2.2.2.1=b.2.2.2.2.2.2.1/\(((gs'=gs)/\((∀ q,g q=false)\/g∈gs))\/(gs'=gs++[g]/\g∉gs))) λK hK=>?_
   have hor:yK g (i+1)=(yK g i||g i):=rfl
   have fin:=hk (m-1) ((b,()),(yK g (i+1),(((i+1:Nat):Int),()))) (by omega) ⟨i+1,rfl,by omega⟩
   cases hd:yK g i
   ·rw[cond_false,hK]
    simp only
    rw[dh (by omega)]
    rw[hor,hd,cV]at fin
    exact fin
   ·rw[cond_true,hK]
    simp only
    rw[dh (by omega)]
    rw[hor,hd,dP]at fin
    exact fin
  ·have:i=n:=by omega
   subst this
   rw[decide_eq_false (show ¬(i:Int)<((i:Nat):Int) by omega),cond_false]
   cases hd:yK g i
   ·rw[aI,cond_true]
    refine⟨-1,b,gs,rfl,hb,rfl,.inl ⟨rfl,.inl λq=>?_⟩⟩
    cases hq:g q
    ·rfl
    ·rw[KI.2 ⟨q,hs q hq,hq⟩]at hd;cases hd
   ·rw[aA,cond_false,ae (OF hn g)]
    simp only[hs.cut]
    show ∃ (r:Int) (b':BI) (gs':List (Nat->Bool)),(bif e7 eqK (dj i g) b.2.2.2.1 then _ else _)=some ((r,()),(b',()))/\_
    cases hh:e7 eqK (dj i g) b.2.2.2.1
    ·rw[cond_false]
     have hlen:b.2.2.2.2.1.length=gs.length:=by rw[hb.dx,bJ]
     have Ew:b.2.2.2.2.2.2.2.length=gs.length:=by rw[hb.mark,bJ]
     rw[if_pos (by rw[hlen];simp;omega),if_pos (by rw[hlen];simp;omega)]
     rw[show(λ(a b:List Int)=>decide (a=b))=eqK from rfl]
     rw[ae (OJ hn hl (b.1,(b.2.1,(b.2.2.1,(eW eqK (dj i g) (b.2.2.2.2.1.length:Int) b.2.2.2.1,(b.2.2.2.2.1++[bsN i g],b.2.2.2.2.2))))) hb.mks g)]
     simp only
     rw[if_pos (by rw[Ew];simp;omega),if_pos (by rw[Ew];simp;omega)]
     refine⟨_,_,gs++[g],rfl,⟨hb.nf,hb.mks,hb.rp,λk'=>?_,?_,hb.cl,?_,?_⟩,rfl,.inr ⟨rfl,λhm=>?_⟩⟩
     ·show e7 eqK k' (eW eqK (dj i g) _ _)=true↔_
      rw[KH,aG,decide_eq_true_eq,hb.key]
      constructor
      ·rintro(h|⟨g',h1,h2⟩)
       ·exact⟨g,by simp,h⟩
       ·exact⟨g',by simp[h1],h2⟩
      ·rintro⟨g',h1,h2⟩
       rcases au.1 h1 with h1|h1
       ·exact .inr ⟨g',h1,h2⟩
       ·simp at h1;subst h1;exact .inl h2
     ·show b.2.2.2.2.1++[bsN i g]=_
      rw[hb.dx];simp
     ·show b.2.2.2.2.2.2.2++[gY g last i]=_
      rw[hb.mark];simp
     ·intro g' hg'
      rcases au.1 hg' with h1|h1
      ·exact hb.sup g' h1
      ·simp at h1;subst h1;exact hs
     ·have:=(hb.key (dj i g)).2 ⟨g,hm,rfl⟩
      rw[hh]at this;cases this
    ·rw[cond_true]
     refine⟨_,b,gs,rfl,hb,rfl,.inl ⟨rfl,.inr ?_⟩⟩
     obtain⟨g',h1,h2⟩:=(hb.key _).1 hh
     have:=hs.ext (hb.sup g' h1) (nF h2)
     rw[this];exact h1
 ·rfl
end
noncomputable section
theorem OU{n x:Nat}(h:x<n):(List.replicate n false).set x true=bsN n (λq=>decide (q=x)):=by
 have h0:List.replicate n false=bsN n (λ_=>false):=by
  apply List.ext_getElem?
  intro i
  by_cases hi:i<n
  ·rw[gW (n:=n) (λ_=>false) hi,List.getElem?_replicate,if_pos hi]
  ·rw[List.getElem?_eq_none (by rw[il];omega),List.getElem?_eq_none (by rw[gV];omega)]
 rw[h0,yG _ h]
 congr 1
theorem OV{n x:Nat}(h:x<n):(List.replicate n false)[x]?=some false:=by
 rw[List.getElem?_replicate,if_pos h]
theorem Bw{E:List Ed}{n:Nat}(hin:InE n E){f g:Nat->Bool}(hf:∀ q,f q=true->q<n)(h:gK E f g):Sup n g:=by
 intro q hq
 have:=h.2.2 (λq=>decide (q<n)) (λe he _ _=>by simpa using(hin e he).2) (λx hx=>by simpa using hf x hx) q hq
 simpa using this
theorem Hx{E:List Ed}{n:Nat}(hin:InE n E)(f:Nat->Bool)(c:Nat):∀ q,a8 E f c q=true->q<n:=by
 intro q hq
 obtain⟨e,he,_,_,_,rfl⟩:=fk.1 hq
 exact(hin e he).2
structure Bx(t:Rx)(g0:Nat->Bool)(gs:List (Nat->Bool)):Prop where
 nd:gs.Nodup
 rch:∀ g∈gs,Rch t g
 hd:gs[0]?=some g0
theorem Bx.le{t:Rx}{g0:Nat->Bool}{gs:List (Nat->Bool)}(h:Bx t g0 gs)(hw:t.wt<=12):gs.length<=2000:=Hv hw gs h.nd h.rch
theorem Bx.push{t:Rx}{g0 g:Nat->Bool}{gs:List (Nat->Bool)}(h:Bx t g0 gs)(hr:Rch t g)(hn:g∉gs):Bx t g0 (gs++[g]) where
 nd:=by
  rw[List.nodup_append]
  refine⟨h.nd,by simp,λa ha b hb=>?_⟩
  simp at hb
  subst hb
  rintro rfl
  exact hn ha
 rch:=λg' hg'=>by
  rcases au.1 hg' with h1|h1
  ·exact h.rch g' h1
  ·simp at h1;subst h1;exact hr
 hd:=by
  have:=h.hd
  rw[List.getElem?_append_left (List.getElem?_eq_some_iff.1 this).1]
  exact this
def PS(l:List Int):Prop:=l.length<=256/\∀ v∈l,∃ c:Nat,c<256/\v=(c:Int)
abbrev DfI:=List Int×(List (List Int)×List Int)
def DQ(t:Rx)(z:Option ((DfI×(Int×Unit))×Unit)):Prop:=∃ d:DfI,z=some ((d,((0:Int),())),())/\d.2.2[0]?=some (if t.null=true then 0 else -1)
theorem RR{t:Rx}(hok:t.ok)(hlen:t.len<=400)(hw:t.wt<=12):
 DQ t (p63 N0 (nfT t,(mkL (2*t.len) (t.lst 0),()))):=by
 have hin:=xf t
 have hE:=iK t 0
 have hS:=RK t hok 0
 have Ye:=t.kI 0
 have Yf:=t.pv 0
 have hn:2*t.len<=100000:=by omega
 delta p63 Ld Ap Bd Wi
 simp only
 rw[ae (Bo hlen)]
 simp only
 rw[aA,cond_false,show nfT t=(((2*t.len:Nat):Int),((t.az 0).map edI,(((t.fst 0:Nat):Int),((t.lst 0:Nat):Int))))from rfl]
 rw[ae (Oz (by omega) _)]
 simp only
 obtain⟨arr,XN,hao⟩:=OH (dx:=gX (t.az 0)) (by have:=xg (t.az 0);omega) (λS hS'=>by
  unfold gX at hS'
  obtain⟨e,he,rfl⟩:=fM.1 hS'
  exact hS e (fh.1 he).1)
 rw[ae XN]
 simp only
 generalize hNf:(((2*t.len:Nat):Int),((t.az 0).map edI,(((t.fst 0:Nat):Int),((t.lst 0:Nat):Int))))=N
 have hN1:N.1=((2*t.len:Nat):Int):=by rw[<-hNf]
 have hN2:N.2.2.1=((t.fst 0:Nat):Int):=by rw[<-hNf]
 generalize hZ:(List.replicate 256 (0:Int),(([]:List (List Int)),([]:List Int)))=Z
 generalize hnn:2*t.len=n at *
 generalize hll:t.lst 0=last at *
 -- the bytes Yg X5 for Vk
 refine dZ (λm x=>∃ (c:Nat) (jx:List Int),x=((Z,((N,(mkL n last,(jx,(([]:KM),(([]:List (List Bool)),(arr,(([]:List (List Int)),([]:List Int)))))))),())),((c:Int),()))/\m+c=256/\jx.length<=c/\PS jx) (DQ t) ?_ N0 256 _ (by unfold N0;omega) ⟨0,[],rfl,rfl,by simp,by simp[PS]⟩
 rintro m x ⟨c,jx,rfl,hm,hrl,hro⟩ k hk
 simp only
 rcases ak c 256 with hc|hc
 ·have n0:(0:Int)<=(c:Int):=by omega
  obtain⟨v,hv⟩:∃ v,arr[c]?=some v:=⟨arr[c]'(by rw[hao.1];exact hc),List.getElem?_eq_getElem _⟩
  rw[decide_eq_true (show(c:Int)<256 by omega),cond_true,if_pos n0,aa,hv]
  simp only
  refine qm (P:=DQ t) λK hK=>?_
  cases hd:decide (IntKind.wrap .i64 v=((jx.length:Nat):Int))
  ·rw[cond_false,hK]
   simp only
   rw[dh (by omega)]
   exact hk (m-1) _ (by omega) ⟨c+1,jx,rfl,by omega,by omega,hro⟩
  ·rw[cond_true,if_pos (by simp;omega),if_pos (by simp;omega),hK]
   simp only
   rw[dh (by omega),j4 hc]
   refine hk (m-1) _ (by omega) ⟨c+1,jx++[(c:Int)],rfl,by omega,by simp;omega,by simp;omega,λv' hv'=>?_⟩
   rcases au.1 hv' with h1|h1
   ·exact hro.2 v' h1
   ·simp at h1;exact⟨c,hc,h1⟩
 ·rw[decide_eq_false (show ¬(c:Int)<256 by omega),cond_false]
  rw[if_pos ⟨by omega,by omega⟩,if_pos (by rw[aa];omega),if_pos (by omega),aa,aa,OV (show t.fst 0<n by omega)]
  simp only
  rw[if_pos (by omega)]
  have hbs:=OU (n:=n) (x:=t.fst 0) (by omega)
  rw[hbs]
  obtain⟨g0,hg0,hc0⟩:=EA (n:=n) hn (E:=t.az 0) (by omega) hin (((t.fst 0:Nat):Int),((last:Nat):Int)) (λq=>decide (q=t.fst 0))
  rw[hNf]at hg0
  rw[ae hg0]
  simp only
  have hs0:Sup n g0:=Bw hin (λq hq=>by rw[decide_eq_true_eq]at hq;omega) hc0
  have hb0:BOk N n last jx arr (N,(mkL n last,(jx,(([]:KM),(([]:List (List Bool)),(arr,(([]:List (List Int)),([]:List Int)))))))) []:=
   ⟨rfl,rfl,rfl,λk=>⟨λh=>(by cases h),λ⟨g,h,_⟩=>(by simp at h)⟩,rfl,rfl,rfl,λg h=>(by simp at h)⟩
  obtain⟨r,b1,gs1,e1,ob1,nx1,XO⟩:=EL hn (by omega) hb0 (by simp) hs0
  rw[ae e1]
  simp only
  have XP:Bx t g0 gs1:=by
   rcases XO with⟨_,h|h⟩|⟨rfl,_⟩
   ·have:=hc0.1 (t.fst 0) (by simp)
    rw[h]at this;cases this
   ·simp at h
   ·exact⟨by simp,λg hg=>by simp at hg;subst hg;exact .ini hc0,rfl⟩
  refine dZ (λm x=>∃ (i:Nat) (b:BI) (gs:List (Nat->Bool)),x=((Z,(b,())),((i:Int),()))/\BOk N n last jx arr b gs/\Bx t g0 gs/\m+i=2000/\i<=gs.length/\b.2.2.2.2.2.2.1.length=i) (DQ t) ?_ N0 2000 _ (by unfold N0;omega) ⟨0,b1,gs1,rfl,ob1,XP,rfl,aC _,by rw[nx1];rfl⟩
  rintro m x ⟨i,b,gs,rfl,ob,og,hm,hi,hnx⟩ k hk
  have hle:=og.le hw
  have hsl:b.2.2.2.2.1.length=gs.length:=by rw[ob.dx,bJ]
  simp only[hsl]
  rcases ak i gs.length with hil|hil
  ·rw[decide_eq_true (show(i:Int)<((gs.length:Nat):Int) by omega),cond_true,decide_eq_false (show ¬(2000:Int)<((gs.length:Nat):Int) by omega),cond_false]
   refine dZ (λm x=>∃ (j:Nat) (b':BI) (gs':List (Nat->Bool)) (row:List Int),x=((Z,(b',())),(row,((j:Int),())))/\BOk N n last jx arr b' gs'/\Bx t g0 gs'/\m+j=jx.length/\i<gs'.length/\b'.2.2.2.2.2.2.1.length=i/\row.length=j) (DQ t) ?_ N0 jx.length _ (by have:=hro.1;unfold N0;omega) ⟨0,b,gs,[],rfl,ob,og,rfl,hil,hnx,rfl⟩
   rintro m' x ⟨j,b',gs',row,rfl,ob',og',hm',RS,XQ,fB⟩ k' hk'
   simp only[ob.rp]
   have Yh:=og'.le hw
   rcases ak j jx.length with hj|hj
   ·obtain⟨cc,hcc,hcv⟩:=hro.2 _ (ba hj)
    have hgj:jx[j]?=some (cc:Int):=by rw[List.getElem?_eq_getElem hj,hcv]
    have hgi:gs'[i]?=some gs'[i]:=List.getElem?_eq_getElem RS
    have hmi:gs'[i]∈gs':=ba RS
    have dv:b'.2.2.2.2.1[i]?=some (bsN n gs'[i]):=by rw[ob'.dx,List.getElem?_map,hgi];rfl
    generalize gs'[i]=gi at hmi dv
    have DF:=hro.1
    rw[decide_eq_true (show(j:Int)<((jx.length:Nat):Int) by omega),cond_true,if_pos (by omega),aa,hgj]
    simp only
    rw[if_pos (by omega),aa,dv]
    simp only
    have h168:=OC (n:=n) hn (E:=t.az 0) (by omega) hin hS (((t.fst 0:Nat):Int),((last:Nat):Int)) gi hcc
    rw[hNf]at h168
    rw[ae h168]
    simp only
    obtain⟨g2,hg2,hc2⟩:=EA (n:=n) hn (E:=t.az 0) (by omega) hin (((t.fst 0:Nat):Int),((last:Nat):Int)) (a8 (t.az 0) gi cc)
    rw[hNf]at hg2
    rw[ae hg2]
    simp only
    have hs2:Sup n g2:=Bw hin (Hx hin gi cc) hc2
    obtain⟨r2,b2,gs2,e2,ob2,nx2,UL⟩:=EL hn (by omega) ob' (by omega) hs2
    rw[ae e2]
    simp only
    rw[if_pos (by simp;omega),if_pos (by simp;omega),dh (by omega)]
    refine hk' (m' - 1) _ (by omega) ⟨j+1,b2,gs2,row++[r2],rfl,ob2,?_,by omega,?_,by rw[nx2];exact XQ,by simp;omega⟩
    ·rcases UL with⟨rfl,_⟩|⟨rfl,hnm⟩
     ·exact og'
     ·exact og'.push (.step hcc (og'.rch gi hmi) hc2) hnm
    ·rcases UL with⟨rfl,_⟩|⟨rfl,_⟩
     ·exact RS
     ·simp;omega
   ·rw[decide_eq_false (show ¬(j:Int)<((jx.length:Nat):Int) by omega),cond_false]
    rw[if_pos (by simp;omega),if_pos (by simp;omega),dh (by omega)]
    exact hk (m-1) _ (by omega) ⟨i+1,_,gs',rfl,⟨ob'.nf,ob'.mks,ob'.rp,ob'.key,ob'.dx,ob'.cl,ob'.mark,ob'.sup⟩,og',by omega,by omega,by simp;omega⟩
  ·rw[decide_eq_false (show ¬(i:Int)<((gs.length:Nat):Int) by omega),cond_false]
   refine⟨_,rfl,?_⟩
   show b.2.2.2.2.2.2.2[0]?=_
   rw[ob.mark,List.getElem?_map,og.hd]
   have hmn:=Ht t hc0
   rw[hll]at hmn
   have hln:last<n:=by omega
   simp only[cT,gY,hmn]
   simp[hln]
end
noncomputable section
def cls(c:Nat):Int:=if c=32\/c=9\/c=10\/c=13 then 1 else if 48<=c/\c<=57 then 2 else if(97<=c/\c<=122)\/(65<=c/\c<=90)\/c=95 then 3 else if 32<c/\c<127 then 4 else 0
theorem KJ:∀ c:Fin 256,Ha N0 (((c.val:Nat):Int),())=some ((cls c.val,()),()):=by decide +kernel
theorem KK:∀ c:Fin 256,NP N0 (((c.val:Nat):Int),())=some ((cls c.val,()),()):=by decide +kernel
theorem EM{c:Int}(h:0<=c/\c<=255):Ha N0 (c,())=some ((cls c.toNat,()),()):=by
 have:=KJ ⟨c.toNat,by omega⟩
 simp only[dl h.1]at this
 exact this
theorem OW{c:Int}(h:0<=c/\c<=255):NP N0 (c,())=some ((cls c.toNat,()),()):=by
 have:=KK ⟨c.toNat,by omega⟩
 simp only[dl h.1]at this
 exact this
def Hy(k:Nat)(c:Int):Prop:=cls c.toNat=3\/(cls c.toNat=2/\k≠0)
def KL(s:List Int):Prop:=1<=s.length/\s.length<=40/\∀ k c,s[k]?=some c->Hy k c
def hJ(s:List Int):Bool:=@decide (KL s) (Classical.propDecidable _)
theorem EN{s:List Int}(h:KL s):hJ s=true:=@decide_eq_true _ (Classical.propDecidable _) h
theorem mn{s:List Int}(h:¬KL s):hJ s=false:=@decide_eq_false _ (Classical.propDecidable _) h
theorem yL{s:List Int}(hb:Bytes s)(hs:s.length<=maxLen):Hd N0 (s,())=some ((hJ s,()),()):=by
 delta Hd Ld Bd Wi
 simp only
 refine aZ (λm x r=>∃ j:Nat,x=((),((j:Int),()))/\m+j=s.length/\(∀ k c,k<j->s[k]?=some c->Hy k c)/\r=some ((hJ s,()),())) ?_ N0 s.length _ _ (by have:=ic hs;omega) ⟨0,rfl,rfl,λk c h=>by omega,rfl⟩
 rintro m x r ⟨j,rfl,hm,fu,rfl⟩ k hk
 simp only
 rcases ak j s.length with hj|hj
 ·have n0:(0:Int)<=(j:Int):=by omega
  have hg:s[j]?=some s[j]:=List.getElem?_eq_getElem hj
  generalize s[j]=c at hg
  rw[decide_eq_true (show(j:Int)<((s.length:Nat):Int) by omega),cond_true,if_pos n0,aa,hg]
  simp only
  rw[ae (OW (hb.get hg))]
  simp only
  by_cases hok:Hy j c
  ·refine aY ((),(false,())) (λK=>?_) ?_
   ·rcases hok with h|⟨h,h0⟩
    ·rw[h];rfl
    ·rw[h,show(!decide ((2:Int)=3))=true from rfl,cond_true,show(!decide ((2:Int)=2))=false from rfl,cond_false,decide_eq_false (show ¬(j:Int)=0 by omega)]
   ·simp only
    rw[cond_false,bc hj hs]
    refine hk (m-1) _ _ (by omega) ⟨j+1,rfl,by omega,λk c' hk' hc'=>?_,rfl⟩
    by_cases e:k=j
    ·subst e
     rw[hg]at hc'
     injection hc' with hc'
     subst hc'
     exact hok
    ·exact fu k c' (by omega) hc'
  ·refine aY ((),(true,())) (λK=>?_) ?_
   ·unfold Hy at hok
    have h3:¬cls c.toNat=3:=λh=>hok (.inl h)
    rw[decide_eq_false h3,aI,cond_true]
    by_cases h2:cls c.toNat=2
    ·have h0:j=0:=by
      rcases du j with h|h
      ·exact h
      ·exact absurd (.inr ⟨h2,by omega⟩) hok
     rw[decide_eq_true h2,aA,cond_false,decide_eq_true (show(j:Int)=0 by omega)]
    ·rw[decide_eq_false h2,aI,cond_true]
   ·simp only
    rw[cond_true,mn λh=>hok (h.2.2 j c hg)]
 ·rw[decide_eq_false (show ¬(j:Int)<((s.length:Nat):Int) by omega),cond_false]
  refine aY ((),(hJ s,())) (λK=>?_) rfl
  have UM:∀ k c,s[k]?=some c->Hy k c:=λk c hc=>fu k c (bA (List.getElem?_eq_some_iff.1 hc).1 hj) hc
  by_cases h1:1<=s.length
  ·rw[decide_eq_true (show(1:Int)<=((s.length:Nat):Int) by omega),cond_true]
   by_cases h2:s.length<=40
   ·rw[decide_eq_true (show((s.length:Nat):Int)<=40 by omega),EN ⟨h1,h2,UM⟩]
   ·rw[decide_eq_false (show ¬((s.length:Nat):Int)<=40 by omega),mn λh=>h2 h.2.1]
  ·rw[decide_eq_false (show ¬(1:Int)<=((s.length:Nat):Int) by omega),cond_false,mn λh=>h1 h.1]
end
noncomputable section
theorem yM{s:List Int}(hb:Bytes s)(hs:s.length<=maxLen):Hb N0 (s,())=some ((hJ s,()),()):=by
 delta Hb Ld Bd Wi
 simp only
 by_cases h40:40<s.length
 ·refine aY ((),(true,())) (λK=>?_) ?_
  ·rw[decide_eq_true (show(40:Int)<((s.length:Nat):Int) by omega),cond_true]
  ·simp only
   rw[cond_true,mn λh=>by have:=h.2.1;omega]
 cases s with
 |nil=>
  refine aY ((),(true,())) (λK=>?_) ?_
  ·rfl
  ·simp only
   rw[cond_true,mn λh=>by have:=h.1;simp at this]
 |cons c r=>
  have hc:=hb c (by simp)
  have n0:(0:Int)<=0:=by omega
  have xP:∀ K:Unit×(Bool×Unit)->Option ((Bool×Unit)×Unit),(bif decide ((40:Int)<(((c::r:List Int).length:Nat):Int))then K ((),(true,()))else(bif decide ((c::r:List Int)=[])then K ((),(true,()))else(if(0:Int)<=0 then(match(c::r:List Int)[((0:Int)).toNat]? with|some v11=>(ah (Ha N0 (v11,())) λv12=>K ((),((!decide (v12.1.1=3)),())))|none=>none)else none)))=K ((),((!decide (cls c.toNat=3)),())):=by
   intro K
   rw[decide_eq_false (show ¬(40:Int)<(((c::r:List Int).length:Nat):Int) by omega),cond_false,show decide ((c::r:List Int)=[])=false from rfl,cond_false,if_pos n0,Bk]
   simp only
   rw[ae (EM hc)]
  refine aY ((),((!decide (cls c.toNat=3)),())) (λK=>xP K) ?_
  simp only
  by_cases h3:cls c.toNat=3
  ·rw[decide_eq_true h3,aA,cond_false]
   refine aZ (λm x q=>∃ j:Nat,x=((),((j:Int),()))/\m+j=(c::r).length/\(∀ k d,k<j->(c::r)[k]?=some d->Hy k d)/\q=some ((hJ (c::r),()),())) ?_ N0 (c::r).length _ _ (by have:=ic hs;omega) ⟨0,rfl,rfl,λk d h=>by omega,rfl⟩
   rintro m x q ⟨j,rfl,hm,fu,rfl⟩ k hk
   simp only
   rcases ak j (c::r).length with hj|hj
   ·have n1:(0:Int)<=(j:Int):=by omega
    have hg:(c::r)[j]?=some (c::r)[j]:=List.getElem?_eq_getElem hj
    generalize (c::r)[j]=d at hg
    rw[decide_eq_true (show(j:Int)<(((c::r:List Int).length:Nat):Int) by omega),cond_true,if_pos n1,aa,hg]
    simp only
    rw[ae (EM (hb.get hg))]
    simp only
    by_cases hok:cls d.toNat=2\/cls d.toNat=3
    ·refine aY ((),(false,())) (λK=>?_) ?_
     ·rcases hok with h|h <;> rw[h] <;> rfl
     ·simp only
      rw[cond_false,bc hj hs]
      refine hk (m-1) _ _ (by omega) ⟨j+1,rfl,by omega,λk d' hk' hd'=>?_,rfl⟩
      by_cases e:k=j
      ·subst e
       rw[hg]at hd'
       injection hd' with hd'
       subst hd'
       rcases hok with h|h
       ·right
        refine⟨h,λhk0=>?_⟩
        subst hk0
        have:c=d:=by simpa using hg
        rw[<-this,h3]at h
        cases h
       ·exact .inl h
      ·exact fu k d' (by omega) hd'
    ·have h2:¬cls d.toNat=2:=λh=>hok (.inl h)
     have h3':¬cls d.toNat=3:=λh=>hok (.inr h)
     refine aY ((),(true,())) (λK=>?_) ?_
     ·rw[decide_eq_false h2,aI,cond_true,decide_eq_false h3',aI]
     ·simp only
      rw[cond_true,mn λh=>by
       rcases h.2.2 j d hg with h|h
       ·exact h3' h
       ·exact h2 h.1]
   ·rw[decide_eq_false (show ¬(j:Int)<(((c::r:List Int).length:Nat):Int) by omega),cond_false]
    rw[EN ⟨by simp,by omega,λk d hd=>fu k d (bA (List.getElem?_eq_some_iff.1 hd).1 hj) hd⟩]
  ·rw[decide_eq_false h3,aI,cond_true,mn λh=>by
    rcases h.2.2 0 c rfl with h|h
    ·exact h3 h
    ·exact h.2 rfl]
end
noncomputable section
abbrev RuI:=List Int×(Int×List Int)
def KN(r:RuI):Prop:=Bytes r.1/\r.1.length<=maxLen/\Bytes r.2.2/\r.2.2.length<=maxLen
def EO(s:List Int):Int:=match gb s with
 |.error e=>e
 |.ok t=>if t.null=true then 14 else 0
def Hz(rs:List RuI)(i:Nat)(nm:List Int):Prop:=∃ j r,j<i/\rs[j]?=some r/\r.1=nm
noncomputable instance (rs:List RuI) (i:Nat) (nm:List Int):Decidable (Hz rs i nm):=Classical.propDecidable _
def sU(rs:List RuI)(i:Nat)(r:RuI):Int:=
 if hJ r.1=false then 8 else if Hz rs i r.1 then 9 else if r.2.1<0\/2<r.2.1 then 1 else EO r.2.2
theorem OX{rs:List RuI}(hs:rs.length<=maxLen){i:Nat}{r:RuI}(hr:rs[i]?=some r)(hok:KN r):NQ N0 (rs,((i:Int),()))=some ((sU rs i r,()),()):=by
 obtain⟨h1,h2,h3,h4⟩:=hok
 have hi:i<rs.length:=(List.getElem?_eq_some_iff.1 hr).1
 have n0:(0:Int)<=(i:Int):=by omega
 delta NQ Ld Bd Wi
 simp only
 rw[if_pos n0,aa,hr]
 simp only
 rw[ae (yL h1 h2)]
 simp only
 unfold sU
 cases hn:hJ r.1
 ·rw[aI,cond_true,if_pos rfl]
 rw[aA,cond_false,if_neg (by simp)]
 refine aZ (λm x q=>∃ j:Nat,x=((),((j:Int),()))/\m+j=i/\(∀ k r',k<j->rs[k]?=some r'->¬r'.1=r.1)/\q=some ((if Hz rs i r.1 then 9 else if r.2.1<0\/2<r.2.1 then 1 else EO r.2.2,()),())) ?_ N0 i _ _ (by unfold N0;unfold maxLen at hs;omega) ⟨0,rfl,rfl,λk r' h=>by omega,rfl⟩
 rintro m x q ⟨j,rfl,hm,fu,rfl⟩ k hk
 simp only
 rcases ak j i with hj|hj
 ·have n1:(0:Int)<=(j:Int):=by omega
  have hg:rs[j]?=some (rs[j]'(by omega)):=List.getElem?_eq_getElem _
  generalize rs[j]'(by omega)=r' at hg
  rw[decide_eq_true (show(j:Int)<(i:Int) by omega),cond_true,if_pos n1,aa,hg]
  simp only
  by_cases e:r'.1=r.1
  ·rw[decide_eq_true e,cond_true,if_pos ⟨j,r',hj,hg,e⟩]
  ·rw[decide_eq_false e,cond_false,bc (show j<rs.length by omega) hs]
   refine hk (m-1) _ _ (by omega) ⟨j+1,rfl,by omega,λk' r2 hk' hr2=>?_,rfl⟩
   by_cases e2:k'=j
   ·subst e2
    rw[hg]at hr2
    injection hr2 with hr2
    subst hr2
    exact e
   ·exact fu k' r2 (by omega) hr2
 ·rw[decide_eq_false (show ¬(j:Int)<(i:Int) by omega),cond_false]
  have hnd:¬Hz rs i r.1:=by
   rintro⟨k',r2,hk',hr2,e⟩
   exact fu k' r2 (by omega) hr2 e
  rw[if_neg hnd]
  refine aY ((),(decide (r.2.1<0\/2<r.2.1),())) (λK=>?_) ?_
  ·by_cases q1:r.2.1<0
   ·rw[decide_eq_true q1,cond_true,decide_eq_true (.inl q1)]
   ·rw[decide_eq_false q1,cond_false]
    have:decide (r.2.1<0\/2<r.2.1)=decide (2<r.2.1):=by rw[decide_eq_decide];exact⟨λh=>h.resolve_left q1,.inr⟩
    rw[this]
  ·simp only
   by_cases hk2:r.2.1<0\/2<r.2.1
   ·rw[if_pos hk2,decide_eq_true hk2,cond_true]
   ·rw[if_neg hk2,decide_eq_false hk2,cond_false,ae (Oq h3)]
    unfold EO
    cases hp:gb r.2.2 with
    |error e=>
     rcases pA hp with rfl|rfl <;> rfl
    |ok t=>
     obtain⟨q1,q2,q3⟩:=rX h3 hp
     simp only[Kc]
     rw[decide_true,aA,cond_false,ae (Ou q1 (by omega))]
     simp only
     cases t.null <;> rfl
end
noncomputable section
def chk(rs:List RuI):Nat->List RuI->Nat×Int
 |i,[]=>(i,0)
 |i,r::rest=>if sU rs i r=0 then chk rs (i+1) rest else(i,sU rs i r)
def lJ(rs:List RuI):Nat×Int:=if 60<rs.length then(rs.length,6)else chk rs 0 rs
theorem RT{rs:List RuI}(hs:rs.length<=maxLen)(hok:∀ r∈rs,KN r):p58 N0 (rs,())=some ((((lJ rs).1:Int),((lJ rs).2,())),()):=by
 delta p58 Bd Wi;unfold lJ
 simp only
 by_cases h60:60<rs.length
 ·rw[if_pos h60,decide_eq_true (show(60:Int)<((rs.length:Nat):Int) by omega),cond_true]
 rw[if_neg h60,decide_eq_false (show ¬(60:Int)<((rs.length:Nat):Int) by omega),cond_false]
 refine aZ (λm x q=>∃ j:Nat,x=((),((j:Int),()))/\m+j=rs.length/\chk rs j (rs.drop j)=chk rs 0 rs/\q=some ((((chk rs 0 rs).1:Int),((chk rs 0 rs).2,())),())) ?_ N0 rs.length _ _ (by have:=ic hs;omega) ⟨0,rfl,rfl,by rw[cU],rfl⟩
 rintro m x q ⟨j,rfl,hm,hch,rfl⟩ k hk
 simp only
 rcases ak j rs.length with hj|hj
 ·have hg:rs[j]?=some rs[j]:=List.getElem?_eq_getElem hj
  have iZ:=hok _ (ba hj)
  rw[cL hj]at hch
  generalize rs[j]=r at hg iZ hch
  rw[decide_eq_true (show(j:Int)<((rs.length:Nat):Int) by omega),cond_true,ae (OX hs hg iZ)]
  simp only
  simp only[chk]at hch
  by_cases he:sU rs j r=0
  ·rw[if_pos he]at hch
   rw[decide_eq_true he,aA,cond_false,bc hj hs]
   exact hk (m-1) _ _ (by omega) ⟨j+1,rfl,by omega,hch,rfl⟩
  ·rw[if_neg he]at hch
   rw[decide_eq_false he,aI,cond_true,<-hch]
 ·have:j=rs.length:=by omega
  subst this
  rw[decide_eq_false (show ¬((rs.length:Nat):Int)<((rs.length:Nat):Int) by omega),cond_false]
  rw[ff]at hch
  rw[<-hch]
  rfl
end
noncomputable section
theorem HA{s:List Int}(hb:Bytes s)(h12:s.length<=12){t:Rx}(h:gb s=.ok t):∃ d,p68 N0 (s,())=some ((d,((0:Int),())),())/\d.2.2[0]?=some (if t.null=true then 0 else -1):=by
 obtain⟨h1,h2,h3⟩:=rX hb h
 have hw:=Hu hb h
 obtain⟨d,hd,hm⟩:=RR h1 h2 (by omega)
 exact⟨d,RQ hb (by unfold maxLen;omega) h (OT h2 hd),hm⟩
theorem KO(k k':List Int)(v:Int):∀ x:KM,cY eqK k (eW eqK k' v x)=if k=k' then v else cY eqK k x:=by
 intro x
 induction x with
 |nil=>
  simp only[eW,cY,eqK]
  by_cases e:k=k' <;> simp[e]
 |cons p r ih=>
  simp only[eW]
  by_cases e:k'=p.1
  ·have:eqK k' p.1=true:=decide_eq_true e
   rw[this,cond_true]
   simp only[cY]
   rw[<-e]
   by_cases e2:k=k'
   ·rw[show eqK k k'=true from decide_eq_true e2,if_pos e2];rfl
   ·rw[show eqK k k'=false from decide_eq_false e2,if_neg e2];rfl
  ·have:eqK k' p.1=false:=decide_eq_false e
   rw[this,cond_false]
   simp only[cY]
   by_cases e2:k=p.1
   ·rw[show eqK k p.1=true from decide_eq_true e2,cond_true,cond_true]
    rw[if_neg]
    rintro rfl
    exact e e2
   ·rw[show eqK k p.1=false from decide_eq_false e2,cond_false,cond_false,ih]
def vd(rs:List RuI)(i:Nat)(m:KM):Prop:=∀ k,(0<cY eqK k m↔Hz rs i k)/\0<=cY eqK k m/\cY eqK k m<=(i:Int)
theorem vd.next{rs:List RuI}{i:Nat}{m:KM}(h:vd rs i m){r:RuI}(hr:rs[i]?=some r):vd rs (i+1) (eW eqK r.1 (cY eqK r.1 m+1) m):=by
 intro k
 rw[KO]
 obtain⟨h1,h2,h3⟩:=h k
 by_cases e:k=r.1
 ·subst e
  rw[if_pos rfl]
  refine⟨⟨λ_=>⟨i,r,by omega,hr,rfl⟩,λ_=>by omega⟩,by omega,by omega⟩
 ·rw[if_neg e,h1]
  refine⟨⟨λ⟨j,r',a1,a2,a3⟩=>⟨j,r',by omega,a2,a3⟩,λ⟨j,r',a1,a2,a3⟩=>?_⟩,by omega,by omega⟩
  by_cases e2:j=i
  ·subst e2
   rw[hr]at a2
   injection a2 with a2
   subst a2
   exact absurd a3.symm e
  ·exact⟨j,r',by omega,a2,a3⟩
theorem OY{rs:List RuI}{i:Nat}{r:RuI}(hr:rs[i]?=some r)(hok:KN r)(h12:r.2.2.length<=12){m:KM}(hm:vd rs i m):NK N0 (r,(m,()))=some ((sU rs i r,()),()):=by
 obtain⟨h1,h2,h3,h4⟩:=hok
 delta NK Bd
 simp only
 rw[ae (yM h1 h2)]
 simp only
 unfold sU
 cases hn:hJ r.1
 ·rw[aI,cond_true,if_pos rfl]
 rw[aA,cond_false,if_neg (by simp)]
 show(bif decide ((0:Int)<cY eqK r.1 m)then _ else _)=_
 by_cases hd:Hz rs i r.1
 ·rw[decide_eq_true ((hm r.1).1.2 hd),cond_true,if_pos hd]
 rw[decide_eq_false (λh=>hd ((hm r.1).1.1 h)),cond_false,if_neg hd]
 refine aY ((),(decide (r.2.1<0\/2<r.2.1),())) (λK=>?_) ?_
 ·by_cases q1:r.2.1<0
  ·rw[decide_eq_true q1,cond_true,decide_eq_true (.inl q1)]
  ·rw[decide_eq_false q1,cond_false]
   have:decide (r.2.1<0\/2<r.2.1)=decide (2<r.2.1):=by rw[decide_eq_decide];exact⟨λh=>h.resolve_left q1,.inr⟩
   rw[this]
 ·simp only
  by_cases hk2:r.2.1<0\/2<r.2.1
  ·rw[if_pos hk2,decide_eq_true hk2,cond_true]
  ·rw[if_neg hk2,decide_eq_false hk2,cond_false]
   unfold EO
   cases hp:gb r.2.2 with
   |error e=>
    rw[ae (OR h3 h4 hp)]
    rcases pA hp with rfl|rfl <;> rfl
   |ok t=>
    obtain⟨d,hd2,hd3⟩:=HA h3 h12 hp
    rw[ae hd2]
    simp only
    rw[decide_true,aA,cond_false,ae (KE hd3)]
    simp only
    cases t.null <;> rfl
theorem RU{rs:List RuI}(hs:rs.length<=maxLen)(hok:∀ r∈rs,KN r)(h12:∀ r∈rs,r.2.2.length<=12):p59 N0 (rs,())=some ((((lJ rs).1:Int),((lJ rs).2,())),()):=by
 delta p59 Ld Bd Wi;unfold lJ
 simp only
 by_cases h60:60<rs.length
 ·rw[if_pos h60,decide_eq_true (show(60:Int)<((rs.length:Nat):Int) by omega),cond_true]
 rw[if_neg h60,decide_eq_false (show ¬(60:Int)<((rs.length:Nat):Int) by omega),cond_false]
 refine aZ (λm x q=>∃ (j:Nat) (mp:KM),x=((mp,()),((j:Int),()))/\m+j=rs.length/\vd rs j mp/\chk rs j (rs.drop j)=chk rs 0 rs/\q=some ((((chk rs 0 rs).1:Int),((chk rs 0 rs).2,())),())) ?_ N0 rs.length _ _ (by have:=ic hs;omega) ⟨0,[],rfl,rfl,λk=>⟨⟨λh=>absurd h (by simp[cY]),λ⟨j,_,h,_⟩=>by omega⟩,by simp[cY],by simp[cY]⟩,by rw[cU],rfl⟩
 rintro m x q ⟨j,mp,rfl,hm,hsn,hch,rfl⟩ k hk
 simp only
 rcases ak j rs.length with hj|hj
 ·have hg:rs[j]?=some rs[j]:=List.getElem?_eq_getElem hj
  have iZ:=hok _ (ba hj)
  have PT:=h12 _ (ba hj)
  rw[cL hj]at hch
  generalize rs[j]=r at hg iZ PT hch
  have n0:(0:Int)<=(j:Int):=by omega
  rw[decide_eq_true (show(j:Int)<((rs.length:Nat):Int) by omega),cond_true,if_pos n0,aa,hg]
  simp only
  rw[ae (OY hg iZ PT hsn)]
  simp only
  simp only[chk]at hch
  by_cases he:sU rs j r=0
  ·rw[if_pos he]at hch
   rw[decide_eq_true he,aA,cond_false,bc hj hs]
   show k (((eW eqK r.1 (IntKind.wrap .i64 (cY eqK r.1 mp+1)) mp),()),_)=_
   have e1:IntKind.wrap .i64 (cY eqK r.1 mp+1)=cY eqK r.1 mp+1:=by
    obtain⟨_,q1,q2⟩:=hsn r.1
    obtain⟨u,hu⟩:∃ u:Nat,cY eqK r.1 mp=(u:Int):=⟨_,(dl q1).symm⟩
    rw[hu]at q2 |-
    rw[dh (by omega)]
    rfl
   rw[e1]
   exact hk (m-1) _ _ (by omega) ⟨j+1,_,rfl,by omega,hsn.next hg,hch,rfl⟩
  ·rw[if_neg he]at hch
   rw[decide_eq_false he,aI,cond_true,<-hch]
 ·have:j=rs.length:=by omega
  subst this
  rw[decide_eq_false (show ¬((rs.length:Nat):Int)<((rs.length:Nat):Int) by omega),cond_false]
  rw[ff]at hch
  rw[<-hch]
  rfl
end
noncomputable section
abbrev OZ:=Bool×Int
abbrev PrI:=Int×(List Int×(List OZ×(Bool×(Int×List Int))))
abbrev LvI:=Int×List Int
abbrev GrI:=List RuI×(List (List Int)×(List PrI×(List LvI×Int)))
structure tk(g:GrI):Prop where
 r0:g.1.length<=100000
 r1:∀ r∈g.1,KN r
 s0:g.2.1.length<=100000
 s1:∀ s∈g.2.1,Bytes s/\s.length<=maxLen
 p0:g.2.2.1.length<=100000
 p1:∀ p∈g.2.2.1,Bytes p.2.1/\p.2.1.length<=maxLen
 p2:∀ p∈g.2.2.1,p.2.2.1.length<=100000
 p3:∀ p∈g.2.2.1,p.2.2.2.2.2.length<=100000
 l0:g.2.2.2.1.length<=100000
 l1:∀ l∈g.2.2.2.1,l.2.length<=100000
theorem le_max{n:Nat}(h:n<=100000):n<=maxLen:=by unfold maxLen;omega
theorem ie{n:Nat}(h:n<=100000):n<N0:=by unfold N0;omega
theorem EP{α A R:Type}{body:A->(A->Option R)->Option R}(l:List α)(f:Nat->A)(bad:α->Bool)(found:Nat->Option R)(after:Option R)
 (step:∀ j,(h:j<l.length)->∀ k,body (f j) k=if bad l[j]=true then found j else k (f (j+1))) (fin:∀ k,body (f l.length) k=after) (n:Nat) (hn:l.length<n):
 aD body n (f 0)=match l.findIdx? bad with|some j=>found j|none=>after:=by
 have:=bE (body:=body) f (λj=>match(l.drop j).findIdx? bad with|some i=>found (j+i)|none=>after) l.length (λj hj k hk=>by
  rcases ak j l.length with hi|hi
  ·rw[step j hi,cL hi,List.findIdx?_cons]
   cases hb:bad l[j]
   ·simp only[ap,if_false]
    rw[hk hi]
    cases(l.drop (j+1)).findIdx? bad with
    |none=>rfl
    |some i=>simp only[cT];congr 1;omega
   ·simp
  ·have e:j=l.length:=by omega
   rw[e,fin];simp) n 0 (aC _) (by omega)
 rw[this,cU]
 cases l.findIdx? bad with
 |none=>rfl
 |some i=>simp
def cJ{α:Type}(E:Nat->α->Int):Nat->List α->Option (Int×Nat)
 |_,[]=>none
 |i,a::r=>if E i a=0 then cJ E (i+1) r else some (E i a,i)
theorem sb{α A R:Type}{body:A->(A->Option R)->Option R}(l:List α)(f:Nat->A)(E:Nat->α->Int)(found:Int->Nat->Option R)(after:Option R)
 (step:∀ j,(h:j<l.length)->∀ k,body (f j) k=if E j l[j]=0 then k (f (j+1))else found (E j l[j]) j) (fin:∀ k,body (f l.length) k=after) (n:Nat) (hn:l.length<n):
 aD body n (f 0)=match cJ E 0 l with|some p=>found p.1 p.2|none=>after:=by
 have:=bE (body:=body) f (λj=>match cJ E j (l.drop j)with|some p=>found p.1 p.2|none=>after) l.length (λj hj k hk=>by
  rcases ak j l.length with hi|hi
  ·rw[step j hi,cL hi]
   simp only[cJ]
   by_cases hb:E j l[j]=0
   ·rw[if_pos hb,if_pos hb,hk hi]
   ·rw[if_neg hb,if_neg hb]
  ·have e:j=l.length:=by omega
   rw[e,fin];simp[cJ]) n 0 (aC _) (by omega)
 rw[this,cU]
theorem xl{α:Type}(l:List α)(i:Nat)(h:i<=l.length):cC l 0 (i:Int)=l.take i:=by
 unfold cC
 simp
def fZ(g:GrI)(s:OZ):Bool:=
 if s.1=true then decide (0<=s.2)&&decide (s.2<(g.2.1.length:Int))else decide (0<=s.2)&&(match g.1[s.2.toNat]? with|some r=>decide (r.2.1=0)|none=>false)
theorem yN(g:GrI)(s:OZ):Hc N0 (g,(s,()))=some ((fZ g s,()),()):=by
 obtain⟨b,n⟩:=s
 delta Hc Ld Bd;unfold fZ
 simp only
 cases b
 ·simp only[ap,if_false,cond_false]
  refine aY ((),(decide (0<=n)&&(match g.1[n.toNat]? with|some r=>decide (r.2.1=0)|none=>false),())) (λK=>?_) rfl
  by_cases h0:0<=n
  ·rw[decide_eq_true h0,cond_true,bG]
   by_cases h1:n<((g.1.length:Nat):Int)
   ·rw[decide_eq_true h1,cond_true,if_pos h0,List.getElem?_eq_getElem (show n.toNat<g.1.length by omega)]
   ·rw[decide_eq_false h1,cond_false,List.getElem?_eq_none (show g.1.length<=n.toNat by omega)]
  ·rw[decide_eq_false h0,cond_false,dE]
 ·simp only[if_true,cond_true]
  refine aY ((),(decide (0<=n)&&decide (n<(g.2.1.length:Int)),())) (λK=>?_) rfl
  by_cases h0:0<=n
  ·rw[decide_eq_true h0,cond_true,bG]
  ·rw[decide_eq_false h0,cond_false,dE]
theorem yO(g:GrI)(s:OZ):He N0 (g,(s,()))=some ((fZ g s,()),()):=by
 obtain⟨b,n⟩:=s
 delta He Ld Bd;unfold fZ
 simp only
 cases b
 ·simp only[ap,if_false,cond_false]
  refine aY ((),(decide (0<=n)&&(match g.1[n.toNat]? with|some r=>decide (r.2.1=0)|none=>false),())) (λK=>?_) rfl
  by_cases h0:0<=n
  ·rw[decide_eq_true h0,cond_true,bG]
   by_cases h1:n<((g.1.length:Nat):Int)
   ·rw[decide_eq_true h1,cond_true,if_pos h0,List.getElem?_eq_getElem (show n.toNat<g.1.length by omega)]
   ·rw[decide_eq_false h1,cond_false,List.getElem?_eq_none (show g.1.length<=n.toNat by omega)]
  ·rw[decide_eq_false h0,cond_false,dE]
 ·simp only[if_true,cond_true]
  refine aY ((),(decide (0<=n)&&decide (n<(g.2.1.length:Int)),())) (λK=>?_) rfl
  by_cases h0:0<=n
  ·rw[decide_eq_true h0,cond_true,bG]
  ·rw[decide_eq_false h0,cond_false,dE]
def nG(p:PrI):Bool:=match p.2.2.1 with
 |[a,b,c]=>!a.1&&((b.1&&decide (b.2=p.1))&&!c.1)
 |_=>false
theorem PU{p:PrI}(h:¬p.2.2.1.length=3):nG p=false:=by
 unfold nG
 split
 ·rename_i e;rw[e]at h;simp at h
 ·rfl
theorem O0(p:PrI):NO N0 (p,())=some ((nG p,()),()):=by
 obtain⟨s,c,body,par,pr,hi⟩:=p
 delta NO Bd
 simp only
 refine aY ((),(nG (s,(c,(body,(par,(pr,hi))))),())) (λK=>?_) rfl
 by_cases h3:body.length=3
 ·rw[decide_eq_true (show((body.length:Nat):Int)=3 by omega),cond_true]
  match body,h3 with
  |[(a1,a2),(b1,b2),(c1,c2)],_=>
   show(if(0:Int)<=0 then _ else _)=_
   rw[if_pos (by omega)]
   show(bif !a1 then _ else _)=_
   cases a1
   ·rw[aI,cond_true]
    rw[if_pos (by omega)]
    show(bif(bif(b1 == true)then decide (b2=s)else false)then _ else _)=_
    cases b1
    ·rfl
    ·show(bif decide (b2=s)then _ else _)=_
     by_cases e:b2=s
     ·rw[decide_eq_true e,cond_true,if_pos (by omega)]
      show K ((),(!c1,()))=_
      simp[nG,e]
     ·rw[decide_eq_false e,cond_false]
      simp[nG,e]
   ·rfl
 ·rw[decide_eq_false (show ¬((body.length:Nat):Int)=3 by omega),cond_false,PU h3]
theorem O1(p:PrI):NR N0 (p,())=some ((nG p,()),()):=by
 obtain⟨s,c,body,par,pr,hi⟩:=p
 delta NR Bd
 simp only
 refine aY ((),(nG (s,(c,(body,(par,(pr,hi))))),())) (λK=>?_) rfl
 by_cases h3:body.length=3
 ·rw[decide_eq_true (show((body.length:Nat):Int)=3 by omega),cond_true]
  match body,h3 with
  |[(a1,a2),(b1,b2),(c1,c2)],_=>
   show(if(0:Int)<=0 then _ else _)=_
   rw[if_pos (by omega)]
   show(bif !a1 then _ else _)=_
   cases a1
   ·rw[aI,cond_true]
    rw[if_pos (by omega)]
    show(bif b1 then _ else _)=_
    cases b1
    ·rfl
    ·rw[cond_true,if_pos (by omega)]
     show(bif decide (b2=s)then _ else _)=_
     by_cases e:b2=s
     ·rw[decide_eq_true e,cond_true,if_pos (by omega)]
      show K ((),(!c1,()))=_
      simp[nG,e]
     ·rw[decide_eq_false e,cond_false]
      simp[nG,e]
   ·rfl
 ·rw[decide_eq_false (show ¬((body.length:Nat):Int)=3 by omega),cond_false,PU h3]
def j7(g:GrI)(i:Nat)(s:List Int):Int:=
 if hJ s=false then 8 else if(g.2.1.take i).any (λx=>decide (x=s))||g.1.any (λr=>decide (r.1=s))then 9 else 0
theorem ET{g:GrI}{i:Nat}{s:List Int}(h:hJ s=false):j7 g i s=8:=by unfold j7;rw[if_pos h]
theorem yP{g:GrI}{i:Nat}{s:List Int}(h:hJ s=true)(h2:((g.2.1.take i).any (λx=>decide (x=s))||g.1.any (λr=>decide (r.1=s)))=true):j7 g i s=9:=by unfold j7;rw[if_neg (by rw[h];simp),if_pos h2]
theorem EU{g:GrI}{i:Nat}{s:List Int}(h:hJ s=true)(h2:((g.2.1.take i).any (λx=>decide (x=s))||g.1.any (λr=>decide (r.1=s)))=false):j7 g i s=0:=by unfold j7;rw[if_neg (by rw[h];simp),if_neg (by rw[h2];simp)]
theorem O2{l:List (List Int)}(hl:l.length<=100000)(s:List Int):NL N0 (l,(s,()))=some ((match l.findIdx? (λx=>decide (x=s))with|some j=>(j:Int)|none=>-1,()),()):=by
 delta NL Ld Bd Wi
 simp only
 refine(EP l (λj=>((),((j:Int),()))) (λx=>decide (x=s)) (λj=>some (((j:Int),()),())) (some ((-1,()),())) (λj h k=>?_) (λk=>?_) N0 (ie hl)).trans ?_
 ·simp only
  rw[decide_eq_true (show(j:Int)<((l.length:Nat):Int) by omega),cond_true,if_pos (by omega),aa,List.getElem?_eq_getElem h]
  simp only
  by_cases e:l[j]=s
  ·rw[decide_eq_true e.symm,cond_true,decide_eq_true e,if_pos rfl]
  ·rw[decide_eq_false (λh=>e h.symm),cond_false,decide_eq_false e,if_neg (by simp),bc h (le_max hl)]
 ·simp only
  rw[decide_eq_false (by omega),cond_false]
 ·cases l.findIdx? (λx=>decide (x=s)) <;> rfl
theorem KP{α:Type}(l:List α)(f:α->Bool):decide ((0:Int)<=match l.findIdx? f with|some j=>(j:Int)|none=>-1)=l.any f:=by
 cases h:l.findIdx? f with
 |none=>
  rw[List.findIdx?_eq_none_iff]at h
  have:l.any f=false:=by
   rw[List.any_eq_false]
   intro x hx
   simpa using h x hx
  rw[this]
  rfl
 |some j=>
  obtain⟨h1,h2,_⟩:=List.findIdx?_eq_some_iff_getElem.1 h
  have:l.any f=true:=gE.2 ⟨_,ba h1,h2⟩
  rw[this]
  exact decide_eq_true (by simp)
theorem O3{l:List (List Int)}(hl:l.length<=100000)(s:List Int):NM N0 (l,(s,()))=some ((l.any (λx=>decide (x=s)),()),()):=by
 unfold NM
 simp only
 rw[ae (O2 hl s)]
 simp only
 rw[KP]
theorem O4{l:List RuI}(hl:l.length<=100000)(s:List Int):NN N0 (l,(s,()))=some ((match l.findIdx? (λr=>decide (r.1=s))with|some j=>(j:Int)|none=>-1,()),()):=by
 delta NN Ld Bd Wi
 simp only
 refine(EP l (λj=>((),((j:Int),()))) (λr=>decide (r.1=s)) (λj=>some (((j:Int),()),())) (some ((-1,()),())) (λj h k=>?_) (λk=>?_) N0 (ie hl)).trans ?_
 ·simp only
  rw[decide_eq_true (show(j:Int)<((l.length:Nat):Int) by omega),cond_true,if_pos (by omega),aa,List.getElem?_eq_getElem h]
  simp only
  by_cases e:l[j].1=s
  ·rw[decide_eq_true e,cond_true,if_pos rfl]
  ·rw[decide_eq_false e,cond_false,if_neg (by simp),bc h (le_max hl)]
 ·simp only
  rw[decide_eq_false (by omega),cond_false]
 ·cases l.findIdx? (λr=>decide (r.1=s)) <;> rfl
abbrev Flt:=Int×(Int×Int)
theorem RW{g:GrI}(ok:tk g):p90 N0 (g,())=some (((if 300<g.2.1.length then((6:Int),((2:Int),(g.2.1.length:Int)))else match cJ (j7 g) 0 g.2.1 with|some p=>(p.1,((2:Int),(p.2:Int)))|none=>((0:Int),((0:Int),(0:Int)))),()),()):=by
 delta p90 Ld Bd Wi
 simp only
 by_cases h3:300<g.2.1.length
 ·rw[decide_eq_true (show(300:Int)<((g.2.1.length:Nat):Int) by omega),cond_true,if_pos h3]
 rw[decide_eq_false (show ¬(300:Int)<((g.2.1.length:Nat):Int) by omega),cond_false,if_neg h3]
 refine(sb g.2.1 (λj=>((((0:Int),((0:Int),(0:Int))),()),((j:Int),()))) (j7 g) (λe j=>some (((e,(2,(j:Int))),()),())) (some (((0,(0,0)),()),())) (λj h k=>?_) (λk=>?_) N0 (ie ok.s0)).trans ?_
 ·simp only
  have hs:=ok.s1 _ (ba h)
  rw[decide_eq_true (show(j:Int)<((g.2.1.length:Nat):Int) by omega),cond_true,if_pos (by omega),aa,List.getElem?_eq_getElem h]
  simp only
  generalize g.2.1[j]=s at hs
  rw[ae (yM hs.1 hs.2)]
  simp only
  cases hn:hJ s
  ·rw[ET hn,aI,cond_true,if_neg (by omega)]
  rw[aA,cond_false]
  refine aY ((((0:Int),((0:Int),(0:Int))),()),((g.2.1.take j).any (λx=>decide (x=s))||g.1.any (λr=>decide (r.1=s)),())) (λK=>?_) ?_
  ·rw[if_pos ⟨by omega,by omega,by omega⟩,xl _ _ (by omega),ae (O3 (by rw[aN];have:=ok.s0;omega) s)]
   simp only
   cases(g.2.1.take j).any (λx=>decide (x=s))
   ·rw[cond_false,ae (O4 ok.r0 s)]
    simp only
    rw[KP,cV]
   ·rw[cond_true,dP]
  ·simp only
   cases h2:((g.2.1.take j).any (λx=>decide (x=s))||g.1.any (λr=>decide (r.1=s)))
   ·rw[EU hn h2,cond_false,if_pos rfl,bc h (le_max ok.s0)]
   ·rw[yP hn h2,cond_true,if_neg (by omega)]
 ·simp only
  rw[decide_eq_false (by omega),cond_false]
 ·cases cJ (j7 g) 0 g.2.1 <;> rfl
theorem RX{g:GrI}(ok:tk g){i:Nat}{s:List Int}(hi:g.2.1[i]?=some s):p78 N0 (g,((i:Int),()))=some ((j7 g i s,()),()):=by
 have hlt:i<g.2.1.length:=(List.getElem?_eq_some_iff.1 hi).1
 have hs:=ok.s1 _ (List.mem_of_getElem? hi)
 have h0:=ok.s0
 delta p78 Ld Bd Wi
 simp only
 rw[if_pos (by omega),aa,hi]
 simp only
 rw[ae (yL hs.1 hs.2)]
 simp only
 cases hn:hJ s
 ·rw[ET hn,aI,cond_true]
 rw[aA,cond_false]
 have hlen:(g.2.1.take i).length=i:=by rw[aN];omega
 refine(fH (g.2.1.take i) (λx=>!decide (x=s)) (some ((9,()),())) (if g.1.any (λr=>decide (r.1=s))=true then some ((9,()),())else some ((0,()),())) (λj=>((),((j:Int),()))) (λj h k=>?_) (λk=>?_) N0 (by rw[hlen];exact ie (by omega))).trans ?_
 ·simp only
  rw[decide_eq_true (show(j:Int)<(i:Int) by omega),cond_true,if_pos (by omega),aa,List.getElem?_eq_getElem (show j<g.2.1.length by omega)]
  simp only
  rw[if_pos (show(0:Int)<=(i:Int) by omega)]
  rw[List.getElem_take]
  by_cases e:g.2.1[j]=s
  ·rw[decide_eq_true e,cond_true,if_neg (by simp)]
  ·rw[decide_eq_false e,cond_false,if_pos (by simp),bc (show j<g.2.1.length by omega) (le_max h0)]
 ·simp only
  rw[hlen,decide_eq_false (by omega),cond_false]
  refine(fH g.1 (λr=>!decide (r.1=s)) (some ((9,()),())) (some ((0,()),())) (λj=>((),((j:Int),()))) (λj h k=>?_) (λk=>?_) N0 (ie ok.r0)).trans ?_
  ·simp only
   rw[decide_eq_true (show(j:Int)<((g.1.length:Nat):Int) by omega),cond_true,if_pos (by omega),aa,List.getElem?_eq_getElem h]
   simp only
   rw[if_pos (show(0:Int)<=(i:Int) by omega)]
   by_cases e:g.1[j].1=s
   ·rw[decide_eq_true e,cond_true,if_neg (by simp)]
   ·rw[decide_eq_false e,cond_false,if_pos (by simp),bc h (le_max ok.r0)]
  ·simp only
   rw[decide_eq_false (by omega),cond_false]
  ·have:g.1.all (λr=>!decide (r.1=s))=!g.1.any (λr=>decide (r.1=s)):=by rw[List.not_any_eq_all_not]
   rw[this]
   cases g.1.any (λr=>decide (r.1=s)) <;> rfl
 ·have h1:(g.2.1.take i).all (λr=>!decide (r=s))=!(g.2.1.take i).any (λr=>decide (r=s)):=by rw[List.not_any_eq_all_not]
  rw[h1]
  cases h2:(g.2.1.take i).any (λr=>decide (r=s))
  ·rw[aI,if_pos rfl]
   cases h3:g.1.any (λr=>decide (r.1=s))
   ·rw[EU hn (by rw[h2,h3];rfl),if_neg (by simp)]
   ·rw[yP hn (by rw[h2,h3];rfl),if_pos rfl]
  ·rw[yP hn (by rw[h2];rfl),aA,if_neg (by simp)]
end
noncomputable section
def qu(h:Int):Bool:=decide (0<=h/\h<=3)
def By(g:GrI)(p:PrI):Int:=if ¬p.2.2.2.2.1=-1/\fZ g (false,p.2.2.2.2.1)=false then 11 else if p.2.2.2.1=true/\nG p=false then 15 else 0
def Bz(g:GrI)(p:PrI):Int:=if p.2.2.2.2.2.all qu=true then By g p else 1
def xm(g:GrI)(p:PrI):Int:=if p.2.2.1.all (fZ g)=true then Bz g p else 11
def mI(g:GrI)(i:Nat)(p:PrI):Int:=
 if p.1<0\/(g.2.1.length:Int)<=p.1 then 11 else if hJ p.2.1=false then 8 else if 12<p.2.2.1.length then 6 else if ¬p.2.2.2.2.2.length=p.2.2.1.length-1 then 1
 else if(g.2.2.1.take i).all (λq=>!decide (q.2.1=p.2.1))=true then xm g p else 9
theorem HB{g:GrI}{n:Int}(h:n<0):fZ g (false,n)=false:=by
 unfold fZ
 rw[if_neg (by simp),decide_eq_false (by omega),dE]
theorem xn{n:Nat}(h:n<=100000):IntKind.wrap .i64 ((n:Int)-1)=(n:Int)-1:=bz (by omega) (by omega)
theorem RY{g:GrI}(ok:tk g){i:Nat}{p:PrI}(hi:g.2.2.1[i]?=some p):p91 N0 (g,((i:Int),()))=some ((mI g i p,()),()):=by
 have hlt:i<g.2.2.1.length:=(List.getElem?_eq_some_iff.1 hi).1
 have hm:=List.mem_of_getElem? hi
 have hs:=ok.p1 _ hm
 have hb:=ok.p2 _ hm
 have hh:=ok.p3 _ hm
 have h0:=ok.p0
 have hlen:(g.2.2.1.take i).length=i:=by rw[aN];omega
 delta p91 Ld Bd Wi
 simp only
 rw[if_pos (by omega),aa,hi]
 simp only
 refine aY ((),(decide (p.1<0\/(g.2.1.length:Int)<=p.1),())) (λK=>?_) ?_
 ·by_cases q1:p.1<0
  ·rw[decide_eq_true q1,cond_true,decide_eq_true (.inl q1)]
  ·rw[decide_eq_false q1,cond_false]
   have:decide (p.1<0\/(g.2.1.length:Int)<=p.1)=decide ((g.2.1.length:Int)<=p.1):=by rw[decide_eq_decide];exact⟨λh=>h.resolve_left q1,.inr⟩
   rw[this]
 simp only
 unfold mI
 by_cases e1:p.1<0\/(g.2.1.length:Int)<=p.1
 ·rw[decide_eq_true e1,cond_true,if_pos e1]
 rw[decide_eq_false e1,cond_false,if_neg e1,ae (yM hs.1 hs.2)]
 simp only
 cases e2:hJ p.2.1
 ·rw[aI,cond_true,if_pos rfl]
 rw[aA,cond_false,if_neg (show ¬(true=false) by simp)]
 by_cases e3:12<p.2.2.1.length
 ·rw[decide_eq_true (show(12:Int)<((p.2.2.1.length:Nat):Int) by omega),cond_true,if_pos e3]
 rw[decide_eq_false (show ¬(12:Int)<((p.2.2.1.length:Nat):Int) by omega),cond_false,if_neg e3,xn hb]
 have hw:(if((p.2.2.1.length:Nat):Int)-1<0 then(0:Int)else((p.2.2.1.length:Nat):Int)-1)=((p.2.2.1.length-1:Nat):Int):=by split <;> omega
 rw[hw]
 by_cases e4:p.2.2.2.2.2.length=p.2.2.1.length-1
 case neg=>rw[decide_eq_false (show ¬((p.2.2.2.2.2.length:Nat):Int)=((p.2.2.1.length-1:Nat):Int) by omega),aI,cond_true,if_pos e4]
 rw[decide_eq_true (show((p.2.2.2.2.2.length:Nat):Int)=((p.2.2.1.length-1:Nat):Int) by omega),aA,cond_false,if_neg (show ¬¬p.2.2.2.2.2.length=p.2.2.1.length-1 from λh=>h e4)]
 rw[if_pos ⟨by omega,by omega,by omega⟩,xl _ _ (by omega)]
 refine fH (g.2.2.1.take i) (λq=>!decide (q.2.1=p.2.1)) (some ((9,()),())) (some ((xm g p,()),())) (λj=>((),((j:Int),()))) (λj h k=>?_) (λk=>?_) N0 (by rw[hlen];exact ie (by omega)) |>.trans ?_
 ·simp only
  rw[decide_eq_true (show(j:Int)<(((g.2.2.1.take i).length:Nat):Int) by omega),cond_true,if_pos (by omega),aa,List.getElem?_eq_getElem h]
  simp only
  by_cases e:(g.2.2.1.take i)[j].2.1=p.2.1
  ·rw[decide_eq_true e,cond_true,if_neg (by simp)]
  ·rw[decide_eq_false e,cond_false,if_pos (by simp),bc h (le_max (by omega))]
 ·simp only
  rw[decide_eq_false (by omega),cond_false]
  refine fH p.2.2.1 (fZ g) (some ((11,()),())) (some ((Bz g p,()),())) (λj=>((),((j:Int),()))) (λj h k=>?_) (λk=>?_) N0 (ie hb) |>.trans ?_
  ·simp only
   rw[decide_eq_true (show(j:Int)<((p.2.2.1.length:Nat):Int) by omega),cond_true,if_pos (by omega),aa,List.getElem?_eq_getElem h]
   simp only
   rw[ae (yN g _)]
   simp only
   cases fZ g p.2.2.1[j]
   ·rw[aI,cond_true,if_neg (by simp)]
   ·rw[aA,cond_false,if_pos rfl,bc h (le_max hb)]
  ·simp only
   rw[decide_eq_false (by omega),cond_false]
   refine fH p.2.2.2.2.2 qu (some ((1,()),())) (some ((By g p,()),())) (λj=>((),((j:Int),()))) (λj h k=>?_) (λk=>?_) N0 (ie hh) |>.trans ?_
   ·simp only
    rw[decide_eq_true (show(j:Int)<((p.2.2.2.2.2.length:Nat):Int) by omega),cond_true,if_pos (by omega),aa,List.getElem?_eq_getElem h]
    simp only
    generalize p.2.2.2.2.2[j]=v
    refine aY ((),(!qu v,())) (λK=>?_) ?_
    ·unfold qu
     by_cases q1:v<0
     ·rw[decide_eq_true q1,cond_true,decide_eq_false (by omega)];rfl
     ·rw[decide_eq_false q1,cond_false]
      have:(!decide (0<=v/\v<=3))=decide (3<v):=by
       rw[<-decide_not,decide_eq_decide];omega
      rw[this]
    ·simp only
     cases qu v
     ·rw[aI,cond_true,if_neg (by simp)]
     ·rw[aA,cond_false,if_pos rfl,bc h (le_max hh)]
   ·simp only
    rw[decide_eq_false (by omega),cond_false]
    unfold By
    refine aY ((),(decide (¬p.2.2.2.2.1=-1/\fZ g (false,p.2.2.2.2.1)=false),())) (λK=>?_) ?_
    ·by_cases q1:p.2.2.2.2.1=-1
     ·rw[decide_eq_true q1,aA,cond_false,decide_eq_false (λh=>h.1 q1)]
     ·rw[decide_eq_false q1,aI,cond_true]
      by_cases q2:p.2.2.2.2.1<0
      ·rw[decide_eq_true q2,cond_true,decide_eq_true ⟨q1,HB q2⟩]
      ·rw[decide_eq_false q2,cond_false,ae (yN g _)]
       simp only
       cases fZ g (false,p.2.2.2.2.1)
       ·rw[decide_eq_true ⟨q1,rfl⟩];rfl
       ·rw[decide_eq_false (λh=>by cases h.2)];rfl
    ·simp only
     by_cases q1:¬p.2.2.2.2.1=-1/\fZ g (false,p.2.2.2.2.1)=false
     ·rw[decide_eq_true q1,cond_true,if_pos q1]
     rw[decide_eq_false q1,cond_false,if_neg q1]
     refine aY ((),(decide (p.2.2.2.1=true/\nG p=false),())) (λK=>?_) ?_
     ·cases hp:p.2.2.2.1
      ·rw[cond_false,decide_eq_false (λh=>by cases h.1)]
      ·rw[cond_true,ae (O0 p)]
       simp only
       cases nG p <;> simp
     ·simp only
      by_cases q2:p.2.2.2.1=true/\nG p=false
      ·rw[decide_eq_true q2,cond_true,if_pos q2]
      ·rw[decide_eq_false q2,cond_false,if_neg q2]
   ·unfold Bz;split <;> rfl
  ·unfold xm;split <;> rfl
 ·split <;> rfl
theorem RZ{g:GrI}(ok:tk g){i:Nat}{p:PrI}(hi:g.2.2.1[i]?=some p):p79 N0 (g,((i:Int),()))=some ((mI g i p,()),()):=by
 have hlt:i<g.2.2.1.length:=(List.getElem?_eq_some_iff.1 hi).1
 have hm:=List.mem_of_getElem? hi
 have hs:=ok.p1 _ hm
 have hb:=ok.p2 _ hm
 have hh:=ok.p3 _ hm
 have h0:=ok.p0
 have hlen:(g.2.2.1.take i).length=i:=by rw[aN];omega
 delta p79 Ld Bd Wi
 simp only
 rw[if_pos (by omega),aa,hi]
 simp only
 refine aY ((),(decide (p.1<0\/(g.2.1.length:Int)<=p.1),())) (λK=>?_) ?_
 ·by_cases q1:p.1<0
  ·rw[decide_eq_true q1,cond_true,decide_eq_true (.inl q1)]
  ·rw[decide_eq_false q1,cond_false]
   have:decide (p.1<0\/(g.2.1.length:Int)<=p.1)=decide ((g.2.1.length:Int)<=p.1):=by rw[decide_eq_decide];exact⟨λh=>h.resolve_left q1,.inr⟩
   rw[this]
 simp only
 unfold mI
 by_cases e1:p.1<0\/(g.2.1.length:Int)<=p.1
 ·rw[decide_eq_true e1,cond_true,if_pos e1]
 rw[decide_eq_false e1,cond_false,if_neg e1,ae (yL hs.1 hs.2)]
 simp only
 cases e2:hJ p.2.1
 ·rw[aI,cond_true,if_pos rfl]
 rw[aA,cond_false,if_neg (show ¬(true=false) by simp)]
 by_cases e3:12<p.2.2.1.length
 ·rw[decide_eq_true (show(12:Int)<((p.2.2.1.length:Nat):Int) by omega),cond_true,if_pos e3]
 rw[decide_eq_false (show ¬(12:Int)<((p.2.2.1.length:Nat):Int) by omega),cond_false,if_neg e3,xn hb]
 have hw:(if(0:Int)<((p.2.2.1.length:Nat):Int)-1 then((p.2.2.1.length:Nat):Int)-1 else(0:Int))=((p.2.2.1.length-1:Nat):Int):=by split <;> omega
 rw[hw]
 by_cases e4:p.2.2.2.2.2.length=p.2.2.1.length-1
 case neg=>rw[decide_eq_false (show ¬((p.2.2.2.2.2.length:Nat):Int)=((p.2.2.1.length-1:Nat):Int) by omega),aI,cond_true,if_pos e4]
 rw[decide_eq_true (show((p.2.2.2.2.2.length:Nat):Int)=((p.2.2.1.length-1:Nat):Int) by omega),aA,cond_false,if_neg (show ¬¬p.2.2.2.2.2.length=p.2.2.1.length-1 from λh=>h e4)]
 refine fH (g.2.2.1.take i) (λq=>!decide (q.2.1=p.2.1)) (some ((9,()),())) (some ((xm g p,()),())) (λj=>((),((j:Int),()))) (λj h k=>?_) (λk=>?_) N0 (by rw[hlen];exact ie (by omega)) |>.trans ?_
 ·simp only
  rw[decide_eq_true (show(j:Int)<(i:Int) by omega),cond_true,if_pos (by omega),aa,List.getElem?_eq_getElem (show j<g.2.2.1.length by omega)]
  simp only
  rw[List.getElem_take]
  by_cases e:g.2.2.1[j].2.1=p.2.1
  ·rw[decide_eq_true e,cond_true,if_neg (by simp)]
  ·rw[decide_eq_false e,cond_false,if_pos (by simp),bc h (le_max (by omega))]
 ·simp only
  rw[hlen,decide_eq_false (by omega),cond_false]
  refine fH p.2.2.1 (fZ g) (some ((11,()),())) (some ((Bz g p,()),())) (λj=>((),((j:Int),()))) (λj h k=>?_) (λk=>?_) N0 (ie hb) |>.trans ?_
  ·simp only
   rw[decide_eq_true (show(j:Int)<((p.2.2.1.length:Nat):Int) by omega),cond_true,if_pos (by omega),aa,List.getElem?_eq_getElem h]
   simp only
   rw[ae (yO g _)]
   simp only
   cases fZ g p.2.2.1[j]
   ·rw[aI,cond_true,if_neg (by simp)]
   ·rw[aA,cond_false,if_pos rfl,bc h (le_max hb)]
  ·simp only
   rw[decide_eq_false (by omega),cond_false]
   refine fH p.2.2.2.2.2 qu (some ((1,()),())) (some ((By g p,()),())) (λj=>((),((j:Int),()))) (λj h k=>?_) (λk=>?_) N0 (ie hh) |>.trans ?_
   ·simp only
    rw[decide_eq_true (show(j:Int)<((p.2.2.2.2.2.length:Nat):Int) by omega),cond_true]
    have hg:p.2.2.2.2.2[((j:Int)).toNat]?=some p.2.2.2.2.2[j]:=by rw[aa];exact List.getElem?_eq_getElem h
    rw[hg]
    generalize p.2.2.2.2.2[j]=v
    simp only
    refine aY ((),(!qu v,())) (λK=>?_) ?_
    ·rw[if_pos (by omega)]
     unfold qu
     by_cases q1:v<0
     ·rw[decide_eq_true q1,cond_true,decide_eq_false (by omega)];rfl
     ·rw[decide_eq_false q1,cond_false]
      have:(!decide (0<=v/\v<=3))=decide (3<v):=by
       rw[<-decide_not,decide_eq_decide];omega
      rw[this,if_pos (by omega)]
    ·simp only
     cases qu v
     ·rw[aI,cond_true,if_neg (by simp)]
     ·rw[aA,cond_false,if_pos rfl,bc h (le_max hh)]
   ·simp only
    rw[decide_eq_false (by omega),cond_false]
    unfold By
    refine aY ((),(decide (¬p.2.2.2.2.1=-1/\fZ g (false,p.2.2.2.2.1)=false),())) (λK=>?_) ?_
    ·by_cases q1:p.2.2.2.2.1=-1
     ·rw[decide_eq_true q1,aA,cond_false,decide_eq_false (λh=>h.1 q1)]
     ·rw[decide_eq_false q1,aI,cond_true,ae (yO g _)]
      simp only
      cases fZ g (false,p.2.2.2.2.1)
      ·rw[decide_eq_true ⟨q1,rfl⟩];rfl
      ·rw[decide_eq_false (λh=>by cases h.2)];rfl
    ·simp only
     by_cases q1:¬p.2.2.2.2.1=-1/\fZ g (false,p.2.2.2.2.1)=false
     ·rw[decide_eq_true q1,cond_true,if_pos q1]
     rw[decide_eq_false q1,cond_false,if_neg q1]
     refine aY ((),(decide (p.2.2.2.1=true/\nG p=false),())) (λK=>?_) ?_
     ·cases hp:p.2.2.2.1
      ·rw[cond_false,decide_eq_false (λh=>by cases h.1)]
      ·rw[cond_true,ae (O1 p)]
       simp only
       cases nG p <;> simp
     ·simp only
      by_cases q2:p.2.2.2.1=true/\nG p=false
      ·rw[decide_eq_true q2,cond_true,if_pos q2]
      ·rw[decide_eq_false q2,cond_false,if_neg q2]
   ·unfold Bz;split <;> rfl
  ·unfold xm;split <;> rfl
 ·split <;> rfl
end
noncomputable section
def ahead(g:GrI)(i:Nat):List Int:=(g.2.2.2.1.take i).flatMap λl=>l.2
theorem ve{g:GrI}{i:Nat}{l:LvI}(h:g.2.2.2.1[i]?=some l):ahead g (i+1)=ahead g i++l.2:=by
 unfold ahead
 rw[jE,h]
 simp
def vf(g:GrI)(i:Nat)(l:LvI)(k:Nat)(r:Int):Int:=
 if fZ g (false,r)=false then 11 else if r∈ahead g i++l.2.take k then 9 else 0
def qv(g:GrI)(i:Nat)(l:LvI):Int:=
 if l.1<1\/3<l.1\/l.2.length=0\/60<=i then 1 else match cJ (vf g i l) 0 l.2 with|some p=>p.1|none=>0
abbrev IM:=List (Int×Int)
def eqZ:Int->Int->Bool:=λa b=>decide (a=b)
theorem HC(k k' v:Int):∀ x:IM,cY eqZ k (eW eqZ k' v x)=if k=k' then v else cY eqZ k x:=by
 intro x
 induction x with
 |nil=>
  simp only[eW,cY,eqZ]
  by_cases e:k=k' <;> simp[e]
 |cons p r ih=>
  simp only[eW]
  by_cases e:k'=p.1
  ·have:eqZ k' p.1=true:=decide_eq_true e
   rw[this,cond_true]
   simp only[cY]
   rw[<-e]
   by_cases e2:k=k'
   ·rw[show eqZ k k'=true from decide_eq_true e2,if_pos e2];rfl
   ·rw[show eqZ k k'=false from decide_eq_false e2,if_neg e2];rfl
  ·have:eqZ k' p.1=false:=decide_eq_false e
   rw[this,cond_false]
   simp only[cY]
   by_cases e2:k=p.1
   ·rw[show eqZ k p.1=true from decide_eq_true e2,cond_true,cond_true]
    rw[if_neg]
    rintro rfl
    exact e e2
   ·rw[show eqZ k p.1=false from decide_eq_false e2,cond_false,cond_false,ih]
def BA(L:List Int)(m:IM):Prop:=∀ k,cY eqZ k m=if k∈L then 1 else 0
theorem BA.next{L:List Int}{m:IM}(h:BA L m){r:Int}(hr:¬r∈L):BA (L++[r]) (eW eqZ r (IntKind.wrap .i64 (cY eqZ r m+1)) m):=by
 intro k
 rw[HC,h r,if_neg hr]
 by_cases e:k=r
 ·subst e;simp;rfl
 ·rw[if_neg e,h k];simp[e]
theorem EV{α A R:Type}{body:A->(A->Option R)->Option R}(l:List α)(I:Nat->A->Prop)(spec:Nat->Option R)
 (step:∀ j,(h:j<l.length)->∀ x,I j x->∀ k,(∀ y,I (j+1) y->k y=spec (j+1))->body x k=spec j) (fin:∀ x,I l.length x->∀ k,body x k=spec l.length):
 ∀ n j x,j<=l.length->l.length-j<n->I j x->aD body n x=spec j:=by
 intro n
 induction n with
 |zero=>intro j x _ h;omega
 |succ n ih=>
  intro j x hj hn hi
  rw[dU]
  rcases ak j l.length with h|h
  ·exact step j h x hi _ (λy hy=>ih (j+1) y h (by omega) hy)
  ·have:j=l.length:=by omega
   subst this
   exact fin x hi _
theorem R0{g:GrI}(ok:tk g):p92 N0 (g,())=some (((match cJ (qv g) 0 g.2.2.2.1 with|some p=>(p.1,((4:Int),(p.2:Int)))|none=>((0:Int),((0:Int),(0:Int)))),()),()):=by
 delta p92 Ld Bd Wi
 simp only
 rw[show(λ(a b:Int)=>decide (a=b))=eqZ from rfl]
 refine(EV g.2.2.2.1 (λj x=>∃ m:IM,x=((((0:Int),((0:Int),(0:Int))),(m,())),((j:Int),()))/\BA (ahead g j) m) (λj=>some (((match cJ (qv g) j (g.2.2.2.1.drop j)with|some p=>(p.1,((4:Int),(p.2:Int)))|none=>((0:Int),((0:Int),(0:Int)))),()),())) (λj h x hx k hk=>?_) (λx hx k=>?_) N0 0 _ (aC _) (by rw[Nat.sub_zero];exact ie ok.l0) ⟨[],rfl,λk=>by simp[cY,ahead]⟩).trans (by rw[cU])
 ·obtain⟨m,rfl,hm⟩:=hx
  simp only
  have hl:=ok.l1 _ (ba h)
  have hg:g.2.2.2.1[j]?=some g.2.2.2.1[j]:=List.getElem?_eq_getElem h
  rw[decide_eq_true (show(j:Int)<((g.2.2.2.1.length:Nat):Int) by omega),cond_true,if_pos (by omega),aa,hg,cL h]
  generalize g.2.2.2.1[j]=l at hl hg
  simp only
  refine aY ((((0:Int),((0:Int),(0:Int))),(m,())),(decide (l.1<1\/3<l.1\/l.2.length=0\/60<=j),())) (λK=>?_) ?_
  ·by_cases q1:l.1<1
   ·rw[decide_eq_true q1,cond_true,decide_eq_true (.inl q1)]
   rw[decide_eq_false q1,cond_false]
   by_cases q2:3<l.1
   ·rw[decide_eq_true q2,cond_true,decide_eq_true (.inr (.inl q2))]
   rw[decide_eq_false q2,cond_false]
   by_cases q3:l.2.length=0
   ·rw[decide_eq_true (show((l.2.length:Nat):Int)=0 by omega),cond_true,decide_eq_true (.inr (.inr (.inl q3)))]
   rw[decide_eq_false (show ¬((l.2.length:Nat):Int)=0 by omega),cond_false]
   have:decide ((60:Int)<=(j:Int))=decide (l.1<1\/3<l.1\/l.2.length=0\/60<=j):=by rw[decide_eq_decide];omega
   rw[this]
  ·simp only
   simp only[cJ]
   by_cases q:l.1<1\/3<l.1\/l.2.length=0\/60<=j
   ·have e1:qv g j l=1:=by unfold qv;rw[if_pos q]
    rw[decide_eq_true q,cond_true,e1,if_neg (by omega)]
   have e1:qv g j l=match cJ (vf g j l) 0 l.2 with|some p=>p.1|none=>0:=by unfold qv;rw[if_neg q]
   rw[decide_eq_false q,cond_false]
   have hz:∀ k,vf g j l k=λr=>vf g j l k r:=λ_=>rfl
   refine(EV l.2 (λi x=>∃ m:IM,x=((((0:Int),((0:Int),(0:Int))),(m,())),((i:Int),()))/\BA (ahead g j++l.2.take i) m) (λi=>match cJ (vf g j l) i (l.2.drop i)with|some p=>some (((p.1,((4:Int),(j:Int))),()),())|none=>some (((match cJ (qv g) (j+1) (g.2.2.2.1.drop (j+1))with|some p=>(p.1,((4:Int),(p.2:Int)))|none=>((0:Int),((0:Int),(0:Int)))),()),())) (λi hi x hx k2 hk2=>?_) (λx hx k2=>?_) N0 0 _ (aC _) (by rw[Nat.sub_zero];exact ie hl) ⟨m,rfl,by rw[List.take_zero,b9];exact hm⟩).trans ?_
   ·obtain⟨m,rfl,hm⟩:=hx
    simp only
    have hgi:l.2[i]?=some l.2[i]:=List.getElem?_eq_getElem hi
    have htk:l.2.take (i+1)=l.2.take i++[l.2[i]]:=by rw[jE,hgi];rfl
    rw[decide_eq_true (show(i:Int)<((l.2.length:Nat):Int) by omega),cond_true,if_pos (by omega),aa,hgi,cL hi]
    generalize l.2[i]=r at htk
    simp only
    rw[ae (yN g _)]
    simp only[cJ]
    unfold vf
    cases hs:fZ g (false,r)
    ·rw[aI,cond_true,if_pos rfl,if_neg (by omega)]
    rw[aA,cond_false,if_neg (show ¬(true=false) by simp),hm r]
    by_cases hr:r∈ahead g j++l.2.take i
    ·rw[if_pos hr,if_pos hr,show decide ((0:Int)<1)=true from rfl,cond_true,if_neg (by omega)]
    ·rw[if_neg hr,if_neg hr,show decide ((0:Int)<0)=false from rfl,cond_false,if_pos rfl,bc hi (le_max hl)]
     have hn:=hm.next hr
     rw[hm r,if_neg hr]at hn
     exact hk2 _ ⟨_,rfl,by rw[htk,<-aO];exact hn⟩
   ·obtain⟨m,rfl,hm⟩:=hx
    simp only
    rw[decide_eq_false (by omega),cond_false,bc h (le_max ok.l0),ff]
    simp only[cJ]
    rw[cE]at hm
    exact hk _ ⟨m,rfl,by rw[ve hg];exact hm⟩
   ·rw[cU]
    rw[e1]
    have hne:∀ (l':List Int) (i:Nat) (p:Int×Nat),cJ (vf g j l) i l'=some p->¬p.1=0:=by
     intro l'
     induction l' with
     |nil=>intro i p h;cases h
     |cons a r ih=>
      intro i p h
      simp only[cJ]at h
      split at h
      ·exact ih _ _ h
      ·rename_i hn;injection h with h;rw[<-h];exact hn
    cases hf:cJ (vf g j l) 0 l.2 with
    |none=>simp only[if_true]
    |some p=>
     simp only
     rw[if_neg (hne _ _ _ hf)]
 ·obtain⟨m,rfl,hm⟩:=hx
  simp only
  rw[decide_eq_false (by omega),cond_false,ff]
  rfl
end
noncomputable section
theorem HD{g:GrI}{i:Nat}{r:Int}:r∈ahead g i↔∃ a l,a<i/\g.2.2.2.1[a]?=some l/\r∈l.2:=by
 unfold ahead
 rw[dD]
 constructor
 ·rintro⟨l,h1,h2⟩
  obtain⟨a,ha⟩:=List.mem_iff_getElem?.1 h1
  rw[List.getElem?_take]at ha
  split at ha
  ·exact⟨a,l,by assumption,ha,h2⟩
  ·cases ha
 ·rintro⟨a,l,h1,h2,h3⟩
  refine⟨l,List.mem_iff_getElem?.2 ⟨a,?_⟩,h3⟩
  rw[List.getElem?_take,if_pos h1,h2]
theorem O5{g:GrI}(ok:tk g){i:Nat}{l:LvI}(hi:g.2.2.2.1[i]?=some l){k:Nat}{r:Int}(hk:l.2[k]?=some r):NS N0 (g,((i:Int),((k:Int),())))=some ((decide (r∈ahead g i++l.2.take k),()),()):=by
 have hlt:i<g.2.2.2.1.length:=(List.getElem?_eq_some_iff.1 hi).1
 have hkt:k<l.2.length:=(List.getElem?_eq_some_iff.1 hk).1
 have h0:=ok.l0
 delta NS Ld Bd Wi
 simp only
 refine aZ (λm x q=>∃ a:Nat,x=((),((a:Int),()))/\m+a=i+1/\a<=i/\¬r∈ahead g a/\q=some ((decide (r∈ahead g i++l.2.take k),()),())) ?_ N0 (i+1) _ _ (by unfold N0;omega) ⟨0,rfl,rfl,aC _,by simp[ahead],rfl⟩
 rintro m x q ⟨a,rfl,hm,hai,hna,rfl⟩ kk hkk
 simp only
 rw[decide_eq_true (show(a:Int)<=(i:Int) by omega),cond_true]
 have ha:g.2.2.2.1[a]?=some (g.2.2.2.1[a]'(by omega)):=List.getElem?_eq_getElem _
 have hla:=ok.l1 _ (ba (show a<g.2.2.2.1.length by omega))
 generalize g.2.2.2.1[a]'(by omega)=la at ha hla
 simp only[aa,ha,hi]
 refine aZ (λm x q=>∃ b:Nat,x=((),((b:Int),()))/\m+b=la.2.length/\¬r∈la.2.take b/\(a=i->b<=k)/\q=some ((decide (r∈ahead g i++l.2.take k),()),())) ?_ N0 la.2.length _ _ (by unfold N0;omega) ⟨0,rfl,rfl,by simp,λ_=>aC _,rfl⟩
 rintro m2 x q ⟨b,rfl,hm2,hnb,hbk,rfl⟩ k2 hk2
 simp only[aa]
 rw[if_pos (by omega)]
 rcases ak b la.2.length with hb|hb
 ·rw[decide_eq_true (show(b:Int)<((la.2.length:Nat):Int) by omega),cond_true]
  have hgb:la.2[b]?=some la.2[b]:=List.getElem?_eq_getElem hb
  have htk:la.2.take (b+1)=la.2.take b++[la.2[b]]:=by rw[jE,hgb];rfl
  have hin:la.2[b]∈la.2:=ba hb
  simp only[hgb,hk]
  generalize la.2[b]=rb at htk hin hgb
  refine aY ((),(decide (a=i/\k<=b),())) (λK=>?_) ?_
  ·by_cases e:a=i
   ·rw[decide_eq_true (show(a:Int)=(i:Int) by omega),cond_true]
    have:decide ((k:Int)<=(b:Int))=decide (a=i/\k<=b):=by rw[decide_eq_decide];omega
    rw[this]
   ·rw[decide_eq_false (show ¬(a:Int)=(i:Int) by omega),cond_false,decide_eq_false (λh=>e h.1)]
  ·simp only
   by_cases e:a=i/\k<=b
   ·rw[decide_eq_true e,cond_true]
    obtain⟨rfl,hkb⟩:=e
    have hbk:=hbk rfl
    have:b=k:=by omega
    subst this
    rw[hi]at ha
    injection ha with ha
    subst ha
    rw[decide_eq_false (λh=>(au.1 h).elim hna hnb)]
   ·rw[decide_eq_false e,cond_false,if_pos (by omega),if_pos (by omega),if_pos (by omega),if_pos (by omega)]
    by_cases er:rb=r
    ·subst er
     rw[decide_eq_true rfl,cond_true,decide_eq_true]
     by_cases eai:a=i
     ·subst eai
      rw[hi]at ha
      injection ha with ha
      subst ha
      refine au.2 (.inr (List.mem_iff_getElem?.2 ⟨b,?_⟩))
      rw[List.getElem?_take,if_pos (by omega),hgb]
     ·exact au.2 (.inl (HD.2 ⟨a,la,by omega,ha,hin⟩))
    ·rw[decide_eq_false er,cond_false,bc hb (le_max hla)]
     refine hk2 (m2-1) _ _ (by omega) ⟨b+1,rfl,by omega,?_,λh=>by omega,rfl⟩
     rw[htk]
     intro h
     rcases au.1 h with h|h
     ·exact hnb h
     ·simp at h;exact er h.symm
 ·rw[decide_eq_false (show ¬(b:Int)<((la.2.length:Nat):Int) by omega),cond_false,bc (show a<g.2.2.2.1.length by omega) (le_max h0)]
  have:b=la.2.length:=by omega
  subst this
  rw[cE]at hnb
  have wX:¬r∈ahead g (a+1):=by
   rw[ve ha]
   intro h
   exact(au.1 h).elim hna hnb
  have Yi:a<i:=by
   rcases ak a i with h|h
   ·exact h
   ·exfalso
    have:a=i:=by omega
    subst this
    rw[hi]at ha
    injection ha with ha
    subst ha
    have:=hbk rfl
    omega
  exact hkk (m-1) _ _ (by omega) ⟨a+1,rfl,by omega,by omega,wX,rfl⟩
theorem R1{g:GrI}(ok:tk g){i:Nat}{l:LvI}(hi:g.2.2.2.1[i]?=some l):p80 N0 (g,((i:Int),()))=some ((qv g i l,()),()):=by
 have hl:=ok.l1 _ (List.mem_of_getElem? hi)
 delta p80 Ld Bd Wi
 simp only
 rw[if_pos (by omega),aa,hi]
 simp only
 refine aY ((),(decide (l.1<1\/3<l.1\/l.2.length=0\/60<=i),())) (λK=>?_) ?_
 ·by_cases q1:l.1<1
  ·rw[decide_eq_true q1,cond_true,decide_eq_true (.inl q1)]
  rw[decide_eq_false q1,cond_false]
  by_cases q2:3<l.1
  ·rw[decide_eq_true q2,cond_true,decide_eq_true (.inr (.inl q2))]
  rw[decide_eq_false q2,cond_false]
  by_cases q3:l.2.length=0
  ·rw[decide_eq_true (show((l.2.length:Nat):Int)=0 by omega),cond_true,decide_eq_true (.inr (.inr (.inl q3)))]
  rw[decide_eq_false (show ¬((l.2.length:Nat):Int)=0 by omega),cond_false]
  have:decide ((60:Int)<=(i:Int))=decide (l.1<1\/3<l.1\/l.2.length=0\/60<=i):=by rw[decide_eq_decide];omega
  rw[this]
 ·simp only
  unfold qv
  by_cases q:l.1<1\/3<l.1\/l.2.length=0\/60<=i
  ·rw[decide_eq_true q,cond_true,if_pos q]
  rw[decide_eq_false q,cond_false,if_neg q]
  refine(sb l.2 (λj=>((),((j:Int),()))) (vf g i l) (λe _=>some ((e,()),())) (some ((0,()),())) (λj h k=>?_) (λk=>?_) N0 (ie hl)).trans ?_
  ·simp only
   have hg:l.2[j]?=some l.2[j]:=List.getElem?_eq_getElem h
   rw[decide_eq_true (show(j:Int)<((l.2.length:Nat):Int) by omega),cond_true,if_pos (by omega),aa,hg]
   generalize l.2[j]=r at hg
   simp only
   rw[ae (yO g _)]
   simp only
   unfold vf
   cases hs:fZ g (false,r)
   ·rw[aI,cond_true,if_pos rfl,if_neg (by omega)]
   rw[aA,cond_false,if_neg (show ¬(true=false) by simp),ae (O5 ok hi hg)]
   simp only
   by_cases hr:r∈ahead g i++l.2.take j
   ·rw[if_pos hr,decide_eq_true hr,cond_true,if_neg (by omega)]
   ·rw[if_neg hr,decide_eq_false hr,cond_false,if_pos rfl,bc h (le_max hl)]
  ·simp only
   rw[decide_eq_false (by omega),cond_false]
  ·cases cJ (vf g i l) 0 l.2 <;> rfl
def EW(g:GrI):Flt:=if g.2.2.2.2<0\/(g.2.1.length:Int)<=g.2.2.2.2 then(11,(5,0))else(0,(0,0))
def BB(g:GrI):Flt:=match cJ (qv g) 0 g.2.2.2.1 with
 |some p=>(p.1,(4,(p.2:Int)))
 |none=>EW g
def BC(g:GrI):Flt:=if 200<g.2.2.1.length then(6,(3,(g.2.2.1.length:Int)))else match cJ (mI g) 0 g.2.2.1 with
 |some p=>(p.1,(3,(p.2:Int)))
 |none=>BB g
def BD(g:GrI):Flt:=if 300<g.2.1.length then(6,(2,(g.2.1.length:Int)))else match cJ (j7 g) 0 g.2.1 with
 |some p=>(p.1,(2,(p.2:Int)))
 |none=>BC g
def eS(g:GrI):Flt:=
 if ¬(lJ g.1).2=0 then((lJ g.1).2,(1,((lJ g.1).1:Int)))else BD g
def gP(v:Flt):Option ((Int×(Int×(Int×Unit)))×Unit):=some ((v.1,(v.2.1,(v.2.2,()))),())
theorem oJ{α:Type}{E:Nat->α->Int}:∀ {l:List α} {i:Nat} {p:Int×Nat},cJ E i l=some p->¬p.1=0:=by
 intro l
 induction l with
 |nil=>intro i p h;cases h
 |cons a r ih=>
  intro i p h
  simp only[cJ]at h
  split at h
  ·exact ih h
  ·rename_i hn;injection h with h;rw[<-h];exact hn
theorem KQ{g:GrI}(ok:tk g)(h12:∀ r∈g.1,r.2.2.length<=12):p43 N0 (g,())=some ((eS g,()),()):=by
 delta p43 Bd Wi;unfold eS
 simp only
 rw[ae (RU (le_max ok.r0) ok.r1 h12)]
 simp only
 by_cases e1:(lJ g.1).2=0
 case neg=>rw[decide_eq_false e1,aI,cond_true,if_pos e1]
 rw[decide_eq_true e1,aA,cond_false,if_neg (show ¬¬(lJ g.1).2=0 from λh=>h e1),ae (RW ok)]
 simp only
 unfold BD
 by_cases e2:300<g.2.1.length
 ·rw[if_pos e2,if_pos e2];rfl
 rw[if_neg e2,if_neg e2]
 cases e3:cJ (j7 g) 0 g.2.1 with
 |some p=>
  simp only
  rw[decide_eq_false (oJ e3),aI,cond_true]
 |none=>
 simp only
 rw[decide_true,aA,cond_false]
 unfold BC
 by_cases e4:200<g.2.2.1.length
 ·rw[decide_eq_true (show(200:Int)<((g.2.2.1.length:Nat):Int) by omega),cond_true,if_pos e4]
 rw[decide_eq_false (show ¬(200:Int)<((g.2.2.1.length:Nat):Int) by omega),cond_false,if_neg e4]
 refine(sb g.2.2.1 (λj=>((((0:Int),((0:Int),(0:Int))),()),((j:Int),()))) (mI g) (λe j=>some (((e,(3,(j:Int))),()),())) (some ((BB g,()),())) (λj h k=>?_) (λk=>?_) N0 (ie ok.p0)).trans ?_
 ·simp only
  rw[decide_eq_true (show(j:Int)<((g.2.2.1.length:Nat):Int) by omega),cond_true,ae (RY ok (List.getElem?_eq_getElem h))]
  simp only
  by_cases e:mI g j g.2.2.1[j]=0
  ·rw[decide_eq_true e,aA,cond_false,if_pos e,bc h (le_max ok.p0)]
  ·rw[decide_eq_false e,aI,cond_true,if_neg e]
 ·simp only
  rw[decide_eq_false (by omega),cond_false,ae (R0 ok)]
  simp only
  unfold BB
  cases e5:cJ (qv g) 0 g.2.2.2.1 with
  |some p=>
   simp only
   rw[decide_eq_false (oJ e5),aI,cond_true]
  |none=>
   simp only
   rw[decide_true,aA,cond_false]
   refine aY ((((0:Int),((0:Int),(0:Int))),()),(decide (g.2.2.2.2<0\/(g.2.1.length:Int)<=g.2.2.2.2),())) (λK=>?_) ?_
   ·by_cases q1:g.2.2.2.2<0
    ·rw[decide_eq_true q1,cond_true,decide_eq_true (.inl q1)]
    ·rw[decide_eq_false q1,cond_false]
     have:decide (g.2.2.2.2<0\/(g.2.1.length:Int)<=g.2.2.2.2)=decide ((g.2.1.length:Int)<=g.2.2.2.2):=by rw[decide_eq_decide];exact⟨λh=>h.resolve_left q1,.inr⟩
     rw[this]
   ·simp only
    unfold EW
    by_cases q:g.2.2.2.2<0\/(g.2.1.length:Int)<=g.2.2.2.2
    ·rw[decide_eq_true q,cond_true,if_pos q]
    ·rw[decide_eq_false q,cond_false,if_neg q]
 ·cases cJ (mI g) 0 g.2.2.1 <;> rfl
theorem KR{g:GrI}(ok:tk g):p37 N0 (g,())=some (((eS g).1,((eS g).2.1,((eS g).2.2,()))),()):=by
 delta p37 Bd Wi;unfold eS
 simp only
 rw[ae (RT (le_max ok.r0) ok.r1)]
 simp only
 by_cases e1:(lJ g.1).2=0
 case neg=>rw[decide_eq_false e1,aI,cond_true,if_pos e1]
 rw[decide_eq_true e1,aA,cond_false,if_neg (show ¬¬(lJ g.1).2=0 from λh=>h e1)]
 show _=gP (BD g)
 unfold BD
 by_cases e2:300<g.2.1.length
 ·rw[decide_eq_true (show(300:Int)<((g.2.1.length:Nat):Int) by omega),cond_true,if_pos e2];rfl
 rw[decide_eq_false (show ¬(300:Int)<((g.2.1.length:Nat):Int) by omega),cond_false,if_neg e2]
 refine(sb g.2.1 (λj=>((),((j:Int),()))) (j7 g) (λe j=>gP (e,(2,(j:Int)))) (gP (BC g)) (λj h k=>?_) (λk=>?_) N0 (ie ok.s0)).trans ?_
 ·simp only
  rw[decide_eq_true (show(j:Int)<((g.2.1.length:Nat):Int) by omega),cond_true,ae (RX ok (List.getElem?_eq_getElem h))]
  simp only
  by_cases e:j7 g j g.2.1[j]=0
  ·rw[decide_eq_true e,aA,cond_false,if_pos e,bc h (le_max ok.s0)]
  ·rw[decide_eq_false e,aI,cond_true,if_neg e];rfl
 ·simp only
  rw[decide_eq_false (by omega),cond_false]
  unfold BC
  by_cases e4:200<g.2.2.1.length
  ·rw[decide_eq_true (show(200:Int)<((g.2.2.1.length:Nat):Int) by omega),cond_true,if_pos e4];rfl
  rw[decide_eq_false (show ¬(200:Int)<((g.2.2.1.length:Nat):Int) by omega),cond_false,if_neg e4]
  refine(sb g.2.2.1 (λj=>((),((j:Int),()))) (mI g) (λe j=>gP (e,(3,(j:Int)))) (gP (BB g)) (λj h k=>?_) (λk=>?_) N0 (ie ok.p0)).trans ?_
  ·simp only
   rw[decide_eq_true (show(j:Int)<((g.2.2.1.length:Nat):Int) by omega),cond_true,ae (RZ ok (List.getElem?_eq_getElem h))]
   simp only
   by_cases e:mI g j g.2.2.1[j]=0
   ·rw[decide_eq_true e,aA,cond_false,if_pos e,bc h (le_max ok.p0)]
   ·rw[decide_eq_false e,aI,cond_true,if_neg e];rfl
  ·simp only
   rw[decide_eq_false (by omega),cond_false]
   unfold BB
   refine(sb g.2.2.2.1 (λj=>((),((j:Int),()))) (qv g) (λe j=>gP (e,(4,(j:Int)))) (gP (EW g)) (λj h k=>?_) (λk=>?_) N0 (ie ok.l0)).trans ?_
   ·simp only
    rw[decide_eq_true (show(j:Int)<((g.2.2.2.1.length:Nat):Int) by omega),cond_true,ae (R1 ok (List.getElem?_eq_getElem h))]
    simp only
    by_cases e:qv g j g.2.2.2.1[j]=0
    ·rw[decide_eq_true e,aA,cond_false,if_pos e,bc h (le_max ok.l0)]
    ·rw[decide_eq_false e,aI,cond_true,if_neg e];rfl
   ·simp only
    rw[decide_eq_false (by omega),cond_false]
    refine aY ((),(decide (g.2.2.2.2<0\/(g.2.1.length:Int)<=g.2.2.2.2),())) (λK=>?_) ?_
    ·by_cases q1:g.2.2.2.2<0
     ·rw[decide_eq_true q1,cond_true,decide_eq_true (.inl q1)]
     ·rw[decide_eq_false q1,cond_false]
      have:decide (g.2.2.2.2<0\/(g.2.1.length:Int)<=g.2.2.2.2)=decide ((g.2.1.length:Int)<=g.2.2.2.2):=by rw[decide_eq_decide];exact⟨λh=>h.resolve_left q1,.inr⟩
      rw[this]
    ·simp only
     unfold EW
     by_cases q:g.2.2.2.2<0\/(g.2.1.length:Int)<=g.2.2.2.2
     ·rw[decide_eq_true q,cond_true,if_pos q];rfl
     ·rw[decide_eq_false q,cond_false,if_neg q];rfl
   ·cases cJ (qv g) 0 g.2.2.2.1 <;> rfl
  ·cases cJ (mI g) 0 g.2.2.1 <;> rfl
 ·cases cJ (j7 g) 0 g.2.1 <;> rfl
end
end Go.Proofs.YtphipehmbefejaaGreat.Rf
namespace Go.Proofs.YtphipehmbefejaaGreat.Rf.Rk
open Go Go.Proofs.YtphipehmbefejaaGreat.Rf
noncomputable section
abbrev Lvl:=Int×List Int
abbrev Prd:=Int×(List Int×(List (Bool×Int)×(Bool×(Int×List Int))))
abbrev Grm:=List (List Int×(Int×List Int))×(List (List Int)×(List Prd×(List Lvl×Int)))
structure GOk(g:Grm):Prop where
 ls:g.2.2.2.1.length<=maxLen
 lr:∀ l∈g.2.2.2.1,l.2.length<=maxLen
 ps:g.2.2.1.length<=maxLen
 pb:∀ p∈g.2.2.1,p.2.2.1.length<=maxLen
 rs:g.1.length<=maxLen
 so:g.2.1.length<=maxLen
def Dg(r:List Int×(Int×List Int)):Bool:=decide (r.2.2.length<=40)&&decide (r.1.length<=100)
def vg(l:List (List Int×(Int×List Int))):Bool:=decide (l.length<=20)&&l.all Dg
theorem R2(l:List (List Int×(Int×List Int)))(hl:l.length<=maxLen):p57 N0 (l,())=some ((vg l,()),()):=by
 delta p57 Ld Bd Wi;unfold vg
 simp only[aH,bM,decide_eq_true_eq]
 by_cases h1:(20:Int)<(l.length:Int)
 ·have:¬l.length<=20:=by omega
  simp[h1,this]
 ·have h2:l.length<=20:=by omega
  simp only[h1,h2,if_false,decide_true,bG]
  refine bE (λj=>((),((j:Int),()))) (λj=>some (((l.drop j).all Dg,()),())) l.length (λj hj k hk=>?_) N0 0 (aC _) (by have:=ic hl;omega)
  rcases ak j l.length with hi|hi
  ·have hk:=hk hi
   have hc:(j:Int)<(l.length:Int):=by omega
   simp only[hc,if_true,aa,aJ,List.getElem?_eq_getElem hi,bc hi hl,cL hi,oh,hk]
   generalize l[j]=r
   unfold Dg
   by_cases h3:(40:Int)<(r.2.2.length:Int)
   ·have:¬r.2.2.length<=40:=by omega
    simp[h3,this]
   ·have h4:r.2.2.length<=40:=by omega
    by_cases h5:(100:Int)<(r.1.length:Int)
    ·have:¬r.1.length<=100:=by omega
     simp[h3,h5,this]
    ·have:r.1.length<=100:=by omega
     simp[h3,h4,h5,this]
  ·have hc:¬(j:Int)<(l.length:Int):=by omega
   simp[hc,eo hi]
def vj(p:Prd):Bool:=decide (p.2.2.1.length<=20)&&(decide (p.2.2.2.2.2.length<=20)&&decide (p.2.1.length<=100))
def few(g:Grm):Bool:=vg g.1&&(decide (g.2.1.length<=20)&&(decide (g.2.2.1.length<=40)&&(decide (g.2.2.2.1.length<=20)&&(g.2.1.all (λs=>decide (s.length<=100))&&(g.2.2.1.all vj&&g.2.2.2.1.all (λl=>decide (l.2.length<=20)))))))
theorem R3(g:Grm)(hg:GOk g):p35 N0 (g,())=some ((few g,()),()):=by
 delta p35 Ld Bd Wi;unfold few
 simp only[aH,R2 g.1 hg.rs,aB,bM,decide_eq_true_eq]
 have e20:∀ a:Nat,((20:Int)<(a:Int))↔¬a<=20:=λa=>by omega
 have e40:∀ a:Nat,((40:Int)<(a:Int))↔¬a<=40:=λa=>by omega
 have XR:∀ a:Nat,((100:Int)<(a:Int))↔¬a<=100:=λa=>by omega
 simp only[e20,e40,XR]
 cases h1:vg g.1
 ·simp
 by_cases h2:g.2.1.length<=20
 case neg=>simp[h2]
 by_cases h3:g.2.2.1.length<=40
 case neg=>simp[h2,h3]
 by_cases h4:g.2.2.2.1.length<=20
 case neg=>simp[h2,h3,h4]
 simp only[h2,h3,h4,aA,not_true,ap,if_false,decide_false,decide_true,bG]
 refine(fH (after:=?a1) g.2.1 (λs=>decide (s.length<=100)) (some ((false,()),())) (λj=>((),(j:Int),())) ?s1 ?f1 N0 ?n1).trans ?_
 case f1=>intro k;simp only[oe,if_false];exact rfl
 case n1=>have:=ic hg.so;omega
 case s1=>
  intro j hj k
  have hc:(j:Int)<(g.2.1.length:Int):=by omega
  simp only[hc,if_true,aa,aJ,List.getElem?_eq_getElem hj,bc hj hg.so,e20,decide_eq_true_eq]
  split <;> simp_all
 split
 case isFalse h=>simp[h]
 case isTrue h5=>
 simp only[h5,bG]
 refine(fH (after:=?a2) g.2.2.1 vj (some ((false,()),())) (λj=>((),(j:Int),())) ?s2 ?f2 N0 ?n2).trans ?_
 case f2=>intro k;simp only[oe,if_false];exact rfl
 case n2=>have:=ic hg.ps;omega
 case s2=>
  intro j hj k
  have hc:(j:Int)<(g.2.2.1.length:Int):=by omega
  simp only[hc,if_true,aa,aJ,List.getElem?_eq_getElem hj,bc hj hg.ps,e20,vj]
  generalize g.2.2.1[j]=p
  by_cases a1:p.2.2.1.length<=20 <;> by_cases a2:p.2.2.2.2.2.length<=20 <;> by_cases a3:p.2.1.length<=100 <;> simp[a1,a2,a3]
 split
 case isFalse h=>simp[h]
 case isTrue h6=>
 simp only[h6,bG]
 refine(fH (after:=some ((true,()),())) g.2.2.2.1 (λl=>decide (l.2.length<=20)) (some ((false,()),())) (λj=>((),(j:Int),())) ?s3 ?f3 N0 ?n3).trans ?_
 case f3=>intro k;simp only[oe,if_false]
 case n3=>have:=ic hg.ls;omega
 case s3=>
  intro j hj k
  have hc:(j:Int)<(g.2.2.2.1.length:Int):=by omega
  simp only[hc,if_true,aa,aJ,List.getElem?_eq_getElem hj,bc hj hg.ls,e20,decide_eq_true_eq]
  split <;> simp_all
 split
 case isFalse h=>simp[h]
 case isTrue h7=>simp[h7]
end
noncomputable section
abbrev ItS:=Int×(Int×Int)
def ltK(x y:ItS):Prop:=x.1<y.1\/x.1=y.1/\x.2.1<y.2.1
def jc(x:ItS):Prop:=0<=x.2.2/\x.2.2<18446744073709551616
theorem pB{x y z:ItS}(h1:ltK x y)(h2:ltK y z):ltK x z:=by unfold ltK at *;omega
theorem qw{x:ItS}(h:ltK x x):False:=by unfold ltK at h;omega
theorem KS(x y:ItS):ltK x y\/(x.1=y.1/\x.2.1=y.2.1)\/ltK y x:=by unfold ltK;omega
def At(l:List ItS)(p d:Int):Option Nat->Prop
 |none=>∃ x∈l,x.1=p/\x.2.1=d
 |some b=>∃ x∈l,x.1=p/\x.2.1=d/\x.2.2.toNat.testBit b=true
theorem At.there{l:List ItS}{p d:Int}{o:Option Nat}(h:At l p d o):At l p d none:=by
 cases o with
 |none=>exact h
 |some b=>obtain⟨x,h1,h2,h3,_⟩:=h;exact⟨x,h1,h2,h3⟩
theorem jl{l m:List ItS}{p d:Int}{o:Option Nat}:At (l++m) p d o↔At l p d o\/At m p d o:=by
 cases o with
 |none=>
  constructor
  ·rintro⟨x,h1,h2⟩
   rcases au.1 h1 with h|h
   ·exact .inl ⟨x,h,h2⟩
   ·exact .inr ⟨x,h,h2⟩
  ·rintro(⟨x,h1,h2⟩|⟨x,h1,h2⟩)
   ·exact⟨x,au.2 (.inl h1),h2⟩
   ·exact⟨x,au.2 (.inr h1),h2⟩
 |some b=>
  constructor
  ·rintro⟨x,h1,h2⟩
   rcases au.1 h1 with h|h
   ·exact .inl ⟨x,h,h2⟩
   ·exact .inr ⟨x,h,h2⟩
  ·rintro(⟨x,h1,h2⟩|⟨x,h1,h2⟩)
   ·exact⟨x,au.2 (.inl h1),h2⟩
   ·exact⟨x,au.2 (.inr h1),h2⟩
theorem Dh{p d:Int}{o:Option Nat}:¬At [] p d o:=by
 cases o with
 |none=>rintro⟨x,h,_⟩;cases h
 |some b=>rintro⟨x,h,_⟩;cases h
structure Can(A:Int->Int->Option Nat->Prop)(l:List ItS):Prop where
 st:l.Pairwise ltK
 bd:∀ x∈l,jc x
 at':∀ p d o,At l p d o↔A p d o
theorem pC{l:List ItS}(h:l.Pairwise ltK):∀ x∈l,∀ y∈l,x.1=y.1->x.2.1=y.2.1->x=y:=by
 induction l with
 |nil=>intro x hx;cases hx
 |cons a l ih=>
  obtain⟨h1,h2⟩:=dC.1 h
  intro x hx y hy e1 e2
  rcases ay.1 hx with k1|k1 <;> rcases ay.1 hy with k2|k2
  ·rw[k1,k2]
  ·have:=h1 y k2;unfold ltK at this;subst k1;omega
  ·have:=h1 x k1;unfold ltK at this;subst k2;omega
  ·exact ih h2 x k1 y k2 e1 e2
theorem vk:∀ {l m:List ItS},l.Pairwise ltK->m.Pairwise ltK->(∀ x,x∈l↔x∈m)->l=m
 |[],[],_,_,_=>rfl
 |[],b::m,_,_,h=>by have:=(h b).2 bm;cases this
 |a::l,[],_,_,h=>by have:=(h a).1 bm;cases this
 |a::l,b::m,h1,h2,h=>by
  obtain⟨p1,p2⟩:=dC.1 h1
  obtain⟨q1,q2⟩:=dC.1 h2
  have e:a=b:=by
   rcases ay.1 ((h a).1 bm)with e|ha
   ·exact e
   rcases ay.1 ((h b).2 bm)with e|hb
   ·exact e.symm
   exact(qw (pB (p1 b hb) (q1 a ha))).elim
  subst e
  have:=vk p2 q2 (λx=>by
   constructor
   ·intro hx
    rcases ay.1 ((h x).1 (bw _ hx))with rfl|hm
    ·exact(qw (p1 x hx)).elim
    ·exact hm
   ·intro hx
    rcases ay.1 ((h x).2 (bw _ hx))with rfl|hm
    ·exact(qw (q1 x hx)).elim
    ·exact hm)
  rw[this]
theorem Can.BE{A:Int->Int->Option Nat->Prop}{l m:List ItS}(h:Can A l)(k:Can A m):l=m:=by
 have half:∀ {l m:List ItS},Can A l->Can A m->∀ x∈l,x∈m:=by
  intro l m h k x hx
  obtain⟨y,hy,e1,e2⟩:=(k.at' x.1 x.2.1 none).2 ((h.at' _ _ _).1 ⟨x,hx,rfl,rfl⟩)
  have X6:x.2.2.toNat=y.2.2.toNat:=by
   refine fK λb=>?_
   rw[bZ]
   constructor
   ·intro hb
    obtain⟨z,hz,f1,f2,f3⟩:=(k.at' x.1 x.2.1 (some b)).2 ((h.at' _ _ _).1 ⟨x,hx,rfl,rfl,hb⟩)
    rw[<-pC k.st z hz y hy (by omega) (by omega)];exact f3
   ·intro hb
    obtain⟨z,hz,f1,f2,f3⟩:=(h.at' x.1 x.2.1 (some b)).2 ((k.at' _ _ _).1 ⟨y,hy,e1,e2,hb⟩)
    rw[<-pC h.st z hz x hx (by omega) (by omega)];exact f3
  have b1:=h.bd x hx
  have b2:=k.bd y hy
  unfold jc at b1 b2
  have:x=y:=by
   obtain⟨a,b,c⟩:=x
   obtain⟨a',b',c'⟩:=y
   simp only at *
   rw[e1,e2,show c=c' by omega]
  rw[this];exact hy
 exact vk h.st k.st λx=>⟨half h k x,half k h x⟩
theorem Can.congr{A B:Int->Int->Option Nat->Prop}{l:List ItS}(h:Can A l)(e:∀ p d o,A p d o↔B p d o):Can B l:=⟨h.st,h.bd,λp d o=>(h.at' p d o).trans (e p d o)⟩
def orI(a b:Int):Int:=((a.toNat|||b.toNat:Nat):Int)
def U64(a:Int):Prop:=0<=a/\a<18446744073709551616
theorem mJ{a b:Int}(ha:U64 a)(hb:U64 b):U64 (orI a b):=by
 unfold orI U64 at *
 have:=qW (x:=a.toNat) (y:=b.toNat) (n:=64) (by omega) (by omega)
 have e:(2:Nat) ^ 64=18446744073709551616:=by decide
 omega
theorem dL(a b:Int)(n:Nat):(orI a b).toNat.testBit n=(a.toNat.testBit n||b.toNat.testBit n):=by
 unfold orI
 rw[aa,kW]
theorem vm{a:Int}(h:0<=a):orI a 0=a:=by unfold orI;simp;omega
theorem KT{a:Int}(h:0<=a):orI 0 a=a:=by unfold orI;simp;omega
theorem BF{a b:Int}(ha:U64 a)(hb:U64 b)(h:∀ n,n<64->a.toNat.testBit n=b.toNat.testBit n):a=b:=by
 unfold U64 at *
 have e:(2:Nat) ^ 64=18446744073709551616:=by decide
 have:a.toNat=b.toNat:=by
  refine fK λn=>?_
  rcases ak n 64 with h1|h1
  ·exact h n h1
  ·have hp:18446744073709551616<=2 ^ n:=by rw[<-e];exact iu (by omega) h1
   rw[jB (by omega),jB (by omega)]
 omega
theorem PV{a:Int}(ha:U64 a){n:Nat}(h:a.toNat.testBit n=true):n<64:=by
 unfold U64 at ha
 rcases ak n 64 with h1|h1
 ·exact h1
 ·have e:(2:Nat) ^ 64=18446744073709551616:=by decide
  have hp:18446744073709551616<=2 ^ n:=by rw[<-e];exact iu (by omega) h1
  rw[jB (by omega)]at h
  cases h
theorem EX{A:Int->Int->Option Nat->Prop}{X Y:List ItS}{x:ItS}(h:Can A (X++Y))(hx:jc x)(h1:∀ a∈X,ltK a x)(h2:∀ b∈Y,ltK x b):
 Can (λp d o=>A p d o\/At [x] p d o) (X++x::Y):=by
 refine⟨?_,?_,λp d o=>?_⟩
 ·have:=gC.1 h.st
  refine gC.2 ⟨this.1,dC.2 ⟨h2,this.2.1⟩,λa ha b hb=>?_⟩
  rcases ay.1 hb with rfl|hb
  ·exact h1 a ha
  ·exact this.2.2 a ha b hb
 ·intro y hy
  rcases au.1 hy with hy|hy
  ·exact h.bd y (au.2 (.inl hy))
  ·rcases ay.1 hy with rfl|hy
   ·exact hx
   ·exact h.bd y (au.2 (.inr hy))
 ·rw[<-h.at',show X++x::Y=X++([x]++Y)from rfl,jl,jl,jl]
  constructor
  ·rintro(h|h|h)
   ·exact .inl (.inl h)
   ·exact .inr h
   ·exact .inl (.inr h)
  ·rintro((h|h)|h)
   ·exact .inl h
   ·exact .inr (.inr h)
   ·exact .inr (.inl h)
theorem R4{A:Int->Int->Option Nat->Prop}{X Y:List ItS}{x y:ItS}(h:Can A (X++y::Y))(hx:jc x)(e1:y.1=x.1)(e2:y.2.1=x.2.1):
 Can (λp d o=>A p d o\/At [x] p d o) (X++(y.1,(y.2.1,orI y.2.2 x.2.2))::Y):=by
 have hy:=h.bd y (by simp)
 have hs:=gC.1 h.st
 have hs2:=dC.1 hs.2.1
 refine⟨?_,?_,λp d o=>?_⟩
 ·refine gC.2 ⟨hs.1,dC.2 ⟨λb hb=>hs2.1 b hb,hs2.2⟩,λa ha b hb=>?_⟩
  rcases ay.1 hb with rfl|hb
  ·exact hs.2.2 a ha y bm
  ·exact hs.2.2 a ha b (bw _ hb)
 ·intro z hz
  rcases au.1 hz with hz|hz
  ·exact h.bd z (au.2 (.inl hz))
  ·rcases ay.1 hz with rfl|hz
   ·exact mJ hy hx
   ·exact h.bd z (by simp[hz])
 ·have key:At [(y.1,(y.2.1,orI y.2.2 x.2.2))] p d o↔At [y] p d o\/At [x] p d o:=by
   cases o with
   |none=>simp[At,e1,e2]
   |some b=>
    simp only[At,aL,exists_eq_left,dL,aG,e1,e2]
    constructor
    ·rintro⟨h1,h2,h3|h3⟩
     ·exact .inl ⟨h1,h2,h3⟩
     ·exact .inr ⟨h1,h2,h3⟩
    ·rintro(⟨h1,h2,h3⟩|⟨h1,h2,h3⟩)
     ·exact⟨h1,h2,.inl h3⟩
     ·exact⟨h1,h2,.inr h3⟩
  rw[<-h.at',show X++(y.1,(y.2.1,orI y.2.2 x.2.2))::Y=X++([(y.1,(y.2.1,orI y.2.2 x.2.2))]++Y)from rfl,show X++y::Y=X++([y]++Y)from rfl,jl,jl,jl,jl,key]
  constructor
  ·rintro(h|(h|h)|h)
   ·exact .inl (.inl h)
   ·exact .inl (.inr (.inl h))
   ·exact .inr h
   ·exact .inl (.inr (.inr h))
  ·rintro((h|h|h)|h)
   ·exact .inl h
   ·exact .inr (.inl (.inl h))
   ·exact .inr (.inr h)
   ·exact .inr (.inl (.inr h))
theorem EY:Can (λ_ _ _=>False) []:=⟨.nil,(λx h=>by cases h),λp d o=>⟨λh=>Dh h,λh=>h.elim⟩⟩
end
noncomputable section
abbrev Ato:=Int->Int->Option Nat->Prop
section
variable (st:Int->Int->Int->Prop) (fs:Int->Int->Nat->Prop) (nl:Int->Int->Prop)
def Stp(A:Ato):Ato:=λq d' o=>d'=0/\match o with
 |none=>∃ p d,A p d none/\st p d q
 |some b=>∃ p d,st p d q/\(A p d none/\fs p d b\/A p d (some b)/\nl p d)
inductive Cl(B:Ato):Int->Int->Option Nat->Prop
 |base {p d o}:B p d o->Cl B p d o
 |there {p d q}:Cl B p d none->st p d q->Cl B q 0 none
 |first {p d q b}:Cl B p d none->st p d q->fs p d b->Cl B q 0 (some b)
 |look {p d q b}:Cl B p d (some b)->st p d q->nl p d->Cl B q 0 (some b)
variable {st fs nl}
theorem Cl.stp{B:Ato}{p d:Int}{o:Option Nat}(h:Stp st fs nl (Cl st fs nl B) p d o):Cl st fs nl B p d o:=by
 obtain⟨rfl,h⟩:=h
 cases o with
 |none=>obtain⟨p',d',h1,h2⟩:=h;exact .there h1 h2
 |some b=>
  obtain⟨p',d',h1,h2|h2⟩:=h
  ·exact .first h2.1 h1 h2.2
  ·exact .look h2.1 h1 h2.2
theorem Cl.least{B A:Ato}(hB:∀ p d o,B p d o->A p d o)(hA:∀ p d o,Stp st fs nl A p d o->A p d o){p d:Int}{o:Option Nat}(h:Cl st fs nl B p d o):A p d o:=by
 induction h with
 |base h=>exact hB _ _ _ h
 |there _ h2 ih=>exact hA _ _ _ ⟨rfl,_,_,ih,h2⟩
 |first _ h2 h3 ih=>exact hA _ _ _ ⟨rfl,_,_,h2,.inl ⟨ih,h3⟩⟩
 |look _ h2 h3 ih=>exact hA _ _ _ ⟨rfl,_,_,h2,.inr ⟨ih,h3⟩⟩
theorem Stp.mono{A A':Ato}(h:∀ p d o,A p d o->A' p d o){p d:Int}{o:Option Nat}(k:Stp st fs nl A p d o):Stp st fs nl A' p d o:=by
 obtain⟨rfl,k⟩:=k
 refine⟨rfl,?_⟩
 cases o with
 |none=>obtain⟨p',d',h1,h2⟩:=k;exact⟨p',d',h _ _ _ h1,h2⟩
 |some b=>
  obtain⟨p',d',h1,h2|h2⟩:=k
  ·exact⟨p',d',h1,.inl ⟨h _ _ _ h2.1,h2.2⟩⟩
  ·exact⟨p',d',h1,.inr ⟨h _ _ _ h2.1,h2.2⟩⟩
theorem Cl.mono{B B':Ato}(h:∀ p d o,B p d o->B' p d o){p d:Int}{o:Option Nat}(k:Cl st fs nl B p d o):Cl st fs nl B' p d o:=
 Cl.least (λp d o hb=>.base (h p d o hb)) (λp d o hs=>Cl.stp hs) k
end
def hP{α:Type}(U:List α)(P:α->Prop):Nat:=by
 classical exact U.countP λu=>!decide (P u)
theorem qx{α:Type}{U:List α}{P Q:α->Prop}(h:∀ u∈U,P u->Q u):hP U Q<=hP U P:=by
 classical
 unfold hP
 refine List.countP_mono_left λu hu hq=>?_
 simp only[bx,decide_eq_false_iff_not]at *
 exact λhp=>hq (h u hu hp)
theorem jd{α:Type}(U:List α)(P:α->Prop):hP U P<=U.length:=by
 unfold hP
 exact List.countP_le_length
theorem oK{α:Type}{U:List α}{P Q:α->Prop}(h:∀ u∈U,P u->Q u){a:α}(ha:a∈U)(hp:¬P a)(hq:Q a):hP U Q<hP U P:=by
 classical
 induction U with
 |nil=>cases ha
 |cons b U ih=>
  have hle:hP U Q<=hP U P:=qx λu hu=>h u (bw _ hu)
  have e:∀ R:α->Prop,hP (b::U) R=hP U R+(if R b then 0 else 1):=λR=>by
   unfold hP
   rw[qZ]
   by_cases hr:R b <;> simp[hr]
  rw[e,e]
  rcases ay.1 ha with rfl|ha
  ·rw[if_pos hq,if_neg hp];omega
  ·have:=ih (λu hu=>h u (bw _ hu)) ha
   by_cases hb:P b
   ·rw[if_pos hb,if_pos (h b bm hb)];omega
   ·rw[if_neg hb]
    split <;> omega
structure InU(k:Nat)(p d:Int)(o:Option Nat):Prop where
 p0:0<=p
 p1:p<=k
 d0:0<=d
 d1:d<=20
 b:∀ b,o=some b->b<64
def wu(k:Nat):List (Nat×Nat×Nat):=(List.range (k+1)).flatMap λp=>(List.range 21).flatMap λd=>(List.range 65).map λb=>(p,d,b)
def ofB:Nat->Option Nat
 |0=>none
 |b+1=>some b
def onU(A:Ato)(u:Nat×Nat×Nat):Prop:=A u.1 u.2.1 (ofB u.2.2)
theorem KU{k:Nat}{p d:Int}{o:Option Nat}(h:InU k p d o):∃ u∈wu k,(u.1:Int)=p/\(u.2.1:Int)=d/\ofB u.2.2=o:=by
 have h1:=h.p0
 have h2:=h.p1
 have h3:=h.d0
 have h4:=h.d1
 refine⟨(p.toNat,d.toNat,match o with|none=>0|some b=>b+1),?_,by show(p.toNat:Int)=p;omega,by show(d.toNat:Int)=d;omega,by cases o <;> rfl⟩
 unfold wu
 refine dD.2 ⟨p.toNat,cz.2 (by omega),dD.2 ⟨d.toNat,cz.2 (by omega),fM.2 ⟨_,cz.2 ?_,rfl⟩⟩⟩
 cases o with
 |none=>simp
 |some b=>have:=h.b b rfl;show b+1<65;omega
theorem KW(k:Nat):(wu k).length=(k+1)*1365:=by
 unfold wu
 simp[List.length_flatMap,nZ]
theorem KX{k:Nat}{A A':Ato}{l l':List ItS}(h:Can A l)(h':Can A' l')(hs:∀ p d o,A p d o->A' p d o)(hU:∀ p d o,A' p d o->InU k p d o)(hne:l≠l'):hP (wu k) (onU A')<hP (wu k) (onU A):=by
 have:∃ p d o,A' p d o/\¬A p d o:=by
  apply ij
  intro hn
  refine hne ((h.congr λp d o=>⟨hs p d o,λha=>?_⟩).BE h')
  apply ij
  intro hna
  exact hn ⟨p,d,o,ha,hna⟩
 obtain⟨p,d,o,h1,h2⟩:=this
 obtain⟨u,hu,rfl,rfl,rfl⟩:=KU (hU _ _ _ h1)
 exact oK (λv _ hv=>hs _ _ _ hv) hu h2 h1
theorem O6{k:Nat}{A:Ato}{l:List ItS}(h:Can A l)(hU:∀ p d o,A p d o->InU k p d o):l.length<=(k+1)*21:=by
 have hp:∀ x∈l,0<=x.1/\x.1<=k/\0<=x.2.1/\x.2.1<=20:=λx hx=>by
  have:=hU _ _ _ ((h.at' x.1 x.2.1 none).1 ⟨x,hx,rfl,rfl⟩)
  exact⟨this.p0,this.p1,this.d0,this.d1⟩
 have key:∀ (l:List ItS),l.Pairwise ltK->(∀ x∈l,0<=x.1/\x.1<=k/\0<=x.2.1/\x.2.1<=20)->∀ n:Nat,(∀ x∈l,(n:Int)<=x.1*21+x.2.1)->l.length+n<=(k+1)*21\/l=[]:=by
  intro l
  induction l with
  |nil=>intro _ _ n _;exact .inr rfl
  |cons x l ih=>
   intro hs hp n hn
   obtain⟨s1,s2⟩:=dC.1 hs
   have hx:=hp x bm
   have hnx:=hn x bm
   refine .inl ?_
   rcases ih s2 (λy hy=>hp y (bw _ hy)) (n+1) (λy hy=>by
    have h1:=s1 y hy
    have h2:=hp y (bw _ hy)
    unfold ltK at h1
    omega)with h|h
   ·rw[aM];omega
   ·subst h
    show 1+n<=_
    have:x.1*21<=(k:Int)*21:=Int.mul_le_mul_of_nonneg_right hx.2.1 (by omega)
    omega
 rcases key l h.st hp 0 (λx hx=>by have:=hp x hx;omega)with h|h
 ·omega
 ·rw[h];exact aC _
end
noncomputable section
abbrev SyS:=Bool×Int
abbrev PrS:=Int×(List Int×(List SyS×(Bool×(Int×List Int))))
def inR(n:Nat)(s:Int):Bool:=decide (0<=s)&&decide (s<n)
theorem iV{n:Nat}{s:Int}:inR n s=true↔0<=s/\s<n:=by unfold inR;simp
inductive Emp(ps:List PrS)(n:Nat):Int->Prop
 |mk (p:PrS):p∈ps->inR n p.1=true->(∀ y∈p.2.2.1,y.1=true)->(∀ y∈p.2.2.1,Emp ps n y.2)->Emp ps n p.1
inductive Fst(ps:List PrS)(n:Nat):Int->Nat->Prop
 |tok (p:PrS) (pre:List SyS) (y:SyS) (post:List SyS) (b:Nat):p∈ps->inR n p.1=true->p.2.2.1=pre++y::post->(∀ z∈pre,z.1=true/\Emp ps n z.2)->y.1=false->y.2=(b:Int)->b<=63->Fst ps n p.1 b
 |sort (p:PrS) (pre:List SyS) (y:SyS) (post:List SyS) (b:Nat):p∈ps->inR n p.1=true->p.2.2.1=pre++y::post->(∀ z∈pre,z.1=true/\Emp ps n z.2)->y.1=true->Fst ps n y.2 b->Fst ps n p.1 b
theorem Emp.inR{ps:List PrS}{n:Nat}{s:Int}(h:Emp ps n s):inR n s=true:=by cases h;assumption
theorem Fst.inR{ps:List PrS}{n:Nat}{s:Int}{b:Nat}(h:Fst ps n s b):Rk.inR n s=true:=by cases h <;> assumption
theorem Fst.lt{ps:List PrS}{n:Nat}{s:Int}{b:Nat}(h:Fst ps n s b):b<64:=by
 induction h with
 |tok=>omega
 |sort=>assumption
def kj(k:Int):Int:=if 0<=k/\k<=63 then((2 ^ k.toNat:Nat):Int)else 0
theorem pD(k:Int):U64 (kj k):=by
 unfold kj U64
 split
 ·have h1:(2:Nat) ^ k.toNat<=2 ^ 63:=iu (by omega) (by omega)
  have e:(2:Nat) ^ 63=9223372036854775808:=by decide
  generalize (2:Nat) ^ k.toNat=z at *
  omega
 ·omega
theorem qy(k:Int)(b:Nat):(kj k).toNat.testBit b=true↔k=(b:Int)/\b<=63:=by
 unfold kj
 split
 ·rw[aa,kP]
  simp only[decide_eq_true_eq]
  omega
 ·simp
  omega
def eQ(n:Nat)(f:Nat->Bool)(F:Nat->Int):List SyS->Int×Bool
 |[]=>(0,true)
 |y::r=>if y.1=false then(kj y.2,false)else if inR n y.2=true then(if f y.2.toNat=true then(orI (F y.2.toNat) (eQ n f F r).1,(eQ n f F r).2)else(F y.2.toNat,false))else(0,false)
def emR(n:Nat)(f:Nat->Bool)(b:List SyS):Bool:=b.all λy=>y.1&&inR n y.2&&f y.2.toNat
variable {n:Nat} {f:Nat->Bool} {F:Nat->Int}
theorem iM(h:∀ i,U64 (F i)):∀ b,U64 (eQ n f F b).1
 |[]=>⟨by show(0:Int)<=0;omega,by show(0:Int)<_;omega⟩
 |y::r=>by
  unfold eQ
  split
  ·exact pD _
  ·split
   ·split
    ·exact mJ (h _) (iM h r)
    ·exact h _
   ·exact⟨by show(0:Int)<=0;omega,by show(0:Int)<_;omega⟩
theorem yQ:∀ b,(eQ n f F b).2=emR n f b
 |[]=>rfl
 |y::r=>by
  unfold eQ emR
  rw[oh]
  cases hy:y.1
  ·simp
  ·cases hr:inR n y.2
   ·simp
   ·cases hf:f y.2.toNat
    ·simp
    ·simp[yQ r,emR]
theorem EZ{b:List SyS}:emR n f b=true↔∀ y∈b,y.1=true/\inR n y.2=true/\f y.2.toNat=true:=by
 unfold emR
 simp only[cD,ag,and_assoc]
def Beg(n:Nat)(f:Nat->Bool)(F:Nat->Int)(body:List SyS)(b:Nat):Prop:=
 ∃ pre y post,body=pre++y::post/\(∀ z∈pre,z.1=true/\inR n z.2=true/\f z.2.toNat=true)/\(y.1=false/\y.2=(b:Int)/\b<=63\/y.1=true/\inR n y.2=true/\(F y.2.toNat).toNat.testBit b=true)
theorem j8:∀ (body:List SyS) (b:Nat),(eQ n f F body).1.toNat.testBit b=true↔Beg n f F body b
 |[],b=>by
  constructor
  ·intro h;simp[eQ]at h
  ·rintro⟨pre,y,post,h,_⟩;simp at h
 |y::r,b=>by
  have ih:=j8 r b
  constructor
  ·intro h
   unfold eQ at h
   split at h
   ·rename_i hy
    rw[qy]at h
    exact⟨[],y,r,rfl,(λz hz=>by cases hz),.inl ⟨hy,h⟩⟩
   ·rename_i hy
    have hy:y.1=true:=by simpa using hy
    split at h
    ·rename_i hr
     split at h
     ·rename_i hf
      rw[dL,aG]at h
      rcases h with h|h
      ·exact⟨[],y,r,rfl,(λz hz=>by cases hz),.inr ⟨hy,hr,h⟩⟩
      ·obtain⟨pre,x,post,rfl,h1,h2⟩:=ih.1 h
       refine⟨y::pre,x,post,rfl,λz hz=>?_,h2⟩
       rcases ay.1 hz with rfl|hz
       ·exact⟨hy,hr,hf⟩
       ·exact h1 z hz
     ·exact⟨[],y,r,rfl,(λz hz=>by cases hz),.inr ⟨hy,hr,h⟩⟩
    ·simp at h
  ·rintro⟨pre,x,post,he,h1,h2⟩
   cases pre with
   |nil=>
    simp only[bL,eG]at he
    obtain⟨rfl,rfl⟩:=he
    unfold eQ
    rcases h2 with⟨hy,h2⟩|⟨hy,hr,h2⟩
    ·rw[if_pos hy,qy];exact h2
    ·rw[if_neg (by simp[hy]),if_pos hr]
     split
     ·rw[dL,h2,dP]
     ·exact h2
   |cons z pre=>
    simp only[dN,eG]at he
    obtain⟨rfl,rfl⟩:=he
    obtain⟨k1,k2,k3⟩:=h1 y bm
    unfold eQ
    rw[if_neg (by simp[k1]),if_pos k2,if_pos k3,dL,ih.2 ⟨pre,x,post,rfl,λz hz=>h1 z (bw _ hz),h2⟩,fj]
def yR(n:Nat)(f:Nat->Bool)(F:Nat->Int)(b:List SyS)(look:Int):Int:=if(eQ n f F b).2=true then orI (eQ n f F b).1 look else(eQ n f F b).1
theorem R5(h:∀ i,U64 (F i)){b:List SyS}{look:Int}(hl:U64 look):U64 (yR n f F b look):=by
 unfold yR
 split
 ·exact mJ (iM h b) hl
 ·exact iM h b
theorem KY{b:List SyS}{look:Int}{t:Nat}:(yR n f F b look).toNat.testBit t=true↔Beg n f F b t\/emR n f b=true/\look.toNat.testBit t=true:=by
 unfold yR
 rw[yQ]
 split
 ·rename_i h
  rw[dL,aG,j8]
  simp[h]
 ·rename_i h
  rw[j8]
  simp[h]
structure IsT(ps:List PrS)(n:Nat)(f:Nat->Bool)(F:Nat->Int):Prop where
 e:∀ i,i<n->(f i=true↔Emp ps n (i:Int))
 u:∀ i,U64 (F i)
 b:∀ i,i<n->∀ b,(F i).toNat.testBit b=true↔Fst ps n (i:Int) b
def inN(n:Nat)(F:Nat->Int):List Int:=(List.range n).map F
def bsS(n:Nat)(f:Nat->Bool):List Bool:=(List.range n).map f
theorem KZ{ps:List PrS}{n:Nat}{f g:Nat->Bool}{F G:Nat->Int}(h:IsT ps n f F)(k:IsT ps n g G):bsS n f=bsS n g/\inN n F=inN n G:=by
 constructor
 ·refine kO λi hi=>?_
  have hi:=cz.1 hi
  rw[bZ,h.e i hi,k.e i hi]
 ·refine kO λi hi=>?_
  have hi:=cz.1 hi
  refine BF (h.u i) (k.u i) λb _=>?_
  rw[bZ,h.b i hi,k.b i hi]
structure O7(ps:List PrS)(n:Nat)(f:Nat->Bool)(F:Nat->Int):Prop where
 e:∀ i,f i=true->Emp ps n (i:Int)
 u:∀ i,U64 (F i)
 b:∀ i b,(F i).toNat.testBit b=true->Fst ps n (i:Int) b
theorem je{n:Nat}{s:Int}(h:inR n s=true):((s.toNat:Nat):Int)=s:=by rw[iV]at h;omega
theorem yS{ps:List PrS}{p:PrS}(hp:p∈ps)(hr:inR n p.1=true)(he:∀ i,f i=true->Emp ps n (i:Int))(h:emR n f p.2.2.1=true):Emp ps n p.1:=by
 rw[EZ]at h
 refine .mk p hp hr (λy hy=>(h y hy).1) λy hy=>?_
 have:=he _ (h y hy).2.2
 rwa [je (h y hy).2.1]at this
theorem BG{ps:List PrS}{p:PrS}(hp:p∈ps)(hr:inR n p.1=true)(he:∀ i,f i=true->Emp ps n (i:Int))(hb:∀ i b,(F i).toNat.testBit b=true->Fst ps n (i:Int) b){b:Nat}(h:Beg n f F p.2.2.1 b):Fst ps n p.1 b:=by
 obtain⟨pre,y,post,e,h1,h2⟩:=h
 have xP:∀ z∈pre,z.1=true/\Emp ps n z.2:=λz hz=>by
  have:=he _ (h1 z hz).2.2
  rw[je (h1 z hz).2.1]at this
  exact⟨(h1 z hz).1,this⟩
 rcases h2 with⟨k1,k2,k3⟩|⟨k1,k2,k3⟩
 ·exact .tok p pre y post b hp hr e xP k1 k2 k3
 ·have:=hb _ _ k3
  rw[je k2]at this
  exact .sort p pre y post b hp hr e xP k1 this
theorem K1{ps:List PrS}(hc:∀ p∈ps,inR n p.1=true->emR n f p.2.2.1=true->f p.1.toNat=true){s:Int}(h:Emp ps n s):f s.toNat=true:=by
 induction h with
 |mk p hp hr h1 h2 ih=>exact hc p hp hr (EZ.2 λy hy=>⟨h1 y hy,(h2 y hy).inR,ih y hy⟩)
theorem R6{ps:List PrS}(he:∀ s,Emp ps n s->f s.toNat=true)(hc:∀ p∈ps,inR n p.1=true->∀ b,Beg n f F p.2.2.1 b->(F p.1.toNat).toNat.testBit b=true){s:Int}{b:Nat}(h:Fst ps n s b):(F s.toNat).toNat.testBit b=true:=by
 induction h with
 |tok p pre y post b hp hr e h1 k1 k2 k3=>exact hc p hp hr b ⟨pre,y,post,e,λz hz=>⟨(h1 z hz).1,(h1 z hz).2.inR,he _ (h1 z hz).2⟩,.inl ⟨k1,k2,k3⟩⟩
 |sort p pre y post b hp hr e h1 k1 k2 ih=>exact hc p hp hr b ⟨pre,y,post,e,λz hz=>⟨(h1 z hz).1,(h1 z hz).2.inR,he _ (h1 z hz).2⟩,.inr ⟨k1,k2.inR,ih⟩⟩
theorem O7.isT{ps:List PrS}(h:O7 ps n f F)(hE:∀ p∈ps,inR n p.1=true->emR n f p.2.2.1=true->f p.1.toNat=true)(hF:∀ p∈ps,inR n p.1=true->∀ b,Beg n f F p.2.2.1 b->(F p.1.toNat).toNat.testBit b=true):IsT ps n f F:=by
 have he:∀ s,Emp ps n s->f s.toNat=true:=λs hs=>K1 hE hs
 exact⟨λi _=>⟨h.e i,λhs=>he _ hs⟩,h.u,λi _ b=>⟨h.b i b,λhs=>R6 he hF hs⟩⟩
end
noncomputable section
theorem wrap_u64{n:Int}(h:U64 n):IntKind.wrap .u64 n=n:=by
 unfold U64 at h
 simp[IntKind.wrap,IntKind.bits,IntKind.signed]
 omega
theorem mq{a b:Int}(ha:U64 a)(hb:U64 b):dK .or .u64 a b=orI a b:=by
 have h:=mJ ha hb
 unfold dK orI
 simp only
 have e:(BitVec.ofInt (IntKind.bits .u64) a|||BitVec.ofInt (IntKind.bits .u64) b).toNat=a.toNat|||b.toNat:=by
  rw[rc]
  have k:∀ x:Int,U64 x->(BitVec.ofInt (IntKind.bits .u64) x).toNat=x.toNat:=λx hx=>by
   unfold U64 at hx
   rw[nT]
   show(x % ((2 ^ 64:Nat):Int)).toNat=x.toNat
   rw[Int.emod_eq_of_lt hx.1 (by
    have:((2 ^ 64:Nat):Int)=18446744073709551616:=by decide
    omega)]
  rw[k a ha,k b hb]
 rw[e]
 exact wrap_u64 h
theorem yT(k:Int)(h1:-9223372036854775808<=k)(h2:k<=9223372036854775807):Hf N0 (k,())=some ((kj k,()),()):=by
 delta Hf Bd
 simp only[aH,bM,decide_eq_true_eq]
 have hb:=pD k
 unfold kj at hb |-
 by_cases a:k<0
 ·rw[if_pos a,if_pos trivial,if_neg (by omega)]
 rw[if_neg a]
 by_cases b:63<k
 ·rw[if_pos (by simpa using b),if_neg (by omega)]
 rw[if_neg (by simpa using b)]
 have hw:IntKind.wrap .u64 k=k:=wrap_u64 ⟨by omega,by omega⟩
 have hm:Nat.min k.toNat (IntKind.bits .u64)=k.toNat:=cS (by show k.toNat<=64;omega)
 rw[hw,if_neg a,hm]
 rw[if_pos (by omega)]at hb |-
 rw[show(1:Int)*2 ^ k.toNat=((2 ^ k.toNat:Nat):Int) by simp,wrap_u64 hb]
def kl(f:Nat->Bool):Nat->Nat
 |0=>0
 |n+1=>kl f n+if f n=true then 2 ^ n else 0
theorem tD(f:Nat->Bool):∀ n,kl f n<2 ^ n
 |0=>by show 0<1;omega
 |n+1=>by
  have:=tD f n
  simp only[kl,iz]
  split <;> omega
theorem jf(f:Nat->Bool):∀ n i,(kl f n).testBit i=(decide (i<n)&&f i)
 |0,i=>by simp[kl]
 |n+1,i=>by
  have ih:=jf f n
  have hlt:=tD f n
  simp only[kl]
  cases hf:f n
  ·simp only[ap,if_false,fN,ih]
   by_cases e:i=n
   ·subst e;simp[hf]
   ·by_cases h:i<n
    ·simp[h,fe h]
    ·have:¬i<n+1:=by omega
     simp[h,this]
  ·simp only[if_true]
   have h2:=wz hlt 1
   rw[gI]at h2
   rw[kX,h2,kW,kP,ih]
   by_cases e:i=n
   ·subst e;simp[hf]
   ·have e':¬n=i:=λh=>e h.symm
    by_cases h:i<n
    ·simp[h,fe h,e']
    ·have:¬i<n+1:=by omega
     simp[h,this,e']
theorem tG(f:Nat->Bool):JV N0 (bsS 64 f,())=some ((((kl f 64:Nat):Int),()),()):=by
 have hl:(bsS 64 f).length=64:=by simp[bsS]
 delta JV Ld Bd Wi
 simp only[aH,bM,decide_eq_true_eq]
 have e64:(2:Nat) ^ 64=18446744073709551616:=by decide
 refine bE (λj=>((),(((kl f j:Nat):Int),((IntKind.wrap .u64 ((2 ^ j:Nat):Int)),((j:Int),()))))) (λj=>some ((((kl f 64:Nat):Int),()),())) 64 (λj hj k hk=>?_) N0 0 (aC _) (by unfold N0;omega)
 simp only[hl]
 rcases ak j 64 with h|h
 ·have c1:(j:Int)<((64:Nat):Int):=by omega
  have c2:(j:Int)<64:=by omega
  have hg:(bsS 64 f)[j]?=some (f j):=by unfold bsS;rw[List.getElem?_map,List.getElem?_range h];rfl
  have hp:(2:Nat) ^ j<2 ^ 64:=nS (by omega) h
  have hU:U64 ((2 ^ j:Nat):Int):=by
   rw[e64]at hp
   generalize (2:Nat) ^ j=z at hp |-
   exact⟨by omega,by omega⟩
  have hv:=tD f (j+1)
  have hv2:(2:Nat) ^ (j+1)<=2 ^ 64:=iu (by omega) h
  have hk:=hk h
  have hdb:IntKind.wrap .u64 (((2 ^ j:Nat):Int)*2)=IntKind.wrap .u64 ((2 ^ (j+1):Nat):Int):=by rw[iz];simp
  have hj1:IntKind.wrap .i64 ((j:Int)+1)=((j+1:Nat):Int):=by rw[bz (by omega) (by omega)];simp
  simp only[c1,if_true,c2,decide_true,aJ,aa,hg,wrap_u64 hU,hdb,hj1]
  rw[<-hk]
  cases hf:f j
  ·simp[kl,hf]
  ·have:IntKind.wrap .u64 (((kl f j:Nat):Int)+((2 ^ j:Nat):Int))=((kl f (j+1):Nat):Int):=by
    simp only[kl,hf,if_true]at hv |-
    rw[e64]at hv2
    generalize (2:Nat) ^ j=z at hv |-
    generalize (2:Nat) ^ (j+1)=z2 at hv hv2
    rw[wrap_u64 ⟨by omega,by omega⟩];simp
   simp only[if_true,this]
 ·have e:j=64:=by omega
  subst e
  simp
theorem pE(f:Nat->Bool):U64 ((kl f 64:Nat):Int):=by
 have:=tD f 64
 have e64:(2:Nat) ^ 64=18446744073709551616:=by decide
 exact⟨by omega,by omega⟩
theorem qz(n:Nat):List.replicate n false=bsS n λ_=>false:=by
 unfold bsS;rw[nZ];simp
theorem oL(n:Nat)(f:Nat->Bool):(bsS n f).length=n:=by simp[bsS]
theorem jy{n:Nat}(f:Nat->Bool){i:Nat}(h:i<n):(bsS n f)[i]?=some (f i):=by
 unfold bsS;rw[List.getElem?_map,List.getElem?_range h];rfl
def di{α:Type}(f:Nat->α)(i:Nat)(v:α):Nat->α:=λj=>if j=i then v else f j
theorem map_set{α:Type}(n:Nat)(f:Nat->α)(i:Nat)(v:α):((List.range n).map f).set i v=(List.range n).map (di f i v):=by
 apply List.ext_getElem?
 intro j
 rw[List.getElem?_set]
 by_cases hj:j<n
 ·rw[List.getElem?_map,List.getElem?_range hj,List.getElem?_map,List.getElem?_range hj]
  by_cases e:i=j
  ·subst e
   rw[if_pos rfl,if_pos (by simpa using hj)]
   simp[di]
  ·have e':¬j=i:=λh=>e h.symm
   rw[if_neg e]
   simp[di,e']
 ·have e1:((List.range n).map f)[j]?=none:=List.getElem?_eq_none (by simp;omega)
  have e2:((List.range n).map (di f i v))[j]?=none:=List.getElem?_eq_none (by simp;omega)
  rw[e1,e2]
  simp
  omega
theorem oM{n:Nat}(f:Nat->Bool)(i:Nat)(v:Bool):(bsS n f).set i v=bsS n (di f i v):=map_set n f i v
theorem E0(k:Int):JW N0 (k,())=some ((kj k,()),()):=by
 delta JW Ld Bd
 have key:∀ f:Nat->Bool,(∀ i,f i=true↔k=(i:Int)/\i<=63)->((kl f 64:Nat):Int)=kj k:=λf hf=>by
  refine BF (pE f) (pD k) λi hi=>?_
  rw[aa,jf,bZ,qy,ag,hf]
  simp[hi]
 simp only[aH,bM,decide_eq_true_eq,show Int.toNat 64=64 from rfl,qz]
 rw[if_pos (by decide),if_pos (by decide)]
 by_cases h1:0<=k
 ·by_cases h2:k<64
  ·have hk:k.toNat<64:=by omega
   simp only[h1,h2,if_true,decide_true,jy _ hk,oM,tG,aB]
   rw[key _ (λi=>by simp[di];omega)]
  ·simp only[h1,h2,if_true,decide_false,ap,if_false,tG,aB]
   rw[key _ (λi=>by simp;omega)]
 ·simp only[h1,if_false,ap,tG,aB]
  rw[key _ (λi=>by simp;omega)]
def sd(A:Nat):Nat->Nat
 |0=>A
 |j+1=>sd A j / 2
theorem yU(A:Nat):∀ j,sd A j=A / 2 ^ j
 |0=>by simp[sd]
 |j+1=>by rw[sd,yU A j,iz,nQ]
theorem O8(A j:Nat):sd A j<=A:=by rw[yU];exact rf _ _
theorem K2{a:Int}(ha:U64 a){n:Nat}(hn:n<64):p54 N0 (a,((n:Int),()))=some ((a.toNat.testBit n,()),()):=by
 obtain⟨A,rfl⟩:∃ A:Nat,a=(A:Int):=⟨a.toNat,by unfold U64 at ha;omega⟩
 delta p54 Bd Wi
 have h1:¬(n:Int)<0:=by omega
 have h2:¬(63:Int)<(n:Int):=by omega
 simp only[aH,bM,decide_eq_true_eq,h1,if_false,h2,decide_false,ap,aa]
 have hU:∀ j,U64 ((sd A j:Nat):Int):=λj=>by
  have:=O8 A j
  unfold U64 at *
  omega
 refine bE (λj=>((),(((sd A j:Nat):Int),((j:Int),())))) (λj=>some ((A.testBit n,()),())) n (λj hj k hk=>?_) N0 0 (aC _) (by unfold N0;omega)
 simp only[show ¬(2:Int)=0 by omega,if_false]
 rcases ak j n with h|h
 ·have c:(j:Int)<(n:Int):=by omega
  have hd:Int.tdiv ((sd A j:Nat):Int) 2=((sd A (j+1):Nat):Int):=rfl
  have hj1:IntKind.wrap .i64 ((j:Int)+1)=((j+1:Nat):Int):=by rw[bz (by omega) (by omega)];simp
  simp only[c,if_true,hd,wrap_u64 (hU _),hj1]
  exact hk h
 ·have e:j=n:=by omega
  subst e
  simp only[oe,if_false]
  congr 3
  rw[qL,<-yU]
  have:Int.tmod ((sd A j:Nat):Int) 2=((sd A j % 2:Nat):Int):=rfl
  rw[this]
  by_cases hz:sd A j % 2=1
  ·simp[hz]
  ·have:¬((sd A j % 2:Nat):Int)=1:=by omega
   simp only[hz,this,decide_false]
theorem tH{a b:Int}(ha:U64 a)(hb:U64 b):C4 N0 (a,(b,()))=some ((orI a b,()),()):=by
 delta C4 Ld Bd Wi
 simp only[aH,bM,decide_eq_true_eq,show Int.toNat 64=64 from rfl,qz]
 rw[if_pos (by decide),if_pos (by decide)]
 refine bE (λj=>((bsS 64 (λi=>decide (i<j)&&(a.toNat.testBit i||b.toNat.testBit i)),()),((j:Int),()))) (λj=>some ((orI a b,()),())) 64 (λj hj k hk=>?_) N0 0 (aC _) (by unfold N0;omega)
 rcases ak j 64 with h|h
 ·have c:(j:Int)<64:=by omega
  have hj1:IntKind.wrap .i64 ((j:Int)+1)=((j+1:Nat):Int):=by rw[bz (by omega) (by omega)];simp
  have hu:∀ v,v=(a.toNat.testBit j||b.toNat.testBit j)->di (λi=>decide (i<j)&&(a.toNat.testBit i||b.toNat.testBit i)) j v=λi=>decide (i<j+1)&&(a.toNat.testBit i||b.toNat.testBit i):=λv hv=>by
   funext i
   unfold di
   by_cases e:i=j
   ·subst e;simp[hv]
   ·rw[if_neg e]
    by_cases h:i<j
    ·simp[h,fe h]
    ·have:¬i<j+1:=by omega
     simp[h,this]
  have hk:=hk h
  simp only[c,if_true,K2 ha h,K2 hb h,aB,aJ,aa,jy _ h,oM,hj1]
  rw[<-hk]
  cases h1:a.toNat.testBit j
  ·simp only[ap,if_false]
   rw[hu _ (by rw[h1,cV])]
  ·simp only[if_true]
   rw[hu _ (by rw[h1,dP])]
 ·have e:j=64:=by omega
  subst e
  simp only[show ¬((64:Nat):Int)<64 by omega,if_false,tG,aB]
  congr 3
  refine BF (pE _) (mJ ha hb) λi hi=>?_
  rw[aa,jf,dL]
  simp[hi]
end
noncomputable section
theorem HE(a b c:Int):orI (orI a b) c=orI a (orI b c):=by
 unfold orI
 rw[aa,aa,Nat.or_assoc]
theorem xo:U64 0:=⟨by omega,by omega⟩
theorem kC{n:Nat}(F:Nat->Int){i:Nat}(h:i<n):(inN n F)[i]?=some (F i):=by
 unfold inN;rw[List.getElem?_map,List.getElem?_range h];rfl
theorem qA(n:Nat)(F:Nat->Int):(inN n F).length=n:=by simp[inN]
theorem tI{n:Nat}(F:Nat->Int)(i:Nat)(v:Int):(inN n F).set i v=inN n (di F i v):=map_set n F i v
theorem yV(n:Nat):List.replicate n (0:Int)=inN n λ_=>0:=by
 unfold inN;rw[nZ];simp
def HF(b:List SyS):Prop:=∀ y∈b,-9223372036854775808<=y.2/\y.2<=9223372036854775807
variable {n:Nat} {f:Nat->Bool} {F:Nat->Int}
theorem K3(hF:∀ i,U64 (F i)){body:List SyS}(hb:HF body)(hl:body.length<=maxLen):p93 N0 ((bsS n f,inN n F),(body,()))=some (((eQ n f F body).1,((eQ n f F body).2,())),()):=by
 delta p93 Ld Bd Wi
 simp only[aH,bM,decide_eq_true_eq,oL,qA]
 refine(aZ (λm x r=>∃ (j:Nat) (out:Int),x=((),(out,((j:Int),())))/\j<=body.length/\m=body.length-j/\U64 out/\r=some (((orI out (eQ n f F (body.drop j)).1,((eQ n f F (body.drop j)).2,())),()):(Int×(Bool×Unit))×Unit)) ?_ N0 body.length _ _ (by have:=ic hl;omega) ⟨0,0,rfl,aC _,rfl,xo,rfl⟩).trans (by rw[cU,KT (iM hF body).1])
 rintro m x r ⟨j,out,rfl,hjl,rfl,tb,rfl⟩ k hk
 rcases ak j body.length with h|h
 ·have c:(j:Int)<(body.length:Int):=by omega
  have hy:=hb _ (ba h)
  simp only[c,if_true,aJ,aa,List.getElem?_eq_getElem h,bc h hl]
  rw[cL h]
  generalize body[j]=y at hy |-
  unfold eQ
  cases h1:y.1
  ·simp only[aI,if_true,yT y.2 hy.1 hy.2,aB,mq tb (pD _)]
  ·simp only[aA,ap,if_false,reduceCtorEq]
   by_cases h2:y.2<0
   ·have:inR n y.2=false:=by unfold inR;simp;omega
    simp only[h2,if_true,this,ap,if_false,vm tb.1]
   ·by_cases h3:(n:Int)<=y.2
    ·have:inR n y.2=false:=by unfold inR;simp;omega
     simp only[h2,if_false,h3,if_true,this,ap,vm tb.1]
    ·have hr:inR n y.2=true:=by rw[iV];omega
     have hi:y.2.toNat<n:=by omega
     have h0:0<=y.2:=by omega
     simp only[h2,if_false,h3,decide_false,ap,hr,if_true,h0,kC F hi,jy f hi]
     cases hf:f y.2.toNat
     ·simp only[aI,if_true,mq tb (hF _),ap,if_false]
     ·simp only[aA,ap,if_false,if_true,mq tb (hF _)]
      rw[<-HE]
      exact hk _ _ _ (by omega) ⟨j+1,_,rfl,by omega,rfl,mJ tb (hF _),rfl⟩
 ·have c:¬(j:Int)<(body.length:Int):=by omega
  simp only[c,if_false]
  rw[eo h]
  show _=some (((orI out 0,(true,())),()))
  rw[vm tb.1]
theorem R7(hF:∀ i,U64 (F i)){body:List SyS}(hb:HF body)(hl:body.length<=maxLen){look:Int}(hk:U64 look):p97 N0 ((bsS n f,inN n F),(body,(look,())))=some ((yR n f F body look,()),()):=by
 unfold p97 yR
 simp only[K3 hF hb hl,aB,bM]
 split
 ·rw[mq (iM hF body) hk]
 ·rfl
theorem yW(hF:∀ i,U64 (F i)):∀ (d:Nat) (body:List SyS),HF body->body.length<d->Ba N0 d (bsS n f,(inN n F,(body,())))=some (((eQ n f F body).1,((eQ n f F body).2,())),())
 |0,body,_,h=>by omega
 |d+1,body,hb,hd=>by
  rw[Ba]
  unfold Ek
  simp only[aH,bM,decide_eq_true_eq,oL,qA]
  cases body with
  |nil=>simp[eQ]
  |cons y r=>
   have c:¬(((y::r).length:Nat):Int)=0:=by simp;omega
   have ih:=yW hF d r (λz hz=>hb z (bw _ hz)) (by rw[aM]at hd;omega)
   simp only[c,if_false,iA,if_true,Int.toNat_zero,List.getElem?_cons_zero]
   unfold eQ
   cases h1:y.1
   ·simp only[aI,if_true,E0,aB]
   ·simp only[aA,ap,if_false,reduceCtorEq]
    by_cases h2:y.2<0
    ·have:inR n y.2=false:=by unfold inR;simp;omega
     simp only[h2,if_true,this,ap,if_false]
    ·by_cases h3:(n:Int)<=y.2
     ·have:inR n y.2=false:=by unfold inR;simp;omega
      simp only[h2,if_false,h3,if_true,this,ap]
     ·have hr:inR n y.2=true:=by rw[iV];omega
      have hi:y.2.toNat<n:=by omega
      have h0:0<=y.2:=by omega
      simp only[h2,if_false,h3,decide_false,ap,hr,if_true,h0,kC F hi,jy f hi]
      cases hf:f y.2.toNat
      ·simp only[aI,if_true,ap,if_false]
      ·have rU:cC (y::r) 1 (((y::r).length:Nat):Int)=r:=by simp[cC]
       have c2:(0:Int)<=1/\(1:Int)<=(((y::r).length:Nat):Int)/\True:=⟨by omega,by simp;omega,trivial⟩
       simp only[aA,ap,if_false,if_true]
       rw[if_pos c2,rU,ih]
       simp only[aB,tH (hF _) (iM hF r)]
theorem O9(hF:∀ i,U64 (F i)){body:List SyS}(hb:HF body)(hl:body.length<=maxLen){look:Int}(hk:U64 look):JZ N0 (bsS n f,(inN n F,(body,(look,()))))=some ((yR n f F body look,()),()):=by
 unfold JZ yR JY
 simp only[yW hF N0 body hb (by have:=ic hl;omega),aB,bM,tH (iM hF body) hk]
 split <;> rfl
end
noncomputable section
abbrev GrS:=List (List Int×(Int×List Int))×(List (List Int)×(List PrS×(List (Int×List Int)×Int)))
structure Gs(g:GrS):Prop where
 ns:g.2.1.length<=20
 ps:g.2.2.1.length<=12
 pb:∀ p∈g.2.2.1,p.2.2.1.length<=20
 py:∀ p∈g.2.2.1,HF p.2.2.1
 st:-9223372036854775808<=g.2.2.2.2/\g.2.2.2.2<=9223372036854775807
theorem cM{α:Type}:∀ (l:List α) (j:Nat) (h:j<l.length),l.take (j+1)=l.take j++[l[j]]
 |[],j,h=>by simp at h
 |a::l,0,h=>by simp
 |a::l,j+1,h=>by
  have:=cM l j (by simpa using h)
  simp only[qS,this,dN,List.getElem_cons_succ]
theorem bS{j n:Nat}(h:j<n)(hn:n<=1000000):IntKind.wrap .i64 ((j:Int)+1)=((j+1:Nat):Int):=by
 rw[bz (by omega) (by omega)];simp
def stE(n:Nat)(f:Nat->Bool)(p:PrS):Nat->Bool:=if(emR n f p.2.2.1&&inR n p.1)=true then di f p.1.toNat true else f
def rdE(n:Nat)(ps:List PrS)(f:Nat->Bool):Nat->Bool:=ps.foldl (stE n) f
def itE(n:Nat)(ps:List PrS):Nat->Nat->Bool
 |0=>λ_=>false
 |k+1=>rdE n ps (itE n ps k)
theorem K4{n:Nat}{f:Nat->Bool}(b:List SyS)(y:SyS):emR n f (b++[y])=(emR n f b&&(y.1&&inR n y.2&&f y.2.toNat)):=by
 unfold emR;rw[List.all_append];simp
set_option maxHeartbeats 1000000 in
theorem K5{g:GrS}(hg:Gs g):Hj N0 (g,())=some ((bsS g.2.1.length (itE g.2.1.length g.2.2.1 (g.2.1.length+1)),()),()):=by
 have hns:=hg.ns
 have hps:=hg.ps
 obtain⟨n,hn⟩:∃ n,n=g.2.1.length:=⟨_,rfl⟩
 delta Hj Ld Bd Wi
 simp only[aH,bM,decide_eq_true_eq,<-hn,qz,aa]
 rw[<-hn]at hns
 rw[if_pos ⟨by omega,by omega⟩,if_pos (by omega)]
 refine bE (λj=>((bsS n (itE n g.2.2.1 j),()),((j:Int),()))) (λ_=>some ((bsS n (itE n g.2.2.1 (n+1)),()),())) (n+1) (λk hk K hK=>?_) N0 0 (aC _) (by unfold N0;omega)
 simp only[oL]
 rcases ak k (n+1)with h|h
 ·have c:(k:Int)<=(n:Int):=by omega
  have hK:=hK h
  have hk1:IntKind.wrap .i64 ((k:Int)+1)=((k+1:Nat):Int):=bS h (by omega)
  simp only[c,if_true,hk1]
  rw[<-hK,show itE n g.2.2.1 (k+1)=rdE n g.2.2.1 (itE n g.2.2.1 k)from rfl]
  generalize itE n g.2.2.1 k=f0 at *
  refine bE (λi=>((bsS n (rdE n (g.2.2.1.take i) f0),()),((i:Int),()))) (λ_=>K ((bsS n (rdE n g.2.2.1 f0),()),(((k+1:Nat):Int),()))) g.2.2.1.length (λi hi L hL=>?_) N0 0 (aC _) (by unfold N0;omega)
  rcases ak i g.2.2.1.length with hil|hil
  ·have ci:(i:Int)<(g.2.2.1.length:Int):=by omega
   have hL:=hL hil
   have hi1:IntKind.wrap .i64 ((i:Int)+1)=((i+1:Nat):Int):=bS hil (by omega)
   have sV:rdE n (g.2.2.1.take (i+1)) f0=stE n (rdE n (g.2.2.1.take i) f0) g.2.2.1[i]:=by
    unfold rdE
    rw[cM _ _ hil,fc];rfl
   have hp:=ba hil
   have hbl:=hg.pb _ hp
   simp only[ci,if_true,aJ,aa,List.getElem?_eq_getElem hil,hi1]
   rw[sV]at hL
   generalize rdE n (g.2.2.1.take i) f0=f at *
   generalize g.2.2.1[i]=p at *
   refine bE (λj=>((bsS n f,()),(emR n f (p.2.2.1.take j),((j:Int),())))) (λ_=>K ((bsS n (rdE n g.2.2.1 f0),()),(((k+1:Nat):Int),()))) p.2.2.1.length (λj hj M hM=>?_) N0 0 (aC _) (by unfold N0;omega)
   rcases ak j p.2.2.1.length with hjl|hjl
   ·have cj:(j:Int)<(p.2.2.1.length:Int):=by omega
    have hM:=hM hjl
    rw[cM _ _ hjl,K4]at hM
    have hj1:IntKind.wrap .i64 ((j:Int)+1)=((j+1:Nat):Int):=bS hjl (by omega)
    simp only[cj,if_true,aJ,aa,List.getElem?_eq_getElem hjl,hj1,oL]
    generalize p.2.2.1[j]=y at *
    rw[<-hM]
    cases h1:emR n f (p.2.2.1.take j)
    ·simp
    ·cases h2:y.1
     ·simp
     ·by_cases h3:0<=y.2
      ·by_cases h4:y.2<(n:Int)
       ·have hr:inR n y.2=true:=iV.2 ⟨h3,h4⟩
        have hyl:y.2.toNat<n:=by omega
        simp only[if_true,h3,h4,jy f hyl,hr,bG]
       ·have hr:inR n y.2=false:=by unfold inR;simp[h4]
        simp only[if_true,h3,h4,if_false,hr,bG,dE]
      ·have hr:inR n y.2=false:=by unfold inR;simp[h3]
       simp only[if_true,h3,if_false,hr,bG,dE]
   ·have cj:¬(j:Int)<(p.2.2.1.length:Int):=by omega
    rw[bP hjl]
    simp only[cj,if_false,oL]
    rw[<-hL]
    unfold stE
    cases h1:emR n f p.2.2.1
    ·simp
    ·by_cases h3:0<=p.1
     ·by_cases h4:p.1<(n:Int)
      ·have hr:inR n p.1=true:=iV.2 ⟨h3,h4⟩
       have hyl:p.1.toNat<n:=by omega
       simp only[if_true,h3,h4,decide_true,jy f hyl,hr,bG,oM]
      ·have hr:inR n p.1=false:=by unfold inR;simp[h4]
       simp[h3,h4,hr]
     ·have hr:inR n p.1=false:=by unfold inR;simp[h3]
      simp[h3,hr]
  ·have ci:¬(i:Int)<(g.2.2.1.length:Int):=by omega
   simp only[ci,if_false]
   rw[bP hil]
 ·have e:k=n+1:=by omega
  subst e
  have c:¬((n+1:Nat):Int)<=(n:Int):=by omega
  simp only[c,if_false]
theorem BH{n:Nat}{f:Nat->Bool}{p:PrS}{i:Nat}(h:f i=true):stE n f p i=true:=by
 unfold stE
 split
 ·unfold di;split
  ·rfl
  ·exact h
 ·exact h
theorem vn{n:Nat}:∀ (ps:List PrS) {f:Nat->Bool} {i:Nat},f i=true->rdE n ps f i=true
 |[],f,i,h=>h
 |p::ps,f,i,h=>vn (f:=stE n f p) ps (BH h)
def ClE(n:Nat)(ps:List PrS)(f:Nat->Bool):Prop:=∀ p∈ps,inR n p.1=true->emR n f p.2.2.1=true->f p.1.toNat=true
theorem K6{n:Nat}:∀ (ps:List PrS) {f:Nat->Bool},(∀ i,i<n->rdE n ps f i=true->f i=true)->ClE n ps f
 |[],f,h=>λp hp=>by cases hp
 |p::ps,f,h=>by
  have e:stE n f p=f:=by
   funext i
   rw[bZ]
   constructor
   ·intro hi
    unfold stE at hi
    split at hi
    ·rename_i hc
     simp only[ag]at hc
     unfold di at hi
     split at hi
     ·rename_i e
      subst e
      have hr:=iV.1 hc.2
      refine h _ (by omega) (vn (f:=stE n f p) ps ?_)
      unfold stE di
      rw[if_pos (by rw[hc.1,hc.2];rfl),if_pos rfl]
     ·exact hi
    ·exact hi
   ·exact BH
  have ih:=K6 ps (f:=f) (λi hi hr=>h i hi (by show rdE n ps (stE n f p) i=true;rw[e];exact hr))
  intro q hq h1 h2
  rcases ay.1 hq with rfl|hq
  ·have:stE n f q q.1.toNat=true:=by
    unfold stE di
    rw[if_pos (by rw[h1,h2];rfl),if_pos rfl]
   rwa [e]at this
  ·exact ih q hq h1 h2
theorem vo{n:Nat}{f:Nat->Bool}:∀ (ps:List PrS),ClE n ps f->rdE n ps f=f
 |[],_=>rfl
 |p::ps,h=>by
  have e:stE n f p=f:=by
   unfold stE
   split
   ·rename_i hc
    simp only[ag]at hc
    funext i
    unfold di
    split
    ·rename_i e
     rw[e,h p bm hc.2 hc.1]
    ·rfl
   ·rfl
  show rdE n ps (stE n f p)=f
  rw[e]
  exact vo ps (λq hq=>h q (bw _ hq))
theorem Pa{n:Nat}{ps:List PrS}:∀ k i,itE n ps k i=true->Emp ps n (i:Int):=by
 have hs:∀ (l:List PrS),(∀ p∈l,p∈ps)->∀ f:Nat->Bool,(∀ i,f i=true->Emp ps n (i:Int))->∀ i,rdE n l f i=true->Emp ps n (i:Int):=by
  intro l
  induction l with
  |nil=>intro _ f hf;exact hf
  |cons p l ih=>
   intro hl f hf
   refine ih (λq hq=>hl q (bw _ hq)) (stE n f p) λi hi=>?_
   unfold stE at hi
   split at hi
   ·rename_i hc
    simp only[ag]at hc
    unfold di at hi
    split at hi
    ·rename_i e
     rw[e,je hc.2]
     exact yS (hl p bm) hc.2 hf hc.1
    ·exact hf i hi
   ·exact hf i hi
 intro k
 induction k with
 |zero=>intro i h;cases h
 |succ k ih=>exact hs ps (λ_ h=>h) _ ih
theorem R8{n:Nat}{ps:List PrS}:ClE n ps (itE n ps (n+1)):=by
 have key:∀ k,ClE n ps (itE n ps k)\/hP (List.range n) (λi=>itE n ps k i=true)+k<=n:=by
  intro k
  induction k with
  |zero=>
   have:=jd (List.range n) (λi=>itE n ps 0 i=true)
   rw[kR]at this
   exact .inr (by omega)
  |succ k ih=>
   rcases ih with h|h
   ·left
    show ClE n ps (rdE n ps (itE n ps k))
    rw[vo ps h];exact h
   ·by_cases hc:∀ i,i<n->rdE n ps (itE n ps k) i=true->itE n ps k i=true
    ·left
     have hcl:=K6 ps hc
     show ClE n ps (rdE n ps (itE n ps k))
     rw[vo ps hcl];exact hcl
    ·right
     have:∃ i,i<n/\rdE n ps (itE n ps k) i=true/\¬itE n ps k i=true:=by
      apply ij
      intro hn
      refine hc λi h1 h2=>?_
      apply ij
      intro h3
      exact hn ⟨i,h1,h2,h3⟩
     obtain⟨i,h1,h2,h3⟩:=this
     have:=oK (U:=List.range n) (P:=λi=>itE n ps k i=true) (Q:=λi=>itE n ps (k+1) i=true) (λj _ hj=>vn ps hj) (cz.2 h1) h3 h2
     omega
 rcases key (n+1)with h|h
 ·exact h
 ·omega
theorem Pb{n:Nat}{ps:List PrS}(i:Nat):itE n ps (n+1) i=true↔Emp ps n (i:Int):=
 ⟨Pa _ i,λh=>K1 R8 h⟩
end
noncomputable section
open Classical in
def tE(ps:List PrS)(n:Nat):Nat->Bool:=λi=>decide (Emp ps n (i:Int))
open Classical in
def tF(ps:List PrS)(n:Nat):Nat->Int:=λi=>((kl (λb=>decide (Fst ps n (i:Int) b)) 64:Nat):Int)
theorem se{ps:List PrS}{n i:Nat}:tE ps n i=true↔Emp ps n (i:Int):=by unfold tE;simp
theorem K7{ps:List PrS}{n:Nat}(i:Nat):U64 (tF ps n i):=pE _
theorem K8{ps:List PrS}{n i b:Nat}:(tF ps n i).toNat.testBit b=true↔Fst ps n (i:Int) b:=by
 unfold tF
 rw[aa,jf,ag]
 simp only[decide_eq_true_eq]
 exact⟨λh=>h.2,λh=>⟨h.lt,h⟩⟩
theorem tT{ps:List PrS}{n:Nat}:IsT ps n (tE ps n) (tF ps n):=⟨λi _=>se,K7,λi _ b=>K8⟩
theorem E3{g:GrS}(hg:Gs g):Hj N0 (g,())=some ((bsS g.2.1.length (tE g.2.2.1 g.2.1.length),()),()):=by
 rw[K5 hg]
 congr 3
 refine kO λi _=>?_
 rw[bZ,Pb,se]
def stF(n:Nat)(e:Nat->Bool)(s:(Nat->Int)×Bool)(p:PrS):(Nat->Int)×Bool:=
 if inR n p.1=true then(di s.1 p.1.toNat (orI (eQ n e s.1 p.2.2.1).1 (s.1 p.1.toNat)),s.2||!decide (orI (eQ n e s.1 p.2.2.1).1 (s.1 p.1.toNat)=s.1 p.1.toNat))else s
def rdF(n:Nat)(e:Nat->Bool)(ps:List PrS)(s:(Nat->Int)×Bool):(Nat->Int)×Bool:=ps.foldl (stF n e) s
def leF(F G:Nat->Int):Prop:=∀ i b,(F i).toNat.testBit b=true->(G i).toNat.testBit b=true
def j9(F:Nat->Int):Prop:=∀ i,U64 (F i)
theorem BJ{F:Nat->Int}(h:j9 F){i:Nat}{v:Int}(hv:U64 v):j9 (di F i v):=λj=>by
 unfold di;split
 ·exact hv
 ·exact h j
theorem PW{n:Nat}{e:Nat->Bool}{s:(Nat->Int)×Bool}{p:PrS}(h:j9 s.1):j9 (stF n e s p).1:=by
 unfold stF;split
 ·exact BJ h (mJ (iM h _) (h _))
 ·exact h
theorem K9{n:Nat}{e:Nat->Bool}{s:(Nat->Int)×Bool}{p:PrS}:leF s.1 (stF n e s p).1:=by
 intro i b hb
 unfold stF;split
 ·show(di s.1 p.1.toNat _ i).toNat.testBit b=true
  unfold di;split
  ·rename_i e0
   rw[dL,<-e0,hb,fj]
  ·exact hb
 ·exact hb
theorem PX{n:Nat}{e:Nat->Bool}:∀ (ps:List PrS) {s:(Nat->Int)×Bool},j9 s.1->j9 (rdF n e ps s).1
 |[],s,h=>h
 |p::ps,s,h=>PX (s:=stF n e s p) ps (PW h)
theorem Di{n:Nat}{e:Nat->Bool}:∀ (ps:List PrS) {s:(Nat->Int)×Bool},leF s.1 (rdF n e ps s).1
 |[],s=>λ_ _ h=>h
 |p::ps,s=>λi b h=>Di (s:=stF n e s p) ps i b (K9 i b h)
theorem La{a c:Int}(ha:U64 a)(hc:U64 c)(h:orI a c≠c):∃ b,b<64/\c.toNat.testBit b=false/\(orI a c).toNat.testBit b=true:=by
 apply ij
 intro hn
 refine h (BF (mJ ha hc) hc λb hb=>?_)
 rw[bZ]
 constructor
 ·intro h1
  cases h2:c.toNat.testBit b
  ·exact(hn ⟨b,hb,h2,h1⟩).elim
  ·rfl
 ·intro h1
  rw[dL,h1,fj]
theorem E4{n:Nat}{e:Nat->Bool}:∀ (ps:List PrS) {s:(Nat->Int)×Bool},j9 s.1->(rdF n e ps s).2=true->s.2=true\/∃ i b,i<n/\b<64/\(s.1 i).toNat.testBit b=false/\((rdF n e ps s).1 i).toNat.testBit b=true
 |[],s,_,h=>.inl h
 |p::ps,s,hU,h=>by
  rcases E4 (s:=stF n e s p) ps (PW hU) h with h1|⟨i,b,h1,h2,h3,h4⟩
  ·by_cases hs:s.2=true
   ·exact .inl hs
   ·right
    unfold stF at h1
    split at h1
    ·rename_i hr
     simp only[aG,bx,decide_eq_false_iff_not]at h1
     rcases h1 with h1|h1
     ·exact absurd h1 hs
     ·obtain⟨b,hb,hb1,hb2⟩:=La (iM hU _) (hU _) h1
      have hr':=iV.1 hr
      refine⟨p.1.toNat,b,by omega,hb,hb1,Di (s:=stF n e s p) ps _ _ ?_⟩
      unfold stF
      rw[if_pos hr]
      show(di s.1 p.1.toNat _ p.1.toNat).toNat.testBit b=true
      unfold di
      rw[if_pos rfl]
      exact hb2
    ·exact absurd h1 hs
  ·refine .inr ⟨i,b,h1,h2,?_,h4⟩
   cases hb:(s.1 i).toNat.testBit b
   ·rfl
   ·rw[K9 i b hb]at h3;cases h3
theorem BK{n:Nat}{e:Nat->Bool}:∀ (ps:List PrS) {s:(Nat->Int)×Bool},(rdF n e ps s).2=false->(rdF n e ps s)=s/\s.2=false/\∀ p∈ps,inR n p.1=true->orI (eQ n e s.1 p.2.2.1).1 (s.1 p.1.toNat)=s.1 p.1.toNat
 |[],s,h=>⟨rfl,h,λp hp=>by cases hp⟩
 |p::ps,s,h=>by
  obtain⟨h1,h2,h3⟩:=BK (s:=stF n e s p) ps h
  have e1:stF n e s p=s/\(inR n p.1=true->orI (eQ n e s.1 p.2.2.1).1 (s.1 p.1.toNat)=s.1 p.1.toNat):=by
   unfold stF at h2 |-
   by_cases hr:inR n p.1=true
   ·rw[if_pos hr]at h2
    simp only[eF,Bool.not_eq_false',decide_eq_true_eq]at h2
    refine⟨?_,λ_=>h2.2⟩
    rw[if_pos hr,h2.2]
    have:di s.1 p.1.toNat (s.1 p.1.toNat)=s.1:=by
     funext j;unfold di;split
     ·rename_i e;rw[e]
     ·rfl
    rw[this]
    simp
   ·rw[if_neg hr]
    exact⟨rfl,λh=>absurd h hr⟩
  have h1:rdF n e (p::ps) s=stF n e s p:=h1
  rw[e1.1]at h1 h2 h3
  refine⟨h1,h2,λq hq hr=>?_⟩
  rcases ay.1 hq with rfl|hq
  ·exact e1.2 hr
  ·exact h3 q hq hr
def Lb(ps:List PrS)(n:Nat)(F:Nat->Int):Prop:=∀ i b,(F i).toNat.testBit b=true->Fst ps n (i:Int) b
theorem E5{n:Nat}{ps:List PrS}:∀ (l:List PrS),(∀ p∈l,p∈ps)->∀ {s:(Nat->Int)×Bool},Lb ps n s.1->Lb ps n (rdF n (tE ps n) l s).1
 |[],_,s,h=>h
 |p::l,hl,s,h=>by
  refine E5 (s:=stF n (tE ps n) s p) l (λq hq=>hl q (bw _ hq)) λi b hb=>?_
  unfold stF at hb
  split at hb
  ·rename_i hr
   change(di s.1 p.1.toNat _ i).toNat.testBit b=true at hb
   unfold di at hb
   split at hb
   ·rename_i e
    rw[e]
    rw[dL,aG]at hb
    rcases hb with hb|hb
    ·rw[j8]at hb
     rw[je hr]
     exact BG (hl p bm) hr (λi hi=>se.1 hi) h hb
    ·exact h _ _ hb
   ·exact h _ _ hb
  ·exact h _ _ hb
def Dj(n:Nat):List (Nat×Nat):=(List.range n).flatMap λi=>(List.range 64).map λb=>(i,b)
theorem vq(n:Nat):(Dj n).length=n*64:=by
 unfold Dj;simp[List.length_flatMap,nZ]
theorem Lc{n i b:Nat}(h1:i<n)(h2:b<64):(i,b)∈Dj n:=dD.2 ⟨i,cz.2 h1,fM.2 ⟨b,cz.2 h2,rfl⟩⟩
def nH(n:Nat)(F:Nat->Int):Nat:=hP (Dj n) λu=>(F u.1).toNat.testBit u.2=true
theorem vt{n:Nat}{F G:Nat->Int}(h:leF F G){i b:Nat}(h1:i<n)(h2:b<64)(h3:(F i).toNat.testBit b=false)(h4:(G i).toNat.testBit b=true):nH n G<nH n F:=
 oK (λu _ hu=>h _ _ hu) (Lc h1 h2) (by show ¬(F i).toNat.testBit b=true;rw[h3];exact jC) h4
theorem Pd{n:Nat}{ps:List PrS}{F:Nat->Int}(hU:j9 F)(hs:Lb ps n F)(hc:∀ p∈ps,inR n p.1=true->orI (eQ n (tE ps n) F p.2.2.1).1 (F p.1.toNat)=F p.1.toNat):inN n F=inN n (tF ps n):=by
 have:IsT ps n (tE ps n) F:=by
  refine O7.isT ⟨λi hi=>se.1 hi,hU,hs⟩ (λp hp hr he=>?_) (λp hp hr b hb=>?_)
  ·refine se.2 ?_
   rw[je hr]
   exact yS hp hr (λi hi=>se.1 hi) he
  ·rw[<-hc p hp hr,dL,(j8 _ _).2 hb,dP]
 exact(KZ this tT).2
set_option maxHeartbeats 1000000 in
theorem Pe{g:GrS}(hg:Gs g):N5 N0 (g,())=some ((inN g.2.1.length (tF g.2.2.1 g.2.1.length),()),()):=by
 have hns:=hg.ns
 have hps:=hg.ps
 have h51:=E3 hg
 obtain⟨n,hn⟩:∃ n,n=g.2.1.length:=⟨_,rfl⟩
 delta N5 Ld Bd Wi
 simp only[h51]
 simp only[aH,bM,decide_eq_true_eq,<-hn,yV,aa,aB]
 rw[<-hn]at hns
 rw[if_pos ⟨by omega,by omega⟩,if_pos (by omega)]
 refine aZ (λm x r=>∃ (k:Nat) (F:Nat->Int),x=((inN n F,()),((k:Int),()))/\j9 F/\Lb g.2.2.1 n F/\nH n F+k<=n*64/\m=n*64-k/\r=some ((inN n (tF g.2.2.1 n),()),())) ?_ N0 (n*64) _ _ (by unfold N0;omega) ⟨0,_,rfl,λ_=>xo,λi b h=>by simp at h,by
  have:=jd (Dj n) (λu=>((0:Int)).toNat.testBit u.2=true)
  rw[vq]at this
  exact this,rfl,rfl⟩
 rintro m x r ⟨k,F,rfl,hU,fF,hm,rfl,rfl⟩ K hK
 have hw:IntKind.wrap .i64 (64*(n:Int))=64*(n:Int):=bz (by omega) (by omega)
 have hk1:IntKind.wrap .i64 ((k:Int)+1)=((k+1:Nat):Int):=bS (Nat.lt_succ_of_le (by omega:k<=n*64)) (by omega)
 have c:(k:Int)<=64*(n:Int):=by omega
 simp only[qA,hw,c,if_true,hk1]
 refine bE (λi=>((inN n (rdF n (tE g.2.2.1 n) (g.2.2.1.take i) (F,false)).1,()),((rdF n (tE g.2.2.1 n) (g.2.2.1.take i) (F,false)).2,((i:Int),())))) (λ_=>some ((inN n (tF g.2.2.1 n),()),())) g.2.2.1.length (λi hi L hL=>?_) N0 0 (aC _) (by unfold N0;omega)
 have hUi:j9 (rdF n (tE g.2.2.1 n) (g.2.2.1.take i) (F,false)).1:=PX (s:=(F,false)) _ hU
 rcases ak i g.2.2.1.length with hil|hil
 ·have ci:(i:Int)<(g.2.2.1.length:Int):=by omega
  have hL:=hL hil
  have hi1:IntKind.wrap .i64 ((i:Int)+1)=((i+1:Nat):Int):=bS hil (by omega)
  have sV:rdF n (tE g.2.2.1 n) (g.2.2.1.take (i+1)) (F,false)=stF n (tE g.2.2.1 n) (rdF n (tE g.2.2.1 n) (g.2.2.1.take i) (F,false)) g.2.2.1[i]:=by
   unfold rdF
   rw[cM _ _ hil,fc];rfl
  have hp:=ba hil
  have hbl:=hg.pb _ hp
  have hby:=hg.py _ hp
  simp only[ci,if_true,aJ,aa,List.getElem?_eq_getElem hil,hi1]
  rw[sV]at hL
  generalize rdF n (tE g.2.2.1 n) (g.2.2.1.take i) (F,false)=s at *
  generalize g.2.2.1[i]=p at *
  rw[<-hL]
  unfold stF
  by_cases h3:p.1<0
  ·have hr:inR n p.1=false:=by unfold inR;simp;omega
   simp[h3,hr]
  ·by_cases h4:(n:Int)<=p.1
   ·have hr:inR n p.1=false:=by unfold inR;simp;omega
    simp[h3,h4,hr,qA]
   ·have hr:inR n p.1=true:=iV.2 ⟨by omega,by omega⟩
    have hpl:p.1.toNat<n:=by omega
    have h0:0<=p.1:=by omega
    have e84:JY N0 (bsS n (tE g.2.2.1 n),(inN n s.1,(p.2.2.1,())))=some (((eQ n (tE g.2.2.1 n) s.1 p.2.2.1).1,((eQ n (tE g.2.2.1 n) s.1 p.2.2.1).2,())),()):=yW hUi N0 p.2.2.1 hby (by unfold N0;omega)
    simp only[h3,if_false,qA,h4,decide_false,ap,e84,aB,h0,if_true,kC s.1 hpl,tH (iM hUi _) (hUi _),hr,tI]
    cases hs2:s.2
    ·simp
    ·simp
 ·have ci:¬(i:Int)<(g.2.2.1.length:Int):=by omega
  rw[bP hil]at hUi |-
  simp only[ci,if_false]
  have hle:leF F (rdF n (tE g.2.2.1 n) g.2.2.1 (F,false)).1:=Di (s:=(F,false)) _
  have Le:=E5 (n:=n) (ps:=g.2.2.1) g.2.2.1 (λ_ h=>h) (s:=(F,false)) fF
  cases hch:(rdF n (tE g.2.2.1 n) g.2.2.1 (F,false)).2
  ·obtain⟨h1,_,h3⟩:=BK _ hch
   simp only[aI,if_true,h1]
   rw[Pd hU fF h3]
  ·simp only[aA,ap,if_false]
   rcases E4 (s:=(F,false)) _ hU hch with h|⟨a,b,h1,h2,h3,h4⟩
   ·cases h
   ·have hlt:=vt hle h1 h2 h3 h4
    exact hK _ _ _ (by omega) ⟨k+1,_,rfl,hUi,Le,by omega,rfl,rfl⟩
end
noncomputable section
abbrev TbP:=(Nat->Bool)×(Nat->Int)×Bool
def chP(n:Nat)(s:TbP)(p:PrS):Bool:=!decide (orI (s.2.1 p.1.toNat) (eQ n s.1 s.2.1 p.2.2.1).1=s.2.1 p.1.toNat)||(emR n s.1 p.2.2.1&&!s.1 p.1.toNat)
def stP(n:Nat)(s:TbP)(p:PrS):TbP:=
 if(inR n p.1&&chP n s p)=true then(di s.1 p.1.toNat (s.1 p.1.toNat||emR n s.1 p.2.2.1),di s.2.1 p.1.toNat (orI (s.2.1 p.1.toNat) (eQ n s.1 s.2.1 p.2.2.1).1),true)else s
def rdP(n:Nat)(ps:List PrS)(s:TbP):TbP:=ps.foldl (stP n) s
theorem qB(a b:Int):orI a b=orI b a:=by unfold orI;rw[Nat.or_comm]
structure LeP(s t:TbP):Prop where
 e:∀ i,s.1 i=true->t.1 i=true
 b:leF s.2.1 t.2.1
theorem LeP.tr{s t u:TbP}(h:LeP s t)(k:LeP t u):LeP s u:=⟨λi hi=>k.e i (h.e i hi),λi b hb=>k.b i b (h.b i b hb)⟩
theorem PY{n:Nat}{s:TbP}{p:PrS}(h:j9 s.2.1):j9 (stP n s p).2.1:=by
 unfold stP;split
 ·exact BJ h (mJ (h _) (iM h _))
 ·exact h
theorem Dk{n:Nat}{s:TbP}{p:PrS}:LeP s (stP n s p):=by
 unfold stP;split
 ·refine⟨λi hi=>?_,λi b hb=>?_⟩
  ·show di s.1 p.1.toNat _ i=true
   unfold di;split
   ·rename_i e;rw[<-e,hi,dP]
   ·exact hi
  ·show(di s.2.1 p.1.toNat _ i).toNat.testBit b=true
   unfold di;split
   ·rename_i e;rw[dL,<-e,hb,dP]
   ·exact hb
 ·exact⟨λ_ h=>h,λ_ _ h=>h⟩
theorem PZ{n:Nat}:∀ (ps:List PrS) {s:TbP},j9 s.2.1->j9 (rdP n ps s).2.1
 |[],s,h=>h
 |p::ps,s,h=>PZ (s:=stP n s p) ps (PY h)
theorem Dl{n:Nat}:∀ (ps:List PrS) {s:TbP},LeP s (rdP n ps s)
 |[],s=>⟨λ_ h=>h,λ_ _ h=>h⟩
 |p::ps,s=>Dk.tr (Dl (s:=stP n s p) ps)
def UN(n:Nat)(s t:TbP):Prop:=(∃ i b,i<n/\b<64/\(s.2.1 i).toNat.testBit b=false/\(t.2.1 i).toNat.testBit b=true)\/∃ i,i<n/\s.1 i=false/\t.1 i=true
theorem E6{n:Nat}:∀ (ps:List PrS) {s:TbP},j9 s.2.1->(rdP n ps s).2.2=true->s.2.2=true\/UN n s (rdP n ps s)
 |[],s,_,h=>.inl h
 |p::ps,s,hU,h=>by
  have hle:=Dl (n:=n) (s:=stP n s p) ps
  rcases E6 (s:=stP n s p) ps (PY hU) h with h1|⟨i,b,h1,h2,h3,h4⟩|⟨i,h1,h3,h4⟩
  ·by_cases hc:(inR n p.1&&chP n s p)=true
   ·right
    have hst:stP n s p=(di s.1 p.1.toNat (s.1 p.1.toNat||emR n s.1 p.2.2.1),di s.2.1 p.1.toNat (orI (s.2.1 p.1.toNat) (eQ n s.1 s.2.1 p.2.2.1).1),true):=by unfold stP;rw[if_pos hc]
    rw[ag]at hc
    have hr':=iV.1 hc.1
    have hch:=hc.2
    unfold chP at hch
    rw[aG]at hch
    rcases hch with hch|hch
    ·have hne:orI (eQ n s.1 s.2.1 p.2.2.1).1 (s.2.1 p.1.toNat)≠s.2.1 p.1.toNat:=by
      rw[qB];simpa using hch
     obtain⟨b,hb,hb1,hb2⟩:=La (iM hU _) (hU _) hne
     refine .inl ⟨p.1.toNat,b,by omega,hb,hb1,hle.b _ _ ?_⟩
     rw[hst]
     show(di s.2.1 p.1.toNat _ p.1.toNat).toNat.testBit b=true
     unfold di
     rw[if_pos rfl,qB]
     exact hb2
    ·rw[ag,bx]at hch
     refine .inr ⟨p.1.toNat,by omega,hch.2,hle.e _ ?_⟩
     rw[hst]
     show di s.1 p.1.toNat _ p.1.toNat=true
     unfold di
     rw[if_pos rfl,hch.1,fj]
   ·left
    have:stP n s p=s:=by unfold stP;rw[if_neg hc]
    rw[this]at h1;exact h1
  ·refine .inr (.inl ⟨i,b,h1,h2,?_,h4⟩)
   cases hb:(s.2.1 i).toNat.testBit b
   ·rfl
   ·rw[Dk.b i b hb]at h3;cases h3
  ·refine .inr (.inr ⟨i,h1,?_,h4⟩)
   cases hb:s.1 i
   ·rfl
   ·rw[Dk.e i hb]at h3;cases h3
theorem BL{n:Nat}:∀ (ps:List PrS) {s:TbP},(rdP n ps s).2.2=false->rdP n ps s=s/\s.2.2=false/\∀ p∈ps,inR n p.1=true->chP n s p=false
 |[],s,h=>⟨rfl,h,λp hp=>by cases hp⟩
 |p::ps,s,h=>by
  obtain⟨h1,h2,h3⟩:=BL (s:=stP n s p) ps h
  have hc:¬(inR n p.1&&chP n s p)=true:=λhc=>by
   unfold stP at h2
   rw[if_pos hc]at h2;cases h2
  have e1:stP n s p=s:=by unfold stP;rw[if_neg hc]
  have h1:rdP n (p::ps) s=stP n s p:=h1
  rw[e1]at h1 h2 h3
  refine⟨h1,h2,λq hq hr=>?_⟩
  rcases ay.1 hq with rfl|hq
  ·rw[hr,bG]at hc
   simpa using hc
  ·exact h3 q hq hr
structure Pf(ps:List PrS)(n:Nat)(s:TbP):Prop where
 e:∀ i,s.1 i=true->Emp ps n (i:Int)
 b:Lb ps n s.2.1
theorem E7{n:Nat}{ps:List PrS}:∀ (l:List PrS),(∀ p∈l,p∈ps)->∀ {s:TbP},Pf ps n s->Pf ps n (rdP n l s)
 |[],_,s,h=>h
 |p::l,hl,s,h=>by
  refine E7 (s:=stP n s p) l (λq hq=>hl q (bw _ hq)) ?_
  unfold stP
  split
  ·rename_i hc
   rw[ag]at hc
   refine⟨λi hi=>?_,λi b hb=>?_⟩
   ·change di s.1 p.1.toNat _ i=true at hi
    unfold di at hi
    split at hi
    ·rename_i e
     rw[aG]at hi
     rcases hi with hi|hi
     ·rw[e];exact h.e _ hi
     ·rw[e,je hc.1]
      exact yS (hl p bm) hc.1 h.e hi
    ·exact h.e _ hi
   ·change(di s.2.1 p.1.toNat _ i).toNat.testBit b=true at hb
    unfold di at hb
    split at hb
    ·rename_i e
     rw[e]
     rw[dL,aG]at hb
     rcases hb with hb|hb
     ·exact h.b _ _ hb
     ·rw[j8]at hb
      rw[je hc.1]
      exact BG (hl p bm) hc.1 h.e h.b hb
    ·exact h.b _ _ hb
  ·exact h
theorem UO{n:Nat}{ps:List PrS}{s:TbP}(hU:j9 s.2.1)(hs:Pf ps n s)(hc:∀ p∈ps,inR n p.1=true->chP n s p=false):bsS n s.1=bsS n (tE ps n)/\inN n s.2.1=inN n (tF ps n):=by
 have hc':∀ p∈ps,inR n p.1=true->orI (s.2.1 p.1.toNat) (eQ n s.1 s.2.1 p.2.2.1).1=s.2.1 p.1.toNat/\(emR n s.1 p.2.2.1=true->s.1 p.1.toNat=true):=λp hp hr=>by
  have:=hc p hp hr
  unfold chP at this
  rw[eF]at this
  refine⟨by simpa using this.1,λhe=>?_⟩
  have h2:=this.2
  rw[he,bG]at h2
  simpa using h2
 refine KZ (O7.isT ⟨hs.e,hU,hs.b⟩ (λp hp hr he=>(hc' p hp hr).2 he) (λp hp hr b hb=>?_)) tT
 rw[<-(hc' p hp hr).1,dL,(j8 _ _).2 hb,fj]
def o8(n:Nat)(s:TbP):Nat:=nH n s.2.1+hP (List.range n) λi=>s.1 i=true
theorem Lf{n:Nat}{s t:TbP}(h:LeP s t)(k:UN n s t):o8 n t<o8 n s:=by
 have h1:nH n t.2.1<=nH n s.2.1:=qx λu _ hu=>h.b _ _ hu
 have h2:hP (List.range n) (λi=>t.1 i=true)<=hP (List.range n) (λi=>s.1 i=true):=qx λu _ hu=>h.e _ hu
 unfold o8
 rcases k with⟨i,b,k1,k2,k3,k4⟩|⟨i,k1,k3,k4⟩
 ·have:=vt h.b k1 k2 k3 k4
  omega
 ·have:=oK (U:=List.range n) (P:=λi=>s.1 i=true) (Q:=λi=>t.1 i=true) (λu _ hu=>h.e _ hu) (cz.2 k1) (by show ¬s.1 i=true;rw[k3];exact jC) k4
  omega
set_option maxHeartbeats 2000000 in
theorem R9{g:GrS}(hg:Gs g):p44 N0 (g,())=some (((bsS g.2.1.length (tE g.2.2.1 g.2.1.length),inN g.2.1.length (tF g.2.2.1 g.2.1.length)),()),()):=by
 have hns:=hg.ns
 have hps:=hg.ps
 obtain⟨n,hn⟩:∃ n,n=g.2.1.length:=⟨_,rfl⟩
 delta p44 Ld Bd Wi
 simp only[aH,bM,decide_eq_true_eq,<-hn,yV,qz,aa]
 rw[<-hn]at hns
 rw[if_pos ⟨by omega,by omega⟩,if_pos (by omega),if_pos ⟨by omega,by omega⟩,if_pos (by omega)]
 refine aZ (λm x r=>∃ (s:TbP),x=((([],[]),((bsS n s.1,inN n s.2.1),())),(s.2.2,()))/\j9 s.2.1/\Pf g.2.2.1 n s/\(s.2.2=false->bsS n s.1=bsS n (tE g.2.2.1 n)/\inN n s.2.1=inN n (tF g.2.2.1 n))/\m=o8 n s+(if s.2.2=true then 1 else 0)/\r=some (((bsS n (tE g.2.2.1 n),inN n (tF g.2.2.1 n)),()),())) ?_ N0 (o8 n (λ_=>false,λ_=>0,true)+1) _ _ (by
  have h1:=jd (Dj n) (λu=>((0:Int)).toNat.testBit u.2=true)
  have h2:=jd (List.range n) (λi=>false=true)
  rw[vq]at h1
  rw[kR]at h2
  unfold o8 nH N0
  simp only at *
  omega) ⟨(λ_=>false,λ_=>0,true),rfl,λ_=>xo,⟨(λi h=>by cases h),(λi b h=>by simp at h)⟩,λh=>(by cases h),rfl,rfl⟩
 rintro m x r ⟨s0,rfl,hU,fF,yu,rfl,rfl⟩ K hK
 obtain⟨f0,F0,m0⟩:=s0
 cases m0
 ·simp only[ap,if_false]
  rw[(yu rfl).1,(yu rfl).2]
 simp only[if_true]
 simp only[if_true]at hK
 clear yu
 refine bE (λi=>((([],[]),((bsS n (rdP n (g.2.2.1.take i) (f0,F0,false)).1,inN n (rdP n (g.2.2.1.take i) (f0,F0,false)).2.1),())),((rdP n (g.2.2.1.take i) (f0,F0,false)).2.2,((i:Int),())))) (λ_=>some (((bsS n (tE g.2.2.1 n),inN n (tF g.2.2.1 n)),()),())) g.2.2.1.length (λi hi L hL=>?_) N0 0 (aC _) (by unfold N0;omega)
 have hUi:j9 (rdP n (g.2.2.1.take i) (f0,F0,false)).2.1:=PZ (s:=(f0,F0,false)) _ hU
 rcases ak i g.2.2.1.length with hil|hil
 ·have ci:(i:Int)<(g.2.2.1.length:Int):=by omega
  have hL:=hL hil
  have hi1:IntKind.wrap .i64 ((i:Int)+1)=((i+1:Nat):Int):=bS hil (by omega)
  have sV:rdP n (g.2.2.1.take (i+1)) (f0,F0,false)=stP n (rdP n (g.2.2.1.take i) (f0,F0,false)) g.2.2.1[i]:=by
   unfold rdP
   rw[cM _ _ hil,fc];rfl
  have hp:=ba hil
  have hbl:=hg.pb _ hp
  have hby:=hg.py _ hp
  simp only[ci,if_true,aJ,aa,List.getElem?_eq_getElem hil,hi1]
  rw[sV]at hL
  generalize rdP n (g.2.2.1.take i) (f0,F0,false)=s at *
  generalize g.2.2.1[i]=p at *
  obtain⟨f,F,m⟩:=s
  rw[<-hL]
  clear hL hK
  unfold stP chP
  by_cases h3:p.1<0
  ·have hr:inR n p.1=false:=by unfold inR;simp;omega
   simp[h3,hr]
  ·by_cases h4:(n:Int)<=p.1
   ·have hr:inR n p.1=false:=by unfold inR;simp;omega
    simp[h3,h4,hr]
   ·have hr:inR n p.1=true:=iV.2 ⟨by omega,by omega⟩
    have hpl:p.1.toNat<n:=by omega
    have h0:0<=p.1:=by omega
    have e73:=K3 (n:=n) (f:=f) hUi hby (by unfold maxLen;omega)
    simp only[h3,if_false,h4,decide_false,ap,e73,aB,h0,if_true,kC F hpl,jy f hpl,mq (hUi _) (iM hUi _),hr,tI,oM,yQ]
    by_cases hq:orI (F p.1.toNat) (eQ n f F p.2.2.1).1=F p.1.toNat
    ·cases he:emR n f p.2.2.1
     ·simp[hq]
     ·cases hf:f p.1.toNat
      ·simp[hq]
      ·simp[hq]
    ·cases he:emR n f p.2.2.1
     ·cases hf:f p.1.toNat
      ·simp[hq]
      ·simp[hq]
     ·cases hf:f p.1.toNat
      ·simp[hq]
      ·simp[hq]
 ·have ci:¬(i:Int)<(g.2.2.1.length:Int):=by omega
  rw[bP hil]at hUi |-
  simp only[ci,if_false]
  have hle:LeP (f0,F0,false) (rdP n g.2.2.1 (f0,F0,false)):=Dl (s:=(f0,F0,false)) _
  have Le:=E7 (n:=n) (ps:=g.2.2.1) g.2.2.1 (λ_ h=>h) (s:=(f0,F0,false)) ⟨fF.e,fF.b⟩
  cases hch:(rdP n g.2.2.1 (f0,F0,false)).2.2
  ·obtain⟨h1,_,h3⟩:=BL _ hch
   refine hK (o8 n (f0,F0,true)) _ _ (by omega) ⟨(f0,F0,false),?_,hU,⟨fF.e,fF.b⟩,λ_=>UO (s:=(f0,F0,false)) hU ⟨fF.e,fF.b⟩ h3,rfl,rfl⟩
   rw[h1]
  ·rcases E6 (s:=(f0,F0,false)) _ hU hch with h|h
   ·cases h
   ·have hlt:o8 n (rdP n g.2.2.1 (f0,F0,false))<o8 n (f0,F0,true):=Lf (s:=(f0,F0,false)) hle h
    refine hK (o8 n (rdP n g.2.2.1 (f0,F0,false))+1) _ _ (by omega) ⟨rdP n g.2.2.1 (f0,F0,false),?_,hUi,Le,λh=>?_,?_,rfl⟩
    ·rw[hch]
    ·rw[hch]at h;cases h
    ·rw[hch,if_pos rfl]
end
noncomputable section
def ltB(x y:ItS):Bool:=decide (x.1<y.1)||(decide (x.1=y.1)&&decide (x.2.1<y.2.1))
def eqB(x y:ItS):Bool:=decide (x.1=y.1)&&decide (x.2.1=y.2.1)
theorem kD{x y:ItS}:ltB x y=true↔ltK x y:=by unfold ltB ltK;simp
theorem oN{x y:ItS}:eqB x y=true↔x.1=y.1/\x.2.1=y.2.1:=by unfold eqB;simp
def mu(x:ItS):List ItS->List ItS
 |[]=>[x]
 |y::r=>if ltB y x=true then y::mu x r else if eqB y x=true then(y.1,(y.2.1,orI y.2.2 x.2.2))::r else x::y::r
def fy(l:List ItS):List ItS:=l.foldl (λo x=>mu x o) []
theorem HG(l:List ItS)(x:ItS):fy (l++[x])=mu x (fy l):=by unfold fy;rw[fc];rfl
theorem BM(x:ItS):∀ l,(mu x l).length<=l.length+1
 |[]=>by simp[mu]
 |y::r=>by
  have:=BM x r
  unfold mu
  split
  ·simp only[aM];omega
  ·split <;> simp
theorem BN(l:List ItS):(fy l).length<=l.length:=by
 have key:∀ (l:List ItS) (o:List ItS),(l.foldl (λo x=>mu x o) o).length<=o.length+l.length:=by
  intro l
  induction l with
  |nil=>intro o;simp
  |cons x l ih=>
   intro o
   have h1:=ih (mu x o)
   have h2:=BM x o
   simp only[ix,aM]
   omega
 have:=key l []
 simpa [fy]using this
def jm(x:ItS):List ItS->Nat
 |[]=>0
 |y::r=>if ltB y x=true then jm x r+1 else 0
theorem yX(x:ItS):∀ l,jm x l<=l.length
 |[]=>ar _
 |y::r=>by
  have:=yX x r
  unfold jm
  split
  ·simp;omega
  ·simp
theorem E8(x:ItS):∀ (l:List ItS) (k:Nat) (h:k<l.length),k<jm x l->ltK l[k] x
 |[],k,h,_=>by simp at h
 |y::r,k,h,hk=>by
  unfold jm at hk
  split at hk
  ·rename_i hy
   cases k with
   |zero=>exact kD.1 hy
   |succ k=>exact E8 x r k (by simpa using h) (by omega)
  ·omega
theorem E9(x:ItS):∀ (l:List ItS),l.Pairwise ltK->∀ (k:Nat) (h:k<l.length),jm x l<=k->¬ltK l[k] x
 |[],_,k,h,_=>by simp at h
 |y::r,hs,k,h,hk=>by
  obtain⟨h1,h2⟩:=dC.1 hs
  unfold jm at hk
  split at hk
  ·rename_i hy
   cases k with
   |zero=>omega
   |succ k=>exact E9 x r h2 k (by simpa using h) (by omega)
  ·rename_i hy
   intro hlt
   cases k with
   |zero=>exact hy (kD.2 hlt)
   |succ k=>exact hy (kD.2 (pB (h1 _ (ba (by simpa using h))) hlt))
theorem Fa(x:ItS):∀ (l:List ItS),mu x l=(match l[jm x l]? with
 |some y=>if eqB y x=true then l.set (jm x l) (y.1,(y.2.1,orI y.2.2 x.2.2))else l.take (jm x l)++[x]++l.drop (jm x l)
 |none=>l.take (jm x l)++[x]++l.drop (jm x l))
 |[]=>rfl
 |y::r=>by
  have ih:=Fa x r
  unfold mu jm
  by_cases hy:ltB y x=true
  ·simp only[hy,if_true,List.getElem?_cons_succ,List.set_cons_succ,qS,List.drop_succ_cons,dN]
   rw[ih]
   cases hz:r[jm x r]? with
   |none=>rfl
   |some z=>
    simp only
    split <;> rfl
  ·simp only[hy,ap,if_false,List.getElem?_cons_zero,qU,List.take_zero,cU,bL]
   rfl
theorem Lg{A:Ato}{o:List ItS}{x:ItS}(h:Can A o)(hx:jc x):Can (λp d q=>A p d q\/At [x] p d q) (mu x o):=by
 have key:∀ (X Y:List ItS),Can A (X++Y)->(∀ a∈X,ltK a x)->Can (λp d q=>A p d q\/At [x] p d q) (X++mu x Y):=by
  intro X Y
  induction Y generalizing X with
  |nil=>intro h h1;exact EX h hx h1 (λb hb=>by cases hb)
  |cons y Y ih=>
   intro h h1
   unfold mu
   by_cases hy:ltB y x=true
   ·rw[if_pos hy]
    have:=ih (X++[y]) (by simpa using h) (λa ha=>by
     rcases au.1 ha with ha|ha
     ·exact h1 a ha
     ·rw[aL.1 ha];exact kD.1 hy)
    simpa using this
   ·rw[if_neg hy]
    by_cases he:eqB y x=true
    ·rw[if_pos he]
     exact R4 h hx (oN.1 he).1 (oN.1 he).2
    ·rw[if_neg he]
     have hlt:ltK x y:=by
      rcases KS x y with h|h|h
      ·exact h
      ·exact absurd (oN.2 ⟨h.1.symm,h.2.symm⟩) he
      ·exact absurd (kD.2 h) hy
     refine EX h hx h1 λb hb=>?_
     rcases ay.1 hb with rfl|hb
     ·exact hlt
     ·exact pB hlt ((dC.1 (gC.1 h.st).2.1).1 b hb)
 exact key [] o h (λa ha=>by cases ha)
theorem jg{l:List ItS}(h:∀ x∈l,jc x):Can (At l) (fy l):=by
 have key:∀ (l:List ItS) (A:Ato) (o:List ItS),Can A o->(∀ x∈l,jc x)->Can (λp d q=>A p d q\/At l p d q) (l.foldl (λo x=>mu x o) o):=by
  intro l
  induction l with
  |nil=>intro A o h _;exact h.congr λp d q=>⟨.inl,λh=>h.elim id λh=>(Dh h).elim⟩
  |cons x l ih=>
   intro A o h hb
   refine(ih _ _ (Lg h (hb x bm)) (λy hy=>hb y (bw _ hy))).congr λp d q=>?_
   rw[show x::l=[x]++l from rfl,jl]
   constructor
   ·rintro((h|h)|h)
    ·exact .inl h
    ·exact .inr (.inl h)
    ·exact .inr (.inr h)
   ·rintro(h|h|h)
    ·exact .inl (.inl h)
    ·exact .inl (.inr h)
    ·exact .inr h
 exact(key l _ [] EY h).congr λp d q=>⟨λh=>h.elim (λh=>h.elim) id,.inr⟩
def HH(a b:Int):Int:=if a<b then -1 else if b<a then 1 else 0
theorem Pg(a b:Int):JM N0 (a,(b,()))=some ((HH a b,()),()):=by
 have h138:∀ a:Int,JL N0 (a,())=some ((false,()),()):=λa=>by unfold JL;simp
 delta JM Bd;unfold HH
 simp only[aH,bM,decide_eq_true_eq,h138,aB]
 by_cases h1:a<b
 ·simp[h1]
 ·by_cases h2:b<a
  ·simp[h1,h2]
  ·simp[h1,h2]
def xp(x y:ItS):Int:=if x.1=y.1 then HH x.2.1 y.2.1 else HH x.1 y.1
theorem Fc(x y:ItS):JN N0 (x,(y,()))=some ((xp x y,()),()):=by
 unfold JN xp
 simp only[aH,bM,Pg,aB]
 by_cases h:x.1=y.1 <;> simp[h]
theorem BO{x y:ItS}:xp x y<0↔ltK x y:=by
 unfold xp HH ltK
 split
 ·split
  ·omega
  ·split <;> omega
 ·split
  ·omega
  ·split <;> omega
theorem Lh{x y:ItS}:xp x y=0↔eqB x y=true:=by
 rw[oN]
 unfold xp HH
 split
 ·split
  ·omega
  ·split <;> omega
 ·split
  ·omega
  ·split <;> omega
theorem Ph{o:List ItS}(hs:o.Pairwise ltK)(hl:o.length<=1000000)(x:ItS):NT N0 (o,(x,((),())))=some ((((jm x o:Nat):Int),((match o[jm x o]? with|some y=>eqB y x|none=>false),())),()):=by
 delta NT Ld Bd Wi
 simp only[aH,bM,decide_eq_true_eq]
 refine aZ (λm z r=>∃ (i j:Nat),z=((),((i:Int),((j:Int),())))/\i<=j/\j<=o.length/\(∀ k (h:k<o.length),k<i->ltK o[k] x)/\(∀ k (h:k<o.length),j<=k->¬ltK o[k] x)/\m=j-i/\r=some ((((jm x o:Nat):Int),((match o[jm x o]? with|some y=>eqB y x|none=>false),())),())) ?_ N0 (o.length-0) _ _ (by unfold N0;omega) ⟨0,o.length,rfl,aC _,ar _,λk _ h=>by omega,λk h1 h2=>by omega,rfl,rfl⟩
 rintro m z r ⟨i,j,rfl,hij,hj,h1,h2,rfl,rfl⟩ K hK
 rcases ak i j with h|h
 ·have c:(i:Int)<(j:Int):=by omega
  obtain⟨hh,hhe⟩:∃ hh,hh=(i+j) / 2:=⟨_,rfl⟩
  have hhl:hh<o.length:=by omega
  have e1:IntKind.wrap .i64 ((i:Int)+(j:Int))=((i+j:Nat):Int):=by rw[bz (by omega) (by omega)];simp
  have e2:IntKind.wrap .u64 ((i+j:Nat):Int)=((i+j:Nat):Int):=wrap_u64 ⟨by omega,by omega⟩
  have e3:Int.fdiv ((i+j:Nat):Int) (2 ^ (Nat.min (Int.toNat 1) (IntKind.bits .u64)))=(hh:Int):=by
   have:(2:Int) ^ (Nat.min (Int.toNat 1) (IntKind.bits .u64))=2:=by decide
   rw[this,nM _ (by omega),hhe]
   omega
  have e4:IntKind.wrap .i64 (hh:Int)=(hh:Int):=bz (by omega) (by omega)
  have e5:IntKind.wrap .i64 ((hh:Int)+1)=((hh+1:Nat):Int):=bS hhl hl
  simp only[c,if_true,show ¬(1:Int)<0 by omega,if_false,e1,e2,e3,e4,aJ,aa,List.getElem?_eq_getElem hhl,Fc,aB,e5]
  by_cases hlt:ltK o[hh] x
  ·rw[if_pos (BO.2 hlt)]
   exact hK _ _ _ (by omega) ⟨hh+1,j,rfl,by omega,hj,λk hk hki=>by
    by_cases e:k=hh
    ·subst e;exact hlt
    ·exact pB (nN.1 hs k hh hk hhl (by omega)) hlt,h2,rfl,rfl⟩
  ·rw[if_neg λh=>hlt (BO.1 h)]
   exact hK _ _ _ (by omega) ⟨i,hh,rfl,by omega,by omega,h1,λk hk hki hlk=>by
    by_cases e:k=hh
    ·subst e;exact hlt hlk
    ·exact hlt (pB (nN.1 hs hh k hhl hk (by omega)) hlk),rfl,rfl⟩
 ·have c:¬(i:Int)<(j:Int):=by omega
  have hp:jm x o=i:=by
   rcases Nat.lt_trichotomy (jm x o) i with hlt|he|hgt
   ·exact absurd (h1 _ (by omega) hlt) (E9 x o hs _ (by omega) (ar _))
   ·exact he
   ·have:=yX x o
    exact absurd (E8 x o i (by omega) hgt) (h2 i (by omega) h)
  simp only[c,if_false,hp]
  rcases ak i o.length with hi|hi
  ·have ci:(i:Int)<(o.length:Int):=by omega
   simp only[ci,if_true,aJ,aa,List.getElem?_eq_getElem hi,Fc,aB,Lh]
   simp
  ·have ci:¬(i:Int)<(o.length:Int):=by omega
   rw[List.getElem?_eq_none hi]
   simp only[ci,if_false]
theorem Li{l:List ItS}(hb:∀ x∈l,jc x)(hl:l.length<=1000000):p99 N0 (l,())=some ((fy l,()),()):=by
 delta p99 Ld Bd Wi
 simp only[aH,bM,decide_eq_true_eq]
 refine bE (λj=>((),(fy (l.take j),((j:Int),())))) (λ_=>some ((fy l,()),())) l.length (λj hj K hK=>?_) N0 0 (aC _) (by unfold N0;omega)
 rcases ak j l.length with h|h
 ·have c:(j:Int)<(l.length:Int):=by omega
  have hK:=hK h
  have hj1:IntKind.wrap .i64 ((j:Int)+1)=((j+1:Nat):Int):=bS h hl
  rw[cM _ _ h,HG]at hK
  have Lj:=jg (l:=l.take j) λx hx=>hb x (qP hx)
  have hcl:=BN (l.take j)
  rw[aN]at hcl
  have hx:=hb _ (ba h)
  simp only[c,if_true,aJ,aa,List.getElem?_eq_getElem h,hj1]
  generalize l[j]=x at *
  generalize fy (l.take j)=o at *
  rw[Ph Lj.st (by omega) x]
  simp only[aB]
  rw[Fa]at hK
  have hpl:=yX x o
  have h102:AZ N0 (o,(((jm x o:Nat):Int),([x],())))=some ((o.take (jm x o)++[x]++o.drop (jm x o),()),()):=by
   unfold AZ
   simp only[aa]
   rw[if_pos ⟨rfl,by omega,hpl,by omega⟩]
  rw[<-hK]
  cases hp:o[jm x o]? with
  |none=>
   simp only[ap,if_false]
   rw[h102]
   rfl
  |some y=>
   have hy:=Lj.bd y (List.mem_of_getElem? hp)
   cases he:eqB y x
   ·simp only[ap,if_false,he]
    rw[h102]
    rfl
   ·simp only[if_true,he,aJ,aa,hp,mq hy hx]
 ·have c:¬(j:Int)<(l.length:Int):=by omega
  simp only[c,if_false]
  rw[bP h]
end
end Go.Proofs.YtphipehmbefejaaGreat.Rf.Rk
