/- A part of a proof that a given statement (the one of this claim: the name of its theorem ends in _holds) is true of the program, with no condition ahead of it. Printed by wip/dev/pack2.py out of the texts in wip. -/
import Derived.Test.YthalkfdkbalpmaaGreatW5
set_option linter.unusedVariables false
set_option linter.unusedSimpArgs false
namespace Go.Proofs.YthalkfdkbalpmaaGreat.Rf
open Go
noncomputable section
theorem zF{g:GrI}{i:Nat}{r:Int}:r∈ahead g i↔∃ a l,a<i/\g.2.2.2.1[a]?=some l/\r∈l.2:=by
 unfold ahead
 rw[List.mem_flatMap]
 constructor
 ·rintro⟨l,h1,h2⟩
  obtain⟨a,ha⟩:=List.mem_iff_getElem?.1 h1
  rw[List.getElem?_take]at ha
  split at ha
  ·exact⟨a,l,by assumption,ha,h2⟩
  ·cases ha
 ·rintro⟨a,l,h1,h2,h3⟩
  refine⟨l,List.mem_iff_getElem?.2 ⟨a,?_⟩,h3⟩
  rw[List.getElem?_take,if_pos h1,h2]
theorem Ik{g:GrI}(ok:lS g){i:Nat}{l:LvI}(hi:g.2.2.2.1[i]?=some l){k:Nat}{r:Int}(hk:l.2[k]?=some r):p70 N0 (g,((i:Int),((k:Int),())))=some ((decide (r∈ahead g i++l.2.take k),()),()):=by
 have hlt:i<g.2.2.2.1.length:=(List.getElem?_eq_some_iff.1 hi).1
 have hkt:k<l.2.length:=(List.getElem?_eq_some_iff.1 hk).1
 have h0:=ok.l0
 unfold p70
 simp only
 refine aJ (λm x q=>∃ a:Nat,x=((),((a:Int),()))/\m+a=i+1/\a<=i/\¬r∈ahead g a/\q=some ((decide (r∈ahead g i++l.2.take k),()),())) ?_ N0 (i+1) _ _ (by unfold N0;omega) ⟨0,rfl,rfl,Nat.zero_le _,by simp[ahead],rfl⟩
 rintro m x q ⟨a,rfl,hm,hai,hna,rfl⟩ kk hkk
 simp only
 rw[decide_eq_true (show(a:Int)<=(i:Int) by omega),cond_true]
 have ha:g.2.2.2.1[a]?=some (g.2.2.2.1[a]'(by omega)):=List.getElem?_eq_getElem _
 have hla:=ok.l1 _ (List.getElem_mem (show a<g.2.2.2.1.length by omega))
 generalize g.2.2.2.1[a]'(by omega)=la at ha hla
 simp only[Int.toNat_natCast,ha,hi]
 refine aJ (λm x q=>∃ b:Nat,x=((),((b:Int),()))/\m+b=la.2.length/\¬r∈la.2.take b/\(a=i->b<=k)/\q=some ((decide (r∈ahead g i++l.2.take k),()),())) ?_ N0 la.2.length _ _ (by unfold N0;omega) ⟨0,rfl,rfl,by simp,λ_=>Nat.zero_le _,rfl⟩
 rintro m2 x q ⟨b,rfl,hm2,hnb,hbk,rfl⟩ k2 hk2
 simp only[Int.toNat_natCast]
 rw[if_pos (by omega)]
 rcases Nat.lt_or_ge b la.2.length with hb|hb
 ·rw[decide_eq_true (show(b:Int)<((la.2.length:Nat):Int) by omega),cond_true]
  have hgb:la.2[b]?=some la.2[b]:=List.getElem?_eq_getElem hb
  have htk:la.2.take (b+1)=la.2.take b++[la.2[b]]:=by rw[List.take_add_one,hgb];rfl
  have hin:la.2[b]∈la.2:=List.getElem_mem hb
  simp only[hgb,hk]
  generalize la.2[b]=rb at htk hin hgb
  refine av ((),(decide (a=i/\k<=b),())) (λK=>?_) ?_
  ·by_cases e:a=i
   ·rw[decide_eq_true (show(a:Int)=(i:Int) by omega),cond_true]
    have:decide ((k:Int)<=(b:Int))=decide (a=i/\k<=b):=by rw[decide_eq_decide];omega
    rw[this]
   ·rw[decide_eq_false (show ¬(a:Int)=(i:Int) by omega),cond_false,decide_eq_false (λh=>e h.1)]
  ·simp only
   by_cases e:a=i/\k<=b
   ·rw[decide_eq_true e,cond_true]
    obtain⟨rfl,hkb⟩:=e
    have hbk:=hbk rfl
    have:b=k:=by omega
    subst this
    rw[hi]at ha
    injection ha with ha
    subst ha
    rw[decide_eq_false (λh=>(List.mem_append.1 h).elim hna hnb)]
   ·rw[decide_eq_false e,cond_false,if_pos (by omega),if_pos (by omega),if_pos (by omega),if_pos (by omega)]
    by_cases er:rb=r
    ·subst er
     rw[decide_eq_true rfl,cond_true,decide_eq_true]
     by_cases eai:a=i
     ·subst eai
      rw[hi]at ha
      injection ha with ha
      subst ha
      refine List.mem_append.2 (.inr (List.mem_iff_getElem?.2 ⟨b,?_⟩))
      rw[List.getElem?_take,if_pos (by omega),hgb]
     ·exact List.mem_append.2 (.inl (zF.2 ⟨a,la,by omega,ha,hin⟩))
    ·rw[decide_eq_false er,cond_false,aE hb (le_max hla)]
     refine hk2 (m2-1) _ _ (by omega) ⟨b+1,rfl,by omega,?_,λh=>by omega,rfl⟩
     rw[htk]
     intro h
     rcases List.mem_append.1 h with h|h
     ·exact hnb h
     ·simp at h;exact er h.symm
 ·rw[decide_eq_false (show ¬(b:Int)<((la.2.length:Nat):Int) by omega),cond_false,aE (show a<g.2.2.2.1.length by omega) (le_max h0)]
  have:b=la.2.length:=by omega
  subst this
  rw[List.take_length]at hnb
  have AV:¬r∈ahead g (a+1):=by
   rw[oo ha]
   intro h
   exact(List.mem_append.1 h).elim hna hnb
  have NK:a<i:=by
   rcases Nat.lt_or_ge a i with h|h
   ·exact h
   ·exfalso
    have:a=i:=by omega
    subst this
    rw[hi]at ha
    injection ha with ha
    subst ha
    have:=hbk rfl
    omega
  exact hkk (m-1) _ _ (by omega) ⟨a+1,rfl,by omega,by omega,AV,rfl⟩
theorem Il{g:GrI}(ok:lS g){i:Nat}{l:LvI}(hi:g.2.2.2.1[i]?=some l):p38 N0 (g,((i:Int),()))=some ((kh g i l,()),()):=by
 have hl:=ok.l1 _ (List.mem_of_getElem? hi)
 unfold p38
 simp only
 rw[if_pos (by omega),Int.toNat_natCast,hi]
 simp only
 refine av ((),(decide (l.1<1\/3<l.1\/l.2.length=0\/60<=i),())) (λK=>?_) ?_
 ·by_cases q1:l.1<1
  ·rw[decide_eq_true q1,cond_true,decide_eq_true (.inl q1)]
  rw[decide_eq_false q1,cond_false]
  by_cases q2:3<l.1
  ·rw[decide_eq_true q2,cond_true,decide_eq_true (.inr (.inl q2))]
  rw[decide_eq_false q2,cond_false]
  by_cases q3:l.2.length=0
  ·rw[decide_eq_true (show((l.2.length:Nat):Int)=0 by omega),cond_true,decide_eq_true (.inr (.inr (.inl q3)))]
  rw[decide_eq_false (show ¬((l.2.length:Nat):Int)=0 by omega),cond_false]
  have:decide ((60:Int)<=(i:Int))=decide (l.1<1\/3<l.1\/l.2.length=0\/60<=i):=by rw[decide_eq_decide];omega
  rw[this]
 ·simp only
  unfold kh
  by_cases q:l.1<1\/3<l.1\/l.2.length=0\/60<=i
  ·rw[decide_eq_true q,cond_true,if_pos q]
  rw[decide_eq_false q,cond_false,if_neg q]
  refine(kg l.2 (λj=>((),((j:Int),()))) (oq g i l) (λe _=>some ((e,()),())) (some ((0,()),())) (λj h k=>?_) (λk=>?_) N0 (eB hl)).trans ?_
  ·simp only
   have hg:l.2[j]?=some l.2[j]:=List.getElem?_eq_getElem h
   rw[decide_eq_true (show(j:Int)<((l.2.length:Nat):Int) by omega),cond_true,if_pos (by omega),Int.toNat_natCast,hg]
   generalize l.2[j]=r at hg
   simp only
   rw[aa (vP g _)]
   simp only
   unfold oq
   cases hs:dL g (false,r)
   ·rw[Bool.not_false,cond_true,if_pos rfl,if_neg (by omega)]
   rw[Bool.not_true,cond_false,if_neg (show ¬(true=false) by simp),aa (Ik ok hi hg)]
   simp only
   by_cases hr:r∈ahead g i++l.2.take j
   ·rw[if_pos hr,decide_eq_true hr,cond_true,if_neg (by omega)]
   ·rw[if_neg hr,decide_eq_false hr,cond_false,if_pos rfl,aE h (le_max hl)]
  ·simp only
   rw[decide_eq_false (by omega),cond_false]
  ·cases bh (oq g i l) 0 l.2 <;> rfl
def ud(g:GrI):Flt:=if g.2.2.2.2<0\/(g.2.1.length:Int)<=g.2.2.2.2 then(11,(5,0))else(0,(0,0))
def ot(g:GrI):Flt:=match bh (kh g) 0 g.2.2.2.1 with
 |some p=>(p.1,(4,(p.2:Int)))
 |none=>ud g
def ue(g:GrI):Flt:=if 200<g.2.2.1.length then(6,(3,(g.2.2.1.length:Int)))else match bh (gu g) 0 g.2.2.1 with
 |some p=>(p.1,(3,(p.2:Int)))
 |none=>ot g
def uf(g:GrI):Flt:=if 300<g.2.1.length then(6,(2,(g.2.1.length:Int)))else match bh (ft g) 0 g.2.1 with
 |some p=>(p.1,(2,(p.2:Int)))
 |none=>ue g
def ff(g:GrI):Flt:=
 if ¬(dz g.1).2=0 then((dz g.1).2,(1,((dz g.1).1:Int)))else uf g
def gP(v:Flt):Option ((Int×(Int×(Int×Unit)))×Unit):=some ((v.1,(v.2.1,(v.2.2,()))),())
theorem jQ{α:Type}{E:Nat->α->Int}:∀ {l:List α} {i:Nat} {p:Int×Nat},bh E i l=some p->¬p.1=0:=by
 intro l
 induction l with
 |nil=>intro i p h;cases h
 |cons a r ih=>
  intro i p h
  simp only[bh]at h
  split at h
  ·exact ih h
  ·rename_i hn;injection h with h;rw[<-h];exact hn
theorem Im{g:GrI}(ok:lS g)(h12:∀ r∈g.1,r.2.2.length<=12):p31 N0 (g,())=some ((ff g,()),()):=by
 unfold p31 ff
 simp only
 rw[aa (Ib (le_max ok.r0) ok.r1 h12)]
 simp only
 by_cases e1:(dz g.1).2=0
 case neg=>rw[decide_eq_false e1,Bool.not_false,cond_true,if_pos e1]
 rw[decide_eq_true e1,Bool.not_true,cond_false,if_neg (show ¬¬(dz g.1).2=0 from λh=>h e1),aa (CF ok)]
 simp only
 unfold uf
 by_cases e2:300<g.2.1.length
 ·rw[if_pos e2,if_pos e2];rfl
 rw[if_neg e2,if_neg e2]
 cases e3:bh (ft g) 0 g.2.1 with
 |some p=>
  simp only
  rw[decide_eq_false (jQ e3),Bool.not_false,cond_true]
 |none=>
 simp only
 rw[decide_true,Bool.not_true,cond_false]
 unfold ue
 by_cases e4:200<g.2.2.1.length
 ·rw[decide_eq_true (show(200:Int)<((g.2.2.1.length:Nat):Int) by omega),cond_true,if_pos e4]
 rw[decide_eq_false (show ¬(200:Int)<((g.2.2.1.length:Nat):Int) by omega),cond_false,if_neg e4]
 refine(kg g.2.2.1 (λj=>((((0:Int),((0:Int),(0:Int))),()),((j:Int),()))) (gu g) (λe j=>some (((e,(3,(j:Int))),()),())) (some ((ot g,()),())) (λj h k=>?_) (λk=>?_) N0 (eB ok.p0)).trans ?_
 ·simp only
  rw[decide_eq_true (show(j:Int)<((g.2.2.1.length:Nat):Int) by omega),cond_true,aa (CG ok (List.getElem?_eq_getElem h))]
  simp only
  by_cases e:gu g j g.2.2.1[j]=0
  ·rw[decide_eq_true e,Bool.not_true,cond_false,if_pos e,aE h (le_max ok.p0)]
  ·rw[decide_eq_false e,Bool.not_false,cond_true,if_neg e]
 ·simp only
  rw[decide_eq_false (by omega),cond_false,aa (CH ok)]
  simp only
  unfold ot
  cases e5:bh (kh g) 0 g.2.2.2.1 with
  |some p=>
   simp only
   rw[decide_eq_false (jQ e5),Bool.not_false,cond_true]
  |none=>
   simp only
   rw[decide_true,Bool.not_true,cond_false]
   refine av ((((0:Int),((0:Int),(0:Int))),()),(decide (g.2.2.2.2<0\/(g.2.1.length:Int)<=g.2.2.2.2),())) (λK=>?_) ?_
   ·by_cases q1:g.2.2.2.2<0
    ·rw[decide_eq_true q1,cond_true,decide_eq_true (.inl q1)]
    ·rw[decide_eq_false q1,cond_false]
     have:decide (g.2.2.2.2<0\/(g.2.1.length:Int)<=g.2.2.2.2)=decide ((g.2.1.length:Int)<=g.2.2.2.2):=by rw[decide_eq_decide];exact⟨λh=>h.resolve_left q1,.inr⟩
     rw[this]
   ·simp only
    unfold ud
    by_cases q:g.2.2.2.2<0\/(g.2.1.length:Int)<=g.2.2.2.2
    ·rw[decide_eq_true q,cond_true,if_pos q]
    ·rw[decide_eq_false q,cond_false,if_neg q]
 ·cases bh (gu g) 0 g.2.2.1 <;> rfl
theorem CI{g:GrI}(ok:lS g):p13 N0 (g,())=some (((ff g).1,((ff g).2.1,((ff g).2.2,()))),()):=by
 unfold p13 ff
 simp only
 rw[aa (H9 (le_max ok.r0) ok.r1)]
 simp only
 by_cases e1:(dz g.1).2=0
 case neg=>rw[decide_eq_false e1,Bool.not_false,cond_true,if_pos e1]
 rw[decide_eq_true e1,Bool.not_true,cond_false,if_neg (show ¬¬(dz g.1).2=0 from λh=>h e1)]
 show _=gP (uf g)
 unfold uf
 by_cases e2:300<g.2.1.length
 ·rw[decide_eq_true (show(300:Int)<((g.2.1.length:Nat):Int) by omega),cond_true,if_pos e2];rfl
 rw[decide_eq_false (show ¬(300:Int)<((g.2.1.length:Nat):Int) by omega),cond_false,if_neg e2]
 refine(kg g.2.1 (λj=>((),((j:Int),()))) (ft g) (λe j=>gP (e,(2,(j:Int)))) (gP (ue g)) (λj h k=>?_) (λk=>?_) N0 (eB ok.s0)).trans ?_
 ·simp only
  rw[decide_eq_true (show(j:Int)<((g.2.1.length:Nat):Int) by omega),cond_true,aa (Ii ok (List.getElem?_eq_getElem h))]
  simp only
  by_cases e:ft g j g.2.1[j]=0
  ·rw[decide_eq_true e,Bool.not_true,cond_false,if_pos e,aE h (le_max ok.s0)]
  ·rw[decide_eq_false e,Bool.not_false,cond_true,if_neg e];rfl
 ·simp only
  rw[decide_eq_false (by omega),cond_false]
  unfold ue
  by_cases e4:200<g.2.2.1.length
  ·rw[decide_eq_true (show(200:Int)<((g.2.2.1.length:Nat):Int) by omega),cond_true,if_pos e4];rfl
  rw[decide_eq_false (show ¬(200:Int)<((g.2.2.1.length:Nat):Int) by omega),cond_false,if_neg e4]
  refine(kg g.2.2.1 (λj=>((),((j:Int),()))) (gu g) (λe j=>gP (e,(3,(j:Int)))) (gP (ot g)) (λj h k=>?_) (λk=>?_) N0 (eB ok.p0)).trans ?_
  ·simp only
   rw[decide_eq_true (show(j:Int)<((g.2.2.1.length:Nat):Int) by omega),cond_true,aa (Ij ok (List.getElem?_eq_getElem h))]
   simp only
   by_cases e:gu g j g.2.2.1[j]=0
   ·rw[decide_eq_true e,Bool.not_true,cond_false,if_pos e,aE h (le_max ok.p0)]
   ·rw[decide_eq_false e,Bool.not_false,cond_true,if_neg e];rfl
  ·simp only
   rw[decide_eq_false (by omega),cond_false]
   unfold ot
   refine(kg g.2.2.2.1 (λj=>((),((j:Int),()))) (kh g) (λe j=>gP (e,(4,(j:Int)))) (gP (ud g)) (λj h k=>?_) (λk=>?_) N0 (eB ok.l0)).trans ?_
   ·simp only
    rw[decide_eq_true (show(j:Int)<((g.2.2.2.1.length:Nat):Int) by omega),cond_true,aa (Il ok (List.getElem?_eq_getElem h))]
    simp only
    by_cases e:kh g j g.2.2.2.1[j]=0
    ·rw[decide_eq_true e,Bool.not_true,cond_false,if_pos e,aE h (le_max ok.l0)]
    ·rw[decide_eq_false e,Bool.not_false,cond_true,if_neg e];rfl
   ·simp only
    rw[decide_eq_false (by omega),cond_false]
    refine av ((),(decide (g.2.2.2.2<0\/(g.2.1.length:Int)<=g.2.2.2.2),())) (λK=>?_) ?_
    ·by_cases q1:g.2.2.2.2<0
     ·rw[decide_eq_true q1,cond_true,decide_eq_true (.inl q1)]
     ·rw[decide_eq_false q1,cond_false]
      have:decide (g.2.2.2.2<0\/(g.2.1.length:Int)<=g.2.2.2.2)=decide ((g.2.1.length:Int)<=g.2.2.2.2):=by rw[decide_eq_decide];exact⟨λh=>h.resolve_left q1,.inr⟩
      rw[this]
    ·simp only
     unfold ud
     by_cases q:g.2.2.2.2<0\/(g.2.1.length:Int)<=g.2.2.2.2
     ·rw[decide_eq_true q,cond_true,if_pos q];rfl
     ·rw[decide_eq_false q,cond_false,if_neg q];rfl
   ·cases bh (kh g) 0 g.2.2.2.1 <;> rfl
  ·cases bh (gu g) 0 g.2.2.1 <;> rfl
 ·cases bh (ft g) 0 g.2.1 <;> rfl
end
noncomputable section
def DQ2(t:Rx)(z:Option ((DfI×(Int×Unit))×Unit)):Prop:=DQ t z\/∃ d:DfI,z=some ((d,((6:Int),())),())
theorem CJ{t:Rx}(hok:t.ok)(hlen:t.len<=400):
 DQ2 t (vo N0 (nfT t,(mkL (2*t.len) (t.lst 0),()))):=by
 have hin:=lO t
 have hE:=dU t 0
 have hS:=Cn t hok 0
 have Np:=t.fU 0
 have Nq:=t.jm 0
 have hn:2*t.len<=100000:=by omega
 unfold vo
 simp only
 rw[aa (oe hlen)]
 simp only
 rw[Bool.not_true,cond_false,show nfT t=(((2*t.len:Nat):Int),((t.ah 0).map edI,(((t.fst 0:Nat):Int),((t.lst 0:Nat):Int))))from rfl]
 rw[aa (xf (by omega) _)]
 simp only
 obtain⟨arr,H3,hao⟩:=xj (bE:=dI (t.ah 0)) (by have:=lP (t.ah 0);omega) (λS hS'=>by
  unfold dI at hS'
  obtain⟨e,he,rfl⟩:=List.mem_map.1 hS'
  exact hS e (List.mem_filter.1 he).1)
 rw[aa H3]
 simp only
 generalize hNf:(((2*t.len:Nat):Int),((t.ah 0).map edI,(((t.fst 0:Nat):Int),((t.lst 0:Nat):Int))))=N
 have hN1:N.1=((2*t.len:Nat):Int):=by rw[<-hNf]
 have hN2:N.2.2.1=((t.fst 0:Nat):Int):=by rw[<-hNf]
 generalize hZ:(List.replicate 256 (0:Int),(([]:List (List Int)),([]:List Int)))=Z
 generalize hnn:2*t.len=n at *
 generalize hll:t.lst 0=last at *
 -- the bytes Nr KW for Fx
 refine bL (λm x=>∃ (c:Nat) (cu:List Int),x=((Z,((N,(mkL n last,(cu,(([]:KM),(([]:List (List Bool)),(arr,(([]:List (List Int)),([]:List Int)))))))),())),((c:Int),()))/\m+c=256/\cu.length<=c/\xx cu) (DQ2 t) ?_ N0 256 _ (by unfold N0;omega) ⟨0,[],rfl,rfl,by simp,by simp[xx]⟩
 rintro m x ⟨c,cu,rfl,hm,hrl,hro⟩ k hk
 simp only
 rcases Nat.lt_or_ge c 256 with hc|hc
 ·have n0:(0:Int)<=(c:Int):=by omega
  obtain⟨v,hv⟩:∃ v,arr[c]?=some v:=⟨arr[c]'(by rw[hao.1];exact hc),List.getElem?_eq_getElem _⟩
  rw[decide_eq_true (show(c:Int)<256 by omega),cond_true,if_pos n0,Int.toNat_natCast,hv]
  simp only
  refine jq (P:=DQ2 t) λK hK=>?_
  cases hd:decide (IntKind.wrap .i64 v=((cu.length:Nat):Int))
  ·rw[cond_false,hK]
   simp only
   rw[bf (by omega)]
   exact hk (m-1) _ (by omega) ⟨c+1,cu,rfl,by omega,by omega,hro⟩
  ·rw[cond_true,if_pos (by simp;omega),if_pos (by simp;omega),hK]
   simp only
   rw[bf (by omega),fc hc]
   refine hk (m-1) _ (by omega) ⟨c+1,cu++[(c:Int)],rfl,by omega,by simp;omega,by simp;omega,λv' hv'=>?_⟩
   rcases List.mem_append.1 hv' with h1|h1
   ·exact hro.2 v' h1
   ·simp at h1;exact⟨c,hc,h1⟩
 ·rw[decide_eq_false (show ¬(c:Int)<256 by omega),cond_false]
  rw[if_pos ⟨by omega,by omega⟩,if_pos (by rw[Int.toNat_natCast];omega),if_pos (by omega),Int.toNat_natCast,Int.toNat_natCast,xw (show t.fst 0<n by omega)]
  simp only
  rw[if_pos (by omega)]
  have hbs:=xv (n:=n) (x:=t.fst 0) (by omega)
  rw[hbs]
  obtain⟨g0,hg0,hc0⟩:=mK (n:=n) hn (E:=t.ah 0) (by omega) hin (((t.fst 0:Nat):Int),((last:Nat):Int)) (λq=>decide (q=t.fst 0))
  rw[hNf]at hg0
  rw[aa hg0]
  simp only
  have hs0:Sup n g0:=kW hin (λq hq=>by rw[decide_eq_true_eq]at hq;omega) hc0
  have hb0:BOk N n last cu arr (N,(mkL n last,(cu,(([]:KM),(([]:List (List Bool)),(arr,(([]:List (List Int)),([]:List Int)))))))) []:=
   ⟨rfl,rfl,rfl,λk=>⟨λh=>(by cases h),λ⟨g,h,_⟩=>(by simp at h)⟩,rfl,rfl,rfl,λg h=>(by simp at h)⟩
  obtain⟨r,b1,gs1,e1,ob1,nx1,H4⟩:=mM hn (by omega) hb0 (by simp) hs0
  rw[aa e1]
  simp only
  have H5:ol t g0 gs1:=by
   rcases H4 with⟨_,h|h⟩|⟨rfl,_⟩
   ·have:=hc0.1 (t.fst 0) (by simp)
    rw[h]at this;cases this
   ·simp at h
   ·exact⟨by simp,λg hg=>by simp at hg;subst hg;exact .ini hc0,rfl⟩
  refine bL (λm x=>∃ (i:Nat) (b:BI) (gs:List (Nat->Bool)),x=((Z,(b,())),((i:Int),()))/\BOk N n last cu arr b gs/\ol t g0 gs/\m+i=2000/\i<=gs.length/\b.2.2.2.2.2.2.1.length=i) (DQ2 t) ?_ N0 2000 _ (by unfold N0;omega) ⟨0,b1,gs1,rfl,ob1,H5,rfl,Nat.zero_le _,by rw[nx1];rfl⟩
  rintro m x ⟨i,b,gs,rfl,ob,og,hm,hi,hnx⟩ k hk
  have hsl:b.2.2.2.2.1.length=gs.length:=by rw[ob.bE,List.length_map]
  simp only[hsl]
  rcases Nat.lt_or_ge i gs.length with hil|hil
  ·by_cases hbg:2000<gs.length
   ·rw[decide_eq_true (show(i:Int)<((gs.length:Nat):Int) by omega),cond_true,decide_eq_true (show(2000:Int)<((gs.length:Nat):Int) by omega),cond_true]
    exact .inr ⟨_,rfl⟩
   have hle:gs.length<=2000:=by omega
   rw[decide_eq_true (show(i:Int)<((gs.length:Nat):Int) by omega),cond_true,decide_eq_false (show ¬(2000:Int)<((gs.length:Nat):Int) by omega),cond_false]
   refine bL (λm x=>∃ (j:Nat) (b':BI) (gs':List (Nat->Bool)) (row:List Int),x=((Z,(b',())),(row,((j:Int),())))/\BOk N n last cu arr b' gs'/\ol t g0 gs'/\m+j=cu.length/\gs'.length<=2000+j/\i<gs'.length/\b'.2.2.2.2.2.2.1.length=i/\row.length=j) (DQ2 t) ?_ N0 cu.length _ (by have:=hro.1;unfold N0;omega) ⟨0,b,gs,[],rfl,ob,og,rfl,by omega,hil,hnx,rfl⟩
   rintro m' x ⟨j,b',gs',row,rfl,ob',og',hm',Ns,vK,H6,eU⟩ k' hk'
   simp only[ob.rp]
   have hrr:=hro.1
   rcases Nat.lt_or_ge j cu.length with hj|hj
   ·obtain⟨cc,hcc,hcv⟩:=hro.2 _ (List.getElem_mem hj)
    have hgj:cu[j]?=some (cc:Int):=by rw[List.getElem?_eq_getElem hj,hcv]
    have hgi:gs'[i]?=some gs'[i]:=List.getElem?_eq_getElem vK
    have hmi:gs'[i]∈gs':=List.getElem_mem vK
    have a9:b'.2.2.2.2.1[i]?=some (bsN n gs'[i]):=by rw[ob'.bE,List.getElem?_map,hgi];rfl
    generalize gs'[i]=gi at hmi a9
    have q9:=hro.1
    rw[decide_eq_true (show(j:Int)<((cu.length:Nat):Int) by omega),cond_true,if_pos (by omega),Int.toNat_natCast,hgj]
    simp only
    rw[if_pos (by omega),Int.toNat_natCast,a9]
    simp only
    have h168:=xg (n:=n) hn (E:=t.ah 0) (by omega) hin hS (((t.fst 0:Nat):Int),((last:Nat):Int)) gi hcc
    rw[hNf]at h168
    rw[aa h168]
    simp only
    obtain⟨g2,hg2,hc2⟩:=mK (n:=n) hn (E:=t.ah 0) (by omega) hin (((t.fst 0:Nat):Int),((last:Nat):Int)) (aB (t.ah 0) gi cc)
    rw[hNf]at hg2
    rw[aa hg2]
    simp only
    have hs2:Sup n g2:=kW hin (px hin gi cc) hc2
    obtain⟨r2,b2,gs2,e2,ob2,nx2,zB⟩:=mM hn (by omega) ob' (by omega) hs2
    rw[aa e2]
    simp only
    rw[if_pos (by simp;omega),if_pos (by simp;omega),bf (by omega)]
    refine hk' (m' - 1) _ (by omega) ⟨j+1,b2,gs2,row++[r2],rfl,ob2,?_,by omega,?_,?_,by rw[nx2];exact H6,by simp;omega⟩
    ·rcases zB with⟨rfl,_⟩|⟨rfl,hnm⟩
     ·exact og'
     ·exact og'.push (.step hcc (og'.rch gi hmi) hc2) hnm
    ·rcases zB with⟨rfl,_⟩|⟨rfl,_⟩
     ·omega
     ·simp;omega
    ·rcases zB with⟨rfl,_⟩|⟨rfl,_⟩
     ·exact vK
     ·simp;omega
   ·rw[decide_eq_false (show ¬(j:Int)<((cu.length:Nat):Int) by omega),cond_false]
    rw[if_pos (by simp;omega),if_pos (by simp;omega),bf (by omega)]
    exact hk (m-1) _ (by omega) ⟨i+1,_,gs',rfl,⟨ob'.nf,ob'.mks,ob'.rp,ob'.key,ob'.bE,ob'.cl,ob'.mark,ob'.sup⟩,og',by omega,by omega,by simp;omega⟩
  ·rw[decide_eq_false (show ¬(i:Int)<((gs.length:Nat):Int) by omega),cond_false]
   refine .inl ⟨_,rfl,?_⟩
   show b.2.2.2.2.2.2.2[0]?=_
   rw[ob.mark,List.getElem?_map,og.hd]
   have hmn:=pv t hc0
   rw[hll]at hmn
   have hln:last<n:=by omega
   simp only[Option.map_some,dV,hmn]
   simp[hln]
end
end Go.Proofs.YthalkfdkbalpmaaGreat.Rf
namespace Go.Proofs.YthalkfdkbalpmaaGreat.Rf.Rk
open Go Go.Proofs.YthalkfdkbalpmaaGreat.Rf
noncomputable section
abbrev Lvl:=Int×List Int
abbrev Prd:=Int×(List Int×(List (Bool×Int)×(Bool×(Int×List Int))))
abbrev Grm:=List (List Int×(Int×List Int))×(List (List Int)×(List Prd×(List Lvl×Int)))
structure GOk(g:Grm):Prop where
 ls:g.2.2.2.1.length<=maxLen
 lr:∀ l∈g.2.2.2.1,l.2.length<=maxLen
 ps:g.2.2.1.length<=maxLen
 pb:∀ p∈g.2.2.1,p.2.2.1.length<=maxLen
 rs:g.1.length<=maxLen
 so:g.2.1.length<=maxLen
def vQ(r:List Int×(Int×List Int)):Bool:=decide (r.2.2.length<=40)&&decide (r.1.length<=100)
def ug(l:List (List Int×(Int×List Int))):Bool:=decide (l.length<=20)&&l.all vQ
theorem Io(l:List (List Int×(Int×List Int)))(hl:l.length<=maxLen):p30 N0 (l,())=some ((ug l,()),()):=by
 unfold p30 ug
 simp only[aY,BU,decide_eq_true_eq]
 by_cases h1:(20:Int)<(l.length:Int)
 ·have:¬l.length<=20:=by omega
  simp[h1,this]
 ·have h2:l.length<=20:=by omega
  simp only[h1,h2,if_false,decide_true,Bool.true_and]
  refine jI (λj=>((),((j:Int),()))) (λj=>some (((l.drop j).all vQ,()),())) l.length (λj hj k hk=>?_) N0 0 (Nat.zero_le _) (by have:=gO hl;omega)
  rcases Nat.lt_or_ge j l.length with hi|hi
  ·have hk:=hk hi
   have hc:(j:Int)<(l.length:Int):=by omega
   simp only[hc,if_true,Int.toNat_natCast,Int.natCast_nonneg,List.getElem?_eq_getElem hi,aE hi hl,List.drop_eq_getElem_cons hi,List.all_cons,hk]
   generalize l[j]=r
   unfold vQ
   by_cases h3:(40:Int)<(r.2.2.length:Int)
   ·have:¬r.2.2.length<=40:=by omega
    simp[h3,this]
   ·have h4:r.2.2.length<=40:=by omega
    by_cases h5:(100:Int)<(r.1.length:Int)
    ·have:¬r.1.length<=100:=by omega
     simp[h3,h5,this]
    ·have:r.1.length<=100:=by omega
     simp[h3,h4,h5,this]
  ·have hc:¬(j:Int)<(l.length:Int):=by omega
   simp[hc,List.drop_eq_nil_of_le hi]
def q8(p:Prd):Bool:=decide (p.2.2.1.length<=20)&&(decide (p.2.2.2.2.2.length<=20)&&decide (p.2.1.length<=100))
def few(g:Grm):Bool:=ug g.1&&(decide (g.2.1.length<=20)&&(decide (g.2.2.1.length<=40)&&(decide (g.2.2.2.1.length<=20)&&(g.2.1.all (λs=>decide (s.length<=100))&&(g.2.2.1.all q8&&g.2.2.2.1.all (λl=>decide (l.2.length<=20)))))))
theorem Nt{a:Nat}{b:Nat}:(((b:Int)<(a:Int))↔¬a<=b):=by omega
theorem KY(g:Grm)(hg:GOk g):p8 N0 (g,())=some ((few g,()),()):=by
 unfold p8 few
 simp only[aY,Io g.1 hg.rs,aX,BU,decide_eq_true_eq]
 have e20:∀ a:Nat,((20:Int)<(a:Int))↔¬a<=20:=λa=>by omega
 have e40:∀ a:Nat,((40:Int)<(a:Int))↔¬a<=40:=λa=>by omega
 have Nu:∀ a:Nat,((100:Int)<(a:Int))↔¬a<=100:=λa=>by omega
 simp only[e20,e40,Nu]
 cases h1:ug g.1
 ·simp
 by_cases h2:g.2.1.length<=20
 case neg=>simp[h2]
 by_cases h3:g.2.2.1.length<=40
 case neg=>simp[h2,h3]
 by_cases h4:g.2.2.2.1.length<=20
 case neg=>simp[h2,h3,h4]
 simp only[h2,h3,h4,Bool.not_true,not_true,Bool.false_eq_true,if_false,decide_false,decide_true,Bool.true_and]
 refine(dg (after:=?a1) g.2.1 (λs=>decide (s.length<=100)) (some ((false,()),())) (λj=>((),(j:Int),())) ?s1 ?f1 N0 ?n1).trans ?_
 case f1=>intro k;simp only[Int.lt_irrefl,if_false];exact rfl
 case n1=>have:=gO hg.so;omega
 case s1=>
  intro j hj k
  have hc:(j:Int)<(g.2.1.length:Int):=by omega
  simp only[hc,if_true,Int.toNat_natCast,Int.natCast_nonneg,List.getElem?_eq_getElem hj,aE hj hg.so,e20,decide_eq_true_eq]
  split <;> simp_all
 split
 case isFalse h=>simp[h]
 case isTrue h5=>
 simp only[h5,Bool.true_and]
 refine(dg (after:=?a2) g.2.2.1 q8 (some ((false,()),())) (λj=>((),(j:Int),())) ?s2 ?f2 N0 ?n2).trans ?_
 case f2=>intro k;simp only[Int.lt_irrefl,if_false];exact rfl
 case n2=>have:=gO hg.ps;omega
 case s2=>
  intro j hj k
  have hc:(j:Int)<(g.2.2.1.length:Int):=by omega
  simp only[hc,if_true,Int.toNat_natCast,Int.natCast_nonneg,List.getElem?_eq_getElem hj,aE hj hg.ps,e20,q8]
  generalize g.2.2.1[j]=p
  by_cases a1:p.2.2.1.length<=20 <;> by_cases a2:p.2.2.2.2.2.length<=20 <;> by_cases a3:p.2.1.length<=100 <;> simp[a1,a2,a3]
 split
 case isFalse h=>simp[h]
 case isTrue h6=>
 simp only[h6,Bool.true_and]
 refine(dg (after:=some ((true,()),())) g.2.2.2.1 (λl=>decide (l.2.length<=20)) (some ((false,()),())) (λj=>((),(j:Int),())) ?s3 ?f3 N0 ?n3).trans ?_
 case f3=>intro k;simp only[Int.lt_irrefl,if_false]
 case n3=>have:=gO hg.ls;omega
 case s3=>
  intro j hj k
  have hc:(j:Int)<(g.2.2.2.1.length:Int):=by omega
  simp only[hc,if_true,Int.toNat_natCast,Int.natCast_nonneg,List.getElem?_eq_getElem hj,aE hj hg.ls,e20,decide_eq_true_eq]
  split <;> simp_all
 split
 case isFalse h=>simp[h]
 case isTrue h7=>simp[h7]
theorem Nv{g:Grm}(h:WfT y26 g):GOk g:=by
 obtain⟨⟨h1,_⟩,⟨h2,_⟩,⟨h3,h3'⟩,⟨h4,h4'⟩,h5⟩:=h
 exact⟨h4,λl hl=>(h4' l hl).2.1,h3,λp hp=>(h3' p hp).2.2.1.1,h1,h2⟩
end
end Go.Proofs.YthalkfdkbalpmaaGreat.Rf.Rk
namespace Go.Proofs.YthalkfdkbalpmaaGreat.Rf
open Go
noncomputable section
def exA:GrI:=([([65],((0:Int),[97]))],([[83]],([((0:Int),([80],([(false,0)],(false,(-1,[])))))],([],(0:Int)))))
theorem KZ:p13 N0 (exA,())=some ((0,(0,(0,()))),()):=by kernel_rfl
theorem CK:lS exA:=by
 have hb:∀ l:List Int,(l.all λc=>decide (0<=c/\c<=255))=true->Bytes l:=λl h c hc=>by
  have:=List.all_eq_true.1 h c hc
  simpa using this
 refine⟨by decide,λr hr=>?_,by decide,λs hs=>?_,by decide,λp hp=>?_,λp hp=>?_,λp hp=>?_,by decide,λl hl=>?_⟩
 ·simp[exA]at hr
  subst hr
  exact⟨hb _ (by decide),by decide,hb _ (by decide),by decide⟩
 ·simp[exA]at hs
  subst hs
  exact⟨hb _ (by decide),by decide⟩
 ·simp[exA]at hp
  subst hp
  exact⟨hb _ (by decide),by decide⟩
 ·simp[exA]at hp;subst hp;decide
 ·simp[exA]at hp;subst hp;decide
 ·simp[exA]at hl
theorem K1:∃ a b,p31 N0 (exA,())=some (((0,(a,b)),()),()):=by
 have h:=Im CK (λr hr=>by simp[exA]at hr;subst hr;decide)
 have h2:=CI CK
 rw[KZ]at h2
 have h3:=(Prod.mk.inj (Prod.mk.inj (Option.some.inj h2)).1).1
 refine⟨(ff exA).2.1,(ff exA).2.2,h.trans ?_⟩
 rw[show ff exA=((ff exA).1,((ff exA).2.1,(ff exA).2.2))from rfl,<-h3]
set_option maxRecDepth 100000 in
theorem K2:(p18 N0 (exA,())).map (λr=>(r.1.2.1,r.1.1.1.length))=some (0,3):=by
 obtain⟨a,b,h⟩:=K1
 unfold p18
 simp only
 rw[aa h]
 kernel_rfl
theorem CL:p16 N0 ()=some ((true,()),()):=by
 obtain⟨r,h1,h2⟩:=Option.map_eq_some_iff.1 K2
 obtain⟨⟨s,e,u⟩,v⟩:=r
 unfold p16
 show af (p18 N0 (exA,())) _=_
 rw[aa h1]
 simp only[Prod.mk.injEq]at h2
 obtain⟨rfl,h3⟩:=h2
 have h19:p19 N0 (s,())=some ((((s.1.length:Nat):Int),()),()):=rfl
 simp only
 refine av ((),(true,())) (λK=>?_) rfl
 simp only[decide_true,cond_true]
 rw[aa h19]
 simp only
 rw[h3]
 rfl
end
noncomputable section
theorem FB{rs:List RuI}{i:Nat}{r:RuI}(hr:rs[i]?=some r)(hok:vM r){m:KM}(hm:kf rs i m):∃ e,p88 N0 (r,(m,()))=some ((e,()),())/\(e=jr rs i r\/e=6):=by
 obtain⟨h1,h2,h3,h4⟩:=hok
 by_cases tu:∃ t d,cG r.2.2=.ok t/\qC N0 (r.2.2,())=some ((d,((6:Int),())),())/\dK r.1=true/\¬tY rs i r.1/\¬(r.2.1<0\/2<r.2.1)
 ·obtain⟨t,d,q1,q2,q3,q4,q5⟩:=tu
  refine⟨6,?_,.inr rfl⟩
  unfold p88
  simp only
  rw[aa (om h1 h2)]
  simp only
  rw[q3,Bool.not_true,cond_false]
  show(bif decide ((0:Int)<bx eqK r.1 m)then _ else _)=_
  rw[decide_eq_false (λh=>q4 ((hm r.1).1.1 h)),cond_false]
  refine av ((),(false,())) (λK=>?_) ?_
  ·rw[decide_eq_false (λh=>q5 (.inl h)),cond_false,decide_eq_false (λh=>q5 (.inr h))]
  ·simp only
   rw[cond_false,aa q2]
   rfl
 refine⟨_,?_,.inl rfl⟩
 unfold p88
 simp only
 rw[aa (om h1 h2)]
 simp only
 unfold jr
 cases hn:dK r.1
 ·rw[Bool.not_false,cond_true,if_pos rfl]
 rw[Bool.not_true,cond_false,if_neg (by simp)]
 show(bif decide ((0:Int)<bx eqK r.1 m)then _ else _)=_
 by_cases hd:tY rs i r.1
 ·rw[decide_eq_true ((hm r.1).1.2 hd),cond_true,if_pos hd]
 rw[decide_eq_false (λh=>hd ((hm r.1).1.1 h)),cond_false,if_neg hd]
 refine av ((),(decide (r.2.1<0\/2<r.2.1),())) (λK=>?_) ?_
 ·by_cases q1:r.2.1<0
  ·rw[decide_eq_true q1,cond_true,decide_eq_true (.inl q1)]
  ·rw[decide_eq_false q1,cond_false]
   have:decide (r.2.1<0\/2<r.2.1)=decide (2<r.2.1):=by rw[decide_eq_decide];exact⟨λh=>h.resolve_left q1,.inr⟩
   rw[this]
 ·simp only
  by_cases hk2:r.2.1<0\/2<r.2.1
  ·rw[if_pos hk2,decide_eq_true hk2,cond_true]
  ·rw[if_neg hk2,decide_eq_false hk2,cond_false]
   unfold tX
   cases hp:cG r.2.2 with
   |error e=>
    rw[aa (tW h3 h4 hp)]
    rcases ix hp with rfl|rfl <;> rfl
   |ok t=>
    obtain⟨d,hd2,hd3⟩:∃ d:DfI,qC N0 (r.2.2,())=some ((d,((0:Int),())),())/\d.2.2[0]?=some (if t.null=true then 0 else -1):=by
     obtain⟨g1,g2,_⟩:=jN h3 hp
     rcases CJ g1 g2 with⟨d,e1,e2⟩|⟨d,e1⟩
     ·exact⟨d,qW h3 h4 hp (qX g2 e1),e2⟩
     ·exact absurd ⟨t,d,hp,qW h3 h4 hp (qX g2 e1),by assumption,hd,hk2⟩ tu
    rw[aa hd2]
    simp only
    rw[decide_true,Bool.not_true,cond_false,aa (tV hd3)]
    simp only
    cases t.null <;> rfl
def P58(rs:List RuI)(z:Option ((Int×(Int×Unit))×Unit)):Prop:=z=some ((((dz rs).1:Int),((dz rs).2,())),())\/∃ i:Int,z=some ((i,((6:Int),())),())
theorem FC{rs:List RuI}(hs:rs.length<=maxLen)(hok:∀ r∈rs,vM r):P58 rs (p58 N0 (rs,())):=by
 by_cases h60:60<rs.length
 ·left
  unfold p58 dz
  simp only
  rw[if_pos h60,decide_eq_true (show(60:Int)<((rs.length:Nat):Int) by omega),cond_true]
 have h11:dz rs=chk rs 0 rs:=by unfold dz;rw[if_neg h60]
 unfold P58
 rw[h11]
 unfold p58
 simp only
 rw[decide_eq_false (show ¬(60:Int)<((rs.length:Nat):Int) by omega),cond_false]
 refine bL (λm x=>∃ (j:Nat) (mp:KM),x=((mp,()),((j:Int),()))/\m+j=rs.length/\kf rs j mp/\chk rs j (rs.drop j)=chk rs 0 rs) (λz=>z=some ((((chk rs 0 rs).1:Int),((chk rs 0 rs).2,())),())\/∃ i:Int,z=some ((i,((6:Int),())),())) ?_ N0 rs.length _ (by have:=gO hs;omega) ⟨0,[],rfl,rfl,λk=>⟨⟨λh=>absurd h (by simp[bx]),λ⟨j,_,h,_⟩=>by omega⟩,by simp[bx],by simp[bx]⟩,by rw[List.drop_zero]⟩
 rintro m x ⟨j,mp,rfl,hm,hsn,hch⟩ k hk
 simp only
 rcases Nat.lt_or_ge j rs.length with hj|hj
 ·have hg:rs[j]?=some rs[j]:=List.getElem?_eq_getElem hj
  have fi:=hok _ (List.getElem_mem hj)
  rw[List.drop_eq_getElem_cons hj]at hch
  generalize rs[j]=r at hg fi hch
  have n0:(0:Int)<=(j:Int):=by omega
  rw[decide_eq_true (show(j:Int)<((rs.length:Nat):Int) by omega),cond_true,if_pos n0,Int.toNat_natCast,hg]
  simp only
  obtain⟨e,h88,hq⟩:=FB hg fi hsn
  rw[aa h88]
  simp only
  by_cases h6:e=6
  ·subst h6
   exact .inr ⟨_,rfl⟩
  rw[hq.resolve_right h6]
  simp only[chk]at hch
  by_cases he:jr rs j r=0
  ·rw[if_pos he]at hch
   rw[decide_eq_true he,Bool.not_true,cond_false,aE hj hs]
   show(k (((dm eqK r.1 (IntKind.wrap .i64 (bx eqK r.1 mp+1)) mp),()),(((j+1:Nat):Int),()))=_)\/∃ i:Int,k (((dm eqK r.1 (IntKind.wrap .i64 (bx eqK r.1 mp+1)) mp),()),(((j+1:Nat):Int),()))=_
   have e1:IntKind.wrap .i64 (bx eqK r.1 mp+1)=bx eqK r.1 mp+1:=by
    obtain⟨_,q1,q2⟩:=hsn r.1
    obtain⟨u,hu⟩:∃ u:Nat,bx eqK r.1 mp=(u:Int):=⟨_,(Int.toNat_of_nonneg q1).symm⟩
    rw[hu]at q2 |-
    rw[bf (by omega)]
    rfl
   have:=hk (m-1) (((dm eqK r.1 (bx eqK r.1 mp+1) mp),()),(((j+1:Nat):Int),())) (by omega) ⟨j+1,_,rfl,by omega,hsn.next hg,hch⟩
   rw[e1]
   exact this
  ·rw[if_neg he]at hch
   rw[decide_eq_false he,Bool.not_false,cond_true,<-hch]
   exact .inl rfl
 ·have:j=rs.length:=by omega
  subst this
  rw[decide_eq_false (show ¬((rs.length:Nat):Int)<((rs.length:Nat):Int) by omega),cond_false]
  rw[List.drop_length]at hch
  rw[<-hch]
  exact .inl rfl
theorem Ip{g:GrI}(ok:lS g)(h58:p58 N0 (g.1,())=some ((((dz g.1).1:Int),((dz g.1).2,())),())):p31 N0 (g,())=some ((ff g,()),()):=by
 unfold p31 ff
 simp only
 rw[aa h58]
 simp only
 by_cases e1:(dz g.1).2=0
 case neg=>rw[decide_eq_false e1,Bool.not_false,cond_true,if_pos e1]
 rw[decide_eq_true e1,Bool.not_true,cond_false,if_neg (show ¬¬(dz g.1).2=0 from λh=>h e1),aa (CF ok)]
 simp only
 unfold uf
 by_cases e2:300<g.2.1.length
 ·rw[if_pos e2,if_pos e2];rfl
 rw[if_neg e2,if_neg e2]
 cases e3:bh (ft g) 0 g.2.1 with
 |some p=>
  simp only
  rw[decide_eq_false (jQ e3),Bool.not_false,cond_true]
 |none=>
 simp only
 rw[decide_true,Bool.not_true,cond_false]
 unfold ue
 by_cases e4:200<g.2.2.1.length
 ·rw[decide_eq_true (show(200:Int)<((g.2.2.1.length:Nat):Int) by omega),cond_true,if_pos e4]
 rw[decide_eq_false (show ¬(200:Int)<((g.2.2.1.length:Nat):Int) by omega),cond_false,if_neg e4]
 refine(kg g.2.2.1 (λj=>((((0:Int),((0:Int),(0:Int))),()),((j:Int),()))) (gu g) (λe j=>some (((e,(3,(j:Int))),()),())) (some ((ot g,()),())) (λj h k=>?_) (λk=>?_) N0 (eB ok.p0)).trans ?_
 ·simp only
  rw[decide_eq_true (show(j:Int)<((g.2.2.1.length:Nat):Int) by omega),cond_true,aa (CG ok (List.getElem?_eq_getElem h))]
  simp only
  by_cases e:gu g j g.2.2.1[j]=0
  ·rw[decide_eq_true e,Bool.not_true,cond_false,if_pos e,aE h (le_max ok.p0)]
  ·rw[decide_eq_false e,Bool.not_false,cond_true,if_neg e]
 ·simp only
  rw[decide_eq_false (by omega),cond_false,aa (CH ok)]
  simp only
  unfold ot
  cases e5:bh (kh g) 0 g.2.2.2.1 with
  |some p=>
   simp only
   rw[decide_eq_false (jQ e5),Bool.not_false,cond_true]
  |none=>
   simp only
   rw[decide_true,Bool.not_true,cond_false]
   refine av ((((0:Int),((0:Int),(0:Int))),()),(decide (g.2.2.2.2<0\/(g.2.1.length:Int)<=g.2.2.2.2),())) (λK=>?_) ?_
   ·by_cases q1:g.2.2.2.2<0
    ·rw[decide_eq_true q1,cond_true,decide_eq_true (.inl q1)]
    ·rw[decide_eq_false q1,cond_false]
     have:decide (g.2.2.2.2<0\/(g.2.1.length:Int)<=g.2.2.2.2)=decide ((g.2.1.length:Int)<=g.2.2.2.2):=by rw[decide_eq_decide];exact⟨λh=>h.resolve_left q1,.inr⟩
     rw[this]
   ·simp only
    unfold ud
    by_cases q:g.2.2.2.2<0\/(g.2.1.length:Int)<=g.2.2.2.2
    ·rw[decide_eq_true q,cond_true,if_pos q]
    ·rw[decide_eq_false q,cond_false,if_neg q]
 ·cases bh (gu g) 0 g.2.2.1 <;> rfl
theorem FD{g:GrI}(ok:lS g):∃ f:Int×(Int×Int),p31 N0 (g,())=some ((f,()),())/\(f=ff g\/f.1=6):=by
 rcases FC (le_max ok.r0) ok.r1 with h|⟨i,h⟩
 ·exact⟨_,Ip ok h,.inl rfl⟩
 ·refine⟨(6,?_),?_,.inr rfl⟩
  rotate_left
  ·unfold p31
   simp only
   rw[aa h]
   simp only
   rw[show decide ((6:Int)=0)=false from rfl,Bool.not_false,cond_true]
end
end Go.Proofs.YthalkfdkbalpmaaGreat.Rf
namespace Go.Proofs.YthalkfdkbalpmaaGreat.Rf.Rk
open Go Go.Proofs.YthalkfdkbalpmaaGreat.Rf
noncomputable section
theorem K3{g:Grm}(h:WfT y26 g):GOk g:=by
 obtain⟨⟨h1,h1'⟩,⟨h2,h2'⟩,⟨h3,h3'⟩,⟨h4,h4'⟩,h5⟩:=h
 exact⟨h4,λl hl=>(h4' l hl).2.1,h3,λp hp=>(h3' p hp).2.2.1.1,h1,h2⟩
theorem Nw{g:Grm}(h:WfT y26 g)(hf:few g=true):lS g:=by
 obtain⟨⟨h1,h1'⟩,⟨h2,h2'⟩,⟨h3,h3'⟩,⟨h4,h4'⟩,h5⟩:=h
 unfold few ug at hf
 simp only[Bool.and_eq_true,decide_eq_true_eq,List.all_eq_true]at hf
 obtain⟨⟨f1,f2⟩,f3,f4,f5,f6,f7,f8⟩:=hf
 have p7:∀ p∈g.2.2.1,p.2.2.1.length<=20/\p.2.2.2.2.2.length<=20/\p.2.1.length<=100:=λp hp=>by
  have:=f7 p hp
  unfold q8 at this
  simpa using this
 refine⟨by omega,λr hr=>?_,by omega,λs hs=>⟨(h2' s hs).2,(h2' s hs).1⟩,by omega,λp hp=>⟨(h3' p hp).2.1.2,(h3' p hp).2.1.1⟩,λp hp=>by have:=(p7 p hp).1;omega,λp hp=>by have:=(p7 p hp).2.1;omega,by omega,λl hl=>by have:=f8 l hl;omega⟩
 have:=h1' r hr
 exact⟨this.1.2,this.1.1,this.2.2.2,this.2.2.1⟩
theorem FE{g:Grm}{f:Int×(Int×Int)}(h:p31 N0 (g,())=some ((f,()),()))(hf:f.1≠0):p18 N0 (g,())=some (((([],[]),(f.1,())),())):=by
 unfold p18
 simp only
 rw[aa h]
 simp only
 rw[decide_eq_false hf,Bool.not_false,cond_true]
theorem FF{g:Grm}(h:WfT y26 g):p5 N0 (g,())=some ((true,()),()):=by
 have hgk:=K3 h
 unfold p5
 simp only
 rw[aa CL]
 simp only
 rw[Bool.not_true,cond_false,aa (KY g hgk)]
 simp only
 cases hf:few g
 ·rfl
 rw[Bool.not_true,cond_false]
 have ok:=Nw h hf
 rw[aa (CI ok)]
 simp only
 by_cases hw:(ff g).1=0
 ·rw[decide_eq_true hw,cond_true]
 rw[decide_eq_false hw,cond_false]
 obtain⟨f,h31,hfe⟩:=FD ok
 have hf0:f.1≠0:=by
  rcases hfe with rfl|h6
  ·exact hw
  ·omega
 rw[aa (FE h31 hf0)]
 simp only
 have h19:p19 N0 ((([]:List (List It)),([]:List (List ((Bool×Int)×Int)))),())=some ((0,()),()):=rfl
 have h22:p22 N0 ((([]:List (List It)),([]:List (List ((Bool×Int)×Int)))),(([]:List (Bool×Int)),()))=some ((-1,()),()):=rfl
 refine av ((),(true,())) (λK=>?_) rfl
 by_cases e:f.1=(ff g).1
 ·rw[decide_eq_true e,cond_true,aa h19]
  simp only
  rw[decide_true,cond_true,aa h22]
  simp only
  rw[decide_true]
 ·rw[decide_eq_false e,cond_false]
  have h6:f.1=6:=hfe.resolve_left (λq=>e (by rw[q]))
  rw[decide_eq_true h6,cond_true,aa h19]
  simp only
  rw[decide_true,cond_true,aa h22]
  simp only
  rw[decide_true]
end
end Go.Proofs.YthalkfdkbalpmaaGreat.Rf.Rk
namespace Go.Proofs.YthalkfdkbalpmaaGreat
open Go Go.ChangeShapes Go.WideShapes Go.ChangeAt Go.RowKit Go.Proofs.YthalkfdkbalpmaaGreat.Rf
noncomputable section
theorem lT:ownKnob Tryz.prog.godebug=none:=by kernel_rfl
theorem kY:laidOutB Tryz.prog=true:=by kernel_rfl
set_option maxRecDepth 100000 in
theorem jT(os:Os)(started:os.Started)(H:Type)(enc:TypeId×Value->H):
 ReturnsInHanded {} Tryz.checked os 5 .any (Rows.statesRefuseSpec.pre6 enc Tryz.prog Tryz.f5 Rows.statesRefuseRow.domain false) (Rows.statesRefuseSpec.post enc Tryz.prog Tryz.f5 false true false false):=by
 refine returnsInHanded_of_change (C:=Tryz.checked) lT started (by kernel_rfl) Tryz.func5
  (ChangeSpec.witness6 (enc:=enc) (C:=Tryz.checked) false ⟨#[],#[.agg #[.slice none 0 0,.slice none 0 0,.slice none 0 0,.slice none 0 0,.int .i64 0]],[]⟩ 8 (by kernel_rfl) (by kernel_rfl) (by kernel_rfl) (by kernel_rfl)) ?_
 intro W base args ds gs before K4 hW0 NL _
 have hW:DataW.Whole enc Tryz.prog Tryz.f5.params.toList Rows.statesRefuseSpec.vars false W args.toList ds gs before:=hW0
 have GB:∀ (j:Nat) t v,Tryz.f5.params.toList[j]?=some t->args[j]?=some v->Value.okWide Tryz.prog W .any base t v:=λj t v h1 h2=>K4 j t v (by simpa using h1) h2
 have hA:∃ p,DataW.TrodAll enc Tryz.prog W 0 (λ_=>true) true Tryz.f5.params.toList args.toList ds p:=by
  obtain⟨p,q,hA0,_⟩:=hW
  exact⟨p,hA0⟩
 obtain⟨p,hA⟩:=hA
 refine(yU Bp (ok5 N0) (λx hx=>by obtain⟨g,u⟩:=x;exact Rk.FF hx.1) (n:=12) (ts:=Tryz.f5.params.toList) (by rw[Tryz.params5];rfl) hA GB (λp hp=>by cases hp)).mono λe W' he=>?_
 obtain⟨he,hb⟩:=he
 exact⟨.bool true,he,Bn kY (s:=Rows.statesRefuseSpec) rfl ⟨4,by kernel_rfl,Tryz.underlying4⟩ (λds hd=>by rw[Tryz.params5]at hd;match ds,hd with|[_],_=>rfl) (by rw[Tryz.params5];kernel_rfl) hW hb⟩
theorem statesRefuse_holds:Rows.StatesRefuseSaid:=
 OpenClaim.holds_of_wide 5 Tryz.f5 rfl rfl rfl rfl rfl rfl rfl ⟨rfl,rfl,rfl,rfl,rfl⟩ rfl rfl rfl rfl rfl (by kernel_rfl) Tryz.func5 (by kernel_rfl)
  (of_decide_eq_true (by kernel_rfl)) (by unfold Func.isWrapper;first|(rw[if_pos (by decide +kernel)];kernel_rfl)|(rw[if_neg (by decide +kernel)];exact⟨rfl,rfl⟩))
  (λos started H enc _=>jT os started H enc)
end
end Go.Proofs.YthalkfdkbalpmaaGreat
